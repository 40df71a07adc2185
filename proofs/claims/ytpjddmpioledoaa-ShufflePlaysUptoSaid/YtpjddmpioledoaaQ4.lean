import Derived.Test.YtpjddmpioledoaaQ3
namespace Go.Proofs.Ytpjddmpioledoaa.Q
open Go.RowKit Go.Proofs.Ytpjddmpioledoaa.Lib
set_option linter.unusedVariables false

/-- One call of a script. -/
structure OpD where
  k : Int
  n : Int
  items : List Item
/-- A slice of calls is read. -/
def RdOps (w : World) (T : Nat → Prop) (A : Option Addr) (n : Nat) (ops : List OpD) : Prop :=
  ops.length = n ∧ ∀ (i : Nat) (o : OpD), ops[i]? = some o → ∃ ad A' c, A = some ad ∧ T ad.block ∧ w.cell? (ad.add (i * 3)) = some (.int .i64 o.k) ∧ w.cell? ⟨(ad.add (i * 3)).block, (ad.add (i * 3)).off + 1, none⟩ = some (.int .i64 o.n) ∧
    w.cell? ⟨(ad.add (i * 3)).block, (ad.add (i * 3)).off + 2, none⟩ = some (.slice A' o.items.length c) ∧ o.items.length ≤ c ∧ Rd w T 2 A' o.items.length (flat o.items)

/-- How many a call pushes. -/
def OpD.puts (o : OpD) : Nat := if o.k = 1 then o.items.length else 0
def total (ops : List OpD) : Nat := (ops.map OpD.puts).sum

theorem total_append (a b : List OpD) : total (a ++ b) = total a + total b := by simp [total]
theorem total_take (ops : List OpD) (k : Nat) : total (ops.take k) ≤ total ops := by
  have := total_append (ops.take k) (ops.drop k)
  rw [List.take_append_drop] at this
  omega
theorem total_succ (ops : List OpD) (k : Nat) (o : OpD) (h : ops[k]? = some o) : total (ops.take (k + 1)) = total (ops.take k) + o.puts := by
  rw [List.take_add_one, h, total_append]; simp [total]

theorem close {w w1 w' : World} {S : Nat → Prop} {q : Nat} {W B : List Item} {p : Int} {vw vb : Value} (hb : Below w.heap.size w w1) (hS : ∀ j, S j → w.heap.size ≤ j) (hq : IsQ w' (Grow S w1 w') q W B p vw vb) (hc : Chg S w1 w') :
    IsQ w' (fun j => w.heap.size ≤ j ∧ j < w'.heap.size) q W B p vw vb ∧ Below w.heap.size w w' :=
  ⟨isq_more hq (fun j hj => ⟨hj.1.elim (hS j) (fun h => Nat.le_trans hb.size h), hj.2⟩) (fun j hj => hj.2), hb.trans (hc.below hb.size hS)⟩
theorem takeF_cases (W B : List Item) (n : Int) : (∃ l W', takeF W B n = (l, 0, W', l) ∧ B = [] ∧ l ≠ [] ∧ l ++ W' = W) ∨ takeF W B n = ([], 171, W, B) ∨ takeF W B n = ([], 170, W, B) := by
  unfold takeF
  by_cases hB : B = []
  · by_cases h : n < 1 ∨ W = []
    · right; right; simp [hB, h]
    · left
      refine ⟨W.take n.toNat, W.drop n.toNat, by simp only [hB, h, if_false, ne_eq, not_true], hB, ?_, List.take_append_drop _ _⟩
      intro e
      rw [List.take_eq_nil_iff] at e
      rcases e with e | e
      · omega
      · exact h (.inr e)
  · right; left; simp [hB]

theorem all_long (A : Option Addr) (n c : Nat) (w : World) (hn : 500 < n) :
    Calls Try.prog 3 #[.slice A n c] w fun e w' => e = .returned (.bool true) ∧ Below w.heap.size w w' := by
  have h1 : decide ((n : Int) > 500) = true := by simp; omega
  go_enter Try.func3, Try.ntmps3
  go_wp2_with (first
    | (go_at_call 7; refine (new_any _).mono ?_; rintro e w1 ⟨rfl, hq, hc⟩)
    | (go_at_call 9; refine (awake_any _).mono ?_; rintro e w2 ⟨rfl, hb⟩))
  go_ret
  exact ⟨rfl, hc.new.trans (hb.mono hc.size)⟩

set_option maxRecDepth 100000 in
set_option maxHeartbeats 2000000 in
theorem all_any (ops : List OpD) (A : Option Addr) (n c : Nat) (w : World) (hr : RdOps w (· < w.heap.size) A n ops) (ht : total ops ≤ 1099511627776) (hn : n ≤ 500) :
    Calls Try.prog 3 #[.slice A n c] w fun e w' => e = .returned (.bool true) ∧ Below w.heap.size w w' := by
  have h1 : decide ((n : Int) > 500) = false := by simp; omega
  have hN := Go.Lib.hid hr.1
  go_enter Try.func3, Try.ntmps3
  go_wp2_with (first
    | (go_at_call 7; refine (new_any _).mono ?_; rintro e w1 ⟨rfl, hq, hc⟩)
    | (go_at_call 9; refine (awake_any _).mono ?_; rintro e w2 ⟨rfl, hb⟩))
  go_loopw [4, 5, 27] (fun pushed bundle i wr => ∃ (k : Nat) (W B : List Item) (p : Int) (vw vb : Value), k ≤ n ∧ i = .int .i64 k ∧ pushed = .int .i64 (total (ops.take k) : Nat) ∧ bundle = .int .i64 B.length ∧
      0 ≤ p ∧ p + B.length + W.length = (total (ops.take k) : Nat) ∧ IsQ wr (fun j => w.heap.size ≤ j ∧ j < wr.heap.size) w.heap.size W B p vw vb ∧ Below w.heap.size w wr) (fun _ _ i _ => n - (intOf i).toNat)
  case atStart =>
    exact ⟨0, [], [], 0, _, _, by omega, rfl, rfl, rfl, by omega, rfl, isq_more hq (fun j e => by subst e; exact ⟨Nat.le_refl _, hq.lt _ rfl⟩) (fun _ h => h.2), hc.new⟩
  case round =>
    obtain ⟨k, W, B, p, vw, vb, hk, rfl, rfl, rfl, hp, hsum, hQ, hB⟩ := hrel
    have hlen := hQ.w_.1
    have hHQ := Go.Lib.hid hQ
    have hts : total (ops.take k) ≤ total ops := total_take ops k
    have htl := Go.Lib.hid hsum
    have hb1 : (B.length : Int) ≤ 1099511627776 := by omega
    have hb2 : (W.length : Int) ≤ 1099511627776 := by omega
    have hb3 : p ≤ 1099511627776 := by omega
    have hB0 : (0 : Int) ≤ B.length := by omega
    have hW0 : (0 : Int) ≤ W.length := by omega
    clear hsum hQ hts hlen
    by_cases hlt : k < n
    · obtain ⟨o, ho⟩ : ∃ o, ops[k]? = some o := by
        rw [List.getElem?_eq_getElem (by have := hN.out; omega)]; exact ⟨_, rfl⟩
      obtain ⟨ad, A', c', rfl, hT, x0, x1, x2, hc', hrd⟩ := hr.2 k o ho
      have y0 := below_cell hB x0
      have y1 := below_cell hB x1
      have y2 := below_cell hB x2
      have HRD := Go.Lib.hid hrd
      have HT2 := Go.Lib.hid (total_succ ops k o ho)
      clear x0 x1 x2 hrd hr
      have HQ1 := Go.Lib.hid (isq_alloc hHQ.out (.cells #[.int .i64 o.k, .int .i64 o.n, .slice A' o.items.length c'] 31))
      have hB1 := hB.alloc hB.size (.cells #[.int .i64 o.k, .int .i64 o.n, .slice A' o.items.length c'] 31)
      have RD1 := Go.Lib.hid (HRD.out.move (w' := wr.alloc (.cells #[.int .i64 o.k, .int .i64 o.n, .slice A' o.items.length c'] 31)) fun k hk _ => hB1.block k hk)
      have hK := total_take ops (k + 1)
      rw [total_succ ops k o ho] at hK
      have hK' : ((total (ops.take k) : Nat) : Int) + (o.puts : Nat) ≤ 1099511627776 := by omega
      have hK0 : (0 : Int) ≤ ((total (ops.take k) : Nat) : Int) := by omega
      have hI0 : (0 : Int) ≤ ((o.items.length : Nat) : Int) := by omega
      clear hK
      by_cases k1 : o.k = 1
      · have e1 : (o.k == 1) = true := beq_iff_eq.2 k1
        have hp1 : o.puts = o.items.length := by simp [OpD.puts, k1]
        rw [hp1] at hK' HT2
        have hsz : W.length + o.items.length ≤ 1099511627776 := by have := htl.out; omega
        have d5 : (p + ↑B.length + (↑W.length + ↑o.items.length) != ↑(total (List.take k ops)) + ↑o.items.length) = false := by have := htl.out; simp; omega
        clear k1 hp1
        go_wp2_with (first
          | (go_at_call 10; refine (push_any HQ1.out _ A' _ c' o.items RD1.out hsz).mono ?_; rintro e w' ⟨vw', rfl, hq2, hc2⟩)
          | (go_at_call 13; refine (passed_any hq2).mono ?_; rintro e w' ⟨rfl, rfl⟩)
          | (go_at_call 14; refine (len_any hq2).mono ?_; rintro e w' ⟨rfl, rfl⟩))
        obtain ⟨hq3, hB3⟩ := close hB1 (fun j hj => hj.1) hq2 hc2
        refine ⟨⟨k + 1, W ++ o.items, B, p, vw', vb, hlt, by go_num, by rw [HT2.out]; go_num, rfl, hp, by rw [HT2.out, List.length_append]; have := htl.out; omega, hq3, hB3⟩, by simp [intOf]; omega⟩
      have hp1 : o.puts = 0 := by simp [OpD.puts, k1]
      rw [hp1] at hK' HT2
      have d1 : (o.k == 1) = false := beq_eq_false_iff_ne.2 k1
      by_cases k2 : o.k = 2
      · have e2 : (o.k == 2) = true := beq_iff_eq.2 k2
        have hW : W.length ≤ 1099511627776 := by omega
        have htk := take_any HQ1.out o.n hW
        clear k1 k2 hp1
        rcases takeF_cases W B o.n with ⟨l, W', ht2, rfl, hl, hlw⟩ | ht2 | ht2
        · rw [ht2] at htk
          have d5 : (p + (↑l.length : Int) + ↑W'.length != ↑(total (List.take k ops))) = false := by have h1 := htl.out; rw [← hlw, List.length_append] at h1; simp at h1 ⊢; omega
          have d6 : ((l.length : Int) == 0) = false := beq_eq_false_iff_ne.2 (by have := List.length_pos_iff.2 hl; omega)
          have hl1 : (0 : Int) ≤ (l.length : Int) := by omega
          have hl2 : (0 : Int) ≤ (W'.length : Int) := by omega
          have hl3 : (l.length : Int) + (W'.length : Int) ≤ 1099511627776 := by have := congrArg List.length hlw; rw [List.length_append] at this; omega
          have HL := Go.Lib.hid hlw
          have HTK := Go.Lib.hid htk
          clear hlw htk ht2
          go_wp2_with (first
            | (go_at_call 11; refine HTK.out.mono ?_; rintro e w' ⟨A2, c2, vw', vb', rfl, ho2, hq2, hc2, _⟩)
            | (go_at_call 13; refine (passed_any hq2).mono ?_; rintro e w' ⟨rfl, rfl⟩)
            | (go_at_call 14; refine (len_any hq2).mono ?_; rintro e w' ⟨rfl, rfl⟩))
          obtain ⟨hq3, hB3⟩ := close hB1 (fun j hj => hj.1) hq2 hc2
          refine ⟨⟨k + 1, W', l, p, vw', vb', hlt, by go_num, by rw [HT2.out]; rfl, rfl, hp, by have hh := congrArg List.length HL.out; rw [List.length_append] at hh; have := htl.out; simp at this; rw [HT2.out]; omega, hq3, hB3⟩, by simp [intOf]; omega⟩
        all_goals
          rw [ht2] at htk
          have d5 : (p + ↑B.length + ↑W.length != ↑(total (List.take k ops))) = false := by rw [htl.out]; simp
          have HTK := Go.Lib.hid htk
          clear htk ht2
          go_wp2_with (first
            | (go_at_call 11; refine HTK.out.mono ?_; rintro e w' ⟨A2, c2, vw', vb', rfl, ho2, hq2, hc2, _⟩)
            | (go_at_call 13; refine (passed_any hq2).mono ?_; rintro e w' ⟨rfl, rfl⟩)
            | (go_at_call 14; refine (len_any hq2).mono ?_; rintro e w' ⟨rfl, rfl⟩))
          obtain ⟨hq3, hB3⟩ := close hB1 (fun j hj => hj.1) hq2 hc2
          refine ⟨⟨k + 1, W, B, p, vw', vb', hlt, by go_num, by rw [HT2.out]; rfl, rfl, hp, by rw [HT2.out]; exact htl.out, hq3, hB3⟩, by simp [intOf]; omega⟩
      have d2 : (o.k == 2) = false := beq_eq_false_iff_ne.2 k2
      have hsz : B.length + W.length ≤ 1099511627776 := by have := htl.out; omega
      by_cases k34 : o.k = 3 ∨ o.k = 4
      · have hst := fun back => settle_any HQ1.out back hsz hp hb3
        have d3 : (o.k == 3) = true ∧ (o.k == 4) = false ∨ (o.k == 3) = false ∧ (o.k == 4) = true := by
          rcases k34 with e | e
          · exact .inl ⟨beq_iff_eq.2 e, beq_eq_false_iff_ne.2 (by omega)⟩
          · exact .inr ⟨beq_eq_false_iff_ne.2 (by omega), beq_iff_eq.2 e⟩
        clear k1 k2 k34 hp1
        by_cases hBn : B = []
        · subst hBn
          simp only [settleF, if_true] at hst
          have d5 : (p + ↑W.length != ↑(total (List.take k ops))) = false := by have := htl.out; simp at this ⊢; omega
          have HST := Go.Lib.hid hst
          clear hst
          rcases d3 with ⟨e3, e4⟩ | ⟨e3, e4⟩
          all_goals
            go_wp2_with (first
              | (go_at_call 12; refine (HST.out _).mono ?_; rintro e w' ⟨vw', vb', rfl, hq2, hc2⟩)
              | (go_at_call 13; refine (passed_any hq2).mono ?_; rintro e w' ⟨rfl, rfl⟩)
              | (go_at_call 14; refine (len_any hq2).mono ?_; rintro e w' ⟨rfl, rfl⟩))
            obtain ⟨hq3, hB3⟩ := close hB1 (fun j hj => hj.1) hq2 hc2
            refine ⟨⟨k + 1, W, [], p, vw', vb', hlt, by go_num, by rw [HT2.out]; rfl, rfl, hp, by rw [HT2.out]; exact htl.out, hq3, hB3⟩, by simp [intOf]; omega⟩
        · have d6 : decide (0 < B.length) = true := by have := List.length_pos_iff.2 hBn; simp; omega
          have d8 : 0 < B.length := List.length_pos_iff.2 hBn
          have hst3 := hst true
          have hst4 := hst false
          simp only [settleF, hBn, if_false, if_true, Bool.false_eq_true] at hst3 hst4
          have d5 : (p + ↑B.length + ↑W.length != ↑(total (List.take k ops))) = false := by rw [htl.out]; simp
          have d7 : (p + (↑B.length + ↑W.length) != ↑(total (List.take k ops))) = false := by have := htl.out; simp; omega
          have HS3 := Go.Lib.hid hst3
          have HS4 := Go.Lib.hid hst4
          clear hst hst3 hst4 hBn
          rcases d3 with ⟨e3, e4⟩ | ⟨e3, e4⟩
          · go_wp2_with (first
              | (go_at_call 12; refine HS4.out.mono ?_; rintro e w' ⟨vw', vb', rfl, hq2, hc2⟩)
              | (go_at_call 13; refine (passed_any hq2).mono ?_; rintro e w' ⟨rfl, rfl⟩)
              | (go_at_call 14; refine (len_any hq2).mono ?_; rintro e w' ⟨rfl, rfl⟩))
            obtain ⟨hq3, hB3⟩ := close hB1 (fun j hj => hj.1) hq2 hc2
            refine ⟨⟨k + 1, W, [], p + B.length, vw', vb', hlt, by go_num, by rw [HT2.out]; rfl, rfl, by omega, by rw [HT2.out]; have := htl.out; simp; omega, hq3, hB3⟩, by simp [intOf]; omega⟩
          · go_wp2_with (first
              | (go_at_call 12; refine HS3.out.mono ?_; rintro e w' ⟨vw', vb', rfl, hq2, hc2⟩)
              | (go_at_call 13; refine (passed_any hq2).mono ?_; rintro e w' ⟨rfl, rfl⟩)
              | (go_at_call 14; refine (len_any hq2).mono ?_; rintro e w' ⟨rfl, rfl⟩))
            obtain ⟨hq3, hB3⟩ := close hB1 (fun j hj => hj.1) hq2 hc2
            refine ⟨⟨k + 1, B ++ W, [], p, vw', vb', hlt, by go_num, by rw [HT2.out]; rfl, rfl, hp, by rw [HT2.out]; have := htl.out; simp; omega, hq3, hB3⟩, by simp [intOf]; omega⟩
      have d2 : (o.k == 2) = false := beq_eq_false_iff_ne.2 k2
      have d3 : (o.k == 3) = false := beq_eq_false_iff_ne.2 (by omega)
      have d4 : (o.k == 4) = false := beq_eq_false_iff_ne.2 (by omega)
      have d5 : (p + ↑B.length + ↑W.length != ↑(total (List.take k ops))) = false := by rw [htl.out]; simp
      clear k1 k2 k34 hp1
      go_wp2_with (first
        | (go_at_call 13; refine (passed_any HQ1.out).mono ?_; rintro e w' ⟨rfl, rfl⟩)
        | (go_at_call 14; refine (len_any HQ1.out).mono ?_; rintro e w' ⟨rfl, rfl⟩))
      refine ⟨⟨k + 1, W, B, p, vw, vb, hlt, by go_num, by rw [HT2.out]; rfl, rfl, hp, by rw [HT2.out]; exact htl.out, isq_more HQ1.out (fun j hj => ⟨hj.1, by simp; omega⟩) (fun j hj => hj.2), hB1⟩, by simp [intOf]; omega⟩
    · go_wp2_with (go_at_call 9; refine (awake_any _).mono ?_; rintro e w2 ⟨rfl, hb⟩)
      go_ret
      exact ⟨rfl, hB.trans (hb.mono hB.size)⟩
end Go.Proofs.Ytpjddmpioledoaa.Q
