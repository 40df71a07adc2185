import Derived.Test.YtpjddmpioledoaaQ7
import Derived.Deep.RegionLaw
namespace Go.Proofs.Ytpjddmpioledoaa.Q
open Go.RowKit Go.Proofs.Ytpjddmpioledoaa.Lib
set_option linter.unusedVariables false

/-- The reference's queue at block x. -/
structure IsX (w : World) (S : Nat → Prop) (x : Nat) (W B : List Item) (p : Int) (vw vb : Value) : Prop where
  blk : w.heap[x]? = some (.cells #[vw, vb, .int .i64 p] 50 (0, 0))
  w_ : w.ownsRow 0 26 2 vw W.length (flat W)
  b_ : w.ownsRow 0 26 2 vb B.length (flat B)
  sq : S x
  sw : ∀ k, vw.ownBlock = some k → S k
  sb : ∀ k, vb.ownBlock = some k → S k
  lt : ∀ k, S k → k < w.heap.size

theorem IsX.move {w w' : World} {S : Nat → Prop} {x : Nat} {W B : List Item} {p : Int} {vw vb : Value} (h : IsX w S x W B p vw vb) (hs : w.heap.size ≤ w'.heap.size) (hm : ∀ k, S k → w'.heap[k]? = w.heap[k]?) : IsX w' S x W B p vw vb :=
  ⟨(hm x h.sq).trans h.blk, own_move h.w_ fun k hk => hm k (h.sw k hk), own_move h.b_ fun k hk => hm k (h.sb k hk), h.sq, h.sw, h.sb, fun k hk => Nat.lt_of_lt_of_le (h.lt k hk) hs⟩
theorem isx_chg {w w' : World} {S T : Nat → Prop} {x : Nat} {W B : List Item} {p : Int} {vw vb : Value} (h : IsX w S x W B p vw vb) (hc : Chg T w w') (hT : ∀ k, S k → ¬ T k) : IsX w' S x W B p vw vb :=
  h.move hc.size fun k hk => hc.block k (h.lt k hk) (hT k hk)
theorem isx_more {w : World} {S S' : Nat → Prop} {x : Nat} {W B : List Item} {p : Int} {vw vb : Value} (h : IsX w S x W B p vw vb) (hS : ∀ k, S k → S' k) (hl : ∀ k, S' k → k < w.heap.size) : IsX w S' x W B p vw vb :=
  ⟨h.blk, h.w_, h.b_, hS _ h.sq, fun k hk => hS _ (h.sw k hk), fun k hk => hS _ (h.sb k hk), hl⟩
theorem isx_of {w w' : World} {S : Nat → Prop} {x : Nat} {W B : List Item} {p : Int} {vw vb : Value} (hq : S x) (hc : Chg S w w')
    (blk : w'.heap[x]? = some (.cells #[vw, vb, .int .i64 p] 50 (0, 0))) (hw : w'.ownsRow 0 26 2 vw W.length (flat W)) (hb : w'.ownsRow 0 26 2 vb B.length (flat B))
    (sw : ∀ k, vw.ownBlock = some k → S k ∨ w.heap.size ≤ k) (sb : ∀ k, vb.ownBlock = some k → S k ∨ w.heap.size ≤ k) :
    IsX w' (Grow S w w') x W B p vw vb :=
  ⟨blk, hw, hb, ⟨.inl hq, heap_lt blk⟩, fun k hk => ⟨sw k hk, own_lt hw hk⟩, fun k hk => ⟨sb k hk, own_lt hb hk⟩, fun k hk => hk.2⟩

/-- Two appends onto nil: a new row. -/
theorem two_apps {w w1 w2 : World} {v1 v2 : Value} (h1 : Chg (fun k => (Value.slice none 0 0).ownBlock = some k) w w1) (h2 : Chg (fun k => v1.ownBlock = some k) w1 w2)
    (a1 : ∀ k, v1.ownBlock = some k → (Value.slice none 0 0).ownBlock = some k ∨ w.heap.size ≤ k) (a2 : ∀ k, v2.ownBlock = some k → v1.ownBlock = some k ∨ w1.heap.size ≤ k) :
    Chg (fun _ => False) w w1 ∧ Chg (fun _ => False) w w2 ∧ (∀ k, v1.ownBlock = some k → w.heap.size ≤ k) ∧ (∀ k, v2.ownBlock = some k → w.heap.size ≤ k) := by
  have n1 : Chg (fun _ => False) w w1 := h1.mono fun k hk _ => by simp [Value.ownBlock] at hk
  have f1 : ∀ k, v1.ownBlock = some k → w.heap.size ≤ k := fun k hk => (a1 k hk).resolve_left (by simp [Value.ownBlock])
  refine ⟨n1, n1.trans h2 fun k hk hl => ?_, f1, fun k hk => ?_⟩
  · have := f1 k hk; omega
  · rcases a2 k hk with h | h
    · exact f1 k h
    · have := n1.size; omega

/-- What waits is a new row. -/
theorem xwait {w w2 : World} {S : Nat → Prop} {x n : Nat} {W B l : List Item} {p : Int} {vw vb v2 : Value} (h : IsX w S x W B p vw vb) (n2 : Chg (fun _ => False) w w2) (ho : w2.ownsRow 0 26 2 v2 n (flat l)) (hf : ∀ k, v2.ownBlock = some k → w.heap.size ≤ k) :
    IsX (w2.setCell ⟨x, 0, none⟩ v2) (Grow S w (w2.setCell ⟨x, 0, none⟩ v2)) x l B p v2 vb ∧ Chg S w (w2.setCell ⟨x, 0, none⟩ v2) := by
  obtain rfl := flat_n ho
  have hc : Chg S w (w2.setCell ⟨x, 0, none⟩ v2) := (n2.mono fun _ f _ => f.elim).setCell (fun _ => h.sq) _
  have b2 := n2.heap h.blk (fun f => f)
  exact ⟨isx_of h.sq hc (blk_set b2 0 _) (own_far ho (own_ne_blk ho b2 (by omega)) _) (own_far (own_chg h.b_ n2 fun _ _ f => f) (own_ne_blk h.b_ h.blk (by omega)) _) (fun k hk => .inr (hf k hk)) (fun k hk => .inl (h.sb k hk)), hc⟩

set_option maxHeartbeats 400000 in
theorem xpush_any {w : World} {S : Nat → Prop} {x : Nat} {W B : List Item} {p : Int} {vw vb : Value} (h : IsX w S x W B p vw vb)
    (T : Nat → Prop) (A : Option Addr) (n c : Nat) (l : List Item) (hr : Rd w T 2 A n (flat l)) (hl : W.length + n ≤ 1099511627776) :
    Calls Try.prog 19 #[.pointer (some ⟨x, 0, none⟩), .slice A n c] w fun e w' => ∃ vw', e = .returned (.int .i64 ((W ++ l).length : Nat)) ∧ IsX w' (Grow S w w') x (W ++ l) B p vw' vb ∧ Chg S w w' := by
  obtain ⟨A', c', rfl, hc, hrw⟩ := own_rd h.w_
  have hn : l.length = n := by have := hr.1; rw [flat_len] at this; omega
  have h1 := blk_cell h.blk 0
  have H := Go.Lib.hid h
  have HN := Go.Lib.hid hn
  clear h hn
  go_enter Try.func19, Try.ntmps19
  go_wp2_with (at_builtin; refine wpList_app _ rfl (.tmp 6) (.tmp 10) 29 rfl 0 26 2 16 _ Try.underlying29 info26 rfl (by omega) (.slice none 0 0) 0 [] rfl (own_nil _ _ _ _) _ A' W.length c' (flat W) rfl hrw (flat_one W) ?c3 ?c4 ?c5 ?_)
  case c3 => simp only [maxLen]; omega
  case c4 => omega
  case c5 => simp
  intro v1 w1 ho1 hg1 ha1
  have hr1 := hr.chg hg1 (fun k _ e => by simp [Value.ownBlock] at e)
  have HG1 := Go.Lib.hid hg1
  have HA1 := Go.Lib.hid ha1
  clear h1 hg1 ha1 hr hrw
  go_wp2_with (at_builtin; refine wpList_app _ rfl (.tmp 11) (.tmp 12) 29 rfl 0 26 2 16 _ Try.underlying29 info26 rfl (by omega) v1 _ _ rfl ho1 _ A n c (flat l) rfl hr1 (flat_one l) ?c6 ?c7 ?c8 ?_)
  case c6 => simp only [maxLen]; omega
  case c7 => omega
  case c8 => simp
  intro v2 w2 ho2 hg2 ha2
  obtain ⟨n1, n2, f1, f2⟩ := two_apps HG1.out hg2 HA1.out ha2
  have b2 := n2.heap H.out.blk (fun f => f)
  have HN2 := Go.Lib.hid n2
  have HF2 := Go.Lib.hid f2
  obtain ⟨A2, c2, rfl, hc2, _⟩ := own_rd ho2
  have HO2 := Go.Lib.hid ho2
  have HB2 := Go.Lib.hid b2
  have x1 := blk_cell b2 0
  have x2 := blk_free b2 0
  clear hg2 ha2 n1 n2 f1 f2 b2 ho2 ho1 hr1
  go_wp2
  go_ret
  obtain ⟨q3, c3⟩ := xwait H.out HN2.out (l := W ++ l) (by rw [flat_app]; exact HO2.out) HF2.out
  exact ⟨_, by rw [List.length_append, HN.out]; simp, q3, c3⟩

theorem xoldest_end {w w2 : World} {S : Nat → Prop} {x : Nat} {W B : List Item} {p : Int} {vw vb : Value} (h : IsX w S x W B p vw vb) (n2 : Chg (fun _ => False) w w2) : Chg (fun _ => False) w w2 := n2

theorem xsettle_no {w : World} {S : Nat → Prop} {x : Nat} {W : List Item} {p : Int} {vw vb : Value} (h : IsX w S x W [] p vw vb) (back : Bool) :
    Calls Try.prog 21 #[.pointer (some ⟨x, 0, none⟩), .bool back] w fun e w' => e = .returned (.tuple #[.int .i64 0, .bool false]) ∧ w = w' := by
  obtain ⟨A, c, rfl, hc, _⟩ := own_rd h.b_
  have h1 := blk_cell h.blk 1
  clear h
  go_enter Try.func21, Try.ntmps21
  go_wp2
  go_ret2
  exact ⟨rfl, rfl⟩

/-- The bundle is gone, the count goes up. -/
theorem xack_end {w : World} {S : Nat → Prop} {x : Nat} {W B : List Item} {p : Int} {vw vb : Value} (h : IsX w S x W B p vw vb) (p' : Int) :
    IsX ((w.setCell ⟨x, 2, none⟩ (.int .i64 p')).setCell ⟨x, 1, none⟩ (.slice none 0 0)) (Grow S w ((w.setCell ⟨x, 2, none⟩ (.int .i64 p')).setCell ⟨x, 1, none⟩ (.slice none 0 0))) x W [] p' vw (.slice none 0 0) ∧
    Chg S w ((w.setCell ⟨x, 2, none⟩ (.int .i64 p')).setCell ⟨x, 1, none⟩ (.slice none 0 0)) := by
  have hc : Chg S w ((w.setCell ⟨x, 2, none⟩ (.int .i64 p')).setCell ⟨x, 1, none⟩ (.slice none 0 0)) := ((Chg.refl S w).setCell (fun _ => h.sq) _).setCell (fun _ => h.sq) _
  have e := own_ne_blk h.w_ h.blk (by omega)
  exact ⟨isx_of h.sq hc (blk_set (blk_set h.blk 2 _) 1 _) (own_far (own_far h.w_ e _) e _) (own_nil _ _ _ _) (fun k hk => .inl (h.sw k hk)) (by simp [Value.ownBlock]), hc⟩

set_option maxHeartbeats 400000 in
theorem xack_yes {w : World} {S : Nat → Prop} {x : Nat} {W B : List Item} {p : Int} {vw vb : Value} (h : IsX w S x W B p vw vb) (hB : B ≠ []) (hp0 : 0 ≤ p) (hp1 : p ≤ 1099511627776) (hb : B.length ≤ 1099511627776) :
    Calls Try.prog 21 #[.pointer (some ⟨x, 0, none⟩), .bool false] w fun e w' => ∃ vw' vb', e = .returned (.tuple #[.int .i64 B.length, .bool true]) ∧ IsX w' (Grow S w w') x W [] (p + B.length) vw' vb' ∧ Chg S w w' := by
  obtain ⟨A, c, rfl, hc, _⟩ := own_rd h.b_
  have h1 := blk_cell h.blk 1
  have h2 := blk_cell h.blk 2
  have h3 := blk_free h.blk 1
  have h4 := blk_free h.blk 2
  have hl : ((B.length : Int) == 0) = false := beq_eq_false_iff_ne.2 (by have := List.length_pos_iff.2 hB; omega)
  have H := Go.Lib.hid h
  clear h hB
  go_enter Try.func21, Try.ntmps21
  go_wp2
  go_ret2
  obtain ⟨q, c⟩ := xack_end H.out (p + B.length)
  exact ⟨_, _, rfl, q, c⟩

/-- What waits is a new row, the bundle is gone. -/
theorem xnack_end {w w2 : World} {S : Nat → Prop} {x n : Nat} {W B l : List Item} {p : Int} {vw vb v2 : Value} (h : IsX w S x W B p vw vb) (n2 : Chg (fun _ => False) w w2) (ho : w2.ownsRow 0 26 2 v2 n (flat l)) (hf : ∀ k, v2.ownBlock = some k → w.heap.size ≤ k) :
    IsX ((w2.setCell ⟨x, 0, none⟩ v2).setCell ⟨x, 1, none⟩ (.slice none 0 0)) (Grow S w ((w2.setCell ⟨x, 0, none⟩ v2).setCell ⟨x, 1, none⟩ (.slice none 0 0))) x l [] p v2 (.slice none 0 0) ∧
    Chg S w ((w2.setCell ⟨x, 0, none⟩ v2).setCell ⟨x, 1, none⟩ (.slice none 0 0)) := by
  obtain rfl := flat_n ho
  have hc : Chg S w ((w2.setCell ⟨x, 0, none⟩ v2).setCell ⟨x, 1, none⟩ (.slice none 0 0)) := (((n2.mono fun _ f _ => f.elim)).setCell (fun _ => h.sq) _).setCell (fun _ => h.sq) _
  have b2 := n2.heap h.blk (fun f => f)
  have e := own_ne_blk ho b2 (by omega)
  exact ⟨isx_of h.sq hc (blk_set (blk_set b2 0 _) 1 _) (own_far (own_far ho e _) e _) (own_nil _ _ _ _) (fun k hk => .inr (hf k hk)) (by simp [Value.ownBlock]), hc⟩

set_option maxHeartbeats 1000000 in
theorem xnack_yes {w : World} {S : Nat → Prop} {x : Nat} {W B : List Item} {p : Int} {vw vb : Value} (h : IsX w S x W B p vw vb) (hB : B ≠ []) (hb : B.length + W.length ≤ 1099511627776) :
    Calls Try.prog 21 #[.pointer (some ⟨x, 0, none⟩), .bool true] w fun e w' => ∃ vw' vb', e = .returned (.tuple #[.int .i64 B.length, .bool true]) ∧ IsX w' (Grow S w w') x (B ++ W) [] p vw' vb' ∧ Chg S w w' := by
  obtain ⟨A, c, rfl, hc, hrb⟩ := own_rd h.b_
  obtain ⟨A', c', rfl, hc', hrw⟩ := own_rd h.w_
  have h0 := blk_cell h.blk 0
  have h1 := blk_cell h.blk 1
  have h3 := blk_free h.blk 0
  have hx := heap_lt h.blk
  have hl : ((B.length : Int) == 0) = false := beq_eq_false_iff_ne.2 (by have := List.length_pos_iff.2 hB; omega)
  have H := Go.Lib.hid h
  clear h hB
  go_enter Try.func21, Try.ntmps21
  go_wp2_with fail
  go_region_law (first
      | (refine step_app _ rfl _ _ 29 rfl 0 26 2 16 _ Try.underlying29 info26 rfl (by omega) (.slice none 0 0) 0 [] rfl (own_nil _ _ _ _) _ A B.length c (flat B) rfl (hrb.new ((Chg.refl _ _).drew)) (flat_one B) (by simp only [maxLen]; omega) (by omega) (by simp) ?_; intro v1 w1 ho1 hg1 ha1; have k0 := hg1.cell (p := ⟨x, 0, none⟩) h0 (by simp [Value.ownBlock]))
      | (refine step_app _ rfl _ _ 29 rfl 0 26 2 16 _ Try.underlying29 info26 rfl (by omega) v1 _ _ rfl ho1 _ A' W.length c' (flat W) rfl ((hrw.new ((Chg.refl _ _).drew)).chg hg1 (fun k _ e => by simp [Value.ownBlock] at e)) (flat_one W) (by simp only [maxLen]; omega) (by omega) (by simp) ?_; intro v2 w2 ho2 hg2 ha2; obtain ⟨A2, c2, rfl, hcc2, _⟩ := own_rd ho2; have hne : ¬ v1.ownBlock = some x := (fun e => by rcases ha1 _ e with h | h; (simp [Value.ownBlock] at h); (simp at h; omega)); have k2 := hg2.cell (p := ⟨x, 0, none⟩) (hg1.cell (p := ⟨x, 0, none⟩) h0 (by simp [Value.ownBlock])) hne; have k3 := hg2.free (p := ⟨x, 0, none⟩) (hg1.free (p := ⟨x, 0, none⟩) h3 hx (by simp [Value.ownBlock])) (Nat.lt_of_lt_of_le hx hg1.size) hne))
  all_goals
    obtain ⟨n1, n2, f1, f2⟩ := two_apps hg1 hg2 ha1 ha2
    have n3 := ((Chg.refl (fun _ => False) w).drew).step n2
    have b2 := n3.heap H.out.blk (fun f => f)
    have HN2 := Go.Lib.hid n3
    have HF2 := Go.Lib.hid f2
    have HO2 := Go.Lib.hid ho2
    have x1 := blk_cell (blk_set b2 0 (Value.slice A2 (B.length + W.length) c2)) 1
    have x2 := blk_free (blk_set b2 0 (Value.slice A2 (B.length + W.length) c2)) 1
    clear hg2 ha2 n1 n2 f1 f2 b2 ho2 ho1 hg1 ha1 h0 h1 h3 n3 k2 k3 hne
    go_wp2
    go_ret2
    obtain ⟨q, c⟩ := xnack_end H.out HN2.out (l := B ++ W) (by rw [flat_app]; exact HO2.out) HF2.out
    exact ⟨_, _, rfl, by simpa using q, by simpa using c⟩
end Go.Proofs.Ytpjddmpioledoaa.Q
