import Derived.Test.YtpjddmpioledoaaQ3
import Derived.StillTailTactics
import Derived.Deep.QuietTactic
import Derived.BigQuiet
import Derived.Deep.RegionHeld3
namespace Go.Proofs.Ytpjddmpioledoaa.Q
open Go.RowKit Go.Proofs.Ytpjddmpioledoaa.Lib
set_option linter.unusedVariables false

theorem time_any (a b : Int) (w : World) : Calls Try.prog 8 #[.agg #[.int .i64 a, .int .i64 b]] w fun e w' => e = .returned (.int .i64 a) ∧ Chg (fun _ => False) w w' := by
  go_enter Try.func8, Try.ntmps8
  go_wp2
  go_ret
  exact ⟨rfl, (Chg.refl _ _).alloc _⟩

theorem rd_item {w : World} {T : Nat → Prop} {A : Option Addr} {n : Nat} {L : List Item} (h : Rd w T 2 A n (flat L)) {k : Nat} {x : Item} (hx : L[k]? = some x) :
    ∃ ad, A = some ad ∧ T ad.block ∧ w.cell? (ad.add (k * 2)) = some (.int .i64 x.1) ∧ w.cell? ⟨(ad.add (k * 2)).block, (ad.add (k * 2)).off + 1, none⟩ = some (.int .i64 x.2) := by
  have hk : k < L.length := (List.getElem?_eq_some_iff.1 hx).1
  have e : (flat L).drop (k * 2) = flat (L.drop k) := flat_drop L k
  have hd : L.drop k = x :: L.drop (k + 1) := by rw [List.drop_eq_getElem_cons hk]; congr; exact (List.getElem?_eq_some_iff.1 hx).2
  rw [hd] at e
  have f0 : (flat L)[k * 2]? = some (.int .i64 x.1) := by
    have := congrArg (fun l => l[0]?) e
    simpa [flat] using this
  have f1 : (flat L)[k * 2 + 1]? = some (.int .i64 x.2) := by
    have := congrArg (fun l => l[1]?) e
    simpa [flat] using this
  obtain ⟨ad, rfl, ht, c0⟩ := h.2 _ _ f0
  obtain ⟨ad', e', _, c1⟩ := h.2 _ _ f1
  injection e' with e'
  subst e'
  exact ⟨ad, rfl, ht, c0, by rw [← add_field _ _ 1 (by omega)]; exact c1⟩
/-- One item more for Oldest. -/
def oldStep (s : Int × Bool) (x : Item) : Int × Bool := if s.2 = false ∨ x.1 < s.1 then (x.1, true) else s
def oldF (W B : List Item) : Int × Bool := (B ++ W).foldl oldStep (0, false)

def oldPre (W B : List Item) (j : Nat) : List Item := if j = 0 then [] else if j = 1 then B else B ++ W
set_option maxHeartbeats 1000000 in
theorem oldest_any {w : World} {S : Nat → Prop} {q : Nat} {W B : List Item} {p : Int} {vw vb : Value} (h : IsQ w S q W B p vw vb) (hl : B.length + W.length ≤ 1099511627776) :
    Calls Try.prog 15 #[.pointer (some ⟨q, 0, none⟩)] w fun e w' => e = .returned (.tuple #[.int .i64 (oldF W B).1, .bool (oldF W B).2]) ∧ Chg (fun _ => False) w w' := by
  obtain ⟨A, c, rfl, hc, hr⟩ := own_rd h.w_
  obtain ⟨A2, c2, rfl, hc2, hr2⟩ := own_rd h.b_
  have h1 := blk_cell h.blk 1
  have h2 := blk_cell h.blk 2
  have HB := Go.Lib.hid h.blk
  clear h
  go_enter Try.func15, Try.ntmps15
  go_wp2
  go_quiet (fail)
  go_wp2_with fail
  have hc0 : Chg (fun _ => False) w (w.drewN nq) := (Chg.refl _ _).drewN _
  generalize w.drewN nq = w1 at hc0
  clear h1 h2
  go_loopw [4, 5, 20] (fun least ok i wr => ∃ (j : Nat), j ≤ 2 ∧ i = .int .i64 j ∧ least = .int .i64 ((oldPre W B j).foldl oldStep (0, false)).1 ∧ ok = .bool ((oldPre W B j).foldl oldStep (0, false)).2 ∧ Chg (fun _ => False) w wr) (fun _ _ i _ => 2 - (intOf i).toNat)
  case atStart => exact ⟨0, by omega, rfl, rfl, rfl, hc0⟩
  case round =>
    obtain ⟨j, hj, rfl, rfl, rfl, hC⟩ := hrel
    by_cases hlt : j < 2
    · obtain ⟨AL, cL, L, hidx, hLc, hLr, hnext⟩ : ∃ AL cL L, (∀ w, (Instr.index 59 (.agg #[Value.slice A2 B.length c2, Value.slice A W.length c]) (.int .i64 (j : Int))).run Try.prog w = .ok (.slice AL (L : List Item).length cL) w) ∧ L.length ≤ 1099511627776 ∧ Rd w (fun _ => True) 2 AL L.length (flat L) ∧ oldPre W B (j + 1) = oldPre W B j ++ L := by
        match j, hlt with
        | 0, _ => exact ⟨A2, c2, B, fun _ => by kernel_rfl, by omega, hr2.mono (fun _ _ _ => trivial), by simp [oldPre]⟩
        | 1, _ => exact ⟨A, c, W, fun _ => by kernel_rfl, by omega, hr.mono (fun _ _ _ => trivial), by simp [oldPre]⟩
      have HN := Go.Lib.hid hnext
      clear hnext
      have hjd : decide ((j : Int) < 2) = true := by simp; omega
      generalize hs : (oldPre W B j).foldl oldStep (0, false) = s at *
      have HS := Go.Lib.hid hs
      clear hs
      go_wp2_with fail
      obtain ⟨wo, rfl⟩ : ∃ wo : World, wo = wr := ⟨_, rfl⟩
      go_loopw [4, 5, 25] (fun least ok i wr => ∃ (k : Nat), k ≤ L.length ∧ i = .int .i64 k ∧ least = .int .i64 ((L.take k).foldl oldStep s).1 ∧ ok = .bool ((L.take k).foldl oldStep s).2 ∧ Chg (fun _ => False) w wr) (fun _ _ i _ => L.length - (intOf i).toNat)
      case atStart => exact ⟨0, by omega, rfl, rfl, rfl, hC⟩
      case round =>
        obtain ⟨k, hk, rfl, rfl, rfl, hD⟩ := hrel
        generalize hs2 : (L.take k).foldl oldStep s = s2 at *
        by_cases hkl : k < L.length
        · obtain ⟨x, hx⟩ : ∃ x, L[k]? = some x := ⟨_, List.getElem?_eq_getElem hkl⟩
          obtain ⟨ad, rfl, _, e0, e1⟩ := rd_item (hLr.new hD) hx
          have hq0 := blk_cell (blk_alloc (hD.heap HB.out (fun f => f)) (.cells #[.int .i64 x.1, .int .i64 x.2] 26)) 0
          have hxs : (L.take (k + 1)).foldl oldStep s = oldStep s2 x := by rw [List.take_add_one, hx, List.foldl_append, hs2]; rfl
          have HX := Go.Lib.hid hxs
          have HS2 := Go.Lib.hid hs2
          have HX2 := Go.Lib.hid hx
          clear hxs hs2 hx
          go_wp2_with fail
          have hE := hD.alloc (.cells #[.int .i64 x.1, .int .i64 x.2] 26)
          have x0 := blk_cell (blk_new wr 26 #[.int .i64 x.1, .int .i64 x.2]) 0
          have x1 := blk_cell (blk_new wr 26 #[.int .i64 x.1, .int .i64 x.2]) 1
          generalize wr.alloc (.cells #[.int .i64 x.1, .int .i64 x.2] 26) = wa at *
          go_region_held3 (fun w' => w'.cell? ⟨q, 0, none⟩ = some (.func (.func 8) #[] #[]) ∧ w'.cell? ⟨wr.heap.size, 0, none⟩ = some (.int .i64 x.1) ∧ w'.cell? ⟨wr.heap.size, 1, none⟩ = some (.int .i64 x.2) ∧ Chg (fun _ => False) w w')
            (first | exact ⟨hq0, x0, x1, hE.drew⟩ | (go_split_ands; exact ⟨hc3.cell ‹_› (fun f => f), hc3.cell ‹_› (fun f => f), hc3.cell ‹_› (fun f => f), Chg.step ‹_› hc3⟩))
            ((go_at_call 8; refine (time_any _ _ _).mono ?_; rintro e w3 ⟨rfl, hc3⟩))
          have hF : Chg (fun _ => False) w w3 := (by assumption : (w3.cell? ⟨q, 0, none⟩ = some (.func (.func 8) #[] #[]) ∧ w3.cell? ⟨wr.heap.size, 0, none⟩ = some (.int .i64 x.1) ∧ w3.cell? ⟨wr.heap.size, 1, none⟩ = some (.int .i64 x.2) ∧ Chg (fun _ => False) w w3)).2.2.2
          clear hE x0 x1 hq0 e0 e1
          obtain ⟨m, b⟩ := s2
          by_cases ht : b = false ∨ x.1 < m
          · have hst : oldStep (m, b) x = (x.1, true) := by simp only [oldStep, ht, if_true]
            have HST := Go.Lib.hid hst
            clear hst
            cases b with
            | false =>
              clear ht
              go_wp2
              refine ⟨?rel0, by simp [intOf]; omega⟩
              case rel0 =>
                have hrel : k + 1 ≤ L.length ∧ Value.int .i64 ((k : Int) + 1) = .int .i64 ((k + 1 : Nat) : Int) ∧ _ ∧ _ ∧ Chg (fun _ => False) w w3 := ⟨by omega, by go_num, congrArg (fun s => Value.int .i64 s.1) (HX.out.trans HST.out).symm, congrArg (fun s => Value.bool s.2) (HX.out.trans HST.out).symm, hF⟩
                first
                  | exact ⟨k + 1, hrel⟩
                  | ((repeat apply Exists.intro); exact ⟨⟨k + 1, hrel⟩, rfl⟩)
            | true =>
              have htd : decide (x.1 < m) = true := by simpa using ht
              clear ht
              go_wp2
              refine ⟨?rel0, by simp [intOf]; omega⟩
              case rel0 =>
                have hrel : k + 1 ≤ L.length ∧ Value.int .i64 ((k : Int) + 1) = .int .i64 ((k + 1 : Nat) : Int) ∧ _ ∧ _ ∧ Chg (fun _ => False) w w3 := ⟨by omega, by go_num, congrArg (fun s => Value.int .i64 s.1) (HX.out.trans HST.out).symm, congrArg (fun s => Value.bool s.2) (HX.out.trans HST.out).symm, hF⟩
                first
                  | exact ⟨k + 1, hrel⟩
                  | ((repeat apply Exists.intro); exact ⟨⟨k + 1, hrel⟩, rfl⟩)
          · have hst : oldStep (m, b) x = (m, b) := by simp only [oldStep, ht, if_false]
            have HST := Go.Lib.hid hst
            clear hst
            cases b with
            | false => exact absurd (.inl rfl) ht
            | true =>
              have htd : decide (x.1 < m) = false := by simpa using ht
              clear ht
              go_wp2
              refine ⟨?rel0, by simp [intOf]; omega⟩
              case rel0 =>
                have hrel : k + 1 ≤ L.length ∧ Value.int .i64 ((k : Int) + 1) = .int .i64 ((k + 1 : Nat) : Int) ∧ _ ∧ _ ∧ Chg (fun _ => False) w w3 := ⟨by omega, by go_num, congrArg (fun s => Value.int .i64 s.1) (HX.out.trans HST.out).symm, congrArg (fun s => Value.bool s.2) (HX.out.trans HST.out).symm, hF⟩
                first
                  | exact ⟨k + 1, hrel⟩
                  | ((repeat apply Exists.intro); exact ⟨⟨k + 1, hrel⟩, rfl⟩)
        · have hke : k = L.length := by omega
          subst hke
          rw [List.take_of_length_le (Nat.le_refl _)] at hs2
          have HS2 := Go.Lib.hid hs2
          clear hs2
          go_wp2
          exact ⟨⟨j + 1, by omega, by go_num, by rw [HN.out, List.foldl_append, HS.out, HS2.out], by rw [HN.out, List.foldl_append, HS.out, HS2.out], hD⟩, by simp [intOf]; omega⟩
    · have hj2 : j = 2 := by omega
      subst hj2
      go_wp2
      go_ret2
      exact ⟨rfl, hC⟩
end Go.Proofs.Ytpjddmpioledoaa.Q
