import Derived.Test.YtpjddmpioledoaaQ6
import Derived.Deep.LoopGhost
namespace Go.Proofs.Ytpjddmpioledoaa.Q
open Go.RowKit Go.Proofs.Ytpjddmpioledoaa.Lib
set_option linter.unusedVariables false

def SameP (l m : List Item) (w : World) (e : Ending) (w' : World) : Prop := e = .returned (.bool (decide (l = m))) ∧ Chg (fun _ => False) w w'

theorem item_ne {l m : List Item} {k : Nat} {x y : Item} (h : l.take k = m.take k) (hl : l.length = m.length) (hx : l[k]? = some x) (hy : m[k]? = some y) :
    (x = y → l.take (k + 1) = m.take (k + 1)) ∧ (x ≠ y → l ≠ m) := by
  refine ⟨fun e => ?_, fun hne e => ?_⟩
  · subst e; rw [List.take_add_one, List.take_add_one, h, hx, hy]
  · subst e; rw [hx] at hy; injection hy with hy; exact hne hy

set_option maxHeartbeats 1000000 in
theorem same_any (l m : List Item) (A A2 : Option Addr) (n n2 c c2 : Nat) (T T2 : Nat → Prop) (w : World) (h : Rd w T 2 A n (flat l)) (h2 : Rd w T2 2 A2 n2 (flat m)) (hn : n ≤ 1099511627776) (hn2 : n2 ≤ 1099511627776) :
    Calls Try.prog 18 #[.slice A n c, .slice A2 n2 c2] w (SameP l m w) := by
  have hl : l.length = n := by have := h.1; rw [flat_len] at this; omega
  have hm : m.length = n2 := by have := h2.1; rw [flat_len] at this; omega
  by_cases e : n = n2
  · subst e
    have HL := Go.Lib.hid hl
    have HM := Go.Lib.hid hm
    clear hl hm
    have hu26 := Try.underlying26
    go_enter Try.func18, Try.ntmps18
    go_wp2
    go_loopw [13] (fun i wr => ∃ (k : Nat), k ≤ n ∧ i = .int .i64 k ∧ l.take k = m.take k ∧ Chg (fun _ => False) w wr) (fun i _ => n - (intOf i).toNat)
    case atStart => exact ⟨0, by omega, rfl, rfl, Chg.refl _ _⟩
    case round =>
      obtain ⟨k, hk, rfl, hpre, hC⟩ := hrel
      have HP := Go.Lib.hid hpre
      clear hpre
      by_cases hlt : k < n
      · obtain ⟨x, hx⟩ : ∃ x, l[k]? = some x := ⟨_, List.getElem?_eq_getElem (by have := HL.out; omega)⟩
        obtain ⟨y, hy⟩ : ∃ y, m[k]? = some y := ⟨_, List.getElem?_eq_getElem (by have := HM.out; omega)⟩
        obtain ⟨ad, rfl, _, x0, x1⟩ := rd_item (h.new hC) hx
        obtain ⟨ad2, rfl, _, y0, y1⟩ := rd_item (h2.new hC) hy
        obtain ⟨i1, i2⟩ := item_ne HP.out (HL.out.trans HM.out.symm) hx hy
        have HX := Go.Lib.hid hx
        have I1 := Go.Lib.hid i1
        have I2 := Go.Lib.hid i2
        clear hx hy i1 i2
        obtain ⟨a, b⟩ := x
        obtain ⟨a', b'⟩ := y
        by_cases he : a = a' ∧ b = b'
        · obtain ⟨rfl, rfl⟩ := he
          go_wp2
          go_quiet (fail)
          go_wp2
          exact ⟨⟨k + 1, by omega, by go_num, I1.out (by simp), hC.drewN _⟩, by simp [intOf]; omega⟩
        · have hne := I2.out (fun e => he (by injection e with e1 e2; exact ⟨e1, e2⟩))
          have HNE := Go.Lib.hid hne
          by_cases ha : a = a'
          · subst ha
            have hb : (b == b') = false := beq_eq_false_iff_ne.2 fun hb => he ⟨rfl, hb⟩
            clear hne he
            go_wp2
            go_quiet (fail)
            go_wp2
            go_ret
            exact ⟨by rw [decide_eq_false HNE.out]; rfl, hC.drewN _⟩
          · have hb : (a == a') = false := beq_eq_false_iff_ne.2 ha
            clear hne he ha
            go_wp2
            go_quiet (fail)
            go_wp2
            go_ret
            exact ⟨by rw [decide_eq_false HNE.out]; rfl, hC.drewN _⟩
      · have hkn : k = n := by omega
        subst hkn
        have hlm : l = m := by have := HP.out; rwa [List.take_of_length_le (by have := HL.out; omega), List.take_of_length_le (by have := HM.out; omega)] at this
        have HLM := Go.Lib.hid hlm
        clear hlm
        go_wp2
        go_ret
        exact ⟨by rw [decide_eq_true HLM.out]; rfl, hC⟩
  · have e1 : ((n : Int) != (n2 : Int)) = true := by simp; omega
    have e2 : (n != n2) = true := by simp; omega
    have hne : l ≠ m := by intro h; subst h; exact e (hl.symm.trans hm)
    have HNE := Go.Lib.hid hne
    clear hne hl hm e
    go_enter Try.func18, Try.ntmps18
    go_wp2
    go_ret
    exact ⟨by rw [decide_eq_false HNE.out]; rfl, Chg.refl _ _⟩
end Go.Proofs.Ytpjddmpioledoaa.Q
