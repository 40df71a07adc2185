import Derived.Test.YtpjddmpioledoaaR2
import Derived.Deep.DeepCutAuto
import Derived.Deep.CutBlock
namespace Go.Proofs.Ytpjddmpioledoaa.Q
open Go.RowKit Go.Proofs.Ytpjddmpioledoaa.Lib
set_option linter.unusedVariables false

theorem xtake_any {w : World} {S : Nat → Prop} {x : Nat} {W B : List Item} {p : Int} {vw vb : Value} (h : IsX w S x W B p vw vb) (n : Int) (hm : W.length ≤ 1099511627776) :
    Calls Try.prog 20 #[.pointer (some ⟨x, 0, none⟩), .int .i64 n] w (XTook w S x p (takeF W B n)) := by
  by_cases hB : B = []
  · subst hB
    by_cases hn : n < 1
    · refine (xtake_small h n hn).mono ?_
      rintro e w' ⟨rfl, rfl⟩
      simp only [takeF, hn, true_or, if_true, ne_eq, not_true, if_false]
      exact ⟨none, 0, vw, vb, rfl, Rd.nil_ _ _ _ _, isx_same h, Chg.refl _ _⟩
    · by_cases hW : W = []
      · subst hW
        refine (xtake_empty h n hn).mono ?_
        rintro e w' ⟨rfl, rfl⟩
        simp only [takeF, or_true, if_true, ne_eq, not_true, if_false]
        exact ⟨none, 0, vw, vb, rfl, Rd.nil_ _ _ _ _, isx_same h, Chg.refl _ _⟩
      · have e : takeF W [] n = (W.take n.toNat, 0, W.drop n.toNat, W.take n.toNat) := by simp only [takeF, hn, hW, or_self, if_false, ne_eq, not_true]
        rw [e]
        exact xtake_yes h n n.toNat (by omega) rfl hW hm
  · refine (xtake_batch h n hB).mono ?_
    rintro e w' ⟨rfl, rfl⟩
    simp only [takeF, hB, ne_eq, not_false_eq_true, if_true]
    exact ⟨none, 0, vw, vb, rfl, Rd.nil_ _ _ _ _, isx_same h, Chg.refl _ _⟩

def XSettled (w : World) (S : Nat → Prop) (x : Nat) (r : Int × Int × List Item × Int) (e : Ending) (w' : World) : Prop :=
  ∃ vw vb, e = .returned (.tuple #[.int .i64 r.1, .bool (r.2.1 == 0)]) ∧ IsX w' (Grow S w w') x r.2.2.1 [] r.2.2.2 vw vb ∧ Chg S w w'
theorem xsettle_any {w : World} {S : Nat → Prop} {x : Nat} {W B : List Item} {p : Int} {vw vb : Value} (h : IsX w S x W B p vw vb) (back : Bool) (hm : B.length + W.length ≤ 1099511627776) (hp0 : 0 ≤ p) (hp1 : p ≤ 1099511627776) :
    Calls Try.prog 21 #[.pointer (some ⟨x, 0, none⟩), .bool back] w (XSettled w S x (settleF W B p back)) := by
  by_cases hB : B = []
  · subst hB
    refine (xsettle_no h back).mono ?_
    rintro e w' ⟨rfl, rfl⟩
    exact ⟨vw, vb, by simp [settleF], isx_same h, Chg.refl _ _⟩
  · cases back with
    | true =>
      refine (xnack_yes h hB hm).mono ?_
      rintro e w' ⟨vw', vb', rfl, q, c⟩
      refine ⟨vw', vb', ?_⟩
      simp only [settleF, hB, if_false, if_true]
      exact ⟨rfl, q, c⟩
    | false =>
      refine (xack_yes h hB hp0 hp1 (by omega)).mono ?_
      rintro e w' ⟨vw', vb', rfl, q, c⟩
      refine ⟨vw', vb', ?_⟩
      simp only [settleF, hB, if_false, Bool.false_eq_true]
      exact ⟨rfl, q, c⟩

/-- Oldest by the reference: the least so far. -/
def leastTo (l : List Item) (k : Nat) : Int := ((l.take (max k 1)).foldl oldStep (0, false)).1
theorem leastTo_succ (l : List Item) (k : Nat) (y : Item) (hy : l[k]? = some y) : leastTo l (k + 1) = if y.1 < leastTo l k then y.1 else leastTo l k := by
  unfold leastTo
  by_cases hk : k = 0
  · subst hk
    cases l with
    | nil => simp at hy
    | cons z l =>
      simp at hy; subst hy
      simp [oldStep]
  · rw [show max k 1 = k from by omega, show max (k + 1) 1 = k + 1 from by omega, List.take_add_one, hy, List.foldl_append]
    have h2 := (old_spec (l.take k)).1
    have hne : (l.take k).isEmpty = false := by
      rw [List.isEmpty_eq_false_iff]
      intro e
      rw [List.take_eq_nil_iff] at e
      rcases e with e | e
      · exact hk e
      · subst e; simp at hy
    rw [hne] at h2
    generalize (l.take k).foldl oldStep (0, false) = s at *
    obtain ⟨m, b⟩ := s
    simp only [Bool.not_false] at h2
    subst h2
    simp only [Option.toList, List.foldl_cons, List.foldl_nil, oldStep]
    by_cases hc : y.1 < m <;> simp [hc]

set_option maxHeartbeats 1000000 in
theorem xoldest_any {w : World} {S : Nat → Prop} {x : Nat} {W B : List Item} {p : Int} {vw vb : Value} (h : IsX w S x W B p vw vb) (hl : B.length + W.length ≤ 1099511627776) :
    Calls Try.prog 22 #[.pointer (some ⟨x, 0, none⟩)] w fun e w' => e = .returned (.tuple #[.int .i64 (oldF W B).1, .bool (oldF W B).2]) ∧ Chg (fun _ => False) w w' := by
  obtain ⟨A, c, rfl, hc, hrb⟩ := own_rd h.b_
  obtain ⟨A', c', rfl, hc', hrw⟩ := own_rd h.w_
  have h0 := blk_cell h.blk 0
  have h1 := blk_cell h.blk 1
  have hx := heap_lt h.blk
  clear h
  go_enter Try.func22, Try.ntmps22
  go_upto_region 2 with fail
  go_cut [4] (fun v wx => ∃ A2 c2, v = .slice A2 (B ++ W).length c2 ∧ Rd wx (fun _ => True) 2 A2 (B ++ W).length (flat (B ++ W)) ∧ Chg (fun _ => False) w wx)
  case first =>
    go_region_law (first
        | (refine step_app _ rfl _ _ 29 rfl 0 26 2 16 _ Try.underlying29 info26 rfl (by omega) (.slice none 0 0) 0 [] rfl (own_nil _ _ _ _) _ A B.length c (flat B) rfl (hrb.new ((Chg.refl _ _).drew)) (flat_one B) (by simp only [maxLen]; omega) (by omega) (by simp) ?_; intro v1 w1 ho1 hg1 ha1; have k0 := hg1.cell (p := ⟨x, 0, none⟩) h0 (by simp [Value.ownBlock]))
        | (refine step_app _ rfl _ _ 29 rfl 0 26 2 16 _ Try.underlying29 info26 rfl (by omega) v1 _ _ rfl ho1 _ A' W.length c' (flat W) rfl ((hrw.new ((Chg.refl _ _).drew)).chg hg1 (fun k _ e => by simp [Value.ownBlock] at e)) (flat_one W) (by simp only [maxLen]; omega) (by omega) (by simp) ?_; intro v2 w2 ho2 hg2 ha2; obtain ⟨A2, c2, rfl, hcc2, _⟩ := own_rd ho2))
    all_goals
      obtain ⟨n1, n2, f1, f2⟩ := two_apps hg1 hg2 ha1 ha2
      have n3 := ((Chg.refl (fun _ => False) w).drew).step n2
      have hlen : (B ++ W).length = 0 + B.length + W.length := by simp
      have hr2 := (Rd.of_own ho2).mono (T' := fun _ => True) (fun _ _ _ => trivial)
      go_wp2_with fail
      go_meet
      exact ⟨A2, c2, by simp, by rw [flat_app]; rw [hlen]; simpa using hr2, n3⟩
  case rest =>
    obtain ⟨A2, c2, rfl, hr, hC⟩ := hcut
    have hoF : oldF W B = (B ++ W).foldl oldStep (0, false) := rfl
    have hL : (B ++ W).length ≤ 1099511627776 := by simp; omega
    have HO := Go.Lib.hid hoF
    clear h0 h1 hrb hrw hoF
    generalize B ++ W = L at *
    by_cases hE : L = []
    · subst hE
      go_wp2
      go_ret2
      exact ⟨by rw [HO.out]; rfl, hC⟩
    · have hpos : 0 < L.length := List.length_pos_iff.2 hE
      have hd : ((L.length : Int) == 0) = false := beq_eq_false_iff_ne.2 (by omega)
      obtain ⟨y0, hy0⟩ : ∃ y, L[0]? = some y := ⟨_, List.getElem?_eq_getElem hpos⟩
      obtain ⟨ad, rfl, _, z0, z1⟩ := rd_item hr hy0
      have e0 : y0.1 = leastTo L 0 := by
        cases L with
        | nil => simp at hy0
        | cons z l => simp at hy0; subst hy0; simp [leastTo, oldStep]
      have hfin : (L.foldl oldStep (0, false)).2 = true := by
        have := (old_spec L).1
        rw [this]; simp [hE]
      have HF := Go.Lib.hid hfin
      have HE := Go.Lib.hid e0
      have zz : (ad.add (0 * 2)) = ad := by simp [Addr.add]
      rw [zz] at z0 z1
      clear hfin e0 hE hy0 zz
      go_wp2_with fail
      go_loopg [5, 6] L.length (fun g v i wr => ∃ (k : Nat), k ≤ L.length ∧ g = L.length - k ∧ i = .int .i64 k ∧ v = .int .i64 (leastTo L k) ∧ Chg (fun _ => False) wc wr)
      case atStart => exact ⟨0, by omega, rfl, rfl, by rw [HE.out], Chg.refl _ _⟩
      case round =>
        obtain ⟨k, hk, hg, rfl, rfl, hD⟩ := hrel
        have HG := Go.Lib.hid hg
        clear hg z0 z1
        by_cases hlt : k < L.length
        · obtain ⟨y, hy⟩ : ∃ y, L[k]? = some y := ⟨_, List.getElem?_eq_getElem hlt⟩
          obtain ⟨ad', e', _, c0, c1⟩ := rd_item (hr.new hD) hy
          injection e' with e'
          subst e'
          have hsucc := leastTo_succ L k y hy
          by_cases hc : y.1 < leastTo L k
          · rw [if_pos hc] at hsucc
            have hcb : decide (y.1 < leastTo L k) = true := decide_eq_true hc
            have HS := Go.Lib.hid hsucc
            clear hsucc hc hy
            go_wp2
            go_roundg (L.length - (k + 1))
            case measure => have := HG.out; omega
            case rel => exact ⟨k + 1, by omega, rfl, by go_num, by rw [HS.out], hD⟩
          · rw [if_neg hc] at hsucc
            have hcb : decide (y.1 < leastTo L k) = false := decide_eq_false hc
            have HS := Go.Lib.hid hsucc
            clear hsucc hc hy
            go_wp2
            go_roundg (L.length - (k + 1))
            case measure => have := HG.out; omega
            case rel => exact ⟨k + 1, by omega, rfl, by go_num, by rw [HS.out], hD⟩
        · have hke : k = L.length := by omega
          subst hke
          have e1 : leastTo L L.length = (L.foldl oldStep (0, false)).1 := by rw [leastTo, List.take_of_length_le (by omega)]
          have HE1 := Go.Lib.hid e1
          clear e1
          go_wp2
          go_ret2
          exact ⟨by rw [HO.out, HF.out, HE1.out]; rfl, hC.step hD⟩
end Go.Proofs.Ytpjddmpioledoaa.Q
