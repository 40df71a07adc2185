import Derived.Test.YtpjddmpioledoaaQ7
namespace Go.Proofs.Ytpjddmpioledoaa.Q
open Go.RowKit Go.Proofs.Ytpjddmpioledoaa.Lib
set_option linter.unusedVariables false

def TookGood (w : World) (S : Nat → Prop) (q : Nat) (W : List Item) (N p : Int) (e : Ending) (w' : World) : Prop :=
  ∃ A c l2 W' vw vb S', e = .returned (.tuple #[.slice A (l2 : List Item).length c, .int .i64 0]) ∧ l2 ≠ [] ∧ l2 ++ W' = W ∧ (l2.length : Int) ≤ N ∧ w'.ownsRow w.heap.size 26 2 (.slice A l2.length c) l2.length (flat l2) ∧ IsQ w' S' q W' l2 p vw vb ∧ Chg S w w' ∧
    (∀ k, S' k → S k ∨ w.heap.size ≤ k) ∧ (∀ k, (Value.slice A l2.length c).ownBlock = some k → ¬ S' k)
theorem isq_less {w : World} {S : Nat → Prop} {q : Nat} {W B : List Item} {p : Int} {vw vb v : Value} (h : IsQ w S q W B p vw vb) (hq : v.ownBlock ≠ some q) (h1 : ∀ k, v.ownBlock = some k → vw.ownBlock ≠ some k ∧ vb.ownBlock ≠ some k) : IsQ w (fun k => S k ∧ v.ownBlock ≠ some k) q W B p vw vb :=
  ⟨h.blk, h.w_, h.b_, h.ne, ⟨h.sq, hq⟩, fun k hk => ⟨h.sw k hk, fun e => (h1 k e).1 hk⟩, fun k hk => ⟨h.sb k hk, fun e => (h1 k e).2 hk⟩, fun k hk => h.lt k hk.1⟩
theorem take_good {w : World} {S : Nat → Prop} {q : Nat} {W : List Item} {p : Int} {vw vb : Value} (h : IsQ w S q W [] p vw vb) (N : Int) (hN : 1 ≤ N) (hW : W ≠ []) (hm : W.length ≤ 1099511627776) :
    Calls Try.prog 11 #[.pointer (some ⟨q, 0, none⟩), .int .i64 N] w (TookGood w S q W N p) := by
  refine (take_any h N hm).mono ?_
  rintro e w' ⟨A, c, vw', vb', rfl, ho, hq, hc, ha⟩
  have ht : takeF W [] N = (W.take N.toNat, 0, W.drop N.toNat, W.take N.toNat) := by
    have : ¬ N < 1 := by omega
    simp only [takeF, this, hW, or_self, if_false, ne_eq, not_true]
  rw [ht] at ho hq ha ⊢
  refine ⟨A, c, W.take N.toNat, W.drop N.toNat, vw', vb', _, rfl, ?_, List.take_append_drop _ _, ?_, ho, isq_less hq (own_ne_blk ho hq.blk (by omega)) (fun k hk => (ha k hk).2), hc, fun k hk => hk.1.1, fun k hk hs => hs.2 hk⟩
  · intro e
    rw [List.take_eq_nil_iff] at e
    rcases e with e | e
    · omega
    · exact hW e
  · rw [List.length_take]; omega

def nums (l : List Int) : List Value := l.map (Value.int .i64)
def bools (l : List Bool) : List Value := l.map Value.bool
theorem rd_one {w : World} {T : Nat → Prop} {A : Option Addr} {n : Nat} {cs : List Value} (h : Rd w T 1 A n cs) {k : Nat} {u : Value} (hu : cs[k]? = some u) : ∃ ad, A = some ad ∧ T ad.block ∧ w.cell? (ad.add k) = some u := h.2 k u hu

theorem same_true (l : List Item) (A A2 : Option Addr) (n n2 c c2 : Nat) (T T2 : Nat → Prop) (w : World) (h : Rd w T 2 A n (flat l)) (h2 : Rd w T2 2 A2 n2 (flat l)) (hn : n ≤ 1099511627776) (hn2 : n2 ≤ 1099511627776) :
    Calls Try.prog 18 #[.slice A n c, .slice A2 n2 c2] w fun e w' => e = .returned (.bool true) ∧ Chg (fun _ => False) w w' :=
  (same_any l l A A2 n n2 c c2 T T2 w h h2 hn hn2).mono fun e w' ⟨h1, h2⟩ => ⟨by rw [h1]; simp, h2⟩
theorem once_frame {w wr w2 w3 : World} {S S2 : Nat → Prop} {D : List Item} {dv : Value} (hD : wr.ownsRow 0 26 2 dv D.length (flat D)) (hS : ∀ b, S b → w.heap.size ≤ b) (hdv : ∀ b, dv.ownBlock = some b → w.heap.size ≤ b ∧ ¬ S b) (hB : Below w.heap.size w wr)
    (hc2 : Chg S wr w2) (hS2 : ∀ k, S2 k → S k ∨ wr.heap.size ≤ k) (hc3 : Chg S2 w2 w3) :
    w3.ownsRow 0 26 2 dv D.length (flat D) ∧ (∀ b, Grow S2 w2 w3 b → w.heap.size ≤ b) ∧ (∀ b, dv.ownBlock = some b → w.heap.size ≤ b ∧ ¬ Grow S2 w2 w3 b) ∧ Below w.heap.size w w3 := by
  have h2 : ∀ b, dv.ownBlock = some b → ¬ S2 b := fun b hb hs => by
    have := own_lt hD hb
    rcases hS2 b hs with h | h
    · exact (hdv b hb).2 h
    · omega
  have s1 := hc2.size
  have s0 := hB.size
  refine ⟨own_chg (own_chg hD hc2 fun b hb => (hdv b hb).2) hc3 h2, ?_, ?_, ?_⟩
  · intro b hb
    rcases hb.1 with h | h
    · rcases hS2 b h with h | h
      · exact hS b h
      · omega
    · omega
  · intro b hb
    refine ⟨(hdv b hb).1, fun hg => ?_⟩
    have := own_lt hD hb
    rcases hg.1 with h | h
    · exact h2 b hb h
    · omega
  · refine hB.trans (Below.trans (hc2.below hB.size hS) (hc3.below (Nat.le_trans hB.size hc2.size) ?_))
    intro k hk
    rcases hS2 k hk with h | h
    · exact hS k h
    · omega

theorem once_app {w w3 w4 : World} {S : Nat → Prop} {q : Nat} {D l2 W' : List Item} {dv v1 vw vb : Value} {p : Int} (hD : w3.ownsRow 0 26 2 dv D.length (flat D)) (hS : ∀ b, S b → w.heap.size ≤ b) (hdv : ∀ b, dv.ownBlock = some b → w.heap.size ≤ b ∧ ¬ S b) (hB : Below w.heap.size w w3)
    (hq : IsQ w3 S q W' [] p vw vb) (ho : w4.ownsRow 0 26 2 v1 (D.length + l2.length) (flat D ++ flat l2)) (hg : Chg (fun k => dv.ownBlock = some k) w3 w4) (hat : ∀ k, v1.ownBlock = some k → dv.ownBlock = some k ∨ w3.heap.size ≤ k) :
    w4.ownsRow 0 26 2 v1 (D ++ l2).length (flat (D ++ l2)) ∧ (∀ b, v1.ownBlock = some b → w.heap.size ≤ b ∧ ¬ S b) ∧ IsQ w4 S q W' [] p vw vb ∧ Below w.heap.size w w4 := by
  refine ⟨by rw [flat_app, List.length_append]; exact ho, fun b hb => ?_, isq_chg hq hg (fun k hk e => (hdv k e).2 hk), hB.trans (hg.below hB.size fun k hk => (hdv k hk).1)⟩
  rcases hat b hb with h | h
  · exact hdv b h
  · refine ⟨Nat.le_trans hB.size h, fun hs => ?_⟩
    have := hq.lt b hs
    omega

theorem once_long (A A2 A3 : Option Addr) (n n2 n3 c c2 c3 : Nat) (w : World) (hn : 500 < n) :
    Calls Try.prog 5 #[.slice A n c, .slice A2 n2 c2, .slice A3 n3 c3] w fun e w' => e = .returned (.bool true) ∧ Below w.heap.size w w' := by
  have h1 : decide ((n : Int) > 500) = true := by simp; omega
  go_enter Try.func5, Try.ntmps5
  go_wp2_with (first
    | (go_at_call 7; refine (new_any _).mono ?_; rintro e w1 ⟨rfl, hq, hc⟩)
    | (go_at_call 9; refine (awake_any _).mono ?_; rintro e w2 ⟨rfl, hb⟩))
  go_ret
  exact ⟨rfl, hc.new.trans (hb.mono hc.size)⟩

set_option maxRecDepth 100000 in
set_option maxHeartbeats 2000000 in
theorem once_any (l : List Item) (zs : List Int) (bs : List Bool) (A A2 A3 : Option Addr) (n n2 n3 c c2 c3 : Nat) (w : World) (hr : Rd w (· < w.heap.size) 2 A n (flat l)) (hr2 : Rd w (· < w.heap.size) 1 A2 n2 (nums zs)) (hr3 : Rd w (· < w.heap.size) 1 A3 n3 (bools bs))
    (hn : n ≤ 500) (hn2 : n2 ≤ 140737488351232) (hn3 : n3 ≤ 140737488351232) :
    Calls Try.prog 5 #[.slice A n c, .slice A2 n2 c2, .slice A3 n3 c3] w fun e w' => e = .returned (.bool true) ∧ Below w.heap.size w w' := by
  have h1 : decide ((n : Int) > 500) = false := by simp; omega
  have hln : l.length = n := by have := hr.1; rw [flat_len] at this; omega
  have HL := Go.Lib.hid hln
  clear hln
  go_enter Try.func5, Try.ntmps5
  go_wp2_with (first
    | (go_at_call 7; refine (new_any _).mono ?_; rintro e w1 ⟨rfl, hq, hc⟩))
  go_loopg [36] n (fun g i wr => ∃ (k : Nat) (vw : Value), k ≤ n ∧ g = n - k ∧ i = .int .i64 k ∧ IsQ wr (fun j => w.heap.size ≤ j ∧ j < wr.heap.size) w.heap.size (l.take k) [] 0 vw (.slice none 0 0) ∧ Below w.heap.size w wr)
  case atStart => exact ⟨0, _, by omega, rfl, rfl, isq_more hq (fun j e => by subst e; exact ⟨Nat.le_refl _, hq.lt _ rfl⟩) (fun _ h => h.2), hc.new⟩
  case round =>
    obtain ⟨k, vw, hk, hg, rfl, hQ, hB⟩ := hrel
    by_cases hlt : k < n
    · obtain ⟨x, hx⟩ : ∃ x, l[k]? = some x := ⟨_, List.getElem?_eq_getElem (by have := HL.out; omega)⟩
      obtain ⟨ad, rfl, _, x0, x1⟩ := rd_item hr hx
      have y0 := below_cell hB x0
      have y1 := below_cell hB x1
      have HX := Go.Lib.hid hx
      have HQ := Go.Lib.hid hQ
      have HG := Go.Lib.hid hg
      clear hx hQ x0 x1 hq hg
      go_wp2_with fail
      refine (push_any (isq_alloc (isq_alloc HQ.out _) _) _ (some ⟨wr.heap.size + 1, 0, none⟩) 1 1 [x] (by have := rd_new (wr.alloc (.cells #[.int .i64 x.1, .int .i64 x.2] 26)) [.int .i64 x.1, .int .i64 x.2] 26 2 1 rfl; simpa [flat] using this) (by have := List.length_take_le k l; omega)).mono ?_
      rintro e w2 ⟨vw2, rfl, hq2, hc2⟩
      go_wp2
      obtain ⟨hq3, hB3⟩ := close ((hB.alloc hB.size _).alloc (Nat.le_trans hB.size (by simp)) _) (fun j hj => hj.1) hq2 hc2
      have ht : l.take k ++ [x] = l.take (k + 1) := by rw [List.take_add_one, HX.out]; rfl
      rw [ht] at hq3
      go_roundg (n - (k + 1))
      case measure => have := HG.out; omega
      case rel => exact ⟨k + 1, vw2, by omega, rfl, by go_num, hq3, hB3⟩
    · have hke : k = n := by omega
      subst hke
      rw [List.take_of_length_le (by have := HL.out; omega)] at hQ
      have HQ := Go.Lib.hid hQ
      clear hQ hq hg hlt hc
      go_wp2_with fail
      go_loopg [10, 11] (n3 + k) (fun g dv i wr => ∃ (j : Nat) (W D : List Item) (vw vb : Value) (S : Nat → Prop), D ++ W = l ∧ j ≤ n3 + D.length ∧ g = (n3 - j) + W.length ∧ i = .int .i64 j ∧ wr.ownsRow 0 26 2 dv D.length (flat D) ∧ IsQ wr S w.heap.size W [] D.length vw vb ∧ (∀ b, S b → w.heap.size ≤ b) ∧
        (∀ b, dv.ownBlock = some b → w.heap.size ≤ b ∧ ¬ S b) ∧ Below w.heap.size w wr)
      case atStart => exact ⟨0, l, [], _, _, _, rfl, by omega, by have := HL.out; omega, rfl, own_nil _ _ _ _, HQ.out, fun b hb => hb.1, by simp [Value.ownBlock], hB⟩
      case round =>
        clear HQ hB hk vw
        obtain ⟨j, W, D, vw, vb, S, hDW, hj, hg, rfl, hD, hQ, hS, hdv, hB⟩ := hrel
        have hlen : D.length + W.length = k := by rw [← List.length_append, hDW]; exact HL.out
        have HDW := Go.Lib.hid hDW
        have HG := Go.Lib.hid hg
        have HLN := Go.Lib.hid hlen
        have hW5 : W.length ≤ 500 := by omega
        have hD5 : D.length ≤ 500 := by omega
        have hjm : j ≤ 140737488351732 := by omega
        have HJ := Go.Lib.hid hj
        clear hDW hg hlen hj
        by_cases hW : W = []
        · subst hW
          have hDl : D = l := by have := HDW.out; simpa using this
          have hDk : (D.length : Int) = k := by have := HLN.out; simp at this; omega
          have hob := own_rd hD
          rw [hDl] at hob
          obtain ⟨A5, c5, rfl, hc5, hr5⟩ := hob
          have hQ2 := hQ
          rw [hDl] at hQ2
          have e1 : ((l.length : Int) == (k : Int)) = true := beq_iff_eq.2 (by have := HL.out; omega)
          have e2 : (l.length == k) = true := beq_iff_eq.2 (by have := HL.out; omega)
          have h5 : l.length ≤ 500 := by have := HL.out; omega
          have HQ2 := Go.Lib.hid hQ2
          clear hDk hDl hD hQ hQ2 hD5 hdv
          go_wp2_with fail
          refine (len_any HQ2.out).mono ?_
          rintro e w' ⟨rfl, rfl⟩
          go_wp2_with fail
          refine (oldest_any HQ2.out (by simp only [List.length_nil]; omega)).mono ?_
          rintro e w3 ⟨rfl, hc3⟩
          have hB3 := hB.trans (hc3.new.mono hB.size)
          have HQ3 := Go.Lib.hid (isq_chg HQ2.out hc3 (fun _ _ f => f))
          have hs := same_true l A5 A l.length k c5 c _ _ w3 (hr5.new hc3) ((hr.move (fun b hb _ => hB3.block b hb))) (by omega) (by omega)
          have HS := Go.Lib.hid hs
          clear hs hc3 hB
          go_wp2_with fail
          refine HS.out.mono ?_
          rintro e w4 ⟨rfl, hc4⟩
          have hB4 := hB3.trans (hc4.new.mono hB3.size)
          have HQ4 := Go.Lib.hid (isq_chg HQ3.out hc4 (fun _ _ f => f))
          clear hc4 hB3
          go_wp2_with fail
          refine (passed_any HQ4.out).mono ?_
          rintro e w' ⟨rfl, rfl⟩
          go_wp2_with (go_at_call 9; refine (awake_any _).mono ?_; rintro e w5 ⟨rfl, hb5⟩)
          go_ret
          exact ⟨rfl, hB4.trans (hb5.mono hB4.size)⟩
        · have hWl : 0 < W.length := List.length_pos_iff.2 hW
          have HQ := Go.Lib.hid hQ
          have HW := Go.Lib.hid hW
          have HD := Go.Lib.hid hD
          have HS := Go.Lib.hid hS
          have HV := Go.Lib.hid hdv
          have wl0 : (0 : Int) ≤ (D.length : Int) := by omega
          have wl1 : (D.length : Int) ≤ 500 := by omega
          have hsz : (decide ((j : Int) < (n2 : Int)) = false ∧ decide (j < n2) = false) ∨ ∃ ad z, A2 = some ad ∧ wr.cell? (ad.add j) = some (.int .i64 z) ∧ decide ((j : Int) < (n2 : Int)) = true ∧ decide (j < n2) = true ∧ j < n2 := by
            by_cases h : j < n2
            · right
              obtain ⟨z, hz⟩ : ∃ z, zs[j]? = some z := ⟨_, List.getElem?_eq_getElem (by have := hr2.1; simp [nums] at this; omega)⟩
              obtain ⟨ad, e, _, hc⟩ := hr2.2 j (.int .i64 z) (by simp [nums, hz])
              exact ⟨ad, z, e, below_cell hB hc, by simp; omega, by simp; omega, h⟩
            · left; exact ⟨by simp; omega, by simp; omega⟩
          have hfl : (decide ((j : Int) < (n3 : Int)) = false ∧ decide (j < n3) = false) ∨ ∃ ad z, A3 = some ad ∧ w.cell? (ad.add j) = some (.bool z) ∧ decide ((j : Int) < (n3 : Int)) = true ∧ decide (j < n3) = true ∧ j < n3 := by
            by_cases h : j < n3
            · right
              obtain ⟨z, hz⟩ : ∃ z, bs[j]? = some z := ⟨_, List.getElem?_eq_getElem (by have := hr3.1; simp [bools] at this; omega)⟩
              obtain ⟨ad, e, _, hc⟩ := hr3.2 j (.bool z) (by simp [bools, hz])
              exact ⟨ad, z, e, hc, by simp; omega, by simp; omega, h⟩
            · left; exact ⟨by simp; omega, by simp; omega⟩
          have HFL := Go.Lib.hid hfl
          have HR := Go.Lib.hid hr
          have HB := Go.Lib.hid hB
          clear hfl hr hB hr2 hr3 hQ hW hS hdv hD
          rcases hsz with ⟨b1, b1n⟩ | ⟨ad2, z, rfl, zc, b1, b1n, hj2⟩
          case' inr => by_cases hz : z > 1
          case' pos => have b2 : decide (z > 1) = true := decide_eq_true hz
          case' neg => have b2 : decide (z > 1) = false := decide_eq_false hz
          all_goals
            go_wp2_with fail
            refine (len_any HQ.out).mono ?_
            rintro e w' ⟨rfl, rfl⟩
            go_wp2_with fail
            refine (take_good HQ.out _ ?_ HW.out (by omega)).mono ?_
            · omega
            rintro e w2 ⟨A5, c5, l2, W', vw2, vb2, S2, rfl, hl2, hlw, hlN, ho2, hq2, hc2, hS2, ha2⟩
            have d1 : ((l2.length : Int) == 0) = false := beq_eq_false_iff_ne.2 (by have := List.length_pos_iff.2 hl2; omega)
            have d2 := decide_eq_false (Int.not_lt.2 hlN)
            have hlw2 : l2.length + W'.length = W.length := by rw [← List.length_append, hlw]
            have HL2 := Go.Lib.hid hl2
            have HLW := Go.Lib.hid hlw
            have HLW2 := Go.Lib.hid hlw2
            have hl25 : l2.length ≤ 500 := by omega
            have hq4 : ∀ b, IsQ w2 S2 w.heap.size W' l2 D.length b vw2 → True := fun _ _ => trivial
            clear hl2 hlw hlw2 hq4
            have HFR := fun (w3 : World) (h3 : Chg S2 w2 w3) => once_frame (w := w) HD.out HS.out HV.out HB.out hc2 hS2 h3
            have HFR := Go.Lib.hid HFR
            have hB2 := HB.out.trans (hc2.below HB.out.size HS.out)
            have HO2 := Go.Lib.hid ho2
            have HA2 := Go.Lib.hid ha2
            have HQ2 := Go.Lib.hid hq2
            clear ho2 ha2 hq2 hc2 hS2
            rcases HFL.out with ⟨b3, b3n⟩ | ⟨ad3, z3, rfl, zc3, b3, b3n, hj3⟩
            case' inr =>
              have zc4 := below_cell hB2 zc3
              clear zc3
              rcases z3 with _ | _
            case' inr.true =>
              go_wp2_with fail
              refine (nack_yes HQ2.out HL2.out (by have := HLW2.out; omega)).mono ?_
              rintro e w3 ⟨vw3, vb3, rfl, hq3, hc3⟩
              obtain ⟨o3, s3, v3, B3⟩ := HFR.out w3 hc3
              rw [HLW.out] at hq3
              have R3 := Go.Lib.hid (And.intro o3 (And.intro s3 (And.intro v3 B3)))
              have HQ3 := Go.Lib.hid hq3
              clear o3 s3 v3 B3 hq3 hc3
              go_wp2
              go_roundg (n3 - (j + 1) + W.length)
              case measure => have := HG.out; omega
              case rel => exact ⟨j + 1, W, D, vw3, vb3, _, HDW.out, by omega, rfl, by go_num, R3.out.1, HQ3.out, R3.out.2.1, R3.out.2.2.1, R3.out.2.2.2⟩
            all_goals
              go_wp2_with fail
              refine (ack_yes HQ2.out HL2.out (by omega) (by omega) (by omega)).mono ?_
              rintro e w3 ⟨vb3, rfl, hq3, hc3⟩
              obtain ⟨o3, s3, v3, B3⟩ := HFR.out w3 hc3
              have rl := Rd.of_own (own_chg HO2.out hc3 (fun b hb => HA2.out b hb))
              have R3 := Go.Lib.hid (And.intro o3 (And.intro s3 (And.intro v3 B3)))
              have HQ3 := Go.Lib.hid hq3
              have RL := Go.Lib.hid rl
              clear o3 s3 v3 B3 hq3 hc3 rl
              go_wp2_with (at_builtin; refine wpList_app _ rfl (.tmp 120) (.tmp 121) 29 rfl 0 26 2 16 _ Try.underlying29 info26 rfl (by omega) _ D.length (flat D) rfl R3.out.1 _ A5 l2.length c5 (flat l2) rfl RL.out (flat_one l2) ?c3 ?c4 ?c5 ?_)
              case c3 => simp only [maxLen]; omega
              case c4 => omega
              case c5 => simp
              intro v1 w4 ho4 hg4 hat4
              obtain ⟨o5, s5, q5, B5⟩ := once_app (W' := W') (l2 := l2) R3.out.1 R3.out.2.1 R3.out.2.2.1 R3.out.2.2.2 HQ3.out ho4 hg4 hat4
              have ep : (D.length : Int) + (l2.length : Int) = ((D ++ l2).length : Nat) := by rw [List.length_append]; omega
              rw [ep] at q5
              have R5 := Go.Lib.hid (And.intro o5 (And.intro s5 (And.intro q5 B5)))
              clear o5 s5 q5 B5 ho4 hg4 hat4 ep
              go_wp2
              go_roundg (n3 - (j + 1) + W'.length)
              case measure => have := HG.out; have := HLW2.out; have := List.length_pos_iff.2 HL2.out; omega
              case rel => exact ⟨j + 1, W', D ++ l2, _, _, _, by rw [List.append_assoc, HLW.out]; exact HDW.out, by rw [List.length_append]; have := List.length_pos_iff.2 HL2.out; have := HJ.out; omega, rfl, by go_num, R5.out.1, R5.out.2.2.1, R3.out.2.1, R5.out.2.1, R5.out.2.2.2⟩

noncomputable def shInts : Shp Try.prog 44 (List Int) := Shp.slice shInt Try.underlying44 (by kernel_rfl) (by show 0 < 1; omega)
noncomputable def shBool : Shp Try.prog 4 Bool := Shp.bool Try.underlying4 (by kernel_rfl)
noncomputable def shBools : Shp Try.prog 45 (List Bool) := Shp.slice shBool Try.underlying45 (by kernel_rfl) (by show 0 < 1; omega)
theorem ints_rd {w : World} {T : Nat → Prop} {A : Option Addr} {l : List Int} (h : Row shInt w T A l) : Rd w T 1 A l.length (nums l) := by
  have h2 := h.rd (fun x => [.int .i64 x]) (fun x cs (hk : cs = [.int .i64 x] ∧ _) => hk.1)
  have e : l.flatMap (fun x => [Value.int .i64 x]) = nums l := (List.map_eq_flatMap (f := Value.int .i64) (l := l)).symm
  rw [e] at h2; exact h2
theorem bools_rd {w : World} {T : Nat → Prop} {A : Option Addr} {l : List Bool} (h : Row shBool w T A l) : Rd w T 1 A l.length (bools l) := by
  have h2 := h.rd (fun x => [.bool x]) (fun x cs hk => hk)
  have e : l.flatMap (fun x => [Value.bool x]) = bools l := (List.map_eq_flatMap (f := Value.bool) (l := l)).symm
  rw [e] at h2; exact h2
theorem bytes3 : Try.prog.bytesOf 3 = 8 := by kernel_rfl
theorem bytes4 : Try.prog.bytesOf 4 = 1 := by kernel_rfl
theorem once_walk {w : World} (x : List (Int × Int × Unit)) (A : Option Addr) (n c : Nat) (h : shItems.K w (· < w.heap.size) x [.slice A n c]) (_ : shItems.Fits x)
    (y : List Int) (A2 : Option Addr) (n2 c2 : Nat) (h2 : shInts.K w (· < w.heap.size) y [.slice A2 n2 c2]) (f2 : shInts.Fits y)
    (z : List Bool) (A3 : Option Addr) (n3 c3 : Nat) (h3 : shBools.K w (· < w.heap.size) z [.slice A3 n3 c3]) (f3 : shBools.Fits z) :
    Calls Try.prog 5 #[.slice A n c, .slice A2 n2 c2, .slice A3 n3 c3] w fun e w' => e = .returned (.bool true) ∧ Below w.heap.size w w' := by
  by_cases hn : n ≤ 500
  · obtain ⟨A', c', e, _, _, _, hr⟩ := h
    simp only [List.cons.injEq, Value.slice.injEq, and_true] at e
    obtain ⟨rfl, rfl, rfl⟩ := e
    obtain ⟨A', c', e, _, _, _, hr2⟩ := h2
    simp only [List.cons.injEq, Value.slice.injEq, and_true] at e
    obtain ⟨rfl, rfl, rfl⟩ := e
    obtain ⟨A', c', e, _, _, _, hr3⟩ := h3
    simp only [List.cons.injEq, Value.slice.injEq, and_true] at e
    obtain ⟨rfl, rfl, rfl⟩ := e
    have g2 : y.length * Try.prog.bytesOf 3 ≤ reachBytes := f2.1
    have g3 : z.length * Try.prog.bytesOf 4 ≤ reachBytes := f3.1
    rw [bytes3] at g2
    rw [bytes4] at g3
    have hb : reachBytes = 140737488351232 := by decide
    exact once_any _ _ _ A A2 A3 _ _ _ c c2 c3 w (items_rd hr) (ints_rd hr2) (bools_rd hr3) hn (by omega) (by omega)
  · exact once_long A A2 A3 n n2 n3 c c2 c3 w (by omega)
end Go.Proofs.Ytpjddmpioledoaa.Q
