import Derived.Test.YtpjddmpioledoaaQ2
namespace Go.Proofs.Ytpjddmpioledoaa.Q
open Go.RowKit Go.Proofs.Ytpjddmpioledoaa.Lib
set_option linter.unusedVariables false

/-- What Take answers and leaves: the list, the error, what waits, the bundle. -/
def takeF (W B : List Item) (n : Int) : List Item × Int × List Item × List Item :=
  if B ≠ [] then ([], 171, W, B) else if n < 1 ∨ W = [] then ([], 170, W, B) else (W.take n.toNat, 0, W.drop n.toNat, W.take n.toNat)
/-- What Ack and Nack answer and leave: how many, the error, what waits, how many went. -/
def settleF (W B : List Item) (p : Int) (back : Bool) : Int × Int × List Item × Int :=
  if B = [] then (0, 171, W, p) else if back then (B.length, 0, B ++ W, p) else (B.length, 0, W, p + B.length)

def Took (w : World) (S : Nat → Prop) (q : Nat) (p : Int) (r : List Item × Int × List Item × List Item) (e : Ending) (w' : World) : Prop :=
  ∃ A c vw vb, e = .returned (.tuple #[.slice A r.1.length c, .int .i64 r.2.1]) ∧ w'.ownsRow w.heap.size 26 2 (.slice A r.1.length c) r.1.length (flat r.1) ∧ IsQ w' (Grow S w w') q r.2.2.1 r.2.2.2 p vw vb ∧ Chg S w w' ∧
    (∀ k, (Value.slice A r.1.length c).ownBlock = some k → w.heap.size ≤ k ∧ vw.ownBlock ≠ some k ∧ vb.ownBlock ≠ some k)

theorem isq_same {w : World} {S : Nat → Prop} {q : Nat} {W B : List Item} {p : Int} {vw vb : Value} (h : IsQ w S q W B p vw vb) : IsQ w (Grow S w w) q W B p vw vb := isq_grow h

theorem take_any {w : World} {S : Nat → Prop} {q : Nat} {W B : List Item} {p : Int} {vw vb : Value} (h : IsQ w S q W B p vw vb) (n : Int) (hm : W.length ≤ 1099511627776) :
    Calls Try.prog 11 #[.pointer (some ⟨q, 0, none⟩), .int .i64 n] w (Took w S q p (takeF W B n)) := by
  by_cases hB : B = []
  · subst hB
    by_cases hn : n < 1
    · refine (take_small h n hn).mono ?_
      rintro e w' ⟨rfl, rfl⟩
      refine ⟨none, 0, vw, vb, ?_⟩
      simp only [takeF, hn, true_or, if_true, ne_eq, not_true, if_false]
      exact ⟨rfl, own_nil _ _ _ _, isq_same h, Chg.refl _ _, by simp [Value.ownBlock]⟩
    · by_cases hW : W = []
      · subst hW
        refine (take_empty h n hn).mono ?_
        rintro e w' ⟨rfl, rfl⟩
        refine ⟨none, 0, vw, vb, ?_⟩
        simp only [takeF, or_true, if_true, ne_eq, not_true, if_false]
        exact ⟨rfl, own_nil _ _ _ _, isq_same h, Chg.refl _ _, by simp [Value.ownBlock]⟩
      · have hl : 0 < W.length := List.length_pos_iff.2 hW
        refine (take_core h n (min n W.length).toNat (by omega) (by omega) (by omega) (by omega) hm).mono ?_
        rintro e w' ⟨v, vw', vb', rfl, ho, hq, hc, hat⟩
        have e1 : W.take (min n W.length).toNat = W.take n.toNat := by
          by_cases h1 : n ≤ W.length
          · rw [show min n (W.length : Int) = n from by omega]
          · rw [List.take_of_length_le (by omega), List.take_of_length_le (by omega)]
        have e2 : W.drop (min n W.length).toNat = W.drop n.toNat := by
          by_cases h1 : n ≤ W.length
          · rw [show min n (W.length : Int) = n from by omega]
          · rw [List.drop_of_length_le (by omega), List.drop_of_length_le (by omega)]
        rw [e1, e2] at hq
        rw [e1] at ho
        obtain hk := flat_n ho
        rw [hk] at ho
        obtain ⟨A, c, rfl, _⟩ := own_shape ho
        refine ⟨A, c, vw', vb', ?_⟩
        simp only [takeF, hn, hW, or_self, if_false, ne_eq, not_true]
        exact ⟨(by first | trivial | rfl), ho, hq, hc, hat⟩
  · refine (take_batch h n hB).mono ?_
    rintro e w' ⟨rfl, rfl⟩
    refine ⟨none, 0, vw, vb, ?_⟩
    simp only [takeF, hB, ne_eq, not_false_eq_true, if_true]
    exact ⟨rfl, own_nil _ _ _ _, isq_same h, Chg.refl _ _, by simp [Value.ownBlock]⟩

def Settled (w : World) (S : Nat → Prop) (q : Nat) (r : Int × Int × List Item × Int) (e : Ending) (w' : World) : Prop :=
  ∃ vw vb, e = .returned (.tuple #[.int .i64 r.1, .int .i64 r.2.1]) ∧ IsQ w' (Grow S w w') q r.2.2.1 [] r.2.2.2 vw vb ∧ Chg S w w'

set_option maxHeartbeats 400000 in
theorem settle_any {w : World} {S : Nat → Prop} {q : Nat} {W B : List Item} {p : Int} {vw vb : Value} (h : IsQ w S q W B p vw vb) (back : Bool) (hm : B.length + W.length ≤ 1099511627776) (hp0 : 0 ≤ p) (hp1 : p ≤ 1099511627776) :
    Calls Try.prog 12 #[.pointer (some ⟨q, 0, none⟩), .bool back] w (Settled w S q (settleF W B p back)) := by
  have hm1 : B.length ≤ 1099511627776 := by omega
  have hm2 : W.length ≤ 1099511627776 := by omega
  cases back with
  | true =>
    by_cases hB : B = []
    · subst hB
      go_enter Try.func12, Try.ntmps12
      go_wp2_with (go_at_call 16; refine (nack_no h hm2).mono ?_; rintro e w' ⟨vw', vb', rfl, hq, hc⟩)
      go_ret2
      exact ⟨vw', vb', rfl, hq, hc⟩
    · have HB := Go.Lib.hid hB
      clear hB
      go_enter Try.func12, Try.ntmps12
      go_wp2_with (go_at_call 16; refine (nack_yes h HB.out hm).mono ?_; rintro e w' ⟨vw', vb', rfl, hq, hc⟩)
      go_ret2
      have hB := HB.out
      refine ⟨vw', vb', ?_⟩
      simp only [settleF, hB, if_false, if_true]
      exact ⟨rfl, hq, hc⟩
  | false =>
    by_cases hB : B = []
    · subst hB
      go_enter Try.func12, Try.ntmps12
      go_wp2_with (go_at_call 17; refine (ack_no h (by omega) hp1).mono ?_; rintro e w' ⟨rfl, hq, hc⟩)
      go_ret2
      exact ⟨_, _, rfl, hq, hc⟩
    · have HB := Go.Lib.hid hB
      clear hB
      go_enter Try.func12, Try.ntmps12
      go_wp2_with (go_at_call 17; refine (ack_yes h HB.out hp0 hp1 hm1).mono ?_; rintro e w' ⟨vb', rfl, hq, hc⟩)
      go_ret2
      have hB := HB.out
      refine ⟨vw, vb', ?_⟩
      simp only [settleF, hB, if_false, Bool.false_eq_true]
      exact ⟨rfl, hq, hc⟩

theorem isq_alloc {w : World} {S : Nat → Prop} {q : Nat} {W B : List Item} {p : Int} {vw vb : Value} (h : IsQ w S q W B p vw vb) (o : Obj) : IsQ (w.alloc o) S q W B p vw vb :=
  h.move (by simp) fun k hk => Below.heap_alloc w o k (h.lt k hk)
theorem isq_chg {w w' : World} {S T : Nat → Prop} {q : Nat} {W B : List Item} {p : Int} {vw vb : Value} (h : IsQ w S q W B p vw vb) (hc : Chg T w w') (hT : ∀ k, S k → ¬ T k) : IsQ w' S q W B p vw vb :=
  h.move hc.size fun k hk => hc.block k (h.lt k hk) (hT k hk)
theorem rd_new (w : World) (cs : List Value) (t sz n : Nat) (hn : cs.length = n * sz) : Rd (w.alloc (.cells cs.toArray t)) (fun k => k = w.heap.size) sz (some ⟨w.heap.size, 0, none⟩) n cs := by
  refine ⟨hn, fun j u hu => ⟨_, rfl, rfl, ?_⟩⟩
  rw [add_at, Nat.zero_add, blk_cell (blk_new w t _)]
  simpa using hu
set_option maxHeartbeats 400000 in
theorem awake_any (w : World) :
    Calls Try.prog 9 #[] w fun e w' => e = .returned (.bool true) ∧ Below w.heap.size w w' := by
  go_enter Try.func9, Try.ntmps9
  go_wp2_with (go_at_call 7; refine (new_any _).mono ?_; rintro e w1 ⟨rfl, hq, hc⟩)
  refine (push_any (isq_alloc hq _) _ (some ⟨w1.heap.size, 0, none⟩) 2 2 [(5, 0), (3, 0)] (rd_new w1 _ 26 2 2 rfl) (by simp)).mono ?_
  rintro e w2 ⟨vw', rfl, hq2, hc2⟩
  go_wp2_with fail
  refine (len_any hq2).mono ?_
  rintro e w3 ⟨rfl, rfl⟩
  go_wp2
  go_ret
  refine ⟨rfl, Chg.new ((hc.alloc _).trans hc2 ?_)⟩
  intro k hk hl
  omega
end Go.Proofs.Ytpjddmpioledoaa.Q
