import Derived.Test.YtpjddmpioledoaaR3
import Derived.Test.YtpjddmpioledoaaQ8
namespace Go.Proofs.Ytpjddmpioledoaa.Q
open Go.RowKit Go.Proofs.Ytpjddmpioledoaa.Lib
set_option linter.unusedVariables false

set_option maxHeartbeats 400000 in
theorem waiting_any {w : World} {S : Nat → Prop} {q : Nat} {W B : List Item} {p : Int} {vw vb : Value} (h : IsQ w S q W B p vw vb) (hm : W.length ≤ 1099511627776) :
    Calls Try.prog 23 #[.pointer (some ⟨q, 0, none⟩)] w fun e w' => ∃ A c, e = .returned (.slice A W.length c) ∧ Rd w' (fun _ => True) 2 A W.length (flat W) ∧ Chg (fun _ => False) w w' := by
  obtain ⟨A, c, rfl, hc, hr⟩ := own_rd h.w_
  have h1 := blk_cell h.blk 1
  clear h
  go_enter Try.func23, Try.ntmps23
  go_wp2_with fail
  refine (clone_any _ A W.length c (flat W) _ hr (flat_one W) hm).mono ?_
  rintro e w' ⟨v, rfl, ho, hC⟩
  obtain ⟨A2, c2, rfl, _, hr2⟩ := own_rd ho
  go_wp2
  go_ret
  exact ⟨A2, c2, rfl, hr2.mono (fun _ _ _ => trivial), hC⟩

/-- The program's queue and the reference's; E: blocks that are neither's. -/
structure QX (w wr : World) (E : Nat → Prop) (q x : Nat) (W B : List Item) (p : Int) (W2 B2 : List Item) (p2 : Int) (vw vb vw2 vb2 : Value) (S X : Nat → Prop) : Prop where
  q_ : IsQ wr S q W B p vw vb
  x_ : IsX wr X x W2 B2 p2 vw2 vb2
  s_ : ∀ j, S j → w.heap.size ≤ j ∧ ¬ X j ∧ ¬ E j
  t_ : ∀ j, X j → w.heap.size ≤ j ∧ ¬ E j
  e_ : ∀ j, E j → j < wr.heap.size
  b_ : Below w.heap.size w wr
/-- What is kept: the blocks of E. -/
def Kp (E : Nat → Prop) (a b : World) : Prop := ∀ j, E j → b.heap[j]? = a.heap[j]?
def QXe (w wr : World) (E : Nat → Prop) (q x : Nat) (W B : List Item) (p : Int) (W2 B2 : List Item) (p2 : Int) : Prop := ∃ vw vb vw2 vb2 S X, QX w wr E q x W B p W2 B2 p2 vw vb vw2 vb2 S X

theorem Kp.cell {E : Nat → Prop} {a b : World} (h : Kp E a b) {c : Addr} {u : Value} (hc : a.cell? c = some u) (he : E c.block) : b.cell? c = some u := (World.cell?_of_block (w := a) (h c.block he)).trans hc
theorem Kp.trans {E : Nat → Prop} {a b c : World} (h : Kp E a b) (k : Kp E b c) : Kp E a c := fun j hj => (k j hj).trans (h j hj)
theorem Kp.less {E E' : Nat → Prop} {a b : World} (h : Kp E a b) (hE : ∀ j, E' j → E j) : Kp E' a b := fun j hj => h j (hE j hj)

section
variable {w wr w' : World} {E : Nat → Prop} {q x : Nat} {W B W2 B2 W' B' : List Item} {p p2 p' : Int} {vw vb vw2 vb2 : Value} {S X : Nat → Prop}
theorem QX.stepq {vw' vb' : Value} (h : QX w wr E q x W B p W2 B2 p2 vw vb vw2 vb2 S X) (hq : IsQ w' (Grow S wr w') q W' B' p' vw' vb') (hc : Chg S wr w') : QXe w w' E q x W' B' p' W2 B2 p2 ∧ Kp E wr w' :=
  ⟨⟨vw', vb', vw2, vb2, Grow S wr w', X, hq, isx_chg h.x_ hc (fun k hk hs => (h.s_ k hs).2.1 hk), fun j hj => by
      rcases hj.1 with hs | hs
      · exact h.s_ j hs
      · exact ⟨Nat.le_trans h.b_.size hs, fun hx => by have := h.x_.lt j hx; omega, fun he => by have := h.e_ j he; omega⟩,
    h.t_, fun j hj => Nat.lt_of_lt_of_le (h.e_ j hj) hc.size, h.b_.trans (hc.below h.b_.size fun j hj => (h.s_ j hj).1)⟩, fun j hj => hc.block j (h.e_ j hj) (fun hs => (h.s_ j hs).2.2 hj)⟩
theorem QX.stepx {vw' vb' : Value} (h : QX w wr E q x W B p W2 B2 p2 vw vb vw2 vb2 S X) (hx : IsX w' (Grow X wr w') x W' B' p' vw' vb') (hc : Chg X wr w') : QXe w w' E q x W B p W' B' p' ∧ Kp E wr w' :=
  ⟨⟨vw, vb, vw', vb', S, Grow X wr w', isq_chg h.q_ hc (fun k hk hs => (h.s_ k hk).2.1 hs), hx, fun j hj => ⟨(h.s_ j hj).1, fun hx2 => by
      rcases hx2.1 with hs | hs
      · exact (h.s_ j hj).2.1 hs
      · have := h.q_.lt j hj; omega, (h.s_ j hj).2.2⟩,
    fun j hj => by
      rcases hj.1 with hs | hs
      · exact h.t_ j hs
      · exact ⟨Nat.le_trans h.b_.size hs, fun he => by have := h.e_ j he; omega⟩,
    fun j hj => Nat.lt_of_lt_of_le (h.e_ j hj) hc.size, h.b_.trans (hc.below h.b_.size fun j hj => (h.t_ j hj).1)⟩, fun j hj => hc.block j (h.e_ j hj) (fun hs => (h.t_ j hs).2 hj)⟩
theorem QXe.new (h : QXe w wr E q x W B p W2 B2 p2) (hc : Chg (fun _ => False) wr w') : QXe w w' E q x W B p W2 B2 p2 ∧ Kp E wr w' := by
  obtain ⟨vw, vb, vw2, vb2, S, X, h⟩ := h
  exact ⟨⟨vw, vb, vw2, vb2, S, X, isq_chg h.q_ hc (fun _ _ f => f), isx_chg h.x_ hc (fun _ _ f => f), h.s_, h.t_, fun j hj => Nat.lt_of_lt_of_le (h.e_ j hj) hc.size, h.b_.trans (hc.below h.b_.size fun _ f => f.elim)⟩, fun j hj => hc.block j (h.e_ j hj) (fun f => f)⟩
/-- The same, where some of the new blocks are kept from here on. -/
theorem QXe.newE {E' : Nat → Prop} (h : QXe w wr E q x W B p W2 B2 p2) (hc : Chg (fun _ => False) wr w') (hE : ∀ j, E' j → E j ∨ (wr.heap.size ≤ j ∧ j < w'.heap.size)) : QXe w w' E' q x W B p W2 B2 p2 ∧ Kp E wr w' := by
  obtain ⟨vw, vb, vw2, vb2, S, X, h⟩ := h
  refine ⟨⟨vw, vb, vw2, vb2, S, X, isq_chg h.q_ hc (fun _ _ f => f), isx_chg h.x_ hc (fun _ _ f => f), fun j hj => ⟨(h.s_ j hj).1, (h.s_ j hj).2.1, fun he => ?_⟩, fun j hj => ⟨(h.t_ j hj).1, fun he => ?_⟩, fun j hj => ?_, h.b_.trans (hc.below h.b_.size fun _ f => f.elim)⟩, fun j hj => hc.block j (h.e_ j hj) (fun f => f)⟩
  · rcases hE j he with e | e
    · exact (h.s_ j hj).2.2 e
    · have := h.q_.lt j hj; omega
  · rcases hE j he with e | e
    · exact (h.t_ j hj).2 e
    · have := h.x_.lt j hj; omega
  · rcases hE j hj with e | e
    · exact Nat.lt_of_lt_of_le (h.e_ j e) hc.size
    · exact e.2
theorem QXe.less {E' : Nat → Prop} (h : QXe w wr E q x W B p W2 B2 p2) (hE : ∀ j, E' j → E j) : QXe w wr E' q x W B p W2 B2 p2 := by
  obtain ⟨vw, vb, vw2, vb2, S, X, h⟩ := h
  exact ⟨vw, vb, vw2, vb2, S, X, h.q_, h.x_, fun j hj => ⟨(h.s_ j hj).1, (h.s_ j hj).2.1, fun he => (h.s_ j hj).2.2 (hE j he)⟩, fun j hj => ⟨(h.t_ j hj).1, fun he => (h.t_ j hj).2 (hE j he)⟩, fun j hj => h.e_ j (hE j hj), h.b_⟩
/-- A store into a kept block. -/
theorem QXe.turn (h : QXe w wr E q x W B p W2 B2 p2) (hc : Chg E wr w') (hb : ∀ j, E j → w.heap.size ≤ j) : QXe w w' E q x W B p W2 B2 p2 := by
  obtain ⟨vw, vb, vw2, vb2, S, X, h⟩ := h
  exact ⟨vw, vb, vw2, vb2, S, X, isq_chg h.q_ hc (fun k hk => (h.s_ k hk).2.2), isx_chg h.x_ hc (fun k hk => (h.t_ k hk).2), h.s_, h.t_, fun j hj => Nat.lt_of_lt_of_le (h.e_ j hj) hc.size, h.b_.trans (hc.below h.b_.size hb)⟩

theorem push_qx (h : QXe w wr E q x W B p W2 B2 p2) (T : Nat → Prop) (A : Option Addr) (n c : Nat) (l : List Item) (hr : Rd wr T 2 A n (flat l)) (hl : W.length + n ≤ 1099511627776) :
    Calls Try.prog 10 #[.pointer (some ⟨q, 0, none⟩), .slice A n c] wr fun e w' => e = .returned (.int .i64 ((W ++ l).length : Nat)) ∧ QXe w w' E q x (W ++ l) B p W2 B2 p2 ∧ Kp E wr w' := by
  obtain ⟨vw, vb, vw2, vb2, S, X, h⟩ := h
  refine (push_any h.q_ T A n c l hr hl).mono ?_
  rintro e w' ⟨vw', rfl, hq, hc⟩
  exact ⟨rfl, h.stepq hq hc⟩
theorem xpush_qx (h : QXe w wr E q x W B p W2 B2 p2) (T : Nat → Prop) (A : Option Addr) (n c : Nat) (l : List Item) (hr : Rd wr T 2 A n (flat l)) (hl : W2.length + n ≤ 1099511627776) :
    Calls Try.prog 19 #[.pointer (some ⟨x, 0, none⟩), .slice A n c] wr fun e w' => e = .returned (.int .i64 ((W2 ++ l).length : Nat)) ∧ QXe w w' E q x W B p (W2 ++ l) B2 p2 ∧ Kp E wr w' := by
  obtain ⟨vw, vb, vw2, vb2, S, X, h⟩ := h
  refine (xpush_any h.x_ T A n c l hr hl).mono ?_
  rintro e w' ⟨vw', rfl, hq, hc⟩
  exact ⟨rfl, h.stepx hq hc⟩
theorem settle_qx (h : QXe w wr E q x W B p W2 B2 p2) (back : Bool) (hm : B.length + W.length ≤ 1099511627776) (hp0 : 0 ≤ p) (hp1 : p ≤ 1099511627776) :
    Calls Try.prog 12 #[.pointer (some ⟨q, 0, none⟩), .bool back] wr fun e w' => e = .returned (.tuple #[.int .i64 (settleF W B p back).1, .int .i64 (settleF W B p back).2.1]) ∧ QXe w w' E q x (settleF W B p back).2.2.1 [] (settleF W B p back).2.2.2 W2 B2 p2 ∧ Kp E wr w' := by
  obtain ⟨vw, vb, vw2, vb2, S, X, h⟩ := h
  refine (settle_any h.q_ back hm hp0 hp1).mono ?_
  rintro e w' ⟨vw', vb', rfl, hq, hc⟩
  exact ⟨rfl, h.stepq hq hc⟩
theorem xsettle_qx (h : QXe w wr E q x W B p W2 B2 p2) (back : Bool) (hm : B2.length + W2.length ≤ 1099511627776) (hp0 : 0 ≤ p2) (hp1 : p2 ≤ 1099511627776) :
    Calls Try.prog 21 #[.pointer (some ⟨x, 0, none⟩), .bool back] wr fun e w' => e = .returned (.tuple #[.int .i64 (settleF W2 B2 p2 back).1, .bool ((settleF W2 B2 p2 back).2.1 == 0)]) ∧ QXe w w' E q x W B p (settleF W2 B2 p2 back).2.2.1 [] (settleF W2 B2 p2 back).2.2.2 ∧ Kp E wr w' := by
  obtain ⟨vw, vb, vw2, vb2, S, X, h⟩ := h
  refine (xsettle_any h.x_ back hm hp0 hp1).mono ?_
  rintro e w' ⟨vw', vb', rfl, hq, hc⟩
  exact ⟨rfl, h.stepx hq hc⟩
theorem take_qx (h : QXe w wr E q x W B p W2 B2 p2) (n : Int) (hm : W.length ≤ 1099511627776) :
    Calls Try.prog 11 #[.pointer (some ⟨q, 0, none⟩), .int .i64 n] wr fun e w' => ∃ A c, e = .returned (.tuple #[.slice A (takeF W B n).1.length c, .int .i64 (takeF W B n).2.1]) ∧ w'.ownsRow wr.heap.size 26 2 (.slice A (takeF W B n).1.length c) (takeF W B n).1.length (flat (takeF W B n).1) ∧
      QXe w w' (fun j => E j ∨ (Value.slice A (takeF W B n).1.length c).ownBlock = some j) q x (takeF W B n).2.2.1 (takeF W B n).2.2.2 p W2 B2 p2 ∧ Kp E wr w' := by
  obtain ⟨vw, vb, vw2, vb2, S, X, h⟩ := h
  refine (take_any h.q_ n hm).mono ?_
  rintro e w' ⟨A, c, vw', vb', rfl, ho, hq, hc, ha⟩
  obtain ⟨⟨vw3, vb3, vw4, vb4, S4, X4, h4⟩, hk⟩ := h.stepq hq hc
  refine ⟨A, c, rfl, ho, ⟨vw', vb', vw2, vb2, _, X, isq_less (v := .slice A (takeF W B n).1.length c) hq (own_ne_blk ho hq.blk (by omega)) (fun k hk => (ha k hk).2), isx_chg h.x_ hc (fun k hk hs => (h.s_ k hs).2.1 hk), ?_, ?_, ?_, h4.b_⟩, hk⟩
  · intro j hj
    rcases hj.1.1 with hs | hs
    · have := h.s_ j hs
      exact ⟨this.1, this.2.1, fun he => he.elim this.2.2 hj.2⟩
    · exact ⟨Nat.le_trans h.b_.size hs, fun hx => by have := h.x_.lt j hx; omega, fun he => he.elim (fun he => by have := h.e_ j he; omega) hj.2⟩
  · intro j hj
    have := h.t_ j hj
    exact ⟨this.1, fun he => he.elim this.2 (fun e => by have := (ha j e).1; have := h.x_.lt j hj; omega)⟩
  · intro j hj
    rcases hj with e | e
    · exact Nat.lt_of_lt_of_le (h.e_ j e) hc.size
    · exact own_lt ho e
theorem xtake_qx (h : QXe w wr E q x W B p W2 B2 p2) (n : Int) (hm : W2.length ≤ 1099511627776) :
    Calls Try.prog 20 #[.pointer (some ⟨x, 0, none⟩), .int .i64 n] wr fun e w' => ∃ A c, e = .returned (.tuple #[.slice A (takeF W2 B2 n).1.length c, .int .i64 (takeF W2 B2 n).2.1]) ∧ Rd w' (fun j => ¬ E j) 2 A (takeF W2 B2 n).1.length (flat (takeF W2 B2 n).1) ∧
      QXe w w' E q x W B p (takeF W2 B2 n).2.2.1 (takeF W2 B2 n).2.2.2 p2 ∧ Kp E wr w' := by
  obtain ⟨vw, vb, vw2, vb2, S, X, h⟩ := h
  refine (xtake_any h.x_ n hm).mono ?_
  rintro e w' ⟨A, c, vw', vb', rfl, hr, hq, hc⟩
  exact ⟨A, c, rfl, hr.mono (fun k hk _ he => hk.1.elim (fun hx => (h.t_ k hx).2 he) (fun hl => by have := h.e_ k he; omega)), h.stepx hq hc⟩
theorem oldest_qx (h : QXe w wr E q x W B p W2 B2 p2) (hl : B.length + W.length ≤ 1099511627776) :
    Calls Try.prog 15 #[.pointer (some ⟨q, 0, none⟩)] wr fun e w' => e = .returned (.tuple #[.int .i64 (oldF W B).1, .bool (oldF W B).2]) ∧ QXe w w' E q x W B p W2 B2 p2 ∧ Kp E wr w' := by
  have h0 := h
  obtain ⟨vw, vb, vw2, vb2, S, X, h⟩ := h
  exact (oldest_any h.q_ hl).mono fun e w' ⟨he, hc⟩ => ⟨he, h0.new hc⟩
theorem xoldest_qx (h : QXe w wr E q x W B p W2 B2 p2) (hl : B2.length + W2.length ≤ 1099511627776) :
    Calls Try.prog 22 #[.pointer (some ⟨x, 0, none⟩)] wr fun e w' => e = .returned (.tuple #[.int .i64 (oldF W2 B2).1, .bool (oldF W2 B2).2]) ∧ QXe w w' E q x W B p W2 B2 p2 ∧ Kp E wr w' := by
  have h0 := h
  obtain ⟨vw, vb, vw2, vb2, S, X, h⟩ := h
  exact (xoldest_any h.x_ hl).mono fun e w' ⟨he, hc⟩ => ⟨he, h0.new hc⟩
end
end Go.Proofs.Ytpjddmpioledoaa.Q
