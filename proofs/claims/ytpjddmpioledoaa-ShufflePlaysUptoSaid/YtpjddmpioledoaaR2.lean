import Derived.Test.YtpjddmpioledoaaR1
namespace Go.Proofs.Ytpjddmpioledoaa.Q
open Go.RowKit Go.Proofs.Ytpjddmpioledoaa.Lib
set_option linter.unusedVariables false

def XTook (w : World) (S : Nat → Prop) (x : Nat) (p : Int) (r : List Item × Int × List Item × List Item) (e : Ending) (w' : World) : Prop :=
  ∃ A c vw vb, e = .returned (.tuple #[.slice A r.1.length c, .int .i64 r.2.1]) ∧ Rd w' (Grow S w w') 2 A r.1.length (flat r.1) ∧ IsX w' (Grow S w w') x r.2.2.1 r.2.2.2 p vw vb ∧ Chg S w w'
theorem isx_same {w : World} {S : Nat → Prop} {x : Nat} {W B : List Item} {p : Int} {vw vb : Value} (h : IsX w S x W B p vw vb) : IsX w (Grow S w w) x W B p vw vb :=
  isx_more h (fun k hk => ⟨.inl hk, h.lt k hk⟩) (fun k hk => hk.2)
def XNo (c : Int) (w : World) (e : Ending) (w' : World) : Prop := e = .returned (.tuple #[.slice none 0 0, .int .i64 c]) ∧ w = w'

set_option maxHeartbeats 400000 in
theorem xtake_batch {w : World} {S : Nat → Prop} {x : Nat} {W B : List Item} {p : Int} {vw vb : Value} (h : IsX w S x W B p vw vb) (n : Int) (hB : B ≠ []) :
    Calls Try.prog 20 #[.pointer (some ⟨x, 0, none⟩), .int .i64 n] w (XNo 171 w) := by
  obtain ⟨A, c, rfl, hc, _⟩ := own_rd h.b_
  have h1 := blk_cell h.blk 1
  have hl : 0 < B.length := List.length_pos_iff.2 hB
  have hl2 : decide ((B.length : Int) > 0) = true := by simp; omega
  clear h hB
  go_enter Try.func20, Try.ntmps20
  go_wp2
  go_ret2
  exact ⟨rfl, rfl⟩
set_option maxHeartbeats 400000 in
theorem xtake_small {w : World} {S : Nat → Prop} {x : Nat} {W : List Item} {p : Int} {vw vb : Value} (h : IsX w S x W [] p vw vb) (n : Int) (hn : n < 1) :
    Calls Try.prog 20 #[.pointer (some ⟨x, 0, none⟩), .int .i64 n] w (XNo 170 w) := by
  obtain ⟨A, c, rfl, hc, _⟩ := own_rd h.b_
  have h1 := blk_cell h.blk 1
  have hl2 : decide (n < 1) = true := by simpa using hn
  clear h
  go_enter Try.func20, Try.ntmps20
  go_wp2
  go_ret2
  exact ⟨rfl, rfl⟩
set_option maxHeartbeats 400000 in
theorem xtake_empty {w : World} {S : Nat → Prop} {x : Nat} {p : Int} {vw vb : Value} (h : IsX w S x [] [] p vw vb) (n : Int) (hn : ¬ n < 1) :
    Calls Try.prog 20 #[.pointer (some ⟨x, 0, none⟩), .int .i64 n] w (XNo 170 w) := by
  obtain ⟨A, c, rfl, hc, _⟩ := own_rd h.b_
  obtain ⟨A', c', rfl, hc', _⟩ := own_rd h.w_
  have h1 := blk_cell h.blk 1
  have h2 := blk_cell h.blk 0
  have hl2 : decide (n < 1) = false := by simpa using hn
  clear h
  go_enter Try.func20, Try.ntmps20
  go_wp2
  go_ret2
  exact ⟨rfl, rfl⟩

/-- Rows of the call's own, apart. -/
structure Two (w wr : World) (va vb : Value) (a b : List Item) : Prop where
  a_ : wr.ownsRow 0 26 2 va a.length (flat a)
  b_ : wr.ownsRow 0 26 2 vb b.length (flat b)
  na : ∀ k, va.ownBlock = some k → w.heap.size ≤ k ∧ vb.ownBlock ≠ some k
  nb : ∀ k, vb.ownBlock = some k → w.heap.size ≤ k ∧ va.ownBlock ≠ some k
theorem Two.alloc {w wr : World} {va vb : Value} {a b : List Item} (h : Two w wr va vb a b) (o : Obj) : Two w (wr.alloc o) va vb a b := ⟨own_alloc h.a_ o, own_alloc h.b_ o, h.na, h.nb⟩
theorem Two.left {w wr w1 : World} {va vb v1 : Value} {a b : List Item} {x : Item} {n : Nat} (h : Two w wr va vb a b) (hs : w.heap.size ≤ wr.heap.size) (ho : w1.ownsRow 0 26 2 v1 n (flat a ++ [.int .i64 x.1, .int .i64 x.2])) (hg : Chg (fun k => va.ownBlock = some k) wr w1) (hat : ∀ k, v1.ownBlock = some k → va.ownBlock = some k ∨ wr.heap.size ≤ k) :
    Two w w1 v1 vb (a ++ [x]) b := by
  have e : flat a ++ [.int .i64 x.1, .int .i64 x.2] = flat (a ++ [x]) := by simp [flat]
  rw [e] at ho
  obtain rfl := flat_n ho
  refine ⟨ho, own_chg h.b_ hg fun k hk e => (h.nb k hk).2 e, fun k hk => ?_, fun k hk => ⟨(h.nb k hk).1, fun e => ?_⟩⟩
  · rcases hat k hk with e | e
    · exact h.na k e
    · exact ⟨by omega, fun e2 => by have := own_lt h.b_ e2; omega⟩
  · rcases hat k e with e2 | e2
    · exact (h.nb k hk).2 e2
    · have := own_lt h.b_ hk; omega
theorem Two.swap {w wr : World} {va vb : Value} {a b : List Item} (h : Two w wr va vb a b) : Two w wr vb va b a := ⟨h.b_, h.a_, h.nb, h.na⟩

theorem take_take_lt {W : List Item} {k m : Nat} {x : Item} (hx : W[k]? = some x) : (W.take (k + 1)).take m = (if k < m then (W.take k).take m ++ [x] else (W.take k).take m) ∧ (W.take (k + 1)).drop m = (if k < m then (W.take k).drop m else (W.take k).drop m ++ [x]) := by
  have hk : k < W.length := (List.getElem?_eq_some_iff.1 hx).1
  rw [List.take_add_one, hx]
  have hl : (W.take k).length = k := by rw [List.length_take]; omega
  simp only [Option.toList, List.take_append, List.drop_append, hl]
  split
  · rename_i h
    have e1 : [x].take (m - k) = [x] := List.take_of_length_le (by simp; omega)
    have e2 : [x].drop (m - k) = [] := List.drop_of_length_le (by simp; omega)
    rw [e1, e2]; simp
  · rename_i h
    have e : m - k = 0 := by omega
    rw [e]; simp

theorem xtake_end {w wr : World} {S : Nat → Prop} {x : Nat} {W ta td : List Item} {p : Int} {vw vb : Value} {Aa Ab : Option Addr} {ca cb : Nat} (h : IsX w S x W [] p vw vb) (hC : Chg (fun _ => False) w wr) (hT : Two w wr (.slice Aa ta.length ca) (.slice Ab td.length cb) ta td) :
    XTook w S x p (ta, 0, td, ta) (.returned (.tuple #[.slice Aa ta.length ca, .int .i64 0])) ((wr.setCell ⟨x, 1, none⟩ (.slice Aa ta.length ca)).setCell ⟨x, 0, none⟩ (.slice Ab td.length cb)) := by
  have b0 := hC.heap h.blk (fun f => f)
  have ea := own_ne_blk hT.a_ b0 (by omega)
  have eb := own_ne_blk hT.b_ b0 (by omega)
  have hc : Chg S w ((wr.setCell ⟨x, 1, none⟩ (.slice Aa ta.length ca)).setCell ⟨x, 0, none⟩ (.slice Ab td.length cb)) := (((hC.mono fun _ f _ => f.elim)).setCell (fun _ => h.sq) _).setCell (fun _ => h.sq) _
  have oa := own_far (p := ⟨x, 0, none⟩) (own_far (p := ⟨x, 1, none⟩) hT.a_ ea (.slice Aa ta.length ca)) ea (.slice Ab td.length cb)
  have ob := own_far (p := ⟨x, 0, none⟩) (own_far (p := ⟨x, 1, none⟩) hT.b_ eb (.slice Aa ta.length ca)) eb (.slice Ab td.length cb)
  refine ⟨Aa, ca, .slice Ab td.length cb, .slice Aa ta.length ca, rfl, (Rd.of_own oa).mono (fun k hk hl => ⟨.inr (hT.na k hk).1, hl⟩), isx_of h.sq hc (blk_set (blk_set b0 1 _) 0 _) ob oa (fun k hk => .inr (hT.nb k hk).1) (fun k hk => .inr (hT.na k hk).1), hc⟩

set_option maxRecDepth 100000 in
set_option maxHeartbeats 1000000 in
theorem xtake_yes {w : World} {S : Nat → Prop} {x : Nat} {W : List Item} {p : Int} {vw vb : Value} (h : IsX w S x W [] p vw vb) (n : Int) (m : Nat) (hn : 1 ≤ n) (hm : m = n.toNat) (hW : W ≠ []) (hl : W.length ≤ 1099511627776) :
    Calls Try.prog 20 #[.pointer (some ⟨x, 0, none⟩), .int .i64 n] w (XTook w S x p (W.take m, 0, W.drop m, W.take m)) := by
  obtain ⟨A, c, rfl, hc, _⟩ := own_rd h.b_
  obtain ⟨A', c', rfl, hc', hrw⟩ := own_rd h.w_
  have h1 := blk_cell h.blk 1
  have h0 := blk_cell h.blk 0
  have hl2 : decide (n < 1) = false := by simp; omega
  have hlW : 0 < W.length := List.length_pos_iff.2 hW
  have hd : ((W.length : Int) == 0) = false := beq_eq_false_iff_ne.2 (by omega)
  have H := Go.Lib.hid h
  have HM := Go.Lib.hid hm
  clear h hm hW
  go_enter Try.func20, Try.ntmps20
  go_wp2_with fail
  clear h1
  go_loopg [6, 7, 8] W.length (fun g va vb i wr => ∃ (k : Nat), k ≤ W.length ∧ g = W.length - k ∧ i = .int .i64 k ∧ Two w wr va vb ((W.take k).take m) ((W.take k).drop m) ∧ Chg (fun _ => False) w wr)
  case atStart => exact ⟨0, by omega, rfl, rfl, ⟨by simpa [flat] using own_nil _ _ _ _, by simpa [flat] using own_nil _ _ _ _, by simp [Value.ownBlock], by simp [Value.ownBlock]⟩, Chg.refl _ _⟩
  case round =>
    obtain ⟨k, hk, hg, rfl, hT, hC⟩ := hrel
    have HG := Go.Lib.hid hg
    have c0 := hC.cell h0 (fun f => f)
    clear hg
    by_cases hlt : k < W.length
    · obtain ⟨y, hy⟩ : ∃ y, W[k]? = some y := ⟨_, List.getElem?_eq_getElem hlt⟩
      obtain ⟨ad, rfl, _, y0, y1⟩ := rd_item (hrw.new hC) hy
      obtain ⟨t1, t2⟩ := take_take_lt (m := m) hy
      have hx2 : W.length * 1 ≤ 1099511627776 := by omega
      have hla : ((W.take k).take m).length ≤ W.length := by simp; omega
      have hlb : ((W.take k).drop m).length ≤ W.length := by simp; omega
      have HY := Go.Lib.hid hy
      have HT := Go.Lib.hid hT
      clear hy hT
      by_cases hkm : k < m
      · rw [if_pos hkm] at t1 t2
        have T1 := Go.Lib.hid t1
        have T2 := Go.Lib.hid t2
        have hkn : decide ((k : Int) < n) = true := by have := HM.out; simp; omega
        clear t1 t2 hkm
        go_wp2_with (at_builtin; refine wpList_app _ rfl (.tmp 37) (.tmp 45) 29 rfl 0 26 2 16 _ Try.underlying29 info26 rfl (by omega) _ _ _ rfl (HT.out.alloc _).a_ _ (some ⟨wr.heap.size, 0, none⟩) 1 1 [.int .i64 y.1, .int .i64 y.2] rfl (rd_new wr [.int .i64 y.1, .int .i64 y.2] 26 2 1 rfl) ?c0 ?c3 ?c4 ?c5 ?_)
        case c0 => intro u hu; simp at hu; rcases hu with rfl | rfl <;> rfl
        case c3 => simp only [maxLen]; omega
        case c4 => omega
        case c5 => simp
        intro v1 w1 ho1 hg1 ha1
        have T3 := (HT.out.alloc (.cells #[.int .i64 y.1, .int .i64 y.2] 26)).left (Nat.le_trans hC.size (by simp)) ho1 hg1 (by simpa using ha1)
        have C3 := (hC.alloc (.cells #[.int .i64 y.1, .int .i64 y.2] 26)).trans hg1 (fun b hb hlb => by have := (HT.out.na b hb).1; omega)
        have R3 := Go.Lib.hid (And.intro T3 C3)
        clear T3 C3 ho1 hg1 ha1
        go_wp2
        go_roundg (W.length - (k + 1))
        case measure => have := HG.out; omega
        case rel => exact ⟨k + 1, by omega, rfl, by go_num, by rw [T1.out, T2.out]; exact R3.out.1, R3.out.2⟩
      · rw [if_neg hkm] at t1 t2
        have T1 := Go.Lib.hid t1
        have T2 := Go.Lib.hid t2
        have hkn : decide ((k : Int) < n) = false := by have := HM.out; simp; omega
        clear t1 t2 hkm
        go_wp2_with (at_builtin; refine wpList_app _ rfl (.tmp 47) (.tmp 55) 29 rfl 0 26 2 16 _ Try.underlying29 info26 rfl (by omega) _ _ _ rfl (HT.out.alloc _).b_ _ (some ⟨wr.heap.size, 0, none⟩) 1 1 [.int .i64 y.1, .int .i64 y.2] rfl (rd_new wr [.int .i64 y.1, .int .i64 y.2] 26 2 1 rfl) ?d0 ?d3 ?d4 ?d5 ?_)
        case d0 => intro u hu; simp at hu; rcases hu with rfl | rfl <;> rfl
        case d3 => simp only [maxLen]; omega
        case d4 => omega
        case d5 => simp
        intro v1 w1 ho1 hg1 ha1
        have T3 := ((HT.out.swap.alloc (.cells #[.int .i64 y.1, .int .i64 y.2] 26)).left (Nat.le_trans hC.size (by simp)) ho1 hg1 (by simpa using ha1)).swap
        have C3 := (hC.alloc (.cells #[.int .i64 y.1, .int .i64 y.2] 26)).trans hg1 (fun b hb hlb => by have := (HT.out.nb b hb).1; omega)
        have R3 := Go.Lib.hid (And.intro T3 C3)
        clear T3 C3 ho1 hg1 ha1
        go_wp2
        go_roundg (W.length - (k + 1))
        case measure => have := HG.out; omega
        case rel => exact ⟨k + 1, by omega, rfl, by go_num, by rw [T1.out, T2.out]; exact R3.out.1, R3.out.2⟩
    · have hke : k = W.length := by omega
      subst hke
      rw [List.take_of_length_le (Nat.le_refl _)] at hT
      generalize W.take m = ta at *
      generalize W.drop m = td at *
      obtain ⟨Aa, ca, ea, hca, _⟩ := own_rd hT.a_
      obtain ⟨Ab, cb, eb, hcb, _⟩ := own_rd hT.b_
      subst ea eb
      have b0 := hC.heap H.out.blk (fun f => f)
      have b1 := blk_set b0 1 (.slice Aa ta.length ca)
      have f0 := blk_free b0 1
      have c1 := blk_cell b0 1
      have g0 := blk_free b1 0
      have e0 := blk_cell b1 0
      have HT := Go.Lib.hid hT
      have HB1 := Go.Lib.hid b1
      clear hT b0 b1 hrw
      go_wp2
      go_ret2
      exact xtake_end H.out hC HT.out
end Go.Proofs.Ytpjddmpioledoaa.Q
