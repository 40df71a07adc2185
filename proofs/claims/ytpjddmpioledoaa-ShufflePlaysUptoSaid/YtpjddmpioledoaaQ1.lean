/- The walks of package shuffle: what each method does to a queue. -/
import Derived.Test.YtpjddmpioledoaaProg
import Derived.Test.YtpjddmpioledoaaLib
import Derived.KernelRfl
namespace Go.Proofs.Ytpjddmpioledoaa.Q
open Go.RowKit Go.Proofs.Ytpjddmpioledoaa.Lib
set_option linter.unusedVariables false

abbrev Item := Int × Int
def flat (l : List Item) : List Value := l.flatMap fun x => [.int .i64 x.1, .int .i64 x.2]
theorem flat_len (l : List Item) : (flat l).length = l.length * 2 := by
  induction l with
  | nil => rfl
  | cons x l ih => simp [flat] at ih ⊢; omega
theorem flat_app (a b : List Item) : flat (a ++ b) = flat a ++ flat b := by simp [flat]
theorem flat_one (l : List Item) : ∀ u ∈ flat l, u.oneCell' = true := by
  intro u hu
  simp only [flat, List.mem_flatMap] at hu
  obtain ⟨x, _, hx⟩ := hu
  simp at hx
  rcases hx with rfl | rfl <;> rfl
theorem flat_take (l : List Item) (k : Nat) : (flat l).take (k * 2) = flat (l.take k) := by
  induction l generalizing k with
  | nil => simp [flat]
  | cons x l ih =>
    cases k with
    | zero => simp [flat]
    | succ k =>
      have := ih k
      simp only [flat, List.flatMap_cons, List.take_succ_cons] at this ⊢
      rw [show (k + 1) * 2 = (k * 2 + 1) + 1 from by omega]
      simp [this]
theorem flat_drop (l : List Item) (k : Nat) : (flat l).drop (k * 2) = flat (l.drop k) := by
  induction l generalizing k with
  | nil => simp [flat]
  | cons x l ih =>
    cases k with
    | zero => simp [flat]
    | succ k =>
      have := ih k
      simp only [flat, List.flatMap_cons, List.drop_succ_cons] at this ⊢
      rw [show (k + 1) * 2 = (k * 2 + 1) + 1 from by omega]
      simp [this]

theorem info26 : (Try.prog.info? 26).map (fun i => (i.zero, i.size, i.bytes)) = some (some (.agg #[.int .i64 0, .int .i64 0]), 2, 16) := by kernel_rfl

/-- A queue at block q: what waits, the bundle, how many went; all of it in blocks of S. -/
structure IsQ (w : World) (S : Nat → Prop) (q : Nat) (W B : List Item) (p : Int) (vw vb : Value) : Prop where
  blk : w.heap[q]? = some (.cells #[.func (.func 8) #[] #[], vw, vb, .int .i64 p] 57 (0, 0))
  w_ : w.ownsRow 0 26 2 vw W.length (flat W)
  b_ : w.ownsRow 0 26 2 vb B.length (flat B)
  ne : ∀ k, vw.ownBlock = some k → vb.ownBlock ≠ some k
  sq : S q
  sw : ∀ k, vw.ownBlock = some k → S k
  sb : ∀ k, vb.ownBlock = some k → S k
  lt : ∀ k, S k → k < w.heap.size

theorem IsQ.move {w w' : World} {S : Nat → Prop} {q : Nat} {W B : List Item} {p : Int} {vw vb : Value} (h : IsQ w S q W B p vw vb) (hs : w.heap.size ≤ w'.heap.size) (hm : ∀ k, S k → w'.heap[k]? = w.heap[k]?) : IsQ w' S q W B p vw vb :=
  ⟨(hm q h.sq).trans h.blk, own_move h.w_ fun k hk => hm k (h.sw k hk), own_move h.b_ fun k hk => hm k (h.sb k hk), h.ne, h.sq, h.sw, h.sb, fun k hk => Nat.lt_of_lt_of_le (h.lt k hk) hs⟩

theorem rd_none {w : World} {T : Nat → Prop} {sz n : Nat} {cs : List Value} (h : Rd w T sz none n cs) (hs : 0 < sz) : cs = [] ∧ n = 0 := by
  have hcs : cs = [] := by
    cases cs with
    | nil => rfl
    | cons u l => obtain ⟨ad, h, _⟩ := h.2 0 u rfl; cases h
  refine ⟨hcs, ?_⟩
  have := h.1
  rw [hcs] at this
  rcases Nat.mul_eq_zero.1 this.symm with h | h <;> omega

set_option maxHeartbeats 400000 in
theorem clone_any (T : Nat → Prop) (A : Option Addr) (n c : Nat) (cs : List Value) (w : World) (hr : Rd w T 2 A n cs) (h1 : ∀ u ∈ cs, u.oneCell' = true) (hn : n ≤ 1099511627776) :
    Calls Try.prog 24 #[.slice A n c] w fun e w' => ∃ v, e = .returned v ∧ w'.ownsRow w.heap.size 26 2 v n cs ∧ Chg (fun _ => False) w w' := by
  have he := fun w : World => Go.Lib.run_eql_slice_nil (P := Try.prog) w 29 26 A n c 0 0 Try.underlying29
  cases A with
  | none =>
    obtain ⟨rfl, rfl⟩ := rd_none hr (by omega)
    go_enter Try.func24, Try.ntmps24
    go_wp2_with fail
    go_ret
    exact ⟨_, rfl, own_nil _ _ _ _, Chg.refl _ _⟩
  | some ad =>
    go_enter Try.func24, Try.ntmps24
    go_wp2_with (at_builtin; refine wpList_app _ rfl (.tmp 5) (.tmp 6) 29 rfl w.heap.size 26 2 16 _ Try.underlying29 info26 rfl (by omega) (.slice (some ⟨w.heap.size, 0, none⟩) 0 0) 0 [] rfl ?c1 T (some ad) n c cs rfl ?c2 h1 ?c3 ?c4 ?c5 ?_)
    case c1 => exact ⟨rfl, .inr ⟨w.heap.size, 0, #[], rfl, Nat.le_refl _, blk_new _ _ _, Nat.le_refl _, by simp [maxLen], rfl, rfl⟩⟩
    case c2 => exact hr.new ((Chg.refl _ _).alloc _)
    case c3 => simp only [maxLen]; omega
    case c4 => omega
    case c5 => simp
    intro v1 w1 hown hg hat
    go_wp2
    go_ret
    refine ⟨_, rfl, by simpa using hown, (((Chg.refl _ w).alloc _).trans hg ?_)⟩
    intro k hk hlt
    simp [Value.ownBlock] at hk
    omega

/-! ### the methods -/
set_option maxHeartbeats 400000 in
theorem len_any {w : World} {S : Nat → Prop} {q : Nat} {W B : List Item} {p : Int} {vw vb : Value} (h : IsQ w S q W B p vw vb) :
    Calls Try.prog 14 #[.pointer (some ⟨q, 0, none⟩)] w fun e w' => e = .returned (.int .i64 W.length) ∧ w = w' := by
  obtain ⟨A, c, rfl, hc, _⟩ := own_rd h.w_
  have h1 := blk_cell h.blk 1
  clear h
  go_enter Try.func14, Try.ntmps14
  go_wp2
  go_ret
  exact ⟨rfl, rfl⟩
set_option maxHeartbeats 400000 in
theorem passed_any {w : World} {S : Nat → Prop} {q : Nat} {W B : List Item} {p : Int} {vw vb : Value} (h : IsQ w S q W B p vw vb) :
    Calls Try.prog 13 #[.pointer (some ⟨q, 0, none⟩)] w fun e w' => e = .returned (.int .i64 p) ∧ w = w' := by
  have h1 := blk_cell h.blk 3
  clear h
  go_enter Try.func13, Try.ntmps13
  go_wp2
  go_ret
  exact ⟨rfl, rfl⟩
set_option maxHeartbeats 400000 in
theorem new_any (w : World) :
    Calls Try.prog 7 #[.func (.func 8) #[] #[]] w fun e w' => e = .returned (.pointer (some ⟨w.heap.size, 0, none⟩)) ∧ IsQ w' (· = w.heap.size) w.heap.size [] [] 0 (.slice none 0 0) (.slice none 0 0) ∧ Chg (fun _ => False) w w' := by
  go_enter Try.func7, Try.ntmps7
  go_wp2
  go_ret
  refine ⟨rfl, ⟨blk_new _ _ _, own_nil _ _ _ _, own_nil _ _ _ _, by simp [Value.ownBlock], rfl, by simp [Value.ownBlock], by simp [Value.ownBlock], by simp⟩, (Chg.refl _ _).alloc _⟩
/-- S's blocks and what is new. -/
def Grow (S : Nat → Prop) (w w' : World) : Nat → Prop := fun k => (S k ∨ w.heap.size ≤ k) ∧ k < w'.heap.size
theorem isq_of {w w' : World} {S : Nat → Prop} {q : Nat} {W B : List Item} {p : Int} {vw vb : Value} (hlt : ∀ k, S k → k < w.heap.size) (hq : S q) (hc : Chg S w w')
    (blk : w'.heap[q]? = some (.cells #[.func (.func 8) #[] #[], vw, vb, .int .i64 p] 57 (0, 0))) (hw : w'.ownsRow 0 26 2 vw W.length (flat W)) (hb : w'.ownsRow 0 26 2 vb B.length (flat B))
    (ne : ∀ k, vw.ownBlock = some k → vb.ownBlock ≠ some k) (sw : ∀ k, vw.ownBlock = some k → S k ∨ w.heap.size ≤ k) (sb : ∀ k, vb.ownBlock = some k → S k ∨ w.heap.size ≤ k) :
    IsQ w' (Grow S w w') q W B p vw vb :=
  ⟨blk, hw, hb, ne, ⟨.inl hq, heap_lt blk⟩, fun k hk => ⟨sw k hk, own_lt hw hk⟩, fun k hk => ⟨sb k hk, own_lt hb hk⟩, fun k hk => hk.2⟩

theorem flat_n {w : World} {base e n : Nat} {v : Value} {W : List Item} (h : w.ownsRow base e 2 v n (flat W)) : n = W.length := by
  have := h.1; rw [flat_len] at this; omega
theorem push_end {w w1 : World} {S : Nat → Prop} {q n : Nat} {W W' B : List Item} {p : Int} {vw vb v1 : Value} (h : IsQ w S q W B p vw vb)
    (hg : Chg (fun k => vw.ownBlock = some k) w w1) (ho : w1.ownsRow 0 26 2 v1 n (flat W')) (hat : ∀ k, v1.ownBlock = some k → vw.ownBlock = some k ∨ w.heap.size ≤ k) :
    IsQ (w1.setCell ⟨q, 1, none⟩ v1) (Grow S w (w1.setCell ⟨q, 1, none⟩ v1)) q W' B p v1 vb ∧ Chg S w (w1.setCell ⟨q, 1, none⟩ v1) := by
  obtain rfl := flat_n ho
  have hc : Chg S w (w1.setCell ⟨q, 1, none⟩ v1) := (hg.mono fun k hk _ => h.sw k hk).setCell (fun _ => h.sq) _
  have hb1 := hg.heap h.blk (own_ne_blk h.w_ h.blk (by omega))
  refine ⟨isq_of h.lt h.sq hc (blk_set hb1 1 _) (own_far ho (own_ne_blk ho hb1 (by omega)) _) (own_far (own_chg h.b_ hg fun k hk e => h.ne k e hk) (own_ne_blk h.b_ h.blk (by omega)) _) ?_ ?_ ?_, hc⟩
  · intro k hk hb
    rcases hat k hk with e | e
    · exact h.ne k e hb
    · have := own_lt h.b_ hb; omega
  · exact fun k hk => (hat k hk).imp (h.sw k) id
  · exact fun k hk => .inl (h.sb k hk)

set_option maxHeartbeats 400000 in
theorem push_any {w : World} {S : Nat → Prop} {q : Nat} {W B : List Item} {p : Int} {vw vb : Value} (h : IsQ w S q W B p vw vb)
    (T : Nat → Prop) (A : Option Addr) (n c : Nat) (l : List Item) (hr : Rd w T 2 A n (flat l)) (hl : W.length + n ≤ 1099511627776) :
    Calls Try.prog 10 #[.pointer (some ⟨q, 0, none⟩), .slice A n c] w fun e w' => ∃ vw', e = .returned (.int .i64 ((W ++ l).length : Nat)) ∧ IsQ w' (Grow S w w') q (W ++ l) B p vw' vb ∧ Chg S w w' := by
  obtain ⟨A', c', rfl, hc, _⟩ := own_rd h.w_
  have hn : l.length = n := by have := hr.1; rw [flat_len] at this; omega
  have h1 := blk_cell h.blk 1
  have H := Go.Lib.hid h
  have h2 := h.w_
  clear h
  have HN := Go.Lib.hid hn
  clear hn
  go_enter Try.func10, Try.ntmps10
  go_wp2_with (at_builtin; refine wpList_app _ rfl (.tmp 9) (.tmp 10) 29 rfl 0 26 2 16 _ Try.underlying29 info26 rfl (by omega) (.slice A' W.length c') W.length (flat W) rfl h2 T A n c (flat l) rfl hr (flat_one l) ?c3 ?c4 ?c5 ?_)
  case c3 => simp only [maxLen]; omega
  case c4 => omega
  case c5 => simp
  intro v1 w1 hown hg hat
  have hq : some q ≠ (Value.slice A' W.length c').ownBlock := fun e => own_ne_blk h2 H.out.blk (by omega) e.symm
  have hb1 := hg.heap H.out.blk (fun e => hq e.symm)
  have HN2 := Go.Lib.hid hq
  have HC := Go.Lib.hid hg
  obtain ⟨A1, c1, rfl, hc1, _⟩ := own_rd hown
  have HO := Go.Lib.hid hown
  have HB := Go.Lib.hid hb1
  have e1 := blk_cell hb1 1
  have e2 := blk_free hb1 1
  clear h1 h2 hq hg hb1 hown
  go_wp2
  go_ret
  refine ⟨.slice A1 (W.length + n) c1, by rw [List.length_append, HN.out]; simp, push_end H.out HC.out (by rw [flat_app]; exact HO.out) hat⟩
end Go.Proofs.Ytpjddmpioledoaa.Q
