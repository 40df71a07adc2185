import Derived.Test.YtpjddmpioledoaaQ1
namespace Go.Proofs.Ytpjddmpioledoaa.Q
open Go.RowKit Go.Proofs.Ytpjddmpioledoaa.Lib
set_option linter.unusedVariables false

/-- A second Take, or one of nothing: an error, and nothing turns. -/
def TakeNo (c : Int) (w : World) (e : Ending) (w' : World) : Prop := e = .returned (.tuple #[.slice none 0 0, .int .i64 c]) ∧ w = w'

set_option maxHeartbeats 400000 in
theorem take_batch {w : World} {S : Nat → Prop} {q : Nat} {W B : List Item} {p : Int} {vw vb : Value} (h : IsQ w S q W B p vw vb) (n : Int) (hB : B ≠ []) :
    Calls Try.prog 11 #[.pointer (some ⟨q, 0, none⟩), .int .i64 n] w (TakeNo 171 w) := by
  obtain ⟨A, c, rfl, hc, _⟩ := own_rd h.b_
  have h1 := blk_cell h.blk 2
  have hl : 0 < B.length := List.length_pos_iff.2 hB
  have hl2 : decide ((B.length : Int) > 0) = true := by simp; omega
  clear h hB
  go_enter Try.func11, Try.ntmps11
  go_wp2
  go_ret2
  exact ⟨rfl, rfl⟩
set_option maxHeartbeats 400000 in
theorem take_small {w : World} {S : Nat → Prop} {q : Nat} {W : List Item} {p : Int} {vw vb : Value} (h : IsQ w S q W [] p vw vb) (n : Int) (hn : n < 1) :
    Calls Try.prog 11 #[.pointer (some ⟨q, 0, none⟩), .int .i64 n] w (TakeNo 170 w) := by
  obtain ⟨A, c, rfl, hc, _⟩ := own_rd h.b_
  have h1 := blk_cell h.blk 2
  have hl2 : decide (n < 1) = true := by simpa using hn
  clear h
  go_enter Try.func11, Try.ntmps11
  go_wp2
  go_ret2
  exact ⟨rfl, rfl⟩
set_option maxHeartbeats 400000 in
theorem take_empty {w : World} {S : Nat → Prop} {q : Nat} {p : Int} {vw vb : Value} (h : IsQ w S q [] [] p vw vb) (n : Int) (hn : ¬ n < 1) :
    Calls Try.prog 11 #[.pointer (some ⟨q, 0, none⟩), .int .i64 n] w (TakeNo 170 w) := by
  obtain ⟨A, c, rfl, hc, _⟩ := own_rd h.b_
  obtain ⟨A', c', rfl, hc', _⟩ := own_rd h.w_
  have h1 := blk_cell h.blk 2
  have h2 := blk_cell h.blk 1
  have hl2 : decide (n < 1) = false := by simpa using hn
  clear h
  go_enter Try.func11, Try.ntmps11
  go_wp2
  go_ret2
  exact ⟨rfl, rfl⟩
theorem take_end {w w1 w2 w3 : World} {S : Nat → Prop} {q : Nat} {W W' B' : List Item} {p : Int} {vw vb v1 v2 : Value} {k n : Nat} (h : IsQ w S q W [] p vw vb)
    (c1 : Chg (fun _ => False) w w1) (c2 : Chg (fun _ => False) (w1.setCell ⟨q, 2, none⟩ v1) w2) (c3 : Chg (fun _ => False) (w2.setCell ⟨q, 1, none⟩ v2) w3)
    (o1 : w1.ownsRow w.heap.size 26 2 v1 k (flat B')) (o2 : w2.ownsRow (w1.setCell ⟨q, 2, none⟩ v1).heap.size 26 2 v2 n (flat W')) (hk : k = B'.length) (hn : n = W'.length) :
    IsQ w3 (Grow S w w3) q W' B' p v2 v1 ∧ Chg S w w3 := by
  subst hk hn
  have b1 := c1.heap h.blk (fun f => f)
  have b2 := c2.heap (blk_set b1 2 v1) (fun f => f)
  have b3 := c3.heap (blk_set b2 1 v2) (fun f => f)
  have s1 : w.heap.size ≤ w1.heap.size := c1.size
  have s2 : (w1.setCell ⟨q, 2, none⟩ v1).heap.size = w1.heap.size := by simp [World.setCell]
  have hc : Chg S w w3 := ((((c1.mono fun _ f _ => f.elim).setCell (fun _ => h.sq) _).step c2).setCell (fun _ => h.sq) _).step c3
  have e1 := own_ne_blk o1 b1 (by omega)
  have e2 := own_ne_blk o2 b2 (by omega)
  refine ⟨isq_of h.lt h.sq hc b3 ?_ ?_ ?_ ?_ ?_, hc⟩
  · exact own_base (own_chg (own_far o2 e2 _) c3 fun _ _ f => f) (Nat.zero_le _)
  · exact own_base (own_chg (own_far (own_chg (own_far o1 e1 _) c2 fun _ _ f => f) e1 _) c3 fun _ _ f => f) (Nat.zero_le _)
  · intro j hj hb
    have := (o2.lt j hj).1
    have := own_lt o1 hb
    omega
  · intro j hj
    have := (o2.lt j hj).1
    right; omega
  · intro j hj
    have := (o1.lt j hj).1
    right; omega

theorem and_and {a b c : Prop} (h : a ∧ b) (hc : c) : a ∧ b ∧ c := ⟨h.1, h.2, hc⟩
theorem take_apart {w w1 w2 w3 : World} {q : Nat} {v1 v2 v3 : Value} {n1 n2 n3 : Nat} {x1 x2 x3 : List Value} (c1 : Chg (fun _ => False) w w1) (c2 : Chg (fun _ => False) (w1.setCell ⟨q, 2, none⟩ v1) w2)
    (o1 : w1.ownsRow w.heap.size 26 2 v1 n1 x1) (o2 : w2.ownsRow (w1.setCell ⟨q, 2, none⟩ v1).heap.size 26 2 v2 n2 x2) (o3 : w3.ownsRow (w2.setCell ⟨q, 1, none⟩ v2).heap.size 26 2 v3 n3 x3) :
    ∀ j, v3.ownBlock = some j → w.heap.size ≤ j ∧ v2.ownBlock ≠ some j ∧ v1.ownBlock ≠ some j := by
  intro j hj
  have s1 : w.heap.size ≤ w1.heap.size := c1.size
  have s2 : (w1.setCell ⟨q, 2, none⟩ v1).heap.size = w1.heap.size := by simp [World.setCell]
  have s3 : (w2.setCell ⟨q, 1, none⟩ v2).heap.size = w2.heap.size := by simp [World.setCell]
  have s4 := c2.size
  have := (o3.lt j hj).1
  refine ⟨by omega, fun e => ?_, fun e => ?_⟩
  · have := own_lt o2 e; omega
  · have := own_lt o1 e; omega

theorem size26 : (Try.prog.info? 26).map (·.size) = some 2 := by kernel_rfl
set_option maxHeartbeats 400000 in
theorem take_core {w : World} {S : Nat → Prop} {q : Nat} {W : List Item} {p : Int} {vw vb : Value} (h : IsQ w S q W [] p vw vb) (n : Int) (k : Nat) (hk0 : 1 ≤ k) (hk1 : k ≤ W.length) (hn1 : 1 ≤ n) (hn : k = n ∨ (W.length : Int) < n ∧ k = W.length) (hm : W.length ≤ 1099511627776) :
    Calls Try.prog 11 #[.pointer (some ⟨q, 0, none⟩), .int .i64 n] w fun e w' => ∃ v vw' vb', e = .returned (.tuple #[v, .int .i64 0]) ∧ w'.ownsRow w.heap.size 26 2 v k (flat (W.take k)) ∧ IsQ w' (Grow S w w') q (W.drop k) (W.take k) p vw' vb' ∧ Chg S w w' ∧ (∀ j, v.ownBlock = some j → w.heap.size ≤ j ∧ vw'.ownBlock ≠ some j ∧ vb'.ownBlock ≠ some j) := by
  obtain ⟨A, c, rfl, hc, _⟩ := own_rd h.b_
  obtain ⟨A', c', rfl, hc', hr⟩ := own_rd h.w_
  have h1 := blk_cell h.blk 2
  have h2 := blk_cell h.blk 1
  have hl2 : decide (n < 1) = false := by simp; omega
  have hd : ((W.length : Int) == 0) = false := beq_eq_false_iff_ne.2 (by omega)
  have H := Go.Lib.hid h
  clear h
  have HT := Go.Lib.hid h2
  clear h2
  have h2 := HT.out
  have hmin : (if (W.length : Int) < n then (W.length : Int) else n) = (k : Int) := by split <;> omega
  clear hn
  · have hfrom := fun w => run_from (P := Try.prog) 29 26 2 Try.underlying29 size26 A' W.length c' _ hk1 w
    go_enter Try.func11, Try.ntmps11
    go_wp2_with fail
    refine (clone_any _ _ _ _ _ _ (hr.take hk1) ?_ (by omega)).mono ?_
    · intro u hu; exact flat_one W u (List.mem_of_mem_take hu)
    rintro e w1 ⟨v1, rfl, ho1, hc1⟩
    have b1 := hc1.heap H.out.blk (fun f => f)
    obtain ⟨A1, c1, rfl, hcc1, hr1⟩ := own_rd ho1
    have HC1 := Go.Lib.hid hc1
    have HO1 := Go.Lib.hid ho1
    have HB1 := Go.Lib.hid b1
    have x1 := blk_cell b1 1
    have x2 := blk_cell b1 2
    have f1 := blk_free b1 1
    have f2 := blk_free b1 2
    clear h1 h2 hc1 ho1 b1
    go_wp2_with fail
    refine (clone_any _ _ _ _ _ _ (((hr.new HC1.out).move ?_).cutA hk1 hc') ?_ (by omega)).mono ?_
    · intro k hk _
      refine Below.heap_setCell _ _ _ _ ?_
      rintro rfl
      exact own_ne_blk H.out.w_ H.out.blk (by omega) hk
    · intro u hu; exact flat_one W u (List.mem_of_mem_drop hu)
    rintro e w2 ⟨v2, rfl, ho2, hc2⟩
    have b2 := hc2.heap (blk_set HB1.out 2 _) (fun f => f)
    have HC2 := Go.Lib.hid hc2
    have HO2 := Go.Lib.hid ho2
    have HB2 := Go.Lib.hid b2
    obtain ⟨A2, c2, rfl, hcc2, hr2⟩ := own_rd ho2
    clear x1 x2 f1 f2 hc2 ho2
    have x1 := blk_cell b2 1
    have x2 := blk_cell b2 2
    have f1 := blk_free b2 1
    have f2 := blk_free b2 2
    clear b2
    go_wp2_with fail
    have n1 : ∀ j, (Value.slice A1 k c1).ownBlock = some j → j ≠ q := fun j hj e => own_ne_blk HO1.out HB1.out (by omega) (e ▸ hj)
    have n2 : ∀ j, (Value.slice A2 (W.length - k) c2).ownBlock = some j → j ≠ q := fun j hj e => own_ne_blk HO2.out HB2.out (by omega) (e ▸ hj)
    have r1 : Rd (w2.setCell ⟨q, 1, none⟩ (Value.slice A2 (W.length - k) c2)) _ 2 A1 k _ :=
      ((hr1.move (w' := w1.setCell ⟨q, 2, none⟩ (Value.slice A1 k c1)) fun j hj _ => Below.heap_setCell _ _ _ _ (n1 j hj)).new HC2.out).move fun j hj _ => Below.heap_setCell _ _ _ _ (n1 j hj)
    refine (clone_any _ _ _ _ _ _ r1 ?_ (by omega)).mono ?_
    · intro u hu; exact flat_one W u (List.mem_of_mem_take hu)
    rintro e w3 ⟨v3, rfl, ho3, hc3⟩
    have HC3 := Go.Lib.hid hc3
    have HO3 := Go.Lib.hid ho3
    clear x1 x2 f1 f2 hc3 ho3 n1 n2 r1
    go_wp2
    go_ret2
    refine ⟨v3, .slice A2 (W.length - k) c2, .slice A1 k c1, rfl, ?_, ?_⟩
    · rw [← flat_take]; refine own_base HO3.out ?_
      have := HC1.out.size
      have := HC2.out.size
      simp [World.setCell] at *; omega
    · refine and_and (take_end H.out HC1.out HC2.out HC3.out (by rw [flat_take] at HO1; exact HO1.out) (by rw [flat_drop] at HO2; exact HO2.out) (by rw [List.length_take]; omega) (by simp)) ?_
      exact take_apart HC1.out HC2.out HO1.out HO2.out HO3.out

set_option maxHeartbeats 400000 in
theorem settle_no {w : World} {S : Nat → Prop} {q : Nat} {W : List Item} {p : Int} {vw vb : Value} (h : IsQ w S q W [] p vw vb) :
    Calls Try.prog 25 #[.pointer (some ⟨q, 0, none⟩)] w fun e w' => e = .returned (.tuple #[.slice none 0 0, .int .i64 171]) ∧ w = w' := by
  obtain ⟨A, c, rfl, hc, _⟩ := own_rd h.b_
  have h1 := blk_cell h.blk 2
  clear h
  go_enter Try.func25, Try.ntmps25
  go_wp2
  go_ret2
  exact ⟨rfl, rfl⟩
set_option maxHeartbeats 400000 in
theorem settle_yes {w : World} {S : Nat → Prop} {q : Nat} {W B : List Item} {p : Int} {vw vb : Value} (h : IsQ w S q W B p vw vb) (hB : B ≠ []) :
    Calls Try.prog 25 #[.pointer (some ⟨q, 0, none⟩)] w fun e w' => e = .returned (.tuple #[vb, .int .i64 0]) ∧ w.setCell ⟨q, 2, none⟩ (.slice none 0 0) = w' := by
  obtain ⟨A, c, rfl, hc, _⟩ := own_rd h.b_
  have h1 := blk_cell h.blk 2
  have h2 := blk_free h.blk 2
  have hl : ((B.length : Int) == 0) = false := beq_eq_false_iff_ne.2 (by have := List.length_pos_iff.2 hB; omega)
  clear h
  go_enter Try.func25, Try.ntmps25
  go_wp2
  go_ret2
  exact ⟨rfl, rfl⟩
theorem isq_passed {w : World} {S : Nat → Prop} {q : Nat} {W B : List Item} {p : Int} {vw vb : Value} (h : IsQ w S q W B p vw vb) (p' : Int) : IsQ (w.setCell ⟨q, 3, none⟩ (.int .i64 p')) S q W B p' vw vb :=
  ⟨blk_set h.blk 3 _, own_far h.w_ (own_ne_blk h.w_ h.blk (by omega)) _, own_far h.b_ (own_ne_blk h.b_ h.blk (by omega)) _, h.ne, h.sq, h.sw, h.sb, fun k hk => by simpa [World.setCell] using h.lt k hk⟩
theorem isq_nobundle {w : World} {S : Nat → Prop} {q : Nat} {W B : List Item} {p : Int} {vw vb : Value} (h : IsQ w S q W B p vw vb) : IsQ (w.setCell ⟨q, 2, none⟩ (.slice none 0 0)) S q W [] p vw (.slice none 0 0) :=
  ⟨blk_set h.blk 2 _, own_far h.w_ (own_ne_blk h.w_ h.blk (by omega)) _, own_nil _ _ _ _, by simp [Value.ownBlock], h.sq, h.sw, by simp [Value.ownBlock], fun k hk => by simpa [World.setCell] using h.lt k hk⟩
theorem isq_more {w : World} {S S' : Nat → Prop} {q : Nat} {W B : List Item} {p : Int} {vw vb : Value} (h : IsQ w S q W B p vw vb) (hS : ∀ k, S k → S' k) (hl : ∀ k, S' k → k < w.heap.size) : IsQ w S' q W B p vw vb :=
  ⟨h.blk, h.w_, h.b_, h.ne, hS _ h.sq, fun k hk => hS _ (h.sw k hk), fun k hk => hS _ (h.sb k hk), hl⟩
theorem isq_grow {w0 w : World} {S : Nat → Prop} {q : Nat} {W B : List Item} {p : Int} {vw vb : Value} (h : IsQ w S q W B p vw vb) : IsQ w (Grow S w0 w) q W B p vw vb :=
  isq_more h (fun k hk => ⟨.inl hk, h.lt k hk⟩) (fun k hk => hk.2)

set_option maxHeartbeats 400000 in
theorem ack_no {w : World} {S : Nat → Prop} {q : Nat} {W : List Item} {p : Int} {vw vb : Value} (h : IsQ w S q W [] p vw vb) (hp1 : -1099511627776 ≤ p) (hp2 : p ≤ 1099511627776) :
    Calls Try.prog 17 #[.pointer (some ⟨q, 0, none⟩)] w fun e w' => e = .returned (.tuple #[.int .i64 0, .int .i64 171]) ∧ IsQ w' (Grow S w w') q W [] p vw vb ∧ Chg S w w' := by
  have h1 := blk_cell h.blk 3
  have h2 := blk_free h.blk 3
  have H := Go.Lib.hid h
  clear h
  go_enter Try.func17, Try.ntmps17
  go_wp2_with (go_at_call 25; refine (settle_no H.out).mono ?_; rintro e w' ⟨rfl, rfl⟩)
  go_ret2
  exact ⟨rfl, isq_grow (isq_passed H.out _), (Chg.refl _ _).setCell (fun _ => H.out.sq) _⟩
set_option maxHeartbeats 400000 in
theorem ack_yes {w : World} {S : Nat → Prop} {q : Nat} {W B : List Item} {p : Int} {vw vb : Value} (h : IsQ w S q W B p vw vb) (hB : B ≠ []) (hp1 : 0 ≤ p) (hp2 : p ≤ 1099511627776) (hb : B.length ≤ 1099511627776) :
    Calls Try.prog 17 #[.pointer (some ⟨q, 0, none⟩)] w fun e w' => ∃ vb', e = .returned (.tuple #[.int .i64 B.length, .int .i64 0]) ∧ IsQ w' (Grow S w w') q W [] (p + B.length) vw vb' ∧ Chg S w w' := by
  have H := Go.Lib.hid h
  have H1 := Go.Lib.hid (isq_nobundle h)
  have hx := blk_cell H1.out.blk 3
  have hy := blk_free H1.out.blk 3
  obtain ⟨A, c, rfl, hc, _⟩ := own_rd h.b_
  clear h
  go_enter Try.func17, Try.ntmps17
  go_wp2_with (go_at_call 25; refine (settle_yes H.out hB).mono ?_; rintro e w' ⟨rfl, rfl⟩)
  go_ret2
  exact ⟨_, rfl, isq_grow (isq_passed H1.out _), ((Chg.refl _ _).setCell (fun _ => H.out.sq) _).setCell (fun _ => H.out.sq) _⟩

theorem nack_end {w w2 : World} {S : Nat → Prop} {q n : Nat} {W B W' : List Item} {p : Int} {vw vb v1 : Value} (h : IsQ w S q W B p vw vb)
    (hg : Chg (fun k => vb.ownBlock = some k) (w.setCell ⟨q, 2, none⟩ (.slice none 0 0)) w2) (ho : w2.ownsRow 0 26 2 v1 n (flat W')) (hat : ∀ k, v1.ownBlock = some k → vb.ownBlock = some k ∨ w.heap.size ≤ k) :
    IsQ (w2.setCell ⟨q, 1, none⟩ v1) (Grow S w (w2.setCell ⟨q, 1, none⟩ v1)) q W' [] p v1 (.slice none 0 0) ∧ Chg S w (w2.setCell ⟨q, 1, none⟩ v1) := by
  obtain rfl := flat_n ho
  have hc : Chg S w (w2.setCell ⟨q, 1, none⟩ v1) := ((((Chg.refl S w).setCell (p := ⟨q, 2, none⟩) (fun _ => h.sq) (.slice none 0 0))).trans hg (fun k hk _ => h.sb k hk)).setCell (fun _ => h.sq) _
  have b1 := hg.heap (blk_set h.blk 2 (.slice none 0 0)) (own_ne_blk h.b_ h.blk (by omega))
  refine ⟨isq_of h.lt h.sq hc (blk_set b1 1 _) (own_far ho (own_ne_blk ho b1 (by omega)) _) (own_nil _ _ _ _) (by simp [Value.ownBlock]) ?_ (by simp [Value.ownBlock]), hc⟩
  intro k hk
  rcases hat k hk with e | e
  · exact .inl (h.sb k e)
  · exact .inr e

set_option maxHeartbeats 400000 in
theorem nack_no {w : World} {S : Nat → Prop} {q : Nat} {W : List Item} {p : Int} {vw vb : Value} (h : IsQ w S q W [] p vw vb) (hW : W.length ≤ 1099511627776) :
    Calls Try.prog 16 #[.pointer (some ⟨q, 0, none⟩)] w fun e w' => ∃ vw' vb', e = .returned (.tuple #[.int .i64 0, .int .i64 171]) ∧ IsQ w' (Grow S w w') q W [] p vw' vb' ∧ Chg S w w' := by
  have h1 := blk_cell h.blk 1
  have H := Go.Lib.hid h
  obtain ⟨A, c, rfl, hc, hr⟩ := own_rd h.w_
  clear h
  go_enter Try.func16, Try.ntmps16
  go_wp2_with (first
    | (go_at_call 25; refine (settle_no H.out).mono ?_; rintro e w' ⟨rfl, rfl⟩)
    | (at_builtin; refine wpList_app _ rfl (.tmp 12) (.tmp 16) 29 rfl 0 26 2 16 _ Try.underlying29 info26 rfl (by omega) (.slice none 0 0) 0 [] rfl (own_nil _ _ _ _) _ A W.length c (flat W) rfl hr (flat_one W) ?c3 ?c4 ?c5 ?_))
  case c3 => simp only [maxLen]; omega
  case c4 => omega
  case c5 => simp
  intro v1 w1 ho hg hat
  have b1 := hg.heap H.out.blk (by simp [Value.ownBlock])
  have f1 := blk_free b1 1
  have x1 := blk_cell b1 1
  obtain ⟨A1, c1, rfl, hcc1, _⟩ := own_rd ho
  have HO := Go.Lib.hid ho
  have HG := Go.Lib.hid hg
  clear h1 ho hg b1
  go_wp2
  go_ret2
  have := HO.out
  (try simp only [List.nil_append, Nat.zero_add] at this)
  obtain ⟨hq, hc⟩ := push_end (W' := W) H.out (HG.out.mono fun k hk _ => by simp [Value.ownBlock] at hk) this (fun k hk => .inr ((hat k hk).resolve_left (by simp [Value.ownBlock])))
  exact ⟨_, vb, rfl, hq, hc⟩
set_option maxHeartbeats 400000 in
theorem nack_yes {w : World} {S : Nat → Prop} {q : Nat} {W B : List Item} {p : Int} {vw vb : Value} (h : IsQ w S q W B p vw vb) (hB : B ≠ []) (hW : B.length + W.length ≤ 1099511627776) :
    Calls Try.prog 16 #[.pointer (some ⟨q, 0, none⟩)] w fun e w' => ∃ vw' vb', e = .returned (.tuple #[.int .i64 B.length, .int .i64 0]) ∧ IsQ w' (Grow S w w') q (B ++ W) [] p vw' vb' ∧ Chg S w w' := by
  have H := Go.Lib.hid h
  have H1 := Go.Lib.hid (isq_nobundle h)
  have h1 := blk_cell H1.out.blk 1
  obtain ⟨A, c, rfl, hc, hr⟩ := own_rd h.w_
  obtain ⟨A2, c2, rfl, hc2, hr2⟩ := own_rd h.b_
  have hr' := Rd.of_own H1.out.w_
  have hb' := own_far h.b_ (p := ⟨q, 2, none⟩) (own_ne_blk h.b_ h.blk (by omega)) (.slice none 0 0)
  clear h hr hr2
  go_enter Try.func16, Try.ntmps16
  go_wp2_with (first
    | (go_at_call 25; refine (settle_yes H.out hB).mono ?_; rintro e w' ⟨rfl, rfl⟩)
    | (at_builtin; refine wpList_app _ rfl (.tmp 12) (.tmp 16) 29 rfl 0 26 2 16 _ Try.underlying29 info26 rfl (by omega) (.slice A2 B.length c2) B.length (flat B) rfl hb' _ A W.length c (flat W) rfl hr' (flat_one W) ?c3 ?c4 ?c5 ?_))
  case c3 => simp only [maxLen]; omega
  case c4 => omega
  case c5 => simp
  intro v1 w1 ho hg hat
  have b1 := hg.heap H1.out.blk (own_ne_blk hb' H1.out.blk (by omega))
  have f1 := blk_free b1 1
  have x1 := blk_cell b1 1
  obtain ⟨A1, c1, rfl, hcc1, _⟩ := own_rd ho
  have HO := Go.Lib.hid ho
  have HG := Go.Lib.hid hg
  clear h1 ho hg b1 hr' hb'
  go_wp2
  go_ret2
  obtain ⟨hq, hc⟩ := nack_end (W' := B ++ W) H.out HG.out (by rw [flat_app]; exact HO.out) hat
  exact ⟨_, _, rfl, hq, hc⟩
end Go.Proofs.Ytpjddmpioledoaa.Q
