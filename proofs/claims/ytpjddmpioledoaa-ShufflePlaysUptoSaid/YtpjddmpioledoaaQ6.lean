import Derived.Test.YtpjddmpioledoaaQ5
import Derived.Test.YtpjddmpioledoaaF1
namespace Go.Proofs.Ytpjddmpioledoaa.Q
open Go.RowKit Go.Proofs.Ytpjddmpioledoaa.Lib
set_option linter.unusedVariables false

theorem old_fold (l : List Item) (s : Int × Bool) (pre : List Item) (h : s.2 = !pre.isEmpty ∧ (∀ x ∈ pre, s.1 ≤ x.1) ∧ (pre ≠ [] → ∃ x ∈ pre, x.1 = s.1)) :
    (l.foldl oldStep s).2 = !(pre ++ l).isEmpty ∧ (∀ x ∈ pre ++ l, (l.foldl oldStep s).1 ≤ x.1) ∧ (pre ++ l ≠ [] → ∃ x ∈ pre ++ l, x.1 = (l.foldl oldStep s).1) := by
  induction l generalizing s pre with
  | nil => simpa using h
  | cons y l ih =>
    have := ih (oldStep s y) (pre ++ [y]) ?_
    · simpa using this
    · obtain ⟨h1, h2, h3⟩ := h
      unfold oldStep
      by_cases hc : s.2 = false ∨ y.1 < s.1
      · rw [if_pos hc]
        refine ⟨by simp, ?_, fun _ => ⟨y, by simp, rfl⟩⟩
        intro x hx
        rw [List.mem_append, List.mem_singleton] at hx
        rcases hx with hx | rfl
        · rcases hc with hc | hc
          · rw [hc] at h1
            have : pre = [] := by simpa using h1.symm
            subst this; simp at hx
          · have := h2 x hx; simp; omega
        · exact Int.le_refl _
      · rw [if_neg hc]
        have hs : s.2 = true := by cases hs : s.2 <;> simp_all
        have hne : pre ≠ [] := by intro e; subst e; rw [hs] at h1; simp at h1
        refine ⟨by rw [hs]; simp, ?_, fun _ => ?_⟩
        · intro x hx
          rw [List.mem_append, List.mem_singleton] at hx
          rcases hx with hx | rfl
          · exact h2 x hx
          · omega
        · obtain ⟨x, hx, e⟩ := h3 hne
          exact ⟨x, by simp [hx], e⟩
theorem old_spec (l : List Item) : (l.foldl oldStep (0, false)).2 = !l.isEmpty ∧ (∀ x ∈ l, (l.foldl oldStep (0, false)).1 ≤ x.1) ∧ (l ≠ [] → ∃ x ∈ l, x.1 = (l.foldl oldStep (0, false)).1) := by
  have := old_fold l (0, false) [] (by simp)
  simpa using this
theorem old_there (l : List Item) (t : Int) (ok : Bool) (h : l.foldl oldStep (0, false) = (t, ok)) : ok = l.any (fun x => x.1 == t) := by
  obtain ⟨h1, h2, h3⟩ := old_spec l
  rw [h] at h1 h2 h3
  simp only at h1 h2 h3
  cases l with
  | nil => simpa using h1
  | cons y l =>
    obtain ⟨x, hx, e⟩ := h3 (by simp)
    have h1' : ok = true := by simpa using h1
    subst h1'
    symm
    rw [List.any_eq_true]
    exact ⟨x, hx, by simpa using e⟩

theorem old_long (A : Option Addr) (n c : Nat) (m : Int) (w : World) (hn : 500 < n) :
    Calls Try.prog 4 #[.slice A n c, .int .i64 m] w fun e w' => e = .returned (.bool true) ∧ Below w.heap.size w w' := by
  have h1 : decide ((n : Int) > 500) = true := by simp; omega
  go_enter Try.func4, Try.ntmps4
  go_wp2_with (first
    | (go_at_call 7; refine (new_any _).mono ?_; rintro e w1 ⟨rfl, hq, hc⟩)
    | (go_at_call 9; refine (awake_any _).mono ?_; rintro e w2 ⟨rfl, hb⟩))
  go_ret
  exact ⟨rfl, hc.new.trans (hb.mono hc.size)⟩

set_option maxRecDepth 100000 in
set_option maxHeartbeats 1000000 in
theorem old_any (l : List Item) (A : Option Addr) (n c : Nat) (m : Int) (w : World) (hr : Rd w (· < w.heap.size) 2 A n (flat l)) (hn : n ≤ 500) :
    Calls Try.prog 4 #[.slice A n c, .int .i64 m] w fun e w' => e = .returned (.bool true) ∧ Below w.heap.size w w' := by
  have h1 : decide ((n : Int) > 500) = false := by simp; omega
  have hln : l.length = n := by have := hr.1; rw [flat_len] at this; omega
  have HL := Go.Lib.hid hln
  clear hln
  obtain ⟨t, ht⟩ : ∃ t, t = oldF l [] := ⟨_, rfl⟩
  go_enter Try.func4, Try.ntmps4
  go_wp2_with (first
    | (go_at_call 7; refine (new_any _).mono ?_; rintro e w1 ⟨rfl, hq, hc⟩)
    | (go_at_call 10; refine (push_any hq _ A n c l (hr.new hc) (by simp; omega)).mono ?_; rintro e w2 ⟨vw2, rfl, hq2, hc2⟩)
    | (go_at_call 15; refine (oldest_any hq2 (by have := HL.out; simp; omega)).mono ?_; rintro e w3 ⟨rfl, hc3⟩))
  clear ht t
  have hF : (oldF l []) = l.foldl oldStep (0, false) := by simp [oldF]
  obtain ⟨hs1, hs2, hs3⟩ := old_spec l
  have hth := old_there l (oldF l []).1 (oldF l []).2 (by rw [hF])
  rw [← hF] at hs2
  have HF := Go.Lib.hid hF
  clear hF hs1 hs3
  generalize oldF l [] = s at *
  obtain ⟨t, ok⟩ := s
  have HTH := Go.Lib.hid hth
  have HS2 := Go.Lib.hid hs2
  clear hth hs2
  have hb3 : Below w.heap.size w w3 := ((hc.trans hc2 (fun i hi hl => by omega)).step hc3).new
  have hq3 := isq_chg hq2 hc3 (fun _ _ f => f)
  simp only [List.nil_append] at hq3
  have HQ3 := Go.Lib.hid (isq_more hq3 (S' := fun j => w.heap.size ≤ j ∧ j < w3.heap.size) (fun j hj => ⟨hj.1.elim (fun e => by omega) (fun e => Nat.le_trans hc.size e), hq3.lt j hj⟩) (fun j hj => hj.2))
  clear hq hq2 hq3 hc hc2 hc3
  go_loopw [8, 38] (fun there i wr => ∃ (k : Nat), k ≤ n ∧ i = .int .i64 k ∧ there = .bool ((l.take k).any (fun x => x.1 == t)) ∧ Chg (fun _ => False) w3 wr) (fun _ i _ => n - (intOf i).toNat)
  case atStart => exact ⟨0, by omega, rfl, rfl, Chg.refl _ _⟩
  case round =>
    obtain ⟨k, hk, rfl, rfl, hC⟩ := hrel
    by_cases hlt : k < n
    · obtain ⟨x, hx⟩ : ∃ x, l[k]? = some x := ⟨_, List.getElem?_eq_getElem (by have := HL.out; omega)⟩
      obtain ⟨ad, rfl, hT, x0, x1⟩ := rd_item hr hx
      have y0 := hC.cell (below_cell hb3 x0) (fun f => f)
      have y1 := hC.cell (below_cell hb3 x1) (fun f => f)
      have hge : decide (x.1 < t) = false := by have := HS2.out x (List.mem_of_getElem? hx); simp at this ⊢; omega
      have hnext : (l.take (k + 1)).any (fun x => x.1 == t) = ((l.take k).any (fun x => x.1 == t) || (x.1 == t)) := by rw [List.take_add_one, hx, List.any_append]; simp
      have HN := Go.Lib.hid hnext
      clear hnext x0 x1 hx
      generalize (l.take k).any (fun x => x.1 == t) = th at *
      have hC1 := hC.alloc (.cells #[.int .i64 x.1, .int .i64 x.2] 26)
      cases th with
      | true =>
        go_wp2
        exact ⟨⟨k + 1, by omega, by go_num, by rw [HN.out]; simp, hC1⟩, by simp [intOf]; omega⟩
      | false =>
        go_wp2
        exact ⟨⟨k + 1, by omega, by go_num, by rw [HN.out]; simp, hC1⟩, by simp [intOf]; omega⟩
    · have hke : k = n := by omega
      subst hke
      rw [List.take_of_length_le (by have := HL.out; omega)]
      have hth : (ok == l.any (fun x => x.1 == t)) = true := beq_iff_eq.2 HTH.out
      generalize l.any (fun x => x.1 == t) = th at hth
      have hQr := isq_chg HQ3.out hC (fun _ _ f => f)
      have hb4 := hb3.trans (hC.new.mono hb3.size)
      have htk := take_any hQr m (by have := HL.out; omega)
      have HTK := Go.Lib.hid htk
      have hlen : l.length ≤ 500 := by have := HL.out; omega
      clear htk hQr HQ3
      have rest : ∃ W' B' l2 c2, takeF l [] m = (l2, c2, W', B') ∧ B' ++ W' = l := by
        rcases takeF_cases l [] m with ⟨l2, W', e, _, _, e2⟩ | e | e
        · exact ⟨W', l2, l2, 0, e, e2⟩
        · exact ⟨l, [], [], 171, e, rfl⟩
        · exact ⟨l, [], [], 170, e, rfl⟩
      obtain ⟨W', B', l2, c2, e, hBW⟩ := rest
      have hTK := HTK.out
      rw [e] at hTK
      have HTK := Go.Lib.hid hTK
      clear hTK e
      have hF1 : oldF W' B' = (t, ok) := by rw [HF.out, ← hBW]; rfl
      have hlen2 : B'.length + W'.length ≤ 500 := by rw [← List.length_append, hBW]; exact hlen
      have HF1 := Go.Lib.hid hF1
      have HBW := Go.Lib.hid hBW
      clear hF1 hBW
      go_wp2_with fail
      refine HTK.out.mono ?_
      rintro e w5 ⟨A3, c3, vw5, vb5, rfl, ho5, hq5, hc5, _⟩
      go_wp2_with fail
      refine (oldest_any hq5 (by omega)).mono ?_
      rw [HF1.out]
      rintro e w6 ⟨rfl, hc6⟩
      have hq6 := isq_chg hq5 hc6 (fun _ _ f => f)
      have hb5 := hb4.trans ((hc5.step hc6).below (B := w.heap.size) hb4.size (fun j hj => hj.1))
      have hS5 : ∀ j, Grow (fun j => w.heap.size ≤ j ∧ j < w3.heap.size) wr w5 j → w.heap.size ≤ j := fun j hj => hj.1.elim (fun h => h.1) (fun h => Nat.le_trans hb4.size h)
      clear hq5 hc5 hc6 ho5
      by_cases hB : B' = []
      · have hNK := nack_no (by rw [hB] at hq6; exact hq6) (by omega)
        have HNK := Go.Lib.hid hNK
        clear hNK hq6
        have hF2 : oldF W' [] = (t, ok) := by have := HF1.out; rw [hB] at this; exact this
        have HF2 := Go.Lib.hid hF2
        clear hF2 hB
        go_wp2_with fail
        refine HNK.out.mono ?_
        rintro e w7 ⟨vw7, vb7, rfl, hq7, hc7⟩
        go_wp2_with fail
        refine (oldest_any hq7 (by simp; omega)).mono ?_
        rw [HF2.out]
        rintro e w8 ⟨rfl, hc8⟩
        have hb8 := hb5.trans ((hc7.step hc8).below (B := w.heap.size) hb5.size hS5)
        clear hq7 hc7 hc8
        go_wp2_with (go_at_call 9; refine (awake_any _).mono ?_; rintro e w9 ⟨rfl, hb9⟩)
        go_ret
        exact ⟨rfl, hb8.trans (hb9.mono hb8.size)⟩
      · have hNK := nack_yes hq6 hB (by omega)
        have HNK := Go.Lib.hid hNK
        clear hNK hq6
        have hF2 : oldF (B' ++ W') [] = (t, ok) := by rw [← HF1.out]; simp [oldF]
        have HF2 := Go.Lib.hid hF2
        clear hF2 hB
        go_wp2_with fail
        refine HNK.out.mono ?_
        rintro e w7 ⟨vw7, vb7, rfl, hq7, hc7⟩
        go_wp2_with fail
        refine (oldest_any hq7 (by simp; omega)).mono ?_
        rw [HF2.out]
        rintro e w8 ⟨rfl, hc8⟩
        have hb8 := hb5.trans ((hc7.step hc8).below (B := w.heap.size) hb5.size hS5)
        clear hq7 hc7 hc8
        go_wp2_with (go_at_call 9; refine (awake_any _).mono ?_; rintro e w9 ⟨rfl, hb9⟩)
        go_ret
        exact ⟨rfl, hb8.trans (hb9.mono hb8.size)⟩

theorem old_walk {w : World} (x : List (Int × Int × Unit)) (A : Option Addr) (n c : Nat) (h : shItems.K w (· < w.heap.size) x [.slice A n c]) (_ : shItems.Fits x) (m : Int) (_ : (Lit.int .i64 m).wf = true) :
    Calls Try.prog 4 #[.slice A n c, .int .i64 m] w fun e w' => e = .returned (.bool true) ∧ Below w.heap.size w w' := by
  by_cases hn : n ≤ 500
  · obtain ⟨A', c', e, _, _, _, hr⟩ := h
    simp only [List.cons.injEq, Value.slice.injEq, and_true] at e
    obtain ⟨rfl, rfl, rfl⟩ := e
    exact old_any _ A _ c m w (items_rd hr) hn
  · exact old_long A n c m w (by omega)
end Go.Proofs.Ytpjddmpioledoaa.Q
