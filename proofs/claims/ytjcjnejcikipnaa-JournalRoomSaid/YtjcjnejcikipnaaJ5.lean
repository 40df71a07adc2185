/- The fixed answer. -/
import Derived.Test.YtjcjnejcikipnaaJ4
import Derived.Lib.SlBytesConst
import Derived.Laws.IdiomStrings
namespace Go.Proofs.Ytjcjnejcikipnaa.J
open Go.RowKit Go.Proofs.Ytjcjnejcikipnaa.Lib
set_option linter.unusedVariables false

section
variable {w : World} {S : Nat → Prop} {j : Nat} {cap : Int} {R : List Bs} {safe : Nat} {vb ve : Value} (h : IsJ w S j cap R safe vb ve)
    (T : Nat → Prop) (A : Option Addr) (c : Nat) (l : List Bs) (hr : Recs w T A l) (hl : R.length + l.length ≤ 1099511627776) (hcl : (cat R).length + (cat l).length ≤ 35184372088832)
include h hr hl hcl
theorem append_ok (h1 : ∀ r ∈ l, r.length ≤ 1048576) (h2 : ((cat R).length : Int) + (cat l).length ≤ cap) :
    Calls Try.prog 10 #[.pointer (some ⟨j, 0, none⟩), .slice A l.length c] w fun e w' => e = .returned (.int .i64 0) ∧ Chg S w w' ∧ ∃ vb ve, IsJ w' (Grow S w w') j cap (R ++ l) safe vb ve := by
  refine (append_any h T A c l hr hl hcl).mono fun e w' hp => ?_
  rcases hp with ⟨⟨r, hr, hb⟩, _⟩ | ⟨_, hb, _⟩ | ⟨_, _, h3⟩
  · have := h1 r hr; omega
  · omega
  · exact h3
theorem append_full (h1 : ∀ r ∈ l, r.length ≤ 1048576) (h2 : cap < ((cat R).length : Int) + (cat l).length) :
    Calls Try.prog 10 #[.pointer (some ⟨j, 0, none⟩), .slice A l.length c] w fun e w' => e = .returned (.int .i64 181) ∧ Chg (fun _ => False) w w' := by
  refine (append_any h T A c l hr hl hcl).mono fun e w' hp => ?_
  rcases hp with ⟨⟨r, hr, hb⟩, _⟩ | ⟨_, _, h3⟩ | ⟨_, hb, _⟩
  · have := h1 r hr; omega
  · exact h3
  · omega
theorem append_tape (h1 : ∃ r ∈ l, 1048576 < r.length) :
    Calls Try.prog 10 #[.pointer (some ⟨j, 0, none⟩), .slice A l.length c] w fun e w' => e = .returned (.int .i64 180) ∧ Chg (fun _ => False) w w' := by
  obtain ⟨r0, hr0, hb0⟩ := h1
  refine (append_any h T A c l hr hl hcl).mono fun e w' hp => ?_
  rcases hp with ⟨_, h3⟩ | ⟨h3, _⟩ | ⟨h3, _⟩
  · exact h3
  · have := h3 r0 hr0; omega
  · have := h3 r0 hr0; omega
end
theorem frm_a : frm [97] = [1, 0, 0, 7, 105, 97] := by
  unfold frm
  rw [lenB_lt (by decide)]
  rfl
theorem cat_a : cat ([] ++ [[97]]) = [1, 0, 0, 7, 105, 97] := by rw [List.nil_append, cat_one, frm_a]
theorem conv_a {w : World} {T : Nat → Prop} {A : Option Addr} (h : Rd w T 1 A ([1, 0, 0, 7, 105, 97] : Bs).length (bvs [1, 0, 0, 7, 105, 97])) (c : Nat) :
    ∃ ad, A = some ad ∧ (convert 23 9 (.slice (some ad) 6 c)).run Try.prog w = .ok (.string ⟨#[1, 0, 0, 7, 105, 97]⟩) w := by
  obtain ⟨ad, u, rfl, _, _, _⟩ := h.at_ (j := 0) (by decide)
  refine ⟨ad, rfl, ?_⟩
  refine run_convert_bytes_back (P := Try.prog) w 23 9 5 ad c [1, 0, 0, 7, 105, 97] Try.underlying23 Try.underlying5 Try.underlying9 fun j hj => ?_
  obtain ⟨ad', e, _, hc⟩ := h.2 j (bv (([1, 0, 0, 7, 105, 97] : Bs)[j])) (by rw [bvs_at, List.getElem?_eq_getElem hj]; rfl)
  injection e with e
  subst e
  exact hc
theorem recs_a (w : World) : Recs ((w.alloc (.cells #[.int .u8 97] 5 (1, 2))).alloc (.cells #[.slice (some ⟨w.heap.size, 0, none⟩) 1 1] 23)) (fun _ => True) (some ⟨w.heap.size + 1, 0, none⟩) [[97]] := by
  refine ⟨[.slice (some ⟨w.heap.size, 0, none⟩) 1 1], ⟨rfl, fun j u hu => ⟨_, rfl, trivial, ?_⟩⟩, fun i b hb => ?_⟩
  · have h0 : j = 0 := by
      rcases Nat.lt_or_ge j 1 with h | h
      · omega
      · rw [List.getElem?_eq_none (by simpa using h)] at hu; cases hu
    subst h0
    have := blk_cell (blk_new (w.alloc (.cells #[.int .u8 97] 5 (1, 2))) 23 #[.slice (some ⟨w.heap.size, 0, none⟩) 1 1]) 0
    rw [show (w.alloc (.cells #[.int .u8 97] 5 (1, 2))).heap.size = w.heap.size + 1 from by simp] at this
    rw [add_at, this]
    simpa using hu
  · have h0 : i = 0 := by
      rcases Nat.lt_or_ge i 1 with h | h
      · omega
      · rw [List.getElem?_eq_none (by simpa using h)] at hb; cases hb
    subst h0
    injection hb with hb
    subst hb
    refine ⟨_, 1, rfl, Nat.le_refl _, ⟨rfl, fun j u hu => ⟨_, rfl, trivial, ?_⟩⟩⟩
    have h0 : j = 0 := by
      rcases Nat.lt_or_ge j 1 with h | h
      · omega
      · rw [List.getElem?_eq_none (by simpa [bvs] using h)] at hu; cases hu
    subst h0
    have h1 : (w.alloc (.cells #[.int .u8 97] 5 (1, 2))).heap[w.heap.size]? = some (.cells #[.int .u8 97] 5 (1, 2)) := heap_alloc_new w _
    have h2 := (Below.heap_alloc (w.alloc (.cells #[.int .u8 97] 5 (1, 2))) (.cells #[.slice (some ⟨w.heap.size, 0, none⟩) 1 1] 23) w.heap.size (by simp)).trans h1
    rw [add_at, cell_of_row _ _ _ _ _ _ h2]
    simpa [bvs, bv] using hu

set_option maxRecDepth 100000 in
set_option maxHeartbeats 4000000 in
theorem awake_any (w : World) : Calls Try.prog 8 #[] w fun e w' => e = .returned (.bool true) ∧ Chg (fun _ => False) w w' := by
  have kc := fun (w : World) (C : Array Value) (n c : Nat) => Lib.run_convert_bytes_const (P := Try.prog) w 23 5 C n c Try.underlying23 Try.underlying5
  go_enter Try.func8, Try.ntmps8
  go_wp2_with (first
    | (go_at_call 9; refine (new_any 100 _ (by omega) (by omega)).mono ?_; rintro e w1 ⟨rfl, hJ, hc1⟩; have HJ := Go.Lib.hid hJ; have HC1 := Go.Lib.hid hc1; clear hJ hc1)
    | (go_at_call 10; refine (append_ok (l := [[97]]) ((HJ.out.chg ((Chg.refl (fun _ => False) _).alloc _) fun _ _ f => f).chg ((Chg.refl (fun _ => False) _).alloc _) fun _ _ f => f) _ _ 1 (recs_a _) (by simp) (by rw [cat_one, frm_a]; simp [cat]) (by simp) (by rw [cat_one, frm_a]; simp [cat])).mono ?_; rintro e w2 ⟨rfl, hc2, vb, ve, hJ2⟩; have HC2 := Go.Lib.hid hc2; have HJ2 := Go.Lib.hid hJ2; clear hc2 hJ2)
    | (go_at_call 12; refine (bytes_any HJ2.out (by rw [List.nil_append, cat_one, frm_a]; simp)).mono ?_; rintro e w3 ⟨v, rfl, ho, hc3⟩; rw [cat_a] at ho; obtain ⟨A3, c3, rfl, _, hr3⟩ := own_rd ho; obtain ⟨ad, rfl, hconv⟩ := conv_a hr3 c3; have HC3 := Go.Lib.hid hc3; clear ho hc3 hr3))
  go_ret
  refine ⟨rfl, ?_⟩
  exact HC1.out.trans ((((Chg.refl (fun k => k = w.heap.size) _).alloc _).alloc _).trans (HC2.out.trans HC3.out fun _ f _ => f.elim) fun _ h _ => h) fun k hk hl => by omega
end Go.Proofs.Ytjcjnejcikipnaa.J
