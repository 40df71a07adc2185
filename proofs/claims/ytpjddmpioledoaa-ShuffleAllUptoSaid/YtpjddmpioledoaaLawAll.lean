/- ShuffleAll: whatever is pushed, taken, given back and settled, what was acknowledged, what is the bundle and what waits are together all that was pushed: the law returns true and the script reads as it did. Condition: what the script holds is of bulk at most 1048576. -/
import Derived.Test.YtpjddmpioledoaaF1
namespace Go.Proofs.Ytpjddmpioledoaa.ShuffleAll
open Go.ChangeShapes Go.WideShapes Go.ChangeAt Go.RowKit Go.Proofs.Ytpjddmpioledoaa.Lib Go.Proofs.Ytpjddmpioledoaa.Q
set_option linter.unusedVariables false

theorem walk (ops : List OpD) (A : Option Addr) (n c : Nat) (w : World) (hr : RdOps w (· < w.heap.size) A n ops) (ht : total ops ≤ 1099511627776) :
    Calls Try.prog 3 #[.slice A n c] w fun e w' => e = .returned (.bool true) ∧ Below w.heap.size w w' := by
  by_cases hn : n ≤ 500
  · exact all_any ops A n c w hr ht hn
  · exact all_long A n c w (by omega)

theorem contract (H : Type) (enc : TypeId × Value → H) (W : World) (base : Nat) (args : Array Value) (ds gs : List (DataW H)) (before : List MemPlace)
    (hval : ∀ (j : Nat) t v, Try.f3.params[j]? = some t → args[j]? = some v → Value.okWide Try.prog W .any base t v)
    (hW : DataW.Whole enc Try.prog Try.f3.params.toList Rows.shuffleAllSpec.vars false W args.toList ds gs before) (hk : Rows.uptoSmall H (ds ++ gs) = true) :
    Calls Try.prog 3 args W fun e W' => ∃ v, e = .returned v ∧ Rows.shuffleAllSpec.post enc Try.prog Try.f3 false true false false W args v W' := by
  have hW' := hW
  obtain ⟨p, q, hA0, hV, rfl, hfz, hnd⟩ := hW
  have hA : DataW.TrodAll enc Try.prog W 0 (fun _ => true) true Try.f3.params.toList args.toList ds p := hA0
  rw [Try.params3] at hA hval
  obtain ⟨v0, vs0, d0, ds0, p0, q0, hargs, rfl, rfl, h0, r0⟩ := trodAll_cons hA
  obtain ⟨rfl, rfl, rfl⟩ := trodAll_nil r0
  obtain rfl : args = #[v0] := by cases args; simp_all
  obtain ⟨rfl, rfl⟩ := trodVars_none hV
  have k0 := h0
  have lt0 : ∀ x ∈ p0, x.block < W.heap.size := by obtain ⟨m, hm⟩ := k0; exact DataW.trod_lt m _ _ _ hm
  obtain ⟨a0, len0, cap0, rfl⟩ := okWide_slice Try.underlying22 (hval 0 22 v0 rfl rfl)
  have hb := bulk_bound hk
  obtain ⟨l, hl, hr, ht⟩ : ∃ l : List OpD, l.length = len0 ∧ RdOps W (· < W.heap.size) a0 len0 l ∧ total l ≤ 1099511627776 := by
    obtain ⟨fuel, hf⟩ := h0
    obtain ⟨l, ⟨A, c, e, _, _, _, hrow⟩, hw, _⟩ := shOps.open_ hf
    simp only [Value.cells, List.cons.injEq, Value.slice.injEq, and_true] at e
    obtain ⟨rfl, rfl, rfl⟩ := e
    have hw2 : shOps.wt l ≤ Rows.uptoBulk d0 := hw
    have := ops_total l
    have e2 : shOps.wt l = (l.map shOp.wt).sum + 1 := rfl
    simp only [List.append_nil, Rows.uptoBulkAll] at hb
    exact ⟨l.map toOp, by simp, ops_rd hrow, by omega⟩
  clear hA0 hb hk
  refine (walk l a0 len0 cap0 W hr ht).mono fun e W' ⟨he, bel⟩ => ?_
  subst he
  exact ⟨_, rfl, _, _, _, [], _, [], hW', trodAll_mk1 (shut_bool Try.underlying4 _), (trodAll_cons_mk (Below.trod laidOut (by kernel_rfl) (of_decide_eq_true (by kernel_rfl)) k0 bel lt0) trodAll_mk0), rfl, bel.frame _, fun h => by cases h⟩

set_option maxRecDepth 100000 in
theorem lifted (os : Os) (started : os.Started) (H : Type) (enc : TypeId × Value → H) (F : Stop.Interp) :
    ReturnsInHanded {} Try.checked os 3 .any ((Rows.OpenSpec.upto Rows.shuffleAllSpec).pre6 enc Try.prog Try.f3 Rows.shuffleAllUptoRow.domain false) (((Rows.OpenSpec.upto Rows.shuffleAllSpec).at F).post enc Try.prog Try.f3 false true false false) := by
  refine returnsInHanded_of_cond (C := Try.checked) (s := Rows.OpenSpec.upto Rows.shuffleAllSpec) (k := Rows.uptoSmall) rfl own started (by kernel_rfl) Try.func3
    (OpenSpec.witness (enc := enc) (C := Try.checked) (s := Rows.OpenSpec.upto Rows.shuffleAllSpec) (k := Rows.uptoSmall) rfl false ⟨#[], #[.slice none 0 0], []⟩ 8 (by kernel_rfl) (by kernel_rfl) (by kernel_rfl)
      (x := ([.nil], [], [])) (by kernel_rfl) rfl (by kernel_rfl)) ?_
  intro W base args ds gs before hval hW _ hk _
  exact contract H enc W base args ds gs before hval hW hk

theorem over : Rows.shuffleAllUptoRow.holds Try.pinned (Rows.OpenSpec.upto Rows.shuffleAllSpec) :=
  OpenClaim.holds_of_cond 3 Try.f3 rfl rfl rfl rfl rfl rfl rfl ⟨rfl, rfl, rfl, rfl, rfl⟩ rfl rfl rfl rfl rfl (by kernel_rfl) Try.func3 (by kernel_rfl)
    (of_decide_eq_true (by kernel_rfl)) (by unfold Func.isWrapper; first | (rw [if_pos (by decide +kernel)]; kernel_rfl) | (rw [if_neg (by decide +kernel)]; exact ⟨rfl, rfl⟩))
    (fun os started H enc _ F => lifted os started H enc F)

theorem proved : Rows.ShuffleAllUptoSaid := over
#print axioms proved
end Go.Proofs.Ytpjddmpioledoaa.ShuffleAll
namespace Go.Proofs.Ytpjddmpioledoaa
theorem shuffleAll_holds : Rows.ShuffleAllUptoSaid := ShuffleAll.proved
end Go.Proofs.Ytpjddmpioledoaa
