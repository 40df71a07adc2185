/- What a queue's script is in memory, out of its reading as data. -/
import Derived.Test.YtpjddmpioledoaaOpen
import Derived.Test.YtpjddmpioledoaaQ4
import Derived.OpenShut
import Derived.JoinedCond
import Derived.ChangeOld
namespace Go.Proofs.Ytpjddmpioledoaa.Q
open Go.RowKit Go.Proofs.Ytpjddmpioledoaa.Lib
set_option linter.unusedVariables false

theorem own : ownKnob Try.prog.godebug = none := by kernel_rfl
theorem laidOut : laidOutB Try.prog = true := by kernel_rfl

noncomputable def shInt : Shp Try.prog 3 Int := Shp.int Try.underlying3 (by kernel_rfl)
noncomputable def shItem : Shp Try.prog 26 (Int × Int × Unit) := Shp.struct (sz := 2) Try.underlying26 (by kernel_rfl) (Frag.field 0 shInt (by kernel_rfl) (Frag.field 1 shInt (by kernel_rfl) Frag.done))
noncomputable def shItems : Shp Try.prog 29 (List (Int × Int × Unit)) := Shp.slice shItem Try.underlying29 (by kernel_rfl) (by show 0 < 2; omega)
noncomputable def shOp : Shp Try.prog 31 (Int × Int × List (Int × Int × Unit) × Unit) := Shp.struct (sz := 3) Try.underlying31 (by kernel_rfl) (Frag.field 0 shInt (by kernel_rfl) (Frag.field 1 shInt (by kernel_rfl) (Frag.field 2 shItems (by kernel_rfl) Frag.done)))
noncomputable def shOps : Shp Try.prog 22 (List (Int × Int × List (Int × Int × Unit) × Unit)) := Shp.slice shOp Try.underlying22 (by kernel_rfl) (by show 0 < 3; omega)

def toItem (x : Int × Int × Unit) : Item := (x.1, x.2.1)
def toOp (x : Int × Int × List (Int × Int × Unit) × Unit) : OpD := ⟨x.1, x.2.1, x.2.2.1.map toItem⟩

theorem item_cells {w : World} {T : Nat → Prop} {x : Int × Int × Unit} {cs : List Value} (h : shItem.K w T x cs) : cs = [.int .i64 x.1, .int .i64 x.2.1] := by
  obtain ⟨hl, h0, h1, _⟩ := h
  match cs, hl with
  | [a, b], _ =>
    have e0 : [a] = [.int .i64 x.1] := h0.1
    have e1 : [b] = [.int .i64 x.2.1] := h1.1
    injection e0 with e0 _
    injection e1 with e1 _
    rw [e0, e1]
theorem items_rd {w : World} {T : Nat → Prop} {A : Option Addr} {l : List (Int × Int × Unit)} (h : Row shItem w T A l) : Rd w T 2 A l.length (flat (l.map toItem)) := by
  have := h.rd (fun x => [.int .i64 x.1, .int .i64 x.2.1]) (fun x cs hk => item_cells hk)
  have e : flat (l.map toItem) = l.flatMap (fun x => [.int .i64 x.1, .int .i64 x.2.1]) := by simp [flat, toItem, List.flatMap_map]
  rw [e]; exact this
theorem op_cells {w : World} {T : Nat → Prop} {x : Int × Int × List (Int × Int × Unit) × Unit} {cs : List Value} (h : shOp.K w T x cs) :
    ∃ A c, cs = [.int .i64 (toOp x).k, .int .i64 (toOp x).n, .slice A (toOp x).items.length c] ∧ (toOp x).items.length ≤ c ∧ Rd w T 2 A (toOp x).items.length (flat (toOp x).items) := by
  obtain ⟨hl, h0, h1, h2, _⟩ := h
  match cs, hl with
  | [a, b, d], _ =>
    have e0 : [a] = [.int .i64 x.1] := h0.1
    have e1 : [b] = [.int .i64 x.2.1] := h1.1
    obtain ⟨A, c, e2, hc, _, _, hr⟩ := h2
    have e3 : [d] = [.slice A x.2.2.1.length c] := e2
    injection e0 with e0 _
    injection e1 with e1 _
    injection e3 with e3 _
    have hlen : (toOp x).items.length = x.2.2.1.length := by simp [toOp]
    rw [hlen]
    exact ⟨A, c, by rw [e0, e1, e3]; rfl, hc, items_rd hr⟩
theorem ops_rd {w : World} {T : Nat → Prop} {A : Option Addr} {l : List (Int × Int × List (Int × Int × Unit) × Unit)} (h : Row shOp w T A l) : RdOps w T A l.length (l.map toOp) := by
  refine ⟨by simp, fun i o ho => ?_⟩
  rw [List.getElem?_map, Option.map_eq_some_iff] at ho
  obtain ⟨x, hx, rfl⟩ := ho
  obtain ⟨ad, cs, e, ht, hk, hc⟩ := h i x hx
  obtain ⟨A', c, rfl, hlc, hr⟩ := op_cells hk
  have f : ∀ j u, (([.int .i64 (toOp x).k, .int .i64 (toOp x).n, .slice A' (toOp x).items.length c] : List Value))[j]? = some u → w.cell? (ad.add (i * 3 + j)) = some u := hc
  refine ⟨ad, A', c, e, ht, f 0 _ rfl, ?_, ?_, hlc, hr⟩
  · rw [← add_field _ _ 1 (by omega)]; exact f 1 _ rfl
  · rw [← add_field _ _ 2 (by omega)]; exact f 2 _ rfl
theorem ops_total (l : List (Int × Int × List (Int × Int × Unit) × Unit)) : total (l.map toOp) ≤ (l.map shOp.wt).sum := by
  induction l with
  | nil => simp [total]
  | cons x l ih =>
    have e1 : ∀ l : List (Int × Int × Unit), (l.map shItem.wt).sum ≥ l.length := by
      intro l
      induction l with
      | nil => simp
      | cons x l ih =>
        have : shItem.wt x = 1 + (1 + 0) := rfl
        simp only [List.map_cons, List.sum_cons, List.length_cons, this]; omega
    have e2 : shOp.wt x = 1 + (1 + ((x.2.2.1.map shItem.wt).sum + 1 + 0)) := rfl
    have e3 : (toOp x).puts ≤ x.2.2.1.length := by unfold OpD.puts; split <;> simp [toOp]
    have e4 := e1 x.2.2.1
    have e5 : total ((x :: l).map toOp) = (toOp x).puts + total (l.map toOp) := by simp [total]
    rw [e5]
    simp only [List.map_cons, List.sum_cons, e2]
    omega
end Go.Proofs.Ytpjddmpioledoaa.Q
