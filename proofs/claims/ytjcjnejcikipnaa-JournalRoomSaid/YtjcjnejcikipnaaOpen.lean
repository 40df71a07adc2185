/- How an argument that can be read as data lies in memory, type by type: shapes, and what the second form's bound gives of their sizes. -/
import Derived.Test.YtjcjnejcikipnaaRows
import Derived.Test.YtjcjnejcikipnaaLib
import Derived.ProofKit
import Derived.Deep.Slices
import Derived.Deep.Fields
import Derived.ChangeSame
import Derived.SizedLaws
namespace Go.Proofs.Ytjcjnejcikipnaa.Lib
open Go.RowKit
set_option linter.unusedVariables false

/-! ### bulk -/
theorem bulk_pos {H : Type} (d : DataW H) : 1 ≤ Rows.uptoBulk d := by
  cases d with
  | lit l => cases l <;> simp [Rows.uptoBulk]
  | nil => simp [Rows.uptoBulk]
  | ptr d => simp [Rows.uptoBulk]
  | slice elems spare => simp [Rows.uptoBulk]
  | agg parts => simp [Rows.uptoBulk]
  | iface t d => simp [Rows.uptoBulk]
  | map entries => simp [Rows.uptoBulk]
  | held h => simp [Rows.uptoBulk]
theorem bulk_app {H : Type} (l r : List (DataW H)) : Rows.uptoBulkAll (l ++ r) = Rows.uptoBulkAll l + Rows.uptoBulkAll r := by
  induction l with
  | nil => simp [Rows.uptoBulkAll]
  | cons x l ih => simp only [List.cons_append, Rows.uptoBulkAll, ih]; omega
theorem bulk_bound {H : Type} {l : List (DataW H)} (hk : Rows.uptoSmall H l = true) : Rows.uptoBulkAll l ≤ 1048576 := by
  simpa [Rows.uptoSmall] using hk

/-! ### shapes -/

theorem weights_mem_all {H : Type} {P : Program} {e : TypeId} {l : List (DataW H)} {d : DataW H} (h : d ∈ l) : ∀ n ∈ d.weights P e, n ∈ DataW.weightsAll P e l := by
  induction l with
  | nil => cases h
  | cons x l ih =>
    intro n hn
    simp only [DataW.weightsAll, List.mem_append]
    rcases List.mem_cons.1 h with rfl | h
    · exact .inl hn
    · exact .inr (ih h n hn)

/-- How a value of type t reads: sz cells, rows inside lie in blocks of T; wt: its size, at most its datum's bulk; Fits: each slice in it is within the form's reach. -/
structure Shp (P : Program) (t : TypeId) (α : Type) where
  sz : Nat
  wt : α → Nat
  Fits : α → Prop
  K : World → (Nat → Prop) → α → List Value → Prop
  len : ∀ {w T a cs}, K w T a cs → cs.length = sz
  cells : P.cellsOf t = sz
  move : ∀ {w w' : World} {T : Nat → Prop} {a cs}, (∀ k, T k → k < w.heap.size → w'.heap[k]? = w.heap[k]?) → K w T a cs → K w' T a cs
  mono : ∀ {w : World} {T T' : Nat → Prop} {a cs}, (∀ k, T k → k < w.heap.size → T' k) → K w T a cs → K w T' a cs
  open_ : ∀ {H : Type} {enc : TypeId × Value → H} {w : World} {base : Nat} {spare : Nat → Bool} {held : Bool} {n : Nat} {cs : List Value} {x : DataW H × List MemPlace},
    DataW.trod enc P w base spare held n t cs = some x → ∃ a, K w (· < w.heap.size) a cs ∧ wt a ≤ Rows.uptoBulk x.1 ∧ ((∀ m ∈ x.1.weights P t, m ≤ reachBytes) → Fits a)

noncomputable def Shp.int {P : Program} {t : TypeId} {k : IntKind} (ht : P.underlying t = some (.int k)) (hc : P.cellsOf t = 1) : Shp P t Int where
  sz := 1
  wt := fun _ => 1
  Fits := fun _ => True
  K := fun _ _ a cs => cs = [.int k a] ∧ (Lit.int k a).wf = true
  len := fun h => by rw [h.1]; rfl
  cells := hc
  move := fun _ h => h
  mono := fun _ h => h
  open_ := fun h => by
    obtain ⟨n, rfl, rfl, hw⟩ := DataW.trod_int ht h
    exact ⟨n, ⟨rfl, hw⟩, bulk_pos _, fun _ => trivial⟩
noncomputable def Shp.bool {P : Program} {t : TypeId} (ht : P.underlying t = some .bool) (hc : P.cellsOf t = 1) : Shp P t Bool where
  sz := 1
  wt := fun _ => 1
  Fits := fun _ => True
  K := fun _ _ a cs => cs = [.bool a]
  len := fun h => by rw [h]; rfl
  cells := hc
  move := fun _ h => h
  mono := fun _ h => h
  open_ := fun h => by
    obtain ⟨n, rfl, rfl⟩ := DataW.trod_bool ht h
    exact ⟨n, rfl, bulk_pos _, fun _ => trivial⟩

noncomputable def Shp.string {P : Program} {t : TypeId} (ht : P.underlying t = some .string) (hc : P.cellsOf t = 1) : Shp P t ByteArray where
  sz := 1
  wt := fun s => s.size + 1
  Fits := fun s => s.size ≤ reachBytes
  K := fun _ _ s cs => cs = [.string s] ∧ s.size ≤ maxLen
  len := fun h => by rw [h.1]; rfl
  cells := hc
  move := fun _ h => h
  mono := fun _ h => h
  open_ := fun h => by
    obtain ⟨s, rfl, rfl, hw⟩ := DataW.trod_string ht h
    refine ⟨s, ⟨rfl, hw⟩, by simp [Rows.uptoBulk], fun hwt => ?_⟩
    have := hwt s.data.toList.length (by simp [DataW.weights])
    simpa using this

/-- A row of n elements from address A on. -/
def Row {P : Program} {t : TypeId} {α : Type} (d : Shp P t α) (w : World) (T : Nat → Prop) (A : Option Addr) (l : List α) : Prop :=
  ∀ (i : Nat) (x : α), l[i]? = some x → ∃ ad cs, A = some ad ∧ T ad.block ∧ d.K w T x cs ∧ ∀ j u, cs[j]? = some u → w.cell? (ad.add (i * d.sz + j)) = some u
section
variable {P : Program} {t : TypeId} {α : Type} {d : Shp P t α} {w w' : World} {T T' : Nat → Prop} {A : Option Addr} {l : List α}
theorem Row.move (hm : ∀ k, T k → k < w.heap.size → w'.heap[k]? = w.heap[k]?) (h : Row d w T A l) : Row d w' T A l := fun i x hx => by
  obtain ⟨ad, cs, e, ht, hk, hc⟩ := h i x hx
  refine ⟨ad, cs, e, ht, d.move hm hk, fun j u hu => ?_⟩
  have hj := hc j u hu
  have hl := World.block_lt_of_cell? w _ hj
  rw [block_add] at hl
  exact (World.cell?_of_block (w := w) (by rw [block_add]; exact hm _ ht hl)).trans hj
theorem Row.mono (hm : ∀ k, T k → k < w.heap.size → T' k) (hsz : 0 < d.sz) (h : Row d w T A l) : Row d w T' A l := fun i x hx => by
  obtain ⟨ad, cs, e, ht, hk, hc⟩ := h i x hx
  have hlen := d.len hk
  have hj := hc 0 cs[0] (List.getElem?_eq_getElem (by omega))
  have hl := World.block_lt_of_cell? w _ hj
  rw [block_add] at hl
  exact ⟨ad, cs, e, hm _ ht hl, d.mono hm hk, hc⟩
end

theorem sum_le_bulk {H α : Type} (wt : α → Nat) (l : List α) (ds : List (DataW H)) (hl : l.length = ds.length) (h : ∀ (i : Nat) (a : α) (d : DataW H), l[i]? = some a → ds[i]? = some d → wt a ≤ Rows.uptoBulk d) : (l.map wt).sum ≤ Rows.uptoBulkAll ds := by
  induction l generalizing ds with
  | nil => simp
  | cons x l ih =>
    cases ds with
    | nil => simp at hl
    | cons d ds =>
      have h0 := h 0 x d rfl rfl
      have h1 := ih ds (by simpa using hl) (fun i a d ha hd => h (i + 1) a d (by simpa using ha) (by simpa using hd))
      simp only [List.map_cons, List.sum_cons, Rows.uptoBulkAll]
      omega

/-- A slice: its length, its row. -/
noncomputable def Shp.slice {P : Program} {t e : TypeId} {α : Type} (d : Shp P e α) (ht : P.underlying t = some (.slice e)) (hc : P.cellsOf t = 1) (hsz : 0 < d.sz) : Shp P t (List α) where
  sz := 1
  wt := fun l => (l.map d.wt).sum + 1
  Fits := fun l => l.length * P.bytesOf e ≤ reachBytes ∧ ∀ x ∈ l, d.Fits x
  K := fun w T l cs => ∃ A c, cs = [.slice A l.length c] ∧ l.length ≤ c ∧ c ≤ maxLen ∧ (A = none → c = 0) ∧ Row d w T A l
  len := fun ⟨_, _, h, _⟩ => by rw [h]; rfl
  cells := hc
  move := fun hm ⟨A, c, h, h1, h2, h3, h4⟩ => ⟨A, c, h, h1, h2, h3, h4.move hm⟩
  mono := fun hm ⟨A, c, h, h1, h2, h3, h4⟩ => ⟨A, c, h, h1, h2, h3, h4.mono hm hsz⟩
  open_ := fun {H enc w base spare held n cs x} h => by
    rcases DataW.trod_slice ht h with ⟨rfl, rfl⟩ | ⟨a, len, cap, elems, rest, m, _, rfl, rfl, hb, hl, hm, hlen, hel, hrest⟩
    · exact ⟨[], ⟨none, 0, rfl, Nat.le_refl _, Nat.zero_le _, fun _ => rfl, fun i x hx => by simp at hx⟩, by simp; exact bulk_pos _, fun _ => ⟨by simp, by simp⟩⟩
    · have hget : ∀ i, i < len → ∃ a' : α, ∃ cs' y, elems[i]? = some y ∧ w.cells? base (a.add (i * P.cellsOf e)) (P.cellsOf e) = some cs' ∧ d.K w (· < w.heap.size) a' cs' ∧ d.wt a' ≤ Rows.uptoBulk y.1 ∧ ((∀ m ∈ y.1.weights P e, m ≤ reachBytes) → d.Fits a') := by
        intro i hi
        have h1 := hel i hi
        have hy : elems[i]? = some elems[i] := List.getElem?_eq_getElem (by omega)
        rw [hy, Option.bind_eq_some_iff] at h1
        obtain ⟨cs', hcs, htr⟩ := h1
        obtain ⟨a', hk, hw, hft⟩ := d.open_ htr
        exact ⟨a', cs', elems[i], hy, hcs, hk, hw, hft⟩
      obtain ⟨l, hll, hlp⟩ : ∃ l : List α, l.length = len ∧ ∀ i a', l[i]? = some a' → ∃ cs' y, elems[i]? = some y ∧ w.cells? base (a.add (i * P.cellsOf e)) (P.cellsOf e) = some cs' ∧ d.K w (· < w.heap.size) a' cs' ∧ d.wt a' ≤ Rows.uptoBulk y.1 ∧ ((∀ m ∈ y.1.weights P e, m ≤ reachBytes) → d.Fits a') := by
        clear hrest hel h hl hlen
        induction len with
        | zero => exact ⟨[], rfl, by simp⟩
        | succ len ih =>
          obtain ⟨l, h1, h2⟩ := ih (fun i hi => hget i (by omega))
          obtain ⟨a', h3⟩ := hget len (by omega)
          refine ⟨l ++ [a'], by simp [h1], fun i b hb => ?_⟩
          rw [List.getElem?_append] at hb
          split at hb
          · exact h2 i b hb
          · rename_i hlt
            have : i = len := by
              rcases Nat.lt_or_ge i (l.length + 1) with h5 | h5
              · omega
              · rw [List.getElem?_eq_none (by simp; omega)] at hb; cases hb
            subst this
            rw [h1] at hb
            simp at hb
            subst hb
            exact h3
      refine ⟨l, ⟨some a, cap, by rw [hll], by omega, hm, (by simp), fun i x hx => ?_⟩, ?_, fun hwt => ⟨?_, fun x hx => ?_⟩⟩
      · obtain ⟨cs', y, _, hcs, hk, _⟩ := hlp i x hx
        obtain ⟨_, hcl, hat⟩ := World.cells?_some hcs
        have hcl' := d.len hk
        have hcell : ∀ j u, cs'[j]? = some u → w.cell? (a.add (i * d.sz + j)) = some u := by
          intro j u hu
          have hj : j < P.cellsOf e := by
            rcases Nat.lt_or_ge j cs'.length with h5 | h5
            · omega
            · rw [List.getElem?_eq_none h5] at hu; cases hu
          have := hat j hj
          rw [add_add, d.cells] at this
          rw [this]; exact hu
        refine ⟨a, cs', rfl, ?_, hk, hcell⟩
        have h0 := hcell 0 cs'[0] (List.getElem?_eq_getElem (by omega))
        have hl0 := World.block_lt_of_cell? w _ h0
        rwa [block_add] at hl0
      · simp only [Rows.uptoBulk]
        have := sum_le_bulk d.wt l (elems.map (·.1)) (by simp [hll, hlen]) (fun i a' dd ha hd => by
          obtain ⟨cs', y, hy, _, _, hw, _⟩ := hlp i a' ha
          rw [List.getElem?_map, hy] at hd
          simp at hd
          subst hd
          exact hw)
        omega
      · have h1 := hwt ((elems.length + rest.length) * P.bytesOf e) (by simp [DataW.weights, ht])
        refine Nat.le_trans (Nat.mul_le_mul_right _ ?_) h1
        omega
      · obtain ⟨i, hi⟩ := List.getElem?_of_mem hx
        obtain ⟨cs', y, hy, _, _, _, hft⟩ := hlp i x hi
        refine hft fun m hmw => hwt m ?_
        have hmem : y.1 ∈ elems.map (·.1) := List.mem_map.2 ⟨y, List.mem_of_getElem? hy, rfl⟩
        have := weights_mem_all hmem m hmw
        simp only [DataW.weights, ht, List.mem_cons, List.mem_append]
        exact .inr (.inl this)

/-- The fields of a struct from the i-th on. -/
structure Frag (P : Program) (fs : Array Field) (i : Nat) (α : Type) where
  wt : α → Nat
  Fits : α → Prop
  K : World → (Nat → Prop) → α → List Value → Prop
  move : ∀ {w w' : World} {T : Nat → Prop} {a cs}, (∀ k, T k → k < w.heap.size → w'.heap[k]? = w.heap[k]?) → K w T a cs → K w' T a cs
  mono : ∀ {w : World} {T T' : Nat → Prop} {a cs}, (∀ k, T k → k < w.heap.size → T' k) → K w T a cs → K w T' a cs
  open_ : ∀ {H : Type} {enc : TypeId × Value → H} {w : World} {base : Nat} {spare : Nat → Bool} {held : Bool} {n : Nat} {cs : List Value} {xs : List (DataW H × List MemPlace)},
    xs.length = fs.size → (∀ (j : Nat) (f : Field), fs[j]? = some f → DataW.trod enc P w base spare held n f.type ((cs.drop f.offset).take (P.cellsOf f.type)) = xs[j]?) →
    ∃ a, K w (· < w.heap.size) a cs ∧ wt a ≤ Rows.uptoBulkAll ((xs.drop i).map (·.1)) ∧ ((∀ m ∈ DataW.weightsEach P (fs.toList.map (·.type)) (xs.map (·.1)), m ≤ reachBytes) → Fits a)
noncomputable def Frag.done {P : Program} {fs : Array Field} {i : Nat} : Frag P fs i Unit where
  wt := fun _ => 0
  Fits := fun _ => True
  K := fun _ _ _ _ => True
  move := fun _ h => h
  mono := fun _ h => h
  open_ := fun _ _ => ⟨(), trivial, Nat.zero_le _, fun _ => trivial⟩
noncomputable def Frag.field {P : Program} {fs : Array Field} {i t : Nat} {α β : Type} (o : Nat) (s : Shp P t α) (hf : (fs[i]?).map (fun f => (f.type, f.offset)) = some (t, o)) (r : Frag P fs (i + 1) β) : Frag P fs i (α × β) where
  wt := fun a => s.wt a.1 + r.wt a.2
  Fits := fun a => s.Fits a.1 ∧ r.Fits a.2
  K := fun w T a cs => s.K w T a.1 ((cs.drop o).take s.sz) ∧ r.K w T a.2 cs
  move := fun hm h => ⟨s.move hm h.1, r.move hm h.2⟩
  mono := fun hm h => ⟨s.mono hm h.1, r.mono hm h.2⟩
  open_ := fun {H enc w base spare held n cs xs} hl hx => by
    obtain ⟨f, hfi, he⟩ := Option.map_eq_some_iff.1 hf
    simp only [Prod.mk.injEq] at he
    obtain ⟨rfl, rfl⟩ := he
    have hi : i < fs.size := (Array.getElem?_eq_some_iff.1 hfi).1
    have h0 := hx i f hfi
    have hy : xs[i]? = some (xs[i]'(by omega)) := List.getElem?_eq_getElem (by omega)
    rw [hy, s.cells] at h0
    obtain ⟨a, hk, hw, hft⟩ := s.open_ h0
    obtain ⟨b, hk2, hw2, hft2⟩ := r.open_ hl hx
    refine ⟨(a, b), ⟨hk, hk2⟩, ?_, fun hwt => ⟨hft fun m hm => hwt m (DataW.weights_mem_each (j := i) ?_ ?_ m hm), hft2 hwt⟩⟩
    case refine_2 => rw [List.getElem?_map]; simp [hfi]
    case refine_3 => rw [List.getElem?_map, hy]; rfl
    rw [List.drop_eq_getElem_cons (by omega)]
    simp only [List.map_cons, Rows.uptoBulkAll]
    omega
noncomputable def Shp.struct {P : Program} {t sz : Nat} {fs : Array Field} {α : Type} (ht : P.underlying t = some (.struct fs)) (hc : P.cellsOf t = sz) (r : Frag P fs 0 α) : Shp P t α where
  sz := sz
  wt := r.wt
  Fits := r.Fits
  K := fun w T a cs => cs.length = sz ∧ r.K w T a cs
  len := fun h => h.1
  cells := hc
  move := fun hm h => ⟨h.1, r.move hm h.2⟩
  mono := fun hm h => ⟨h.1, r.mono hm h.2⟩
  open_ := fun {H enc w base spare held n cs x} h => by
    obtain ⟨xs, n', _, rfl, hlen, hxl, hf⟩ := DataW.trod_struct ht h
    obtain ⟨a, hk, hw, hft⟩ := r.open_ hxl hf
    refine ⟨a, ⟨hlen.trans hc, hk⟩, ?_, fun hwt => hft fun m hm => hwt m (by simp only [DataW.weights, ht]; exact hm)⟩
    simp only [List.drop_zero] at hw
    simp only [Rows.uptoBulk]
    omega
/-- The same under another name of the Lean value. -/
noncomputable def Shp.iso {P : Program} {t : TypeId} {α β : Type} (d : Shp P t α) (f : β → α) (g : α → β) (h : ∀ a, f (g a) = a) : Shp P t β where
  sz := d.sz
  wt := fun b => d.wt (f b)
  Fits := fun b => d.Fits (f b)
  K := fun w T b cs => d.K w T (f b) cs
  len := fun h => d.len h
  cells := d.cells
  move := fun hm h => d.move hm h
  mono := fun hm h => d.mono hm h
  open_ := fun hh => by
    obtain ⟨a, hk, hw, hft⟩ := d.open_ hh
    exact ⟨g a, by rw [h]; exact hk, by rw [h]; exact hw, by rw [h]; exact hft⟩

/-- The cells of a row whose elements are so many scalars. -/
theorem Row.rd {P : Program} {t : TypeId} {α : Type} {d : Shp P t α} {w : World} {T : Nat → Prop} {A : Option Addr} {l : List α} (enc : α → List Value) (he : ∀ x cs, d.K w T x cs → cs = enc x) (h : Row d w T A l) : Rd w T d.sz A l.length (l.flatMap enc) := by
  have hlen : ∀ x ∈ l, (enc x).length = d.sz := by
    intro x hx
    obtain ⟨i, hi⟩ := List.getElem?_of_mem hx
    obtain ⟨ad, cs, _, _, hk, _⟩ := h i x hi
    rw [← he x cs hk]; exact d.len hk
  have key : ∀ (l : List α) (b : Nat), (∀ x ∈ l, (enc x).length = d.sz) → (l.flatMap enc).length = l.length * d.sz ∧ ∀ j u, (l.flatMap enc)[j]? = some u → ∃ (i r : Nat) (x : α), l[i]? = some x ∧ (enc x)[r]? = some u ∧ j = i * d.sz + r := by
    intro l
    induction l with
    | nil => intro b _; simp
    | cons x l ih =>
      intro b hx
      obtain ⟨h1, h2⟩ := ih b (fun y hy => hx y (List.mem_cons_of_mem _ hy))
      have hx0 := hx x (List.mem_cons_self ..)
      refine ⟨by simp only [List.flatMap_cons, List.length_append, List.length_cons, h1, hx0]; rw [Nat.add_mul]; omega, fun j u hu => ?_⟩
      rw [List.flatMap_cons, List.getElem?_append] at hu
      split at hu
      · exact ⟨0, j, x, rfl, hu, by omega⟩
      · obtain ⟨i, r, y, hy, hr, e⟩ := h2 _ u hu
        exact ⟨i + 1, r, y, by simpa using hy, hr, by rw [Nat.add_mul]; omega⟩
  obtain ⟨h1, h2⟩ := key l 0 hlen
  refine ⟨h1, fun j u hu => ?_⟩
  obtain ⟨i, r, x, hx, hr, rfl⟩ := h2 j u hu
  obtain ⟨ad, cs, e, ht, hk, hc⟩ := h i x hx
  rw [← he x cs hk] at hr
  exact ⟨ad, e, ht, hc r u hr⟩

end Go.Proofs.Ytjcjnejcikipnaa.Lib
