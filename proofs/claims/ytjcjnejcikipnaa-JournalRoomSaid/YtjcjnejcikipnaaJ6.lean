/- JournalRoom. -/
import Derived.Test.YtjcjnejcikipnaaJ5
import Derived.Test.YtjcjnejcikipnaaOpen
namespace Go.Proofs.Ytjcjnejcikipnaa.J
open Go.RowKit Go.Proofs.Ytjcjnejcikipnaa.Lib
set_option linter.unusedVariables false

noncomputable def shByte : Shp Try.prog 5 UInt8 where
  sz := 1
  wt := fun _ => 1
  Fits := fun _ => True
  K := fun _ _ a cs => cs = [bv a]
  len := fun h => by rw [h]; rfl
  cells := by kernel_rfl
  move := fun _ h => h
  mono := fun _ h => h
  open_ := fun h => by
    obtain ⟨n, rfl, rfl, hw⟩ := DataW.trod_int Try.underlying5 h
    have h2 : 0 ≤ n ∧ n ≤ 255 := by
      simp only [Lit.wf, Bool.and_eq_true, decide_eq_true_eq] at hw
      exact hw
    refine ⟨UInt8.ofNat n.toNat, ?_, bulk_pos _, fun _ => trivial⟩
    simp only [bv, UInt8.toNat_ofNat']
    congr 2
    omega
noncomputable def shBytes : Shp Try.prog 23 Bs := Shp.slice shByte Try.underlying23 (by kernel_rfl) (by decide)
noncomputable def shRecs : Shp Try.prog 22 (List Bs) := Shp.slice shBytes Try.underlying22 (by kernel_rfl) (by decide)

theorem bvs_flat (l : Bs) : l.flatMap (fun x => [bv x]) = bvs l := by
  induction l with
  | nil => rfl
  | cons x l ih => simp only [List.flatMap_cons, ih]; rfl
theorem bytes_rd {w : World} {T : Nat → Prop} {A : Option Addr} {l : Bs} (h : Row shByte w T A l) : Rd w T 1 A l.length (bvs l) := by
  have := Row.rd (fun x => [bv x]) (fun x cs h => h) h
  rwa [bvs_flat] at this
theorem recs_rd {w : World} {T : Nat → Prop} {A : Option Addr} {l : List Bs} (h : Row shBytes w T A l) : Recs w T A l := by
  have hex : ∀ i, i < l.length → ∃ v : Value, ∃ ad A' c', A = some ad ∧ T ad.block ∧ w.cell? (ad.add i) = some v ∧ v = .slice A' (l.getD i []).length c' ∧ (l.getD i []).length ≤ c' ∧ Rd w T 1 A' (l.getD i []).length (bvs (l.getD i [])) := by
    intro i hi
    obtain ⟨ad, cs, rfl, ht, ⟨A', c', rfl, hc, _, _, hr⟩, hcell⟩ := h i l[i] (List.getElem?_eq_getElem hi)
    have h0 := hcell 0 _ rfl
    have e : l.getD i [] = l[i] := by simp [List.getD, List.getElem?_eq_getElem hi]
    rw [e]
    exact ⟨_, ad, A', c', rfl, ht, by have h0' : w.cell? (ad.add (i * 1 + 0)) = _ := h0; rwa [Nat.mul_one, Nat.add_zero] at h0', rfl, hc, bytes_rd hr⟩
  obtain ⟨vs, hl, hv⟩ : ∃ vs : List Value, vs.length = l.length ∧ ∀ i v, vs[i]? = some v → ∃ ad A' c', A = some ad ∧ T ad.block ∧ w.cell? (ad.add i) = some v ∧ v = .slice A' (l.getD i []).length c' ∧ (l.getD i []).length ≤ c' ∧ Rd w T 1 A' (l.getD i []).length (bvs (l.getD i [])) := by
    have key : ∀ n, n ≤ l.length → ∃ vs : List Value, vs.length = n ∧ ∀ i v, vs[i]? = some v → ∃ ad A' c', A = some ad ∧ T ad.block ∧ w.cell? (ad.add i) = some v ∧ v = .slice A' (l.getD i []).length c' ∧ (l.getD i []).length ≤ c' ∧ Rd w T 1 A' (l.getD i []).length (bvs (l.getD i [])) := by
      intro n
      induction n with
      | zero => intro _; exact ⟨[], rfl, by simp⟩
      | succ n ih =>
        intro hn
        obtain ⟨vs, h1, h2⟩ := ih (by omega)
        obtain ⟨v, h3⟩ := hex n (by omega)
        refine ⟨vs ++ [v], by simp [h1], fun i u hu => ?_⟩
        rw [List.getElem?_append] at hu
        split at hu
        · exact h2 i u hu
        · rename_i hlt
          have : i = n := by
            rcases Nat.lt_or_ge i (vs.length + 1) with h5 | h5
            · omega
            · rw [List.getElem?_eq_none (by simp; omega)] at hu; cases hu
          subst this
          rw [h1] at hu
          simp at hu
          subst hu
          exact h3
    exact key l.length (Nat.le_refl _)
  refine ⟨vs, ⟨by omega, fun j u hu => ?_⟩, fun i b hb => ?_⟩
  · obtain ⟨ad, _, _, e, ht, hc, _⟩ := hv j u hu
    exact ⟨ad, e, ht, hc⟩
  · have hi : i < vs.length := by
      rw [hl]
      rcases Nat.lt_or_ge i l.length with h5 | h5
      · exact h5
      · rw [List.getElem?_eq_none h5] at hb; cases hb
    obtain ⟨ad, A', c', e, ht, hc, hu, hb', hr⟩ := hv i vs[i] (List.getElem?_eq_getElem hi)
    have eb : l.getD i [] = b := by simp [List.getD, hb]
    rw [eb] at hu hb' hr
    exact ⟨A', c', by rw [List.getElem?_eq_getElem hi, hu], hb', hr⟩

/-- A journal that lies in blocks from lo to hi. -/
def JIn (w : World) (lo hi j : Nat) (cap : Int) (R : List Bs) (safe : Nat) : Prop := hi ≤ w.heap.size ∧ ∃ vb ve, IsJ w (fun k => lo ≤ k ∧ k < hi) j cap R safe vb ve
theorem JIn.chg {w w' : World} {S : Nat → Prop} {lo hi j : Nat} {cap : Int} {R : List Bs} {safe : Nat} (h : JIn w lo hi j cap R safe) (hc : Chg S w w') (hs : ∀ k, lo ≤ k → k < hi → ¬ S k) : JIn w' lo hi j cap R safe := by
  obtain ⟨h0, vb, ve, h⟩ := h
  exact ⟨Nat.le_trans h0 hc.size, vb, ve, h.chg hc fun k hk => hs k hk.1 hk.2⟩
theorem IsJ.to {w : World} {S : Nat → Prop} {j : Nat} {cap : Int} {R : List Bs} {safe : Nat} {vb ve : Value} (h : IsJ w S j cap R safe vb ve) {lo : Nat} (hs : ∀ k, S k → lo ≤ k) : JIn w lo w.heap.size j cap R safe :=
  ⟨Nat.le_refl _, vb, ve, h.blk, h.b_.mono fun k _ hk => ⟨hs k hk, h.lt k hk⟩, h.e_, ⟨hs j h.sq, h.lt j h.sq⟩, fun k hk => ⟨hs k (h.se k hk), h.lt k (h.se k hk)⟩, fun k hk => hk.2⟩

def tot (l : List Bs) : Nat := (l.map fun b => b.length + 9).sum
theorem tot_ge {l : List Bs} {b : Bs} (h : b ∈ l) : b.length + 9 ≤ tot l := by
  induction l with
  | nil => cases h
  | cons x l ih =>
    simp only [tot, List.map_cons, List.sum_cons] at ih ⊢
    rcases List.mem_cons.1 h with rfl | h
    · omega
    · have := ih h; omega
theorem tot_take {l : List Bs} {i : Nat} {b : Bs} (h : l[i]? = some b) : tot (l.take (i + 1)) = tot (l.take i) + (b.length + 9) := by
  rw [take_snoc' h]; simp [tot]
theorem cat_le_tot {l : List Bs} (h : ∀ b ∈ l, b.length ≤ 1048576) : (cat l).length ≤ tot l := by
  induction l with
  | nil => simp [cat, tot]
  | cons x l ih =>
    have h1 := ih fun b hb => h b (List.mem_cons_of_mem _ hb)
    have h2 := (frm_len (h x (List.mem_cons_self ..))).2
    simp only [cat, tot, List.flatMap_cons, List.length_append, List.map_cons, List.sum_cons] at h1 ⊢
    omega
end Go.Proofs.Ytjcjnejcikipnaa.J
