/- Copies of records; Append. -/
import Derived.Test.YtjcjnejcikipnaaJ2
namespace Go.Proofs.Ytjcjnejcikipnaa.J
open Go.RowKit Go.Proofs.Ytjcjnejcikipnaa.Lib
set_option linter.unusedVariables false

/-- A row of byte slices, all of it in blocks of T. -/
def Recs (w : World) (T : Nat → Prop) (A : Option Addr) (l : List Bs) : Prop :=
  ∃ vs, Rd w T 1 A l.length vs ∧ ∀ (i : Nat) (b : Bs), l[i]? = some b → ∃ A' c', vs[i]? = some (.slice A' b.length c') ∧ b.length ≤ c' ∧ Rd w T 1 A' b.length (bvs b)
theorem Recs.move {w w' : World} {T : Nat → Prop} {A : Option Addr} {l : List Bs} (h : Recs w T A l) (hm : ∀ k, T k → k < w.heap.size → w'.heap[k]? = w.heap[k]?) : Recs w' T A l := by
  obtain ⟨vs, h1, h2⟩ := h
  refine ⟨vs, h1.move hm, fun i b hb => ?_⟩
  obtain ⟨A', c', h3, h4, h5⟩ := h2 i b hb
  exact ⟨A', c', h3, h4, h5.move hm⟩
theorem Recs.new {w w' : World} {T : Nat → Prop} {A : Option Addr} {l : List Bs} (h : Recs w T A l) (hc : Chg (fun _ => False) w w') : Recs w' T A l := h.move fun k _ hk => hc.block k hk id
theorem Recs.chg {w w' : World} {S T : Nat → Prop} {A : Option Addr} {l : List Bs} (h : Recs w T A l) (hc : Chg S w w') (hs : ∀ k, T k → ¬ S k) : Recs w' T A l := h.move fun k ht hk => hc.block k hk (hs k ht)
theorem Recs.at_ {w : World} {T : Nat → Prop} {A : Option Addr} {l : List Bs} (h : Recs w T A l) {i : Nat} (hi : i < l.length) :
    ∃ ad b A' c', A = some ad ∧ l[i]? = some b ∧ w.cell? (ad.add i) = some (.slice A' b.length c') ∧ b.length ≤ c' ∧ Rd w T 1 A' b.length (bvs b) := by
  obtain ⟨vs, h1, h2⟩ := h
  obtain ⟨ad, u, rfl, _, hu, hc⟩ := h1.at_ (j := i) (by omega)
  obtain ⟨A', c', h3, h4, h5⟩ := h2 i l[i] (List.getElem?_eq_getElem hi)
  rw [hu] at h3
  injection h3 with h3
  subst h3
  exact ⟨ad, l[i], A', c', rfl, List.getElem?_eq_getElem hi, hc, h4, h5⟩

/-- The elements of vs are rows of the call's own. -/
def Each (w : World) (base : Nat) (l : List Bs) (vs : List Value) : Prop := ∀ (i : Nat) (b : Bs), l[i]? = some b → ∃ u, vs[i]? = some u ∧ w.ownsRow base 5 1 u b.length (bvs b)
theorem Each.chg {w w' : World} {S : Nat → Prop} {base : Nat} {l : List Bs} {vs : List Value} (h : Each w base l vs) (hc : Chg S w w') (hs : ∀ k, S k → k < w.heap.size → ∃ cs t fz, w.heap[k]? = some (.cells cs t fz) ∧ t ≠ 5) : Each w' base l vs := fun i b hb => by
  obtain ⟨u, h1, h2⟩ := h i b hb
  refine ⟨u, h1, own_chg h2 hc fun k hk hsk => ?_⟩
  obtain ⟨cs, t, fz, h3, h4⟩ := hs k hsk (own_lt h2 hk)
  exact own_ne_blk h2 h3 (fun e => h4 e.symm) hk
theorem own_typ {w : World} {base e sz n : Nat} {v : Value} {cs : List Value} (h : w.ownsRow base e sz v n cs) {k : Nat} (hk : v.ownBlock = some k) : base ≤ k ∧ ∃ cur, w.heap[k]? = some (.cells cur e (0, 0)) := by
  rcases h.2 with ⟨rfl, _⟩ | ⟨g, cap, cur, rfl, hb, hh, _⟩
  · simp [Value.ownBlock] at hk
  · have : g = k := by simpa [Value.ownBlock] using hk
    subst this
    exact ⟨hb, cur, hh⟩
theorem own_fresh {w w' : World} {e sz n : Nat} {v : Value} {cs : List Value} (h : w'.ownsRow w.heap.size e sz v n cs) (k : Nat) (hk : v.ownBlock = some k) (hl : k < w.heap.size) : False := by
  have := (own_typ h hk).1; omega
theorem Each.recs {w : World} {base n : Nat} {l : List Bs} {v : Value} {vs : List Value} (h : Each w base l vs) (ho : w.ownsRow base 23 1 v l.length vs) : ∃ A c, v = .slice A l.length c ∧ l.length ≤ c ∧ Recs w (fun k => base ≤ k ∧ k < w.heap.size) A l := by
  obtain ⟨A, c, rfl, hc, hr⟩ := own_rd ho
  refine ⟨A, c, rfl, hc, vs, hr.mono fun k hk hl => ⟨(own_typ ho hk).1, hl⟩, fun i b hb => ?_⟩
  obtain ⟨u, h1, h2⟩ := h i b hb
  obtain ⟨A', c', rfl, hc', hr'⟩ := own_rd h2
  exact ⟨A', c', h1, hc', hr'.mono fun k hk hl => ⟨(own_typ h2 hk).1, hl⟩⟩
theorem Each.snoc {w : World} {base : Nat} {l : List Bs} {vs : List Value} {i : Nat} {b : Bs} {u : Value} (h : Each w base (l.take i) vs) (hv : vs.length = i) (hb : l[i]? = some b) (ho : w.ownsRow base 5 1 u b.length (bvs b)) : Each w base (l.take (i + 1)) (vs ++ [u]) := by
  intro j c hc
  have hi : i < l.length := by
    rcases Nat.lt_or_ge i l.length with h5 | h5
    · exact h5
    · rw [List.getElem?_eq_none h5] at hb; cases hb
  rw [List.take_add_one, hb] at hc
  rw [List.getElem?_append] at hc ⊢
  have hl : (l.take i).length = i := by rw [List.length_take]; omega
  rw [hl] at hc
  rw [hv]
  split at hc
  · rename_i hj
    obtain ⟨u', h1, h2⟩ := h j c hc
    rw [if_pos hj]
    exact ⟨u', h1, h2⟩
  · rename_i hj
    rw [if_neg hj]
    have : j = i := by
      rcases Nat.lt_or_ge (j - i) 1 with h5 | h5
      · omega
      · simp at hc; rw [List.getElem?_eq_none (by simp; omega)] at hc; cases hc
    subst this
    simp at hc ⊢
    subst hc
    exact ho

set_option maxHeartbeats 1600000 in
theorem copied_any (T : Nat → Prop) (A : Option Addr) (c : Nat) (l : List Bs) (w : World) (hr : Recs w T A l) (hl : l.length ≤ 4398046511104) (hs : ∀ b ∈ l, b.length ≤ 70368744177664) :
    Calls Try.prog 11 #[.slice A l.length c] w fun e w' => ∃ v vs, e = .returned v ∧ w'.ownsRow w.heap.size 23 1 v l.length vs ∧ Each w' w.heap.size l vs ∧ Chg (fun _ => False) w w' := by
  have HR := Go.Lib.hid hr
  have HS := Go.Lib.hid hs
  clear hr hs
  go_enter Try.func11, Try.ntmps11
  go_wp2
  go_loopg [3, 8] l.length (fun g v3 v8 wr => ∃ (i : Nat) (vs : List Value), i ≤ l.length ∧ g = l.length - i ∧ v8 = .int .i64 (i : Nat) ∧ wr.ownsRow w.heap.size 23 1 v3 i vs ∧ Each wr w.heap.size (l.take i) vs ∧ Chg (fun _ => False) w wr)
  case atStart => exact ⟨0, [], by omega, rfl, rfl, own_nil _ _ _ _, fun i b hb => by simp at hb, Chg.refl _ _⟩
  case round =>
    obtain ⟨i, vs, hi, hgk, rfl, hown, heach, hch⟩ := hrel
    obtain ⟨A1, c1, rfl, hc1, _⟩ := own_rd hown
    by_cases hlt : i < l.length
    · have hT : decide ((i : Int) < (l.length : Int)) = true := by simpa using hlt
      have hT' : decide (i < l.length) = true := by simpa using hlt
      obtain ⟨ad, b, A', c', rfl, hb, hcell, hbc, hrd⟩ := HR.out.at_ (i := i) hlt
      have hcell2 := hch.cell hcell id
      have hrd2 := hrd.new hch
      have hbl := HS.out b (List.mem_of_getElem? hb)
      have HB := Go.Lib.hid hb
      have HO := Go.Lib.hid hown
      have HE := Go.Lib.hid heach
      have HRD := Go.Lib.hid hrd2
      clear hcell hrd hrd2 hb hown heach
      go_wp2_with (first
        | (go_at_call 14; refine (copy_any _ _ _ _ _ _ HRD.out (bvs_one _) hbl).mono ?_; rintro e w5 ⟨u, rfl, hu, hc5⟩; obtain ⟨A2, c2, rfl, hc2, _⟩ := own_rd hu; have HU := Go.Lib.hid hu; have HC5 := Go.Lib.hid hc5; clear hu hc5)
        | (at_builtin; refine wpList_app _ rfl _ _ 22 rfl w.heap.size 23 1 24 _ Try.underlying22 info23 rfl (by omega) (.slice A1 i c1) i vs rfl (own_alloc (own_chg HO.out HC5.out fun _ _ f => f) _) _ _ 1 1 [.slice A2 b.length c2] rfl (rd_newv w5 23 [.slice A2 b.length c2]) ?c2 ?c3 ?c4 ?c5 ?_))
      case c2 => intro u hu; simp only [List.mem_cons, List.not_mem_nil, or_false] at hu; subst hu; rfl
      case c3 => simp only [maxLen]; omega
      case c4 => omega
      case c5 => have := hch.size; have := HC5.out.size; simp; omega
      intro v1 w1 hown hg hat
      obtain ⟨A3, c3, rfl, hc3, _⟩ := own_rd hown
      have hsz5 := HC5.out.size
      have hsz := hch.size
      have hO5 := own_chg HO.out HC5.out fun _ _ f => f
      have hch1 : Chg (fun _ => False) w w1 := ((hch.trans HC5.out fun _ f _ => f).alloc _).trans hg fun k hk hl => own_fresh HO.out k hk hl
      have htyp : ∀ k, (Value.slice A1 i c1).ownBlock = some k → k < (w5.alloc (.cells #[.slice A2 b.length c2] 23)).heap.size → ∃ cs t fz, (w5.alloc (.cells #[.slice A2 b.length c2] 23)).heap[k]? = some (.cells cs t fz) ∧ t ≠ 5 := fun k hk _ => by
        obtain ⟨_, cur, h⟩ := own_typ hO5 hk
        exact ⟨cur, 23, _, blk_alloc h _, by decide⟩
      have hE1 : Each w1 w.heap.size (l.take i) vs := ((HE.out.chg HC5.out fun _ f _ => f.elim).chg ((Chg.refl (fun _ => False) _).alloc _) fun _ f _ => f.elim).chg hg htyp
      have hU1 : w1.ownsRow w.heap.size 5 1 (.slice A2 b.length c2) b.length (bvs b) := own_base (own_chg (own_alloc HU.out _) hg fun k hk hs => by
        obtain ⟨cs, t, fz, h1, h2⟩ := htyp _ hs (own_lt (own_alloc HU.out _) hk)
        exact own_ne_blk (own_alloc HU.out _) h1 (fun e => h2 e.symm) hk) hsz
      have hE2 := hE1.snoc (by have := HO.out.1; omega) HB.out hU1
      have HE2 := Go.Lib.hid hE2
      have HO2 := Go.Lib.hid hown
      clear hO5 htyp hE1 hU1 hE2 hown hg hat
      go_wp2
      go_roundg (l.length - (i + 1))
      case measure => omega
      case rel => exact ⟨i + 1, _, by omega, rfl, by go_num, HO2.out, HE2.out, hch1⟩
    · have hT : decide ((i : Int) < (l.length : Int)) = false := by simpa using hlt
      have hT' : decide (i < l.length) = false := by simpa using hlt
      have e : i = l.length := by omega
      subst e
      rw [List.take_length] at heach
      have HO := Go.Lib.hid hown
      have HE := Go.Lib.hid heach
      clear hown heach
      go_wp2
      go_ret
      exact ⟨_, vs, rfl, HO.out, HE.out, hch⟩
end Go.Proofs.Ytjcjnejcikipnaa.J
