/- Append. -/
import Derived.Test.YtjcjnejcikipnaaJ3
import Derived.Deep.RegionHeld3
import Derived.Deep.RegionLaw
import Derived.Deep.DeepCutAuto
import Derived.Deep.CutBlock
import Derived.Deep.QuietTactic
import Derived.BigQuiet
import Derived.StillTailTactics
namespace Go.Proofs.Ytjcjnejcikipnaa.J
open Go.RowKit Go.Proofs.Ytjcjnejcikipnaa.Lib
set_option linter.unusedVariables false

theorem take_snoc' {α : Type} {l : List α} {i : Nat} {b : α} (h : l[i]? = some b) : l.take (i + 1) = l.take i ++ [b] := by
  rw [List.take_add_one, h]; rfl
/-- S's blocks and what is new. -/
def Grow (S : Nat → Prop) (w w' : World) : Nat → Prop := fun k => (S k ∨ w.heap.size ≤ k) ∧ k < w'.heap.size
/-- What Append does. -/
def AppP (w : World) (S : Nat → Prop) (j : Nat) (cap : Int) (R : List Bs) (safe : Nat) (l : List Bs) (e : Ending) (w' : World) : Prop :=
  ((∃ r ∈ l, 1048576 < r.length) ∧ e = .returned (.int .i64 180) ∧ Chg (fun _ => False) w w') ∨
  ((∀ r ∈ l, r.length ≤ 1048576) ∧ cap < (cat R).length + (cat l).length ∧ e = .returned (.int .i64 181) ∧ Chg (fun _ => False) w w') ∨
  ((∀ r ∈ l, r.length ≤ 1048576) ∧ (cat R).length + (cat l).length ≤ cap ∧ e = .returned (.int .i64 0) ∧ Chg S w w' ∧ ∃ vb ve, IsJ w' (Grow S w w') j cap (R ++ l) safe vb ve)

theorem cat_take_succ {l : List Bs} {i : Nat} {b : Bs} (h : l[i]? = some b) : cat (l.take (i + 1)) = cat (l.take i) ++ frm b := by
  rw [List.take_add_one, h, cat_app]; simp [cat]
theorem ends_take_succ {n : Nat} {l : List Bs} {i : Nat} {b : Bs} (h : l[i]? = some b) : ends n (l.take (i + 1)) = ends n (l.take i) ++ [n + (cat (l.take (i + 1))).length] := by
  rw [cat_take_succ h, List.take_add_one, h, ends_app]; simp [ends, Nat.add_assoc]
theorem cat_take_le (l : List Bs) (i : Nat) : (cat (l.take i)).length ≤ (cat l).length := by
  have : cat l = cat (l.take i) ++ cat (l.drop i) := by rw [← cat_app, List.take_append_drop]
  rw [this, List.length_append]; omega

set_option maxRecDepth 100000 in
set_option maxHeartbeats 4000000 in
theorem append_any {w : World} {S : Nat → Prop} {j : Nat} {cap : Int} {R : List Bs} {safe : Nat} {vb ve : Value} (h : IsJ w S j cap R safe vb ve)
    (T : Nat → Prop) (A : Option Addr) (c : Nat) (l : List Bs) (hr : Recs w T A l) (hl : R.length + l.length ≤ 1099511627776) (hcl : (cat R).length + (cat l).length ≤ 35184372088832) :
    Calls Try.prog 10 #[.pointer (some ⟨j, 0, none⟩), .slice A l.length c] w fun e w' => AppP w S j cap R safe l e w' := by
  have H := Go.Lib.hid h
  have HR := Go.Lib.hid hr
  obtain ⟨Ab, cb, rfl, hcb⟩ := h.b_.shape
  obtain ⟨Ae, ce, rfl, hce, _⟩ := own_rd h.e_
  have hj := h.blk
  have HJ := Go.Lib.hid hj
  clear h hr hj
  go_enter Try.func10, Try.ntmps10
  go_wp2
  go_loopg [5, 6, 11] l.length (fun g v4 v5 v10 wr => ∃ (i : Nat), i ≤ l.length ∧ g = l.length - i ∧ v10 = .int .i64 (i : Nat) ∧ (∀ r ∈ l.take i, r.length ≤ 1048576) ∧ wr.ownsRow w.heap.size 5 1 v4 (cat (l.take i)).length (bvs (cat (l.take i))) ∧ wr.ownsRow w.heap.size 3 1 v5 i (ivs (ends (cat R).length (l.take i))) ∧ Chg (fun _ => False) w wr)
  case atStart => exact ⟨0, by omega, rfl, rfl, by simp, own_nil _ _ _ _, own_nil _ _ _ _, Chg.refl _ _⟩
  case round =>
    obtain ⟨i, hi, hgk, rfl, hall, hom, hoe, hch⟩ := hrel
    obtain ⟨A1, c1, rfl, hc1, _⟩ := own_rd hom
    obtain ⟨A2, c2, rfl, hc2, _⟩ := own_rd hoe
    have HOM := Go.Lib.hid hom
    have HOE := Go.Lib.hid hoe
    have HALL := Go.Lib.hid hall
    clear hom hoe hall
    have hjr := hch.heap HJ.out id
    have k0 := blk_cell hjr 0
    have k1 := blk_cell hjr 1
    have k2 := blk_cell hjr 2
    have f1 := blk_free hjr 1
    have f2 := blk_free hjr 2
    by_cases hlt : i < l.length
    · have hT : decide ((i : Int) < (l.length : Int)) = true := by simpa using hlt
      have hT' : decide (i < l.length) = true := by simpa using hlt
      obtain ⟨ad, b, A', c', rfl, hb, hcell, hbc, hrd⟩ := HR.out.at_ (i := i) hlt
      have hcell2 := hch.cell hcell id
      have HRD := Go.Lib.hid (hrd.new hch)
      have HB := Go.Lib.hid hb
      clear hcell hrd hb
      by_cases hbig : 1048576 < b.length
      · have hB : decide ((1048576 : Int) < (b.length : Int)) = true := decide_eq_true (by omega)
        go_wp2
        go_ret
        exact .inl ⟨⟨b, List.mem_of_getElem? HB.out, hbig⟩, rfl, hch⟩
      · have hB : decide ((1048576 : Int) < (b.length : Int)) = false := decide_eq_false (by omega)
        go_wp2_with (first
          | (go_at_call 26; refine (frame_any _ _ _ _ _ HRD.out (by omega)).mono ?_; rintro e w5 ⟨u, rfl, hu, hc5⟩; obtain ⟨A3, c3, rfl, hc3, _⟩ := own_rd hu; have HU := Go.Lib.hid hu; have HC5 := Go.Lib.hid hc5; clear hu hc5)
          | (at_builtin; refine wpList_app _ rfl _ _ 23 rfl w.heap.size 5 1 1 _ Try.underlying23 info5 rfl (by omega) (.slice A1 (cat (l.take i)).length c1) (cat (l.take i)).length (bvs (cat (l.take i))) rfl (own_chg HOM.out HC5.out fun _ _ f => f) _ A3 (frm b).length c3 (bvs (frm b)) rfl (Rd.of_own HU.out) (bvs_one _) ?c3 ?c4 ?c5 ?_))
        case c3 => simp only [maxLen]; have := cat_take_le l (i + 1); rw [cat_take_succ HB.out, List.length_append] at this; omega
        case c4 => have := cat_take_le l (i + 1); rw [cat_take_succ HB.out, List.length_append] at this; omega
        case c5 => have := hch.size; have := HC5.out.size; omega
        intro v1 w1 hown hg hat
        have hch1 : Chg (fun _ => False) w w1 := (hch.trans HC5.out fun _ f _ => f).trans hg fun k hk hl => own_fresh HOM.out k hk hl
        rw [← bvs_app, ← cat_take_succ HB.out] at hown
        have hoe1 : w1.ownsRow w.heap.size 3 1 (.slice A2 i c2) i (ivs (ends (cat R).length (l.take i))) := own_chg (own_chg HOE.out HC5.out fun _ _ f => f) hg fun k hk hs => by
          obtain ⟨_, cur, hb1⟩ := own_typ (own_chg HOM.out HC5.out fun _ _ f => f) hs
          exact own_ne_blk (own_chg HOE.out HC5.out fun _ _ f => f) hb1 (by decide) hk
        have hlen : (cat (l.take i)).length + (frm b).length = (cat (l.take (i + 1))).length := by rw [cat_take_succ HB.out, List.length_append]
        rw [hlen] at hown
        obtain ⟨A4, c4, rfl, hc4, _⟩ := own_rd hown
        have HOM1 := Go.Lib.hid hown
        have HOE1 := Go.Lib.hid hoe1
        have HCH1 := Go.Lib.hid hch1
        have HL := Go.Lib.hid hlen
        have hcb := cat_take_le l (i + 1)
        clear hown hoe1 hg hat hch1 hlen
        have hj1 := HCH1.out.heap HJ.out id
        have q1 := blk_cell hj1 1
        go_wp2_with (at_builtin; refine wpList_app _ rfl _ _ 56 rfl w.heap.size 3 1 8 _ Try.underlying56 info3 rfl (by omega) (.slice A2 i c2) i (ivs (ends (cat R).length (l.take i))) rfl (own_alloc HOE1.out _) _ _ 1 1 [.int .i64 (((cat R).length : Int) + ((cat (l.take (i + 1))).length : Int))] rfl (rd_newv w1 3 [.int .i64 (((cat R).length : Int) + ((cat (l.take (i + 1))).length : Int))]) ?d2 ?d3 ?d4 ?d5 ?_)
        case d2 => intro u hu; simp only [List.mem_cons, List.not_mem_nil, or_false] at hu; subst hu; rfl
        case d3 => simp only [maxLen]; omega
        case d4 => omega
        case d5 => have := HCH1.out.size; simp; omega
        intro v3 w3 hown hg hat
        have hch3 : Chg (fun _ => False) w w3 := (HCH1.out.alloc _).trans hg fun k hk hl => own_fresh HOE1.out k hk hl
        have hom3 := own_chg (own_alloc HOM1.out (.cells [Value.int .i64 (((cat R).length : Int) + ((cat (l.take (i + 1))).length : Int))].toArray 3)) hg fun k hk hs => by
          obtain ⟨_, cur, hb1⟩ := own_typ HOE1.out hs
          exact own_ne_blk HOM1.out hb1 (by decide) hk
        have hiv : ivs (ends (cat R).length (l.take i)) ++ [Value.int .i64 (((cat R).length : Int) + ((cat (l.take (i + 1))).length : Int))] = ivs (ends (cat R).length (l.take (i + 1))) := by
          rw [ends_take_succ HB.out, ivs_app]; rfl
        rw [hiv] at hown
        obtain ⟨A5, c5, rfl, hc5, _⟩ := own_rd hown
        have HOE3 := Go.Lib.hid hown
        have HOM3 := Go.Lib.hid hom3
        have HCH3 := Go.Lib.hid hch3
        clear hown hg hat hch3 hom3 hiv q1 hj1
        go_wp2
        go_roundg (l.length - (i + 1))
        case measure => omega
        case rel =>
          refine ⟨i + 1, by omega, rfl, by go_num, fun r hr => ?_, HOM3.out, HOE3.out, HCH3.out⟩
          rw [take_snoc' HB.out, List.mem_append, List.mem_singleton] at hr
          rcases hr with hr | rfl
          · exact HALL.out r hr
          · omega
    · have hT : decide ((i : Int) < (l.length : Int)) = false := by simpa using hlt
      have hT' : decide (i < l.length) = false := by simpa using hlt
      have e : i = l.length := by omega
      subst e
      rw [List.take_length] at HOM HOE HALL hc1 ⊢
      by_cases hfull : cap < (cat R).length + (cat l).length
      · have hF : decide (cap < ((cat R).length : Int) + ((cat l).length : Int)) = true := decide_eq_true hfull
        go_wp2
        go_quiet (fail)
        go_wp2
        go_ret
        exact .inr (.inl ⟨HALL.out, hfull, rfl, hch.drewN _⟩)
      · have hF : decide (cap < ((cat R).length : Int) + ((cat l).length : Int)) = false := decide_eq_false hfull
        have htp : Tape wr S (.slice Ab (cat R).length cb) (cat R) := H.out.b_.chg hch fun _ _ f => f
        have HTP := Go.Lib.hid htp
        clear htp
        go_wp2
        go_quiet (fail)
        go_wp2_with (at_builtin; refine wpList_tape rfl _ _ 23 rfl Try.underlying23 info5 rfl (HTP.out.move (fun _ _ => rfl)) _ A1 c1 (cat l) rfl ((Rd.of_own HOM.out).move fun _ _ _ => rfl) ?e1 ?_)
        case e1 => omega
        intro v1 w1 htp1 hg
        obtain ⟨A6, c6, rfl, hc6⟩ := htp1.shape
        have hjv : (Value.slice Ab (cat R).length cb).ownBlock ≠ some j := fun hk => by
          obtain ⟨_, cur, hb⟩ := HTP.out.blk hk
          rw [hjr] at hb
          injection hb with hb
          injection hb with _ hb
          cases hb
        have hj1 := hg.heap (k := j) hjr hjv
        have HTP1 := Go.Lib.hid htp1
        have HG := Go.Lib.hid hg
        have HJ1 := Go.Lib.hid hj1
        have q1 := blk_cell hj1 1
        have q2 := blk_free hj1 1
        clear htp1 hg hj1 k0 k1 k2 f1 f2
        have hj2 : (w1.setCell ⟨j, 1, none⟩ (.slice A6 ((cat R).length + (cat l).length) c6)).heap[j]? = some (.cells #[.int .i64 cap, .slice A6 ((cat R).length + (cat l).length) c6, .slice Ae R.length ce, .int .i64 (safe : Int)] 58 (0, 0)) := by simpa using blk_set HJ1.out 1 (.slice A6 ((cat R).length + (cat l).length) c6)
        have he1 : w1.ownsRow 0 3 1 (.slice Ae R.length ce) R.length (ivs (ends 0 R)) := own_chg (w := wr.drewN _) (own_move (w := wr) (own_chg H.out.e_ hch fun _ _ f => f) fun _ _ => rfl) HG.out fun k hk hs => by
          obtain ⟨_, cur, hb⟩ := HTP.out.blk hs
          exact own_ne_blk (own_chg H.out.e_ hch fun _ _ f => f) hb (by decide) hk
        have hjve : (Value.slice Ae R.length ce).ownBlock ≠ some j := own_ne_blk he1 HJ1.out (by decide)
        have he2 := own_far he1 (p := ⟨j, 1, none⟩) hjve (.slice A6 ((cat R).length + (cat l).length) c6)
        have q3 := blk_cell hj2 2
        have q4 := blk_free hj2 2
        have HJ2 := Go.Lib.hid hj2
        have HE1 := Go.Lib.hid he1
        have HE2 := Go.Lib.hid he2
        have HJV := Go.Lib.hid hjve
        clear hj2 he1 he2 hjve
        go_wp2_with (at_builtin; refine wpList_app _ rfl (.tmp 60) (.tmp 61) 56 rfl 0 3 1 8 _ Try.underlying56 info3 rfl (Nat.lt_succ_self 0) (.slice Ae R.length ce) R.length (ivs (ends 0 R)) rfl HE2.out (fun k => (Value.slice A2 l.length c2).ownBlock = some k) A2 l.length c2 (ivs (ends (cat R).length l)) rfl ?e2 (ivs_one _) ?e3 ?e4 ?e5 ?_)
        case e2 =>
          refine ((Rd.of_own HOE.out).move (w' := wr.drewN _) fun _ _ _ => rfl).chg (w' := _) ((HG.out.mono (T := fun k => k = j ∨ (Value.slice Ab (cat R).length cb).ownBlock = some k) fun k hk _ => .inr hk).setCell (p := ⟨j, 1, none⟩) (fun _ => .inl rfl) _) fun k hk hs => ?_
          rcases hs with rfl | hs
          · exact own_ne_blk HOE.out hjr (by decide) hk
          · obtain ⟨_, cur, hb⟩ := HTP.out.blk hs
            exact own_ne_blk HOE.out hb (by decide) hk
        case e3 => simp only [maxLen]; omega
        case e4 => omega
        case e5 => simp
        intro v3 w3 hown3 hg3 hat3
        obtain ⟨A7, c7, rfl, hc7, _⟩ := own_rd hown3
        have hj3 := hg3.heap HJ2.out HJV.out
        have s1 := blk_cell hj3 2
        have s2 := blk_free hj3 2
        have HJ3 := Go.Lib.hid hj3
        have HG3 := Go.Lib.hid hg3
        have HO3 := Go.Lib.hid hown3
        have HAT3 := Go.Lib.hid hat3
        clear hj3 hg3 hown3 hat3 q1 q2 q3 q4
        go_wp2
        go_ret
        refine .inr (.inr ⟨HALL.out, hfull, rfl, ?_⟩)
        have hw : Chg S w w1 := ((hch.mono fun _ f _ => f.elim).drewN _).trans HG.out fun k hk _ => (HTP.out.blk hk).1
        have hw3 : Chg S w w3 := (hw.setCell (p := ⟨j, 1, none⟩) (fun _ => H.out.sq) _).trans HG3.out fun k hk _ => H.out.se k hk
        have hw4 := hw3.setCell (p := ⟨j, 2, none⟩) (fun _ => H.out.sq) (.slice A7 (R.length + l.length) c7)
        have hc14 : Chg (fun k => k = j ∨ (Value.slice Ae R.length ce).ownBlock = some k) w1 (w3.setCell ⟨j, 2, none⟩ (.slice A7 (R.length + l.length) c7)) :=
          (((Chg.refl _ w1).setCell (p := ⟨j, 1, none⟩) (fun _ => .inl rfl) _).trans HG3.out fun k hk _ => .inr hk).setCell (p := ⟨j, 2, none⟩) (fun _ => .inl rfl) _
        have hjs : (Value.slice A7 (R.length + l.length) c7).ownBlock ≠ some j := own_ne_blk HO3.out HJ3.out (by decide)
        refine ⟨hw4, .slice A6 ((cat R).length + (cat l).length) c6, .slice A7 (R.length + l.length) c7, ?_, ?_, ?_, ⟨.inl H.out.sq, ?_⟩, ?_, fun k hk => hk.2⟩
        · simpa using blk_set HJ3.out 2 (.slice A7 (R.length + l.length) c7)
        · rw [cat_app]
          have h1 := HTP1.out
          rw [List.length_append] at h1
          have h2 := h1.chg hc14 fun k hk ht => by
            obtain ⟨_, cur, hb⟩ := h1.blk hk
            rcases ht with rfl | ht
            · rw [HJ1.out] at hb
              injection hb with hb
              injection hb with _ hb
              cases hb
            · exact own_ne_blk HE1.out hb (by decide) ht
          refine h2.mono fun k hk hs => ⟨?_, heap_lt (h2.blk hk).2.choose_spec⟩
          rcases hs with ⟨_, hs⟩ | hs
          · exact .inl hs
          · exact .inr (Nat.le_trans hch.size hs)
        · have h1 := own_far HO3.out (p := ⟨j, 2, none⟩) hjs (.slice A7 (R.length + l.length) c7)
          rw [← ivs_app] at h1
          rw [List.length_append, ends_app, Nat.zero_add]
          exact h1
        · exact heap_lt (by simpa using blk_set HJ3.out 2 (.slice A7 (R.length + l.length) c7))
        · intro k hk
          refine ⟨?_, ?_⟩
          · rcases HAT3.out k hk with h1 | h1
            · exact .inl (H.out.se k h1)
            · have := hw.size
              have h2 : w1.heap.size ≤ k := by simpa [World.setCell] using h1
              exact .inr (by omega)
          · have := own_lt HO3.out hk
            simpa [World.setCell] using this
end Go.Proofs.Ytjcjnejcikipnaa.J
