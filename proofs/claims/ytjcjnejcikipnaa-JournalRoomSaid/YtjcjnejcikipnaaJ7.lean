/- JournalRoom: the walk. -/
import Derived.Test.YtjcjnejcikipnaaJ6
namespace Go.Proofs.Ytjcjnejcikipnaa.J
open Go.RowKit Go.Proofs.Ytjcjnejcikipnaa.Lib
set_option linter.unusedVariables false

theorem tot_le (l : List Bs) (h : ∀ b ∈ l, b.length ≤ 281474976710656) : tot l ≤ l.length * 281474976710700 := by
  induction l with
  | nil => simp [tot]
  | cons x l ih =>
    have h1 := ih fun b hb => h b (List.mem_cons_of_mem _ hb)
    have h2 := h x (List.mem_cons_self ..)
    simp only [tot, List.map_cons, List.sum_cons, List.length_cons] at h1 ⊢
    omega
theorem tot_app (a b : List Bs) : tot (a ++ b) = tot a + tot b := by simp [tot]
theorem tot_take_le (l : List Bs) (i : Nat) : tot (l.take i) ≤ tot l := by
  have : tot l = tot (l.take i) + tot (l.drop i) := by rw [← tot_app, List.take_append_drop]
  omega

theorem cat_take_lt {l : List Bs} {i : Nat} (h : i < l.length) : (cat (l.take i)).length + 1 ≤ (cat l).length := by
  have h1 := cat_take_le l (i + 1)
  rw [cat_take_succ (List.getElem?_eq_getElem h), List.length_append] at h1
  have h2 : 1 ≤ (frm l[i]).length := by simp only [frm, List.length_append, List.length_cons, List.length_nil]; omega
  omega
theorem cat_pos {l : List Bs} (h : l ≠ []) : 1 ≤ (cat l).length := by
  have := cat_take_lt (l := l) (i := 0) (by cases l with | nil => exact absurd rfl h | cons x l => simp)
  omega
theorem recs_one {w : World} {base : Nat} {b : Bs} {A : Option Addr} {c : Nat} (ho : w.ownsRow base 5 1 (.slice A b.length c) b.length (bvs b)) (hc : b.length ≤ c) :
    Recs (w.alloc (.cells #[.slice A b.length c] 23)) (fun _ => True) (some ⟨w.heap.size, 0, none⟩) [b] := by
  refine ⟨[.slice A b.length c], (rd_newv w 23 [.slice A b.length c]).mono fun _ _ _ => trivial, fun i b' hb => ?_⟩
  have h0 : i = 0 := by
    rcases Nat.lt_or_ge i 1 with h | h
    · omega
    · rw [List.getElem?_eq_none (by simpa using h)] at hb; cases hb
  subst h0
  injection hb with hb
  subst hb
  exact ⟨A, c, rfl, hc, ((Rd.of_own ho).new ((Chg.refl _ _).alloc _)).mono fun _ _ _ => trivial⟩

set_option maxRecDepth 100000 in
set_option maxHeartbeats 8000000 in
theorem room_any (w : World) (A : Option Addr) (c : Nat) (l : List Bs) (hr : Recs w (· < w.heap.size) A l) (hl : l.length ≤ 8796093022208) (hs : ∀ b ∈ l, b.length ≤ 281474976710656) :
    Calls Try.prog 3 #[.slice A l.length c] w fun e w' => e = .returned (.bool true) ∧ Chg (fun _ => False) w w' := by
  have HR := Go.Lib.hid hr
  have HS := Go.Lib.hid hs
  have htl := tot_le l hs
  have HTL := Go.Lib.hid htl
  clear hr hs htl
  go_enter Try.func3, Try.ntmps3
  go_wp2
  go_loopg [3, 18] l.length (fun g v3 v18 wr => ∃ (i : Nat) (t : Int), i ≤ l.length ∧ g = l.length - i ∧ v18 = .int .i64 (i : Nat) ∧ v3 = .int .i64 t ∧ -9223372036854775808 ≤ t ∧ t ≤ 9223372036854775807 ∧ (l.length ≤ 100 → t = (tot (l.take i) : Nat)) ∧ w = wr)
  case atStart => exact ⟨0, 0, by omega, rfl, rfl, rfl, by omega, by omega, fun _ => rfl, rfl⟩
  case round =>
    obtain ⟨i, t, hi, hgk, rfl, rfl, ht1, ht2, ht3, rfl⟩ := hrel
    have HT3 := Go.Lib.hid ht3
    clear ht3
    by_cases hlt : i < l.length
    · have hT : decide ((i : Int) < (l.length : Int)) = true := by simpa using hlt
      have hT' : decide (i < l.length) = true := by simpa using hlt
      obtain ⟨ad, b, A', c', rfl, hb, hcell, hbc, hrd⟩ := HR.out.at_ (i := i) hlt
      have hbl := HS.out b (List.mem_of_getElem? hb)
      have HB := Go.Lib.hid hb
      clear hb hrd
      go_wp2
      go_roundg (l.length - (i + 1))
      case measure => omega
      case rel =>
        refine ⟨i + 1, _, by omega, rfl, by go_num, rfl, by simp only [wrap64]; omega, by simp only [wrap64]; omega, fun h100 => ?_, rfl⟩
        simp only [wrap64]
        have h1 := HT3.out h100
        have h2 := tot_take HB.out
        have h3 := tot_take_le l (i + 1)
        have h4 := HTL.out
        omega
    · have hT : decide ((i : Int) < (l.length : Int)) = false := by simpa using hlt
      have hT' : decide (i < l.length) = false := by simpa using hlt
      have e : i = l.length := by omega
      subst e
      rw [List.take_length] at HT3
      by_cases hbig : 262144 < t
      · have h1 : decide ((262144 : Int) < t) = true := decide_eq_true hbig
        go_wp2_with (go_at_call 8; refine (awake_any _).mono ?_; rintro e w1 ⟨rfl, hc1⟩)
        go_ret
        exact ⟨rfl, hc1⟩
      · have h1 : decide ((262144 : Int) < t) = false := decide_eq_false hbig
        by_cases hmany : 100 < l.length
        · have h2 : decide ((100 : Int) < (l.length : Int)) = true := decide_eq_true (by omega)
          go_wp2_with (go_at_call 8; refine (awake_any _).mono ?_; rintro e w1 ⟨rfl, hc1⟩)
          go_ret
          exact ⟨rfl, hc1⟩
        · have h2 : decide ((100 : Int) < (l.length : Int)) = false := decide_eq_false (by omega)
          have ht := HT3.out (by omega)
          have htot : tot l ≤ 262144 := by omega
          clear ht
          have hall : ∀ r ∈ l, r.length ≤ 1048576 := fun r hr => by have := tot_ge hr; omega
          have hcat := cat_le_tot hall
          have HALL := Go.Lib.hid hall
          clear hall
          obtain ⟨n, hn⟩ : ∃ n, n = (cat l).length := ⟨_, rfl⟩
          rw [← hn] at hcat
          have HN := Go.Lib.hid hn
          clear hn
          have hz : w.heap.size ≤ w.heap.size := Nat.le_refl _
          go_wp2_with fail
          refine (new_any 1048576 _ (by omega) (by omega)).mono ?_
          rintro e w1 ⟨rfl, hJ1, hc1⟩
          have HJ1 := Go.Lib.hid hJ1
          have HC1 := Go.Lib.hid hc1
          clear hJ1 hc1 hz
          go_wp2_with fail
          refine (copied_any _ _ _ l _ (HR.out.new HC1.out) (by omega) (fun b hb => by have := HALL.out b hb; omega)).mono ?_
          rintro e w2 ⟨v2, vs2, rfl, hv2, hE2, hc2⟩
          obtain ⟨A2, c2, rfl, _, hR2⟩ := hE2.recs (n := 0) hv2
          have HR2 := Go.Lib.hid hR2
          have HC2 := Go.Lib.hid hc2
          clear hv2 hE2 hR2 hc2
          go_wp2_with fail
          refine (append_ok (HJ1.out.chg HC2.out fun _ _ f => f) _ _ _ l HR2.out (by simp; omega) (by rw [← HN.out]; simp [cat]; omega) HALL.out (by rw [← HN.out]; simp [cat]; omega)).mono ?_
          rintro e w3 ⟨rfl, hc3, vb3, ve3, hJ3⟩
          have HJ3 := Go.Lib.hid hJ3
          have HC3 := Go.Lib.hid hc3
          clear hJ3 hc3
          have hcw3 : Chg (fun _ => False) w w3 := ((HC1.out.trans HC2.out fun _ f _ => f).trans HC3.out fun k hk hl => by omega)
          have HCW3 := Go.Lib.hid hcw3
          clear hcw3
          go_wp2_with fail
          refine (bytes_any HJ3.out (by rw [List.nil_append, ← HN.out]; omega)).mono ?_
          rintro e w4 ⟨v4, rfl, ho4, hc4⟩
          rw [List.nil_append, ← HN.out] at ho4
          obtain ⟨A4, c4, rfl, _, _⟩ := own_rd ho4
          have HCW4 := Go.Lib.hid (HCW3.out.trans hc4 fun _ f _ => f)
          clear ho4 hc4
          go_wp2_with fail
          refine (new_any (n : Int) _ (by omega) (by omega)).mono ?_
          rintro e w5 ⟨rfl, hJ5, hc5⟩
          have HJ5 := Go.Lib.hid hJ5
          have HC5 := Go.Lib.hid hc5
          have HCW5 := Go.Lib.hid (HCW4.out.trans hc5 fun _ f _ => f)
          clear hJ5 hc5
          go_wp2_with fail
          refine (copied_any _ _ _ l _ (HR.out.new HCW5.out) (by omega) (fun b hb => by have := HALL.out b hb; omega)).mono ?_
          rintro e w6 ⟨v6, vs6, rfl, hv6, hE6, hc6⟩
          obtain ⟨A6, c6, rfl, _, hR6⟩ := hE6.recs (n := 0) hv6
          have HR6 := Go.Lib.hid hR6
          have HC6 := Go.Lib.hid hc6
          clear hv6 hE6 hR6 hc6
          go_wp2_with fail
          refine (append_ok (HJ5.out.chg HC6.out fun _ _ f => f) _ _ _ l HR6.out (by simp; omega) (by rw [← HN.out]; simp [cat]; omega) HALL.out (by rw [← HN.out]; simp [cat])).mono ?_
          rintro e w7 ⟨rfl, hc7, vb7, ve7, hJ7⟩
          rw [List.nil_append] at hJ7
          have hs4 := HCW4.out.size
          have hs5 := HC5.out.size
          have hs6 := HC6.out.size
          have hk7 := hJ7.to (lo := w4.heap.size) fun k hk => by rcases hk.1 with h | h <;> omega
          have HK7 := Go.Lib.hid hk7
          have HCW7 := Go.Lib.hid ((HCW5.out.trans HC6.out fun _ f _ => f).trans hc7 fun k hk hl => by omega)
          clear hJ7 hc7 hk7 hs4 hs5 hs6
          obtain ⟨_, vbk, vek, hk7⟩ := HK7.out
          have HIK := Go.Lib.hid hk7
          clear hk7
          go_wp2_with fail
          refine (len_any HIK.out).mono ?_
          rintro e w7' ⟨rfl, rfl⟩
          have hne : ((l.length : Int) != (l.length : Int)) = false := by simp
          have hne' : (l.length != l.length) = false := by simp
          by_cases hn0 : n = 0
          · have hz : ((n : Int) == 0) = true := by rw [hn0]; rfl
            go_wp2_with fail
            refine (awake_any _).mono ?_
            rintro e w8 ⟨rfl, hc8⟩
            go_wp2
            go_ret
            exact ⟨rfl, HCW7.out.trans hc8 fun _ f _ => f⟩
          · have hz : ((n : Int) == 0) = false := beq_eq_false_iff_ne.2 (by omega)
            go_wp2_with fail
            refine (new_any ((n : Int) - 1) _ (by omega) (by omega)).mono ?_
            rintro e w8 ⟨rfl, hJ8, hc8⟩
            have HJ8 := Go.Lib.hid hJ8
            have HC8 := Go.Lib.hid hc8
            have HCW8 := Go.Lib.hid (HCW7.out.trans hc8 fun _ f _ => f)
            clear hJ8 hc8
            go_wp2_with fail
            refine (copied_any _ _ _ l _ (HR.out.new HCW8.out) (by omega) (fun b hb => by have := HALL.out b hb; omega)).mono ?_
            rintro e w9 ⟨v9, vs9, rfl, hv9, hE9, hc9⟩
            obtain ⟨A9, c9, rfl, _, hR9⟩ := hE9.recs (n := 0) hv9
            have HR9 := Go.Lib.hid hR9
            have HC9 := Go.Lib.hid hc9
            clear hv9 hE9 hR9 hc9
            go_wp2_with fail
            refine (append_full (HJ8.out.chg HC9.out fun _ _ f => f) _ _ _ l HR9.out (by simp; omega) (by rw [← HN.out]; simp [cat]; omega) HALL.out (by rw [← HN.out]; simp [cat]; omega)).mono ?_
            rintro e w10 ⟨rfl, hc10⟩
            have hm10 := ((HJ8.out.chg HC9.out fun _ _ f => f).chg hc10 fun _ _ f => f)
            have HM10 := Go.Lib.hid hm10
            have HCW10 := Go.Lib.hid ((HCW8.out.trans HC9.out fun _ f _ => f).trans hc10 fun _ f _ => f)
            have HC810 := Go.Lib.hid ((HC8.out.trans HC9.out fun _ f _ => f).trans hc10 fun _ f _ => f)
            clear hm10 hc10
            go_wp2_with fail
            refine (len_any HM10.out).mono ?_
            rintro e w10' ⟨rfl, rfl⟩
            go_wp2_with fail
            refine (bytes_any HM10.out (by simp [cat])).mono ?_
            rintro e w11 ⟨v11, rfl, ho11, hc11⟩
            obtain ⟨A11, c11, rfl, _, _⟩ := own_rd ho11
            have hm11 := (HM10.out.chg hc11 fun _ _ f => f).to (lo := w7.heap.size) fun k hk => by omega
            have hk11 := (HK7.out.chg HC810.out fun _ _ _ f => f).chg hc11 fun _ _ _ f => f
            have HM11 := Go.Lib.hid hm11
            have HK11 := Go.Lib.hid hk11
            have HCW11 := Go.Lib.hid (HCW10.out.trans hc11 fun _ f _ => f)
            clear hm11 hk11 hc11 ho11
            have HCW7' := Go.Lib.hid HCW7.out.size
            have hnl : 0 < l.length := by
              rcases Nat.eq_zero_or_pos l.length with h | h
              · have e := HN.out
                rw [List.eq_nil_of_length_eq_zero h] at e
                exact absurd e hn0
              · exact h
            go_wp2
            go_loopg [13, 116] l.length (fun g v13 v116 wr => ∃ (i q : Nat) (hi : Nat), i ≤ l.length ∧ g = l.length - i ∧ v116 = .int .i64 (i : Nat) ∧ v13 = .int .i64 (q : Nat) ∧ q ≤ i ∧ q + 1 ≤ l.length ∧ (i < l.length → q = i) ∧ (i = l.length → q + 1 = l.length) ∧ JIn wr w7.heap.size hi w7.heap.size ((n : Int) - 1) (l.take q) 0 ∧ JIn wr w4.heap.size w7.heap.size w4.heap.size (n : Int) l 0 ∧ Chg (fun _ => False) w wr)
            case atStart => exact ⟨0, 0, _, by omega, rfl, rfl, rfl, by omega, by omega, fun _ => rfl, fun h => by omega, HM11.out, HK11.out, HCW11.out⟩
            case round =>
              obtain ⟨i, q, hi, hil, hgk, rfl, rfl, hqi, hql, hq1, hq2, hm, hk, hch⟩ := hrel
              have HMR := Go.Lib.hid hm
              have HKR := Go.Lib.hid hk
              have HCR := Go.Lib.hid hch
              clear hm hk hch HM11 HK11 HCW11 HCW10 HM10 HCW8 HCW7 HIK
              by_cases hlt : i < l.length
              · have hT : decide ((i : Int) < (l.length : Int)) = true := by simpa using hlt
                have hT' : decide (i < l.length) = true := by simpa using hlt
                obtain rfl := hq1 hlt
                obtain ⟨ad, b, A', c', rfl, hb, hcell, hbc, hrd⟩ := HR.out.at_ (i := q) hlt
                have hcell2 := HCR.out.cell hcell id
                have HRD := Go.Lib.hid (hrd.new HCR.out)
                have hbl := HALL.out b (List.mem_of_getElem? hb)
                have hfb := (frm_len hbl).1
                have hfb2 := (frm_len hbl).2
                have HB := Go.Lib.hid hb
                clear hcell hrd hb
                go_wp2_with fail
                refine (copy_any _ _ _ _ _ _ HRD.out (bvs_one _) (by omega)).mono ?_
                rintro e wa ⟨va, rfl, hoa, hca⟩
                obtain ⟨Aa, ca, rfl, hcca, _⟩ := own_rd hoa
                have HOA := Go.Lib.hid hoa
                have HCA := Go.Lib.hid hca
                clear hoa hca
                go_wp2_with fail
                obtain ⟨_, vbA, veA, hkA⟩ := (HKR.out.chg HCA.out fun _ _ _ f => f).chg ((Chg.refl (fun _ => False) _).alloc (.cells #[.slice Aa b.length ca] 23)) fun _ _ _ f => f
                refine (append_full hkA _ _ 1 [b] (recs_one HOA.out hcca) (by simp; omega) (by rw [← HN.out, cat_one]; omega) (by simpa using hbl) (by rw [← HN.out, cat_one]; omega)).mono ?_
                rintro e wb ⟨rfl, hcb⟩
                have HCB := Go.Lib.hid ((HCA.out.alloc _).trans hcb fun _ f _ => f)
                clear hcb hkA
                go_wp2_with fail
                refine (copy_any _ _ _ _ _ _ (HRD.out.new HCB.out) (bvs_one _) (by omega)).mono ?_
                rintro e wc ⟨vc, rfl, hoc, hcc⟩
                obtain ⟨Ac, cc, rfl, hccc, _⟩ := own_rd hoc
                have HOC := Go.Lib.hid hoc
                have HCC := Go.Lib.hid (HCB.out.trans hcc fun _ f _ => f)
                clear hoc hcc
                go_wp2_with fail
                obtain ⟨hsz, vbC, veC, hmC⟩ := (HMR.out.chg HCC.out fun _ _ _ f => f).chg ((Chg.refl (fun _ => False) _).alloc (.cells #[.slice Ac b.length cc] 23)) fun _ _ _ f => f
                have HCC2 := Go.Lib.hid (HCC.out.alloc (.cells #[.slice Ac b.length cc] 23))
                have hle := cat_take_le l (q + 1)
                rw [cat_take_succ HB.out, List.length_append] at hle
                by_cases hlast : q + 1 < l.length
                · have hlt2 := cat_take_lt hlast
                  rw [cat_take_succ HB.out, List.length_append] at hlt2
                  refine (append_ok hmC _ _ 1 [b] (recs_one HOC.out hccc) (by simp; omega) (by rw [cat_one]; have := HN.out; omega) (by simpa using hbl) (by rw [cat_one]; have := HN.out; omega)).mono ?_
                  rintro e wd ⟨rfl, hcd, vbD, veD, hmD⟩
                  rw [← take_snoc' HB.out] at hmD
                  have hmD2 := hmD.to (lo := w7.heap.size) fun k hk => by
                    have := HCC2.out.size
                    have := HCR.out.size
                    have := HMR.out.1
                    have := HMR.out.2.choose_spec.choose_spec.sq
                    rcases hk.1 with h | h <;> omega
                  have HMD := Go.Lib.hid hmD2
                  have HKD := Go.Lib.hid ((HKR.out.chg HCC2.out fun _ _ _ f => f).chg hcd fun k h1 h2 h3 => by omega)
                  have hcwd := (HCR.out.trans HCC2.out fun _ f _ => f).trans hcd fun k hk hl => by
                    have := HCW7'.out
                    omega
                  have HCD := Go.Lib.hid hcwd
                  clear hcd hmD hmD2 hmC hcwd hle hlt2
                  go_wp2
                  go_roundg (l.length - (q + 1))
                  case measure => omega
                  case rel => exact ⟨q + 1, q + 1, _, by omega, rfl, by go_num, by go_num, by omega, by omega, fun _ => rfl, fun h => by omega, HMD.out, HKD.out, HCD.out⟩
                · refine (append_full hmC _ _ 1 [b] (recs_one HOC.out hccc) (by simp; omega) (by rw [cat_one]; have := HN.out; omega) (by simpa using hbl) ?_).mono ?_
                  · have e1 : q + 1 = l.length := by omega
                    have e2 : cat (l.take (q + 1)) = cat l := by rw [e1, List.take_length]
                    rw [cat_take_succ HB.out] at e2
                    have e3 := congrArg List.length e2
                    rw [List.length_append, ← HN.out] at e3
                    rw [cat_one]
                    omega
                  rintro e wd ⟨rfl, hcd⟩
                  have HMD := Go.Lib.hid ((HMR.out.chg HCC2.out fun _ _ _ f => f).chg hcd fun _ _ _ f => f)
                  have HKD := Go.Lib.hid ((HKR.out.chg HCC2.out fun _ _ _ f => f).chg hcd fun _ _ _ f => f)
                  have HCD := Go.Lib.hid ((HCR.out.trans HCC2.out fun _ f _ => f).trans hcd fun _ f _ => f)
                  clear hcd hmC hle
                  go_wp2
                  go_roundg (l.length - (q + 1))
                  case measure => omega
                  case rel => exact ⟨q + 1, q, _, by omega, rfl, by go_num, rfl, by omega, by omega, fun h => by omega, fun h => by omega, HMD.out, HKD.out, HCD.out⟩
              · have hT : decide ((i : Int) < (l.length : Int)) = false := by simpa using hlt
                have hT' : decide (i < l.length) = false := by simpa using hlt
                have e1 : i = l.length := by omega
                subst e1
                have e2 := hq2 rfl
                have h5 : decide ((l.length : Int) - 1 ≤ (q : Int)) = true := decide_eq_true (by omega)
                go_wp2_with (go_at_call 8; refine (awake_any _).mono ?_; rintro e w8 ⟨rfl, hc8⟩)
                go_ret
                exact ⟨rfl, HCR.out.trans hc8 fun _ f _ => f⟩

theorem room_walk {w : World} (x : List Bs) (A : Option Addr) (n c : Nat) (h : shRecs.K w (· < w.heap.size) x [.slice A n c]) (f : shRecs.Fits x) :
    Calls Try.prog 3 #[.slice A n c] w fun e w' => e = .returned (.bool true) ∧ Below w.heap.size w w' := by
  obtain ⟨A', c', e, _, _, _, hrow⟩ := h
  simp only [List.cons.injEq, Value.slice.injEq, and_true] at e
  obtain ⟨rfl, rfl, rfl⟩ := e
  have b1 : Try.prog.bytesOf 23 = 24 := by kernel_rfl
  have b2 : Try.prog.bytesOf 5 = 1 := by kernel_rfl
  have f1 : x.length * Try.prog.bytesOf 23 ≤ reachBytes := f.1
  have f2 : ∀ b ∈ x, b.length * Try.prog.bytesOf 5 ≤ reachBytes := fun b hb => (f.2 b hb).1
  rw [b1] at f1
  rw [b2] at f2
  refine (room_any w A c x (recs_rd hrow) ?_ fun b hb => ?_).mono fun e w' h => ⟨h.1, h.2.new⟩
  · simp only [reachBytes] at f1; omega
  · have := f2 b hb
    simp only [reachBytes] at this; omega
end Go.Proofs.Ytjcjnejcikipnaa.J
