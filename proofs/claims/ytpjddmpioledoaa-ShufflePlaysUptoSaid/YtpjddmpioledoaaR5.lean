import Derived.Test.YtpjddmpioledoaaR4
namespace Go.Proofs.Ytpjddmpioledoaa.Q
open Go.RowKit Go.Proofs.Ytpjddmpioledoaa.Lib
set_option linter.unusedVariables false

theorem qx_start {w w1 : World} (hq : IsQ w1 (· = w.heap.size) w.heap.size [] [] 0 (.slice none 0 0) (.slice none 0 0)) (hc : Chg (fun _ => False) w w1) :
    QXe w (w1.alloc (.cells #[.slice none 0 0, .slice none 0 0, .int .i64 0] 50)) (fun _ => False) w.heap.size w1.heap.size [] [] 0 [] [] 0 :=
  ⟨_, _, _, _, _, (· = w1.heap.size), isq_alloc hq _, ⟨blk_new _ _ _, own_nil _ _ _ _, own_nil _ _ _ _, rfl, by simp [Value.ownBlock], by simp [Value.ownBlock], fun k hk => by subst hk; simp⟩,
    fun j hj => ⟨by omega, fun e => by have := hq.lt j hj; omega, fun f => f⟩, fun j hj => ⟨by have := hc.size; omega, fun f => f⟩, fun _ f => f.elim, hc.new.alloc hc.size _⟩

theorem takeF_len (W B : List Item) (n : Int) : (takeF W B n).1.length ≤ W.length ∧ (takeF W B n).2.2.2.length + (takeF W B n).2.2.1.length = B.length + W.length := by
  rcases takeF_cases W B n with ⟨l, W', e, rfl, _, e2⟩ | e | e
  · rw [e]; have := congrArg List.length e2; rw [List.length_append] at this; simp; omega
  · rw [e]; simp
  · rw [e]; simp
theorem qx_low {w a b : World} {E E' : Nat → Prop} {q x : Nat} {W B W2 B2 W' B' W3 B3 : List Item} {p p2 p3 p4 : Int} (h : QXe w b E q x W B p W2 B2 p2) (k : QXe w a E' q x W' B' p3 W3 B3 p4) : ∀ j, j < w.heap.size → b.heap[j]? = a.heap[j]? := by
  obtain ⟨_, _, _, _, _, _, h⟩ := h
  obtain ⟨_, _, _, _, _, _, k⟩ := k
  exact fun j hj => (h.b_.block j hj).trans (k.b_.block j hj).symm

set_option maxRecDepth 100000 in
set_option maxHeartbeats 2000000 in
theorem plays_any (ops : List OpD) (A : Option Addr) (n c : Nat) (w : World) (hr : RdOps w (· < w.heap.size) A n ops) (ht : total ops ≤ 1048576) (hn : n ≤ 1048576) :
    Calls Try.prog 6 #[.slice A n c] w fun e w' => e = .returned (.bool true) ∧ Below w.heap.size w w' := by
  have hN := Go.Lib.hid hr.1
  go_enter Try.func6, Try.ntmps6
  go_wp2_with (first
    | (go_at_call 7; refine (new_any _).mono ?_; rintro e w1 ⟨rfl, hq, hc⟩))
  have hqx := qx_start hq hc
  clear hq hc
  generalize w1.alloc (.cells #[.slice none 0 0, .slice none 0 0, .int .i64 0] 50) = w2 at *
  generalize w1.heap.size = x at *
  go_loopg [29] n (fun g i wr => ∃ (k : Nat) (W B : List Item) (p : Int), k ≤ n ∧ g = n - k ∧ i = .int .i64 k ∧ 0 ≤ p ∧ p + B.length + W.length = (total (ops.take k) : Nat) ∧ QXe w wr (fun _ => False) w.heap.size x W B p W B p)
  case atStart => exact ⟨0, [], [], 0, by omega, rfl, rfl, by omega, rfl, hqx⟩
  case round =>
    clear hqx
    obtain ⟨k, W, B, p, hk, hg, rfl, hp, hsum, hQ⟩ := hrel
    by_cases hlt : k < n
    · obtain ⟨o, ho⟩ : ∃ o, ops[k]? = some o := by
        rw [List.getElem?_eq_getElem (by have := hN.out; omega)]; exact ⟨_, rfl⟩
      obtain ⟨ad, A', c', rfl, hT, x0, x1, x2, hc', hrd⟩ := hr.2 k o ho
      have hBl : Below w.heap.size w wr := by obtain ⟨_, _, _, _, _, _, hq⟩ := hQ; exact hq.b_
      have y0 := below_cell hBl x0
      have y1 := below_cell hBl x1
      have y2 := below_cell hBl x2
      have hRO : Rd wr (fun j => j < w.heap.size) 2 A' o.items.length (flat o.items) := hrd.move fun j hj _ => hBl.block j hj
      have hTS := total_succ ops k o ho
      have hK := total_take ops (k + 1)
      have hQ1 := (hQ.newE (E' := fun j => j = wr.heap.size) ((Chg.refl _ wr).alloc (.cells #[.int .i64 o.k, .int .i64 o.n, .slice A' o.items.length c'] 31)) (fun j hj => .inr ⟨by omega, by subst hj; simp⟩)).1
      have hRO1 : Rd (wr.alloc (.cells #[.int .i64 o.k, .int .i64 o.n, .slice A' o.items.length c'] 31)) (fun j => j < w.heap.size) 2 A' o.items.length (flat o.items) := hRO.move fun j hj _ => Below.heap_alloc _ _ _ (Nat.lt_of_lt_of_le hj hBl.size)
      have ob := blk_new wr 31 #[.int .i64 o.k, .int .i64 o.n, .slice A' o.items.length c']
      have HTS := Go.Lib.hid hTS
      have HSUM := Go.Lib.hid hsum
      have HG := Go.Lib.hid hg
      have HOB := Go.Lib.hid ob
      have hK1 : total (ops.take (k + 1)) ≤ 1048576 := by omega
      rw [hTS] at hK
      have hbW : (W.length : Int) ≤ 1048576 := by omega
      have hbB : (B.length : Int) ≤ 1048576 := by omega
      have hbp : p ≤ 1048576 := by omega
      have hpu : o.puts ≤ 1048576 := by omega
      clear hTS hsum hg ob hK x0 x1 x2 hQ hRO hrd hr hBl
      go_upto_block 2 with fail
      go_cut [] (fun wx => ∃ (W2 B2 : List Item) (p2 : Int), 0 ≤ p2 ∧ p2 + B2.length + W2.length = (total (ops.take (k + 1)) : Nat) ∧ QXe w wx (fun _ => False) w.heap.size x W2 B2 p2 W2 B2 p2)
      case first =>
        have o0 := blk_cell HOB.out 0
        have o1 := blk_cell HOB.out 1
        have o2 := blk_cell HOB.out 2
        generalize wr.alloc (.cells #[.int .i64 o.k, .int .i64 o.n, .slice A' o.items.length c'] 31) = wa at *
        generalize wr.heap.size = ob at *
        by_cases k1 : o.k = 1
        · have e1 : (o.k == 1) = true := beq_iff_eq.2 k1
          have hp1 : o.puts = o.items.length := by simp [OpD.puts, k1]
          have hol : o.items.length ≤ 1048576 := by omega
          have HP := Go.Lib.hid hp1
          clear k1 hp1
          have o2a : (wa.alloc (.cells #[] 26)).cell? ⟨ob, 2, none⟩ = some (.slice A' o.items.length c') := (World.cell?_alloc_lt wa _ ⟨ob, 2, none⟩ (World.block_lt_of_cell? wa _ o2)).trans o2
          have hwl : ∀ j, j < w.heap.size → j < wa.heap.size := fun j hj => Nat.lt_of_lt_of_le hj (by obtain ⟨_, _, _, _, _, _, hq⟩ := hQ1; exact hq.b_.size)
          have HWL := Go.Lib.hid hwl
          have HWL0 := Go.Lib.hid (show w.heap.size < wa.heap.size from by obtain ⟨_, _, _, _, _, _, hq⟩ := hQ1; exact hq.q_.lt _ hq.q_.sq)
          clear hwl
          go_wp2_with (at_builtin; refine wpList_app _ rfl (.tmp 37) (.tmp 39) 29 rfl 0 26 2 16 _ Try.underlying29 info26 rfl (by omega) (.slice (some ⟨wa.heap.size, 0, none⟩) 0 0) 0 [] rfl ?c1 _ A' o.items.length c' (flat o.items) rfl (hRO1.move fun j hj _ => Below.heap_alloc _ _ _ (HWL.out j hj)) (flat_one o.items) ?c3 ?c4 ?c5 ?_)
          case c1 => exact ⟨rfl, .inr ⟨wa.heap.size, 0, #[], rfl, Nat.zero_le _, blk_new _ _ _, Nat.le_refl _, by simp [maxLen], rfl, rfl⟩⟩
          case c3 => simp only [maxLen]; omega
          case c4 => omega
          case c5 => simp
          intro v1 w3 ho3 hg3 ha3
          have hn3 : Chg (fun _ => False) wa w3 := ((Chg.refl _ wa).alloc (.cells #[] 26)).trans hg3 (fun j hj hl => by simp [Value.ownBlock] at hj; omega)
          have hv3 : ∀ j, v1.ownBlock = some j → wa.heap.size ≤ j ∧ j < w3.heap.size := fun j hj => ⟨(ha3 j hj).elim (fun e => by simp [Value.ownBlock] at e; omega) (fun e => by first | omega | (simp at e; omega)), own_lt ho3 hj⟩
          have hQ3 := hQ1.newE (E' := fun j => j = ob ∨ v1.ownBlock = some j) hn3 (fun j hj => hj.imp id (hv3 j))
          obtain ⟨hQ3, hK3⟩ := hQ3
          have p2 := hn3.cell o2 (fun f => f)
          obtain ⟨A3, c3, rfl, hc3, hr3⟩ := own_rd ho3
          try simp only [Nat.zero_add, List.nil_append] at ho3
          try simp only [Nat.zero_add, List.nil_append] at hr3
          try simp only [Nat.zero_add, List.nil_append] at hc3
          have hw2 : ∀ i, (Value.slice A3 o.items.length c3).ownBlock = some i → w.heap.size < i := fun i hi => by have := (hv3 i (by simpa using hi)).1; have := HWL0.out; omega
          have HWL2 := Go.Lib.hid hw2
          have HO3 := Go.Lib.hid ho3
          clear hw2
          have HN3 := Go.Lib.hid hn3
          clear ho3 hg3 ha3 hn3 hK3 o0 o1 o2 hQ1 o2a
          have hq3d := (hQ3.new ((Chg.refl (fun _ => False) w3).drew)).1
          have hP := push_qx hq3d _ A3 o.items.length c3 o.items (hr3.new ((Chg.refl _ _).drew)) (by omega)
          have HP2 := Go.Lib.hid hP
          have ro3 : Rd w3 (fun j => j < w.heap.size) 2 A' o.items.length (flat o.items) := hRO1.new HN3.out
          have RO3 := Go.Lib.hid ro3
          clear hP hq3d ro3 hRO1
          go_wp2_with fail
          go_region_held3 (fun w' => w'.cell? ⟨ob, 2, none⟩ = some (.slice A' o.items.length c'))
            (first
              | exact p2
              | exact hk4.cell p2 (.inl rfl)
              | exact hk5.cell (hk4.cell p2 (.inl rfl)) (.inl rfl)
              | fail)
            (first
              | (go_at_call 10; refine HP2.out.mono ?_; rintro e w4 ⟨rfl, hq4, hk4⟩)
              | (go_at_call 19; refine (xpush_qx hq4 _ A' o.items.length c' o.items (RO3.out.move fun j hj _ => (qx_low hq4 hQ3 j hj)) (by omega)).mono ?_; rintro e w5 ⟨rfl, hq5, hk5⟩))
          have ho5 := own_move HO3.out (w' := w5) (fun j hj => (hk5 j (.inr hj)).trans (hk4 j (.inr hj)))
          have hq6 := hq5.less (E' := fun j => (Value.slice A3 o.items.length c3).ownBlock = some j) (fun j hj => .inr hj)
          have hvge : ∀ i, (Value.slice A3 o.items.length c3).ownBlock = some i → w.heap.size ≤ i := fun i hi => Nat.le_of_lt (HWL2.out i hi)
          have VGE := Go.Lib.hid hvge
          have HO5 := Go.Lib.hid ho5
          have HQ6 := Go.Lib.hid hq6
          clear ho5 hq6 hq5 hq4 hQ3 hk4 hk5 p2 HP2 HO3 RO3 HN3
          go_wp2_with fail
          go_loopg [51] o.items.length (fun g i wr => ∃ (j : Nat) (cs : List Value), j ≤ o.items.length ∧ g = o.items.length - j ∧ i = .int .i64 j ∧ wr.ownsRow 0 26 2 (.slice A3 o.items.length c3) o.items.length cs ∧ QXe w wr (fun j => (Value.slice A3 o.items.length c3).ownBlock = some j) w.heap.size x (W ++ o.items) B p (W ++ o.items) B p)
          case atStart => exact ⟨0, _, by omega, rfl, rfl, HO5.out, HQ6.out⟩
          case round =>
            clear HO5 HQ6
            obtain ⟨j, cs, hj, hg, rfl, hO, hQ⟩ := hrel
            have HGJ := Go.Lib.hid hg
            clear hg
            by_cases hjl : j < o.items.length
            · obtain ⟨g3, cap3, e3, _, hg3⟩ := hO.form (by omega)
              injection e3 with e3 _ e4
              subst e3
              clear e4
              obtain ⟨u0, _, c0, f0⟩ := own_at hO (i := j * 2) (by omega)
              have hO1 := own_set hO (j * 2) (.int .i64 0) (by omega)
              obtain ⟨u1, _, c1, f1⟩ := own_at hO1 (i := j * 2 + 1) (by omega)
              have hO2 := own_set hO1 (j * 2 + 1) (.int .i64 0) (by omega)
              have hQ2 := hQ.turn (((Chg.refl (fun j => (Value.slice (some ⟨g3, 0, none⟩) o.items.length c3).ownBlock = some j) wr).setCell (p := ⟨g3, j * 2, none⟩) (fun _ => rfl) (.int .i64 0)).setCell (p := ⟨g3, j * 2 + 1, none⟩) (fun _ => rfl) (.int .i64 0)) (fun i hi => VGE.out i hi)
              have HO2 := Go.Lib.hid hO2
              have HQ2 := Go.Lib.hid hQ2
              clear hO1 hO2 hQ2 hQ hO
              go_wp2
              go_roundg (o.items.length - (j + 1))
              case measure => have := HGJ.out; omega
              case rel => exact ⟨j + 1, _, by omega, rfl, by go_num, HO2.out, HQ2.out⟩
            · have hQ9 := Go.Lib.hid (hQ.less (E' := fun _ => False) (fun _ f => f.elim))
              clear hQ hO
              go_wp2
              go_meet
              exact ⟨W ++ o.items, B, p, hp, by rw [HTS.out, HP.out, List.length_append]; have := HSUM.out; omega, hQ9.out⟩
        by_cases k2 : o.k = 2
        · have e2 : (o.k == 2) = true := beq_iff_eq.2 k2
          have d1 : (o.k == 1) = false := beq_eq_false_iff_ne.2 k1
          have hp1 : o.puts = 0 := by simp [OpD.puts, k1]
          have HP := Go.Lib.hid hp1
          obtain ⟨hl1, hl2⟩ := takeF_len W B o.n
          have htq := take_qx hQ1 o.n (by omega)
          have HTQ := Go.Lib.hid htq
          clear k1 k2 hp1 htq
          go_wp2_with (go_at_call 11; refine HTQ.out.mono ?_; rintro e w3 ⟨A3, c3, rfl, ho3, hq3, hk3⟩; have p1 := hk3.cell o1 rfl; have htx := xtake_qx hq3 o.n (by omega); have HTX := Go.Lib.hid htx; clear htx)
          have hwa : w.heap.size ≤ wa.heap.size := by obtain ⟨_, _, _, _, _, _, hq⟩ := hQ1; exact hq.b_.size
          have hvge : ∀ i, (Value.slice A3 (takeF W B o.n).1.length c3).ownBlock = some i → w.heap.size ≤ i := fun i hi => Nat.le_trans hwa (ho3.lt i hi).1
          have VGE := Go.Lib.hid hvge
          clear hvge hQ1
          refine HTX.out.mono ?_
          rintro e w4 ⟨A4, c4, rfl, hr4, hq4, hk4⟩
          have ho4 := own_move ho3 (w' := w4) (fun j hj => hk4 j (.inr hj))
          clear HTX HTQ
          generalize takeF W B o.n = r at *
          have hst := same_true r.1 A3 A4 r.1.length r.1.length c3 c4 _ _ w4 (Rd.of_own ho4) hr4 (by omega) (by omega)
          have HST := Go.Lib.hid hst
          have HO4 := Go.Lib.hid (own_base ho4 (Nat.zero_le _))
          have HQ4 := Go.Lib.hid hq4
          clear ho3 hk3 hk4 hq3 hq4 ho4 hst hr4 o0 o1 o2 p1
          go_wp2_with fail
          refine HST.out.mono ?_
          rintro e w5 ⟨rfl, hc5⟩
          have HO5 := Go.Lib.hid (own_chg HO4.out hc5 (fun _ _ f => f))
          have HQ5 := Go.Lib.hid ((HQ4.out.new hc5).1.less (E' := fun j => (Value.slice A3 r.1.length c3).ownBlock = some j) (fun j hj => .inr hj))
          clear hc5 HO4 HQ4 HST
          go_wp2_with fail
          go_loopg [86] r.1.length (fun g i wr => ∃ (j : Nat) (cs : List Value), j ≤ r.1.length ∧ g = r.1.length - j ∧ i = .int .i64 j ∧ wr.ownsRow 0 26 2 (.slice A3 r.1.length c3) r.1.length cs ∧ QXe w wr (fun j => (Value.slice A3 r.1.length c3).ownBlock = some j) w.heap.size x r.2.2.1 r.2.2.2 p r.2.2.1 r.2.2.2 p)
          case atStart => exact ⟨0, _, by omega, rfl, rfl, HO5.out, HQ5.out⟩
          case round =>
            clear HO5 HQ5
            obtain ⟨j, cs, hj, hg, rfl, hO, hQ⟩ := hrel
            have HGJ := Go.Lib.hid hg
            clear hg
            by_cases hjl : j < r.1.length
            · obtain ⟨g3, cap3, e3, _, hg3⟩ := hO.form (by omega)
              injection e3 with e3 _ e4
              subst e3
              clear e4
              obtain ⟨u0, _, c0, f0⟩ := own_at hO (i := j * 2) (by omega)
              have hO1 := own_set hO (j * 2) (.int .i64 0) (by omega)
              obtain ⟨u1, _, c1, f1⟩ := own_at hO1 (i := j * 2 + 1) (by omega)
              have hO2 := own_set hO1 (j * 2 + 1) (.int .i64 0) (by omega)
              have hQ2 := hQ.turn (((Chg.refl (fun j => (Value.slice (some ⟨g3, 0, none⟩) r.1.length c3).ownBlock = some j) wr).setCell (p := ⟨g3, j * 2, none⟩) (fun _ => rfl) (.int .i64 0)).setCell (p := ⟨g3, j * 2 + 1, none⟩) (fun _ => rfl) (.int .i64 0)) (fun i hi => VGE.out i hi)
              have HO2 := Go.Lib.hid hO2
              have HQ2 := Go.Lib.hid hQ2
              clear hO1 hO2 hQ2 hQ hO
              go_wp2
              go_roundg (r.1.length - (j + 1))
              case measure => have := HGJ.out; omega
              case rel => exact ⟨j + 1, _, by omega, rfl, by go_num, HO2.out, HQ2.out⟩
            · have hQ9 := Go.Lib.hid (hQ.less (E' := fun _ => False) (fun _ f => f.elim))
              clear hQ hO
              go_wp2
              go_meet
              exact ⟨r.2.2.1, r.2.2.2, p, hp, by rw [HTS.out, HP.out]; have := HSUM.out; omega, hQ9.out⟩
        by_cases k34 : o.k = 3 ∨ o.k = 4
        · have d1 : (o.k == 1) = false := beq_eq_false_iff_ne.2 k1
          have d2 : (o.k == 2) = false := beq_eq_false_iff_ne.2 k2
          have hp1 : o.puts = 0 := by simp [OpD.puts, k1]
          have HP := Go.Lib.hid hp1
          have d3 : (o.k == 3) = true ∧ (o.k == 4) = false ∨ (o.k == 3) = false ∧ (o.k == 4) = true := by
            rcases k34 with e | e
            · exact .inl ⟨beq_iff_eq.2 e, beq_eq_false_iff_ne.2 (by omega)⟩
            · exact .inr ⟨beq_eq_false_iff_ne.2 (by omega), beq_iff_eq.2 e⟩
          clear k1 k2 k34 hp1
          have hst := fun back => settle_qx hQ1 back (by omega) hp (by omega)
          have hsx := fun (w' : World) (back : Bool) (h : QXe w w' (fun j => j = ob) w.heap.size x (settleF W B p back).2.2.1 [] (settleF W B p back).2.2.2 W B p) => xsettle_qx h back (by omega) hp (by omega)
          have hfin : ∀ back, 0 ≤ (settleF W B p back).2.2.2 ∧ (settleF W B p back).2.2.2 + ([] : List Item).length + (settleF W B p back).2.2.1.length = p + B.length + W.length := by
            intro back
            unfold settleF
            by_cases hBn : B = []
            · subst hBn; simp; omega
            · cases back <;> simp [hBn] <;> omega
          have hcd : ∀ back, (settleF W B p back).2.1 = 0 ∨ (settleF W B p back).2.1 = 171 := by
            intro back
            unfold settleF
            by_cases hBn : B = []
            · right; simp [hBn]
            · left; cases back <;> simp [hBn]
          have HST := Go.Lib.hid hst
          have HSX := Go.Lib.hid hsx
          have HFN := Go.Lib.hid hfin
          have HCD := Go.Lib.hid hcd
          clear hst hsx hfin hcd hQ1
          rcases d3 with ⟨e3, e4⟩ | ⟨e3, e4⟩
          case' inl =>
            have h12 := HST.out false
            have h21 := fun w' => HSX.out w' false
            have hfn := HFN.out false
            have hcd := HCD.out false
            generalize settleF W B p false = r at *
          case' inr =>
            have h12 := HST.out true
            have h21 := fun w' => HSX.out w' true
            have hfn := HFN.out true
            have hcd := HCD.out true
            generalize settleF W B p true = r at *
          all_goals
            have H12 := Go.Lib.hid h12
            have H21 := Go.Lib.hid h21
            have HFR := Go.Lib.hid hfn
            clear h12 h21 hfn HST HSX HFN HCD
            obtain ⟨r1, r2, r3, r4⟩ := r
            rcases hcd with hcd | hcd
            all_goals
              simp only at hcd
              subst hcd
              go_wp2_with (first
                | (go_at_call 12; refine H12.out.mono ?_; rintro e w3 ⟨rfl, hq3, hk3⟩; have p0 := hk3.cell o0 rfl)
                | (go_at_call 21; refine (H21.out _ hq3).mono ?_; rintro e w4 ⟨rfl, hq4, hk4⟩))
              go_meet
              exact ⟨r3, [], r4, HFR.out.1, by rw [HTS.out, HP.out]; have := HSUM.out; have := HFR.out.2; simp at this ⊢; omega, hq4.less fun _ f => f.elim⟩
        have hp1 : o.puts = 0 := by simp [OpD.puts, k1]
        have d1 : (o.k == 1) = false := beq_eq_false_iff_ne.2 k1
        have d2 : (o.k == 2) = false := beq_eq_false_iff_ne.2 k2
        have d3 : (o.k == 3) = false := beq_eq_false_iff_ne.2 (by omega)
        have d4 : (o.k == 4) = false := beq_eq_false_iff_ne.2 (by omega)
        have HP := Go.Lib.hid hp1
        clear k1 k2 k34 hp1
        go_wp2
        go_meet
        exact ⟨W, B, p, hp, by rw [HTS.out, HP.out, HSUM.out]; simp, hQ1.less fun _ f => f.elim⟩
      case rest =>
        obtain ⟨W2, B2, p2, hp2, hs2, hQ2⟩ := hcut
        have HS2 := Go.Lib.hid hs2
        have hbW2 : (W2.length : Int) ≤ 1048576 := by omega
        have hbB2 : (B2.length : Int) ≤ 1048576 := by omega
        have hbp2 : p2 ≤ 1048576 := by omega
        clear hs2 hp hQ1 hRO1 HOB y0 y1 y2
        go_wp2_with (first
          | (go_at_call 15; refine (oldest_qx hQ2 (by omega)).mono ?_; rintro e w3 ⟨rfl, hQ3, _⟩)
          | (go_at_call 22; refine (xoldest_qx hQ3 (by omega)).mono ?_; rintro e w4 ⟨rfl, hQ4, _⟩))
        clear hQ2 hQ3
        obtain ⟨vw, vb, vw2, vb2, S, X, hq4⟩ := hQ4
        obtain ⟨Ax, cx, rfl, hcx, hrx⟩ := own_rd hq4.x_.w_
        have z0 := blk_cell hq4.x_.blk 0
        have z2 := blk_cell hq4.x_.blk 2
        have HQ4 := Go.Lib.hid hq4.q_
        have HX4 := Go.Lib.hid hq4
        clear hq4
        generalize (oldF W2 B2).fst = t1 at *
        generalize (oldF W2 B2).snd = t2 at *
        go_region_held3 (fun w' => w'.cell? ⟨x, 0, none⟩ = some (.slice Ax W2.length cx) ∧ w'.cell? ⟨x, 2, none⟩ = some (.int .i64 p2) ∧ Chg (fun _ => False) w4 w')
          (first
            | exact ⟨z0, z2, (Chg.refl _ _).drew⟩
            | (go_split_ands; exact ⟨‹_›, ‹_›, ‹_›⟩)
            | (go_split_ands; exact ⟨hc5.cell ‹_› (fun f => f), hc5.cell ‹_› (fun f => f), Chg.step ‹_› hc5⟩)
            | (go_split_ands; exact ⟨hc6.cell ‹_› (fun f => f), hc6.cell ‹_› (fun f => f), Chg.step ‹_› hc6⟩)
            | fail)
          (first
            | (go_at_call 23; go_split_ands; refine (waiting_any (isq_chg HQ4.out ‹_› (fun _ _ f => f)) (by omega)).mono ?_; rintro e w5 ⟨A5, c5, rfl, hr5, hc5⟩)
            | (go_at_call 18; go_split_ands; refine (same_true W2 A5 Ax _ _ c5 cx _ _ _ (hr5.mono (fun _ _ _ => trivial)) (hrx.new ‹_›) (by omega) (by omega)).mono ?_; rintro e w6 ⟨rfl, hc6⟩)
            | (go_at_call 14; go_split_ands; refine (len_any (isq_chg HQ4.out ‹_› (fun _ _ f => f))).mono ?_; rintro e w7 ⟨rfl, rfl⟩)
            | (go_at_call 13; go_split_ands; refine (passed_any (isq_chg HQ4.out ‹_› (fun _ _ f => f))).mono ?_; rintro e w8 ⟨rfl, rfl⟩))
        have hfin : QXe w w6 (fun _ => False) w.heap.size x W2 B2 p2 W2 B2 p2 := (QXe.new ⟨_, _, _, _, _, _, HX4.out⟩ (by go_split_ands; assumption)).1
        have HFIN := Go.Lib.hid hfin
        clear hfin
        go_wp2
        go_roundg (n - (k + 1))
        case measure => have := HG.out; omega
        case rel => exact ⟨k + 1, W2, B2, p2, by omega, rfl, by go_num, hp2, HS2.out, HFIN.out⟩
    · obtain ⟨_, _, _, _, _, _, hq⟩ := hQ
      have hB := hq.b_
      clear hq
      go_wp2_with (go_at_call 9; refine (awake_any _).mono ?_; rintro e w5 ⟨rfl, hb5⟩)
      go_ret
      exact ⟨rfl, hB.trans (hb5.mono hB.size)⟩

theorem ops_len (x : List (Int × Int × List (Int × Int × Unit) × Unit)) : x.length ≤ (x.map shOp.wt).sum := by
  induction x with
  | nil => simp
  | cons y l ih =>
    have e2 : shOp.wt y = 1 + (1 + ((y.2.2.1.map shItem.wt).sum + 1 + 0)) := rfl
    simp only [List.map_cons, List.sum_cons, List.length_cons, e2]; omega
theorem plays_walk {w : World} (x : List (Int × Int × List (Int × Int × Unit) × Unit)) (A : Option Addr) (n c : Nat) (h : shOps.K w (· < w.heap.size) x [.slice A n c]) (hb : shOps.wt x ≤ 1048576) :
    Calls Try.prog 6 #[.slice A n c] w fun e w' => e = .returned (.bool true) ∧ Below w.heap.size w w' := by
  obtain ⟨A', c', e, _, _, _, hr⟩ := h
  simp only [List.cons.injEq, Value.slice.injEq, and_true] at e
  obtain ⟨rfl, rfl, rfl⟩ := e
  have h1 := ops_total x
  have h2 : shOps.wt x = (x.map shOp.wt).sum + 1 := rfl
  have h3 := ops_len x
  exact plays_any _ A _ c w (ops_rd hr) (by omega) (by omega)
end Go.Proofs.Ytpjddmpioledoaa.Q
