/- A journal in memory; its methods that grow and read it. -/
import Derived.Test.YtjcjnejcikipnaaJ1
import Derived.ArgAppend
namespace Go.Proofs.Ytjcjnejcikipnaa.J
open Go.RowKit Go.Proofs.Ytjcjnejcikipnaa.Lib
set_option linter.unusedVariables false

def iv (x : Nat) : Value := .int .i64 (x : Int)
def ivs (l : List Nat) : List Value := l.map iv
theorem ivs_len (l : List Nat) : (ivs l).length = l.length := by simp [ivs]
theorem ivs_app (a b : List Nat) : ivs (a ++ b) = ivs a ++ ivs b := by simp [ivs]
theorem ivs_one (l : List Nat) : ∀ u ∈ ivs l, u.oneCell' = true := by
  intro u hu
  simp only [ivs, List.mem_map] at hu
  obtain ⟨x, _, rfl⟩ := hu
  rfl

/-! ### bytes that are an own row, or a full one -/
def Tape (w : World) (S : Nat → Prop) (v : Value) (B : Bs) : Prop :=
  (v = .slice none 0 0 ∧ B = []) ∨ ∃ g cap cur, v = .slice (some ⟨g, 0, none⟩) B.length cap ∧ S g ∧ w.heap[g]? = some (.cells cur 5 (0, 0)) ∧ B.length ≤ cap ∧ cap ≤ maxLen ∧
    (cur.size = cap ∨ cap = B.length) ∧ cur.toList.take B.length = bvs B
section
variable {w w' : World} {S : Nat → Prop} {v : Value} {B : Bs}
theorem Tape.nil_ (w : World) (S : Nat → Prop) : Tape w S (.slice none 0 0) [] := .inl ⟨rfl, rfl⟩
theorem Tape.shape (h : Tape w S v B) : ∃ A c, v = .slice A B.length c ∧ B.length ≤ c := by
  rcases h with ⟨rfl, rfl⟩ | ⟨g, cap, cur, rfl, _, _, h1, _⟩
  · exact ⟨none, 0, rfl, Nat.le_refl _⟩
  · exact ⟨_, _, rfl, h1⟩
theorem Tape.own (h : w.ownsRow 0 5 1 v B.length (bvs B)) (hs : ∀ k, v.ownBlock = some k → S k) : Tape w S v B := by
  rcases h.2 with ⟨rfl, h0⟩ | ⟨g, cap, cur, rfl, _, hh, h1, h2, h3, h4⟩
  · exact .inl ⟨rfl, List.eq_nil_of_length_eq_zero h0⟩
  · exact .inr ⟨g, cap, cur, rfl, hs g rfl, hh, h1, h2, .inl (by omega), by rwa [Nat.mul_one] at h4⟩
theorem Tape.blk (h : Tape w S v B) {k : Nat} (hk : v.ownBlock = some k) : S k ∧ ∃ cur, w.heap[k]? = some (.cells cur 5 (0, 0)) := by
  rcases h with ⟨rfl, rfl⟩ | ⟨g, cap, cur, rfl, hs, hh, _⟩
  · simp [Value.ownBlock] at hk
  · have : g = k := by simpa [Value.ownBlock] using hk
    subst this
    exact ⟨hs, _, hh⟩
theorem Tape.mono {S' : Nat → Prop} (h : Tape w S v B) (hs : ∀ k, v.ownBlock = some k → S k → S' k) : Tape w S' v B := by
  rcases h with h | ⟨g, cap, cur, rfl, hs1, r⟩
  · exact .inl h
  · exact .inr ⟨g, cap, cur, rfl, hs g rfl hs1, r⟩
theorem Tape.move (h : Tape w S v B) (hm : ∀ k, v.ownBlock = some k → w'.heap[k]? = w.heap[k]?) : Tape w' S v B := by
  rcases h with h | ⟨g, cap, cur, rfl, hs1, hh, r⟩
  · exact .inl h
  · exact .inr ⟨g, cap, cur, rfl, hs1, (hm g rfl).trans hh, r⟩
theorem Tape.chg {T : Nat → Prop} (h : Tape w S v B) (hc : Chg T w w') (ht : ∀ k, v.ownBlock = some k → ¬ T k) : Tape w' S v B :=
  h.move fun k hk => hc.block k (heap_lt (h.blk hk).2.choose_spec) (ht k hk)
theorem Tape.rd {A : Option Addr} {n c : Nat} (h : Tape w S (.slice A n c) B) : n = B.length ∧ Rd w (fun k => (Value.slice A n c).ownBlock = some k ∧ S k) 1 A B.length (bvs B) := by
  rcases h with ⟨h1, rfl⟩ | ⟨g, cap, cur, h1, hs, hh, hb, hc, hr, ht⟩
  · injection h1 with h1 h2 h3
    subst h1; subst h2
    exact ⟨rfl, Rd.nil_ _ _ _ _⟩
  · injection h1 with h1 h2 h3
    subst h1; subst h2; subst h3
    refine ⟨rfl, by simp [bvs_len], fun j u hu => ⟨_, rfl, ⟨rfl, hs⟩, ?_⟩⟩
    rw [add_at, blk_cell hh, Nat.zero_add]
    have hj : j < B.length := by
      rcases Nat.lt_or_ge j B.length with h5 | h5
      · exact h5
      · rw [List.getElem?_eq_none (by rw [bvs_len]; exact h5)] at hu; cases hu
    rw [← ht, List.getElem?_take, if_pos hj] at hu
    simpa using hu
theorem run_tape {P : Program} (t ty : TypeId) (ht : P.underlying t = some (.slice 5)) (hinfo : (P.info? 5).map (fun i => (i.zero, i.size, i.bytes)) = some (some (.int .u8 0), 1, 1))
    (h : Tape w S v B) (T : Nat → Prop) (A : Option Addr) (c : Nat) (bs : Bs) (hr : Rd w T 1 A bs.length (bvs bs)) (hl : B.length + bs.length ≤ 70368744177664) :
    ∃ v' w', (Builtin.append_ #[t, t] ty #[v, .slice A bs.length c]).run P w = .ok v' w' ∧ Tape w' (fun k => v.ownBlock = some k ∧ S k ∨ w.heap.size ≤ k) v' (B ++ bs) ∧ Chg (fun k => v.ownBlock = some k) w w' := by
  have own : w.ownsRow 0 5 1 v B.length (bvs B) → (∀ k, v.ownBlock = some k → S k) → ∃ v' w', (Builtin.append_ #[t, t] ty #[v, .slice A bs.length c]).run P w = .ok v' w' ∧ Tape w' (fun k => v.ownBlock = some k ∧ S k ∨ w.heap.size ≤ k) v' (B ++ bs) ∧ Chg (fun k => v.ownBlock = some k) w w' := by
    intro ho hs
    obtain ⟨v', w', h1, h2, h3, h4⟩ := run_app (P := P) w 0 t ty 5 1 1 _ ht hinfo rfl (by omega) v B.length (bvs B) ho T A bs.length c (bvs bs) hr (bvs_one bs) (by simp only [maxLen]; omega) (by omega) (Nat.zero_le _)
    refine ⟨v', w', h1, Tape.own (by rw [List.length_append, bvs_app]; exact h2) fun k hk => ?_, h3⟩
    rcases h4 k hk with h5 | h5
    · exact .inl ⟨h5, hs k h5⟩
    · exact .inr h5
  rcases h with ⟨rfl, rfl⟩ | ⟨g, cap, cur, rfl, hs, hh, hb, hc, hq, htk⟩
  · exact own (own_nil _ _ _ _) (by simp [Value.ownBlock])
  · rcases hq with hq | hq
    · exact own ⟨by simp [bvs_len], .inr ⟨g, cap, cur, rfl, Nat.zero_le _, hh, hb, hc, by omega, by rw [Nat.mul_one]; exact htk⟩⟩ (fun k hk => by simp only [Value.ownBlock, Option.some.injEq] at hk; subst hk; exact hs)
    · subst hq
      obtain ⟨i, hi, hzz⟩ := Option.map_eq_some_iff.1 hinfo
      simp only [Prod.mk.injEq] at hzz
      obtain ⟨hz, hsize, hby⟩ := hzz
      have htp : Tape w S (.slice (some ⟨g, 0, none⟩) B.length B.length) B := .inr ⟨g, B.length, cur, rfl, hs, hh, Nat.le_refl _, hc, .inr rfl, htk⟩
      rcases Nat.eq_zero_or_pos bs.length with h0 | hpos
      · have e : bs = [] := List.eq_nil_of_length_eq_zero h0
        subst e
        refine ⟨.slice (some ⟨g, 0, none⟩) B.length B.length, w, ?_, ?_, Chg.refl _ _⟩
        · cases A <;> simp [Builtin.append_, run_underlying ht, sizeOf, typeInfo, hi, Builtin.lenOf, Builtin.firstCells, storeCells, loadCells, loadCellsFrom]
        · rw [List.append_nil]; exact htp.mono fun k hk hs => .inl ⟨hk, hs⟩
      · obtain ⟨ad, u, rfl, _, _, _⟩ := hr.at_ (j := 0) (by omega)
        have hcells : ∀ j u, (bvs bs)[j]? = some u → w.cell? (ad.add j) = some u := by
          intro j u hu
          obtain ⟨ad', h, _, hc⟩ := hr.2 j u hu
          injection h with h
          subst h
          exact hc
        have hold : ∀ j u, (bvs B)[j]? = some u → w.cell? ((⟨g, 0, none⟩ : Addr).add j) = some u := by
          intro j u hu
          obtain ⟨ad', h, _, hc⟩ := htp.rd.2.2 j u hu
          injection h with h
          subst h
          exact hc
        obtain ⟨v', w', h1, h2, h3⟩ := run_append_arg_grows (P := P) w t ty 5 i _ 1 1 ht hi hz hsize hby rfl (by omega) ⟨g, 0, none⟩ B.length B.length (bvs B) (by simp [bvs_len]) hold ad bs.length c (bvs bs) (by simp [bvs_len]) hcells (by omega) (by simp only [maxLen]; omega) (by omega)
        refine ⟨v', w', h1, Tape.own (own_base (by rw [List.length_append, bvs_app]; exact h2) (Nat.zero_le _)) fun k hk => .inr (h2.lt k hk).1, (Chg.of_grown h3).mono fun k hk _ => by cases hk⟩
end
theorem wp_tape {P : Program} {w : World} {S : Nat → Prop} {v : Value} {B : Bs} {o : Oper} {a : Act} {K : Act → World → Prop} {Q : Exit → Act → World → Prop} (s x : Operand) (t : TypeId)
    (ho : o.op = .call { callee := .builtin .append, args := #[s, x], argTypes := #[t, t] })
    (ht : P.underlying t = some (.slice 5)) (hinfo : (P.info? 5).map (fun i => (i.zero, i.size, i.bytes)) = some (some (.int .u8 0), 1, 1))
    (hs : a.eval s = v) (h : Tape w S v B) (T : Nat → Prop) (A : Option Addr) (c : Nat) (bs : Bs) (hx : a.eval x = .slice A bs.length c) (hr : Rd w T 1 A bs.length (bvs bs)) (hl : B.length + bs.length ≤ 70368744177664)
    (hk : ∀ v' w', Tape w' (fun k => v.ownBlock = some k ∧ S k ∨ w.heap.size ≤ k) v' (B ++ bs) → Chg (fun k => v.ownBlock = some k) w w' → K (a.put o.dst v') w') : o.wp P a w K Q := by
  obtain ⟨v', w', hrun, h2, h3⟩ := run_tape (P := P) t o.type ht hinfo h T A c bs hr hl
  unfold Oper.wp execOp
  simp only [ho, resolve, invoke, builtin, Sem.run_bind, Sem.run_pure, Result.andThen_ok, List.map_toArray, List.map_cons, List.map_nil, hs, hx, hrun]
  exact hk v' w' h2 h3
theorem wpList_tape {P : Program} {w : World} {S : Nat → Prop} {v : Value} {B : Bs} {ops : Array Oper} {rest : List Oper} {o : Oper} {a : Act} {Q : Exit → Act → World → Prop} (hgd : o.guard = none) (s x : Operand) (t : TypeId)
    (ho : o.op = .call { callee := .builtin .append, args := #[s, x], argTypes := #[t, t] })
    (ht : P.underlying t = some (.slice 5)) (hinfo : (P.info? 5).map (fun i => (i.zero, i.size, i.bytes)) = some (some (.int .u8 0), 1, 1))
    (hs : a.eval s = v) (h : Tape w S v B) (T : Nat → Prop) (A : Option Addr) (c : Nat) (bs : Bs) (hx : a.eval x = .slice A bs.length c) (hr : Rd w T 1 A bs.length (bvs bs)) (hl : B.length + bs.length ≤ 70368744177664)
    (hk : ∀ v' w', Tape w' (fun k => v.ownBlock = some k ∧ S k ∨ w.heap.size ≤ k) v' (B ++ bs) → Chg (fun k => v.ownBlock = some k) w w' → wpList P ops Q rest (a.put o.dst v') w') : wpList P ops Q (o :: rest) a w :=
  wpList_plain hgd fun _ hK => wp_tape s x t ho ht hinfo hs h T A c bs hx hr hl fun v' w' h2 h3 => hK _ _ (hk v' w' h2 h3)

/-! ### a journal -/
def cat (l : List Bs) : Bs := l.flatMap frm
theorem cat_app (a b : List Bs) : cat (a ++ b) = cat a ++ cat b := by simp [cat]
theorem cat_one (b : Bs) : cat [b] = frm b := by simp [cat]
/-- Where the records end, the first of them beginning at n. -/
def ends (n : Nat) : List Bs → List Nat
  | [] => []
  | r :: l => (n + (frm r).length) :: ends (n + (frm r).length) l
theorem ends_app (n : Nat) (a b : List Bs) : ends n (a ++ b) = ends n a ++ ends (n + (cat a).length) b := by
  induction a generalizing n with
  | nil => simp [ends, cat]
  | cons r l ih => simp only [List.cons_append, ends, ih]; simp [cat, Nat.add_assoc]
theorem ends_len (n : Nat) (l : List Bs) : (ends n l).length = l.length := by
  induction l generalizing n with
  | nil => rfl
  | cons r l ih => simp [ends, ih]

structure IsJ (w : World) (S : Nat → Prop) (j : Nat) (cap : Int) (R : List Bs) (safe : Nat) (vb ve : Value) : Prop where
  blk : w.heap[j]? = some (.cells #[.int .i64 cap, vb, ve, .int .i64 (safe : Int)] 58 (0, 0))
  b_ : Tape w S vb (cat R)
  e_ : w.ownsRow 0 3 1 ve R.length (ivs (ends 0 R))
  sq : S j
  se : ∀ k, ve.ownBlock = some k → S k
  lt : ∀ k, S k → k < w.heap.size

theorem IsJ.move {w w' : World} {S : Nat → Prop} {j : Nat} {cap : Int} {R : List Bs} {safe : Nat} {vb ve : Value} (h : IsJ w S j cap R safe vb ve) (hs : w.heap.size ≤ w'.heap.size) (hm : ∀ k, S k → w'.heap[k]? = w.heap[k]?) : IsJ w' S j cap R safe vb ve :=
  ⟨(hm j h.sq).trans h.blk, h.b_.move fun k hk => hm k (h.b_.blk hk).1, own_move h.e_ fun k hk => hm k (h.se k hk), h.sq, h.se, fun k hk => Nat.lt_of_lt_of_le (h.lt k hk) hs⟩
theorem IsJ.chg {w w' : World} {S T : Nat → Prop} {j : Nat} {cap : Int} {R : List Bs} {safe : Nat} {vb ve : Value} (h : IsJ w S j cap R safe vb ve) (hc : Chg T w w') (ht : ∀ k, S k → ¬ T k) : IsJ w' S j cap R safe vb ve :=
  h.move hc.size fun k hk => hc.block k (h.lt k hk) (ht k hk)

set_option maxHeartbeats 400000 in
theorem len_any {w : World} {S : Nat → Prop} {j : Nat} {cap : Int} {R : List Bs} {safe : Nat} {vb ve : Value} (h : IsJ w S j cap R safe vb ve) :
    Calls Try.prog 13 #[.pointer (some ⟨j, 0, none⟩)] w fun e w' => e = .returned (.int .i64 (R.length : Nat)) ∧ w = w' := by
  obtain ⟨A, c, rfl, hc, _⟩ := own_rd h.e_
  have h1 := blk_cell h.blk 2
  clear h
  go_enter Try.func13, Try.ntmps13
  go_wp2
  go_ret
  exact ⟨rfl, rfl⟩

set_option maxHeartbeats 400000 in
theorem new_any (cap : Int) (w : World) (h0 : 0 ≤ cap) (h1 : cap ≤ 1073741824) :
    Calls Try.prog 9 #[.int .i64 cap] w fun e w' => e = .returned (.tuple #[.pointer (some ⟨w.heap.size, 0, none⟩), .int .i64 0]) ∧ IsJ w' (· = w.heap.size) w.heap.size cap [] 0 (.slice none 0 0) (.slice none 0 0) ∧ Chg (fun _ => False) w w' := by
  have b1 : decide (cap < 0) = false := decide_eq_false (by omega)
  have b2 : decide (1073741824 < cap) = false := decide_eq_false (by omega)
  go_enter Try.func9, Try.ntmps9
  go_wp2
  go_ret2
  refine ⟨rfl, ⟨blk_new _ _ _, Tape.nil_ _ _, own_nil _ _ _ _, rfl, by simp [Value.ownBlock], by simp⟩, (Chg.refl _ _).alloc _⟩
set_option maxHeartbeats 400000 in
theorem new_bad (cap : Int) (w : World) (h0 : cap < 0 ∨ 1073741824 < cap) :
    Calls Try.prog 9 #[.int .i64 cap] w fun e w' => e = .returned (.tuple #[.pointer none, .int .i64 180]) ∧ w = w' := by
  by_cases hc : cap < 0
  · have b1 : decide (cap < 0) = true := decide_eq_true (by omega)
    go_enter Try.func9, Try.ntmps9
    go_wp2
    go_ret2
    exact ⟨rfl, rfl⟩
  · have b1 : decide (cap < 0) = false := decide_eq_false (by omega)
    have b2 : decide (1073741824 < cap) = true := decide_eq_true (by omega)
    go_enter Try.func9, Try.ntmps9
    go_wp2
    go_ret2
    exact ⟨rfl, rfl⟩

theorem rd_none {w : World} {T : Nat → Prop} {sz n : Nat} {cs : List Value} (h : Rd w T sz none n cs) (hs : 0 < sz) : cs = [] ∧ n = 0 := by
  have hcs : cs = [] := by
    cases cs with
    | nil => rfl
    | cons u l => obtain ⟨ad, h, _⟩ := h.2 0 u rfl; cases h
  refine ⟨hcs, ?_⟩
  have := h.1
  rw [hcs] at this
  rcases Nat.mul_eq_zero.1 this.symm with h | h <;> omega
set_option maxHeartbeats 400000 in
theorem clone_any (T : Nat → Prop) (A : Option Addr) (n c : Nat) (cs : List Value) (w : World) (hr : Rd w T 1 A n cs) (h1 : ∀ u ∈ cs, u.oneCell' = true) (hn : n ≤ 70368744177664) :
    Calls Try.prog 27 #[.slice A n c] w fun e w' => ∃ v, e = .returned v ∧ w'.ownsRow w.heap.size 5 1 v n cs ∧ Chg (fun _ => False) w w' := by
  have he := fun w : World => Go.Lib.run_eql_slice_nil (P := Try.prog) w 23 5 A n c 0 0 Try.underlying23
  cases A with
  | none =>
    obtain ⟨rfl, rfl⟩ := rd_none hr (by omega)
    go_enter Try.func27, Try.ntmps27
    go_wp2_with fail
    go_ret
    exact ⟨_, rfl, own_nil _ _ _ _, Chg.refl _ _⟩
  | some ad =>
    go_enter Try.func27, Try.ntmps27
    go_wp2_with (at_builtin; refine wpList_app _ rfl (.tmp 5) (.tmp 6) 23 rfl w.heap.size 5 1 1 _ Try.underlying23 info5 rfl (by omega) (.slice (some ⟨w.heap.size, 0, none⟩) 0 0) 0 [] rfl ?c1 T (some ad) n c cs rfl ?c2 h1 ?c3 ?c4 ?c5 ?_)
    case c1 => exact ⟨rfl, .inr ⟨w.heap.size, 0, #[], rfl, Nat.le_refl _, blk_new _ _ _, Nat.le_refl _, by simp [maxLen], rfl, rfl⟩⟩
    case c2 => exact hr.new ((Chg.refl _ _).alloc _)
    case c3 => simp only [maxLen]; omega
    case c4 => omega
    case c5 => simp
    intro v1 w1 hown hg hat
    go_wp2
    go_ret
    refine ⟨_, rfl, by simpa using hown, (((Chg.refl _ w).alloc _).trans hg ?_)⟩
    intro k hk hlt
    simp [Value.ownBlock] at hk
    omega

set_option maxHeartbeats 400000 in
theorem bytes_any {w : World} {S : Nat → Prop} {j : Nat} {cap : Int} {R : List Bs} {safe : Nat} {vb ve : Value} (h : IsJ w S j cap R safe vb ve) (hl : (cat R).length ≤ 70368744177664) :
    Calls Try.prog 12 #[.pointer (some ⟨j, 0, none⟩)] w fun e w' => ∃ v, e = .returned v ∧ w'.ownsRow w.heap.size 5 1 v (cat R).length (bvs (cat R)) ∧ Chg (fun _ => False) w w' := by
  obtain ⟨A, c, rfl, hc⟩ := h.b_.shape
  obtain ⟨_, hr⟩ := h.b_.rd
  have HR := Go.Lib.hid hr
  have h1 := blk_cell h.blk 1
  clear h hr
  go_enter Try.func12, Try.ntmps12
  go_wp2_with (go_at_call 27; refine (clone_any _ _ _ _ _ _ HR.out (bvs_one _) hl).mono ?_; rintro e w1 ⟨v, rfl, ho, hc1⟩)
  obtain ⟨A1, c1, rfl, _, _⟩ := own_rd ho
  have HO := Go.Lib.hid ho
  clear ho
  go_wp2
  go_ret
  exact ⟨_, rfl, HO.out, hc1⟩
end Go.Proofs.Ytjcjnejcikipnaa.J
