/- The walks of package journal's small functions: copies, sums, frames. -/
import Derived.Test.YtjcjnejcikipnaaProg
import Derived.Test.YtjcjnejcikipnaaLib
import Derived.KernelRfl
import Derived.Deep.LoopGhost
import Derived.WalkMore
import Derived.ScopeJumps
namespace Go.Proofs.Ytjcjnejcikipnaa.J
open Go.RowKit Go.Proofs.Ytjcjnejcikipnaa.Lib
set_option linter.unusedVariables false

abbrev Bs := List UInt8
def bv (x : UInt8) : Value := .int .u8 (x.toNat : Int)
def bvs (l : Bs) : List Value := l.map bv
theorem bvs_len (l : Bs) : (bvs l).length = l.length := by simp [bvs]
theorem bvs_app (a b : Bs) : bvs (a ++ b) = bvs a ++ bvs b := by simp [bvs]
theorem bvs_take (l : Bs) (k : Nat) : (bvs l).take k = bvs (l.take k) := by simp [bvs]
theorem bvs_drop (l : Bs) (k : Nat) : (bvs l).drop k = bvs (l.drop k) := by simp [bvs]
theorem bvs_one (l : Bs) : ∀ u ∈ bvs l, u.oneCell' = true := by
  intro u hu
  simp only [bvs, List.mem_map] at hu
  obtain ⟨x, _, rfl⟩ := hu
  rfl
theorem bvs_at (l : Bs) (j : Nat) : (bvs l)[j]? = (l[j]?).map bv := by simp [bvs]

theorem info5 : (Try.prog.info? 5).map (fun i => (i.zero, i.size, i.bytes)) = some (some (.int .u8 0), 1, 1) := by kernel_rfl
theorem info23 : (Try.prog.info? 23).map (fun i => (i.zero, i.size, i.bytes)) = some (some (.slice none 0 0), 1, 24) := by kernel_rfl
theorem info3 : (Try.prog.info? 3).map (fun i => (i.zero, i.size, i.bytes)) = some (some (.int .i64 0), 1, 8) := by kernel_rfl

/-! ### Copy -/
set_option maxHeartbeats 400000 in
theorem copy_any (T : Nat → Prop) (A : Option Addr) (n c : Nat) (cs : List Value) (w : World) (hr : Rd w T 1 A n cs) (h1 : ∀ u ∈ cs, u.oneCell' = true) (hn : n ≤ 70368744177664) :
    Calls Try.prog 14 #[.slice A n c] w fun e w' => ∃ v, e = .returned v ∧ w'.ownsRow w.heap.size 5 1 v n cs ∧ Chg (fun _ => False) w w' := by
  go_enter Try.func14, Try.ntmps14
  go_wp2_with (at_builtin; refine wpList_app _ rfl (.tmp 4) (.tmp 5) 23 rfl w.heap.size 5 1 1 _ Try.underlying23 info5 rfl (by omega) (.slice none 0 0) 0 [] rfl (own_nil _ _ _ _) T A n c cs rfl hr h1 ?c3 ?c4 ?c5 ?_)
  case c3 => simp only [maxLen]; omega
  case c4 => omega
  case c5 => simp
  intro v1 w1 hown hg hat
  go_wp2
  go_ret
  refine ⟨_, rfl, by simpa using hown, hg.mono fun k hk _ => ?_⟩
  simp [Value.ownBlock] at hk

/-! ### sum -/
def stepS (s : Nat) (b : UInt8) : Nat := (s * 257 + b.toNat + 1) % 4294967291
def sumB (l : Bs) : Nat := l.foldl stepS 7
theorem sumB_snoc (l : Bs) (b : UInt8) : sumB (l ++ [b]) = stepS (sumB l) b := by simp [sumB]
theorem stepS_lt (s : Nat) (b : UInt8) : stepS s b < 4294967291 := Nat.mod_lt _ (by omega)
theorem sumB_lt (l : Bs) : sumB l < 4294967291 := by
  rcases List.eq_nil_or_concat l with rfl | ⟨L, b, rfl⟩
  · decide
  · rw [List.concat_eq_append, sumB_snoc]; exact stepS_lt _ _
theorem take_snoc {l : Bs} {i : Nat} {b : UInt8} (h : l[i]? = some b) : l.take (i + 1) = l.take i ++ [b] := by
  rw [List.take_add_one, h]; rfl
set_option maxHeartbeats 800000 in
theorem sum_any (T : Nat → Prop) (A : Option Addr) (c : Nat) (l : Bs) (w : World) (hr : Rd w T 1 A l.length (bvs l)) (hl : l.length ≤ 70368744177664) :
    Calls Try.prog 35 #[.slice A l.length c] w fun e w' => e = .returned (.int .i64 (sumB l : Nat)) ∧ w = w' := by
  have HR := Go.Lib.hid hr
  clear hr
  go_enter Try.func35, Try.ntmps35
  go_wp2
  go_loopg [3, 8] l.length (fun g v3 v8 wr => ∃ i : Nat, i ≤ l.length ∧ g = l.length - i ∧ v3 = .int .i64 (sumB (l.take i) : Nat) ∧ v8 = .int .i64 (i : Nat) ∧ w = wr)
  case atStart => exact ⟨0, by omega, rfl, rfl, rfl, rfl⟩
  case round =>
    obtain ⟨i, hi, hgk, rfl, rfl, rfl⟩ := hrel
    by_cases hlt : i < l.length
    · have hT : decide ((i : Int) < (l.length : Int)) = true := by simpa using hlt
      have hT' : decide (i < l.length) = true := by simpa using hlt
      obtain ⟨ad, u, rfl, _, hu, hcell⟩ := HR.out.at_ (j := i) (by omega)
      rw [bvs_at] at hu
      obtain ⟨b, hb, rfl⟩ := Option.map_eq_some_iff.1 hu
      clear hu
      have HB := Go.Lib.hid hb
      clear hb
      have hs := sumB_lt (l.take i)
      unfold bv at hcell
      obtain ⟨s, hse⟩ : ∃ s, s = sumB (l.take i) := ⟨_, rfl⟩
      have HS := Go.Lib.hid hse
      rw [← hse] at hs
      simp only [← hse]
      clear hse
      have hb8 := b.toNat_lt
      go_wp2
      go_roundg (l.length - (i + 1))
      case measure => omega
      case rel =>
        refine ⟨i + 1, by omega, rfl, ?_, rfl, rfl⟩
        rw [take_snoc HB.out, sumB_snoc, ← HS.out]
        simp only [stepS, Value.int.injEq, true_and]
        omega
    · have hT : decide ((i : Int) < (l.length : Int)) = false := by simpa using hlt
      have hT' : decide (i < l.length) = false := by simpa using hlt
      have e : i = l.length := by omega
      subst e
      rw [List.take_length]
      go_wp2
      go_ret
      exact ⟨rfl, rfl⟩

/-! ### frame -/
def lenB (n : Nat) : Bs := if n < 128 then [UInt8.ofNat n] else UInt8.ofNat (n % 128 + 128) :: lenB (n / 128)
termination_by n
theorem lenB_lt {n : Nat} (h : n < 128) : lenB n = [UInt8.ofNat n] := by rw [lenB, if_pos h]
theorem lenB_ge {n : Nat} (h : ¬ n < 128) : lenB n = UInt8.ofNat (n % 128 + 128) :: lenB (n / 128) := by rw [lenB, if_neg h]
theorem lenB_len {n : Nat} (h : n ≤ 1048576) : 1 ≤ (lenB n).length ∧ (lenB n).length ≤ 3 := by
  by_cases h1 : n < 128
  · rw [lenB_lt h1]; simp
  · rw [lenB_ge h1]
    by_cases h2 : n / 128 < 128
    · rw [lenB_lt h2]; simp
    · rw [lenB_ge h2, lenB_lt (by omega)]; simp
def frm (r : Bs) : Bs := lenB r.length ++ [UInt8.ofNat (sumB r / 16777216), UInt8.ofNat (sumB r / 65536), UInt8.ofNat (sumB r / 256), UInt8.ofNat (sumB r)] ++ r

theorem scope_jumps1 {P : Program} {a : Act} {w : World} {Q : Exit → Act → World → Prop} {c rest : Code} (l : Nat) (J : Act → World → Prop) (μ : Act → World → Nat) (hf : findLabel c l = some (Code.skip.seq rest))
    (first : ∀ R : Exit → Act → World → Prop, (∀ a w, J a w → rest.wp P R a w) → c.wp P R a w)
    (pass : ∀ a w, J a w → rest.wp P (Exit.jump l (fun a' w' => J a' w' ∧ μ a' w' < μ a w) Q) a w) : (Code.scope c).wp P Q a w := by
  refine wp_scope_jumps l J μ hf (first _ fun a w h => wp_mono (pass a w h) ?_) (fun a w h => wp_seq (wp_skip (pass a w h)))
  intro e a' w' h
  cases e with
  | goto l' => exact ⟨h.1, h.2.1⟩
  | normal => exact h
  | exit id => exact h
  | ret => exact h
  | panic ch => exact h
  | outgrown => exact h

set_option maxRecDepth 100000 in
theorem or128 (m : Nat) : bits .or .u8 ((m : Int) % 256) 128 = ((UInt8.ofNat (m % 128 + 128)).toNat : Int) := by
  have h := (bits_nat .u8 8 (by decide) wraps_u8 (m % 256) 128 (by omega) (by decide)).2
  have k : ∀ b : Fin 256, (b.val ||| 128) = b.val % 128 + 128 := by decide
  have k1 := k ⟨m % 256, by omega⟩
  simp only at k1
  rw [k1] at h
  have e : ((m : Int) % 256) = ((m % 256 : Nat) : Int) := by omega
  rw [e]
  refine Eq.trans h ?_
  rw [UInt8.toNat_ofNat']
  omega
theorem u8_mod (n : Nat) : ((n : Int) % 256) = ((UInt8.ofNat n).toNat : Int) := by
  rw [UInt8.toNat_ofNat']; omega
theorem rd_new (w : World) (t : TypeId) (bs : Bs) : Rd (w.alloc (.cells (bvs bs).toArray t)) (· = w.heap.size) 1 (some ⟨w.heap.size, 0, none⟩) bs.length (bvs bs) := by
  refine ⟨by simp [bvs_len], fun j u hu => ⟨_, rfl, rfl, ?_⟩⟩
  rw [add_at, blk_cell (blk_new w t _), Nat.zero_add]
  simpa using hu
theorem rd_newv (w : World) (t : TypeId) (vs : List Value) : Rd (w.alloc (.cells vs.toArray t)) (· = w.heap.size) 1 (some ⟨w.heap.size, 0, none⟩) vs.length vs := by
  refine ⟨by simp, fun j u hu => ⟨_, rfl, rfl, ?_⟩⟩
  rw [add_at, blk_cell (blk_new w t _), Nat.zero_add]
  simpa using hu
def natOf : Value → Nat | .int _ q => q.toNat | _ => 0
set_option maxRecDepth 100000 in
set_option maxHeartbeats 4000000 in
theorem frame_any (T : Nat → Prop) (A : Option Addr) (c : Nat) (l : Bs) (w : World) (hr : Rd w T 1 A l.length (bvs l)) (hl : l.length ≤ 1048576) :
    Calls Try.prog 26 #[.slice A l.length c] w fun e w' => ∃ v, e = .returned v ∧ w'.ownsRow w.heap.size 5 1 v (frm l).length (bvs (frm l)) ∧ Chg (fun _ => False) w w' := by
  have HR := Go.Lib.hid hr
  clear hr
  go_enter Try.func26, Try.ntmps26
  go_wp2
  refine scope_jumps1 0 (fun a' w' => ∃ (m : Nat) (cs : Bs) (v : Value) (u5 u6 u7 u8 u9 u10 u11 u12 u13 u14 u15 u16 u17 u18 u19 u20 u21 u22 u23 u24 u25 u26 u27 u28 u29 u30 u31 u32 u33 u34 u35 u36 u37 u38 : Value), a' = { tmps := #[.slice A l.length c, undef, .slice none 0 0, v, .int .i64 (m : Nat), u5, u6, u7, u8, u9, u10, u11, u12, u13, u14, u15, u16, u17, u18, u19, u20, u21, u22, u23, u24, u25, u26, u27, u28, u29, u30, u31, u32, u33, u34, u35, u36, u37, u38], defers := [] } ∧ m ≤ 1048576 ∧ cs ++ lenB m = lenB l.length ∧ cs.length ≤ 8 ∧ w'.ownsRow w.heap.size 5 1 v cs.length (bvs cs) ∧ Chg (fun _ => False) w w') (fun a' _ => natOf (a'.tmps.getD 4 undef)) rfl ?_ ?_
  · intro R hR
    go_wp2
    go_step3
    rename_i K hK
    exact hK _ _ (hR _ _ ⟨l.length, [], _, _, _, _, _, _, _, _, _, _, _, _, _, _, _, _, _, _, _, _, _, _, _, _, _, _, _, _, _, _, _, _, _, _, _, rfl, hl, rfl, by simp, own_nil _ _ _ _, Chg.refl _ _⟩)
  · rintro a' w' ⟨m, cs, v, u5, u6, u7, u8, u9, u10, u11, u12, u13, u14, u15, u16, u17, u18, u19, u20, u21, u22, u23, u24, u25, u26, u27, u28, u29, u30, u31, u32, u33, u34, u35, u36, u37, u38, rfl, hm, hcs, hc8, hown, hch⟩
    obtain ⟨A1, c1, rfl, hc1, _⟩ := own_rd hown
    have HO := Go.Lib.hid hown
    clear hown
    have HCS := Go.Lib.hid hcs
    clear hcs
    by_cases hlt : m < 128
    · have hT : decide ((128 : Int) ≤ (m : Int)) = false := decide_eq_false (by omega)
      have hs := sumB_lt l
      obtain ⟨s, hse⟩ : ∃ s, s = sumB l := ⟨_, rfl⟩
      rw [← hse] at hs
      have HSE := Go.Lib.hid hse
      clear hse
      obtain ⟨b0, hb0⟩ : ∃ b, b = UInt8.ofNat m := ⟨_, rfl⟩
      obtain ⟨b1, hb1⟩ : ∃ b, b = UInt8.ofNat (s / 16777216) := ⟨_, rfl⟩
      obtain ⟨b2, hb2⟩ : ∃ b, b = UInt8.ofNat (s / 65536) := ⟨_, rfl⟩
      obtain ⟨b3, hb3⟩ : ∃ b, b = UInt8.ofNat (s / 256) := ⟨_, rfl⟩
      obtain ⟨b4, hb4⟩ : ∃ b, b = UInt8.ofNat s := ⟨_, rfl⟩
      have h0 : (m : Int) % 256 = (b0.toNat : Int) := by rw [hb0]; exact u8_mod m
      have h1 : ((s : Int) / 16777216) % 256 = (b1.toNat : Int) := by rw [hb1]; exact u8_mod (s / 16777216)
      have h2 : ((s : Int) / 65536) % 256 = (b2.toNat : Int) := by rw [hb2]; exact u8_mod (s / 65536)
      have h3 : ((s : Int) / 256) % 256 = (b3.toNat : Int) := by rw [hb3]; exact u8_mod (s / 256)
      have h4 : (s : Int) % 256 = (b4.toNat : Int) := by rw [hb4]; exact u8_mod s
      have H0 := Go.Lib.hid hb0
      have H1 := Go.Lib.hid hb1
      have H2 := Go.Lib.hid hb2
      have H3 := Go.Lib.hid hb3
      have H4 := Go.Lib.hid hb4
      clear hb0 hb1 hb2 hb3 hb4
      go_wp2_with (first
        | (go_at_call 35; refine (sum_any _ _ _ _ _ (HR.out.new hch) (by omega)).mono ?_; rintro e w5 ⟨rfl, rfl⟩; rw [← HSE.out])
        | (at_builtin; refine wpList_app _ rfl (.tmp 20) (.tmp 34) 23 rfl w.heap.size 5 1 1 _ Try.underlying23 info5 rfl (by omega) (.slice A1 cs.length c1) cs.length (bvs cs) rfl (own_alloc HO.out _) _ _ 5 5 [.int .u8 (m : Int), .int .u8 ((s : Int) / 16777216), .int .u8 (b2.toNat : Int), .int .u8 (b3.toNat : Int), .int .u8 (b4.toNat : Int)] rfl (rd_newv w' 5 [.int .u8 (m : Int), .int .u8 ((s : Int) / 16777216), .int .u8 (b2.toNat : Int), .int .u8 (b3.toNat : Int), .int .u8 (b4.toNat : Int)]) ?c2 ?c3 ?c4 ?c5 ?_))
      case c2 => intro u hu; simp only [List.mem_cons, List.not_mem_nil, or_false] at hu; rcases hu with rfl | rfl | rfl | rfl | rfl <;> rfl
      case c3 => simp only [maxLen]; omega
      case c4 => omega
      case c5 => have := hch.size; simp; omega
      intro v1 w1 hown hg hat
      have e0 : (m : Int) = (b0.toNat : Int) := by omega
      have e1 : (s : Int) / 16777216 = (b1.toNat : Int) := by omega
      rw [show bvs cs ++ [Value.int IntKind.u8 (m : Int), Value.int IntKind.u8 ((s : Int) / 16777216), Value.int IntKind.u8 (b2.toNat : Int), Value.int IntKind.u8 (b3.toNat : Int), Value.int IntKind.u8 (b4.toNat : Int)] = bvs (cs ++ [b0, b1, b2, b3, b4]) from by rw [e0, e1, bvs_app]; rfl] at hown
      have hc2 : Chg (fun _ => False) w w1 := (hch.alloc _).trans hg fun k hk hlt => by
        have := HO.out
        rcases this.2 with ⟨hv, _⟩ | ⟨g, cap, cur, hv, hb, _⟩
        · rw [hv] at hk; simp [Value.ownBlock] at hk
        · rw [hv] at hk; simp [Value.ownBlock] at hk; omega
      obtain ⟨A2, c2, rfl, hcc, _⟩ := own_rd hown
      have HO2 := Go.Lib.hid hown
      have HC2 := Go.Lib.hid hc2
      clear hg hown hc2 e0 e1 h0 h1 h2 h3 h4
      go_wp2_with (at_builtin; refine wpList_app _ rfl (.tmp 36) (.tmp 37) 23 rfl w.heap.size 5 1 1 _ Try.underlying23 info5 rfl (by omega) (.slice A2 (cs.length + 5) c2) (cs.length + 5) (bvs (cs ++ [b0, b1, b2, b3, b4])) rfl HO2.out T A l.length c (bvs l) rfl (HR.out.new HC2.out) (bvs_one l) ?d3 ?d4 ?d5 ?_)
      case d3 => simp only [maxLen]; omega
      case d4 => omega
      case d5 => have := HC2.out.size; omega
      intro v3 w3 hown3 hg3 hat3
      rw [← bvs_app] at hown3
      have hc3 : Chg (fun _ => False) w w3 := HC2.out.trans hg3 fun k hk hlt => by
        have := HO2.out
        rcases this.2 with ⟨hv, _⟩ | ⟨g, cap, cur, hv, hb, _⟩
        · rw [hv] at hk; simp [Value.ownBlock] at hk
        · rw [hv] at hk; simp [Value.ownBlock] at hk; omega
      have HO3 := Go.Lib.hid hown3
      have HC3 := Go.Lib.hid hc3
      clear hown3 hg3 hc3
      go_wp2
      simp only [Exit.jump]
      go_ret
      have e : cs ++ [b0, b1, b2, b3, b4] ++ l = frm l := by
        unfold frm
        have := HCS.out
        rw [← this, ← HSE.out, ← H1.out, ← H2.out, ← H3.out, ← H4.out, lenB_lt hlt, ← H0.out]
        simp
      rw [← e]
      refine ⟨_, rfl, ?_, HC3.out⟩
      have := HO3.out
      simpa [Nat.add_comm, Nat.add_left_comm, Nat.add_assoc] using this
    · have hT : decide ((128 : Int) ≤ (m : Int)) = true := decide_eq_true (by omega)
      have hor := or128 m
      obtain ⟨b, hb⟩ : ∃ b, b = UInt8.ofNat (m % 128 + 128) := ⟨_, rfl⟩
      rw [← hb] at hor
      have HB := Go.Lib.hid hb
      clear hb
      go_wp2_with (at_builtin; refine wpList_app _ rfl (.tmp 10) (.tmp 14) 23 rfl w.heap.size 5 1 1 _ Try.underlying23 info5 rfl (by omega) (.slice A1 cs.length c1) cs.length (bvs cs) rfl (own_alloc HO.out _) _ _ 1 1 (bvs [b]) rfl (rd_new w' 5 [b]) (bvs_one _) ?c3 ?c4 ?c5 ?_)
      case c3 => simp only [maxLen]; omega
      case c4 => omega
      case c5 => have := hch.size; simp; omega
      intro v1 w1 hown hg hat
      obtain ⟨A2, c2, rfl, hc2, _⟩ := own_rd hown
      have HO2 := Go.Lib.hid hown
      have HG := Go.Lib.hid hg
      clear hown hg
      go_wp2
      go_step3
      rename_i K hK
      refine ⟨rfl, ⟨m / 128, cs ++ [b], _, _, _, _, _, _, _, _, _, _, _, _, _, _, _, _, _, _, _, _, _, _, _, _, _, _, _, _, _, _, _, _, _, _, _, rfl, by omega, ?_, ?_, ?_, ?_⟩, ?_⟩
      · rw [← HCS.out, lenB_ge hlt, HB.out]
        simp
      · have h1 := congrArg List.length HCS.out
        have h2 := (lenB_len hl).2
        rw [lenB_ge hlt, List.length_append, List.length_cons] at h1
        rw [List.length_append, List.length_singleton]
        omega
      · rw [bvs_app, List.length_append, List.length_singleton]; exact HO2.out
      · refine (hch.alloc _).trans HG.out fun k hk hlt => ?_
        have := HO.out
        rcases this.2 with ⟨hv, _⟩ | ⟨g, cap, cur, hv, hb, _⟩
        · rw [hv] at hk; simp [Value.ownBlock] at hk
        · rw [hv] at hk; simp [Value.ownBlock] at hk; omega
      · show m / 128 < m
        omega

theorem frm_len {l : Bs} (h : l.length ≤ 1048576) : l.length + 5 ≤ (frm l).length ∧ (frm l).length ≤ l.length + 7 := by
  have := lenB_len h
  simp only [frm, List.length_append, List.length_cons, List.length_nil]
  omega
end Go.Proofs.Ytjcjnejcikipnaa.J
