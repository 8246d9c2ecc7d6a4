/- Proved: BlocksLoads, part 3 of 5: Blocks.Load answers as ref05 says. Conditions: those that the statement itself has. -/
import Derived.Test.YtdlfflgcmgkmeaaKBlocksLoads1
import Derived.Test.YtdlfflgcmgkmeaaKBlocksLoads2
import Derived.Test.YtdlfflgcmgkmeaaProg
import Derived.OrdersHeld
import Derived.Below
import Derived.Deep.Quiet
import Derived.Deep.Draws
import Derived.Tactics
import Derived.KernelRfl
import Derived.Scope
import Derived.IntWalk
import Derived.Maps.AppendAt
import Derived.Laws.OwnMore
import Derived.Laws.IdiomCopy
import Derived.Deep.OwnRows
import Derived.Test.YtdlfflgcmgkmeaaVBlocksLoadsZeros
-- Written by a program of this session's own (wip/tools), over the translation. Not trusted: Lean checks it.
namespace Go.Proofs.Ytdlfflgcmgkmeaa.P
open Go.RowKit Go.Proofs.YtdlfflgcmgkmeaaW.PrintWords Go.Proofs.YtdlfflgcmgkmeaaW.PrintLast Go.Proofs.YtdlfflgcmgkmeaaW.PrintMore
attribute [local go_sem] max2_int min2_int max_two min_two max_three min_three max_four min_four   -- for this text's walks alone
set_option linter.unusedVariables false
set_option linter.unusedSimpArgs false

/-! ### portmanteauref06_Unpack: function 21 -/
def portmanteauref06_Unpack.j0 : Nat → List Int → Bool → Int → Bool → Option (List Int × Int)
  | 0, _, _, _, _ => none
  | k + 1, x0, x1, x2, x17 => if x17 = true then (some (([] : List Int), 1)) else (if x1 = true then ((portmanteauref05_Decode.f k x0 x2).bind fun bt22001 => (some (bt22001.1, bt22001.2.2.1))) else (if (x0.length : Int) > x2 then (some (([] : List Int), 2)) else (some (x0, 0))))
def portmanteauref06_Unpack.f (k : Nat) (l0 : List Int) (a1 : Bool) (a2 : Int) : Option (List Int × Int) := if a2 < 0 then (portmanteauref06_Unpack.j0 k l0 a1 a2 true) else (portmanteauref06_Unpack.j0 k l0 a1 a2 (decide (a2 > 1048576)))
theorem portmanteauref06_Unpack.mono_l : ∀ k, (∀ y0 y1 y2 y3, LeO (portmanteauref06_Unpack.j0 k y0 y1 y2 y3) (portmanteauref06_Unpack.j0 (k + 1) y0 y1 y2 y3))
  | 0 => fun _ _ _ _ r h => by simp [portmanteauref06_Unpack.j0] at h
  | k + 1 => by
    have ih0 := portmanteauref06_Unpack.mono_l k
    · intro y0 y1 y2 y3
      unfold portmanteauref06_Unpack.j0
      repeat' first
      | (with_reducible exact ih0 _ _ _ _)
      | (with_reducible exact portmanteauref05_Decode.mono _ _ _)
      | (with_reducible exact LeO.refl _)
      | (with_reducible exact LeO.none _)
      | (with_reducible refine LeO.ite ?_ ?_)
      | (with_reducible refine LeO.bind ?_ (fun _ => ?_))
      | exact ih0 _ _ _ _
      | exact portmanteauref05_Decode.mono _ _ _
      | exact LeO.none _
      | refine LeO.ite ?_ ?_
      | refine LeO.bind ?_ (fun _ => ?_)
theorem portmanteauref06_Unpack.mono : ∀ a0 a1 a2 k, LeO (portmanteauref06_Unpack.f k a0 a1 a2) (portmanteauref06_Unpack.f (k + 1) a0 a1 a2) := by
  intro a0 a1 a2 k
  have ih0 := portmanteauref06_Unpack.mono_l k
  unfold portmanteauref06_Unpack.f
  repeat' first
      | (with_reducible exact ih0 _ _ _ _)
      | (with_reducible exact portmanteauref05_Decode.mono _ _ _)
      | (with_reducible exact LeO.refl _)
      | (with_reducible exact LeO.none _)
      | (with_reducible refine LeO.ite ?_ ?_)
      | (with_reducible refine LeO.bind ?_ (fun _ => ?_))
      | exact ih0 _ _ _ _
      | exact portmanteauref05_Decode.mono _ _ _
      | exact LeO.none _
      | refine LeO.ite ?_ ?_
      | refine LeO.bind ?_ (fun _ => ?_)
set_option maxHeartbeats 8000000 in
set_option maxRecDepth 100000 in
theorem portmanteauref06_Unpack.calls (k : Nat) (P0_ : Nat → Prop) (A0 : Option Addr) (c0 : Nat) (l0 : List Int) (a1 : Bool) (a2 : Int) (r1 : List Int) (r2 : Int) (w : World) (hs0 : Kd.V (Kd.int .u8) 5 w w.heap.size (fun k_ => P0_ k_) (.slice A0 l0.length c0) l0) (h : portmanteauref06_Unpack.f k l0 a1 a2 = some (r1, r2)) :
    Calls Try.prog 21 #[.slice A0 l0.length c0, .bool a1, .int .i64 a2] w fun e w' => ∃ v0_ : Value, e = .returned (.tuple #[v0_, .int .i64 r2]) ∧ Kd.V (Kd.int .u8) 5 w' w.heap.size (fun k_ => (P0_ k_ ∨ w.heap.size ≤ k_)) v0_ r1 ∧ Below w.heap.size w w' := by
  have HO0 := Aside0.mk (show Kd.V (Kd.int .u8) 5 w w.heap.size (fun k_ => (P0_ k_ ∨ w.heap.size ≤ k_)) (.slice A0 l0.length c0) l0 from Kd.V_mono hs0 (fun k_ hk => .inl hk))
  have HB := Aside0.mk (Below.refl w.heap.size w)
  have H : (if a2 < 0 then (portmanteauref06_Unpack.j0 k l0 a1 a2 true) else (portmanteauref06_Unpack.j0 k l0 a1 a2 (decide (a2 > 1048576)))) = some (r1, r2) := h
  clear h
  have HC4 := Aside0.mk H
  clear H
  go_enter Try.func21, Try.ntmps21
  go_upto_region 1 with (fail)
  go_cut [17] (fun v17 wc => ∃ (kq : Nat) (x17_3 : Bool), v17 = .bool x17_3 ∧ Aside0 (portmanteauref06_Unpack.j0 kq l0 a1 a2 x17_3 = some (r1, r2)) ∧ Aside0 (kq ≤ k) ∧ Aside0 (Kd.V (Kd.int .u8) 5 wc w.heap.size (fun k_ => (P0_ k_ ∨ w.heap.size ≤ k_)) (.slice A0 l0.length c0) l0) ∧ Aside0 (Below w.heap.size w wc))
  case first =>
    have H := HC4.out
    clear HC4
    by_cases c5 : a2 < 0
    · rw [if_pos c5] at H
      have c5b0 : decide (a2 < 0) = true := decide_eq_true c5
      clear c5
      (first | rw [c5b0] | (simp only [i64_w, i32_w]; rw [c5b0]) | skip)
      have H' := Aside0.mk H
      clear H
      go_wp2
      go_meet
      case rel => exact ⟨_, (true), (by first | rfl | (simp; done) | (simp [*]; done)), H', ⟨by first | omega | exact Nat.le_refl _⟩, ⟨by (with_reducible repeat (first | apply Kd.V_alloc | apply Kd.V_drewN | apply Kd.V_drew)); exact HO0.out⟩, ⟨by repeat (first | (with_reducible first | exact HB.out | apply below_alloc | apply pw_below_drewN | apply below_drew1) | exact HB.out)⟩⟩
    · rw [if_neg c5] at H
      have c5b0 : decide (a2 < 0) = false := decide_eq_false c5
      clear c5
      (first | rw [c5b0] | (simp only [i64_w, i32_w]; rw [c5b0]) | skip)
      have H' := Aside0.mk H
      clear H
      go_wp2
      go_meet
      case rel => exact ⟨_, (decide (a2 > 1048576)), (by first | rfl | (simp; done) | (simp [*]; done)), H', ⟨by first | omega | exact Nat.le_refl _⟩, ⟨by (with_reducible repeat (first | apply Kd.V_alloc | apply Kd.V_drewN | apply Kd.V_drew)); exact HO0.out⟩, ⟨by repeat (first | (with_reducible first | exact HB.out | apply below_alloc | apply pw_below_drewN | apply below_drew1) | exact HB.out)⟩⟩
  case rest =>
    clear HC4
    try clear c2
    try clear p2
    try clear c5
    try clear c5b0
    obtain ⟨kq, x17_3, rfl, HA, HJ3, HO_0, HB⟩ := hcut
    cases kq with
    | zero => exact absurd HA.out (by simp [portmanteauref06_Unpack.j0])
    | succ kj3 =>
      have H := HA.out
      clear HA
      simp only [portmanteauref06_Unpack.j0] at H
      by_cases c6 : x17_3 = true
      · subst c6
        have H1 : (some (([] : List Int), 1)) = some (r1, r2) := by rw [if_pos rfl] at H; exact H
        clear H
        have H := H1
        clear H1
        simp only [Option.some.injEq, Prod.mk.injEq] at H
        obtain ⟨rfl, rfl⟩ := H
        go_wp2
        go_ret2
        exact ⟨_, by first | rfl | (simp [errW_none, errW_some] <;> rfl) | (simp [*, errW_none, errW_some] <;> rfl), Kd.V_nil _ _ _ _ _, by repeat (first | (with_reducible first | exact HB.out | apply below_alloc | apply pw_below_drewN | apply below_drew1) | exact HB.out)⟩
      · replace c6 := Bool.eq_false_iff.mpr c6
        subst c6
        have H1 : (if a1 = true then ((portmanteauref05_Decode.f kj3 l0 a2).bind fun bt22001 => (some (bt22001.1, bt22001.2.2.1))) else (if (l0.length : Int) > a2 then (some (([] : List Int), 2)) else (some (l0, 0)))) = some (r1, r2) := by rw [if_neg (show ¬ (false = true) by decide)] at H; exact H
        clear H
        have H := H1
        clear H1
        by_cases c7 : a1 = true
        · subst c7
          have H1 : ((portmanteauref05_Decode.f kj3 l0 a2).bind fun bt22001 => (some (bt22001.1, bt22001.2.2.1))) = some (r1, r2) := by rw [if_pos rfl] at H; exact H
          clear H
          have H := H1
          clear H1
          replace H := Option.bind_eq_some_iff.mp H
          obtain ⟨⟨t22001, t22004, t22007, t22008⟩, A80, H⟩ := H
          replace H : (some (t22001, t22007)) = some (r1, r2) := H
          have A8 := Aside0.mk A80
          clear A80
          simp only [Option.some.injEq, Prod.mk.injEq] at H
          obtain ⟨rfl, rfl⟩ := H
          go_wp2_with (first | ((with_reducible refine gate_callee (f := 64) rfl ?_); refine goesL_ (some 22) rfl rfl Try.func64 (by kernel_rfl) rfl #[.slice A0 l0.length c0, .int .i64 a2] rfl (by (try simp only [List.map_toArray, List.map_cons, List.map_nil]); first | done | rfl | (simp only [List.length_drop, List.length_take]; rfl)) ?_; (with_reducible refine (portmanteauref05_Decode.calls kj3 (fun k_ => (P0_ k_ ∨ w.heap.size ≤ k_)) _ _ l0 a2 t22001 t22004 t22007 t22008 _ ?side1 A8.out).mono ?_); (case side1 => exact HO_0.out); rintro e w9 ⟨v22002, v22005, rfl, ho0, ho1, hb⟩; refine ⟨_, rfl, ?_⟩; have n0_ := Aside0.mk (Kd.V_mono (Kd.V_told (Kd.V_told (Kd.V_old (by (with_reducible repeat (first | apply Kd.V_alloc | apply Kd.V_drewN | apply Kd.V_drew)); exact HO_0.out) hb) (Kd.R_base ho0)) (Kd.N_base ho1)) (fun _ h_ => h_.1)); have n1_ := Aside0.mk (Kd.R_lower (Kd.R_newM (M := fun k_ => (w.heap.size ≤ k_)) (Kd.R_mono (ok' := fun k_ => True) ho0 (fun _ hk_ => trivial)) (below_size (by repeat (first | (with_reducible first | exact HB.out | apply below_alloc | apply pw_below_drewN | apply below_drew1) | exact HB.out))) (fun k_ h_ => h_)) (below_size (by repeat (first | (with_reducible first | exact HB.out | apply below_alloc | apply pw_below_drewN | apply below_drew1) | exact HB.out)))); have n2_ := Aside0.mk (Kd.N_lower (Kd.N_mono (ok' := fun k_ => (P0_ k_ ∨ w.heap.size ≤ k_) ∧ some k_ ≠ (v22002 : Value).ownBlock) ho1 (fun k_ hk_ => ⟨Or.elim hk_.1 (fun hs_ => hs_) (fun hn_ => (.inr (Nat.le_trans (below_size (by repeat (first | (with_reducible first | exact HB.out | apply below_alloc | apply pw_below_drewN | apply below_drew1) | exact HB.out))) hn_))), hk_.2⟩)) (below_size (by repeat (first | (with_reducible first | exact HB.out | apply below_alloc | apply pw_below_drewN | apply below_drew1) | exact HB.out)))); have n3_ := Aside0.mk (below_step (by repeat (first | (with_reducible first | exact HB.out | apply below_alloc | apply pw_below_drewN | apply below_drew1) | exact HB.out)) hb); clear HO_0; clear HB; have HO_0 := n0_; have HO22003 := n1_; have HO22006 := n2_; have HB := n3_; clear n0_ n1_ n2_ n3_; (try clear hb); (try clear hb2); (try clear hk); (try clear hi); (try clear ho0); (try clear ho1)))
          go_ret2
          exact ⟨_, by first | rfl | (simp [errW_none, errW_some] <;> rfl) | (simp [*, errW_none, errW_some] <;> rfl), Kd.V_mono (Kd.R_V (by (with_reducible repeat (first | apply Kd.R_alloc | apply Kd.R_drewN | apply Kd.R_drew)); exact Kd.R_mono HO22003.out (fun _ hk => hk.1))) (fun k_ hk => by first | exact ⟨(.inr (hk.1)), hk.2⟩ | exact (.inr (hk))), by repeat (first | (with_reducible first | exact HB.out | apply below_alloc | apply pw_below_drewN | apply below_drew1) | exact HB.out)⟩
        · replace c7 := Bool.eq_false_iff.mpr c7
          subst c7
          have H1 : (if (l0.length : Int) > a2 then (some (([] : List Int), 2)) else (some (l0, 0))) = some (r1, r2) := by rw [if_neg (show ¬ (false = true) by decide)] at H; exact H
          clear H
          have H := H1
          clear H1
          by_cases c10 : (l0.length : Int) > a2
          · rw [if_pos c10] at H
            have c10b0 : decide (a2 < (l0.length : Int)) = true := decide_eq_true c10
            clear c10
            simp only [Option.some.injEq, Prod.mk.injEq] at H
            obtain ⟨rfl, rfl⟩ := H
            go_wp2
            go_ret2
            exact ⟨_, by first | rfl | (simp [errW_none, errW_some] <;> rfl) | (simp [*, errW_none, errW_some] <;> rfl), Kd.V_nil _ _ _ _ _, by repeat (first | (with_reducible first | exact HB.out | apply below_alloc | apply pw_below_drewN | apply below_drew1) | exact HB.out)⟩
          · rw [if_neg c10] at H
            have c10b0 : decide (a2 < (l0.length : Int)) = false := decide_eq_false c10
            clear c10
            simp only [Option.some.injEq, Prod.mk.injEq] at H
            obtain ⟨rfl, rfl⟩ := H
            go_wp2
            go_ret2
            exact ⟨_, by first | rfl | (simp [errW_none, errW_some] <;> rfl) | (simp [*, errW_none, errW_some] <;> rfl), by (with_reducible repeat (first | apply Kd.V_alloc | apply Kd.V_drewN | apply Kd.V_drew)); exact HO_0.out, by repeat (first | (with_reducible first | exact HB.out | apply below_alloc | apply pw_below_drewN | apply below_drew1) | exact HB.out)⟩

end Go.Proofs.Ytdlfflgcmgkmeaa.P

-- Written by a program of this session's own (wip/tools), over the translation. Not trusted: Lean checks it.
namespace Go.Proofs.Ytdlfflgcmgkmeaa.P
open Go.RowKit Go.Proofs.YtdlfflgcmgkmeaaW.PrintWords Go.Proofs.YtdlfflgcmgkmeaaW.PrintLast Go.Proofs.YtdlfflgcmgkmeaaW.PrintMore
attribute [local go_sem] max2_int min2_int max_two min_two max_three min_three max_four min_four   -- for this text's walks alone
set_option linter.unusedVariables false
set_option linter.unusedSimpArgs false

/-! ### portmanteauref02_Entry: function 98 -/
def portmanteauref02_Entry.l0 : Nat → Int → Int → Option (Int)
  | 0, _, _ => none
  | k + 1, x0, x3 => if x3 < 8 then (if (Int.tmod x0 2) = 1 then (portmanteauref02_Entry.l0 k (Go.bits .xor .u32 ((Int.tdiv x0 2) % 4294967296) 3988292384) (wrap64 (x3 + 1))) else (portmanteauref02_Entry.l0 k ((Int.tdiv x0 2) % 4294967296) (wrap64 (x3 + 1)))) else (some x0)
def portmanteauref02_Entry.f (k : Nat) (a0 : Int) : Option (Int) := portmanteauref02_Entry.l0 k a0 0
theorem portmanteauref02_Entry.mono_l : ∀ k, (∀ y0 y1, LeO (portmanteauref02_Entry.l0 k y0 y1) (portmanteauref02_Entry.l0 (k + 1) y0 y1))
  | 0 => fun _ _ r h => by simp [portmanteauref02_Entry.l0] at h
  | k + 1 => by
    have ih0 := portmanteauref02_Entry.mono_l k
    · intro y0 y1
      unfold portmanteauref02_Entry.l0
      repeat' first
      | (with_reducible exact ih0 _ _)
      | (with_reducible exact LeO.refl _)
      | (with_reducible exact LeO.none _)
      | (with_reducible refine LeO.ite ?_ ?_)
      | (with_reducible refine LeO.bind ?_ (fun _ => ?_))
      | exact ih0 _ _
      | exact LeO.none _
      | refine LeO.ite ?_ ?_
      | refine LeO.bind ?_ (fun _ => ?_)
theorem portmanteauref02_Entry.mono : ∀ a0 k, LeO (portmanteauref02_Entry.f k a0) (portmanteauref02_Entry.f (k + 1) a0) := by
  intro a0 k
  have ih0 := portmanteauref02_Entry.mono_l k
  unfold portmanteauref02_Entry.f
  repeat' first
      | (with_reducible exact ih0 _ _)
      | (with_reducible exact LeO.refl _)
      | (with_reducible exact LeO.none _)
      | (with_reducible refine LeO.ite ?_ ?_)
      | (with_reducible refine LeO.bind ?_ (fun _ => ?_))
      | exact ih0 _ _
      | exact LeO.none _
      | refine LeO.ite ?_ ?_
      | refine LeO.bind ?_ (fun _ => ?_)
set_option maxHeartbeats 8000000 in
set_option maxRecDepth 100000 in
theorem portmanteauref02_Entry.calls (k : Nat) (a0 : Int) (r : Int) (w : World) (h : portmanteauref02_Entry.f k a0 = some r) :
    Calls Try.prog 98 #[.int .u32 a0] w fun e w' => e = .returned (.int .u32 r) ∧ Drawn0 w w' := by
  have H : (portmanteauref02_Entry.l0 k a0 0) = some r := h
  clear h
  have H' := Aside0.mk H
  clear H
  go_enter Try.func98, Try.ntmps98
  go_wp2
  go_loopg [0, 3] k (fun kq v0 v3 w' => ∃ (x0_1 : Int) (x3_1 : Int), v0 = .int .u32 x0_1 ∧ v3 = .int .i64 x3_1 ∧ Aside0 (portmanteauref02_Entry.l0 kq x0_1 x3_1 = some r) ∧ Aside0 (kq ≤ k) ∧ Drawn0 w w')
  case atStart => exact ⟨(a0), (0), (by first | rfl | (simp; done) | (simp [*]; done)), (by first | rfl | (simp; done) | (simp [*]; done)), H', ⟨Nat.le_refl _⟩, by repeat (first | exact Drawn0.refl _ | apply Drawn0.step)⟩
  case round =>
    clear H'
    obtain ⟨x0_1, x3_1, rfl, rfl, HA, HK1, ⟨m1, rfl⟩⟩ := hrel
    cases gk with
    | zero => exact absurd HA.out (by simp [portmanteauref02_Entry.l0])
    | succ k1 =>
      have H := HA.out
      clear HA
      simp only [portmanteauref02_Entry.l0] at H
      by_cases c2 : x3_1 < 8
      · rw [if_pos c2] at H
        have c2b0 : decide (x3_1 < 8) = true := decide_eq_true c2
        clear c2
        by_cases c3 : (Int.tmod x0_1 2) = 1
        · rw [if_pos c3] at H
          have c3b0 : ((Int.tmod x0_1 2) == 1) = true := beq_iff_eq.mpr c3
          have c3b1 : ((Int.tmod x0_1 2) != 1) = false := bne_eq_false_iff_eq.mpr c3
          clear c3
          have H' := Aside0.mk H
          clear H
          go_wp2
          go_roundg k1
          case measure => have := HK1.out; omega
          case rel => exact ⟨(Go.bits .xor .u32 ((Int.tdiv x0_1 2) % 4294967296) 3988292384), (wrap64 (x3_1 + 1)), (by first | rfl | (simp; done) | (simp [*]; done)), (by first | rfl | (simp; done) | (simp [*]; done)), H', ⟨by have := HK1.out; omega⟩, by repeat (first | exact Drawn0.refl _ | apply Drawn0.step)⟩
        · rw [if_neg c3] at H
          have c3b0 : ((Int.tmod x0_1 2) == 1) = false := beq_eq_false_iff_ne.mpr c3
          have c3b1 : ((Int.tmod x0_1 2) != 1) = true := bne_iff_ne.mpr c3
          have H' := Aside0.mk H
          clear H
          go_wp2
          go_roundg k1
          case measure => have := HK1.out; omega
          case rel => exact ⟨((Int.tdiv x0_1 2) % 4294967296), (wrap64 (x3_1 + 1)), (by first | rfl | (simp; done) | (simp [*]; done)), (by first | rfl | (simp; done) | (simp [*]; done)), H', ⟨by have := HK1.out; omega⟩, by repeat (first | exact Drawn0.refl _ | apply Drawn0.step)⟩
      · rw [if_neg c2] at H
        have c2b0 : decide (x3_1 < 8) = false := decide_eq_false c2
        clear c2
        obtain rfl := Option.some.inj H
        go_wp2
        go_ret
        exact ⟨by first | rfl | (simp; done) | (simp [*]; done), by repeat (first | exact Drawn0.refl _ | apply Drawn0.step)⟩

end Go.Proofs.Ytdlfflgcmgkmeaa.P

-- Written by a program of this session's own (wip/tools), over the translation. Not trusted: Lean checks it.
namespace Go.Proofs.Ytdlfflgcmgkmeaa.P
open Go.RowKit Go.Proofs.YtdlfflgcmgkmeaaW.PrintWords Go.Proofs.YtdlfflgcmgkmeaaW.PrintLast Go.Proofs.YtdlfflgcmgkmeaaW.PrintMore
attribute [local go_sem] max2_int min2_int max_two min_two max_three min_three max_four min_four   -- for this text's walks alone
set_option linter.unusedVariables false
set_option linter.unusedSimpArgs false

/-! ### portmanteauref02_Crc: function 76 -/
def portmanteauref02_Crc.l0 : Nat → Int → List Int → Int → Option (Int)
  | 0, _, _, _ => none
  | k + 1, x0, x1, x5 => if x5 < (x1.length : Int) then (if 0 ≤ x5 then ((portmanteauref02_Entry.f k (Go.bits .xor .u32 (Int.tmod x0 256) ((rd x1 x5) % 4294967296))).bind fun t77002 => (portmanteauref02_Crc.l0 k (Go.bits .xor .u32 ((Int.tdiv x0 256) % 4294967296) t77002) x1 (wrap64 (x5 + 1)))) else (none)) else (some ((4294967295 - x0) % 4294967296))
def portmanteauref02_Crc.f (k : Nat) (a0 : Int) (l1 : List Int) : Option (Int) := portmanteauref02_Crc.l0 k ((4294967295 - a0) % 4294967296) l1 0
theorem portmanteauref02_Crc.mono_l : ∀ k, (∀ y0 y1 y2, LeO (portmanteauref02_Crc.l0 k y0 y1 y2) (portmanteauref02_Crc.l0 (k + 1) y0 y1 y2))
  | 0 => fun _ _ _ r h => by simp [portmanteauref02_Crc.l0] at h
  | k + 1 => by
    have ih0 := portmanteauref02_Crc.mono_l k
    · intro y0 y1 y2
      unfold portmanteauref02_Crc.l0
      repeat' first
      | (with_reducible exact ih0 _ _ _)
      | (with_reducible exact portmanteauref02_Entry.mono _ _)
      | (with_reducible exact LeO.refl _)
      | (with_reducible exact LeO.none _)
      | (with_reducible refine LeO.ite ?_ ?_)
      | (with_reducible refine LeO.bind ?_ (fun _ => ?_))
      | exact ih0 _ _ _
      | exact portmanteauref02_Entry.mono _ _
      | exact LeO.none _
      | refine LeO.ite ?_ ?_
      | refine LeO.bind ?_ (fun _ => ?_)
theorem portmanteauref02_Crc.mono : ∀ a0 a1 k, LeO (portmanteauref02_Crc.f k a0 a1) (portmanteauref02_Crc.f (k + 1) a0 a1) := by
  intro a0 a1 k
  have ih0 := portmanteauref02_Crc.mono_l k
  unfold portmanteauref02_Crc.f
  repeat' first
      | (with_reducible exact ih0 _ _ _)
      | (with_reducible exact portmanteauref02_Entry.mono _ _)
      | (with_reducible exact LeO.refl _)
      | (with_reducible exact LeO.none _)
      | (with_reducible refine LeO.ite ?_ ?_)
      | (with_reducible refine LeO.bind ?_ (fun _ => ?_))
      | exact ih0 _ _ _
      | exact portmanteauref02_Entry.mono _ _
      | exact LeO.none _
      | refine LeO.ite ?_ ?_
      | refine LeO.bind ?_ (fun _ => ?_)
set_option maxHeartbeats 8000000 in
set_option maxRecDepth 100000 in
theorem portmanteauref02_Crc.calls (k : Nat) (a0 : Int) (A1 : Option Addr) (c1 : Nat) (l1 : List Int) (r : Int) (w : World) (hr1 : Kd.C (Kd.int .u8) w A1 l1.length l1) (hc1 : l1.length ≤ c1) (h : portmanteauref02_Crc.f k a0 l1 = some r) :
    Calls Try.prog 76 #[.int .u32 a0, .slice A1 l1.length c1] w fun e w' => e = .returned (.int .u32 r) ∧ Drawn0 w w' := by
  have HR1 := Aside0.mk hr1
  have HC1 := Aside0.mk hc1
  clear hr1 hc1
  have H : (portmanteauref02_Crc.l0 k ((4294967295 - a0) % 4294967296) l1 0) = some r := h
  clear h
  have H' := Aside0.mk H
  clear H
  go_enter Try.func76, Try.ntmps76
  go_wp2
  go_loopg [0, 5] k (fun kq v0 v5 w' => ∃ (x0_1 : Int) (x5_1 : Int), v0 = .int .u32 x0_1 ∧ v5 = .int .i64 x5_1 ∧ Aside0 (portmanteauref02_Crc.l0 kq x0_1 l1 x5_1 = some r) ∧ Aside0 (kq ≤ k) ∧ Drawn0 w w')
  case atStart => exact ⟨((4294967295 - a0) % 4294967296), (0), (by first | rfl | (simp; done) | (simp [*]; done)), (by first | rfl | (simp; done) | (simp [*]; done)), H', ⟨Nat.le_refl _⟩, by repeat (first | exact Drawn0.refl _ | apply Drawn0.step)⟩
  case round =>
    clear H'
    try clear c1
    try clear p2
    obtain ⟨x0_1, x5_1, rfl, rfl, HA, HK1, ⟨m1, rfl⟩⟩ := hrel
    cases gk with
    | zero => exact absurd HA.out (by simp [portmanteauref02_Crc.l0])
    | succ k1 =>
      have H := HA.out
      clear HA
      simp only [portmanteauref02_Crc.l0] at H
      by_cases c3 : x5_1 < (l1.length : Int)
      · rw [if_pos c3] at H
        have c3b0 : decide (x5_1 < (l1.length : Int)) = true := decide_eq_true c3
        clear c3
        by_cases c4 : 0 ≤ x5_1
        · rw [if_pos c4] at H
          have c4b0 : decide (0 ≤ x5_1) = true := decide_eq_true c4
          clear c4
          replace H := Option.bind_eq_some_iff.mp H
          obtain ⟨t77002, A50, H⟩ := H
          replace H : (portmanteauref02_Crc.l0 k1 (Go.bits .xor .u32 ((Int.tdiv x0_1 256) % 4294967296) t77002) l1 (wrap64 (x5_1 + 1))) = some r := H
          have A5 := Aside0.mk A50
          clear A50
          have H' := Aside0.mk H
          clear H
          have p77001 : 0 ≤ (x5_1 : Int) := of_decide_eq_true (by first | (with_reducible assumption) | assumption)
          have q77001 : x5_1 < (l1.length : Int) := of_decide_eq_true (by first | (with_reducible assumption) | assumption)
          obtain ⟨ad77001, e77001, hx77001_0⟩ := Kd.at_int HR1.out x5_1 p77001 q77001
          cases e77001
          replace p77001 := eq_true p77001
          replace q77001 := eq_true q77001
          go_wp2_with (first | ((with_reducible refine gate_callee (f := 98) rfl ?_); refine goesL_ (some 24) rfl rfl Try.func98 (by kernel_rfl) rfl #[.int .u32 (Go.bits .xor .u32 (Int.tmod x0_1 256) ((rd l1 x5_1) % 4294967296))] rfl (by (try simp only [List.map_toArray, List.map_cons, List.map_nil]); first | done | rfl | (simp only [List.length_drop, List.length_take]; rfl)) ?_; (with_reducible refine (portmanteauref02_Entry.calls k1 (Go.bits .xor .u32 (Int.tmod x0_1 256) ((rd l1 x5_1) % 4294967296)) t77002 _ A5.out).mono ?_); rintro e w' ⟨rfl, ⟨nd, rfl⟩⟩; refine ⟨_, rfl, ?_⟩))
          go_roundg k1
          case measure => have := HK1.out; omega
          case rel => exact ⟨(Go.bits .xor .u32 ((Int.tdiv x0_1 256) % 4294967296) t77002), (wrap64 (x5_1 + 1)), (by first | rfl | (simp; done) | (simp [*]; done)), (by first | rfl | (simp; done) | (simp [*]; done)), H', ⟨by have := HK1.out; omega⟩, by repeat (first | exact Drawn0.refl _ | apply Drawn0.step)⟩
        · rw [if_neg c4] at H
          exact absurd H (by simp)
      · rw [if_neg c3] at H
        have c3b0 : decide (x5_1 < (l1.length : Int)) = false := decide_eq_false c3
        clear c3
        obtain rfl := Option.some.inj H
        go_wp2
        go_ret
        exact ⟨by first | rfl | (simp; done) | (simp [*]; done), by repeat (first | exact Drawn0.refl _ | apply Drawn0.step)⟩

end Go.Proofs.Ytdlfflgcmgkmeaa.P

-- Written by a program of this session's own (wip/tools), over the translation. Not trusted: Lean checks it.
namespace Go.Proofs.Ytdlfflgcmgkmeaa.P
open Go.RowKit Go.Proofs.YtdlfflgcmgkmeaaW.PrintWords Go.Proofs.YtdlfflgcmgkmeaaW.PrintLast Go.Proofs.YtdlfflgcmgkmeaaW.PrintMore
attribute [local go_sem] max2_int min2_int max_two min_two max_three min_three max_four min_four   -- for this text's walks alone
set_option linter.unusedVariables false
set_option linter.unusedSimpArgs false

/-! ### portmanteauref01_Load: function 73 -/
def portmanteauref01_Load.l0 : Nat → List Int → Int → Int → Int → Option (Int)
  | 0, _, _, _, _ => none
  | k + 1, x0, x1, x7, x8 => if x8 ≥ 0 then (if 0 ≤ (wrap64 (x1 + x8)) then (if (wrap64 (x1 + x8)) < (x0.length : Int) then (portmanteauref01_Load.l0 k x0 x1 (IntKind.u64.wrap ((IntKind.u64.wrap (x7 * 256)) + (IntKind.u64.wrap (rd x0 (wrap64 (x1 + x8)))))) (wrap64 (x8 - 1))) else (none)) else (none)) else (some x7)
def portmanteauref01_Load.f (k : Nat) (l0 : List Int) (a1 : Int) (a2 : Int) : Option (Int) := portmanteauref01_Load.l0 k l0 a1 0 (wrap64 (a2 - 1))
theorem portmanteauref01_Load.mono_l : ∀ k, (∀ y0 y1 y2 y3, LeO (portmanteauref01_Load.l0 k y0 y1 y2 y3) (portmanteauref01_Load.l0 (k + 1) y0 y1 y2 y3))
  | 0 => fun _ _ _ _ r h => by simp [portmanteauref01_Load.l0] at h
  | k + 1 => by
    have ih0 := portmanteauref01_Load.mono_l k
    · intro y0 y1 y2 y3
      unfold portmanteauref01_Load.l0
      repeat' first
      | (with_reducible exact ih0 _ _ _ _)
      | (with_reducible exact LeO.refl _)
      | (with_reducible exact LeO.none _)
      | (with_reducible refine LeO.ite ?_ ?_)
      | (with_reducible refine LeO.bind ?_ (fun _ => ?_))
      | exact ih0 _ _ _ _
      | exact LeO.none _
      | refine LeO.ite ?_ ?_
      | refine LeO.bind ?_ (fun _ => ?_)
theorem portmanteauref01_Load.mono : ∀ a0 a1 a2 k, LeO (portmanteauref01_Load.f k a0 a1 a2) (portmanteauref01_Load.f (k + 1) a0 a1 a2) := by
  intro a0 a1 a2 k
  have ih0 := portmanteauref01_Load.mono_l k
  unfold portmanteauref01_Load.f
  repeat' first
      | (with_reducible exact ih0 _ _ _ _)
      | (with_reducible exact LeO.refl _)
      | (with_reducible exact LeO.none _)
      | (with_reducible refine LeO.ite ?_ ?_)
      | (with_reducible refine LeO.bind ?_ (fun _ => ?_))
      | exact ih0 _ _ _ _
      | exact LeO.none _
      | refine LeO.ite ?_ ?_
      | refine LeO.bind ?_ (fun _ => ?_)
set_option maxHeartbeats 8000000 in
set_option maxRecDepth 100000 in
theorem portmanteauref01_Load.calls (k : Nat) (A0 : Option Addr) (c0 : Nat) (l0 : List Int) (a1 : Int) (a2 : Int) (r : Int) (w : World) (hr0 : Kd.C (Kd.int .u8) w A0 l0.length l0) (hc0 : l0.length ≤ c0) (h : portmanteauref01_Load.f k l0 a1 a2 = some r) :
    Calls Try.prog 73 #[.slice A0 l0.length c0, .int .i64 a1, .int .i64 a2] w fun e w' => e = .returned (.int .u64 r) ∧ Drawn0 w w' := by
  have HR0 := Aside0.mk hr0
  have HC0 := Aside0.mk hc0
  clear hr0 hc0
  have H : (portmanteauref01_Load.l0 k l0 a1 0 (wrap64 (a2 - 1))) = some r := h
  clear h
  have H' := Aside0.mk H
  clear H
  go_enter Try.func73, Try.ntmps73
  go_wp2
  go_loopg [7, 8] k (fun kq v7 v8 w' => ∃ (x7_1 : Int) (x8_1 : Int), v7 = .int .u64 x7_1 ∧ v8 = .int .i64 x8_1 ∧ Aside0 (portmanteauref01_Load.l0 kq l0 a1 x7_1 x8_1 = some r) ∧ Aside0 (kq ≤ k) ∧ Drawn0 w w')
  case atStart => exact ⟨(0), (wrap64 (a2 - 1)), (by first | rfl | (simp; done) | (simp [*]; done)), (by first | rfl | (simp; done) | (simp [*]; done)), H', ⟨Nat.le_refl _⟩, by repeat (first | exact Drawn0.refl _ | apply Drawn0.step)⟩
  case round =>
    clear H'
    try clear p2
    obtain ⟨x7_1, x8_1, rfl, rfl, HA, HK1, ⟨m1, rfl⟩⟩ := hrel
    cases gk with
    | zero => exact absurd HA.out (by simp [portmanteauref01_Load.l0])
    | succ k1 =>
      have H := HA.out
      clear HA
      simp only [portmanteauref01_Load.l0] at H
      by_cases c4 : x8_1 ≥ 0
      · rw [if_pos c4] at H
        have c4b0 : decide (0 ≤ x8_1) = true := decide_eq_true c4
        clear c4
        obtain ⟨ji5, hji5⟩ : ∃ j_ : Int, (wrap64 (a1 + x8_1)) = j_ := ⟨_, rfl⟩
        replace H : (if 0 ≤ (ji5) then (if (ji5) < (l0.length : Int) then (portmanteauref01_Load.l0 k1 l0 a1 (IntKind.u64.wrap ((IntKind.u64.wrap (x7_1 * 256)) + (IntKind.u64.wrap (rd l0 (ji5))))) (wrap64 (x8_1 - 1))) else (none)) else (none)) = some r := by first | (rw [hji5] at H; exact H) | (simp only [hji5] at H ⊢; exact H)
        have hji5w : (IntKind.i64.wrap (a1 + x8_1)) = ji5 := (i64_w _).trans hji5
        by_cases c6 : 0 ≤ (ji5)
        · rw [if_pos c6] at H
          have c6b0 : decide (0 ≤ (ji5)) = true := decide_eq_true c6
          clear c6
          by_cases c7 : (ji5) < (l0.length : Int)
          · rw [if_pos c7] at H
            have c7b0 : decide ((ji5) < (l0.length : Int)) = true := decide_eq_true c7
            clear c7
            have H' := Aside0.mk H
            clear H
            have p74001 : 0 ≤ ((ji5) : Int) := of_decide_eq_true (by first | (with_reducible assumption) | assumption)
            have q74001 : (ji5) < (l0.length : Int) := of_decide_eq_true (by first | (with_reducible assumption) | assumption)
            obtain ⟨ad74001, e74001, hx74001_0⟩ := Kd.at_int HR0.out (ji5) p74001 q74001
            cases e74001
            replace p74001 := eq_true p74001
            replace q74001 := eq_true q74001
            go_wp2
            go_roundg k1
            case measure => have := HK1.out; omega
            case rel => exact ⟨(IntKind.u64.wrap ((IntKind.u64.wrap (x7_1 * 256)) + (IntKind.u64.wrap (rd l0 (ji5))))), (wrap64 (x8_1 - 1)), (by first | rfl | (simp; done) | (simp only [← hji5] <;> (first | rfl | simp)) | (simp [*]; done)), (by first | rfl | (simp; done) | (simp [*]; done)), H', ⟨by have := HK1.out; omega⟩, by repeat (first | exact Drawn0.refl _ | apply Drawn0.step)⟩
          · rw [if_neg c7] at H
            exact absurd H (by simp)
        · rw [if_neg c6] at H
          exact absurd H (by simp)
      · rw [if_neg c4] at H
        have c4b0 : decide (0 ≤ x8_1) = false := decide_eq_false c4
        clear c4
        obtain rfl := Option.some.inj H
        go_wp2
        go_ret
        exact ⟨by first | rfl | (simp; done) | (simp [*]; done), by repeat (first | exact Drawn0.refl _ | apply Drawn0.step)⟩

end Go.Proofs.Ytdlfflgcmgkmeaa.P

-- Written by a program of this session's own (wip/tools), over the translation. Not trusted: Lean checks it.
namespace Go.Proofs.Ytdlfflgcmgkmeaa.P
open Go.RowKit Go.Proofs.YtdlfflgcmgkmeaaW.PrintWords Go.Proofs.YtdlfflgcmgkmeaaW.PrintLast Go.Proofs.YtdlfflgcmgkmeaaW.PrintMore
attribute [local go_sem] max2_int min2_int max_two min_two max_three min_three max_four min_four   -- for this text's walks alone
set_option linter.unusedVariables false
set_option linter.unusedSimpArgs false

/-! ### portmanteauref18_Parts: function 40 -/
def portmanteauref18_Parts.f (a0 : Int) : Option (Int × Bool × Int) := if a0 ≥ 2147483648 then (if (wrap64 (a0 - 2147483648)) < 1 then (some (0, false, 1)) else (if (wrap64 (a0 - 2147483648)) > 1048576 then (some (0, false, 1)) else (some (wrap64 (a0 - 2147483648), false, 0)))) else (if a0 < 1 then (some (0, false, 1)) else (if a0 > 1048576 then (some (0, false, 1)) else (some (a0, true, 0))))
set_option maxHeartbeats 8000000 in
set_option maxRecDepth 100000 in
theorem portmanteauref18_Parts.calls (a0 : Int) (r1 : Int) (r2 : Bool) (r3 : Int) (w : World) (h : portmanteauref18_Parts.f a0 = some (r1, r2, r3)) :
    Calls Try.prog 40 #[.int .i64 a0] w fun e w' => e = .returned (.tuple #[.int .i64 r1, .bool r2, .int .i64 r3]) ∧ Drawn0 w w' := by
  have H : (if a0 ≥ 2147483648 then (if (wrap64 (a0 - 2147483648)) < 1 then (some (0, false, 1)) else (if (wrap64 (a0 - 2147483648)) > 1048576 then (some (0, false, 1)) else (some (wrap64 (a0 - 2147483648), false, 0)))) else (if a0 < 1 then (some (0, false, 1)) else (if a0 > 1048576 then (some (0, false, 1)) else (some (a0, true, 0))))) = some (r1, r2, r3) := h
  clear h
  by_cases c2 : a0 ≥ 2147483648
  · rw [if_pos c2] at H
    have c2b0 : decide (2147483648 ≤ a0) = true := decide_eq_true c2
    clear c2
    by_cases c3 : (wrap64 (a0 - 2147483648)) < 1
    · rw [if_pos c3] at H
      have c3b0 : decide ((wrap64 (a0 - 2147483648)) < 1) = true := decide_eq_true c3
      clear c3
      simp only [Option.some.injEq, Prod.mk.injEq] at H
      obtain ⟨rfl, rfl, rfl⟩ := H
      go_enter Try.func40, Try.ntmps40
      go_wp2
      go_ret3
      exact ⟨by first | rfl | (simp; done) | (simp [*]; done), by repeat (first | exact Drawn0.refl _ | apply Drawn0.step)⟩
    · rw [if_neg c3] at H
      have c3b0 : decide ((wrap64 (a0 - 2147483648)) < 1) = false := decide_eq_false c3
      clear c3
      by_cases c4 : (wrap64 (a0 - 2147483648)) > 1048576
      · rw [if_pos c4] at H
        have c4b0 : decide (1048576 < (wrap64 (a0 - 2147483648))) = true := decide_eq_true c4
        clear c4
        simp only [Option.some.injEq, Prod.mk.injEq] at H
        obtain ⟨rfl, rfl, rfl⟩ := H
        go_enter Try.func40, Try.ntmps40
        go_wp2
        go_ret3
        exact ⟨by first | rfl | (simp; done) | (simp [*]; done), by repeat (first | exact Drawn0.refl _ | apply Drawn0.step)⟩
      · rw [if_neg c4] at H
        have c4b0 : decide (1048576 < (wrap64 (a0 - 2147483648))) = false := decide_eq_false c4
        clear c4
        simp only [Option.some.injEq, Prod.mk.injEq] at H
        obtain ⟨rfl, rfl, rfl⟩ := H
        go_enter Try.func40, Try.ntmps40
        go_wp2
        go_ret3
        exact ⟨by first | rfl | (simp; done) | (simp [*]; done), by repeat (first | exact Drawn0.refl _ | apply Drawn0.step)⟩
  · rw [if_neg c2] at H
    have c2b0 : decide (2147483648 ≤ a0) = false := decide_eq_false c2
    clear c2
    by_cases c5 : a0 < 1
    · rw [if_pos c5] at H
      have c5b0 : decide (a0 < 1) = true := decide_eq_true c5
      clear c5
      simp only [Option.some.injEq, Prod.mk.injEq] at H
      obtain ⟨rfl, rfl, rfl⟩ := H
      go_enter Try.func40, Try.ntmps40
      go_wp2
      go_ret3
      exact ⟨by first | rfl | (simp; done) | (simp [*]; done), by repeat (first | exact Drawn0.refl _ | apply Drawn0.step)⟩
    · rw [if_neg c5] at H
      have c5b0 : decide (a0 < 1) = false := decide_eq_false c5
      clear c5
      by_cases c6 : a0 > 1048576
      · rw [if_pos c6] at H
        have c6b0 : decide (1048576 < a0) = true := decide_eq_true c6
        clear c6
        simp only [Option.some.injEq, Prod.mk.injEq] at H
        obtain ⟨rfl, rfl, rfl⟩ := H
        go_enter Try.func40, Try.ntmps40
        go_wp2
        go_ret3
        exact ⟨by first | rfl | (simp; done) | (simp [*]; done), by repeat (first | exact Drawn0.refl _ | apply Drawn0.step)⟩
      · rw [if_neg c6] at H
        have c6b0 : decide (1048576 < a0) = false := decide_eq_false c6
        clear c6
        simp only [Option.some.injEq, Prod.mk.injEq] at H
        obtain ⟨rfl, rfl, rfl⟩ := H
        go_enter Try.func40, Try.ntmps40
        go_wp2
        go_ret3
        exact ⟨by first | rfl | (simp; done) | (simp [*]; done), by repeat (first | exact Drawn0.refl _ | apply Drawn0.step)⟩

end Go.Proofs.Ytdlfflgcmgkmeaa.P

-- Written by a program of this session's own (wip/tools), over the translation. Not trusted: Lean checks it.
namespace Go.Proofs.Ytdlfflgcmgkmeaa.P
open Go.RowKit Go.Proofs.YtdlfflgcmgkmeaaW.PrintWords Go.Proofs.YtdlfflgcmgkmeaaW.PrintLast Go.Proofs.YtdlfflgcmgkmeaaW.PrintMore
attribute [local go_sem] max2_int min2_int max_two min_two max_three min_three max_four min_four   -- for this text's walks alone
set_option linter.unusedVariables false
set_option linter.unusedSimpArgs false

/-! ### portmanteauref18_Load: function 47 -/
mutual
def portmanteauref18_Load.j0 : Nat → List Int → Int → Int → Int → Bool → Option (List Int × Int)
  | 0, _, _, _, _, _ => none
  | k + 1, x0, x1, x2, x3, x20 => if x20 = true then (some (([] : List Int), 1)) else (if x2 = 0 then (if 0 ≤ x3 then (if (x3 : Int).toNat ≤ 281474976710656 then (some ((List.replicate (x3 : Int).toNat 0), 0)) else (none)) else (none)) else ((portmanteauref18_Parts.f x2).bind fun bt48004 => (if bt48004.2.2 = 0 then (if bt48004.2.1 = true then (portmanteauref18_Load.j1 k x0 x1 x3 bt48004.1 bt48004.2.1 false) else (portmanteauref18_Load.j1 k x0 x1 x3 bt48004.1 bt48004.2.1 (bt48004.1 != x3))) else (portmanteauref18_Load.j1 k x0 x1 x3 bt48004.1 bt48004.2.1 true))))
def portmanteauref18_Load.j1 : Nat → List Int → Int → Int → Int → Bool → Bool → Option (List Int × Int)
  | 0, _, _, _, _, _, _ => none
  | k + 1, x0, x1, x3, x10, x11, x41 => if x41 = true then (some (([] : List Int), 1)) else (if x1 < 0 then (portmanteauref18_Load.j2 k x0 x1 x3 x10 x11 true) else (if x1 > (x0.length : Int) then (portmanteauref18_Load.j2 k x0 x1 x3 x10 x11 true) else (portmanteauref18_Load.j2 k x0 x1 x3 x10 x11 (decide ((wrap64 (x10 + 4)) > (wrap64 ((x0.length : Int) - x1)))))))
def portmanteauref18_Load.j2 : Nat → List Int → Int → Int → Int → Bool → Bool → Option (List Int × Int)
  | 0, _, _, _, _, _, _ => none
  | k + 1, x0, x1, x3, x10, x11, x58 => if x58 = true then (some (([] : List Int), 9)) else (if 0 ≤ x1 then (if x1 ≤ (wrap64 (x1 + x10)) then (if (wrap64 (x1 + x10)) ≤ (x0.length : Int) then ((some ((x0.take ((wrap64 (x1 + x10)) : Int).toNat).drop (x1 : Int).toNat : List Int)).bind fun y48007 => ((portmanteauref01_Load.f k x0 (wrap64 (x1 + x10)) 4).bind fun t48012 => ((portmanteauref02_Crc.f k 0 y48007).bind fun t48013 => (if t48012 = (IntKind.u64.wrap (t48013)) then ((portmanteauref06_Unpack.f k y48007 x11 x3).bind fun bt48014 => (if bt48014.2 = 0 then (if (bt48014.1.length : Int) = x3 then (some (bt48014.1, 0)) else (some (([] : List Int), 6))) else (some (([] : List Int), 6)))) else (some (([] : List Int), 140)))))) else (none)) else (none)) else (none))
end
def portmanteauref18_Load.f (k : Nat) (l0 : List Int) (a1 : Int) (a2 : Int) (a3 : Int) : Option (List Int × Int) := if a3 < 1 then (portmanteauref18_Load.j0 k l0 a1 a2 a3 true) else (portmanteauref18_Load.j0 k l0 a1 a2 a3 (decide (a3 > 1048576)))
theorem portmanteauref18_Load.mono_l : ∀ k, (∀ y0 y1 y2 y3 y4, LeO (portmanteauref18_Load.j0 k y0 y1 y2 y3 y4) (portmanteauref18_Load.j0 (k + 1) y0 y1 y2 y3 y4)) ∧ (∀ y0 y1 y2 y3 y4 y5, LeO (portmanteauref18_Load.j1 k y0 y1 y2 y3 y4 y5) (portmanteauref18_Load.j1 (k + 1) y0 y1 y2 y3 y4 y5)) ∧ (∀ y0 y1 y2 y3 y4 y5, LeO (portmanteauref18_Load.j2 k y0 y1 y2 y3 y4 y5) (portmanteauref18_Load.j2 (k + 1) y0 y1 y2 y3 y4 y5))
  | 0 => ⟨fun _ _ _ _ _ r h => by simp [portmanteauref18_Load.j0] at h, fun _ _ _ _ _ _ r h => by simp [portmanteauref18_Load.j1] at h, fun _ _ _ _ _ _ r h => by simp [portmanteauref18_Load.j2] at h⟩
  | k + 1 => by
    obtain ⟨ih0, ih1, ih2⟩ := portmanteauref18_Load.mono_l k
    refine ⟨?_, ?_, ?_⟩
    · intro y0 y1 y2 y3 y4
      unfold portmanteauref18_Load.j0
      repeat' first
      | (with_reducible exact ih0 _ _ _ _ _)
      | (with_reducible exact ih1 _ _ _ _ _ _)
      | (with_reducible exact ih2 _ _ _ _ _ _)
      | (with_reducible exact portmanteauref01_Load.mono _ _ _ _)
      | (with_reducible exact portmanteauref02_Crc.mono _ _ _)
      | (with_reducible exact portmanteauref06_Unpack.mono _ _ _ _)
      | (with_reducible exact LeO.refl _)
      | (with_reducible exact LeO.none _)
      | (with_reducible refine LeO.ite ?_ ?_)
      | (with_reducible refine LeO.bind ?_ (fun _ => ?_))
      | exact ih0 _ _ _ _ _
      | exact ih1 _ _ _ _ _ _
      | exact ih2 _ _ _ _ _ _
      | exact portmanteauref01_Load.mono _ _ _ _
      | exact portmanteauref02_Crc.mono _ _ _
      | exact portmanteauref06_Unpack.mono _ _ _ _
      | exact LeO.none _
      | refine LeO.ite ?_ ?_
      | refine LeO.bind ?_ (fun _ => ?_)
    · intro y0 y1 y2 y3 y4 y5
      unfold portmanteauref18_Load.j1
      repeat' first
      | (with_reducible exact ih0 _ _ _ _ _)
      | (with_reducible exact ih1 _ _ _ _ _ _)
      | (with_reducible exact ih2 _ _ _ _ _ _)
      | (with_reducible exact portmanteauref01_Load.mono _ _ _ _)
      | (with_reducible exact portmanteauref02_Crc.mono _ _ _)
      | (with_reducible exact portmanteauref06_Unpack.mono _ _ _ _)
      | (with_reducible exact LeO.refl _)
      | (with_reducible exact LeO.none _)
      | (with_reducible refine LeO.ite ?_ ?_)
      | (with_reducible refine LeO.bind ?_ (fun _ => ?_))
      | exact ih0 _ _ _ _ _
      | exact ih1 _ _ _ _ _ _
      | exact ih2 _ _ _ _ _ _
      | exact portmanteauref01_Load.mono _ _ _ _
      | exact portmanteauref02_Crc.mono _ _ _
      | exact portmanteauref06_Unpack.mono _ _ _ _
      | exact LeO.none _
      | refine LeO.ite ?_ ?_
      | refine LeO.bind ?_ (fun _ => ?_)
    · intro y0 y1 y2 y3 y4 y5
      unfold portmanteauref18_Load.j2
      repeat' first
      | (with_reducible exact ih0 _ _ _ _ _)
      | (with_reducible exact ih1 _ _ _ _ _ _)
      | (with_reducible exact ih2 _ _ _ _ _ _)
      | (with_reducible exact portmanteauref01_Load.mono _ _ _ _)
      | (with_reducible exact portmanteauref02_Crc.mono _ _ _)
      | (with_reducible exact portmanteauref06_Unpack.mono _ _ _ _)
      | (with_reducible exact LeO.refl _)
      | (with_reducible exact LeO.none _)
      | (with_reducible refine LeO.ite ?_ ?_)
      | (with_reducible refine LeO.bind ?_ (fun _ => ?_))
      | exact ih0 _ _ _ _ _
      | exact ih1 _ _ _ _ _ _
      | exact ih2 _ _ _ _ _ _
      | exact portmanteauref01_Load.mono _ _ _ _
      | exact portmanteauref02_Crc.mono _ _ _
      | exact portmanteauref06_Unpack.mono _ _ _ _
      | exact LeO.none _
      | refine LeO.ite ?_ ?_
      | refine LeO.bind ?_ (fun _ => ?_)
theorem portmanteauref18_Load.mono : ∀ a0 a1 a2 a3 k, LeO (portmanteauref18_Load.f k a0 a1 a2 a3) (portmanteauref18_Load.f (k + 1) a0 a1 a2 a3) := by
  intro a0 a1 a2 a3 k
  obtain ⟨ih0, ih1, ih2⟩ := portmanteauref18_Load.mono_l k
  unfold portmanteauref18_Load.f
  repeat' first
      | (with_reducible exact ih0 _ _ _ _ _)
      | (with_reducible exact ih1 _ _ _ _ _ _)
      | (with_reducible exact ih2 _ _ _ _ _ _)
      | (with_reducible exact portmanteauref01_Load.mono _ _ _ _)
      | (with_reducible exact portmanteauref02_Crc.mono _ _ _)
      | (with_reducible exact portmanteauref06_Unpack.mono _ _ _ _)
      | (with_reducible exact LeO.refl _)
      | (with_reducible exact LeO.none _)
      | (with_reducible refine LeO.ite ?_ ?_)
      | (with_reducible refine LeO.bind ?_ (fun _ => ?_))
      | exact ih0 _ _ _ _ _
      | exact ih1 _ _ _ _ _ _
      | exact ih2 _ _ _ _ _ _
      | exact portmanteauref01_Load.mono _ _ _ _
      | exact portmanteauref02_Crc.mono _ _ _
      | exact portmanteauref06_Unpack.mono _ _ _ _
      | exact LeO.none _
      | refine LeO.ite ?_ ?_
      | refine LeO.bind ?_ (fun _ => ?_)
set_option maxHeartbeats 8000000 in
set_option maxRecDepth 100000 in
theorem portmanteauref18_Load.calls (k : Nat) (P0_ : Nat → Prop) (A0 : Option Addr) (c0 : Nat) (l0 : List Int) (a1 : Int) (a2 : Int) (a3 : Int) (r1 : List Int) (r2 : Int) (w : World) (hs0 : Kd.V (Kd.int .u8) 5 w w.heap.size (fun k_ => P0_ k_) (.slice A0 l0.length c0) l0) (h : portmanteauref18_Load.f k l0 a1 a2 a3 = some (r1, r2)) :
    Calls Try.prog 47 #[.slice A0 l0.length c0, .int .i64 a1, .int .i64 a2, .int .i64 a3] w fun e w' => ∃ v0_ : Value, e = .returned (.tuple #[v0_, .int .i64 r2]) ∧ Kd.V (Kd.int .u8) 5 w' w.heap.size (fun k_ => (P0_ k_ ∨ w.heap.size ≤ k_)) v0_ r1 ∧ Below w.heap.size w w' := by
  have HO0 := Aside0.mk (show Kd.V (Kd.int .u8) 5 w w.heap.size (fun k_ => (P0_ k_ ∨ w.heap.size ≤ k_)) (.slice A0 l0.length c0) l0 from Kd.V_mono hs0 (fun k_ hk => .inl hk))
  have HB := Aside0.mk (Below.refl w.heap.size w)
  have H : (if a3 < 1 then (portmanteauref18_Load.j0 k l0 a1 a2 a3 true) else (portmanteauref18_Load.j0 k l0 a1 a2 a3 (decide (a3 > 1048576)))) = some (r1, r2) := h
  clear h
  have HC5 := Aside0.mk H
  clear H
  go_enter Try.func47, Try.ntmps47
  go_upto_region 1 with (fail)
  go_cut [20] (fun v20 wc => ∃ (kq : Nat) (x20_4 : Bool), v20 = .bool x20_4 ∧ Aside0 (portmanteauref18_Load.j0 kq l0 a1 a2 a3 x20_4 = some (r1, r2)) ∧ Aside0 (kq ≤ k) ∧ Aside0 (Kd.V (Kd.int .u8) 5 wc w.heap.size (fun k_ => (P0_ k_ ∨ w.heap.size ≤ k_)) (.slice A0 l0.length c0) l0) ∧ Aside0 (Below w.heap.size w wc))
  case first =>
    have H := HC5.out
    clear HC5
    by_cases c6 : a3 < 1
    · rw [if_pos c6] at H
      have c6b0 : decide (a3 < 1) = true := decide_eq_true c6
      clear c6
      (first | rw [c6b0] | (simp only [i64_w, i32_w]; rw [c6b0]) | skip)
      have H' := Aside0.mk H
      clear H
      go_wp2
      go_meet
      case rel => exact ⟨_, (true), (by first | rfl | (simp; done) | (simp [*]; done)), H', ⟨by first | omega | exact Nat.le_refl _⟩, ⟨by (with_reducible repeat (first | apply Kd.V_alloc | apply Kd.V_drewN | apply Kd.V_drew)); exact HO0.out⟩, ⟨by repeat (first | (with_reducible first | exact HB.out | apply below_alloc | apply pw_below_drewN | apply below_drew1) | exact HB.out)⟩⟩
    · rw [if_neg c6] at H
      have c6b0 : decide (a3 < 1) = false := decide_eq_false c6
      clear c6
      (first | rw [c6b0] | (simp only [i64_w, i32_w]; rw [c6b0]) | skip)
      have H' := Aside0.mk H
      clear H
      go_wp2
      go_meet
      case rel => exact ⟨_, (decide (a3 > 1048576)), (by first | rfl | (simp; done) | (simp [*]; done)), H', ⟨by first | omega | exact Nat.le_refl _⟩, ⟨by (with_reducible repeat (first | apply Kd.V_alloc | apply Kd.V_drewN | apply Kd.V_drew)); exact HO0.out⟩, ⟨by repeat (first | (with_reducible first | exact HB.out | apply below_alloc | apply pw_below_drewN | apply below_drew1) | exact HB.out)⟩⟩
  case rest =>
    clear HC5
    try clear p2
    try clear c4
    try clear c6
    try clear c6b0
    obtain ⟨kq, x20_4, rfl, HA, HJ4, HO_0, HB⟩ := hcut
    cases kq with
    | zero => exact absurd HA.out (by simp [portmanteauref18_Load.j0])
    | succ kj4 =>
      have H := HA.out
      clear HA
      simp only [portmanteauref18_Load.j0] at H
      by_cases c7 : x20_4 = true
      · subst c7
        have H1 : (some (([] : List Int), 1)) = some (r1, r2) := by rw [if_pos rfl] at H; exact H
        clear H
        have H := H1
        clear H1
        simp only [Option.some.injEq, Prod.mk.injEq] at H
        obtain ⟨rfl, rfl⟩ := H
        go_wp2
        go_ret2
        exact ⟨_, by first | rfl | (simp [errW_none, errW_some] <;> rfl) | (simp [*, errW_none, errW_some] <;> rfl), Kd.V_nil _ _ _ _ _, by repeat (first | (with_reducible first | exact HB.out | apply below_alloc | apply pw_below_drewN | apply below_drew1) | exact HB.out)⟩
      · replace c7 := Bool.eq_false_iff.mpr c7
        subst c7
        have H1 : (if a2 = 0 then (if 0 ≤ a3 then (if (a3 : Int).toNat ≤ 281474976710656 then (some ((List.replicate (a3 : Int).toNat 0), 0)) else (none)) else (none)) else ((portmanteauref18_Parts.f a2).bind fun bt48004 => (if bt48004.2.2 = 0 then (if bt48004.2.1 = true then (portmanteauref18_Load.j1 kj4 l0 a1 a3 bt48004.1 bt48004.2.1 false) else (portmanteauref18_Load.j1 kj4 l0 a1 a3 bt48004.1 bt48004.2.1 (bt48004.1 != a3))) else (portmanteauref18_Load.j1 kj4 l0 a1 a3 bt48004.1 bt48004.2.1 true)))) = some (r1, r2) := by rw [if_neg (show ¬ (false = true) by decide)] at H; exact H
        clear H
        have H := H1
        clear H1
        by_cases c8 : a2 = 0
        · rw [if_pos c8] at H
          have c8b0 : (a2 == 0) = true := beq_iff_eq.mpr c8
          have c8b1 : (a2 != 0) = false := bne_eq_false_iff_eq.mpr c8
          clear c8
          by_cases c9 : 0 ≤ a3
          · rw [if_pos c9] at H
            have c9b0 := eq_true c9
            have c9b1 : decide (0 ≤ a3) = true := decide_eq_true c9
            clear c9
            by_cases c10 : (a3 : Int).toNat ≤ 281474976710656
            · rw [if_pos c10] at H
              have c10b0 := eq_true c10
              have c10b1 : decide ((a3 : Int).toNat ≤ 281474976710656) = true := decide_eq_true c10
              clear c10
              obtain ⟨y48001, hy48001⟩ : ∃ y_ : List Int, y_ = (List.replicate (a3 : Int).toNat 0) := ⟨_, rfl⟩
              replace H : (some (y48001, 0)) = some (r1, r2) := by first | (rw [hy48001]; with_reducible exact H) | (have H2_ := (Option.bind_some _ _).symm.trans H; rw [hy48001]; with_reducible exact H2_) | (have H2_ := (Option.bind_some _ _).symm.trans H; with_reducible exact H2_) | with_reducible exact H | (rw [hy48001]; exact H) | exact H
              have Ny48001 := Aside0.mk hy48001
              clear hy48001
              simp only [Option.some.injEq, Prod.mk.injEq] at H
              obtain ⟨rfl, rfl⟩ := H
              go_wp2_with (first | ((with_reducible refine gate_dst (N := 24) rfl ?_); (try (refine gate_guard (by rfl) ?_; dsimp only)); refine Kd.R_make (Kd.int .u8) _ 5 rfl (N := 24) rfl 22 _ _ rfl a3 rfl rfl Try.underlying22 (.int .u8 0) 1 info5 rfl (by decide) (by omega) 0 (ok := fun _ => True) (okp := fun _ => True) rfl (fun _ hk => hk) trivial (of_decide_eq_true (by first | (with_reducible assumption) | assumption)) (Nat.le_trans (Nat.mul_le_mul_right _ (of_decide_eq_true (by first | (with_reducible assumption) | assumption) : a3.toNat ≤ 281474976710656)) (by omega)) (Below.refl _ _) (Nat.le_refl _) ?_; intro v48002 w11 ho12 hb hg_ hnew_; clear hg_ hnew_; (first | rw [← Ny48001.out] at ho12 | (simp only [Int.reduceToNat] at ho12; rw [← Ny48001.out] at ho12)); have n0_ := Aside0.mk (Kd.V_elder' (by (with_reducible repeat (first | apply Kd.V_alloc | apply Kd.V_drewN | apply Kd.V_drew)); exact HO_0.out) (Kd.R_base ho12) hb); have n1_ := Aside0.mk (Kd.R_lower (Kd.R_newM (M := fun k_ => (w.heap.size ≤ k_)) ho12 (below_size (by repeat (first | (with_reducible first | exact HB.out | apply below_alloc | apply pw_below_drewN | apply below_drew1) | exact HB.out))) (fun k_ h_ => h_)) (below_size (by repeat (first | (with_reducible first | exact HB.out | apply below_alloc | apply pw_below_drewN | apply below_drew1) | exact HB.out)))); have n2_ := Aside0.mk (below_step (by repeat (first | (with_reducible first | exact HB.out | apply below_alloc | apply pw_below_drewN | apply below_drew1) | exact HB.out)) hb); clear HO_0; clear HB; have HO_0 := n0_; have HO48003 := n1_; have HB := n2_; clear n0_ n1_ n2_; clear hb ho12))
              go_ret2
              exact ⟨_, by first | rfl | (simp [errW_none, errW_some] <;> rfl) | (simp [*, errW_none, errW_some] <;> rfl), Kd.V_mono (Kd.R_V (by (with_reducible repeat (first | apply Kd.R_alloc | apply Kd.R_drewN | apply Kd.R_drew)); exact Kd.R_mono HO48003.out (fun _ hk => hk.1))) (fun k_ hk => by first | exact ⟨(.inr (hk.1)), hk.2⟩ | exact (.inr (hk))), by repeat (first | (with_reducible first | exact HB.out | apply below_alloc | apply pw_below_drewN | apply below_drew1) | exact HB.out)⟩
            · rw [if_neg c10] at H
              exact absurd H (by simp)
          · rw [if_neg c9] at H
            exact absurd H (by simp)
        · rw [if_neg c8] at H
          have c8b0 : (a2 == 0) = false := beq_eq_false_iff_ne.mpr c8
          have c8b1 : (a2 != 0) = true := bne_iff_ne.mpr c8
          replace H := Option.bind_eq_some_iff.mp H
          obtain ⟨⟨t48004, t48005, t48006⟩, A130, H⟩ := H
          replace H : (if t48006 = 0 then (if t48005 = true then (portmanteauref18_Load.j1 kj4 l0 a1 a3 t48004 t48005 false) else (portmanteauref18_Load.j1 kj4 l0 a1 a3 t48004 t48005 (t48004 != a3))) else (portmanteauref18_Load.j1 kj4 l0 a1 a3 t48004 t48005 true)) = some (r1, r2) := H
          have A13 := Aside0.mk A130
          clear A130
          have HC14 := Aside0.mk H
          clear H
          go_upto_region 6 with (first | ((with_reducible refine gate_callee (f := 40) rfl ?_); refine goesL_ (some 27) rfl rfl Try.func40 (by kernel_rfl) rfl #[.int .i64 a2] rfl (by (try simp only [List.map_toArray, List.map_cons, List.map_nil]); first | done | rfl | (simp only [List.length_drop, List.length_take]; rfl)) ?_; (with_reducible refine (portmanteauref18_Parts.calls a2 t48004 t48005 t48006 _ A13.out).mono ?_); rintro e w' ⟨rfl, ⟨nd, rfl⟩⟩; refine ⟨_, rfl, ?_⟩))
          (try simp only [Act.put, List.setIfInBounds_toArray, List.set_cons_zero, List.set_cons_succ])
          go_cut [41] (fun v41 wc => ∃ (kq : Nat) (x41_13 : Bool), v41 = .bool x41_13 ∧ Aside0 (portmanteauref18_Load.j1 kq l0 a1 a3 t48004 t48005 x41_13 = some (r1, r2)) ∧ Aside0 (kq ≤ kj4) ∧ Aside0 (Kd.V (Kd.int .u8) 5 wc w.heap.size (fun k_ => (P0_ k_ ∨ w.heap.size ≤ k_)) (.slice A0 l0.length c0) l0) ∧ Aside0 (Below w.heap.size w wc))
          case first =>
            have H := HC14.out
            clear HC14
            by_cases c15 : t48006 = 0
            · rw [if_pos c15] at H
              have c15b0 : (t48006 == 0) = true := beq_iff_eq.mpr c15
              have c15b1 : (t48006 != 0) = false := bne_eq_false_iff_eq.mpr c15
              clear c15
              (first | rw [c15b0] | (simp only [i64_w, i32_w]; rw [c15b0]) | skip)
              by_cases c16 : t48005 = true
              · subst c16
                have H1 : (portmanteauref18_Load.j1 kj4 l0 a1 a3 t48004 true false) = some (r1, r2) := by rw [if_pos rfl] at H; exact H
                clear H
                have H := H1
                clear H1
                have H' := Aside0.mk H
                clear H
                go_wp2
                go_meet
                case rel => exact ⟨_, (false), (by first | rfl | (simp; done) | (simp [*]; done)), H', ⟨by have := HJ4.out; first | omega | exact Nat.le_refl _⟩, ⟨by (with_reducible repeat (first | apply Kd.V_alloc | apply Kd.V_drewN | apply Kd.V_drew)); exact HO_0.out⟩, ⟨by repeat (first | (with_reducible first | exact HB.out | apply below_alloc | apply pw_below_drewN | apply below_drew1) | exact HB.out)⟩⟩
              · replace c16 := Bool.eq_false_iff.mpr c16
                subst c16
                have H1 : (portmanteauref18_Load.j1 kj4 l0 a1 a3 t48004 false (t48004 != a3)) = some (r1, r2) := by rw [if_neg (show ¬ (false = true) by decide)] at H; exact H
                clear H
                have H := H1
                clear H1
                have H' := Aside0.mk H
                clear H
                go_wp2
                go_meet
                case rel => exact ⟨_, ((t48004 != a3)), (by first | rfl | (simp; done) | (simp [*]; done)), H', ⟨by have := HJ4.out; first | omega | exact Nat.le_refl _⟩, ⟨by (with_reducible repeat (first | apply Kd.V_alloc | apply Kd.V_drewN | apply Kd.V_drew)); exact HO_0.out⟩, ⟨by repeat (first | (with_reducible first | exact HB.out | apply below_alloc | apply pw_below_drewN | apply below_drew1) | exact HB.out)⟩⟩
            · rw [if_neg c15] at H
              have c15b0 : (t48006 == 0) = false := beq_eq_false_iff_ne.mpr c15
              have c15b1 : (t48006 != 0) = true := bne_iff_ne.mpr c15
              (first | rw [c15b0] | (simp only [i64_w, i32_w]; rw [c15b0]) | skip)
              have H' := Aside0.mk H
              clear H
              go_wp2
              go_meet
              case rel => exact ⟨_, (true), (by first | rfl | (simp; done) | (simp [*]; done)), H', ⟨by have := HJ4.out; first | omega | exact Nat.le_refl _⟩, ⟨by (with_reducible repeat (first | apply Kd.V_alloc | apply Kd.V_drewN | apply Kd.V_drew)); exact HO_0.out⟩, ⟨by repeat (first | (with_reducible first | exact HB.out | apply below_alloc | apply pw_below_drewN | apply below_drew1) | exact HB.out)⟩⟩
          case rest =>
            clear HC14
            try clear c1
            try clear p2
            try clear c4
            try clear c6
            try clear c6b0
            try clear c7
            try clear c8
            try clear c8b0
            try clear c8b1
            try clear c9
            try clear c9b0
            try clear c9b1
            try clear c10
            try clear c10b0
            try clear c10b1
            try clear c15
            try clear c15b0
            try clear c15b1
            try clear c16
            try clear p2
            obtain ⟨kq, x41_13, rfl, HA, HJ13, HO_0, HB⟩ := hcut
            cases kq with
            | zero => exact absurd HA.out (by simp [portmanteauref18_Load.j1])
            | succ kj13 =>
              have H := HA.out
              clear HA
              simp only [portmanteauref18_Load.j1] at H
              by_cases c17 : x41_13 = true
              · subst c17
                have H1 : (some (([] : List Int), 1)) = some (r1, r2) := by rw [if_pos rfl] at H; exact H
                clear H
                have H := H1
                clear H1
                simp only [Option.some.injEq, Prod.mk.injEq] at H
                obtain ⟨rfl, rfl⟩ := H
                go_wp2
                go_ret2
                exact ⟨_, by first | rfl | (simp [errW_none, errW_some] <;> rfl) | (simp [*, errW_none, errW_some] <;> rfl), Kd.V_nil _ _ _ _ _, by repeat (first | (with_reducible first | exact HB.out | apply below_alloc | apply pw_below_drewN | apply below_drew1) | exact HB.out)⟩
              · replace c17 := Bool.eq_false_iff.mpr c17
                subst c17
                have H1 : (if a1 < 0 then (portmanteauref18_Load.j2 kj13 l0 a1 a3 t48004 t48005 true) else (if a1 > (l0.length : Int) then (portmanteauref18_Load.j2 kj13 l0 a1 a3 t48004 t48005 true) else (portmanteauref18_Load.j2 kj13 l0 a1 a3 t48004 t48005 (decide ((wrap64 (t48004 + 4)) > (wrap64 ((l0.length : Int) - a1))))))) = some (r1, r2) := by rw [if_neg (show ¬ (false = true) by decide)] at H; exact H
                clear H
                have H := H1
                clear H1
                have HC18 := Aside0.mk H
                clear H
                go_upto_region 8 with (fail)
                go_cut [58] (fun v58 wc => ∃ (kq : Nat) (x58_17 : Bool), v58 = .bool x58_17 ∧ Aside0 (portmanteauref18_Load.j2 kq l0 a1 a3 t48004 t48005 x58_17 = some (r1, r2)) ∧ Aside0 (kq ≤ kj13) ∧ Aside0 (Kd.V (Kd.int .u8) 5 wc w.heap.size (fun k_ => (P0_ k_ ∨ w.heap.size ≤ k_)) (.slice A0 l0.length c0) l0) ∧ Aside0 (Below w.heap.size w wc))
                case first =>
                  have H := HC18.out
                  clear HC18
                  by_cases c19 : a1 < 0
                  · rw [if_pos c19] at H
                    have c19b0 : decide (a1 < 0) = true := decide_eq_true c19
                    clear c19
                    (first | rw [c19b0] | (simp only [i64_w, i32_w]; rw [c19b0]) | skip)
                    have H' := Aside0.mk H
                    clear H
                    go_wp2
                    go_meet
                    case rel => exact ⟨_, (true), (by first | rfl | (simp; done) | (simp [*]; done)), H', ⟨by have := HJ4.out; have := HJ13.out; first | omega | exact Nat.le_refl _⟩, ⟨by (with_reducible repeat (first | apply Kd.V_alloc | apply Kd.V_drewN | apply Kd.V_drew)); exact HO_0.out⟩, ⟨by repeat (first | (with_reducible first | exact HB.out | apply below_alloc | apply pw_below_drewN | apply below_drew1) | exact HB.out)⟩⟩
                  · rw [if_neg c19] at H
                    have c19b0 : decide (a1 < 0) = false := decide_eq_false c19
                    clear c19
                    (first | rw [c19b0] | (simp only [i64_w, i32_w]; rw [c19b0]) | skip)
                    by_cases c20 : a1 > (l0.length : Int)
                    · rw [if_pos c20] at H
                      have c20b0 : decide ((l0.length : Int) < a1) = true := decide_eq_true c20
                      clear c20
                      have H' := Aside0.mk H
                      clear H
                      go_wp2
                      go_meet
                      case rel => exact ⟨_, (true), (by first | rfl | (simp; done) | (simp [*]; done)), H', ⟨by have := HJ4.out; have := HJ13.out; first | omega | exact Nat.le_refl _⟩, ⟨by (with_reducible repeat (first | apply Kd.V_alloc | apply Kd.V_drewN | apply Kd.V_drew)); exact HO_0.out⟩, ⟨by repeat (first | (with_reducible first | exact HB.out | apply below_alloc | apply pw_below_drewN | apply below_drew1) | exact HB.out)⟩⟩
                    · rw [if_neg c20] at H
                      have c20b0 : decide ((l0.length : Int) < a1) = false := decide_eq_false c20
                      clear c20
                      have H' := Aside0.mk H
                      clear H
                      go_wp2
                      go_meet
                      case rel => exact ⟨_, (decide ((wrap64 (t48004 + 4)) > (wrap64 ((l0.length : Int) - a1)))), (by first | rfl | (simp; done) | (simp [*]; done)), H', ⟨by have := HJ4.out; have := HJ13.out; first | omega | exact Nat.le_refl _⟩, ⟨by (with_reducible repeat (first | apply Kd.V_alloc | apply Kd.V_drewN | apply Kd.V_drew)); exact HO_0.out⟩, ⟨by repeat (first | (with_reducible first | exact HB.out | apply below_alloc | apply pw_below_drewN | apply below_drew1) | exact HB.out)⟩⟩
                case rest =>
                  clear HC18
                  try clear c1
                  try clear c2
                  try clear p2
                  try clear c4
                  try clear c6
                  try clear c6b0
                  try clear p6
                  try clear c7
                  try clear c8
                  try clear c8b0
                  try clear c8b1
                  try clear c9
                  try clear c9b0
                  try clear c9b1
                  try clear c10
                  try clear c10b0
                  try clear c10b1
                  try clear c15
                  try clear c15b0
                  try clear c15b1
                  try clear c16
                  try clear c17
                  try clear c19
                  try clear c19b0
                  try clear c20
                  try clear c20b0
                  try clear p2
                  obtain ⟨kq, x58_17, rfl, HA, HJ17, HO_0, HB⟩ := hcut
                  cases kq with
                  | zero => exact absurd HA.out (by simp [portmanteauref18_Load.j2])
                  | succ kj17 =>
                    have H := HA.out
                    clear HA
                    simp only [portmanteauref18_Load.j2] at H
                    by_cases c21 : x58_17 = true
                    · subst c21
                      have H1 : (some (([] : List Int), 9)) = some (r1, r2) := by rw [if_pos rfl] at H; exact H
                      clear H
                      have H := H1
                      clear H1
                      simp only [Option.some.injEq, Prod.mk.injEq] at H
                      obtain ⟨rfl, rfl⟩ := H
                      go_wp2
                      go_ret2
                      exact ⟨_, by first | rfl | (simp [errW_none, errW_some] <;> rfl) | (simp [*, errW_none, errW_some] <;> rfl), Kd.V_nil _ _ _ _ _, by repeat (first | (with_reducible first | exact HB.out | apply below_alloc | apply pw_below_drewN | apply below_drew1) | exact HB.out)⟩
                    · replace c21 := Bool.eq_false_iff.mpr c21
                      subst c21
                      have H1 : (if 0 ≤ a1 then (if a1 ≤ (wrap64 (a1 + t48004)) then (if (wrap64 (a1 + t48004)) ≤ (l0.length : Int) then ((some ((l0.take ((wrap64 (a1 + t48004)) : Int).toNat).drop (a1 : Int).toNat : List Int)).bind fun y48007 => ((portmanteauref01_Load.f kj17 l0 (wrap64 (a1 + t48004)) 4).bind fun t48012 => ((portmanteauref02_Crc.f kj17 0 y48007).bind fun t48013 => (if t48012 = (IntKind.u64.wrap (t48013)) then ((portmanteauref06_Unpack.f kj17 y48007 t48005 a3).bind fun bt48014 => (if bt48014.2 = 0 then (if (bt48014.1.length : Int) = a3 then (some (bt48014.1, 0)) else (some (([] : List Int), 6))) else (some (([] : List Int), 6)))) else (some (([] : List Int), 140)))))) else (none)) else (none)) else (none)) = some (r1, r2) := by rw [if_neg (show ¬ (false = true) by decide)] at H; exact H
                      clear H
                      have H := H1
                      clear H1
                      by_cases c22 : 0 ≤ a1
                      · rw [if_pos c22] at H
                        have c22b0 := eq_true c22
                        have c22b1 : decide (0 ≤ a1) = true := decide_eq_true c22
                        clear c22
                        by_cases c23 : a1 ≤ (wrap64 (a1 + t48004))
                        · rw [if_pos c23] at H
                          have c23b0 := eq_true c23
                          have c23b1 : decide (a1 ≤ (wrap64 (a1 + t48004))) = true := decide_eq_true c23
                          by_cases c24 : (wrap64 (a1 + t48004)) ≤ (l0.length : Int)
                          · rw [if_pos c24] at H
                            have c24b0 := eq_true c24
                            have c24b1 : decide ((wrap64 (a1 + t48004)) ≤ (l0.length : Int)) = true := decide_eq_true c24
                            obtain ⟨y48007, hy48007⟩ : ∃ y_ : List Int, y_ = ((l0.take ((wrap64 (a1 + t48004)) : Int).toNat).drop (a1 : Int).toNat) := ⟨_, rfl⟩
                            replace H : ((portmanteauref01_Load.f kj17 l0 (wrap64 (a1 + t48004)) 4).bind fun t48012 => ((portmanteauref02_Crc.f kj17 0 y48007).bind fun t48013 => (if t48012 = (IntKind.u64.wrap (t48013)) then ((portmanteauref06_Unpack.f kj17 y48007 t48005 a3).bind fun bt48014 => (if bt48014.2 = 0 then (if (bt48014.1.length : Int) = a3 then (some (bt48014.1, 0)) else (some (([] : List Int), 6))) else (some (([] : List Int), 6)))) else (some (([] : List Int), 140))))) = some (r1, r2) := by first | (rw [hy48007]; with_reducible exact H) | (have H2_ := (Option.bind_some _ _).symm.trans H; rw [hy48007]; with_reducible exact H2_) | (have H2_ := (Option.bind_some _ _).symm.trans H; with_reducible exact H2_) | with_reducible exact H | (rw [hy48007]; exact H) | exact H
                            have Ny48007 := Aside0.mk hy48007
                            clear hy48007
                            replace H := Option.bind_eq_some_iff.mp H
                            obtain ⟨t48012, A250, H⟩ := H
                            replace H : ((portmanteauref02_Crc.f kj17 0 y48007).bind fun t48013 => (if t48012 = (IntKind.u64.wrap (t48013)) then ((portmanteauref06_Unpack.f kj17 y48007 t48005 a3).bind fun bt48014 => (if bt48014.2 = 0 then (if (bt48014.1.length : Int) = a3 then (some (bt48014.1, 0)) else (some (([] : List Int), 6))) else (some (([] : List Int), 6)))) else (some (([] : List Int), 140)))) = some (r1, r2) := H
                            have A25 := Aside0.mk A250
                            clear A250
                            replace H := Option.bind_eq_some_iff.mp H
                            obtain ⟨t48013, A260, H⟩ := H
                            replace H : (if t48012 = (IntKind.u64.wrap (t48013)) then ((portmanteauref06_Unpack.f kj17 y48007 t48005 a3).bind fun bt48014 => (if bt48014.2 = 0 then (if (bt48014.1.length : Int) = a3 then (some (bt48014.1, 0)) else (some (([] : List Int), 6))) else (some (([] : List Int), 6)))) else (some (([] : List Int), 140))) = some (r1, r2) := H
                            have A26 := Aside0.mk A260
                            clear A260
                            by_cases c27 : t48012 = (IntKind.u64.wrap (t48013))
                            · rw [if_pos c27] at H
                              have c27b0 : (t48012 == (IntKind.u64.wrap (t48013))) = true := beq_iff_eq.mpr c27
                              have c27b1 : (t48012 != (IntKind.u64.wrap (t48013))) = false := bne_eq_false_iff_eq.mpr c27
                              clear c27
                              replace H := Option.bind_eq_some_iff.mp H
                              obtain ⟨⟨t48014, t48017⟩, A280, H⟩ := H
                              replace H : (if t48017 = 0 then (if (t48014.length : Int) = a3 then (some (t48014, 0)) else (some (([] : List Int), 6))) else (some (([] : List Int), 6))) = some (r1, r2) := H
                              have A28 := Aside0.mk A280
                              clear A280
                              by_cases c29 : t48017 = 0
                              · rw [if_pos c29] at H
                                have c29b0 : (t48017 == 0) = true := beq_iff_eq.mpr c29
                                have c29b1 : (t48017 != 0) = false := bne_eq_false_iff_eq.mpr c29
                                clear c29
                                by_cases c30 : (t48014.length : Int) = a3
                                · rw [if_pos c30] at H
                                  have c30b0 : ((t48014.length : Int) == a3) = true := beq_iff_eq.mpr c30
                                  have c30b1 : ((t48014.length : Int) != a3) = false := bne_eq_false_iff_eq.mpr c30
                                  clear c30
                                  simp only [Option.some.injEq, Prod.mk.injEq] at H
                                  obtain ⟨rfl, rfl⟩ := H
                                  have q31 : ((wrap64 (a1 + t48004)) : Int) ≤ ((l0.length : Int) : Int) := of_decide_eq_true (by first | (with_reducible assumption) | assumption)
                                  obtain ⟨i031, hi031, _, hsz31, _⟩ := info_parts info5
                                  have hroom31 : l0.length ≤ c0 := (Kd.V_reads' HO_0.out).2.1
                                  have hC31 : Kd.F (Kd.int .u8) _ _ A0 l0.length l0 := (Kd.V_at (base := w.heap.size) HO_0.out).2.2
                                  have ql31 : (a1 : Int) ≤ ((wrap64 (a1 + t48004)) : Int) := of_decide_eq_true (by first | (with_reducible assumption) | assumption)
                                  have q031 : (0 : Int) ≤ (a1 : Int) := of_decide_eq_true (by first | (with_reducible assumption) | assumption)
                                  have hcut31 := cut_mid (P := Try.prog) 22 5 .i64 .i64 Try.underlying22 hi031 1 hsz31 A0 l0.length c0 a1 (wrap64 (a1 + t48004)) q031 ql31 q31 hroom31
                                  have hr31 := Kd.F_mid (lo := (a1 : Int).toNat) (hi := ((wrap64 (a1 + t48004)) : Int).toNat) (c := c0) hC31 (by omega) (by omega) hroom31
                                  obtain ⟨A31, hA31⟩ : ∃ A1, A1 = (if c0 = (a1 : Int).toNat then A0 else (A0 : Option Addr).map (·.add ((a1 : Int).toNat * 1))) := ⟨_, rfl⟩
                                  obtain ⟨c31, hc31⟩ : ∃ c1, c1 = c0 - (a1 : Int).toNat := ⟨_, rfl⟩
                                  have hy31 : y48007.length = ((wrap64 (a1 + t48004)) : Int).toNat - (a1 : Int).toNat := (by rw [Ny48007.out, List.length_drop, List.length_take] <;> omega)
                                  rw [show ((l0).take ((wrap64 (a1 + t48004)) : Int).toNat).drop (a1 : Int).toNat = y48007 from Ny48007.out.symm] at hr31
                                  replace hr31 : Kd.F (Kd.int .u8) _ _ A31 y48007.length y48007 := (by rw [hA31]; exact hr31)
                                  rw [← hy31, ← hA31, ← hc31] at hcut31
                                  have HO48011 := Aside0.mk (show Kd.V (Kd.int .u8) 5 _ w.heap.size _ (.slice A31 y48007.length c31) y48007 from Kd.V_mk (by rw [hy31, hc31]; exact Nat.sub_le_sub_right (Nat.le_trans (by omega) hroom31) _) hr31)
                                  have HC48011 := Aside0.mk (show y48007.length ≤ c31 from by rw [hy31, hc31]; exact Nat.sub_le_sub_right (Nat.le_trans (by omega) hroom31) _)
                                  clear hr31 hC31 hroom31 hi031 hsz31 hc31
                                  have KY31 := Aside0.mk hy31
                                  have KA31 := Aside0.mk hA31
                                  clear hy31 hA31
                                  replace q31 := eq_true q31
                                  go_wp2_with (first | ((with_reducible refine gate_callee (f := 73) rfl ?_); refine goesL_ (some 69) rfl rfl Try.func73 (by kernel_rfl) rfl #[.slice A0 l0.length c0, .int .i64 (wrap64 (a1 + t48004)), .int .i64 4] rfl (by (try simp only [List.map_toArray, List.map_cons, List.map_nil]); first | done | rfl | (simp only [List.length_drop, List.length_take]; rfl)) ?_; (with_reducible refine (portmanteauref01_Load.calls kj17 _ _ l0 (wrap64 (a1 + t48004)) 4 t48012 _ ?side1 ?side2 A25.out).mono ?_); (case side1 => repeat (first | exact (Kd.V_reads' HO_0.out).2.2 | (with_reducible refine Kd.C_alloc ?_ _) | (with_reducible refine Kd.C_drewN ?_ _) | (with_reducible refine Kd.C_drew ?_))); (case side2 => exact (Kd.V_reads' HO_0.out).2.1); rintro e w' ⟨rfl, ⟨nd, rfl⟩⟩; refine ⟨_, rfl, ?_⟩) | ((with_reducible refine gate_callee (f := 76) rfl ?_); refine goesL_ (some 71) rfl rfl Try.func76 (by kernel_rfl) rfl #[.int .u32 0, .slice A31 y48007.length c31] rfl (by (try simp only [List.map_toArray, List.map_cons, List.map_nil]); first | done | rfl | (simp only [List.length_drop, List.length_take]; rfl)) ?_; (with_reducible refine (portmanteauref02_Crc.calls kj17 0 _ _ y48007 t48013 _ ?side1 ?side2 A26.out).mono ?_); (case side1 => repeat (first | exact (Kd.V_reads' HO48011.out).2.2 | (with_reducible refine Kd.C_alloc ?_ _) | (with_reducible refine Kd.C_drewN ?_ _) | (with_reducible refine Kd.C_drew ?_))); (case side2 => exact (Kd.V_reads' HO48011.out).2.1); rintro e w' ⟨rfl, ⟨nd, rfl⟩⟩; refine ⟨_, rfl, ?_⟩) | ((with_reducible refine gate_callee (f := 21) rfl ?_); refine goesL_ (some 78) rfl rfl Try.func21 (by kernel_rfl) rfl #[.slice A31 y48007.length c31, .bool t48005, .int .i64 a3] rfl (by (try simp only [List.map_toArray, List.map_cons, List.map_nil]); first | done | rfl | (simp only [List.length_drop, List.length_take]; rfl)) ?_; (with_reducible refine (portmanteauref06_Unpack.calls kj17 (fun k_ => (P0_ k_ ∨ w.heap.size ≤ k_)) _ _ y48007 t48005 a3 t48014 t48017 _ ?side1 A28.out).mono ?_); (case side1 => exact HO48011.out); rintro e w32 ⟨v48015, rfl, ho0, hb⟩; refine ⟨_, rfl, ?_⟩; have n0_ := Aside0.mk (Kd.V_below (by (with_reducible repeat (first | apply Kd.V_alloc | apply Kd.V_drewN | apply Kd.V_drew)); exact HO_0.out) hb); have n1_ := Aside0.mk (Kd.V_below (by (with_reducible repeat (first | apply Kd.V_alloc | apply Kd.V_drewN | apply Kd.V_drew)); exact HO48011.out) hb); have n2_ := Aside0.mk (Kd.V_lower (Kd.V_mono (ok' := fun k_ => (P0_ k_ ∨ w.heap.size ≤ k_)) ho0 (fun k_ hk_ => Or.elim hk_ (fun hs_ => hs_) (fun hn_ => (.inr (Nat.le_trans (below_size (by repeat (first | (with_reducible first | exact HB.out | apply below_alloc | apply pw_below_drewN | apply below_drew1) | exact HB.out))) hn_))))) (below_size (by repeat (first | (with_reducible first | exact HB.out | apply below_alloc | apply pw_below_drewN | apply below_drew1) | exact HB.out)))); have n3_ := Aside0.mk (below_step (by repeat (first | (with_reducible first | exact HB.out | apply below_alloc | apply pw_below_drewN | apply below_drew1) | exact HB.out)) hb); clear HO_0; clear HO48011; clear HB; have HO_0 := n0_; have HO48011 := n1_; have HO48016 := n2_; have HB := n3_; clear n0_ n1_ n2_ n3_; (try clear hb); (try clear hb2); (try clear hk); (try clear hi); (try clear ho0); obtain ⟨Ao33, co33, eo33⟩ := Kd.V_slice HO48016.out; subst eo33))
                                  go_ret2
                                  exact ⟨_, by first | rfl | (simp [errW_none, errW_some] <;> rfl) | (simp [*, errW_none, errW_some] <;> rfl), by (with_reducible repeat (first | apply Kd.V_alloc | apply Kd.V_drewN | apply Kd.V_drew)); exact HO48016.out, by repeat (first | (with_reducible first | exact HB.out | apply below_alloc | apply pw_below_drewN | apply below_drew1) | exact HB.out)⟩
                                · rw [if_neg c30] at H
                                  have c30b0 : ((t48014.length : Int) == a3) = false := beq_eq_false_iff_ne.mpr c30
                                  have c30b1 : ((t48014.length : Int) != a3) = true := bne_iff_ne.mpr c30
                                  simp only [Option.some.injEq, Prod.mk.injEq] at H
                                  obtain ⟨rfl, rfl⟩ := H
                                  have q34 : ((wrap64 (a1 + t48004)) : Int) ≤ ((l0.length : Int) : Int) := of_decide_eq_true (by first | (with_reducible assumption) | assumption)
                                  obtain ⟨i034, hi034, _, hsz34, _⟩ := info_parts info5
                                  have hroom34 : l0.length ≤ c0 := (Kd.V_reads' HO_0.out).2.1
                                  have hC34 : Kd.F (Kd.int .u8) _ _ A0 l0.length l0 := (Kd.V_at (base := w.heap.size) HO_0.out).2.2
                                  have ql34 : (a1 : Int) ≤ ((wrap64 (a1 + t48004)) : Int) := of_decide_eq_true (by first | (with_reducible assumption) | assumption)
                                  have q034 : (0 : Int) ≤ (a1 : Int) := of_decide_eq_true (by first | (with_reducible assumption) | assumption)
                                  have hcut34 := cut_mid (P := Try.prog) 22 5 .i64 .i64 Try.underlying22 hi034 1 hsz34 A0 l0.length c0 a1 (wrap64 (a1 + t48004)) q034 ql34 q34 hroom34
                                  have hr34 := Kd.F_mid (lo := (a1 : Int).toNat) (hi := ((wrap64 (a1 + t48004)) : Int).toNat) (c := c0) hC34 (by omega) (by omega) hroom34
                                  obtain ⟨A34, hA34⟩ : ∃ A1, A1 = (if c0 = (a1 : Int).toNat then A0 else (A0 : Option Addr).map (·.add ((a1 : Int).toNat * 1))) := ⟨_, rfl⟩
                                  obtain ⟨c34, hc34⟩ : ∃ c1, c1 = c0 - (a1 : Int).toNat := ⟨_, rfl⟩
                                  have hy34 : y48007.length = ((wrap64 (a1 + t48004)) : Int).toNat - (a1 : Int).toNat := (by rw [Ny48007.out, List.length_drop, List.length_take] <;> omega)
                                  rw [show ((l0).take ((wrap64 (a1 + t48004)) : Int).toNat).drop (a1 : Int).toNat = y48007 from Ny48007.out.symm] at hr34
                                  replace hr34 : Kd.F (Kd.int .u8) _ _ A34 y48007.length y48007 := (by rw [hA34]; exact hr34)
                                  rw [← hy34, ← hA34, ← hc34] at hcut34
                                  have HO48011 := Aside0.mk (show Kd.V (Kd.int .u8) 5 _ w.heap.size _ (.slice A34 y48007.length c34) y48007 from Kd.V_mk (by rw [hy34, hc34]; exact Nat.sub_le_sub_right (Nat.le_trans (by omega) hroom34) _) hr34)
                                  have HC48011 := Aside0.mk (show y48007.length ≤ c34 from by rw [hy34, hc34]; exact Nat.sub_le_sub_right (Nat.le_trans (by omega) hroom34) _)
                                  clear hr34 hC34 hroom34 hi034 hsz34 hc34
                                  have KY34 := Aside0.mk hy34
                                  have KA34 := Aside0.mk hA34
                                  clear hy34 hA34
                                  replace q34 := eq_true q34
                                  go_wp2_with (first | ((with_reducible refine gate_callee (f := 73) rfl ?_); refine goesL_ (some 69) rfl rfl Try.func73 (by kernel_rfl) rfl #[.slice A0 l0.length c0, .int .i64 (wrap64 (a1 + t48004)), .int .i64 4] rfl (by (try simp only [List.map_toArray, List.map_cons, List.map_nil]); first | done | rfl | (simp only [List.length_drop, List.length_take]; rfl)) ?_; (with_reducible refine (portmanteauref01_Load.calls kj17 _ _ l0 (wrap64 (a1 + t48004)) 4 t48012 _ ?side1 ?side2 A25.out).mono ?_); (case side1 => repeat (first | exact (Kd.V_reads' HO_0.out).2.2 | (with_reducible refine Kd.C_alloc ?_ _) | (with_reducible refine Kd.C_drewN ?_ _) | (with_reducible refine Kd.C_drew ?_))); (case side2 => exact (Kd.V_reads' HO_0.out).2.1); rintro e w' ⟨rfl, ⟨nd, rfl⟩⟩; refine ⟨_, rfl, ?_⟩) | ((with_reducible refine gate_callee (f := 76) rfl ?_); refine goesL_ (some 71) rfl rfl Try.func76 (by kernel_rfl) rfl #[.int .u32 0, .slice A34 y48007.length c34] rfl (by (try simp only [List.map_toArray, List.map_cons, List.map_nil]); first | done | rfl | (simp only [List.length_drop, List.length_take]; rfl)) ?_; (with_reducible refine (portmanteauref02_Crc.calls kj17 0 _ _ y48007 t48013 _ ?side1 ?side2 A26.out).mono ?_); (case side1 => repeat (first | exact (Kd.V_reads' HO48011.out).2.2 | (with_reducible refine Kd.C_alloc ?_ _) | (with_reducible refine Kd.C_drewN ?_ _) | (with_reducible refine Kd.C_drew ?_))); (case side2 => exact (Kd.V_reads' HO48011.out).2.1); rintro e w' ⟨rfl, ⟨nd, rfl⟩⟩; refine ⟨_, rfl, ?_⟩) | ((with_reducible refine gate_callee (f := 21) rfl ?_); refine goesL_ (some 78) rfl rfl Try.func21 (by kernel_rfl) rfl #[.slice A34 y48007.length c34, .bool t48005, .int .i64 a3] rfl (by (try simp only [List.map_toArray, List.map_cons, List.map_nil]); first | done | rfl | (simp only [List.length_drop, List.length_take]; rfl)) ?_; (with_reducible refine (portmanteauref06_Unpack.calls kj17 (fun k_ => (P0_ k_ ∨ w.heap.size ≤ k_)) _ _ y48007 t48005 a3 t48014 t48017 _ ?side1 A28.out).mono ?_); (case side1 => exact HO48011.out); rintro e w35 ⟨v48015, rfl, ho0, hb⟩; refine ⟨_, rfl, ?_⟩; have n0_ := Aside0.mk (Kd.V_below (by (with_reducible repeat (first | apply Kd.V_alloc | apply Kd.V_drewN | apply Kd.V_drew)); exact HO_0.out) hb); have n1_ := Aside0.mk (Kd.V_below (by (with_reducible repeat (first | apply Kd.V_alloc | apply Kd.V_drewN | apply Kd.V_drew)); exact HO48011.out) hb); have n2_ := Aside0.mk (Kd.V_lower (Kd.V_mono (ok' := fun k_ => (P0_ k_ ∨ w.heap.size ≤ k_)) ho0 (fun k_ hk_ => Or.elim hk_ (fun hs_ => hs_) (fun hn_ => (.inr (Nat.le_trans (below_size (by repeat (first | (with_reducible first | exact HB.out | apply below_alloc | apply pw_below_drewN | apply below_drew1) | exact HB.out))) hn_))))) (below_size (by repeat (first | (with_reducible first | exact HB.out | apply below_alloc | apply pw_below_drewN | apply below_drew1) | exact HB.out)))); have n3_ := Aside0.mk (below_step (by repeat (first | (with_reducible first | exact HB.out | apply below_alloc | apply pw_below_drewN | apply below_drew1) | exact HB.out)) hb); clear HO_0; clear HO48011; clear HB; have HO_0 := n0_; have HO48011 := n1_; have HO48016 := n2_; have HB := n3_; clear n0_ n1_ n2_ n3_; (try clear hb); (try clear hb2); (try clear hk); (try clear hi); (try clear ho0); obtain ⟨Ao36, co36, eo36⟩ := Kd.V_slice HO48016.out; subst eo36))
                                  go_ret2
                                  exact ⟨_, by first | rfl | (simp [errW_none, errW_some] <;> rfl) | (simp [*, errW_none, errW_some] <;> rfl), Kd.V_nil _ _ _ _ _, by repeat (first | (with_reducible first | exact HB.out | apply below_alloc | apply pw_below_drewN | apply below_drew1) | exact HB.out)⟩
                              · rw [if_neg c29] at H
                                have c29b0 : (t48017 == 0) = false := beq_eq_false_iff_ne.mpr c29
                                have c29b1 : (t48017 != 0) = true := bne_iff_ne.mpr c29
                                simp only [Option.some.injEq, Prod.mk.injEq] at H
                                obtain ⟨rfl, rfl⟩ := H
                                have q37 : ((wrap64 (a1 + t48004)) : Int) ≤ ((l0.length : Int) : Int) := of_decide_eq_true (by first | (with_reducible assumption) | assumption)
                                obtain ⟨i037, hi037, _, hsz37, _⟩ := info_parts info5
                                have hroom37 : l0.length ≤ c0 := (Kd.V_reads' HO_0.out).2.1
                                have hC37 : Kd.F (Kd.int .u8) _ _ A0 l0.length l0 := (Kd.V_at (base := w.heap.size) HO_0.out).2.2
                                have ql37 : (a1 : Int) ≤ ((wrap64 (a1 + t48004)) : Int) := of_decide_eq_true (by first | (with_reducible assumption) | assumption)
                                have q037 : (0 : Int) ≤ (a1 : Int) := of_decide_eq_true (by first | (with_reducible assumption) | assumption)
                                have hcut37 := cut_mid (P := Try.prog) 22 5 .i64 .i64 Try.underlying22 hi037 1 hsz37 A0 l0.length c0 a1 (wrap64 (a1 + t48004)) q037 ql37 q37 hroom37
                                have hr37 := Kd.F_mid (lo := (a1 : Int).toNat) (hi := ((wrap64 (a1 + t48004)) : Int).toNat) (c := c0) hC37 (by omega) (by omega) hroom37
                                obtain ⟨A37, hA37⟩ : ∃ A1, A1 = (if c0 = (a1 : Int).toNat then A0 else (A0 : Option Addr).map (·.add ((a1 : Int).toNat * 1))) := ⟨_, rfl⟩
                                obtain ⟨c37, hc37⟩ : ∃ c1, c1 = c0 - (a1 : Int).toNat := ⟨_, rfl⟩
                                have hy37 : y48007.length = ((wrap64 (a1 + t48004)) : Int).toNat - (a1 : Int).toNat := (by rw [Ny48007.out, List.length_drop, List.length_take] <;> omega)
                                rw [show ((l0).take ((wrap64 (a1 + t48004)) : Int).toNat).drop (a1 : Int).toNat = y48007 from Ny48007.out.symm] at hr37
                                replace hr37 : Kd.F (Kd.int .u8) _ _ A37 y48007.length y48007 := (by rw [hA37]; exact hr37)
                                rw [← hy37, ← hA37, ← hc37] at hcut37
                                have HO48011 := Aside0.mk (show Kd.V (Kd.int .u8) 5 _ w.heap.size _ (.slice A37 y48007.length c37) y48007 from Kd.V_mk (by rw [hy37, hc37]; exact Nat.sub_le_sub_right (Nat.le_trans (by omega) hroom37) _) hr37)
                                have HC48011 := Aside0.mk (show y48007.length ≤ c37 from by rw [hy37, hc37]; exact Nat.sub_le_sub_right (Nat.le_trans (by omega) hroom37) _)
                                clear hr37 hC37 hroom37 hi037 hsz37 hc37
                                have KY37 := Aside0.mk hy37
                                have KA37 := Aside0.mk hA37
                                clear hy37 hA37
                                replace q37 := eq_true q37
                                go_wp2_with (first | ((with_reducible refine gate_callee (f := 73) rfl ?_); refine goesL_ (some 69) rfl rfl Try.func73 (by kernel_rfl) rfl #[.slice A0 l0.length c0, .int .i64 (wrap64 (a1 + t48004)), .int .i64 4] rfl (by (try simp only [List.map_toArray, List.map_cons, List.map_nil]); first | done | rfl | (simp only [List.length_drop, List.length_take]; rfl)) ?_; (with_reducible refine (portmanteauref01_Load.calls kj17 _ _ l0 (wrap64 (a1 + t48004)) 4 t48012 _ ?side1 ?side2 A25.out).mono ?_); (case side1 => repeat (first | exact (Kd.V_reads' HO_0.out).2.2 | (with_reducible refine Kd.C_alloc ?_ _) | (with_reducible refine Kd.C_drewN ?_ _) | (with_reducible refine Kd.C_drew ?_))); (case side2 => exact (Kd.V_reads' HO_0.out).2.1); rintro e w' ⟨rfl, ⟨nd, rfl⟩⟩; refine ⟨_, rfl, ?_⟩) | ((with_reducible refine gate_callee (f := 76) rfl ?_); refine goesL_ (some 71) rfl rfl Try.func76 (by kernel_rfl) rfl #[.int .u32 0, .slice A37 y48007.length c37] rfl (by (try simp only [List.map_toArray, List.map_cons, List.map_nil]); first | done | rfl | (simp only [List.length_drop, List.length_take]; rfl)) ?_; (with_reducible refine (portmanteauref02_Crc.calls kj17 0 _ _ y48007 t48013 _ ?side1 ?side2 A26.out).mono ?_); (case side1 => repeat (first | exact (Kd.V_reads' HO48011.out).2.2 | (with_reducible refine Kd.C_alloc ?_ _) | (with_reducible refine Kd.C_drewN ?_ _) | (with_reducible refine Kd.C_drew ?_))); (case side2 => exact (Kd.V_reads' HO48011.out).2.1); rintro e w' ⟨rfl, ⟨nd, rfl⟩⟩; refine ⟨_, rfl, ?_⟩) | ((with_reducible refine gate_callee (f := 21) rfl ?_); refine goesL_ (some 78) rfl rfl Try.func21 (by kernel_rfl) rfl #[.slice A37 y48007.length c37, .bool t48005, .int .i64 a3] rfl (by (try simp only [List.map_toArray, List.map_cons, List.map_nil]); first | done | rfl | (simp only [List.length_drop, List.length_take]; rfl)) ?_; (with_reducible refine (portmanteauref06_Unpack.calls kj17 (fun k_ => (P0_ k_ ∨ w.heap.size ≤ k_)) _ _ y48007 t48005 a3 t48014 t48017 _ ?side1 A28.out).mono ?_); (case side1 => exact HO48011.out); rintro e w38 ⟨v48015, rfl, ho0, hb⟩; refine ⟨_, rfl, ?_⟩; have n0_ := Aside0.mk (Kd.V_below (by (with_reducible repeat (first | apply Kd.V_alloc | apply Kd.V_drewN | apply Kd.V_drew)); exact HO_0.out) hb); have n1_ := Aside0.mk (Kd.V_below (by (with_reducible repeat (first | apply Kd.V_alloc | apply Kd.V_drewN | apply Kd.V_drew)); exact HO48011.out) hb); have n2_ := Aside0.mk (Kd.V_lower (Kd.V_mono (ok' := fun k_ => (P0_ k_ ∨ w.heap.size ≤ k_)) ho0 (fun k_ hk_ => Or.elim hk_ (fun hs_ => hs_) (fun hn_ => (.inr (Nat.le_trans (below_size (by repeat (first | (with_reducible first | exact HB.out | apply below_alloc | apply pw_below_drewN | apply below_drew1) | exact HB.out))) hn_))))) (below_size (by repeat (first | (with_reducible first | exact HB.out | apply below_alloc | apply pw_below_drewN | apply below_drew1) | exact HB.out)))); have n3_ := Aside0.mk (below_step (by repeat (first | (with_reducible first | exact HB.out | apply below_alloc | apply pw_below_drewN | apply below_drew1) | exact HB.out)) hb); clear HO_0; clear HO48011; clear HB; have HO_0 := n0_; have HO48011 := n1_; have HO48016 := n2_; have HB := n3_; clear n0_ n1_ n2_ n3_; (try clear hb); (try clear hb2); (try clear hk); (try clear hi); (try clear ho0)))
                                go_ret2
                                exact ⟨_, by first | rfl | (simp [errW_none, errW_some] <;> rfl) | (simp [*, errW_none, errW_some] <;> rfl), Kd.V_nil _ _ _ _ _, by repeat (first | (with_reducible first | exact HB.out | apply below_alloc | apply pw_below_drewN | apply below_drew1) | exact HB.out)⟩
                            · rw [if_neg c27] at H
                              have c27b0 : (t48012 == (IntKind.u64.wrap (t48013))) = false := beq_eq_false_iff_ne.mpr c27
                              have c27b1 : (t48012 != (IntKind.u64.wrap (t48013))) = true := bne_iff_ne.mpr c27
                              simp only [Option.some.injEq, Prod.mk.injEq] at H
                              obtain ⟨rfl, rfl⟩ := H
                              have q39 : ((wrap64 (a1 + t48004)) : Int) ≤ ((l0.length : Int) : Int) := of_decide_eq_true (by first | (with_reducible assumption) | assumption)
                              obtain ⟨i039, hi039, _, hsz39, _⟩ := info_parts info5
                              have hroom39 : l0.length ≤ c0 := (Kd.V_reads' HO_0.out).2.1
                              have hC39 : Kd.F (Kd.int .u8) _ _ A0 l0.length l0 := (Kd.V_at (base := w.heap.size) HO_0.out).2.2
                              have ql39 : (a1 : Int) ≤ ((wrap64 (a1 + t48004)) : Int) := of_decide_eq_true (by first | (with_reducible assumption) | assumption)
                              have q039 : (0 : Int) ≤ (a1 : Int) := of_decide_eq_true (by first | (with_reducible assumption) | assumption)
                              have hcut39 := cut_mid (P := Try.prog) 22 5 .i64 .i64 Try.underlying22 hi039 1 hsz39 A0 l0.length c0 a1 (wrap64 (a1 + t48004)) q039 ql39 q39 hroom39
                              have hr39 := Kd.F_mid (lo := (a1 : Int).toNat) (hi := ((wrap64 (a1 + t48004)) : Int).toNat) (c := c0) hC39 (by omega) (by omega) hroom39
                              obtain ⟨A39, hA39⟩ : ∃ A1, A1 = (if c0 = (a1 : Int).toNat then A0 else (A0 : Option Addr).map (·.add ((a1 : Int).toNat * 1))) := ⟨_, rfl⟩
                              obtain ⟨c39, hc39⟩ : ∃ c1, c1 = c0 - (a1 : Int).toNat := ⟨_, rfl⟩
                              have hy39 : y48007.length = ((wrap64 (a1 + t48004)) : Int).toNat - (a1 : Int).toNat := (by rw [Ny48007.out, List.length_drop, List.length_take] <;> omega)
                              rw [show ((l0).take ((wrap64 (a1 + t48004)) : Int).toNat).drop (a1 : Int).toNat = y48007 from Ny48007.out.symm] at hr39
                              replace hr39 : Kd.F (Kd.int .u8) _ _ A39 y48007.length y48007 := (by rw [hA39]; exact hr39)
                              rw [← hy39, ← hA39, ← hc39] at hcut39
                              have HO48011 := Aside0.mk (show Kd.V (Kd.int .u8) 5 _ w.heap.size _ (.slice A39 y48007.length c39) y48007 from Kd.V_mk (by rw [hy39, hc39]; exact Nat.sub_le_sub_right (Nat.le_trans (by omega) hroom39) _) hr39)
                              have HC48011 := Aside0.mk (show y48007.length ≤ c39 from by rw [hy39, hc39]; exact Nat.sub_le_sub_right (Nat.le_trans (by omega) hroom39) _)
                              clear hr39 hC39 hroom39 hi039 hsz39 hc39
                              have KY39 := Aside0.mk hy39
                              have KA39 := Aside0.mk hA39
                              clear hy39 hA39
                              replace q39 := eq_true q39
                              go_wp2_with (first | ((with_reducible refine gate_callee (f := 73) rfl ?_); refine goesL_ (some 69) rfl rfl Try.func73 (by kernel_rfl) rfl #[.slice A0 l0.length c0, .int .i64 (wrap64 (a1 + t48004)), .int .i64 4] rfl (by (try simp only [List.map_toArray, List.map_cons, List.map_nil]); first | done | rfl | (simp only [List.length_drop, List.length_take]; rfl)) ?_; (with_reducible refine (portmanteauref01_Load.calls kj17 _ _ l0 (wrap64 (a1 + t48004)) 4 t48012 _ ?side1 ?side2 A25.out).mono ?_); (case side1 => repeat (first | exact (Kd.V_reads' HO_0.out).2.2 | (with_reducible refine Kd.C_alloc ?_ _) | (with_reducible refine Kd.C_drewN ?_ _) | (with_reducible refine Kd.C_drew ?_))); (case side2 => exact (Kd.V_reads' HO_0.out).2.1); rintro e w' ⟨rfl, ⟨nd, rfl⟩⟩; refine ⟨_, rfl, ?_⟩) | ((with_reducible refine gate_callee (f := 76) rfl ?_); refine goesL_ (some 71) rfl rfl Try.func76 (by kernel_rfl) rfl #[.int .u32 0, .slice A39 y48007.length c39] rfl (by (try simp only [List.map_toArray, List.map_cons, List.map_nil]); first | done | rfl | (simp only [List.length_drop, List.length_take]; rfl)) ?_; (with_reducible refine (portmanteauref02_Crc.calls kj17 0 _ _ y48007 t48013 _ ?side1 ?side2 A26.out).mono ?_); (case side1 => repeat (first | exact (Kd.V_reads' HO48011.out).2.2 | (with_reducible refine Kd.C_alloc ?_ _) | (with_reducible refine Kd.C_drewN ?_ _) | (with_reducible refine Kd.C_drew ?_))); (case side2 => exact (Kd.V_reads' HO48011.out).2.1); rintro e w' ⟨rfl, ⟨nd, rfl⟩⟩; refine ⟨_, rfl, ?_⟩))
                              go_ret2
                              exact ⟨_, by first | rfl | (simp [errW_none, errW_some] <;> rfl) | (simp [*, errW_none, errW_some] <;> rfl), Kd.V_nil _ _ _ _ _, by repeat (first | (with_reducible first | exact HB.out | apply below_alloc | apply pw_below_drewN | apply below_drew1) | exact HB.out)⟩
                          · rw [if_neg c24] at H
                            exact absurd H (by simp)
                        · rw [if_neg c23] at H
                          exact absurd H (by simp)
                      · rw [if_neg c22] at H
                        exact absurd H (by simp)

end Go.Proofs.Ytdlfflgcmgkmeaa.P

namespace Go.FW
open Go Go.RowKit

abbrev Env := List (Nat × Value)
def look : Env → Nat → Option Value
  | [], _ => none
  | (k, v) :: E, j => bif Nat.beq k j then some v else look E j
def evalE (E : Env) : Operand → Value
  | .tmp t => (look E t).getD undef
  | .const v => v
  | .global g => .pointer (some ⟨g, 0, none⟩)
  | .func f => .func (.func f) #[] #[]
def knownE (E : Env) : Operand → Bool
  | .tmp t => (look E t).isSome
  | _ => true
/-- The slots that are known. -/
def Holds (a : Act) (n : Nat) (E : Env) : Prop := a.tmps.size = n ∧ a.defers = [] ∧ ∀ k v, look E k = some v → a.tmps.getD k undef = v

theorem Holds.eval {a : Act} {n : Nat} {E : Env} (h : Holds a n E) (x : Operand) (hx : knownE E x = true) : a.eval x = evalE E x := by
  cases x with
  | tmp t =>
    simp only [knownE, Option.isSome_iff_exists] at hx
    obtain ⟨v, hv⟩ := hx
    simp only [Act.eval, evalE, hv, Option.getD_some]
    exact h.2.2 t v hv
  | _ => rfl
theorem Holds.put {a : Act} {n : Nat} {E : Env} (h : Holds a n E) (d : Nat) (v : Value) (hd : d < n) : Holds (a.put (some d) v) n ((d, v) :: E) := by
  obtain ⟨h1, h2, h3⟩ := h
  refine ⟨by simp [Act.put, h1], h2, fun k u hk => ?_⟩
  simp only [look] at hk
  simp only [Act.put]
  by_cases he : d = k
  · subst he
    simp only [Nat.beq_refl, cond_true, Option.some.injEq] at hk
    subst hk
    simp [Array.getD, h1, hd]
  · have : Nat.beq d k = false := by
      cases hb : Nat.beq d k
      · rfl
      · exact absurd (Nat.eq_of_beq_eq_true hb) he
    rw [this] at hk
    have := h3 k u hk
    simp only [Array.getD_eq_getD_getElem?] at this ⊢
    rw [Array.getElem?_setIfInBounds_ne (by omega)]; exact this
theorem Holds.put_none {a : Act} {n : Nat} {E : Env} (h : Holds a n E) (v : Value) : Holds (a.put none v) n E := h
theorem Holds.mono {a : Act} {n : Nat} {E E' : Env} (h : Holds a n E) (hE : ∀ k v, look E' k = some v → look E k = some v) : Holds a n E' := ⟨h.1, h.2.1, fun k v hk => h.2.2 k v (hE k v hk)⟩

/-- What the prover owes of an operation: nothing (it is run), the value that it yields, or the world that it leaves. -/
inductive H where
  | r
  | y (v : Value)
  | e (v : Value)
  | s (w : World)

def owed (P : Program) (w : World) (o : Oper) (ρ : Operand → Value) (v : Value) : Prop :=
  match o.op with
  | .load t x => (Instr.loadAt t (ρ x)).run P w = .ok v w
  | .indexAddr t x i => (Instr.indexAt t (ρ x) (ρ i)).run P w = .ok v w
  | .index t x i => (Instr.index t (ρ x) (ρ i)).run P w = .ok v w
  | .slice t x lo hi mx => (Instr.sliceAt t (ρ x) (lo.map ρ) (hi.map ρ) (mx.map ρ)).run P w = .ok v w
  | .convert s d x => (convert s d (ρ x)).run P w = .ok v w
  | _ => (execOp ρ o).run P w = .ok (.value v) w
def owedS (P : Program) (w : World) (o : Oper) (ρ : Operand → Value) (w1 : World) : Prop :=
  match o.op with
  | .store t x y => (Instr.storeAt t (ρ x) (ρ y)).run P w = .ok () w1
  | _ => (execOp ρ o).run P w = .ok .skip w1

def wantedE (ops : Array Oper) (E : Env) (o : Oper) : Option Bool :=
  match o.guard with
  | none => some true
  | some (j, want) => match (ops[j]?).bind (·.dst) with
    | some d => match look E d with
      | some (.bool b) => some (match b, want with | true, true => true | false, false => true | _, _ => false)
      | _ => none
    | none => none
def putE (n : Nat) (E : Env) (d : Option Tmp) (v : Value) : Option Env :=
  match d with
  | none => some E
  | some d => if d < n then some ((d, v) :: E) else none
def okOp (E : Env) (o : Oper) : Bool := o.op.operands.toList.all (knownE E) && (match o.op with | .select .. => false | _ => true)

/-- Operations one behind the other, by the model itself. -/
def runE (P : Program) (ops : Array Oper) (n : Nat) : List Oper → List H → Env → World → List Prop → Option (Env × World × List Prop)
  | [], _, E, w, ps => some (E, w, ps)
  | _ :: _, [], _, _, _ => none
  | o :: os, h :: hs, E, w, ps =>
    match wantedE ops E o with
    | some true =>
      if okOp E o then
        match h with
        | .r => match (execOp (evalE E) o).run P w with
          | .ok (.value v) w' => (putE n E o.dst v).bind fun E' => runE P ops n os hs E' w' ps
          | .ok .skip w' => (putE n E o.dst undef).bind fun E' => runE P ops n os hs E' w' ps
          | _ => none
        | .e v => match (execOp (evalE E) o).run P w with
          | .ok (.value u) w' => (putE n E o.dst v).bind fun E' => runE P ops n os hs E' w' ((u = v) :: ps)
          | _ => none
        | .y v => (putE n E o.dst v).bind fun E' => runE P ops n os hs E' w (owed P w o (evalE E) v :: ps)
        | .s w1 => (putE n E o.dst undef).bind fun E' => runE P ops n os hs E' w1 (owedS P w o (evalE E) w1 :: ps)
      else none
    | some false => (putE n E o.dst undef).bind fun E' => runE P ops n os hs E' w ps
    | none => none

def All : List Prop → Prop
  | [] => True
  | p :: ps => p ∧ All ps

theorem leB {a b : Nat} (h : Nat.ble a b = true) : a ≤ b := Nat.le_of_ble_eq_true h
theorem run_bind_ok {α β : Type} {P : Program} {m : Sem α} {f : α → Sem β} {w w' : World} {x : α} (h : m.run P w = .ok x w') : (m >>= f).run P w = (f x).run P w' := by
  rw [Sem.run_bind, h]; rfl
theorem owed_run {P : Program} {w : World} {o : Oper} {ρ : Operand → Value} {v : Value} (h : owed P w o ρ v) : (execOp ρ o).run P w = .ok (.value v) w := by
  obtain ⟨dst, op, ty, pos, af, g⟩ := o
  cases op <;> first
    | exact h
    | (exact run_bind_ok h)
theorem owedS_run {P : Program} {w w1 : World} {o : Oper} {ρ : Operand → Value} (h : owedS P w o ρ w1) : (execOp ρ o).run P w = .ok .skip w1 := by
  obtain ⟨dst, op, ty, pos, af, g⟩ := o
  cases op <;> first
    | exact h
    | (exact run_bind_ok h)

theorem wanted_of {ops : Array Oper} {E : Env} {o : Oper} {b : Bool} {a : Act} {n : Nat} (hh : Holds a n E) (h : wantedE ops E o = some b) : Region.wanted o (yielded ops a.tmps) = b := by
  unfold wantedE at h
  unfold Region.wanted
  split at h
  · rename_i hg; rw [hg]; simpa using h
  · rename_i j want hg
    rw [hg]
    split at h
    · rename_i d hd
      split at h
      · rename_i b' hl
        have h2 := hh.2.2 d _ hl
        have h3 : a.tmps[d]? = some (.bool b') := by
          rw [Array.getD_eq_getD_getElem?] at h2
          cases h4 : a.tmps[d]? with
          | none => rw [h4] at h2; simp [undef] at h2
          | some v => rw [h4] at h2; simpa using h2
        have : yielded ops a.tmps j = some b' := by simp [yielded, hd, h3]
        simp only [this, Option.some.injEq] at h ⊢
        rw [← h]
        cases b' <;> cases want <;> rfl
      · cases h
    · cases h
theorem exec_of {E : Env} {o : Oper} {a : Act} {n : Nat} (hh : Holds a n E) (h : okOp E o = true) : execOp a.eval o = execOp (evalE E) o := by
  simp only [okOp, Bool.and_eq_true, List.all_eq_true] at h
  refine execOp_congr o (fun cs b he => ?_) (fun x hx => hh.eval x (h.1 x (by simpa using hx)))
  rw [he] at h; simp at h
theorem putE_of {n : Nat} {E E' : Env} {d : Option Tmp} {v : Value} {a : Act} (hh : Holds a n E) (h : putE n E d v = some E') : Holds (a.put d v) n E' := by
  cases d with
  | none => simp only [putE, Option.some.injEq] at h; subst h; exact hh.put_none v
  | some d =>
    simp only [putE] at h
    split at h
    · rename_i hd; simp only [Option.some.injEq] at h; subst h; exact hh.put d v hd
    · cases h

theorem runE_ps {P : Program} {ops : Array Oper} {n : Nat} : ∀ (l : List Oper) (hs : List H) (E : Env) (w : World) (ps : List Prop) {E' : Env} {w' : World} {qs : List Prop},
    runE P ops n l hs E w ps = some (E', w', qs) → All qs → All ps
  | [], _, E, w, ps, E', w', qs, h, hq => by
    simp only [runE, Option.some.injEq, Prod.mk.injEq] at h
    obtain ⟨rfl, rfl, rfl⟩ := h; exact hq
  | _ :: _, [], _, _, _, _, _, _, h, _ => by simp [runE] at h
  | o :: os, hh :: hs, E, w, ps, E', w', qs, h, hq => by
    unfold runE at h
    split at h
    · split at h
      · cases hh with
        | r =>
          dsimp only at h
          generalize (execOp (evalE E) o).run P w = r at h
          cases r with
          | ok m w1 => cases m <;> first | (obtain ⟨_, _, h⟩ := Option.bind_eq_some_iff.mp h; exact runE_ps os hs _ _ _ h hq) | cases h
          | halt x w1 => cases h
        | e v =>
          dsimp only at h
          generalize (execOp (evalE E) o).run P w = r at h
          cases r with
          | ok m w1 => cases m <;> first | (obtain ⟨_, _, h⟩ := Option.bind_eq_some_iff.mp h; exact (runE_ps os hs _ _ _ h hq).2) | cases h
          | halt x w1 => cases h
        | y v => obtain ⟨_, _, h⟩ := Option.bind_eq_some_iff.mp h; exact (runE_ps os hs _ _ _ h hq).2
        | s w1 => obtain ⟨_, _, h⟩ := Option.bind_eq_some_iff.mp h; exact (runE_ps os hs _ _ _ h hq).2
      · cases h
    · obtain ⟨_, _, h⟩ := Option.bind_eq_some_iff.mp h; exact runE_ps os hs _ _ _ h hq
    · cases h

theorem wpList_of_runE {P : Program} {ops : Array Oper} {n : Nat} {Q : Exit → Act → World → Prop} {rest : List Oper} : ∀ (l : List Oper) (hs : List H) (E : Env) (w : World) (ps : List Prop) {E' : Env} {w' : World} {qs : List Prop} (a : Act),
    Holds a n E → runE P ops n l hs E w ps = some (E', w', qs) → All qs → (∀ a', Holds a' n E' → wpList P ops Q rest a' w') → wpList P ops Q (l ++ rest) a w
  | [], _, E, w, ps, E', w', qs, a, ha, h, hq, hk => by
    simp only [runE, Option.some.injEq, Prod.mk.injEq] at h
    obtain ⟨rfl, rfl, rfl⟩ := h; exact hk a ha
  | _ :: _, [], _, _, _, _, _, _, _, _, h, _, _ => by simp [runE] at h
  | o :: os, hh :: hs, E, w, ps, E', w', qs, a, ha, h, hq, hk => by
    unfold runE at h
    simp only [List.cons_append]
    unfold wpList
    split at h
    · rename_i hw
      rw [if_pos (wanted_of ha hw)]
      refine .inl ?_
      unfold Oper.wp
      split at h
      · rename_i hok
        rw [exec_of ha hok]
        cases hh with
        | r =>
          dsimp only at h
          generalize (execOp (evalE E) o).run P w = r at h
          cases r with
          | ok m w1 => cases m <;> first | (obtain ⟨E1, hE1, h⟩ := Option.bind_eq_some_iff.mp h; exact wpList_of_runE os hs _ _ _ _ (putE_of ha hE1) h hq hk) | cases h
          | halt x w1 => cases h
        | e v =>
          dsimp only at h
          generalize (execOp (evalE E) o).run P w = r at h
          cases r with
          | ok m w1 => cases m <;> first | (obtain ⟨E1, hE1, h⟩ := Option.bind_eq_some_iff.mp h; have he := (runE_ps os hs _ _ _ h hq).1; subst he; exact wpList_of_runE os hs _ _ _ _ (putE_of ha hE1) h hq hk) | cases h
          | halt x w1 => cases h
        | y v =>
          obtain ⟨E1, hE1, h⟩ := Option.bind_eq_some_iff.mp h
          rw [owed_run (runE_ps os hs _ _ _ h hq).1]
          exact wpList_of_runE os hs _ _ _ _ (putE_of ha hE1) h hq hk
        | s w1 =>
          obtain ⟨E1, hE1, h⟩ := Option.bind_eq_some_iff.mp h
          rw [owedS_run (runE_ps os hs _ _ _ h hq).1]
          exact wpList_of_runE os hs _ _ _ _ (putE_of ha hE1) h hq hk
      · cases h
    · rename_i hw
      rw [if_neg (by rw [wanted_of ha hw]; simp)]
      obtain ⟨E1, hE1, h⟩ := Option.bind_eq_some_iff.mp h
      exact wpList_of_runE os hs _ _ _ _ (putE_of ha hE1) h hq hk
    · cases h

/-- The slots that are kept. -/
def proj (E : Env) : List Nat → Option Env
  | [] => some []
  | k :: ks => (look E k).bind fun v => (proj E ks).map fun R => (k, v) :: R
theorem proj_look {E : Env} : ∀ {ks : List Nat} {R : Env}, proj E ks = some R → ∀ k v, look R k = some v → look E k = some v
  | [], R, h, k, v, hk => by simp only [proj, Option.some.injEq] at h; subst h; simp [look] at hk
  | j :: ks, R, h, k, v, hk => by
    simp only [proj, Option.bind_eq_some_iff, Option.map_eq_some_iff] at h
    obtain ⟨u, hu, R', hR, rfl⟩ := h
    simp only [look] at hk
    by_cases he : j = k
    · subst he; simp only [Nat.beq_refl, cond_true, Option.some.injEq] at hk; subst hk; exact hu
    · have : Nat.beq j k = false := by
        cases hb : Nat.beq j k
        · rfl
        · exact absurd (Nat.eq_of_beq_eq_true hb) he
      rw [this] at hk
      exact proj_look hR k v hk
def runK (P : Program) (ops : Array Oper) (n : Nat) (l : List Oper) (hs : List H) (E : Env) (w : World) (ks : List Nat) : Option (Env × World × List Prop) :=
  (runE P ops n l hs E w []).bind fun x => (proj x.1 ks).map fun R => (R, x.2.1, x.2.2)
theorem runK_of {P : Program} {ops : Array Oper} {n : Nat} {l : List Oper} {hs : List H} {E E' : Env} {w w' : World} {ks : List Nat} {qs : List Prop} (h : runK P ops n l hs E w ks = some (E', w', qs)) :
    ∃ E1, runE P ops n l hs E w [] = some (E1, w', qs) ∧ ∀ a, Holds a n E1 → Holds a n E' := by
  simp only [runK, Option.bind_eq_some_iff, Option.map_eq_some_iff] at h
  obtain ⟨⟨E1, w1, q1⟩, h1, R, hR, he⟩ := h
  simp only [Prod.mk.injEq] at he
  obtain ⟨rfl, rfl, rfl⟩ := he
  exact ⟨E1, h1, fun a ha => ha.mono (proj_look hR)⟩

/-- A region that does not draw, all of it. -/
theorem plain {P : Program} {id : Nat} {l : List Oper} {Q : Exit → Act → World → Prop} {a : Act} {n : Nat} {E E' : Env} {w w' : World} {qs : List Prop} (ha : Holds a n E) (ks : List Nat) (hs : List H)
    (h : runK P l.toArray n l hs E w ks = some (E', w', qs)) (hq : All qs) (hk : ∀ a', Holds a' n E' → Q .normal a' w') : (Code.region id l.toArray false).wp P Q a w := by
  obtain ⟨E1, h1, h2⟩ := runK_of h
  refine wp_region_lit ?_
  have := wpList_of_runE (rest := []) (Q := Q) l hs E w [] a ha h1 hq (fun a' ha' => hk a' (h2 a' ha'))
  simpa using this
/-- .. up to an operation that is met by hand. -/
theorem plainTo {P : Program} {id : Nat} {L : List Oper} (j : Nat) {Q : Exit → Act → World → Prop} {a : Act} {n : Nat} {E E' : Env} {w w' : World} {qs : List Prop} (ha : Holds a n E) (ks : List Nat) (hs : List H)
    (h : runK P L.toArray n (L.take j) hs E w ks = some (E', w', qs)) (hq : All qs) (hk : ∀ a', Holds a' n E' → wpList P L.toArray Q (L.drop j) a' w') : (Code.region id L.toArray false).wp P Q a w := by
  obtain ⟨E1, h1, h2⟩ := runK_of h
  have := wpList_of_runE (rest := L.drop j) (Q := Q) (L.take j) hs E w [] a ha h1 hq (fun a' ha' => hk a' (h2 a' ha'))
  rw [List.take_append_drop] at this
  exact wp_region_lit this
theorem listEnd {P : Program} {ops : Array Oper} {l : List Oper} {Q : Exit → Act → World → Prop} {a : Act} {n : Nat} {E E' : Env} {w w' : World} {qs : List Prop} (ha : Holds a n E) (ks : List Nat) (hs : List H)
    (h : runK P ops n l hs E w ks = some (E', w', qs)) (hq : All qs) (hk : ∀ a', Holds a' n E' → Q .normal a' w') : wpList P ops Q l a w := by
  obtain ⟨E1, h1, h2⟩ := runK_of h
  have := wpList_of_runE (rest := []) (Q := Q) l hs E w [] a ha h1 hq (fun a' ha' => hk a' (h2 a' ha'))
  simpa using this

/-- A call. -/
theorem callAt {P : Program} {ops : Array Oper} {o : Oper} {rest : List Oper} {Q : Exit → Act → World → Prop} {a : Act} {n : Nat} {E : Env} {w : World} (ha : Holds a n E) (f : FuncId) (args : Array Value)
    (hw : wantedE ops E o = some true) (hok : okOp E o = true) (hd : (match o.dst with | some d => decide (d < n) | none => true) = true) (he : (execOp (evalE E) o).run P w = .ok (.enter f args) w)
    (hc : Calls P f args w fun e w' => ∃ v, e = .returned v ∧ ∀ a', Holds a' n (match o.dst with | some d => (d, v) :: E | none => E) → wpList P ops Q rest a' w') : wpList P ops Q (o :: rest) a w := by
  unfold wpList
  rw [if_pos (wanted_of ha hw)]
  refine .inl ?_
  unfold Oper.wp
  rw [exec_of ha hok, he]
  exact hc.mono fun e w' ⟨v, e1, h⟩ => by
    subst e1
    refine h _ ?_
    cases hdd : o.dst with
    | none => exact ha.put_none v
    | some d => rw [hdd] at hd; exact ha.put d v (by simpa using hd)

/-- Any other operation: its run is told. -/
theorem opAt {P : Program} {ops : Array Oper} {o : Oper} {rest : List Oper} {Q : Exit → Act → World → Prop} {a : Act} {n : Nat} {E : Env} {w w' : World} {v : Value} (ha : Holds a n E)
    (hw : wantedE ops E o = some true) (hok : okOp E o = true) (hd : (match o.dst with | some d => decide (d < n) | none => true) = true) (he : (execOp (evalE E) o).run P w = .ok (.value v) w')
    (hc : ∀ a', Holds a' n (match o.dst with | some d => (d, v) :: E | none => E) → wpList P ops Q rest a' w') : wpList P ops Q (o :: rest) a w := by
  unfold wpList
  rw [if_pos (wanted_of ha hw)]
  refine .inl ?_
  unfold Oper.wp
  rw [exec_of ha hok, he]
  refine hc _ ?_
  cases hdd : o.dst with
  | none => exact ha.put_none v
  | some d => rw [hdd] at hd; exact ha.put d v (by simpa using hd)

/-! ### Control -/
theorem seq {P : Program} {x y : Code} {Q : Exit → Act → World → Prop} {a : Act} {w : World} (h : x.wp P (Exit.then (y.wp P Q) Q) a w) : (Code.seq x y).wp P Q a w := wp_seq h
theorem condT {P : Program} {t : Nat} {x y : Code} {Q : Exit → Act → World → Prop} {a : Act} {n : Nat} {E : Env} {w : World} (ha : Holds a n E) (hl : look E t = some (.bool true)) (h : x.wp P Q a w) : (Code.cond (.tmp t) x y).wp P Q a w :=
  wp_cond_true (ha.2.2 t _ hl) h
theorem condF {P : Program} {t : Nat} {x y : Code} {Q : Exit → Act → World → Prop} {a : Act} {n : Nat} {E : Env} {w : World} (ha : Holds a n E) (hl : look E t = some (.bool false)) (h : y.wp P Q a w) : (Code.cond (.tmp t) x y).wp P Q a w :=
  wp_cond_false (ha.2.2 t _ hl) h
def argsE : Nat → List Value → Env
  | _, [] => []
  | k, v :: vs => (k, v) :: argsE (k + 1) vs
theorem look_argsE : ∀ (vs : List Value) (k j : Nat) (v : Value), look (argsE k vs) j = some v → k ≤ j ∧ vs[j - k]? = some v
  | [], k, j, v, h => by simp [argsE, look] at h
  | u :: vs, k, j, v, h => by
    simp only [argsE, look] at h
    by_cases he : k = j
    · subst he; simp only [Nat.beq_refl, cond_true, Option.some.injEq] at h; subst h; simp
    · have : Nat.beq k j = false := by
        cases hb : Nat.beq k j
        · rfl
        · exact absurd (Nat.eq_of_beq_eq_true hb) he
      rw [this] at h
      obtain ⟨h1, h2⟩ := look_argsE vs (k + 1) j v h
      refine ⟨by omega, ?_⟩
      rw [show j - k = (j - (k + 1)) + 1 by omega]; simpa using h2
/-- A function is entered. -/
theorem enter {P : Program} {f : FuncId} {fn : Func} {c : Code} {w : World} {R : Ending → World → Prop} (args : List Value) (n : Nat) (hf : P.funcs[f]? = some fn) (hb : fn.body = some c) (hn : fn.ntmps = n) (hlen : args.length ≤ n)
    (h : ∀ a, Holds a n (argsE 0 args) → c.wp P (bodyPost P fn R) a w) : Calls P f args.toArray w R := by
  refine calls_of_wp hf hb (h _ ⟨by simp [hn]; omega, rfl, fun k v hk => ?_⟩)
  obtain ⟨h1, h2⟩ := look_argsE args 0 k v hk
  simp only [Nat.sub_zero] at h2
  have hlt : k < args.length := by
    rcases Nat.lt_or_ge k args.length with h | h
    · exact h
    · rw [List.getElem?_eq_none h] at h2; cases h2
  simp only [Array.getD_eq_getD_getElem?]
  rw [Array.getElem?_append_left (by simpa using hlt)]
  simp [h2]

/-- A loop, by what each round keeps ('x': what the state is) and a measure. -/
theorem loop {P : Program} {c : Code} {Q : Exit → Act → World → Prop} {a : Act} {w : World} {n : Nat} {α : Type} (Ef : α → Env) (R : α → World → Prop) (μ : α → Nat) (x0 : α) (h0 : Holds a n (Ef x0)) (hR : R x0 w)
    (round : ∀ x a w, Holds a n (Ef x) → R x w → c.wp P (Exit.then (fun a' w' => ∃ y, Holds a' n (Ef y) ∧ R y w' ∧ μ y < μ x) Q) a w) : (Code.loop c).wp P Q a w := by
  let S : Act → World → Nat → Prop := fun a w m => ∃ x, Holds a n (Ef x) ∧ R x w ∧ μ x = m
  have hmin : ∀ a w, (∃ m, S a w m) → ∃ m, S a w m ∧ ∀ m', S a w m' → m ≤ m' := by
    intro a w ⟨m, hm⟩
    induction m using Nat.strongRecOn with
    | _ m ih =>
      by_cases hex : ∃ m', m' < m ∧ S a w m'
      · obtain ⟨m', h1, h2⟩ := hex; exact ih m' h1 h2
      · exact ⟨m, hm, fun m' hm' => Nat.le_of_not_lt fun hlt => hex ⟨m', hlt, hm'⟩⟩
  have hdec : ∀ a w, ∃ m, (∃ k, S a w k) → (S a w m ∧ ∀ m', S a w m' → m ≤ m') := by
    intro a w
    by_cases h : ∃ k, S a w k
    · obtain ⟨m, hm⟩ := hmin a w h; exact ⟨m, fun _ => hm⟩
    · exact ⟨0, fun h' => absurd h' h⟩
  let ν : Act → World → Nat := fun a w => Classical.choose (hdec a w)
  have hν : ∀ a w, (∃ k, S a w k) → (S a w (ν a w) ∧ ∀ m', S a w m' → ν a w ≤ m') := fun a w => Classical.choose_spec (hdec a w)
  refine wp_loop (fun a w => ∃ k, S a w k) ν ⟨_, x0, h0, hR, rfl⟩ ?_
  intro a w hI
  obtain ⟨⟨x, hx, hr, hm⟩, _⟩ := hν a w hI
  refine wp_mono (round x a w hx hr) ?_
  intro e a' w' he
  cases e with
  | normal =>
    obtain ⟨y, hy, hry, hlt⟩ := he
    refine ⟨⟨_, y, hy, hry, rfl⟩, ?_⟩
    have := (hν a' w' ⟨_, y, hy, hry, rfl⟩).2 (μ y) ⟨y, hy, hry, rfl⟩
    omega
  | _ => exact he

theorem Holds.get {a : Act} {n : Nat} {E : Env} (ha : Holds a n E) {t : Nat} {v : Value} (hl : look E t = some v) : a.tmps[t]?.getD undef = v := by rw [← Array.getD_eq_getD_getElem?]; exact ha.2.2 t v hl
/-! ### Returns -/
theorem end0 {P : Program} {fn : Func} {R : Ending → World → Prop} {a : Act} {n : Nat} {E : Env} {w : World} (ha : Holds a n E) (hr : fn.results = #[]) (hR : R (.returned (.tuple #[])) w) : bodyPost P fn R .normal a w :=
  bodyPost_end (results_none hr _ _ _) ha.2.1 hR
theorem ret1 {P : Program} {fn : Func} {R : Ending → World → Prop} {a : Act} {n : Nat} {E : Env} {w : World} {t : Nat} {v : Value} (ha : Holds a n E) (hr : fn.results = #[.tmp t]) (hl : look E t = some v) (hR : R (.returned v) w) : bodyPost P fn R .ret a w :=
  bodyPost_ret (by rw [results_tmp hr, ha.2.2 t v hl]) ha.2.1 hR
theorem retc1 {P : Program} {fn : Func} {R : Ending → World → Prop} {a : Act} {n : Nat} {E : Env} {w : World} {t ty t2 : Nat} {A : Addr} {v v2 : Value} (ha : Holds a n E) (hr : fn.results = #[.cell t ty, .tmp t2]) (hl : look E t = some (.pointer (some A))) (hc : (loadVar ty A).run P w = .ok v w) (hl2 : look E t2 = some v2) (hR : R (.returned (.tuple #[v, v2])) w) : bodyPost P fn R .ret a w :=
  bodyPost_ret (by simp [results, hr, ha.get hl, ha.get hl2, asAddr, hc]) ha.2.1 hR
theorem retc2 {P : Program} {fn : Func} {R : Ending → World → Prop} {a : Act} {n : Nat} {E : Env} {w : World} {t ty t2 t3 : Nat} {A : Addr} {v v2 v3 : Value} (ha : Holds a n E) (hr : fn.results = #[.cell t ty, .tmp t2, .tmp t3]) (hl : look E t = some (.pointer (some A))) (hc : (loadVar ty A).run P w = .ok v w) (hl2 : look E t2 = some v2) (hl3 : look E t3 = some v3) (hR : R (.returned (.tuple #[v, v2, v3])) w) : bodyPost P fn R .ret a w :=
  bodyPost_ret (by simp [results, hr, ha.get hl, ha.get hl2, ha.get hl3, asAddr, hc]) ha.2.1 hR

/-! ### Regions that draw their order -/
def stepQ (P : Program) (E : Env) (w : World) (o : Oper) : H → Option (List Prop × Value × World)
  | .r => match (execOp (evalE E) o).run P w with
    | .ok (.value v) w' => some ([], v, w')
    | _ => none
  | .e v => match (execOp (evalE E) o).run P w with
    | .ok (.value u) w' => some ([u = v], v, w')
    | _ => none
  | .y v => some ([owed P w o (evalE E) v], v, w)
  | .s _ => none
theorem stepQ_run {P : Program} {E : Env} {w w' : World} {o : Oper} {h : H} {ps : List Prop} {v : Value} (hh : stepQ P E w o h = some (ps, v, w')) (hp : All ps) (hw : w' = w) : (execOp (evalE E) o).run P w = .ok (.value v) w := by
  cases h with
  | r =>
    simp only [stepQ] at hh
    generalize (execOp (evalE E) o).run P w = r at hh ⊢
    cases r with
    | halt x w1 => cases hh
    | ok m w1 =>
      cases m <;> first | (cases hh; done) | skip
      simp only [Option.some.injEq, Prod.mk.injEq] at hh
      obtain ⟨_, rfl, rfl⟩ := hh
      rw [hw]
  | e u =>
    simp only [stepQ] at hh
    generalize (execOp (evalE E) o).run P w = r at hh ⊢
    cases r with
    | halt x w1 => cases hh
    | ok m w1 =>
      cases m <;> first | (cases hh; done) | skip
      simp only [Option.some.injEq, Prod.mk.injEq] at hh
      obtain ⟨rfl, rfl, rfl⟩ := hh
      rw [hw, hp.1]
  | y u =>
    simp only [stepQ, Option.some.injEq, Prod.mk.injEq] at hh
    obtain ⟨rfl, rfl, rfl⟩ := hh
    exact owed_run hp.1
  | s u => simp [stepQ] at hh
theorem All.app : ∀ {ps qs : List Prop}, All (ps ++ qs) → All ps ∧ All qs
  | [], _, h => ⟨trivial, h⟩
  | p :: ps, qs, h => by obtain ⟨h1, h2⟩ := h; have := All.app h2; exact ⟨⟨h1, this.1⟩, this.2⟩

def runQ (P : Program) (ops : Array Oper) (n : Nat) : List Oper → List H → Env → World → Option (List Prop × List Value × List World × Env)
  | [], _, E, _ => some ([], [], [], E)
  | _ :: _, [], _, _ => none
  | o :: os, h :: hs, E, w =>
    match wantedE ops E o with
    | some true =>
      if okOp E o then
        (stepQ P E w o h).bind fun s => (putE n E o.dst s.2.1).bind fun E' => (runQ P ops n os hs E' w).map fun x => (s.1 ++ x.1, s.2.1 :: x.2.1, s.2.2 :: x.2.2.1, x.2.2.2)
      else none
    | some false => (putE n E o.dst undef).bind fun E' => (runQ P ops n os hs E' w).map fun x => (x.1, undef :: x.2.1, w :: x.2.2.1, x.2.2.2)
    | none => none

theorem wpQuiet_of_runQ {P : Program} {ops : Array Oper} {n : Nat} {C : World → Prop} {Q : Act → Prop} (w0 : World) (h0 : C w0) : ∀ (l : List Oper) (hs : List H) (E : Env) (a : Act) (vs : List Value),
    Holds a n E → (∀ w, C w → ∃ ps ws E', runQ P ops n l hs E w = some (ps, vs, ws, E') ∧ All ps ∧ (∀ x ∈ ws, x = w) ∧ ∀ a', Holds a' n E' → Q a') → wpQuiet P ops C Q l a
  | [], hs, E, a, vs, ha, h => by
    obtain ⟨ps, ws, E', h1, _, _, h4⟩ := h w0 h0
    simp only [runQ, Option.some.injEq, Prod.mk.injEq] at h1
    obtain ⟨_, _, _, rfl⟩ := h1
    exact h4 a ha
  | _ :: _, [], _, _, _, _, h => by obtain ⟨_, _, _, h1, _⟩ := h w0 h0; simp [runQ] at h1
  | o :: os, hh :: hs, E, a, vs, ha, h => by
    unfold wpQuiet
    cases hwe : wantedE ops E o with
    | none => obtain ⟨_, _, _, h1, _⟩ := h w0 h0; simp [runQ, hwe] at h1
    | some b =>
      rw [wanted_of ha hwe]
      cases b with
      | false =>
        simp only [Bool.false_eq_true, if_false]
        cases hpe : putE n E o.dst undef with
        | none => obtain ⟨_, _, _, h1, _⟩ := h w0 h0; simp [runQ, hwe, hpe] at h1
        | some E1 =>
          refine wpQuiet_of_runQ w0 h0 os hs E1 _ vs.tail (putE_of ha hpe) (fun w hc => ?_)
          obtain ⟨ps, ws, E', h1, h2, h3, h4⟩ := h w hc
          simp only [runQ, hwe, hpe, Option.bind_some, Option.map_eq_some_iff] at h1
          obtain ⟨⟨x1, x2, x3, x4⟩, hx, he⟩ := h1
          simp only [Prod.mk.injEq] at he
          obtain ⟨rfl, rfl, rfl, rfl⟩ := he
          exact ⟨x1, x3, x4, hx, h2, fun x hx => h3 x (List.mem_cons_of_mem _ hx), h4⟩
      | true =>
        simp only [if_true]
        cases hokb : okOp E o with
        | false => obtain ⟨_, _, _, h1, _⟩ := h w0 h0; simp [runQ, hwe, hokb] at h1
        | true =>
          have key : ∀ w, C w → ∃ sp sw E1 xp xw E', stepQ P E w o hh = some (sp, vs.headD undef, sw) ∧ putE n E o.dst (vs.headD undef) = some E1 ∧ runQ P ops n os hs E1 w = some (xp, vs.tail, xw, E') ∧ All sp ∧ sw = w ∧ All xp ∧ (∀ x ∈ xw, x = w) ∧ ∀ a', Holds a' n E' → Q a' := by
            intro w hc
            obtain ⟨ps, ws, E', h1, h2, h3, h4⟩ := h w hc
            simp only [runQ, hwe, hokb, if_true, Option.bind_eq_some_iff, Option.map_eq_some_iff] at h1
            obtain ⟨⟨sp, sv, sw⟩, hs1, E1, hE1, ⟨x1, x2, x3, x4⟩, hx, he⟩ := h1
            simp only [Prod.mk.injEq] at he
            obtain ⟨rfl, rfl, rfl, rfl⟩ := he
            exact ⟨sp, sw, E1, x1, x3, x4, hs1, hE1, hx, (All.app h2).1, h3 _ List.mem_cons_self, (All.app h2).2, fun x hx => h3 x (List.mem_cons_of_mem _ hx), h4⟩
          unfold Oper.quiet
          refine ⟨vs.headD undef, ?_, ?_⟩
          · intro w hc
            obtain ⟨sp, sw, E1, xp, xw, E', k1, k2, k3, k4, k5, _⟩ := key w hc
            unfold Oper.quietAt
            rw [exec_of ha hokb, stepQ_run k1 k4 k5]
            exact ⟨rfl, rfl⟩
          · obtain ⟨sp, sw, E1, xp, xw, E', k1, k2, k3, k4, k5, _⟩ := key w0 h0
            refine wpQuiet_of_runQ w0 h0 os hs E1 _ vs.tail (putE_of ha k2) (fun w hc => ?_)
            obtain ⟨sp', sw', E1', xp', xw', E'', k1', k2', k3', k4', k5', k6', k7', k8'⟩ := key w hc
            rw [k2] at k2'
            cases k2'
            exact ⟨xp', xw', E'', k3', k6', k7', k8'⟩

def runQK (P : Program) (ops : Array Oper) (n : Nat) (l : List Oper) (hs : List H) (E : Env) (w : World) (ks : List Nat) : Option (List Prop × List Value × List World × Env) :=
  (runQ P ops n l hs E w).bind fun x => (proj x.2.2.2 ks).map fun R => (x.1, x.2.1, x.2.2.1, R)

/-- A region that draws its order, whose operations leave the world alone: once, in the order of the text. -/
theorem quiet {P : Program} {id : Nat} {l : List Oper} {Q : Exit → Act → World → Prop} {a : Act} {n : Nat} {E E' : Env} {w : World} {pf : Nat → List Prop} {vs : List Value} {k : Nat} (hm : P.follows .mixedOrders = true) (hB : Region.lexB .any l.toArray = true)
    (ha : Holds a n E) (ks : List Nat) (hs : List H)
    (h : ∀ m, runQK P l.toArray n l hs E (w.drewN m) ks = some (pf m, vs, List.replicate k (w.drewN m), E')) (hq : ∀ m, All (pf m)) (hk : ∀ m a', Holds a' n E' → Q .normal a' (w.drewN m)) : (Code.region id l.toArray true).wp P Q a w := by
  refine wp_region_quiet_lit hm hB ?_
  refine wpQuiet_of_runQ (w.drewN 1) ⟨1, rfl⟩ l hs E a vs ha ?_
  rintro w' ⟨m, rfl⟩
  have := h m
  simp only [runQK, Option.bind_eq_some_iff, Option.map_eq_some_iff] at this
  obtain ⟨⟨p, v, ww, E1⟩, h1, R, hR, he⟩ := this
  simp only [Prod.mk.injEq] at he
  obtain ⟨rfl, rfl, rfl, rfl⟩ := he
  refine ⟨pf m, _, E1, h1, hq m, fun x hx => List.eq_of_mem_replicate hx, ?_⟩
  rintro a' ha' w' ⟨m', rfl⟩
  exact hk m' a' (ha'.mono (proj_look hR))

/-! #### .. with operations that do not leave it alone: first all that only reads, under a condition 'S' on the world -/
def PanicOk (Q : Exit → Act → World → Prop) : Prop := ∀ c a d v w, Q (.panic c) (a.put d v) w → Q (.panic c) a w
theorem PanicOk.body (P : Program) (fn : Func) (R : Ending → World → Prop) : PanicOk (bodyPost P fn R) := fun c a d v w h => by cases d <;> exact h
theorem PanicOk.then {K : Act → World → Prop} {Q : Exit → Act → World → Prop} (h : PanicOk Q) : PanicOk (Exit.then K Q) := fun c a d v w hh => h c a d v w hh
theorem PanicOk.inBlock {i : Nat} {Q : Exit → Act → World → Prop} (h : PanicOk Q) : PanicOk (Exit.inBlock i Q) := fun c a d v w hh => h c a d v w hh
theorem PanicOk.noGoto {Q : Exit → Act → World → Prop} (h : PanicOk Q) : PanicOk (Exit.noGoto Q) := fun c a d v w hh => h c a d v w hh

def runH (P : Program) (ops : Array Oper) (n : Nat) : List (Nat × H) → Array Bool → Env → World → Option (List Prop × List Value × List World × Env × Array Bool)
  | [], ls, E, _ => some ([], [], [], E, ls)
  | (i, h) :: sch, ls, E, w =>
    match ops[i]? with
    | none => none
    | some o =>
      if Region.free .any ops ls i && (Region.ready .any ops ls).contains i then
        match wantedE ops E o with
        | some true =>
          if okOp E o then
            (stepQ P E w o h).bind fun s => (putE n E o.dst s.2.1).bind fun E' => (runH P ops n sch (ls.setIfInBounds i true) E' w).map fun x => (s.1 ++ x.1, s.2.1 :: x.2.1, s.2.2 :: x.2.2.1, x.2.2.2)
          else none
        | some false => (putE n E o.dst undef).bind fun E' => (runH P ops n sch (ls.setIfInBounds i true) E' w).map fun x => (x.1, undef :: x.2.1, w :: x.2.2.1, x.2.2.2)
        | none => none
      else none
def runHK (P : Program) (ops : Array Oper) (n : Nat) (sch : List (Nat × H)) (ls : Array Bool) (E : Env) (w : World) (ks : List Nat) : Option (List Prop × List Value × List World × Env × Array Bool) :=
  (runH P ops n sch ls E w).bind fun x => (proj x.2.2.2.1 ks).map fun R => (x.1, x.2.1, x.2.2.1, R, x.2.2.2.2)
theorem heldTake' {P : Program} {ops : Array Oper} {n : Nat} {S : World → Prop} {Q : Exit → Act → World → Prop} {w : World} (hn : Region.noSelect ops = true) (hQ : PanicOk Q) (hS : S w) : ∀ (sch : List (Nat × H)) (ls : Array Bool) (E : Env) (a : Act) (vs : List Value) (ls' : Array Bool) (fuel : Nat),
    Holds a n E → (∀ w', S w' → ∃ ps ws E', runH P ops n sch ls E w' = some (ps, vs, ws, E', ls') ∧ All ps ∧ (∀ x ∈ ws, x = w') ∧ ∀ a', Holds a' n E' → wpAnyH P .any ops Q S fuel ls' a' w) → wpAnyH P .any ops Q S (fuel + sch.length) ls a w
  | [], ls, E, a, vs, ls', fuel, ha, h => by
    obtain ⟨ps, ws, E', h1, _, _, hk⟩ := h w hS
    simp only [runH, Option.some.injEq, Prod.mk.injEq] at h1
    obtain ⟨_, _, _, rfl, rfl⟩ := h1
    exact hk a ha
  | (i, hh) :: sch, ls, E, a, vs, ls', fuel, ha, h => by
    cases hi : ops[i]? with
    | none => obtain ⟨_, _, _, h1, _⟩ := h w hS; simp [runH, hi] at h1
    | some o =>
      cases hfr : (Region.free .any ops ls i && (Region.ready .any ops ls).contains i) with
      | false => obtain ⟨_, _, _, h1, _⟩ := h w hS; simp only [runH, hi, hfr, Bool.false_eq_true, if_false] at h1; cases h1
      | true =>
        have hfr' := hfr
        simp only [Bool.and_eq_true] at hfr'
        cases hwe : wantedE ops E o with
        | none => obtain ⟨_, _, _, h1, _⟩ := h w hS; simp only [runH, hi, hfr, hwe, if_true] at h1; cases h1
        | some b =>
          cases b with
          | false =>
            cases hpe : putE n E o.dst undef with
            | none => obtain ⟨_, _, _, h1, _⟩ := h w hS; simp only [runH, hi, hfr, hwe, hpe, if_true, Option.bind_none] at h1; cases h1
            | some E1 =>
              refine wpAnyH_take (v := undef) hi hn hfr'.1 hfr'.2 (fun c a w => hQ c a o.dst undef w) (.inr ⟨wanted_of ha hwe, rfl⟩) hS ?_
              refine heldTake' hn hQ hS sch _ E1 _ vs.tail ls' fuel (putE_of ha hpe) (fun w' hw' => ?_)
              obtain ⟨ps, ws, E', h1, h2, h3, hk⟩ := h w' hw'
              simp only [runH, hi, hfr, hwe, hpe, if_true, Option.bind_some, Option.map_eq_some_iff] at h1
              obtain ⟨⟨x1, x2, x3, x4, x5⟩, hx, he⟩ := h1
              simp only [Prod.mk.injEq] at he
              obtain ⟨rfl, rfl, rfl, rfl, rfl⟩ := he
              exact ⟨x1, x3, x4, hx, h2, fun x hx => h3 x (List.mem_cons_of_mem _ hx), hk⟩
          | true =>
            cases hokb : okOp E o with
            | false => obtain ⟨_, _, _, h1, _⟩ := h w hS; simp only [runH, hi, hfr, hwe, hokb, if_true, Bool.false_eq_true, if_false] at h1; cases h1
            | true =>
              have key : ∀ w', S w' → ∃ sp sw E1 xp xw E', stepQ P E w' o hh = some (sp, vs.headD undef, sw) ∧ putE n E o.dst (vs.headD undef) = some E1 ∧ runH P ops n sch (ls.setIfInBounds i true) E1 w' = some (xp, vs.tail, xw, E', ls') ∧ All sp ∧ sw = w' ∧ All xp ∧ (∀ x ∈ xw, x = w') ∧ ∀ a', Holds a' n E' → wpAnyH P .any ops Q S fuel ls' a' w := by
                intro w' hc
                obtain ⟨ps, ws, E', h1, h2, h3, hk⟩ := h w' hc
                simp only [runH, hi, hfr, hwe, hokb, if_true, Option.bind_eq_some_iff, Option.map_eq_some_iff] at h1
                obtain ⟨⟨sp, sv, sw⟩, hs1, E1, hE1, ⟨x1, x2, x3, x4, x5⟩, hx, he⟩ := h1
                simp only [Prod.mk.injEq] at he
                obtain ⟨rfl, rfl, rfl, rfl, rfl⟩ := he
                exact ⟨sp, sw, E1, x1, x3, x4, hs1, hE1, hx, (All.app h2).1, h3 _ List.mem_cons_self, (All.app h2).2, fun x hx => h3 x (List.mem_cons_of_mem _ hx), hk⟩
              obtain ⟨sp, sw, E1, xp, xw, E', k1, k2, k3, k4, k5, _⟩ := key w hS
              refine wpAnyH_take (v := vs.headD undef) hi hn hfr'.1 hfr'.2 (fun c a w => hQ c a o.dst _ w) (.inl ⟨wanted_of ha hwe, fun w' hw' => ?_⟩) hS ?_
              · obtain ⟨sp', sw', E1', xp', xw', E'', k1', k2', k3', k4', k5', _⟩ := key w' hw'
                rw [exec_of ha hokb, stepQ_run k1' k4' k5']
              · refine heldTake' hn hQ hS sch _ E1 _ vs.tail ls' fuel (putE_of ha k2) (fun w' hw' => ?_)
                obtain ⟨sp', sw', E1', xp', xw', E'', k1', k2', k3', k4', k5', k6', k7', hk'⟩ := key w' hw'
                rw [k2] at k2'
                cases k2'
                exact ⟨xp', xw', E'', k3', k6', k7', hk'⟩
/-- The takes of a batch, told in one equation. -/
theorem held {P : Program} {ops : Array Oper} {n : Nat} {S : World → Prop} {Q : Exit → Act → World → Prop} {w : World} {ls ls' : Array Bool} {E E' : Env} {a : Act} {vs : List Value} {pf : World → List Prop} {k m : Nat} (fuel : Nat) (hn : Region.noSelect ops = true) (hQ : PanicOk Q) (hS : S w) (ha : Holds a n E) (ks : List Nat) (sch : List (Nat × H)) (hf : m = fuel + sch.length)
    (h : ∀ w, runHK P ops n sch ls E w ks = some (pf w, vs, List.replicate k w, E', ls')) (hq : ∀ w, S w → All (pf w)) (hk : ∀ a', Holds a' n E' → wpAnyH P .any ops Q S fuel ls' a' w) : wpAnyH P .any ops Q S m ls a w := by
  subst hf
  refine heldTake' hn hQ hS sch ls E a vs ls' fuel ha (fun w' hw' => ?_)
  have := h w'
  simp only [runHK, Option.bind_eq_some_iff, Option.map_eq_some_iff] at this
  obtain ⟨⟨p, v, ww, E1, l1⟩, h1, R, hR, he⟩ := this
  simp only [Prod.mk.injEq] at he
  obtain ⟨he1, rfl, rfl, rfl, rfl⟩ := he
  exact ⟨p, _, E1, h1, by rw [he1]; exact hq w' hw', fun x hx => List.eq_of_mem_replicate hx, fun a' ha' => hk a' (ha'.mono (proj_look hR))⟩
theorem heldStart {P : Program} {id : Nat} {ops : Array Oper} {S : World → Prop} {Q : Exit → Act → World → Prop} {a : Act} {w : World} (hm : P.follows .mixedOrders = true) (h : wpAnyH P .any ops Q S ops.size (Array.replicate ops.size false) a w.drew) : (Code.region id ops true).wp P Q a w := wp_region_held hm h
theorem heldDone {P : Program} {ops : Array Oper} {S : World → Prop} {Q : Exit → Act → World → Prop} {a : Act} {w : World} {ls : Array Bool} (fuel : Nat) (hr : Region.ready .any ops ls = []) (h : Q .normal a w) : wpAnyH P .any ops Q S fuel ls a w := wpAnyH_done hr h fuel
/-- Operation number i. -/
def nth (ops : Array Oper) (i : Nat) : Oper := (ops[i]?).getD default
theorem nth_of {ops : Array Oper} {i : Nat} (h : (ops[i]?).isSome = true) : ops[i]? = some (nth ops i) := by
  cases hh : ops[i]? with
  | none => rw [hh] at h; cases h
  | some o => simp [nth, hh]
def putD (E : Env) (d : Option Nat) (v : Value) : Env := match d with | some d => (d, v) :: E | none => E
theorem Holds.putD {a : Act} {n : Nat} {E : Env} (ha : Holds a n E) (d : Option Nat) (v : Value) (hd : (match d with | some d => decide (d < n) | none => true) = true) : Holds (a.put d v) n (putD E d v) := by
  cases d with
  | none => exact ha.put_none v
  | some d => exact ha.put d v (by simpa using hd)
theorem heldCall {P : Program} {ops : Array Oper} {S : World → Prop} {Q : Exit → Act → World → Prop} {a : Act} {n : Nat} {E : Env} {w : World} {ls : Array Bool} {fuel : Nat} (ha : Holds a n E) (i : Nat) (d : Option Nat) (f : FuncId) (args : Array Value) (hr : Region.ready .any ops ls = [i]) (hi : (ops[i]?).isSome = true)
    (hw : wantedE ops E (nth ops i) = some true) (hok : okOp E (nth ops i) = true) (hd : (match d with | some d => decide (d < n) | none => true) = true) (hdd : (nth ops i).dst = d) (he : (execOp (evalE E) (nth ops i)).run P w = .ok (.enter f args) w)
    (hc : Calls P f args w fun e w' => ∃ v, e = .returned v ∧ S w' ∧ ∀ a', Holds a' n (putD E d v) → wpAnyH P .any ops Q S fuel (ls.setIfInBounds i true) a' w') : wpAnyH P .any ops Q S (fuel + 1) ls a w := by
  refine wpAnyH_all hr (by simp) (fun j hj => ?_)
  simp only [List.mem_singleton] at hj
  subst hj
  unfold wpOp
  simp only [nth_of hi, wanted_of ha hw, if_true]
  refine .inl ?_
  unfold Oper.wp
  rw [exec_of ha hok, he]
  refine hc.mono fun e w' ⟨v, e1, hs, h⟩ => ?_
  subst e1
  subst hdd
  exact ⟨hs, h _ (ha.putD _ v hd)⟩
theorem heldOp {P : Program} {ops : Array Oper} {S : World → Prop} {Q : Exit → Act → World → Prop} {a : Act} {n : Nat} {E : Env} {w w' : World} {ls : Array Bool} {fuel : Nat} {v : Value} (ha : Holds a n E) (i : Nat) (d : Option Nat) (hr : Region.ready .any ops ls = [i]) (hi : (ops[i]?).isSome = true)
    (hw : wantedE ops E (nth ops i) = some true) (hok : okOp E (nth ops i) = true) (hd : (match d with | some d => decide (d < n) | none => true) = true) (hdd : (nth ops i).dst = d) (he : (execOp (evalE E) (nth ops i)).run P w = .ok (.value v) w') (hs : S w')
    (hc : ∀ a', Holds a' n (putD E d v) → wpAnyH P .any ops Q S fuel (ls.setIfInBounds i true) a' w') : wpAnyH P .any ops Q S (fuel + 1) ls a w := by
  refine wpAnyH_all hr (by simp) (fun j hj => ?_)
  simp only [List.mem_singleton] at hj
  subst hj
  unfold wpOp
  simp only [nth_of hi, wanted_of ha hw, if_true]
  refine .inl ?_
  unfold Oper.wp
  rw [exec_of ha hok, he]
  subst hdd
  exact ⟨hs, hc _ (ha.putD _ v hd)⟩
theorem heldSt {P : Program} {ops : Array Oper} {S : World → Prop} {Q : Exit → Act → World → Prop} {a : Act} {n : Nat} {E : Env} {w : World} (w' : World) {ls : Array Bool} {fuel : Nat} (ha : Holds a n E) (i : Nat) (t : TypeId) (x v : Value) (hr : Region.ready .any ops ls = [i]) (hi : (ops[i]?).isSome = true)
    (hw : wantedE ops E (nth ops i) = some true) (hok : okOp E (nth ops i) = true) (hdd : (nth ops i).dst = none) (hop : execOp (evalE E) (nth ops i) = (do Instr.storeAt t x v; pure .skip)) (he : (Instr.storeAt t x v).run P w = .ok () w') (hs : S w')
    (hc : ∀ a', Holds a' n E → wpAnyH P .any ops Q S fuel (ls.setIfInBounds i true) a' w') : wpAnyH P .any ops Q S (fuel + 1) ls a w := by
  refine wpAnyH_all hr (by simp) (fun j hj => ?_)
  simp only [List.mem_singleton] at hj
  subst hj
  unfold wpOp
  simp only [nth_of hi, wanted_of ha hw, if_true]
  refine .inl ?_
  unfold Oper.wp
  rw [exec_of ha hok, hop, run_bind_ok he]
  refine ⟨hs, hc _ ?_⟩
  rw [hdd]; exact ha.put_none _
end Go.FW

namespace Go.FW
open Go Go.RowKit

/-! ### Cells -/
theorem ld {P : Program} {w : World} {t : TypeId} {a : Addr} {v : Value} (hagg : ∀ w, (isAgg t).run P w = .ok false w) (hc : w.cell? a = some v) : (Instr.loadAt t (.pointer (some a))).run P w = .ok v w := by
  show ((isAgg t) >>= fun b => if b then _ else load a).run P w = _
  rw [run_bind_ok (hagg w)]
  simp only [Bool.false_eq_true, if_false, load, Sem.run, hc]
def one : Value → Bool
  | .agg _ | .tuple _ => false
  | _ => true
theorem one_int {k : IntKind} {n : Int} : one (.int k n) = true := rfl
theorem one_bool {b : Bool} : one (.bool b) = true := rfl
theorem one_slice {a : Option Addr} {n c : Nat} : one (.slice a n c) = true := rfl
theorem one_ptr {a : Option Addr} : one (.pointer a) = true := rfl
theorem one_str {b : ByteArray} : one (.string b) = true := rfl
theorem one_float {k : FloatKind} {b : Nat} : one (.float k b) = true := rfl
theorem one_func {f : Fn} {x y : Array Value} : one (.func f x y) = true := rfl
theorem one_nilf : one .nilFunc = true := rfl
theorem one_map {m : Option Nat} : one (.map m) = true := rfl
def putAll : Array Value → Nat → List Value → Array Value
  | c, _, [] => c
  | c, k, v :: vs => putAll (c.setIfInBounds k v) (k + 1) vs
theorem putAll_size : ∀ (vs : List Value) (c : Array Value) (k : Nat), (putAll c k vs).size = c.size
  | [], _, _ => rfl
  | v :: vs, c, k => by simp only [putAll]; rw [putAll_size vs]; simp
theorem add_at (b off i : Nat) : (⟨b, off, none⟩ : Addr).add i = ⟨b, off + i, none⟩ := by
  unfold Addr.add
  split
  · rename_i h; subst h; rfl
  · rfl
/-- What a step that turns one block leaves. -/
structure Only (b : Nat) (w w1 : World) : Prop where
  os : w1.os = w.os
  tape : w1.tape = w.tape
  output : w1.output = w.output
  size : w1.heap.size = w.heap.size
  block : ∀ k, k ≠ b → w1.heap[k]? = w.heap[k]?
theorem Only.refl (b : Nat) (w : World) : Only b w w := ⟨rfl, rfl, rfl, rfl, fun _ _ => rfl⟩
theorem Only.trans {b : Nat} {w w1 w2 : World} (h : Only b w w1) (k : Only b w1 w2) : Only b w w2 :=
  ⟨k.os.trans h.os, k.tape.trans h.tape, k.output.trans h.output, k.size.trans h.size, fun i hi => (k.block i hi).trans (h.block i hi)⟩
theorem setCell_only (w : World) (a : Addr) (v : Value) : Only a.block w (w.setCell a v) :=
  ⟨rfl, rfl, rfl, by simp [World.setCell], fun k hk => Below.heap_setCell w a v k hk⟩
theorem setCell_blk {w : World} {b k : Nat} {c : Array Value} {e : TypeId} {f : Nat × Nat} {v : Value} (h : w.heap[b]? = some (.cells c e f)) : (w.setCell ⟨b, k, none⟩ v).heap[b]? = some (.cells (c.setIfInBounds k v) e f) := by
  simp only [World.setCell, Array.getElem?_modify, if_true, h, Option.map_some]
  rfl
theorem cell_of {w : World} {b k : Nat} {c : Array Value} {e : TypeId} {f : Nat × Nat} (h : w.heap[b]? = some (.cells c e f)) : w.cell? ⟨b, k, none⟩ = c[k]? := by simp [World.cell?, h]
theorem frozen_of {w : World} {b k : Nat} {c : Array Value} {e : TypeId} (h : w.heap[b]? = some (.cells c e (0, 0))) : w.frozen? ⟨b, k, none⟩ = false := by simp [World.frozen?, h]
theorem storeCells_run {P : Program} {b off : Nat} {e : TypeId} : ∀ (vs : List Value) (i : Nat) (w : World) (c : Array Value), w.heap[b]? = some (.cells c e (0, 0)) → off + i + vs.length ≤ c.size → (∀ v ∈ vs, one v = true) →
    ∃ w1, (storeCells ⟨b, off, none⟩ vs i).run P w = .ok () w1 ∧ w1.heap[b]? = some (.cells (putAll c (off + i) vs) e (0, 0)) ∧ Only b w w1
  | [], i, w, c, h, hl, ho => ⟨w, rfl, h, Only.refl b w⟩
  | v :: vs, i, w, c, h, hl, ho => by
    simp only [List.length_cons] at hl
    have h1 := setCell_blk (k := off + i) (v := v) h
    obtain ⟨w1, hr, hb, hon⟩ := storeCells_run (P := P) (off := off) vs (i + 1) _ _ h1 (by simp; omega) (fun u hu => ho u (List.mem_cons_of_mem _ hu))
    refine ⟨w1, ?_, ?_, Only.trans (setCell_only w ⟨b, off + i, none⟩ v) hon⟩
    · have hv := ho v List.mem_cons_self
      have hc : w.cell? ⟨b, off + i, none⟩ = some c[off + i] := by rw [cell_of h]; simp [show off + i < c.size by omega]
      unfold storeCells
      rw [add_at]
      show (Sem.store .plain _ v (.pure ()) >>= fun _ => _).run P w = _
      rw [Sem.run_bind]
      have : (Sem.store .plain ⟨b, off + i, none⟩ v (.pure ())).run P w = .ok () (w.setCell ⟨b, off + i, none⟩ v) := by
        cases v <;> first
          | (simp only [Sem.run, hc, frozen_of h]; rfl)
          | (simp [one] at hv)
      rw [this]; exact hr
    · rw [hb]; simp only [putAll, Nat.add_assoc]
theorem st_run {P : Program} {b off : Nat} {e : TypeId} {w : World} {c : Array Value} {t : TypeId} {v : Value} {n : Nat} (hsz : ∀ w, (sizeOf t).run P w = .ok n w) (hn : v.cells.size = n) (ho : ∀ u ∈ v.cells.toList, one u = true)
    (h : w.heap[b]? = some (.cells c e (0, 0))) (hl : off + n ≤ c.size) :
    ∃ w1, (Instr.storeAt t (.pointer (some ⟨b, off, none⟩)) v).run P w = .ok () w1 ∧ w1.heap[b]? = some (.cells (putAll c off v.cells.toList) e (0, 0)) ∧ Only b w w1 := by
  obtain ⟨w1, hr, hb, hon⟩ := storeCells_run (P := P) (off := off) v.cells.toList 0 w c h (by simp [hn]; omega) ho
  refine ⟨w1, ?_, hb, hon⟩
  show ((sizeOf t) >>= fun k => _).run P w = _
  rw [run_bind_ok (hsz w), if_neg (by simp [hn])]
  exact hr
theorem ld_row {P : Program} {w : World} {t : TypeId} {b off n : Nat} {c : Array Value} {e : TypeId} {f : Nat × Nat} (hagg : ∀ w, (isAgg t).run P w = .ok true w) (hsz : ∀ w, (sizeOf t).run P w = .ok n w) (h : w.heap[b]? = some (.cells c e f)) (hl : off + n ≤ c.size) :
    (loadVar t ⟨b, off, none⟩).run P w = .ok (.agg (c.extract off (off + n))) w := by
  have key : ∀ (m i : Nat) (acc : Array Value), off + i + m ≤ c.size → (loadCellsFrom ⟨b, off, none⟩ i m acc).run P w = .ok (acc ++ c.extract (off + i) (off + i + m)) w := by
    intro m
    induction m with
    | zero =>
      intro i acc _
      have : c.extract (off + i) (off + i + 0) = #[] := by apply Array.ext <;> simp <;> omega
      rw [this]; simp [loadCellsFrom]
    | succ m ih =>
      intro i acc hh
      unfold loadCellsFrom
      rw [add_at]
      have hc : w.cell? ⟨b, off + i, none⟩ = some c[off + i] := by rw [cell_of h]; simp [show off + i < c.size by omega]
      have : (load ⟨b, off + i, none⟩).run P w = .ok c[off + i] w := by simp only [load, Sem.run, hc]
      rw [run_bind_ok this, ih (i + 1) _ (by omega)]
      congr 1
      rw [Array.push_eq_append, Array.append_assoc]
      congr 1
      apply Array.ext
      · simp; omega
      · intro j h1 h2
        simp only [Array.getElem_append, Array.getElem_extract]
        by_cases hj : j < 1
        · have : j = 0 := by omega
          subst this; simp
        · simp only [List.size_toArray, List.length_cons, List.length_nil, Nat.zero_add, hj, dite_false]
          congr 1; omega
  show ((isAgg t) >>= fun b => if b then ((do pure (.agg (← loadCells _ (← sizeOf t)))) : Sem Value) else _).run P w = _
  rw [run_bind_ok (hagg w)]
  simp only [if_true]
  rw [run_bind_ok (hsz w)]
  have := key n 0 #[] (by omega)
  rw [run_bind_ok (show (loadCells ⟨b, off, none⟩ n).run P w = .ok _ w from this)]
  simp

theorem ld_agg {P : Program} {w : World} {t : TypeId} {b off n : Nat} {c vs : Array Value} {e : TypeId} {f : Nat × Nat} (hagg : ∀ w, (isAgg t).run P w = .ok true w) (hsz : ∀ w, (sizeOf t).run P w = .ok n w) (h : w.heap[b]? = some (.cells c e f)) (hl : off + n ≤ c.size) (hv : c.extract off (off + n) = vs) :
    (loadVar t ⟨b, off, none⟩).run P w = .ok (.agg vs) w := by rw [ld_row hagg hsz h hl, hv]
theorem set_at {L : List (Nat × Obj)} {i : Nat} {x y : Nat × Obj} (h : L[i]? = some x) : (L.set i y)[i]? = some y := by
  have : i < L.length := by
    rcases Nat.lt_or_ge i L.length with h' | h'
    · exact h'
    · rw [List.getElem?_eq_none h'] at h; cases h
  rw [List.getElem?_set_self this]
theorem set_id {L : List (Nat × Obj)} {i : Nat} {x : Nat × Obj} (h : L[i]? = some x) : L.set i x = L := by
  apply List.ext_getElem?
  intro j
  by_cases hij : i = j
  · subst hij; rw [set_at h, h]
  · rw [List.getElem?_set_ne hij]
/-! ### The blocks that a function has in hand -/
structure Hp (S : List Nat) (w W : World) (L : List (Nat × Obj)) : Prop where
  os : W.os = w.os
  tape : W.tape = w.tape
  output : W.output = w.output
  size : w.heap.size ≤ W.heap.size
  keep : ∀ b, b < w.heap.size → b ∉ S → W.heap[b]? = w.heap[b]?
  has : ∀ (i b : Nat) (o : Obj), L[i]? = some (b, o) → W.heap[b]? = some o
  mine : ∀ (i b : Nat) (o : Obj), L[i]? = some (b, o) → b ∈ S ∨ w.heap.size ≤ b
  apart : ∀ (i j b : Nat) (o o' : Obj), L[i]? = some (b, o) → L[j]? = some (b, o') → i = j

theorem Hp.start (w : World) : Hp [] w w [] := ⟨rfl, rfl, rfl, Nat.le_refl _, fun _ _ _ => rfl, fun i b o h => by simp at h, fun i b o h => by simp at h, fun i j b o o' h => by simp at h⟩
theorem Hp.start1 {w : World} {g : Nat} {o : Obj} (h : w.heap[g]? = some o) : Hp [g] w w [(g, o)] :=
  ⟨rfl, rfl, rfl, Nat.le_refl _, fun _ _ _ => rfl, fun i b o' h' => by
    cases i with
    | zero => simp at h'; obtain ⟨rfl, rfl⟩ := h'; exact h
    | succ i => simp at h', fun i b o' h' => by
    cases i with
    | zero => simp at h'; obtain ⟨rfl, rfl⟩ := h'; exact .inl (by simp)
    | succ i => simp at h', fun i j b o1 o2 h1 h2 => by
    cases i <;> cases j <;> simp_all⟩
theorem Hp.lt {S : List Nat} {w W : World} {L : List (Nat × Obj)} (h : Hp S w W L) {i b : Nat} {o : Obj} (hi : L[i]? = some (b, o)) : b < W.heap.size := by
  have := h.has i b o hi
  rcases Nat.lt_or_ge b W.heap.size with h' | h'
  · exact h'
  · rw [Array.getElem?_eq_none h'] at this; cases this
theorem Hp.drewN {S : List Nat} {w W : World} {L : List (Nat × Obj)} (h : Hp S w W L) (m : Nat) : Hp S w (W.drewN m) L := ⟨h.os, h.tape, h.output, h.size, h.keep, h.has, h.mine, h.apart⟩
theorem Hp.drew {S : List Nat} {w W : World} {L : List (Nat × Obj)} (h : Hp S w W L) : Hp S w W.drew L := ⟨h.os, h.tape, h.output, h.size, h.keep, h.has, h.mine, h.apart⟩
theorem Hp.alloc {S : List Nat} {w W : World} {L : List (Nat × Obj)} (h : Hp S w W L) (o : Obj) : Hp S w (W.alloc o) ((W.heap.size, o) :: L) := by
  have hlt : ∀ (i b : Nat) (o' : Obj), L[i]? = some (b, o') → b < W.heap.size := fun i b o' hi => h.lt hi
  refine ⟨h.os, h.tape, h.output, ?_, ?_, ?_, ?_, ?_⟩
  · have := h.size; show _ ≤ (W.heap.push o).size; simp only [Array.size_push]; omega
  · intro b hb hS
    rw [Below.heap_alloc W o b (Nat.lt_of_lt_of_le hb h.size)]; exact h.keep b hb hS
  · intro i b o' hi
    cases i with
    | zero => simp at hi; obtain ⟨rfl, rfl⟩ := hi; show (W.heap.push o)[W.heap.size]? = _; simp
    | succ i =>
      have hi' : L[i]? = some (b, o') := by simpa using hi
      rw [Below.heap_alloc W o b (hlt i b o' hi')]; exact h.has i b o' hi'
  · intro i b o' hi
    cases i with
    | zero => simp at hi; obtain ⟨rfl, rfl⟩ := hi; exact .inr h.size
    | succ i => exact h.mine i b o' (by simpa using hi)
  · intro i j b o1 o2 h1 h2
    cases i with
    | zero =>
      simp at h1; obtain ⟨rfl, rfl⟩ := h1
      cases j with
      | zero => rfl
      | succ j => exact absurd (hlt j _ _ (by simpa using h2)) (Nat.lt_irrefl _)
    | succ i =>
      have h1' : L[i]? = some (b, o1) := by simpa using h1
      cases j with
      | zero => simp at h2; obtain ⟨rfl, rfl⟩ := h2; exact absurd (hlt i _ _ h1') (Nat.lt_irrefl _)
      | succ j => rw [h.apart i j b o1 o2 h1' (by simpa using h2)]
/-- One block in hand has been turned, all others stand. -/
theorem Hp.only {S : List Nat} {w W W1 : World} {L : List (Nat × Obj)} (h : Hp S w W L) (i : Nat) {b : Nat} {o o1 : Obj} (hi : L[i]? = some (b, o)) (hon : Only b W W1) (h1 : W1.heap[b]? = some o1) : Hp S w W1 (L.set i (b, o1)) := by
  have hil : i < L.length := by
    rcases Nat.lt_or_ge i L.length with h' | h'
    · exact h'
    · rw [List.getElem?_eq_none h'] at hi; cases hi
  have key : ∀ (j c : Nat) (o' : Obj), (L.set i (b, o1))[j]? = some (c, o') → (j = i ∧ c = b ∧ o' = o1) ∨ (j ≠ i ∧ L[j]? = some (c, o')) := by
    intro j c o' hj
    by_cases hij : i = j
    · subst hij
      rw [List.getElem?_set_self hil] at hj
      simp only [Option.some.injEq, Prod.mk.injEq] at hj
      exact .inl ⟨rfl, hj.1.symm, hj.2.symm⟩
    · rw [List.getElem?_set_ne hij] at hj
      exact .inr ⟨fun e => hij e.symm, hj⟩
  refine ⟨hon.os.trans h.os, hon.tape.trans h.tape, hon.output.trans h.output, by rw [hon.size]; exact h.size, ?_, ?_, ?_, ?_⟩
  · intro c hc hS
    rw [hon.block c (fun e => ?_)]
    · exact h.keep c hc hS
    · subst e
      rcases h.mine i c o hi with h' | h'
      · exact hS h'
      · omega
  · intro j c o' hj
    rcases key j c o' hj with ⟨_, rfl, rfl⟩ | ⟨hne, hj'⟩
    · exact h1
    · rw [hon.block c (fun e => hne (by subst e; exact h.apart j i c o' o hj' hi))]
      exact h.has j c o' hj'
  · intro j c o' hj
    rcases key j c o' hj with ⟨_, rfl, rfl⟩ | ⟨_, hj'⟩
    · exact h.mine i c o hi
    · exact h.mine j c o' hj'
  · intro j k c o1' o2' hj hk
    rcases key j c o1' hj with ⟨rfl, rfl, rfl⟩ | ⟨hne, hj'⟩
    · rcases key k c o2' hk with ⟨rfl, _, _⟩ | ⟨hne2, hk'⟩
      · rfl
      · exact absurd (h.apart k j c o2' o hk' hi) hne2
    · rcases key k c o2' hk with ⟨rfl, rfl, rfl⟩ | ⟨hne2, hk'⟩
      · exact absurd (h.apart j k c o1' o hj' hi) hne
      · exact h.apart j k c o1' o2' hj' hk'
/-- A store into a block in hand. -/
theorem Hp.store {P : Program} {S : List Nat} {w W : World} {L : List (Nat × Obj)} (h : Hp S w W L) (i : Nat) {b : Nat} {c : Array Value} {e : TypeId} (off : Nat) (t : TypeId) (v : Value) (n : Nat) (hi : L[i]? = some (b, .cells c e (0, 0)))
    (hsz : ∀ w, (sizeOf t).run P w = .ok n w) (hn : v.cells.size = n) (ho : ∀ u ∈ v.cells.toList, one u = true) (hl : off + n ≤ c.size) :
    ∃ W1, (Instr.storeAt t (.pointer (some ⟨b, off, none⟩)) v).run P W = .ok () W1 ∧ Hp S w W1 (L.set i (b, .cells (putAll c off v.cells.toList) e (0, 0))) ∧ Only b W W1 := by
  obtain ⟨W1, hr, hb, hon⟩ := st_run (P := P) hsz hn ho (h.has i b _ hi) hl
  exact ⟨W1, hr, h.only i hi hon hb, hon⟩
theorem Hp.cell {S : List Nat} {w W : World} {L : List (Nat × Obj)} (h : Hp S w W L) (i k : Nat) {b : Nat} {c : Array Value} {e : TypeId} {f : Nat × Nat} {v : Value} (hi : L[i]? = some (b, .cells c e f)) (hv : c[k]? = some v) : W.cell? ⟨b, k, none⟩ = some v := by
  rw [cell_of (h.has i b _ hi), hv]
/-- A step that leaves every old block alone. -/
theorem Hp.below {S : List Nat} {w W W1 : World} {L : List (Nat × Obj)} (h : Hp S w W L) (hb : Below W.heap.size W W1) : Hp S w W1 L :=
  ⟨hb.os.trans h.os, hb.tape.trans h.tape, hb.output.trans h.output, Nat.le_trans h.size hb.size, fun b hlt hS => (hb.block b (Nat.lt_of_lt_of_le hlt h.size)).trans (h.keep b hlt hS),
   fun i b o hi => (hb.block b (h.lt hi)).trans (h.has i b o hi), h.mine, h.apart⟩
/-- A step that turns one block in hand and makes others. -/
theorem Hp.but {S : List Nat} {w W W1 : World} {L : List (Nat × Obj)} (h : Hp S w W L) (i : Nat) {b : Nat} {o o1 : Obj} (hi : L[i]? = some (b, o)) (hos : W1.os = W.os) (htp : W1.tape = W.tape) (hout : W1.output = W.output) (hsz : W.heap.size ≤ W1.heap.size)
    (hk : ∀ k, k < W.heap.size → k ≠ b → W1.heap[k]? = W.heap[k]?) (h1 : W1.heap[b]? = some o1) : Hp S w W1 (L.set i (b, o1)) := by
  -- first the step as 'Only' upon the old blocks: by hand
  have hil : i < L.length := by
    rcases Nat.lt_or_ge i L.length with h' | h'
    · exact h'
    · rw [List.getElem?_eq_none h'] at hi; cases hi
  have key : ∀ (j c : Nat) (o' : Obj), (L.set i (b, o1))[j]? = some (c, o') → (j = i ∧ c = b ∧ o' = o1) ∨ (j ≠ i ∧ L[j]? = some (c, o')) := by
    intro j c o' hj
    by_cases hij : i = j
    · subst hij
      rw [List.getElem?_set_self hil] at hj
      simp only [Option.some.injEq, Prod.mk.injEq] at hj
      exact .inl ⟨rfl, hj.1.symm, hj.2.symm⟩
    · rw [List.getElem?_set_ne hij] at hj
      exact .inr ⟨fun e => hij e.symm, hj⟩
  refine ⟨hos.trans h.os, htp.trans h.tape, hout.trans h.output, Nat.le_trans h.size hsz, ?_, ?_, ?_, ?_⟩
  · intro c hc hS
    rw [hk c (Nat.lt_of_lt_of_le hc h.size) (fun e => ?_)]
    · exact h.keep c hc hS
    · subst e
      rcases h.mine i c o hi with h' | h'
      · exact hS h'
      · omega
  · intro j c o' hj
    rcases key j c o' hj with ⟨_, rfl, rfl⟩ | ⟨hne, hj'⟩
    · exact h1
    · rw [hk c (h.lt hj') (fun e => hne (by subst e; exact h.apart j i c o' o hj' hi))]
      exact h.has j c o' hj'
  · intro j c o' hj
    rcases key j c o' hj with ⟨_, rfl, rfl⟩ | ⟨_, hj'⟩
    · exact h.mine i c o hi
    · exact h.mine j c o' hj'
  · intro j k c o1' o2' hj hk2
    rcases key j c o1' hj with ⟨rfl, rfl, rfl⟩ | ⟨hne, hj'⟩
    · rcases key k c o2' hk2 with ⟨rfl, _, _⟩ | ⟨hne2, hk'⟩
      · rfl
      · exact absurd (h.apart k j c o2' o hk' hi) hne2
    · rcases key k c o2' hk2 with ⟨rfl, rfl, rfl⟩ | ⟨hne2, hk'⟩
      · exact absurd (h.apart j k c o1' o hj' hi) hne
      · exact h.apart j k c o1' o2' hj' hk'
theorem Hp.keepBelow {w W : World} {L : List (Nat × Obj)} (h : Hp [] w W L) : Below w.heap.size w W := ⟨h.os, h.tape, h.output, h.size, fun k hk => h.keep k hk (by simp)⟩
/-- Below a base that is older than what may be written. -/
theorem Hp.belowAt {S : List Nat} {w0 w W : World} {L : List (Nat × Obj)} (h : Hp S w W L) (hb : Below w0.heap.size w0 w) (hS : ∀ b ∈ S, w0.heap.size ≤ b) : Below w0.heap.size w0 W :=
  hb.trans ⟨h.os, h.tape, h.output, h.size, fun k hk => h.keep k (Nat.lt_of_lt_of_le hk hb.size) (fun hm => by have := hS k hm; omega)⟩
theorem Hp.sub {S : List Nat} {w W : World} {L L' : List (Nat × Obj)} (h : Hp S w W L) (f : Nat → Nat) (hf : ∀ i b o, L'[i]? = some (b, o) → L[f i]? = some (b, o)) (hinj : ∀ i j, i < L'.length → j < L'.length → f i = f j → i = j) : Hp S w W L' :=
  ⟨h.os, h.tape, h.output, h.size, h.keep, fun i b o hi => h.has (f i) b o (hf i b o hi), fun i b o hi => h.mine (f i) b o (hf i b o hi), fun i j b o o' hi hj => by
    have hl : ∀ {k : Nat} {x : Nat × Obj}, L'[k]? = some x → k < L'.length := fun {k x} hk => by
      rcases Nat.lt_or_ge k L'.length with h' | h'
      · exact h'
      · rw [List.getElem?_eq_none h'] at hk; cases hk
    exact hinj i j (hl hi) (hl hj) (h.apart (f i) (f j) b o o' (hf i b o hi) (hf j b o' hj))⟩
/-- A call that was walked with blocks in hand of its own. -/
theorem Hp.call {S S' : List Nat} {w W W1 : World} {L L' : List (Nat × Obj)} (h : Hp S w W L) (i : Nat) {g : Nat} {o o1 : Obj} (hi : L[i]? = some (g, o)) (h' : Hp S' W W1 L') (hS : ∀ b ∈ S', b = g) (j : Nat) (hj : L'[j]? = some (g, o1)) : Hp S w W1 (L.set i (g, o1)) :=
  h.but i hi h'.os h'.tape h'.output h'.size (fun k hk hne => h'.keep k hk (fun hm => hne (hS k hm))) (h'.has j g o1 hj)
end Go.FW

namespace Go.FW
open Go Go.RowKit
/-! ### Statements one behind the other -/
theorem plainS {P : Program} {id : Nat} {l : List Oper} {y : Code} {Q : Exit → Act → World → Prop} {a : Act} {n : Nat} {E E' : Env} {w w' : World} {qs : List Prop} (ha : Holds a n E) (ks : List Nat) (hs : List H)
    (h : runK P l.toArray n l hs E w ks = some (E', w', qs)) (hq : All qs) (hk : ∀ a', Holds a' n E' → y.wp P Q a' w') : (Code.seq (Code.region id l.toArray false) y).wp P Q a w :=
  wp_seq (plain ha ks hs h hq hk)
theorem plainToS {P : Program} {id : Nat} {L : List Oper} {y : Code} (j : Nat) {Q : Exit → Act → World → Prop} {a : Act} {n : Nat} {E E' : Env} {w w' : World} {qs : List Prop} (ha : Holds a n E) (ks : List Nat) (hs : List H)
    (h : runK P L.toArray n (L.take j) hs E w ks = some (E', w', qs)) (hq : All qs) (hk : ∀ a', Holds a' n E' → wpList P L.toArray (Exit.then (y.wp P Q) Q) (L.drop j) a' w') : (Code.seq (Code.region id L.toArray false) y).wp P Q a w :=
  wp_seq (plainTo j ha ks hs h hq hk)
theorem listEndS {P : Program} {ops : Array Oper} {l : List Oper} {y : Code} {Q : Exit → Act → World → Prop} {a : Act} {n : Nat} {E E' : Env} {w w' : World} {qs : List Prop} (ha : Holds a n E) (ks : List Nat) (hs : List H)
    (h : runK P ops n l hs E w ks = some (E', w', qs)) (hq : All qs) (hk : ∀ a', Holds a' n E' → y.wp P Q a' w') : wpList P ops (Exit.then (y.wp P Q) Q) l a w := listEnd ha ks hs h hq hk
theorem heldStartS {P : Program} {id : Nat} {ops : Array Oper} {S : World → Prop} {y : Code} {Q : Exit → Act → World → Prop} {a : Act} {w : World} (hm : P.follows .mixedOrders = true) (h : wpAnyH P .any ops (Exit.then (y.wp P Q) Q) S ops.size (Array.replicate ops.size false) a w.drew) : (Code.seq (Code.region id ops true) y).wp P Q a w := wp_seq (heldStart hm h)
theorem heldDoneS {P : Program} {ops : Array Oper} {S : World → Prop} {y : Code} {Q : Exit → Act → World → Prop} {a : Act} {w : World} {ls : Array Bool} {fuel : Nat} (hr : Region.ready .any ops ls = []) (h : y.wp P Q a w) : wpAnyH P .any ops (Exit.then (y.wp P Q) Q) S fuel ls a w := heldDone fuel hr h
theorem quietS {P : Program} {id : Nat} {l : List Oper} {y : Code} {Q : Exit → Act → World → Prop} {a : Act} {n : Nat} {E E' : Env} {w : World} {pf : Nat → List Prop} {vs : List Value} {k : Nat} (hm : P.follows .mixedOrders = true) (hB : Region.lexB .any l.toArray = true)
    (ha : Holds a n E) (ks : List Nat) (hs : List H)
    (h : ∀ m, runQK P l.toArray n l hs E (w.drewN m) ks = some (pf m, vs, List.replicate k (w.drewN m), E')) (hq : ∀ m, All (pf m)) (hk : ∀ m a', Holds a' n E' → y.wp P Q a' (w.drewN m)) : (Code.seq (Code.region id l.toArray true) y).wp P Q a w :=
  wp_seq (quiet hm hB ha ks hs h hq hk)
theorem condST {P : Program} {t : Nat} {x z y : Code} {Q : Exit → Act → World → Prop} {a : Act} {n : Nat} {E : Env} {w : World} {b : Bool} (ha : Holds a n E) (hl : look E t = some (.bool b)) (hb : b = true) (h : x.wp P (Exit.then (y.wp P Q) Q) a w) : (Code.seq (Code.cond (.tmp t) x z) y).wp P Q a w :=
  wp_seq (condT ha (by rw [hl, hb]) h)
theorem condSE {P : Program} {t : Nat} {x z y : Code} {Q : Exit → Act → World → Prop} {a : Act} {n : Nat} {E : Env} {w : World} {b : Bool} (ha : Holds a n E) (hl : look E t = some (.bool b)) (hb : b = false) (h : z.wp P (Exit.then (y.wp P Q) Q) a w) : (Code.seq (Code.cond (.tmp t) x z) y).wp P Q a w :=
  wp_seq (condF ha (by rw [hl, hb]) h)
theorem condLT {P : Program} {t : Nat} {x z : Code} {Q : Exit → Act → World → Prop} {a : Act} {n : Nat} {E : Env} {w : World} {b : Bool} (ha : Holds a n E) (hl : look E t = some (.bool b)) (hb : b = true) (h : x.wp P Q a w) : (Code.cond (.tmp t) x z).wp P Q a w := condT ha (by rw [hl, hb]) h
theorem condLF {P : Program} {t : Nat} {x : Code} {Q : Exit → Act → World → Prop} {a : Act} {n : Nat} {E : Env} {w : World} {b : Bool} (ha : Holds a n E) (hl : look E t = some (.bool b)) (hb : b = false) (h : Q .normal a w) : (Code.cond (.tmp t) x .skip).wp P Q a w := condF ha (by rw [hl, hb]) (wp_skip h)
/-! ### Small facts -/
theorem nowrap {x : Int} (h : -9223372036854775808 ≤ x ∧ x ≤ 9223372036854775807) : Value.int .i64 (IntKind.wrap .i64 x) = Value.int .i64 x := by rw [IntWalk.i64_in _ h]
theorem shr {k : IntKind} {x : Int} {c : Nat} : Value.int k (Int.fdiv x (2 ^ c)) = Value.int k (x / (2 ^ c)) := by rw [Int.fdiv_eq_ediv_of_nonneg _ (by exact Int.le_of_lt (Int.pow_pos (by decide)))]
theorem bT {p : Prop} [Decidable p] (h : p) : Value.bool (decide p) = Value.bool true := by rw [decide_eq_true h]
theorem bF {p : Prop} [Decidable p] (h : ¬ p) : Value.bool (decide p) = Value.bool false := by rw [decide_eq_false h]
theorem eT {x y : Int} (h : x = y) : Value.bool (x == y) = Value.bool true := by rw [beq_iff_eq.mpr h]
theorem eF {x y : Int} (h : x ≠ y) : Value.bool (x == y) = Value.bool false := by rw [beq_eq_false_iff_ne.mpr h]
end Go.FW

namespace Go.FW
open Go Go.RowKit
theorem exec_run {P : Program} {ρ : Operand → Value} {o : Oper} {m : Sem Value} {w w' : World} {v : Value} (hm : execOp ρ o = (do let v ← m; pure (.value v))) (hr : m.run P w = .ok v w') : (execOp ρ o).run P w = .ok (.value v) w' := by
  rw [hm, run_bind_ok hr]; rfl
/-! ### Slices of a function's own (elements of one cell) -/
def Apart (S : List Nat) (w : World) (L : List (Nat × Obj)) (v : Value) : Prop := ∀ g, v.ownBlock = some g → (g ∈ S ∨ w.heap.size ≤ g) ∧ ∀ (i b : Nat) (o : Obj), L[i]? = some (b, o) → b ≠ g
def Ow (S : List Nat) (w W : World) (L : List (Nat × Obj)) (e : TypeId) (v : Value) (xs : List Value) : Prop := W.ownsRow 0 e 1 v xs.length xs ∧ Apart S w L v
section
variable {S : List Nat} {w W W1 : World} {L L' : List (Nat × Obj)} {e : TypeId} {v : Value} {xs : List Value}
theorem ownsRow_move (h : W.ownsRow 0 e 1 v xs.length xs) (hm : ∀ g, v.ownBlock = some g → g < W.heap.size → W1.heap[g]? = W.heap[g]?) : W1.ownsRow 0 e 1 v xs.length xs := by
  obtain ⟨h1, h2⟩ := h
  refine ⟨h1, ?_⟩
  rcases h2 with h2 | ⟨g, cap, cur, rfl, hg, hh, r⟩
  · exact .inl h2
  · have hlt : g < W.heap.size := by
      rcases Nat.lt_or_ge g W.heap.size with h' | h'
      · exact h'
      · rw [Array.getElem?_eq_none h'] at hh; cases hh
    exact .inr ⟨g, cap, cur, rfl, hg, (hm g rfl hlt).trans hh, r⟩
theorem Ow.lt (h : Ow S w W L e v xs) {g : Nat} (hg : v.ownBlock = some g) : g < W.heap.size := by
  rcases h.1.2 with ⟨rfl, _⟩ | ⟨g', cap, cur, rfl, _, hh, _⟩
  · cases hg
  · simp only [Value.ownBlock, Option.some.injEq] at hg
    subst hg
    rcases Nat.lt_or_ge g' W.heap.size with h' | h'
    · exact h'
    · rw [Array.getElem?_eq_none h'] at hh; cases hh
theorem Ow.nil : Ow S w W L e (.slice none 0 0) [] := ⟨⟨rfl, .inl ⟨rfl, rfl⟩⟩, fun g hg => by cases hg⟩
theorem Ow.drewN (h : Ow S w W L e v xs) (m : Nat) : Ow S w (W.drewN m) L e v xs := h
theorem Ow.drew (h : Ow S w W L e v xs) : Ow S w W.drew L e v xs := h
theorem Ow.only (h : Ow S w W L e v xs) (i : Nat) {b : Nat} {o o1 : Obj} (hi : L[i]? = some (b, o)) (hon : Only b W W1) : Ow S w W1 (L.set i (b, o1)) e v xs := by
  refine ⟨ownsRow_move h.1 (fun g hg _ => hon.block g (fun he => (h.2 g hg).2 i b o hi he.symm)), fun g hg => ⟨(h.2 g hg).1, fun j c o' hj => ?_⟩⟩
  by_cases hij : i = j
  · subst hij
    have hil : i < L.length := by
      rcases Nat.lt_or_ge i L.length with h' | h'
      · exact h'
      · rw [List.getElem?_eq_none h'] at hi; cases hi
    rw [List.getElem?_set_self hil] at hj
    simp only [Option.some.injEq, Prod.mk.injEq] at hj
    rw [← hj.1]; exact (h.2 g hg).2 i b o hi
  · rw [List.getElem?_set_ne hij] at hj
    exact (h.2 g hg).2 j c o' hj
theorem Ow.alloc (h : Ow S w W L e v xs) (o : Obj) : Ow S w (W.alloc o) ((W.heap.size, o) :: L) e v xs := by
  refine ⟨ownsRow_move h.1 (fun g _ hlt => Below.heap_alloc W o g hlt), fun g hg => ⟨(h.2 g hg).1, fun j c o' hj => ?_⟩⟩
  cases j with
  | zero => simp at hj; rw [← hj.1]; exact fun he => absurd (h.lt hg) (by omega)
  | succ j => exact (h.2 g hg).2 j c o' (by simpa using hj)
theorem Ow.below (h : Ow S w W L e v xs) (hb : Below W.heap.size W W1) : Ow S w W1 L e v xs := ⟨ownsRow_move h.1 (fun g _ hlt => hb.block g hlt), h.2⟩
theorem Ow.but (h : Ow S w W L e v xs) (i : Nat) {b : Nat} {o o1 : Obj} (hi : L[i]? = some (b, o)) (hk : ∀ k, k < W.heap.size → k ≠ b → W1.heap[k]? = W.heap[k]?) : Ow S w W1 (L.set i (b, o1)) e v xs := by
  refine ⟨ownsRow_move h.1 (fun g hg hlt => hk g hlt (fun he => (h.2 g hg).2 i b o hi he.symm)), fun g hg => ⟨(h.2 g hg).1, fun j c o' hj => ?_⟩⟩
  by_cases hij : i = j
  · subst hij
    have hil : i < L.length := by
      rcases Nat.lt_or_ge i L.length with h' | h'
      · exact h'
      · rw [List.getElem?_eq_none h'] at hi; cases hi
    rw [List.getElem?_set_self hil] at hj
    simp only [Option.some.injEq, Prod.mk.injEq] at hj
    rw [← hj.1]; exact (h.2 g hg).2 i b o hi
  · rw [List.getElem?_set_ne hij] at hj
    exact (h.2 g hg).2 j c o' hj
/-- Blocks that are let go. -/
theorem Ow.sub (h : Ow S w W L e v xs) (hL : ∀ (i b : Nat) (o : Obj), L'[i]? = some (b, o) → ∃ (j : Nat) (o' : Obj), L[j]? = some (b, o')) : Ow S w W L' e v xs :=
  ⟨h.1, fun g hg => ⟨(h.2 g hg).1, fun i b o hi => by obtain ⟨j, o', hj⟩ := hL i b o hi; exact (h.2 g hg).2 j b o' hj⟩⟩
theorem Hp.tail {x : Nat × Obj} (H : Hp S w W (x :: L)) : Hp S w W L := H.sub (fun i => i + 1) (fun i b o h => by simpa using h) (fun i j _ _ h => by omega)
theorem Ow.tail {x : Nat × Obj} (h : Ow S w W (x :: L) e v xs) : Ow S w W L e v xs := h.sub (fun i b o hi => ⟨i + 1, o, by simpa using hi⟩)
theorem Hp.grown (H : Hp S w W L) (v : Value) (hv : Apart S w L v) (hg : W.grownBy W1 v.ownBlock) : Hp S w W1 L :=
  ⟨hg.os.trans H.os, hg.tape.trans H.tape, hg.output.trans H.output, Nat.le_trans H.size hg.size,
   fun b hb hS => (hg.block b (Nat.lt_of_lt_of_le hb H.size) (fun he => by
     rcases (hv b he.symm).1 with h | h
     · exact hS h
     · omega)).trans (H.keep b hb hS),
   fun i b o hi => (hg.block b (H.lt hi) (fun he => (hv b he.symm).2 i b o hi rfl)).trans (H.has i b o hi), H.mine, H.apart⟩
theorem Apart.next {v' : Value} (H : Hp S w W L) (h : Apart S w L v) (hat : v'.ownBlock = v.ownBlock ∨ v'.ownBlock = some W.heap.size) : Apart S w L v' := by
  intro g hg
  rcases hat with h' | h'
  · exact h g (by rw [← h']; exact hg)
  · rw [h'] at hg
    cases hg
    exact ⟨.inr H.size, fun i b o hi he => absurd (H.lt hi) (by omega)⟩
/-- append of what lies somewhere. -/
theorem Ow.append {P : Program} (H : Hp S w W L) (h : Ow S w W L e v xs) (t ty : TypeId) {z : Value} {bytes : Nat} (ht : P.underlying t = some (.slice e)) (hinfo : (P.info? e).map (fun i => (i.zero, i.size, i.bytes)) = some (some z, 1, bytes)) (hz : z.cells.size = 1)
    (ad : Addr) (c : Nat) (news : List Value) (hnews : ∀ j u, news[j]? = some u → W.cell? (ad.add j) = some u) (h1 : ∀ u ∈ news, u.oneCell' = true) (hb : (xs.length + news.length) * bytes ≤ 140737488355328) (hlen : xs.length + news.length ≤ maxLen) :
    ∃ v' W', (Builtin.append_ #[t, t] ty #[v, .slice (some ad) news.length c]).run P W = .ok v' W' ∧ Hp S w W' L ∧ Ow S w W' L e v' (xs ++ news) := by
  obtain ⟨i, hi, he⟩ := Option.map_eq_some_iff.mp hinfo
  simp only [Prod.mk.injEq] at he
  obtain ⟨hz0, hs, hby⟩ := he
  obtain ⟨v', W', hr, ho, hg, _, hat⟩ := run_append_own_at (P := P) W 0 t ty e i z 1 bytes ht hi hz0 hs hby hz (by omega) v xs.length xs h.1 ad news.length c news (by omega) hnews h1 hlen hb (Nat.zero_le _)
  refine ⟨v', W', hr, H.grown v h.2 hg, ⟨by rw [List.length_append]; exact ho, h.2.next H hat⟩⟩
theorem zeroCells_one {z : Value} (hz : z.cells = #[z]) (n : Nat) : (Builtin.zeroCells z.cells n).toList = List.replicate n z := by
  apply List.ext_getElem
  · simp [Builtin.zeroCells, hz]
  · intro i h1 h2
    simp [Builtin.zeroCells, hz, Nat.mod_one]
/-- append of zeros. -/
theorem Ow.zeros {P : Program} (H : Hp S w W L) (h : Ow S w W L e v xs) (t ti ty : TypeId) {z : Value} {bytes : Nat} {k : IntKind} (ht : P.underlying t = some (.slice e)) (hti : P.underlying ti = some (.int k)) (hinfo : (P.info? e).map (fun i => (i.zero, i.size, i.bytes)) = some (some z, 1, bytes)) (hz : z.cells = #[z]) (h1 : z.oneCell' = true) (hb0 : 0 < bytes)
    (kx : IntKind) (n : Nat) (hb : (xs.length + n) * bytes ≤ 140737488355328) :
    ∃ v' W', (Builtin.append_ #[t, ti] ty #[v, .int kx n]).run P W = .ok v' W' ∧ Hp S w W' L ∧ Ow S w W' L e v' (xs ++ List.replicate n z) := by
  obtain ⟨i, hi, he⟩ := Option.map_eq_some_iff.mp hinfo
  simp only [Prod.mk.injEq] at he
  obtain ⟨hz0, hs, hby⟩ := he
  obtain ⟨v', W', hr, ho, hg, hat⟩ := Go.Proofs.YtdlfflgcmgkmeaaW.PrintWords.run_append_zeros (P := P) W 0 t ti ty e i z 1 bytes ht hti hi hz0 hs hby (by rw [hz]; rfl) (by omega) hb0 v xs.length xs h.1 kx n (by rw [zeroCells_one hz]; intro u hu; rw [List.eq_of_mem_replicate hu]; exact h1) hb (Nat.zero_le _)
  rw [zeroCells_one hz] at ho
  exact ⟨v', W', hr, H.grown v h.2 hg, ⟨by rw [List.length_append, List.length_replicate]; exact ho, h.2.next H hat⟩⟩
theorem oneCell_one {v : Value} (h : v.oneCell' = true) : one v = true := by cases v <;> first | rfl | (simp [Value.oneCell'] at h)
/-- copy into the tail of one's own. -/
theorem Ow.copyTail {P : Program} (H : Hp S w W L) {zs news : List Value} (h : Ow S w W L e v (xs ++ zs)) (t ty : TypeId) {z : Value} {bytes : Nat} (ht : P.underlying t = some (.slice e)) (hinfo : (P.info? e).map (fun i => (i.zero, i.size, i.bytes)) = some (some z, 1, bytes))
    {A : Option Addr} {N c : Nat} (hv : v = .slice A N c) (Asrc : Option Addr) (csrc : Nat) (hl : zs.length = news.length) (hnews : ∀ ad, Asrc = some ad → ∀ j u, news[j]? = some u → W.cell? (ad.add j) = some u) (hnone : Asrc = none → news = []) (h1 : ∀ u ∈ news, u.oneCell' = true) :
    ∃ W1, (Builtin.copy_ #[t, t] ty #[.slice (if c = xs.length then A else A.map (·.add xs.length)) (N - xs.length) (c - xs.length), .slice Asrc news.length csrc]).run P W = .ok (.int .i64 news.length) W1 ∧ Hp S w W1 L ∧ Ow S w W1 L e v (xs ++ news) := by
  obtain ⟨i, hi, he⟩ := Option.map_eq_some_iff.mp hinfo
  simp only [Prod.mk.injEq] at he
  obtain ⟨hz0, hs, hby⟩ := he
  have hla : (xs ++ zs).length = xs.length + zs.length := List.length_append
  have hN : N = xs.length + news.length := by
    have := h.1
    rcases this.2 with ⟨h1, h2⟩ | ⟨g, cap, cur, h1, _⟩
    · rw [hv] at h1; cases h1; rw [List.length_append] at h2
      omega
    · rw [hv] at h1; cases h1; simp [hl]
  by_cases hn : news = []
  · subst hn
    have hz : zs = [] := by simpa using hl
    subst hz
    refine ⟨W, ?_, H, h⟩
    have hl0 : ∀ (x : Addr), (loadCells x 0).run P W = .ok #[] W := fun x => rfl
    cases hA : (if c = xs.length then A else A.map (·.add xs.length)) <;> cases Asrc <;> simp [Builtin.copy_, run_underlying ht, Builtin.lenOf, Builtin.firstCells, sizeOf, typeInfo, hi, storeCells, hl0, goInt]
  · have hpos : 0 < news.length := List.length_pos_iff.mpr hn
    rcases h.1.2 with ⟨_, h2⟩ | ⟨g, cap, cur, h2, hg, hh, hnc, hcap, hcs, hx⟩
    · rw [List.length_append] at h2; omega
    · rw [hv] at h2
      obtain ⟨rfl, -, rfl⟩ := Value.slice.inj h2
      have hne : ¬ c = xs.length := by omega
      cases hA : Asrc with
      | none => exact absurd (hnone hA) hn
      | some ad =>
        have hx2 : cur.toList.take (xs.length + zs.length) = xs ++ zs := by simpa using hx
        have hcs2 : cur.size = c := by simpa using hcs
        obtain ⟨W1, hst, hb1, hon⟩ := storeCells_run (P := P) (b := g) (off := xs.length) news 0 W cur hh (by omega) (fun u hu => oneCell_one (h1 u hu))
        refine ⟨W1, ?_, ?_, ⟨?_, ?_⟩⟩
        · have hf : (Builtin.firstCells 1 news.length (.slice (some ad) news.length csrc)).run P W = .ok news.toArray W := run_firstCells_some W 1 news.length ad _ _ news (by omega) (hnews ad hA)
          have hmin : Nat.min news.length (N - xs.length) = news.length := by rw [hN, Nat.add_sub_cancel_left]; exact Nat.min_self _
          simp only [if_neg hne, Option.map_some, add_at, Nat.zero_add]
          simp [Builtin.copy_, run_underlying ht, Builtin.lenOf, sizeOf, typeInfo, hi, hs, hmin, hf, hst, goInt]
        · have hap := h.2 g (by rw [hv]; rfl)
          exact ⟨hon.os.trans H.os, hon.tape.trans H.tape, hon.output.trans H.output, by rw [hon.size]; exact H.size,
            fun b hb hS => (hon.block b (fun he => by
              subst he
              rcases hap.1 with h' | h'
              · exact hS h'
              · omega)).trans (H.keep b hb hS),
            fun i b o hi => (hon.block b (hap.2 i b o hi)).trans (H.has i b o hi), H.mine, H.apart⟩
        · refine ⟨by simp, .inr ⟨g, c, _, by rw [hv, hN]; simp, Nat.zero_le _, hb1, by simp; omega, hcap, by rw [putAll_size]; simpa using hcs2, ?_⟩⟩
          have key : ∀ (vs : List Value) (k : Nat) (cc : Array Value), k + vs.length ≤ cc.size → (putAll cc k vs).toList.take (k + vs.length) = cc.toList.take k ++ vs := by
            intro vs
            induction vs with
            | nil => intro k cc _; simp [putAll]
            | cons u us ih =>
              intro k cc hk
              simp only [List.length_cons] at hk
              simp only [putAll, List.length_cons]
              rw [show k + (us.length + 1) = (k + 1) + us.length by omega, ih (k + 1) _ (by simp; omega)]
              have : (cc.setIfInBounds k u).toList.take (k + 1) = cc.toList.take k ++ [u] := by
                rw [Array.toList_setIfInBounds, List.take_succ_eq_append_getElem (by simp; omega)]
                simp [List.take_set_of_le]
              rw [this, List.append_assoc]; rfl
          have h3 := key news xs.length cur (by omega)
          simp only [Nat.mul_one, List.length_append, Nat.add_zero] at h3 ⊢
          rw [h3]
          have h4 : cur.toList.take xs.length = xs := by
            have := congrArg (List.take xs.length) hx2
            simpa [List.take_take] using this
          rw [h4]
        · exact h.2
/-- An element of one's own. -/
theorem Ow.cell (h : Ow S w W L e v xs) {n c : Nat} {A : Option Addr} (hv : v = .slice A n c) (i : Nat) (hi : i < xs.length) : ∃ ad, A = some ad ∧ n = xs.length ∧ n ≤ c ∧ W.cell? (ad.add i) = some xs[i] := by
  rcases h.1.2 with ⟨h1, h2⟩ | ⟨g, cap, cur, h1, _, hh, hnc, _, hcs, hx⟩
  · rw [h2] at hi; omega
  · rw [hv] at h1
    cases h1
    refine ⟨_, rfl, rfl, hnc, ?_⟩
    have ha : (⟨g, 0, none⟩ : Addr).add i = ⟨g, i, none⟩ := by rw [add_at, Nat.zero_add]
    rw [ha, cell_of hh]
    have : cur.toList[i]? = some xs[i] := by
      have h3 : (cur.toList.take (xs.length * 1))[i]? = some xs[i] := by rw [hx]; simp
      rw [List.getElem?_take] at h3
      split at h3
      · exact h3
      · cases h3
    simpa using this
/-- What an own slice looks like. -/
theorem Ow.form (h : Ow S w W L e v xs) : ∃ A c, v = .slice A xs.length c ∧ xs.length ≤ c := by
  rcases h.1.2 with ⟨h1, h2⟩ | ⟨g, cap, cur, h1, _, _, hnc, _⟩
  · exact ⟨none, 0, by rw [h1, h2], by omega⟩
  · exact ⟨_, cap, h1, hnc⟩
end
end Go.FW

namespace Go.Proofs.Ytdlfflgcmgkmeaa.P
open Go.RowKit Go.Proofs.YtdlfflgcmgkmeaaW.PrintWords Go.Proofs.YtdlfflgcmgkmeaaW.PrintLast Go.Proofs.YtdlfflgcmgkmeaaW.PrintMore Go.FW
set_option linter.unusedVariables false
theorem agg3 : ∀ w, (isAgg 3).run Try.prog w = .ok false w := fun w => by kernel_rfl
theorem agg5 : ∀ w, (isAgg 5).run Try.prog w = .ok false w := fun w => by kernel_rfl
theorem agg22 : ∀ w, (isAgg 22).run Try.prog w = .ok false w := fun w => by kernel_rfl
theorem agg24 : ∀ w, (isAgg 24).run Try.prog w = .ok false w := fun w => by kernel_rfl
theorem agg113 : ∀ w, (isAgg 113).run Try.prog w = .ok true w := fun w => by kernel_rfl
theorem size113 : ∀ w, (sizeOf 113).run Try.prog w = .ok 3 w := fun w => by kernel_rfl
theorem size3 : ∀ w, (sizeOf 3).run Try.prog w = .ok 1 w := fun w => by kernel_rfl
theorem size22 : ∀ w, (sizeOf 22).run Try.prog w = .ok 1 w := fun w => by kernel_rfl
/-- An element of a slice of bytes. -/
theorem ixB {ad : Addr} {n c : Nat} {i : Int} {w : World} (h0 : 0 ≤ i) (h1 : i < (n : Int)) : (Instr.indexAt 22 (.slice (some ad) n c) (.int .i64 i)).run Try.prog w = .ok (.pointer (some (ad.add i.toNat))) w := by
  have p0 := eq_true h0
  have p1 := eq_true h1
  go_simp
/-- A part of a slice of bytes. -/
theorem slB (A : Option Addr) (c : Nat) (xs : List Int) (a b : Int) (h0 : 0 ≤ a) (h1 : a ≤ b) (hm : b ≤ xs.length) (hc : xs.length ≤ c) :
    ∃ A' : Option Addr, (∀ W : World, (Instr.sliceAt 22 (.slice A xs.length c) (some (.int .i64 a)) (some (.int .i64 b)) none).run Try.prog W = .ok (.slice A' ((xs.take b.toNat).drop a.toNat).length (c - a.toNat)) W) ∧
      (∀ w : World, Kd.C (Kd.int .u8) w A xs.length xs → Kd.C (Kd.int .u8) w A' ((xs.take b.toNat).drop a.toNat).length ((xs.take b.toNat).drop a.toNat)) ∧ ((xs.take b.toNat).drop a.toNat).length ≤ c - a.toNat := by
  obtain ⟨i0, hi0, _, hsz, _⟩ := info_parts info5
  obtain ⟨A', h1, h2, h3⟩ := print_mid_of (P := Try.prog) (Value.int .u8) 0 22 5 .i64 .i64 Try.underlying22 hi0 hsz A c xs a b h0 h1 hm hc
  refine ⟨A', fun W => ?_, fun w hw => Kd.C_of_reads (h1 := fun _ => rfl) (h2 w (Kd.reads_of_C hw)), h3⟩
  have e : ∀ W : World, (Instr.sliceAt 22 (.slice A xs.length c) (some (.int .i64 a)) (some (.int .i64 b)) none).run Try.prog W = (Instr.slice 22 (.slice A xs.length c) (some (.int .i64 a)) (some (.int .i64 b)) none).run Try.prog W := fun W => by kernel_rfl
  rw [e]; exact h1 W
/-- What stands from a place on. -/
theorem slLo (A : Option Addr) (n c lo : Nat) (h : lo ≤ n) (W : World) : (Instr.sliceAt 22 (.slice A n c) (some (.int .i64 (lo : Int))) none none).run Try.prog W = .ok (.slice (if c = lo then A else A.map (·.add lo)) (n - lo) (c - lo)) W := by
  have p0 := eq_true (show (0 : Int) ≤ (lo : Int) by omega)
  have p1 := eq_true (show (lo : Int) ≤ (n : Int) by omega)
  go_simp
theorem u8_one (l : List Int) : ∀ u ∈ l.map (Value.int .u8), u.oneCell' = true := by
  intro u hu
  obtain ⟨x, _, rfl⟩ := List.mem_map.mp hu
  rfl
/-- Bytes that are read, as cells. -/
theorem srcB {w : World} {A : Option Addr} {l : List Int} (h : Kd.C (Kd.int .u8) w A l.length l) : (∀ ad, A = some ad → ∀ j u, (l.map (Value.int .u8))[j]? = some u → w.cell? (ad.add j) = some u) ∧ (A = none → l.map (Value.int .u8) = []) := by
  constructor
  · intro ad hA j u hu
    have hj : j < l.length := by
      rcases Nat.lt_or_ge j l.length with h' | h'
      · exact h'
      · rw [List.getElem?_eq_none (by simpa using h')] at hu; cases hu
    obtain ⟨ad', he, hx⟩ := Kd.at_int h (j : Int) (by omega) (by omega)
    rw [hA] at he; cases he
    rw [Int.toNat_natCast] at hx
    rw [hx]
    have : (l.map (Value.int .u8))[j]? = some (.int .u8 l[j]) := by simp [hj]
    rw [this] at hu
    cases hu
    unfold rd
    simp [List.getD, hj]
  · intro hA
    cases hl : l with
    | nil => rfl
    | cons x xs =>
      obtain ⟨ad', he, _⟩ := Kd.at_int h 0 (by omega) (by rw [hl]; simp)
      rw [hA] at he; cases he
section
variable {S : List Nat} {w W : World} {L : List (Nat × Obj)} {v : Value} {ys : List Int}
abbrev u8s (ys : List Int) : List Value := ys.map (Value.int .u8)
theorem Ob_form (O : Ow S w W L 5 v (u8s ys)) : ∃ A c, v = .slice A ys.length c ∧ ys.length ≤ c := by
  obtain ⟨A, c, h1, h2⟩ := O.form
  rw [List.length_map] at h1 h2
  exact ⟨A, c, h1, h2⟩
theorem Ob_cell {A : Option Addr} {n c : Nat} (O : Ow S w W L 5 (.slice A n c) (u8s ys)) (i : Nat) (hi : i < ys.length) : ∃ ad, A = some ad ∧ W.cell? (ad.add i) = some (.int .u8 (rd ys i)) := by
  obtain ⟨ad, h1, _, _, h2⟩ := O.cell rfl i (by simpa using hi)
  refine ⟨ad, h1, ?_⟩
  rw [h2]
  unfold rd
  simp [List.getD, hi]
theorem Ob_push (H : Hp S w W L) (O : Ow S w W L 5 v (u8s ys)) (j : Nat) {b : Nat} {x : Int} (hj : L[j]? = some (b, .cells #[.int .u8 x] 5 (0, 0))) (hlen : ys.length + 1 ≤ 70368744177664) :
    ∃ v' W', (Builtin.append_ #[22, 22] 22 #[v, .slice (some ⟨b, 0, none⟩) 1 1]).run Try.prog W = .ok v' W' ∧ Hp S w W' L ∧ Ow S w W' L 5 v' (u8s (ys ++ [x])) := by
  obtain ⟨v', W', h1, h2, h3⟩ := O.append (P := Try.prog) H 22 22 Try.underlying22 info5 rfl ⟨b, 0, none⟩ 1 [.int .u8 x] (by
    intro k u hk
    cases k with
    | zero => simp at hk; subst hk; exact H.cell j 0 hj rfl
    | succ k => simp at hk) (by intro u hu; simp at hu; subst hu; rfl) (by simp; omega) (by simp [maxLen]; omega)
  exact ⟨v', W', h1, h2, by rw [u8s, List.map_append]; exact h3⟩
theorem Ob_zeros (H : Hp S w W L) (O : Ow S w W L 5 v (u8s ys)) (n : Nat) (hlen : ys.length + n ≤ 70368744177664) :
    ∃ v' W', (Builtin.append_ #[22, 3] 22 #[v, .int .i64 n]).run Try.prog W = .ok v' W' ∧ Hp S w W' L ∧ Ow S w W' L 5 v' (u8s ys ++ u8s (List.replicate n 0)) := by
  obtain ⟨v', W', h1, h2, h3⟩ := O.zeros (P := Try.prog) H 22 3 22 Try.underlying22 Try.underlying3 info5 rfl rfl (by omega) .i64 n (by simp; omega)
  exact ⟨v', W', h1, h2, by rw [u8s, u8s, List.map_replicate]; exact h3⟩
theorem Ob_copy (H : Hp S w W L) {A : Option Addr} {N c : Nat} {zs lit : List Int} (O : Ow S w W L 5 (.slice A N c) (u8s ys ++ u8s zs)) (Asrc : Option Addr) (csrc : Nat) (hl : zs.length = lit.length) (hC : Kd.C (Kd.int .u8) W Asrc lit.length lit) :
    ∃ W1, (Builtin.copy_ #[22, 22] 3 #[.slice (if c = ys.length then A else A.map (·.add ys.length)) (N - ys.length) (c - ys.length), .slice Asrc lit.length csrc]).run Try.prog W = .ok (.int .i64 lit.length) W1 ∧ Hp S w W1 L ∧ Ow S w W1 L 5 (.slice A N c) (u8s (ys ++ lit)) := by
  obtain ⟨W1, h1, h2, h3⟩ := Ow.copyTail (P := Try.prog) H (xs := u8s ys) (zs := u8s zs) (news := u8s lit) O 22 3 Try.underlying22 info5 rfl Asrc csrc (by simpa using hl) (srcB hC).1 (srcB hC).2 (u8_one lit)
  simp only [List.length_map] at h1
  exact ⟨W1, h1, h2, by rw [u8s, List.map_append]; exact h3⟩
end
/-- Bytes of one's own, to those who ask in the print's words. -/
theorem R_of_Ob {w W : World} {L : List (Nat × Obj)} {v : Value} {ys : List Int} (O : Ow [] w W L 5 v (u8s ys)) : Kd.R (Kd.int .u8) 5 W w.heap.size (fun _ => True) v ys := by
  refine Kd.R_of_own (enc := Value.int .u8) (h1 := fun _ => rfl) ?_ (fun _ _ => trivial)
  obtain ⟨⟨_, h2⟩, h3⟩ := O
  have he : encs (Value.int .u8) ys = u8s ys := by unfold encs; rfl
  rw [he]
  refine ⟨by simp, ?_⟩
  rw [List.length_map] at h2
  rcases h2 with h2 | ⟨g, cap, cur, rfl, _, r⟩
  · exact .inl h2
  · refine .inr ⟨g, cap, cur, rfl, ?_, r⟩
    rcases (h3 g rfl).1 with h | h
    · cases h
    · exact h
end Go.Proofs.Ytdlfflgcmgkmeaa.P

-- Written by a program of this session's own (wip/tools), over the translation. Not trusted: Lean checks it.
namespace Go.Proofs.Ytdlfflgcmgkmeaa.P
open Go.RowKit Go.Proofs.YtdlfflgcmgkmeaaW.PrintWords Go.Proofs.YtdlfflgcmgkmeaaW.PrintLast Go.Proofs.YtdlfflgcmgkmeaaW.PrintMore
attribute [local go_sem] max2_int min2_int max_two min_two max_three min_three max_four min_four   -- for this text's walks alone
set_option linter.unusedVariables false
set_option linter.unusedSimpArgs false

/-- A state of type 147 at block g of W; what its slices lead to came in by w0. -/
def IsS147 (A0 : Option Addr) (c0 : Nat) (w0 W : World) (g : Nat) (f0 : List Int) (f1 : Int) (f2 : Int) (f3 : Int) (f4 : Int) (f5 : Int) : Prop := W.heap[g]? = some (.cells #[.slice A0 f0.length c0, .int .i64 f1, .int .i64 f2, .int .i64 f3, .int .i64 f4, .int .i64 f5] 147 (0, 0)) ∧ w0.heap.size ≤ g ∧ Kd.C (Kd.int .u8) w0 A0 f0.length f0
theorem IsS147.grown {A0 : Option Addr} {c0 : Nat} {w0 W : World} {g : Nat} {f0 : List Int} {f1 : Int} {f2 : Int} {f3 : Int} {f4 : Int} {f5 : Int} {W1 : World} {row : Option Nat} (h : IsS147 A0 c0 w0 W g f0 f1 f2 f3 f4 f5) (hw : W.grownBy W1 row) (hne : some g ≠ row) : IsS147 A0 c0 w0 W1 g f0 f1 f2 f3 f4 f5 := by
  obtain ⟨hb, hg, hr0⟩ := h
  exact ⟨blk_grown hb hw hne, hg, hr0⟩
theorem IsS147.kept {A0 : Option Addr} {c0 : Nat} {w0 W : World} {g : Nat} {f0 : List Int} {f1 : Int} {f2 : Int} {f3 : Int} {f4 : Int} {f5 : Int} {W1 : World} {S : Nat → Prop} (h : IsS147 A0 c0 w0 W g f0 f1 f2 f3 f4 f5) (hk : Kept W W1 S) (hne : ¬ S g) : IsS147 A0 c0 w0 W1 g f0 f1 f2 f3 f4 f5 := by
  obtain ⟨hb, hg, hr0⟩ := h
  exact ⟨blk_kept hb hk hne, hg, hr0⟩
theorem IsS147.below {A0 : Option Addr} {c0 : Nat} {w0 W : World} {g : Nat} {f0 : List Int} {f1 : Int} {f2 : Int} {f3 : Int} {f4 : Int} {f5 : Int} {W1 : World} (h : IsS147 A0 c0 w0 W g f0 f1 f2 f3 f4 f5) (hw : Below W.heap.size W W1) : IsS147 A0 c0 w0 W1 g f0 f1 f2 f3 f4 f5 := h.grown (grown_of_below hw none) (by simp)
theorem IsS147.alloc {A0 : Option Addr} {c0 : Nat} {w0 W : World} {g : Nat} {f0 : List Int} {f1 : Int} {f2 : Int} {f3 : Int} {f4 : Int} {f5 : Int} (h : IsS147 A0 c0 w0 W g f0 f1 f2 f3 f4 f5) (o : Obj) : IsS147 A0 c0 w0 (W.alloc o) g f0 f1 f2 f3 f4 f5 := h.below (below_alloc (Below.refl _ _) o)
theorem IsS147.drewN {A0 : Option Addr} {c0 : Nat} {w0 W : World} {g : Nat} {f0 : List Int} {f1 : Int} {f2 : Int} {f3 : Int} {f4 : Int} {f5 : Int} (h : IsS147 A0 c0 w0 W g f0 f1 f2 f3 f4 f5) (m : Nat) : IsS147 A0 c0 w0 (W.drewN m) g f0 f1 f2 f3 f4 f5 := h
theorem IsS147.drew {A0 : Option Addr} {c0 : Nat} {w0 W : World} {g : Nat} {f0 : List Int} {f1 : Int} {f2 : Int} {f3 : Int} {f4 : Int} {f5 : Int} (h : IsS147 A0 c0 w0 W g f0 f1 f2 f3 f4 f5) : IsS147 A0 c0 w0 W.drew g f0 f1 f2 f3 f4 f5 := h
theorem IsS147.at_ {A0 : Option Addr} {c0 : Nat} {w0 W : World} {g : Nat} {f0 : List Int} {f1 : Int} {f2 : Int} {f3 : Int} {f4 : Int} {f5 : Int} {w' : World} {m : Nat} (hq : W.drewN m = w') (h : IsS147 A0 c0 w0 W g f0 f1 f2 f3 f4 f5) : IsS147 A0 c0 w0 w' g f0 f1 f2 f3 f4 f5 := by subst hq; exact IsS147.drewN h m
theorem IsS147.apart {A0 : Option Addr} {c0 : Nat} {w0 W : World} {g : Nat} {f0 : List Int} {f1 : Int} {f2 : Int} {f3 : Int} {f4 : Int} {f5 : Int} {α : Type} {d : Kd α} {e : Nat} {base : Nat} {ok : Nat → Prop} {v : Value} {xs : List α} (h : IsS147 A0 c0 w0 W g f0 f1 f2 f3 f4 f5) (ho : d.R e W base ok v xs) (ht : ∀ q, q ∈ e :: d.E → q ≠ 147) : d.R e W base (fun k => ok k ∧ k ≠ g) v xs := by
  obtain ⟨hb, hg, hr0⟩ := h
  exact Kd.R_types ho hb ht
theorem IsS147.own_ne {A0 : Option Addr} {c0 : Nat} {w0 W : World} {g : Nat} {f0 : List Int} {f1 : Int} {f2 : Int} {f3 : Int} {f4 : Int} {f5 : Int} {α : Type} {d : Kd α} {e : Nat} {base : Nat} {ok : Nat → Prop} {v : Value} {xs : List α} (h : IsS147 A0 c0 w0 W g f0 f1 f2 f3 f4 f5) (ho : d.R e W base ok v xs) (ht : e ≠ 147) : some g ≠ v.ownBlock := by
  obtain ⟨hb, hg, hr0⟩ := h
  exact Kd.R_ne ho hb ht
theorem IsS147.lt {A0 : Option Addr} {c0 : Nat} {w0 W : World} {g : Nat} {f0 : List Int} {f1 : Int} {f2 : Int} {f3 : Int} {f4 : Int} {f5 : Int} (h : IsS147 A0 c0 w0 W g f0 f1 f2 f3 f4 f5) : g < W.heap.size := by
  obtain ⟨hb, hg, hr0⟩ := h
  exact blk_lt hb
theorem IsS147.ge {A0 : Option Addr} {c0 : Nat} {w0 W : World} {g : Nat} {f0 : List Int} {f1 : Int} {f2 : Int} {f3 : Int} {f4 : Int} {f5 : Int} (h : IsS147 A0 c0 w0 W g f0 f1 f2 f3 f4 f5) : w0.heap.size ≤ g := by
  obtain ⟨hb, hg, hr0⟩ := h
  exact hg
theorem IsS147.far {A0 : Option Addr} {c0 : Nat} {w0 W : World} {g : Nat} {f0 : List Int} {f1 : Int} {f2 : Int} {f3 : Int} {f4 : Int} {f5 : Int} {p : Addr} (h : IsS147 A0 c0 w0 W g f0 f1 f2 f3 f4 f5) (hne : g ≠ p.block) (u : Value) : IsS147 A0 c0 w0 (W.setCell p u) g f0 f1 f2 f3 f4 f5 := by
  obtain ⟨hb, hg, hr0⟩ := h
  exact ⟨blk_far hb hne u, hg, hr0⟩
theorem cellS147_0 {W : World} {g : Nat} {A0 : Option Addr} {c0 : Nat} {f0 : List Int} {f1 : Int} {f2 : Int} {f3 : Int} {f4 : Int} {f5 : Int} (h : W.heap[g]? = some (.cells #[.slice A0 f0.length c0, .int .i64 f1, .int .i64 f2, .int .i64 f3, .int .i64 f4, .int .i64 f5] 147 (0, 0))) : W.cell? ⟨g, 0, none⟩ = some (.slice A0 f0.length c0) := (blk_cell h 0).trans rfl
theorem cellS147_1 {W : World} {g : Nat} {A0 : Option Addr} {c0 : Nat} {f0 : List Int} {f1 : Int} {f2 : Int} {f3 : Int} {f4 : Int} {f5 : Int} (h : W.heap[g]? = some (.cells #[.slice A0 f0.length c0, .int .i64 f1, .int .i64 f2, .int .i64 f3, .int .i64 f4, .int .i64 f5] 147 (0, 0))) : W.cell? ⟨g, 1, none⟩ = some (.int .i64 f1) := (blk_cell h 1).trans rfl
theorem IsS147.set_1 {A0 : Option Addr} {c0 : Nat} {w0 W : World} {g : Nat} {f0 : List Int} {f1 : Int} {f2 : Int} {f3 : Int} {f4 : Int} {f5 : Int} (h : IsS147 A0 c0 w0 W g f0 f1 f2 f3 f4 f5) (x : Int) : IsS147 A0 c0 w0 (W.setCell ⟨g, 1, none⟩ (.int .i64 x)) g f0 x f2 f3 f4 f5 := by
  obtain ⟨hb, hg, hr0⟩ := h
  exact ⟨by simpa using blk_set hb 1 (.int .i64 x), hg, hr0⟩
theorem cellS147_2 {W : World} {g : Nat} {A0 : Option Addr} {c0 : Nat} {f0 : List Int} {f1 : Int} {f2 : Int} {f3 : Int} {f4 : Int} {f5 : Int} (h : W.heap[g]? = some (.cells #[.slice A0 f0.length c0, .int .i64 f1, .int .i64 f2, .int .i64 f3, .int .i64 f4, .int .i64 f5] 147 (0, 0))) : W.cell? ⟨g, 2, none⟩ = some (.int .i64 f2) := (blk_cell h 2).trans rfl
theorem IsS147.set_2 {A0 : Option Addr} {c0 : Nat} {w0 W : World} {g : Nat} {f0 : List Int} {f1 : Int} {f2 : Int} {f3 : Int} {f4 : Int} {f5 : Int} (h : IsS147 A0 c0 w0 W g f0 f1 f2 f3 f4 f5) (x : Int) : IsS147 A0 c0 w0 (W.setCell ⟨g, 2, none⟩ (.int .i64 x)) g f0 f1 x f3 f4 f5 := by
  obtain ⟨hb, hg, hr0⟩ := h
  exact ⟨by simpa using blk_set hb 2 (.int .i64 x), hg, hr0⟩
theorem cellS147_3 {W : World} {g : Nat} {A0 : Option Addr} {c0 : Nat} {f0 : List Int} {f1 : Int} {f2 : Int} {f3 : Int} {f4 : Int} {f5 : Int} (h : W.heap[g]? = some (.cells #[.slice A0 f0.length c0, .int .i64 f1, .int .i64 f2, .int .i64 f3, .int .i64 f4, .int .i64 f5] 147 (0, 0))) : W.cell? ⟨g, 3, none⟩ = some (.int .i64 f3) := (blk_cell h 3).trans rfl
theorem IsS147.set_3 {A0 : Option Addr} {c0 : Nat} {w0 W : World} {g : Nat} {f0 : List Int} {f1 : Int} {f2 : Int} {f3 : Int} {f4 : Int} {f5 : Int} (h : IsS147 A0 c0 w0 W g f0 f1 f2 f3 f4 f5) (x : Int) : IsS147 A0 c0 w0 (W.setCell ⟨g, 3, none⟩ (.int .i64 x)) g f0 f1 f2 x f4 f5 := by
  obtain ⟨hb, hg, hr0⟩ := h
  exact ⟨by simpa using blk_set hb 3 (.int .i64 x), hg, hr0⟩
theorem cellS147_4 {W : World} {g : Nat} {A0 : Option Addr} {c0 : Nat} {f0 : List Int} {f1 : Int} {f2 : Int} {f3 : Int} {f4 : Int} {f5 : Int} (h : W.heap[g]? = some (.cells #[.slice A0 f0.length c0, .int .i64 f1, .int .i64 f2, .int .i64 f3, .int .i64 f4, .int .i64 f5] 147 (0, 0))) : W.cell? ⟨g, 4, none⟩ = some (.int .i64 f4) := (blk_cell h 4).trans rfl
theorem IsS147.set_4 {A0 : Option Addr} {c0 : Nat} {w0 W : World} {g : Nat} {f0 : List Int} {f1 : Int} {f2 : Int} {f3 : Int} {f4 : Int} {f5 : Int} (h : IsS147 A0 c0 w0 W g f0 f1 f2 f3 f4 f5) (x : Int) : IsS147 A0 c0 w0 (W.setCell ⟨g, 4, none⟩ (.int .i64 x)) g f0 f1 f2 f3 x f5 := by
  obtain ⟨hb, hg, hr0⟩ := h
  exact ⟨by simpa using blk_set hb 4 (.int .i64 x), hg, hr0⟩
theorem cellS147_5 {W : World} {g : Nat} {A0 : Option Addr} {c0 : Nat} {f0 : List Int} {f1 : Int} {f2 : Int} {f3 : Int} {f4 : Int} {f5 : Int} (h : W.heap[g]? = some (.cells #[.slice A0 f0.length c0, .int .i64 f1, .int .i64 f2, .int .i64 f3, .int .i64 f4, .int .i64 f5] 147 (0, 0))) : W.cell? ⟨g, 5, none⟩ = some (.int .i64 f5) := (blk_cell h 5).trans rfl
theorem IsS147.set_5 {A0 : Option Addr} {c0 : Nat} {w0 W : World} {g : Nat} {f0 : List Int} {f1 : Int} {f2 : Int} {f3 : Int} {f4 : Int} {f5 : Int} (h : IsS147 A0 c0 w0 W g f0 f1 f2 f3 f4 f5) (x : Int) : IsS147 A0 c0 w0 (W.setCell ⟨g, 5, none⟩ (.int .i64 x)) g f0 f1 f2 f3 f4 x := by
  obtain ⟨hb, hg, hr0⟩ := h
  exact ⟨by simpa using blk_set hb 5 (.int .i64 x), hg, hr0⟩
theorem IsS147.new (w0 W : World) (A0 : Option Addr) (c0 : Nat) (f0 : List Int) (f1 : Int) (f2 : Int) (f3 : Int) (f4 : Int) (f5 : Int) (hB : Below w0.heap.size w0 W) (hr0 : Kd.C (Kd.int .u8) w0 A0 f0.length f0) : IsS147 A0 c0 w0 (W.alloc (.cells #[.slice A0 f0.length c0, .int .i64 f1, .int .i64 f2, .int .i64 f3, .int .i64 f4, .int .i64 f5] 147)) W.heap.size f0 f1 f2 f3 f4 f5 := ⟨by simpa using heap_alloc_new W _, hB.size, hr0⟩

/-! ### lz_reader_fail: function 108 -/
def lz_reader_fail.f (s0_0 : List Int) (s0_1 : Int) (s0_2 : Int) (s0_3 : Int) (s0_4 : Int) (s0_5 : Int) (a1 : Int) (a2 : Int) : Option (Bool × Int × Int × Int × Int × Int) := some (false, s0_1, s0_2, s0_3, a1, a2)
set_option maxHeartbeats 8000000 in
set_option maxRecDepth 100000 in
theorem lz_reader_fail.calls (A0 : Option Addr) (c0 : Nat) (g : Nat) (s0_0 : List Int) (s0_1 : Int) (s0_2 : Int) (s0_3 : Int) (s0_4 : Int) (s0_5 : Int) (a1 : Int) (a2 : Int) (r1 : Bool) (r2 : Int) (r3 : Int) (r4 : Int) (r5 : Int) (r6 : Int) (w0 w : World) (hI : IsS147 A0 c0 w0 w g s0_0 s0_1 s0_2 s0_3 s0_4 s0_5) (hB : Below w0.heap.size w0 w) (h : lz_reader_fail.f s0_0 s0_1 s0_2 s0_3 s0_4 s0_5 a1 a2 = some (r1, r2, r3, r4, r5, r6)) :
    Calls Try.prog 108 #[.pointer (some ⟨g, 0, none⟩), .int .i64 a1, .int .i64 a2] w fun e w' => e = .returned (.bool r1) ∧ IsS147 A0 c0 w0 w' g s0_0 r2 r3 r4 r5 r6 ∧ Below w0.heap.size w0 w' ∧ KeepBut w w' g none := by
  have HI0 := Aside0.mk hI
  have HK := Aside0.mk (KeepBut.refl w g none)
  have HL := Aside0.mk hB.size
  clear hI
  have HW0 := Aside0.mk hB.size
  have HB := Aside0.mk hB
  clear hB
  have H : (some (false, s0_1, s0_2, s0_3, a1, a2)) = some (r1, r2, r3, r4, r5, r6) := h
  clear h
  simp only [Option.some.injEq, Prod.mk.injEq] at H
  obtain ⟨rfl, rfl, rfl, rfl, rfl, rfl⟩ := H
  obtain ⟨HGz4, hgz4, HSz4_0⟩ := HI0.out
  have hcz4_0 := cellS147_0 HGz4
  have hcz4_1 := cellS147_1 HGz4
  have hcz4_2 := cellS147_2 HGz4
  have hcz4_3 := cellS147_3 HGz4
  have hcz4_4 := cellS147_4 HGz4
  have hcz4_5 := cellS147_5 HGz4
  have hfz4_1 := blk_frozen HGz4 1
  have hfz4_2 := blk_frozen HGz4 2
  have hfz4_3 := blk_frozen HGz4 3
  have hfz4_4 := blk_frozen HGz4 4
  have hfz4_5 := blk_frozen HGz4 5
  clear HGz4 hgz4
  go_enter Try.func108, Try.ntmps108
  go_wp2
  go_ret
  exact ⟨by first | rfl | (simp [errW_none, errW_some] <;> rfl) | (simp [*, errW_none, errW_some] <;> rfl), by repeat (first | (with_reducible first | exact HI0.out | apply IsS147.alloc | apply IsS147.drewN | apply IsS147.drew | apply IsS147.set_1 | apply IsS147.set_2 | apply IsS147.set_3 | apply IsS147.set_4 | apply IsS147.set_5) | exact HI0.out), by repeat (first | (with_reducible first | exact HB.out | apply below_alloc | apply pw_below_drewN | apply below_drew1 | refine below_set ?_ (IsS147.ge HI0.out)) | exact HB.out), by repeat (first | (with_reducible first | exact HK.out | apply KeepBut.set_ | apply keep_drewN | apply keep_drew | apply keep_alloc) | exact HK.out)⟩

end Go.Proofs.Ytdlfflgcmgkmeaa.P

-- Written by a program of this session's own (wip/tools), over the translation. Not trusted: Lean checks it.
namespace Go.Proofs.Ytdlfflgcmgkmeaa.P
open Go.RowKit Go.Proofs.YtdlfflgcmgkmeaaW.PrintWords Go.Proofs.YtdlfflgcmgkmeaaW.PrintLast Go.Proofs.YtdlfflgcmgkmeaaW.PrintMore
attribute [local go_sem] max2_int min2_int max_two min_two max_three min_three max_four min_four   -- for this text's walks alone
set_option linter.unusedVariables false
set_option linter.unusedSimpArgs false

/-! ### lz_reader_length: function 109 -/
def lz_reader_length.l0 : Nat → Int → List Int → Int → Int → Int → Int → Int → Option (Int × Bool × Int × Int × Int × Int × Int)
  | 0, _, _, _, _, _, _, _ => none
  | k + 1, x1, x1000, x1001, x1002, x1003, x1004, x1005 => if x1001 = (x1000.length : Int) then ((lz_reader_fail.f x1000 x1001 x1002 x1003 x1004 x1005 6 (x1000.length : Int)).bind fun bt110001 => (some (0, bt110001.1, bt110001.2.1, bt110001.2.2.1, bt110001.2.2.2.1, bt110001.2.2.2.2.1, bt110001.2.2.2.2.2))) else (if 0 ≤ x1001 then (if x1001 < (x1000.length : Int) then (if (wrap64 (rd x1000 x1001)) < 255 then (some (wrap64 (x1 + (wrap64 (rd x1000 x1001))), true, wrap64 (x1001 + 1), x1002, x1003, x1004, x1005)) else (lz_reader_length.l0 k (wrap64 (x1 + (wrap64 (rd x1000 x1001)))) x1000 (wrap64 (x1001 + 1)) x1002 x1003 x1004 x1005)) else (none)) else (none))
def lz_reader_length.f (k : Nat) (s0_0 : List Int) (s0_1 : Int) (s0_2 : Int) (s0_3 : Int) (s0_4 : Int) (s0_5 : Int) (a1 : Int) : Option (Int × Bool × Int × Int × Int × Int × Int) := if a1 < 15 then (some (a1, true, s0_1, s0_2, s0_3, s0_4, s0_5)) else (lz_reader_length.l0 k a1 s0_0 s0_1 s0_2 s0_3 s0_4 s0_5)
theorem lz_reader_length.mono_l : ∀ k, (∀ y0 y1 y2 y3 y4 y5 y6, LeO (lz_reader_length.l0 k y0 y1 y2 y3 y4 y5 y6) (lz_reader_length.l0 (k + 1) y0 y1 y2 y3 y4 y5 y6))
  | 0 => fun _ _ _ _ _ _ _ r h => by simp [lz_reader_length.l0] at h
  | k + 1 => by
    have ih0 := lz_reader_length.mono_l k
    · intro y0 y1 y2 y3 y4 y5 y6
      unfold lz_reader_length.l0
      repeat' first
      | (with_reducible exact ih0 _ _ _ _ _ _ _)
      | (with_reducible exact LeO.refl _)
      | (with_reducible exact LeO.none _)
      | (with_reducible refine LeO.ite ?_ ?_)
      | (with_reducible refine LeO.bind ?_ (fun _ => ?_))
      | exact ih0 _ _ _ _ _ _ _
      | exact LeO.none _
      | refine LeO.ite ?_ ?_
      | refine LeO.bind ?_ (fun _ => ?_)
theorem lz_reader_length.mono : ∀ a0 a1 a2 a3 a4 a5 a6 k, LeO (lz_reader_length.f k a0 a1 a2 a3 a4 a5 a6) (lz_reader_length.f (k + 1) a0 a1 a2 a3 a4 a5 a6) := by
  intro a0 a1 a2 a3 a4 a5 a6 k
  have ih0 := lz_reader_length.mono_l k
  unfold lz_reader_length.f
  repeat' first
      | (with_reducible exact ih0 _ _ _ _ _ _ _)
      | (with_reducible exact LeO.refl _)
      | (with_reducible exact LeO.none _)
      | (with_reducible refine LeO.ite ?_ ?_)
      | (with_reducible refine LeO.bind ?_ (fun _ => ?_))
      | exact ih0 _ _ _ _ _ _ _
      | exact LeO.none _
      | refine LeO.ite ?_ ?_
      | refine LeO.bind ?_ (fun _ => ?_)
set_option maxHeartbeats 8000000 in
set_option maxRecDepth 100000 in
theorem lz_reader_length.calls (A0 : Option Addr) (c0 : Nat) (k : Nat) (g : Nat) (s0_0 : List Int) (s0_1 : Int) (s0_2 : Int) (s0_3 : Int) (s0_4 : Int) (s0_5 : Int) (a1 : Int) (r1 : Int) (r2 : Bool) (r3 : Int) (r4 : Int) (r5 : Int) (r6 : Int) (r7 : Int) (w0 w : World) (hI : IsS147 A0 c0 w0 w g s0_0 s0_1 s0_2 s0_3 s0_4 s0_5) (hB : Below w0.heap.size w0 w) (h : lz_reader_length.f k s0_0 s0_1 s0_2 s0_3 s0_4 s0_5 a1 = some (r1, r2, r3, r4, r5, r6, r7)) :
    Calls Try.prog 109 #[.pointer (some ⟨g, 0, none⟩), .int .i64 a1] w fun e w' => e = .returned (.tuple #[.int .i64 r1, .bool r2]) ∧ IsS147 A0 c0 w0 w' g s0_0 r3 r4 r5 r6 r7 ∧ Below w0.heap.size w0 w' ∧ KeepBut w w' g none := by
  have HI0 := Aside0.mk hI
  have HK := Aside0.mk (KeepBut.refl w g none)
  have HL := Aside0.mk hB.size
  clear hI
  have HW0 := Aside0.mk hB.size
  have HB := Aside0.mk hB
  clear hB
  have H : (if a1 < 15 then (some (a1, true, s0_1, s0_2, s0_3, s0_4, s0_5)) else (lz_reader_length.l0 k a1 s0_0 s0_1 s0_2 s0_3 s0_4 s0_5)) = some (r1, r2, r3, r4, r5, r6, r7) := h
  clear h
  by_cases c3 : a1 < 15
  · rw [if_pos c3] at H
    have c3b0 : decide (a1 < 15) = true := decide_eq_true c3
    clear c3
    simp only [Option.some.injEq, Prod.mk.injEq] at H
    obtain ⟨rfl, rfl, rfl, rfl, rfl, rfl, rfl⟩ := H
    go_enter Try.func109, Try.ntmps109
    go_wp2
    repeat (go_quiet (fail); try go_wp2)
    go_ret2
    exact ⟨by first | rfl | (simp [errW_none, errW_some] <;> rfl) | (simp [*, errW_none, errW_some] <;> rfl), by repeat (first | (with_reducible first | exact HI0.out | apply IsS147.alloc | apply IsS147.drewN | apply IsS147.drew | apply IsS147.set_1 | apply IsS147.set_2 | apply IsS147.set_3 | apply IsS147.set_4 | apply IsS147.set_5) | exact HI0.out), by repeat (first | (with_reducible first | exact HB.out | apply below_alloc | apply pw_below_drewN | apply below_drew1 | refine below_set ?_ (IsS147.ge HI0.out)) | exact HB.out), by repeat (first | (with_reducible first | exact HK.out | apply KeepBut.set_ | apply keep_drewN | apply keep_drew | apply keep_alloc) | exact HK.out)⟩
  · rw [if_neg c3] at H
    have c3b0 : decide (a1 < 15) = false := decide_eq_false c3
    clear c3
    have H' := Aside0.mk H
    clear H
    go_enter Try.func109, Try.ntmps109
    go_wp2
    repeat (go_quiet (fail); try go_wp2)
    go_loopg [1] k (fun kq v1 w' => ∃ (x1_1 : Int) (x1001_1 : Int) (x1002_1 : Int) (x1003_1 : Int) (x1004_1 : Int) (x1005_1 : Int), v1 = .int .i64 x1_1 ∧ Aside0 (lz_reader_length.l0 kq x1_1 s0_0 x1001_1 x1002_1 x1003_1 x1004_1 x1005_1 = some (r1, r2, r3, r4, r5, r6, r7)) ∧ Aside0 (kq ≤ k) ∧ Aside0 (IsS147 A0 c0 w0 w' g s0_0 x1001_1 x1002_1 x1003_1 x1004_1 x1005_1) ∧ Aside0 (KeepBut w w' g none) ∧ Aside0 (Below w0.heap.size w0 w'))
    case atStart => exact ⟨(a1), (s0_1), (s0_2), (s0_3), (s0_4), (s0_5), (by first | rfl | (simp; done) | (simp [*]; done)), H', ⟨Nat.le_refl _⟩, ⟨by repeat (first | (with_reducible first | exact HI0.out | apply IsS147.alloc | apply IsS147.drewN | apply IsS147.drew | apply IsS147.set_1 | apply IsS147.set_2 | apply IsS147.set_3 | apply IsS147.set_4 | apply IsS147.set_5) | exact HI0.out)⟩, ⟨by repeat (first | (with_reducible first | exact HK.out | apply KeepBut.set_ | apply keep_drewN | apply keep_drew | apply keep_alloc) | exact HK.out)⟩, ⟨by repeat (first | (with_reducible first | exact HB.out | apply below_alloc | apply pw_below_drewN | apply below_drew1 | refine below_set ?_ (IsS147.ge HI0.out)) | exact HB.out)⟩⟩
    case round =>
      clear H'
      try clear c1
      try clear p2
      try clear c3
      try clear c3b0
      obtain ⟨x1_1, x1001_1, x1002_1, x1003_1, x1004_1, x1005_1, rfl, HA, HK1, HI0, HK, HB⟩ := hrel
      cases gk with
      | zero => exact absurd HA.out (by simp [lz_reader_length.l0])
      | succ k1 =>
        have H := HA.out
        clear HA
        simp only [lz_reader_length.l0] at H
        by_cases c4 : x1001_1 = (s0_0.length : Int)
        · rw [if_pos c4] at H
          have c4b0 : (x1001_1 == (s0_0.length : Int)) = true := beq_iff_eq.mpr c4
          have c4b1 : (x1001_1 != (s0_0.length : Int)) = false := bne_eq_false_iff_eq.mpr c4
          clear c4
          replace H := Option.bind_eq_some_iff.mp H
          obtain ⟨⟨t110001, t110002, t110003, t110004, t110005, t110006⟩, A50, H⟩ := H
          replace H : (some (0, t110001, t110002, t110003, t110004, t110005, t110006)) = some (r1, r2, r3, r4, r5, r6, r7) := H
          have A5 := Aside0.mk A50
          clear A50
          simp only [Option.some.injEq, Prod.mk.injEq] at H
          obtain ⟨rfl, rfl, rfl, rfl, rfl, rfl, rfl⟩ := H
          obtain ⟨HGz6, hgz6, HSz6_0⟩ := HI0.out
          have hcz6_0 := cellS147_0 HGz6
          have hcz6_1 := cellS147_1 HGz6
          have hcz6_2 := cellS147_2 HGz6
          have hcz6_3 := cellS147_3 HGz6
          have hcz6_4 := cellS147_4 HGz6
          have hcz6_5 := cellS147_5 HGz6
          have hfz6_1 := blk_frozen HGz6 1
          have hfz6_2 := blk_frozen HGz6 2
          have hfz6_3 := blk_frozen HGz6 3
          have hfz6_4 := blk_frozen HGz6 4
          have hfz6_5 := blk_frozen HGz6 5
          clear HGz6 hgz6
          go_wp2_with (first | (go_at_call 108; (with_reducible refine (lz_reader_fail.calls A0 c0 g s0_0 x1001_1 x1002_1 x1003_1 x1004_1 x1005_1 6 (s0_0.length : Int) t110001 t110002 t110003 t110004 t110005 t110006 w0 _ ?side1 ?side2 A5.out).mono ?_); (case side1 => repeat (first | (with_reducible first | exact HI0.out | apply IsS147.alloc | apply IsS147.drewN | apply IsS147.drew | apply IsS147.set_1 | apply IsS147.set_2 | apply IsS147.set_3 | apply IsS147.set_4 | apply IsS147.set_5) | exact HI0.out)); (case side2 => repeat (first | (with_reducible first | exact HB.out | apply below_alloc | apply pw_below_drewN | apply below_drew1 | refine below_set ?_ (IsS147.ge HI0.out)) | exact HB.out)); rintro e w7 ⟨rfl, hi, hb, hk⟩; have n0_ := Aside0.mk (KeepBut.trans (by repeat (first | (with_reducible first | exact HK.out | apply KeepBut.set_ | apply keep_drewN | apply keep_drew | apply keep_alloc) | exact HK.out)) hk (.inl rfl)); have n1_ := Aside0.mk (hb); have n2_ := Aside0.mk (hi); clear HK; clear HB; clear HI0; have HK := n0_; have HB := n1_; have HI0 := n2_; clear n0_ n1_ n2_; (try clear hb); (try clear hb2); (try clear hk); (try clear hi)))
          repeat (go_quiet (first | (go_at_call 108; (with_reducible refine (lz_reader_fail.calls A0 c0 g s0_0 x1001_1 x1002_1 x1003_1 x1004_1 x1005_1 6 (s0_0.length : Int) t110001 t110002 t110003 t110004 t110005 t110006 w0 _ ?side1 ?side2 A5.out).mono ?_); (case side1 => repeat (first | (with_reducible first | exact HI0.out | apply IsS147.alloc | apply IsS147.drewN | apply IsS147.drew | apply IsS147.set_1 | apply IsS147.set_2 | apply IsS147.set_3 | apply IsS147.set_4 | apply IsS147.set_5) | exact HI0.out)); (case side2 => repeat (first | (with_reducible first | exact HB.out | apply below_alloc | apply pw_below_drewN | apply below_drew1 | refine below_set ?_ (IsS147.ge HI0.out)) | exact HB.out)); rintro e w7 ⟨rfl, hi, hb, hk⟩; have n0_ := Aside0.mk (KeepBut.trans (by repeat (first | (with_reducible first | exact HK.out | apply KeepBut.set_ | apply keep_drewN | apply keep_drew | apply keep_alloc) | exact HK.out)) hk (.inl rfl)); have n1_ := Aside0.mk (hb); have n2_ := Aside0.mk (hi); clear HK; clear HB; clear HI0; have HK := n0_; have HB := n1_; have HI0 := n2_; clear n0_ n1_ n2_; (try clear hb); (try clear hb2); (try clear hk); (try clear hi))); try go_wp2_with (first | (go_at_call 108; (with_reducible refine (lz_reader_fail.calls A0 c0 g s0_0 x1001_1 x1002_1 x1003_1 x1004_1 x1005_1 6 (s0_0.length : Int) t110001 t110002 t110003 t110004 t110005 t110006 w0 _ ?side1 ?side2 A5.out).mono ?_); (case side1 => repeat (first | (with_reducible first | exact HI0.out | apply IsS147.alloc | apply IsS147.drewN | apply IsS147.drew | apply IsS147.set_1 | apply IsS147.set_2 | apply IsS147.set_3 | apply IsS147.set_4 | apply IsS147.set_5) | exact HI0.out)); (case side2 => repeat (first | (with_reducible first | exact HB.out | apply below_alloc | apply pw_below_drewN | apply below_drew1 | refine below_set ?_ (IsS147.ge HI0.out)) | exact HB.out)); rintro e w7 ⟨rfl, hi, hb, hk⟩; have n0_ := Aside0.mk (KeepBut.trans (by repeat (first | (with_reducible first | exact HK.out | apply KeepBut.set_ | apply keep_drewN | apply keep_drew | apply keep_alloc) | exact HK.out)) hk (.inl rfl)); have n1_ := Aside0.mk (hb); have n2_ := Aside0.mk (hi); clear HK; clear HB; clear HI0; have HK := n0_; have HB := n1_; have HI0 := n2_; clear n0_ n1_ n2_; (try clear hb); (try clear hb2); (try clear hk); (try clear hi))))
          go_ret2
          exact ⟨by first | rfl | (simp [errW_none, errW_some] <;> rfl) | (simp [*, errW_none, errW_some] <;> rfl), by repeat (first | (with_reducible first | exact HI0.out | apply IsS147.alloc | apply IsS147.drewN | apply IsS147.drew | apply IsS147.set_1 | apply IsS147.set_2 | apply IsS147.set_3 | apply IsS147.set_4 | apply IsS147.set_5) | exact HI0.out), by repeat (first | (with_reducible first | exact HB.out | apply below_alloc | apply pw_below_drewN | apply below_drew1 | refine below_set ?_ (IsS147.ge HI0.out)) | exact HB.out), by repeat (first | (with_reducible first | exact HK.out | apply KeepBut.set_ | apply keep_drewN | apply keep_drew | apply keep_alloc) | exact HK.out)⟩
        · rw [if_neg c4] at H
          have c4b0 : (x1001_1 == (s0_0.length : Int)) = false := beq_eq_false_iff_ne.mpr c4
          have c4b1 : (x1001_1 != (s0_0.length : Int)) = true := bne_iff_ne.mpr c4
          by_cases c8 : 0 ≤ x1001_1
          · rw [if_pos c8] at H
            have c8b0 : decide (0 ≤ x1001_1) = true := decide_eq_true c8
            clear c8
            by_cases c9 : x1001_1 < (s0_0.length : Int)
            · rw [if_pos c9] at H
              have c9b0 : decide (x1001_1 < (s0_0.length : Int)) = true := decide_eq_true c9
              clear c9
              by_cases c10 : (wrap64 (rd s0_0 x1001_1)) < 255
              · rw [if_pos c10] at H
                have c10b0 : decide ((wrap64 (rd s0_0 x1001_1)) < 255) = true := decide_eq_true c10
                clear c10
                simp only [Option.some.injEq, Prod.mk.injEq] at H
                obtain ⟨rfl, rfl, rfl, rfl, rfl, rfl, rfl⟩ := H
                obtain ⟨HGz11, hgz11, HSz11_0⟩ := HI0.out
                have hcz11_0 := cellS147_0 HGz11
                have hcz11_1 := cellS147_1 HGz11
                have hcz11_2 := cellS147_2 HGz11
                have hcz11_3 := cellS147_3 HGz11
                have hcz11_4 := cellS147_4 HGz11
                have hcz11_5 := cellS147_5 HGz11
                have hfz11_1 := blk_frozen HGz11 1
                have hfz11_2 := blk_frozen HGz11 2
                have hfz11_3 := blk_frozen HGz11 3
                have hfz11_4 := blk_frozen HGz11 4
                have hfz11_5 := blk_frozen HGz11 5
                clear HGz11 hgz11
                have p110007 : 0 ≤ (x1001_1 : Int) := of_decide_eq_true (by first | (with_reducible assumption) | assumption)
                have q110007 : x1001_1 < (s0_0.length : Int) := of_decide_eq_true (by first | (with_reducible assumption) | assumption)
                obtain ⟨ad110007, e110007, hx110007_0⟩ := Kd.at_int HSz11_0 x1001_1 p110007 q110007
                cases e110007
                replace hx110007_0 := pw_cell_below HB.out hx110007_0
                replace p110007 := eq_true p110007
                replace q110007 := eq_true q110007
                go_wp2
                repeat (go_quiet (fail); try go_wp2)
                go_ret2
                exact ⟨by first | rfl | (simp [errW_none, errW_some] <;> rfl) | (simp [*, errW_none, errW_some] <;> rfl), by repeat (first | (with_reducible first | exact HI0.out | apply IsS147.alloc | apply IsS147.drewN | apply IsS147.drew | apply IsS147.set_1 | apply IsS147.set_2 | apply IsS147.set_3 | apply IsS147.set_4 | apply IsS147.set_5) | exact HI0.out), by repeat (first | (with_reducible first | exact HB.out | apply below_alloc | apply pw_below_drewN | apply below_drew1 | refine below_set ?_ (IsS147.ge HI0.out)) | exact HB.out), by repeat (first | (with_reducible first | exact HK.out | apply KeepBut.set_ | apply keep_drewN | apply keep_drew | apply keep_alloc) | exact HK.out)⟩
              · rw [if_neg c10] at H
                have c10b0 : decide ((wrap64 (rd s0_0 x1001_1)) < 255) = false := decide_eq_false c10
                clear c10
                have H' := Aside0.mk H
                clear H
                obtain ⟨HGz12, hgz12, HSz12_0⟩ := HI0.out
                have hcz12_0 := cellS147_0 HGz12
                have hcz12_1 := cellS147_1 HGz12
                have hcz12_2 := cellS147_2 HGz12
                have hcz12_3 := cellS147_3 HGz12
                have hcz12_4 := cellS147_4 HGz12
                have hcz12_5 := cellS147_5 HGz12
                have hfz12_1 := blk_frozen HGz12 1
                have hfz12_2 := blk_frozen HGz12 2
                have hfz12_3 := blk_frozen HGz12 3
                have hfz12_4 := blk_frozen HGz12 4
                have hfz12_5 := blk_frozen HGz12 5
                clear HGz12 hgz12
                have p110007 : 0 ≤ (x1001_1 : Int) := of_decide_eq_true (by first | (with_reducible assumption) | assumption)
                have q110007 : x1001_1 < (s0_0.length : Int) := of_decide_eq_true (by first | (with_reducible assumption) | assumption)
                obtain ⟨ad110007, e110007, hx110007_0⟩ := Kd.at_int HSz12_0 x1001_1 p110007 q110007
                cases e110007
                replace hx110007_0 := pw_cell_below HB.out hx110007_0
                replace p110007 := eq_true p110007
                replace q110007 := eq_true q110007
                go_wp2
                repeat (go_quiet (fail); try go_wp2)
                go_roundg k1
                case measure => have := HK1.out; omega
                case rel => exact ⟨(wrap64 (x1_1 + (wrap64 (rd s0_0 x1001_1)))), (wrap64 (x1001_1 + 1)), (x1002_1), (x1003_1), (x1004_1), (x1005_1), (by first | rfl | (simp; done) | (simp [*]; done)), H', ⟨by have := HK1.out; omega⟩, ⟨by repeat (first | (with_reducible first | exact HI0.out | apply IsS147.alloc | apply IsS147.drewN | apply IsS147.drew | apply IsS147.set_1 | apply IsS147.set_2 | apply IsS147.set_3 | apply IsS147.set_4 | apply IsS147.set_5) | exact HI0.out)⟩, ⟨by repeat (first | (with_reducible first | exact HK.out | apply KeepBut.set_ | apply keep_drewN | apply keep_drew | apply keep_alloc) | exact HK.out)⟩, ⟨by repeat (first | (with_reducible first | exact HB.out | apply below_alloc | apply pw_below_drewN | apply below_drew1 | refine below_set ?_ (IsS147.ge HI0.out)) | exact HB.out)⟩⟩
            · rw [if_neg c9] at H
              exact absurd H (by simp)
          · rw [if_neg c8] at H
            exact absurd H (by simp)

end Go.Proofs.Ytdlfflgcmgkmeaa.P

-- Written by a program of this session's own (wip/tools), over the translation. Not trusted: Lean checks it.
namespace Go.Proofs.Ytdlfflgcmgkmeaa.P
open Go.RowKit Go.Proofs.YtdlfflgcmgkmeaaW.PrintWords Go.Proofs.YtdlfflgcmgkmeaaW.PrintLast Go.Proofs.YtdlfflgcmgkmeaaW.PrintMore
attribute [local go_sem] max2_int min2_int max_two min_two max_three min_three max_four min_four   -- for this text's walks alone
set_option linter.unusedVariables false
set_option linter.unusedSimpArgs false

/-! ### lz_reader_room: function 110 -/
def lz_reader_room.f (s0_0 : List Int) (s0_1 : Int) (s0_2 : Int) (s0_3 : Int) (s0_4 : Int) (s0_5 : Int) (a1 : Int) (a2 : Int) : Option (Bool × Int × Int × Int × Int × Int) := if a1 > (wrap64 (s0_3 - s0_2)) then ((lz_reader_fail.f s0_0 s0_1 s0_2 s0_3 s0_4 s0_5 2 a2).bind fun bt111001 => (some (bt111001.1, bt111001.2.1, bt111001.2.2.1, bt111001.2.2.2.1, bt111001.2.2.2.2.1, bt111001.2.2.2.2.2))) else (some (true, s0_1, wrap64 (s0_2 + a1), s0_3, s0_4, s0_5))
set_option maxHeartbeats 8000000 in
set_option maxRecDepth 100000 in
theorem lz_reader_room.calls (A0 : Option Addr) (c0 : Nat) (g : Nat) (s0_0 : List Int) (s0_1 : Int) (s0_2 : Int) (s0_3 : Int) (s0_4 : Int) (s0_5 : Int) (a1 : Int) (a2 : Int) (r1 : Bool) (r2 : Int) (r3 : Int) (r4 : Int) (r5 : Int) (r6 : Int) (w0 w : World) (hI : IsS147 A0 c0 w0 w g s0_0 s0_1 s0_2 s0_3 s0_4 s0_5) (hB : Below w0.heap.size w0 w) (h : lz_reader_room.f s0_0 s0_1 s0_2 s0_3 s0_4 s0_5 a1 a2 = some (r1, r2, r3, r4, r5, r6)) :
    Calls Try.prog 110 #[.pointer (some ⟨g, 0, none⟩), .int .i64 a1, .int .i64 a2] w fun e w' => e = .returned (.bool r1) ∧ IsS147 A0 c0 w0 w' g s0_0 r2 r3 r4 r5 r6 ∧ Below w0.heap.size w0 w' ∧ KeepBut w w' g none := by
  have HI0 := Aside0.mk hI
  have HK := Aside0.mk (KeepBut.refl w g none)
  have HL := Aside0.mk hB.size
  clear hI
  have HW0 := Aside0.mk hB.size
  have HB := Aside0.mk hB
  clear hB
  have H : (if a1 > (wrap64 (s0_3 - s0_2)) then ((lz_reader_fail.f s0_0 s0_1 s0_2 s0_3 s0_4 s0_5 2 a2).bind fun bt111001 => (some (bt111001.1, bt111001.2.1, bt111001.2.2.1, bt111001.2.2.2.1, bt111001.2.2.2.2.1, bt111001.2.2.2.2.2))) else (some (true, s0_1, wrap64 (s0_2 + a1), s0_3, s0_4, s0_5))) = some (r1, r2, r3, r4, r5, r6) := h
  clear h
  by_cases c4 : a1 > (wrap64 (s0_3 - s0_2))
  · rw [if_pos c4] at H
    have c4b0 : decide ((wrap64 (s0_3 - s0_2)) < a1) = true := decide_eq_true c4
    clear c4
    replace H := Option.bind_eq_some_iff.mp H
    obtain ⟨⟨t111001, t111002, t111003, t111004, t111005, t111006⟩, A50, H⟩ := H
    replace H : (some (t111001, t111002, t111003, t111004, t111005, t111006)) = some (r1, r2, r3, r4, r5, r6) := H
    have A5 := Aside0.mk A50
    clear A50
    simp only [Option.some.injEq, Prod.mk.injEq] at H
    obtain ⟨rfl, rfl, rfl, rfl, rfl, rfl⟩ := H
    obtain ⟨HGz6, hgz6, HSz6_0⟩ := HI0.out
    have hcz6_0 := cellS147_0 HGz6
    have hcz6_1 := cellS147_1 HGz6
    have hcz6_2 := cellS147_2 HGz6
    have hcz6_3 := cellS147_3 HGz6
    have hcz6_4 := cellS147_4 HGz6
    have hcz6_5 := cellS147_5 HGz6
    have hfz6_1 := blk_frozen HGz6 1
    have hfz6_2 := blk_frozen HGz6 2
    have hfz6_3 := blk_frozen HGz6 3
    have hfz6_4 := blk_frozen HGz6 4
    have hfz6_5 := blk_frozen HGz6 5
    clear HGz6 hgz6
    go_enter Try.func110, Try.ntmps110
    go_wp2_with (first | (go_at_call 108; (with_reducible refine (lz_reader_fail.calls A0 c0 g s0_0 s0_1 s0_2 s0_3 s0_4 s0_5 2 a2 t111001 t111002 t111003 t111004 t111005 t111006 w0 _ ?side1 ?side2 A5.out).mono ?_); (case side1 => repeat (first | (with_reducible first | exact HI0.out | apply IsS147.alloc | apply IsS147.drewN | apply IsS147.drew | apply IsS147.set_1 | apply IsS147.set_2 | apply IsS147.set_3 | apply IsS147.set_4 | apply IsS147.set_5) | exact HI0.out)); (case side2 => repeat (first | (with_reducible first | exact HB.out | apply below_alloc | apply pw_below_drewN | apply below_drew1 | refine below_set ?_ (IsS147.ge HI0.out)) | exact HB.out)); rintro e w7 ⟨rfl, hi, hb, hk⟩; have n0_ := Aside0.mk (KeepBut.trans (by repeat (first | (with_reducible first | exact HK.out | apply KeepBut.set_ | apply keep_drewN | apply keep_drew | apply keep_alloc) | exact HK.out)) hk (.inl rfl)); have n1_ := Aside0.mk (hb); have n2_ := Aside0.mk (hi); clear HK; clear HB; clear HI0; have HK := n0_; have HB := n1_; have HI0 := n2_; clear n0_ n1_ n2_; (try clear hb); (try clear hb2); (try clear hk); (try clear hi)))
    repeat (go_quiet (first | (go_at_call 108; (with_reducible refine (lz_reader_fail.calls A0 c0 g s0_0 s0_1 s0_2 s0_3 s0_4 s0_5 2 a2 t111001 t111002 t111003 t111004 t111005 t111006 w0 _ ?side1 ?side2 A5.out).mono ?_); (case side1 => repeat (first | (with_reducible first | exact HI0.out | apply IsS147.alloc | apply IsS147.drewN | apply IsS147.drew | apply IsS147.set_1 | apply IsS147.set_2 | apply IsS147.set_3 | apply IsS147.set_4 | apply IsS147.set_5) | exact HI0.out)); (case side2 => repeat (first | (with_reducible first | exact HB.out | apply below_alloc | apply pw_below_drewN | apply below_drew1 | refine below_set ?_ (IsS147.ge HI0.out)) | exact HB.out)); rintro e w7 ⟨rfl, hi, hb, hk⟩; have n0_ := Aside0.mk (KeepBut.trans (by repeat (first | (with_reducible first | exact HK.out | apply KeepBut.set_ | apply keep_drewN | apply keep_drew | apply keep_alloc) | exact HK.out)) hk (.inl rfl)); have n1_ := Aside0.mk (hb); have n2_ := Aside0.mk (hi); clear HK; clear HB; clear HI0; have HK := n0_; have HB := n1_; have HI0 := n2_; clear n0_ n1_ n2_; (try clear hb); (try clear hb2); (try clear hk); (try clear hi))); try go_wp2_with (first | (go_at_call 108; (with_reducible refine (lz_reader_fail.calls A0 c0 g s0_0 s0_1 s0_2 s0_3 s0_4 s0_5 2 a2 t111001 t111002 t111003 t111004 t111005 t111006 w0 _ ?side1 ?side2 A5.out).mono ?_); (case side1 => repeat (first | (with_reducible first | exact HI0.out | apply IsS147.alloc | apply IsS147.drewN | apply IsS147.drew | apply IsS147.set_1 | apply IsS147.set_2 | apply IsS147.set_3 | apply IsS147.set_4 | apply IsS147.set_5) | exact HI0.out)); (case side2 => repeat (first | (with_reducible first | exact HB.out | apply below_alloc | apply pw_below_drewN | apply below_drew1 | refine below_set ?_ (IsS147.ge HI0.out)) | exact HB.out)); rintro e w7 ⟨rfl, hi, hb, hk⟩; have n0_ := Aside0.mk (KeepBut.trans (by repeat (first | (with_reducible first | exact HK.out | apply KeepBut.set_ | apply keep_drewN | apply keep_drew | apply keep_alloc) | exact HK.out)) hk (.inl rfl)); have n1_ := Aside0.mk (hb); have n2_ := Aside0.mk (hi); clear HK; clear HB; clear HI0; have HK := n0_; have HB := n1_; have HI0 := n2_; clear n0_ n1_ n2_; (try clear hb); (try clear hb2); (try clear hk); (try clear hi))))
    go_ret
    exact ⟨by first | rfl | (simp [errW_none, errW_some] <;> rfl) | (simp [*, errW_none, errW_some] <;> rfl), by repeat (first | (with_reducible first | exact HI0.out | apply IsS147.alloc | apply IsS147.drewN | apply IsS147.drew | apply IsS147.set_1 | apply IsS147.set_2 | apply IsS147.set_3 | apply IsS147.set_4 | apply IsS147.set_5) | exact HI0.out), by repeat (first | (with_reducible first | exact HB.out | apply below_alloc | apply pw_below_drewN | apply below_drew1 | refine below_set ?_ (IsS147.ge HI0.out)) | exact HB.out), by repeat (first | (with_reducible first | exact HK.out | apply KeepBut.set_ | apply keep_drewN | apply keep_drew | apply keep_alloc) | exact HK.out)⟩
  · rw [if_neg c4] at H
    have c4b0 : decide ((wrap64 (s0_3 - s0_2)) < a1) = false := decide_eq_false c4
    clear c4
    simp only [Option.some.injEq, Prod.mk.injEq] at H
    obtain ⟨rfl, rfl, rfl, rfl, rfl, rfl⟩ := H
    obtain ⟨HGz8, hgz8, HSz8_0⟩ := HI0.out
    have hcz8_0 := cellS147_0 HGz8
    have hcz8_1 := cellS147_1 HGz8
    have hcz8_2 := cellS147_2 HGz8
    have hcz8_3 := cellS147_3 HGz8
    have hcz8_4 := cellS147_4 HGz8
    have hcz8_5 := cellS147_5 HGz8
    have hfz8_1 := blk_frozen HGz8 1
    have hfz8_2 := blk_frozen HGz8 2
    have hfz8_3 := blk_frozen HGz8 3
    have hfz8_4 := blk_frozen HGz8 4
    have hfz8_5 := blk_frozen HGz8 5
    clear HGz8 hgz8
    go_enter Try.func110, Try.ntmps110
    go_wp2
    repeat (go_quiet (fail); try go_wp2)
    go_ret
    exact ⟨by first | rfl | (simp [errW_none, errW_some] <;> rfl) | (simp [*, errW_none, errW_some] <;> rfl), by repeat (first | (with_reducible first | exact HI0.out | apply IsS147.alloc | apply IsS147.drewN | apply IsS147.drew | apply IsS147.set_1 | apply IsS147.set_2 | apply IsS147.set_3 | apply IsS147.set_4 | apply IsS147.set_5) | exact HI0.out), by repeat (first | (with_reducible first | exact HB.out | apply below_alloc | apply pw_below_drewN | apply below_drew1 | refine below_set ?_ (IsS147.ge HI0.out)) | exact HB.out), by repeat (first | (with_reducible first | exact HK.out | apply KeepBut.set_ | apply keep_drewN | apply keep_drew | apply keep_alloc) | exact HK.out)⟩

end Go.Proofs.Ytdlfflgcmgkmeaa.P
