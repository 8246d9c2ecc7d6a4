/- Proved: BlocksLoads, part 5 of 5: Blocks.Load answers as ref05 says. Conditions: those that the statement itself has. -/
import Derived.Test.YtdlfflgcmgkmeaaKBlocksLoads1
import Derived.Test.YtdlfflgcmgkmeaaKBlocksLoads4
import Derived.Test.YtdlfflgcmgkmeaaKBlocksLoads2
import Derived.Test.YtdlfflgcmgkmeaaKBlocksLoads3
import Derived.OpenShut
import Derived.Test.YtdlfflgcmgkmeaaRows
import Derived.Test.YtdlfflgcmgkmeaaClosing
import Derived.WalkKit
import Derived.ProofKit
import Derived.ShutString
import Derived.ChangeOld
import Derived.Below
import Derived.SizedLaws
import Derived.Test.YtdlfflgcmgkmeaaVBlocksLoadsSized
-- Written by a program of this session's own (wip/tools), over the translation. Not trusted: Lean checks it.
namespace Go.Proofs.Ytdlfflgcmgkmeaa.P
open Go.RowKit Go.Proofs.YtdlfflgcmgkmeaaW.PrintWords Go.Proofs.YtdlfflgcmgkmeaaW.PrintLast Go.Proofs.YtdlfflgcmgkmeaaW.PrintMore
attribute [local go_sem] max2_int min2_int max_two min_two max_three min_three max_four min_four   -- for this text's walks alone
set_option linter.unusedVariables false
set_option linter.unusedSimpArgs false

/-! ### blocks_Load: function 49 -/
mutual
def blocks_Load.j0 : Nat → List Int → Int → Int → Int → Bool → Option (List Int × Int)
  | 0, _, _, _, _, _ => none
  | k + 1, x0, x1, x2, x3, x22 => if x22 = true then (some (([] : List Int), 1)) else (if x2 = 0 then (if 0 ≤ x3 then (if (x3 : Int).toNat ≤ 281474976710656 then (some ((List.replicate (x3 : Int).toNat 0), 0)) else (none)) else (none)) else ((blocks_Parts.f x2).bind fun bt50004 => (if bt50004.2.2 = 0 then (if bt50004.2.1 = true then (blocks_Load.j1 k x0 x1 x3 bt50004.1 bt50004.2.1 false) else (blocks_Load.j1 k x0 x1 x3 bt50004.1 bt50004.2.1 (bt50004.1 != x3))) else (blocks_Load.j1 k x0 x1 x3 bt50004.1 bt50004.2.1 (bt50004.2.2 != 0)))))
def blocks_Load.j1 : Nat → List Int → Int → Int → Int → Bool → Bool → Option (List Int × Int)
  | 0, _, _, _, _, _, _ => none
  | k + 1, x0, x1, x3, x10, x11, x33 => if x33 = true then (some (([] : List Int), 1)) else (if x1 < 0 then (some (([] : List Int), 9)) else (if (x0.length : Int) < (wrap64 (x10 + 4)) then (some (([] : List Int), 9)) else (if x1 > (wrap64 ((wrap64 ((x0.length : Int) - x10)) - 4)) then (some (([] : List Int), 9)) else (if 0 ≤ x1 then (if x1 ≤ (wrap64 (x1 + x10)) then (if (wrap64 (x1 + x10)) ≤ (x0.length : Int) then ((field_Get.f k x0 (wrap64 (x1 + x10)) 4).bind fun bt50008 => ((sum_Crc.f k ((x0.take ((wrap64 (x1 + x10)) : Int).toNat).drop (x1 : Int).toNat)).bind fun t50010 => (if bt50008.1 = (IntKind.u64.wrap (t50010)) then ((match_Unpack.f k ((x0.take ((wrap64 (x1 + x10)) : Int).toNat).drop (x1 : Int).toNat) x11 x3).bind fun bt50011 => (if bt50011.2 = 0 then (if (bt50011.1.length : Int) = x3 then (some (bt50011.1, 0)) else (some (([] : List Int), 6))) else (some (([] : List Int), 6)))) else (some (([] : List Int), 140))))) else (none)) else (none)) else (none)))))
end
def blocks_Load.f (k : Nat) (l0 : List Int) (a1 : Int) (a2 : Int) (a3 : Int) : Option (List Int × Int) := if a3 < 1 then (blocks_Load.j0 k l0 a1 a2 a3 true) else (blocks_Load.j0 k l0 a1 a2 a3 (decide (a3 > 1048576)))
theorem blocks_Load.mono_l : ∀ k, (∀ y0 y1 y2 y3 y4, LeO (blocks_Load.j0 k y0 y1 y2 y3 y4) (blocks_Load.j0 (k + 1) y0 y1 y2 y3 y4)) ∧ (∀ y0 y1 y2 y3 y4 y5, LeO (blocks_Load.j1 k y0 y1 y2 y3 y4 y5) (blocks_Load.j1 (k + 1) y0 y1 y2 y3 y4 y5))
  | 0 => ⟨fun _ _ _ _ _ r h => by simp [blocks_Load.j0] at h, fun _ _ _ _ _ _ r h => by simp [blocks_Load.j1] at h⟩
  | k + 1 => by
    obtain ⟨ih0, ih1⟩ := blocks_Load.mono_l k
    refine ⟨?_, ?_⟩
    · intro y0 y1 y2 y3 y4
      unfold blocks_Load.j0
      repeat' first
      | (with_reducible exact ih0 _ _ _ _ _)
      | (with_reducible exact ih1 _ _ _ _ _ _)
      | (with_reducible exact field_Get.mono _ _ _ _)
      | (with_reducible exact match_Unpack.mono _ _ _ _)
      | (with_reducible exact sum_Crc.mono _ _)
      | (with_reducible exact LeO.refl _)
      | (with_reducible exact LeO.none _)
      | (with_reducible refine LeO.ite ?_ ?_)
      | (with_reducible refine LeO.bind ?_ (fun _ => ?_))
      | exact ih0 _ _ _ _ _
      | exact ih1 _ _ _ _ _ _
      | exact field_Get.mono _ _ _ _
      | exact match_Unpack.mono _ _ _ _
      | exact sum_Crc.mono _ _
      | exact LeO.none _
      | refine LeO.ite ?_ ?_
      | refine LeO.bind ?_ (fun _ => ?_)
    · intro y0 y1 y2 y3 y4 y5
      unfold blocks_Load.j1
      repeat' first
      | (with_reducible exact ih0 _ _ _ _ _)
      | (with_reducible exact ih1 _ _ _ _ _ _)
      | (with_reducible exact field_Get.mono _ _ _ _)
      | (with_reducible exact match_Unpack.mono _ _ _ _)
      | (with_reducible exact sum_Crc.mono _ _)
      | (with_reducible exact LeO.refl _)
      | (with_reducible exact LeO.none _)
      | (with_reducible refine LeO.ite ?_ ?_)
      | (with_reducible refine LeO.bind ?_ (fun _ => ?_))
      | exact ih0 _ _ _ _ _
      | exact ih1 _ _ _ _ _ _
      | exact field_Get.mono _ _ _ _
      | exact match_Unpack.mono _ _ _ _
      | exact sum_Crc.mono _ _
      | exact LeO.none _
      | refine LeO.ite ?_ ?_
      | refine LeO.bind ?_ (fun _ => ?_)
theorem blocks_Load.mono : ∀ a0 a1 a2 a3 k, LeO (blocks_Load.f k a0 a1 a2 a3) (blocks_Load.f (k + 1) a0 a1 a2 a3) := by
  intro a0 a1 a2 a3 k
  obtain ⟨ih0, ih1⟩ := blocks_Load.mono_l k
  unfold blocks_Load.f
  repeat' first
      | (with_reducible exact ih0 _ _ _ _ _)
      | (with_reducible exact ih1 _ _ _ _ _ _)
      | (with_reducible exact field_Get.mono _ _ _ _)
      | (with_reducible exact match_Unpack.mono _ _ _ _)
      | (with_reducible exact sum_Crc.mono _ _)
      | (with_reducible exact LeO.refl _)
      | (with_reducible exact LeO.none _)
      | (with_reducible refine LeO.ite ?_ ?_)
      | (with_reducible refine LeO.bind ?_ (fun _ => ?_))
      | exact ih0 _ _ _ _ _
      | exact ih1 _ _ _ _ _ _
      | exact field_Get.mono _ _ _ _
      | exact match_Unpack.mono _ _ _ _
      | exact sum_Crc.mono _ _
      | exact LeO.none _
      | refine LeO.ite ?_ ?_
      | refine LeO.bind ?_ (fun _ => ?_)
set_option maxHeartbeats 8000000 in
set_option maxRecDepth 100000 in
theorem blocks_Load.calls (k : Nat) (A0 : Option Addr) (c0 : Nat) (l0 : List Int) (a1 : Int) (a2 : Int) (a3 : Int) (r1 : List Int) (r2 : Int) (w : World) (hr0 : Kd.C (Kd.int .u8) w A0 l0.length l0) (hc0 : l0.length ≤ c0) (h : blocks_Load.f k l0 a1 a2 a3 = some (r1, r2)) :
    Calls Try.prog 49 #[.slice A0 l0.length c0, .int .i64 a1, .int .i64 a2, .int .i64 a3] w fun e w' => ∃ v0_ : Value, e = .returned (.tuple #[v0_, .int .i64 r2]) ∧ Kd.R (Kd.int .u8) 5 w' w.heap.size (fun _ => True) v0_ r1 ∧ Below w.heap.size w w' := by
  have HR0 := Aside0.mk hr0
  have HC0 := Aside0.mk hc0
  clear hr0 hc0
  have HB := Aside0.mk (Below.refl w.heap.size w)
  have H : (if a3 < 1 then (blocks_Load.j0 k l0 a1 a2 a3 true) else (blocks_Load.j0 k l0 a1 a2 a3 (decide (a3 > 1048576)))) = some (r1, r2) := h
  clear h
  have HC5 := Aside0.mk H
  clear H
  go_enter Try.func49, Try.ntmps49
  go_upto_region 1 with (fail)
  go_cut [22] (fun v22 wc => ∃ (kq : Nat) (x22_4 : Bool), v22 = .bool x22_4 ∧ Aside0 (blocks_Load.j0 kq l0 a1 a2 a3 x22_4 = some (r1, r2)) ∧ Aside0 (kq ≤ k) ∧ Aside0 (Below w.heap.size w wc))
  case first =>
    have H := HC5.out
    clear HC5
    by_cases c6 : a3 < 1
    · rw [if_pos c6] at H
      have c6b0 : decide (a3 < 1) = true := decide_eq_true c6
      clear c6
      (first | rw [c6b0] | (simp only [i64_w, i32_w]; rw [c6b0]) | skip)
      have H' := Aside0.mk H
      clear H
      go_wp2
      go_meet
      case rel => exact ⟨_, (true), (by first | rfl | (simp; done) | (simp [*]; done)), H', ⟨by first | omega | exact Nat.le_refl _⟩, ⟨by repeat (first | (with_reducible first | exact HB.out | apply below_alloc | apply pw_below_drewN | apply below_drew1) | exact HB.out)⟩⟩
    · rw [if_neg c6] at H
      have c6b0 : decide (a3 < 1) = false := decide_eq_false c6
      clear c6
      (first | rw [c6b0] | (simp only [i64_w, i32_w]; rw [c6b0]) | skip)
      have H' := Aside0.mk H
      clear H
      go_wp2
      go_meet
      case rel => exact ⟨_, (decide (a3 > 1048576)), (by first | rfl | (simp; done) | (simp [*]; done)), H', ⟨by first | omega | exact Nat.le_refl _⟩, ⟨by repeat (first | (with_reducible first | exact HB.out | apply below_alloc | apply pw_below_drewN | apply below_drew1) | exact HB.out)⟩⟩
  case rest =>
    clear HC5
    try clear p2
    try clear c4
    try clear c6
    try clear c6b0
    obtain ⟨kq, x22_4, rfl, HA, HJ4, HB⟩ := hcut
    cases kq with
    | zero => exact absurd HA.out (by simp [blocks_Load.j0])
    | succ kj4 =>
      have H := HA.out
      clear HA
      simp only [blocks_Load.j0] at H
      by_cases c7 : x22_4 = true
      · subst c7
        have H1 : (some (([] : List Int), 1)) = some (r1, r2) := by rw [if_pos rfl] at H; exact H
        clear H
        have H := H1
        clear H1
        simp only [Option.some.injEq, Prod.mk.injEq] at H
        obtain ⟨rfl, rfl⟩ := H
        go_wp2
        go_ret2
        exact ⟨_, by first | rfl | (simp [errW_none, errW_some] <;> rfl) | (simp [*, errW_none, errW_some] <;> rfl), by first | exact Kd.R_nil _ _ _ _ _ | exact Kd.N_nil _ _ _ _ _ | exact Kd.V_nil _ _ _ _ _ | exact Kd.Q_nil _ _ _ _ _ | exact Kd.S_nil _ _ _ _ _, by repeat (first | (with_reducible first | exact HB.out | apply below_alloc | apply pw_below_drewN | apply below_drew1) | exact HB.out)⟩
      · replace c7 := Bool.eq_false_iff.mpr c7
        subst c7
        have H1 : (if a2 = 0 then (if 0 ≤ a3 then (if (a3 : Int).toNat ≤ 281474976710656 then (some ((List.replicate (a3 : Int).toNat 0), 0)) else (none)) else (none)) else ((blocks_Parts.f a2).bind fun bt50004 => (if bt50004.2.2 = 0 then (if bt50004.2.1 = true then (blocks_Load.j1 kj4 l0 a1 a3 bt50004.1 bt50004.2.1 false) else (blocks_Load.j1 kj4 l0 a1 a3 bt50004.1 bt50004.2.1 (bt50004.1 != a3))) else (blocks_Load.j1 kj4 l0 a1 a3 bt50004.1 bt50004.2.1 (bt50004.2.2 != 0))))) = some (r1, r2) := by rw [if_neg (show ¬ (false = true) by decide)] at H; exact H
        clear H
        have H := H1
        clear H1
        by_cases c8 : a2 = 0
        · rw [if_pos c8] at H
          have c8b0 : (a2 == 0) = true := beq_iff_eq.mpr c8
          have c8b1 : (a2 != 0) = false := bne_eq_false_iff_eq.mpr c8
          clear c8
          by_cases c9 : 0 ≤ a3
          · rw [if_pos c9] at H
            have c9b0 := eq_true c9
            have c9b1 : decide (0 ≤ a3) = true := decide_eq_true c9
            clear c9
            by_cases c10 : (a3 : Int).toNat ≤ 281474976710656
            · rw [if_pos c10] at H
              have c10b0 := eq_true c10
              have c10b1 : decide ((a3 : Int).toNat ≤ 281474976710656) = true := decide_eq_true c10
              clear c10
              obtain ⟨y50001, hy50001⟩ : ∃ y_ : List Int, y_ = (List.replicate (a3 : Int).toNat 0) := ⟨_, rfl⟩
              replace H : (some (y50001, 0)) = some (r1, r2) := by first | (rw [hy50001]; with_reducible exact H) | (have H2_ := (Option.bind_some _ _).symm.trans H; rw [hy50001]; with_reducible exact H2_) | (have H2_ := (Option.bind_some _ _).symm.trans H; with_reducible exact H2_) | with_reducible exact H | (rw [hy50001]; exact H) | exact H
              have Ny50001 := Aside0.mk hy50001
              clear hy50001
              simp only [Option.some.injEq, Prod.mk.injEq] at H
              obtain ⟨rfl, rfl⟩ := H
              go_wp2_with (first | ((with_reducible refine gate_dst (N := 26) rfl ?_); (try (refine gate_guard (by rfl) ?_; dsimp only)); refine Kd.R_make (Kd.int .u8) _ 5 rfl (N := 26) rfl 22 _ _ rfl a3 rfl rfl Try.underlying22 (.int .u8 0) 1 info5 rfl (by decide) (by omega) 0 (ok := fun _ => True) (okp := fun _ => True) rfl (fun _ hk => hk) trivial (of_decide_eq_true (by first | (with_reducible assumption) | assumption)) (Nat.le_trans (Nat.mul_le_mul_right _ (of_decide_eq_true (by first | (with_reducible assumption) | assumption) : a3.toNat ≤ 281474976710656)) (by omega)) (Below.refl _ _) (Nat.le_refl _) ?_; intro v50002 w11 ho12 hb hg_ hnew_; clear hg_ hnew_; (first | rw [← Ny50001.out] at ho12 | (simp only [Int.reduceToNat] at ho12; rw [← Ny50001.out] at ho12)); have n0_ := Aside0.mk (Kd.R_lower ho12 (below_size (by repeat (first | (with_reducible first | exact HB.out | apply below_alloc | apply pw_below_drewN | apply below_drew1) | exact HB.out)))); have n1_ := Aside0.mk (below_step (by repeat (first | (with_reducible first | exact HB.out | apply below_alloc | apply pw_below_drewN | apply below_drew1) | exact HB.out)) hb); clear HB; have HO50003 := n0_; have HB := n1_; clear n0_ n1_; clear hb ho12))
              go_ret2
              exact ⟨_, by first | rfl | (simp [errW_none, errW_some] <;> rfl) | (simp [*, errW_none, errW_some] <;> rfl), by (with_reducible repeat (first | apply Kd.R_alloc | apply Kd.R_drewN | apply Kd.R_drew)); exact HO50003.out, by repeat (first | (with_reducible first | exact HB.out | apply below_alloc | apply pw_below_drewN | apply below_drew1) | exact HB.out)⟩
            · rw [if_neg c10] at H
              exact absurd H (by simp)
          · rw [if_neg c9] at H
            exact absurd H (by simp)
        · rw [if_neg c8] at H
          have c8b0 : (a2 == 0) = false := beq_eq_false_iff_ne.mpr c8
          have c8b1 : (a2 != 0) = true := bne_iff_ne.mpr c8
          replace H := Option.bind_eq_some_iff.mp H
          obtain ⟨⟨t50004, t50005, t50006⟩, A130, H⟩ := H
          replace H : (if t50006 = 0 then (if t50005 = true then (blocks_Load.j1 kj4 l0 a1 a3 t50004 t50005 false) else (blocks_Load.j1 kj4 l0 a1 a3 t50004 t50005 (t50004 != a3))) else (blocks_Load.j1 kj4 l0 a1 a3 t50004 t50005 (t50006 != 0))) = some (r1, r2) := H
          have A13 := Aside0.mk A130
          clear A130
          have HC14 := Aside0.mk H
          clear H
          go_upto_if 33 with (first | ((with_reducible refine gate_callee (f := 39) rfl ?_); refine goesL_ (some 29) rfl rfl Try.func39 (by kernel_rfl) rfl #[.int .i64 a2] rfl (by (try simp only [List.map_toArray, List.map_cons, List.map_nil]); first | done | rfl | (simp only [List.length_drop, List.length_take]; rfl)) ?_; (with_reducible refine (blocks_Parts.calls a2 t50004 t50005 t50006 _ A13.out).mono ?_); rintro e w' ⟨rfl, ⟨nd, rfl⟩⟩; refine ⟨_, rfl, ?_⟩))
          (try simp only [Act.put, List.setIfInBounds_toArray, List.set_cons_zero, List.set_cons_succ])
          go_cut [33] (fun v33 wc => ∃ (kq : Nat) (x33_13 : Bool), v33 = .bool x33_13 ∧ Aside0 (blocks_Load.j1 kq l0 a1 a3 t50004 t50005 x33_13 = some (r1, r2)) ∧ Aside0 (kq ≤ kj4) ∧ Aside0 (Below w.heap.size w wc))
          case first =>
            have H := HC14.out
            clear HC14
            by_cases c15 : t50006 = 0
            · rw [if_pos c15] at H
              have c15b0 : (t50006 == 0) = true := beq_iff_eq.mpr c15
              have c15b1 : (t50006 != 0) = false := bne_eq_false_iff_eq.mpr c15
              clear c15
              (first | rw [c15b0] | (simp only [i64_w, i32_w]; rw [c15b0]) | skip)
              by_cases c16 : t50005 = true
              · subst c16
                have H1 : (blocks_Load.j1 kj4 l0 a1 a3 t50004 true false) = some (r1, r2) := by rw [if_pos rfl] at H; exact H
                clear H
                have H := H1
                clear H1
                have H' := Aside0.mk H
                clear H
                go_wp2
                go_meet
                case rel => exact ⟨_, (false), (by first | rfl | (simp; done) | (simp [*]; done)), H', ⟨by have := HJ4.out; first | omega | exact Nat.le_refl _⟩, ⟨by repeat (first | (with_reducible first | exact HB.out | apply below_alloc | apply pw_below_drewN | apply below_drew1) | exact HB.out)⟩⟩
              · replace c16 := Bool.eq_false_iff.mpr c16
                subst c16
                have H1 : (blocks_Load.j1 kj4 l0 a1 a3 t50004 false (t50004 != a3)) = some (r1, r2) := by rw [if_neg (show ¬ (false = true) by decide)] at H; exact H
                clear H
                have H := H1
                clear H1
                have H' := Aside0.mk H
                clear H
                go_wp2
                go_meet
                case rel => exact ⟨_, ((t50004 != a3)), (by first | rfl | (simp; done) | (simp [*]; done)), H', ⟨by have := HJ4.out; first | omega | exact Nat.le_refl _⟩, ⟨by repeat (first | (with_reducible first | exact HB.out | apply below_alloc | apply pw_below_drewN | apply below_drew1) | exact HB.out)⟩⟩
            · rw [if_neg c15] at H
              have c15b0 : (t50006 == 0) = false := beq_eq_false_iff_ne.mpr c15
              have c15b1 : (t50006 != 0) = true := bne_iff_ne.mpr c15
              (first | rw [c15b0] | (simp only [i64_w, i32_w]; rw [c15b0]) | skip)
              have H' := Aside0.mk H
              clear H
              go_wp2
              go_meet
              case rel => exact ⟨_, ((t50006 != 0)), (by first | rfl | (simp; done) | (simp [*]; done)), H', ⟨by have := HJ4.out; first | omega | exact Nat.le_refl _⟩, ⟨by repeat (first | (with_reducible first | exact HB.out | apply below_alloc | apply pw_below_drewN | apply below_drew1) | exact HB.out)⟩⟩
          case rest =>
            clear HC14
            try clear c1
            try clear p2
            try clear c3
            try clear c4
            try clear c6
            try clear c6b0
            try clear c7
            try clear c8
            try clear c8b0
            try clear c8b1
            try clear c9
            try clear c9b0
            try clear c9b1
            try clear c10
            try clear c10b0
            try clear c10b1
            try clear c15
            try clear c15b0
            try clear c15b1
            try clear c16
            try clear p2
            obtain ⟨kq, x33_13, rfl, HA, HJ13, HB⟩ := hcut
            cases kq with
            | zero => exact absurd HA.out (by simp [blocks_Load.j1])
            | succ kj13 =>
              have H := HA.out
              clear HA
              simp only [blocks_Load.j1] at H
              by_cases c17 : x33_13 = true
              · subst c17
                have H1 : (some (([] : List Int), 1)) = some (r1, r2) := by rw [if_pos rfl] at H; exact H
                clear H
                have H := H1
                clear H1
                simp only [Option.some.injEq, Prod.mk.injEq] at H
                obtain ⟨rfl, rfl⟩ := H
                go_wp2
                go_ret2
                exact ⟨_, by first | rfl | (simp [errW_none, errW_some] <;> rfl) | (simp [*, errW_none, errW_some] <;> rfl), by first | exact Kd.R_nil _ _ _ _ _ | exact Kd.N_nil _ _ _ _ _ | exact Kd.V_nil _ _ _ _ _ | exact Kd.Q_nil _ _ _ _ _ | exact Kd.S_nil _ _ _ _ _, by repeat (first | (with_reducible first | exact HB.out | apply below_alloc | apply pw_below_drewN | apply below_drew1) | exact HB.out)⟩
              · replace c17 := Bool.eq_false_iff.mpr c17
                subst c17
                have H1 : (if a1 < 0 then (some (([] : List Int), 9)) else (if (l0.length : Int) < (wrap64 (t50004 + 4)) then (some (([] : List Int), 9)) else (if a1 > (wrap64 ((wrap64 ((l0.length : Int) - t50004)) - 4)) then (some (([] : List Int), 9)) else (if 0 ≤ a1 then (if a1 ≤ (wrap64 (a1 + t50004)) then (if (wrap64 (a1 + t50004)) ≤ (l0.length : Int) then ((field_Get.f kj13 l0 (wrap64 (a1 + t50004)) 4).bind fun bt50008 => ((sum_Crc.f kj13 ((l0.take ((wrap64 (a1 + t50004)) : Int).toNat).drop (a1 : Int).toNat)).bind fun t50010 => (if bt50008.1 = (IntKind.u64.wrap (t50010)) then ((match_Unpack.f kj13 ((l0.take ((wrap64 (a1 + t50004)) : Int).toNat).drop (a1 : Int).toNat) t50005 a3).bind fun bt50011 => (if bt50011.2 = 0 then (if (bt50011.1.length : Int) = a3 then (some (bt50011.1, 0)) else (some (([] : List Int), 6))) else (some (([] : List Int), 6)))) else (some (([] : List Int), 140))))) else (none)) else (none)) else (none))))) = some (r1, r2) := by rw [if_neg (show ¬ (false = true) by decide)] at H; exact H
                clear H
                have H := H1
                clear H1
                by_cases c18 : a1 < 0
                · rw [if_pos c18] at H
                  have c18b0 : decide (a1 < 0) = true := decide_eq_true c18
                  clear c18
                  simp only [Option.some.injEq, Prod.mk.injEq] at H
                  obtain ⟨rfl, rfl⟩ := H
                  go_wp2
                  go_ret2
                  exact ⟨_, by first | rfl | (simp [errW_none, errW_some] <;> rfl) | (simp [*, errW_none, errW_some] <;> rfl), by first | exact Kd.R_nil _ _ _ _ _ | exact Kd.N_nil _ _ _ _ _ | exact Kd.V_nil _ _ _ _ _ | exact Kd.Q_nil _ _ _ _ _ | exact Kd.S_nil _ _ _ _ _, by repeat (first | (with_reducible first | exact HB.out | apply below_alloc | apply pw_below_drewN | apply below_drew1) | exact HB.out)⟩
                · rw [if_neg c18] at H
                  have c18b0 : decide (a1 < 0) = false := decide_eq_false c18
                  clear c18
                  by_cases c19 : (l0.length : Int) < (wrap64 (t50004 + 4))
                  · rw [if_pos c19] at H
                    have c19b0 : decide ((l0.length : Int) < (wrap64 (t50004 + 4))) = true := decide_eq_true c19
                    clear c19
                    simp only [Option.some.injEq, Prod.mk.injEq] at H
                    obtain ⟨rfl, rfl⟩ := H
                    go_wp2
                    go_ret2
                    exact ⟨_, by first | rfl | (simp [errW_none, errW_some] <;> rfl) | (simp [*, errW_none, errW_some] <;> rfl), by first | exact Kd.R_nil _ _ _ _ _ | exact Kd.N_nil _ _ _ _ _ | exact Kd.V_nil _ _ _ _ _ | exact Kd.Q_nil _ _ _ _ _ | exact Kd.S_nil _ _ _ _ _, by repeat (first | (with_reducible first | exact HB.out | apply below_alloc | apply pw_below_drewN | apply below_drew1) | exact HB.out)⟩
                  · rw [if_neg c19] at H
                    have c19b0 : decide ((l0.length : Int) < (wrap64 (t50004 + 4))) = false := decide_eq_false c19
                    clear c19
                    by_cases c20 : a1 > (wrap64 ((wrap64 ((l0.length : Int) - t50004)) - 4))
                    · rw [if_pos c20] at H
                      have c20b0 : decide ((wrap64 ((wrap64 ((l0.length : Int) - t50004)) - 4)) < a1) = true := decide_eq_true c20
                      clear c20
                      simp only [Option.some.injEq, Prod.mk.injEq] at H
                      obtain ⟨rfl, rfl⟩ := H
                      go_wp2
                      go_ret2
                      exact ⟨_, by first | rfl | (simp [errW_none, errW_some] <;> rfl) | (simp [*, errW_none, errW_some] <;> rfl), by first | exact Kd.R_nil _ _ _ _ _ | exact Kd.N_nil _ _ _ _ _ | exact Kd.V_nil _ _ _ _ _ | exact Kd.Q_nil _ _ _ _ _ | exact Kd.S_nil _ _ _ _ _, by repeat (first | (with_reducible first | exact HB.out | apply below_alloc | apply pw_below_drewN | apply below_drew1) | exact HB.out)⟩
                    · rw [if_neg c20] at H
                      have c20b0 : decide ((wrap64 ((wrap64 ((l0.length : Int) - t50004)) - 4)) < a1) = false := decide_eq_false c20
                      clear c20
                      by_cases c21 : 0 ≤ a1
                      · rw [if_pos c21] at H
                        have c21b0 := eq_true c21
                        have c21b1 : decide (0 ≤ a1) = true := decide_eq_true c21
                        clear c21
                        by_cases c22 : a1 ≤ (wrap64 (a1 + t50004))
                        · rw [if_pos c22] at H
                          have c22b0 := eq_true c22
                          have c22b1 : decide (a1 ≤ (wrap64 (a1 + t50004))) = true := decide_eq_true c22
                          by_cases c23 : (wrap64 (a1 + t50004)) ≤ (l0.length : Int)
                          · rw [if_pos c23] at H
                            have c23b0 := eq_true c23
                            have c23b1 : decide ((wrap64 (a1 + t50004)) ≤ (l0.length : Int)) = true := decide_eq_true c23
                            replace H := Option.bind_eq_some_iff.mp H
                            obtain ⟨⟨t50008, t50009⟩, A240, H⟩ := H
                            replace H : ((sum_Crc.f kj13 ((l0.take ((wrap64 (a1 + t50004)) : Int).toNat).drop (a1 : Int).toNat)).bind fun t50010 => (if t50008 = (IntKind.u64.wrap (t50010)) then ((match_Unpack.f kj13 ((l0.take ((wrap64 (a1 + t50004)) : Int).toNat).drop (a1 : Int).toNat) t50005 a3).bind fun bt50011 => (if bt50011.2 = 0 then (if (bt50011.1.length : Int) = a3 then (some (bt50011.1, 0)) else (some (([] : List Int), 6))) else (some (([] : List Int), 6)))) else (some (([] : List Int), 140)))) = some (r1, r2) := H
                            have A24 := Aside0.mk A240
                            clear A240
                            replace H := Option.bind_eq_some_iff.mp H
                            obtain ⟨t50010, A250, H⟩ := H
                            replace H : (if t50008 = (IntKind.u64.wrap (t50010)) then ((match_Unpack.f kj13 ((l0.take ((wrap64 (a1 + t50004)) : Int).toNat).drop (a1 : Int).toNat) t50005 a3).bind fun bt50011 => (if bt50011.2 = 0 then (if (bt50011.1.length : Int) = a3 then (some (bt50011.1, 0)) else (some (([] : List Int), 6))) else (some (([] : List Int), 6)))) else (some (([] : List Int), 140))) = some (r1, r2) := H
                            have A25 := Aside0.mk A250
                            clear A250
                            by_cases c26 : t50008 = (IntKind.u64.wrap (t50010))
                            · rw [if_pos c26] at H
                              have c26b0 : (t50008 == (IntKind.u64.wrap (t50010))) = true := beq_iff_eq.mpr c26
                              have c26b1 : (t50008 != (IntKind.u64.wrap (t50010))) = false := bne_eq_false_iff_eq.mpr c26
                              clear c26
                              replace H := Option.bind_eq_some_iff.mp H
                              obtain ⟨⟨t50011, t50012⟩, A270, H⟩ := H
                              replace H : (if t50012 = 0 then (if (t50011.length : Int) = a3 then (some (t50011, 0)) else (some (([] : List Int), 6))) else (some (([] : List Int), 6))) = some (r1, r2) := H
                              have A27 := Aside0.mk A270
                              clear A270
                              by_cases c28 : t50012 = 0
                              · rw [if_pos c28] at H
                                have c28b0 : (t50012 == 0) = true := beq_iff_eq.mpr c28
                                have c28b1 : (t50012 != 0) = false := bne_eq_false_iff_eq.mpr c28
                                clear c28
                                by_cases c29 : (t50011.length : Int) = a3
                                · rw [if_pos c29] at H
                                  have c29b0 : ((t50011.length : Int) == a3) = true := beq_iff_eq.mpr c29
                                  have c29b1 : ((t50011.length : Int) != a3) = false := bne_eq_false_iff_eq.mpr c29
                                  clear c29
                                  simp only [Option.some.injEq, Prod.mk.injEq] at H
                                  obtain ⟨rfl, rfl⟩ := H
                                  obtain ⟨i030, hi030, _, hsz30, _⟩ := info_parts info5
                                  obtain ⟨A30, hcut30, hA30, hC30⟩ := print_mid_of (P := Try.prog) (Value.int .u8) 0 22 5 .i64 .i64 Try.underlying22 hi030 hsz30 A0 c0 l0 a1 (wrap64 (a1 + t50004)) (of_decide_eq_true (by first | (with_reducible assumption) | assumption)) (by first | omega | exact of_decide_eq_true (by first | (with_reducible assumption) | assumption)) (of_decide_eq_true (by first | (with_reducible assumption) | assumption)) HC0.out
                                  have HR50007 := Aside0.mk (Kd.C_of_reads (h1 := fun _ => rfl) (hA30 _ (Kd.reads_of_C HR0.out)))
                                  have HC50007 := Aside0.mk hC30
                                  clear hA30 hC30 hi030 hsz30
                                  go_wp2_with (first | ((with_reducible refine gate_callee (f := 71) rfl ?_); refine goesL_ (some 69) rfl rfl Try.func71 (by kernel_rfl) rfl #[.slice A0 l0.length c0, .int .i64 (wrap64 (a1 + t50004)), .int .i64 4] rfl (by (try simp only [List.map_toArray, List.map_cons, List.map_nil]); first | done | rfl | (simp only [List.length_drop, List.length_take]; rfl)) ?_; (with_reducible refine (field_Get.calls kj13 _ _ l0 (wrap64 (a1 + t50004)) 4 t50008 t50009 _ ?side1 ?side2 A24.out).mono ?_); (case side1 => repeat (first | exact (Kd.C_below HR0.out HB.out) | (with_reducible refine Kd.C_alloc ?_ _) | (with_reducible refine Kd.C_drewN ?_ _) | (with_reducible refine Kd.C_drew ?_))); (case side2 => exact HC0.out); rintro e w' ⟨rfl, ⟨nd, rfl⟩⟩; refine ⟨_, rfl, ?_⟩) | ((with_reducible refine gate_callee (f := 75) rfl ?_); refine goesL_ (some 74) rfl rfl Try.func75 (by kernel_rfl) rfl #[.pointer none, .slice A30 ((l0.take ((wrap64 (a1 + t50004)) : Int).toNat).drop (a1 : Int).toNat).length (c0 - a1.toNat)] rfl (by (try simp only [List.map_toArray, List.map_cons, List.map_nil]); first | done | (rw [show ((l0.take ((wrap64 (a1 + t50004)) : Int).toNat).drop (a1 : Int).toNat).length = ((wrap64 (a1 + t50004)).toNat - a1.toNat) from (by rw [List.length_drop, List.length_take]; have h_ : ((wrap64 (a1 + t50004)) : Int) ≤ (l0.length : Int) := of_decide_eq_true (by first | (with_reducible assumption) | assumption); omega)] <;> rfl) | rfl | (simp only [List.length_drop, List.length_take]; rfl)) ?_; (with_reducible refine (sum_Crc.calls kj13  _ _ ((l0.take ((wrap64 (a1 + t50004)) : Int).toNat).drop (a1 : Int).toNat) t50010 _ ?side1 ?side2 A25.out).mono ?_); (case side1 => repeat (first | exact (Kd.C_below HR50007.out (by repeat (first | (with_reducible first | exact HB.out | apply below_alloc | apply pw_below_drewN | apply below_drew1) | exact HB.out))) | (with_reducible refine Kd.C_alloc ?_ _) | (with_reducible refine Kd.C_drewN ?_ _) | (with_reducible refine Kd.C_drew ?_))); (case side2 => exact HC50007.out); rintro e w' ⟨rfl, ⟨nd, rfl⟩⟩; refine ⟨_, rfl, ?_⟩) | ((with_reducible refine gate_callee (f := 20) rfl ?_); refine goesL_ (some 81) rfl rfl Try.func20 (by kernel_rfl) rfl #[.slice A30 ((l0.take ((wrap64 (a1 + t50004)) : Int).toNat).drop (a1 : Int).toNat).length (c0 - a1.toNat), .bool t50005, .int .i64 a3] rfl (by (try simp only [List.map_toArray, List.map_cons, List.map_nil]); first | done | (rw [show ((l0.take ((wrap64 (a1 + t50004)) : Int).toNat).drop (a1 : Int).toNat).length = ((wrap64 (a1 + t50004)).toNat - a1.toNat) from (by rw [List.length_drop, List.length_take]; have h_ : ((wrap64 (a1 + t50004)) : Int) ≤ (l0.length : Int) := of_decide_eq_true (by first | (with_reducible assumption) | assumption); omega)] <;> rfl) | rfl | (simp only [List.length_drop, List.length_take]; rfl)) ?_; (with_reducible refine (match_Unpack.calls kj13 _ _ ((l0.take ((wrap64 (a1 + t50004)) : Int).toNat).drop (a1 : Int).toNat) t50005 a3 t50011 t50012 _ ?side1 ?side2 A27.out).mono ?_); (case side1 => repeat (first | exact (Kd.C_below HR50007.out (by repeat (first | (with_reducible first | exact HB.out | apply below_alloc | apply pw_below_drewN | apply below_drew1) | exact HB.out))) | (with_reducible refine Kd.C_alloc ?_ _) | (with_reducible refine Kd.C_drewN ?_ _) | (with_reducible refine Kd.C_drew ?_))); (case side2 => exact HC50007.out); rintro e w31 ⟨v50013, rfl, ho0, hb⟩; refine ⟨_, rfl, ?_⟩; have n0_ := Aside0.mk (Kd.R_lower ho0 (below_size (by repeat (first | (with_reducible first | exact HB.out | apply below_alloc | apply pw_below_drewN | apply below_drew1) | exact HB.out)))); have n1_ := Aside0.mk (below_step (by repeat (first | (with_reducible first | exact HB.out | apply below_alloc | apply pw_below_drewN | apply below_drew1) | exact HB.out)) hb); clear HB; have HO50014 := n0_; have HB := n1_; clear n0_ n1_; (try clear hb); (try clear hb2); (try clear hk); (try clear hi); (try clear ho0); obtain ⟨Ao32, co32, eo32⟩ := Kd.R_slice HO50014.out; subst eo32))
                                  go_ret2
                                  exact ⟨_, by first | rfl | (simp [errW_none, errW_some] <;> rfl) | (simp [*, errW_none, errW_some] <;> rfl), by (with_reducible repeat (first | apply Kd.R_alloc | apply Kd.R_drewN | apply Kd.R_drew)); exact HO50014.out, by repeat (first | (with_reducible first | exact HB.out | apply below_alloc | apply pw_below_drewN | apply below_drew1) | exact HB.out)⟩
                                · rw [if_neg c29] at H
                                  have c29b0 : ((t50011.length : Int) == a3) = false := beq_eq_false_iff_ne.mpr c29
                                  have c29b1 : ((t50011.length : Int) != a3) = true := bne_iff_ne.mpr c29
                                  simp only [Option.some.injEq, Prod.mk.injEq] at H
                                  obtain ⟨rfl, rfl⟩ := H
                                  obtain ⟨i033, hi033, _, hsz33, _⟩ := info_parts info5
                                  obtain ⟨A33, hcut33, hA33, hC33⟩ := print_mid_of (P := Try.prog) (Value.int .u8) 0 22 5 .i64 .i64 Try.underlying22 hi033 hsz33 A0 c0 l0 a1 (wrap64 (a1 + t50004)) (of_decide_eq_true (by first | (with_reducible assumption) | assumption)) (by first | omega | exact of_decide_eq_true (by first | (with_reducible assumption) | assumption)) (of_decide_eq_true (by first | (with_reducible assumption) | assumption)) HC0.out
                                  have HR50007 := Aside0.mk (Kd.C_of_reads (h1 := fun _ => rfl) (hA33 _ (Kd.reads_of_C HR0.out)))
                                  have HC50007 := Aside0.mk hC33
                                  clear hA33 hC33 hi033 hsz33
                                  go_wp2_with (first | ((with_reducible refine gate_callee (f := 71) rfl ?_); refine goesL_ (some 69) rfl rfl Try.func71 (by kernel_rfl) rfl #[.slice A0 l0.length c0, .int .i64 (wrap64 (a1 + t50004)), .int .i64 4] rfl (by (try simp only [List.map_toArray, List.map_cons, List.map_nil]); first | done | rfl | (simp only [List.length_drop, List.length_take]; rfl)) ?_; (with_reducible refine (field_Get.calls kj13 _ _ l0 (wrap64 (a1 + t50004)) 4 t50008 t50009 _ ?side1 ?side2 A24.out).mono ?_); (case side1 => repeat (first | exact (Kd.C_below HR0.out HB.out) | (with_reducible refine Kd.C_alloc ?_ _) | (with_reducible refine Kd.C_drewN ?_ _) | (with_reducible refine Kd.C_drew ?_))); (case side2 => exact HC0.out); rintro e w' ⟨rfl, ⟨nd, rfl⟩⟩; refine ⟨_, rfl, ?_⟩) | ((with_reducible refine gate_callee (f := 75) rfl ?_); refine goesL_ (some 74) rfl rfl Try.func75 (by kernel_rfl) rfl #[.pointer none, .slice A33 ((l0.take ((wrap64 (a1 + t50004)) : Int).toNat).drop (a1 : Int).toNat).length (c0 - a1.toNat)] rfl (by (try simp only [List.map_toArray, List.map_cons, List.map_nil]); first | done | (rw [show ((l0.take ((wrap64 (a1 + t50004)) : Int).toNat).drop (a1 : Int).toNat).length = ((wrap64 (a1 + t50004)).toNat - a1.toNat) from (by rw [List.length_drop, List.length_take]; have h_ : ((wrap64 (a1 + t50004)) : Int) ≤ (l0.length : Int) := of_decide_eq_true (by first | (with_reducible assumption) | assumption); omega)] <;> rfl) | rfl | (simp only [List.length_drop, List.length_take]; rfl)) ?_; (with_reducible refine (sum_Crc.calls kj13  _ _ ((l0.take ((wrap64 (a1 + t50004)) : Int).toNat).drop (a1 : Int).toNat) t50010 _ ?side1 ?side2 A25.out).mono ?_); (case side1 => repeat (first | exact (Kd.C_below HR50007.out (by repeat (first | (with_reducible first | exact HB.out | apply below_alloc | apply pw_below_drewN | apply below_drew1) | exact HB.out))) | (with_reducible refine Kd.C_alloc ?_ _) | (with_reducible refine Kd.C_drewN ?_ _) | (with_reducible refine Kd.C_drew ?_))); (case side2 => exact HC50007.out); rintro e w' ⟨rfl, ⟨nd, rfl⟩⟩; refine ⟨_, rfl, ?_⟩) | ((with_reducible refine gate_callee (f := 20) rfl ?_); refine goesL_ (some 81) rfl rfl Try.func20 (by kernel_rfl) rfl #[.slice A33 ((l0.take ((wrap64 (a1 + t50004)) : Int).toNat).drop (a1 : Int).toNat).length (c0 - a1.toNat), .bool t50005, .int .i64 a3] rfl (by (try simp only [List.map_toArray, List.map_cons, List.map_nil]); first | done | (rw [show ((l0.take ((wrap64 (a1 + t50004)) : Int).toNat).drop (a1 : Int).toNat).length = ((wrap64 (a1 + t50004)).toNat - a1.toNat) from (by rw [List.length_drop, List.length_take]; have h_ : ((wrap64 (a1 + t50004)) : Int) ≤ (l0.length : Int) := of_decide_eq_true (by first | (with_reducible assumption) | assumption); omega)] <;> rfl) | rfl | (simp only [List.length_drop, List.length_take]; rfl)) ?_; (with_reducible refine (match_Unpack.calls kj13 _ _ ((l0.take ((wrap64 (a1 + t50004)) : Int).toNat).drop (a1 : Int).toNat) t50005 a3 t50011 t50012 _ ?side1 ?side2 A27.out).mono ?_); (case side1 => repeat (first | exact (Kd.C_below HR50007.out (by repeat (first | (with_reducible first | exact HB.out | apply below_alloc | apply pw_below_drewN | apply below_drew1) | exact HB.out))) | (with_reducible refine Kd.C_alloc ?_ _) | (with_reducible refine Kd.C_drewN ?_ _) | (with_reducible refine Kd.C_drew ?_))); (case side2 => exact HC50007.out); rintro e w34 ⟨v50013, rfl, ho0, hb⟩; refine ⟨_, rfl, ?_⟩; have n0_ := Aside0.mk (Kd.R_lower ho0 (below_size (by repeat (first | (with_reducible first | exact HB.out | apply below_alloc | apply pw_below_drewN | apply below_drew1) | exact HB.out)))); have n1_ := Aside0.mk (below_step (by repeat (first | (with_reducible first | exact HB.out | apply below_alloc | apply pw_below_drewN | apply below_drew1) | exact HB.out)) hb); clear HB; have HO50014 := n0_; have HB := n1_; clear n0_ n1_; (try clear hb); (try clear hb2); (try clear hk); (try clear hi); (try clear ho0); obtain ⟨Ao35, co35, eo35⟩ := Kd.R_slice HO50014.out; subst eo35))
                                  go_ret2
                                  exact ⟨_, by first | rfl | (simp [errW_none, errW_some] <;> rfl) | (simp [*, errW_none, errW_some] <;> rfl), by first | exact Kd.R_nil _ _ _ _ _ | exact Kd.N_nil _ _ _ _ _ | exact Kd.V_nil _ _ _ _ _ | exact Kd.Q_nil _ _ _ _ _ | exact Kd.S_nil _ _ _ _ _, by repeat (first | (with_reducible first | exact HB.out | apply below_alloc | apply pw_below_drewN | apply below_drew1) | exact HB.out)⟩
                              · rw [if_neg c28] at H
                                have c28b0 : (t50012 == 0) = false := beq_eq_false_iff_ne.mpr c28
                                have c28b1 : (t50012 != 0) = true := bne_iff_ne.mpr c28
                                simp only [Option.some.injEq, Prod.mk.injEq] at H
                                obtain ⟨rfl, rfl⟩ := H
                                obtain ⟨i036, hi036, _, hsz36, _⟩ := info_parts info5
                                obtain ⟨A36, hcut36, hA36, hC36⟩ := print_mid_of (P := Try.prog) (Value.int .u8) 0 22 5 .i64 .i64 Try.underlying22 hi036 hsz36 A0 c0 l0 a1 (wrap64 (a1 + t50004)) (of_decide_eq_true (by first | (with_reducible assumption) | assumption)) (by first | omega | exact of_decide_eq_true (by first | (with_reducible assumption) | assumption)) (of_decide_eq_true (by first | (with_reducible assumption) | assumption)) HC0.out
                                have HR50007 := Aside0.mk (Kd.C_of_reads (h1 := fun _ => rfl) (hA36 _ (Kd.reads_of_C HR0.out)))
                                have HC50007 := Aside0.mk hC36
                                clear hA36 hC36 hi036 hsz36
                                go_wp2_with (first | ((with_reducible refine gate_callee (f := 71) rfl ?_); refine goesL_ (some 69) rfl rfl Try.func71 (by kernel_rfl) rfl #[.slice A0 l0.length c0, .int .i64 (wrap64 (a1 + t50004)), .int .i64 4] rfl (by (try simp only [List.map_toArray, List.map_cons, List.map_nil]); first | done | rfl | (simp only [List.length_drop, List.length_take]; rfl)) ?_; (with_reducible refine (field_Get.calls kj13 _ _ l0 (wrap64 (a1 + t50004)) 4 t50008 t50009 _ ?side1 ?side2 A24.out).mono ?_); (case side1 => repeat (first | exact (Kd.C_below HR0.out HB.out) | (with_reducible refine Kd.C_alloc ?_ _) | (with_reducible refine Kd.C_drewN ?_ _) | (with_reducible refine Kd.C_drew ?_))); (case side2 => exact HC0.out); rintro e w' ⟨rfl, ⟨nd, rfl⟩⟩; refine ⟨_, rfl, ?_⟩) | ((with_reducible refine gate_callee (f := 75) rfl ?_); refine goesL_ (some 74) rfl rfl Try.func75 (by kernel_rfl) rfl #[.pointer none, .slice A36 ((l0.take ((wrap64 (a1 + t50004)) : Int).toNat).drop (a1 : Int).toNat).length (c0 - a1.toNat)] rfl (by (try simp only [List.map_toArray, List.map_cons, List.map_nil]); first | done | (rw [show ((l0.take ((wrap64 (a1 + t50004)) : Int).toNat).drop (a1 : Int).toNat).length = ((wrap64 (a1 + t50004)).toNat - a1.toNat) from (by rw [List.length_drop, List.length_take]; have h_ : ((wrap64 (a1 + t50004)) : Int) ≤ (l0.length : Int) := of_decide_eq_true (by first | (with_reducible assumption) | assumption); omega)] <;> rfl) | rfl | (simp only [List.length_drop, List.length_take]; rfl)) ?_; (with_reducible refine (sum_Crc.calls kj13  _ _ ((l0.take ((wrap64 (a1 + t50004)) : Int).toNat).drop (a1 : Int).toNat) t50010 _ ?side1 ?side2 A25.out).mono ?_); (case side1 => repeat (first | exact (Kd.C_below HR50007.out (by repeat (first | (with_reducible first | exact HB.out | apply below_alloc | apply pw_below_drewN | apply below_drew1) | exact HB.out))) | (with_reducible refine Kd.C_alloc ?_ _) | (with_reducible refine Kd.C_drewN ?_ _) | (with_reducible refine Kd.C_drew ?_))); (case side2 => exact HC50007.out); rintro e w' ⟨rfl, ⟨nd, rfl⟩⟩; refine ⟨_, rfl, ?_⟩) | ((with_reducible refine gate_callee (f := 20) rfl ?_); refine goesL_ (some 81) rfl rfl Try.func20 (by kernel_rfl) rfl #[.slice A36 ((l0.take ((wrap64 (a1 + t50004)) : Int).toNat).drop (a1 : Int).toNat).length (c0 - a1.toNat), .bool t50005, .int .i64 a3] rfl (by (try simp only [List.map_toArray, List.map_cons, List.map_nil]); first | done | (rw [show ((l0.take ((wrap64 (a1 + t50004)) : Int).toNat).drop (a1 : Int).toNat).length = ((wrap64 (a1 + t50004)).toNat - a1.toNat) from (by rw [List.length_drop, List.length_take]; have h_ : ((wrap64 (a1 + t50004)) : Int) ≤ (l0.length : Int) := of_decide_eq_true (by first | (with_reducible assumption) | assumption); omega)] <;> rfl) | rfl | (simp only [List.length_drop, List.length_take]; rfl)) ?_; (with_reducible refine (match_Unpack.calls kj13 _ _ ((l0.take ((wrap64 (a1 + t50004)) : Int).toNat).drop (a1 : Int).toNat) t50005 a3 t50011 t50012 _ ?side1 ?side2 A27.out).mono ?_); (case side1 => repeat (first | exact (Kd.C_below HR50007.out (by repeat (first | (with_reducible first | exact HB.out | apply below_alloc | apply pw_below_drewN | apply below_drew1) | exact HB.out))) | (with_reducible refine Kd.C_alloc ?_ _) | (with_reducible refine Kd.C_drewN ?_ _) | (with_reducible refine Kd.C_drew ?_))); (case side2 => exact HC50007.out); rintro e w37 ⟨v50013, rfl, ho0, hb⟩; refine ⟨_, rfl, ?_⟩; have n0_ := Aside0.mk (Kd.R_lower ho0 (below_size (by repeat (first | (with_reducible first | exact HB.out | apply below_alloc | apply pw_below_drewN | apply below_drew1) | exact HB.out)))); have n1_ := Aside0.mk (below_step (by repeat (first | (with_reducible first | exact HB.out | apply below_alloc | apply pw_below_drewN | apply below_drew1) | exact HB.out)) hb); clear HB; have HO50014 := n0_; have HB := n1_; clear n0_ n1_; (try clear hb); (try clear hb2); (try clear hk); (try clear hi); (try clear ho0)))
                                go_ret2
                                exact ⟨_, by first | rfl | (simp [errW_none, errW_some] <;> rfl) | (simp [*, errW_none, errW_some] <;> rfl), by first | exact Kd.R_nil _ _ _ _ _ | exact Kd.N_nil _ _ _ _ _ | exact Kd.V_nil _ _ _ _ _ | exact Kd.Q_nil _ _ _ _ _ | exact Kd.S_nil _ _ _ _ _, by repeat (first | (with_reducible first | exact HB.out | apply below_alloc | apply pw_below_drewN | apply below_drew1) | exact HB.out)⟩
                            · rw [if_neg c26] at H
                              have c26b0 : (t50008 == (IntKind.u64.wrap (t50010))) = false := beq_eq_false_iff_ne.mpr c26
                              have c26b1 : (t50008 != (IntKind.u64.wrap (t50010))) = true := bne_iff_ne.mpr c26
                              simp only [Option.some.injEq, Prod.mk.injEq] at H
                              obtain ⟨rfl, rfl⟩ := H
                              obtain ⟨i038, hi038, _, hsz38, _⟩ := info_parts info5
                              obtain ⟨A38, hcut38, hA38, hC38⟩ := print_mid_of (P := Try.prog) (Value.int .u8) 0 22 5 .i64 .i64 Try.underlying22 hi038 hsz38 A0 c0 l0 a1 (wrap64 (a1 + t50004)) (of_decide_eq_true (by first | (with_reducible assumption) | assumption)) (by first | omega | exact of_decide_eq_true (by first | (with_reducible assumption) | assumption)) (of_decide_eq_true (by first | (with_reducible assumption) | assumption)) HC0.out
                              have HR50007 := Aside0.mk (Kd.C_of_reads (h1 := fun _ => rfl) (hA38 _ (Kd.reads_of_C HR0.out)))
                              have HC50007 := Aside0.mk hC38
                              clear hA38 hC38 hi038 hsz38
                              go_wp2_with (first | ((with_reducible refine gate_callee (f := 71) rfl ?_); refine goesL_ (some 69) rfl rfl Try.func71 (by kernel_rfl) rfl #[.slice A0 l0.length c0, .int .i64 (wrap64 (a1 + t50004)), .int .i64 4] rfl (by (try simp only [List.map_toArray, List.map_cons, List.map_nil]); first | done | rfl | (simp only [List.length_drop, List.length_take]; rfl)) ?_; (with_reducible refine (field_Get.calls kj13 _ _ l0 (wrap64 (a1 + t50004)) 4 t50008 t50009 _ ?side1 ?side2 A24.out).mono ?_); (case side1 => repeat (first | exact (Kd.C_below HR0.out HB.out) | (with_reducible refine Kd.C_alloc ?_ _) | (with_reducible refine Kd.C_drewN ?_ _) | (with_reducible refine Kd.C_drew ?_))); (case side2 => exact HC0.out); rintro e w' ⟨rfl, ⟨nd, rfl⟩⟩; refine ⟨_, rfl, ?_⟩) | ((with_reducible refine gate_callee (f := 75) rfl ?_); refine goesL_ (some 74) rfl rfl Try.func75 (by kernel_rfl) rfl #[.pointer none, .slice A38 ((l0.take ((wrap64 (a1 + t50004)) : Int).toNat).drop (a1 : Int).toNat).length (c0 - a1.toNat)] rfl (by (try simp only [List.map_toArray, List.map_cons, List.map_nil]); first | done | (rw [show ((l0.take ((wrap64 (a1 + t50004)) : Int).toNat).drop (a1 : Int).toNat).length = ((wrap64 (a1 + t50004)).toNat - a1.toNat) from (by rw [List.length_drop, List.length_take]; have h_ : ((wrap64 (a1 + t50004)) : Int) ≤ (l0.length : Int) := of_decide_eq_true (by first | (with_reducible assumption) | assumption); omega)] <;> rfl) | rfl | (simp only [List.length_drop, List.length_take]; rfl)) ?_; (with_reducible refine (sum_Crc.calls kj13  _ _ ((l0.take ((wrap64 (a1 + t50004)) : Int).toNat).drop (a1 : Int).toNat) t50010 _ ?side1 ?side2 A25.out).mono ?_); (case side1 => repeat (first | exact (Kd.C_below HR50007.out (by repeat (first | (with_reducible first | exact HB.out | apply below_alloc | apply pw_below_drewN | apply below_drew1) | exact HB.out))) | (with_reducible refine Kd.C_alloc ?_ _) | (with_reducible refine Kd.C_drewN ?_ _) | (with_reducible refine Kd.C_drew ?_))); (case side2 => exact HC50007.out); rintro e w' ⟨rfl, ⟨nd, rfl⟩⟩; refine ⟨_, rfl, ?_⟩))
                              go_ret2
                              exact ⟨_, by first | rfl | (simp [errW_none, errW_some] <;> rfl) | (simp [*, errW_none, errW_some] <;> rfl), by first | exact Kd.R_nil _ _ _ _ _ | exact Kd.N_nil _ _ _ _ _ | exact Kd.V_nil _ _ _ _ _ | exact Kd.Q_nil _ _ _ _ _ | exact Kd.S_nil _ _ _ _ _, by repeat (first | (with_reducible first | exact HB.out | apply below_alloc | apply pw_below_drewN | apply below_drew1) | exact HB.out)⟩
                          · rw [if_neg c23] at H
                            exact absurd H (by simp)
                        · rw [if_neg c22] at H
                          exact absurd H (by simp)
                      · rw [if_neg c21] at H
                        exact absurd H (by simp)

end Go.Proofs.Ytdlfflgcmgkmeaa.P

-- Written by a program of this session's own (wip/tools), over the translation. Not trusted: Lean checks it.
namespace Go.Proofs.Ytdlfflgcmgkmeaa.P
open Go.RowKit Go.Proofs.YtdlfflgcmgkmeaaW.PrintWords Go.Proofs.YtdlfflgcmgkmeaaW.PrintLast Go.Proofs.YtdlfflgcmgkmeaaW.PrintMore
attribute [local go_sem] max2_int min2_int max_two min_two max_three min_three max_four min_four   -- for this text's walks alone
set_option linter.unusedVariables false
set_option linter.unusedSimpArgs false

/-! ### portmanteaulaw18_BlocksLoads: function 13 -/
mutual
def portmanteaulaw18_BlocksLoads.j0 : Nat → List Int → Int → Int → Int → Bool → Option (Bool)
  | 0, _, _, _, _, _ => none
  | k + 1, x0, x1, x2, x3, x25 => if x25 = true then ((portmanteaulaw18_live.f k).bind fun t14001 => (some t14001)) else ((some (([] : List Int) : List Int)).bind fun y14002 => (if y14002.length + x0.length < 140737488355328 then ((some (y14002 ++ x0 : List Int)).bind fun y14005 => ((blocks_Load.f k y14005 x1 x2 x3).bind fun bt14008 => ((portmanteauref18_Load.f k x0 x1 x2 x3).bind fun bt14012 => (if (strOfNums bt14008.1).toList = (strOfNums bt14012.1).toList then ((portmanteaulaw18_num.f bt14008.2).bind fun t14016 => (portmanteaulaw18_BlocksLoads.j1 k x0 y14005 bt14008.1 (t14016 != bt14012.2))) else (portmanteaulaw18_BlocksLoads.j1 k x0 y14005 bt14008.1 true))))) else (none)))
def portmanteaulaw18_BlocksLoads.j1 : Nat → List Int → List Int → List Int → Bool → Option (Bool)
  | 0, _, _, _, _ => none
  | k + 1, x0, x9, x10, x56 => if x56 = true then (some false) else (portmanteaulaw18_BlocksLoads.l0 k x0 x9 x10 0)
def portmanteaulaw18_BlocksLoads.l0 : Nat → List Int → List Int → List Int → Int → Option (Bool)
  | 0, _, _, _, _ => none
  | k + 1, x0, x9, x10, x14 => if x14 < (x10.length : Int) then (if 0 ≤ x14 then (portmanteaulaw18_BlocksLoads.l0 k x0 x9 (x10.set (x14 : Int).toNat (((rd x10 x14) + 1) % 256)) (wrap64 (x14 + 1))) else (none)) else (if (strOfNums x9).toList = (strOfNums x0).toList then ((portmanteaulaw18_live.f k).bind fun t14019 => (some t14019)) else (some false))
end
def portmanteaulaw18_BlocksLoads.f (k : Nat) (l0 : List Int) (a1 : Int) (a2 : Int) (a3 : Int) : Option (Bool) := if (l0.length : Int) > 20000 then (portmanteaulaw18_BlocksLoads.j0 k l0 a1 a2 a3 true) else (if a3 > 20000 then (portmanteaulaw18_BlocksLoads.j0 k l0 a1 a2 a3 (decide (a3 ≤ 1048576))) else (portmanteaulaw18_BlocksLoads.j0 k l0 a1 a2 a3 false))
theorem portmanteaulaw18_BlocksLoads.mono_l : ∀ k, (∀ y0 y1 y2 y3 y4, LeO (portmanteaulaw18_BlocksLoads.j0 k y0 y1 y2 y3 y4) (portmanteaulaw18_BlocksLoads.j0 (k + 1) y0 y1 y2 y3 y4)) ∧ (∀ y0 y1 y2 y3, LeO (portmanteaulaw18_BlocksLoads.j1 k y0 y1 y2 y3) (portmanteaulaw18_BlocksLoads.j1 (k + 1) y0 y1 y2 y3)) ∧ (∀ y0 y1 y2 y3, LeO (portmanteaulaw18_BlocksLoads.l0 k y0 y1 y2 y3) (portmanteaulaw18_BlocksLoads.l0 (k + 1) y0 y1 y2 y3))
  | 0 => ⟨fun _ _ _ _ _ r h => by simp [portmanteaulaw18_BlocksLoads.j0] at h, fun _ _ _ _ r h => by simp [portmanteaulaw18_BlocksLoads.j1] at h, fun _ _ _ _ r h => by simp [portmanteaulaw18_BlocksLoads.l0] at h⟩
  | k + 1 => by
    obtain ⟨ih0, ih1, ih2⟩ := portmanteaulaw18_BlocksLoads.mono_l k
    refine ⟨?_, ?_, ?_⟩
    · intro y0 y1 y2 y3 y4
      unfold portmanteaulaw18_BlocksLoads.j0
      repeat' first
      | (with_reducible exact ih0 _ _ _ _ _)
      | (with_reducible exact ih1 _ _ _ _)
      | (with_reducible exact ih2 _ _ _ _)
      | (with_reducible exact blocks_Load.mono _ _ _ _ _)
      | (with_reducible exact portmanteaulaw18_live.mono _)
      | (with_reducible exact portmanteauref18_Load.mono _ _ _ _ _)
      | (with_reducible exact LeO.refl _)
      | (with_reducible exact LeO.none _)
      | (with_reducible refine LeO.ite ?_ ?_)
      | (with_reducible refine LeO.bind ?_ (fun _ => ?_))
      | exact ih0 _ _ _ _ _
      | exact ih1 _ _ _ _
      | exact ih2 _ _ _ _
      | exact blocks_Load.mono _ _ _ _ _
      | exact portmanteaulaw18_live.mono _
      | exact portmanteauref18_Load.mono _ _ _ _ _
      | exact LeO.none _
      | refine LeO.ite ?_ ?_
      | refine LeO.bind ?_ (fun _ => ?_)
    · intro y0 y1 y2 y3
      unfold portmanteaulaw18_BlocksLoads.j1
      repeat' first
      | (with_reducible exact ih0 _ _ _ _ _)
      | (with_reducible exact ih1 _ _ _ _)
      | (with_reducible exact ih2 _ _ _ _)
      | (with_reducible exact blocks_Load.mono _ _ _ _ _)
      | (with_reducible exact portmanteaulaw18_live.mono _)
      | (with_reducible exact portmanteauref18_Load.mono _ _ _ _ _)
      | (with_reducible exact LeO.refl _)
      | (with_reducible exact LeO.none _)
      | (with_reducible refine LeO.ite ?_ ?_)
      | (with_reducible refine LeO.bind ?_ (fun _ => ?_))
      | exact ih0 _ _ _ _ _
      | exact ih1 _ _ _ _
      | exact ih2 _ _ _ _
      | exact blocks_Load.mono _ _ _ _ _
      | exact portmanteaulaw18_live.mono _
      | exact portmanteauref18_Load.mono _ _ _ _ _
      | exact LeO.none _
      | refine LeO.ite ?_ ?_
      | refine LeO.bind ?_ (fun _ => ?_)
    · intro y0 y1 y2 y3
      unfold portmanteaulaw18_BlocksLoads.l0
      repeat' first
      | (with_reducible exact ih0 _ _ _ _ _)
      | (with_reducible exact ih1 _ _ _ _)
      | (with_reducible exact ih2 _ _ _ _)
      | (with_reducible exact blocks_Load.mono _ _ _ _ _)
      | (with_reducible exact portmanteaulaw18_live.mono _)
      | (with_reducible exact portmanteauref18_Load.mono _ _ _ _ _)
      | (with_reducible exact LeO.refl _)
      | (with_reducible exact LeO.none _)
      | (with_reducible refine LeO.ite ?_ ?_)
      | (with_reducible refine LeO.bind ?_ (fun _ => ?_))
      | exact ih0 _ _ _ _ _
      | exact ih1 _ _ _ _
      | exact ih2 _ _ _ _
      | exact blocks_Load.mono _ _ _ _ _
      | exact portmanteaulaw18_live.mono _
      | exact portmanteauref18_Load.mono _ _ _ _ _
      | exact LeO.none _
      | refine LeO.ite ?_ ?_
      | refine LeO.bind ?_ (fun _ => ?_)
theorem portmanteaulaw18_BlocksLoads.mono : ∀ a0 a1 a2 a3 k, LeO (portmanteaulaw18_BlocksLoads.f k a0 a1 a2 a3) (portmanteaulaw18_BlocksLoads.f (k + 1) a0 a1 a2 a3) := by
  intro a0 a1 a2 a3 k
  obtain ⟨ih0, ih1, ih2⟩ := portmanteaulaw18_BlocksLoads.mono_l k
  unfold portmanteaulaw18_BlocksLoads.f
  repeat' first
      | (with_reducible exact ih0 _ _ _ _ _)
      | (with_reducible exact ih1 _ _ _ _)
      | (with_reducible exact ih2 _ _ _ _)
      | (with_reducible exact blocks_Load.mono _ _ _ _ _)
      | (with_reducible exact portmanteaulaw18_live.mono _)
      | (with_reducible exact portmanteauref18_Load.mono _ _ _ _ _)
      | (with_reducible exact LeO.refl _)
      | (with_reducible exact LeO.none _)
      | (with_reducible refine LeO.ite ?_ ?_)
      | (with_reducible refine LeO.bind ?_ (fun _ => ?_))
      | exact ih0 _ _ _ _ _
      | exact ih1 _ _ _ _
      | exact ih2 _ _ _ _
      | exact blocks_Load.mono _ _ _ _ _
      | exact portmanteaulaw18_live.mono _
      | exact portmanteauref18_Load.mono _ _ _ _ _
      | exact LeO.none _
      | refine LeO.ite ?_ ?_
      | refine LeO.bind ?_ (fun _ => ?_)
set_option maxHeartbeats 8000000 in
set_option maxRecDepth 100000 in
theorem portmanteaulaw18_BlocksLoads.calls (k : Nat) (A0 : Option Addr) (c0 : Nat) (l0 : List Int) (a1 : Int) (a2 : Int) (a3 : Int) (r : Bool) (w : World) (hr0 : Kd.C (Kd.int .u8) w A0 l0.length l0) (hc0 : l0.length ≤ c0) (h : portmanteaulaw18_BlocksLoads.f k l0 a1 a2 a3 = some r) :
    Calls Try.prog 13 #[.slice A0 l0.length c0, .int .i64 a1, .int .i64 a2, .int .i64 a3] w fun e w' => e = .returned (.bool r) ∧ Below w.heap.size w w' := by
  have HR0 := Aside0.mk hr0
  have HC0 := Aside0.mk hc0
  clear hr0 hc0
  have HB := Aside0.mk (Below.refl w.heap.size w)
  have H : (if (l0.length : Int) > 20000 then (portmanteaulaw18_BlocksLoads.j0 k l0 a1 a2 a3 true) else (if a3 > 20000 then (portmanteaulaw18_BlocksLoads.j0 k l0 a1 a2 a3 (decide (a3 ≤ 1048576))) else (portmanteaulaw18_BlocksLoads.j0 k l0 a1 a2 a3 false))) = some r := h
  clear h
  have HC5 := Aside0.mk H
  clear H
  go_enter Try.func13, Try.ntmps13
  go_upto_region 1 with (fail)
  go_cut [25] (fun v25 wc => ∃ (kq : Nat) (x25_4 : Bool), v25 = .bool x25_4 ∧ Aside0 (portmanteaulaw18_BlocksLoads.j0 kq l0 a1 a2 a3 x25_4 = some r) ∧ Aside0 (kq ≤ k) ∧ Aside0 (Below w.heap.size w wc))
  case first =>
    have H := HC5.out
    clear HC5
    by_cases c6 : (l0.length : Int) > 20000
    · rw [if_pos c6] at H
      have c6b0 : decide (20000 < (l0.length : Int)) = true := decide_eq_true c6
      have c6b1 : decide (20000 < l0.length) = true := decide_eq_true (by omega)
      clear c6
      (first | rw [c6b0] | (simp only [i64_w, i32_w]; rw [c6b0]) | skip)
      have H' := Aside0.mk H
      clear H
      go_wp2
      go_meet
      case rel => exact ⟨_, (true), (by first | rfl | (simp; done) | (simp [*]; done)), H', ⟨by first | omega | exact Nat.le_refl _⟩, ⟨by repeat (first | (with_reducible first | exact HB.out | apply below_alloc | apply pw_below_drewN | apply below_drew1) | exact HB.out)⟩⟩
    · rw [if_neg c6] at H
      have c6b0 : decide (20000 < (l0.length : Int)) = false := decide_eq_false c6
      have c6b1 : decide (20000 < l0.length) = false := decide_eq_false (by omega)
      clear c6
      (first | rw [c6b0] | (simp only [i64_w, i32_w]; rw [c6b0]) | skip)
      by_cases c7 : a3 > 20000
      · rw [if_pos c7] at H
        have c7b0 : decide (20000 < a3) = true := decide_eq_true c7
        clear c7
        have H' := Aside0.mk H
        clear H
        go_wp2
        go_meet
        case rel => exact ⟨_, (decide (a3 ≤ 1048576)), (by first | rfl | (simp; done) | (simp [*]; done)), H', ⟨by first | omega | exact Nat.le_refl _⟩, ⟨by repeat (first | (with_reducible first | exact HB.out | apply below_alloc | apply pw_below_drewN | apply below_drew1) | exact HB.out)⟩⟩
      · rw [if_neg c7] at H
        have c7b0 : decide (20000 < a3) = false := decide_eq_false c7
        clear c7
        have H' := Aside0.mk H
        clear H
        go_wp2
        go_meet
        case rel => exact ⟨_, (false), (by first | rfl | (simp; done) | (simp [*]; done)), H', ⟨by first | omega | exact Nat.le_refl _⟩, ⟨by repeat (first | (with_reducible first | exact HB.out | apply below_alloc | apply pw_below_drewN | apply below_drew1) | exact HB.out)⟩⟩
  case rest =>
    clear HC5
    try clear c1
    try clear p2
    try clear c6
    try clear c6b0
    try clear c6b1
    try clear c7
    try clear c7b0
    obtain ⟨kq, x25_4, rfl, HA, HJ4, HB⟩ := hcut
    cases kq with
    | zero => exact absurd HA.out (by simp [portmanteaulaw18_BlocksLoads.j0])
    | succ kj4 =>
      have H := HA.out
      clear HA
      simp only [portmanteaulaw18_BlocksLoads.j0] at H
      by_cases c8 : x25_4 = true
      · subst c8
        have H1 : ((portmanteaulaw18_live.f kj4).bind fun t14001 => (some t14001)) = some r := by rw [if_pos rfl] at H; exact H
        clear H
        have H := H1
        clear H1
        replace H := Option.bind_eq_some_iff.mp H
        obtain ⟨t14001, A90, H⟩ := H
        replace H : (some t14001) = some r := H
        have A9 := Aside0.mk A90
        clear A90
        obtain rfl := Option.some.inj H
        go_wp2_with (first | ((with_reducible refine gate_callee (f := 43) rfl ?_); refine goesL_ (some 26) rfl rfl Try.func43 (by kernel_rfl) rfl #[] rfl (by (try simp only [List.map_toArray, List.map_cons, List.map_nil]); first | done | rfl | (simp only [List.length_drop, List.length_take]; rfl)) ?_; (with_reducible refine (portmanteaulaw18_live.calls kj4  t14001 _ A9.out).mono ?_); rintro e w10 ⟨rfl, hb⟩; refine ⟨_, rfl, ?_⟩; have n0_ := Aside0.mk (below_step (by repeat (first | (with_reducible first | exact HB.out | apply below_alloc | apply pw_below_drewN | apply below_drew1) | exact HB.out)) hb); clear HB; have HB := n0_; clear n0_; (try clear hb); (try clear hb2); (try clear hk); (try clear hi)))
        go_ret
        exact ⟨by first | rfl | (simp [errW_none, errW_some] <;> rfl) | (simp [*, errW_none, errW_some] <;> rfl), by repeat (first | (with_reducible first | exact HB.out | apply below_alloc | apply pw_below_drewN | apply below_drew1) | exact HB.out)⟩
      · replace c8 := Bool.eq_false_iff.mpr c8
        subst c8
        have H1 : ((some (([] : List Int) : List Int)).bind fun y14002 => (if y14002.length + l0.length < 140737488355328 then ((some (y14002 ++ l0 : List Int)).bind fun y14005 => ((blocks_Load.f kj4 y14005 a1 a2 a3).bind fun bt14008 => ((portmanteauref18_Load.f kj4 l0 a1 a2 a3).bind fun bt14012 => (if (strOfNums bt14008.1).toList = (strOfNums bt14012.1).toList then ((portmanteaulaw18_num.f bt14008.2).bind fun t14016 => (portmanteaulaw18_BlocksLoads.j1 kj4 l0 y14005 bt14008.1 (t14016 != bt14012.2))) else (portmanteaulaw18_BlocksLoads.j1 kj4 l0 y14005 bt14008.1 true))))) else (none))) = some r := by rw [if_neg (show ¬ (false = true) by decide)] at H; exact H
        clear H
        have H := H1
        clear H1
        obtain ⟨y14002, hy14002⟩ : ∃ y_ : List Int, y_ = (([] : List Int)) := ⟨_, rfl⟩
        replace H : (if y14002.length + l0.length < 140737488355328 then ((some (y14002 ++ l0 : List Int)).bind fun y14005 => ((blocks_Load.f kj4 y14005 a1 a2 a3).bind fun bt14008 => ((portmanteauref18_Load.f kj4 l0 a1 a2 a3).bind fun bt14012 => (if (strOfNums bt14008.1).toList = (strOfNums bt14012.1).toList then ((portmanteaulaw18_num.f bt14008.2).bind fun t14016 => (portmanteaulaw18_BlocksLoads.j1 kj4 l0 y14005 bt14008.1 (t14016 != bt14012.2))) else (portmanteaulaw18_BlocksLoads.j1 kj4 l0 y14005 bt14008.1 true))))) else (none)) = some r := by first | (rw [hy14002]; with_reducible exact H) | (have H2_ := (Option.bind_some _ _).symm.trans H; rw [hy14002]; with_reducible exact H2_) | (have H2_ := (Option.bind_some _ _).symm.trans H; with_reducible exact H2_) | with_reducible exact H | (rw [hy14002]; exact H) | exact H
        have Ny14002 := Aside0.mk hy14002
        clear hy14002
        by_cases c11 : y14002.length + l0.length < 140737488355328
        · rw [if_pos c11] at H
          have LMc11 := Aside0.mk c11
          clear c11
          obtain ⟨y14005, hy14005⟩ : ∃ y_ : List Int, y_ = (y14002 ++ l0) := ⟨_, rfl⟩
          replace H : ((blocks_Load.f kj4 y14005 a1 a2 a3).bind fun bt14008 => ((portmanteauref18_Load.f kj4 l0 a1 a2 a3).bind fun bt14012 => (if (strOfNums bt14008.1).toList = (strOfNums bt14012.1).toList then ((portmanteaulaw18_num.f bt14008.2).bind fun t14016 => (portmanteaulaw18_BlocksLoads.j1 kj4 l0 y14005 bt14008.1 (t14016 != bt14012.2))) else (portmanteaulaw18_BlocksLoads.j1 kj4 l0 y14005 bt14008.1 true)))) = some r := by first | (rw [hy14005]; with_reducible exact H) | (have H2_ := (Option.bind_some _ _).symm.trans H; rw [hy14005]; with_reducible exact H2_) | (have H2_ := (Option.bind_some _ _).symm.trans H; with_reducible exact H2_) | with_reducible exact H | (rw [hy14005]; exact H) | exact H
          have Ny14005 := Aside0.mk hy14005
          clear hy14005
          replace H := Option.bind_eq_some_iff.mp H
          obtain ⟨⟨t14008, t14009⟩, A120, H⟩ := H
          replace H : ((portmanteauref18_Load.f kj4 l0 a1 a2 a3).bind fun bt14012 => (if (strOfNums t14008).toList = (strOfNums bt14012.1).toList then ((portmanteaulaw18_num.f t14009).bind fun t14016 => (portmanteaulaw18_BlocksLoads.j1 kj4 l0 y14005 t14008 (t14016 != bt14012.2))) else (portmanteaulaw18_BlocksLoads.j1 kj4 l0 y14005 t14008 true))) = some r := H
          have A12 := Aside0.mk A120
          clear A120
          replace H := Option.bind_eq_some_iff.mp H
          obtain ⟨⟨t14012, t14015⟩, A130, H⟩ := H
          replace H : (if (strOfNums t14008).toList = (strOfNums t14012).toList then ((portmanteaulaw18_num.f t14009).bind fun t14016 => (portmanteaulaw18_BlocksLoads.j1 kj4 l0 y14005 t14008 (t14016 != t14015))) else (portmanteaulaw18_BlocksLoads.j1 kj4 l0 y14005 t14008 true)) = some r := H
          have A13 := Aside0.mk A130
          clear A130
          have HC14 := Aside0.mk H
          clear H
          go_upto_region 6 with (first | ((with_reducible refine gate_dst (N := 27) rfl ?_); refine Kd.R_lit (Kd.int .u8) _ 5 ?hg (N := 27) ?hd (xs := ([] : List Int)) (inner := []) (ok := fun _ => True) (okp := fun _ => True) ?hr ?hp (fun _ hk => hk) trivial (Below.refl _ _) (Nat.le_refl _) (by simp) ?_; (case hd => rfl); (case hg => rfl); (case hr => first | (go_simp; done) | (go_simp; rfl)); (case hp => exact (Reps.none _ _)); intro v14003 w15 ho16 hb hg_ hnew_; clear hg_ hnew_; (first | rw [← Ny14002.out] at ho16 | (simp only [Int.reduceToNat] at ho16; rw [← Ny14002.out] at ho16)); have n0_ := Aside0.mk (Kd.R_lower ho16 (below_size (by repeat (first | (with_reducible first | exact HB.out | apply below_alloc | apply pw_below_drewN | apply below_drew1) | exact HB.out)))); have n1_ := Aside0.mk (below_step (by repeat (first | (with_reducible first | exact HB.out | apply below_alloc | apply pw_below_drewN | apply below_drew1) | exact HB.out)) hb); clear HB; have HO14004 := n0_; have HB := n1_; clear n0_ n1_; clear hb ho16) | ((with_reducible refine gate_builtin (b := .append) (xs := #[.tmp 27, .tmp 28]) rfl ?_); at_builtin; refine Kd.R_append_rows (Kd.int .u8) (w0 := w) w.heap.size rfl (.tmp 27) (.tmp 28) 22 5 (.int .u8 0) 1 rfl Try.underlying22 info5 rfl (by decide) (by omega) v14003 y14002 l0 _ _ _ (fun _ => True) (fun _ => False) rfl rfl ?aO ?aR (fun _ _ h => h) (fun _ h => h.elim) ?aF ?aB ?aS ?aL ?_; (case aR => repeat (first | exact (Kd.C_below HR0.out HB.out) | (with_reducible refine Kd.C_alloc ?_ _) | (with_reducible refine Kd.C_drewN ?_ _) | (with_reducible refine Kd.C_drew ?_))); (case aB => exact (by repeat (first | (with_reducible first | exact HB.out | apply below_alloc | apply pw_below_drewN | apply below_drew1) | exact HB.out))); (case aF => exact (fun _ _ => trivial)); (case aO => exact (by (with_reducible repeat (first | apply Kd.R_alloc | apply Kd.R_drewN | apply Kd.R_drew)); exact HO14004.out)); (case aS => exact (below_size (by repeat (first | (with_reducible first | exact HB.out | apply below_alloc | apply pw_below_drewN | apply below_drew1) | exact HB.out)))); (case aL => have := LMc11.out; omega); intro v14006 w17 ho hb hg hat; rw [← Ny14005.out] at ho; have n0_ := Aside0.mk (hb); have n1_ := Aside0.mk (ho); clear HB; clear HO14004; have HB := n0_; have HO14007 := n1_; clear n0_ n1_; clear ho hb hg hat; obtain ⟨Ao18, co18, eo18⟩ := Kd.R_slice HO14007.out; subst eo18) | ((with_reducible refine gate_callee (f := 49) rfl ?_); refine goesL_ (some 35) rfl rfl Try.func49 (by kernel_rfl) rfl #[.slice Ao18 y14005.length co18, .int .i64 a1, .int .i64 a2, .int .i64 a3] rfl (by (try simp only [List.map_toArray, List.map_cons, List.map_nil]); first | done | rfl | (simp only [List.length_drop, List.length_take]; rfl)) ?_; (with_reducible refine (blocks_Load.calls kj4 _ _ y14005 a1 a2 a3 t14008 t14009 _ ?side1 ?side2 A12.out).mono ?_); (case side1 => repeat (first | exact (Kd.R_reads' HO14007.out).2.2 | (with_reducible refine Kd.C_alloc ?_ _) | (with_reducible refine Kd.C_drewN ?_ _) | (with_reducible refine Kd.C_drew ?_))); (case side2 => exact (Kd.R_reads' HO14007.out).2.1); rintro e w19 ⟨v14010, rfl, ho0, hb⟩; refine ⟨_, rfl, ?_⟩; have n0_ := Aside0.mk (Kd.R_elder' (by (with_reducible repeat (first | apply Kd.R_alloc | apply Kd.R_drewN | apply Kd.R_drew)); exact HO14007.out) (Kd.R_base ho0) hb); have n1_ := Aside0.mk (Kd.R_lower (Kd.R_new' ho0 (Kd.R_lt (by (with_reducible repeat (first | apply Kd.R_alloc | apply Kd.R_drewN | apply Kd.R_drew)); exact HO14007.out))) (below_size (by repeat (first | (with_reducible first | exact HB.out | apply below_alloc | apply pw_below_drewN | apply below_drew1) | exact HB.out)))); have n2_ := Aside0.mk (below_step (by repeat (first | (with_reducible first | exact HB.out | apply below_alloc | apply pw_below_drewN | apply below_drew1) | exact HB.out)) hb); clear HO14007; clear HB; have HO14007 := n0_; have HO14011 := n1_; have HB := n2_; clear n0_ n1_ n2_; (try clear hb); (try clear hb2); (try clear hk); (try clear hi); (try clear ho0)) | ((with_reducible refine gate_callee (f := 47) rfl ?_); refine goesL_ (some 43) rfl rfl Try.func47 (by kernel_rfl) rfl #[.slice A0 l0.length c0, .int .i64 a1, .int .i64 a2, .int .i64 a3] rfl (by (try simp only [List.map_toArray, List.map_cons, List.map_nil]); first | done | rfl | (simp only [List.length_drop, List.length_take]; rfl)) ?_; (with_reducible refine (portmanteauref18_Load.calls kj4 (fun k_ => k_ < w.heap.size) _ _ l0 a1 a2 a3 t14012 t14015 _ ?side1 A13.out).mono ?_); (case side1 => exact Kd.V_mk HC0.out (Kd.F_below (Kd.C_F (Kd.heap_int .u8) HR0.out) (by repeat (first | (with_reducible first | exact HB.out | apply below_alloc | apply pw_below_drewN | apply below_drew1) | exact HB.out)))); rintro e w20 ⟨v14013, rfl, ho0, hb⟩; refine ⟨_, rfl, ?_⟩; have n0_ := Aside0.mk (Kd.R_below (by (with_reducible repeat (first | apply Kd.R_alloc | apply Kd.R_drewN | apply Kd.R_drew)); exact HO14007.out) hb); have n1_ := Aside0.mk (Kd.R_below (by (with_reducible repeat (first | apply Kd.R_alloc | apply Kd.R_drewN | apply Kd.R_drew)); exact HO14011.out) hb); have n2_ := Aside0.mk (Kd.V_lower (Kd.V_mono (ok' := fun k_ => some k_ ≠ (.slice Ao18 y14005.length co18 : Value).ownBlock ∧ some k_ ≠ (v14010 : Value).ownBlock) ho0 (fun k_ hk_ => ⟨Or.elim hk_ (fun hs_ => fun e_ => Nat.not_le.2 hs_ (Kd.R_base HO14007.out k_ e_.symm)) (fun hn_ => (Kd.fresh' (Kd.R_lt (by (with_reducible repeat (first | apply Kd.R_alloc | apply Kd.R_drewN | apply Kd.R_drew)); exact HO14007.out)) k_ hn_)), Or.elim hk_ (fun hs_ => fun e_ => Nat.not_le.2 hs_ (Kd.R_base HO14011.out k_ e_.symm)) (fun hn_ => (Kd.fresh' (Kd.R_lt (by (with_reducible repeat (first | apply Kd.R_alloc | apply Kd.R_drewN | apply Kd.R_drew)); exact HO14011.out)) k_ hn_))⟩)) (below_size (by repeat (first | (with_reducible first | exact HB.out | apply below_alloc | apply pw_below_drewN | apply below_drew1) | exact HB.out)))); have n3_ := Aside0.mk (below_step (by repeat (first | (with_reducible first | exact HB.out | apply below_alloc | apply pw_below_drewN | apply below_drew1) | exact HB.out)) hb); clear HO14007; clear HO14011; clear HB; have HO14007 := n0_; have HO14011 := n1_; have HO14014 := n2_; have HB := n3_; clear n0_ n1_ n2_ n3_; (try clear hb); (try clear hb2); (try clear hk); (try clear hi); (try clear ho0)))
          (try simp only [Act.put, List.setIfInBounds_toArray, List.set_cons_zero, List.set_cons_succ])
          go_cut [56] (fun v56 wc => ∃ (kq : Nat) (x56_13 : Bool), v56 = .bool x56_13 ∧ Aside0 (portmanteaulaw18_BlocksLoads.j1 kq l0 y14005 t14008 x56_13 = some r) ∧ Aside0 (kq ≤ kj4) ∧ Aside0 (Kd.R (Kd.int .u8) 5 wc w.heap.size (fun k_ => some k_ ≠ (v14010 : Value).ownBlock) (.slice Ao18 y14005.length co18) y14005) ∧ Aside0 (Kd.R (Kd.int .u8) 5 wc w.heap.size (fun k_ => some k_ ≠ ((.slice Ao18 y14005.length co18) : Value).ownBlock) v14010 t14008) ∧ Aside0 (Below w.heap.size w wc))
          case first =>
            have H := HC14.out
            clear HC14
            by_cases c21 : (strOfNums t14008).toList = (strOfNums t14012).toList
            · rw [if_pos c21] at H
              have c21b0 : ((strOfNums t14008).toList == (strOfNums t14012).toList) = true := beq_iff_eq.mpr c21
              have c21b1 : ((strOfNums t14008).toList != (strOfNums t14012).toList) = false := bne_eq_false_iff_eq.mpr c21
              clear c21
              (first | rw [c21b0] | (simp only [i64_w, i32_w]; rw [c21b0]) | skip)
              replace H := Option.bind_eq_some_iff.mp H
              obtain ⟨t14016, A220, H⟩ := H
              replace H : (portmanteaulaw18_BlocksLoads.j1 kj4 l0 y14005 t14008 (t14016 != t14015)) = some r := H
              have A22 := Aside0.mk A220
              clear A220
              have H' := Aside0.mk H
              clear H
              have hcv23 := own_string (P := Try.prog) Try.underlying22 Try.underlying5 Try.underlying9 (Kd.own_of_R HO14011.out)
              have hcv24 := fun n_ => own_string (P := Try.prog) Try.underlying22 Try.underlying5 Try.underlying9 (Kd.own_of_R (Kd.R_drewN HO14011.out n_))
              obtain ⟨Ao25, co25, eo25⟩ := Kd.V_slice HO14014.out
              subst eo25
              have hcv26 := Kd.C_string (P := Try.prog) (A := Ao25) (c := co25) Try.underlying22 Try.underlying5 Try.underlying9 (Kd.V_reads' HO14014.out).2.2
              have hcv27 := fun n_ => Kd.C_string (P := Try.prog) (A := Ao25) (c := co25) Try.underlying22 Try.underlying5 Try.underlying9 (Kd.C_drewN (Kd.V_reads' HO14014.out).2.2 n_)
              go_wp2_with (first | (go_at_call 41; (with_reducible refine (portmanteaulaw18_num.calls t14009 t14016 _ A22.out).mono ?_); rintro e w' ⟨rfl, ⟨nd, rfl⟩⟩))
              go_meet
              case rel => exact ⟨_, ((t14016 != t14015)), (by first | rfl | (simp; done) | (simp [*]; done)), H', ⟨by have := HJ4.out; first | omega | exact Nat.le_refl _⟩, ⟨by (with_reducible repeat (first | apply Kd.R_alloc | apply Kd.R_drewN | apply Kd.R_drew)); exact Kd.R_mono HO14007.out (fun _ hk => hk.2)⟩, ⟨by (with_reducible repeat (first | apply Kd.R_alloc | apply Kd.R_drewN | apply Kd.R_drew)); exact Kd.R_mono HO14011.out (fun _ hk => hk.2)⟩, ⟨by repeat (first | (with_reducible first | exact HB.out | apply below_alloc | apply pw_below_drewN | apply below_drew1) | exact HB.out)⟩⟩
            · rw [if_neg c21] at H
              have c21b0 : ((strOfNums t14008).toList == (strOfNums t14012).toList) = false := beq_eq_false_iff_ne.mpr c21
              have c21b1 : ((strOfNums t14008).toList != (strOfNums t14012).toList) = true := bne_iff_ne.mpr c21
              (first | rw [c21b0] | (simp only [i64_w, i32_w]; rw [c21b0]) | skip)
              have H' := Aside0.mk H
              clear H
              have hcv28 := own_string (P := Try.prog) Try.underlying22 Try.underlying5 Try.underlying9 (Kd.own_of_R HO14011.out)
              have hcv29 := fun n_ => own_string (P := Try.prog) Try.underlying22 Try.underlying5 Try.underlying9 (Kd.own_of_R (Kd.R_drewN HO14011.out n_))
              obtain ⟨Ao30, co30, eo30⟩ := Kd.V_slice HO14014.out
              subst eo30
              have hcv31 := Kd.C_string (P := Try.prog) (A := Ao30) (c := co30) Try.underlying22 Try.underlying5 Try.underlying9 (Kd.V_reads' HO14014.out).2.2
              have hcv32 := fun n_ => Kd.C_string (P := Try.prog) (A := Ao30) (c := co30) Try.underlying22 Try.underlying5 Try.underlying9 (Kd.C_drewN (Kd.V_reads' HO14014.out).2.2 n_)
              go_wp2
              go_meet
              case rel => exact ⟨_, (true), (by first | rfl | (simp; done) | (simp [*]; done)), H', ⟨by have := HJ4.out; first | omega | exact Nat.le_refl _⟩, ⟨by (with_reducible repeat (first | apply Kd.R_alloc | apply Kd.R_drewN | apply Kd.R_drew)); exact Kd.R_mono HO14007.out (fun _ hk => hk.2)⟩, ⟨by (with_reducible repeat (first | apply Kd.R_alloc | apply Kd.R_drewN | apply Kd.R_drew)); exact Kd.R_mono HO14011.out (fun _ hk => hk.2)⟩, ⟨by repeat (first | (with_reducible first | exact HB.out | apply below_alloc | apply pw_below_drewN | apply below_drew1) | exact HB.out)⟩⟩
          case rest =>
            clear HC14
            try clear c1
            try clear c2
            try clear p2
            try clear hcv2
            try clear hcv3
            try clear c4
            try clear c6
            try clear c6b0
            try clear c6b1
            try clear c7
            try clear c7b0
            try clear c8
            try clear c11
            try clear c13
            try clear c21
            try clear c21b0
            try clear c21b1
            try clear hcv23
            try clear hcv24
            try clear hcv26
            try clear hcv27
            try clear hcv28
            try clear hcv29
            try clear hcv31
            try clear hcv32
            try clear p2
            obtain ⟨kq, x56_13, rfl, HA, HJ13, HO_9, HO_10, HB⟩ := hcut
            cases kq with
            | zero => exact absurd HA.out (by simp [portmanteaulaw18_BlocksLoads.j1])
            | succ kj13 =>
              have H := HA.out
              clear HA
              simp only [portmanteaulaw18_BlocksLoads.j1] at H
              by_cases c33 : x56_13 = true
              · subst c33
                have H1 : (some false) = some r := by rw [if_pos rfl] at H; exact H
                clear H
                have H := H1
                clear H1
                obtain rfl := Option.some.inj H
                go_wp2
                go_ret
                exact ⟨by first | rfl | (simp [errW_none, errW_some] <;> rfl) | (simp [*, errW_none, errW_some] <;> rfl), by repeat (first | (with_reducible first | exact HB.out | apply below_alloc | apply pw_below_drewN | apply below_drew1) | exact HB.out)⟩
              · replace c33 := Bool.eq_false_iff.mpr c33
                subst c33
                have H1 : (portmanteaulaw18_BlocksLoads.l0 kj13 l0 y14005 t14008 0) = some r := by rw [if_neg (show ¬ (false = true) by decide)] at H; exact H
                clear H
                have H := H1
                clear H1
                have H' := Aside0.mk H
                clear H
                go_wp2
                go_loopg [14] kj13 (fun kq v14 w' => ∃ (x10_3 : List Int) (x14_3 : Int), v14 = .int .i64 x14_3 ∧ Aside0 (portmanteaulaw18_BlocksLoads.l0 kq l0 y14005 x10_3 x14_3 = some r) ∧ Aside0 (kq ≤ kj13) ∧ Aside0 (Kd.R (Kd.int .u8) 5 w' w.heap.size (fun k_ => some k_ ≠ (v14010 : Value).ownBlock) (.slice Ao18 y14005.length co18) y14005) ∧ Aside0 (Kd.R (Kd.int .u8) 5 w' w.heap.size (fun k_ => some k_ ≠ ((.slice Ao18 y14005.length co18) : Value).ownBlock) v14010 x10_3) ∧ Aside0 (Below w.heap.size w w'))
                case atStart => exact ⟨(t14008), (0), (by first | rfl | (simp; done) | (simp [*]; done)), H', ⟨Nat.le_refl _⟩, ⟨by (with_reducible repeat (first | apply Kd.R_alloc | apply Kd.R_drewN | apply Kd.R_drew)); exact HO_9.out⟩, ⟨by (with_reducible repeat (first | apply Kd.R_alloc | apply Kd.R_drewN | apply Kd.R_drew)); exact HO_10.out⟩, ⟨by repeat (first | (with_reducible first | exact HB.out | apply below_alloc | apply pw_below_drewN | apply below_drew1) | exact HB.out)⟩⟩
                case round =>
                  clear H'
                  try clear c1
                  try clear c2
                  try clear p2
                  try clear hcv2
                  try clear c3
                  try clear hcv3
                  try clear c4
                  try clear c6
                  try clear c6b0
                  try clear c6b1
                  try clear c7
                  try clear c7b0
                  try clear c8
                  try clear c11
                  try clear c13
                  try clear c21
                  try clear c21b0
                  try clear c21b1
                  try clear hcv23
                  try clear hcv24
                  try clear hcv26
                  try clear hcv27
                  try clear hcv28
                  try clear hcv29
                  try clear hcv31
                  try clear hcv32
                  try clear c33
                  try clear p2
                  obtain ⟨x10_3, x14_3, rfl, HA, HK3, HO_9, HO_10, HB⟩ := hrel
                  cases gk with
                  | zero => exact absurd HA.out (by simp [portmanteaulaw18_BlocksLoads.l0])
                  | succ k3 =>
                    have H := HA.out
                    clear HA
                    simp only [portmanteaulaw18_BlocksLoads.l0] at H
                    by_cases c34 : x14_3 < (x10_3.length : Int)
                    · rw [if_pos c34] at H
                      have c34b0 : decide (x14_3 < (x10_3.length : Int)) = true := decide_eq_true c34
                      clear c34
                      by_cases c35 : 0 ≤ x14_3
                      · rw [if_pos c35] at H
                        have c35b0 : decide (0 ≤ x14_3) = true := decide_eq_true c35
                        clear c35
                        obtain ⟨y14018, hy14018⟩ : ∃ y_ : List Int, y_ = (x10_3.set (x14_3 : Int).toNat (((rd x10_3 x14_3) + 1) % 256)) := ⟨_, rfl⟩
                        replace H : (portmanteaulaw18_BlocksLoads.l0 k3 l0 y14005 y14018 (wrap64 (x14_3 + 1))) = some r := by first | (rw [hy14018]; with_reducible exact H) | (have H2_ := (Option.bind_some _ _).symm.trans H; rw [hy14018]; with_reducible exact H2_) | (have H2_ := (Option.bind_some _ _).symm.trans H; with_reducible exact H2_) | with_reducible exact H | (rw [hy14018]; exact H) | exact H
                        have Ny14018 := Aside0.mk hy14018
                        clear hy14018
                        have H' := Aside0.mk H
                        clear H
                        obtain ⟨Ao37, co37, eo37⟩ := Kd.R_slice HO_10.out
                        subst eo37
                        have p14017 : 0 ≤ (x14_3 : Int) := of_decide_eq_true (by first | (with_reducible assumption) | assumption)
                        have q14017 : x14_3 < (x10_3.length : Int) := of_decide_eq_true (by first | (with_reducible assumption) | assumption)
                        obtain ⟨ad14017, e14017, hx14017_0⟩ := Kd.at_int (Kd.R_reads' HO_10.out).2.2 x14_3 p14017 q14017
                        cases e14017
                        replace p14017 := eq_true p14017
                        replace q14017 := eq_true q14017
                        have p36 : 0 ≤ (x14_3 : Int) := of_decide_eq_true (by first | (with_reducible assumption) | assumption)
                        have q36 : (x14_3 : Int) < ((x10_3.length : Int) : Int) := of_decide_eq_true (by first | (with_reducible assumption) | assumption)
                        obtain ⟨go36, co36, eo36, gb36, gl36, cl36, HG36⟩ := Kd.R_form HO_10.out (by omega)
                        (first | cases eo36 | (injection eo36 with ea_ en_ ec_; (first | subst ea_ | (injection ea_ with ea_; subst ea_)); subst ec_; clear en_))
                        have GB36 := Aside0.mk gb36
                        have GG36 := Aside0.mk HG36
                        clear gb36 gl36 HG36
                        (first | simp only [add_plain] at hx14017_0 | skip)
                        obtain ⟨hx36_0, hf36_0⟩ := Kd.R_celln 0 HO_10.out (x14_3 : Int) p36 q36
                        replace p36 := eq_true p36
                        replace q36 := eq_true q36
                        have HP38 := Kd.R_putg HO_10.out (x14_3 : Int) (((rd x10_3 x14_3) + 1) % 256)
                        go_wp2_with (first | ((with_reducible refine gate_store (t := 5) (p := 68) rfl ?_); refine store_event (t := 5) (p := 68) (v := ?vo_w39) (w1 := (wr.setCell ⟨go36, (x14_3 : Int).toNat, none⟩ (.int .u8 (((rd x10_3 x14_3) + 1) % 256)))) ?hg ?ho ?hn ?hr ?_; (case ho => rfl); (case hg => rfl); (case hn => rfl); (case hr => first | (go_simp; done) | (go_simp; rfl)); intro w39 hw; have hg : wr.grownBy w39 (some go36) := (by rw [hw]; exact HP38.2); have hp_ : Kd.R (Kd.int .u8) 5 w39 w.heap.size (fun k_ => some k_ ≠ (.slice Ao18 y14005.length co18 : Value).ownBlock) (.slice (some ⟨go36, 0, none⟩) x10_3.length co37) y14018 := (by rw [hw, Ny14018.out]; exact HP38.1); clear HP38; have n0_ := Aside0.mk (Kd.R_after (v := (.slice (some ⟨go36, 0, none⟩) x10_3.length co37)) (v1 := (.slice (some ⟨go36, 0, none⟩) x10_3.length co37)) (ok := (fun _ => True)) (by (with_reducible repeat (first | apply Kd.R_alloc | apply Kd.R_drewN | apply Kd.R_drew)); exact Kd.R_mono HO_9.out (fun _ hk => ⟨trivial, hk⟩)) hg (.inl rfl)); have n1_ := Aside0.mk (hp_); have n2_ := Aside0.mk ((by rw [hw]; exact below_set (HB.out) GB36.out : Below w.heap.size w w39)); clear HO_9; clear HO_10; clear HB; have HO_9 := n0_; have HO_10 := n1_; have HB := n2_; clear n0_ n1_ n2_; clear hg hw hp_))
                        go_roundg k3
                        case measure => have := HJ4.out; have := HJ13.out; have := HK3.out; omega
                        case rel => exact ⟨(y14018), (wrap64 (x14_3 + 1)), (by first | rfl | (simp; done) | (simp [*]; done)), H', ⟨by have := HJ4.out; have := HJ13.out; have := HK3.out; omega⟩, ⟨by (with_reducible repeat (first | apply Kd.R_alloc | apply Kd.R_drewN | apply Kd.R_drew)); exact Kd.R_mono HO_9.out (fun _ hk => hk.2)⟩, ⟨by (with_reducible repeat (first | apply Kd.R_alloc | apply Kd.R_drewN | apply Kd.R_drew)); exact HO_10.out⟩, ⟨by repeat (first | (with_reducible first | exact HB.out | apply below_alloc | apply pw_below_drewN | apply below_drew1) | exact HB.out)⟩⟩
                      · rw [if_neg c35] at H
                        exact absurd H (by simp)
                    · rw [if_neg c34] at H
                      have c34b0 : decide (x14_3 < (x10_3.length : Int)) = false := decide_eq_false c34
                      clear c34
                      by_cases c40 : (strOfNums y14005).toList = (strOfNums l0).toList
                      · rw [if_pos c40] at H
                        have c40b0 : ((strOfNums y14005).toList == (strOfNums l0).toList) = true := beq_iff_eq.mpr c40
                        have c40b1 : ((strOfNums y14005).toList != (strOfNums l0).toList) = false := bne_eq_false_iff_eq.mpr c40
                        clear c40
                        replace H := Option.bind_eq_some_iff.mp H
                        obtain ⟨t14019, A410, H⟩ := H
                        replace H : (some t14019) = some r := H
                        have A41 := Aside0.mk A410
                        clear A410
                        obtain rfl := Option.some.inj H
                        obtain ⟨Ao42, co42, eo42⟩ := Kd.R_slice HO_10.out
                        subst eo42
                        have hcv43 := own_string (P := Try.prog) Try.underlying22 Try.underlying5 Try.underlying9 (Kd.own_of_R HO_9.out)
                        have hcv44 := fun n_ => own_string (P := Try.prog) Try.underlying22 Try.underlying5 Try.underlying9 (Kd.own_of_R (Kd.R_drewN HO_9.out n_))
                        have hcv45 := Kd.C_string (P := Try.prog) (A := A0) (c := c0) Try.underlying22 Try.underlying5 Try.underlying9 (Kd.C_below HR0.out HB.out)
                        have hcv46 := fun n_ => Kd.C_string (P := Try.prog) (A := A0) (c := c0) Try.underlying22 Try.underlying5 Try.underlying9 (Kd.C_drewN (Kd.C_below HR0.out HB.out) n_)
                        go_wp2_with (first | (go_at_call 43; (with_reducible refine (portmanteaulaw18_live.calls k3  t14019 _ A41.out).mono ?_); rintro e w47 ⟨rfl, hb⟩; have n0_ := Aside0.mk (Kd.R_below (by (with_reducible repeat (first | apply Kd.R_alloc | apply Kd.R_drewN | apply Kd.R_drew)); exact HO_9.out) hb); have n1_ := Aside0.mk (Kd.R_below (by (with_reducible repeat (first | apply Kd.R_alloc | apply Kd.R_drewN | apply Kd.R_drew)); exact HO_10.out) hb); have n2_ := Aside0.mk (below_step (by repeat (first | (with_reducible first | exact HB.out | apply below_alloc | apply pw_below_drewN | apply below_drew1) | exact HB.out)) hb); clear HO_9; clear HO_10; clear HB; have HO_9 := n0_; have HO_10 := n1_; have HB := n2_; clear n0_ n1_ n2_; (try clear hb); (try clear hb2); (try clear hk); (try clear hi)))
                        go_ret
                        exact ⟨by first | rfl | (simp [errW_none, errW_some] <;> rfl) | (simp [*, errW_none, errW_some] <;> rfl), by repeat (first | (with_reducible first | exact HB.out | apply below_alloc | apply pw_below_drewN | apply below_drew1) | exact HB.out)⟩
                      · rw [if_neg c40] at H
                        have c40b0 : ((strOfNums y14005).toList == (strOfNums l0).toList) = false := beq_eq_false_iff_ne.mpr c40
                        have c40b1 : ((strOfNums y14005).toList != (strOfNums l0).toList) = true := bne_iff_ne.mpr c40
                        obtain rfl := Option.some.inj H
                        obtain ⟨Ao48, co48, eo48⟩ := Kd.R_slice HO_10.out
                        subst eo48
                        have hcv49 := own_string (P := Try.prog) Try.underlying22 Try.underlying5 Try.underlying9 (Kd.own_of_R HO_9.out)
                        have hcv50 := fun n_ => own_string (P := Try.prog) Try.underlying22 Try.underlying5 Try.underlying9 (Kd.own_of_R (Kd.R_drewN HO_9.out n_))
                        have hcv51 := Kd.C_string (P := Try.prog) (A := A0) (c := c0) Try.underlying22 Try.underlying5 Try.underlying9 (Kd.C_below HR0.out HB.out)
                        have hcv52 := fun n_ => Kd.C_string (P := Try.prog) (A := A0) (c := c0) Try.underlying22 Try.underlying5 Try.underlying9 (Kd.C_drewN (Kd.C_below HR0.out HB.out) n_)
                        go_wp2
                        go_ret
                        exact ⟨by first | rfl | (simp [errW_none, errW_some] <;> rfl) | (simp [*, errW_none, errW_some] <;> rfl), by repeat (first | (with_reducible first | exact HB.out | apply below_alloc | apply pw_below_drewN | apply below_drew1) | exact HB.out)⟩
        · rw [if_neg c11] at H
          exact absurd H (by simp)

/-- THE ONE PURE STATEMENT of portmanteaulaw18_BlocksLoads: yours. -/
def portmanteaulaw18_BlocksLoads.Pure : Prop := ∀ (l0 : List Int) (a1 : Int) (a2 : Int) (a3 : Int), l0.length ≤ maxLen → l0.length * 1 ≤ 140737488351232 → (∀ x ∈ l0, (Lit.int .u8 x).wf = true) → (Lit.int .i64 a1).wf = true → (Lit.int .i64 a2).wf = true → (Lit.int .i64 a3).wf = true → ∃ k, portmanteaulaw18_BlocksLoads.f k l0 a1 a2 a3 = some true
theorem portmanteaulaw18_BlocksLoads.walk (P : portmanteaulaw18_BlocksLoads.Pure) (a0 : Option Addr) (len0 cap0 : Nat) (z0 : List Int) (a1 : Int) (a2 : Int) (a3 : Int) (w : World) (w0 : (a0 = none ∧ len0 = 0 ∧ cap0 = 0 ∧ z0 = []) ∨ ∃ x, a0 = some x ∧ len0 ≤ cap0 ∧ cap0 ≤ maxLen ∧ z0.length = cap0 ∧ (∀ i, i < z0.length → w.cell? (x.add i) = some (.int .u8 (z0.getD i 0))) ∧ ∀ n ∈ z0, (Lit.int .u8 n).wf = true) (y0 : len0 * 1 ≤ 140737488351232) (w1 : (Lit.int .i64 a1).wf = true) (w2 : (Lit.int .i64 a2).wf = true) (w3 : (Lit.int .i64 a3).wf = true) :
    Calls Try.prog 13 #[.slice a0 len0 cap0, .int .i64 a1, .int .i64 a2, .int .i64 a3] w fun e w' => e = .returned (.bool true) ∧ Below w.heap.size w w' := by
  obtain ⟨l0, rfl, hr0, hm0, hw0, hc0⟩ := ReadsInt.ofRowC w0
  obtain ⟨k, h⟩ := P l0 a1 a2 a3 hm0 y0 hw0 w1 w2 w3
  refine (portmanteaulaw18_BlocksLoads.calls k _ _ l0 a1 a2 a3 true w (Kd.C_of_reads (d := (0 : Int)) (h1 := fun _ => rfl) hr0) hc0 h).mono ?_
  rintro e w' ⟨rfl, hd⟩
  exact ⟨rfl, hd⟩

end Go.Proofs.Ytdlfflgcmgkmeaa.P

namespace Go.Proofs.Ytdlfflgcmgkmeaa.Pure
open Go.RowKit Go.Proofs.Ytdlfflgcmgkmeaa.P Go.Proofs.YtdlfflgcmgkmeaaW.PrintWords Go.Proofs.YtdlfflgcmgkmeaaW.PrintLast Go.Proofs.YtdlfflgcmgkmeaaW.PrintMore
set_option linter.unusedVariables false
theorem w64 {x : Int} (h : -9223372036854775808 ≤ x ∧ x ≤ 9223372036854775807) : wrap64 x = x := IntWalk.wrap64_in _ h
end Go.Proofs.Ytdlfflgcmgkmeaa.Pure

namespace Go.Proofs.Ytdlfflgcmgkmeaa.Pure
open Go Go.RowKit Go.Proofs.Ytdlfflgcmgkmeaa.P Go.Proofs.YtdlfflgcmgkmeaaW.PrintWords Go.Proofs.YtdlfflgcmgkmeaaW.PrintLast Go.Proofs.YtdlfflgcmgkmeaaW.PrintMore
set_option linter.unusedVariables false
/-! ### Sums: by bits -/
def stp (c : BitVec 32) : BitVec 32 := if c.toNat % 2 = 1 then (c >>> 1) ^^^ 0xEDB88320#32 else c >>> 1
def ent : Nat → BitVec 32 → BitVec 32
  | 0, c => c
  | n + 1, c => ent n (stp c)
def byt (c : BitVec 32) (x : Int) : BitVec 32 := (c >>> 8) ^^^ ent 8 (BitVec.ofNat 32 ((c.toNat % 256) ^^^ x.toNat))
def crcGo : BitVec 32 → List Int → BitVec 32
  | c, [] => c
  | c, x :: l => crcGo (byt c x) l
def crcV (l : List Int) : BitVec 32 := ~~~ (crcGo (~~~ 0#32) l)

theorem u32_bv (c : BitVec 32) : BitVec.ofInt 32 (c.toNat : Int) = c := by rw [BitVec.ofInt_natCast, BitVec.ofNat_toNat, BitVec.setWidth_eq]
theorem u32_wrap (c : BitVec 32) : IntKind.u32.wrap (c.toNat : Int) = (c.toNat : Int) := by
  have h := c.isLt
  show ((c.toNat : Int) % (2 ^ 32 : Nat)) = _
  omega
theorem xor_bv (a b : BitVec 32) : bits .xor .u32 (a.toNat : Int) (b.toNat : Int) = ((a ^^^ b).toNat : Int) := by
  unfold bits
  show IntKind.u32.wrap ((BitVec.ofInt 32 (a.toNat : Int) ^^^ BitVec.ofInt 32 (b.toNat : Int)).toNat : Int) = _
  rw [u32_bv, u32_bv, u32_wrap]
theorem and_bv (a b : BitVec 32) : bits .and .u32 (a.toNat : Int) (b.toNat : Int) = ((a &&& b).toNat : Int) := by
  unfold bits
  show IntKind.u32.wrap ((BitVec.ofInt 32 (a.toNat : Int) &&& BitVec.ofInt 32 (b.toNat : Int)).toNat : Int) = _
  rw [u32_bv, u32_bv, u32_wrap]
theorem shr1_bv (c : BitVec 32) : (c.toNat : Int) / (2 : Int) = ((c >>> 1).toNat : Int) := by
  rw [BitVec.toNat_ushiftRight, Nat.shiftRight_eq_div_pow]; omega
theorem shr8_bv (c : BitVec 32) : (c.toNat : Int) / (256 : Int) = ((c >>> 8).toNat : Int) := by
  rw [BitVec.toNat_ushiftRight, Nat.shiftRight_eq_div_pow]; omega
theorem prog_stp (c : BitVec 32) : bits .xor .u32 ((c.toNat : Int) / 2) (bits .and .u32 3988292384 ((-(bits .and .u32 (c.toNat : Int) 1)) % 4294967296)) = ((stp c).toNat : Int) := by
  have h1 : bits .and .u32 (c.toNat : Int) 1 = ((c.toNat % 2 : Nat) : Int) := by
    have := and_bv c 1#32
    rw [show ((1#32).toNat : Int) = 1 from rfl] at this
    rw [this, BitVec.toNat_and, show (1#32).toNat = 2 ^ 1 - 1 from rfl, Nat.and_two_pow_sub_one_eq_mod]
  rw [h1, shr1_bv]
  unfold stp
  by_cases c1 : c.toNat % 2 = 1
  · rw [if_pos c1, c1]
    have e : bits .and .u32 3988292384 ((-((1 : Nat) : Int)) % 4294967296) = ((0xEDB88320#32).toNat : Int) := by decide +kernel
    rw [e, xor_bv]
  · rw [if_neg c1, show c.toNat % 2 = 0 by omega]
    have e : bits .and .u32 3988292384 ((-((0 : Nat) : Int)) % 4294967296) = ((0#32).toNat : Int) := by decide +kernel
    rw [e, xor_bv, BitVec.xor_zero]
theorem entry_l0 : ∀ (d : Nat) (k : Nat) (c : BitVec 32) (i : Int), i + d = 8 → 0 ≤ i → d < k → sum_entry.l0 k (c.toNat : Int) i = some ((ent d c).toNat : Int)
  | 0, k, c, i, h1, h2, h3 => by
    obtain ⟨k, rfl⟩ : ∃ j, k = j + 1 := ⟨k - 1, by omega⟩
    rw [sum_entry.l0, if_neg (by omega)]; rfl
  | d + 1, k, c, i, h1, h2, h3 => by
    obtain ⟨k, rfl⟩ : ∃ j, k = j + 1 := ⟨k - 1, by omega⟩
    rw [sum_entry.l0, if_pos (by omega), prog_stp, w64 (by omega), entry_l0 d k _ _ (by omega) (by omega) (by omega)]
    rfl
theorem entry_f (k : Nat) (c : BitVec 32) (hk : 9 ≤ k) : sum_entry.f k (c.toNat : Int) = some ((ent 8 c).toNat : Int) := entry_l0 8 k c 0 (by omega) (by omega) (by omega)
theorem ref_entry_l0 : ∀ (d : Nat) (k : Nat) (c : BitVec 32) (i : Int), i + d = 8 → 0 ≤ i → d < k → portmanteauref02_Entry.l0 k (c.toNat : Int) i = some ((ent d c).toNat : Int)
  | 0, k, c, i, h1, h2, h3 => by
    obtain ⟨k, rfl⟩ : ∃ j, k = j + 1 := ⟨k - 1, by omega⟩
    rw [portmanteauref02_Entry.l0, if_neg (by omega)]; rfl
  | d + 1, k, c, i, h1, h2, h3 => by
    obtain ⟨k, rfl⟩ : ∃ j, k = j + 1 := ⟨k - 1, by omega⟩
    have hlt := c.isLt
    have e1 : Int.tdiv (c.toNat : Int) (2 : Int) % (4294967296 : Int) = ((c >>> 1).toNat : Int) := by rw [Int.tdiv_eq_ediv_of_nonneg (by omega), ← shr1_bv]; omega
    rw [portmanteauref02_Entry.l0, if_pos (by omega), e1, w64 (by omega)]
    have e2 : Int.tmod (c.toNat : Int) (2 : Int) = ((c.toNat % 2 : Nat) : Int) := by rw [Int.tmod_eq_emod_of_nonneg (by omega)]; omega
    rw [e2]
    by_cases c1 : c.toNat % 2 = 1
    · rw [if_pos (by omega)]
      have := xor_bv (c >>> 1) 0xEDB88320#32
      rw [show ((0xEDB88320#32).toNat : Int) = 3988292384 from by decide +kernel] at this
      rw [this, ref_entry_l0 d k _ _ (by omega) (by omega) (by omega)]
      simp only [ent, stp, if_pos c1]
    · rw [if_neg (by omega), ref_entry_l0 d k _ _ (by omega) (by omega) (by omega)]
      simp only [ent, stp, if_neg c1]
theorem ref_entry_f (k : Nat) (c : BitVec 32) (hk : 9 ≤ k) : portmanteauref02_Entry.f k (c.toNat : Int) = some ((ent 8 c).toNat : Int) := ref_entry_l0 8 k c 0 (by omega) (by omega) (by omega)
theorem idx_lt (c : BitVec 32) (x : Int) (h : 0 ≤ x ∧ x ≤ 255) : (c.toNat % 256) ^^^ x.toNat < 256 := Nat.xor_lt_two_pow (n := 8) (by omega) (by omega)
theorem prog_idx (c : BitVec 32) (x : Int) (h : 0 ≤ x ∧ x ≤ 255) : (bits .xor .u8 ((c.toNat : Int) % 256) x) % 4294967296 = ((BitVec.ofNat 32 ((c.toNat % 256) ^^^ x.toNat)).toNat : Int) := by
  have hl := idx_lt c x h
  unfold bits
  have e1 : (BitVec.ofInt 8 ((c.toNat : Int) % 256)).toNat = c.toNat % 256 := by rw [BitVec.toNat_ofInt]; omega
  have e2 : (BitVec.ofInt 8 x).toNat = x.toNat := by rw [BitVec.toNat_ofInt]; omega
  show (IntKind.u8.wrap ((BitVec.ofInt 8 ((c.toNat : Int) % 256) ^^^ BitVec.ofInt 8 x).toNat : Int)) % 4294967296 = _
  rw [BitVec.toNat_xor, e1, e2, BitVec.toNat_ofNat]
  show ((((c.toNat % 256) ^^^ x.toNat : Nat) : Int) % (2 ^ 8 : Nat)) % 4294967296 = _
  omega
theorem ref_idx (c : BitVec 32) (x : Int) (h : 0 ≤ x ∧ x ≤ 255) : bits .xor .u32 (Int.tmod (c.toNat : Int) 256) (x % 4294967296) = ((BitVec.ofNat 32 ((c.toNat % 256) ^^^ x.toNat)).toNat : Int) := by
  have hl := idx_lt c x h
  have e1 : Int.tmod (c.toNat : Int) (256 : Int) = ((BitVec.ofNat 32 (c.toNat % 256)).toNat : Int) := by rw [Int.tmod_eq_emod_of_nonneg (by omega), BitVec.toNat_ofNat]; omega
  have e2 : x % (4294967296 : Int) = ((BitVec.ofNat 32 x.toNat).toNat : Int) := by rw [BitVec.toNat_ofNat]; omega
  have a1 : (BitVec.ofNat 32 (c.toNat % 256)).toNat = c.toNat % 256 := by rw [BitVec.toNat_ofNat]; omega
  have a2 : (BitVec.ofNat 32 x.toNat).toNat = x.toNat := by rw [BitVec.toNat_ofNat]; omega
  have a3 : (BitVec.ofNat 32 ((c.toNat % 256) ^^^ x.toNat)).toNat = (c.toNat % 256) ^^^ x.toNat := by rw [BitVec.toNat_ofNat]; exact Nat.mod_eq_of_lt (by omega)
  rw [e1, e2, xor_bv, BitVec.toNat_xor, a1, a2, a3]
theorem drop_rd (l : List Int) (i : Nat) (h : i < l.length) : l.drop i = rd l (i : Int) :: l.drop (i + 1) := by
  rw [List.drop_eq_getElem_cons h]
  simp [rd, List.getD, h]
theorem more_l0 (l : List Int) (hl : Bytes l) : ∀ (d k : Nat) (c : BitVec 32) (i : Nat), i + d = l.length → d + 10 ≤ k → sum_More.l0 k (c.toNat : Int) l l.length i = some ((~~~ (crcGo c (l.drop i))).toNat : Int)
  | 0, k, c, i, h1, h2 => by
    obtain ⟨k, rfl⟩ : ∃ j, k = j + 1 := ⟨k - 1, by omega⟩
    rw [sum_More.l0, if_neg (by omega), List.drop_eq_nil_of_le (by omega), crcGo]
    have := xor_bv (BitVec.allOnes 32) c
    rw [show ((BitVec.allOnes 32).toNat : Int) = 4294967295 from by decide +kernel] at this
    rw [this, BitVec.allOnes_xor]
  | d + 1, k, c, i, h1, h2 => by
    obtain ⟨k, rfl⟩ : ∃ j, k = j + 1 := ⟨k - 1, by omega⟩
    have hb := hl.at_ i
    have hl1 := hl.1
    rw [sum_More.l0, if_pos (by omega), if_pos (by omega), if_pos (by omega), prog_idx c _ hb, entry_f k _ (by omega), Option.bind_some, shr8_bv, xor_bv, w64 (by omega)]
    have := more_l0 l hl d k (byt c (rd l i)) (i + 1) (by omega) (by omega)
    rw [drop_rd l i (by omega), crcGo]
    exact this
theorem crc_f (k : Nat) (l : List Int) (hl : Bytes l) (hk : l.length + 10 ≤ k) : sum_Crc.f k l = some ((crcV l).toNat : Int) := by
  unfold sum_Crc.f sum_More.f
  have e : bits .xor .u32 4294967295 0 = (((~~~ 0#32)).toNat : Int) := by decide +kernel
  rw [e]
  have := more_l0 l hl l.length k (~~~ 0#32) 0 (by omega) hk
  rw [show ((0 : Nat) : Int) = 0 from rfl, List.drop_zero] at this
  rw [this]; rfl
theorem ref_crc_l0 (l : List Int) (hl : Bytes l) : ∀ (d k : Nat) (c : BitVec 32) (i : Nat), i + d = l.length → d + 10 ≤ k → portmanteauref02_Crc.l0 k (c.toNat : Int) l i = some ((~~~ (crcGo c (l.drop i))).toNat : Int)
  | 0, k, c, i, h1, h2 => by
    obtain ⟨k, rfl⟩ : ∃ j, k = j + 1 := ⟨k - 1, by omega⟩
    have hlt := c.isLt
    rw [portmanteauref02_Crc.l0, if_neg (by omega), List.drop_eq_nil_of_le (by omega), crcGo]
    congr 1
    rw [BitVec.toNat_not]; omega
  | d + 1, k, c, i, h1, h2 => by
    obtain ⟨k, rfl⟩ : ∃ j, k = j + 1 := ⟨k - 1, by omega⟩
    have hb := hl.at_ i
    have hl1 := hl.1
    have hlt := c.isLt
    have e1 : Int.tdiv (c.toNat : Int) (256 : Int) % (4294967296 : Int) = ((c >>> 8).toNat : Int) := by rw [Int.tdiv_eq_ediv_of_nonneg (by omega), ← shr8_bv]; omega
    rw [portmanteauref02_Crc.l0, if_pos (by omega), if_pos (by omega), ref_idx c _ hb, ref_entry_f k _ (by omega), Option.bind_some, e1, xor_bv, w64 (by omega)]
    have := ref_crc_l0 l hl d k (byt c (rd l i)) (i + 1) (by omega) (by omega)
    rw [drop_rd l i (by omega), crcGo]
    exact this
theorem ref_crc_f (k : Nat) (l : List Int) (hl : Bytes l) (hk : l.length + 10 ≤ k) : portmanteauref02_Crc.f k 0 l = some ((crcV l).toNat : Int) := by
  unfold portmanteauref02_Crc.f
  have e : (4294967295 - 0 : Int) % 4294967296 = (((~~~ 0#32)).toNat : Int) := by decide +kernel
  rw [e]
  have := ref_crc_l0 l hl l.length k (~~~ 0#32) 0 (by omega) hk
  rw [show ((0 : Nat) : Int) = 0 from rfl, List.drop_zero] at this
  exact this
end Go.Proofs.Ytdlfflgcmgkmeaa.Pure

namespace Go.Proofs.Ytdlfflgcmgkmeaa.Pure
open Go.RowKit Go.Proofs.Ytdlfflgcmgkmeaa.P Go.Proofs.YtdlfflgcmgkmeaaW.PrintWords Go.Proofs.YtdlfflgcmgkmeaaW.PrintLast Go.Proofs.YtdlfflgcmgkmeaaW.PrintMore
set_option linter.unusedVariables false

theorem ref_len_l0 (l : List Int) (hl : Bytes l) : ∀ (f k : Nat) (n p : Int), 0 ≤ p → p ≤ (l.length : Int) → (l.length : Int) - p < (f : Int) → f ≤ k → 0 ≤ n → n ≤ p * 255 + 15 →
    portmanteauref05_length.l0 k l n p = some (match lenGo f l n p with | some (x, q) => (x, q) | none => (-1, (l.length : Int)))
  | 0, k, n, p, h0, h1, h2, hk, h3, h4 => by omega
  | f + 1, k, n, p, h0, h1, h2, hk, h3, h4 => by
    obtain ⟨k, rfl⟩ : ∃ k', k = k' + 1 := ⟨k - 1, by omega⟩
    have hr := hl.at_ p
    have hl1 := hl.1
    simp only [portmanteauref05_length.l0, lenGo]
    by_cases c1 : p = (l.length : Int)
    · rw [if_neg (by omega), if_pos c1, c1]
    · have hp := Aside0.mk (show wrap64 (p + 1) = p + 1 from w64 (by omega))
      have hpp := Aside0.mk (show wrap64 (p + 1 - 1) = p from by rw [show p + 1 - 1 = p by omega]; exact w64 (by omega))
      have hw := Aside0.mk (show wrap64 (rd l p) = rd l p from w64 (by omega))
      have hn := Aside0.mk (show wrap64 (n + rd l p) = n + rd l p from w64 (by omega))
      rw [if_pos (by omega), if_pos h0, if_neg c1]
      simp only [hp.out, hpp.out, hw.out, hn.out, if_pos h0, if_pos (show p < (l.length : Int) by omega)]
      by_cases c2 : rd l p = 255
      · rw [if_pos c2, if_neg (by omega)]
        exact ref_len_l0 l hl f k _ _ (by omega) (by omega) (by omega) (by omega) (by omega) (by omega)
      · rw [if_neg c2, if_pos (by omega)]
theorem ref_len (l : List Int) (hl : Bytes l) (k : Nat) (n p : Int) (h0 : 0 ≤ p) (h1 : p ≤ (l.length : Int)) (hk : l.length + 1 ≤ k) (h3 : 0 ≤ n) (h4 : n ≤ 15) :
    portmanteauref05_length.f k l n p = some (match lenF l n p with | some (x, q) => (x, q) | none => (-1, (l.length : Int))) := by
  unfold portmanteauref05_length.f lenF
  by_cases c : n < 15
  · rw [if_pos c, if_pos c]
  · rw [if_neg c, if_neg c]
    exact ref_len_l0 l hl (l.length + 1) k n p h0 h1 (by omega) hk h3 (by omega)

theorem ref_copy (l : List Int) (m off n : Int) (lit : List Int) (seqs : List S113) (q : Int) (ys : List Int) (r : List Int × List S113 × Int × Int) (K : Nat) (hoff : 1 ≤ off) (hoff2 : off ≤ (ys.length : Int)) (hs : seqs.length < 3518437208883) (hn0 : 0 ≤ n) (hlen : (ys.length : Int) + n ≤ 1099511627776)
    (h : ∀ k, K ≤ k → portmanteauref05_Decode.l0 k l m (copyN n.toNat off.toNat ys) (seqs ++ [(⟨lit, off, n⟩ : S113)]) q = some r) :
    ∀ (d : Nat) (i : Nat) (k : Nat), i + d = n.toNat → K + d + 1 ≤ k → portmanteauref05_Decode.l1 k l m (copyN i off.toNat ys) seqs q i lit off n = some r
  | 0, i, k, hi, hk => by
    obtain ⟨k, rfl⟩ : ∃ k', k = k' + 1 := ⟨k - 1, by omega⟩
    simp only [portmanteauref05_Decode.l1]
    rw [if_neg (by omega), if_pos hs, show i = n.toNat by omega]
    exact h k (by omega)
  | d + 1, i, k, hi, hk => by
    obtain ⟨k, rfl⟩ : ∃ k', k = k' + 1 := ⟨k - 1, by omega⟩
    have hcl := copyN_len i off.toNat ys
    simp only [portmanteauref05_Decode.l1]
    have hw := Aside0.mk (show wrap64 (((copyN i off.toNat ys).length : Int) - off) = ((copyN i off.toNat ys).length : Int) - off from w64 (by omega))
    have hw2 := Aside0.mk (show wrap64 ((i : Int) + 1) = ((i + 1 : Nat) : Int) from by rw [w64 (by omega)]; rfl)
    rw [if_pos (by omega), hw.out, if_pos (by omega), if_pos (by omega), if_pos (by omega), hw2.out]
    have := ref_copy l m off n lit seqs q ys r K hoff hoff2 hs hn0 hlen h d (i + 1) k (by omega) (by omega)
    rw [show (copyN (i + 1) off.toNat ys) = copyN i off.toNat ys ++ [rd (copyN i off.toNat ys) (((copyN i off.toNat ys).length : Int) - off)] by
      simp only [copyN]; congr 2; unfold rd; congr 1; omega] at this
    exact this

theorem ref_dec (l : List Int) (hl : Bytes l) (m : Int) (hm0 : 0 ≤ m) (hm : m ≤ 1048576) (hl5 : l.length ≤ 1000000) : ∀ (f : Nat) (p : Int) (ys : List Int) (seqs : List S113), 0 ≤ p → p ≤ (l.length : Int) → (ys.length : Int) ≤ m → (l.length : Int) - p < (f : Int) → (seqs.length : Int) ≤ p →
    ∃ K S, ∀ k, K ≤ k → portmanteauref05_Decode.l0 k l m ys seqs p = some (match lzAll l m f p ys with | .ok zs => (zs, S, 0, (l.length : Int)) | .err e a => ([], [], e, a))
  | 0, p, ys, seqs, h0, h1, h2, h3, h4 => by omega
  | f + 1, p, ys, seqs, h0, h1, h2, h3, h4 => by
    have hr := hl.at_ p
    -- what the sequence is
    by_cases c1 : p = (l.length : Int)
    · refine ⟨1, [], fun k hk => ?_⟩
      obtain ⟨k, rfl⟩ : ∃ k', k = k' + 1 := ⟨k - 1, by omega⟩
      simp only [portmanteauref05_Decode.l0, lzAll, lzNext]
      rw [if_pos (by omega), if_pos c1]
    · have hp1 := Aside0.mk (show wrap64 (p + 1) = p + 1 from w64 (by omega))
      have hdiv : (Int.tdiv (rd l p) 16) % 256 = rd l p / 16 := by rw [Int.tdiv_eq_ediv_of_nonneg hr.1]; omega
      have hstep : ∀ k, portmanteauref05_Decode.l0 (k + 1) l m ys seqs p = (portmanteauref05_length.f k l (rd l p / 16) (p + 1)).bind _ := fun k => by
        simp only [portmanteauref05_Decode.l0]
        rw [if_neg (by omega), if_pos h0, if_pos (by omega), hp1.out, hdiv]
      rcases hL : lenF l (rd l p / 16) (p + 1) with _ | ⟨n, kk⟩
      · refine ⟨l.length + 3, [], fun k hk => ?_⟩
        obtain ⟨k, rfl⟩ : ∃ k', k = k' + 1 := ⟨k - 1, by omega⟩
        rw [hstep, ref_len l hl k _ _ (by omega) (by omega) (by omega) (by omega) (by omega), hL]
        simp only [lzAll, lzNext, if_neg c1, hL, Option.bind_some]
        rw [if_pos (by omega)]
      · obtain ⟨g1, g2, g3, g4⟩ := lenF_le hl (by omega) (by omega) (by omega) hL
        have hms := Aside0.mk (show wrap64 (m - (ys.length : Int)) = m - (ys.length : Int) from w64 (by omega))
        by_cases c2 : n > m - (ys.length : Int)
        · refine ⟨l.length + 3, [], fun k hk => ?_⟩
          obtain ⟨k, rfl⟩ : ∃ k', k = k' + 1 := ⟨k - 1, by omega⟩
          rw [hstep, ref_len l hl k _ _ (by omega) (by omega) (by omega) (by omega) (by omega), hL]
          simp only [lzAll, lzNext, if_neg c1, hL, if_pos c2, Option.bind_some]
          rw [if_neg (by omega), hms.out, if_pos c2]
        · have hlk := Aside0.mk (show wrap64 ((l.length : Int) - kk) = (l.length : Int) - kk from w64 (by omega))
          by_cases c3 : n > (l.length : Int) - kk
          · refine ⟨l.length + 3, [], fun k hk => ?_⟩
            obtain ⟨k, rfl⟩ : ∃ k', k = k' + 1 := ⟨k - 1, by omega⟩
            rw [hstep, ref_len l hl k _ _ (by omega) (by omega) (by omega) (by omega) (by omega), hL]
            simp only [lzAll, lzNext, if_neg c1, hL, if_neg c2, if_pos c3, Option.bind_some]
            rw [if_neg (by omega), hms.out, if_neg c2, hlk.out, if_pos c3]
          · have hkn := Aside0.mk (show wrap64 (kk + n) = kk + n from w64 (by omega))
            obtain ⟨lit, hlit⟩ : ∃ y, y = (l.take (kk + n).toNat).drop kk.toNat := ⟨_, rfl⟩
            have hll : (lit.length : Int) = n := by rw [hlit, List.length_drop, List.length_take]; omega
            have hal : ((ys ++ lit).length : Int) = ys.length + n := by rw [List.length_append]; omega
            by_cases c4 : kk + n = (l.length : Int)
            · refine ⟨l.length + 3, seqs ++ [(⟨lit, 0, 0⟩ : S113)], fun k hk => ?_⟩
              obtain ⟨k, rfl⟩ : ∃ k', k = k' + 1 := ⟨k - 1, by omega⟩
              rw [hstep, ref_len l hl k _ _ (by omega) (by omega) (by omega) (by omega) (by omega), hL]
              simp only [lzAll, lzNext, if_neg c1, hL, if_neg c2, if_neg c3, Option.bind_some, hkn.out, ← hlit]
              rw [if_neg (by omega), hms.out, if_neg c2, hlk.out, if_neg c3, if_pos (by omega), if_pos (by omega), if_pos (by omega), if_pos (by omega), if_pos c4, if_pos (by omega), if_pos c4]
            · have hkn1 := Aside0.mk (show wrap64 (kk + n + 1) = kk + n + 1 from w64 (by omega))
              by_cases c5 : (l.length : Int) - (kk + n) < 2
              · refine ⟨l.length + 3, [], fun k hk => ?_⟩
                obtain ⟨k, rfl⟩ : ∃ k', k = k' + 1 := ⟨k - 1, by omega⟩
                rw [hstep, ref_len l hl k _ _ (by omega) (by omega) (by omega) (by omega) (by omega), hL]
                simp only [lzAll, lzNext, if_neg c1, hL, if_neg c2, if_neg c3, if_neg c4, if_pos c5, Option.bind_some, hkn.out, hkn1.out, ← hlit]
                rw [if_neg (by omega), hms.out, if_neg c2, hlk.out, if_neg c3, if_pos (by omega), if_pos (by omega), if_pos (by omega), if_pos (by omega), if_pos (by omega)]
              · have hb1 := hl.at_ (kk + n)
                have hb2 := hl.at_ (kk + n + 1)
                have e1 := Aside0.mk (show wrap64 (rd l (kk + n)) = rd l (kk + n) from w64 (by omega))
                have e2 := Aside0.mk (show wrap64 (rd l (kk + n + 1)) = rd l (kk + n + 1) from w64 (by omega))
                have e3 := Aside0.mk (show wrap64 (256 * rd l (kk + n + 1)) = rd l (kk + n + 1) * 256 from by rw [w64 (by omega)]; omega)
                obtain ⟨off, hoff⟩ : ∃ o, o = rd l (kk + n) + rd l (kk + n + 1) * 256 := ⟨_, rfl⟩
                have e4 := Aside0.mk (show wrap64 off = off from w64 (by omega))
                -- the step up to j1
                have hstep2 : ∀ k, l.length + 1 ≤ k → portmanteauref05_Decode.l0 (k + 1) l m ys seqs p = portmanteauref05_Decode.j1 k l m (ys ++ lit) seqs (kk + n) p (decide (off = 0 ∨ off > ys.length + n)) lit off 0 := fun k hk => by
                  rw [hstep, ref_len l hl k _ _ (by omega) (by omega) (by omega) (by omega) (by omega), hL]
                  simp only [Option.bind_some, hkn.out, hkn1.out, ← hlit, e1.out, e2.out, e3.out, ← hoff, e4.out]
                  rw [if_neg (by omega), hms.out, if_neg c2, hlk.out, if_neg c3, if_pos (by omega), if_pos (by omega), if_pos (by omega), if_pos (by omega), if_neg c4, if_neg (by omega), if_pos (by omega), if_pos (by omega), if_pos (by omega), if_pos (by omega)]
                  by_cases c6 : off = 0
                  · rw [if_pos c6]; simp [c6]
                  · rw [if_neg c6, hal]; simp [c6]
                by_cases c6 : off = 0 ∨ off > ys.length + n
                · refine ⟨l.length + 4, [], fun k hk => ?_⟩
                  obtain ⟨k, rfl⟩ : ∃ k', k = k' + 2 := ⟨k - 2, by omega⟩
                  rw [hstep2 (k + 1) (by omega)]
                  simp only [portmanteauref05_Decode.j1, decide_eq_true c6, if_true]
                  simp only [lzAll, lzNext, if_neg c1, hL, if_neg c2, if_neg c3, if_neg c4, if_neg c5, ← hoff]
                  rw [if_pos (by omega)]
                · have hmod := Aside0.mk (show wrap64 (Int.tmod (rd l p) 16) = rd l p % 16 from by rw [Int.tmod_eq_emod_of_nonneg hr.1]; exact w64 (by omega))
                  have hkn2 := Aside0.mk (show wrap64 (kk + n + 2) = kk + n + 2 from w64 (by omega))
                  have hstep3 : ∀ k, l.length + 1 ≤ k → portmanteauref05_Decode.l0 (k + 2) l m ys seqs p = (portmanteauref05_length.f k l (rd l p % 16) (kk + n + 2)).bind _ := fun k hk => by
                    rw [hstep2 (k + 1) (by omega)]
                    simp only [portmanteauref05_Decode.j1, decide_eq_false c6, Bool.false_eq_true, if_false]
                    rw [if_pos h0, if_pos (by omega), hmod.out, hkn2.out]
                  rcases hL2 : lenF l (rd l p % 16) (kk + n + 2) with _ | ⟨n2, q⟩
                  · refine ⟨l.length + 4, [], fun k hk => ?_⟩
                    obtain ⟨k, rfl⟩ : ∃ k', k = k' + 2 := ⟨k - 2, by omega⟩
                    rw [hstep3 k (by omega), ref_len l hl k _ _ (by omega) (by omega) (by omega) (by omega) (by omega), hL2]
                    simp only [lzAll, lzNext, if_neg c1, hL, if_neg c2, if_neg c3, if_neg c4, if_neg c5, ← hoff, hL2, Option.bind_some]
                    rw [if_pos (by omega), if_neg (by omega)]
                  · obtain ⟨g5, g6, g7, g8⟩ := lenF_le hl (by omega) (by omega) (by omega) hL2
                    have hms2 := Aside0.mk (show wrap64 (m - ((ys ++ lit).length : Int)) = m - (ys.length + n) from by rw [hal]; exact w64 (by omega))
                    have hn4 := Aside0.mk (show wrap64 (n2 + 4) = n2 + 4 from w64 (by omega))
                    by_cases c7 : n2 + 4 > m - ((ys.length : Int) + n)
                    · refine ⟨l.length + 4, [], fun k hk => ?_⟩
                      obtain ⟨k, rfl⟩ : ∃ k', k = k' + 2 := ⟨k - 2, by omega⟩
                      rw [hstep3 k (by omega), ref_len l hl k _ _ (by omega) (by omega) (by omega) (by omega) (by omega), hL2]
                      simp only [lzAll, lzNext, if_neg c1, hL, if_neg c2, if_neg c3, if_neg c4, if_neg c5, ← hoff, hL2, if_pos c7, Option.bind_some, hn4.out, hms2.out]
                      rw [if_neg (by omega), if_neg (by omega)]
                    · -- one round more
                      obtain ⟨K, S, ih⟩ := ref_dec l hl m hm0 hm hl5 f q (copyN (n2 + 4).toNat off.toNat (ys ++ lit)) (seqs ++ [(⟨lit, off, n2 + 4⟩ : S113)]) (by omega) (by omega) (by rw [copyN_len, List.length_append]; omega) (by omega) (by rw [List.length_append]; simp; omega)
                      refine ⟨K + (n2 + 4).toNat + l.length + 10, S, fun k hk => ?_⟩
                      obtain ⟨k, rfl⟩ : ∃ k', k = k' + 2 := ⟨k - 2, by omega⟩
                      rw [hstep3 k (by omega), ref_len l hl k _ _ (by omega) (by omega) (by omega) (by omega) (by omega), hL2]
                      simp only [Option.bind_some, hn4.out, hms2.out]
                      rw [if_neg (by omega), if_neg c7]
                      have hc := ref_copy l m off (n2 + 4) lit seqs q (ys ++ lit) _ K (by omega) (by omega) (by omega) (by omega) (by omega) ih (n2 + 4).toNat 0 k (by omega) (by omega)
                      simp only [copyN] at hc
                      rw [show ((0 : Nat) : Int) = 0 from rfl] at hc
                      rw [hc]
                      simp only [lzAll, lzNext, if_neg c1, hL, if_neg c2, if_neg c3, if_neg c4, if_neg c5, ← hoff, hL2, if_neg c7, ← hlit]
                      rw [if_neg c6]
theorem lzAll_len {l : List Int} (hl : Bytes l) {m : Int} (hm0 : 0 ≤ m) (hm : m ≤ 1048576) : ∀ {f : Nat} {p : Int} {ys zs : List Int}, lzAll l m f p ys = .ok zs → 0 ≤ p → p ≤ (l.length : Int) → (ys.length : Int) ≤ m → (zs.length : Int) ≤ m
  | 0, _, _, _, h, _, _, _ => by simp only [lzAll] at h; cases h
  | f + 1, p, ys, zs, h, h0, h1, h2 => by
    simp only [lzAll] at h
    cases hr : lzNext l m p ys.length with
    | bad e' a' => rw [hr] at h; cases h
    | last lit => rw [hr] at h; cases h; have := lzNext_last hl h0 h1 (by omega) hr; rw [List.length_append]; omega
    | more lit off len q =>
      rw [hr] at h
      obtain ⟨m1, m2, m3, m4, m5, m6, m7⟩ := lzNext_more hl h0 h1 (by omega) hr
      exact lzAll_len hl hm0 hm h (by omega) (by omega) (by rw [copyN_len, List.length_append]; omega)
end Go.Proofs.Ytdlfflgcmgkmeaa.Pure

/- Proved: plain laws that the blocks rows share: the words' parts by arithmetic, the page's example by evaluation. Conditions: the integers are in the range of Go's int. -/
namespace Go.Proofs.Ytdlfflgcmgkmeaa.Pure
open Go Go.RowKit
theorem wrap_small (n : Nat) (h : n < 2^63) : IntKind.i64.wrap (n : Int) = n := by
  rw [IntWalk.i64_left, IntWalk.wrap64_in] <;> omega
theorem ofInt_toNat (x : Int) (h0 : 0 ≤ x) (h1 : x ≤ 9223372036854775807) : (BitVec.ofInt 64 x).toNat = x.toNat := by
  rw [BitVec.toNat_ofInt]
  have : x % ((2^64 : Nat) : Int) = x := Int.emod_eq_of_lt h0 (by omega)
  rw [this]
theorem and_31n (x : Int) (h0 : 0 ≤ x) (h1 : x ≤ 9223372036854775807) : (BitVec.ofInt 64 x &&& BitVec.ofInt 64 2147483648).toNat = x.toNat / 2147483648 % 2 * 2147483648 := by
  have hx := ofInt_toNat x h0 h1
  have e0 : BitVec.ofInt 64 2147483648 = BitVec.twoPow 64 31 := by decide
  rw [e0, BitVec.and_twoPow, BitVec.getLsbD, hx, Nat.testBit_eq_decide_div_mod_eq]
  by_cases h : x.toNat / 2^31 % 2 = 1
  · simp only [h, decide_true, if_true]; decide
  · simp only [h, decide_false, Bool.false_eq_true, if_false]; simp; omega
theorem and_31 (x : Int) (h0 : 0 ≤ x) (h1 : x ≤ 9223372036854775807) : bits .and .i64 x 2147483648 = x / 2147483648 % 2 * 2147483648 := by
  unfold bits
  have hx := ofInt_toNat x h0 h1
  have hy := ofInt_toNat 2147483648 (by omega) (by omega)
  have e := and_31n x h0 h1
  show IntKind.i64.wrap ((BitVec.ofInt 64 x &&& BitVec.ofInt 64 2147483648).toNat : Int) = _
  rw [e, wrap_small _ (by omega)]; omega
theorem andNot_31 (x : Int) (h0 : 0 ≤ x) (h1 : x ≤ 9223372036854775807) : bits .andNot .i64 x 2147483648 = x - x / 2147483648 % 2 * 2147483648 := by
  unfold bits
  have hx := ofInt_toNat x h0 h1
  have hy := ofInt_toNat 2147483648 (by omega) (by omega)
  have e := and_31n x h0 h1
  have s : ∀ a b : BitVec 64, (a &&& ~~~b).toNat + (a &&& b).toNat = a.toNat := by
    intro a b
    have hz : (a &&& ~~~b) &&& (a &&& b) = 0#64 := by
      apply BitVec.eq_of_getElem_eq; intro i hi; simp; intro _ _; simp_all
    have ho : (a &&& ~~~b) ||| (a &&& b) = a := by
      apply BitVec.eq_of_getElem_eq; intro i hi; simp; by_cases h : b[i] <;> simp [h]
    rw [← BitVec.toNat_add_of_and_eq_zero hz, BitVec.add_eq_or_of_and_eq_zero _ _ hz, ho]
  have s1 := s (BitVec.ofInt 64 x) (BitVec.ofInt 64 2147483648)
  show IntKind.i64.wrap ((BitVec.ofInt 64 x &&& ~~~BitVec.ofInt 64 2147483648).toNat : Int) = _
  rw [wrap_small _ (by omega)]; omega
open Go.Proofs.Ytdlfflgcmgkmeaa.P Go.Proofs.YtdlfflgcmgkmeaaW.PrintWords Go.Proofs.YtdlfflgcmgkmeaaW.PrintLast
/-- The program's parts of a word are the document's. -/
theorem parts_eq (a : Int) (w : (Lit.int .i64 a).wf = true) : blocks_Parts.f a = portmanteauref18_Parts.f a := by
  have hb := bounds_i64 w
  unfold blocks_Parts.f portmanteauref18_Parts.f
  by_cases h0 : a < 0
  · rw [if_pos h0, if_neg (by omega), if_pos (by omega)]
  · rw [if_neg h0, andNot_31 a (by omega) (by omega), and_31 a (by omega) (by omega)]
    by_cases h1 : a ≥ 2147483648
    · rw [if_pos h1, IntWalk.wrap64_in _ (by omega)]
      by_cases h2 : a - 2147483648 < 1
      · rw [if_pos h2, if_pos (by omega)]
      · rw [if_neg h2]
        by_cases h3 : a - 2147483648 > 1048576
        · rw [if_pos h3, if_neg (by omega), if_pos (by omega)]
        · have : a / 2147483648 % 2 = 1 := by omega
          rw [if_neg h3, this, if_neg (by omega), if_neg (by omega)]; simp
    · have : a / 2147483648 % 2 = 0 := by omega
      rw [if_neg h1, this]; simp
/-- How the parts of a word are told, without bits. -/
theorem refParts_total (a : Int) : ∃ n p e, portmanteauref18_Parts.f a = some (n, p, e) := by
  unfold portmanteauref18_Parts.f
  split <;> split <;> (try split) <;> exact ⟨_, _, _, rfl⟩
set_option maxRecDepth 100000 in
theorem live18_40 : portmanteaulaw18_live.f 40 = some true := by decide +kernel
theorem live18_at (k : Nat) (h : 40 ≤ k) : portmanteaulaw18_live.f k = some true := at_rounds portmanteaulaw18_live.mono h live18_40
end Go.Proofs.Ytdlfflgcmgkmeaa.Pure

namespace Go.Proofs.Ytdlfflgcmgkmeaa.Pure
open Go Go.RowKit Go.Proofs.Ytdlfflgcmgkmeaa.P Go.Proofs.YtdlfflgcmgkmeaaW.PrintWords Go.Proofs.YtdlfflgcmgkmeaaW.PrintLast Go.Proofs.YtdlfflgcmgkmeaaW.PrintMore
set_option linter.unusedVariables false
/-- What is unpacked, or not: the program's and the document's. -/
theorem unpack_eq (l : List Int) (hl : Bytes l) (hl5 : l.length ≤ 1000000) (a1 : Bool) (a2 : Int) : ∃ K r, r.1.length ≤ 1100000 ∧ ∀ k, K ≤ k → match_Unpack.f k l a1 a2 = some r ∧ portmanteauref06_Unpack.f k l a1 a2 = some r := by
  by_cases h0 : a2 < 0 ∨ a2 > 1048576
  · refine ⟨2, ([], 1), by simp, fun k hk => ?_⟩
    obtain ⟨k, rfl⟩ : ∃ k', k = k' + 1 := ⟨k - 1, by omega⟩
    constructor
    · unfold match_Unpack.f
      cases a1 with
      | true => simp only [if_true, lz_Decode.f, if_pos h0, Option.bind_some]
      | false =>
        simp only [Bool.false_eq_true, if_false]
        rcases h0 with h | h
        · simp only [if_pos h, match_Unpack.j0, if_true]
        · simp only [if_neg (show ¬ a2 < 0 by omega), match_Unpack.j0, decide_eq_true h, if_true]
    · unfold portmanteauref06_Unpack.f
      rcases h0 with h | h
      · simp only [if_pos h, portmanteauref06_Unpack.j0, if_true]
      · simp only [if_neg (show ¬ a2 < 0 by omega), portmanteauref06_Unpack.j0, decide_eq_true h, if_true]
  · have hn : ¬ a2 < 0 := by omega
    have hg : ¬ a2 > 1048576 := by omega
    cases a1 with
    | true =>
      obtain ⟨K, S, hK⟩ := ref_dec l hl a2 (by omega) (by omega) hl5 (l.length + 1) 0 [] [] (by omega) (by omega) (by simp; omega) (by omega) (by simp)
      have hb : BytesB l = true := BytesB_of hl
      cases hA : lzAll l a2 (l.length + 1) 0 [] with
      | ok zs =>
        have hz := lzAll_len hl (by omega) (by omega) hA (by omega) (by omega) (by simp; omega)
        refine ⟨K + 2, (zs, 0), by simp only []; omega, fun k hk => ?_⟩
        obtain ⟨k, rfl⟩ : ∃ k', k = k' + 1 := ⟨k - 1, by omega⟩
        constructor
        · simp only [match_Unpack.f, if_true, lz_Decode.f, if_neg h0, hb, hA, Option.bind_some]
        · have := hK k (by omega)
          rw [hA] at this
          simp only [portmanteauref06_Unpack.f, if_neg hn, portmanteauref06_Unpack.j0, decide_eq_false hg, Bool.false_eq_true, if_false, if_true, portmanteauref05_Decode.f, this, Option.bind_some]
      | err e a =>
        refine ⟨K + 2, ([], e), by simp, fun k hk => ?_⟩
        obtain ⟨k, rfl⟩ : ∃ k', k = k' + 1 := ⟨k - 1, by omega⟩
        constructor
        · simp only [match_Unpack.f, if_true, lz_Decode.f, if_neg h0, hb, hA, Option.bind_some]
        · have := hK k (by omega)
          rw [hA] at this
          simp only [portmanteauref06_Unpack.f, if_neg hn, portmanteauref06_Unpack.j0, decide_eq_false hg, Bool.false_eq_true, if_false, if_true, portmanteauref05_Decode.f, this, Option.bind_some]
    | false =>
      by_cases hm : (l.length : Int) > a2
      · refine ⟨2, ([], 2), by simp, fun k hk => ?_⟩
        obtain ⟨k, rfl⟩ : ∃ k', k = k' + 1 := ⟨k - 1, by omega⟩
        constructor
        · simp only [match_Unpack.f, Bool.false_eq_true, if_false, if_neg hn, match_Unpack.j0, decide_eq_false hg, if_pos hm]
        · simp only [portmanteauref06_Unpack.f, if_neg hn, portmanteauref06_Unpack.j0, decide_eq_false hg, Bool.false_eq_true, if_false, if_pos hm]
      · refine ⟨2, (l, 0), by simp only []; omega, fun k hk => ?_⟩
        obtain ⟨k, rfl⟩ : ∃ k', k = k' + 1 := ⟨k - 1, by omega⟩
        constructor
        · simp only [match_Unpack.f, Bool.false_eq_true, if_false, if_neg hn, match_Unpack.j0, decide_eq_false hg, if_neg hm, bytes_Clone.f, if_pos (show l.length < 140737488355328 by omega), Option.bind_some]
        · simp only [portmanteauref06_Unpack.f, if_neg hn, portmanteauref06_Unpack.j0, decide_eq_false hg, Bool.false_eq_true, if_false, if_neg hm]

/-! ### Four bytes as a number -/
def le4 (l : List Int) (a : Nat) : Int := rd l a + rd l (a + 1 : Nat) * 256 + rd l (a + 2 : Nat) * 65536 + rd l (a + 3 : Nat) * 16777216
theorem u64_small (n : Nat) (h : n < 18446744073709551616) : IntKind.u64.wrap (n : Int) = n := by
  show ((n : Int) % (2 ^ 64 : Nat)) = _
  omega
theorem u64_in (x : Int) (h0 : 0 ≤ x) (h : x < 18446744073709551616) : IntKind.u64.wrap x = x := by
  show (x % (2 ^ 64 : Nat)) = _
  omega
theorem or_step (acc x : Int) (c : Nat) (hc : c ≤ 24) (h0 : 0 ≤ acc) (h1 : acc < 2 ^ c) (hx : 0 ≤ x ∧ x ≤ 255) : Go.bits .or .u64 acc (shl .u64 (IntKind.u64.wrap x) (c : Int)) = acc + x * 2 ^ c := by
  obtain ⟨a, rfl⟩ : ∃ a : Nat, acc = a := ⟨acc.toNat, by omega⟩
  obtain ⟨y, rfl⟩ : ∃ y : Nat, x = y := ⟨x.toNat, by omega⟩
  have ha : a < 2 ^ c := by
    have : ((a : Nat) : Int) < ((2 ^ c : Nat) : Int) := by rw [Int.natCast_pow]; exact h1
    omega
  have hp : 2 ^ c ≤ 16777216 := Nat.le_trans (Nat.pow_le_pow_right (by omega) hc) (by decide)
  have hyl : y * 2 ^ c ≤ 255 * 16777216 := Nat.mul_le_mul (by omega) hp
  have e1 : shl .u64 (IntKind.u64.wrap (y : Int)) (c : Int) = ((y * 2 ^ c : Nat) : Int) := by
    unfold shl
    rw [u64_small y (by omega)]
    rw [show min ((c : Int)).toNat (IntKind.bits .u64) = c by simp only [Int.toNat_natCast]; show min c 64 = c; omega]
    rw [show (y : Int) * 2 ^ c = ((y * 2 ^ c : Nat) : Int) by rw [Int.natCast_mul, Int.natCast_pow]; rfl]
    exact u64_small _ (by omega)
  rw [e1]
  unfold bits
  have h1 : (BitVec.ofInt 64 ((a : Nat) : Int)).toNat = a := by rw [BitVec.toNat_ofInt]; omega
  have h2 : (BitVec.ofInt 64 ((y * 2 ^ c : Nat) : Int)).toNat = y * 2 ^ c := by rw [BitVec.toNat_ofInt]; omega
  show IntKind.u64.wrap ((BitVec.ofInt 64 ((a : Nat) : Int) ||| BitVec.ofInt 64 ((y * 2 ^ c : Nat) : Int)).toNat : Int) = _
  have e2 : (BitVec.ofInt 64 ((a : Nat) : Int) ||| BitVec.ofInt 64 ((y * 2 ^ c : Nat) : Int)).toNat = a + y * 2 ^ c := by
    rw [BitVec.toNat_or, h1, h2]
    have := Nat.two_pow_add_eq_or_of_lt ha y
    rw [Nat.or_comm, show y * 2 ^ c = 2 ^ c * y by rw [Nat.mul_comm], ← this]
    omega
  rw [e2, u64_small _ (by omega), Int.natCast_add, Int.natCast_mul, Int.natCast_pow]
  rfl
theorem four_of (l : List Int) (a : Nat) (h : a + 4 ≤ l.length) : (l.take (a + 4)).drop a = [rd l a, rd l (a + 1 : Nat), rd l (a + 2 : Nat), rd l (a + 3 : Nat)] := by
  rw [List.drop_take, show a + 4 - a = 4 by omega, drop_rd l a (by omega), drop_rd l (a + 1) (by omega), drop_rd l (a + 1 + 1) (by omega), drop_rd l (a + 1 + 1 + 1) (by omega)]
  rfl
theorem load4 (k : Nat) (b0 b1 b2 b3 : Int) (h0 : 0 ≤ b0 ∧ b0 ≤ 255) (h1 : 0 ≤ b1 ∧ b1 ≤ 255) (h2 : 0 ≤ b2 ∧ b2 ≤ 255) (h3 : 0 ≤ b3 ∧ b3 ≤ 255) (hk : 5 ≤ k) : field_load.f k [b0, b1, b2, b3] = some (b0 + b1 * 256 + b2 * 65536 + b3 * 16777216) := by
  obtain ⟨k, rfl⟩ : ∃ j, k = j + 5 := ⟨k - 5, by omega⟩
  have s0 := or_step 0 b0 0 (by omega) (by omega) (by omega) h0
  have s1 := or_step (0 + b0 * 2 ^ 0) b1 8 (by omega) (by omega) (by omega) h1
  have s2 := or_step (0 + b0 * 2 ^ 0 + b1 * 2 ^ 8) b2 16 (by omega) (by omega) (by omega) h2
  have s3 := or_step (0 + b0 * 2 ^ 0 + b1 * 2 ^ 8 + b2 * 2 ^ 16) b3 24 (by omega) (by omega) (by omega) h3
  have r0 : rd [b0, b1, b2, b3] 0 = b0 := rfl
  have r1 : rd [b0, b1, b2, b3] 1 = b1 := rfl
  have r2 : rd [b0, b1, b2, b3] 2 = b2 := rfl
  have r3 : rd [b0, b1, b2, b3] 3 = b3 := rfl
  have w0 := Aside0.mk (show wrap64 (8 * 0) = ((0 : Nat) : Int) from w64 (by omega))
  have w1 := Aside0.mk (show wrap64 (8 * 1) = ((8 : Nat) : Int) from w64 (by omega))
  have w2 := Aside0.mk (show wrap64 (8 * 2) = ((16 : Nat) : Int) from w64 (by omega))
  have w3 := Aside0.mk (show wrap64 (8 * 3) = ((24 : Nat) : Int) from w64 (by omega))
  have i1 := Aside0.mk (show wrap64 (0 + 1) = 1 from w64 (by omega))
  have i2 := Aside0.mk (show wrap64 (1 + 1) = 2 from w64 (by omega))
  have i3 := Aside0.mk (show wrap64 (2 + 1) = 3 from w64 (by omega))
  have i4 := Aside0.mk (show wrap64 (3 + 1) = 4 from w64 (by omega))
  unfold field_load.f
  rw [show (([b0, b1, b2, b3].length : Nat) : Int) = 4 from rfl]
  rw [field_load.l0, if_pos (by omega), if_pos (by omega), if_pos (by simp), w0.out, if_pos (by omega), r0, s0, i1.out]
  rw [field_load.l0, if_pos (by omega), if_pos (by omega), if_pos (by simp), w1.out, if_pos (by omega), r1, s1, i2.out]
  rw [field_load.l0, if_pos (by omega), if_pos (by omega), if_pos (by simp), w2.out, if_pos (by omega), r2, s2, i3.out]
  rw [field_load.l0, if_pos (by omega), if_pos (by omega), if_pos (by simp), w3.out, if_pos (by omega), r3, s3, i4.out]
  rw [field_load.l0, if_neg (by omega)]
  congr 1
  omega
theorem get4 (k : Nat) (l : List Int) (hl : Bytes l) (a : Nat) (h : a + 4 ≤ l.length) (hk : 8 ≤ k) : field_Get.f k l a 4 = some (le4 l a, 0) := by
  have hl1 := hl.1
  have hw : field_wide.f k 4 = some true := by
    obtain ⟨k, rfl⟩ : ∃ j, k = j + 1 := ⟨k - 1, by omega⟩
    rw [field_wide.f, if_neg (by omega), field_wide.j0, if_neg (by decide), if_pos rfl]
  have hi : field_within.f l a 4 = some true := by
    rw [field_within.f, if_pos (by omega), if_pos (by omega), if_pos (by omega), w64 (by omega), decide_eq_true (by omega)]
  rw [field_Get.f, hw, Option.bind_some, if_pos rfl, hi, Option.bind_some, if_pos rfl, if_pos (by omega), w64 (by omega), if_pos (by omega), if_pos (by omega)]
  rw [show ((a : Int) + 4).toNat = a + 4 by omega, Int.toNat_natCast, four_of l a h, load4 k _ _ _ _ (hl.at_ _) (hl.at_ _) (hl.at_ _) (hl.at_ _) (by omega)]
  rfl
theorem ref_load4 (k : Nat) (l : List Int) (hl : Bytes l) (a : Nat) (h : a + 4 ≤ l.length) (hk : 8 ≤ k) : portmanteauref01_Load.f k l a 4 = some (le4 l a) := by
  have hl1 := hl.1
  have b0 := hl.at_ (a : Int)
  have b1 := hl.at_ ((a + 1 : Nat) : Int)
  have b2 := hl.at_ ((a + 2 : Nat) : Int)
  have b3 := hl.at_ ((a + 3 : Nat) : Int)
  obtain ⟨k, rfl⟩ : ∃ j, k = j + 5 := ⟨k - 5, by omega⟩
  have i3 := Aside0.mk (show wrap64 (4 - 1) = 3 from w64 (by omega))
  have i2 := Aside0.mk (show wrap64 (3 - 1) = 2 from w64 (by omega))
  have i1 := Aside0.mk (show wrap64 (2 - 1) = 1 from w64 (by omega))
  have i0 := Aside0.mk (show wrap64 (1 - 1) = 0 from w64 (by omega))
  have i9 := Aside0.mk (show wrap64 (0 - 1) = -1 from w64 (by omega))
  have a3 := Aside0.mk (show wrap64 ((a : Int) + 3) = ((a + 3 : Nat) : Int) from w64 (by omega))
  have a2 := Aside0.mk (show wrap64 ((a : Int) + 2) = ((a + 2 : Nat) : Int) from w64 (by omega))
  have a1 := Aside0.mk (show wrap64 ((a : Int) + 1) = ((a + 1 : Nat) : Int) from w64 (by omega))
  have a0 := Aside0.mk (show wrap64 ((a : Int) + 0) = (a : Int) from by rw [w64 (by omega)]; omega)
  unfold portmanteauref01_Load.f
  rw [i3.out]
  rw [portmanteauref01_Load.l0, if_pos (by omega), a3.out, if_pos (by omega), if_pos (by omega), i2.out, u64_in (0 * 256) (by omega) (by omega), u64_in (rd l _) (by omega) (by omega), u64_in (0 * 256 + rd l _) (by omega) (by omega)]
  rw [portmanteauref01_Load.l0, if_pos (by omega), a2.out, if_pos (by omega), if_pos (by omega), i1.out, u64_in ((0 * 256 + rd l ((a + 3 : Nat) : Int)) * 256) (by omega) (by omega), u64_in (rd l _) (by omega) (by omega), u64_in ((0 * 256 + rd l ((a + 3 : Nat) : Int)) * 256 + rd l _) (by omega) (by omega)]
  rw [portmanteauref01_Load.l0, if_pos (by omega), a1.out, if_pos (by omega), if_pos (by omega), i0.out, u64_in (((0 * 256 + rd l ((a + 3 : Nat) : Int)) * 256 + rd l ((a + 2 : Nat) : Int)) * 256) (by omega) (by omega), u64_in (rd l _) (by omega) (by omega), u64_in (((0 * 256 + rd l ((a + 3 : Nat) : Int)) * 256 + rd l ((a + 2 : Nat) : Int)) * 256 + rd l _) (by omega) (by omega)]
  rw [portmanteauref01_Load.l0, if_pos (by omega), a0.out, if_pos (by omega), if_pos (by omega), i9.out, u64_in ((((0 * 256 + rd l ((a + 3 : Nat) : Int)) * 256 + rd l ((a + 2 : Nat) : Int)) * 256 + rd l ((a + 1 : Nat) : Int)) * 256) (by omega) (by omega), u64_in (rd l _) (by omega) (by omega), u64_in ((((0 * 256 + rd l ((a + 3 : Nat) : Int)) * 256 + rd l ((a + 2 : Nat) : Int)) * 256 + rd l ((a + 1 : Nat) : Int)) * 256 + rd l _) (by omega) (by omega)]
  rw [portmanteauref01_Load.l0, if_neg (by omega)]
  congr 1
  unfold le4
  omega

/-! ### Loading a block -/
theorem parts_ok {a : Int} {n : Int} {p : Bool} (h : portmanteauref18_Parts.f a = some (n, p, 0)) : 1 ≤ n ∧ n ≤ 1048576 := by
  unfold portmanteauref18_Parts.f at h
  split at h
  · split at h
    · cases h
    · split at h
      · cases h
      · cases h; omega
  · split at h
    · cases h
    · split at h
      · cases h
      · cases h; omega
theorem Bytes_cut {l : List Int} (hl : Bytes l) (i j : Nat) : Bytes ((l.take i).drop j) := by
  refine ⟨?_, fun x hx => hl.2 x (List.mem_of_mem_take (List.mem_of_mem_drop hx))⟩
  have := hl.1
  rw [List.length_drop, List.length_take]
  omega
/-- Behind the words' checks: the program's and the document's. -/
theorem load_tail (l : List Int) (hl : Bytes l) (hl5 : l.length ≤ 900000) (at_ plain n : Int) (p : Bool) (hn : 1 ≤ n ∧ n ≤ 1048576) (ha : -9223372036854775808 ≤ at_ ∧ at_ ≤ 9223372036854775807) : ∃ K r, r.1.length ≤ 1100000 ∧ ∀ k, K ≤ k → blocks_Load.j1 k l at_ plain n p false = some r ∧ portmanteauref18_Load.j1 k l at_ plain n p false = some r := by
  by_cases h0 : at_ < 0
  · refine ⟨3, ([], 9), by simp, fun k hk => ?_⟩
    obtain ⟨k, rfl⟩ : ∃ j, k = j + 2 := ⟨k - 2, by omega⟩
    constructor
    · rw [blocks_Load.j1, if_neg Bool.false_ne_true, if_pos h0]
    · rw [portmanteauref18_Load.j1, if_neg Bool.false_ne_true, if_pos h0, portmanteauref18_Load.j2, if_pos rfl]
  · by_cases h1 : at_ + n + 4 > (l.length : Int)
    · refine ⟨3, ([], 9), by simp, fun k hk => ?_⟩
      obtain ⟨k, rfl⟩ : ∃ j, k = j + 2 := ⟨k - 2, by omega⟩
      constructor
      · rw [blocks_Load.j1, if_neg Bool.false_ne_true, if_neg h0, w64 (by omega), w64 (by omega : -9223372036854775808 ≤ (l.length : Int) - n ∧ (l.length : Int) - n ≤ 9223372036854775807), w64 (by omega)]
        by_cases h2 : (l.length : Int) < n + 4
        · rw [if_pos h2]
        · rw [if_neg h2, if_pos (by omega)]
      · rw [portmanteauref18_Load.j1, if_neg Bool.false_ne_true, if_neg h0]
        by_cases h2 : at_ > (l.length : Int)
        · rw [if_pos h2, portmanteauref18_Load.j2, if_pos rfl]
        · rw [if_neg h2, w64 (by omega), w64 (by omega), decide_eq_true (by omega), portmanteauref18_Load.j2, if_pos rfl]
    · obtain ⟨a, rfl⟩ : ∃ a : Nat, at_ = a := ⟨at_.toNat, by omega⟩
      obtain ⟨m, rfl⟩ : ∃ m : Nat, n = m := ⟨n.toNat, by omega⟩
      obtain ⟨x, hx⟩ : ∃ x, x = (l.take (a + m)).drop a := ⟨_, rfl⟩
      have hxb : Bytes x := by rw [hx]; exact Bytes_cut hl _ _
      have hxl : x.length ≤ l.length := by rw [hx, List.length_drop, List.length_take]; omega
      have hcx := (crcV x).isLt
      have hu : IntKind.u64.wrap ((crcV x).toNat : Int) = ((crcV x).toNat : Int) := u64_small _ (by omega)
      -- the checks that both make
      have hP : ∀ k, x.length + 20 ≤ k → blocks_Load.j1 (k + 1) l a plain m p false = if le4 l (a + m) = ((crcV x).toNat : Int) then ((match_Unpack.f k x p plain).bind fun b => if b.2 = 0 then (if (b.1.length : Int) = plain then some (b.1, 0) else some ([], 6)) else some ([], 6)) else some ([], 140) := fun k hk => by
        rw [blocks_Load.j1, if_neg Bool.false_ne_true, if_neg h0, w64 (by omega : -9223372036854775808 ≤ (m : Int) + 4 ∧ (m : Int) + 4 ≤ 9223372036854775807), if_neg (by omega), w64 (by omega : -9223372036854775808 ≤ (l.length : Int) - m ∧ (l.length : Int) - m ≤ 9223372036854775807), w64 (by omega : -9223372036854775808 ≤ (l.length : Int) - m - 4 ∧ (l.length : Int) - m - 4 ≤ 9223372036854775807), if_neg (by omega), if_pos (by omega), w64 (by omega : -9223372036854775808 ≤ (a : Int) + m ∧ (a : Int) + m ≤ 9223372036854775807), if_pos (by omega), if_pos (by omega)]
        rw [show (a : Int) + (m : Int) = ((a + m : Nat) : Int) by omega, get4 k l hl (a + m) (by omega) (by omega), Option.bind_some, Int.toNat_natCast, Int.toNat_natCast, ← hx, crc_f k x hxb (by omega), Option.bind_some, hu]
      have hR : ∀ k, x.length + 20 ≤ k → portmanteauref18_Load.j1 (k + 2) l a plain m p false = if le4 l (a + m) = ((crcV x).toNat : Int) then ((portmanteauref06_Unpack.f k x p plain).bind fun b => if b.2 = 0 then (if (b.1.length : Int) = plain then some (b.1, 0) else some ([], 6)) else some ([], 6)) else some ([], 140) := fun k hk => by
        rw [portmanteauref18_Load.j1, if_neg Bool.false_ne_true, if_neg h0, if_neg (by omega), w64 (by omega : -9223372036854775808 ≤ (m : Int) + 4 ∧ (m : Int) + 4 ≤ 9223372036854775807), w64 (by omega : -9223372036854775808 ≤ (l.length : Int) - a ∧ (l.length : Int) - a ≤ 9223372036854775807), decide_eq_false (by omega), portmanteauref18_Load.j2, if_neg Bool.false_ne_true, if_pos (by omega), w64 (by omega : -9223372036854775808 ≤ (a : Int) + m ∧ (a : Int) + m ≤ 9223372036854775807), if_pos (by omega), if_pos (by omega)]
        rw [show (a : Int) + (m : Int) = ((a + m : Nat) : Int) by omega, Option.bind_some, ref_load4 k l hl (a + m) (by omega) (by omega), Option.bind_some, Int.toNat_natCast, Int.toNat_natCast, ← hx, ref_crc_f k x hxb (by omega), Option.bind_some, hu]
      by_cases h3 : le4 l (a + m) = ((crcV x).toNat : Int)
      · obtain ⟨K, r, hr, hK⟩ := unpack_eq x hxb (by omega) p plain
        by_cases h4 : r.2 = 0 ∧ (r.1.length : Int) = plain
        · refine ⟨K + x.length + 30, (r.1, 0), hr, fun k hk => ?_⟩
          obtain ⟨k, rfl⟩ : ∃ j, k = j + 2 := ⟨k - 2, by omega⟩
          rw [hP (k + 1) (by omega), hR k (by omega), if_pos h3, if_pos h3, (hK (k + 1) (by omega)).1, (hK k (by omega)).2, Option.bind_some, if_pos h4.1, if_pos h4.2]
          exact ⟨rfl, rfl⟩
        · refine ⟨K + x.length + 30, ([], 6), by simp, fun k hk => ?_⟩
          obtain ⟨k, rfl⟩ : ∃ j, k = j + 2 := ⟨k - 2, by omega⟩
          rw [hP (k + 1) (by omega), hR k (by omega), if_pos h3, if_pos h3, (hK (k + 1) (by omega)).1, (hK k (by omega)).2, Option.bind_some]
          by_cases h5 : r.2 = 0
          · rw [if_pos h5, if_neg (fun h => h4 ⟨h5, h⟩)]; exact ⟨rfl, rfl⟩
          · rw [if_neg h5]; exact ⟨rfl, rfl⟩
      · refine ⟨x.length + 30, ([], 140), by simp, fun k hk => ?_⟩
        obtain ⟨k, rfl⟩ : ∃ j, k = j + 2 := ⟨k - 2, by omega⟩
        rw [hP (k + 1) (by omega), hR k (by omega), if_neg h3, if_neg h3]
        exact ⟨rfl, rfl⟩
theorem load_eq (l : List Int) (hl : Bytes l) (hl5 : l.length ≤ 900000) (at_ word plain : Int) (ha : (Lit.int .i64 at_).wf = true) (hw : (Lit.int .i64 word).wf = true) : ∃ K r, r.1.length ≤ 1100000 ∧ ∀ k, K ≤ k → blocks_Load.f k l at_ word plain = some r ∧ portmanteauref18_Load.f k l at_ word plain = some r := by
  by_cases h0 : plain < 1 ∨ plain > 1048576
  · refine ⟨2, ([], 1), by simp, fun k hk => ?_⟩
    obtain ⟨k, rfl⟩ : ∃ j, k = j + 1 := ⟨k - 1, by omega⟩
    unfold blocks_Load.f portmanteauref18_Load.f
    by_cases h1 : plain < 1
    · rw [if_pos h1, if_pos h1, blocks_Load.j0, portmanteauref18_Load.j0, if_pos rfl, if_pos rfl]; exact ⟨rfl, rfl⟩
    · rw [if_neg h1, if_neg h1, decide_eq_true (by omega), blocks_Load.j0, portmanteauref18_Load.j0, if_pos rfl, if_pos rfl]; exact ⟨rfl, rfl⟩
  · have e1 : ∀ k, blocks_Load.f k l at_ word plain = blocks_Load.j0 k l at_ word plain false := fun k => by unfold blocks_Load.f; rw [if_neg (by omega), decide_eq_false (by omega)]
    have e2 : ∀ k, portmanteauref18_Load.f k l at_ word plain = portmanteauref18_Load.j0 k l at_ word plain false := fun k => by unfold portmanteauref18_Load.f; rw [if_neg (by omega), decide_eq_false (by omega)]
    by_cases h1 : word = 0
    · refine ⟨2, (List.replicate plain.toNat 0, 0), by simp; omega, fun k hk => ?_⟩
      obtain ⟨k, rfl⟩ : ∃ j, k = j + 1 := ⟨k - 1, by omega⟩
      rw [e1, e2, blocks_Load.j0, portmanteauref18_Load.j0, if_neg Bool.false_ne_true, if_neg Bool.false_ne_true, if_pos h1, if_pos (by omega), if_pos (by omega), if_pos h1]
      exact ⟨rfl, rfl⟩
    · obtain ⟨n, p, e, hp⟩ := refParts_total word
      have hp' : blocks_Parts.f word = some (n, p, e) := by rw [parts_eq word hw]; exact hp
      by_cases h2 : e = 0 ∧ (p = true ∨ n = plain)
      · obtain ⟨h3, h4⟩ := h2
        subst h3
        obtain ⟨K, r, hr, hK⟩ := load_tail l hl hl5 at_ plain n p (parts_ok hp) (bounds_i64 ha)
        refine ⟨K + 2, r, hr, fun k hk => ?_⟩
        obtain ⟨k, rfl⟩ : ∃ j, k = j + 1 := ⟨k - 1, by omega⟩
        rw [e1, e2, blocks_Load.j0, portmanteauref18_Load.j0, if_neg Bool.false_ne_true, if_neg Bool.false_ne_true, if_neg h1, if_neg h1, hp, hp', Option.bind_some, Option.bind_some, if_pos rfl, if_pos rfl]
        cases p with
        | true => rw [if_pos rfl, if_pos rfl]; exact hK k (by omega)
        | false =>
          rw [if_neg Bool.false_ne_true, if_neg Bool.false_ne_true]
          rcases h4 with h4 | h4
          · cases h4
          · rw [show (n != plain) = false by simp [h4]]; exact hK k (by omega)
      · refine ⟨4, ([], 1), by simp, fun k hk => ?_⟩
        obtain ⟨k, rfl⟩ : ∃ j, k = j + 2 := ⟨k - 2, by omega⟩
        rw [e1, e2, blocks_Load.j0, portmanteauref18_Load.j0, if_neg Bool.false_ne_true, if_neg Bool.false_ne_true, if_neg h1, if_neg h1, hp, hp', Option.bind_some, Option.bind_some]
        by_cases h3 : e = 0
        · have h4 : ¬ (p = true ∨ n = plain) := fun h => h2 ⟨h3, h⟩
          have hpf : p = false := by cases p with
            | true => exact absurd (.inl rfl) h4
            | false => rfl
          subst hpf
          have hne : (n != plain) = true := by simp; exact fun h => h4 (.inr h)
          rw [if_pos h3, if_pos h3, if_neg Bool.false_ne_true, if_neg Bool.false_ne_true, hne, blocks_Load.j1, portmanteauref18_Load.j1, if_pos rfl, if_pos rfl]
          exact ⟨rfl, rfl⟩
        · have hne : (e != 0) = true := by simpa using h3
          rw [if_neg h3, if_neg h3, hne, blocks_Load.j1, portmanteauref18_Load.j1, if_pos rfl, if_pos rfl]
          exact ⟨rfl, rfl⟩
end Go.Proofs.Ytdlfflgcmgkmeaa.Pure

/- Proved: a block is loaded as the document loads it, and the bytes stay. Conditions: those that the statement itself has. -/
namespace Go.Proofs.Ytdlfflgcmgkmeaa.Pure
open Go Go.RowKit Go.Proofs.Ytdlfflgcmgkmeaa.P Go.Proofs.YtdlfflgcmgkmeaaW.PrintWords Go.Proofs.YtdlfflgcmgkmeaaW.PrintLast
set_option linter.unusedVariables false
theorem loads_u8 {x : Int} (h : (Lit.int .u8 x).wf = true) : 0 ≤ x ∧ x ≤ 255 := by simpa [Lit.wf, IntKind.min, IntKind.max, IntKind.signed, IntKind.bits] using h
theorem loads_l0 (x0 : List Int) : ∀ (d k : Nat) (x8 : List Int) (i : Int), 0 ≤ i → i + d = (x8.length : Int) → x8.length ≤ 1100000 → 50 + d ≤ k → portmanteaulaw18_BlocksLoads.l0 k x0 x0 x8 i = some true
  | 0, k, x8, i, h0, h1, h2, hk => by
    obtain ⟨k, rfl⟩ : ∃ k', k = k' + 1 := ⟨k - 1, by omega⟩
    rw [portmanteaulaw18_BlocksLoads.l0, if_neg (by omega), if_pos rfl, live18_at k (by omega)]; rfl
  | d + 1, k, x8, i, h0, h1, h2, hk => by
    obtain ⟨k, rfl⟩ : ∃ k', k = k' + 1 := ⟨k - 1, by omega⟩
    rw [portmanteaulaw18_BlocksLoads.l0, if_pos (by omega), if_pos h0, w64 (by omega)]
    exact loads_l0 x0 d k _ _ (by omega) (by rw [List.length_set]; omega) (by rw [List.length_set]; omega) (by omega)
theorem BlocksLoads : portmanteaulaw18_BlocksLoads.Pure := by
  intro l0 a1 a2 a3 h1 h2 h3 h4 h5 h6
  by_cases hc : (l0.length : Int) > 20000 ∨ (a3 > 20000 ∧ a3 ≤ 1048576)
  · refine ⟨60, ?_⟩
    have hj : portmanteaulaw18_BlocksLoads.j0 60 l0 a1 a2 a3 true = some true := by
      rw [show (60 : Nat) = 59 + 1 from rfl, portmanteaulaw18_BlocksLoads.j0, if_pos rfl, live18_at 59 (by omega)]; rfl
    rw [portmanteaulaw18_BlocksLoads.f]
    by_cases c1 : (l0.length : Int) > 20000
    · rw [if_pos c1, hj]
    · rw [if_neg c1, if_pos (by omega), decide_eq_true (by omega), hj]
  · have hB : Bytes l0 := ⟨by omega, fun x hx => loads_u8 (h3 x hx)⟩
    obtain ⟨K, r, hr, hK⟩ := load_eq l0 hB (by omega) a1 a2 a3 h4 h5
    refine ⟨K + r.1.length + 62, ?_⟩
    have hf : portmanteaulaw18_BlocksLoads.f (K + r.1.length + 62) l0 a1 a2 a3 = portmanteaulaw18_BlocksLoads.j0 (K + r.1.length + 62) l0 a1 a2 a3 false := by
      rw [portmanteaulaw18_BlocksLoads.f, if_neg (by omega)]
      by_cases c2 : a3 > 20000
      · rw [if_pos c2, decide_eq_false (by omega)]
      · rw [if_neg c2]
    obtain ⟨e1, e2⟩ := hK (K + r.1.length + 61) (by omega)
    rw [hf, show K + r.1.length + 62 = (K + r.1.length + 61) + 1 by omega, portmanteaulaw18_BlocksLoads.j0, if_neg Bool.false_ne_true, Option.bind_some, if_pos (by simp only [List.length_nil]; omega), Option.bind_some, List.nil_append, e1, Option.bind_some, e2, Option.bind_some, if_pos rfl, portmanteaulaw18_num.f, Option.bind_some]
    rw [show K + r.1.length + 61 = (K + r.1.length + 60) + 1 by omega, portmanteaulaw18_BlocksLoads.j1, if_neg (by simp)]
    exact loads_l0 l0 r.1.length _ _ _ (by omega) (by omega) hr (by omega)
end Go.Proofs.Ytdlfflgcmgkmeaa.Pure

-- Written by a program of this session's own (wip/tools), over the translation. Not trusted: Lean checks it.
namespace Go.Proofs.Ytdlfflgcmgkmeaa.blocksLoads
open Go.ChangeShapes Go.WideShapes Go.ChangeAt Go.RowKit
open Go.Proofs.YtdlfflgcmgkmeaaW
open Go.ChangeMaps (open_string shut_string)
set_option linter.unusedVariables false
theorem own : ownKnob Try.prog.godebug = none := by kernel_rfl
theorem laidOut : laidOutB Try.prog = true := by kernel_rfl
def IsRow (k : IntKind) (w : World) (a : Option Addr) (len cap : Nat) (zs : List Int) : Prop :=
  (a = none ∧ len = 0 ∧ cap = 0 ∧ zs = []) ∨
  ∃ x, a = some x ∧ len ≤ cap ∧ cap ≤ maxLen ∧ zs.length = cap ∧ (∀ i, i < zs.length → w.cell? (x.add i) = some (.int k (zs.getD i 0))) ∧ ∀ n ∈ zs, (Lit.int k n).wf = true
set_option maxRecDepth 100000 in
theorem lifted (os : Os) (started : os.Started) (H : Type) (enc : TypeId × Value → H) :
    ReturnsInHanded {} Try.checked os 13 .any (Rows.blocksLoadsSpec.pre6 enc Try.prog Try.f13 Rows.blocksLoadsRow.domain false) (Rows.blocksLoadsSpec.post enc Try.prog Try.f13 false true false false) := by
  refine returnsInHanded_of_change_sized (C := Try.checked) own started (by kernel_rfl) Try.func13
    (ChangeSpec.witness6 (enc := enc) (C := Try.checked) false ⟨#[], #[.slice none 0 0, .int .i64 0, .int .i64 0, .int .i64 0], []⟩ 8 (by kernel_rfl) (by kernel_rfl) (by kernel_rfl) (by kernel_rfl)) ?_
  intro W base args ds gs before hval0 hW hcnd hsz0 _
  have hsz : (DataW.weightsEach Try.prog (Try.f13.params.toList ++ Rows.blocksLoadsSpec.plain.varTypes Try.prog) (ds ++ gs)).all (· ≤ reachBytes) = true := hsz0
  have hval : ∀ (j : Nat) t v, Try.f13.params[j]? = some t → args[j]? = some v → Value.okWide Try.prog W .any base t v := hval0
  have hW' := hW
  obtain ⟨p, q, hA0, hV, rfl, hfz, hnd⟩ := hW
  have hA : DataW.TrodAll enc Try.prog W 0 (fun _ => true) true Try.f13.params.toList args.toList ds p := hA0
  rw [Try.params13] at hA hval hsz
  obtain ⟨v0, vs0, d0, ds0, p0, q0, hargs, rfl, rfl, h0, r0⟩ := trodAll_cons hA
  obtain ⟨v1, vs1, d1, ds1, p1, q1, rfl, rfl, rfl, h1, r1⟩ := trodAll_cons r0
  obtain ⟨v2, vs2, d2, ds2, p2, q2, rfl, rfl, rfl, h2, r2⟩ := trodAll_cons r1
  obtain ⟨v3, vs3, d3, ds3, p3, q3, rfl, rfl, rfl, h3, r3⟩ := trodAll_cons r2
  obtain ⟨rfl, rfl, rfl⟩ := trodAll_nil r3
  obtain rfl : args = #[v0, v1, v2, v3] := by cases args; simp_all
  obtain ⟨rfl, rfl⟩ := trodVars_none hV
  obtain ⟨a0, len0, cap0, rfl⟩ := okWide_slice Try.underlying22 (hval 0 22 v0 rfl rfl)
  have k0 := h0
  have lt0 : ∀ x ∈ p0, x.block < W.heap.size := by obtain ⟨m, hm⟩ := k0; exact DataW.trod_lt m _ _ _ hm
  obtain ⟨z0, w0⟩ : ∃ zs, IsRow .u8 W a0 len0 cap0 zs := by
    obtain ⟨fuel, hf⟩ := h0
    rcases open_ints Try.underlying22 Try.underlying5 (by kernel_rfl) hf with ⟨hcs, _⟩ | ⟨x, l, c, zs, hcs, _, hl, hm, hz, _, hcell, hwz⟩
    · simp [Value.cells] at hcs
      obtain ⟨rfl, rfl, rfl⟩ := hcs
      exact ⟨[], .inl ⟨rfl, rfl, rfl, rfl⟩⟩
    · simp [Value.cells] at hcs
      obtain ⟨rfl, rfl, rfl⟩ := hcs
      exact ⟨zs, .inr ⟨_, rfl, hl, hm, by simpa using hz, hcell, hwz⟩⟩
  have y0 : len0 * 1 ≤ 140737488351232 := PrintWords.sized_ints hsz (j := 0) (t := 22) rfl rfl Try.underlying22 Try.underlying5 (by kernel_rfl) (by kernel_rfl) h0
  obtain ⟨a1, rfl, rfl, rfl, w1⟩ := open_int Try.underlying3 (hval 1 3 v1 rfl rfl) h1
  obtain ⟨a2, rfl, rfl, rfl, w2⟩ := open_int Try.underlying3 (hval 2 3 v2 rfl rfl) h2
  obtain ⟨a3, rfl, rfl, rfl, w3⟩ := open_int Try.underlying3 (hval 3 3 v3 rfl rfl) h3
  clear hA0 hval0 hsz0 hsz
  refine (P.portmanteaulaw18_BlocksLoads.walk Pure.BlocksLoads a0 len0 cap0 z0 a1 a2 a3 W w0 y0 w1 w2 w3).mono fun e W' ⟨he, bel⟩ => ?_
  subst he
  exact ⟨_, rfl, _, _, _, [], _, [], hW', trodAll_mk1 (shut_bool Try.underlying4 _), (trodAll_cons_mk (Below.trod laidOut (by kernel_rfl) (of_decide_eq_true (by kernel_rfl)) k0 bel lt0) (trodAll_cons_mk (shut_int Try.underlying3 w1) (trodAll_cons_mk (shut_int Try.underlying3 w2) (trodAll_cons_mk (shut_int Try.underlying3 w3) trodAll_mk0)))), rfl, bel.frame _, fun h => by cases h⟩
set_option maxRecDepth 100000 in
theorem ownFacts : joinedFacts Try.prog 13 Try.f13 Rows.blocksLoadsSpec Rows.blocksLoadsRow = true :=
  Closing.closed rfl rfl (by kernel_rfl) (by kernel_rfl) (by kernel_rfl) (by kernel_rfl) (by kernel_rfl) (by kernel_rfl) (by kernel_rfl) (by kernel_rfl) (by kernel_rfl) (by kernel_rfl) (by kernel_rfl) (by kernel_rfl) (by kernel_rfl) (by kernel_rfl) (by kernel_rfl) (by kernel_rfl) (by kernel_rfl) (by kernel_rfl) (by kernel_rfl) (by kernel_rfl) (by kernel_rfl) (by kernel_rfl) (by kernel_rfl) (by kernel_rfl)
theorem over : Rows.blocksLoadsRow.holds Try.pinned (OpenSpec.ofChange Rows.blocksLoadsSpec) :=
  OpenClaim.holds_of_wide 13 Try.f13 rfl rfl rfl rfl rfl rfl rfl ⟨rfl, rfl, rfl, rfl, rfl⟩ rfl rfl rfl rfl rfl (by kernel_rfl) Try.func13 ownFacts
    (of_decide_eq_true (by kernel_rfl)) (by unfold Func.isWrapper; first | (rw [if_pos (by decide +kernel)]; kernel_rfl) | (rw [if_neg (by decide +kernel)]; exact ⟨rfl, rfl⟩))
    (fun os started H enc _ => lifted os started H enc)
theorem proved : Rows.BlocksLoadsSaid := over
#print axioms proved
end Go.Proofs.Ytdlfflgcmgkmeaa.blocksLoads
namespace Go.Proofs.Ytdlfflgcmgkmeaa
/-- The row, under a short name, for the claim. -/
theorem blocksLoads_holds : Rows.BlocksLoadsSaid := blocksLoads.proved
end Go.Proofs.Ytdlfflgcmgkmeaa
