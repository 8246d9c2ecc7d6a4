/- Proved: BlocksLoads, part 2 of 5: Blocks.Load answers as ref05 says. Conditions: those that the statement itself has. -/
import Derived.Test.YtdlfflgcmgkmeaaKBlocksLoads1
-- Written by a program of this session's own (wip/tools), over the translation. Not trusted: Lean checks it.
namespace Go.Proofs.Ytdlfflgcmgkmeaa.P
open Go.RowKit Go.Proofs.YtdlfflgcmgkmeaaW.PrintWords Go.Proofs.YtdlfflgcmgkmeaaW.PrintLast Go.Proofs.YtdlfflgcmgkmeaaW.PrintMore
attribute [local go_sem] max2_int min2_int max_two min_two max_three min_three max_four min_four   -- for this text's walks alone
set_option linter.unusedVariables false
set_option linter.unusedSimpArgs false

/-! ### field_fits: function 101 -/
def field_fits.f (a0 : Int) (a1 : Int) : Option (Bool) := if a1 = 8 then (some true) else (if 0 ≤ (wrap64 (8 * a1)) then (some ((shr .u64 a0 (wrap64 (8 * a1))) == 0)) else (none))
set_option maxHeartbeats 8000000 in
set_option maxRecDepth 100000 in
theorem field_fits.calls (a0 : Int) (a1 : Int) (r : Bool) (w : World) (h : field_fits.f a0 a1 = some r) :
    Calls Try.prog 101 #[.int .u64 a0, .int .i64 a1] w fun e w' => e = .returned (.bool r) ∧ Drawn0 w w' := by
  have H : (if a1 = 8 then (some true) else (if 0 ≤ (wrap64 (8 * a1)) then (some ((shr .u64 a0 (wrap64 (8 * a1))) == 0)) else (none))) = some r := h
  clear h
  by_cases c3 : a1 = 8
  · rw [if_pos c3] at H
    have c3b0 : (a1 == 8) = true := beq_iff_eq.mpr c3
    have c3b1 : (a1 != 8) = false := bne_eq_false_iff_eq.mpr c3
    clear c3
    obtain rfl := Option.some.inj H
    go_enter Try.func101, Try.ntmps101
    go_wp2
    go_ret
    exact ⟨by first | rfl | (simp; done) | (simp [*]; done), by repeat (first | exact Drawn0.refl _ | apply Drawn0.step)⟩
  · rw [if_neg c3] at H
    have c3b0 : (a1 == 8) = false := beq_eq_false_iff_ne.mpr c3
    have c3b1 : (a1 != 8) = true := bne_iff_ne.mpr c3
    obtain ⟨ji4, hji4⟩ : ∃ j_ : Int, (wrap64 (8 * a1)) = j_ := ⟨_, rfl⟩
    replace H : (if 0 ≤ (ji4) then (some ((shr .u64 a0 (ji4)) == 0)) else (none)) = some r := by first | (rw [hji4] at H; exact H) | (simp only [hji4] at H ⊢; exact H)
    have hji4w : (IntKind.i64.wrap (8 * a1)) = ji4 := (i64_w _).trans hji4
    by_cases c5 : 0 ≤ (ji4)
    · rw [if_pos c5] at H
      have c5b0 := eq_true c5
      have c5b1 : decide (0 ≤ (ji4)) = true := decide_eq_true c5
      clear c5
      obtain ⟨ji6, hji6⟩ : ∃ j_ : Int, (shr .u64 a0 (ji4)) = j_ := ⟨_, rfl⟩
      replace H : (some ((ji6) == 0)) = some r := by first | (rw [hji6] at H; exact H) | (simp only [hji6] at H ⊢; exact H)
      have hji6_ : (a0 / 2 ^ min (ji4).toNat 64) = ji6 := hji6
      have hji6z : (ji4) ≤ 64 → (a0 / 2 ^ (ji4).toNat) = ji6 := shr_small hji6
      obtain rfl := Option.some.inj H
      go_enter Try.func101, Try.ntmps101
      go_wp2
      go_ret
      exact ⟨by first | rfl | (simp; done) | (simp only [← hji4, ← hji6] <;> (first | rfl | simp)) | (simp [*]; done), by repeat (first | exact Drawn0.refl _ | apply Drawn0.step)⟩
    · rw [if_neg c5] at H
      exact absurd H (by simp)

end Go.Proofs.Ytdlfflgcmgkmeaa.P

-- Written by a program of this session's own (wip/tools), over the translation. Not trusted: Lean checks it.
namespace Go.Proofs.Ytdlfflgcmgkmeaa.P
open Go.RowKit Go.Proofs.YtdlfflgcmgkmeaaW.PrintWords Go.Proofs.YtdlfflgcmgkmeaaW.PrintLast Go.Proofs.YtdlfflgcmgkmeaaW.PrintMore
attribute [local go_sem] max2_int min2_int max_two min_two max_three min_three max_four min_four   -- for this text's walks alone
set_option linter.unusedVariables false
set_option linter.unusedSimpArgs false

/-! ### field_store: function 102 -/
def field_store.l0 : Nat → List Int → Int → Int → Int → Option (List Int)
  | 0, _, _, _, _ => none
  | k + 1, x0, x1, x8, x9 => if x9 < x8 then (if 0 ≤ (wrap64 (8 * x9)) then (if x0.length < 140737488355328 then (field_store.l0 k (x0 ++ [(shr .u64 x1 (wrap64 (8 * x9))) % 256]) x1 x8 (wrap64 (x9 + 1))) else (none)) else (none)) else (some x0)
def field_store.f (k : Nat) (l0 : List Int) (a1 : Int) (a2 : Int) : Option (List Int) := field_store.l0 k l0 a1 a2 0
theorem field_store.mono_l : ∀ k, (∀ y0 y1 y2 y3, LeO (field_store.l0 k y0 y1 y2 y3) (field_store.l0 (k + 1) y0 y1 y2 y3))
  | 0 => fun _ _ _ _ r h => by simp [field_store.l0] at h
  | k + 1 => by
    have ih0 := field_store.mono_l k
    · intro y0 y1 y2 y3
      unfold field_store.l0
      repeat' first
      | (with_reducible exact ih0 _ _ _ _)
      | (with_reducible exact LeO.refl _)
      | (with_reducible exact LeO.none _)
      | (with_reducible refine LeO.ite ?_ ?_)
      | (with_reducible refine LeO.bind ?_ (fun _ => ?_))
      | exact ih0 _ _ _ _
      | exact LeO.none _
      | refine LeO.ite ?_ ?_
      | refine LeO.bind ?_ (fun _ => ?_)
theorem field_store.mono : ∀ a0 a1 a2 k, LeO (field_store.f k a0 a1 a2) (field_store.f (k + 1) a0 a1 a2) := by
  intro a0 a1 a2 k
  have ih0 := field_store.mono_l k
  unfold field_store.f
  repeat' first
      | (with_reducible exact ih0 _ _ _ _)
      | (with_reducible exact LeO.refl _)
      | (with_reducible exact LeO.none _)
      | (with_reducible refine LeO.ite ?_ ?_)
      | (with_reducible refine LeO.bind ?_ (fun _ => ?_))
      | exact ih0 _ _ _ _
      | exact LeO.none _
      | refine LeO.ite ?_ ?_
      | refine LeO.bind ?_ (fun _ => ?_)
set_option maxHeartbeats 8000000 in
set_option maxRecDepth 100000 in
theorem field_store.calls (k : Nat) (P0_ : Nat → Prop) (u9000_ : Value) (l0 : List Int) (a1 : Int) (a2 : Int) (r : List Int) (w0 w : World) (hB : Below w0.heap.size w0 w) (ho0 : Kd.R (Kd.int .u8) 5 w w0.heap.size P0_ u9000_ l0) (h : field_store.f k l0 a1 a2 = some r) :
    Calls Try.prog 102 #[u9000_, .int .u64 a1, .int .i64 a2] w fun e w' => ∃ v0_ : Value, e = .returned (v0_) ∧ Kd.R (Kd.int .u8) 5 w' w0.heap.size (fun k_ => (P0_ k_ ∨ w.heap.size ≤ k_)) v0_ r ∧ Below w0.heap.size w0 w' ∧ Kept w w' (fun k_ => P0_ k_) := by
  have HO0 := Aside0.mk (show Kd.R (Kd.int .u8) 5 w w0.heap.size (fun k_ => (P0_ k_ ∨ w.heap.size ≤ k_)) u9000_ l0 from Kd.R_mono ho0 (fun k_ hk => (.inl hk)))
  have HK := Aside0.mk (Kept.refl w (fun k_ => P0_ k_))
  have HW0 := Aside0.mk hB.size
  have HB := Aside0.mk hB
  clear hB
  have H : (field_store.l0 k l0 a1 a2 0) = some r := h
  clear h
  have H' := Aside0.mk H
  clear H
  go_enter Try.func102, Try.ntmps102
  go_wp2
  go_loopg [0, 9] k (fun kq v0 v9 w' => ∃ (x0_1 : List Int) (x9_1 : Int), v9 = .int .i64 x9_1 ∧ Aside0 (field_store.l0 kq x0_1 a1 a2 x9_1 = some r) ∧ Aside0 (kq ≤ k) ∧ Aside0 (Kd.R (Kd.int .u8) 5 w' w0.heap.size (fun k_ => (P0_ k_ ∨ w.heap.size ≤ k_)) v0 x0_1) ∧ Aside0 (Kept w w' (fun k_ => P0_ k_)) ∧ Aside0 (Below w0.heap.size w0 w'))
  case atStart => exact ⟨(l0), (0), (by first | rfl | (simp; done) | (simp [*]; done)), H', ⟨Nat.le_refl _⟩, ⟨by (with_reducible repeat (first | apply Kd.R_alloc | apply Kd.R_drewN | apply Kd.R_drew)); exact HO0.out⟩, ⟨by repeat (first | (with_reducible first | exact HK.out | apply Kept.alloc | apply Kept.drewN | apply Kept.drew) | exact HK.out)⟩, ⟨by repeat (first | (with_reducible first | exact HB.out | apply below_alloc | apply pw_below_drewN | apply below_drew1) | exact HB.out)⟩⟩
  case round =>
    clear H'
    try clear c1
    try clear p2
    obtain ⟨x0_1, x9_1, rfl, HA, HK1, HO_0, HK, HB⟩ := hrel
    cases gk with
    | zero => exact absurd HA.out (by simp [field_store.l0])
    | succ k1 =>
      have H := HA.out
      clear HA
      simp only [field_store.l0] at H
      by_cases c4 : x9_1 < a2
      · rw [if_pos c4] at H
        have c4b0 : decide (x9_1 < a2) = true := decide_eq_true c4
        clear c4
        obtain ⟨ji5, hji5⟩ : ∃ j_ : Int, (wrap64 (8 * x9_1)) = j_ := ⟨_, rfl⟩
        replace H : (if 0 ≤ (ji5) then (if x0_1.length < 140737488355328 then (field_store.l0 k1 (x0_1 ++ [(shr .u64 a1 (ji5)) % 256]) a1 a2 (wrap64 (x9_1 + 1))) else (none)) else (none)) = some r := by first | (rw [hji5] at H; exact H) | (simp only [hji5] at H ⊢; exact H)
        have hji5w : (IntKind.i64.wrap (8 * x9_1)) = ji5 := (i64_w _).trans hji5
        by_cases c6 : 0 ≤ (ji5)
        · rw [if_pos c6] at H
          have c6b0 := eq_true c6
          have c6b1 : decide (0 ≤ (ji5)) = true := decide_eq_true c6
          clear c6
          obtain ⟨ji7, hji7⟩ : ∃ j_ : Int, (shr .u64 a1 (ji5)) = j_ := ⟨_, rfl⟩
          replace H : (if x0_1.length < 140737488355328 then (field_store.l0 k1 (x0_1 ++ [(ji7) % 256]) a1 a2 (wrap64 (x9_1 + 1))) else (none)) = some r := by first | (rw [hji7] at H; exact H) | (simp only [hji7] at H ⊢; exact H)
          have hji7_ : (a1 / 2 ^ min (ji5).toNat 64) = ji7 := hji7
          have hji7z : (ji5) ≤ 64 → (a1 / 2 ^ (ji5).toNat) = ji7 := shr_small hji7
          by_cases c8 : x0_1.length < 140737488355328
          · rw [if_pos c8] at H
            have LMc8 := Aside0.mk c8
            clear c8
            obtain ⟨y103001, hy103001⟩ : ∃ y_ : List Int, y_ = (x0_1 ++ [(ji7) % 256]) := ⟨_, rfl⟩
            replace H : (field_store.l0 k1 y103001 a1 a2 (wrap64 (x9_1 + 1))) = some r := by first | (rw [hy103001]; with_reducible exact H) | (have H2_ := (Option.bind_some _ _).symm.trans H; rw [hy103001]; with_reducible exact H2_) | (have H2_ := (Option.bind_some _ _).symm.trans H; with_reducible exact H2_) | with_reducible exact H | (rw [hy103001]; exact H) | exact H
            have Ny103001 := Aside0.mk hy103001
            clear hy103001
            have H' := Aside0.mk H
            clear H
            go_wp2_with (first | ((with_reducible refine gate_builtin (b := .append) (xs := #[.tmp 12, .tmp 18]) rfl ?_); at_builtin; refine Kd.R_append (Kd.int .u8) (w0 := w0) w0.heap.size rfl (.tmp 12) (.tmp 18) 22 5 (.int .u8 0) 1 rfl Try.underlying22 info5 rfl (by decide) (by omega) u0 x0_1 ((ji7) % 256) [.int .u8 ((ji7) % 256)] (fun k_ => (P0_ k_ ∨ w.heap.size ≤ k_)) (fun _ => False) rfl rfl ?aP (fun _ hk => hk.elim) ?aF ?aO ?aB ?aS ?aL ?_; (case aP => exact rfl); (case aB => exact (by repeat (first | (with_reducible first | exact HB.out | apply below_alloc | apply pw_below_drewN | apply below_drew1) | exact HB.out))); (case aF => exact (fun k_ hk => (.inr (Nat.le_trans (by first | exact HK.out.1 | exact (show Kept w _ (fun k_ => P0_ k_) from by repeat (first | (with_reducible first | exact HK.out | apply Kept.alloc | apply Kept.drewN | apply Kept.drew) | exact HK.out)).1) hk)))); (case aO => exact (by (with_reducible repeat (first | apply Kd.R_alloc | apply Kd.R_drewN | apply Kd.R_drew)); exact HO_0.out)); (case aS => exact (below_size (by repeat (first | (with_reducible first | exact HB.out | apply below_alloc | apply pw_below_drewN | apply below_drew1) | exact HB.out)))); (case aL => have := LMc8.out; omega); intro v103002 w9 ho hb hg hat; rw [← Ny103001.out] at ho; have n0_ := Aside0.mk (hb); have n1_ := Aside0.mk (Kept.of_grown (S := (fun k_ => P0_ k_)) hg (by repeat (first | (with_reducible first | exact HK.out | apply Kept.alloc | apply Kept.drewN | apply Kept.drew) | exact HK.out)) (fun k_ e_ => (HO_0.out.1 k_ e_))); have n2_ := Aside0.mk (ho); clear HB; clear HK; clear HO_0; have HB := n0_; have HK := n1_; have HO103003 := n2_; clear n0_ n1_ n2_; clear ho hb hg hat))
            go_roundg k1
            case measure => have := HK1.out; omega
            case rel => exact ⟨(y103001), (wrap64 (x9_1 + 1)), (by first | rfl | (simp; done) | (simp [*]; done)), H', ⟨by have := HK1.out; omega⟩, ⟨by (with_reducible repeat (first | apply Kd.R_alloc | apply Kd.R_drewN | apply Kd.R_drew)); exact HO103003.out⟩, ⟨by repeat (first | (with_reducible first | exact HK.out | apply Kept.alloc | apply Kept.drewN | apply Kept.drew) | exact HK.out)⟩, ⟨by repeat (first | (with_reducible first | exact HB.out | apply below_alloc | apply pw_below_drewN | apply below_drew1) | exact HB.out)⟩⟩
          · rw [if_neg c8] at H
            exact absurd H (by simp)
        · rw [if_neg c6] at H
          exact absurd H (by simp)
      · rw [if_neg c4] at H
        have c4b0 : decide (x9_1 < a2) = false := decide_eq_false c4
        clear c4
        obtain rfl := Option.some.inj H
        go_wp2
        go_ret
        exact ⟨_, by first | rfl | (simp [errW_none, errW_some] <;> rfl) | (simp [*, errW_none, errW_some] <;> rfl), by (with_reducible repeat (first | apply Kd.R_alloc | apply Kd.R_drewN | apply Kd.R_drew)); exact HO_0.out, by repeat (first | (with_reducible first | exact HB.out | apply below_alloc | apply pw_below_drewN | apply below_drew1) | exact HB.out), by repeat (first | (with_reducible first | exact HK.out | apply Kept.alloc | apply Kept.drewN | apply Kept.drew) | exact HK.out)⟩

end Go.Proofs.Ytdlfflgcmgkmeaa.P

-- Written by a program of this session's own (wip/tools), over the translation. Not trusted: Lean checks it.
namespace Go.Proofs.Ytdlfflgcmgkmeaa.P
open Go.RowKit Go.Proofs.YtdlfflgcmgkmeaaW.PrintWords Go.Proofs.YtdlfflgcmgkmeaaW.PrintLast Go.Proofs.YtdlfflgcmgkmeaaW.PrintMore
attribute [local go_sem] max2_int min2_int max_two min_two max_three min_three max_four min_four   -- for this text's walks alone
set_option linter.unusedVariables false
set_option linter.unusedSimpArgs false

/-! ### field_copied: function 103 -/
def field_copied.f (l0 : List Int) : Option (List Int) := (some (([] : List Int) : List Int)).bind fun y104001 => (if y104001.length + l0.length < 140737488355328 then (some (y104001 ++ l0)) else (none))
set_option maxHeartbeats 8000000 in
set_option maxRecDepth 100000 in
theorem field_copied.calls (A0 : Option Addr) (c0 : Nat) (l0 : List Int) (r : List Int) (w : World) (hr0 : Kd.C (Kd.int .u8) w A0 l0.length l0) (hc0 : l0.length ≤ c0) (h : field_copied.f l0 = some r) :
    Calls Try.prog 103 #[.slice A0 l0.length c0] w fun e w' => ∃ v0_ : Value, e = .returned (v0_) ∧ Kd.R (Kd.int .u8) 5 w' w.heap.size (fun _ => True) v0_ r ∧ Below w.heap.size w w' := by
  have HR0 := Aside0.mk hr0
  have HC0 := Aside0.mk hc0
  clear hr0 hc0
  have HB := Aside0.mk (Below.refl w.heap.size w)
  have H : ((some (([] : List Int) : List Int)).bind fun y104001 => (if y104001.length + l0.length < 140737488355328 then (some (y104001 ++ l0)) else (none))) = some r := h
  clear h
  obtain ⟨y104001, hy104001⟩ : ∃ y_ : List Int, y_ = (([] : List Int)) := ⟨_, rfl⟩
  replace H : (if y104001.length + l0.length < 140737488355328 then (some (y104001 ++ l0)) else (none)) = some r := by first | (rw [hy104001]; with_reducible exact H) | (have H2_ := (Option.bind_some _ _).symm.trans H; rw [hy104001]; with_reducible exact H2_) | (have H2_ := (Option.bind_some _ _).symm.trans H; with_reducible exact H2_) | with_reducible exact H | (rw [hy104001]; exact H) | exact H
  have Ny104001 := Aside0.mk hy104001
  clear hy104001
  by_cases c2 : y104001.length + l0.length < 140737488355328
  · rw [if_pos c2] at H
    have LMc2 := Aside0.mk c2
    clear c2
    obtain ⟨y104004, hy104004⟩ : ∃ y_ : List Int, y_ = (y104001 ++ l0) := ⟨_, rfl⟩
    replace H : (some y104004) = some r := by first | (rw [hy104004]; with_reducible exact H) | (have H2_ := (Option.bind_some _ _).symm.trans H; rw [hy104004]; with_reducible exact H2_) | (have H2_ := (Option.bind_some _ _).symm.trans H; with_reducible exact H2_) | with_reducible exact H | (rw [hy104004]; exact H) | exact H
    have Ny104004 := Aside0.mk hy104004
    clear hy104004
    obtain rfl := Option.some.inj H
    go_enter Try.func103, Try.ntmps103
    go_wp2_with (first | ((with_reducible refine gate_dst (N := 3) rfl ?_); refine Kd.R_lit (Kd.int .u8) _ 5 ?hg (N := 3) ?hd (xs := ([] : List Int)) (inner := []) (ok := fun _ => True) (okp := fun _ => True) ?hr ?hp (fun _ hk => hk) trivial (Below.refl _ _) (Nat.le_refl _) (by simp) ?_; (case hd => rfl); (case hg => rfl); (case hr => first | (go_simp; done) | (go_simp; rfl)); (case hp => exact (Reps.none _ _)); intro v104002 w3 ho4 hb hg_ hnew_; clear hg_ hnew_; (first | rw [← Ny104001.out] at ho4 | (simp only [Int.reduceToNat] at ho4; rw [← Ny104001.out] at ho4)); have n0_ := Aside0.mk (Kd.R_lower ho4 (below_size (by repeat (first | (with_reducible first | exact HB.out | apply below_alloc | apply pw_below_drewN | apply below_drew1) | exact HB.out)))); have n1_ := Aside0.mk (below_step (by repeat (first | (with_reducible first | exact HB.out | apply below_alloc | apply pw_below_drewN | apply below_drew1) | exact HB.out)) hb); clear HB; have HO104003 := n0_; have HB := n1_; clear n0_ n1_; clear hb ho4) | ((with_reducible refine gate_builtin (b := .append) (xs := #[.tmp 3, .tmp 4]) rfl ?_); at_builtin; refine Kd.R_append_rows (Kd.int .u8) (w0 := w) w.heap.size rfl (.tmp 3) (.tmp 4) 22 5 (.int .u8 0) 1 rfl Try.underlying22 info5 rfl (by decide) (by omega) v104002 y104001 l0 _ _ _ (fun _ => True) (fun _ => False) rfl rfl ?aO ?aR (fun _ _ h => h) (fun _ h => h.elim) ?aF ?aB ?aS ?aL ?_; (case aR => repeat (first | exact (Kd.C_below HR0.out HB.out) | (with_reducible refine Kd.C_alloc ?_ _) | (with_reducible refine Kd.C_drewN ?_ _) | (with_reducible refine Kd.C_drew ?_))); (case aB => exact (by repeat (first | (with_reducible first | exact HB.out | apply below_alloc | apply pw_below_drewN | apply below_drew1) | exact HB.out))); (case aF => exact (fun _ _ => trivial)); (case aO => exact (by (with_reducible repeat (first | apply Kd.R_alloc | apply Kd.R_drewN | apply Kd.R_drew)); exact HO104003.out)); (case aS => exact (below_size (by repeat (first | (with_reducible first | exact HB.out | apply below_alloc | apply pw_below_drewN | apply below_drew1) | exact HB.out)))); (case aL => have := LMc2.out; omega); intro v104005 w5 ho hb hg hat; rw [← Ny104004.out] at ho; have n0_ := Aside0.mk (hb); have n1_ := Aside0.mk (ho); clear HB; clear HO104003; have HB := n0_; have HO104006 := n1_; clear n0_ n1_; clear ho hb hg hat))
    go_ret
    exact ⟨_, by first | rfl | (simp [errW_none, errW_some] <;> rfl) | (simp [*, errW_none, errW_some] <;> rfl), by (with_reducible repeat (first | apply Kd.R_alloc | apply Kd.R_drewN | apply Kd.R_drew)); exact HO104006.out, by repeat (first | (with_reducible first | exact HB.out | apply below_alloc | apply pw_below_drewN | apply below_drew1) | exact HB.out)⟩
  · rw [if_neg c2] at H
    exact absurd H (by simp)

end Go.Proofs.Ytdlfflgcmgkmeaa.P

-- Written by a program of this session's own (wip/tools), over the translation. Not trusted: Lean checks it.
namespace Go.Proofs.Ytdlfflgcmgkmeaa.P
open Go.RowKit Go.Proofs.YtdlfflgcmgkmeaaW.PrintWords Go.Proofs.YtdlfflgcmgkmeaaW.PrintLast Go.Proofs.YtdlfflgcmgkmeaaW.PrintMore
attribute [local go_sem] max2_int min2_int max_two min_two max_three min_three max_four min_four   -- for this text's walks alone
set_option linter.unusedVariables false
set_option linter.unusedSimpArgs false

/-! ### field_Put: function 79 -/
def field_Put.f (k : Nat) (l0 : List Int) (a1 : Int) (a2 : Int) : Option (List Int × Int) := (field_wide.f k a2).bind fun t80001 => (if t80001 = true then ((field_fits.f a1 a2).bind fun t80002 => (if t80002 = true then ((field_copied.f l0).bind fun t80003 => ((field_store.f k t80003 a1 a2).bind fun t80006 => (some (t80006, 0)))) else (some (([] : List Int), 9)))) else (some (([] : List Int), 1)))
theorem field_Put.mono : ∀ a0 a1 a2 k, LeO (field_Put.f k a0 a1 a2) (field_Put.f (k + 1) a0 a1 a2) := by
  intro a0 a1 a2 k
  unfold field_Put.f
  repeat' first
      | (with_reducible exact field_store.mono _ _ _ _)
      | (with_reducible exact field_wide.mono _ _)
      | (with_reducible exact LeO.refl _)
      | (with_reducible exact LeO.none _)
      | (with_reducible refine LeO.ite ?_ ?_)
      | (with_reducible refine LeO.bind ?_ (fun _ => ?_))
      | exact field_store.mono _ _ _ _
      | exact field_wide.mono _ _
      | exact LeO.none _
      | refine LeO.ite ?_ ?_
      | refine LeO.bind ?_ (fun _ => ?_)
set_option maxHeartbeats 8000000 in
set_option maxRecDepth 100000 in
theorem field_Put.calls (k : Nat) (A0 : Option Addr) (c0 : Nat) (l0 : List Int) (a1 : Int) (a2 : Int) (r1 : List Int) (r2 : Int) (w : World) (hr0 : Kd.C (Kd.int .u8) w A0 l0.length l0) (hc0 : l0.length ≤ c0) (h : field_Put.f k l0 a1 a2 = some (r1, r2)) :
    Calls Try.prog 79 #[.slice A0 l0.length c0, .int .u64 a1, .int .i64 a2] w fun e w' => ∃ v0_ : Value, e = .returned (.tuple #[v0_, .int .i64 r2]) ∧ Kd.R (Kd.int .u8) 5 w' w.heap.size (fun _ => True) v0_ r1 ∧ Below w.heap.size w w' := by
  have HR0 := Aside0.mk hr0
  have HC0 := Aside0.mk hc0
  clear hr0 hc0
  have HB := Aside0.mk (Below.refl w.heap.size w)
  have H : ((field_wide.f k a2).bind fun t80001 => (if t80001 = true then ((field_fits.f a1 a2).bind fun t80002 => (if t80002 = true then ((field_copied.f l0).bind fun t80003 => ((field_store.f k t80003 a1 a2).bind fun t80006 => (some (t80006, 0)))) else (some (([] : List Int), 9)))) else (some (([] : List Int), 1)))) = some (r1, r2) := h
  clear h
  replace H := Option.bind_eq_some_iff.mp H
  obtain ⟨t80001, A40, H⟩ := H
  replace H : (if t80001 = true then ((field_fits.f a1 a2).bind fun t80002 => (if t80002 = true then ((field_copied.f l0).bind fun t80003 => ((field_store.f k t80003 a1 a2).bind fun t80006 => (some (t80006, 0)))) else (some (([] : List Int), 9)))) else (some (([] : List Int), 1))) = some (r1, r2) := H
  have A4 := Aside0.mk A40
  clear A40
  by_cases c5 : t80001 = true
  · subst c5
    have H1 : ((field_fits.f a1 a2).bind fun t80002 => (if t80002 = true then ((field_copied.f l0).bind fun t80003 => ((field_store.f k t80003 a1 a2).bind fun t80006 => (some (t80006, 0)))) else (some (([] : List Int), 9)))) = some (r1, r2) := by rw [if_pos rfl] at H; exact H
    clear H
    have H := H1
    clear H1
    replace H := Option.bind_eq_some_iff.mp H
    obtain ⟨t80002, A60, H⟩ := H
    replace H : (if t80002 = true then ((field_copied.f l0).bind fun t80003 => ((field_store.f k t80003 a1 a2).bind fun t80006 => (some (t80006, 0)))) else (some (([] : List Int), 9))) = some (r1, r2) := H
    have A6 := Aside0.mk A60
    clear A60
    by_cases c7 : t80002 = true
    · subst c7
      have H1 : ((field_copied.f l0).bind fun t80003 => ((field_store.f k t80003 a1 a2).bind fun t80006 => (some (t80006, 0)))) = some (r1, r2) := by rw [if_pos rfl] at H; exact H
      clear H
      have H := H1
      clear H1
      replace H := Option.bind_eq_some_iff.mp H
      obtain ⟨t80003, A80, H⟩ := H
      replace H : ((field_store.f k t80003 a1 a2).bind fun t80006 => (some (t80006, 0))) = some (r1, r2) := H
      have A8 := Aside0.mk A80
      clear A80
      replace H := Option.bind_eq_some_iff.mp H
      obtain ⟨t80006, A90, H⟩ := H
      replace H : (some (t80006, 0)) = some (r1, r2) := H
      have A9 := Aside0.mk A90
      clear A90
      simp only [Option.some.injEq, Prod.mk.injEq] at H
      obtain ⟨rfl, rfl⟩ := H
      go_enter Try.func79, Try.ntmps79
      go_wp2_with (first | ((with_reducible refine gate_callee (f := 94) rfl ?_); refine goesL_ (some 10) rfl rfl Try.func94 (by kernel_rfl) rfl #[.int .i64 a2] rfl (by (try simp only [List.map_toArray, List.map_cons, List.map_nil]); first | done | rfl | (simp only [List.length_drop, List.length_take]; rfl)) ?_; (with_reducible refine (field_wide.calls k a2 true _ A4.out).mono ?_); rintro e w' ⟨rfl, ⟨nd, rfl⟩⟩; refine ⟨_, rfl, ?_⟩) | ((with_reducible refine gate_callee (f := 101) rfl ?_); refine goesL_ (some 15) rfl rfl Try.func101 (by kernel_rfl) rfl #[.int .u64 a1, .int .i64 a2] rfl (by (try simp only [List.map_toArray, List.map_cons, List.map_nil]); first | done | rfl | (simp only [List.length_drop, List.length_take]; rfl)) ?_; (with_reducible refine (field_fits.calls a1 a2 true _ A6.out).mono ?_); rintro e w' ⟨rfl, ⟨nd, rfl⟩⟩; refine ⟨_, rfl, ?_⟩) | ((with_reducible refine gate_callee (f := 103) rfl ?_); refine goesL_ (some 18) rfl rfl Try.func103 (by kernel_rfl) rfl #[.slice A0 l0.length c0] rfl (by (try simp only [List.map_toArray, List.map_cons, List.map_nil]); first | done | rfl | (simp only [List.length_drop, List.length_take]; rfl)) ?_; (with_reducible refine (field_copied.calls _ _ l0 t80003 _ ?side1 ?side2 A8.out).mono ?_); (case side1 => repeat (first | exact HR0.out | (with_reducible refine Kd.C_alloc ?_ _) | (with_reducible refine Kd.C_drewN ?_ _) | (with_reducible refine Kd.C_drew ?_))); (case side2 => exact HC0.out); rintro e w10 ⟨v80004, rfl, ho0, hb⟩; refine ⟨_, rfl, ?_⟩; have n0_ := Aside0.mk (Kd.R_lower ho0 (below_size (by repeat (first | (with_reducible first | exact HB.out | apply below_alloc | apply pw_below_drewN | apply below_drew1) | exact HB.out)))); have n1_ := Aside0.mk (below_step (by repeat (first | (with_reducible first | exact HB.out | apply below_alloc | apply pw_below_drewN | apply below_drew1) | exact HB.out)) hb); clear HB; have HO80005 := n0_; have HB := n1_; clear n0_ n1_; (try clear hb); (try clear hb2); (try clear hk); (try clear hi); (try clear ho0); obtain ⟨Ao11, co11, eo11⟩ := Kd.R_slice HO80005.out; subst eo11) | ((with_reducible refine gate_callee (f := 102) rfl ?_); refine goesL_ (some 21) rfl rfl Try.func102 (by kernel_rfl) rfl #[.slice Ao11 t80003.length co11, .int .u64 a1, .int .i64 a2] rfl (by (try simp only [List.map_toArray, List.map_cons, List.map_nil]); first | done | rfl | (simp only [List.length_drop, List.length_take]; rfl)) ?_; (with_reducible refine (field_store.calls k (fun k_ => some k_ = (.slice Ao11 t80003.length co11 : Value).ownBlock) (.slice Ao11 t80003.length co11) t80003 a1 a2 t80006 w _ ?side1 ?side2 A9.out).mono ?_); (case side1 => repeat (first | (with_reducible first | exact HB.out | apply below_alloc | apply pw_below_drewN | apply below_drew1) | exact HB.out)); (case side2 => exact Kd.R_tight rfl HO80005.out); rintro e w12 ⟨v80007, rfl, ho0, hb, hkp⟩; refine ⟨_, rfl, ?_⟩; have n0_ := Aside0.mk (Kd.R_mono (ok' := fun k_ => True) ho0 (fun k_ hk_ => trivial)); have n1_ := Aside0.mk (hb); clear HB; clear HO80005; have HO80008 := n0_; have HB := n1_; clear n0_ n1_; (try clear hb); (try clear hkp); (try clear ho0)))
      go_ret2
      exact ⟨_, by first | rfl | (simp [errW_none, errW_some] <;> rfl) | (simp [*, errW_none, errW_some] <;> rfl), by (with_reducible repeat (first | apply Kd.R_alloc | apply Kd.R_drewN | apply Kd.R_drew)); exact HO80008.out, by repeat (first | (with_reducible first | exact HB.out | apply below_alloc | apply pw_below_drewN | apply below_drew1) | exact HB.out)⟩
    · replace c7 := Bool.eq_false_iff.mpr c7
      subst c7
      have H1 : (some (([] : List Int), 9)) = some (r1, r2) := by rw [if_neg (show ¬ (false = true) by decide)] at H; exact H
      clear H
      have H := H1
      clear H1
      simp only [Option.some.injEq, Prod.mk.injEq] at H
      obtain ⟨rfl, rfl⟩ := H
      go_enter Try.func79, Try.ntmps79
      go_wp2_with (first | ((with_reducible refine gate_callee (f := 94) rfl ?_); refine goesL_ (some 10) rfl rfl Try.func94 (by kernel_rfl) rfl #[.int .i64 a2] rfl (by (try simp only [List.map_toArray, List.map_cons, List.map_nil]); first | done | rfl | (simp only [List.length_drop, List.length_take]; rfl)) ?_; (with_reducible refine (field_wide.calls k a2 true _ A4.out).mono ?_); rintro e w' ⟨rfl, ⟨nd, rfl⟩⟩; refine ⟨_, rfl, ?_⟩) | ((with_reducible refine gate_callee (f := 101) rfl ?_); refine goesL_ (some 15) rfl rfl Try.func101 (by kernel_rfl) rfl #[.int .u64 a1, .int .i64 a2] rfl (by (try simp only [List.map_toArray, List.map_cons, List.map_nil]); first | done | rfl | (simp only [List.length_drop, List.length_take]; rfl)) ?_; (with_reducible refine (field_fits.calls a1 a2 false _ A6.out).mono ?_); rintro e w' ⟨rfl, ⟨nd, rfl⟩⟩; refine ⟨_, rfl, ?_⟩))
      go_ret2
      exact ⟨_, by first | rfl | (simp [errW_none, errW_some] <;> rfl) | (simp [*, errW_none, errW_some] <;> rfl), by first | exact Kd.R_nil _ _ _ _ _ | exact Kd.N_nil _ _ _ _ _ | exact Kd.V_nil _ _ _ _ _ | exact Kd.Q_nil _ _ _ _ _ | exact Kd.S_nil _ _ _ _ _, by repeat (first | (with_reducible first | exact HB.out | apply below_alloc | apply pw_below_drewN | apply below_drew1) | exact HB.out)⟩
  · replace c5 := Bool.eq_false_iff.mpr c5
    subst c5
    have H1 : (some (([] : List Int), 1)) = some (r1, r2) := by rw [if_neg (show ¬ (false = true) by decide)] at H; exact H
    clear H
    have H := H1
    clear H1
    simp only [Option.some.injEq, Prod.mk.injEq] at H
    obtain ⟨rfl, rfl⟩ := H
    go_enter Try.func79, Try.ntmps79
    go_wp2_with (first | ((with_reducible refine gate_callee (f := 94) rfl ?_); refine goesL_ (some 10) rfl rfl Try.func94 (by kernel_rfl) rfl #[.int .i64 a2] rfl (by (try simp only [List.map_toArray, List.map_cons, List.map_nil]); first | done | rfl | (simp only [List.length_drop, List.length_take]; rfl)) ?_; (with_reducible refine (field_wide.calls k a2 false _ A4.out).mono ?_); rintro e w' ⟨rfl, ⟨nd, rfl⟩⟩; refine ⟨_, rfl, ?_⟩))
    go_ret2
    exact ⟨_, by first | rfl | (simp [errW_none, errW_some] <;> rfl) | (simp [*, errW_none, errW_some] <;> rfl), by first | exact Kd.R_nil _ _ _ _ _ | exact Kd.N_nil _ _ _ _ _ | exact Kd.V_nil _ _ _ _ _ | exact Kd.Q_nil _ _ _ _ _ | exact Kd.S_nil _ _ _ _ _, by repeat (first | (with_reducible first | exact HB.out | apply below_alloc | apply pw_below_drewN | apply below_drew1) | exact HB.out)⟩

end Go.Proofs.Ytdlfflgcmgkmeaa.P

-- Written by a program of this session's own (wip/tools), over the translation. Not trusted: Lean checks it.
namespace Go.Proofs.Ytdlfflgcmgkmeaa.P
open Go.RowKit Go.Proofs.YtdlfflgcmgkmeaaW.PrintWords Go.Proofs.YtdlfflgcmgkmeaaW.PrintLast Go.Proofs.YtdlfflgcmgkmeaaW.PrintMore
attribute [local go_sem] max2_int min2_int max_two min_two max_three min_three max_four min_four   -- for this text's walks alone
set_option linter.unusedVariables false
set_option linter.unusedSimpArgs false

/-! ### blocks_Word: function 42 -/
def blocks_Word.j0 : Nat → Int → Bool → Bool → Option (Int × Int)
  | 0, _, _, _ => none
  | k + 1, x0, x1, x11 => if x11 = true then (some (0, 1)) else (if x1 = true then (some (x0, 0)) else (some (Go.bits .or .i64 x0 2147483648, 0)))
def blocks_Word.f (k : Nat) (a0 : Int) (a1 : Bool) : Option (Int × Int) := if a0 < 1 then (blocks_Word.j0 k a0 a1 true) else (blocks_Word.j0 k a0 a1 (decide (a0 > 1048576)))
theorem blocks_Word.mono_l : ∀ k, (∀ y0 y1 y2, LeO (blocks_Word.j0 k y0 y1 y2) (blocks_Word.j0 (k + 1) y0 y1 y2))
  | 0 => fun _ _ _ r h => by simp [blocks_Word.j0] at h
  | k + 1 => by
    have ih0 := blocks_Word.mono_l k
    · intro y0 y1 y2
      unfold blocks_Word.j0
      repeat' first
      | (with_reducible exact ih0 _ _ _)
      | (with_reducible exact LeO.refl _)
      | (with_reducible exact LeO.none _)
      | (with_reducible refine LeO.ite ?_ ?_)
      | (with_reducible refine LeO.bind ?_ (fun _ => ?_))
      | exact ih0 _ _ _
      | exact LeO.none _
      | refine LeO.ite ?_ ?_
      | refine LeO.bind ?_ (fun _ => ?_)
theorem blocks_Word.mono : ∀ a0 a1 k, LeO (blocks_Word.f k a0 a1) (blocks_Word.f (k + 1) a0 a1) := by
  intro a0 a1 k
  have ih0 := blocks_Word.mono_l k
  unfold blocks_Word.f
  repeat' first
      | (with_reducible exact ih0 _ _ _)
      | (with_reducible exact LeO.refl _)
      | (with_reducible exact LeO.none _)
      | (with_reducible refine LeO.ite ?_ ?_)
      | (with_reducible refine LeO.bind ?_ (fun _ => ?_))
      | exact ih0 _ _ _
      | exact LeO.none _
      | refine LeO.ite ?_ ?_
      | refine LeO.bind ?_ (fun _ => ?_)
set_option maxHeartbeats 8000000 in
set_option maxRecDepth 100000 in
theorem blocks_Word.calls (k : Nat) (a0 : Int) (a1 : Bool) (r1 : Int) (r2 : Int) (w : World) (h : blocks_Word.f k a0 a1 = some (r1, r2)) :
    Calls Try.prog 42 #[.int .i64 a0, .bool a1] w fun e w' => e = .returned (.tuple #[.int .i64 r1, .int .i64 r2]) ∧ Drawn0 w w' := by
  have H : (if a0 < 1 then (blocks_Word.j0 k a0 a1 true) else (blocks_Word.j0 k a0 a1 (decide (a0 > 1048576)))) = some (r1, r2) := h
  clear h
  have HC3 := Aside0.mk H
  clear H
  go_enter Try.func42, Try.ntmps42
  go_upto_region 1 with (fail)
  go_cut [11] (fun v11 wc => ∃ (kq : Nat) (x11_2 : Bool), v11 = .bool x11_2 ∧ Aside0 (blocks_Word.j0 kq a0 a1 x11_2 = some (r1, r2)) ∧ Aside0 (kq ≤ k) ∧ Drawn0 w wc)
  case first =>
    have H := HC3.out
    clear HC3
    by_cases c4 : a0 < 1
    · rw [if_pos c4] at H
      have c4b0 : decide (a0 < 1) = true := decide_eq_true c4
      clear c4
      (first | rw [c4b0] | (simp only [i64_w, i32_w]; rw [c4b0]) | skip)
      have H' := Aside0.mk H
      clear H
      go_wp2
      go_meet
      case rel => exact ⟨_, (true), (by first | rfl | (simp; done) | (simp [*]; done)), H', ⟨by first | omega | exact Nat.le_refl _⟩, by repeat (first | exact Drawn0.refl _ | apply Drawn0.step)⟩
    · rw [if_neg c4] at H
      have c4b0 : decide (a0 < 1) = false := decide_eq_false c4
      clear c4
      (first | rw [c4b0] | (simp only [i64_w, i32_w]; rw [c4b0]) | skip)
      have H' := Aside0.mk H
      clear H
      go_wp2
      go_meet
      case rel => exact ⟨_, (decide (a0 > 1048576)), (by first | rfl | (simp; done) | (simp [*]; done)), H', ⟨by first | omega | exact Nat.le_refl _⟩, by repeat (first | exact Drawn0.refl _ | apply Drawn0.step)⟩
  case rest =>
    clear HC3
    try clear p2
    try clear c4
    try clear c4b0
    obtain ⟨kq, x11_2, rfl, HA, HJ2, ⟨mc2, rfl⟩⟩ := hcut
    cases kq with
    | zero => exact absurd HA.out (by simp [blocks_Word.j0])
    | succ kj2 =>
      have H := HA.out
      clear HA
      simp only [blocks_Word.j0] at H
      by_cases c5 : x11_2 = true
      · subst c5
        have H1 : (some (0, 1)) = some (r1, r2) := by rw [if_pos rfl] at H; exact H
        clear H
        have H := H1
        clear H1
        simp only [Option.some.injEq, Prod.mk.injEq] at H
        obtain ⟨rfl, rfl⟩ := H
        go_wp2
        go_ret2
        exact ⟨by first | rfl | (simp; done) | (simp [*]; done), by repeat (first | exact Drawn0.refl _ | apply Drawn0.step)⟩
      · replace c5 := Bool.eq_false_iff.mpr c5
        subst c5
        have H1 : (if a1 = true then (some (a0, 0)) else (some (Go.bits .or .i64 a0 2147483648, 0))) = some (r1, r2) := by rw [if_neg (show ¬ (false = true) by decide)] at H; exact H
        clear H
        have H := H1
        clear H1
        by_cases c6 : a1 = true
        · subst c6
          have H1 : (some (a0, 0)) = some (r1, r2) := by rw [if_pos rfl] at H; exact H
          clear H
          have H := H1
          clear H1
          simp only [Option.some.injEq, Prod.mk.injEq] at H
          obtain ⟨rfl, rfl⟩ := H
          go_wp2
          go_ret2
          exact ⟨by first | rfl | (simp; done) | (simp [*]; done), by repeat (first | exact Drawn0.refl _ | apply Drawn0.step)⟩
        · replace c6 := Bool.eq_false_iff.mpr c6
          subst c6
          have H1 : (some (Go.bits .or .i64 a0 2147483648, 0)) = some (r1, r2) := by rw [if_neg (show ¬ (false = true) by decide)] at H; exact H
          clear H
          have H := H1
          clear H1
          simp only [Option.some.injEq, Prod.mk.injEq] at H
          obtain ⟨rfl, rfl⟩ := H
          go_wp2
          go_ret2
          exact ⟨by first | rfl | (simp; done) | (simp [*]; done), by repeat (first | exact Drawn0.refl _ | apply Drawn0.step)⟩

end Go.Proofs.Ytdlfflgcmgkmeaa.P

-- Written by a program of this session's own (wip/tools), over the translation. Not trusted: Lean checks it.
namespace Go.Proofs.Ytdlfflgcmgkmeaa.P
open Go.RowKit Go.Proofs.YtdlfflgcmgkmeaaW.PrintWords Go.Proofs.YtdlfflgcmgkmeaaW.PrintLast Go.Proofs.YtdlfflgcmgkmeaaW.PrintMore
attribute [local go_sem] max2_int min2_int max_two min_two max_three min_three max_four min_four   -- for this text's walks alone
set_option linter.unusedVariables false
set_option linter.unusedSimpArgs false

/-! ### blocks_Store_1: function 81 -/
def blocks_Store_1.f (a0 : Int) : Option (Bool) := some (a0 != 0)
set_option maxHeartbeats 8000000 in
set_option maxRecDepth 100000 in
theorem blocks_Store_1.calls (a0 : Int) (r : Bool) (w : World) (h : blocks_Store_1.f a0 = some r) :
    Calls Try.prog 81 #[.int .u8 a0] w fun e w' => e = .returned (.bool r) ∧ Drawn0 w w' := by
  have H : (some (a0 != 0)) = some r := h
  clear h
  obtain rfl := Option.some.inj H
  go_enter Try.func81, Try.ntmps81
  go_wp2
  go_ret
  exact ⟨by first | rfl | (simp; done) | (simp [*]; done), by repeat (first | exact Drawn0.refl _ | apply Drawn0.step)⟩

end Go.Proofs.Ytdlfflgcmgkmeaa.P

-- Written by a program of this session's own (wip/tools), over the translation. Not trusted: Lean checks it.
namespace Go.Proofs.Ytdlfflgcmgkmeaa.P
open Go.RowKit Go.Proofs.YtdlfflgcmgkmeaaW.PrintWords Go.Proofs.YtdlfflgcmgkmeaaW.PrintLast Go.Proofs.YtdlfflgcmgkmeaaW.PrintMore
attribute [local go_sem] max2_int min2_int max_two min_two max_three min_three max_four min_four   -- for this text's walks alone
set_option linter.unusedVariables false
set_option linter.unusedSimpArgs false

/-! ### slices_IndexFunc_byte_byte: function 104 -/
def slices_IndexFunc_byte_byte.l0 : Nat → List Int → Int → Int → Option (Int)
  | 0, _, _, _ => none
  | k + 1, x0, x7, x8 => if x8 < x7 then (if 0 ≤ x8 then (if x8 < (x0.length : Int) then ((blocks_Store_1.f (rd x0 x8)).bind fun t105002 => (if t105002 = true then (some x8) else (slices_IndexFunc_byte_byte.l0 k x0 x7 (wrap64 (x8 + 1))))) else (none)) else (none)) else (some (-1))
def slices_IndexFunc_byte_byte.f (k : Nat) (l0 : List Int)  : Option (Int) := slices_IndexFunc_byte_byte.l0 k l0 (l0.length : Int) 0
theorem slices_IndexFunc_byte_byte.mono_l : ∀ k, (∀ y0 y1 y2, LeO (slices_IndexFunc_byte_byte.l0 k y0 y1 y2) (slices_IndexFunc_byte_byte.l0 (k + 1) y0 y1 y2))
  | 0 => fun _ _ _ r h => by simp [slices_IndexFunc_byte_byte.l0] at h
  | k + 1 => by
    have ih0 := slices_IndexFunc_byte_byte.mono_l k
    · intro y0 y1 y2
      unfold slices_IndexFunc_byte_byte.l0
      repeat' first
      | (with_reducible exact ih0 _ _ _)
      | (with_reducible exact LeO.refl _)
      | (with_reducible exact LeO.none _)
      | (with_reducible refine LeO.ite ?_ ?_)
      | (with_reducible refine LeO.bind ?_ (fun _ => ?_))
      | exact ih0 _ _ _
      | exact LeO.none _
      | refine LeO.ite ?_ ?_
      | refine LeO.bind ?_ (fun _ => ?_)
theorem slices_IndexFunc_byte_byte.mono : ∀ a0 k, LeO (slices_IndexFunc_byte_byte.f k a0) (slices_IndexFunc_byte_byte.f (k + 1) a0) := by
  intro a0 k
  have ih0 := slices_IndexFunc_byte_byte.mono_l k
  unfold slices_IndexFunc_byte_byte.f
  repeat' first
      | (with_reducible exact ih0 _ _ _)
      | (with_reducible exact LeO.refl _)
      | (with_reducible exact LeO.none _)
      | (with_reducible refine LeO.ite ?_ ?_)
      | (with_reducible refine LeO.bind ?_ (fun _ => ?_))
      | exact ih0 _ _ _
      | exact LeO.none _
      | refine LeO.ite ?_ ?_
      | refine LeO.bind ?_ (fun _ => ?_)
set_option maxHeartbeats 8000000 in
set_option maxRecDepth 100000 in
theorem slices_IndexFunc_byte_byte.calls (k : Nat) (A0 : Option Addr) (c0 : Nat) (l0 : List Int)  (r : Int) (w : World) (hr0 : Kd.C (Kd.int .u8) w A0 l0.length l0) (hc0 : l0.length ≤ c0) (h : slices_IndexFunc_byte_byte.f k l0 = some r) :
    Calls Try.prog 104 #[.slice A0 l0.length c0, .func (.func 81) #[] #[]] w fun e w' => e = .returned (.int .i64 r) ∧ Drawn0 w w' := by
  have HR0 := Aside0.mk hr0
  have HC0 := Aside0.mk hc0
  clear hr0 hc0
  have H : (slices_IndexFunc_byte_byte.l0 k l0 (l0.length : Int) 0) = some r := h
  clear h
  have H' := Aside0.mk H
  clear H
  go_enter Try.func104, Try.ntmps104
  go_wp2
  go_loopg [8] k (fun kq v8 w' => ∃ (x8_1 : Int), v8 = .int .i64 x8_1 ∧ Aside0 (slices_IndexFunc_byte_byte.l0 kq l0 (l0.length : Int) x8_1 = some r) ∧ Aside0 (kq ≤ k) ∧ Drawn0 w w')
  case atStart => exact ⟨(0), (by first | rfl | (simp; done) | (simp [*]; done)), H', ⟨Nat.le_refl _⟩, by repeat (first | exact Drawn0.refl _ | apply Drawn0.step)⟩
  case round =>
    clear H'
    try clear c1
    try clear p2
    obtain ⟨x8_1, rfl, HA, HK1, ⟨m1, rfl⟩⟩ := hrel
    cases gk with
    | zero => exact absurd HA.out (by simp [slices_IndexFunc_byte_byte.l0])
    | succ k1 =>
      have H := HA.out
      clear HA
      simp only [slices_IndexFunc_byte_byte.l0] at H
      by_cases c3 : x8_1 < (l0.length : Int)
      · rw [if_pos c3] at H
        have c3b0 : decide (x8_1 < (l0.length : Int)) = true := decide_eq_true c3
        clear c3
        by_cases c4 : 0 ≤ x8_1
        · rw [if_pos c4] at H
          have c4b0 : decide (0 ≤ x8_1) = true := decide_eq_true c4
          clear c4
          by_cases c5 : x8_1 < (l0.length : Int)
          · rw [if_pos c5] at H
            have c5b0 : decide (x8_1 < (l0.length : Int)) = true := decide_eq_true c5
            clear c5
            replace H := Option.bind_eq_some_iff.mp H
            obtain ⟨t105002, A60, H⟩ := H
            replace H : (if t105002 = true then (some x8_1) else (slices_IndexFunc_byte_byte.l0 k1 l0 (l0.length : Int) (wrap64 (x8_1 + 1)))) = some r := H
            have A6 := Aside0.mk A60
            clear A60
            by_cases c7 : t105002 = true
            · subst c7
              have H1 : (some x8_1) = some r := by rw [if_pos rfl] at H; exact H
              clear H
              have H := H1
              clear H1
              obtain rfl := Option.some.inj H
              have p105001 : 0 ≤ (x8_1 : Int) := of_decide_eq_true (by first | (with_reducible assumption) | assumption)
              have q105001 : x8_1 < (l0.length : Int) := of_decide_eq_true (by first | (with_reducible assumption) | assumption)
              obtain ⟨ad105001, e105001, hx105001_0⟩ := Kd.at_int HR0.out x8_1 p105001 q105001
              cases e105001
              replace p105001 := eq_true p105001
              replace q105001 := eq_true q105001
              go_wp2_with (first | (go_at_call 81; (with_reducible refine (blocks_Store_1.calls (rd l0 x8_1) true _ A6.out).mono ?_); rintro e w' ⟨rfl, ⟨nd, rfl⟩⟩))
              go_ret
              exact ⟨by first | rfl | (simp; done) | (simp [*]; done), by repeat (first | exact Drawn0.refl _ | apply Drawn0.step)⟩
            · replace c7 := Bool.eq_false_iff.mpr c7
              subst c7
              have H1 : (slices_IndexFunc_byte_byte.l0 k1 l0 (l0.length : Int) (wrap64 (x8_1 + 1))) = some r := by rw [if_neg (show ¬ (false = true) by decide)] at H; exact H
              clear H
              have H := H1
              clear H1
              have H' := Aside0.mk H
              clear H
              have p105001 : 0 ≤ (x8_1 : Int) := of_decide_eq_true (by first | (with_reducible assumption) | assumption)
              have q105001 : x8_1 < (l0.length : Int) := of_decide_eq_true (by first | (with_reducible assumption) | assumption)
              obtain ⟨ad105001, e105001, hx105001_0⟩ := Kd.at_int HR0.out x8_1 p105001 q105001
              cases e105001
              replace p105001 := eq_true p105001
              replace q105001 := eq_true q105001
              go_wp2_with (first | (go_at_call 81; (with_reducible refine (blocks_Store_1.calls (rd l0 x8_1) false _ A6.out).mono ?_); rintro e w' ⟨rfl, ⟨nd, rfl⟩⟩))
              go_roundg k1
              case measure => have := HK1.out; omega
              case rel => exact ⟨(wrap64 (x8_1 + 1)), (by first | rfl | (simp; done) | (simp [*]; done)), H', ⟨by have := HK1.out; omega⟩, by repeat (first | exact Drawn0.refl _ | apply Drawn0.step)⟩
          · rw [if_neg c5] at H
            exact absurd H (by simp)
        · rw [if_neg c4] at H
          exact absurd H (by simp)
      · rw [if_neg c3] at H
        have c3b0 : decide (x8_1 < (l0.length : Int)) = false := decide_eq_false c3
        clear c3
        obtain rfl := Option.some.inj H
        go_wp2
        go_ret
        exact ⟨by first | rfl | (simp; done) | (simp [*]; done), by repeat (first | exact Drawn0.refl _ | apply Drawn0.step)⟩

end Go.Proofs.Ytdlfflgcmgkmeaa.P

-- Written by a program of this session's own (wip/tools), over the translation. Not trusted: Lean checks it.
namespace Go.Proofs.Ytdlfflgcmgkmeaa.P
open Go.RowKit Go.Proofs.YtdlfflgcmgkmeaaW.PrintWords Go.Proofs.YtdlfflgcmgkmeaaW.PrintLast Go.Proofs.YtdlfflgcmgkmeaaW.PrintMore
attribute [local go_sem] max2_int min2_int max_two min_two max_three min_three max_four min_four   -- for this text's walks alone
set_option linter.unusedVariables false
set_option linter.unusedSimpArgs false

/-! ### slices_ContainsFunc_byte_byte: function 80 -/
def slices_ContainsFunc_byte_byte.f (k : Nat) (l0 : List Int)  : Option (Bool) := (slices_IndexFunc_byte_byte.f k l0).bind fun t81001 => (some (decide (t81001 ≥ 0)))
theorem slices_ContainsFunc_byte_byte.mono : ∀ a0 k, LeO (slices_ContainsFunc_byte_byte.f k a0) (slices_ContainsFunc_byte_byte.f (k + 1) a0) := by
  intro a0 k
  unfold slices_ContainsFunc_byte_byte.f
  repeat' first
      | (with_reducible exact slices_IndexFunc_byte_byte.mono _ _)
      | (with_reducible exact LeO.refl _)
      | (with_reducible exact LeO.none _)
      | (with_reducible refine LeO.ite ?_ ?_)
      | (with_reducible refine LeO.bind ?_ (fun _ => ?_))
      | exact slices_IndexFunc_byte_byte.mono _ _
      | exact LeO.none _
      | refine LeO.ite ?_ ?_
      | refine LeO.bind ?_ (fun _ => ?_)
set_option maxHeartbeats 8000000 in
set_option maxRecDepth 100000 in
theorem slices_ContainsFunc_byte_byte.calls (k : Nat) (A0 : Option Addr) (c0 : Nat) (l0 : List Int)  (r : Bool) (w : World) (hr0 : Kd.C (Kd.int .u8) w A0 l0.length l0) (hc0 : l0.length ≤ c0) (h : slices_ContainsFunc_byte_byte.f k l0 = some r) :
    Calls Try.prog 80 #[.slice A0 l0.length c0, .func (.func 81) #[] #[]] w fun e w' => e = .returned (.bool r) ∧ Drawn0 w w' := by
  have HR0 := Aside0.mk hr0
  have HC0 := Aside0.mk hc0
  clear hr0 hc0
  have H : ((slices_IndexFunc_byte_byte.f k l0).bind fun t81001 => (some (decide (t81001 ≥ 0)))) = some r := h
  clear h
  replace H := Option.bind_eq_some_iff.mp H
  obtain ⟨t81001, A30, H⟩ := H
  replace H : (some (decide (t81001 ≥ 0))) = some r := H
  have A3 := Aside0.mk A30
  clear A30
  obtain rfl := Option.some.inj H
  go_enter Try.func80, Try.ntmps80
  go_wp2_with (first | ((with_reducible refine gate_callee (f := 104) rfl ?_); refine goesL_ (some 7) rfl rfl Try.func104 (by kernel_rfl) rfl #[.slice A0 l0.length c0, .func (.func 81) #[] #[]] rfl (by (try simp only [List.map_toArray, List.map_cons, List.map_nil]); first | done | rfl | (simp only [List.length_drop, List.length_take]; rfl)) ?_; (with_reducible refine (slices_IndexFunc_byte_byte.calls k _ _ l0  t81001 _ ?side1 ?side2 A3.out).mono ?_); (case side1 => repeat (first | exact HR0.out | (with_reducible refine Kd.C_alloc ?_ _) | (with_reducible refine Kd.C_drewN ?_ _) | (with_reducible refine Kd.C_drew ?_))); (case side2 => exact HC0.out); rintro e w' ⟨rfl, ⟨nd, rfl⟩⟩; refine ⟨_, rfl, ?_⟩))
  go_ret
  exact ⟨by first | rfl | (simp; done) | (simp [*]; done), by repeat (first | exact Drawn0.refl _ | apply Drawn0.step)⟩

end Go.Proofs.Ytdlfflgcmgkmeaa.P

-- Written by a program of this session's own (wip/tools), over the translation. Not trusted: Lean checks it.
namespace Go.Proofs.Ytdlfflgcmgkmeaa.P
open Go.RowKit Go.Proofs.YtdlfflgcmgkmeaaW.PrintWords Go.Proofs.YtdlfflgcmgkmeaaW.PrintLast Go.Proofs.YtdlfflgcmgkmeaaW.PrintMore
attribute [local go_sem] max2_int min2_int max_two min_two max_three min_three max_four min_four   -- for this text's walks alone
set_option linter.unusedVariables false
set_option linter.unusedSimpArgs false

/-! ### blocks_Store: function 50 -/
def blocks_Store.j0 : Nat → List Int → List Int → Bool → Bool → Option (Int × List Int × Int)
  | 0, _, _, _, _ => none
  | k + 1, x0, x7, x8, x28 => if x28 = true then ((blocks_Word.f k (x0.length : Int) false).bind fun bt51007 => ((sum_Crc.f k x0).bind fun t51009 => ((field_Put.f k x0 (IntKind.u64.wrap (t51009)) 4).bind fun bt51010 => (some (bt51007.1, bt51010.1, 0))))) else ((blocks_Word.f k (x7.length : Int) x8).bind fun bt51014 => ((sum_Crc.f k x7).bind fun t51016 => ((field_Put.f k x7 (IntKind.u64.wrap (t51016)) 4).bind fun bt51017 => (some (bt51014.1, bt51017.1, 0)))))
def blocks_Store.f (k : Nat) (l0 : List Int) (a1 : Nat) : Option (Int × List Int × Int) := if (l0.length : Int) > 1048576 then (some (0, ([] : List Int), 2)) else ((slices_ContainsFunc_byte_byte.f k l0).bind fun t51001 => (if t51001 = true then ((match_Pack.f k l0 a1).bind fun bt51002 => (if bt51002.2.1 = true then (blocks_Store.j0 k l0 bt51002.1 bt51002.2.1 (decide ((bt51002.1.length : Int) > 1048576))) else (blocks_Store.j0 k l0 bt51002.1 bt51002.2.1 false))) else (some (0, ([] : List Int), 0))))
theorem blocks_Store.mono_l : ∀ k, (∀ y0 y1 y2 y3, LeO (blocks_Store.j0 k y0 y1 y2 y3) (blocks_Store.j0 (k + 1) y0 y1 y2 y3))
  | 0 => fun _ _ _ _ r h => by simp [blocks_Store.j0] at h
  | k + 1 => by
    have ih0 := blocks_Store.mono_l k
    · intro y0 y1 y2 y3
      unfold blocks_Store.j0
      repeat' first
      | (with_reducible exact ih0 _ _ _ _)
      | (with_reducible exact blocks_Word.mono _ _ _)
      | (with_reducible exact field_Put.mono _ _ _ _)
      | (with_reducible exact match_Pack.mono _ _ _)
      | (with_reducible exact slices_ContainsFunc_byte_byte.mono _ _)
      | (with_reducible exact sum_Crc.mono _ _)
      | (with_reducible exact LeO.refl _)
      | (with_reducible exact LeO.none _)
      | (with_reducible refine LeO.ite ?_ ?_)
      | (with_reducible refine LeO.bind ?_ (fun _ => ?_))
      | exact ih0 _ _ _ _
      | exact blocks_Word.mono _ _ _
      | exact field_Put.mono _ _ _ _
      | exact match_Pack.mono _ _ _
      | exact slices_ContainsFunc_byte_byte.mono _ _
      | exact sum_Crc.mono _ _
      | exact LeO.none _
      | refine LeO.ite ?_ ?_
      | refine LeO.bind ?_ (fun _ => ?_)
theorem blocks_Store.mono : ∀ a0 a1 k, LeO (blocks_Store.f k a0 a1) (blocks_Store.f (k + 1) a0 a1) := by
  intro a0 a1 k
  have ih0 := blocks_Store.mono_l k
  unfold blocks_Store.f
  repeat' first
      | (with_reducible exact ih0 _ _ _ _)
      | (with_reducible exact blocks_Word.mono _ _ _)
      | (with_reducible exact field_Put.mono _ _ _ _)
      | (with_reducible exact match_Pack.mono _ _ _)
      | (with_reducible exact slices_ContainsFunc_byte_byte.mono _ _)
      | (with_reducible exact sum_Crc.mono _ _)
      | (with_reducible exact LeO.refl _)
      | (with_reducible exact LeO.none _)
      | (with_reducible refine LeO.ite ?_ ?_)
      | (with_reducible refine LeO.bind ?_ (fun _ => ?_))
      | exact ih0 _ _ _ _
      | exact blocks_Word.mono _ _ _
      | exact field_Put.mono _ _ _ _
      | exact match_Pack.mono _ _ _
      | exact slices_ContainsFunc_byte_byte.mono _ _
      | exact sum_Crc.mono _ _
      | exact LeO.none _
      | refine LeO.ite ?_ ?_
      | refine LeO.bind ?_ (fun _ => ?_)
set_option maxHeartbeats 8000000 in
set_option maxRecDepth 100000 in
theorem blocks_Store.calls (k : Nat) (A0 : Option Addr) (c0 : Nat) (l0 : List Int) (a1 : Nat) (r1 : Int) (r2 : List Int) (r3 : Int) (w : World) (hr0 : Kd.C (Kd.int .u8) w A0 l0.length l0) (hc0 : l0.length ≤ c0) (h : blocks_Store.f k l0 a1 = some (r1, r2, r3)) :
    Calls Try.prog 50 #[.slice A0 l0.length c0, .float .f64 a1] w fun e w' => ∃ v1_ : Value, e = .returned (.tuple #[.int .i64 r1, v1_, .int .i64 r3]) ∧ Kd.R (Kd.int .u8) 5 w' w.heap.size (fun _ => True) v1_ r2 ∧ Below w.heap.size w w' := by
  have HR0 := Aside0.mk hr0
  have HC0 := Aside0.mk hc0
  clear hr0 hc0
  have HB := Aside0.mk (Below.refl w.heap.size w)
  have H : (if (l0.length : Int) > 1048576 then (some (0, ([] : List Int), 2)) else ((slices_ContainsFunc_byte_byte.f k l0).bind fun t51001 => (if t51001 = true then ((match_Pack.f k l0 a1).bind fun bt51002 => (if bt51002.2.1 = true then (blocks_Store.j0 k l0 bt51002.1 bt51002.2.1 (decide ((bt51002.1.length : Int) > 1048576))) else (blocks_Store.j0 k l0 bt51002.1 bt51002.2.1 false))) else (some (0, ([] : List Int), 0))))) = some (r1, r2, r3) := h
  clear h
  by_cases c3 : (l0.length : Int) > 1048576
  · rw [if_pos c3] at H
    have c3b0 : decide (1048576 < (l0.length : Int)) = true := decide_eq_true c3
    have c3b1 : decide (1048576 < l0.length) = true := decide_eq_true (by omega)
    clear c3
    simp only [Option.some.injEq, Prod.mk.injEq] at H
    obtain ⟨rfl, rfl, rfl⟩ := H
    go_enter Try.func50, Try.ntmps50
    go_wp2
    go_ret3
    exact ⟨_, by first | rfl | (simp [errW_none, errW_some] <;> rfl) | (simp [*, errW_none, errW_some] <;> rfl), by first | exact Kd.R_nil _ _ _ _ _ | exact Kd.N_nil _ _ _ _ _ | exact Kd.V_nil _ _ _ _ _ | exact Kd.Q_nil _ _ _ _ _ | exact Kd.S_nil _ _ _ _ _, by repeat (first | (with_reducible first | exact HB.out | apply below_alloc | apply pw_below_drewN | apply below_drew1) | exact HB.out)⟩
  · rw [if_neg c3] at H
    have c3b0 : decide (1048576 < (l0.length : Int)) = false := decide_eq_false c3
    have c3b1 : decide (1048576 < l0.length) = false := decide_eq_false (by omega)
    clear c3
    replace H := Option.bind_eq_some_iff.mp H
    obtain ⟨t51001, A40, H⟩ := H
    replace H : (if t51001 = true then ((match_Pack.f k l0 a1).bind fun bt51002 => (if bt51002.2.1 = true then (blocks_Store.j0 k l0 bt51002.1 bt51002.2.1 (decide ((bt51002.1.length : Int) > 1048576))) else (blocks_Store.j0 k l0 bt51002.1 bt51002.2.1 false))) else (some (0, ([] : List Int), 0))) = some (r1, r2, r3) := H
    have A4 := Aside0.mk A40
    clear A40
    by_cases c5 : t51001 = true
    · subst c5
      have H1 : ((match_Pack.f k l0 a1).bind fun bt51002 => (if bt51002.2.1 = true then (blocks_Store.j0 k l0 bt51002.1 bt51002.2.1 (decide ((bt51002.1.length : Int) > 1048576))) else (blocks_Store.j0 k l0 bt51002.1 bt51002.2.1 false))) = some (r1, r2, r3) := by rw [if_pos rfl] at H; exact H
      clear H
      have H := H1
      clear H1
      replace H := Option.bind_eq_some_iff.mp H
      obtain ⟨⟨t51002, t51003, t51004⟩, A60, H⟩ := H
      replace H : (if t51003 = true then (blocks_Store.j0 k l0 t51002 t51003 (decide ((t51002.length : Int) > 1048576))) else (blocks_Store.j0 k l0 t51002 t51003 false)) = some (r1, r2, r3) := H
      have A6 := Aside0.mk A60
      clear A60
      have HC7 := Aside0.mk H
      clear H
      go_enter Try.func50, Try.ntmps50
      go_upto_region 6 with (first | ((with_reducible refine gate_callee (f := 80) rfl ?_); refine goesL_ (some 14) rfl rfl Try.func80 (by kernel_rfl) rfl #[.slice A0 l0.length c0, .func (.func 81) #[] #[]] rfl (by (try simp only [List.map_toArray, List.map_cons, List.map_nil]); first | done | rfl | (simp only [List.length_drop, List.length_take]; rfl)) ?_; (with_reducible refine (slices_ContainsFunc_byte_byte.calls k _ _ l0  true _ ?side1 ?side2 A4.out).mono ?_); (case side1 => repeat (first | exact HR0.out | (with_reducible refine Kd.C_alloc ?_ _) | (with_reducible refine Kd.C_drewN ?_ _) | (with_reducible refine Kd.C_drew ?_))); (case side2 => exact HC0.out); rintro e w' ⟨rfl, ⟨nd, rfl⟩⟩; refine ⟨_, rfl, ?_⟩) | ((with_reducible refine gate_callee (f := 25) rfl ?_); refine goesL_ (some 19) rfl rfl Try.func25 (by kernel_rfl) rfl #[.slice A0 l0.length c0, .float .f64 a1] rfl (by (try simp only [List.map_toArray, List.map_cons, List.map_nil]); first | done | rfl | (simp only [List.length_drop, List.length_take]; rfl)) ?_; (with_reducible refine (match_Pack.calls k _ _ l0 a1 t51002 t51003 t51004 _ ?side1 ?side2 A6.out).mono ?_); (case side1 => repeat (first | exact HR0.out | (with_reducible refine Kd.C_alloc ?_ _) | (with_reducible refine Kd.C_drewN ?_ _) | (with_reducible refine Kd.C_drew ?_))); (case side2 => exact HC0.out); rintro e w8 ⟨v51005, rfl, ho0, hb⟩; refine ⟨_, rfl, ?_⟩; have n0_ := Aside0.mk (Kd.R_lower ho0 (below_size (by repeat (first | (with_reducible first | exact HB.out | apply below_alloc | apply pw_below_drewN | apply below_drew1) | exact HB.out)))); have n1_ := Aside0.mk (below_step (by repeat (first | (with_reducible first | exact HB.out | apply below_alloc | apply pw_below_drewN | apply below_drew1) | exact HB.out)) hb); clear HB; have HO51006 := n0_; have HB := n1_; clear n0_ n1_; (try clear hb); (try clear hb2); (try clear hk); (try clear hi); (try clear ho0)))
      (try simp only [Act.put, List.setIfInBounds_toArray, List.set_cons_zero, List.set_cons_succ])
      go_cut [28] (fun v28 wc => ∃ (kq : Nat) (x28_6 : Bool), v28 = .bool x28_6 ∧ Aside0 (blocks_Store.j0 kq l0 t51002 t51003 x28_6 = some (r1, r2, r3)) ∧ Aside0 (kq ≤ k) ∧ Aside0 (Kd.R (Kd.int .u8) 5 wc w.heap.size (fun _ => True) v51005 t51002) ∧ Aside0 (Below w.heap.size w wc))
      case first =>
        have H := HC7.out
        clear HC7
        by_cases c9 : t51003 = true
        · subst c9
          have H1 : (blocks_Store.j0 k l0 t51002 true (decide ((t51002.length : Int) > 1048576))) = some (r1, r2, r3) := by rw [if_pos rfl] at H; exact H
          clear H
          have H := H1
          clear H1
          have H' := Aside0.mk H
          clear H
          obtain ⟨Ao10, co10, eo10⟩ := Kd.R_slice HO51006.out
          subst eo10
          go_wp2
          go_meet
          case rel => exact ⟨_, (decide ((t51002.length : Int) > 1048576)), (by first | rfl | (simp; done) | (simp [*]; done)), H', ⟨by first | omega | exact Nat.le_refl _⟩, ⟨by (with_reducible repeat (first | apply Kd.R_alloc | apply Kd.R_drewN | apply Kd.R_drew)); exact HO51006.out⟩, ⟨by repeat (first | (with_reducible first | exact HB.out | apply below_alloc | apply pw_below_drewN | apply below_drew1) | exact HB.out)⟩⟩
        · replace c9 := Bool.eq_false_iff.mpr c9
          subst c9
          have H1 : (blocks_Store.j0 k l0 t51002 false false) = some (r1, r2, r3) := by rw [if_neg (show ¬ (false = true) by decide)] at H; exact H
          clear H
          have H := H1
          clear H1
          have H' := Aside0.mk H
          clear H
          go_wp2
          go_meet
          case rel => exact ⟨_, (false), (by first | rfl | (simp; done) | (simp [*]; done)), H', ⟨by first | omega | exact Nat.le_refl _⟩, ⟨by (with_reducible repeat (first | apply Kd.R_alloc | apply Kd.R_drewN | apply Kd.R_drew)); exact HO51006.out⟩, ⟨by repeat (first | (with_reducible first | exact HB.out | apply below_alloc | apply pw_below_drewN | apply below_drew1) | exact HB.out)⟩⟩
      case rest =>
        clear HC7
        try clear c2
        try clear p2
        try clear c3
        try clear c3b0
        try clear c3b1
        try clear c5
        try clear c8
        try clear c9
        obtain ⟨kq, x28_6, rfl, HA, HJ6, HO_7, HB⟩ := hcut
        cases kq with
        | zero => exact absurd HA.out (by simp [blocks_Store.j0])
        | succ kj6 =>
          have H := HA.out
          clear HA
          simp only [blocks_Store.j0] at H
          by_cases c11 : x28_6 = true
          · subst c11
            have H1 : ((blocks_Word.f kj6 (l0.length : Int) false).bind fun bt51007 => ((sum_Crc.f kj6 l0).bind fun t51009 => ((field_Put.f kj6 l0 (IntKind.u64.wrap (t51009)) 4).bind fun bt51010 => (some (bt51007.1, bt51010.1, 0))))) = some (r1, r2, r3) := by rw [if_pos rfl] at H; exact H
            clear H
            have H := H1
            clear H1
            replace H := Option.bind_eq_some_iff.mp H
            obtain ⟨⟨t51007, t51008⟩, A120, H⟩ := H
            replace H : ((sum_Crc.f kj6 l0).bind fun t51009 => ((field_Put.f kj6 l0 (IntKind.u64.wrap (t51009)) 4).bind fun bt51010 => (some (t51007, bt51010.1, 0)))) = some (r1, r2, r3) := H
            have A12 := Aside0.mk A120
            clear A120
            replace H := Option.bind_eq_some_iff.mp H
            obtain ⟨t51009, A130, H⟩ := H
            replace H : ((field_Put.f kj6 l0 (IntKind.u64.wrap (t51009)) 4).bind fun bt51010 => (some (t51007, bt51010.1, 0))) = some (r1, r2, r3) := H
            have A13 := Aside0.mk A130
            clear A130
            replace H := Option.bind_eq_some_iff.mp H
            obtain ⟨⟨t51010, t51011⟩, A140, H⟩ := H
            replace H : (some (t51007, t51010, 0)) = some (r1, r2, r3) := H
            have A14 := Aside0.mk A140
            clear A140
            simp only [Option.some.injEq, Prod.mk.injEq] at H
            obtain ⟨rfl, rfl, rfl⟩ := H
            go_wp2_with (first | ((with_reducible refine gate_callee (f := 42) rfl ?_); refine goesL_ (some 34) rfl rfl Try.func42 (by kernel_rfl) rfl #[.int .i64 (l0.length : Int), .bool false] rfl (by (try simp only [List.map_toArray, List.map_cons, List.map_nil]); first | done | rfl | (simp only [List.length_drop, List.length_take]; rfl)) ?_; (with_reducible refine (blocks_Word.calls kj6 (l0.length : Int) false t51007 t51008 _ A12.out).mono ?_); rintro e w' ⟨rfl, ⟨nd, rfl⟩⟩; refine ⟨_, rfl, ?_⟩) | ((with_reducible refine gate_callee (f := 75) rfl ?_); refine goesL_ (some 40) rfl rfl Try.func75 (by kernel_rfl) rfl #[.pointer none, .slice A0 l0.length c0] rfl (by (try simp only [List.map_toArray, List.map_cons, List.map_nil]); first | done | rfl | (simp only [List.length_drop, List.length_take]; rfl)) ?_; (with_reducible refine (sum_Crc.calls kj6  _ _ l0 t51009 _ ?side1 ?side2 A13.out).mono ?_); (case side1 => repeat (first | exact (Kd.C_below HR0.out (by repeat (first | (with_reducible first | exact HB.out | apply below_alloc | apply pw_below_drewN | apply below_drew1) | exact HB.out))) | (with_reducible refine Kd.C_alloc ?_ _) | (with_reducible refine Kd.C_drewN ?_ _) | (with_reducible refine Kd.C_drew ?_))); (case side2 => exact HC0.out); rintro e w' ⟨rfl, ⟨nd, rfl⟩⟩; refine ⟨_, rfl, ?_⟩) | ((with_reducible refine gate_callee (f := 79) rfl ?_); refine goesL_ (some 42) rfl rfl Try.func79 (by kernel_rfl) rfl #[.slice A0 l0.length c0, .int .u64 (IntKind.u64.wrap (t51009)), .int .i64 4] rfl (by (try simp only [List.map_toArray, List.map_cons, List.map_nil]); first | done | rfl | (simp only [List.length_drop, List.length_take]; rfl)) ?_; (with_reducible refine (field_Put.calls kj6 _ _ l0 (IntKind.u64.wrap (t51009)) 4 t51010 t51011 _ ?side1 ?side2 A14.out).mono ?_); (case side1 => repeat (first | exact (Kd.C_below HR0.out (by repeat (first | (with_reducible first | exact HB.out | apply below_alloc | apply pw_below_drewN | apply below_drew1) | exact HB.out))) | (with_reducible refine Kd.C_alloc ?_ _) | (with_reducible refine Kd.C_drewN ?_ _) | (with_reducible refine Kd.C_drew ?_))); (case side2 => exact HC0.out); rintro e w15 ⟨v51012, rfl, ho0, hb⟩; refine ⟨_, rfl, ?_⟩; have n0_ := Aside0.mk (Kd.R_elder' (by (with_reducible repeat (first | apply Kd.R_alloc | apply Kd.R_drewN | apply Kd.R_drew)); exact HO_7.out) (Kd.R_base ho0) hb); have n1_ := Aside0.mk (Kd.R_lower (Kd.R_new' ho0 (Kd.R_lt (by (with_reducible repeat (first | apply Kd.R_alloc | apply Kd.R_drewN | apply Kd.R_drew)); exact HO_7.out))) (below_size (by repeat (first | (with_reducible first | exact HB.out | apply below_alloc | apply pw_below_drewN | apply below_drew1) | exact HB.out)))); have n2_ := Aside0.mk (below_step (by repeat (first | (with_reducible first | exact HB.out | apply below_alloc | apply pw_below_drewN | apply below_drew1) | exact HB.out)) hb); clear HO_7; clear HB; have HO_7 := n0_; have HO51013 := n1_; have HB := n2_; clear n0_ n1_ n2_; (try clear hb); (try clear hb2); (try clear hk); (try clear hi); (try clear ho0)))
            go_ret3
            exact ⟨_, by first | rfl | (simp [errW_none, errW_some] <;> rfl) | (simp [*, errW_none, errW_some] <;> rfl), by (with_reducible repeat (first | apply Kd.R_alloc | apply Kd.R_drewN | apply Kd.R_drew)); exact Kd.R_mono HO51013.out (fun _ hk => trivial), by repeat (first | (with_reducible first | exact HB.out | apply below_alloc | apply pw_below_drewN | apply below_drew1) | exact HB.out)⟩
          · replace c11 := Bool.eq_false_iff.mpr c11
            subst c11
            have H1 : ((blocks_Word.f kj6 (t51002.length : Int) t51003).bind fun bt51014 => ((sum_Crc.f kj6 t51002).bind fun t51016 => ((field_Put.f kj6 t51002 (IntKind.u64.wrap (t51016)) 4).bind fun bt51017 => (some (bt51014.1, bt51017.1, 0))))) = some (r1, r2, r3) := by rw [if_neg (show ¬ (false = true) by decide)] at H; exact H
            clear H
            have H := H1
            clear H1
            replace H := Option.bind_eq_some_iff.mp H
            obtain ⟨⟨t51014, t51015⟩, A160, H⟩ := H
            replace H : ((sum_Crc.f kj6 t51002).bind fun t51016 => ((field_Put.f kj6 t51002 (IntKind.u64.wrap (t51016)) 4).bind fun bt51017 => (some (t51014, bt51017.1, 0)))) = some (r1, r2, r3) := H
            have A16 := Aside0.mk A160
            clear A160
            replace H := Option.bind_eq_some_iff.mp H
            obtain ⟨t51016, A170, H⟩ := H
            replace H : ((field_Put.f kj6 t51002 (IntKind.u64.wrap (t51016)) 4).bind fun bt51017 => (some (t51014, bt51017.1, 0))) = some (r1, r2, r3) := H
            have A17 := Aside0.mk A170
            clear A170
            replace H := Option.bind_eq_some_iff.mp H
            obtain ⟨⟨t51017, t51018⟩, A180, H⟩ := H
            replace H : (some (t51014, t51017, 0)) = some (r1, r2, r3) := H
            have A18 := Aside0.mk A180
            clear A180
            simp only [Option.some.injEq, Prod.mk.injEq] at H
            obtain ⟨rfl, rfl, rfl⟩ := H
            obtain ⟨Ao19, co19, eo19⟩ := Kd.R_slice HO_7.out
            subst eo19
            go_wp2_with (first | ((with_reducible refine gate_callee (f := 42) rfl ?_); refine goesL_ (some 34) rfl rfl Try.func42 (by kernel_rfl) rfl #[.int .i64 (t51002.length : Int), .bool t51003] rfl (by (try simp only [List.map_toArray, List.map_cons, List.map_nil]); first | done | rfl | (simp only [List.length_drop, List.length_take]; rfl)) ?_; (with_reducible refine (blocks_Word.calls kj6 (t51002.length : Int) t51003 t51014 t51015 _ A16.out).mono ?_); rintro e w' ⟨rfl, ⟨nd, rfl⟩⟩; refine ⟨_, rfl, ?_⟩) | ((with_reducible refine gate_callee (f := 75) rfl ?_); refine goesL_ (some 40) rfl rfl Try.func75 (by kernel_rfl) rfl #[.pointer none, .slice Ao19 t51002.length co19] rfl (by (try simp only [List.map_toArray, List.map_cons, List.map_nil]); first | done | rfl | (simp only [List.length_drop, List.length_take]; rfl)) ?_; (with_reducible refine (sum_Crc.calls kj6  _ _ t51002 t51016 _ ?side1 ?side2 A17.out).mono ?_); (case side1 => repeat (first | exact (Kd.R_reads' HO_7.out).2.2 | (with_reducible refine Kd.C_alloc ?_ _) | (with_reducible refine Kd.C_drewN ?_ _) | (with_reducible refine Kd.C_drew ?_))); (case side2 => exact (Kd.R_reads' HO_7.out).2.1); rintro e w' ⟨rfl, ⟨nd, rfl⟩⟩; refine ⟨_, rfl, ?_⟩) | ((with_reducible refine gate_callee (f := 79) rfl ?_); refine goesL_ (some 42) rfl rfl Try.func79 (by kernel_rfl) rfl #[.slice Ao19 t51002.length co19, .int .u64 (IntKind.u64.wrap (t51016)), .int .i64 4] rfl (by (try simp only [List.map_toArray, List.map_cons, List.map_nil]); first | done | rfl | (simp only [List.length_drop, List.length_take]; rfl)) ?_; (with_reducible refine (field_Put.calls kj6 _ _ t51002 (IntKind.u64.wrap (t51016)) 4 t51017 t51018 _ ?side1 ?side2 A18.out).mono ?_); (case side1 => repeat (first | exact (Kd.R_reads' HO_7.out).2.2 | (with_reducible refine Kd.C_alloc ?_ _) | (with_reducible refine Kd.C_drewN ?_ _) | (with_reducible refine Kd.C_drew ?_))); (case side2 => exact (Kd.R_reads' HO_7.out).2.1); rintro e w20 ⟨v51019, rfl, ho0, hb⟩; refine ⟨_, rfl, ?_⟩; have n0_ := Aside0.mk (Kd.R_elder' (by (with_reducible repeat (first | apply Kd.R_alloc | apply Kd.R_drewN | apply Kd.R_drew)); exact HO_7.out) (Kd.R_base ho0) hb); have n1_ := Aside0.mk (Kd.R_lower (Kd.R_new' ho0 (Kd.R_lt (by (with_reducible repeat (first | apply Kd.R_alloc | apply Kd.R_drewN | apply Kd.R_drew)); exact HO_7.out))) (below_size (by repeat (first | (with_reducible first | exact HB.out | apply below_alloc | apply pw_below_drewN | apply below_drew1) | exact HB.out)))); have n2_ := Aside0.mk (below_step (by repeat (first | (with_reducible first | exact HB.out | apply below_alloc | apply pw_below_drewN | apply below_drew1) | exact HB.out)) hb); clear HO_7; clear HB; have HO_7 := n0_; have HO51020 := n1_; have HB := n2_; clear n0_ n1_ n2_; (try clear hb); (try clear hb2); (try clear hk); (try clear hi); (try clear ho0)))
            go_ret3
            exact ⟨_, by first | rfl | (simp [errW_none, errW_some] <;> rfl) | (simp [*, errW_none, errW_some] <;> rfl), by (with_reducible repeat (first | apply Kd.R_alloc | apply Kd.R_drewN | apply Kd.R_drew)); exact Kd.R_mono HO51020.out (fun _ hk => trivial), by repeat (first | (with_reducible first | exact HB.out | apply below_alloc | apply pw_below_drewN | apply below_drew1) | exact HB.out)⟩
    · replace c5 := Bool.eq_false_iff.mpr c5
      subst c5
      have H1 : (some (0, ([] : List Int), 0)) = some (r1, r2, r3) := by rw [if_neg (show ¬ (false = true) by decide)] at H; exact H
      clear H
      have H := H1
      clear H1
      simp only [Option.some.injEq, Prod.mk.injEq] at H
      obtain ⟨rfl, rfl, rfl⟩ := H
      go_enter Try.func50, Try.ntmps50
      go_wp2_with (first | ((with_reducible refine gate_callee (f := 80) rfl ?_); refine goesL_ (some 14) rfl rfl Try.func80 (by kernel_rfl) rfl #[.slice A0 l0.length c0, .func (.func 81) #[] #[]] rfl (by (try simp only [List.map_toArray, List.map_cons, List.map_nil]); first | done | rfl | (simp only [List.length_drop, List.length_take]; rfl)) ?_; (with_reducible refine (slices_ContainsFunc_byte_byte.calls k _ _ l0  false _ ?side1 ?side2 A4.out).mono ?_); (case side1 => repeat (first | exact HR0.out | (with_reducible refine Kd.C_alloc ?_ _) | (with_reducible refine Kd.C_drewN ?_ _) | (with_reducible refine Kd.C_drew ?_))); (case side2 => exact HC0.out); rintro e w' ⟨rfl, ⟨nd, rfl⟩⟩; refine ⟨_, rfl, ?_⟩))
      go_ret3
      exact ⟨_, by first | rfl | (simp [errW_none, errW_some] <;> rfl) | (simp [*, errW_none, errW_some] <;> rfl), by first | exact Kd.R_nil _ _ _ _ _ | exact Kd.N_nil _ _ _ _ _ | exact Kd.V_nil _ _ _ _ _ | exact Kd.Q_nil _ _ _ _ _ | exact Kd.S_nil _ _ _ _ _, by repeat (first | (with_reducible first | exact HB.out | apply below_alloc | apply pw_below_drewN | apply below_drew1) | exact HB.out)⟩

end Go.Proofs.Ytdlfflgcmgkmeaa.P

-- Written by a program of this session's own (wip/tools), over the translation. Not trusted: Lean checks it.
namespace Go.Proofs.Ytdlfflgcmgkmeaa.P
open Go.RowKit Go.Proofs.YtdlfflgcmgkmeaaW.PrintWords Go.Proofs.YtdlfflgcmgkmeaaW.PrintLast Go.Proofs.YtdlfflgcmgkmeaaW.PrintMore
attribute [local go_sem] max2_int min2_int max_two min_two max_three min_three max_four min_four   -- for this text's walks alone
set_option linter.unusedVariables false
set_option linter.unusedSimpArgs false

/-! ### portmanteaulaw18_live: function 43 -/
def portmanteaulaw18_live.f (k : Nat)  : Option (Bool) := (blocks_Store.f k (([1, 2, 3] : List Int)) 0).bind fun bt44004 => ((portmanteaulaw18_num.f bt44004.2.2).bind fun t44009 => (if t44009 = 0 then (if bt44004.1 = 2147483651 then (some ((strOfNums bt44004.2.1).toList == ([1, 2, 3, 29, 128, 188, 85] : List UInt8))) else (some false)) else (some false)))
theorem portmanteaulaw18_live.mono : ∀ k, LeO (portmanteaulaw18_live.f k ) (portmanteaulaw18_live.f (k + 1) ) := by
  intro  k
  unfold portmanteaulaw18_live.f
  repeat' first
      | (with_reducible exact blocks_Store.mono _ _ _)
      | (with_reducible exact LeO.refl _)
      | (with_reducible exact LeO.none _)
      | (with_reducible refine LeO.ite ?_ ?_)
      | (with_reducible refine LeO.bind ?_ (fun _ => ?_))
      | exact blocks_Store.mono _ _ _
      | exact LeO.none _
      | refine LeO.ite ?_ ?_
      | refine LeO.bind ?_ (fun _ => ?_)
set_option maxHeartbeats 8000000 in
set_option maxRecDepth 100000 in
theorem portmanteaulaw18_live.calls (k : Nat)  (r : Bool) (w : World) (h : portmanteaulaw18_live.f k  = some r) :
    Calls Try.prog 43 #[] w fun e w' => e = .returned (.bool r) ∧ Below w.heap.size w w' := by
  have HB := Aside0.mk (Below.refl w.heap.size w)
  have H : ((blocks_Store.f k (([1, 2, 3] : List Int)) 0).bind fun bt44004 => ((portmanteaulaw18_num.f bt44004.2.2).bind fun t44009 => (if t44009 = 0 then (if bt44004.1 = 2147483651 then (some ((strOfNums bt44004.2.1).toList == ([1, 2, 3, 29, 128, 188, 85] : List UInt8))) else (some false)) else (some false)))) = some r := h
  clear h
  obtain ⟨y44001, hy44001⟩ : ∃ y_ : List Int, y_ = (([1, 2, 3] : List Int)) := ⟨_, rfl⟩
  replace H : ((blocks_Store.f k y44001 0).bind fun bt44004 => ((portmanteaulaw18_num.f bt44004.2.2).bind fun t44009 => (if t44009 = 0 then (if bt44004.1 = 2147483651 then (some ((strOfNums bt44004.2.1).toList == ([1, 2, 3, 29, 128, 188, 85] : List UInt8))) else (some false)) else (some false)))) = some r := by first | (rw [hy44001]; with_reducible exact H) | (have H2_ := (Option.bind_some _ _).symm.trans H; rw [hy44001]; with_reducible exact H2_) | (have H2_ := (Option.bind_some _ _).symm.trans H; with_reducible exact H2_) | with_reducible exact H | (rw [hy44001]; exact H) | exact H
  have Ny44001 := Aside0.mk hy44001
  clear hy44001
  replace H := Option.bind_eq_some_iff.mp H
  obtain ⟨⟨t44004, t44005, t44006⟩, A10, H⟩ := H
  replace H : ((portmanteaulaw18_num.f t44006).bind fun t44009 => (if t44009 = 0 then (if t44004 = 2147483651 then (some ((strOfNums t44005).toList == ([1, 2, 3, 29, 128, 188, 85] : List UInt8))) else (some false)) else (some false))) = some r := H
  have A1 := Aside0.mk A10
  clear A10
  replace H := Option.bind_eq_some_iff.mp H
  obtain ⟨t44009, A20, H⟩ := H
  replace H : (if t44009 = 0 then (if t44004 = 2147483651 then (some ((strOfNums t44005).toList == ([1, 2, 3, 29, 128, 188, 85] : List UInt8))) else (some false)) else (some false)) = some r := H
  have A2 := Aside0.mk A20
  clear A20
  by_cases c3 : t44009 = 0
  · rw [if_pos c3] at H
    have c3b0 : (t44009 == 0) = true := beq_iff_eq.mpr c3
    have c3b1 : (t44009 != 0) = false := bne_eq_false_iff_eq.mpr c3
    clear c3
    by_cases c4 : t44004 = 2147483651
    · rw [if_pos c4] at H
      have c4b0 : (t44004 == 2147483651) = true := beq_iff_eq.mpr c4
      have c4b1 : (t44004 != 2147483651) = false := bne_eq_false_iff_eq.mpr c4
      clear c4
      obtain rfl := Option.some.inj H
      go_enter Try.func43, Try.ntmps43
      go_wp2_with (first | ((with_reducible refine gate_dst (N := 5) rfl ?_); refine Kd.R_lit (Kd.int .u8) _ 5 ?hg (N := 5) ?hd (xs := ([1, 2, 3] : List Int)) (inner := [.int .u8 1, .int .u8 2, .int .u8 3]) (ok := fun _ => True) (okp := fun _ => True) ?hr ?hp (fun _ hk => hk) trivial (Below.refl _ _) (Nat.le_refl _) (by simp) ?_; (case hd => rfl); (case hg => rfl); (case hr => first | (go_simp; done) | (go_simp; rfl)); (case hp => exact (Reps.one (show Kd.M (Kd.int .u8) _ _ _ 1 [.int .u8 1] from rfl) (Reps.one (show Kd.M (Kd.int .u8) _ _ _ 2 [.int .u8 2] from rfl) (Reps.one (show Kd.M (Kd.int .u8) _ _ _ 3 [.int .u8 3] from rfl) (Reps.none _ _))))); intro v44002 w5 ho6 hb hg_ hnew_; clear hg_ hnew_; (first | rw [← Ny44001.out] at ho6 | (simp only [Int.reduceToNat] at ho6; rw [← Ny44001.out] at ho6)); have n0_ := Aside0.mk (Kd.R_lower ho6 (below_size (by repeat (first | (with_reducible first | exact HB.out | apply below_alloc | apply pw_below_drewN | apply below_drew1) | exact HB.out)))); have n1_ := Aside0.mk (below_step (by repeat (first | (with_reducible first | exact HB.out | apply below_alloc | apply pw_below_drewN | apply below_drew1) | exact HB.out)) hb); clear HB; have HO44003 := n0_; have HB := n1_; clear n0_ n1_; clear hb ho6; obtain ⟨Ao7, co7, eo7⟩ := Kd.R_slice HO44003.out; subst eo7) | ((with_reducible refine gate_callee (f := 50) rfl ?_); refine goesL_ (some 6) rfl rfl Try.func50 (by kernel_rfl) rfl #[.slice Ao7 y44001.length co7, .float .f64 0] rfl (by (try simp only [List.map_toArray, List.map_cons, List.map_nil]); first | done | rfl | (simp only [List.length_drop, List.length_take]; rfl)) ?_; (with_reducible refine (blocks_Store.calls k _ _ y44001 0 t44004 t44005 t44006 _ ?side1 ?side2 A1.out).mono ?_); (case side1 => repeat (first | exact (Kd.R_reads' HO44003.out).2.2 | (with_reducible refine Kd.C_alloc ?_ _) | (with_reducible refine Kd.C_drewN ?_ _) | (with_reducible refine Kd.C_drew ?_))); (case side2 => exact (Kd.R_reads' HO44003.out).2.1); rintro e w8 ⟨v44007, rfl, ho0, hb⟩; refine ⟨_, rfl, ?_⟩; have n0_ := Aside0.mk (Kd.R_elder' (by (with_reducible repeat (first | apply Kd.R_alloc | apply Kd.R_drewN | apply Kd.R_drew)); exact HO44003.out) (Kd.R_base ho0) hb); have n1_ := Aside0.mk (Kd.R_lower (Kd.R_new' ho0 (Kd.R_lt (by (with_reducible repeat (first | apply Kd.R_alloc | apply Kd.R_drewN | apply Kd.R_drew)); exact HO44003.out))) (below_size (by repeat (first | (with_reducible first | exact HB.out | apply below_alloc | apply pw_below_drewN | apply below_drew1) | exact HB.out)))); have n2_ := Aside0.mk (below_step (by repeat (first | (with_reducible first | exact HB.out | apply below_alloc | apply pw_below_drewN | apply below_drew1) | exact HB.out)) hb); clear HO44003; clear HB; have HO44003 := n0_; have HO44008 := n1_; have HB := n2_; clear n0_ n1_ n2_; (try clear hb); (try clear hb2); (try clear hk); (try clear hi); (try clear ho0)) | ((with_reducible refine gate_callee (f := 41) rfl ?_); refine goesL_ (some 11) rfl rfl Try.func41 (by kernel_rfl) rfl #[.int .i64 t44006] rfl (by (try simp only [List.map_toArray, List.map_cons, List.map_nil]); first | done | rfl | (simp only [List.length_drop, List.length_take]; rfl)) ?_; (with_reducible refine (portmanteaulaw18_num.calls t44006 t44009 _ A2.out).mono ?_); rintro e w' ⟨rfl, ⟨nd, rfl⟩⟩; refine ⟨_, rfl, ?_⟩; have hcv9 := own_string (P := Try.prog) Try.underlying22 Try.underlying5 Try.underlying9 (Kd.own_of_R HO44008.out); have hcv10 := fun n_ => own_string (P := Try.prog) Try.underlying22 Try.underlying5 Try.underlying9 (Kd.own_of_R (Kd.R_drewN HO44008.out n_))))
      go_ret
      exact ⟨by first | rfl | (simp [errW_none, errW_some] <;> rfl) | (simp [*, errW_none, errW_some] <;> rfl), by repeat (first | (with_reducible first | exact HB.out | apply below_alloc | apply pw_below_drewN | apply below_drew1) | exact HB.out)⟩
    · rw [if_neg c4] at H
      have c4b0 : (t44004 == 2147483651) = false := beq_eq_false_iff_ne.mpr c4
      have c4b1 : (t44004 != 2147483651) = true := bne_iff_ne.mpr c4
      obtain rfl := Option.some.inj H
      go_enter Try.func43, Try.ntmps43
      go_wp2_with (first | ((with_reducible refine gate_dst (N := 5) rfl ?_); refine Kd.R_lit (Kd.int .u8) _ 5 ?hg (N := 5) ?hd (xs := ([1, 2, 3] : List Int)) (inner := [.int .u8 1, .int .u8 2, .int .u8 3]) (ok := fun _ => True) (okp := fun _ => True) ?hr ?hp (fun _ hk => hk) trivial (Below.refl _ _) (Nat.le_refl _) (by simp) ?_; (case hd => rfl); (case hg => rfl); (case hr => first | (go_simp; done) | (go_simp; rfl)); (case hp => exact (Reps.one (show Kd.M (Kd.int .u8) _ _ _ 1 [.int .u8 1] from rfl) (Reps.one (show Kd.M (Kd.int .u8) _ _ _ 2 [.int .u8 2] from rfl) (Reps.one (show Kd.M (Kd.int .u8) _ _ _ 3 [.int .u8 3] from rfl) (Reps.none _ _))))); intro v44002 w11 ho12 hb hg_ hnew_; clear hg_ hnew_; (first | rw [← Ny44001.out] at ho12 | (simp only [Int.reduceToNat] at ho12; rw [← Ny44001.out] at ho12)); have n0_ := Aside0.mk (Kd.R_lower ho12 (below_size (by repeat (first | (with_reducible first | exact HB.out | apply below_alloc | apply pw_below_drewN | apply below_drew1) | exact HB.out)))); have n1_ := Aside0.mk (below_step (by repeat (first | (with_reducible first | exact HB.out | apply below_alloc | apply pw_below_drewN | apply below_drew1) | exact HB.out)) hb); clear HB; have HO44003 := n0_; have HB := n1_; clear n0_ n1_; clear hb ho12; obtain ⟨Ao13, co13, eo13⟩ := Kd.R_slice HO44003.out; subst eo13) | ((with_reducible refine gate_callee (f := 50) rfl ?_); refine goesL_ (some 6) rfl rfl Try.func50 (by kernel_rfl) rfl #[.slice Ao13 y44001.length co13, .float .f64 0] rfl (by (try simp only [List.map_toArray, List.map_cons, List.map_nil]); first | done | rfl | (simp only [List.length_drop, List.length_take]; rfl)) ?_; (with_reducible refine (blocks_Store.calls k _ _ y44001 0 t44004 t44005 t44006 _ ?side1 ?side2 A1.out).mono ?_); (case side1 => repeat (first | exact (Kd.R_reads' HO44003.out).2.2 | (with_reducible refine Kd.C_alloc ?_ _) | (with_reducible refine Kd.C_drewN ?_ _) | (with_reducible refine Kd.C_drew ?_))); (case side2 => exact (Kd.R_reads' HO44003.out).2.1); rintro e w14 ⟨v44007, rfl, ho0, hb⟩; refine ⟨_, rfl, ?_⟩; have n0_ := Aside0.mk (Kd.R_elder' (by (with_reducible repeat (first | apply Kd.R_alloc | apply Kd.R_drewN | apply Kd.R_drew)); exact HO44003.out) (Kd.R_base ho0) hb); have n1_ := Aside0.mk (Kd.R_lower (Kd.R_new' ho0 (Kd.R_lt (by (with_reducible repeat (first | apply Kd.R_alloc | apply Kd.R_drewN | apply Kd.R_drew)); exact HO44003.out))) (below_size (by repeat (first | (with_reducible first | exact HB.out | apply below_alloc | apply pw_below_drewN | apply below_drew1) | exact HB.out)))); have n2_ := Aside0.mk (below_step (by repeat (first | (with_reducible first | exact HB.out | apply below_alloc | apply pw_below_drewN | apply below_drew1) | exact HB.out)) hb); clear HO44003; clear HB; have HO44003 := n0_; have HO44008 := n1_; have HB := n2_; clear n0_ n1_ n2_; (try clear hb); (try clear hb2); (try clear hk); (try clear hi); (try clear ho0)) | ((with_reducible refine gate_callee (f := 41) rfl ?_); refine goesL_ (some 11) rfl rfl Try.func41 (by kernel_rfl) rfl #[.int .i64 t44006] rfl (by (try simp only [List.map_toArray, List.map_cons, List.map_nil]); first | done | rfl | (simp only [List.length_drop, List.length_take]; rfl)) ?_; (with_reducible refine (portmanteaulaw18_num.calls t44006 t44009 _ A2.out).mono ?_); rintro e w' ⟨rfl, ⟨nd, rfl⟩⟩; refine ⟨_, rfl, ?_⟩))
      go_ret
      exact ⟨by first | rfl | (simp [errW_none, errW_some] <;> rfl) | (simp [*, errW_none, errW_some] <;> rfl), by repeat (first | (with_reducible first | exact HB.out | apply below_alloc | apply pw_below_drewN | apply below_drew1) | exact HB.out)⟩
  · rw [if_neg c3] at H
    have c3b0 : (t44009 == 0) = false := beq_eq_false_iff_ne.mpr c3
    have c3b1 : (t44009 != 0) = true := bne_iff_ne.mpr c3
    obtain rfl := Option.some.inj H
    go_enter Try.func43, Try.ntmps43
    go_wp2_with (first | ((with_reducible refine gate_dst (N := 5) rfl ?_); refine Kd.R_lit (Kd.int .u8) _ 5 ?hg (N := 5) ?hd (xs := ([1, 2, 3] : List Int)) (inner := [.int .u8 1, .int .u8 2, .int .u8 3]) (ok := fun _ => True) (okp := fun _ => True) ?hr ?hp (fun _ hk => hk) trivial (Below.refl _ _) (Nat.le_refl _) (by simp) ?_; (case hd => rfl); (case hg => rfl); (case hr => first | (go_simp; done) | (go_simp; rfl)); (case hp => exact (Reps.one (show Kd.M (Kd.int .u8) _ _ _ 1 [.int .u8 1] from rfl) (Reps.one (show Kd.M (Kd.int .u8) _ _ _ 2 [.int .u8 2] from rfl) (Reps.one (show Kd.M (Kd.int .u8) _ _ _ 3 [.int .u8 3] from rfl) (Reps.none _ _))))); intro v44002 w15 ho16 hb hg_ hnew_; clear hg_ hnew_; (first | rw [← Ny44001.out] at ho16 | (simp only [Int.reduceToNat] at ho16; rw [← Ny44001.out] at ho16)); have n0_ := Aside0.mk (Kd.R_lower ho16 (below_size (by repeat (first | (with_reducible first | exact HB.out | apply below_alloc | apply pw_below_drewN | apply below_drew1) | exact HB.out)))); have n1_ := Aside0.mk (below_step (by repeat (first | (with_reducible first | exact HB.out | apply below_alloc | apply pw_below_drewN | apply below_drew1) | exact HB.out)) hb); clear HB; have HO44003 := n0_; have HB := n1_; clear n0_ n1_; clear hb ho16; obtain ⟨Ao17, co17, eo17⟩ := Kd.R_slice HO44003.out; subst eo17) | ((with_reducible refine gate_callee (f := 50) rfl ?_); refine goesL_ (some 6) rfl rfl Try.func50 (by kernel_rfl) rfl #[.slice Ao17 y44001.length co17, .float .f64 0] rfl (by (try simp only [List.map_toArray, List.map_cons, List.map_nil]); first | done | rfl | (simp only [List.length_drop, List.length_take]; rfl)) ?_; (with_reducible refine (blocks_Store.calls k _ _ y44001 0 t44004 t44005 t44006 _ ?side1 ?side2 A1.out).mono ?_); (case side1 => repeat (first | exact (Kd.R_reads' HO44003.out).2.2 | (with_reducible refine Kd.C_alloc ?_ _) | (with_reducible refine Kd.C_drewN ?_ _) | (with_reducible refine Kd.C_drew ?_))); (case side2 => exact (Kd.R_reads' HO44003.out).2.1); rintro e w18 ⟨v44007, rfl, ho0, hb⟩; refine ⟨_, rfl, ?_⟩; have n0_ := Aside0.mk (Kd.R_elder' (by (with_reducible repeat (first | apply Kd.R_alloc | apply Kd.R_drewN | apply Kd.R_drew)); exact HO44003.out) (Kd.R_base ho0) hb); have n1_ := Aside0.mk (Kd.R_lower (Kd.R_new' ho0 (Kd.R_lt (by (with_reducible repeat (first | apply Kd.R_alloc | apply Kd.R_drewN | apply Kd.R_drew)); exact HO44003.out))) (below_size (by repeat (first | (with_reducible first | exact HB.out | apply below_alloc | apply pw_below_drewN | apply below_drew1) | exact HB.out)))); have n2_ := Aside0.mk (below_step (by repeat (first | (with_reducible first | exact HB.out | apply below_alloc | apply pw_below_drewN | apply below_drew1) | exact HB.out)) hb); clear HO44003; clear HB; have HO44003 := n0_; have HO44008 := n1_; have HB := n2_; clear n0_ n1_ n2_; (try clear hb); (try clear hb2); (try clear hk); (try clear hi); (try clear ho0)) | ((with_reducible refine gate_callee (f := 41) rfl ?_); refine goesL_ (some 11) rfl rfl Try.func41 (by kernel_rfl) rfl #[.int .i64 t44006] rfl (by (try simp only [List.map_toArray, List.map_cons, List.map_nil]); first | done | rfl | (simp only [List.length_drop, List.length_take]; rfl)) ?_; (with_reducible refine (portmanteaulaw18_num.calls t44006 t44009 _ A2.out).mono ?_); rintro e w' ⟨rfl, ⟨nd, rfl⟩⟩; refine ⟨_, rfl, ?_⟩))
    go_ret
    exact ⟨by first | rfl | (simp [errW_none, errW_some] <;> rfl) | (simp [*, errW_none, errW_some] <;> rfl), by repeat (first | (with_reducible first | exact HB.out | apply below_alloc | apply pw_below_drewN | apply below_drew1) | exact HB.out)⟩

end Go.Proofs.Ytdlfflgcmgkmeaa.P

-- Written by a program of this session's own (wip/tools), over the translation. Not trusted: Lean checks it.
namespace Go.Proofs.Ytdlfflgcmgkmeaa.P
open Go.RowKit Go.Proofs.YtdlfflgcmgkmeaaW.PrintWords Go.Proofs.YtdlfflgcmgkmeaaW.PrintLast Go.Proofs.YtdlfflgcmgkmeaaW.PrintMore
attribute [local go_sem] max2_int min2_int max_two min_two max_three min_three max_four min_four   -- for this text's walks alone
set_option linter.unusedVariables false
set_option linter.unusedSimpArgs false

/-! ### portmanteauref05_length: function 89 -/
def portmanteauref05_length.l0 : Nat → List Int → Int → Int → Option (Int × Int)
  | 0, _, _, _ => none
  | k + 1, x0, x1, x2 => if x2 < (x0.length : Int) then (if 0 ≤ x2 then (if 0 ≤ (wrap64 ((wrap64 (x2 + 1)) - 1)) then (if (wrap64 ((wrap64 (x2 + 1)) - 1)) < (x0.length : Int) then (if (rd x0 (wrap64 ((wrap64 (x2 + 1)) - 1))) = 255 then (portmanteauref05_length.l0 k x0 (wrap64 (x1 + (wrap64 (rd x0 x2)))) (wrap64 (x2 + 1))) else (some (wrap64 (x1 + (wrap64 (rd x0 x2))), wrap64 (x2 + 1)))) else (none)) else (none)) else (none)) else (some ((-1), x2))
def portmanteauref05_length.f (k : Nat) (l0 : List Int) (a1 : Int) (a2 : Int) : Option (Int × Int) := if a1 < 15 then (some (a1, a2)) else (portmanteauref05_length.l0 k l0 a1 a2)
theorem portmanteauref05_length.mono_l : ∀ k, (∀ y0 y1 y2, LeO (portmanteauref05_length.l0 k y0 y1 y2) (portmanteauref05_length.l0 (k + 1) y0 y1 y2))
  | 0 => fun _ _ _ r h => by simp [portmanteauref05_length.l0] at h
  | k + 1 => by
    have ih0 := portmanteauref05_length.mono_l k
    · intro y0 y1 y2
      unfold portmanteauref05_length.l0
      repeat' first
      | (with_reducible exact ih0 _ _ _)
      | (with_reducible exact LeO.refl _)
      | (with_reducible exact LeO.none _)
      | (with_reducible refine LeO.ite ?_ ?_)
      | (with_reducible refine LeO.bind ?_ (fun _ => ?_))
      | exact ih0 _ _ _
      | exact LeO.none _
      | refine LeO.ite ?_ ?_
      | refine LeO.bind ?_ (fun _ => ?_)
theorem portmanteauref05_length.mono : ∀ a0 a1 a2 k, LeO (portmanteauref05_length.f k a0 a1 a2) (portmanteauref05_length.f (k + 1) a0 a1 a2) := by
  intro a0 a1 a2 k
  have ih0 := portmanteauref05_length.mono_l k
  unfold portmanteauref05_length.f
  repeat' first
      | (with_reducible exact ih0 _ _ _)
      | (with_reducible exact LeO.refl _)
      | (with_reducible exact LeO.none _)
      | (with_reducible refine LeO.ite ?_ ?_)
      | (with_reducible refine LeO.bind ?_ (fun _ => ?_))
      | exact ih0 _ _ _
      | exact LeO.none _
      | refine LeO.ite ?_ ?_
      | refine LeO.bind ?_ (fun _ => ?_)
set_option maxHeartbeats 8000000 in
set_option maxRecDepth 100000 in
theorem portmanteauref05_length.calls (k : Nat) (A0 : Option Addr) (c0 : Nat) (l0 : List Int) (a1 : Int) (a2 : Int) (r1 : Int) (r2 : Int) (w : World) (hr0 : Kd.C (Kd.int .u8) w A0 l0.length l0) (hc0 : l0.length ≤ c0) (h : portmanteauref05_length.f k l0 a1 a2 = some (r1, r2)) :
    Calls Try.prog 89 #[.slice A0 l0.length c0, .int .i64 a1, .int .i64 a2] w fun e w' => e = .returned (.tuple #[.int .i64 r1, .int .i64 r2]) ∧ Drawn0 w w' := by
  have HR0 := Aside0.mk hr0
  have HC0 := Aside0.mk hc0
  clear hr0 hc0
  have H : (if a1 < 15 then (some (a1, a2)) else (portmanteauref05_length.l0 k l0 a1 a2)) = some (r1, r2) := h
  clear h
  by_cases c4 : a1 < 15
  · rw [if_pos c4] at H
    have c4b0 : decide (a1 < 15) = true := decide_eq_true c4
    clear c4
    simp only [Option.some.injEq, Prod.mk.injEq] at H
    obtain ⟨rfl, rfl⟩ := H
    go_enter Try.func89, Try.ntmps89
    go_wp2
    go_ret2
    exact ⟨by first | rfl | (simp; done) | (simp [*]; done), by repeat (first | exact Drawn0.refl _ | apply Drawn0.step)⟩
  · rw [if_neg c4] at H
    have c4b0 : decide (a1 < 15) = false := decide_eq_false c4
    clear c4
    have H' := Aside0.mk H
    clear H
    go_enter Try.func89, Try.ntmps89
    go_wp2
    go_loopg [1, 2] k (fun kq v1 v2 w' => ∃ (x1_1 : Int) (x2_1 : Int), v1 = .int .i64 x1_1 ∧ v2 = .int .i64 x2_1 ∧ Aside0 (portmanteauref05_length.l0 kq l0 x1_1 x2_1 = some (r1, r2)) ∧ Aside0 (kq ≤ k) ∧ Drawn0 w w')
    case atStart => exact ⟨(a1), (a2), (by first | rfl | (simp; done) | (simp [*]; done)), (by first | rfl | (simp; done) | (simp [*]; done)), H', ⟨Nat.le_refl _⟩, by repeat (first | exact Drawn0.refl _ | apply Drawn0.step)⟩
    case round =>
      clear H'
      try clear p2
      try clear c4
      try clear c4b0
      obtain ⟨x1_1, x2_1, rfl, rfl, HA, HK1, ⟨m1, rfl⟩⟩ := hrel
      cases gk with
      | zero => exact absurd HA.out (by simp [portmanteauref05_length.l0])
      | succ k1 =>
        have H := HA.out
        clear HA
        simp only [portmanteauref05_length.l0] at H
        by_cases c5 : x2_1 < (l0.length : Int)
        · rw [if_pos c5] at H
          have c5b0 : decide (x2_1 < (l0.length : Int)) = true := decide_eq_true c5
          clear c5
          by_cases c6 : 0 ≤ x2_1
          · rw [if_pos c6] at H
            have c6b0 : decide (0 ≤ x2_1) = true := decide_eq_true c6
            clear c6
            obtain ⟨ji7, hji7⟩ : ∃ j_ : Int, (wrap64 ((wrap64 (x2_1 + 1)) - 1)) = j_ := ⟨_, rfl⟩
            replace H : (if 0 ≤ (ji7) then (if (ji7) < (l0.length : Int) then (if (rd l0 (ji7)) = 255 then (portmanteauref05_length.l0 k1 l0 (wrap64 (x1_1 + (wrap64 (rd l0 x2_1)))) (wrap64 (x2_1 + 1))) else (some (wrap64 (x1_1 + (wrap64 (rd l0 x2_1))), wrap64 (x2_1 + 1)))) else (none)) else (none)) = some (r1, r2) := by first | (rw [hji7] at H; exact H) | (simp only [hji7] at H ⊢; exact H)
            have hji7w : (IntKind.i64.wrap ((wrap64 (x2_1 + 1)) - 1)) = ji7 := (i64_w _).trans hji7
            by_cases c8 : 0 ≤ (ji7)
            · rw [if_pos c8] at H
              have c8b0 : decide (0 ≤ (ji7)) = true := decide_eq_true c8
              clear c8
              by_cases c9 : (ji7) < (l0.length : Int)
              · rw [if_pos c9] at H
                have c9b0 : decide ((ji7) < (l0.length : Int)) = true := decide_eq_true c9
                clear c9
                by_cases c10 : (rd l0 (ji7)) = 255
                · rw [if_pos c10] at H
                  have c10b0 : ((rd l0 (ji7)) == 255) = true := beq_iff_eq.mpr c10
                  have c10b1 : ((rd l0 (ji7)) != 255) = false := bne_eq_false_iff_eq.mpr c10
                  clear c10
                  have H' := Aside0.mk H
                  clear H
                  have p90001 : 0 ≤ (x2_1 : Int) := of_decide_eq_true (by first | (with_reducible assumption) | assumption)
                  have q90001 : x2_1 < (l0.length : Int) := of_decide_eq_true (by first | (with_reducible assumption) | assumption)
                  obtain ⟨ad90001, e90001, hx90001_0⟩ := Kd.at_int HR0.out x2_1 p90001 q90001
                  cases e90001
                  replace p90001 := eq_true p90001
                  replace q90001 := eq_true q90001
                  have p90002 : 0 ≤ ((ji7) : Int) := of_decide_eq_true (by first | (with_reducible assumption) | assumption)
                  have q90002 : (ji7) < (l0.length : Int) := of_decide_eq_true (by first | (with_reducible assumption) | assumption)
                  obtain ⟨ad90002, e90002, hx90002_0⟩ := Kd.at_int HR0.out (ji7) p90002 q90002
                  obtain rfl : ad90001 = ad90002 := (by injection e90002)
                  replace p90002 := eq_true p90002
                  replace q90002 := eq_true q90002
                  go_wp2
                  go_roundg k1
                  case measure => have := HK1.out; omega
                  case rel => exact ⟨(wrap64 (x1_1 + (wrap64 (rd l0 x2_1)))), (wrap64 (x2_1 + 1)), (by first | rfl | (simp; done) | (simp [*]; done)), (by first | rfl | (simp; done) | (simp [*]; done)), H', ⟨by have := HK1.out; omega⟩, by repeat (first | exact Drawn0.refl _ | apply Drawn0.step)⟩
                · rw [if_neg c10] at H
                  have c10b0 : ((rd l0 (ji7)) == 255) = false := beq_eq_false_iff_ne.mpr c10
                  have c10b1 : ((rd l0 (ji7)) != 255) = true := bne_iff_ne.mpr c10
                  simp only [Option.some.injEq, Prod.mk.injEq] at H
                  obtain ⟨rfl, rfl⟩ := H
                  have p90001 : 0 ≤ (x2_1 : Int) := of_decide_eq_true (by first | (with_reducible assumption) | assumption)
                  have q90001 : x2_1 < (l0.length : Int) := of_decide_eq_true (by first | (with_reducible assumption) | assumption)
                  obtain ⟨ad90001, e90001, hx90001_0⟩ := Kd.at_int HR0.out x2_1 p90001 q90001
                  cases e90001
                  replace p90001 := eq_true p90001
                  replace q90001 := eq_true q90001
                  have p90002 : 0 ≤ ((ji7) : Int) := of_decide_eq_true (by first | (with_reducible assumption) | assumption)
                  have q90002 : (ji7) < (l0.length : Int) := of_decide_eq_true (by first | (with_reducible assumption) | assumption)
                  obtain ⟨ad90002, e90002, hx90002_0⟩ := Kd.at_int HR0.out (ji7) p90002 q90002
                  obtain rfl : ad90001 = ad90002 := (by injection e90002)
                  replace p90002 := eq_true p90002
                  replace q90002 := eq_true q90002
                  go_wp2
                  go_ret2
                  exact ⟨by first | rfl | (simp; done) | (simp only [← hji7] <;> (first | rfl | simp)) | (simp [*]; done), by repeat (first | exact Drawn0.refl _ | apply Drawn0.step)⟩
              · rw [if_neg c9] at H
                exact absurd H (by simp)
            · rw [if_neg c8] at H
              exact absurd H (by simp)
          · rw [if_neg c6] at H
            exact absurd H (by simp)
        · rw [if_neg c5] at H
          have c5b0 : decide (x2_1 < (l0.length : Int)) = false := decide_eq_false c5
          clear c5
          simp only [Option.some.injEq, Prod.mk.injEq] at H
          obtain ⟨rfl, rfl⟩ := H
          go_wp2
          go_ret2
          exact ⟨by first | rfl | (simp; done) | (simp [*]; done), by repeat (first | exact Drawn0.refl _ | apply Drawn0.step)⟩

end Go.Proofs.Ytdlfflgcmgkmeaa.P

-- Written by a program of this session's own (wip/tools), over the translation. Not trusted: Lean checks it.
namespace Go.Proofs.Ytdlfflgcmgkmeaa.P
open Go.RowKit Go.Proofs.YtdlfflgcmgkmeaaW.PrintWords Go.Proofs.YtdlfflgcmgkmeaaW.PrintLast Go.Proofs.YtdlfflgcmgkmeaaW.PrintMore
attribute [local go_sem] max2_int min2_int max_two min_two max_three min_three max_four min_four   -- for this text's walks alone
set_option linter.unusedVariables false
set_option linter.unusedSimpArgs false

/-! ### portmanteauref05_Decode: function 64 -/
mutual
def portmanteauref05_Decode.l0 : Nat → List Int → Int → List Int → List (S113) → Int → Option (List Int × (List (S113)) × Int × Int)
  | 0, _, _, _, _, _ => none
  | k + 1, x0, x1, x8, x9, x10 => if x10 ≥ (x0.length : Int) then (some (([] : List Int), ([] : List (S113)), 6, (x0.length : Int))) else (if 0 ≤ x10 then (if x10 < (x0.length : Int) then ((portmanteauref05_length.f k x0 ((Int.tdiv (rd x0 x10) 16) % 256) (wrap64 (x10 + 1))).bind fun bt65002 => (if bt65002.1 < 0 then (some (([] : List Int), ([] : List (S113)), 6, (x0.length : Int))) else (if bt65002.1 > (wrap64 (x1 - (x8.length : Int))) then (some (([] : List Int), ([] : List (S113)), 2, x10)) else (if bt65002.1 > (wrap64 ((x0.length : Int) - bt65002.2)) then (some (([] : List Int), ([] : List (S113)), 6, (x0.length : Int))) else (if 0 ≤ bt65002.2 then (if bt65002.2 ≤ (wrap64 (bt65002.2 + bt65002.1)) then (if (wrap64 (bt65002.2 + bt65002.1)) ≤ (x0.length : Int) then ((some ((x0.take ((wrap64 (bt65002.2 + bt65002.1)) : Int).toNat).drop (bt65002.2 : Int).toNat : List Int)).bind fun y65004 => (if x8.length + y65004.length < 140737488355328 then ((some (x8 ++ y65004 : List Int)).bind fun y65010 => (if (wrap64 (bt65002.2 + bt65002.1)) = (x0.length : Int) then (if x9.length < 3518437208883 then (some (y65010, (x9 ++ [(⟨y65004, 0, 0⟩ : S113)]), 0, (x0.length : Int))) else (none)) else (if (wrap64 ((wrap64 (bt65002.2 + bt65002.1)) + 1)) = (x0.length : Int) then (some (([] : List Int), ([] : List (S113)), 6, (x0.length : Int))) else (if 0 ≤ (wrap64 (bt65002.2 + bt65002.1)) then (if (wrap64 (bt65002.2 + bt65002.1)) < (x0.length : Int) then (if 0 ≤ (wrap64 ((wrap64 (bt65002.2 + bt65002.1)) + 1)) then (if (wrap64 ((wrap64 (bt65002.2 + bt65002.1)) + 1)) < (x0.length : Int) then (if (wrap64 ((wrap64 (rd x0 (wrap64 (bt65002.2 + bt65002.1)))) + (wrap64 (256 * (wrap64 (rd x0 (wrap64 ((wrap64 (bt65002.2 + bt65002.1)) + 1)))))))) = 0 then (portmanteauref05_Decode.j1 k x0 x1 y65010 x9 (wrap64 (bt65002.2 + bt65002.1)) x10 true y65004 (wrap64 ((wrap64 (rd x0 (wrap64 (bt65002.2 + bt65002.1)))) + (wrap64 (256 * (wrap64 (rd x0 (wrap64 ((wrap64 (bt65002.2 + bt65002.1)) + 1)))))))) 0) else (portmanteauref05_Decode.j1 k x0 x1 y65010 x9 (wrap64 (bt65002.2 + bt65002.1)) x10 (decide ((wrap64 ((wrap64 (rd x0 (wrap64 (bt65002.2 + bt65002.1)))) + (wrap64 (256 * (wrap64 (rd x0 (wrap64 ((wrap64 (bt65002.2 + bt65002.1)) + 1)))))))) > (y65010.length : Int))) y65004 (wrap64 ((wrap64 (rd x0 (wrap64 (bt65002.2 + bt65002.1)))) + (wrap64 (256 * (wrap64 (rd x0 (wrap64 ((wrap64 (bt65002.2 + bt65002.1)) + 1)))))))) 0)) else (none)) else (none)) else (none)) else (none))))) else (none))) else (none)) else (none)) else (none)))))) else (none)) else (none))
def portmanteauref05_Decode.j1 : Nat → List Int → Int → List Int → List (S113) → Int → Int → Bool → List Int → Int → Int → Option (List Int × (List (S113)) × Int × Int)
  | 0, _, _, _, _, _, _, _, _, _, _ => none
  | k + 1, x0, x1, x8, x9, x10, x11, x111, x65010000, x65010001, x65010002 => if x111 = true then (some (([] : List Int), ([] : List (S113)), 9, x10)) else (if 0 ≤ x11 then (if x11 < (x0.length : Int) then ((portmanteauref05_length.f k x0 (wrap64 (Int.tmod (rd x0 x11) 16)) (wrap64 (x10 + 2))).bind fun bt65019 => (if bt65019.1 < 0 then (some (([] : List Int), ([] : List (S113)), 6, (x0.length : Int))) else (if (wrap64 (bt65019.1 + 4)) > (wrap64 (x1 - (x8.length : Int))) then (some (([] : List Int), ([] : List (S113)), 2, x11)) else (portmanteauref05_Decode.l1 k x0 x1 x8 x9 bt65019.2 0 x65010000 x65010001 (wrap64 (bt65019.1 + 4)))))) else (none)) else (none))
def portmanteauref05_Decode.l1 : Nat → List Int → Int → List Int → List (S113) → Int → Int → List Int → Int → Int → Option (List Int × (List (S113)) × Int × Int)
  | 0, _, _, _, _, _, _, _, _, _ => none
  | k + 1, x0, x1, x8, x9, x13, x16, x65010000, x65010001, x65010002 => if x16 < x65010002 then (if 0 ≤ (wrap64 ((x8.length : Int) - x65010001)) then (if (wrap64 ((x8.length : Int) - x65010001)) < (x8.length : Int) then (if x8.length < 140737488355328 then (portmanteauref05_Decode.l1 k x0 x1 (x8 ++ [rd x8 (wrap64 ((x8.length : Int) - x65010001))]) x9 x13 (wrap64 (x16 + 1)) x65010000 x65010001 x65010002) else (none)) else (none)) else (none)) else (if x9.length < 3518437208883 then (portmanteauref05_Decode.l0 k x0 x1 x8 (x9 ++ [(⟨x65010000, x65010001, x65010002⟩ : S113)]) x13) else (none))
end
def portmanteauref05_Decode.f (k : Nat) (l0 : List Int) (a1 : Int) : Option (List Int × (List (S113)) × Int × Int) := portmanteauref05_Decode.l0 k l0 a1 ([] : List Int) ([] : List (S113)) 0
theorem portmanteauref05_Decode.mono_l : ∀ k, (∀ y0 y1 y2 y3 y4, LeO (portmanteauref05_Decode.l0 k y0 y1 y2 y3 y4) (portmanteauref05_Decode.l0 (k + 1) y0 y1 y2 y3 y4)) ∧ (∀ y0 y1 y2 y3 y4 y5 y6 y7 y8 y9, LeO (portmanteauref05_Decode.j1 k y0 y1 y2 y3 y4 y5 y6 y7 y8 y9) (portmanteauref05_Decode.j1 (k + 1) y0 y1 y2 y3 y4 y5 y6 y7 y8 y9)) ∧ (∀ y0 y1 y2 y3 y4 y5 y6 y7 y8, LeO (portmanteauref05_Decode.l1 k y0 y1 y2 y3 y4 y5 y6 y7 y8) (portmanteauref05_Decode.l1 (k + 1) y0 y1 y2 y3 y4 y5 y6 y7 y8))
  | 0 => ⟨fun _ _ _ _ _ r h => by simp [portmanteauref05_Decode.l0] at h, fun _ _ _ _ _ _ _ _ _ _ r h => by simp [portmanteauref05_Decode.j1] at h, fun _ _ _ _ _ _ _ _ _ r h => by simp [portmanteauref05_Decode.l1] at h⟩
  | k + 1 => by
    obtain ⟨ih0, ih1, ih2⟩ := portmanteauref05_Decode.mono_l k
    refine ⟨?_, ?_, ?_⟩
    · intro y0 y1 y2 y3 y4
      unfold portmanteauref05_Decode.l0
      repeat' first
      | (with_reducible exact ih0 _ _ _ _ _)
      | (with_reducible exact ih1 _ _ _ _ _ _ _ _ _ _)
      | (with_reducible exact ih2 _ _ _ _ _ _ _ _ _)
      | (with_reducible exact portmanteauref05_length.mono _ _ _ _)
      | (with_reducible exact LeO.refl _)
      | (with_reducible exact LeO.none _)
      | (with_reducible refine LeO.ite ?_ ?_)
      | (with_reducible refine LeO.bind ?_ (fun _ => ?_))
      | exact ih0 _ _ _ _ _
      | exact ih1 _ _ _ _ _ _ _ _ _ _
      | exact ih2 _ _ _ _ _ _ _ _ _
      | exact portmanteauref05_length.mono _ _ _ _
      | exact LeO.none _
      | refine LeO.ite ?_ ?_
      | refine LeO.bind ?_ (fun _ => ?_)
    · intro y0 y1 y2 y3 y4 y5 y6 y7 y8 y9
      unfold portmanteauref05_Decode.j1
      repeat' first
      | (with_reducible exact ih0 _ _ _ _ _)
      | (with_reducible exact ih1 _ _ _ _ _ _ _ _ _ _)
      | (with_reducible exact ih2 _ _ _ _ _ _ _ _ _)
      | (with_reducible exact portmanteauref05_length.mono _ _ _ _)
      | (with_reducible exact LeO.refl _)
      | (with_reducible exact LeO.none _)
      | (with_reducible refine LeO.ite ?_ ?_)
      | (with_reducible refine LeO.bind ?_ (fun _ => ?_))
      | exact ih0 _ _ _ _ _
      | exact ih1 _ _ _ _ _ _ _ _ _ _
      | exact ih2 _ _ _ _ _ _ _ _ _
      | exact portmanteauref05_length.mono _ _ _ _
      | exact LeO.none _
      | refine LeO.ite ?_ ?_
      | refine LeO.bind ?_ (fun _ => ?_)
    · intro y0 y1 y2 y3 y4 y5 y6 y7 y8
      unfold portmanteauref05_Decode.l1
      repeat' first
      | (with_reducible exact ih0 _ _ _ _ _)
      | (with_reducible exact ih1 _ _ _ _ _ _ _ _ _ _)
      | (with_reducible exact ih2 _ _ _ _ _ _ _ _ _)
      | (with_reducible exact portmanteauref05_length.mono _ _ _ _)
      | (with_reducible exact LeO.refl _)
      | (with_reducible exact LeO.none _)
      | (with_reducible refine LeO.ite ?_ ?_)
      | (with_reducible refine LeO.bind ?_ (fun _ => ?_))
      | exact ih0 _ _ _ _ _
      | exact ih1 _ _ _ _ _ _ _ _ _ _
      | exact ih2 _ _ _ _ _ _ _ _ _
      | exact portmanteauref05_length.mono _ _ _ _
      | exact LeO.none _
      | refine LeO.ite ?_ ?_
      | refine LeO.bind ?_ (fun _ => ?_)
theorem portmanteauref05_Decode.mono : ∀ a0 a1 k, LeO (portmanteauref05_Decode.f k a0 a1) (portmanteauref05_Decode.f (k + 1) a0 a1) := by
  intro a0 a1 k
  obtain ⟨ih0, ih1, ih2⟩ := portmanteauref05_Decode.mono_l k
  unfold portmanteauref05_Decode.f
  repeat' first
      | (with_reducible exact ih0 _ _ _ _ _)
      | (with_reducible exact ih1 _ _ _ _ _ _ _ _ _ _)
      | (with_reducible exact ih2 _ _ _ _ _ _ _ _ _)
      | (with_reducible exact portmanteauref05_length.mono _ _ _ _)
      | (with_reducible exact LeO.refl _)
      | (with_reducible exact LeO.none _)
      | (with_reducible refine LeO.ite ?_ ?_)
      | (with_reducible refine LeO.bind ?_ (fun _ => ?_))
      | exact ih0 _ _ _ _ _
      | exact ih1 _ _ _ _ _ _ _ _ _ _
      | exact ih2 _ _ _ _ _ _ _ _ _
      | exact portmanteauref05_length.mono _ _ _ _
      | exact LeO.none _
      | refine LeO.ite ?_ ?_
      | refine LeO.bind ?_ (fun _ => ?_)
def portmanteauref05_Decode.T21 : Bool × List (List Nat × List Nat) := (true, [([], []), ([], []), ([0, 1], [0, 1]), ([2], [2]), ([3], [3]), ([], []), ([], []), ([6], [6]), ([5, 7], [5, 7]), ([8], [8]), ([9], [9]), ([10], [10]), ([4, 11], [4, 11]), ([0, 1, 2, 3, 4, 5, 6, 7, 8, 9, 10, 11, 12], []), ([13, 12, 0, 1, 2, 3, 4, 5, 6, 7, 8, 9, 10, 11, 12], [12, 13])])
def portmanteauref05_Decode.B21 : List Nat := [0, 0, 3, 7, 15, 0, 0, 64, 224, 480, 992, 2016, 4095, 8191, 16383]
theorem portmanteauref05_Decode.tab21 : rtab .any (opsOf Try.f64 21) = portmanteauref05_Decode.T21 := by kernel_rfl
theorem portmanteauref05_Decode.bits21 : waitsOk portmanteauref05_Decode.T21.2 portmanteauref05_Decode.B21 = true := by kernel_rfl

/-- A row that is read and isn't empty lies in none but the blocks that it is known to lead to. -/
theorem V_block_ne {e base n c g : Nat} {W : World} {ok : Nat → Prop} {ad : Addr} {xs : List Int} (h : Kd.V (Kd.int .u8) e W base ok (.slice (some ad) n c) xs) (hok : ∀ k, ok k → k ≠ g) (hn : 0 < xs.length) : ad.block ≠ g := by
  rintro rfl
  obtain ⟨A, c', hv, hl, hf⟩ := h
  injection hv with h1 h2 h3
  subst h1
  have h4 := hf { W with heap := W.heap.setIfInBounds ad.block (.map #[] 0) } (fun k hk _ => by
    show (W.heap.setIfInBounds ad.block _)[k]? = _
    rw [Array.getElem?_setIfInBounds_ne (fun he => hok k hk he.symm)])
  obtain ⟨ad', h5, h6⟩ := h4.2.2 hn
  injection h5 with h5
  subst h5
  obtain ⟨cs, h7, h8, h9⟩ := h6 0 xs[0] (List.getElem?_eq_getElem hn)
  have h10 : cs = [.int .u8 xs[0]] := h8
  have h11 := h9 0 (.int .u8 xs[0]) (by rw [h10]; rfl)
  have h12 : ∀ p : Addr, p.block = ad.block → World.cell? { W with heap := W.heap.setIfInBounds ad.block (.map #[] 0) } p = none := by
    intro p hp
    unfold World.cell?
    simp only [hp, Array.getElem?_setIfInBounds]
    by_cases hb : ad.block < W.heap.size <;> simp [hb]
  rw [h12 _ (add_block _ _)] at h11
  cases h11
set_option maxHeartbeats 8000000 in
set_option maxRecDepth 100000 in
theorem portmanteauref05_Decode.calls (k : Nat) (P0_ : Nat → Prop) (A0 : Option Addr) (c0 : Nat) (l0 : List Int) (a1 : Int) (r1 : List Int) (r2 : List (S113)) (r3 : Int) (r4 : Int) (w : World) (hs0 : Kd.V (Kd.int .u8) 5 w w.heap.size (fun k_ => P0_ k_) (.slice A0 l0.length c0) l0) (h : portmanteauref05_Decode.f k l0 a1 = some (r1, r2, r3, r4)) :
    Calls Try.prog 64 #[.slice A0 l0.length c0, .int .i64 a1] w fun e w' => ∃ v0_ v1_ : Value, e = .returned (.tuple #[v0_, v1_, .int .i64 r3, .int .i64 r4]) ∧ Kd.R (Kd.int .u8) 5 w' w.heap.size (fun k_ => (w.heap.size ≤ k_)) v0_ r1 ∧ Kd.N k113 113 w' w.heap.size (fun k_ => (P0_ k_ ∨ w.heap.size ≤ k_) ∧ some k_ ≠ (v0_ : Value).ownBlock) v1_ r2 ∧ Below w.heap.size w w' := by
  have hu113 := Try.underlying113
  have HO0 := Aside0.mk (show Kd.V (Kd.int .u8) 5 w w.heap.size (fun k_ => (P0_ k_ ∨ w.heap.size ≤ k_)) (.slice A0 l0.length c0) l0 from Kd.V_mono hs0 (fun k_ hk => .inl hk))
  have HB := Aside0.mk (Below.refl w.heap.size w)
  have H : (portmanteauref05_Decode.l0 k l0 a1 ([] : List Int) ([] : List (S113)) 0) = some (r1, r2, r3, r4) := h
  clear h
  have H' := Aside0.mk H
  clear H
  go_enter Try.func64, Try.ntmps64
  go_wp2
  go_loopg [8, 9, 10] k (fun kq v8 v9 v10 w' => ∃ (x8_1 : List Int) (x9_1 : List (S113)) (x10_1 : Int), v10 = .int .i64 x10_1 ∧ Aside0 (portmanteauref05_Decode.l0 kq l0 a1 x8_1 x9_1 x10_1 = some (r1, r2, r3, r4)) ∧ Aside0 (kq ≤ k) ∧ Aside0 (Kd.V (Kd.int .u8) 5 w' w.heap.size (fun k_ => (P0_ k_ ∨ w.heap.size ≤ k_) ∧ some k_ ≠ (v8 : Value).ownBlock ∧ some k_ ≠ (v9 : Value).ownBlock) (.slice A0 l0.length c0) l0) ∧ Aside0 (Kd.R (Kd.int .u8) 5 w' w.heap.size (fun k_ => (w.heap.size ≤ k_)) v8 x8_1) ∧ Aside0 (Kd.N k113 113 w' w.heap.size (fun k_ => (P0_ k_ ∨ w.heap.size ≤ k_) ∧ some k_ ≠ (v8 : Value).ownBlock) v9 x9_1) ∧ Aside0 (Below w.heap.size w w'))
  case atStart => exact ⟨(([] : List Int)), (([] : List (S113))), (0), (by first | rfl | (simp; done) | (simp [*]; done)), H', ⟨Nat.le_refl _⟩, ⟨by (with_reducible repeat (first | apply Kd.V_alloc | apply Kd.V_drewN | apply Kd.V_drew)); exact Kd.V_mono HO0.out (fun _ hk => ⟨hk, ⟨(by simp [Value.ownBlock]), (by simp [Value.ownBlock])⟩⟩)⟩, ⟨by first | exact Kd.R_nil _ _ _ _ _ | exact Kd.N_nil _ _ _ _ _ | exact Kd.V_nil _ _ _ _ _ | exact Kd.Q_nil _ _ _ _ _ | exact Kd.S_nil _ _ _ _ _⟩, ⟨by first | exact Kd.S_nil _ _ _ _ _ | exact Kd.N_nil _ _ _ _ _ | exact Kd.V_nil _ _ _ _ _ | exact Kd.Q_nil _ _ _ _ _ | exact Kd.R_nil _ _ _ _ _⟩, ⟨by repeat (first | (with_reducible first | exact HB.out | apply below_alloc | apply pw_below_drewN | apply below_drew1) | exact HB.out)⟩⟩
  case round =>
    clear H'
    try clear p2
    obtain ⟨x8_1, x9_1, x10_1, rfl, HA, HK1, HO_0, HO_8, HO_9, HB⟩ := hrel
    cases gk with
    | zero => exact absurd HA.out (by simp [portmanteauref05_Decode.l0])
    | succ k1 =>
      have H := HA.out
      clear HA
      simp only [portmanteauref05_Decode.l0] at H
      by_cases c3 : x10_1 ≥ (l0.length : Int)
      · rw [if_pos c3] at H
        have c3b0 : decide ((l0.length : Int) ≤ x10_1) = true := decide_eq_true c3
        clear c3
        simp only [Option.some.injEq, Prod.mk.injEq] at H
        obtain ⟨rfl, rfl, rfl, rfl⟩ := H
        go_wp2
        refine bodyPost_ret (results_list (rs := [.tmp 4, .tmp 5, .tmp 6, .tmp 7]) rfl (by simp) (.tmp (.tmp (.tmp (.tmp .nil))))) rfl ?_
        exact ⟨_, _, by first | rfl | (simp [errW_none, errW_some] <;> rfl) | (simp [*, errW_none, errW_some] <;> rfl), by first | exact Kd.R_nil _ _ _ _ _ | exact Kd.N_nil _ _ _ _ _ | exact Kd.V_nil _ _ _ _ _ | exact Kd.Q_nil _ _ _ _ _ | exact Kd.S_nil _ _ _ _ _, by first | exact Kd.S_nil _ _ _ _ _ | exact Kd.N_nil _ _ _ _ _ | exact Kd.V_nil _ _ _ _ _ | exact Kd.Q_nil _ _ _ _ _ | exact Kd.R_nil _ _ _ _ _, by repeat (first | (with_reducible first | exact HB.out | apply below_alloc | apply pw_below_drewN | apply below_drew1) | exact HB.out)⟩
      · rw [if_neg c3] at H
        have c3b0 : decide ((l0.length : Int) ≤ x10_1) = false := decide_eq_false c3
        clear c3
        by_cases c4 : 0 ≤ x10_1
        · rw [if_pos c4] at H
          have c4b0 : decide (0 ≤ x10_1) = true := decide_eq_true c4
          clear c4
          by_cases c5 : x10_1 < (l0.length : Int)
          · rw [if_pos c5] at H
            have c5b0 : decide (x10_1 < (l0.length : Int)) = true := decide_eq_true c5
            clear c5
            replace H := Option.bind_eq_some_iff.mp H
            obtain ⟨⟨t65002, t65003⟩, A60, H⟩ := H
            replace H : (if t65002 < 0 then (some (([] : List Int), ([] : List (S113)), 6, (l0.length : Int))) else (if t65002 > (wrap64 (a1 - (x8_1.length : Int))) then (some (([] : List Int), ([] : List (S113)), 2, x10_1)) else (if t65002 > (wrap64 ((l0.length : Int) - t65003)) then (some (([] : List Int), ([] : List (S113)), 6, (l0.length : Int))) else (if 0 ≤ t65003 then (if t65003 ≤ (wrap64 (t65003 + t65002)) then (if (wrap64 (t65003 + t65002)) ≤ (l0.length : Int) then ((some ((l0.take ((wrap64 (t65003 + t65002)) : Int).toNat).drop (t65003 : Int).toNat : List Int)).bind fun y65004 => (if x8_1.length + y65004.length < 140737488355328 then ((some (x8_1 ++ y65004 : List Int)).bind fun y65010 => (if (wrap64 (t65003 + t65002)) = (l0.length : Int) then (if x9_1.length < 3518437208883 then (some (y65010, (x9_1 ++ [(⟨y65004, 0, 0⟩ : S113)]), 0, (l0.length : Int))) else (none)) else (if (wrap64 ((wrap64 (t65003 + t65002)) + 1)) = (l0.length : Int) then (some (([] : List Int), ([] : List (S113)), 6, (l0.length : Int))) else (if 0 ≤ (wrap64 (t65003 + t65002)) then (if (wrap64 (t65003 + t65002)) < (l0.length : Int) then (if 0 ≤ (wrap64 ((wrap64 (t65003 + t65002)) + 1)) then (if (wrap64 ((wrap64 (t65003 + t65002)) + 1)) < (l0.length : Int) then (if (wrap64 ((wrap64 (rd l0 (wrap64 (t65003 + t65002)))) + (wrap64 (256 * (wrap64 (rd l0 (wrap64 ((wrap64 (t65003 + t65002)) + 1)))))))) = 0 then (portmanteauref05_Decode.j1 k1 l0 a1 y65010 x9_1 (wrap64 (t65003 + t65002)) x10_1 true y65004 (wrap64 ((wrap64 (rd l0 (wrap64 (t65003 + t65002)))) + (wrap64 (256 * (wrap64 (rd l0 (wrap64 ((wrap64 (t65003 + t65002)) + 1)))))))) 0) else (portmanteauref05_Decode.j1 k1 l0 a1 y65010 x9_1 (wrap64 (t65003 + t65002)) x10_1 (decide ((wrap64 ((wrap64 (rd l0 (wrap64 (t65003 + t65002)))) + (wrap64 (256 * (wrap64 (rd l0 (wrap64 ((wrap64 (t65003 + t65002)) + 1)))))))) > (y65010.length : Int))) y65004 (wrap64 ((wrap64 (rd l0 (wrap64 (t65003 + t65002)))) + (wrap64 (256 * (wrap64 (rd l0 (wrap64 ((wrap64 (t65003 + t65002)) + 1)))))))) 0)) else (none)) else (none)) else (none)) else (none))))) else (none))) else (none)) else (none)) else (none))))) = some (r1, r2, r3, r4) := H
            have A6 := Aside0.mk A60
            clear A60
            by_cases c7 : t65002 < 0
            · rw [if_pos c7] at H
              have c7b0 : decide (t65002 < 0) = true := decide_eq_true c7
              clear c7
              simp only [Option.some.injEq, Prod.mk.injEq] at H
              obtain ⟨rfl, rfl, rfl, rfl⟩ := H
              have p65001 : 0 ≤ (x10_1 : Int) := of_decide_eq_true (by first | (with_reducible assumption) | assumption)
              have q65001 : x10_1 < (l0.length : Int) := of_decide_eq_true (by first | (with_reducible assumption) | assumption)
              obtain ⟨ad65001, e65001, hx65001_0⟩ := Kd.at_int (Kd.V_reads' HO_0.out).2.2 x10_1 p65001 q65001
              cases e65001
              replace p65001 := eq_true p65001
              replace q65001 := eq_true q65001
              go_wp2_with (first | ((with_reducible refine gate_callee (f := 89) rfl ?_); refine goesL_ (some 34) rfl rfl Try.func89 (by kernel_rfl) rfl #[.slice (some ad65001) l0.length c0, .int .i64 ((Int.tdiv (rd l0 x10_1) 16) % 256), .int .i64 (wrap64 (x10_1 + 1))] rfl (by (try simp only [List.map_toArray, List.map_cons, List.map_nil]); first | done | rfl | (simp only [List.length_drop, List.length_take]; rfl)) ?_; (with_reducible refine (portmanteauref05_length.calls k1 _ _ l0 ((Int.tdiv (rd l0 x10_1) 16) % 256) (wrap64 (x10_1 + 1)) t65002 t65003 _ ?side1 ?side2 A6.out).mono ?_); (case side1 => repeat (first | exact (Kd.V_reads' HO_0.out).2.2 | (with_reducible refine Kd.C_alloc ?_ _) | (with_reducible refine Kd.C_drewN ?_ _) | (with_reducible refine Kd.C_drew ?_))); (case side2 => exact (Kd.V_reads' HO_0.out).2.1); rintro e w' ⟨rfl, ⟨nd, rfl⟩⟩; refine ⟨_, rfl, ?_⟩))
              refine bodyPost_ret (results_list (rs := [.tmp 4, .tmp 5, .tmp 6, .tmp 7]) rfl (by simp) (.tmp (.tmp (.tmp (.tmp .nil))))) rfl ?_
              exact ⟨_, _, by first | rfl | (simp [errW_none, errW_some] <;> rfl) | (simp [*, errW_none, errW_some] <;> rfl), by first | exact Kd.R_nil _ _ _ _ _ | exact Kd.N_nil _ _ _ _ _ | exact Kd.V_nil _ _ _ _ _ | exact Kd.Q_nil _ _ _ _ _ | exact Kd.S_nil _ _ _ _ _, by first | exact Kd.S_nil _ _ _ _ _ | exact Kd.N_nil _ _ _ _ _ | exact Kd.V_nil _ _ _ _ _ | exact Kd.Q_nil _ _ _ _ _ | exact Kd.R_nil _ _ _ _ _, by repeat (first | (with_reducible first | exact HB.out | apply below_alloc | apply pw_below_drewN | apply below_drew1) | exact HB.out)⟩
            · rw [if_neg c7] at H
              have c7b0 : decide (t65002 < 0) = false := decide_eq_false c7
              clear c7
              by_cases c8 : t65002 > (wrap64 (a1 - (x8_1.length : Int)))
              · rw [if_pos c8] at H
                have c8b0 : decide ((wrap64 (a1 - (x8_1.length : Int))) < t65002) = true := decide_eq_true c8
                clear c8
                simp only [Option.some.injEq, Prod.mk.injEq] at H
                obtain ⟨rfl, rfl, rfl, rfl⟩ := H
                have p65001 : 0 ≤ (x10_1 : Int) := of_decide_eq_true (by first | (with_reducible assumption) | assumption)
                have q65001 : x10_1 < (l0.length : Int) := of_decide_eq_true (by first | (with_reducible assumption) | assumption)
                obtain ⟨ad65001, e65001, hx65001_0⟩ := Kd.at_int (Kd.V_reads' HO_0.out).2.2 x10_1 p65001 q65001
                cases e65001
                replace p65001 := eq_true p65001
                replace q65001 := eq_true q65001
                go_wp2_with (first | ((with_reducible refine gate_callee (f := 89) rfl ?_); refine goesL_ (some 34) rfl rfl Try.func89 (by kernel_rfl) rfl #[.slice (some ad65001) l0.length c0, .int .i64 ((Int.tdiv (rd l0 x10_1) 16) % 256), .int .i64 (wrap64 (x10_1 + 1))] rfl (by (try simp only [List.map_toArray, List.map_cons, List.map_nil]); first | done | rfl | (simp only [List.length_drop, List.length_take]; rfl)) ?_; (with_reducible refine (portmanteauref05_length.calls k1 _ _ l0 ((Int.tdiv (rd l0 x10_1) 16) % 256) (wrap64 (x10_1 + 1)) t65002 t65003 _ ?side1 ?side2 A6.out).mono ?_); (case side1 => repeat (first | exact (Kd.V_reads' HO_0.out).2.2 | (with_reducible refine Kd.C_alloc ?_ _) | (with_reducible refine Kd.C_drewN ?_ _) | (with_reducible refine Kd.C_drew ?_))); (case side2 => exact (Kd.V_reads' HO_0.out).2.1); rintro e w' ⟨rfl, ⟨nd, rfl⟩⟩; refine ⟨_, rfl, ?_⟩; obtain ⟨Ao9, co9, eo9⟩ := Kd.R_slice HO_8.out; subst eo9))
                refine bodyPost_ret (results_list (rs := [.tmp 4, .tmp 5, .tmp 6, .tmp 7]) rfl (by simp) (.tmp (.tmp (.tmp (.tmp .nil))))) rfl ?_
                exact ⟨_, _, by first | rfl | (simp [errW_none, errW_some] <;> rfl) | (simp [*, errW_none, errW_some] <;> rfl), by first | exact Kd.R_nil _ _ _ _ _ | exact Kd.N_nil _ _ _ _ _ | exact Kd.V_nil _ _ _ _ _ | exact Kd.Q_nil _ _ _ _ _ | exact Kd.S_nil _ _ _ _ _, by first | exact Kd.S_nil _ _ _ _ _ | exact Kd.N_nil _ _ _ _ _ | exact Kd.V_nil _ _ _ _ _ | exact Kd.Q_nil _ _ _ _ _ | exact Kd.R_nil _ _ _ _ _, by repeat (first | (with_reducible first | exact HB.out | apply below_alloc | apply pw_below_drewN | apply below_drew1) | exact HB.out)⟩
              · rw [if_neg c8] at H
                have c8b0 : decide ((wrap64 (a1 - (x8_1.length : Int))) < t65002) = false := decide_eq_false c8
                clear c8
                by_cases c10 : t65002 > (wrap64 ((l0.length : Int) - t65003))
                · rw [if_pos c10] at H
                  have c10b0 : decide ((wrap64 ((l0.length : Int) - t65003)) < t65002) = true := decide_eq_true c10
                  clear c10
                  simp only [Option.some.injEq, Prod.mk.injEq] at H
                  obtain ⟨rfl, rfl, rfl, rfl⟩ := H
                  have p65001 : 0 ≤ (x10_1 : Int) := of_decide_eq_true (by first | (with_reducible assumption) | assumption)
                  have q65001 : x10_1 < (l0.length : Int) := of_decide_eq_true (by first | (with_reducible assumption) | assumption)
                  obtain ⟨ad65001, e65001, hx65001_0⟩ := Kd.at_int (Kd.V_reads' HO_0.out).2.2 x10_1 p65001 q65001
                  cases e65001
                  replace p65001 := eq_true p65001
                  replace q65001 := eq_true q65001
                  go_wp2_with (first | ((with_reducible refine gate_callee (f := 89) rfl ?_); refine goesL_ (some 34) rfl rfl Try.func89 (by kernel_rfl) rfl #[.slice (some ad65001) l0.length c0, .int .i64 ((Int.tdiv (rd l0 x10_1) 16) % 256), .int .i64 (wrap64 (x10_1 + 1))] rfl (by (try simp only [List.map_toArray, List.map_cons, List.map_nil]); first | done | rfl | (simp only [List.length_drop, List.length_take]; rfl)) ?_; (with_reducible refine (portmanteauref05_length.calls k1 _ _ l0 ((Int.tdiv (rd l0 x10_1) 16) % 256) (wrap64 (x10_1 + 1)) t65002 t65003 _ ?side1 ?side2 A6.out).mono ?_); (case side1 => repeat (first | exact (Kd.V_reads' HO_0.out).2.2 | (with_reducible refine Kd.C_alloc ?_ _) | (with_reducible refine Kd.C_drewN ?_ _) | (with_reducible refine Kd.C_drew ?_))); (case side2 => exact (Kd.V_reads' HO_0.out).2.1); rintro e w' ⟨rfl, ⟨nd, rfl⟩⟩; refine ⟨_, rfl, ?_⟩; obtain ⟨Ao11, co11, eo11⟩ := Kd.R_slice HO_8.out; subst eo11))
                  refine bodyPost_ret (results_list (rs := [.tmp 4, .tmp 5, .tmp 6, .tmp 7]) rfl (by simp) (.tmp (.tmp (.tmp (.tmp .nil))))) rfl ?_
                  exact ⟨_, _, by first | rfl | (simp [errW_none, errW_some] <;> rfl) | (simp [*, errW_none, errW_some] <;> rfl), by first | exact Kd.R_nil _ _ _ _ _ | exact Kd.N_nil _ _ _ _ _ | exact Kd.V_nil _ _ _ _ _ | exact Kd.Q_nil _ _ _ _ _ | exact Kd.S_nil _ _ _ _ _, by first | exact Kd.S_nil _ _ _ _ _ | exact Kd.N_nil _ _ _ _ _ | exact Kd.V_nil _ _ _ _ _ | exact Kd.Q_nil _ _ _ _ _ | exact Kd.R_nil _ _ _ _ _, by repeat (first | (with_reducible first | exact HB.out | apply below_alloc | apply pw_below_drewN | apply below_drew1) | exact HB.out)⟩
                · rw [if_neg c10] at H
                  have c10b0 : decide ((wrap64 ((l0.length : Int) - t65003)) < t65002) = false := decide_eq_false c10
                  clear c10
                  by_cases c12 : 0 ≤ t65003
                  · rw [if_pos c12] at H
                    have c12b0 := eq_true c12
                    have c12b1 : decide (0 ≤ t65003) = true := decide_eq_true c12
                    clear c12
                    by_cases c13 : t65003 ≤ (wrap64 (t65003 + t65002))
                    · rw [if_pos c13] at H
                      have c13b0 := eq_true c13
                      have c13b1 : decide (t65003 ≤ (wrap64 (t65003 + t65002))) = true := decide_eq_true c13
                      by_cases c14 : (wrap64 (t65003 + t65002)) ≤ (l0.length : Int)
                      · rw [if_pos c14] at H
                        have c14b0 := eq_true c14
                        have c14b1 : decide ((wrap64 (t65003 + t65002)) ≤ (l0.length : Int)) = true := decide_eq_true c14
                        obtain ⟨y65004, hy65004⟩ : ∃ y_ : List Int, y_ = ((l0.take ((wrap64 (t65003 + t65002)) : Int).toNat).drop (t65003 : Int).toNat) := ⟨_, rfl⟩
                        replace H : (if x8_1.length + y65004.length < 140737488355328 then ((some (x8_1 ++ y65004 : List Int)).bind fun y65010 => (if (wrap64 (t65003 + t65002)) = (l0.length : Int) then (if x9_1.length < 3518437208883 then (some (y65010, (x9_1 ++ [(⟨y65004, 0, 0⟩ : S113)]), 0, (l0.length : Int))) else (none)) else (if (wrap64 ((wrap64 (t65003 + t65002)) + 1)) = (l0.length : Int) then (some (([] : List Int), ([] : List (S113)), 6, (l0.length : Int))) else (if 0 ≤ (wrap64 (t65003 + t65002)) then (if (wrap64 (t65003 + t65002)) < (l0.length : Int) then (if 0 ≤ (wrap64 ((wrap64 (t65003 + t65002)) + 1)) then (if (wrap64 ((wrap64 (t65003 + t65002)) + 1)) < (l0.length : Int) then (if (wrap64 ((wrap64 (rd l0 (wrap64 (t65003 + t65002)))) + (wrap64 (256 * (wrap64 (rd l0 (wrap64 ((wrap64 (t65003 + t65002)) + 1)))))))) = 0 then (portmanteauref05_Decode.j1 k1 l0 a1 y65010 x9_1 (wrap64 (t65003 + t65002)) x10_1 true y65004 (wrap64 ((wrap64 (rd l0 (wrap64 (t65003 + t65002)))) + (wrap64 (256 * (wrap64 (rd l0 (wrap64 ((wrap64 (t65003 + t65002)) + 1)))))))) 0) else (portmanteauref05_Decode.j1 k1 l0 a1 y65010 x9_1 (wrap64 (t65003 + t65002)) x10_1 (decide ((wrap64 ((wrap64 (rd l0 (wrap64 (t65003 + t65002)))) + (wrap64 (256 * (wrap64 (rd l0 (wrap64 ((wrap64 (t65003 + t65002)) + 1)))))))) > (y65010.length : Int))) y65004 (wrap64 ((wrap64 (rd l0 (wrap64 (t65003 + t65002)))) + (wrap64 (256 * (wrap64 (rd l0 (wrap64 ((wrap64 (t65003 + t65002)) + 1)))))))) 0)) else (none)) else (none)) else (none)) else (none))))) else (none)) = some (r1, r2, r3, r4) := by first | (rw [hy65004]; with_reducible exact H) | (have H2_ := (Option.bind_some _ _).symm.trans H; rw [hy65004]; with_reducible exact H2_) | (have H2_ := (Option.bind_some _ _).symm.trans H; with_reducible exact H2_) | with_reducible exact H | (rw [hy65004]; exact H) | exact H
                        have Ny65004 := Aside0.mk hy65004
                        clear hy65004
                        by_cases c15 : x8_1.length + y65004.length < 140737488355328
                        · rw [if_pos c15] at H
                          have LMc15 := Aside0.mk c15
                          clear c15
                          obtain ⟨y65010, hy65010⟩ : ∃ y_ : List Int, y_ = (x8_1 ++ y65004) := ⟨_, rfl⟩
                          replace H : (if (wrap64 (t65003 + t65002)) = (l0.length : Int) then (if x9_1.length < 3518437208883 then (some (y65010, (x9_1 ++ [(⟨y65004, 0, 0⟩ : S113)]), 0, (l0.length : Int))) else (none)) else (if (wrap64 ((wrap64 (t65003 + t65002)) + 1)) = (l0.length : Int) then (some (([] : List Int), ([] : List (S113)), 6, (l0.length : Int))) else (if 0 ≤ (wrap64 (t65003 + t65002)) then (if (wrap64 (t65003 + t65002)) < (l0.length : Int) then (if 0 ≤ (wrap64 ((wrap64 (t65003 + t65002)) + 1)) then (if (wrap64 ((wrap64 (t65003 + t65002)) + 1)) < (l0.length : Int) then (if (wrap64 ((wrap64 (rd l0 (wrap64 (t65003 + t65002)))) + (wrap64 (256 * (wrap64 (rd l0 (wrap64 ((wrap64 (t65003 + t65002)) + 1)))))))) = 0 then (portmanteauref05_Decode.j1 k1 l0 a1 y65010 x9_1 (wrap64 (t65003 + t65002)) x10_1 true y65004 (wrap64 ((wrap64 (rd l0 (wrap64 (t65003 + t65002)))) + (wrap64 (256 * (wrap64 (rd l0 (wrap64 ((wrap64 (t65003 + t65002)) + 1)))))))) 0) else (portmanteauref05_Decode.j1 k1 l0 a1 y65010 x9_1 (wrap64 (t65003 + t65002)) x10_1 (decide ((wrap64 ((wrap64 (rd l0 (wrap64 (t65003 + t65002)))) + (wrap64 (256 * (wrap64 (rd l0 (wrap64 ((wrap64 (t65003 + t65002)) + 1)))))))) > (y65010.length : Int))) y65004 (wrap64 ((wrap64 (rd l0 (wrap64 (t65003 + t65002)))) + (wrap64 (256 * (wrap64 (rd l0 (wrap64 ((wrap64 (t65003 + t65002)) + 1)))))))) 0)) else (none)) else (none)) else (none)) else (none)))) = some (r1, r2, r3, r4) := by first | (rw [hy65010]; with_reducible exact H) | (have H2_ := (Option.bind_some _ _).symm.trans H; rw [hy65010]; with_reducible exact H2_) | (have H2_ := (Option.bind_some _ _).symm.trans H; with_reducible exact H2_) | with_reducible exact H | (rw [hy65010]; exact H) | exact H
                          have Ny65010 := Aside0.mk hy65010
                          clear hy65010
                          by_cases c16 : (wrap64 (t65003 + t65002)) = (l0.length : Int)
                          · rw [if_pos c16] at H
                            have c16b0 : ((wrap64 (t65003 + t65002)) == (l0.length : Int)) = true := beq_iff_eq.mpr c16
                            have c16b1 : ((wrap64 (t65003 + t65002)) != (l0.length : Int)) = false := bne_eq_false_iff_eq.mpr c16
                            clear c16
                            by_cases c17 : x9_1.length < 3518437208883
                            · rw [if_pos c17] at H
                              have LMc17 := Aside0.mk c17
                              clear c17
                              obtain ⟨y65013, hy65013⟩ : ∃ y_ : List (S113), y_ = (x9_1 ++ [(⟨y65004, 0, 0⟩ : S113)]) := ⟨_, rfl⟩
                              replace H : (some (y65010, y65013, 0, (l0.length : Int))) = some (r1, r2, r3, r4) := by first | (rw [hy65013]; with_reducible exact H) | (have H2_ := (Option.bind_some _ _).symm.trans H; rw [hy65013]; with_reducible exact H2_) | (have H2_ := (Option.bind_some _ _).symm.trans H; with_reducible exact H2_) | with_reducible exact H | (rw [hy65013]; exact H) | exact H
                              have Ny65013 := Aside0.mk hy65013
                              clear hy65013
                              simp only [Option.some.injEq, Prod.mk.injEq] at H
                              obtain ⟨rfl, rfl, rfl, rfl⟩ := H
                              have p65001 : 0 ≤ (x10_1 : Int) := of_decide_eq_true (by first | (with_reducible assumption) | assumption)
                              have q65001 : x10_1 < (l0.length : Int) := of_decide_eq_true (by first | (with_reducible assumption) | assumption)
                              obtain ⟨ad65001, e65001, hx65001_0⟩ := Kd.at_int (Kd.V_reads' HO_0.out).2.2 x10_1 p65001 q65001
                              cases e65001
                              replace p65001 := eq_true p65001
                              replace q65001 := eq_true q65001
                              go_wp2_with (first | ((with_reducible refine gate_callee (f := 89) rfl ?_); refine goesL_ (some 34) rfl rfl Try.func89 (by kernel_rfl) rfl #[.slice (some ad65001) l0.length c0, .int .i64 ((Int.tdiv (rd l0 x10_1) 16) % 256), .int .i64 (wrap64 (x10_1 + 1))] rfl (by (try simp only [List.map_toArray, List.map_cons, List.map_nil]); first | done | rfl | (simp only [List.length_drop, List.length_take]; rfl)) ?_; (with_reducible refine (portmanteauref05_length.calls k1 _ _ l0 ((Int.tdiv (rd l0 x10_1) 16) % 256) (wrap64 (x10_1 + 1)) t65002 t65003 _ ?side1 ?side2 A6.out).mono ?_); (case side1 => repeat (first | exact (Kd.V_reads' HO_0.out).2.2 | (with_reducible refine Kd.C_alloc ?_ _) | (with_reducible refine Kd.C_drewN ?_ _) | (with_reducible refine Kd.C_drew ?_))); (case side2 => exact (Kd.V_reads' HO_0.out).2.1); rintro e w' ⟨rfl, ⟨nd, rfl⟩⟩; refine ⟨_, rfl, ?_⟩; (try (rw [drewN_self wr]; generalize hq_ : World.drewN wr _ = wr; have n0_ : Aside0 (Kd.V (Kd.int .u8) 5 wr w.heap.size (fun k_ => (P0_ k_ ∨ w.heap.size ≤ k_) ∧ some k_ ≠ (u8 : Value).ownBlock ∧ some k_ ≠ (u9 : Value).ownBlock) (.slice (some ad65001) l0.length c0) l0) := ⟨by rw [← hq_]; exact (by (with_reducible repeat (first | apply Kd.V_alloc | apply Kd.V_drewN | apply Kd.V_drew)); exact HO_0.out)⟩; have n1_ : Aside0 (Kd.R (Kd.int .u8) 5 wr w.heap.size (fun k_ => (w.heap.size ≤ k_)) u8 x8_1) := ⟨by rw [← hq_]; exact (by (with_reducible repeat (first | apply Kd.R_alloc | apply Kd.R_drewN | apply Kd.R_drew)); exact HO_8.out)⟩; have n2_ : Aside0 (Kd.N k113 113 wr w.heap.size (fun k_ => (P0_ k_ ∨ w.heap.size ≤ k_) ∧ some k_ ≠ (u8 : Value).ownBlock) u9 x9_1) := ⟨by rw [← hq_]; exact (by (with_reducible repeat (first | apply Kd.N_alloc | apply Kd.N_drewN | apply Kd.N_drew)); exact HO_9.out)⟩; have n3_ : Aside0 (Below w.heap.size w wr) := ⟨by rw [← hq_]; exact (by repeat (first | (with_reducible first | exact HB.out | apply below_alloc | apply pw_below_drewN | apply below_drew1) | exact HB.out))⟩; clear HO_0 HO_8 HO_9 HB hq_; have HO_0 := n0_; have HO_8 := n1_; have HO_9 := n2_; have HB := n3_; clear n0_ n1_ n2_ n3_)); obtain ⟨Ao18, co18, eo18⟩ := Kd.R_slice HO_8.out; subst eo18; have q19 : ((wrap64 (t65003 + t65002)) : Int) ≤ ((l0.length : Int) : Int) := of_decide_eq_true (by first | (with_reducible assumption) | assumption); obtain ⟨i019, hi019, _, hsz19, _⟩ := info_parts info5; have hroom19 : l0.length ≤ c0 := (Kd.V_reads' HO_0.out).2.1; have hC19 : Kd.F (Kd.int .u8) _ _ (some ad65001) l0.length l0 := (Kd.V_at (base := w.heap.size) HO_0.out).2.2; have ql19 : (t65003 : Int) ≤ ((wrap64 (t65003 + t65002)) : Int) := of_decide_eq_true (by first | (with_reducible assumption) | assumption); have q019 : (0 : Int) ≤ (t65003 : Int) := of_decide_eq_true (by first | (with_reducible assumption) | assumption); have hcut19 := cut_mid (P := Try.prog) 22 5 .i64 .i64 Try.underlying22 hi019 1 hsz19 (some ad65001) l0.length c0 t65003 (wrap64 (t65003 + t65002)) q019 ql19 q19 hroom19; have hr19 := Kd.F_mid (lo := (t65003 : Int).toNat) (hi := ((wrap64 (t65003 + t65002)) : Int).toNat) (c := c0) hC19 (by omega) (by omega) hroom19; obtain ⟨A19, hA19⟩ : ∃ A1, A1 = (if c0 = (t65003 : Int).toNat then (some ad65001) else ((some ad65001) : Option Addr).map (·.add ((t65003 : Int).toNat * 1))) := ⟨_, rfl⟩; obtain ⟨c19, hc19⟩ : ∃ c1, c1 = c0 - (t65003 : Int).toNat := ⟨_, rfl⟩; have hy19 : y65004.length = ((wrap64 (t65003 + t65002)) : Int).toNat - (t65003 : Int).toNat := (by rw [Ny65004.out, List.length_drop, List.length_take] <;> omega); rw [show ((l0).take ((wrap64 (t65003 + t65002)) : Int).toNat).drop (t65003 : Int).toNat = y65004 from Ny65004.out.symm] at hr19; replace hr19 : Kd.F (Kd.int .u8) _ _ A19 y65004.length y65004 := (by rw [hA19]; exact hr19); rw [← hy19, ← hA19, ← hc19] at hcut19; have HO65008 := Aside0.mk (show Kd.V (Kd.int .u8) 5 _ w.heap.size _ (.slice A19 y65004.length c19) y65004 from Kd.V_mk (by rw [hy19, hc19]; exact Nat.sub_le_sub_right (Nat.le_trans (by omega) hroom19) _) hr19); have HC65008 := Aside0.mk (show y65004.length ≤ c19 from by rw [hy19, hc19]; exact Nat.sub_le_sub_right (Nat.le_trans (by omega) hroom19) _); clear hr19 hC19 hroom19 hi019 hsz19 hc19; have KY19 := Aside0.mk hy19; have KA19 := Aside0.mk hA19; clear hy19 hA19; replace q19 := eq_true q19) | ((with_reducible refine gate_dst (N := 14) rfl ?_); (try (refine gate_guard (by rfl) ?_; dsimp only)); refine box_event ?hg (N := 14) ?hd (cs := #[.slice none 0 0, .int .i64 0, .int .i64 0]) (t := 113) ?hr ?_; (case hd => rfl); (case hg => rfl); (case hr => first | (go_simp; done) | (go_simp; rfl)); intro gb65009 hg w20 hbox hb; have n0_ := Aside0.mk (Kd.V_below (Kd.V_elderB (by (with_reducible repeat (first | apply Kd.V_alloc | apply Kd.V_drewN | apply Kd.V_drew)); exact HO_0.out) gb65009 (Nat.le_of_eq hg.symm)) hb); have n1_ := Aside0.mk (Kd.R_below (by (with_reducible repeat (first | apply Kd.R_alloc | apply Kd.R_drewN | apply Kd.R_drew)); exact HO_8.out) hb); have n2_ := Aside0.mk (Kd.N_below (Kd.N_elderB (by (with_reducible repeat (first | apply Kd.N_alloc | apply Kd.N_drewN | apply Kd.N_drew)); exact HO_9.out) gb65009 (Nat.le_of_eq hg.symm)) hb); have n3_ := Aside0.mk (Kd.V_below (Kd.V_elderB (by (with_reducible repeat (first | apply Kd.V_alloc | apply Kd.V_drewN | apply Kd.V_drew)); exact HO65008.out) gb65009 (Nat.le_of_eq hg.symm)) hb); have n4_ := Aside0.mk (below_step (by repeat (first | (with_reducible first | exact HB.out | apply below_alloc | apply pw_below_drewN | apply below_drew1) | exact HB.out)) hb); have n5_ := Aside0.mk (hbox); have n6_ := Aside0.mk ((by rw [hg]; exact (below_size (by repeat (first | (with_reducible first | exact HB.out | apply below_alloc | apply pw_below_drewN | apply below_drew1) | exact HB.out))) : w.heap.size ≤ gb65009)); have n7_ := Aside0.mk ((by rw [hg]; exact (below_size (by repeat (first | (with_reducible first | exact HB.out | apply below_alloc | apply pw_below_drewN | apply below_drew1) | exact HB.out))) : w.heap.size ≤ gb65009)); clear HO_0; clear HO_8; clear HO_9; clear HO65008; clear HB; have HO_0 := n0_; have HO_8 := n1_; have HO_9 := n2_; have HO65008 := n3_; have HB := n4_; have BK65009 := n5_; have GW65009 := n6_; have GE65009 := n7_; clear n0_ n1_ n2_ n3_ n4_ n5_ n6_ n7_; clear hb hbox hg; have hcz21_0 : w20.cell? ⟨gb65009, 0, none⟩ = some (.slice none 0 0) := (blk_cell BK65009.out 0).trans rfl; have hcz21_1 : w20.cell? ⟨gb65009, 1, none⟩ = some (.int .i64 0) := (blk_cell BK65009.out 1).trans rfl; have hcz21_2 : w20.cell? ⟨gb65009, 2, none⟩ = some (.int .i64 0) := (blk_cell BK65009.out 2).trans rfl; have hfz21_0 := blk_frozen BK65009.out 0; have hfz21_1 := blk_frozen BK65009.out 1; have hfz21_2 := blk_frozen BK65009.out 2) | ((with_reducible refine gate_builtin (b := .append) (xs := #[.tmp 63, .tmp 65]) rfl ?_); (try (refine gate_guard (by rfl) ?_; dsimp only)); at_builtin; refine Kd.R_append_rows (Kd.int .u8) (w0 := w) w.heap.size rfl (.tmp 63) (.tmp 65) 22 5 (.int .u8 0) 1 rfl Try.underlying22 info5 rfl (by decide) (by omega) (.slice Ao18 x8_1.length co18) x8_1 y65004 _ _ _ (fun k_ => (w.heap.size ≤ k_)) (fun _ => False) rfl rfl ?aO ?aR (fun _ _ h => h) (fun _ h => h.elim) ?aF ?aB ?aS ?aL ?_; (case aR => refine (Kd.V_reads' (e := 5) (base := w.heap.size) (ok := fun k_ => ((((P0_ k_ ∨ w.heap.size ≤ k_)) ∧ (some k_ ≠ (.slice Ao18 x8_1.length co18 : Value).ownBlock ∧ some k_ ≠ (u9 : Value).ownBlock)) ∧ k_ ≠ gb65009)) (n := y65004.length) (c := c19) ?_).2.2; exact (by (with_reducible repeat (first | apply Kd.V_alloc | apply Kd.V_drewN | apply Kd.V_drew)); exact (Kd.V_mono (Kd.V_far (p := ⟨gb65009, 2, none⟩) (Kd.V_far (p := ⟨gb65009, 1, none⟩) (Kd.V_far (p := ⟨gb65009, 0, none⟩) (Kd.V_mono HO65008.out (fun k_ hk => (⟨hk, hk.2⟩ : _ ∧ k_ ≠ gb65009))) (fun _ hk => hk.2) (.slice A19 y65004.length c19)) (fun _ hk => hk.2) (.int .i64 0)) (fun _ hk => hk.2) (.int .i64 0)) (fun _ h_ => h_.1)))); (case aB => exact (by repeat (first | (with_reducible first | exact HB.out | apply below_alloc | apply pw_below_drewN | apply below_drew1 | refine below_set ?_ GE65009.out) | exact HB.out))); (case aF => exact (fun k_ hk => (Nat.le_trans (below_size (by repeat (first | (with_reducible first | exact HB.out | apply below_alloc | apply pw_below_drewN | apply below_drew1 | refine below_set ?_ GE65009.out) | exact HB.out))) hk))); (case aO => exact (by (with_reducible repeat (first | apply Kd.R_alloc | apply Kd.R_drewN | apply Kd.R_drew)); exact Kd.R_mono (Kd.R_far (p := ⟨gb65009, 2, none⟩) (Kd.R_far (p := ⟨gb65009, 1, none⟩) (Kd.R_far (p := ⟨gb65009, 0, none⟩) (Kd.R_types HO_8.out BK65009.out (by decide)) (fun _ hk => hk.2) (.slice A19 y65004.length c19)) (fun _ hk => hk.2) (.int .i64 0)) (fun _ hk => hk.2) (.int .i64 0)) (fun _ hk => hk.1))); (case aS => exact (below_size (by repeat (first | (with_reducible first | exact HB.out | apply below_alloc | apply pw_below_drewN | apply below_drew1 | refine below_set ?_ GE65009.out) | exact HB.out)))); (case aL => have := LMc15.out; omega); intro v65011 w22 ho hb hg hat; rw [← Ny65010.out] at ho; have n0_ := Aside0.mk (Kd.V_afterv (ok := (fun k_ => (P0_ k_ ∨ w.heap.size ≤ k_) ∧ some k_ ≠ (u9 : Value).ownBlock ∧ k_ ≠ gb65009)) (by (with_reducible repeat (first | apply Kd.V_alloc | apply Kd.V_drewN | apply Kd.V_drew)); exact Kd.V_mono (Kd.V_far (p := ⟨gb65009, 2, none⟩) (Kd.V_far (p := ⟨gb65009, 1, none⟩) (Kd.V_far (p := ⟨gb65009, 0, none⟩) (Kd.V_mono HO_0.out (fun k_ hk => (⟨hk, hk.2⟩ : _ ∧ k_ ≠ gb65009))) (fun _ hk => hk.2) (.slice A19 y65004.length c19)) (fun _ hk => hk.2) (.int .i64 0)) (fun _ hk => hk.2) (.int .i64 0)) (fun _ hk => ⟨⟨hk.1.1.1, ⟨hk.1.1.2.2, hk.1.2⟩⟩, hk.1.1.2.1⟩)) hg hat); have n1_ := Aside0.mk (Kd.N_afterv (ok := (fun k_ => (P0_ k_ ∨ w.heap.size ≤ k_) ∧ k_ ≠ gb65009)) (by (with_reducible repeat (first | apply Kd.N_alloc | apply Kd.N_drewN | apply Kd.N_drew)); exact Kd.N_mono (Kd.N_far (p := ⟨gb65009, 2, none⟩) (Kd.N_far (p := ⟨gb65009, 1, none⟩) (Kd.N_far (p := ⟨gb65009, 0, none⟩) (Kd.N_mono HO_9.out (fun k_ hk => (⟨hk, hk.2⟩ : _ ∧ k_ ≠ gb65009))) (fun _ hk => hk.2) (.slice A19 y65004.length c19)) (fun _ hk => hk.2) (.int .i64 0)) (fun _ hk => hk.2) (.int .i64 0)) (fun _ hk => ⟨⟨hk.1.1.1, hk.1.2⟩, hk.1.1.2⟩)) hg hat); have n2_ := Aside0.mk (Kd.V_afterv (ok := (fun k_ => (P0_ k_ ∨ w.heap.size ≤ k_) ∧ some k_ ≠ (u9 : Value).ownBlock ∧ k_ ≠ gb65009)) (by (with_reducible repeat (first | apply Kd.V_alloc | apply Kd.V_drewN | apply Kd.V_drew)); exact Kd.V_mono (Kd.V_far (p := ⟨gb65009, 2, none⟩) (Kd.V_far (p := ⟨gb65009, 1, none⟩) (Kd.V_far (p := ⟨gb65009, 0, none⟩) (Kd.V_mono HO65008.out (fun k_ hk => (⟨hk, hk.2⟩ : _ ∧ k_ ≠ gb65009))) (fun _ hk => hk.2) (.slice A19 y65004.length c19)) (fun _ hk => hk.2) (.int .i64 0)) (fun _ hk => hk.2) (.int .i64 0)) (fun _ hk => ⟨⟨hk.1.1.1, ⟨hk.1.1.2.2, hk.1.2⟩⟩, hk.1.1.2.1⟩)) hg hat); have n3_ := Aside0.mk (blk_grown (g := gb65009) (o := .cells #[.slice A19 y65004.length c19, .int .i64 0, .int .i64 0] 113 (0, 0)) (by (with_reducible repeat (first | refine blk_drewN ?_ _ | refine blk_drew ?_ | refine blk_alloc ?_ _)); refine blk_put (cs := #[.slice A19 y65004.length c19, .int .i64 0, .int .i64 0]) ?_ 2 _ rfl; (with_reducible repeat (first | refine blk_drewN ?_ _ | refine blk_drew ?_ | refine blk_alloc ?_ _)); refine blk_put (cs := #[.slice A19 y65004.length c19, .int .i64 0, .int .i64 0]) ?_ 1 _ rfl; (with_reducible repeat (first | refine blk_drewN ?_ _ | refine blk_drew ?_ | refine blk_alloc ?_ _)); refine blk_put (cs := #[.slice none 0 0, .int .i64 0, .int .i64 0]) ?_ 0 _ rfl; (with_reducible repeat (first | refine blk_drewN ?_ _ | refine blk_drew ?_ | refine blk_alloc ?_ _)); exact BK65009.out) hg (Kd.R_ne HO_8.out BK65009.out (by decide))); have n4_ := Aside0.mk (hb); have n5_ := Aside0.mk (ho); clear HO_0; clear HO_9; clear HO65008; clear BK65009; clear HB; clear HO_8; have HO_0 := n0_; have HO_9 := n1_; have HO65008 := n2_; have BK65009 := n3_; have HB := n4_; have HO65012 := n5_; clear n0_ n1_ n2_ n3_ n4_ n5_; clear ho hb hg hat; have hcz23_0 : w22.cell? ⟨gb65009, 0, none⟩ = some (.slice A19 y65004.length c19) := (blk_cell BK65009.out 0).trans rfl; have hcz23_1 : w22.cell? ⟨gb65009, 1, none⟩ = some (.int .i64 0) := (blk_cell BK65009.out 1).trans rfl; have hcz23_2 : w22.cell? ⟨gb65009, 2, none⟩ = some (.int .i64 0) := (blk_cell BK65009.out 2).trans rfl; have hfz23_0 := blk_frozen BK65009.out 0; have hfz23_1 := blk_frozen BK65009.out 1; have hfz23_2 := blk_frozen BK65009.out 2) | ((with_reducible refine gate_builtin (b := .append) (xs := #[.tmp 75, .tmp 77]) rfl ?_); (try (refine gate_guard (by rfl) ?_; dsimp only)); at_builtin; refine Kd.N_append k113 (w0 := w) w.heap.size rfl (.tmp 75) (.tmp 77) 107 113 (.agg #[(.slice none 0 0), (.int .i64 0), (.int .i64 0)]) 40 rfl Try.underlying107 info113 rfl (by decide) (by omega) u9 x9_1 (⟨y65004, 0, 0⟩ : S113) [.slice A19 y65004.length c19, .int .i64 0, .int .i64 0] (fun k_ => (P0_ k_ ∨ w.heap.size ≤ k_) ∧ some k_ ≠ (v65011 : Value).ownBlock ∧ k_ ≠ gb65009) (fun k_ => ((fun k_ => (P0_ k_ ∨ w.heap.size ≤ k_) ∧ some k_ ≠ (v65011 : Value).ownBlock ∧ k_ ≠ gb65009)) k_ ∧ some k_ ≠ (u9 : Value).ownBlock) rfl rfl ?aP (fun _ hk => hk) ?aF ?aO ?aB ?aS ?aL ?_; (case aP => exact (k113_mkF _ _ (⟨y65004, 0, 0⟩ : S113) (Kd.V_reads' (Kd.V_mono (ok' := (fun k_ => ((fun k_ => (P0_ k_ ∨ w.heap.size ≤ k_) ∧ some k_ ≠ (v65011 : Value).ownBlock ∧ k_ ≠ gb65009)) k_ ∧ some k_ ≠ (u9 : Value).ownBlock)) (HO65008.out) (fun k_ hk => ⟨⟨hk.1.1, ⟨hk.2, hk.1.2.2⟩⟩, hk.1.2.1⟩))).2.1 (Kd.V_F (Kd.V_mono (ok' := (fun k_ => ((fun k_ => (P0_ k_ ∨ w.heap.size ≤ k_) ∧ some k_ ≠ (v65011 : Value).ownBlock ∧ k_ ≠ gb65009)) k_ ∧ some k_ ≠ (u9 : Value).ownBlock)) (HO65008.out) (fun k_ hk => ⟨⟨hk.1.1, ⟨hk.2, hk.1.2.2⟩⟩, hk.1.2.1⟩))))); (case aB => exact (by repeat (first | (with_reducible first | exact HB.out | apply below_alloc | apply pw_below_drewN | apply below_drew1 | refine below_set ?_ GE65009.out) | exact HB.out))); (case aF => exact (fun k_ hk => ⟨(.inr (Nat.le_trans (below_size (by repeat (first | (with_reducible first | exact HB.out | apply below_alloc | apply pw_below_drewN | apply below_drew1 | refine below_set ?_ GE65009.out) | exact HB.out))) hk)), Kd.fresh' (Kd.R_lt (by (with_reducible repeat (first | apply Kd.R_alloc | apply Kd.R_drewN | apply Kd.R_drew)); exact HO65012.out)) k_ hk, Kd.freshB (g := gb65009) (o := .cells #[.slice A19 y65004.length c19, .int .i64 0, .int .i64 0] 113 (0, 0)) (by (with_reducible repeat (first | refine blk_drewN ?_ _ | refine blk_drew ?_ | refine blk_alloc ?_ _)); exact BK65009.out) k_ hk⟩)); (case aO => exact (by (with_reducible repeat (first | apply Kd.N_alloc | apply Kd.N_drewN | apply Kd.N_drew)); exact Kd.N_mono HO_9.out (fun _ hk => ⟨hk.1.1, ⟨hk.2, hk.1.2⟩⟩))); (case aS => exact (below_size (by repeat (first | (with_reducible first | exact HB.out | apply below_alloc | apply pw_below_drewN | apply below_drew1 | refine below_set ?_ GE65009.out) | exact HB.out)))); (case aL => have := LMc17.out; omega); intro v65014 w24 ho hb hg hat; rw [← Ny65013.out] at ho; have n0_ := Aside0.mk (Kd.V_afterv (ok := (fun k_ => (P0_ k_ ∨ w.heap.size ≤ k_) ∧ some k_ ≠ (v65011 : Value).ownBlock ∧ k_ ≠ gb65009)) (by (with_reducible repeat (first | apply Kd.V_alloc | apply Kd.V_drewN | apply Kd.V_drew)); exact Kd.V_mono HO_0.out (fun _ hk => ⟨⟨hk.1.1, ⟨hk.2, hk.1.2.2⟩⟩, hk.1.2.1⟩)) hg hat); have n1_ := Aside0.mk (Kd.V_afterv (ok := (fun k_ => (P0_ k_ ∨ w.heap.size ≤ k_) ∧ some k_ ≠ (v65011 : Value).ownBlock ∧ k_ ≠ gb65009)) (by (with_reducible repeat (first | apply Kd.V_alloc | apply Kd.V_drewN | apply Kd.V_drew)); exact Kd.V_mono HO65008.out (fun _ hk => ⟨⟨hk.1.1, ⟨hk.2, hk.1.2.2⟩⟩, hk.1.2.1⟩)) hg hat); have n2_ := Aside0.mk (blk_grown (g := gb65009) (o := .cells #[.slice A19 y65004.length c19, .int .i64 0, .int .i64 0] 113 (0, 0)) (by (with_reducible repeat (first | refine blk_drewN ?_ _ | refine blk_drew ?_ | refine blk_alloc ?_ _)); exact BK65009.out) hg (Kd.N_away HO_9.out (fun _ hk => hk.1.2))); have n3_ := Aside0.mk (Kd.R_over' (by (with_reducible repeat (first | apply Kd.R_alloc | apply Kd.R_drewN | apply Kd.R_drew)); exact HO65012.out) (Kd.N_typed (by (with_reducible repeat (first | apply Kd.N_alloc | apply Kd.N_drewN | apply Kd.N_drew)); exact HO_9.out)) (by decide) hg); have n4_ := Aside0.mk (hb); have n5_ := Aside0.mk (ho); clear HO_0; clear HO65008; clear BK65009; clear HO65012; clear HB; clear HO_9; have HO_0 := n0_; have HO65008 := n1_; have BK65009 := n2_; have HO65012 := n3_; have HB := n4_; have HO65015 := n5_; clear n0_ n1_ n2_ n3_ n4_ n5_; clear ho hb hg hat))
                              refine bodyPost_ret (results_list (rs := [.tmp 4, .tmp 5, .tmp 6, .tmp 7]) rfl (by simp) (.tmp (.tmp (.tmp (.tmp .nil))))) rfl ?_
                              exact ⟨_, _, by first | rfl | (simp [errW_none, errW_some] <;> rfl) | (simp [*, errW_none, errW_some] <;> rfl), by (with_reducible repeat (first | apply Kd.R_alloc | apply Kd.R_drewN | apply Kd.R_drew)); exact HO65012.out, by (with_reducible repeat (first | apply Kd.N_alloc | apply Kd.N_drewN | apply Kd.N_drew)); exact Kd.N_mono HO65015.out (fun _ hk => ⟨hk.1, hk.2.1⟩), by repeat (first | (with_reducible first | exact HB.out | apply below_alloc | apply pw_below_drewN | apply below_drew1 | refine below_set ?_ GE65009.out) | exact HB.out)⟩
                            · rw [if_neg c17] at H
                              exact absurd H (by simp)
                          · rw [if_neg c16] at H
                            have c16b0 : ((wrap64 (t65003 + t65002)) == (l0.length : Int)) = false := beq_eq_false_iff_ne.mpr c16
                            have c16b1 : ((wrap64 (t65003 + t65002)) != (l0.length : Int)) = true := bne_iff_ne.mpr c16
                            by_cases c25 : (wrap64 ((wrap64 (t65003 + t65002)) + 1)) = (l0.length : Int)
                            · rw [if_pos c25] at H
                              have c25b0 : ((wrap64 ((wrap64 (t65003 + t65002)) + 1)) == (l0.length : Int)) = true := beq_iff_eq.mpr c25
                              have c25b1 : ((wrap64 ((wrap64 (t65003 + t65002)) + 1)) != (l0.length : Int)) = false := bne_eq_false_iff_eq.mpr c25
                              clear c25
                              simp only [Option.some.injEq, Prod.mk.injEq] at H
                              obtain ⟨rfl, rfl, rfl, rfl⟩ := H
                              have p65001 : 0 ≤ (x10_1 : Int) := of_decide_eq_true (by first | (with_reducible assumption) | assumption)
                              have q65001 : x10_1 < (l0.length : Int) := of_decide_eq_true (by first | (with_reducible assumption) | assumption)
                              obtain ⟨ad65001, e65001, hx65001_0⟩ := Kd.at_int (Kd.V_reads' HO_0.out).2.2 x10_1 p65001 q65001
                              cases e65001
                              replace p65001 := eq_true p65001
                              replace q65001 := eq_true q65001
                              go_wp2_with (first | ((with_reducible refine gate_callee (f := 89) rfl ?_); refine goesL_ (some 34) rfl rfl Try.func89 (by kernel_rfl) rfl #[.slice (some ad65001) l0.length c0, .int .i64 ((Int.tdiv (rd l0 x10_1) 16) % 256), .int .i64 (wrap64 (x10_1 + 1))] rfl (by (try simp only [List.map_toArray, List.map_cons, List.map_nil]); first | done | rfl | (simp only [List.length_drop, List.length_take]; rfl)) ?_; (with_reducible refine (portmanteauref05_length.calls k1 _ _ l0 ((Int.tdiv (rd l0 x10_1) 16) % 256) (wrap64 (x10_1 + 1)) t65002 t65003 _ ?side1 ?side2 A6.out).mono ?_); (case side1 => repeat (first | exact (Kd.V_reads' HO_0.out).2.2 | (with_reducible refine Kd.C_alloc ?_ _) | (with_reducible refine Kd.C_drewN ?_ _) | (with_reducible refine Kd.C_drew ?_))); (case side2 => exact (Kd.V_reads' HO_0.out).2.1); rintro e w' ⟨rfl, ⟨nd, rfl⟩⟩; refine ⟨_, rfl, ?_⟩; (try (rw [drewN_self wr]; generalize hq_ : World.drewN wr _ = wr; have n0_ : Aside0 (Kd.V (Kd.int .u8) 5 wr w.heap.size (fun k_ => (P0_ k_ ∨ w.heap.size ≤ k_) ∧ some k_ ≠ (u8 : Value).ownBlock ∧ some k_ ≠ (u9 : Value).ownBlock) (.slice (some ad65001) l0.length c0) l0) := ⟨by rw [← hq_]; exact (by (with_reducible repeat (first | apply Kd.V_alloc | apply Kd.V_drewN | apply Kd.V_drew)); exact HO_0.out)⟩; have n1_ : Aside0 (Kd.R (Kd.int .u8) 5 wr w.heap.size (fun k_ => (w.heap.size ≤ k_)) u8 x8_1) := ⟨by rw [← hq_]; exact (by (with_reducible repeat (first | apply Kd.R_alloc | apply Kd.R_drewN | apply Kd.R_drew)); exact HO_8.out)⟩; have n2_ : Aside0 (Kd.N k113 113 wr w.heap.size (fun k_ => (P0_ k_ ∨ w.heap.size ≤ k_) ∧ some k_ ≠ (u8 : Value).ownBlock) u9 x9_1) := ⟨by rw [← hq_]; exact (by (with_reducible repeat (first | apply Kd.N_alloc | apply Kd.N_drewN | apply Kd.N_drew)); exact HO_9.out)⟩; have n3_ : Aside0 (Below w.heap.size w wr) := ⟨by rw [← hq_]; exact (by repeat (first | (with_reducible first | exact HB.out | apply below_alloc | apply pw_below_drewN | apply below_drew1) | exact HB.out))⟩; clear HO_0 HO_8 HO_9 HB hq_; have HO_0 := n0_; have HO_8 := n1_; have HO_9 := n2_; have HB := n3_; clear n0_ n1_ n2_ n3_)); obtain ⟨Ao26, co26, eo26⟩ := Kd.R_slice HO_8.out; subst eo26; have q27 : ((wrap64 (t65003 + t65002)) : Int) ≤ ((l0.length : Int) : Int) := of_decide_eq_true (by first | (with_reducible assumption) | assumption); obtain ⟨i027, hi027, _, hsz27, _⟩ := info_parts info5; have hroom27 : l0.length ≤ c0 := (Kd.V_reads' HO_0.out).2.1; have hC27 : Kd.F (Kd.int .u8) _ _ (some ad65001) l0.length l0 := (Kd.V_at (base := w.heap.size) HO_0.out).2.2; have ql27 : (t65003 : Int) ≤ ((wrap64 (t65003 + t65002)) : Int) := of_decide_eq_true (by first | (with_reducible assumption) | assumption); have q027 : (0 : Int) ≤ (t65003 : Int) := of_decide_eq_true (by first | (with_reducible assumption) | assumption); have hcut27 := cut_mid (P := Try.prog) 22 5 .i64 .i64 Try.underlying22 hi027 1 hsz27 (some ad65001) l0.length c0 t65003 (wrap64 (t65003 + t65002)) q027 ql27 q27 hroom27; have hr27 := Kd.F_mid (lo := (t65003 : Int).toNat) (hi := ((wrap64 (t65003 + t65002)) : Int).toNat) (c := c0) hC27 (by omega) (by omega) hroom27; obtain ⟨A27, hA27⟩ : ∃ A1, A1 = (if c0 = (t65003 : Int).toNat then (some ad65001) else ((some ad65001) : Option Addr).map (·.add ((t65003 : Int).toNat * 1))) := ⟨_, rfl⟩; obtain ⟨c27, hc27⟩ : ∃ c1, c1 = c0 - (t65003 : Int).toNat := ⟨_, rfl⟩; have hy27 : y65004.length = ((wrap64 (t65003 + t65002)) : Int).toNat - (t65003 : Int).toNat := (by rw [Ny65004.out, List.length_drop, List.length_take] <;> omega); rw [show ((l0).take ((wrap64 (t65003 + t65002)) : Int).toNat).drop (t65003 : Int).toNat = y65004 from Ny65004.out.symm] at hr27; replace hr27 : Kd.F (Kd.int .u8) _ _ A27 y65004.length y65004 := (by rw [hA27]; exact hr27); rw [← hy27, ← hA27, ← hc27] at hcut27; have HO65008 := Aside0.mk (show Kd.V (Kd.int .u8) 5 _ w.heap.size _ (.slice A27 y65004.length c27) y65004 from Kd.V_mk (by rw [hy27, hc27]; exact Nat.sub_le_sub_right (Nat.le_trans (by omega) hroom27) _) hr27); have HC65008 := Aside0.mk (show y65004.length ≤ c27 from by rw [hy27, hc27]; exact Nat.sub_le_sub_right (Nat.le_trans (by omega) hroom27) _); clear hr27 hC27 hroom27 hi027 hsz27 hc27; have KY27 := Aside0.mk hy27; have KA27 := Aside0.mk hA27; clear hy27 hA27; replace q27 := eq_true q27) | ((with_reducible refine gate_dst (N := 14) rfl ?_); (try (refine gate_guard (by rfl) ?_; dsimp only)); refine box_event ?hg (N := 14) ?hd (cs := #[.slice none 0 0, .int .i64 0, .int .i64 0]) (t := 113) ?hr ?_; (case hd => rfl); (case hg => rfl); (case hr => first | (go_simp; done) | (go_simp; rfl)); intro gb65009 hg w28 hbox hb; have n0_ := Aside0.mk (Kd.V_below (Kd.V_elderB (by (with_reducible repeat (first | apply Kd.V_alloc | apply Kd.V_drewN | apply Kd.V_drew)); exact HO_0.out) gb65009 (Nat.le_of_eq hg.symm)) hb); have n1_ := Aside0.mk (Kd.R_below (by (with_reducible repeat (first | apply Kd.R_alloc | apply Kd.R_drewN | apply Kd.R_drew)); exact HO_8.out) hb); have n2_ := Aside0.mk (Kd.N_below (Kd.N_elderB (by (with_reducible repeat (first | apply Kd.N_alloc | apply Kd.N_drewN | apply Kd.N_drew)); exact HO_9.out) gb65009 (Nat.le_of_eq hg.symm)) hb); have n3_ := Aside0.mk (Kd.V_below (Kd.V_elderB (by (with_reducible repeat (first | apply Kd.V_alloc | apply Kd.V_drewN | apply Kd.V_drew)); exact HO65008.out) gb65009 (Nat.le_of_eq hg.symm)) hb); have n4_ := Aside0.mk (below_step (by repeat (first | (with_reducible first | exact HB.out | apply below_alloc | apply pw_below_drewN | apply below_drew1) | exact HB.out)) hb); have n5_ := Aside0.mk (hbox); have n6_ := Aside0.mk ((by rw [hg]; exact (below_size (by repeat (first | (with_reducible first | exact HB.out | apply below_alloc | apply pw_below_drewN | apply below_drew1) | exact HB.out))) : w.heap.size ≤ gb65009)); have n7_ := Aside0.mk ((by rw [hg]; exact (below_size (by repeat (first | (with_reducible first | exact HB.out | apply below_alloc | apply pw_below_drewN | apply below_drew1) | exact HB.out))) : w.heap.size ≤ gb65009)); clear HO_0; clear HO_8; clear HO_9; clear HO65008; clear HB; have HO_0 := n0_; have HO_8 := n1_; have HO_9 := n2_; have HO65008 := n3_; have HB := n4_; have BK65009 := n5_; have GW65009 := n6_; have GE65009 := n7_; clear n0_ n1_ n2_ n3_ n4_ n5_ n6_ n7_; clear hb hbox hg; have hcz29_0 : w28.cell? ⟨gb65009, 0, none⟩ = some (.slice none 0 0) := (blk_cell BK65009.out 0).trans rfl; have hcz29_1 : w28.cell? ⟨gb65009, 1, none⟩ = some (.int .i64 0) := (blk_cell BK65009.out 1).trans rfl; have hcz29_2 : w28.cell? ⟨gb65009, 2, none⟩ = some (.int .i64 0) := (blk_cell BK65009.out 2).trans rfl; have hfz29_0 := blk_frozen BK65009.out 0; have hfz29_1 := blk_frozen BK65009.out 1; have hfz29_2 := blk_frozen BK65009.out 2) | ((with_reducible refine gate_builtin (b := .append) (xs := #[.tmp 63, .tmp 65]) rfl ?_); (try (refine gate_guard (by rfl) ?_; dsimp only)); at_builtin; refine Kd.R_append_rows (Kd.int .u8) (w0 := w) w.heap.size rfl (.tmp 63) (.tmp 65) 22 5 (.int .u8 0) 1 rfl Try.underlying22 info5 rfl (by decide) (by omega) (.slice Ao26 x8_1.length co26) x8_1 y65004 _ _ _ (fun k_ => (w.heap.size ≤ k_)) (fun _ => False) rfl rfl ?aO ?aR (fun _ _ h => h) (fun _ h => h.elim) ?aF ?aB ?aS ?aL ?_; (case aR => refine (Kd.V_reads' (e := 5) (base := w.heap.size) (ok := fun k_ => ((((P0_ k_ ∨ w.heap.size ≤ k_)) ∧ (some k_ ≠ (.slice Ao26 x8_1.length co26 : Value).ownBlock ∧ some k_ ≠ (u9 : Value).ownBlock)) ∧ k_ ≠ gb65009)) (n := y65004.length) (c := c27) ?_).2.2; exact (by (with_reducible repeat (first | apply Kd.V_alloc | apply Kd.V_drewN | apply Kd.V_drew)); exact (Kd.V_mono (Kd.V_far (p := ⟨gb65009, 2, none⟩) (Kd.V_far (p := ⟨gb65009, 1, none⟩) (Kd.V_far (p := ⟨gb65009, 0, none⟩) (Kd.V_mono HO65008.out (fun k_ hk => (⟨hk, hk.2⟩ : _ ∧ k_ ≠ gb65009))) (fun _ hk => hk.2) (.slice A27 y65004.length c27)) (fun _ hk => hk.2) (.int .i64 0)) (fun _ hk => hk.2) (.int .i64 0)) (fun _ h_ => h_.1)))); (case aB => exact (by repeat (first | (with_reducible first | exact HB.out | apply below_alloc | apply pw_below_drewN | apply below_drew1 | refine below_set ?_ GE65009.out) | exact HB.out))); (case aF => exact (fun k_ hk => (Nat.le_trans (below_size (by repeat (first | (with_reducible first | exact HB.out | apply below_alloc | apply pw_below_drewN | apply below_drew1 | refine below_set ?_ GE65009.out) | exact HB.out))) hk))); (case aO => exact (by (with_reducible repeat (first | apply Kd.R_alloc | apply Kd.R_drewN | apply Kd.R_drew)); exact Kd.R_mono (Kd.R_far (p := ⟨gb65009, 2, none⟩) (Kd.R_far (p := ⟨gb65009, 1, none⟩) (Kd.R_far (p := ⟨gb65009, 0, none⟩) (Kd.R_types HO_8.out BK65009.out (by decide)) (fun _ hk => hk.2) (.slice A27 y65004.length c27)) (fun _ hk => hk.2) (.int .i64 0)) (fun _ hk => hk.2) (.int .i64 0)) (fun _ hk => hk.1))); (case aS => exact (below_size (by repeat (first | (with_reducible first | exact HB.out | apply below_alloc | apply pw_below_drewN | apply below_drew1 | refine below_set ?_ GE65009.out) | exact HB.out)))); (case aL => have := LMc15.out; omega); intro v65011 w30 ho hb hg hat; rw [← Ny65010.out] at ho; have n0_ := Aside0.mk (Kd.V_afterv (ok := (fun k_ => (P0_ k_ ∨ w.heap.size ≤ k_) ∧ some k_ ≠ (u9 : Value).ownBlock ∧ k_ ≠ gb65009)) (by (with_reducible repeat (first | apply Kd.V_alloc | apply Kd.V_drewN | apply Kd.V_drew)); exact Kd.V_mono (Kd.V_far (p := ⟨gb65009, 2, none⟩) (Kd.V_far (p := ⟨gb65009, 1, none⟩) (Kd.V_far (p := ⟨gb65009, 0, none⟩) (Kd.V_mono HO_0.out (fun k_ hk => (⟨hk, hk.2⟩ : _ ∧ k_ ≠ gb65009))) (fun _ hk => hk.2) (.slice A27 y65004.length c27)) (fun _ hk => hk.2) (.int .i64 0)) (fun _ hk => hk.2) (.int .i64 0)) (fun _ hk => ⟨⟨hk.1.1.1, ⟨hk.1.1.2.2, hk.1.2⟩⟩, hk.1.1.2.1⟩)) hg hat); have n1_ := Aside0.mk (Kd.N_afterv (ok := (fun k_ => (P0_ k_ ∨ w.heap.size ≤ k_) ∧ k_ ≠ gb65009)) (by (with_reducible repeat (first | apply Kd.N_alloc | apply Kd.N_drewN | apply Kd.N_drew)); exact Kd.N_mono (Kd.N_far (p := ⟨gb65009, 2, none⟩) (Kd.N_far (p := ⟨gb65009, 1, none⟩) (Kd.N_far (p := ⟨gb65009, 0, none⟩) (Kd.N_mono HO_9.out (fun k_ hk => (⟨hk, hk.2⟩ : _ ∧ k_ ≠ gb65009))) (fun _ hk => hk.2) (.slice A27 y65004.length c27)) (fun _ hk => hk.2) (.int .i64 0)) (fun _ hk => hk.2) (.int .i64 0)) (fun _ hk => ⟨⟨hk.1.1.1, hk.1.2⟩, hk.1.1.2⟩)) hg hat); have n2_ := Aside0.mk (Kd.V_afterv (ok := (fun k_ => (P0_ k_ ∨ w.heap.size ≤ k_) ∧ some k_ ≠ (u9 : Value).ownBlock ∧ k_ ≠ gb65009)) (by (with_reducible repeat (first | apply Kd.V_alloc | apply Kd.V_drewN | apply Kd.V_drew)); exact Kd.V_mono (Kd.V_far (p := ⟨gb65009, 2, none⟩) (Kd.V_far (p := ⟨gb65009, 1, none⟩) (Kd.V_far (p := ⟨gb65009, 0, none⟩) (Kd.V_mono HO65008.out (fun k_ hk => (⟨hk, hk.2⟩ : _ ∧ k_ ≠ gb65009))) (fun _ hk => hk.2) (.slice A27 y65004.length c27)) (fun _ hk => hk.2) (.int .i64 0)) (fun _ hk => hk.2) (.int .i64 0)) (fun _ hk => ⟨⟨hk.1.1.1, ⟨hk.1.1.2.2, hk.1.2⟩⟩, hk.1.1.2.1⟩)) hg hat); have n3_ := Aside0.mk (blk_grown (g := gb65009) (o := .cells #[.slice A27 y65004.length c27, .int .i64 0, .int .i64 0] 113 (0, 0)) (by (with_reducible repeat (first | refine blk_drewN ?_ _ | refine blk_drew ?_ | refine blk_alloc ?_ _)); refine blk_put (cs := #[.slice A27 y65004.length c27, .int .i64 0, .int .i64 0]) ?_ 2 _ rfl; (with_reducible repeat (first | refine blk_drewN ?_ _ | refine blk_drew ?_ | refine blk_alloc ?_ _)); refine blk_put (cs := #[.slice A27 y65004.length c27, .int .i64 0, .int .i64 0]) ?_ 1 _ rfl; (with_reducible repeat (first | refine blk_drewN ?_ _ | refine blk_drew ?_ | refine blk_alloc ?_ _)); refine blk_put (cs := #[.slice none 0 0, .int .i64 0, .int .i64 0]) ?_ 0 _ rfl; (with_reducible repeat (first | refine blk_drewN ?_ _ | refine blk_drew ?_ | refine blk_alloc ?_ _)); exact BK65009.out) hg (Kd.R_ne HO_8.out BK65009.out (by decide))); have n4_ := Aside0.mk (hb); have n5_ := Aside0.mk (ho); clear HO_0; clear HO_9; clear HO65008; clear BK65009; clear HB; clear HO_8; have HO_0 := n0_; have HO_9 := n1_; have HO65008 := n2_; have BK65009 := n3_; have HB := n4_; have HO65012 := n5_; clear n0_ n1_ n2_ n3_ n4_ n5_; clear ho hb hg hat))
                              refine bodyPost_ret (results_list (rs := [.tmp 4, .tmp 5, .tmp 6, .tmp 7]) rfl (by simp) (.tmp (.tmp (.tmp (.tmp .nil))))) rfl ?_
                              exact ⟨_, _, by first | rfl | (simp [errW_none, errW_some] <;> rfl) | (simp [*, errW_none, errW_some] <;> rfl), by first | exact Kd.R_nil _ _ _ _ _ | exact Kd.N_nil _ _ _ _ _ | exact Kd.V_nil _ _ _ _ _ | exact Kd.Q_nil _ _ _ _ _ | exact Kd.S_nil _ _ _ _ _, by first | exact Kd.S_nil _ _ _ _ _ | exact Kd.N_nil _ _ _ _ _ | exact Kd.V_nil _ _ _ _ _ | exact Kd.Q_nil _ _ _ _ _ | exact Kd.R_nil _ _ _ _ _, by repeat (first | (with_reducible first | exact HB.out | apply below_alloc | apply pw_below_drewN | apply below_drew1 | refine below_set ?_ GE65009.out) | exact HB.out)⟩
                            · rw [if_neg c25] at H
                              have c25b0 : ((wrap64 ((wrap64 (t65003 + t65002)) + 1)) == (l0.length : Int)) = false := beq_eq_false_iff_ne.mpr c25
                              have c25b1 : ((wrap64 ((wrap64 (t65003 + t65002)) + 1)) != (l0.length : Int)) = true := bne_iff_ne.mpr c25
                              obtain ⟨ji31, hji31⟩ : ∃ j_ : Int, (wrap64 (t65003 + t65002)) = j_ := ⟨_, rfl⟩
                              replace H : (if 0 ≤ (ji31) then (if (ji31) < (l0.length : Int) then (if 0 ≤ (wrap64 ((ji31) + 1)) then (if (wrap64 ((ji31) + 1)) < (l0.length : Int) then (if (wrap64 ((wrap64 (rd l0 (ji31))) + (wrap64 (256 * (wrap64 (rd l0 (wrap64 ((ji31) + 1)))))))) = 0 then (portmanteauref05_Decode.j1 k1 l0 a1 y65010 x9_1 ji31 x10_1 true y65004 (wrap64 ((wrap64 (rd l0 (ji31))) + (wrap64 (256 * (wrap64 (rd l0 (wrap64 ((ji31) + 1)))))))) 0) else (portmanteauref05_Decode.j1 k1 l0 a1 y65010 x9_1 ji31 x10_1 (decide ((wrap64 ((wrap64 (rd l0 (ji31))) + (wrap64 (256 * (wrap64 (rd l0 (wrap64 ((ji31) + 1)))))))) > (y65010.length : Int))) y65004 (wrap64 ((wrap64 (rd l0 (ji31))) + (wrap64 (256 * (wrap64 (rd l0 (wrap64 ((ji31) + 1)))))))) 0)) else (none)) else (none)) else (none)) else (none)) = some (r1, r2, r3, r4) := by first | (rw [hji31] at H; exact H) | (simp only [hji31] at H ⊢; exact H)
                              (try rw [hji31] at c13b0)
                              (try rw [hji31] at c13b1)
                              (try rw [hji31] at c13)
                              (try rw [hji31] at c14b0)
                              (try rw [hji31] at c14b1)
                              (try rw [hji31] at c14)
                              (try rw [hji31] at c16b0)
                              (try rw [hji31] at c16b1)
                              (try rw [hji31] at c25b0)
                              (try rw [hji31] at c25b1)
                              (try rw [hji31] at A6)
                              (try rw [hji31] at Ny65004)
                              (try rw [hji31] at Ny65004)
                              (try rw [hji31] at Ny65004)
                              (try rw [hji31] at Ny65004)
                              have hji31w : (IntKind.i64.wrap (t65003 + t65002)) = ji31 := (i64_w _).trans hji31
                              by_cases c32 : 0 ≤ (ji31)
                              · rw [if_pos c32] at H
                                have c32b0 : decide (0 ≤ (ji31)) = true := decide_eq_true c32
                                clear c32
                                by_cases c33 : (ji31) < (l0.length : Int)
                                · rw [if_pos c33] at H
                                  have c33b0 : decide ((ji31) < (l0.length : Int)) = true := decide_eq_true c33
                                  clear c33
                                  obtain ⟨ji34, hji34⟩ : ∃ j_ : Int, (wrap64 ((ji31) + 1)) = j_ := ⟨_, rfl⟩
                                  replace H : (if 0 ≤ (ji34) then (if (ji34) < (l0.length : Int) then (if (wrap64 ((wrap64 (rd l0 (ji31))) + (wrap64 (256 * (wrap64 (rd l0 (ji34))))))) = 0 then (portmanteauref05_Decode.j1 k1 l0 a1 y65010 x9_1 ji31 x10_1 true y65004 (wrap64 ((wrap64 (rd l0 (ji31))) + (wrap64 (256 * (wrap64 (rd l0 (ji34))))))) 0) else (portmanteauref05_Decode.j1 k1 l0 a1 y65010 x9_1 ji31 x10_1 (decide ((wrap64 ((wrap64 (rd l0 (ji31))) + (wrap64 (256 * (wrap64 (rd l0 (ji34))))))) > (y65010.length : Int))) y65004 (wrap64 ((wrap64 (rd l0 (ji31))) + (wrap64 (256 * (wrap64 (rd l0 (ji34))))))) 0)) else (none)) else (none)) = some (r1, r2, r3, r4) := by first | (rw [hji34] at H; exact H) | (simp only [hji34] at H ⊢; exact H)
                                  (try rw [hji34] at A6)
                                  have hji34w : (IntKind.i64.wrap ((ji31) + 1)) = ji34 := (i64_w _).trans hji34
                                  by_cases c35 : 0 ≤ (ji34)
                                  · rw [if_pos c35] at H
                                    have c35b0 : decide (0 ≤ (ji34)) = true := decide_eq_true c35
                                    clear c35
                                    by_cases c36 : (ji34) < (l0.length : Int)
                                    · rw [if_pos c36] at H
                                      have c36b0 : decide ((ji34) < (l0.length : Int)) = true := decide_eq_true c36
                                      clear c36
                                      have HC37 := Aside0.mk H
                                      clear H
                                      have p65001 : 0 ≤ (x10_1 : Int) := of_decide_eq_true (by first | (with_reducible assumption) | assumption)
                                      have q65001 : x10_1 < (l0.length : Int) := of_decide_eq_true (by first | (with_reducible assumption) | assumption)
                                      obtain ⟨ad65001, e65001, hx65001_0⟩ := Kd.at_int (Kd.V_reads' HO_0.out).2.2 x10_1 p65001 q65001
                                      cases e65001
                                      replace p65001 := eq_true p65001
                                      replace q65001 := eq_true q65001
                                      try go_wp2_with (first | ((with_reducible refine gate_callee (f := 89) rfl ?_); refine goesL_ (some 34) rfl rfl Try.func89 (by kernel_rfl) rfl #[.slice (some ad65001) l0.length c0, .int .i64 ((Int.tdiv (rd l0 x10_1) 16) % 256), .int .i64 (wrap64 (x10_1 + 1))] rfl (by (try simp only [List.map_toArray, List.map_cons, List.map_nil]); first | done | rfl | (simp only [List.length_drop, List.length_take]; rfl)) ?_; (with_reducible refine (portmanteauref05_length.calls k1 _ _ l0 ((Int.tdiv (rd l0 x10_1) 16) % 256) (wrap64 (x10_1 + 1)) t65002 t65003 _ ?side1 ?side2 A6.out).mono ?_); (case side1 => repeat (first | exact (Kd.V_reads' HO_0.out).2.2 | (with_reducible refine Kd.C_alloc ?_ _) | (with_reducible refine Kd.C_drewN ?_ _) | (with_reducible refine Kd.C_drew ?_))); (case side2 => exact (Kd.V_reads' HO_0.out).2.1); rintro e w' ⟨rfl, ⟨nd, rfl⟩⟩; refine ⟨_, rfl, ?_⟩; (try (rw [drewN_self wr]; generalize hq_ : World.drewN wr _ = wr; have n0_ : Aside0 (Kd.V (Kd.int .u8) 5 wr w.heap.size (fun k_ => (P0_ k_ ∨ w.heap.size ≤ k_) ∧ some k_ ≠ (u8 : Value).ownBlock ∧ some k_ ≠ (u9 : Value).ownBlock) (.slice (some ad65001) l0.length c0) l0) := ⟨by rw [← hq_]; exact (by (with_reducible repeat (first | apply Kd.V_alloc | apply Kd.V_drewN | apply Kd.V_drew)); exact HO_0.out)⟩; have n1_ : Aside0 (Kd.R (Kd.int .u8) 5 wr w.heap.size (fun k_ => (w.heap.size ≤ k_)) u8 x8_1) := ⟨by rw [← hq_]; exact (by (with_reducible repeat (first | apply Kd.R_alloc | apply Kd.R_drewN | apply Kd.R_drew)); exact HO_8.out)⟩; have n2_ : Aside0 (Kd.N k113 113 wr w.heap.size (fun k_ => (P0_ k_ ∨ w.heap.size ≤ k_) ∧ some k_ ≠ (u8 : Value).ownBlock) u9 x9_1) := ⟨by rw [← hq_]; exact (by (with_reducible repeat (first | apply Kd.N_alloc | apply Kd.N_drewN | apply Kd.N_drew)); exact HO_9.out)⟩; have n3_ : Aside0 (Below w.heap.size w wr) := ⟨by rw [← hq_]; exact (by repeat (first | (with_reducible first | exact HB.out | apply below_alloc | apply pw_below_drewN | apply below_drew1) | exact HB.out))⟩; clear HO_0 HO_8 HO_9 HB hq_; have HO_0 := n0_; have HO_8 := n1_; have HO_9 := n2_; have HB := n3_; clear n0_ n1_ n2_ n3_)); obtain ⟨Ao38, co38, eo38⟩ := Kd.R_slice HO_8.out; subst eo38; have q39 : ((ji31) : Int) ≤ ((l0.length : Int) : Int) := of_decide_eq_true (by first | (with_reducible assumption) | assumption); obtain ⟨i039, hi039, _, hsz39, _⟩ := info_parts info5; have hroom39 : l0.length ≤ c0 := (Kd.V_reads' HO_0.out).2.1; have hC39 : Kd.F (Kd.int .u8) _ _ (some ad65001) l0.length l0 := (Kd.V_at (base := w.heap.size) HO_0.out).2.2; have ql39 : (t65003 : Int) ≤ ((ji31) : Int) := of_decide_eq_true (by first | (with_reducible assumption) | assumption); have q039 : (0 : Int) ≤ (t65003 : Int) := of_decide_eq_true (by first | (with_reducible assumption) | assumption); have hcut39 := cut_mid (P := Try.prog) 22 5 .i64 .i64 Try.underlying22 hi039 1 hsz39 (some ad65001) l0.length c0 t65003 (ji31) q039 ql39 q39 hroom39; have hr39 := Kd.F_mid (lo := (t65003 : Int).toNat) (hi := ((ji31) : Int).toNat) (c := c0) hC39 (by omega) (by omega) hroom39; obtain ⟨A39, hA39⟩ : ∃ A1, A1 = (if c0 = (t65003 : Int).toNat then (some ad65001) else ((some ad65001) : Option Addr).map (·.add ((t65003 : Int).toNat * 1))) := ⟨_, rfl⟩; obtain ⟨c39, hc39⟩ : ∃ c1, c1 = c0 - (t65003 : Int).toNat := ⟨_, rfl⟩; have hy39 : y65004.length = ((ji31) : Int).toNat - (t65003 : Int).toNat := (by rw [Ny65004.out, List.length_drop, List.length_take] <;> omega); rw [show ((l0).take ((ji31) : Int).toNat).drop (t65003 : Int).toNat = y65004 from Ny65004.out.symm] at hr39; replace hr39 : Kd.F (Kd.int .u8) _ _ A39 y65004.length y65004 := (by rw [hA39]; exact hr39); rw [← hy39, ← hA39, ← hc39] at hcut39; have HO65008 := Aside0.mk (show Kd.V (Kd.int .u8) 5 _ w.heap.size _ (.slice A39 y65004.length c39) y65004 from Kd.V_mk (by rw [hy39, hc39]; exact Nat.sub_le_sub_right (Nat.le_trans (by omega) hroom39) _) hr39); have HC65008 := Aside0.mk (show y65004.length ≤ c39 from by rw [hy39, hc39]; exact Nat.sub_le_sub_right (Nat.le_trans (by omega) hroom39) _); clear hr39 hC39 hroom39 hi039 hsz39 hc39; have KY39 := Aside0.mk hy39; have KA39 := Aside0.mk hA39; clear hy39 hA39; replace q39 := eq_true q39) | ((with_reducible refine gate_dst (N := 14) rfl ?_); (try (refine gate_guard (by rfl) ?_; dsimp only)); refine box_event ?hg (N := 14) ?hd (cs := #[.slice none 0 0, .int .i64 0, .int .i64 0]) (t := 113) ?hr ?_; (case hd => rfl); (case hg => rfl); (case hr => first | (go_simp; done) | (go_simp; rfl)); intro gb65009 hg w40 hbox hb; have n0_ := Aside0.mk (Kd.V_below (Kd.V_elderB (by (with_reducible repeat (first | apply Kd.V_alloc | apply Kd.V_drewN | apply Kd.V_drew)); exact HO_0.out) gb65009 (Nat.le_of_eq hg.symm)) hb); have n1_ := Aside0.mk (Kd.R_below (by (with_reducible repeat (first | apply Kd.R_alloc | apply Kd.R_drewN | apply Kd.R_drew)); exact HO_8.out) hb); have n2_ := Aside0.mk (Kd.N_below (Kd.N_elderB (by (with_reducible repeat (first | apply Kd.N_alloc | apply Kd.N_drewN | apply Kd.N_drew)); exact HO_9.out) gb65009 (Nat.le_of_eq hg.symm)) hb); have n3_ := Aside0.mk (Kd.V_below (Kd.V_elderB (by (with_reducible repeat (first | apply Kd.V_alloc | apply Kd.V_drewN | apply Kd.V_drew)); exact HO65008.out) gb65009 (Nat.le_of_eq hg.symm)) hb); have n4_ := Aside0.mk (below_step (by repeat (first | (with_reducible first | exact HB.out | apply below_alloc | apply pw_below_drewN | apply below_drew1) | exact HB.out)) hb); have n5_ := Aside0.mk (hbox); have n6_ := Aside0.mk ((by rw [hg]; exact (below_size (by repeat (first | (with_reducible first | exact HB.out | apply below_alloc | apply pw_below_drewN | apply below_drew1) | exact HB.out))) : w.heap.size ≤ gb65009)); have n7_ := Aside0.mk ((by rw [hg]; exact (below_size (by repeat (first | (with_reducible first | exact HB.out | apply below_alloc | apply pw_below_drewN | apply below_drew1) | exact HB.out))) : w.heap.size ≤ gb65009)); clear HO_0; clear HO_8; clear HO_9; clear HO65008; clear HB; have HO_0 := n0_; have HO_8 := n1_; have HO_9 := n2_; have HO65008 := n3_; have HB := n4_; have BK65009 := n5_; have GW65009 := n6_; have GE65009 := n7_; clear n0_ n1_ n2_ n3_ n4_ n5_ n6_ n7_; clear hb hbox hg; have hcz41_0 : w40.cell? ⟨gb65009, 0, none⟩ = some (.slice none 0 0) := (blk_cell BK65009.out 0).trans rfl; have hcz41_1 : w40.cell? ⟨gb65009, 1, none⟩ = some (.int .i64 0) := (blk_cell BK65009.out 1).trans rfl; have hcz41_2 : w40.cell? ⟨gb65009, 2, none⟩ = some (.int .i64 0) := (blk_cell BK65009.out 2).trans rfl; have hfz41_0 := blk_frozen BK65009.out 0; have hfz41_1 := blk_frozen BK65009.out 1; have hfz41_2 := blk_frozen BK65009.out 2) | ((with_reducible refine gate_builtin (b := .append) (xs := #[.tmp 63, .tmp 65]) rfl ?_); (try (refine gate_guard (by rfl) ?_; dsimp only)); at_builtin; refine Kd.R_append_rows (Kd.int .u8) (w0 := w) w.heap.size rfl (.tmp 63) (.tmp 65) 22 5 (.int .u8 0) 1 rfl Try.underlying22 info5 rfl (by decide) (by omega) (.slice Ao38 x8_1.length co38) x8_1 y65004 _ _ _ (fun k_ => (w.heap.size ≤ k_)) (fun _ => False) rfl rfl ?aO ?aR (fun _ _ h => h) (fun _ h => h.elim) ?aF ?aB ?aS ?aL ?_; (case aR => refine (Kd.V_reads' (e := 5) (base := w.heap.size) (ok := fun k_ => ((((P0_ k_ ∨ w.heap.size ≤ k_)) ∧ (some k_ ≠ (.slice Ao38 x8_1.length co38 : Value).ownBlock ∧ some k_ ≠ (u9 : Value).ownBlock)) ∧ k_ ≠ gb65009)) (n := y65004.length) (c := c39) ?_).2.2; exact (by (with_reducible repeat (first | apply Kd.V_alloc | apply Kd.V_drewN | apply Kd.V_drew)); exact (Kd.V_mono (Kd.V_far (p := ⟨gb65009, 2, none⟩) (Kd.V_far (p := ⟨gb65009, 1, none⟩) (Kd.V_far (p := ⟨gb65009, 0, none⟩) (Kd.V_mono HO65008.out (fun k_ hk => (⟨hk, hk.2⟩ : _ ∧ k_ ≠ gb65009))) (fun _ hk => hk.2) (.slice A39 y65004.length c39)) (fun _ hk => hk.2) (.int .i64 0)) (fun _ hk => hk.2) (.int .i64 0)) (fun _ h_ => h_.1)))); (case aB => exact (by repeat (first | (with_reducible first | exact HB.out | apply below_alloc | apply pw_below_drewN | apply below_drew1 | refine below_set ?_ GE65009.out) | exact HB.out))); (case aF => exact (fun k_ hk => (Nat.le_trans (below_size (by repeat (first | (with_reducible first | exact HB.out | apply below_alloc | apply pw_below_drewN | apply below_drew1 | refine below_set ?_ GE65009.out) | exact HB.out))) hk))); (case aO => exact (by (with_reducible repeat (first | apply Kd.R_alloc | apply Kd.R_drewN | apply Kd.R_drew)); exact Kd.R_mono (Kd.R_far (p := ⟨gb65009, 2, none⟩) (Kd.R_far (p := ⟨gb65009, 1, none⟩) (Kd.R_far (p := ⟨gb65009, 0, none⟩) (Kd.R_types HO_8.out BK65009.out (by decide)) (fun _ hk => hk.2) (.slice A39 y65004.length c39)) (fun _ hk => hk.2) (.int .i64 0)) (fun _ hk => hk.2) (.int .i64 0)) (fun _ hk => hk.1))); (case aS => exact (below_size (by repeat (first | (with_reducible first | exact HB.out | apply below_alloc | apply pw_below_drewN | apply below_drew1 | refine below_set ?_ GE65009.out) | exact HB.out)))); (case aL => have := LMc15.out; omega); intro v65011 w42 ho hb hg hat; rw [← Ny65010.out] at ho; have n0_ := Aside0.mk (Kd.V_afterv (ok := (fun k_ => (P0_ k_ ∨ w.heap.size ≤ k_) ∧ some k_ ≠ (u9 : Value).ownBlock ∧ k_ ≠ gb65009)) (by (with_reducible repeat (first | apply Kd.V_alloc | apply Kd.V_drewN | apply Kd.V_drew)); exact Kd.V_mono (Kd.V_far (p := ⟨gb65009, 2, none⟩) (Kd.V_far (p := ⟨gb65009, 1, none⟩) (Kd.V_far (p := ⟨gb65009, 0, none⟩) (Kd.V_mono HO_0.out (fun k_ hk => (⟨hk, hk.2⟩ : _ ∧ k_ ≠ gb65009))) (fun _ hk => hk.2) (.slice A39 y65004.length c39)) (fun _ hk => hk.2) (.int .i64 0)) (fun _ hk => hk.2) (.int .i64 0)) (fun _ hk => ⟨⟨hk.1.1.1, ⟨hk.1.1.2.2, hk.1.2⟩⟩, hk.1.1.2.1⟩)) hg hat); have n1_ := Aside0.mk (Kd.N_afterv (ok := (fun k_ => (P0_ k_ ∨ w.heap.size ≤ k_) ∧ k_ ≠ gb65009)) (by (with_reducible repeat (first | apply Kd.N_alloc | apply Kd.N_drewN | apply Kd.N_drew)); exact Kd.N_mono (Kd.N_far (p := ⟨gb65009, 2, none⟩) (Kd.N_far (p := ⟨gb65009, 1, none⟩) (Kd.N_far (p := ⟨gb65009, 0, none⟩) (Kd.N_mono HO_9.out (fun k_ hk => (⟨hk, hk.2⟩ : _ ∧ k_ ≠ gb65009))) (fun _ hk => hk.2) (.slice A39 y65004.length c39)) (fun _ hk => hk.2) (.int .i64 0)) (fun _ hk => hk.2) (.int .i64 0)) (fun _ hk => ⟨⟨hk.1.1.1, hk.1.2⟩, hk.1.1.2⟩)) hg hat); have n2_ := Aside0.mk (Kd.V_afterv (ok := (fun k_ => (P0_ k_ ∨ w.heap.size ≤ k_) ∧ some k_ ≠ (u9 : Value).ownBlock ∧ k_ ≠ gb65009)) (by (with_reducible repeat (first | apply Kd.V_alloc | apply Kd.V_drewN | apply Kd.V_drew)); exact Kd.V_mono (Kd.V_far (p := ⟨gb65009, 2, none⟩) (Kd.V_far (p := ⟨gb65009, 1, none⟩) (Kd.V_far (p := ⟨gb65009, 0, none⟩) (Kd.V_mono HO65008.out (fun k_ hk => (⟨hk, hk.2⟩ : _ ∧ k_ ≠ gb65009))) (fun _ hk => hk.2) (.slice A39 y65004.length c39)) (fun _ hk => hk.2) (.int .i64 0)) (fun _ hk => hk.2) (.int .i64 0)) (fun _ hk => ⟨⟨hk.1.1.1, ⟨hk.1.1.2.2, hk.1.2⟩⟩, hk.1.1.2.1⟩)) hg hat); have n3_ := Aside0.mk (blk_grown (g := gb65009) (o := .cells #[.slice A39 y65004.length c39, .int .i64 0, .int .i64 0] 113 (0, 0)) (by (with_reducible repeat (first | refine blk_drewN ?_ _ | refine blk_drew ?_ | refine blk_alloc ?_ _)); refine blk_put (cs := #[.slice A39 y65004.length c39, .int .i64 0, .int .i64 0]) ?_ 2 _ rfl; (with_reducible repeat (first | refine blk_drewN ?_ _ | refine blk_drew ?_ | refine blk_alloc ?_ _)); refine blk_put (cs := #[.slice A39 y65004.length c39, .int .i64 0, .int .i64 0]) ?_ 1 _ rfl; (with_reducible repeat (first | refine blk_drewN ?_ _ | refine blk_drew ?_ | refine blk_alloc ?_ _)); refine blk_put (cs := #[.slice none 0 0, .int .i64 0, .int .i64 0]) ?_ 0 _ rfl; (with_reducible repeat (first | refine blk_drewN ?_ _ | refine blk_drew ?_ | refine blk_alloc ?_ _)); exact BK65009.out) hg (Kd.R_ne HO_8.out BK65009.out (by decide))); have n4_ := Aside0.mk (hb); have n5_ := Aside0.mk (ho); clear HO_0; clear HO_9; clear HO65008; clear BK65009; clear HB; clear HO_8; have HO_0 := n0_; have HO_9 := n1_; have HO65008 := n2_; have BK65009 := n3_; have HB := n4_; have HO65012 := n5_; clear n0_ n1_ n2_ n3_ n4_ n5_; clear ho hb hg hat))
                                      have n0_ := Aside0.mk (Kd.V_drew HO_0.out)
                                      have n1_ := Aside0.mk (Kd.N_drew HO_9.out)
                                      have n2_ := Aside0.mk (Kd.V_drew HO65008.out)
                                      have n3_ := Aside0.mk (Kd.R_drew HO65012.out)
                                      have n4_ := Aside0.mk (blk_drew BK65009.out)
                                      have n5_ := Aside0.mk (below_drew1 HB.out)
                                      clear HO_0
                                      clear HO_9
                                      clear HO65008
                                      clear HO65012
                                      clear BK65009
                                      clear HB
                                      have HO_0 := n0_
                                      have HO_9 := n1_
                                      have HO65008 := n2_
                                      have HO65012 := n3_
                                      have BK65009 := n4_
                                      have HB := n5_
                                      clear n0_ n1_ n2_ n3_ n4_ n5_
                                      have p65016 : 0 ≤ ((ji31) : Int) := of_decide_eq_true (by first | (with_reducible assumption) | assumption)
                                      have q65016 : (ji31) < (l0.length : Int) := of_decide_eq_true (by first | (with_reducible assumption) | assumption)
                                      obtain ⟨ad65016, e65016, hx65016_0⟩ := Kd.at_int (Kd.V_reads' HO_0.out).2.2 (ji31) p65016 q65016
                                      obtain rfl : ad65001 = ad65016 := (by injection e65016)
                                      replace p65016 := eq_true p65016
                                      replace q65016 := eq_true q65016
                                      have p65017 : 0 ≤ ((ji34) : Int) := of_decide_eq_true (by first | (with_reducible assumption) | assumption)
                                      have q65017 : (ji34) < (l0.length : Int) := of_decide_eq_true (by first | (with_reducible assumption) | assumption)
                                      obtain ⟨ad65017, e65017, hx65017_0⟩ := Kd.at_int (Kd.V_reads' HO_0.out).2.2 (ji34) p65017 q65017
                                      obtain rfl : ad65001 = ad65017 := (by injection e65017)
                                      replace p65017 := eq_true p65017
                                      replace q65017 := eq_true q65017
                                      refine start_ (n := 15) (S := fun w' => w'.cell? (ad65001.add ((ji31)).toNat) = some (.int .u8 (rd l0 (ji31))) ∧ w'.cell? (ad65001.add ((ji34)).toNat) = some (.int .u8 (rd l0 (ji34)))) (ds := []) #[false, false, false, false, false, false, false, false, false, false, false, false, false, false, false] (by kernel_rfl) rfl rfl ⟨hx65016_0, hx65017_0⟩ (fun hHeld => ?_); refine with_tabW portmanteauref05_Decode.tab21 portmanteauref05_Decode.bits21 (fun HT_ HW_ => ?_)
                                      generalize w42.drew = w43 at HO_0 HO_9 HO65008 HO65012 BK65009 HB hx65016_0 hx65017_0 hHeld ⊢
                                      refine pure_ (i := 0) (N := some 88) (v := ?_) (a' := ?_) #[true, false, false, false, false, false, false, false, false, false, false, false, false, false, false] rfl rfl (any_of HT_.out (by kernel_rfl)) (fun _ _ _ h => h) (Or.inl ⟨by rfl, ?_⟩) ?_ ?_
                                      rotate_left
                                      · intro w'
                                        go_simp
                                        with_reducible rfl
                                      rotate_left
                                      · simp only [Act.put, List.setIfInBounds_toArray, List.set_cons_zero, List.set_cons_succ, i64_w, i32_w]
                                        rfl
                                      refine pure_ (i := 1) (N := some 89) (v := ?_) (a' := ?_) #[true, true, false, false, false, false, false, false, false, false, false, false, false, false, false] rfl rfl (any_of HT_.out (by kernel_rfl)) (fun _ _ _ h => h) (Or.inl ⟨by rfl, ?_⟩) ?_ ?_
                                      rotate_left
                                      · intro w'
                                        go_simp
                                        with_reducible rfl
                                      rotate_left
                                      · simp only [Act.put, List.setIfInBounds_toArray, List.set_cons_zero, List.set_cons_succ, i64_w, i32_w]
                                        rfl
                                      refine pure_ (i := 2) (N := some 90) (v := ?_) (a' := ?_) #[true, true, true, false, false, false, false, false, false, false, false, false, false, false, false] rfl rfl (any_of HT_.out (by kernel_rfl)) (fun _ _ _ h => h) (Or.inl ⟨by rfl, ?_⟩) ?_ ?_
                                      rotate_left
                                      · intro w'
                                        go_simp
                                        with_reducible rfl
                                      rotate_left
                                      · simp only [Act.put, List.setIfInBounds_toArray, List.set_cons_zero, List.set_cons_succ, i64_w, i32_w]
                                        rfl
                                      refine pure_ (i := 5) (N := some 93) (v := ?_) (a' := ?_) #[true, true, true, false, false, true, false, false, false, false, false, false, false, false, false] rfl rfl (any_of HT_.out (by kernel_rfl)) (fun _ _ _ h => h) (Or.inl ⟨by rfl, ?_⟩) ?_ ?_
                                      rotate_left
                                      · intro w'
                                        go_simp
                                        with_reducible rfl
                                      rotate_left
                                      · simp only [Act.put, List.setIfInBounds_toArray, List.set_cons_zero, List.set_cons_succ, i64_w, i32_w]
                                        rfl
                                      refine pure_ (i := 6) (N := some 94) (v := ?_) (a' := ?_) #[true, true, true, false, false, true, true, false, false, false, false, false, false, false, false] rfl rfl (any_of HT_.out (by kernel_rfl)) (fun _ _ _ h => h) (Or.inl ⟨by rfl, ?_⟩) ?_ ?_
                                      rotate_left
                                      · intro w'
                                        go_simp
                                        with_reducible rfl
                                      rotate_left
                                      · simp only [Act.put, List.setIfInBounds_toArray, List.set_cons_zero, List.set_cons_succ, i64_w, i32_w]
                                        rfl
                                      refine pure_ (i := 7) (N := some 95) (v := ?_) (a' := ?_) #[true, true, true, false, false, true, true, true, false, false, false, false, false, false, false] rfl rfl (any_of HT_.out (by kernel_rfl)) (fun _ _ _ h => h) (Or.inl ⟨by rfl, ?_⟩) ?_ ?_
                                      rotate_left
                                      · intro w'
                                        go_simp
                                        with_reducible rfl
                                      rotate_left
                                      · simp only [Act.put, List.setIfInBounds_toArray, List.set_cons_zero, List.set_cons_succ, i64_w, i32_w]
                                        rfl
                                      refine pure_ (i := 8) (N := some 96) (v := ?_) (a' := ?_) #[true, true, true, false, false, true, true, true, true, false, false, false, false, false, false] rfl rfl (any_of HT_.out (by kernel_rfl)) (fun _ _ _ h => h) (Or.inl ⟨by rfl, ?_⟩) ?_ ?_
                                      rotate_left
                                      · intro w'
                                        go_simp
                                        with_reducible rfl
                                      rotate_left
                                      · simp only [Act.put, List.setIfInBounds_toArray, List.set_cons_zero, List.set_cons_succ, i64_w, i32_w]
                                        rfl
                                      refine take_ (i := 3) (N := some 91) (v := ?_) (a' := ?_) #[true, true, true, true, false, true, true, true, true, false, false, false, false, false, false] rfl rfl (take_ofW HT_.out HW_.out (by kernel_rfl)) (fun _ _ _ h => h) (Or.inl ⟨by rfl, ?_⟩) hHeld ?_ ?_
                                      rotate_left
                                      · rintro w' ⟨s0, s1⟩
                                        go_simp
                                        with_reducible rfl
                                      rotate_left
                                      · simp only [Act.put, List.setIfInBounds_toArray, List.set_cons_zero, List.set_cons_succ, i64_w, i32_w]
                                        rfl
                                      refine pure_ (i := 4) (N := some 92) (v := ?_) (a' := ?_) #[true, true, true, true, true, true, true, true, true, false, false, false, false, false, false] rfl rfl (any_of HT_.out (by kernel_rfl)) (fun _ _ _ h => h) (Or.inl ⟨by rfl, ?_⟩) ?_ ?_
                                      rotate_left
                                      · intro w'
                                        go_simp
                                        with_reducible rfl
                                      rotate_left
                                      · simp only [Act.put, List.setIfInBounds_toArray, List.set_cons_zero, List.set_cons_succ, i64_w, i32_w]
                                        rfl
                                      refine take_ (i := 9) (N := some 97) (v := ?_) (a' := ?_) #[true, true, true, true, true, true, true, true, true, true, false, false, false, false, false] rfl rfl (take_ofW HT_.out HW_.out (by kernel_rfl)) (fun _ _ _ h => h) (Or.inl ⟨by rfl, ?_⟩) hHeld ?_ ?_
                                      rotate_left
                                      · rintro w' ⟨s0, s1⟩
                                        go_simp
                                        with_reducible rfl
                                      rotate_left
                                      · simp only [Act.put, List.setIfInBounds_toArray, List.set_cons_zero, List.set_cons_succ, i64_w, i32_w]
                                        rfl
                                      refine pure_ (i := 10) (N := some 98) (v := ?_) (a' := ?_) #[true, true, true, true, true, true, true, true, true, true, true, false, false, false, false] rfl rfl (any_of HT_.out (by kernel_rfl)) (fun _ _ _ h => h) (Or.inl ⟨by rfl, ?_⟩) ?_ ?_
                                      rotate_left
                                      · intro w'
                                        go_simp
                                        with_reducible rfl
                                      rotate_left
                                      · simp only [Act.put, List.setIfInBounds_toArray, List.set_cons_zero, List.set_cons_succ, i64_w, i32_w]
                                        rfl
                                      refine pure_ (i := 11) (N := some 99) (v := ?_) (a' := ?_) #[true, true, true, true, true, true, true, true, true, true, true, true, false, false, false] rfl rfl (any_of HT_.out (by kernel_rfl)) (fun _ _ _ h => h) (Or.inl ⟨by rfl, ?_⟩) ?_ ?_
                                      rotate_left
                                      · intro w'
                                        go_simp
                                        with_reducible rfl
                                      rotate_left
                                      · simp only [Act.put, List.setIfInBounds_toArray, List.set_cons_zero, List.set_cons_succ, i64_w, i32_w]
                                        rfl
                                      refine pure_ (i := 12) (N := some 100) (v := ?_) (a' := ?_) #[true, true, true, true, true, true, true, true, true, true, true, true, true, false, false] rfl rfl (any_of HT_.out (by kernel_rfl)) (fun _ _ _ h => h) (Or.inl ⟨by rfl, ?_⟩) ?_ ?_
                                      rotate_left
                                      · intro w'
                                        go_simp
                                        with_reducible rfl
                                      rotate_left
                                      · simp only [Act.put, List.setIfInBounds_toArray, List.set_cons_zero, List.set_cons_succ, i64_w, i32_w]
                                        rfl
                                      refine pure_ (i := 13) (N := some 101) (v := ?_) (a' := ?_) #[true, true, true, true, true, true, true, true, true, true, true, true, true, true, false] rfl rfl (any_of HT_.out (by kernel_rfl)) (fun _ _ _ h => h) (Or.inl ⟨by rfl, ?_⟩) ?_ ?_
                                      rotate_left
                                      · intro w'
                                        go_simp
                                        with_reducible rfl
                                      rotate_left
                                      · simp only [Act.put, List.setIfInBounds_toArray, List.set_cons_zero, List.set_cons_succ, i64_w, i32_w]
                                        rfl
                                      refine one_ (i := 14) (N := none) #[true, true, true, true, true, true, true, true, true, true, true, true, true, true, true] rfl rfl (one_of HT_.out (by kernel_rfl)) (by decide) (fun K hK => ?_)
                                      have hs44 : w43.cell? ⟨gb65009, 1, none⟩ = some (.int .i64 0) := (blk_cell BK65009.out 1).trans rfl
                                      have hfs44 := blk_frozen BK65009.out 1
                                      refine skip_ (w1 := ?_) (by rfl) rfl ?_ ?_
                                      rotate_left
                                      · go_simp
                                        rfl
                                      refine hK.out _ _ ⟨((cell_far (p := ⟨gb65009, _, none⟩) (by first | exact V_block_ne HO_0.out (fun _ hk => hk.1.2.2) (by have h1_ := of_eq_true p65016; have h2_ := of_eq_true q65016; omega) | (rw [add_block]; exact V_block_ne HO_0.out (fun _ hk => hk.1.2.2) (by have h1_ := of_eq_true p65016; have h2_ := of_eq_true q65016; omega)) | (show (Addr.add _ _).block ≠ _; rw [add_block]; exact V_block_ne HO_0.out (fun _ hk => hk.1.2.2) (by have h1_ := of_eq_true p65016; have h2_ := of_eq_true q65016; omega)) | (dsimp only; exact V_block_ne HO_0.out (fun _ hk => hk.1.2.2) (by have h1_ := of_eq_true p65016; have h2_ := of_eq_true q65016; omega))) _).trans (hHeld.1)), ((cell_far (p := ⟨gb65009, _, none⟩) (by first | exact V_block_ne HO_0.out (fun _ hk => hk.1.2.2) (by have h1_ := of_eq_true p65016; have h2_ := of_eq_true q65016; omega) | (rw [add_block]; exact V_block_ne HO_0.out (fun _ hk => hk.1.2.2) (by have h1_ := of_eq_true p65016; have h2_ := of_eq_true q65016; omega)) | (show (Addr.add _ _).block ≠ _; rw [add_block]; exact V_block_ne HO_0.out (fun _ hk => hk.1.2.2) (by have h1_ := of_eq_true p65016; have h2_ := of_eq_true q65016; omega)) | (dsimp only; exact V_block_ne HO_0.out (fun _ hk => hk.1.2.2) (by have h1_ := of_eq_true p65016; have h2_ := of_eq_true q65016; omega))) _).trans (hHeld.2))⟩ (fun hHeld => ?_)
                                      clear hK K
                                      refine done_ (done_of HT_.out (by kernel_rfl)) ?_
                                      go_upto_region 22 with (fail)
                                      go_cut [111] (fun v111 wc => ∃ (kq : Nat) (x111_36 : Bool), v111 = .bool x111_36 ∧ Aside0 (portmanteauref05_Decode.j1 kq l0 a1 y65010 x9_1 ji31 x10_1 x111_36 y65004 (wrap64 ((wrap64 (rd l0 (ji31))) + (wrap64 (256 * (wrap64 (rd l0 (ji34))))))) 0 = some (r1, r2, r3, r4)) ∧ Aside0 (kq ≤ k1) ∧ Aside0 (Kd.V (Kd.int .u8) 5 wc w.heap.size (fun k_ => (P0_ k_ ∨ w.heap.size ≤ k_) ∧ some k_ ≠ (v65011 : Value).ownBlock ∧ some k_ ≠ (u9 : Value).ownBlock ∧ k_ ≠ gb65009) (.slice (some ad65001) l0.length c0) l0) ∧ Aside0 (Kd.R (Kd.int .u8) 5 wc w.heap.size (fun k_ => (w.heap.size ≤ k_)) v65011 y65010) ∧ Aside0 (Kd.N k113 113 wc w.heap.size (fun k_ => (P0_ k_ ∨ w.heap.size ≤ k_) ∧ some k_ ≠ (v65011 : Value).ownBlock ∧ k_ ≠ gb65009) u9 x9_1) ∧ Aside0 (Kd.V (Kd.int .u8) 5 wc w.heap.size (fun k_ => (P0_ k_ ∨ w.heap.size ≤ k_) ∧ some k_ ≠ (v65011 : Value).ownBlock ∧ some k_ ≠ (u9 : Value).ownBlock ∧ k_ ≠ gb65009) (.slice A39 y65004.length c39) y65004) ∧ Aside0 (wc.heap[gb65009]? = some (.cells #[(.slice A39 y65004.length c39), .int .i64 (wrap64 ((wrap64 (rd l0 (ji31))) + (wrap64 (256 * (wrap64 (rd l0 (ji34))))))), .int .i64 0] 113 (0, 0))) ∧ Aside0 (Below w.heap.size w wc))
                                      case first =>
                                        have H := HC37.out
                                        clear HC37
                                        by_cases c45 : (wrap64 ((wrap64 (rd l0 (ji31))) + (wrap64 (256 * (wrap64 (rd l0 (ji34))))))) = 0
                                        · rw [if_pos c45] at H
                                          have c45b0 : ((wrap64 ((wrap64 (rd l0 (ji31))) + (wrap64 (256 * (wrap64 (rd l0 (ji34))))))) == 0) = true := beq_iff_eq.mpr c45
                                          have c45b1 : ((wrap64 ((wrap64 (rd l0 (ji31))) + (wrap64 (256 * (wrap64 (rd l0 (ji34))))))) != 0) = false := bne_eq_false_iff_eq.mpr c45
                                          clear c45
                                          (first | rw [c45b0] | (simp only [i64_w, i32_w]; rw [c45b0]) | skip)
                                          have H' := Aside0.mk H
                                          clear H
                                          have hcz46_0 : w43.cell? ⟨gb65009, 0, none⟩ = some (.slice A39 y65004.length c39) := (blk_cell BK65009.out 0).trans rfl
                                          have hcz46_1 : w43.cell? ⟨gb65009, 1, none⟩ = some (.int .i64 0) := (blk_cell BK65009.out 1).trans rfl
                                          have hcz46_2 : w43.cell? ⟨gb65009, 2, none⟩ = some (.int .i64 0) := (blk_cell BK65009.out 2).trans rfl
                                          have hfz46_0 := blk_frozen BK65009.out 0
                                          have hfz46_1 := blk_frozen BK65009.out 1
                                          have hfz46_2 := blk_frozen BK65009.out 2
                                          go_wp2
                                          go_meet
                                          case rel => exact ⟨_, (true), (by first | rfl | (simp; done) | (simp [*]; done)), H', ⟨by have := HK1.out; first | omega | exact Nat.le_refl _⟩, ⟨by (with_reducible repeat (first | apply Kd.V_alloc | apply Kd.V_drewN | apply Kd.V_drew)); exact Kd.V_mono (Kd.V_far (p := ⟨gb65009, 1, none⟩) (Kd.V_mono HO_0.out (fun k_ hk => (⟨hk, hk.1.2.2⟩ : _ ∧ k_ ≠ gb65009))) (fun _ hk => hk.2) (.int .i64 (wrap64 ((wrap64 (rd l0 (ji31))) + (wrap64 (256 * (wrap64 (rd l0 (ji34))))))))) (fun _ hk => ⟨hk.1.1.1, ⟨hk.1.2, ⟨hk.1.1.2.1, hk.1.1.2.2⟩⟩⟩)⟩, ⟨by (with_reducible repeat (first | apply Kd.R_alloc | apply Kd.R_drewN | apply Kd.R_drew)); exact Kd.R_mono (Kd.R_far (p := ⟨gb65009, 1, none⟩) (Kd.R_types HO65012.out BK65009.out (by decide)) (fun _ hk => hk.2) (.int .i64 (wrap64 ((wrap64 (rd l0 (ji31))) + (wrap64 (256 * (wrap64 (rd l0 (ji34))))))))) (fun _ hk => hk.1)⟩, ⟨by (with_reducible repeat (first | apply Kd.N_alloc | apply Kd.N_drewN | apply Kd.N_drew)); exact Kd.N_mono (Kd.N_far (p := ⟨gb65009, 1, none⟩) (Kd.N_mono HO_9.out (fun k_ hk => (⟨hk, hk.1.2⟩ : _ ∧ k_ ≠ gb65009))) (fun _ hk => hk.2) (.int .i64 (wrap64 ((wrap64 (rd l0 (ji31))) + (wrap64 (256 * (wrap64 (rd l0 (ji34))))))))) (fun _ hk => ⟨hk.1.1.1, ⟨hk.1.2, hk.1.1.2⟩⟩)⟩, ⟨by (with_reducible repeat (first | apply Kd.V_alloc | apply Kd.V_drewN | apply Kd.V_drew)); exact Kd.V_mono (Kd.V_far (p := ⟨gb65009, 1, none⟩) (Kd.V_mono HO65008.out (fun k_ hk => (⟨hk, hk.1.2.2⟩ : _ ∧ k_ ≠ gb65009))) (fun _ hk => hk.2) (.int .i64 (wrap64 ((wrap64 (rd l0 (ji31))) + (wrap64 (256 * (wrap64 (rd l0 (ji34))))))))) (fun _ hk => ⟨hk.1.1.1, ⟨hk.1.2, ⟨hk.1.1.2.1, hk.1.1.2.2⟩⟩⟩)⟩, ⟨by (with_reducible repeat (first | refine blk_drewN ?_ _ | refine blk_drew ?_ | refine blk_alloc ?_ _)); refine blk_put (cs := #[.slice A39 y65004.length c39, .int .i64 0, .int .i64 0]) ?_ 1 _ rfl; (with_reducible repeat (first | refine blk_drewN ?_ _ | refine blk_drew ?_ | refine blk_alloc ?_ _)); exact BK65009.out⟩, ⟨by repeat (first | (with_reducible first | exact HB.out | apply below_alloc | apply pw_below_drewN | apply below_drew1 | refine below_set ?_ GE65009.out) | exact HB.out)⟩⟩
                                        · rw [if_neg c45] at H
                                          have c45b0 : ((wrap64 ((wrap64 (rd l0 (ji31))) + (wrap64 (256 * (wrap64 (rd l0 (ji34))))))) == 0) = false := beq_eq_false_iff_ne.mpr c45
                                          have c45b1 : ((wrap64 ((wrap64 (rd l0 (ji31))) + (wrap64 (256 * (wrap64 (rd l0 (ji34))))))) != 0) = true := bne_iff_ne.mpr c45
                                          (first | rw [c45b0] | (simp only [i64_w, i32_w]; rw [c45b0]) | skip)
                                          have H' := Aside0.mk H
                                          clear H
                                          have hcz47_0 : w43.cell? ⟨gb65009, 0, none⟩ = some (.slice A39 y65004.length c39) := (blk_cell BK65009.out 0).trans rfl
                                          have hcz47_1 : w43.cell? ⟨gb65009, 1, none⟩ = some (.int .i64 0) := (blk_cell BK65009.out 1).trans rfl
                                          have hcz47_2 : w43.cell? ⟨gb65009, 2, none⟩ = some (.int .i64 0) := (blk_cell BK65009.out 2).trans rfl
                                          have hfz47_0 := blk_frozen BK65009.out 0
                                          have hfz47_1 := blk_frozen BK65009.out 1
                                          have hfz47_2 := blk_frozen BK65009.out 2
                                          obtain ⟨Ao48, co48, eo48⟩ := Kd.R_slice HO65012.out
                                          subst eo48
                                          go_wp2
                                          go_meet
                                          case rel => exact ⟨_, (decide ((wrap64 ((wrap64 (rd l0 (ji31))) + (wrap64 (256 * (wrap64 (rd l0 (ji34))))))) > (y65010.length : Int))), (by first | rfl | (simp; done) | (simp only [← hji31, ← hji34] <;> (first | rfl | simp)) | (simp [*]; done)), H', ⟨by have := HK1.out; first | omega | exact Nat.le_refl _⟩, ⟨by (with_reducible repeat (first | apply Kd.V_alloc | apply Kd.V_drewN | apply Kd.V_drew)); exact Kd.V_mono (Kd.V_far (p := ⟨gb65009, 1, none⟩) (Kd.V_mono HO_0.out (fun k_ hk => (⟨hk, hk.1.2.2⟩ : _ ∧ k_ ≠ gb65009))) (fun _ hk => hk.2) (.int .i64 (wrap64 ((wrap64 (rd l0 (ji31))) + (wrap64 (256 * (wrap64 (rd l0 (ji34))))))))) (fun _ hk => ⟨hk.1.1.1, ⟨hk.1.2, ⟨hk.1.1.2.1, hk.1.1.2.2⟩⟩⟩)⟩, ⟨by (with_reducible repeat (first | apply Kd.R_alloc | apply Kd.R_drewN | apply Kd.R_drew)); exact Kd.R_mono (Kd.R_far (p := ⟨gb65009, 1, none⟩) (Kd.R_types HO65012.out BK65009.out (by decide)) (fun _ hk => hk.2) (.int .i64 (wrap64 ((wrap64 (rd l0 (ji31))) + (wrap64 (256 * (wrap64 (rd l0 (ji34))))))))) (fun _ hk => hk.1)⟩, ⟨by (with_reducible repeat (first | apply Kd.N_alloc | apply Kd.N_drewN | apply Kd.N_drew)); exact Kd.N_mono (Kd.N_far (p := ⟨gb65009, 1, none⟩) (Kd.N_mono HO_9.out (fun k_ hk => (⟨hk, hk.1.2⟩ : _ ∧ k_ ≠ gb65009))) (fun _ hk => hk.2) (.int .i64 (wrap64 ((wrap64 (rd l0 (ji31))) + (wrap64 (256 * (wrap64 (rd l0 (ji34))))))))) (fun _ hk => ⟨hk.1.1.1, ⟨hk.1.2, hk.1.1.2⟩⟩)⟩, ⟨by (with_reducible repeat (first | apply Kd.V_alloc | apply Kd.V_drewN | apply Kd.V_drew)); exact Kd.V_mono (Kd.V_far (p := ⟨gb65009, 1, none⟩) (Kd.V_mono HO65008.out (fun k_ hk => (⟨hk, hk.1.2.2⟩ : _ ∧ k_ ≠ gb65009))) (fun _ hk => hk.2) (.int .i64 (wrap64 ((wrap64 (rd l0 (ji31))) + (wrap64 (256 * (wrap64 (rd l0 (ji34))))))))) (fun _ hk => ⟨hk.1.1.1, ⟨hk.1.2, ⟨hk.1.1.2.1, hk.1.1.2.2⟩⟩⟩)⟩, ⟨by (with_reducible repeat (first | refine blk_drewN ?_ _ | refine blk_drew ?_ | refine blk_alloc ?_ _)); refine blk_put (cs := #[.slice A39 y65004.length c39, .int .i64 0, .int .i64 0]) ?_ 1 _ rfl; (with_reducible repeat (first | refine blk_drewN ?_ _ | refine blk_drew ?_ | refine blk_alloc ?_ _)); exact BK65009.out⟩, ⟨by repeat (first | (with_reducible first | exact HB.out | apply below_alloc | apply pw_below_drewN | apply below_drew1 | refine below_set ?_ GE65009.out) | exact HB.out)⟩⟩
                                      case rest =>
                                        clear HC37
                                        try clear c1
                                        try clear q1
                                        try clear c2
                                        try clear p2
                                        try clear q2
                                        try clear c3
                                        try clear c3b0
                                        try clear q3
                                        try clear c4
                                        try clear c4b0
                                        try clear c5
                                        try clear c5b0
                                        try clear c6
                                        try clear p6
                                        try clear q6
                                        try clear hx6
                                        try clear c7
                                        try clear c7b0
                                        try clear c8
                                        try clear c8b0
                                        try clear c10
                                        try clear c10b0
                                        try clear c12
                                        try clear c12b0
                                        try clear c12b1
                                        try clear c13
                                        try clear c13b0
                                        try clear c13b1
                                        try clear c14
                                        try clear c14b0
                                        try clear c14b1
                                        try clear c15
                                        try clear c16
                                        try clear c16b0
                                        try clear c16b1
                                        try clear c17
                                        try clear c19
                                        try clear q19
                                        try clear c25
                                        try clear c25b0
                                        try clear c25b1
                                        try clear c27
                                        try clear q27
                                        try clear c32
                                        try clear c32b0
                                        try clear c33
                                        try clear c33b0
                                        try clear c35
                                        try clear c35b0
                                        try clear c36
                                        try clear c36b0
                                        try clear c39
                                        try clear q39
                                        try clear c45
                                        try clear c45b0
                                        try clear c45b1
                                        try clear hcz21_0
                                        try clear hcz21_1
                                        try clear hcz21_2
                                        try clear hcz23_0
                                        try clear hcz23_1
                                        try clear hcz23_2
                                        try clear hcz29_0
                                        try clear hcz29_1
                                        try clear hcz29_2
                                        try clear hcz41_0
                                        try clear hcz41_1
                                        try clear hcz41_2
                                        try clear hcz46_0
                                        try clear hcz46_1
                                        try clear hcz46_2
                                        try clear hcz47_0
                                        try clear hcz47_1
                                        try clear hcz47_2
                                        try clear hfz21_0
                                        try clear hfz21_1
                                        try clear hfz21_2
                                        try clear hfz23_0
                                        try clear hfz23_1
                                        try clear hfz23_2
                                        try clear hfz29_0
                                        try clear hfz29_1
                                        try clear hfz29_2
                                        try clear hfz41_0
                                        try clear hfz41_1
                                        try clear hfz41_2
                                        try clear hfz46_0
                                        try clear hfz46_1
                                        try clear hfz46_2
                                        try clear hfz47_0
                                        try clear hfz47_1
                                        try clear hfz47_2
                                        try clear hx65001_0
                                        try clear hx65016_0
                                        try clear hx65017_0
                                        try clear p2
                                        try clear p65001
                                        try clear p65016
                                        try clear p65017
                                        try clear q019
                                        try clear q027
                                        try clear q039
                                        try clear q19
                                        try clear q27
                                        try clear q39
                                        try clear q65001
                                        try clear q65016
                                        try clear q65017
                                        obtain ⟨kq, x111_36, rfl, HA, HJ36, HO_0, HO_8, HO_9, HO_65010000, BK65009, HB⟩ := hcut
                                        cases kq with
                                        | zero => exact absurd HA.out (by simp [portmanteauref05_Decode.j1])
                                        | succ kj36 =>
                                          have H := HA.out
                                          clear HA
                                          simp only [portmanteauref05_Decode.j1] at H
                                          by_cases c49 : x111_36 = true
                                          · subst c49
                                            have H1 : (some (([] : List Int), ([] : List (S113)), 9, ji31)) = some (r1, r2, r3, r4) := by rw [if_pos rfl] at H; exact H
                                            clear H
                                            have H := H1
                                            clear H1
                                            simp only [Option.some.injEq, Prod.mk.injEq] at H
                                            obtain ⟨rfl, rfl, rfl, rfl⟩ := H
                                            go_wp2
                                            refine bodyPost_ret (results_list (rs := [.tmp 4, .tmp 5, .tmp 6, .tmp 7]) rfl (by simp) (.tmp (.tmp (.tmp (.tmp .nil))))) rfl ?_
                                            exact ⟨_, _, by first | rfl | (simp [errW_none, errW_some] <;> rfl) | (simp only [← hji31, ← hji34]; first | rfl | (simp [errW_none, errW_some] <;> rfl)) | (simp [*, errW_none, errW_some] <;> rfl), by first | exact Kd.R_nil _ _ _ _ _ | exact Kd.N_nil _ _ _ _ _ | exact Kd.V_nil _ _ _ _ _ | exact Kd.Q_nil _ _ _ _ _ | exact Kd.S_nil _ _ _ _ _, by first | exact Kd.S_nil _ _ _ _ _ | exact Kd.N_nil _ _ _ _ _ | exact Kd.V_nil _ _ _ _ _ | exact Kd.Q_nil _ _ _ _ _ | exact Kd.R_nil _ _ _ _ _, by repeat (first | (with_reducible first | exact HB.out | apply below_alloc | apply pw_below_drewN | apply below_drew1 | refine below_set ?_ GE65009.out) | exact HB.out)⟩
                                          · replace c49 := Bool.eq_false_iff.mpr c49
                                            subst c49
                                            have H1 : (if 0 ≤ x10_1 then (if x10_1 < (l0.length : Int) then ((portmanteauref05_length.f kj36 l0 (wrap64 (Int.tmod (rd l0 x10_1) 16)) (wrap64 (ji31 + 2))).bind fun bt65019 => (if bt65019.1 < 0 then (some (([] : List Int), ([] : List (S113)), 6, (l0.length : Int))) else (if (wrap64 (bt65019.1 + 4)) > (wrap64 (a1 - (y65010.length : Int))) then (some (([] : List Int), ([] : List (S113)), 2, x10_1)) else (portmanteauref05_Decode.l1 kj36 l0 a1 y65010 x9_1 bt65019.2 0 y65004 (wrap64 ((wrap64 (rd l0 (ji31))) + (wrap64 (256 * (wrap64 (rd l0 (ji34))))))) (wrap64 (bt65019.1 + 4)))))) else (none)) else (none)) = some (r1, r2, r3, r4) := by rw [if_neg (show ¬ (false = true) by decide)] at H; exact H
                                            clear H
                                            have H := H1
                                            clear H1
                                            by_cases c50 : 0 ≤ x10_1
                                            · rw [if_pos c50] at H
                                              have c50b0 : decide (0 ≤ x10_1) = true := decide_eq_true c50
                                              clear c50
                                              by_cases c51 : x10_1 < (l0.length : Int)
                                              · rw [if_pos c51] at H
                                                have c51b0 : decide (x10_1 < (l0.length : Int)) = true := decide_eq_true c51
                                                clear c51
                                                replace H := Option.bind_eq_some_iff.mp H
                                                obtain ⟨⟨t65019, t65020⟩, A520, H⟩ := H
                                                replace H : (if t65019 < 0 then (some (([] : List Int), ([] : List (S113)), 6, (l0.length : Int))) else (if (wrap64 (t65019 + 4)) > (wrap64 (a1 - (y65010.length : Int))) then (some (([] : List Int), ([] : List (S113)), 2, x10_1)) else (portmanteauref05_Decode.l1 kj36 l0 a1 y65010 x9_1 t65020 0 y65004 (wrap64 ((wrap64 (rd l0 (ji31))) + (wrap64 (256 * (wrap64 (rd l0 (ji34))))))) (wrap64 (t65019 + 4))))) = some (r1, r2, r3, r4) := H
                                                have A52 := Aside0.mk A520
                                                clear A520
                                                by_cases c53 : t65019 < 0
                                                · rw [if_pos c53] at H
                                                  have c53b0 : decide (t65019 < 0) = true := decide_eq_true c53
                                                  clear c53
                                                  simp only [Option.some.injEq, Prod.mk.injEq] at H
                                                  obtain ⟨rfl, rfl, rfl, rfl⟩ := H
                                                  have p65018 : 0 ≤ (x10_1 : Int) := of_decide_eq_true (by first | (with_reducible assumption) | assumption)
                                                  have q65018 : x10_1 < (l0.length : Int) := of_decide_eq_true (by first | (with_reducible assumption) | assumption)
                                                  obtain ⟨ad65018, e65018, hx65018_0⟩ := Kd.at_int (Kd.V_reads' HO_0.out).2.2 x10_1 p65018 q65018
                                                  obtain rfl : ad65001 = ad65018 := (by injection e65018)
                                                  replace p65018 := eq_true p65018
                                                  replace q65018 := eq_true q65018
                                                  go_wp2_with (first | ((with_reducible refine gate_callee (f := 89) rfl ?_); refine goesL_ (some 123) rfl rfl Try.func89 (by kernel_rfl) rfl #[.slice (some ad65001) l0.length c0, .int .i64 (wrap64 (Int.tmod (rd l0 x10_1) 16)), .int .i64 (wrap64 (ji31 + 2))] rfl (by (try simp only [List.map_toArray, List.map_cons, List.map_nil]); first | done | (simp only [hji31]; rfl) | rfl | (simp only [List.length_drop, List.length_take]; rfl)) ?_; (with_reducible refine (portmanteauref05_length.calls kj36 _ _ l0 (wrap64 (Int.tmod (rd l0 x10_1) 16)) (wrap64 (ji31 + 2)) t65019 t65020 _ ?side1 ?side2 A52.out).mono ?_); (case side1 => repeat (first | exact (Kd.V_reads' HO_0.out).2.2 | (with_reducible refine Kd.C_alloc ?_ _) | (with_reducible refine Kd.C_drewN ?_ _) | (with_reducible refine Kd.C_drew ?_))); (case side2 => exact (Kd.V_reads' HO_0.out).2.1); rintro e w' ⟨rfl, ⟨nd, rfl⟩⟩; refine ⟨_, rfl, ?_⟩))
                                                  refine bodyPost_ret (results_list (rs := [.tmp 4, .tmp 5, .tmp 6, .tmp 7]) rfl (by simp) (.tmp (.tmp (.tmp (.tmp .nil))))) rfl ?_
                                                  exact ⟨_, _, by first | rfl | (simp [errW_none, errW_some] <;> rfl) | (simp only [← hji31, ← hji34]; first | rfl | (simp [errW_none, errW_some] <;> rfl)) | (simp [*, errW_none, errW_some] <;> rfl), by first | exact Kd.R_nil _ _ _ _ _ | exact Kd.N_nil _ _ _ _ _ | exact Kd.V_nil _ _ _ _ _ | exact Kd.Q_nil _ _ _ _ _ | exact Kd.S_nil _ _ _ _ _, by first | exact Kd.S_nil _ _ _ _ _ | exact Kd.N_nil _ _ _ _ _ | exact Kd.V_nil _ _ _ _ _ | exact Kd.Q_nil _ _ _ _ _ | exact Kd.R_nil _ _ _ _ _, by repeat (first | (with_reducible first | exact HB.out | apply below_alloc | apply pw_below_drewN | apply below_drew1 | refine below_set ?_ GE65009.out) | exact HB.out)⟩
                                                · rw [if_neg c53] at H
                                                  have c53b0 : decide (t65019 < 0) = false := decide_eq_false c53
                                                  clear c53
                                                  by_cases c54 : (wrap64 (t65019 + 4)) > (wrap64 (a1 - (y65010.length : Int)))
                                                  · rw [if_pos c54] at H
                                                    have c54b0 : decide ((wrap64 (a1 - (y65010.length : Int))) < (wrap64 (t65019 + 4))) = true := decide_eq_true c54
                                                    clear c54
                                                    simp only [Option.some.injEq, Prod.mk.injEq] at H
                                                    obtain ⟨rfl, rfl, rfl, rfl⟩ := H
                                                    have p65018 : 0 ≤ (x10_1 : Int) := of_decide_eq_true (by first | (with_reducible assumption) | assumption)
                                                    have q65018 : x10_1 < (l0.length : Int) := of_decide_eq_true (by first | (with_reducible assumption) | assumption)
                                                    obtain ⟨ad65018, e65018, hx65018_0⟩ := Kd.at_int (Kd.V_reads' HO_0.out).2.2 x10_1 p65018 q65018
                                                    obtain rfl : ad65001 = ad65018 := (by injection e65018)
                                                    replace p65018 := eq_true p65018
                                                    replace q65018 := eq_true q65018
                                                    go_wp2_with (first | ((with_reducible refine gate_callee (f := 89) rfl ?_); refine goesL_ (some 123) rfl rfl Try.func89 (by kernel_rfl) rfl #[.slice (some ad65001) l0.length c0, .int .i64 (wrap64 (Int.tmod (rd l0 x10_1) 16)), .int .i64 (wrap64 (ji31 + 2))] rfl (by (try simp only [List.map_toArray, List.map_cons, List.map_nil]); first | done | (simp only [hji31]; rfl) | rfl | (simp only [List.length_drop, List.length_take]; rfl)) ?_; (with_reducible refine (portmanteauref05_length.calls kj36 _ _ l0 (wrap64 (Int.tmod (rd l0 x10_1) 16)) (wrap64 (ji31 + 2)) t65019 t65020 _ ?side1 ?side2 A52.out).mono ?_); (case side1 => repeat (first | exact (Kd.V_reads' HO_0.out).2.2 | (with_reducible refine Kd.C_alloc ?_ _) | (with_reducible refine Kd.C_drewN ?_ _) | (with_reducible refine Kd.C_drew ?_))); (case side2 => exact (Kd.V_reads' HO_0.out).2.1); rintro e w' ⟨rfl, ⟨nd, rfl⟩⟩; refine ⟨_, rfl, ?_⟩; (try (rw [drewN_self wc]; generalize hq_ : World.drewN wc _ = wc; have n0_ : Aside0 (Kd.V (Kd.int .u8) 5 wc w.heap.size (fun k_ => (P0_ k_ ∨ w.heap.size ≤ k_) ∧ some k_ ≠ (v65011 : Value).ownBlock ∧ some k_ ≠ (u9 : Value).ownBlock ∧ k_ ≠ gb65009) (.slice (some ad65001) l0.length c0) l0) := ⟨by rw [← hq_]; exact (by (with_reducible repeat (first | apply Kd.V_alloc | apply Kd.V_drewN | apply Kd.V_drew)); exact HO_0.out)⟩; have n1_ : Aside0 (Kd.V (Kd.int .u8) 5 wc w.heap.size (fun k_ => (P0_ k_ ∨ w.heap.size ≤ k_) ∧ some k_ ≠ (v65011 : Value).ownBlock ∧ some k_ ≠ (u9 : Value).ownBlock ∧ k_ ≠ gb65009) (.slice A39 y65004.length c39) y65004) := ⟨by rw [← hq_]; exact (by (with_reducible repeat (first | apply Kd.V_alloc | apply Kd.V_drewN | apply Kd.V_drew)); exact HO_65010000.out)⟩; have n2_ : Aside0 (Kd.R (Kd.int .u8) 5 wc w.heap.size (fun k_ => (w.heap.size ≤ k_)) v65011 y65010) := ⟨by rw [← hq_]; exact (by (with_reducible repeat (first | apply Kd.R_alloc | apply Kd.R_drewN | apply Kd.R_drew)); exact HO_8.out)⟩; have n3_ : Aside0 (Kd.N k113 113 wc w.heap.size (fun k_ => (P0_ k_ ∨ w.heap.size ≤ k_) ∧ some k_ ≠ (v65011 : Value).ownBlock ∧ k_ ≠ gb65009) u9 x9_1) := ⟨by rw [← hq_]; exact (by (with_reducible repeat (first | apply Kd.N_alloc | apply Kd.N_drewN | apply Kd.N_drew)); exact HO_9.out)⟩; have n4_ : Aside0 (wc.heap[gb65009]? = some (.cells #[.slice A39 y65004.length c39, .int .i64 (wrap64 ((wrap64 (rd l0 (ji31))) + (wrap64 (256 * (wrap64 (rd l0 (ji34))))))), .int .i64 0] 113 (0, 0))) := ⟨by rw [← hq_]; exact (by (with_reducible repeat (first | refine blk_drewN ?_ _ | refine blk_drew ?_ | refine blk_alloc ?_ _)); exact BK65009.out)⟩; have n5_ : Aside0 (Below w.heap.size w wc) := ⟨by rw [← hq_]; exact (by repeat (first | (with_reducible first | exact HB.out | apply below_alloc | apply pw_below_drewN | apply below_drew1 | refine below_set ?_ GE65009.out) | exact HB.out))⟩; clear HO_0 HO_65010000 HO_8 HO_9 BK65009 HB hq_; have HO_0 := n0_; have HO_65010000 := n1_; have HO_8 := n2_; have HO_9 := n3_; have BK65009 := n4_; have HB := n5_; clear n0_ n1_ n2_ n3_ n4_ n5_)); have hcz55_0 : wc.cell? ⟨gb65009, 0, none⟩ = some (.slice A39 y65004.length c39) := (blk_cell BK65009.out 0).trans rfl; have hcz55_1 : wc.cell? ⟨gb65009, 1, none⟩ = some (.int .i64 (wrap64 ((wrap64 (rd l0 (ji31))) + (wrap64 (256 * (wrap64 (rd l0 (ji34)))))))) := (blk_cell BK65009.out 1).trans rfl; have hcz55_2 : wc.cell? ⟨gb65009, 2, none⟩ = some (.int .i64 0) := (blk_cell BK65009.out 2).trans rfl; have hfz55_0 := blk_frozen BK65009.out 0; have hfz55_1 := blk_frozen BK65009.out 1; have hfz55_2 := blk_frozen BK65009.out 2; obtain ⟨Ao56, co56, eo56⟩ := Kd.R_slice HO_8.out; subst eo56))
                                                    refine bodyPost_ret (results_list (rs := [.tmp 4, .tmp 5, .tmp 6, .tmp 7]) rfl (by simp) (.tmp (.tmp (.tmp (.tmp .nil))))) rfl ?_
                                                    exact ⟨_, _, by first | rfl | (simp [errW_none, errW_some] <;> rfl) | (simp only [← hji31, ← hji34]; first | rfl | (simp [errW_none, errW_some] <;> rfl)) | (simp [*, errW_none, errW_some] <;> rfl), by first | exact Kd.R_nil _ _ _ _ _ | exact Kd.N_nil _ _ _ _ _ | exact Kd.V_nil _ _ _ _ _ | exact Kd.Q_nil _ _ _ _ _ | exact Kd.S_nil _ _ _ _ _, by first | exact Kd.S_nil _ _ _ _ _ | exact Kd.N_nil _ _ _ _ _ | exact Kd.V_nil _ _ _ _ _ | exact Kd.Q_nil _ _ _ _ _ | exact Kd.R_nil _ _ _ _ _, by repeat (first | (with_reducible first | exact HB.out | apply below_alloc | apply pw_below_drewN | apply below_drew1 | refine below_set ?_ GE65009.out) | exact HB.out)⟩
                                                  · rw [if_neg c54] at H
                                                    have c54b0 : decide ((wrap64 (a1 - (y65010.length : Int))) < (wrap64 (t65019 + 4))) = false := decide_eq_false c54
                                                    clear c54
                                                    have H' := Aside0.mk H
                                                    clear H
                                                    have p65018 : 0 ≤ (x10_1 : Int) := of_decide_eq_true (by first | (with_reducible assumption) | assumption)
                                                    have q65018 : x10_1 < (l0.length : Int) := of_decide_eq_true (by first | (with_reducible assumption) | assumption)
                                                    obtain ⟨ad65018, e65018, hx65018_0⟩ := Kd.at_int (Kd.V_reads' HO_0.out).2.2 x10_1 p65018 q65018
                                                    obtain rfl : ad65001 = ad65018 := (by injection e65018)
                                                    replace p65018 := eq_true p65018
                                                    replace q65018 := eq_true q65018
                                                    go_wp2_with (first | ((with_reducible refine gate_callee (f := 89) rfl ?_); refine goesL_ (some 123) rfl rfl Try.func89 (by kernel_rfl) rfl #[.slice (some ad65001) l0.length c0, .int .i64 (wrap64 (Int.tmod (rd l0 x10_1) 16)), .int .i64 (wrap64 (ji31 + 2))] rfl (by (try simp only [List.map_toArray, List.map_cons, List.map_nil]); first | done | (simp only [hji31]; rfl) | rfl | (simp only [List.length_drop, List.length_take]; rfl)) ?_; (with_reducible refine (portmanteauref05_length.calls kj36 _ _ l0 (wrap64 (Int.tmod (rd l0 x10_1) 16)) (wrap64 (ji31 + 2)) t65019 t65020 _ ?side1 ?side2 A52.out).mono ?_); (case side1 => repeat (first | exact (Kd.V_reads' HO_0.out).2.2 | (with_reducible refine Kd.C_alloc ?_ _) | (with_reducible refine Kd.C_drewN ?_ _) | (with_reducible refine Kd.C_drew ?_))); (case side2 => exact (Kd.V_reads' HO_0.out).2.1); rintro e w' ⟨rfl, ⟨nd, rfl⟩⟩; refine ⟨_, rfl, ?_⟩; (try (rw [drewN_self wc]; generalize hq_ : World.drewN wc _ = wc; have n0_ : Aside0 (Kd.V (Kd.int .u8) 5 wc w.heap.size (fun k_ => (P0_ k_ ∨ w.heap.size ≤ k_) ∧ some k_ ≠ (v65011 : Value).ownBlock ∧ some k_ ≠ (u9 : Value).ownBlock ∧ k_ ≠ gb65009) (.slice (some ad65001) l0.length c0) l0) := ⟨by rw [← hq_]; exact (by (with_reducible repeat (first | apply Kd.V_alloc | apply Kd.V_drewN | apply Kd.V_drew)); exact HO_0.out)⟩; have n1_ : Aside0 (Kd.V (Kd.int .u8) 5 wc w.heap.size (fun k_ => (P0_ k_ ∨ w.heap.size ≤ k_) ∧ some k_ ≠ (v65011 : Value).ownBlock ∧ some k_ ≠ (u9 : Value).ownBlock ∧ k_ ≠ gb65009) (.slice A39 y65004.length c39) y65004) := ⟨by rw [← hq_]; exact (by (with_reducible repeat (first | apply Kd.V_alloc | apply Kd.V_drewN | apply Kd.V_drew)); exact HO_65010000.out)⟩; have n2_ : Aside0 (Kd.R (Kd.int .u8) 5 wc w.heap.size (fun k_ => (w.heap.size ≤ k_)) v65011 y65010) := ⟨by rw [← hq_]; exact (by (with_reducible repeat (first | apply Kd.R_alloc | apply Kd.R_drewN | apply Kd.R_drew)); exact HO_8.out)⟩; have n3_ : Aside0 (Kd.N k113 113 wc w.heap.size (fun k_ => (P0_ k_ ∨ w.heap.size ≤ k_) ∧ some k_ ≠ (v65011 : Value).ownBlock ∧ k_ ≠ gb65009) u9 x9_1) := ⟨by rw [← hq_]; exact (by (with_reducible repeat (first | apply Kd.N_alloc | apply Kd.N_drewN | apply Kd.N_drew)); exact HO_9.out)⟩; have n4_ : Aside0 (wc.heap[gb65009]? = some (.cells #[.slice A39 y65004.length c39, .int .i64 (wrap64 ((wrap64 (rd l0 (ji31))) + (wrap64 (256 * (wrap64 (rd l0 (ji34))))))), .int .i64 0] 113 (0, 0))) := ⟨by rw [← hq_]; exact (by (with_reducible repeat (first | refine blk_drewN ?_ _ | refine blk_drew ?_ | refine blk_alloc ?_ _)); exact BK65009.out)⟩; have n5_ : Aside0 (Below w.heap.size w wc) := ⟨by rw [← hq_]; exact (by repeat (first | (with_reducible first | exact HB.out | apply below_alloc | apply pw_below_drewN | apply below_drew1 | refine below_set ?_ GE65009.out) | exact HB.out))⟩; clear HO_0 HO_65010000 HO_8 HO_9 BK65009 HB hq_; have HO_0 := n0_; have HO_65010000 := n1_; have HO_8 := n2_; have HO_9 := n3_; have BK65009 := n4_; have HB := n5_; clear n0_ n1_ n2_ n3_ n4_ n5_)); have hcz57_0 : wc.cell? ⟨gb65009, 0, none⟩ = some (.slice A39 y65004.length c39) := (blk_cell BK65009.out 0).trans rfl; have hcz57_1 : wc.cell? ⟨gb65009, 1, none⟩ = some (.int .i64 (wrap64 ((wrap64 (rd l0 (ji31))) + (wrap64 (256 * (wrap64 (rd l0 (ji34)))))))) := (blk_cell BK65009.out 1).trans rfl; have hcz57_2 : wc.cell? ⟨gb65009, 2, none⟩ = some (.int .i64 0) := (blk_cell BK65009.out 2).trans rfl; have hfz57_0 := blk_frozen BK65009.out 0; have hfz57_1 := blk_frozen BK65009.out 1; have hfz57_2 := blk_frozen BK65009.out 2; obtain ⟨Ao58, co58, eo58⟩ := Kd.R_slice HO_8.out; subst eo58))
                                                    go_loopg [8, 16] kj36 (fun kq v8 v16 w' => ∃ (x8_3 : List Int) (x16_3 : Int), v16 = .int .i64 x16_3 ∧ Aside0 (portmanteauref05_Decode.l1 kq l0 a1 x8_3 x9_1 t65020 x16_3 y65004 (wrap64 ((wrap64 (rd l0 (ji31))) + (wrap64 (256 * (wrap64 (rd l0 (ji34))))))) (wrap64 (t65019 + 4)) = some (r1, r2, r3, r4)) ∧ Aside0 (kq ≤ kj36) ∧ Aside0 (Kd.V (Kd.int .u8) 5 w' w.heap.size (fun k_ => (P0_ k_ ∨ w.heap.size ≤ k_) ∧ some k_ ≠ (v8 : Value).ownBlock ∧ some k_ ≠ (u9 : Value).ownBlock ∧ k_ ≠ gb65009) (.slice (some ad65001) l0.length c0) l0) ∧ Aside0 (Kd.R (Kd.int .u8) 5 w' w.heap.size (fun k_ => (w.heap.size ≤ k_)) v8 x8_3) ∧ Aside0 (Kd.N k113 113 w' w.heap.size (fun k_ => (P0_ k_ ∨ w.heap.size ≤ k_) ∧ some k_ ≠ (v8 : Value).ownBlock ∧ k_ ≠ gb65009) u9 x9_1) ∧ Aside0 (Kd.V (Kd.int .u8) 5 w' w.heap.size (fun k_ => (P0_ k_ ∨ w.heap.size ≤ k_) ∧ some k_ ≠ (v8 : Value).ownBlock ∧ some k_ ≠ (u9 : Value).ownBlock ∧ k_ ≠ gb65009) (.slice A39 y65004.length c39) y65004) ∧ Aside0 (w'.heap[gb65009]? = some (.cells #[(.slice A39 y65004.length c39), .int .i64 (wrap64 ((wrap64 (rd l0 (ji31))) + (wrap64 (256 * (wrap64 (rd l0 (ji34))))))), .int .i64 (wrap64 (t65019 + 4))] 113 (0, 0))) ∧ Aside0 (Below w.heap.size w w'))
                                                    case atStart => exact ⟨(y65010), (0), (by first | rfl | (simp; done) | (simp [*]; done)), H', ⟨Nat.le_refl _⟩, ⟨by (with_reducible repeat (first | apply Kd.V_alloc | apply Kd.V_drewN | apply Kd.V_drew)); exact Kd.V_mono (Kd.V_far (p := ⟨gb65009, 2, none⟩) (Kd.V_mono HO_0.out (fun k_ hk => (⟨hk, hk.2.2.2⟩ : _ ∧ k_ ≠ gb65009))) (fun _ hk => hk.2) (.int .i64 (wrap64 (t65019 + 4)))) (fun _ hk => ⟨hk.1.1, ⟨hk.1.2.1, ⟨hk.1.2.2.1, hk.1.2.2.2⟩⟩⟩)⟩, ⟨by (with_reducible repeat (first | apply Kd.R_alloc | apply Kd.R_drewN | apply Kd.R_drew)); exact Kd.R_mono (Kd.R_far (p := ⟨gb65009, 2, none⟩) (Kd.R_types HO_8.out BK65009.out (by decide)) (fun _ hk => hk.2) (.int .i64 (wrap64 (t65019 + 4)))) (fun _ hk => hk.1)⟩, ⟨by (with_reducible repeat (first | apply Kd.N_alloc | apply Kd.N_drewN | apply Kd.N_drew)); exact Kd.N_mono (Kd.N_far (p := ⟨gb65009, 2, none⟩) (Kd.N_mono HO_9.out (fun k_ hk => (⟨hk, hk.2.2⟩ : _ ∧ k_ ≠ gb65009))) (fun _ hk => hk.2) (.int .i64 (wrap64 (t65019 + 4)))) (fun _ hk => ⟨hk.1.1, ⟨hk.1.2.1, hk.1.2.2⟩⟩)⟩, ⟨by (with_reducible repeat (first | apply Kd.V_alloc | apply Kd.V_drewN | apply Kd.V_drew)); exact Kd.V_mono (Kd.V_far (p := ⟨gb65009, 2, none⟩) (Kd.V_mono HO_65010000.out (fun k_ hk => (⟨hk, hk.2.2.2⟩ : _ ∧ k_ ≠ gb65009))) (fun _ hk => hk.2) (.int .i64 (wrap64 (t65019 + 4)))) (fun _ hk => ⟨hk.1.1, ⟨hk.1.2.1, ⟨hk.1.2.2.1, hk.1.2.2.2⟩⟩⟩)⟩, ⟨by (with_reducible repeat (first | refine blk_drewN ?_ _ | refine blk_drew ?_ | refine blk_alloc ?_ _)); refine blk_put (cs := #[.slice A39 y65004.length c39, .int .i64 (wrap64 ((wrap64 (rd l0 (ji31))) + (wrap64 (256 * (wrap64 (rd l0 (ji34))))))), .int .i64 0]) ?_ 2 _ rfl; (with_reducible repeat (first | refine blk_drewN ?_ _ | refine blk_drew ?_ | refine blk_alloc ?_ _)); exact BK65009.out⟩, ⟨by repeat (first | (with_reducible first | exact HB.out | apply below_alloc | apply pw_below_drewN | apply below_drew1 | refine below_set ?_ GE65009.out) | exact HB.out)⟩⟩
                                                    case round =>
                                                      clear H'
                                                      try clear c1
                                                      try clear q1
                                                      try clear c2
                                                      try clear p2
                                                      try clear q2
                                                      try clear c3
                                                      try clear c3b0
                                                      try clear q3
                                                      try clear c4
                                                      try clear c4b0
                                                      try clear c5
                                                      try clear c5b0
                                                      try clear c6
                                                      try clear p6
                                                      try clear q6
                                                      try clear hx6
                                                      try clear c7
                                                      try clear c7b0
                                                      try clear c8
                                                      try clear c8b0
                                                      try clear c10
                                                      try clear c10b0
                                                      try clear c12
                                                      try clear c12b0
                                                      try clear c12b1
                                                      try clear c13
                                                      try clear c13b0
                                                      try clear c13b1
                                                      try clear c14
                                                      try clear c14b0
                                                      try clear c14b1
                                                      try clear c15
                                                      try clear c16
                                                      try clear c16b0
                                                      try clear c16b1
                                                      try clear c17
                                                      try clear c19
                                                      try clear q19
                                                      try clear c25
                                                      try clear c25b0
                                                      try clear c25b1
                                                      try clear c27
                                                      try clear q27
                                                      try clear c32
                                                      try clear c32b0
                                                      try clear c33
                                                      try clear c33b0
                                                      try clear c35
                                                      try clear c35b0
                                                      try clear c36
                                                      try clear c36b0
                                                      try clear c39
                                                      try clear q39
                                                      try clear c45
                                                      try clear c45b0
                                                      try clear c45b1
                                                      try clear c49
                                                      try clear c50
                                                      try clear c50b0
                                                      try clear c51
                                                      try clear c51b0
                                                      try clear c53
                                                      try clear c53b0
                                                      try clear c54
                                                      try clear c54b0
                                                      try clear hcz21_0
                                                      try clear hcz21_1
                                                      try clear hcz21_2
                                                      try clear hcz23_0
                                                      try clear hcz23_1
                                                      try clear hcz23_2
                                                      try clear hcz29_0
                                                      try clear hcz29_1
                                                      try clear hcz29_2
                                                      try clear hcz41_0
                                                      try clear hcz41_1
                                                      try clear hcz41_2
                                                      try clear hcz46_0
                                                      try clear hcz46_1
                                                      try clear hcz46_2
                                                      try clear hcz47_0
                                                      try clear hcz47_1
                                                      try clear hcz47_2
                                                      try clear hcz55_0
                                                      try clear hcz55_1
                                                      try clear hcz55_2
                                                      try clear hcz57_0
                                                      try clear hcz57_1
                                                      try clear hcz57_2
                                                      try clear hfz21_0
                                                      try clear hfz21_1
                                                      try clear hfz21_2
                                                      try clear hfz23_0
                                                      try clear hfz23_1
                                                      try clear hfz23_2
                                                      try clear hfz29_0
                                                      try clear hfz29_1
                                                      try clear hfz29_2
                                                      try clear hfz41_0
                                                      try clear hfz41_1
                                                      try clear hfz41_2
                                                      try clear hfz46_0
                                                      try clear hfz46_1
                                                      try clear hfz46_2
                                                      try clear hfz47_0
                                                      try clear hfz47_1
                                                      try clear hfz47_2
                                                      try clear hfz55_0
                                                      try clear hfz55_1
                                                      try clear hfz55_2
                                                      try clear hfz57_0
                                                      try clear hfz57_1
                                                      try clear hfz57_2
                                                      try clear hx65001_0
                                                      try clear hx65016_0
                                                      try clear hx65017_0
                                                      try clear hx65018_0
                                                      try clear p2
                                                      try clear p6
                                                      try clear p65001
                                                      try clear p65016
                                                      try clear p65017
                                                      try clear p65018
                                                      try clear q019
                                                      try clear q027
                                                      try clear q039
                                                      try clear q1
                                                      try clear q19
                                                      try clear q2
                                                      try clear q27
                                                      try clear q3
                                                      try clear q39
                                                      try clear q6
                                                      try clear q65001
                                                      try clear q65016
                                                      try clear q65017
                                                      try clear q65018
                                                      obtain ⟨x8_3, x16_3, rfl, HA, HK3, HO_0, HO_8, HO_9, HO_65010000, BK65009, HB⟩ := hrel
                                                      cases gk with
                                                      | zero => exact absurd HA.out (by simp [portmanteauref05_Decode.l1])
                                                      | succ k3 =>
                                                        have H := HA.out
                                                        clear HA
                                                        simp only [portmanteauref05_Decode.l1] at H
                                                        by_cases c59 : x16_3 < (wrap64 (t65019 + 4))
                                                        · rw [if_pos c59] at H
                                                          have c59b0 : decide (x16_3 < (wrap64 (t65019 + 4))) = true := decide_eq_true c59
                                                          clear c59
                                                          obtain ⟨ji60, hji60⟩ : ∃ j_ : Int, (wrap64 ((x8_3.length : Int) - (wrap64 ((wrap64 (rd l0 (ji31))) + (wrap64 (256 * (wrap64 (rd l0 (ji34))))))))) = j_ := ⟨_, rfl⟩
                                                          replace H : (if 0 ≤ (ji60) then (if (ji60) < (x8_3.length : Int) then (if x8_3.length < 140737488355328 then (portmanteauref05_Decode.l1 k3 l0 a1 (x8_3 ++ [rd x8_3 (ji60)]) x9_1 t65020 (wrap64 (x16_3 + 1)) y65004 (wrap64 ((wrap64 (rd l0 (ji31))) + (wrap64 (256 * (wrap64 (rd l0 (ji34))))))) (wrap64 (t65019 + 4))) else (none)) else (none)) else (none)) = some (r1, r2, r3, r4) := by first | (rw [hji60] at H; exact H) | (simp only [hji60] at H ⊢; exact H)
                                                          have hji60w : (IntKind.i64.wrap ((x8_3.length : Int) - (wrap64 ((wrap64 (rd l0 (ji31))) + (wrap64 (256 * (wrap64 (rd l0 (ji34))))))))) = ji60 := (i64_w _).trans hji60
                                                          by_cases c61 : 0 ≤ (ji60)
                                                          · rw [if_pos c61] at H
                                                            have c61b0 : decide (0 ≤ (ji60)) = true := decide_eq_true c61
                                                            clear c61
                                                            by_cases c62 : (ji60) < (x8_3.length : Int)
                                                            · rw [if_pos c62] at H
                                                              have c62b0 : decide ((ji60) < (x8_3.length : Int)) = true := decide_eq_true c62
                                                              clear c62
                                                              by_cases c63 : x8_3.length < 140737488355328
                                                              · rw [if_pos c63] at H
                                                                have LMc63 := Aside0.mk c63
                                                                clear c63
                                                                obtain ⟨y65022, hy65022⟩ : ∃ y_ : List Int, y_ = (x8_3 ++ [rd x8_3 (ji60)]) := ⟨_, rfl⟩
                                                                replace H : (portmanteauref05_Decode.l1 k3 l0 a1 y65022 x9_1 t65020 (wrap64 (x16_3 + 1)) y65004 (wrap64 ((wrap64 (rd l0 (ji31))) + (wrap64 (256 * (wrap64 (rd l0 (ji34))))))) (wrap64 (t65019 + 4))) = some (r1, r2, r3, r4) := by first | (rw [hy65022]; with_reducible exact H) | (have H2_ := (Option.bind_some _ _).symm.trans H; rw [hy65022]; with_reducible exact H2_) | (have H2_ := (Option.bind_some _ _).symm.trans H; with_reducible exact H2_) | with_reducible exact H | (rw [hy65022]; exact H) | exact H
                                                                have Ny65022 := Aside0.mk hy65022
                                                                clear hy65022
                                                                have H' := Aside0.mk H
                                                                clear H
                                                                have hcz64_0 : wr.cell? ⟨gb65009, 0, none⟩ = some (.slice A39 y65004.length c39) := (blk_cell BK65009.out 0).trans rfl
                                                                have hcz64_1 : wr.cell? ⟨gb65009, 1, none⟩ = some (.int .i64 (wrap64 ((wrap64 (rd l0 (ji31))) + (wrap64 (256 * (wrap64 (rd l0 (ji34)))))))) := (blk_cell BK65009.out 1).trans rfl
                                                                have hcz64_2 : wr.cell? ⟨gb65009, 2, none⟩ = some (.int .i64 (wrap64 (t65019 + 4))) := (blk_cell BK65009.out 2).trans rfl
                                                                have hfz64_0 := blk_frozen BK65009.out 0
                                                                have hfz64_1 := blk_frozen BK65009.out 1
                                                                have hfz64_2 := blk_frozen BK65009.out 2
                                                                obtain ⟨Ao65, co65, eo65⟩ := Kd.R_slice HO_8.out
                                                                subst eo65
                                                                have p65021 : 0 ≤ ((ji60) : Int) := of_decide_eq_true (by first | (with_reducible assumption) | assumption)
                                                                have q65021 : (ji60) < (x8_3.length : Int) := of_decide_eq_true (by first | (with_reducible assumption) | assumption)
                                                                obtain ⟨ad65021, e65021, hx65021_0⟩ := Kd.at_int (Kd.R_reads' HO_8.out).2.2 (ji60) p65021 q65021
                                                                cases e65021
                                                                replace p65021 := eq_true p65021
                                                                replace q65021 := eq_true q65021
                                                                go_wp2_with (first | ((with_reducible refine gate_builtin (b := .append) (xs := #[.tmp 147, .tmp 156]) rfl ?_); (try (refine gate_guard (by rfl) ?_; dsimp only)); at_builtin; refine Kd.R_append (Kd.int .u8) (w0 := w) w.heap.size rfl (.tmp 147) (.tmp 156) 22 5 (.int .u8 0) 1 rfl Try.underlying22 info5 rfl (by decide) (by omega) (.slice (some ad65021) x8_3.length co65) x8_3 (rd x8_3 (ji60)) [.int .u8 (rd x8_3 (ji60))] (fun k_ => (w.heap.size ≤ k_)) (fun _ => False) rfl rfl ?aP (fun _ hk => hk.elim) ?aF ?aO ?aB ?aS ?aL ?_; (case aP => exact rfl); (case aB => exact (by repeat (first | (with_reducible first | exact HB.out | apply below_alloc | apply pw_below_drewN | apply below_drew1 | refine below_set ?_ GE65009.out) | exact HB.out))); (case aF => exact (fun k_ hk => (Nat.le_trans (below_size (by repeat (first | (with_reducible first | exact HB.out | apply below_alloc | apply pw_below_drewN | apply below_drew1 | refine below_set ?_ GE65009.out) | exact HB.out))) hk))); (case aO => exact (by (with_reducible repeat (first | apply Kd.R_alloc | apply Kd.R_drewN | apply Kd.R_drew)); exact HO_8.out)); (case aS => exact (below_size (by repeat (first | (with_reducible first | exact HB.out | apply below_alloc | apply pw_below_drewN | apply below_drew1 | refine below_set ?_ GE65009.out) | exact HB.out)))); (case aL => have := LMc63.out; omega); intro v65023 w66 ho hb hg hat; rw [← Ny65022.out] at ho; have n0_ := Aside0.mk (Kd.V_afterv (ok := (fun k_ => (P0_ k_ ∨ w.heap.size ≤ k_) ∧ some k_ ≠ (u9 : Value).ownBlock ∧ k_ ≠ gb65009)) (by (with_reducible repeat (first | apply Kd.V_alloc | apply Kd.V_drewN | apply Kd.V_drew)); exact Kd.V_mono HO_0.out (fun _ hk => ⟨⟨hk.1, ⟨hk.2.2.1, hk.2.2.2⟩⟩, hk.2.1⟩)) hg hat); have n1_ := Aside0.mk (Kd.N_afterv (ok := (fun k_ => (P0_ k_ ∨ w.heap.size ≤ k_) ∧ k_ ≠ gb65009)) (by (with_reducible repeat (first | apply Kd.N_alloc | apply Kd.N_drewN | apply Kd.N_drew)); exact Kd.N_mono HO_9.out (fun _ hk => ⟨⟨hk.1, hk.2.2⟩, hk.2.1⟩)) hg hat); have n2_ := Aside0.mk (Kd.V_afterv (ok := (fun k_ => (P0_ k_ ∨ w.heap.size ≤ k_) ∧ some k_ ≠ (u9 : Value).ownBlock ∧ k_ ≠ gb65009)) (by (with_reducible repeat (first | apply Kd.V_alloc | apply Kd.V_drewN | apply Kd.V_drew)); exact Kd.V_mono HO_65010000.out (fun _ hk => ⟨⟨hk.1, ⟨hk.2.2.1, hk.2.2.2⟩⟩, hk.2.1⟩)) hg hat); have n3_ := Aside0.mk (blk_grown (g := gb65009) (o := .cells #[.slice A39 y65004.length c39, .int .i64 (wrap64 ((wrap64 (rd l0 (ji31))) + (wrap64 (256 * (wrap64 (rd l0 (ji34))))))), .int .i64 (wrap64 (t65019 + 4))] 113 (0, 0)) (by (with_reducible repeat (first | refine blk_drewN ?_ _ | refine blk_drew ?_ | refine blk_alloc ?_ _)); exact BK65009.out) hg (Kd.R_ne HO_8.out BK65009.out (by decide))); have n4_ := Aside0.mk (hb); have n5_ := Aside0.mk (ho); clear HO_0; clear HO_9; clear HO_65010000; clear BK65009; clear HB; clear HO_8; have HO_0 := n0_; have HO_9 := n1_; have HO_65010000 := n2_; have BK65009 := n3_; have HB := n4_; have HO65024 := n5_; clear n0_ n1_ n2_ n3_ n4_ n5_; clear ho hb hg hat))
                                                                go_roundg k3
                                                                case measure => have := HK1.out; have := HJ36.out; have := HK3.out; omega
                                                                case rel => exact ⟨(y65022), (wrap64 (x16_3 + 1)), (by first | rfl | (simp; done) | (simp [*]; done)), H', ⟨by have := HK1.out; have := HJ36.out; have := HK3.out; omega⟩, ⟨by (with_reducible repeat (first | apply Kd.V_alloc | apply Kd.V_drewN | apply Kd.V_drew)); exact Kd.V_mono HO_0.out (fun _ hk => ⟨hk.1.1, ⟨hk.2, ⟨hk.1.2.1, hk.1.2.2⟩⟩⟩)⟩, ⟨by (with_reducible repeat (first | apply Kd.R_alloc | apply Kd.R_drewN | apply Kd.R_drew)); exact HO65024.out⟩, ⟨by (with_reducible repeat (first | apply Kd.N_alloc | apply Kd.N_drewN | apply Kd.N_drew)); exact Kd.N_mono HO_9.out (fun _ hk => ⟨hk.1.1, ⟨hk.2, hk.1.2⟩⟩)⟩, ⟨by (with_reducible repeat (first | apply Kd.V_alloc | apply Kd.V_drewN | apply Kd.V_drew)); exact Kd.V_mono HO_65010000.out (fun _ hk => ⟨hk.1.1, ⟨hk.2, ⟨hk.1.2.1, hk.1.2.2⟩⟩⟩)⟩, ⟨by (with_reducible repeat (first | refine blk_drewN ?_ _ | refine blk_drew ?_ | refine blk_alloc ?_ _)); exact BK65009.out⟩, ⟨by repeat (first | (with_reducible first | exact HB.out | apply below_alloc | apply pw_below_drewN | apply below_drew1 | refine below_set ?_ GE65009.out) | exact HB.out)⟩⟩
                                                              · rw [if_neg c63] at H
                                                                exact absurd H (by simp)
                                                            · rw [if_neg c62] at H
                                                              exact absurd H (by simp)
                                                          · rw [if_neg c61] at H
                                                            exact absurd H (by simp)
                                                        · rw [if_neg c59] at H
                                                          have c59b0 : decide (x16_3 < (wrap64 (t65019 + 4))) = false := decide_eq_false c59
                                                          clear c59
                                                          by_cases c67 : x9_1.length < 3518437208883
                                                          · rw [if_pos c67] at H
                                                            have LMc67 := Aside0.mk c67
                                                            clear c67
                                                            obtain ⟨y65025, hy65025⟩ : ∃ y_ : List (S113), y_ = (x9_1 ++ [(⟨y65004, (wrap64 ((wrap64 (rd l0 (ji31))) + (wrap64 (256 * (wrap64 (rd l0 (ji34))))))), (wrap64 (t65019 + 4))⟩ : S113)]) := ⟨_, rfl⟩
                                                            replace H : (portmanteauref05_Decode.l0 k3 l0 a1 x8_3 y65025 t65020) = some (r1, r2, r3, r4) := by first | (rw [hy65025]; with_reducible exact H) | (have H2_ := (Option.bind_some _ _).symm.trans H; rw [hy65025]; with_reducible exact H2_) | (have H2_ := (Option.bind_some _ _).symm.trans H; with_reducible exact H2_) | with_reducible exact H | (rw [hy65025]; exact H) | exact H
                                                            have Ny65025 := Aside0.mk hy65025
                                                            clear hy65025
                                                            have H' := Aside0.mk H
                                                            clear H
                                                            have hcz68_0 : wr.cell? ⟨gb65009, 0, none⟩ = some (.slice A39 y65004.length c39) := (blk_cell BK65009.out 0).trans rfl
                                                            have hcz68_1 : wr.cell? ⟨gb65009, 1, none⟩ = some (.int .i64 (wrap64 ((wrap64 (rd l0 (ji31))) + (wrap64 (256 * (wrap64 (rd l0 (ji34)))))))) := (blk_cell BK65009.out 1).trans rfl
                                                            have hcz68_2 : wr.cell? ⟨gb65009, 2, none⟩ = some (.int .i64 (wrap64 (t65019 + 4))) := (blk_cell BK65009.out 2).trans rfl
                                                            have hfz68_0 := blk_frozen BK65009.out 0
                                                            have hfz68_1 := blk_frozen BK65009.out 1
                                                            have hfz68_2 := blk_frozen BK65009.out 2
                                                            go_wp2_with (first | ((with_reducible refine gate_builtin (b := .append) (xs := #[.tmp 158, .tmp 160]) rfl ?_); (try (refine gate_guard (by rfl) ?_; dsimp only)); at_builtin; refine Kd.N_append k113 (w0 := w) w.heap.size rfl (.tmp 158) (.tmp 160) 107 113 (.agg #[(.slice none 0 0), (.int .i64 0), (.int .i64 0)]) 40 rfl Try.underlying107 info113 rfl (by decide) (by omega) u9 x9_1 (⟨y65004, (wrap64 ((wrap64 (rd l0 (ji31))) + (wrap64 (256 * (wrap64 (rd l0 (ji34))))))), (wrap64 (t65019 + 4))⟩ : S113) [.slice A39 y65004.length c39, .int .i64 (wrap64 ((wrap64 (rd l0 (ji31))) + (wrap64 (256 * (wrap64 (rd l0 (ji34))))))), .int .i64 (wrap64 (t65019 + 4))] (fun k_ => (P0_ k_ ∨ w.heap.size ≤ k_) ∧ some k_ ≠ (u8 : Value).ownBlock ∧ k_ ≠ gb65009) (fun k_ => ((fun k_ => (P0_ k_ ∨ w.heap.size ≤ k_) ∧ some k_ ≠ (u8 : Value).ownBlock ∧ k_ ≠ gb65009)) k_ ∧ some k_ ≠ (u9 : Value).ownBlock) rfl rfl ?aP (fun _ hk => hk) ?aF ?aO ?aB ?aS ?aL ?_; (case aP => exact (k113_mkF _ _ (⟨y65004, (wrap64 ((wrap64 (rd l0 (ji31))) + (wrap64 (256 * (wrap64 (rd l0 (ji34))))))), (wrap64 (t65019 + 4))⟩ : S113) (Kd.V_reads' (Kd.V_mono (ok' := (fun k_ => ((fun k_ => (P0_ k_ ∨ w.heap.size ≤ k_) ∧ some k_ ≠ (u8 : Value).ownBlock ∧ k_ ≠ gb65009)) k_ ∧ some k_ ≠ (u9 : Value).ownBlock)) (HO_65010000.out) (fun k_ hk => ⟨⟨hk.1, ⟨hk.2.1, hk.2.2.2⟩⟩, hk.2.2.1⟩))).2.1 (Kd.V_F (Kd.V_mono (ok' := (fun k_ => ((fun k_ => (P0_ k_ ∨ w.heap.size ≤ k_) ∧ some k_ ≠ (u8 : Value).ownBlock ∧ k_ ≠ gb65009)) k_ ∧ some k_ ≠ (u9 : Value).ownBlock)) (HO_65010000.out) (fun k_ hk => ⟨⟨hk.1, ⟨hk.2.1, hk.2.2.2⟩⟩, hk.2.2.1⟩))))); (case aB => exact (by repeat (first | (with_reducible first | exact HB.out | apply below_alloc | apply pw_below_drewN | apply below_drew1 | refine below_set ?_ GE65009.out) | exact HB.out))); (case aF => exact (fun k_ hk => ⟨(.inr (Nat.le_trans (below_size (by repeat (first | (with_reducible first | exact HB.out | apply below_alloc | apply pw_below_drewN | apply below_drew1 | refine below_set ?_ GE65009.out) | exact HB.out))) hk)), Kd.fresh' (Kd.R_lt (by (with_reducible repeat (first | apply Kd.R_alloc | apply Kd.R_drewN | apply Kd.R_drew)); exact HO_8.out)) k_ hk, Kd.freshB (g := gb65009) (o := .cells #[.slice A39 y65004.length c39, .int .i64 (wrap64 ((wrap64 (rd l0 (ji31))) + (wrap64 (256 * (wrap64 (rd l0 (ji34))))))), .int .i64 (wrap64 (t65019 + 4))] 113 (0, 0)) (by (with_reducible repeat (first | refine blk_drewN ?_ _ | refine blk_drew ?_ | refine blk_alloc ?_ _)); exact BK65009.out) k_ hk⟩)); (case aO => exact (by (with_reducible repeat (first | apply Kd.N_alloc | apply Kd.N_drewN | apply Kd.N_drew)); exact HO_9.out)); (case aS => exact (below_size (by repeat (first | (with_reducible first | exact HB.out | apply below_alloc | apply pw_below_drewN | apply below_drew1 | refine below_set ?_ GE65009.out) | exact HB.out)))); (case aL => have := LMc67.out; omega); intro v65026 w69 ho hb hg hat; rw [← Ny65025.out] at ho; have n0_ := Aside0.mk (Kd.V_afterv (ok := (fun k_ => (P0_ k_ ∨ w.heap.size ≤ k_) ∧ some k_ ≠ (u8 : Value).ownBlock ∧ k_ ≠ gb65009)) (by (with_reducible repeat (first | apply Kd.V_alloc | apply Kd.V_drewN | apply Kd.V_drew)); exact Kd.V_mono HO_0.out (fun _ hk => ⟨⟨hk.1, ⟨hk.2.1, hk.2.2.2⟩⟩, hk.2.2.1⟩)) hg hat); have n1_ := Aside0.mk (Kd.R_over' (by (with_reducible repeat (first | apply Kd.R_alloc | apply Kd.R_drewN | apply Kd.R_drew)); exact HO_8.out) (Kd.N_typed (by (with_reducible repeat (first | apply Kd.N_alloc | apply Kd.N_drewN | apply Kd.N_drew)); exact HO_9.out)) (by decide) hg); have n2_ := Aside0.mk (Kd.V_afterv (ok := (fun k_ => (P0_ k_ ∨ w.heap.size ≤ k_) ∧ some k_ ≠ (u8 : Value).ownBlock ∧ k_ ≠ gb65009)) (by (with_reducible repeat (first | apply Kd.V_alloc | apply Kd.V_drewN | apply Kd.V_drew)); exact Kd.V_mono HO_65010000.out (fun _ hk => ⟨⟨hk.1, ⟨hk.2.1, hk.2.2.2⟩⟩, hk.2.2.1⟩)) hg hat); have n3_ := Aside0.mk (blk_grown (g := gb65009) (o := .cells #[.slice A39 y65004.length c39, .int .i64 (wrap64 ((wrap64 (rd l0 (ji31))) + (wrap64 (256 * (wrap64 (rd l0 (ji34))))))), .int .i64 (wrap64 (t65019 + 4))] 113 (0, 0)) (by (with_reducible repeat (first | refine blk_drewN ?_ _ | refine blk_drew ?_ | refine blk_alloc ?_ _)); exact BK65009.out) hg (Kd.N_away HO_9.out (fun _ hk => hk.2.2))); have n4_ := Aside0.mk (hb); have n5_ := Aside0.mk (ho); clear HO_0; clear HO_8; clear HO_65010000; clear BK65009; clear HB; clear HO_9; have HO_0 := n0_; have HO_8 := n1_; have HO_65010000 := n2_; have BK65009 := n3_; have HB := n4_; have HO65027 := n5_; clear n0_ n1_ n2_ n3_ n4_ n5_; clear ho hb hg hat))
                                                            go_roundg k3
                                                            case measure => have := HK1.out; have := HJ36.out; have := HK3.out; omega
                                                            case rel => exact ⟨(x8_3), (y65025), (t65020), (by first | rfl | (simp; done) | (simp [*]; done)), H', ⟨by have := HK1.out; have := HJ36.out; have := HK3.out; omega⟩, ⟨by (with_reducible repeat (first | apply Kd.V_alloc | apply Kd.V_drewN | apply Kd.V_drew)); exact Kd.V_mono HO_0.out (fun _ hk => ⟨hk.1.1, ⟨hk.1.2.1, hk.2⟩⟩)⟩, ⟨by (with_reducible repeat (first | apply Kd.R_alloc | apply Kd.R_drewN | apply Kd.R_drew)); exact HO_8.out⟩, ⟨by (with_reducible repeat (first | apply Kd.N_alloc | apply Kd.N_drewN | apply Kd.N_drew)); exact Kd.N_mono HO65027.out (fun _ hk => ⟨hk.1, hk.2.1⟩)⟩, ⟨by repeat (first | (with_reducible first | exact HB.out | apply below_alloc | apply pw_below_drewN | apply below_drew1 | refine below_set ?_ GE65009.out) | exact HB.out)⟩⟩
                                                          · rw [if_neg c67] at H
                                                            exact absurd H (by simp)
                                              · rw [if_neg c51] at H
                                                exact absurd H (by simp)
                                            · rw [if_neg c50] at H
                                              exact absurd H (by simp)
                                    · rw [if_neg c36] at H
                                      exact absurd H (by simp)
                                  · rw [if_neg c35] at H
                                    exact absurd H (by simp)
                                · rw [if_neg c33] at H
                                  exact absurd H (by simp)
                              · rw [if_neg c32] at H
                                exact absurd H (by simp)
                        · rw [if_neg c15] at H
                          exact absurd H (by simp)
                      · rw [if_neg c14] at H
                        exact absurd H (by simp)
                    · rw [if_neg c13] at H
                      exact absurd H (by simp)
                  · rw [if_neg c12] at H
                    exact absurd H (by simp)
          · rw [if_neg c5] at H
            exact absurd H (by simp)
        · rw [if_neg c4] at H
          exact absurd H (by simp)

end Go.Proofs.Ytdlfflgcmgkmeaa.P
