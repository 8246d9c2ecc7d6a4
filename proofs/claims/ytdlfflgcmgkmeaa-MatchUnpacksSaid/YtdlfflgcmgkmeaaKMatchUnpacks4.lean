/- Proved: MatchUnpacks, part 4 of 4: the law MatchUnpacks of the program. Conditions: those that the statement itself has. -/
import Derived.Test.YtdlfflgcmgkmeaaKMatchUnpacks1
import Derived.Test.YtdlfflgcmgkmeaaKMatchUnpacks3
import Derived.Test.YtdlfflgcmgkmeaaKMatchUnpacks2
import Derived.Test.YtdlfflgcmgkmeaaRows
import Derived.Test.YtdlfflgcmgkmeaaClosing
import Derived.WalkKit
import Derived.ProofKit
import Derived.OpenShut
import Derived.ShutString
import Derived.ChangeOld
import Derived.Below
import Derived.SizedLaws
import Derived.Test.YtdlfflgcmgkmeaaWSized
-- Written by a program of this session's own (wip/tools), over the translation. Not trusted: Lean checks it.
namespace Go.Proofs.Ytdlfflgcmgkmeaa.P
open Go.RowKit Go.Proofs.YtdlfflgcmgkmeaaW.PrintWords Go.Proofs.YtdlfflgcmgkmeaaW.PrintLast Go.Proofs.YtdlfflgcmgkmeaaW.PrintMore
attribute [local go_sem] max2_int min2_int max_two min_two max_three min_three max_four min_four   -- for this text's walks alone
set_option linter.unusedVariables false
set_option linter.unusedSimpArgs false

/-! ### portmanteauref05_Decode: function 64 -/
mutual
def portmanteauref05_Decode.l0 : Nat → List Int → Int → List Int → List (S113) → Int → Option (List Int × (List (S113)) × Int × Int)
  | 0, _, _, _, _, _ => none
  | k + 1, x0, x1, x8, x9, x10 => if x10 ≥ (x0.length : Int) then (some (([] : List Int), ([] : List (S113)), 6, (x0.length : Int))) else (if 0 ≤ x10 then (if x10 < (x0.length : Int) then ((portmanteauref05_length.f k x0 ((Int.tdiv (rd x0 x10) 16) % 256) (wrap64 (x10 + 1))).bind fun bt65002 => (if bt65002.1 < 0 then (some (([] : List Int), ([] : List (S113)), 6, (x0.length : Int))) else (if bt65002.1 > (wrap64 (x1 - (x8.length : Int))) then (some (([] : List Int), ([] : List (S113)), 2, x10)) else (if bt65002.1 > (wrap64 ((x0.length : Int) - bt65002.2)) then (some (([] : List Int), ([] : List (S113)), 6, (x0.length : Int))) else (if 0 ≤ bt65002.2 then (if bt65002.2 ≤ (wrap64 (bt65002.2 + bt65002.1)) then (if (wrap64 (bt65002.2 + bt65002.1)) ≤ (x0.length : Int) then ((some ((x0.take ((wrap64 (bt65002.2 + bt65002.1)) : Int).toNat).drop (bt65002.2 : Int).toNat : List Int)).bind fun y65004 => (if x8.length + y65004.length < 140737488355328 then ((some (x8 ++ y65004 : List Int)).bind fun y65010 => (if (wrap64 (bt65002.2 + bt65002.1)) = (x0.length : Int) then (if x9.length < 3518437208883 then (some (y65010, (x9 ++ [(⟨y65004, 0, 0⟩ : S113)]), 0, (x0.length : Int))) else (none)) else (if (wrap64 ((wrap64 (bt65002.2 + bt65002.1)) + 1)) = (x0.length : Int) then (some (([] : List Int), ([] : List (S113)), 6, (x0.length : Int))) else (if 0 ≤ (wrap64 (bt65002.2 + bt65002.1)) then (if (wrap64 (bt65002.2 + bt65002.1)) < (x0.length : Int) then (if 0 ≤ (wrap64 ((wrap64 (bt65002.2 + bt65002.1)) + 1)) then (if (wrap64 ((wrap64 (bt65002.2 + bt65002.1)) + 1)) < (x0.length : Int) then (if (wrap64 ((wrap64 (rd x0 (wrap64 (bt65002.2 + bt65002.1)))) + (wrap64 (256 * (wrap64 (rd x0 (wrap64 ((wrap64 (bt65002.2 + bt65002.1)) + 1)))))))) = 0 then (portmanteauref05_Decode.j1 k x0 x1 y65010 x9 (wrap64 (bt65002.2 + bt65002.1)) x10 true y65004 (wrap64 ((wrap64 (rd x0 (wrap64 (bt65002.2 + bt65002.1)))) + (wrap64 (256 * (wrap64 (rd x0 (wrap64 ((wrap64 (bt65002.2 + bt65002.1)) + 1)))))))) 0) else (portmanteauref05_Decode.j1 k x0 x1 y65010 x9 (wrap64 (bt65002.2 + bt65002.1)) x10 (decide ((wrap64 ((wrap64 (rd x0 (wrap64 (bt65002.2 + bt65002.1)))) + (wrap64 (256 * (wrap64 (rd x0 (wrap64 ((wrap64 (bt65002.2 + bt65002.1)) + 1)))))))) > (y65010.length : Int))) y65004 (wrap64 ((wrap64 (rd x0 (wrap64 (bt65002.2 + bt65002.1)))) + (wrap64 (256 * (wrap64 (rd x0 (wrap64 ((wrap64 (bt65002.2 + bt65002.1)) + 1)))))))) 0)) else (none)) else (none)) else (none)) else (none))))) else (none))) else (none)) else (none)) else (none)))))) else (none)) else (none))
def portmanteauref05_Decode.j1 : Nat → List Int → Int → List Int → List (S113) → Int → Int → Bool → List Int → Int → Int → Option (List Int × (List (S113)) × Int × Int)
  | 0, _, _, _, _, _, _, _, _, _, _ => none
  | k + 1, x0, x1, x8, x9, x10, x11, x111, x65010000, x65010001, x65010002 => if x111 = true then (some (([] : List Int), ([] : List (S113)), 9, x10)) else (if 0 ≤ x11 then (if x11 < (x0.length : Int) then ((portmanteauref05_length.f k x0 (wrap64 (Int.tmod (rd x0 x11) 16)) (wrap64 (x10 + 2))).bind fun bt65019 => (if bt65019.1 < 0 then (some (([] : List Int), ([] : List (S113)), 6, (x0.length : Int))) else (if (wrap64 (bt65019.1 + 4)) > (wrap64 (x1 - (x8.length : Int))) then (some (([] : List Int), ([] : List (S113)), 2, x11)) else (portmanteauref05_Decode.l1 k x0 x1 x8 x9 bt65019.2 0 x65010000 x65010001 (wrap64 (bt65019.1 + 4)))))) else (none)) else (none))
def portmanteauref05_Decode.l1 : Nat → List Int → Int → List Int → List (S113) → Int → Int → List Int → Int → Int → Option (List Int × (List (S113)) × Int × Int)
  | 0, _, _, _, _, _, _, _, _, _ => none
  | k + 1, x0, x1, x8, x9, x13, x16, x65010000, x65010001, x65010002 => if x16 < x65010002 then (if 0 ≤ (wrap64 ((x8.length : Int) - x65010001)) then (if (wrap64 ((x8.length : Int) - x65010001)) < (x8.length : Int) then (if x8.length < 140737488355328 then (portmanteauref05_Decode.l1 k x0 x1 (x8 ++ [rd x8 (wrap64 ((x8.length : Int) - x65010001))]) x9 x13 (wrap64 (x16 + 1)) x65010000 x65010001 x65010002) else (none)) else (none)) else (none)) else (if x9.length < 3518437208883 then (portmanteauref05_Decode.l0 k x0 x1 x8 (x9 ++ [(⟨x65010000, x65010001, x65010002⟩ : S113)]) x13) else (none))
end
def portmanteauref05_Decode.f (k : Nat) (l0 : List Int) (a1 : Int) : Option (List Int × (List (S113)) × Int × Int) := portmanteauref05_Decode.l0 k l0 a1 ([] : List Int) ([] : List (S113)) 0
theorem portmanteauref05_Decode.mono_l : ∀ k, (∀ y0 y1 y2 y3 y4, LeO (portmanteauref05_Decode.l0 k y0 y1 y2 y3 y4) (portmanteauref05_Decode.l0 (k + 1) y0 y1 y2 y3 y4)) ∧ (∀ y0 y1 y2 y3 y4 y5 y6 y7 y8 y9, LeO (portmanteauref05_Decode.j1 k y0 y1 y2 y3 y4 y5 y6 y7 y8 y9) (portmanteauref05_Decode.j1 (k + 1) y0 y1 y2 y3 y4 y5 y6 y7 y8 y9)) ∧ (∀ y0 y1 y2 y3 y4 y5 y6 y7 y8, LeO (portmanteauref05_Decode.l1 k y0 y1 y2 y3 y4 y5 y6 y7 y8) (portmanteauref05_Decode.l1 (k + 1) y0 y1 y2 y3 y4 y5 y6 y7 y8))
  | 0 => ⟨fun _ _ _ _ _ r h => by simp [portmanteauref05_Decode.l0] at h, fun _ _ _ _ _ _ _ _ _ _ r h => by simp [portmanteauref05_Decode.j1] at h, fun _ _ _ _ _ _ _ _ _ r h => by simp [portmanteauref05_Decode.l1] at h⟩
  | k + 1 => by
    obtain ⟨ih0, ih1, ih2⟩ := portmanteauref05_Decode.mono_l k
    refine ⟨?_, ?_, ?_⟩
    · intro y0 y1 y2 y3 y4
      unfold portmanteauref05_Decode.l0
      repeat' first
      | (with_reducible exact ih0 _ _ _ _ _)
      | (with_reducible exact ih1 _ _ _ _ _ _ _ _ _ _)
      | (with_reducible exact ih2 _ _ _ _ _ _ _ _ _)
      | (with_reducible exact portmanteauref05_length.mono _ _ _ _)
      | (with_reducible exact LeO.refl _)
      | (with_reducible exact LeO.none _)
      | (with_reducible refine LeO.ite ?_ ?_)
      | (with_reducible refine LeO.bind ?_ (fun _ => ?_))
      | exact ih0 _ _ _ _ _
      | exact ih1 _ _ _ _ _ _ _ _ _ _
      | exact ih2 _ _ _ _ _ _ _ _ _
      | exact portmanteauref05_length.mono _ _ _ _
      | exact LeO.none _
      | refine LeO.ite ?_ ?_
      | refine LeO.bind ?_ (fun _ => ?_)
    · intro y0 y1 y2 y3 y4 y5 y6 y7 y8 y9
      unfold portmanteauref05_Decode.j1
      repeat' first
      | (with_reducible exact ih0 _ _ _ _ _)
      | (with_reducible exact ih1 _ _ _ _ _ _ _ _ _ _)
      | (with_reducible exact ih2 _ _ _ _ _ _ _ _ _)
      | (with_reducible exact portmanteauref05_length.mono _ _ _ _)
      | (with_reducible exact LeO.refl _)
      | (with_reducible exact LeO.none _)
      | (with_reducible refine LeO.ite ?_ ?_)
      | (with_reducible refine LeO.bind ?_ (fun _ => ?_))
      | exact ih0 _ _ _ _ _
      | exact ih1 _ _ _ _ _ _ _ _ _ _
      | exact ih2 _ _ _ _ _ _ _ _ _
      | exact portmanteauref05_length.mono _ _ _ _
      | exact LeO.none _
      | refine LeO.ite ?_ ?_
      | refine LeO.bind ?_ (fun _ => ?_)
    · intro y0 y1 y2 y3 y4 y5 y6 y7 y8
      unfold portmanteauref05_Decode.l1
      repeat' first
      | (with_reducible exact ih0 _ _ _ _ _)
      | (with_reducible exact ih1 _ _ _ _ _ _ _ _ _ _)
      | (with_reducible exact ih2 _ _ _ _ _ _ _ _ _)
      | (with_reducible exact portmanteauref05_length.mono _ _ _ _)
      | (with_reducible exact LeO.refl _)
      | (with_reducible exact LeO.none _)
      | (with_reducible refine LeO.ite ?_ ?_)
      | (with_reducible refine LeO.bind ?_ (fun _ => ?_))
      | exact ih0 _ _ _ _ _
      | exact ih1 _ _ _ _ _ _ _ _ _ _
      | exact ih2 _ _ _ _ _ _ _ _ _
      | exact portmanteauref05_length.mono _ _ _ _
      | exact LeO.none _
      | refine LeO.ite ?_ ?_
      | refine LeO.bind ?_ (fun _ => ?_)
theorem portmanteauref05_Decode.mono : ∀ a0 a1 k, LeO (portmanteauref05_Decode.f k a0 a1) (portmanteauref05_Decode.f (k + 1) a0 a1) := by
  intro a0 a1 k
  obtain ⟨ih0, ih1, ih2⟩ := portmanteauref05_Decode.mono_l k
  unfold portmanteauref05_Decode.f
  repeat' first
      | (with_reducible exact ih0 _ _ _ _ _)
      | (with_reducible exact ih1 _ _ _ _ _ _ _ _ _ _)
      | (with_reducible exact ih2 _ _ _ _ _ _ _ _ _)
      | (with_reducible exact portmanteauref05_length.mono _ _ _ _)
      | (with_reducible exact LeO.refl _)
      | (with_reducible exact LeO.none _)
      | (with_reducible refine LeO.ite ?_ ?_)
      | (with_reducible refine LeO.bind ?_ (fun _ => ?_))
      | exact ih0 _ _ _ _ _
      | exact ih1 _ _ _ _ _ _ _ _ _ _
      | exact ih2 _ _ _ _ _ _ _ _ _
      | exact portmanteauref05_length.mono _ _ _ _
      | exact LeO.none _
      | refine LeO.ite ?_ ?_
      | refine LeO.bind ?_ (fun _ => ?_)
def portmanteauref05_Decode.T21 : Bool × List (List Nat × List Nat) := (true, [([], []), ([], []), ([0, 1], [0, 1]), ([2], [2]), ([3], [3]), ([], []), ([], []), ([6], [6]), ([5, 7], [5, 7]), ([8], [8]), ([9], [9]), ([10], [10]), ([4, 11], [4, 11]), ([0, 1, 2, 3, 4, 5, 6, 7, 8, 9, 10, 11, 12], []), ([13, 12, 0, 1, 2, 3, 4, 5, 6, 7, 8, 9, 10, 11, 12], [12, 13])])
def portmanteauref05_Decode.B21 : List Nat := [0, 0, 3, 7, 15, 0, 0, 64, 224, 480, 992, 2016, 4095, 8191, 16383]
theorem portmanteauref05_Decode.tab21 : rtab .any (opsOf Try.f64 21) = portmanteauref05_Decode.T21 := by kernel_rfl
theorem portmanteauref05_Decode.bits21 : waitsOk portmanteauref05_Decode.T21.2 portmanteauref05_Decode.B21 = true := by kernel_rfl

/-- A row that is read and isn't empty lies in none but the blocks that it is known to lead to. -/
theorem V_block_ne {e base n c g : Nat} {W : World} {ok : Nat → Prop} {ad : Addr} {xs : List Int} (h : Kd.V (Kd.int .u8) e W base ok (.slice (some ad) n c) xs) (hok : ∀ k, ok k → k ≠ g) (hn : 0 < xs.length) : ad.block ≠ g := by
  rintro rfl
  obtain ⟨A, c', hv, hl, hf⟩ := h
  injection hv with h1 h2 h3
  subst h1
  have h4 := hf { W with heap := W.heap.setIfInBounds ad.block (.map #[] 0) } (fun k hk _ => by
    show (W.heap.setIfInBounds ad.block _)[k]? = _
    rw [Array.getElem?_setIfInBounds_ne (fun he => hok k hk he.symm)])
  obtain ⟨ad', h5, h6⟩ := h4.2.2 hn
  injection h5 with h5
  subst h5
  obtain ⟨cs, h7, h8, h9⟩ := h6 0 xs[0] (List.getElem?_eq_getElem hn)
  have h10 : cs = [.int .u8 xs[0]] := h8
  have h11 := h9 0 (.int .u8 xs[0]) (by rw [h10]; rfl)
  have h12 : ∀ p : Addr, p.block = ad.block → World.cell? { W with heap := W.heap.setIfInBounds ad.block (.map #[] 0) } p = none := by
    intro p hp
    unfold World.cell?
    simp only [hp, Array.getElem?_setIfInBounds]
    by_cases hb : ad.block < W.heap.size <;> simp [hb]
  rw [h12 _ (add_block _ _)] at h11
  cases h11
set_option maxHeartbeats 8000000 in
set_option maxRecDepth 100000 in
theorem portmanteauref05_Decode.calls (k : Nat) (P0_ : Nat → Prop) (A0 : Option Addr) (c0 : Nat) (l0 : List Int) (a1 : Int) (r1 : List Int) (r2 : List (S113)) (r3 : Int) (r4 : Int) (w : World) (hs0 : Kd.V (Kd.int .u8) 5 w w.heap.size (fun k_ => P0_ k_) (.slice A0 l0.length c0) l0) (h : portmanteauref05_Decode.f k l0 a1 = some (r1, r2, r3, r4)) :
    Calls Try.prog 64 #[.slice A0 l0.length c0, .int .i64 a1] w fun e w' => ∃ v0_ v1_ : Value, e = .returned (.tuple #[v0_, v1_, .int .i64 r3, .int .i64 r4]) ∧ Kd.R (Kd.int .u8) 5 w' w.heap.size (fun k_ => (w.heap.size ≤ k_)) v0_ r1 ∧ Kd.N k113 113 w' w.heap.size (fun k_ => (P0_ k_ ∨ w.heap.size ≤ k_) ∧ some k_ ≠ (v0_ : Value).ownBlock) v1_ r2 ∧ Below w.heap.size w w' := by
  have hu113 := Try.underlying113
  have HO0 := Aside0.mk (show Kd.V (Kd.int .u8) 5 w w.heap.size (fun k_ => (P0_ k_ ∨ w.heap.size ≤ k_)) (.slice A0 l0.length c0) l0 from Kd.V_mono hs0 (fun k_ hk => .inl hk))
  have HB := Aside0.mk (Below.refl w.heap.size w)
  have H : (portmanteauref05_Decode.l0 k l0 a1 ([] : List Int) ([] : List (S113)) 0) = some (r1, r2, r3, r4) := h
  clear h
  have H' := Aside0.mk H
  clear H
  go_enter Try.func64, Try.ntmps64
  go_wp2
  go_loopg [8, 9, 10] k (fun kq v8 v9 v10 w' => ∃ (x8_1 : List Int) (x9_1 : List (S113)) (x10_1 : Int), v10 = .int .i64 x10_1 ∧ Aside0 (portmanteauref05_Decode.l0 kq l0 a1 x8_1 x9_1 x10_1 = some (r1, r2, r3, r4)) ∧ Aside0 (kq ≤ k) ∧ Aside0 (Kd.V (Kd.int .u8) 5 w' w.heap.size (fun k_ => (P0_ k_ ∨ w.heap.size ≤ k_) ∧ some k_ ≠ (v8 : Value).ownBlock ∧ some k_ ≠ (v9 : Value).ownBlock) (.slice A0 l0.length c0) l0) ∧ Aside0 (Kd.R (Kd.int .u8) 5 w' w.heap.size (fun k_ => (w.heap.size ≤ k_)) v8 x8_1) ∧ Aside0 (Kd.N k113 113 w' w.heap.size (fun k_ => (P0_ k_ ∨ w.heap.size ≤ k_) ∧ some k_ ≠ (v8 : Value).ownBlock) v9 x9_1) ∧ Aside0 (Below w.heap.size w w'))
  case atStart => exact ⟨(([] : List Int)), (([] : List (S113))), (0), (by first | rfl | (simp; done) | (simp [*]; done)), H', ⟨Nat.le_refl _⟩, ⟨by (with_reducible repeat (first | apply Kd.V_alloc | apply Kd.V_drewN | apply Kd.V_drew)); exact Kd.V_mono HO0.out (fun _ hk => ⟨hk, ⟨(by simp [Value.ownBlock]), (by simp [Value.ownBlock])⟩⟩)⟩, ⟨by first | exact Kd.R_nil _ _ _ _ _ | exact Kd.N_nil _ _ _ _ _ | exact Kd.V_nil _ _ _ _ _ | exact Kd.Q_nil _ _ _ _ _ | exact Kd.S_nil _ _ _ _ _⟩, ⟨by first | exact Kd.S_nil _ _ _ _ _ | exact Kd.N_nil _ _ _ _ _ | exact Kd.V_nil _ _ _ _ _ | exact Kd.Q_nil _ _ _ _ _ | exact Kd.R_nil _ _ _ _ _⟩, ⟨by repeat (first | (with_reducible first | exact HB.out | apply below_alloc | apply pw_below_drewN | apply below_drew1) | exact HB.out)⟩⟩
  case round =>
    clear H'
    try clear p2
    obtain ⟨x8_1, x9_1, x10_1, rfl, HA, HK1, HO_0, HO_8, HO_9, HB⟩ := hrel
    cases gk with
    | zero => exact absurd HA.out (by simp [portmanteauref05_Decode.l0])
    | succ k1 =>
      have H := HA.out
      clear HA
      simp only [portmanteauref05_Decode.l0] at H
      by_cases c3 : x10_1 ≥ (l0.length : Int)
      · rw [if_pos c3] at H
        have c3b0 : decide ((l0.length : Int) ≤ x10_1) = true := decide_eq_true c3
        clear c3
        simp only [Option.some.injEq, Prod.mk.injEq] at H
        obtain ⟨rfl, rfl, rfl, rfl⟩ := H
        go_wp2
        refine bodyPost_ret (results_list (rs := [.tmp 4, .tmp 5, .tmp 6, .tmp 7]) rfl (by simp) (.tmp (.tmp (.tmp (.tmp .nil))))) rfl ?_
        exact ⟨_, _, by first | rfl | (simp [errW_none, errW_some] <;> rfl) | (simp [*, errW_none, errW_some] <;> rfl), by first | exact Kd.R_nil _ _ _ _ _ | exact Kd.N_nil _ _ _ _ _ | exact Kd.V_nil _ _ _ _ _ | exact Kd.Q_nil _ _ _ _ _ | exact Kd.S_nil _ _ _ _ _, by first | exact Kd.S_nil _ _ _ _ _ | exact Kd.N_nil _ _ _ _ _ | exact Kd.V_nil _ _ _ _ _ | exact Kd.Q_nil _ _ _ _ _ | exact Kd.R_nil _ _ _ _ _, by repeat (first | (with_reducible first | exact HB.out | apply below_alloc | apply pw_below_drewN | apply below_drew1) | exact HB.out)⟩
      · rw [if_neg c3] at H
        have c3b0 : decide ((l0.length : Int) ≤ x10_1) = false := decide_eq_false c3
        clear c3
        by_cases c4 : 0 ≤ x10_1
        · rw [if_pos c4] at H
          have c4b0 : decide (0 ≤ x10_1) = true := decide_eq_true c4
          clear c4
          by_cases c5 : x10_1 < (l0.length : Int)
          · rw [if_pos c5] at H
            have c5b0 : decide (x10_1 < (l0.length : Int)) = true := decide_eq_true c5
            clear c5
            replace H := Option.bind_eq_some_iff.mp H
            obtain ⟨⟨t65002, t65003⟩, A60, H⟩ := H
            replace H : (if t65002 < 0 then (some (([] : List Int), ([] : List (S113)), 6, (l0.length : Int))) else (if t65002 > (wrap64 (a1 - (x8_1.length : Int))) then (some (([] : List Int), ([] : List (S113)), 2, x10_1)) else (if t65002 > (wrap64 ((l0.length : Int) - t65003)) then (some (([] : List Int), ([] : List (S113)), 6, (l0.length : Int))) else (if 0 ≤ t65003 then (if t65003 ≤ (wrap64 (t65003 + t65002)) then (if (wrap64 (t65003 + t65002)) ≤ (l0.length : Int) then ((some ((l0.take ((wrap64 (t65003 + t65002)) : Int).toNat).drop (t65003 : Int).toNat : List Int)).bind fun y65004 => (if x8_1.length + y65004.length < 140737488355328 then ((some (x8_1 ++ y65004 : List Int)).bind fun y65010 => (if (wrap64 (t65003 + t65002)) = (l0.length : Int) then (if x9_1.length < 3518437208883 then (some (y65010, (x9_1 ++ [(⟨y65004, 0, 0⟩ : S113)]), 0, (l0.length : Int))) else (none)) else (if (wrap64 ((wrap64 (t65003 + t65002)) + 1)) = (l0.length : Int) then (some (([] : List Int), ([] : List (S113)), 6, (l0.length : Int))) else (if 0 ≤ (wrap64 (t65003 + t65002)) then (if (wrap64 (t65003 + t65002)) < (l0.length : Int) then (if 0 ≤ (wrap64 ((wrap64 (t65003 + t65002)) + 1)) then (if (wrap64 ((wrap64 (t65003 + t65002)) + 1)) < (l0.length : Int) then (if (wrap64 ((wrap64 (rd l0 (wrap64 (t65003 + t65002)))) + (wrap64 (256 * (wrap64 (rd l0 (wrap64 ((wrap64 (t65003 + t65002)) + 1)))))))) = 0 then (portmanteauref05_Decode.j1 k1 l0 a1 y65010 x9_1 (wrap64 (t65003 + t65002)) x10_1 true y65004 (wrap64 ((wrap64 (rd l0 (wrap64 (t65003 + t65002)))) + (wrap64 (256 * (wrap64 (rd l0 (wrap64 ((wrap64 (t65003 + t65002)) + 1)))))))) 0) else (portmanteauref05_Decode.j1 k1 l0 a1 y65010 x9_1 (wrap64 (t65003 + t65002)) x10_1 (decide ((wrap64 ((wrap64 (rd l0 (wrap64 (t65003 + t65002)))) + (wrap64 (256 * (wrap64 (rd l0 (wrap64 ((wrap64 (t65003 + t65002)) + 1)))))))) > (y65010.length : Int))) y65004 (wrap64 ((wrap64 (rd l0 (wrap64 (t65003 + t65002)))) + (wrap64 (256 * (wrap64 (rd l0 (wrap64 ((wrap64 (t65003 + t65002)) + 1)))))))) 0)) else (none)) else (none)) else (none)) else (none))))) else (none))) else (none)) else (none)) else (none))))) = some (r1, r2, r3, r4) := H
            have A6 := Aside0.mk A60
            clear A60
            by_cases c7 : t65002 < 0
            · rw [if_pos c7] at H
              have c7b0 : decide (t65002 < 0) = true := decide_eq_true c7
              clear c7
              simp only [Option.some.injEq, Prod.mk.injEq] at H
              obtain ⟨rfl, rfl, rfl, rfl⟩ := H
              have p65001 : 0 ≤ (x10_1 : Int) := of_decide_eq_true (by first | (with_reducible assumption) | assumption)
              have q65001 : x10_1 < (l0.length : Int) := of_decide_eq_true (by first | (with_reducible assumption) | assumption)
              obtain ⟨ad65001, e65001, hx65001_0⟩ := Kd.at_int (Kd.V_reads' HO_0.out).2.2 x10_1 p65001 q65001
              cases e65001
              replace p65001 := eq_true p65001
              replace q65001 := eq_true q65001
              go_wp2_with (first | ((with_reducible refine gate_callee (f := 89) rfl ?_); refine goesL_ (some 34) rfl rfl Try.func89 (by kernel_rfl) rfl #[.slice (some ad65001) l0.length c0, .int .i64 ((Int.tdiv (rd l0 x10_1) 16) % 256), .int .i64 (wrap64 (x10_1 + 1))] rfl (by (try simp only [List.map_toArray, List.map_cons, List.map_nil]); first | done | rfl | (simp only [List.length_drop, List.length_take]; rfl)) ?_; (with_reducible refine (portmanteauref05_length.calls k1 _ _ l0 ((Int.tdiv (rd l0 x10_1) 16) % 256) (wrap64 (x10_1 + 1)) t65002 t65003 _ ?side1 ?side2 A6.out).mono ?_); (case side1 => repeat (first | exact (Kd.V_reads' HO_0.out).2.2 | (with_reducible refine Kd.C_alloc ?_ _) | (with_reducible refine Kd.C_drewN ?_ _) | (with_reducible refine Kd.C_drew ?_))); (case side2 => exact (Kd.V_reads' HO_0.out).2.1); rintro e w' ⟨rfl, ⟨nd, rfl⟩⟩; refine ⟨_, rfl, ?_⟩))
              refine bodyPost_ret (results_list (rs := [.tmp 4, .tmp 5, .tmp 6, .tmp 7]) rfl (by simp) (.tmp (.tmp (.tmp (.tmp .nil))))) rfl ?_
              exact ⟨_, _, by first | rfl | (simp [errW_none, errW_some] <;> rfl) | (simp [*, errW_none, errW_some] <;> rfl), by first | exact Kd.R_nil _ _ _ _ _ | exact Kd.N_nil _ _ _ _ _ | exact Kd.V_nil _ _ _ _ _ | exact Kd.Q_nil _ _ _ _ _ | exact Kd.S_nil _ _ _ _ _, by first | exact Kd.S_nil _ _ _ _ _ | exact Kd.N_nil _ _ _ _ _ | exact Kd.V_nil _ _ _ _ _ | exact Kd.Q_nil _ _ _ _ _ | exact Kd.R_nil _ _ _ _ _, by repeat (first | (with_reducible first | exact HB.out | apply below_alloc | apply pw_below_drewN | apply below_drew1) | exact HB.out)⟩
            · rw [if_neg c7] at H
              have c7b0 : decide (t65002 < 0) = false := decide_eq_false c7
              clear c7
              by_cases c8 : t65002 > (wrap64 (a1 - (x8_1.length : Int)))
              · rw [if_pos c8] at H
                have c8b0 : decide ((wrap64 (a1 - (x8_1.length : Int))) < t65002) = true := decide_eq_true c8
                clear c8
                simp only [Option.some.injEq, Prod.mk.injEq] at H
                obtain ⟨rfl, rfl, rfl, rfl⟩ := H
                have p65001 : 0 ≤ (x10_1 : Int) := of_decide_eq_true (by first | (with_reducible assumption) | assumption)
                have q65001 : x10_1 < (l0.length : Int) := of_decide_eq_true (by first | (with_reducible assumption) | assumption)
                obtain ⟨ad65001, e65001, hx65001_0⟩ := Kd.at_int (Kd.V_reads' HO_0.out).2.2 x10_1 p65001 q65001
                cases e65001
                replace p65001 := eq_true p65001
                replace q65001 := eq_true q65001
                go_wp2_with (first | ((with_reducible refine gate_callee (f := 89) rfl ?_); refine goesL_ (some 34) rfl rfl Try.func89 (by kernel_rfl) rfl #[.slice (some ad65001) l0.length c0, .int .i64 ((Int.tdiv (rd l0 x10_1) 16) % 256), .int .i64 (wrap64 (x10_1 + 1))] rfl (by (try simp only [List.map_toArray, List.map_cons, List.map_nil]); first | done | rfl | (simp only [List.length_drop, List.length_take]; rfl)) ?_; (with_reducible refine (portmanteauref05_length.calls k1 _ _ l0 ((Int.tdiv (rd l0 x10_1) 16) % 256) (wrap64 (x10_1 + 1)) t65002 t65003 _ ?side1 ?side2 A6.out).mono ?_); (case side1 => repeat (first | exact (Kd.V_reads' HO_0.out).2.2 | (with_reducible refine Kd.C_alloc ?_ _) | (with_reducible refine Kd.C_drewN ?_ _) | (with_reducible refine Kd.C_drew ?_))); (case side2 => exact (Kd.V_reads' HO_0.out).2.1); rintro e w' ⟨rfl, ⟨nd, rfl⟩⟩; refine ⟨_, rfl, ?_⟩; obtain ⟨Ao9, co9, eo9⟩ := Kd.R_slice HO_8.out; subst eo9))
                refine bodyPost_ret (results_list (rs := [.tmp 4, .tmp 5, .tmp 6, .tmp 7]) rfl (by simp) (.tmp (.tmp (.tmp (.tmp .nil))))) rfl ?_
                exact ⟨_, _, by first | rfl | (simp [errW_none, errW_some] <;> rfl) | (simp [*, errW_none, errW_some] <;> rfl), by first | exact Kd.R_nil _ _ _ _ _ | exact Kd.N_nil _ _ _ _ _ | exact Kd.V_nil _ _ _ _ _ | exact Kd.Q_nil _ _ _ _ _ | exact Kd.S_nil _ _ _ _ _, by first | exact Kd.S_nil _ _ _ _ _ | exact Kd.N_nil _ _ _ _ _ | exact Kd.V_nil _ _ _ _ _ | exact Kd.Q_nil _ _ _ _ _ | exact Kd.R_nil _ _ _ _ _, by repeat (first | (with_reducible first | exact HB.out | apply below_alloc | apply pw_below_drewN | apply below_drew1) | exact HB.out)⟩
              · rw [if_neg c8] at H
                have c8b0 : decide ((wrap64 (a1 - (x8_1.length : Int))) < t65002) = false := decide_eq_false c8
                clear c8
                by_cases c10 : t65002 > (wrap64 ((l0.length : Int) - t65003))
                · rw [if_pos c10] at H
                  have c10b0 : decide ((wrap64 ((l0.length : Int) - t65003)) < t65002) = true := decide_eq_true c10
                  clear c10
                  simp only [Option.some.injEq, Prod.mk.injEq] at H
                  obtain ⟨rfl, rfl, rfl, rfl⟩ := H
                  have p65001 : 0 ≤ (x10_1 : Int) := of_decide_eq_true (by first | (with_reducible assumption) | assumption)
                  have q65001 : x10_1 < (l0.length : Int) := of_decide_eq_true (by first | (with_reducible assumption) | assumption)
                  obtain ⟨ad65001, e65001, hx65001_0⟩ := Kd.at_int (Kd.V_reads' HO_0.out).2.2 x10_1 p65001 q65001
                  cases e65001
                  replace p65001 := eq_true p65001
                  replace q65001 := eq_true q65001
                  go_wp2_with (first | ((with_reducible refine gate_callee (f := 89) rfl ?_); refine goesL_ (some 34) rfl rfl Try.func89 (by kernel_rfl) rfl #[.slice (some ad65001) l0.length c0, .int .i64 ((Int.tdiv (rd l0 x10_1) 16) % 256), .int .i64 (wrap64 (x10_1 + 1))] rfl (by (try simp only [List.map_toArray, List.map_cons, List.map_nil]); first | done | rfl | (simp only [List.length_drop, List.length_take]; rfl)) ?_; (with_reducible refine (portmanteauref05_length.calls k1 _ _ l0 ((Int.tdiv (rd l0 x10_1) 16) % 256) (wrap64 (x10_1 + 1)) t65002 t65003 _ ?side1 ?side2 A6.out).mono ?_); (case side1 => repeat (first | exact (Kd.V_reads' HO_0.out).2.2 | (with_reducible refine Kd.C_alloc ?_ _) | (with_reducible refine Kd.C_drewN ?_ _) | (with_reducible refine Kd.C_drew ?_))); (case side2 => exact (Kd.V_reads' HO_0.out).2.1); rintro e w' ⟨rfl, ⟨nd, rfl⟩⟩; refine ⟨_, rfl, ?_⟩; obtain ⟨Ao11, co11, eo11⟩ := Kd.R_slice HO_8.out; subst eo11))
                  refine bodyPost_ret (results_list (rs := [.tmp 4, .tmp 5, .tmp 6, .tmp 7]) rfl (by simp) (.tmp (.tmp (.tmp (.tmp .nil))))) rfl ?_
                  exact ⟨_, _, by first | rfl | (simp [errW_none, errW_some] <;> rfl) | (simp [*, errW_none, errW_some] <;> rfl), by first | exact Kd.R_nil _ _ _ _ _ | exact Kd.N_nil _ _ _ _ _ | exact Kd.V_nil _ _ _ _ _ | exact Kd.Q_nil _ _ _ _ _ | exact Kd.S_nil _ _ _ _ _, by first | exact Kd.S_nil _ _ _ _ _ | exact Kd.N_nil _ _ _ _ _ | exact Kd.V_nil _ _ _ _ _ | exact Kd.Q_nil _ _ _ _ _ | exact Kd.R_nil _ _ _ _ _, by repeat (first | (with_reducible first | exact HB.out | apply below_alloc | apply pw_below_drewN | apply below_drew1) | exact HB.out)⟩
                · rw [if_neg c10] at H
                  have c10b0 : decide ((wrap64 ((l0.length : Int) - t65003)) < t65002) = false := decide_eq_false c10
                  clear c10
                  by_cases c12 : 0 ≤ t65003
                  · rw [if_pos c12] at H
                    have c12b0 := eq_true c12
                    have c12b1 : decide (0 ≤ t65003) = true := decide_eq_true c12
                    clear c12
                    by_cases c13 : t65003 ≤ (wrap64 (t65003 + t65002))
                    · rw [if_pos c13] at H
                      have c13b0 := eq_true c13
                      have c13b1 : decide (t65003 ≤ (wrap64 (t65003 + t65002))) = true := decide_eq_true c13
                      by_cases c14 : (wrap64 (t65003 + t65002)) ≤ (l0.length : Int)
                      · rw [if_pos c14] at H
                        have c14b0 := eq_true c14
                        have c14b1 : decide ((wrap64 (t65003 + t65002)) ≤ (l0.length : Int)) = true := decide_eq_true c14
                        obtain ⟨y65004, hy65004⟩ : ∃ y_ : List Int, y_ = ((l0.take ((wrap64 (t65003 + t65002)) : Int).toNat).drop (t65003 : Int).toNat) := ⟨_, rfl⟩
                        replace H : (if x8_1.length + y65004.length < 140737488355328 then ((some (x8_1 ++ y65004 : List Int)).bind fun y65010 => (if (wrap64 (t65003 + t65002)) = (l0.length : Int) then (if x9_1.length < 3518437208883 then (some (y65010, (x9_1 ++ [(⟨y65004, 0, 0⟩ : S113)]), 0, (l0.length : Int))) else (none)) else (if (wrap64 ((wrap64 (t65003 + t65002)) + 1)) = (l0.length : Int) then (some (([] : List Int), ([] : List (S113)), 6, (l0.length : Int))) else (if 0 ≤ (wrap64 (t65003 + t65002)) then (if (wrap64 (t65003 + t65002)) < (l0.length : Int) then (if 0 ≤ (wrap64 ((wrap64 (t65003 + t65002)) + 1)) then (if (wrap64 ((wrap64 (t65003 + t65002)) + 1)) < (l0.length : Int) then (if (wrap64 ((wrap64 (rd l0 (wrap64 (t65003 + t65002)))) + (wrap64 (256 * (wrap64 (rd l0 (wrap64 ((wrap64 (t65003 + t65002)) + 1)))))))) = 0 then (portmanteauref05_Decode.j1 k1 l0 a1 y65010 x9_1 (wrap64 (t65003 + t65002)) x10_1 true y65004 (wrap64 ((wrap64 (rd l0 (wrap64 (t65003 + t65002)))) + (wrap64 (256 * (wrap64 (rd l0 (wrap64 ((wrap64 (t65003 + t65002)) + 1)))))))) 0) else (portmanteauref05_Decode.j1 k1 l0 a1 y65010 x9_1 (wrap64 (t65003 + t65002)) x10_1 (decide ((wrap64 ((wrap64 (rd l0 (wrap64 (t65003 + t65002)))) + (wrap64 (256 * (wrap64 (rd l0 (wrap64 ((wrap64 (t65003 + t65002)) + 1)))))))) > (y65010.length : Int))) y65004 (wrap64 ((wrap64 (rd l0 (wrap64 (t65003 + t65002)))) + (wrap64 (256 * (wrap64 (rd l0 (wrap64 ((wrap64 (t65003 + t65002)) + 1)))))))) 0)) else (none)) else (none)) else (none)) else (none))))) else (none)) = some (r1, r2, r3, r4) := by first | (rw [hy65004]; with_reducible exact H) | (have H2_ := (Option.bind_some _ _).symm.trans H; rw [hy65004]; with_reducible exact H2_) | (have H2_ := (Option.bind_some _ _).symm.trans H; with_reducible exact H2_) | with_reducible exact H | (rw [hy65004]; exact H) | exact H
                        have Ny65004 := Aside0.mk hy65004
                        clear hy65004
                        by_cases c15 : x8_1.length + y65004.length < 140737488355328
                        · rw [if_pos c15] at H
                          have LMc15 := Aside0.mk c15
                          clear c15
                          obtain ⟨y65010, hy65010⟩ : ∃ y_ : List Int, y_ = (x8_1 ++ y65004) := ⟨_, rfl⟩
                          replace H : (if (wrap64 (t65003 + t65002)) = (l0.length : Int) then (if x9_1.length < 3518437208883 then (some (y65010, (x9_1 ++ [(⟨y65004, 0, 0⟩ : S113)]), 0, (l0.length : Int))) else (none)) else (if (wrap64 ((wrap64 (t65003 + t65002)) + 1)) = (l0.length : Int) then (some (([] : List Int), ([] : List (S113)), 6, (l0.length : Int))) else (if 0 ≤ (wrap64 (t65003 + t65002)) then (if (wrap64 (t65003 + t65002)) < (l0.length : Int) then (if 0 ≤ (wrap64 ((wrap64 (t65003 + t65002)) + 1)) then (if (wrap64 ((wrap64 (t65003 + t65002)) + 1)) < (l0.length : Int) then (if (wrap64 ((wrap64 (rd l0 (wrap64 (t65003 + t65002)))) + (wrap64 (256 * (wrap64 (rd l0 (wrap64 ((wrap64 (t65003 + t65002)) + 1)))))))) = 0 then (portmanteauref05_Decode.j1 k1 l0 a1 y65010 x9_1 (wrap64 (t65003 + t65002)) x10_1 true y65004 (wrap64 ((wrap64 (rd l0 (wrap64 (t65003 + t65002)))) + (wrap64 (256 * (wrap64 (rd l0 (wrap64 ((wrap64 (t65003 + t65002)) + 1)))))))) 0) else (portmanteauref05_Decode.j1 k1 l0 a1 y65010 x9_1 (wrap64 (t65003 + t65002)) x10_1 (decide ((wrap64 ((wrap64 (rd l0 (wrap64 (t65003 + t65002)))) + (wrap64 (256 * (wrap64 (rd l0 (wrap64 ((wrap64 (t65003 + t65002)) + 1)))))))) > (y65010.length : Int))) y65004 (wrap64 ((wrap64 (rd l0 (wrap64 (t65003 + t65002)))) + (wrap64 (256 * (wrap64 (rd l0 (wrap64 ((wrap64 (t65003 + t65002)) + 1)))))))) 0)) else (none)) else (none)) else (none)) else (none)))) = some (r1, r2, r3, r4) := by first | (rw [hy65010]; with_reducible exact H) | (have H2_ := (Option.bind_some _ _).symm.trans H; rw [hy65010]; with_reducible exact H2_) | (have H2_ := (Option.bind_some _ _).symm.trans H; with_reducible exact H2_) | with_reducible exact H | (rw [hy65010]; exact H) | exact H
                          have Ny65010 := Aside0.mk hy65010
                          clear hy65010
                          by_cases c16 : (wrap64 (t65003 + t65002)) = (l0.length : Int)
                          · rw [if_pos c16] at H
                            have c16b0 : ((wrap64 (t65003 + t65002)) == (l0.length : Int)) = true := beq_iff_eq.mpr c16
                            have c16b1 : ((wrap64 (t65003 + t65002)) != (l0.length : Int)) = false := bne_eq_false_iff_eq.mpr c16
                            clear c16
                            by_cases c17 : x9_1.length < 3518437208883
                            · rw [if_pos c17] at H
                              have LMc17 := Aside0.mk c17
                              clear c17
                              obtain ⟨y65013, hy65013⟩ : ∃ y_ : List (S113), y_ = (x9_1 ++ [(⟨y65004, 0, 0⟩ : S113)]) := ⟨_, rfl⟩
                              replace H : (some (y65010, y65013, 0, (l0.length : Int))) = some (r1, r2, r3, r4) := by first | (rw [hy65013]; with_reducible exact H) | (have H2_ := (Option.bind_some _ _).symm.trans H; rw [hy65013]; with_reducible exact H2_) | (have H2_ := (Option.bind_some _ _).symm.trans H; with_reducible exact H2_) | with_reducible exact H | (rw [hy65013]; exact H) | exact H
                              have Ny65013 := Aside0.mk hy65013
                              clear hy65013
                              simp only [Option.some.injEq, Prod.mk.injEq] at H
                              obtain ⟨rfl, rfl, rfl, rfl⟩ := H
                              have p65001 : 0 ≤ (x10_1 : Int) := of_decide_eq_true (by first | (with_reducible assumption) | assumption)
                              have q65001 : x10_1 < (l0.length : Int) := of_decide_eq_true (by first | (with_reducible assumption) | assumption)
                              obtain ⟨ad65001, e65001, hx65001_0⟩ := Kd.at_int (Kd.V_reads' HO_0.out).2.2 x10_1 p65001 q65001
                              cases e65001
                              replace p65001 := eq_true p65001
                              replace q65001 := eq_true q65001
                              go_wp2_with (first | ((with_reducible refine gate_callee (f := 89) rfl ?_); refine goesL_ (some 34) rfl rfl Try.func89 (by kernel_rfl) rfl #[.slice (some ad65001) l0.length c0, .int .i64 ((Int.tdiv (rd l0 x10_1) 16) % 256), .int .i64 (wrap64 (x10_1 + 1))] rfl (by (try simp only [List.map_toArray, List.map_cons, List.map_nil]); first | done | rfl | (simp only [List.length_drop, List.length_take]; rfl)) ?_; (with_reducible refine (portmanteauref05_length.calls k1 _ _ l0 ((Int.tdiv (rd l0 x10_1) 16) % 256) (wrap64 (x10_1 + 1)) t65002 t65003 _ ?side1 ?side2 A6.out).mono ?_); (case side1 => repeat (first | exact (Kd.V_reads' HO_0.out).2.2 | (with_reducible refine Kd.C_alloc ?_ _) | (with_reducible refine Kd.C_drewN ?_ _) | (with_reducible refine Kd.C_drew ?_))); (case side2 => exact (Kd.V_reads' HO_0.out).2.1); rintro e w' ⟨rfl, ⟨nd, rfl⟩⟩; refine ⟨_, rfl, ?_⟩; (try (rw [drewN_self wr]; generalize hq_ : World.drewN wr _ = wr; have n0_ : Aside0 (Kd.V (Kd.int .u8) 5 wr w.heap.size (fun k_ => (P0_ k_ ∨ w.heap.size ≤ k_) ∧ some k_ ≠ (u8 : Value).ownBlock ∧ some k_ ≠ (u9 : Value).ownBlock) (.slice (some ad65001) l0.length c0) l0) := ⟨by rw [← hq_]; exact (by (with_reducible repeat (first | apply Kd.V_alloc | apply Kd.V_drewN | apply Kd.V_drew)); exact HO_0.out)⟩; have n1_ : Aside0 (Kd.R (Kd.int .u8) 5 wr w.heap.size (fun k_ => (w.heap.size ≤ k_)) u8 x8_1) := ⟨by rw [← hq_]; exact (by (with_reducible repeat (first | apply Kd.R_alloc | apply Kd.R_drewN | apply Kd.R_drew)); exact HO_8.out)⟩; have n2_ : Aside0 (Kd.N k113 113 wr w.heap.size (fun k_ => (P0_ k_ ∨ w.heap.size ≤ k_) ∧ some k_ ≠ (u8 : Value).ownBlock) u9 x9_1) := ⟨by rw [← hq_]; exact (by (with_reducible repeat (first | apply Kd.N_alloc | apply Kd.N_drewN | apply Kd.N_drew)); exact HO_9.out)⟩; have n3_ : Aside0 (Below w.heap.size w wr) := ⟨by rw [← hq_]; exact (by repeat (first | (with_reducible first | exact HB.out | apply below_alloc | apply pw_below_drewN | apply below_drew1) | exact HB.out))⟩; clear HO_0 HO_8 HO_9 HB hq_; have HO_0 := n0_; have HO_8 := n1_; have HO_9 := n2_; have HB := n3_; clear n0_ n1_ n2_ n3_)); obtain ⟨Ao18, co18, eo18⟩ := Kd.R_slice HO_8.out; subst eo18; have q19 : ((wrap64 (t65003 + t65002)) : Int) ≤ ((l0.length : Int) : Int) := of_decide_eq_true (by first | (with_reducible assumption) | assumption); obtain ⟨i019, hi019, _, hsz19, _⟩ := info_parts info5; have hroom19 : l0.length ≤ c0 := (Kd.V_reads' HO_0.out).2.1; have hC19 : Kd.F (Kd.int .u8) _ _ (some ad65001) l0.length l0 := (Kd.V_at (base := w.heap.size) HO_0.out).2.2; have ql19 : (t65003 : Int) ≤ ((wrap64 (t65003 + t65002)) : Int) := of_decide_eq_true (by first | (with_reducible assumption) | assumption); have q019 : (0 : Int) ≤ (t65003 : Int) := of_decide_eq_true (by first | (with_reducible assumption) | assumption); have hcut19 := cut_mid (P := Try.prog) 22 5 .i64 .i64 Try.underlying22 hi019 1 hsz19 (some ad65001) l0.length c0 t65003 (wrap64 (t65003 + t65002)) q019 ql19 q19 hroom19; have hr19 := Kd.F_mid (lo := (t65003 : Int).toNat) (hi := ((wrap64 (t65003 + t65002)) : Int).toNat) (c := c0) hC19 (by omega) (by omega) hroom19; obtain ⟨A19, hA19⟩ : ∃ A1, A1 = (if c0 = (t65003 : Int).toNat then (some ad65001) else ((some ad65001) : Option Addr).map (·.add ((t65003 : Int).toNat * 1))) := ⟨_, rfl⟩; obtain ⟨c19, hc19⟩ : ∃ c1, c1 = c0 - (t65003 : Int).toNat := ⟨_, rfl⟩; have hy19 : y65004.length = ((wrap64 (t65003 + t65002)) : Int).toNat - (t65003 : Int).toNat := (by rw [Ny65004.out, List.length_drop, List.length_take] <;> omega); rw [show ((l0).take ((wrap64 (t65003 + t65002)) : Int).toNat).drop (t65003 : Int).toNat = y65004 from Ny65004.out.symm] at hr19; replace hr19 : Kd.F (Kd.int .u8) _ _ A19 y65004.length y65004 := (by rw [hA19]; exact hr19); rw [← hy19, ← hA19, ← hc19] at hcut19; have HO65008 := Aside0.mk (show Kd.V (Kd.int .u8) 5 _ w.heap.size _ (.slice A19 y65004.length c19) y65004 from Kd.V_mk (by rw [hy19, hc19]; exact Nat.sub_le_sub_right (Nat.le_trans (by omega) hroom19) _) hr19); have HC65008 := Aside0.mk (show y65004.length ≤ c19 from by rw [hy19, hc19]; exact Nat.sub_le_sub_right (Nat.le_trans (by omega) hroom19) _); clear hr19 hC19 hroom19 hi019 hsz19 hc19; have KY19 := Aside0.mk hy19; have KA19 := Aside0.mk hA19; clear hy19 hA19; replace q19 := eq_true q19) | ((with_reducible refine gate_dst (N := 14) rfl ?_); (try (refine gate_guard (by rfl) ?_; dsimp only)); refine box_event ?hg (N := 14) ?hd (cs := #[.slice none 0 0, .int .i64 0, .int .i64 0]) (t := 113) ?hr ?_; (case hd => rfl); (case hg => rfl); (case hr => first | (go_simp; done) | (go_simp; rfl)); intro gb65009 hg w20 hbox hb; have n0_ := Aside0.mk (Kd.V_below (Kd.V_elderB (by (with_reducible repeat (first | apply Kd.V_alloc | apply Kd.V_drewN | apply Kd.V_drew)); exact HO_0.out) gb65009 (Nat.le_of_eq hg.symm)) hb); have n1_ := Aside0.mk (Kd.R_below (by (with_reducible repeat (first | apply Kd.R_alloc | apply Kd.R_drewN | apply Kd.R_drew)); exact HO_8.out) hb); have n2_ := Aside0.mk (Kd.N_below (Kd.N_elderB (by (with_reducible repeat (first | apply Kd.N_alloc | apply Kd.N_drewN | apply Kd.N_drew)); exact HO_9.out) gb65009 (Nat.le_of_eq hg.symm)) hb); have n3_ := Aside0.mk (Kd.V_below (Kd.V_elderB (by (with_reducible repeat (first | apply Kd.V_alloc | apply Kd.V_drewN | apply Kd.V_drew)); exact HO65008.out) gb65009 (Nat.le_of_eq hg.symm)) hb); have n4_ := Aside0.mk (below_step (by repeat (first | (with_reducible first | exact HB.out | apply below_alloc | apply pw_below_drewN | apply below_drew1) | exact HB.out)) hb); have n5_ := Aside0.mk (hbox); have n6_ := Aside0.mk ((by rw [hg]; exact (below_size (by repeat (first | (with_reducible first | exact HB.out | apply below_alloc | apply pw_below_drewN | apply below_drew1) | exact HB.out))) : w.heap.size ≤ gb65009)); have n7_ := Aside0.mk ((by rw [hg]; exact (below_size (by repeat (first | (with_reducible first | exact HB.out | apply below_alloc | apply pw_below_drewN | apply below_drew1) | exact HB.out))) : w.heap.size ≤ gb65009)); clear HO_0; clear HO_8; clear HO_9; clear HO65008; clear HB; have HO_0 := n0_; have HO_8 := n1_; have HO_9 := n2_; have HO65008 := n3_; have HB := n4_; have BK65009 := n5_; have GW65009 := n6_; have GE65009 := n7_; clear n0_ n1_ n2_ n3_ n4_ n5_ n6_ n7_; clear hb hbox hg; have hcz21_0 : w20.cell? ⟨gb65009, 0, none⟩ = some (.slice none 0 0) := (blk_cell BK65009.out 0).trans rfl; have hcz21_1 : w20.cell? ⟨gb65009, 1, none⟩ = some (.int .i64 0) := (blk_cell BK65009.out 1).trans rfl; have hcz21_2 : w20.cell? ⟨gb65009, 2, none⟩ = some (.int .i64 0) := (blk_cell BK65009.out 2).trans rfl; have hfz21_0 := blk_frozen BK65009.out 0; have hfz21_1 := blk_frozen BK65009.out 1; have hfz21_2 := blk_frozen BK65009.out 2) | ((with_reducible refine gate_builtin (b := .append) (xs := #[.tmp 63, .tmp 65]) rfl ?_); (try (refine gate_guard (by rfl) ?_; dsimp only)); at_builtin; refine Kd.R_append_rows (Kd.int .u8) (w0 := w) w.heap.size rfl (.tmp 63) (.tmp 65) 22 5 (.int .u8 0) 1 rfl Try.underlying22 info5 rfl (by decide) (by omega) (.slice Ao18 x8_1.length co18) x8_1 y65004 _ _ _ (fun k_ => (w.heap.size ≤ k_)) (fun _ => False) rfl rfl ?aO ?aR (fun _ _ h => h) (fun _ h => h.elim) ?aF ?aB ?aS ?aL ?_; (case aR => refine (Kd.V_reads' (e := 5) (base := w.heap.size) (ok := fun k_ => ((((P0_ k_ ∨ w.heap.size ≤ k_)) ∧ (some k_ ≠ (.slice Ao18 x8_1.length co18 : Value).ownBlock ∧ some k_ ≠ (u9 : Value).ownBlock)) ∧ k_ ≠ gb65009)) (n := y65004.length) (c := c19) ?_).2.2; exact (by (with_reducible repeat (first | apply Kd.V_alloc | apply Kd.V_drewN | apply Kd.V_drew)); exact (Kd.V_mono (Kd.V_far (p := ⟨gb65009, 2, none⟩) (Kd.V_far (p := ⟨gb65009, 1, none⟩) (Kd.V_far (p := ⟨gb65009, 0, none⟩) (Kd.V_mono HO65008.out (fun k_ hk => (⟨hk, hk.2⟩ : _ ∧ k_ ≠ gb65009))) (fun _ hk => hk.2) (.slice A19 y65004.length c19)) (fun _ hk => hk.2) (.int .i64 0)) (fun _ hk => hk.2) (.int .i64 0)) (fun _ h_ => h_.1)))); (case aB => exact (by repeat (first | (with_reducible first | exact HB.out | apply below_alloc | apply pw_below_drewN | apply below_drew1 | refine below_set ?_ GE65009.out) | exact HB.out))); (case aF => exact (fun k_ hk => (Nat.le_trans (below_size (by repeat (first | (with_reducible first | exact HB.out | apply below_alloc | apply pw_below_drewN | apply below_drew1 | refine below_set ?_ GE65009.out) | exact HB.out))) hk))); (case aO => exact (by (with_reducible repeat (first | apply Kd.R_alloc | apply Kd.R_drewN | apply Kd.R_drew)); exact Kd.R_mono (Kd.R_far (p := ⟨gb65009, 2, none⟩) (Kd.R_far (p := ⟨gb65009, 1, none⟩) (Kd.R_far (p := ⟨gb65009, 0, none⟩) (Kd.R_types HO_8.out BK65009.out (by decide)) (fun _ hk => hk.2) (.slice A19 y65004.length c19)) (fun _ hk => hk.2) (.int .i64 0)) (fun _ hk => hk.2) (.int .i64 0)) (fun _ hk => hk.1))); (case aS => exact (below_size (by repeat (first | (with_reducible first | exact HB.out | apply below_alloc | apply pw_below_drewN | apply below_drew1 | refine below_set ?_ GE65009.out) | exact HB.out)))); (case aL => have := LMc15.out; omega); intro v65011 w22 ho hb hg hat; rw [← Ny65010.out] at ho; have n0_ := Aside0.mk (Kd.V_afterv (ok := (fun k_ => (P0_ k_ ∨ w.heap.size ≤ k_) ∧ some k_ ≠ (u9 : Value).ownBlock ∧ k_ ≠ gb65009)) (by (with_reducible repeat (first | apply Kd.V_alloc | apply Kd.V_drewN | apply Kd.V_drew)); exact Kd.V_mono (Kd.V_far (p := ⟨gb65009, 2, none⟩) (Kd.V_far (p := ⟨gb65009, 1, none⟩) (Kd.V_far (p := ⟨gb65009, 0, none⟩) (Kd.V_mono HO_0.out (fun k_ hk => (⟨hk, hk.2⟩ : _ ∧ k_ ≠ gb65009))) (fun _ hk => hk.2) (.slice A19 y65004.length c19)) (fun _ hk => hk.2) (.int .i64 0)) (fun _ hk => hk.2) (.int .i64 0)) (fun _ hk => ⟨⟨hk.1.1.1, ⟨hk.1.1.2.2, hk.1.2⟩⟩, hk.1.1.2.1⟩)) hg hat); have n1_ := Aside0.mk (Kd.N_afterv (ok := (fun k_ => (P0_ k_ ∨ w.heap.size ≤ k_) ∧ k_ ≠ gb65009)) (by (with_reducible repeat (first | apply Kd.N_alloc | apply Kd.N_drewN | apply Kd.N_drew)); exact Kd.N_mono (Kd.N_far (p := ⟨gb65009, 2, none⟩) (Kd.N_far (p := ⟨gb65009, 1, none⟩) (Kd.N_far (p := ⟨gb65009, 0, none⟩) (Kd.N_mono HO_9.out (fun k_ hk => (⟨hk, hk.2⟩ : _ ∧ k_ ≠ gb65009))) (fun _ hk => hk.2) (.slice A19 y65004.length c19)) (fun _ hk => hk.2) (.int .i64 0)) (fun _ hk => hk.2) (.int .i64 0)) (fun _ hk => ⟨⟨hk.1.1.1, hk.1.2⟩, hk.1.1.2⟩)) hg hat); have n2_ := Aside0.mk (Kd.V_afterv (ok := (fun k_ => (P0_ k_ ∨ w.heap.size ≤ k_) ∧ some k_ ≠ (u9 : Value).ownBlock ∧ k_ ≠ gb65009)) (by (with_reducible repeat (first | apply Kd.V_alloc | apply Kd.V_drewN | apply Kd.V_drew)); exact Kd.V_mono (Kd.V_far (p := ⟨gb65009, 2, none⟩) (Kd.V_far (p := ⟨gb65009, 1, none⟩) (Kd.V_far (p := ⟨gb65009, 0, none⟩) (Kd.V_mono HO65008.out (fun k_ hk => (⟨hk, hk.2⟩ : _ ∧ k_ ≠ gb65009))) (fun _ hk => hk.2) (.slice A19 y65004.length c19)) (fun _ hk => hk.2) (.int .i64 0)) (fun _ hk => hk.2) (.int .i64 0)) (fun _ hk => ⟨⟨hk.1.1.1, ⟨hk.1.1.2.2, hk.1.2⟩⟩, hk.1.1.2.1⟩)) hg hat); have n3_ := Aside0.mk (blk_grown (g := gb65009) (o := .cells #[.slice A19 y65004.length c19, .int .i64 0, .int .i64 0] 113 (0, 0)) (by (with_reducible repeat (first | refine blk_drewN ?_ _ | refine blk_drew ?_ | refine blk_alloc ?_ _)); refine blk_put (cs := #[.slice A19 y65004.length c19, .int .i64 0, .int .i64 0]) ?_ 2 _ rfl; (with_reducible repeat (first | refine blk_drewN ?_ _ | refine blk_drew ?_ | refine blk_alloc ?_ _)); refine blk_put (cs := #[.slice A19 y65004.length c19, .int .i64 0, .int .i64 0]) ?_ 1 _ rfl; (with_reducible repeat (first | refine blk_drewN ?_ _ | refine blk_drew ?_ | refine blk_alloc ?_ _)); refine blk_put (cs := #[.slice none 0 0, .int .i64 0, .int .i64 0]) ?_ 0 _ rfl; (with_reducible repeat (first | refine blk_drewN ?_ _ | refine blk_drew ?_ | refine blk_alloc ?_ _)); exact BK65009.out) hg (Kd.R_ne HO_8.out BK65009.out (by decide))); have n4_ := Aside0.mk (hb); have n5_ := Aside0.mk (ho); clear HO_0; clear HO_9; clear HO65008; clear BK65009; clear HB; clear HO_8; have HO_0 := n0_; have HO_9 := n1_; have HO65008 := n2_; have BK65009 := n3_; have HB := n4_; have HO65012 := n5_; clear n0_ n1_ n2_ n3_ n4_ n5_; clear ho hb hg hat; have hcz23_0 : w22.cell? ⟨gb65009, 0, none⟩ = some (.slice A19 y65004.length c19) := (blk_cell BK65009.out 0).trans rfl; have hcz23_1 : w22.cell? ⟨gb65009, 1, none⟩ = some (.int .i64 0) := (blk_cell BK65009.out 1).trans rfl; have hcz23_2 : w22.cell? ⟨gb65009, 2, none⟩ = some (.int .i64 0) := (blk_cell BK65009.out 2).trans rfl; have hfz23_0 := blk_frozen BK65009.out 0; have hfz23_1 := blk_frozen BK65009.out 1; have hfz23_2 := blk_frozen BK65009.out 2) | ((with_reducible refine gate_builtin (b := .append) (xs := #[.tmp 75, .tmp 77]) rfl ?_); (try (refine gate_guard (by rfl) ?_; dsimp only)); at_builtin; refine Kd.N_append k113 (w0 := w) w.heap.size rfl (.tmp 75) (.tmp 77) 107 113 (.agg #[(.slice none 0 0), (.int .i64 0), (.int .i64 0)]) 40 rfl Try.underlying107 info113 rfl (by decide) (by omega) u9 x9_1 (⟨y65004, 0, 0⟩ : S113) [.slice A19 y65004.length c19, .int .i64 0, .int .i64 0] (fun k_ => (P0_ k_ ∨ w.heap.size ≤ k_) ∧ some k_ ≠ (v65011 : Value).ownBlock ∧ k_ ≠ gb65009) (fun k_ => ((fun k_ => (P0_ k_ ∨ w.heap.size ≤ k_) ∧ some k_ ≠ (v65011 : Value).ownBlock ∧ k_ ≠ gb65009)) k_ ∧ some k_ ≠ (u9 : Value).ownBlock) rfl rfl ?aP (fun _ hk => hk) ?aF ?aO ?aB ?aS ?aL ?_; (case aP => exact (k113_mkF _ _ (⟨y65004, 0, 0⟩ : S113) (Kd.V_reads' (Kd.V_mono (ok' := (fun k_ => ((fun k_ => (P0_ k_ ∨ w.heap.size ≤ k_) ∧ some k_ ≠ (v65011 : Value).ownBlock ∧ k_ ≠ gb65009)) k_ ∧ some k_ ≠ (u9 : Value).ownBlock)) (HO65008.out) (fun k_ hk => ⟨⟨hk.1.1, ⟨hk.2, hk.1.2.2⟩⟩, hk.1.2.1⟩))).2.1 (Kd.V_F (Kd.V_mono (ok' := (fun k_ => ((fun k_ => (P0_ k_ ∨ w.heap.size ≤ k_) ∧ some k_ ≠ (v65011 : Value).ownBlock ∧ k_ ≠ gb65009)) k_ ∧ some k_ ≠ (u9 : Value).ownBlock)) (HO65008.out) (fun k_ hk => ⟨⟨hk.1.1, ⟨hk.2, hk.1.2.2⟩⟩, hk.1.2.1⟩))))); (case aB => exact (by repeat (first | (with_reducible first | exact HB.out | apply below_alloc | apply pw_below_drewN | apply below_drew1 | refine below_set ?_ GE65009.out) | exact HB.out))); (case aF => exact (fun k_ hk => ⟨(.inr (Nat.le_trans (below_size (by repeat (first | (with_reducible first | exact HB.out | apply below_alloc | apply pw_below_drewN | apply below_drew1 | refine below_set ?_ GE65009.out) | exact HB.out))) hk)), Kd.fresh' (Kd.R_lt (by (with_reducible repeat (first | apply Kd.R_alloc | apply Kd.R_drewN | apply Kd.R_drew)); exact HO65012.out)) k_ hk, Kd.freshB (g := gb65009) (o := .cells #[.slice A19 y65004.length c19, .int .i64 0, .int .i64 0] 113 (0, 0)) (by (with_reducible repeat (first | refine blk_drewN ?_ _ | refine blk_drew ?_ | refine blk_alloc ?_ _)); exact BK65009.out) k_ hk⟩)); (case aO => exact (by (with_reducible repeat (first | apply Kd.N_alloc | apply Kd.N_drewN | apply Kd.N_drew)); exact Kd.N_mono HO_9.out (fun _ hk => ⟨hk.1.1, ⟨hk.2, hk.1.2⟩⟩))); (case aS => exact (below_size (by repeat (first | (with_reducible first | exact HB.out | apply below_alloc | apply pw_below_drewN | apply below_drew1 | refine below_set ?_ GE65009.out) | exact HB.out)))); (case aL => have := LMc17.out; omega); intro v65014 w24 ho hb hg hat; rw [← Ny65013.out] at ho; have n0_ := Aside0.mk (Kd.V_afterv (ok := (fun k_ => (P0_ k_ ∨ w.heap.size ≤ k_) ∧ some k_ ≠ (v65011 : Value).ownBlock ∧ k_ ≠ gb65009)) (by (with_reducible repeat (first | apply Kd.V_alloc | apply Kd.V_drewN | apply Kd.V_drew)); exact Kd.V_mono HO_0.out (fun _ hk => ⟨⟨hk.1.1, ⟨hk.2, hk.1.2.2⟩⟩, hk.1.2.1⟩)) hg hat); have n1_ := Aside0.mk (Kd.V_afterv (ok := (fun k_ => (P0_ k_ ∨ w.heap.size ≤ k_) ∧ some k_ ≠ (v65011 : Value).ownBlock ∧ k_ ≠ gb65009)) (by (with_reducible repeat (first | apply Kd.V_alloc | apply Kd.V_drewN | apply Kd.V_drew)); exact Kd.V_mono HO65008.out (fun _ hk => ⟨⟨hk.1.1, ⟨hk.2, hk.1.2.2⟩⟩, hk.1.2.1⟩)) hg hat); have n2_ := Aside0.mk (blk_grown (g := gb65009) (o := .cells #[.slice A19 y65004.length c19, .int .i64 0, .int .i64 0] 113 (0, 0)) (by (with_reducible repeat (first | refine blk_drewN ?_ _ | refine blk_drew ?_ | refine blk_alloc ?_ _)); exact BK65009.out) hg (Kd.N_away HO_9.out (fun _ hk => hk.1.2))); have n3_ := Aside0.mk (Kd.R_over' (by (with_reducible repeat (first | apply Kd.R_alloc | apply Kd.R_drewN | apply Kd.R_drew)); exact HO65012.out) (Kd.N_typed (by (with_reducible repeat (first | apply Kd.N_alloc | apply Kd.N_drewN | apply Kd.N_drew)); exact HO_9.out)) (by decide) hg); have n4_ := Aside0.mk (hb); have n5_ := Aside0.mk (ho); clear HO_0; clear HO65008; clear BK65009; clear HO65012; clear HB; clear HO_9; have HO_0 := n0_; have HO65008 := n1_; have BK65009 := n2_; have HO65012 := n3_; have HB := n4_; have HO65015 := n5_; clear n0_ n1_ n2_ n3_ n4_ n5_; clear ho hb hg hat))
                              refine bodyPost_ret (results_list (rs := [.tmp 4, .tmp 5, .tmp 6, .tmp 7]) rfl (by simp) (.tmp (.tmp (.tmp (.tmp .nil))))) rfl ?_
                              exact ⟨_, _, by first | rfl | (simp [errW_none, errW_some] <;> rfl) | (simp [*, errW_none, errW_some] <;> rfl), by (with_reducible repeat (first | apply Kd.R_alloc | apply Kd.R_drewN | apply Kd.R_drew)); exact HO65012.out, by (with_reducible repeat (first | apply Kd.N_alloc | apply Kd.N_drewN | apply Kd.N_drew)); exact Kd.N_mono HO65015.out (fun _ hk => ⟨hk.1, hk.2.1⟩), by repeat (first | (with_reducible first | exact HB.out | apply below_alloc | apply pw_below_drewN | apply below_drew1 | refine below_set ?_ GE65009.out) | exact HB.out)⟩
                            · rw [if_neg c17] at H
                              exact absurd H (by simp)
                          · rw [if_neg c16] at H
                            have c16b0 : ((wrap64 (t65003 + t65002)) == (l0.length : Int)) = false := beq_eq_false_iff_ne.mpr c16
                            have c16b1 : ((wrap64 (t65003 + t65002)) != (l0.length : Int)) = true := bne_iff_ne.mpr c16
                            by_cases c25 : (wrap64 ((wrap64 (t65003 + t65002)) + 1)) = (l0.length : Int)
                            · rw [if_pos c25] at H
                              have c25b0 : ((wrap64 ((wrap64 (t65003 + t65002)) + 1)) == (l0.length : Int)) = true := beq_iff_eq.mpr c25
                              have c25b1 : ((wrap64 ((wrap64 (t65003 + t65002)) + 1)) != (l0.length : Int)) = false := bne_eq_false_iff_eq.mpr c25
                              clear c25
                              simp only [Option.some.injEq, Prod.mk.injEq] at H
                              obtain ⟨rfl, rfl, rfl, rfl⟩ := H
                              have p65001 : 0 ≤ (x10_1 : Int) := of_decide_eq_true (by first | (with_reducible assumption) | assumption)
                              have q65001 : x10_1 < (l0.length : Int) := of_decide_eq_true (by first | (with_reducible assumption) | assumption)
                              obtain ⟨ad65001, e65001, hx65001_0⟩ := Kd.at_int (Kd.V_reads' HO_0.out).2.2 x10_1 p65001 q65001
                              cases e65001
                              replace p65001 := eq_true p65001
                              replace q65001 := eq_true q65001
                              go_wp2_with (first | ((with_reducible refine gate_callee (f := 89) rfl ?_); refine goesL_ (some 34) rfl rfl Try.func89 (by kernel_rfl) rfl #[.slice (some ad65001) l0.length c0, .int .i64 ((Int.tdiv (rd l0 x10_1) 16) % 256), .int .i64 (wrap64 (x10_1 + 1))] rfl (by (try simp only [List.map_toArray, List.map_cons, List.map_nil]); first | done | rfl | (simp only [List.length_drop, List.length_take]; rfl)) ?_; (with_reducible refine (portmanteauref05_length.calls k1 _ _ l0 ((Int.tdiv (rd l0 x10_1) 16) % 256) (wrap64 (x10_1 + 1)) t65002 t65003 _ ?side1 ?side2 A6.out).mono ?_); (case side1 => repeat (first | exact (Kd.V_reads' HO_0.out).2.2 | (with_reducible refine Kd.C_alloc ?_ _) | (with_reducible refine Kd.C_drewN ?_ _) | (with_reducible refine Kd.C_drew ?_))); (case side2 => exact (Kd.V_reads' HO_0.out).2.1); rintro e w' ⟨rfl, ⟨nd, rfl⟩⟩; refine ⟨_, rfl, ?_⟩; (try (rw [drewN_self wr]; generalize hq_ : World.drewN wr _ = wr; have n0_ : Aside0 (Kd.V (Kd.int .u8) 5 wr w.heap.size (fun k_ => (P0_ k_ ∨ w.heap.size ≤ k_) ∧ some k_ ≠ (u8 : Value).ownBlock ∧ some k_ ≠ (u9 : Value).ownBlock) (.slice (some ad65001) l0.length c0) l0) := ⟨by rw [← hq_]; exact (by (with_reducible repeat (first | apply Kd.V_alloc | apply Kd.V_drewN | apply Kd.V_drew)); exact HO_0.out)⟩; have n1_ : Aside0 (Kd.R (Kd.int .u8) 5 wr w.heap.size (fun k_ => (w.heap.size ≤ k_)) u8 x8_1) := ⟨by rw [← hq_]; exact (by (with_reducible repeat (first | apply Kd.R_alloc | apply Kd.R_drewN | apply Kd.R_drew)); exact HO_8.out)⟩; have n2_ : Aside0 (Kd.N k113 113 wr w.heap.size (fun k_ => (P0_ k_ ∨ w.heap.size ≤ k_) ∧ some k_ ≠ (u8 : Value).ownBlock) u9 x9_1) := ⟨by rw [← hq_]; exact (by (with_reducible repeat (first | apply Kd.N_alloc | apply Kd.N_drewN | apply Kd.N_drew)); exact HO_9.out)⟩; have n3_ : Aside0 (Below w.heap.size w wr) := ⟨by rw [← hq_]; exact (by repeat (first | (with_reducible first | exact HB.out | apply below_alloc | apply pw_below_drewN | apply below_drew1) | exact HB.out))⟩; clear HO_0 HO_8 HO_9 HB hq_; have HO_0 := n0_; have HO_8 := n1_; have HO_9 := n2_; have HB := n3_; clear n0_ n1_ n2_ n3_)); obtain ⟨Ao26, co26, eo26⟩ := Kd.R_slice HO_8.out; subst eo26; have q27 : ((wrap64 (t65003 + t65002)) : Int) ≤ ((l0.length : Int) : Int) := of_decide_eq_true (by first | (with_reducible assumption) | assumption); obtain ⟨i027, hi027, _, hsz27, _⟩ := info_parts info5; have hroom27 : l0.length ≤ c0 := (Kd.V_reads' HO_0.out).2.1; have hC27 : Kd.F (Kd.int .u8) _ _ (some ad65001) l0.length l0 := (Kd.V_at (base := w.heap.size) HO_0.out).2.2; have ql27 : (t65003 : Int) ≤ ((wrap64 (t65003 + t65002)) : Int) := of_decide_eq_true (by first | (with_reducible assumption) | assumption); have q027 : (0 : Int) ≤ (t65003 : Int) := of_decide_eq_true (by first | (with_reducible assumption) | assumption); have hcut27 := cut_mid (P := Try.prog) 22 5 .i64 .i64 Try.underlying22 hi027 1 hsz27 (some ad65001) l0.length c0 t65003 (wrap64 (t65003 + t65002)) q027 ql27 q27 hroom27; have hr27 := Kd.F_mid (lo := (t65003 : Int).toNat) (hi := ((wrap64 (t65003 + t65002)) : Int).toNat) (c := c0) hC27 (by omega) (by omega) hroom27; obtain ⟨A27, hA27⟩ : ∃ A1, A1 = (if c0 = (t65003 : Int).toNat then (some ad65001) else ((some ad65001) : Option Addr).map (·.add ((t65003 : Int).toNat * 1))) := ⟨_, rfl⟩; obtain ⟨c27, hc27⟩ : ∃ c1, c1 = c0 - (t65003 : Int).toNat := ⟨_, rfl⟩; have hy27 : y65004.length = ((wrap64 (t65003 + t65002)) : Int).toNat - (t65003 : Int).toNat := (by rw [Ny65004.out, List.length_drop, List.length_take] <;> omega); rw [show ((l0).take ((wrap64 (t65003 + t65002)) : Int).toNat).drop (t65003 : Int).toNat = y65004 from Ny65004.out.symm] at hr27; replace hr27 : Kd.F (Kd.int .u8) _ _ A27 y65004.length y65004 := (by rw [hA27]; exact hr27); rw [← hy27, ← hA27, ← hc27] at hcut27; have HO65008 := Aside0.mk (show Kd.V (Kd.int .u8) 5 _ w.heap.size _ (.slice A27 y65004.length c27) y65004 from Kd.V_mk (by rw [hy27, hc27]; exact Nat.sub_le_sub_right (Nat.le_trans (by omega) hroom27) _) hr27); have HC65008 := Aside0.mk (show y65004.length ≤ c27 from by rw [hy27, hc27]; exact Nat.sub_le_sub_right (Nat.le_trans (by omega) hroom27) _); clear hr27 hC27 hroom27 hi027 hsz27 hc27; have KY27 := Aside0.mk hy27; have KA27 := Aside0.mk hA27; clear hy27 hA27; replace q27 := eq_true q27) | ((with_reducible refine gate_dst (N := 14) rfl ?_); (try (refine gate_guard (by rfl) ?_; dsimp only)); refine box_event ?hg (N := 14) ?hd (cs := #[.slice none 0 0, .int .i64 0, .int .i64 0]) (t := 113) ?hr ?_; (case hd => rfl); (case hg => rfl); (case hr => first | (go_simp; done) | (go_simp; rfl)); intro gb65009 hg w28 hbox hb; have n0_ := Aside0.mk (Kd.V_below (Kd.V_elderB (by (with_reducible repeat (first | apply Kd.V_alloc | apply Kd.V_drewN | apply Kd.V_drew)); exact HO_0.out) gb65009 (Nat.le_of_eq hg.symm)) hb); have n1_ := Aside0.mk (Kd.R_below (by (with_reducible repeat (first | apply Kd.R_alloc | apply Kd.R_drewN | apply Kd.R_drew)); exact HO_8.out) hb); have n2_ := Aside0.mk (Kd.N_below (Kd.N_elderB (by (with_reducible repeat (first | apply Kd.N_alloc | apply Kd.N_drewN | apply Kd.N_drew)); exact HO_9.out) gb65009 (Nat.le_of_eq hg.symm)) hb); have n3_ := Aside0.mk (Kd.V_below (Kd.V_elderB (by (with_reducible repeat (first | apply Kd.V_alloc | apply Kd.V_drewN | apply Kd.V_drew)); exact HO65008.out) gb65009 (Nat.le_of_eq hg.symm)) hb); have n4_ := Aside0.mk (below_step (by repeat (first | (with_reducible first | exact HB.out | apply below_alloc | apply pw_below_drewN | apply below_drew1) | exact HB.out)) hb); have n5_ := Aside0.mk (hbox); have n6_ := Aside0.mk ((by rw [hg]; exact (below_size (by repeat (first | (with_reducible first | exact HB.out | apply below_alloc | apply pw_below_drewN | apply below_drew1) | exact HB.out))) : w.heap.size ≤ gb65009)); have n7_ := Aside0.mk ((by rw [hg]; exact (below_size (by repeat (first | (with_reducible first | exact HB.out | apply below_alloc | apply pw_below_drewN | apply below_drew1) | exact HB.out))) : w.heap.size ≤ gb65009)); clear HO_0; clear HO_8; clear HO_9; clear HO65008; clear HB; have HO_0 := n0_; have HO_8 := n1_; have HO_9 := n2_; have HO65008 := n3_; have HB := n4_; have BK65009 := n5_; have GW65009 := n6_; have GE65009 := n7_; clear n0_ n1_ n2_ n3_ n4_ n5_ n6_ n7_; clear hb hbox hg; have hcz29_0 : w28.cell? ⟨gb65009, 0, none⟩ = some (.slice none 0 0) := (blk_cell BK65009.out 0).trans rfl; have hcz29_1 : w28.cell? ⟨gb65009, 1, none⟩ = some (.int .i64 0) := (blk_cell BK65009.out 1).trans rfl; have hcz29_2 : w28.cell? ⟨gb65009, 2, none⟩ = some (.int .i64 0) := (blk_cell BK65009.out 2).trans rfl; have hfz29_0 := blk_frozen BK65009.out 0; have hfz29_1 := blk_frozen BK65009.out 1; have hfz29_2 := blk_frozen BK65009.out 2) | ((with_reducible refine gate_builtin (b := .append) (xs := #[.tmp 63, .tmp 65]) rfl ?_); (try (refine gate_guard (by rfl) ?_; dsimp only)); at_builtin; refine Kd.R_append_rows (Kd.int .u8) (w0 := w) w.heap.size rfl (.tmp 63) (.tmp 65) 22 5 (.int .u8 0) 1 rfl Try.underlying22 info5 rfl (by decide) (by omega) (.slice Ao26 x8_1.length co26) x8_1 y65004 _ _ _ (fun k_ => (w.heap.size ≤ k_)) (fun _ => False) rfl rfl ?aO ?aR (fun _ _ h => h) (fun _ h => h.elim) ?aF ?aB ?aS ?aL ?_; (case aR => refine (Kd.V_reads' (e := 5) (base := w.heap.size) (ok := fun k_ => ((((P0_ k_ ∨ w.heap.size ≤ k_)) ∧ (some k_ ≠ (.slice Ao26 x8_1.length co26 : Value).ownBlock ∧ some k_ ≠ (u9 : Value).ownBlock)) ∧ k_ ≠ gb65009)) (n := y65004.length) (c := c27) ?_).2.2; exact (by (with_reducible repeat (first | apply Kd.V_alloc | apply Kd.V_drewN | apply Kd.V_drew)); exact (Kd.V_mono (Kd.V_far (p := ⟨gb65009, 2, none⟩) (Kd.V_far (p := ⟨gb65009, 1, none⟩) (Kd.V_far (p := ⟨gb65009, 0, none⟩) (Kd.V_mono HO65008.out (fun k_ hk => (⟨hk, hk.2⟩ : _ ∧ k_ ≠ gb65009))) (fun _ hk => hk.2) (.slice A27 y65004.length c27)) (fun _ hk => hk.2) (.int .i64 0)) (fun _ hk => hk.2) (.int .i64 0)) (fun _ h_ => h_.1)))); (case aB => exact (by repeat (first | (with_reducible first | exact HB.out | apply below_alloc | apply pw_below_drewN | apply below_drew1 | refine below_set ?_ GE65009.out) | exact HB.out))); (case aF => exact (fun k_ hk => (Nat.le_trans (below_size (by repeat (first | (with_reducible first | exact HB.out | apply below_alloc | apply pw_below_drewN | apply below_drew1 | refine below_set ?_ GE65009.out) | exact HB.out))) hk))); (case aO => exact (by (with_reducible repeat (first | apply Kd.R_alloc | apply Kd.R_drewN | apply Kd.R_drew)); exact Kd.R_mono (Kd.R_far (p := ⟨gb65009, 2, none⟩) (Kd.R_far (p := ⟨gb65009, 1, none⟩) (Kd.R_far (p := ⟨gb65009, 0, none⟩) (Kd.R_types HO_8.out BK65009.out (by decide)) (fun _ hk => hk.2) (.slice A27 y65004.length c27)) (fun _ hk => hk.2) (.int .i64 0)) (fun _ hk => hk.2) (.int .i64 0)) (fun _ hk => hk.1))); (case aS => exact (below_size (by repeat (first | (with_reducible first | exact HB.out | apply below_alloc | apply pw_below_drewN | apply below_drew1 | refine below_set ?_ GE65009.out) | exact HB.out)))); (case aL => have := LMc15.out; omega); intro v65011 w30 ho hb hg hat; rw [← Ny65010.out] at ho; have n0_ := Aside0.mk (Kd.V_afterv (ok := (fun k_ => (P0_ k_ ∨ w.heap.size ≤ k_) ∧ some k_ ≠ (u9 : Value).ownBlock ∧ k_ ≠ gb65009)) (by (with_reducible repeat (first | apply Kd.V_alloc | apply Kd.V_drewN | apply Kd.V_drew)); exact Kd.V_mono (Kd.V_far (p := ⟨gb65009, 2, none⟩) (Kd.V_far (p := ⟨gb65009, 1, none⟩) (Kd.V_far (p := ⟨gb65009, 0, none⟩) (Kd.V_mono HO_0.out (fun k_ hk => (⟨hk, hk.2⟩ : _ ∧ k_ ≠ gb65009))) (fun _ hk => hk.2) (.slice A27 y65004.length c27)) (fun _ hk => hk.2) (.int .i64 0)) (fun _ hk => hk.2) (.int .i64 0)) (fun _ hk => ⟨⟨hk.1.1.1, ⟨hk.1.1.2.2, hk.1.2⟩⟩, hk.1.1.2.1⟩)) hg hat); have n1_ := Aside0.mk (Kd.N_afterv (ok := (fun k_ => (P0_ k_ ∨ w.heap.size ≤ k_) ∧ k_ ≠ gb65009)) (by (with_reducible repeat (first | apply Kd.N_alloc | apply Kd.N_drewN | apply Kd.N_drew)); exact Kd.N_mono (Kd.N_far (p := ⟨gb65009, 2, none⟩) (Kd.N_far (p := ⟨gb65009, 1, none⟩) (Kd.N_far (p := ⟨gb65009, 0, none⟩) (Kd.N_mono HO_9.out (fun k_ hk => (⟨hk, hk.2⟩ : _ ∧ k_ ≠ gb65009))) (fun _ hk => hk.2) (.slice A27 y65004.length c27)) (fun _ hk => hk.2) (.int .i64 0)) (fun _ hk => hk.2) (.int .i64 0)) (fun _ hk => ⟨⟨hk.1.1.1, hk.1.2⟩, hk.1.1.2⟩)) hg hat); have n2_ := Aside0.mk (Kd.V_afterv (ok := (fun k_ => (P0_ k_ ∨ w.heap.size ≤ k_) ∧ some k_ ≠ (u9 : Value).ownBlock ∧ k_ ≠ gb65009)) (by (with_reducible repeat (first | apply Kd.V_alloc | apply Kd.V_drewN | apply Kd.V_drew)); exact Kd.V_mono (Kd.V_far (p := ⟨gb65009, 2, none⟩) (Kd.V_far (p := ⟨gb65009, 1, none⟩) (Kd.V_far (p := ⟨gb65009, 0, none⟩) (Kd.V_mono HO65008.out (fun k_ hk => (⟨hk, hk.2⟩ : _ ∧ k_ ≠ gb65009))) (fun _ hk => hk.2) (.slice A27 y65004.length c27)) (fun _ hk => hk.2) (.int .i64 0)) (fun _ hk => hk.2) (.int .i64 0)) (fun _ hk => ⟨⟨hk.1.1.1, ⟨hk.1.1.2.2, hk.1.2⟩⟩, hk.1.1.2.1⟩)) hg hat); have n3_ := Aside0.mk (blk_grown (g := gb65009) (o := .cells #[.slice A27 y65004.length c27, .int .i64 0, .int .i64 0] 113 (0, 0)) (by (with_reducible repeat (first | refine blk_drewN ?_ _ | refine blk_drew ?_ | refine blk_alloc ?_ _)); refine blk_put (cs := #[.slice A27 y65004.length c27, .int .i64 0, .int .i64 0]) ?_ 2 _ rfl; (with_reducible repeat (first | refine blk_drewN ?_ _ | refine blk_drew ?_ | refine blk_alloc ?_ _)); refine blk_put (cs := #[.slice A27 y65004.length c27, .int .i64 0, .int .i64 0]) ?_ 1 _ rfl; (with_reducible repeat (first | refine blk_drewN ?_ _ | refine blk_drew ?_ | refine blk_alloc ?_ _)); refine blk_put (cs := #[.slice none 0 0, .int .i64 0, .int .i64 0]) ?_ 0 _ rfl; (with_reducible repeat (first | refine blk_drewN ?_ _ | refine blk_drew ?_ | refine blk_alloc ?_ _)); exact BK65009.out) hg (Kd.R_ne HO_8.out BK65009.out (by decide))); have n4_ := Aside0.mk (hb); have n5_ := Aside0.mk (ho); clear HO_0; clear HO_9; clear HO65008; clear BK65009; clear HB; clear HO_8; have HO_0 := n0_; have HO_9 := n1_; have HO65008 := n2_; have BK65009 := n3_; have HB := n4_; have HO65012 := n5_; clear n0_ n1_ n2_ n3_ n4_ n5_; clear ho hb hg hat))
                              refine bodyPost_ret (results_list (rs := [.tmp 4, .tmp 5, .tmp 6, .tmp 7]) rfl (by simp) (.tmp (.tmp (.tmp (.tmp .nil))))) rfl ?_
                              exact ⟨_, _, by first | rfl | (simp [errW_none, errW_some] <;> rfl) | (simp [*, errW_none, errW_some] <;> rfl), by first | exact Kd.R_nil _ _ _ _ _ | exact Kd.N_nil _ _ _ _ _ | exact Kd.V_nil _ _ _ _ _ | exact Kd.Q_nil _ _ _ _ _ | exact Kd.S_nil _ _ _ _ _, by first | exact Kd.S_nil _ _ _ _ _ | exact Kd.N_nil _ _ _ _ _ | exact Kd.V_nil _ _ _ _ _ | exact Kd.Q_nil _ _ _ _ _ | exact Kd.R_nil _ _ _ _ _, by repeat (first | (with_reducible first | exact HB.out | apply below_alloc | apply pw_below_drewN | apply below_drew1 | refine below_set ?_ GE65009.out) | exact HB.out)⟩
                            · rw [if_neg c25] at H
                              have c25b0 : ((wrap64 ((wrap64 (t65003 + t65002)) + 1)) == (l0.length : Int)) = false := beq_eq_false_iff_ne.mpr c25
                              have c25b1 : ((wrap64 ((wrap64 (t65003 + t65002)) + 1)) != (l0.length : Int)) = true := bne_iff_ne.mpr c25
                              obtain ⟨ji31, hji31⟩ : ∃ j_ : Int, (wrap64 (t65003 + t65002)) = j_ := ⟨_, rfl⟩
                              replace H : (if 0 ≤ (ji31) then (if (ji31) < (l0.length : Int) then (if 0 ≤ (wrap64 ((ji31) + 1)) then (if (wrap64 ((ji31) + 1)) < (l0.length : Int) then (if (wrap64 ((wrap64 (rd l0 (ji31))) + (wrap64 (256 * (wrap64 (rd l0 (wrap64 ((ji31) + 1)))))))) = 0 then (portmanteauref05_Decode.j1 k1 l0 a1 y65010 x9_1 ji31 x10_1 true y65004 (wrap64 ((wrap64 (rd l0 (ji31))) + (wrap64 (256 * (wrap64 (rd l0 (wrap64 ((ji31) + 1)))))))) 0) else (portmanteauref05_Decode.j1 k1 l0 a1 y65010 x9_1 ji31 x10_1 (decide ((wrap64 ((wrap64 (rd l0 (ji31))) + (wrap64 (256 * (wrap64 (rd l0 (wrap64 ((ji31) + 1)))))))) > (y65010.length : Int))) y65004 (wrap64 ((wrap64 (rd l0 (ji31))) + (wrap64 (256 * (wrap64 (rd l0 (wrap64 ((ji31) + 1)))))))) 0)) else (none)) else (none)) else (none)) else (none)) = some (r1, r2, r3, r4) := by first | (rw [hji31] at H; exact H) | (simp only [hji31] at H ⊢; exact H)
                              (try rw [hji31] at c13b0)
                              (try rw [hji31] at c13b1)
                              (try rw [hji31] at c13)
                              (try rw [hji31] at c14b0)
                              (try rw [hji31] at c14b1)
                              (try rw [hji31] at c14)
                              (try rw [hji31] at c16b0)
                              (try rw [hji31] at c16b1)
                              (try rw [hji31] at c25b0)
                              (try rw [hji31] at c25b1)
                              (try rw [hji31] at A6)
                              (try rw [hji31] at Ny65004)
                              (try rw [hji31] at Ny65004)
                              (try rw [hji31] at Ny65004)
                              (try rw [hji31] at Ny65004)
                              have hji31w : (IntKind.i64.wrap (t65003 + t65002)) = ji31 := (i64_w _).trans hji31
                              by_cases c32 : 0 ≤ (ji31)
                              · rw [if_pos c32] at H
                                have c32b0 : decide (0 ≤ (ji31)) = true := decide_eq_true c32
                                clear c32
                                by_cases c33 : (ji31) < (l0.length : Int)
                                · rw [if_pos c33] at H
                                  have c33b0 : decide ((ji31) < (l0.length : Int)) = true := decide_eq_true c33
                                  clear c33
                                  obtain ⟨ji34, hji34⟩ : ∃ j_ : Int, (wrap64 ((ji31) + 1)) = j_ := ⟨_, rfl⟩
                                  replace H : (if 0 ≤ (ji34) then (if (ji34) < (l0.length : Int) then (if (wrap64 ((wrap64 (rd l0 (ji31))) + (wrap64 (256 * (wrap64 (rd l0 (ji34))))))) = 0 then (portmanteauref05_Decode.j1 k1 l0 a1 y65010 x9_1 ji31 x10_1 true y65004 (wrap64 ((wrap64 (rd l0 (ji31))) + (wrap64 (256 * (wrap64 (rd l0 (ji34))))))) 0) else (portmanteauref05_Decode.j1 k1 l0 a1 y65010 x9_1 ji31 x10_1 (decide ((wrap64 ((wrap64 (rd l0 (ji31))) + (wrap64 (256 * (wrap64 (rd l0 (ji34))))))) > (y65010.length : Int))) y65004 (wrap64 ((wrap64 (rd l0 (ji31))) + (wrap64 (256 * (wrap64 (rd l0 (ji34))))))) 0)) else (none)) else (none)) = some (r1, r2, r3, r4) := by first | (rw [hji34] at H; exact H) | (simp only [hji34] at H ⊢; exact H)
                                  (try rw [hji34] at A6)
                                  have hji34w : (IntKind.i64.wrap ((ji31) + 1)) = ji34 := (i64_w _).trans hji34
                                  by_cases c35 : 0 ≤ (ji34)
                                  · rw [if_pos c35] at H
                                    have c35b0 : decide (0 ≤ (ji34)) = true := decide_eq_true c35
                                    clear c35
                                    by_cases c36 : (ji34) < (l0.length : Int)
                                    · rw [if_pos c36] at H
                                      have c36b0 : decide ((ji34) < (l0.length : Int)) = true := decide_eq_true c36
                                      clear c36
                                      have HC37 := Aside0.mk H
                                      clear H
                                      have p65001 : 0 ≤ (x10_1 : Int) := of_decide_eq_true (by first | (with_reducible assumption) | assumption)
                                      have q65001 : x10_1 < (l0.length : Int) := of_decide_eq_true (by first | (with_reducible assumption) | assumption)
                                      obtain ⟨ad65001, e65001, hx65001_0⟩ := Kd.at_int (Kd.V_reads' HO_0.out).2.2 x10_1 p65001 q65001
                                      cases e65001
                                      replace p65001 := eq_true p65001
                                      replace q65001 := eq_true q65001
                                      try go_wp2_with (first | ((with_reducible refine gate_callee (f := 89) rfl ?_); refine goesL_ (some 34) rfl rfl Try.func89 (by kernel_rfl) rfl #[.slice (some ad65001) l0.length c0, .int .i64 ((Int.tdiv (rd l0 x10_1) 16) % 256), .int .i64 (wrap64 (x10_1 + 1))] rfl (by (try simp only [List.map_toArray, List.map_cons, List.map_nil]); first | done | rfl | (simp only [List.length_drop, List.length_take]; rfl)) ?_; (with_reducible refine (portmanteauref05_length.calls k1 _ _ l0 ((Int.tdiv (rd l0 x10_1) 16) % 256) (wrap64 (x10_1 + 1)) t65002 t65003 _ ?side1 ?side2 A6.out).mono ?_); (case side1 => repeat (first | exact (Kd.V_reads' HO_0.out).2.2 | (with_reducible refine Kd.C_alloc ?_ _) | (with_reducible refine Kd.C_drewN ?_ _) | (with_reducible refine Kd.C_drew ?_))); (case side2 => exact (Kd.V_reads' HO_0.out).2.1); rintro e w' ⟨rfl, ⟨nd, rfl⟩⟩; refine ⟨_, rfl, ?_⟩; (try (rw [drewN_self wr]; generalize hq_ : World.drewN wr _ = wr; have n0_ : Aside0 (Kd.V (Kd.int .u8) 5 wr w.heap.size (fun k_ => (P0_ k_ ∨ w.heap.size ≤ k_) ∧ some k_ ≠ (u8 : Value).ownBlock ∧ some k_ ≠ (u9 : Value).ownBlock) (.slice (some ad65001) l0.length c0) l0) := ⟨by rw [← hq_]; exact (by (with_reducible repeat (first | apply Kd.V_alloc | apply Kd.V_drewN | apply Kd.V_drew)); exact HO_0.out)⟩; have n1_ : Aside0 (Kd.R (Kd.int .u8) 5 wr w.heap.size (fun k_ => (w.heap.size ≤ k_)) u8 x8_1) := ⟨by rw [← hq_]; exact (by (with_reducible repeat (first | apply Kd.R_alloc | apply Kd.R_drewN | apply Kd.R_drew)); exact HO_8.out)⟩; have n2_ : Aside0 (Kd.N k113 113 wr w.heap.size (fun k_ => (P0_ k_ ∨ w.heap.size ≤ k_) ∧ some k_ ≠ (u8 : Value).ownBlock) u9 x9_1) := ⟨by rw [← hq_]; exact (by (with_reducible repeat (first | apply Kd.N_alloc | apply Kd.N_drewN | apply Kd.N_drew)); exact HO_9.out)⟩; have n3_ : Aside0 (Below w.heap.size w wr) := ⟨by rw [← hq_]; exact (by repeat (first | (with_reducible first | exact HB.out | apply below_alloc | apply pw_below_drewN | apply below_drew1) | exact HB.out))⟩; clear HO_0 HO_8 HO_9 HB hq_; have HO_0 := n0_; have HO_8 := n1_; have HO_9 := n2_; have HB := n3_; clear n0_ n1_ n2_ n3_)); obtain ⟨Ao38, co38, eo38⟩ := Kd.R_slice HO_8.out; subst eo38; have q39 : ((ji31) : Int) ≤ ((l0.length : Int) : Int) := of_decide_eq_true (by first | (with_reducible assumption) | assumption); obtain ⟨i039, hi039, _, hsz39, _⟩ := info_parts info5; have hroom39 : l0.length ≤ c0 := (Kd.V_reads' HO_0.out).2.1; have hC39 : Kd.F (Kd.int .u8) _ _ (some ad65001) l0.length l0 := (Kd.V_at (base := w.heap.size) HO_0.out).2.2; have ql39 : (t65003 : Int) ≤ ((ji31) : Int) := of_decide_eq_true (by first | (with_reducible assumption) | assumption); have q039 : (0 : Int) ≤ (t65003 : Int) := of_decide_eq_true (by first | (with_reducible assumption) | assumption); have hcut39 := cut_mid (P := Try.prog) 22 5 .i64 .i64 Try.underlying22 hi039 1 hsz39 (some ad65001) l0.length c0 t65003 (ji31) q039 ql39 q39 hroom39; have hr39 := Kd.F_mid (lo := (t65003 : Int).toNat) (hi := ((ji31) : Int).toNat) (c := c0) hC39 (by omega) (by omega) hroom39; obtain ⟨A39, hA39⟩ : ∃ A1, A1 = (if c0 = (t65003 : Int).toNat then (some ad65001) else ((some ad65001) : Option Addr).map (·.add ((t65003 : Int).toNat * 1))) := ⟨_, rfl⟩; obtain ⟨c39, hc39⟩ : ∃ c1, c1 = c0 - (t65003 : Int).toNat := ⟨_, rfl⟩; have hy39 : y65004.length = ((ji31) : Int).toNat - (t65003 : Int).toNat := (by rw [Ny65004.out, List.length_drop, List.length_take] <;> omega); rw [show ((l0).take ((ji31) : Int).toNat).drop (t65003 : Int).toNat = y65004 from Ny65004.out.symm] at hr39; replace hr39 : Kd.F (Kd.int .u8) _ _ A39 y65004.length y65004 := (by rw [hA39]; exact hr39); rw [← hy39, ← hA39, ← hc39] at hcut39; have HO65008 := Aside0.mk (show Kd.V (Kd.int .u8) 5 _ w.heap.size _ (.slice A39 y65004.length c39) y65004 from Kd.V_mk (by rw [hy39, hc39]; exact Nat.sub_le_sub_right (Nat.le_trans (by omega) hroom39) _) hr39); have HC65008 := Aside0.mk (show y65004.length ≤ c39 from by rw [hy39, hc39]; exact Nat.sub_le_sub_right (Nat.le_trans (by omega) hroom39) _); clear hr39 hC39 hroom39 hi039 hsz39 hc39; have KY39 := Aside0.mk hy39; have KA39 := Aside0.mk hA39; clear hy39 hA39; replace q39 := eq_true q39) | ((with_reducible refine gate_dst (N := 14) rfl ?_); (try (refine gate_guard (by rfl) ?_; dsimp only)); refine box_event ?hg (N := 14) ?hd (cs := #[.slice none 0 0, .int .i64 0, .int .i64 0]) (t := 113) ?hr ?_; (case hd => rfl); (case hg => rfl); (case hr => first | (go_simp; done) | (go_simp; rfl)); intro gb65009 hg w40 hbox hb; have n0_ := Aside0.mk (Kd.V_below (Kd.V_elderB (by (with_reducible repeat (first | apply Kd.V_alloc | apply Kd.V_drewN | apply Kd.V_drew)); exact HO_0.out) gb65009 (Nat.le_of_eq hg.symm)) hb); have n1_ := Aside0.mk (Kd.R_below (by (with_reducible repeat (first | apply Kd.R_alloc | apply Kd.R_drewN | apply Kd.R_drew)); exact HO_8.out) hb); have n2_ := Aside0.mk (Kd.N_below (Kd.N_elderB (by (with_reducible repeat (first | apply Kd.N_alloc | apply Kd.N_drewN | apply Kd.N_drew)); exact HO_9.out) gb65009 (Nat.le_of_eq hg.symm)) hb); have n3_ := Aside0.mk (Kd.V_below (Kd.V_elderB (by (with_reducible repeat (first | apply Kd.V_alloc | apply Kd.V_drewN | apply Kd.V_drew)); exact HO65008.out) gb65009 (Nat.le_of_eq hg.symm)) hb); have n4_ := Aside0.mk (below_step (by repeat (first | (with_reducible first | exact HB.out | apply below_alloc | apply pw_below_drewN | apply below_drew1) | exact HB.out)) hb); have n5_ := Aside0.mk (hbox); have n6_ := Aside0.mk ((by rw [hg]; exact (below_size (by repeat (first | (with_reducible first | exact HB.out | apply below_alloc | apply pw_below_drewN | apply below_drew1) | exact HB.out))) : w.heap.size ≤ gb65009)); have n7_ := Aside0.mk ((by rw [hg]; exact (below_size (by repeat (first | (with_reducible first | exact HB.out | apply below_alloc | apply pw_below_drewN | apply below_drew1) | exact HB.out))) : w.heap.size ≤ gb65009)); clear HO_0; clear HO_8; clear HO_9; clear HO65008; clear HB; have HO_0 := n0_; have HO_8 := n1_; have HO_9 := n2_; have HO65008 := n3_; have HB := n4_; have BK65009 := n5_; have GW65009 := n6_; have GE65009 := n7_; clear n0_ n1_ n2_ n3_ n4_ n5_ n6_ n7_; clear hb hbox hg; have hcz41_0 : w40.cell? ⟨gb65009, 0, none⟩ = some (.slice none 0 0) := (blk_cell BK65009.out 0).trans rfl; have hcz41_1 : w40.cell? ⟨gb65009, 1, none⟩ = some (.int .i64 0) := (blk_cell BK65009.out 1).trans rfl; have hcz41_2 : w40.cell? ⟨gb65009, 2, none⟩ = some (.int .i64 0) := (blk_cell BK65009.out 2).trans rfl; have hfz41_0 := blk_frozen BK65009.out 0; have hfz41_1 := blk_frozen BK65009.out 1; have hfz41_2 := blk_frozen BK65009.out 2) | ((with_reducible refine gate_builtin (b := .append) (xs := #[.tmp 63, .tmp 65]) rfl ?_); (try (refine gate_guard (by rfl) ?_; dsimp only)); at_builtin; refine Kd.R_append_rows (Kd.int .u8) (w0 := w) w.heap.size rfl (.tmp 63) (.tmp 65) 22 5 (.int .u8 0) 1 rfl Try.underlying22 info5 rfl (by decide) (by omega) (.slice Ao38 x8_1.length co38) x8_1 y65004 _ _ _ (fun k_ => (w.heap.size ≤ k_)) (fun _ => False) rfl rfl ?aO ?aR (fun _ _ h => h) (fun _ h => h.elim) ?aF ?aB ?aS ?aL ?_; (case aR => refine (Kd.V_reads' (e := 5) (base := w.heap.size) (ok := fun k_ => ((((P0_ k_ ∨ w.heap.size ≤ k_)) ∧ (some k_ ≠ (.slice Ao38 x8_1.length co38 : Value).ownBlock ∧ some k_ ≠ (u9 : Value).ownBlock)) ∧ k_ ≠ gb65009)) (n := y65004.length) (c := c39) ?_).2.2; exact (by (with_reducible repeat (first | apply Kd.V_alloc | apply Kd.V_drewN | apply Kd.V_drew)); exact (Kd.V_mono (Kd.V_far (p := ⟨gb65009, 2, none⟩) (Kd.V_far (p := ⟨gb65009, 1, none⟩) (Kd.V_far (p := ⟨gb65009, 0, none⟩) (Kd.V_mono HO65008.out (fun k_ hk => (⟨hk, hk.2⟩ : _ ∧ k_ ≠ gb65009))) (fun _ hk => hk.2) (.slice A39 y65004.length c39)) (fun _ hk => hk.2) (.int .i64 0)) (fun _ hk => hk.2) (.int .i64 0)) (fun _ h_ => h_.1)))); (case aB => exact (by repeat (first | (with_reducible first | exact HB.out | apply below_alloc | apply pw_below_drewN | apply below_drew1 | refine below_set ?_ GE65009.out) | exact HB.out))); (case aF => exact (fun k_ hk => (Nat.le_trans (below_size (by repeat (first | (with_reducible first | exact HB.out | apply below_alloc | apply pw_below_drewN | apply below_drew1 | refine below_set ?_ GE65009.out) | exact HB.out))) hk))); (case aO => exact (by (with_reducible repeat (first | apply Kd.R_alloc | apply Kd.R_drewN | apply Kd.R_drew)); exact Kd.R_mono (Kd.R_far (p := ⟨gb65009, 2, none⟩) (Kd.R_far (p := ⟨gb65009, 1, none⟩) (Kd.R_far (p := ⟨gb65009, 0, none⟩) (Kd.R_types HO_8.out BK65009.out (by decide)) (fun _ hk => hk.2) (.slice A39 y65004.length c39)) (fun _ hk => hk.2) (.int .i64 0)) (fun _ hk => hk.2) (.int .i64 0)) (fun _ hk => hk.1))); (case aS => exact (below_size (by repeat (first | (with_reducible first | exact HB.out | apply below_alloc | apply pw_below_drewN | apply below_drew1 | refine below_set ?_ GE65009.out) | exact HB.out)))); (case aL => have := LMc15.out; omega); intro v65011 w42 ho hb hg hat; rw [← Ny65010.out] at ho; have n0_ := Aside0.mk (Kd.V_afterv (ok := (fun k_ => (P0_ k_ ∨ w.heap.size ≤ k_) ∧ some k_ ≠ (u9 : Value).ownBlock ∧ k_ ≠ gb65009)) (by (with_reducible repeat (first | apply Kd.V_alloc | apply Kd.V_drewN | apply Kd.V_drew)); exact Kd.V_mono (Kd.V_far (p := ⟨gb65009, 2, none⟩) (Kd.V_far (p := ⟨gb65009, 1, none⟩) (Kd.V_far (p := ⟨gb65009, 0, none⟩) (Kd.V_mono HO_0.out (fun k_ hk => (⟨hk, hk.2⟩ : _ ∧ k_ ≠ gb65009))) (fun _ hk => hk.2) (.slice A39 y65004.length c39)) (fun _ hk => hk.2) (.int .i64 0)) (fun _ hk => hk.2) (.int .i64 0)) (fun _ hk => ⟨⟨hk.1.1.1, ⟨hk.1.1.2.2, hk.1.2⟩⟩, hk.1.1.2.1⟩)) hg hat); have n1_ := Aside0.mk (Kd.N_afterv (ok := (fun k_ => (P0_ k_ ∨ w.heap.size ≤ k_) ∧ k_ ≠ gb65009)) (by (with_reducible repeat (first | apply Kd.N_alloc | apply Kd.N_drewN | apply Kd.N_drew)); exact Kd.N_mono (Kd.N_far (p := ⟨gb65009, 2, none⟩) (Kd.N_far (p := ⟨gb65009, 1, none⟩) (Kd.N_far (p := ⟨gb65009, 0, none⟩) (Kd.N_mono HO_9.out (fun k_ hk => (⟨hk, hk.2⟩ : _ ∧ k_ ≠ gb65009))) (fun _ hk => hk.2) (.slice A39 y65004.length c39)) (fun _ hk => hk.2) (.int .i64 0)) (fun _ hk => hk.2) (.int .i64 0)) (fun _ hk => ⟨⟨hk.1.1.1, hk.1.2⟩, hk.1.1.2⟩)) hg hat); have n2_ := Aside0.mk (Kd.V_afterv (ok := (fun k_ => (P0_ k_ ∨ w.heap.size ≤ k_) ∧ some k_ ≠ (u9 : Value).ownBlock ∧ k_ ≠ gb65009)) (by (with_reducible repeat (first | apply Kd.V_alloc | apply Kd.V_drewN | apply Kd.V_drew)); exact Kd.V_mono (Kd.V_far (p := ⟨gb65009, 2, none⟩) (Kd.V_far (p := ⟨gb65009, 1, none⟩) (Kd.V_far (p := ⟨gb65009, 0, none⟩) (Kd.V_mono HO65008.out (fun k_ hk => (⟨hk, hk.2⟩ : _ ∧ k_ ≠ gb65009))) (fun _ hk => hk.2) (.slice A39 y65004.length c39)) (fun _ hk => hk.2) (.int .i64 0)) (fun _ hk => hk.2) (.int .i64 0)) (fun _ hk => ⟨⟨hk.1.1.1, ⟨hk.1.1.2.2, hk.1.2⟩⟩, hk.1.1.2.1⟩)) hg hat); have n3_ := Aside0.mk (blk_grown (g := gb65009) (o := .cells #[.slice A39 y65004.length c39, .int .i64 0, .int .i64 0] 113 (0, 0)) (by (with_reducible repeat (first | refine blk_drewN ?_ _ | refine blk_drew ?_ | refine blk_alloc ?_ _)); refine blk_put (cs := #[.slice A39 y65004.length c39, .int .i64 0, .int .i64 0]) ?_ 2 _ rfl; (with_reducible repeat (first | refine blk_drewN ?_ _ | refine blk_drew ?_ | refine blk_alloc ?_ _)); refine blk_put (cs := #[.slice A39 y65004.length c39, .int .i64 0, .int .i64 0]) ?_ 1 _ rfl; (with_reducible repeat (first | refine blk_drewN ?_ _ | refine blk_drew ?_ | refine blk_alloc ?_ _)); refine blk_put (cs := #[.slice none 0 0, .int .i64 0, .int .i64 0]) ?_ 0 _ rfl; (with_reducible repeat (first | refine blk_drewN ?_ _ | refine blk_drew ?_ | refine blk_alloc ?_ _)); exact BK65009.out) hg (Kd.R_ne HO_8.out BK65009.out (by decide))); have n4_ := Aside0.mk (hb); have n5_ := Aside0.mk (ho); clear HO_0; clear HO_9; clear HO65008; clear BK65009; clear HB; clear HO_8; have HO_0 := n0_; have HO_9 := n1_; have HO65008 := n2_; have BK65009 := n3_; have HB := n4_; have HO65012 := n5_; clear n0_ n1_ n2_ n3_ n4_ n5_; clear ho hb hg hat))
                                      have n0_ := Aside0.mk (Kd.V_drew HO_0.out)
                                      have n1_ := Aside0.mk (Kd.N_drew HO_9.out)
                                      have n2_ := Aside0.mk (Kd.V_drew HO65008.out)
                                      have n3_ := Aside0.mk (Kd.R_drew HO65012.out)
                                      have n4_ := Aside0.mk (blk_drew BK65009.out)
                                      have n5_ := Aside0.mk (below_drew1 HB.out)
                                      clear HO_0
                                      clear HO_9
                                      clear HO65008
                                      clear HO65012
                                      clear BK65009
                                      clear HB
                                      have HO_0 := n0_
                                      have HO_9 := n1_
                                      have HO65008 := n2_
                                      have HO65012 := n3_
                                      have BK65009 := n4_
                                      have HB := n5_
                                      clear n0_ n1_ n2_ n3_ n4_ n5_
                                      have p65016 : 0 ≤ ((ji31) : Int) := of_decide_eq_true (by first | (with_reducible assumption) | assumption)
                                      have q65016 : (ji31) < (l0.length : Int) := of_decide_eq_true (by first | (with_reducible assumption) | assumption)
                                      obtain ⟨ad65016, e65016, hx65016_0⟩ := Kd.at_int (Kd.V_reads' HO_0.out).2.2 (ji31) p65016 q65016
                                      obtain rfl : ad65001 = ad65016 := (by injection e65016)
                                      replace p65016 := eq_true p65016
                                      replace q65016 := eq_true q65016
                                      have p65017 : 0 ≤ ((ji34) : Int) := of_decide_eq_true (by first | (with_reducible assumption) | assumption)
                                      have q65017 : (ji34) < (l0.length : Int) := of_decide_eq_true (by first | (with_reducible assumption) | assumption)
                                      obtain ⟨ad65017, e65017, hx65017_0⟩ := Kd.at_int (Kd.V_reads' HO_0.out).2.2 (ji34) p65017 q65017
                                      obtain rfl : ad65001 = ad65017 := (by injection e65017)
                                      replace p65017 := eq_true p65017
                                      replace q65017 := eq_true q65017
                                      refine start_ (n := 15) (S := fun w' => w'.cell? (ad65001.add ((ji31)).toNat) = some (.int .u8 (rd l0 (ji31))) ∧ w'.cell? (ad65001.add ((ji34)).toNat) = some (.int .u8 (rd l0 (ji34)))) (ds := []) #[false, false, false, false, false, false, false, false, false, false, false, false, false, false, false] (by kernel_rfl) rfl rfl ⟨hx65016_0, hx65017_0⟩ (fun hHeld => ?_); refine with_tabW portmanteauref05_Decode.tab21 portmanteauref05_Decode.bits21 (fun HT_ HW_ => ?_)
                                      generalize w42.drew = w43 at HO_0 HO_9 HO65008 HO65012 BK65009 HB hx65016_0 hx65017_0 hHeld ⊢
                                      refine pure_ (i := 0) (N := some 88) (v := ?_) (a' := ?_) #[true, false, false, false, false, false, false, false, false, false, false, false, false, false, false] rfl rfl (any_of HT_.out (by kernel_rfl)) (fun _ _ _ h => h) (Or.inl ⟨by rfl, ?_⟩) ?_ ?_
                                      rotate_left
                                      · intro w'
                                        go_simp
                                        with_reducible rfl
                                      rotate_left
                                      · simp only [Act.put, List.setIfInBounds_toArray, List.set_cons_zero, List.set_cons_succ, i64_w, i32_w]
                                        rfl
                                      refine pure_ (i := 1) (N := some 89) (v := ?_) (a' := ?_) #[true, true, false, false, false, false, false, false, false, false, false, false, false, false, false] rfl rfl (any_of HT_.out (by kernel_rfl)) (fun _ _ _ h => h) (Or.inl ⟨by rfl, ?_⟩) ?_ ?_
                                      rotate_left
                                      · intro w'
                                        go_simp
                                        with_reducible rfl
                                      rotate_left
                                      · simp only [Act.put, List.setIfInBounds_toArray, List.set_cons_zero, List.set_cons_succ, i64_w, i32_w]
                                        rfl
                                      refine pure_ (i := 2) (N := some 90) (v := ?_) (a' := ?_) #[true, true, true, false, false, false, false, false, false, false, false, false, false, false, false] rfl rfl (any_of HT_.out (by kernel_rfl)) (fun _ _ _ h => h) (Or.inl ⟨by rfl, ?_⟩) ?_ ?_
                                      rotate_left
                                      · intro w'
                                        go_simp
                                        with_reducible rfl
                                      rotate_left
                                      · simp only [Act.put, List.setIfInBounds_toArray, List.set_cons_zero, List.set_cons_succ, i64_w, i32_w]
                                        rfl
                                      refine pure_ (i := 5) (N := some 93) (v := ?_) (a' := ?_) #[true, true, true, false, false, true, false, false, false, false, false, false, false, false, false] rfl rfl (any_of HT_.out (by kernel_rfl)) (fun _ _ _ h => h) (Or.inl ⟨by rfl, ?_⟩) ?_ ?_
                                      rotate_left
                                      · intro w'
                                        go_simp
                                        with_reducible rfl
                                      rotate_left
                                      · simp only [Act.put, List.setIfInBounds_toArray, List.set_cons_zero, List.set_cons_succ, i64_w, i32_w]
                                        rfl
                                      refine pure_ (i := 6) (N := some 94) (v := ?_) (a' := ?_) #[true, true, true, false, false, true, true, false, false, false, false, false, false, false, false] rfl rfl (any_of HT_.out (by kernel_rfl)) (fun _ _ _ h => h) (Or.inl ⟨by rfl, ?_⟩) ?_ ?_
                                      rotate_left
                                      · intro w'
                                        go_simp
                                        with_reducible rfl
                                      rotate_left
                                      · simp only [Act.put, List.setIfInBounds_toArray, List.set_cons_zero, List.set_cons_succ, i64_w, i32_w]
                                        rfl
                                      refine pure_ (i := 7) (N := some 95) (v := ?_) (a' := ?_) #[true, true, true, false, false, true, true, true, false, false, false, false, false, false, false] rfl rfl (any_of HT_.out (by kernel_rfl)) (fun _ _ _ h => h) (Or.inl ⟨by rfl, ?_⟩) ?_ ?_
                                      rotate_left
                                      · intro w'
                                        go_simp
                                        with_reducible rfl
                                      rotate_left
                                      · simp only [Act.put, List.setIfInBounds_toArray, List.set_cons_zero, List.set_cons_succ, i64_w, i32_w]
                                        rfl
                                      refine pure_ (i := 8) (N := some 96) (v := ?_) (a' := ?_) #[true, true, true, false, false, true, true, true, true, false, false, false, false, false, false] rfl rfl (any_of HT_.out (by kernel_rfl)) (fun _ _ _ h => h) (Or.inl ⟨by rfl, ?_⟩) ?_ ?_
                                      rotate_left
                                      · intro w'
                                        go_simp
                                        with_reducible rfl
                                      rotate_left
                                      · simp only [Act.put, List.setIfInBounds_toArray, List.set_cons_zero, List.set_cons_succ, i64_w, i32_w]
                                        rfl
                                      refine take_ (i := 3) (N := some 91) (v := ?_) (a' := ?_) #[true, true, true, true, false, true, true, true, true, false, false, false, false, false, false] rfl rfl (take_ofW HT_.out HW_.out (by kernel_rfl)) (fun _ _ _ h => h) (Or.inl ⟨by rfl, ?_⟩) hHeld ?_ ?_
                                      rotate_left
                                      · rintro w' ⟨s0, s1⟩
                                        go_simp
                                        with_reducible rfl
                                      rotate_left
                                      · simp only [Act.put, List.setIfInBounds_toArray, List.set_cons_zero, List.set_cons_succ, i64_w, i32_w]
                                        rfl
                                      refine pure_ (i := 4) (N := some 92) (v := ?_) (a' := ?_) #[true, true, true, true, true, true, true, true, true, false, false, false, false, false, false] rfl rfl (any_of HT_.out (by kernel_rfl)) (fun _ _ _ h => h) (Or.inl ⟨by rfl, ?_⟩) ?_ ?_
                                      rotate_left
                                      · intro w'
                                        go_simp
                                        with_reducible rfl
                                      rotate_left
                                      · simp only [Act.put, List.setIfInBounds_toArray, List.set_cons_zero, List.set_cons_succ, i64_w, i32_w]
                                        rfl
                                      refine take_ (i := 9) (N := some 97) (v := ?_) (a' := ?_) #[true, true, true, true, true, true, true, true, true, true, false, false, false, false, false] rfl rfl (take_ofW HT_.out HW_.out (by kernel_rfl)) (fun _ _ _ h => h) (Or.inl ⟨by rfl, ?_⟩) hHeld ?_ ?_
                                      rotate_left
                                      · rintro w' ⟨s0, s1⟩
                                        go_simp
                                        with_reducible rfl
                                      rotate_left
                                      · simp only [Act.put, List.setIfInBounds_toArray, List.set_cons_zero, List.set_cons_succ, i64_w, i32_w]
                                        rfl
                                      refine pure_ (i := 10) (N := some 98) (v := ?_) (a' := ?_) #[true, true, true, true, true, true, true, true, true, true, true, false, false, false, false] rfl rfl (any_of HT_.out (by kernel_rfl)) (fun _ _ _ h => h) (Or.inl ⟨by rfl, ?_⟩) ?_ ?_
                                      rotate_left
                                      · intro w'
                                        go_simp
                                        with_reducible rfl
                                      rotate_left
                                      · simp only [Act.put, List.setIfInBounds_toArray, List.set_cons_zero, List.set_cons_succ, i64_w, i32_w]
                                        rfl
                                      refine pure_ (i := 11) (N := some 99) (v := ?_) (a' := ?_) #[true, true, true, true, true, true, true, true, true, true, true, true, false, false, false] rfl rfl (any_of HT_.out (by kernel_rfl)) (fun _ _ _ h => h) (Or.inl ⟨by rfl, ?_⟩) ?_ ?_
                                      rotate_left
                                      · intro w'
                                        go_simp
                                        with_reducible rfl
                                      rotate_left
                                      · simp only [Act.put, List.setIfInBounds_toArray, List.set_cons_zero, List.set_cons_succ, i64_w, i32_w]
                                        rfl
                                      refine pure_ (i := 12) (N := some 100) (v := ?_) (a' := ?_) #[true, true, true, true, true, true, true, true, true, true, true, true, true, false, false] rfl rfl (any_of HT_.out (by kernel_rfl)) (fun _ _ _ h => h) (Or.inl ⟨by rfl, ?_⟩) ?_ ?_
                                      rotate_left
                                      · intro w'
                                        go_simp
                                        with_reducible rfl
                                      rotate_left
                                      · simp only [Act.put, List.setIfInBounds_toArray, List.set_cons_zero, List.set_cons_succ, i64_w, i32_w]
                                        rfl
                                      refine pure_ (i := 13) (N := some 101) (v := ?_) (a' := ?_) #[true, true, true, true, true, true, true, true, true, true, true, true, true, true, false] rfl rfl (any_of HT_.out (by kernel_rfl)) (fun _ _ _ h => h) (Or.inl ⟨by rfl, ?_⟩) ?_ ?_
                                      rotate_left
                                      · intro w'
                                        go_simp
                                        with_reducible rfl
                                      rotate_left
                                      · simp only [Act.put, List.setIfInBounds_toArray, List.set_cons_zero, List.set_cons_succ, i64_w, i32_w]
                                        rfl
                                      refine one_ (i := 14) (N := none) #[true, true, true, true, true, true, true, true, true, true, true, true, true, true, true] rfl rfl (one_of HT_.out (by kernel_rfl)) (by decide) (fun K hK => ?_)
                                      have hs44 : w43.cell? ⟨gb65009, 1, none⟩ = some (.int .i64 0) := (blk_cell BK65009.out 1).trans rfl
                                      have hfs44 := blk_frozen BK65009.out 1
                                      refine skip_ (w1 := ?_) (by rfl) rfl ?_ ?_
                                      rotate_left
                                      · go_simp
                                        rfl
                                      refine hK.out _ _ ⟨((cell_far (p := ⟨gb65009, _, none⟩) (by first | exact V_block_ne HO_0.out (fun _ hk => hk.1.2.2) (by have h1_ := of_eq_true p65016; have h2_ := of_eq_true q65016; omega) | (rw [add_block]; exact V_block_ne HO_0.out (fun _ hk => hk.1.2.2) (by have h1_ := of_eq_true p65016; have h2_ := of_eq_true q65016; omega)) | (show (Addr.add _ _).block ≠ _; rw [add_block]; exact V_block_ne HO_0.out (fun _ hk => hk.1.2.2) (by have h1_ := of_eq_true p65016; have h2_ := of_eq_true q65016; omega)) | (dsimp only; exact V_block_ne HO_0.out (fun _ hk => hk.1.2.2) (by have h1_ := of_eq_true p65016; have h2_ := of_eq_true q65016; omega))) _).trans (hHeld.1)), ((cell_far (p := ⟨gb65009, _, none⟩) (by first | exact V_block_ne HO_0.out (fun _ hk => hk.1.2.2) (by have h1_ := of_eq_true p65016; have h2_ := of_eq_true q65016; omega) | (rw [add_block]; exact V_block_ne HO_0.out (fun _ hk => hk.1.2.2) (by have h1_ := of_eq_true p65016; have h2_ := of_eq_true q65016; omega)) | (show (Addr.add _ _).block ≠ _; rw [add_block]; exact V_block_ne HO_0.out (fun _ hk => hk.1.2.2) (by have h1_ := of_eq_true p65016; have h2_ := of_eq_true q65016; omega)) | (dsimp only; exact V_block_ne HO_0.out (fun _ hk => hk.1.2.2) (by have h1_ := of_eq_true p65016; have h2_ := of_eq_true q65016; omega))) _).trans (hHeld.2))⟩ (fun hHeld => ?_)
                                      clear hK K
                                      refine done_ (done_of HT_.out (by kernel_rfl)) ?_
                                      go_upto_region 22 with (fail)
                                      go_cut [111] (fun v111 wc => ∃ (kq : Nat) (x111_36 : Bool), v111 = .bool x111_36 ∧ Aside0 (portmanteauref05_Decode.j1 kq l0 a1 y65010 x9_1 ji31 x10_1 x111_36 y65004 (wrap64 ((wrap64 (rd l0 (ji31))) + (wrap64 (256 * (wrap64 (rd l0 (ji34))))))) 0 = some (r1, r2, r3, r4)) ∧ Aside0 (kq ≤ k1) ∧ Aside0 (Kd.V (Kd.int .u8) 5 wc w.heap.size (fun k_ => (P0_ k_ ∨ w.heap.size ≤ k_) ∧ some k_ ≠ (v65011 : Value).ownBlock ∧ some k_ ≠ (u9 : Value).ownBlock ∧ k_ ≠ gb65009) (.slice (some ad65001) l0.length c0) l0) ∧ Aside0 (Kd.R (Kd.int .u8) 5 wc w.heap.size (fun k_ => (w.heap.size ≤ k_)) v65011 y65010) ∧ Aside0 (Kd.N k113 113 wc w.heap.size (fun k_ => (P0_ k_ ∨ w.heap.size ≤ k_) ∧ some k_ ≠ (v65011 : Value).ownBlock ∧ k_ ≠ gb65009) u9 x9_1) ∧ Aside0 (Kd.V (Kd.int .u8) 5 wc w.heap.size (fun k_ => (P0_ k_ ∨ w.heap.size ≤ k_) ∧ some k_ ≠ (v65011 : Value).ownBlock ∧ some k_ ≠ (u9 : Value).ownBlock ∧ k_ ≠ gb65009) (.slice A39 y65004.length c39) y65004) ∧ Aside0 (wc.heap[gb65009]? = some (.cells #[(.slice A39 y65004.length c39), .int .i64 (wrap64 ((wrap64 (rd l0 (ji31))) + (wrap64 (256 * (wrap64 (rd l0 (ji34))))))), .int .i64 0] 113 (0, 0))) ∧ Aside0 (Below w.heap.size w wc))
                                      case first =>
                                        have H := HC37.out
                                        clear HC37
                                        by_cases c45 : (wrap64 ((wrap64 (rd l0 (ji31))) + (wrap64 (256 * (wrap64 (rd l0 (ji34))))))) = 0
                                        · rw [if_pos c45] at H
                                          have c45b0 : ((wrap64 ((wrap64 (rd l0 (ji31))) + (wrap64 (256 * (wrap64 (rd l0 (ji34))))))) == 0) = true := beq_iff_eq.mpr c45
                                          have c45b1 : ((wrap64 ((wrap64 (rd l0 (ji31))) + (wrap64 (256 * (wrap64 (rd l0 (ji34))))))) != 0) = false := bne_eq_false_iff_eq.mpr c45
                                          clear c45
                                          (first | rw [c45b0] | (simp only [i64_w, i32_w]; rw [c45b0]) | skip)
                                          have H' := Aside0.mk H
                                          clear H
                                          have hcz46_0 : w43.cell? ⟨gb65009, 0, none⟩ = some (.slice A39 y65004.length c39) := (blk_cell BK65009.out 0).trans rfl
                                          have hcz46_1 : w43.cell? ⟨gb65009, 1, none⟩ = some (.int .i64 0) := (blk_cell BK65009.out 1).trans rfl
                                          have hcz46_2 : w43.cell? ⟨gb65009, 2, none⟩ = some (.int .i64 0) := (blk_cell BK65009.out 2).trans rfl
                                          have hfz46_0 := blk_frozen BK65009.out 0
                                          have hfz46_1 := blk_frozen BK65009.out 1
                                          have hfz46_2 := blk_frozen BK65009.out 2
                                          go_wp2
                                          go_meet
                                          case rel => exact ⟨_, (true), (by first | rfl | (simp; done) | (simp [*]; done)), H', ⟨by have := HK1.out; first | omega | exact Nat.le_refl _⟩, ⟨by (with_reducible repeat (first | apply Kd.V_alloc | apply Kd.V_drewN | apply Kd.V_drew)); exact Kd.V_mono (Kd.V_far (p := ⟨gb65009, 1, none⟩) (Kd.V_mono HO_0.out (fun k_ hk => (⟨hk, hk.1.2.2⟩ : _ ∧ k_ ≠ gb65009))) (fun _ hk => hk.2) (.int .i64 (wrap64 ((wrap64 (rd l0 (ji31))) + (wrap64 (256 * (wrap64 (rd l0 (ji34))))))))) (fun _ hk => ⟨hk.1.1.1, ⟨hk.1.2, ⟨hk.1.1.2.1, hk.1.1.2.2⟩⟩⟩)⟩, ⟨by (with_reducible repeat (first | apply Kd.R_alloc | apply Kd.R_drewN | apply Kd.R_drew)); exact Kd.R_mono (Kd.R_far (p := ⟨gb65009, 1, none⟩) (Kd.R_types HO65012.out BK65009.out (by decide)) (fun _ hk => hk.2) (.int .i64 (wrap64 ((wrap64 (rd l0 (ji31))) + (wrap64 (256 * (wrap64 (rd l0 (ji34))))))))) (fun _ hk => hk.1)⟩, ⟨by (with_reducible repeat (first | apply Kd.N_alloc | apply Kd.N_drewN | apply Kd.N_drew)); exact Kd.N_mono (Kd.N_far (p := ⟨gb65009, 1, none⟩) (Kd.N_mono HO_9.out (fun k_ hk => (⟨hk, hk.1.2⟩ : _ ∧ k_ ≠ gb65009))) (fun _ hk => hk.2) (.int .i64 (wrap64 ((wrap64 (rd l0 (ji31))) + (wrap64 (256 * (wrap64 (rd l0 (ji34))))))))) (fun _ hk => ⟨hk.1.1.1, ⟨hk.1.2, hk.1.1.2⟩⟩)⟩, ⟨by (with_reducible repeat (first | apply Kd.V_alloc | apply Kd.V_drewN | apply Kd.V_drew)); exact Kd.V_mono (Kd.V_far (p := ⟨gb65009, 1, none⟩) (Kd.V_mono HO65008.out (fun k_ hk => (⟨hk, hk.1.2.2⟩ : _ ∧ k_ ≠ gb65009))) (fun _ hk => hk.2) (.int .i64 (wrap64 ((wrap64 (rd l0 (ji31))) + (wrap64 (256 * (wrap64 (rd l0 (ji34))))))))) (fun _ hk => ⟨hk.1.1.1, ⟨hk.1.2, ⟨hk.1.1.2.1, hk.1.1.2.2⟩⟩⟩)⟩, ⟨by (with_reducible repeat (first | refine blk_drewN ?_ _ | refine blk_drew ?_ | refine blk_alloc ?_ _)); refine blk_put (cs := #[.slice A39 y65004.length c39, .int .i64 0, .int .i64 0]) ?_ 1 _ rfl; (with_reducible repeat (first | refine blk_drewN ?_ _ | refine blk_drew ?_ | refine blk_alloc ?_ _)); exact BK65009.out⟩, ⟨by repeat (first | (with_reducible first | exact HB.out | apply below_alloc | apply pw_below_drewN | apply below_drew1 | refine below_set ?_ GE65009.out) | exact HB.out)⟩⟩
                                        · rw [if_neg c45] at H
                                          have c45b0 : ((wrap64 ((wrap64 (rd l0 (ji31))) + (wrap64 (256 * (wrap64 (rd l0 (ji34))))))) == 0) = false := beq_eq_false_iff_ne.mpr c45
                                          have c45b1 : ((wrap64 ((wrap64 (rd l0 (ji31))) + (wrap64 (256 * (wrap64 (rd l0 (ji34))))))) != 0) = true := bne_iff_ne.mpr c45
                                          (first | rw [c45b0] | (simp only [i64_w, i32_w]; rw [c45b0]) | skip)
                                          have H' := Aside0.mk H
                                          clear H
                                          have hcz47_0 : w43.cell? ⟨gb65009, 0, none⟩ = some (.slice A39 y65004.length c39) := (blk_cell BK65009.out 0).trans rfl
                                          have hcz47_1 : w43.cell? ⟨gb65009, 1, none⟩ = some (.int .i64 0) := (blk_cell BK65009.out 1).trans rfl
                                          have hcz47_2 : w43.cell? ⟨gb65009, 2, none⟩ = some (.int .i64 0) := (blk_cell BK65009.out 2).trans rfl
                                          have hfz47_0 := blk_frozen BK65009.out 0
                                          have hfz47_1 := blk_frozen BK65009.out 1
                                          have hfz47_2 := blk_frozen BK65009.out 2
                                          obtain ⟨Ao48, co48, eo48⟩ := Kd.R_slice HO65012.out
                                          subst eo48
                                          go_wp2
                                          go_meet
                                          case rel => exact ⟨_, (decide ((wrap64 ((wrap64 (rd l0 (ji31))) + (wrap64 (256 * (wrap64 (rd l0 (ji34))))))) > (y65010.length : Int))), (by first | rfl | (simp; done) | (simp only [← hji31, ← hji34] <;> (first | rfl | simp)) | (simp [*]; done)), H', ⟨by have := HK1.out; first | omega | exact Nat.le_refl _⟩, ⟨by (with_reducible repeat (first | apply Kd.V_alloc | apply Kd.V_drewN | apply Kd.V_drew)); exact Kd.V_mono (Kd.V_far (p := ⟨gb65009, 1, none⟩) (Kd.V_mono HO_0.out (fun k_ hk => (⟨hk, hk.1.2.2⟩ : _ ∧ k_ ≠ gb65009))) (fun _ hk => hk.2) (.int .i64 (wrap64 ((wrap64 (rd l0 (ji31))) + (wrap64 (256 * (wrap64 (rd l0 (ji34))))))))) (fun _ hk => ⟨hk.1.1.1, ⟨hk.1.2, ⟨hk.1.1.2.1, hk.1.1.2.2⟩⟩⟩)⟩, ⟨by (with_reducible repeat (first | apply Kd.R_alloc | apply Kd.R_drewN | apply Kd.R_drew)); exact Kd.R_mono (Kd.R_far (p := ⟨gb65009, 1, none⟩) (Kd.R_types HO65012.out BK65009.out (by decide)) (fun _ hk => hk.2) (.int .i64 (wrap64 ((wrap64 (rd l0 (ji31))) + (wrap64 (256 * (wrap64 (rd l0 (ji34))))))))) (fun _ hk => hk.1)⟩, ⟨by (with_reducible repeat (first | apply Kd.N_alloc | apply Kd.N_drewN | apply Kd.N_drew)); exact Kd.N_mono (Kd.N_far (p := ⟨gb65009, 1, none⟩) (Kd.N_mono HO_9.out (fun k_ hk => (⟨hk, hk.1.2⟩ : _ ∧ k_ ≠ gb65009))) (fun _ hk => hk.2) (.int .i64 (wrap64 ((wrap64 (rd l0 (ji31))) + (wrap64 (256 * (wrap64 (rd l0 (ji34))))))))) (fun _ hk => ⟨hk.1.1.1, ⟨hk.1.2, hk.1.1.2⟩⟩)⟩, ⟨by (with_reducible repeat (first | apply Kd.V_alloc | apply Kd.V_drewN | apply Kd.V_drew)); exact Kd.V_mono (Kd.V_far (p := ⟨gb65009, 1, none⟩) (Kd.V_mono HO65008.out (fun k_ hk => (⟨hk, hk.1.2.2⟩ : _ ∧ k_ ≠ gb65009))) (fun _ hk => hk.2) (.int .i64 (wrap64 ((wrap64 (rd l0 (ji31))) + (wrap64 (256 * (wrap64 (rd l0 (ji34))))))))) (fun _ hk => ⟨hk.1.1.1, ⟨hk.1.2, ⟨hk.1.1.2.1, hk.1.1.2.2⟩⟩⟩)⟩, ⟨by (with_reducible repeat (first | refine blk_drewN ?_ _ | refine blk_drew ?_ | refine blk_alloc ?_ _)); refine blk_put (cs := #[.slice A39 y65004.length c39, .int .i64 0, .int .i64 0]) ?_ 1 _ rfl; (with_reducible repeat (first | refine blk_drewN ?_ _ | refine blk_drew ?_ | refine blk_alloc ?_ _)); exact BK65009.out⟩, ⟨by repeat (first | (with_reducible first | exact HB.out | apply below_alloc | apply pw_below_drewN | apply below_drew1 | refine below_set ?_ GE65009.out) | exact HB.out)⟩⟩
                                      case rest =>
                                        clear HC37
                                        try clear c1
                                        try clear q1
                                        try clear c2
                                        try clear p2
                                        try clear q2
                                        try clear c3
                                        try clear c3b0
                                        try clear q3
                                        try clear c4
                                        try clear c4b0
                                        try clear c5
                                        try clear c5b0
                                        try clear c6
                                        try clear p6
                                        try clear q6
                                        try clear hx6
                                        try clear c7
                                        try clear c7b0
                                        try clear c8
                                        try clear c8b0
                                        try clear c10
                                        try clear c10b0
                                        try clear c12
                                        try clear c12b0
                                        try clear c12b1
                                        try clear c13
                                        try clear c13b0
                                        try clear c13b1
                                        try clear c14
                                        try clear c14b0
                                        try clear c14b1
                                        try clear c15
                                        try clear c16
                                        try clear c16b0
                                        try clear c16b1
                                        try clear c17
                                        try clear c19
                                        try clear q19
                                        try clear c25
                                        try clear c25b0
                                        try clear c25b1
                                        try clear c27
                                        try clear q27
                                        try clear c32
                                        try clear c32b0
                                        try clear c33
                                        try clear c33b0
                                        try clear c35
                                        try clear c35b0
                                        try clear c36
                                        try clear c36b0
                                        try clear c39
                                        try clear q39
                                        try clear c45
                                        try clear c45b0
                                        try clear c45b1
                                        try clear hcz21_0
                                        try clear hcz21_1
                                        try clear hcz21_2
                                        try clear hcz23_0
                                        try clear hcz23_1
                                        try clear hcz23_2
                                        try clear hcz29_0
                                        try clear hcz29_1
                                        try clear hcz29_2
                                        try clear hcz41_0
                                        try clear hcz41_1
                                        try clear hcz41_2
                                        try clear hcz46_0
                                        try clear hcz46_1
                                        try clear hcz46_2
                                        try clear hcz47_0
                                        try clear hcz47_1
                                        try clear hcz47_2
                                        try clear hfz21_0
                                        try clear hfz21_1
                                        try clear hfz21_2
                                        try clear hfz23_0
                                        try clear hfz23_1
                                        try clear hfz23_2
                                        try clear hfz29_0
                                        try clear hfz29_1
                                        try clear hfz29_2
                                        try clear hfz41_0
                                        try clear hfz41_1
                                        try clear hfz41_2
                                        try clear hfz46_0
                                        try clear hfz46_1
                                        try clear hfz46_2
                                        try clear hfz47_0
                                        try clear hfz47_1
                                        try clear hfz47_2
                                        try clear hx65001_0
                                        try clear hx65016_0
                                        try clear hx65017_0
                                        try clear p2
                                        try clear p65001
                                        try clear p65016
                                        try clear p65017
                                        try clear q019
                                        try clear q027
                                        try clear q039
                                        try clear q19
                                        try clear q27
                                        try clear q39
                                        try clear q65001
                                        try clear q65016
                                        try clear q65017
                                        obtain ⟨kq, x111_36, rfl, HA, HJ36, HO_0, HO_8, HO_9, HO_65010000, BK65009, HB⟩ := hcut
                                        cases kq with
                                        | zero => exact absurd HA.out (by simp [portmanteauref05_Decode.j1])
                                        | succ kj36 =>
                                          have H := HA.out
                                          clear HA
                                          simp only [portmanteauref05_Decode.j1] at H
                                          by_cases c49 : x111_36 = true
                                          · subst c49
                                            have H1 : (some (([] : List Int), ([] : List (S113)), 9, ji31)) = some (r1, r2, r3, r4) := by rw [if_pos rfl] at H; exact H
                                            clear H
                                            have H := H1
                                            clear H1
                                            simp only [Option.some.injEq, Prod.mk.injEq] at H
                                            obtain ⟨rfl, rfl, rfl, rfl⟩ := H
                                            go_wp2
                                            refine bodyPost_ret (results_list (rs := [.tmp 4, .tmp 5, .tmp 6, .tmp 7]) rfl (by simp) (.tmp (.tmp (.tmp (.tmp .nil))))) rfl ?_
                                            exact ⟨_, _, by first | rfl | (simp [errW_none, errW_some] <;> rfl) | (simp only [← hji31, ← hji34]; first | rfl | (simp [errW_none, errW_some] <;> rfl)) | (simp [*, errW_none, errW_some] <;> rfl), by first | exact Kd.R_nil _ _ _ _ _ | exact Kd.N_nil _ _ _ _ _ | exact Kd.V_nil _ _ _ _ _ | exact Kd.Q_nil _ _ _ _ _ | exact Kd.S_nil _ _ _ _ _, by first | exact Kd.S_nil _ _ _ _ _ | exact Kd.N_nil _ _ _ _ _ | exact Kd.V_nil _ _ _ _ _ | exact Kd.Q_nil _ _ _ _ _ | exact Kd.R_nil _ _ _ _ _, by repeat (first | (with_reducible first | exact HB.out | apply below_alloc | apply pw_below_drewN | apply below_drew1 | refine below_set ?_ GE65009.out) | exact HB.out)⟩
                                          · replace c49 := Bool.eq_false_iff.mpr c49
                                            subst c49
                                            have H1 : (if 0 ≤ x10_1 then (if x10_1 < (l0.length : Int) then ((portmanteauref05_length.f kj36 l0 (wrap64 (Int.tmod (rd l0 x10_1) 16)) (wrap64 (ji31 + 2))).bind fun bt65019 => (if bt65019.1 < 0 then (some (([] : List Int), ([] : List (S113)), 6, (l0.length : Int))) else (if (wrap64 (bt65019.1 + 4)) > (wrap64 (a1 - (y65010.length : Int))) then (some (([] : List Int), ([] : List (S113)), 2, x10_1)) else (portmanteauref05_Decode.l1 kj36 l0 a1 y65010 x9_1 bt65019.2 0 y65004 (wrap64 ((wrap64 (rd l0 (ji31))) + (wrap64 (256 * (wrap64 (rd l0 (ji34))))))) (wrap64 (bt65019.1 + 4)))))) else (none)) else (none)) = some (r1, r2, r3, r4) := by rw [if_neg (show ¬ (false = true) by decide)] at H; exact H
                                            clear H
                                            have H := H1
                                            clear H1
                                            by_cases c50 : 0 ≤ x10_1
                                            · rw [if_pos c50] at H
                                              have c50b0 : decide (0 ≤ x10_1) = true := decide_eq_true c50
                                              clear c50
                                              by_cases c51 : x10_1 < (l0.length : Int)
                                              · rw [if_pos c51] at H
                                                have c51b0 : decide (x10_1 < (l0.length : Int)) = true := decide_eq_true c51
                                                clear c51
                                                replace H := Option.bind_eq_some_iff.mp H
                                                obtain ⟨⟨t65019, t65020⟩, A520, H⟩ := H
                                                replace H : (if t65019 < 0 then (some (([] : List Int), ([] : List (S113)), 6, (l0.length : Int))) else (if (wrap64 (t65019 + 4)) > (wrap64 (a1 - (y65010.length : Int))) then (some (([] : List Int), ([] : List (S113)), 2, x10_1)) else (portmanteauref05_Decode.l1 kj36 l0 a1 y65010 x9_1 t65020 0 y65004 (wrap64 ((wrap64 (rd l0 (ji31))) + (wrap64 (256 * (wrap64 (rd l0 (ji34))))))) (wrap64 (t65019 + 4))))) = some (r1, r2, r3, r4) := H
                                                have A52 := Aside0.mk A520
                                                clear A520
                                                by_cases c53 : t65019 < 0
                                                · rw [if_pos c53] at H
                                                  have c53b0 : decide (t65019 < 0) = true := decide_eq_true c53
                                                  clear c53
                                                  simp only [Option.some.injEq, Prod.mk.injEq] at H
                                                  obtain ⟨rfl, rfl, rfl, rfl⟩ := H
                                                  have p65018 : 0 ≤ (x10_1 : Int) := of_decide_eq_true (by first | (with_reducible assumption) | assumption)
                                                  have q65018 : x10_1 < (l0.length : Int) := of_decide_eq_true (by first | (with_reducible assumption) | assumption)
                                                  obtain ⟨ad65018, e65018, hx65018_0⟩ := Kd.at_int (Kd.V_reads' HO_0.out).2.2 x10_1 p65018 q65018
                                                  obtain rfl : ad65001 = ad65018 := (by injection e65018)
                                                  replace p65018 := eq_true p65018
                                                  replace q65018 := eq_true q65018
                                                  go_wp2_with (first | ((with_reducible refine gate_callee (f := 89) rfl ?_); refine goesL_ (some 123) rfl rfl Try.func89 (by kernel_rfl) rfl #[.slice (some ad65001) l0.length c0, .int .i64 (wrap64 (Int.tmod (rd l0 x10_1) 16)), .int .i64 (wrap64 (ji31 + 2))] rfl (by (try simp only [List.map_toArray, List.map_cons, List.map_nil]); first | done | (simp only [hji31]; rfl) | rfl | (simp only [List.length_drop, List.length_take]; rfl)) ?_; (with_reducible refine (portmanteauref05_length.calls kj36 _ _ l0 (wrap64 (Int.tmod (rd l0 x10_1) 16)) (wrap64 (ji31 + 2)) t65019 t65020 _ ?side1 ?side2 A52.out).mono ?_); (case side1 => repeat (first | exact (Kd.V_reads' HO_0.out).2.2 | (with_reducible refine Kd.C_alloc ?_ _) | (with_reducible refine Kd.C_drewN ?_ _) | (with_reducible refine Kd.C_drew ?_))); (case side2 => exact (Kd.V_reads' HO_0.out).2.1); rintro e w' ⟨rfl, ⟨nd, rfl⟩⟩; refine ⟨_, rfl, ?_⟩))
                                                  refine bodyPost_ret (results_list (rs := [.tmp 4, .tmp 5, .tmp 6, .tmp 7]) rfl (by simp) (.tmp (.tmp (.tmp (.tmp .nil))))) rfl ?_
                                                  exact ⟨_, _, by first | rfl | (simp [errW_none, errW_some] <;> rfl) | (simp only [← hji31, ← hji34]; first | rfl | (simp [errW_none, errW_some] <;> rfl)) | (simp [*, errW_none, errW_some] <;> rfl), by first | exact Kd.R_nil _ _ _ _ _ | exact Kd.N_nil _ _ _ _ _ | exact Kd.V_nil _ _ _ _ _ | exact Kd.Q_nil _ _ _ _ _ | exact Kd.S_nil _ _ _ _ _, by first | exact Kd.S_nil _ _ _ _ _ | exact Kd.N_nil _ _ _ _ _ | exact Kd.V_nil _ _ _ _ _ | exact Kd.Q_nil _ _ _ _ _ | exact Kd.R_nil _ _ _ _ _, by repeat (first | (with_reducible first | exact HB.out | apply below_alloc | apply pw_below_drewN | apply below_drew1 | refine below_set ?_ GE65009.out) | exact HB.out)⟩
                                                · rw [if_neg c53] at H
                                                  have c53b0 : decide (t65019 < 0) = false := decide_eq_false c53
                                                  clear c53
                                                  by_cases c54 : (wrap64 (t65019 + 4)) > (wrap64 (a1 - (y65010.length : Int)))
                                                  · rw [if_pos c54] at H
                                                    have c54b0 : decide ((wrap64 (a1 - (y65010.length : Int))) < (wrap64 (t65019 + 4))) = true := decide_eq_true c54
                                                    clear c54
                                                    simp only [Option.some.injEq, Prod.mk.injEq] at H
                                                    obtain ⟨rfl, rfl, rfl, rfl⟩ := H
                                                    have p65018 : 0 ≤ (x10_1 : Int) := of_decide_eq_true (by first | (with_reducible assumption) | assumption)
                                                    have q65018 : x10_1 < (l0.length : Int) := of_decide_eq_true (by first | (with_reducible assumption) | assumption)
                                                    obtain ⟨ad65018, e65018, hx65018_0⟩ := Kd.at_int (Kd.V_reads' HO_0.out).2.2 x10_1 p65018 q65018
                                                    obtain rfl : ad65001 = ad65018 := (by injection e65018)
                                                    replace p65018 := eq_true p65018
                                                    replace q65018 := eq_true q65018
                                                    go_wp2_with (first | ((with_reducible refine gate_callee (f := 89) rfl ?_); refine goesL_ (some 123) rfl rfl Try.func89 (by kernel_rfl) rfl #[.slice (some ad65001) l0.length c0, .int .i64 (wrap64 (Int.tmod (rd l0 x10_1) 16)), .int .i64 (wrap64 (ji31 + 2))] rfl (by (try simp only [List.map_toArray, List.map_cons, List.map_nil]); first | done | (simp only [hji31]; rfl) | rfl | (simp only [List.length_drop, List.length_take]; rfl)) ?_; (with_reducible refine (portmanteauref05_length.calls kj36 _ _ l0 (wrap64 (Int.tmod (rd l0 x10_1) 16)) (wrap64 (ji31 + 2)) t65019 t65020 _ ?side1 ?side2 A52.out).mono ?_); (case side1 => repeat (first | exact (Kd.V_reads' HO_0.out).2.2 | (with_reducible refine Kd.C_alloc ?_ _) | (with_reducible refine Kd.C_drewN ?_ _) | (with_reducible refine Kd.C_drew ?_))); (case side2 => exact (Kd.V_reads' HO_0.out).2.1); rintro e w' ⟨rfl, ⟨nd, rfl⟩⟩; refine ⟨_, rfl, ?_⟩; (try (rw [drewN_self wc]; generalize hq_ : World.drewN wc _ = wc; have n0_ : Aside0 (Kd.V (Kd.int .u8) 5 wc w.heap.size (fun k_ => (P0_ k_ ∨ w.heap.size ≤ k_) ∧ some k_ ≠ (v65011 : Value).ownBlock ∧ some k_ ≠ (u9 : Value).ownBlock ∧ k_ ≠ gb65009) (.slice (some ad65001) l0.length c0) l0) := ⟨by rw [← hq_]; exact (by (with_reducible repeat (first | apply Kd.V_alloc | apply Kd.V_drewN | apply Kd.V_drew)); exact HO_0.out)⟩; have n1_ : Aside0 (Kd.V (Kd.int .u8) 5 wc w.heap.size (fun k_ => (P0_ k_ ∨ w.heap.size ≤ k_) ∧ some k_ ≠ (v65011 : Value).ownBlock ∧ some k_ ≠ (u9 : Value).ownBlock ∧ k_ ≠ gb65009) (.slice A39 y65004.length c39) y65004) := ⟨by rw [← hq_]; exact (by (with_reducible repeat (first | apply Kd.V_alloc | apply Kd.V_drewN | apply Kd.V_drew)); exact HO_65010000.out)⟩; have n2_ : Aside0 (Kd.R (Kd.int .u8) 5 wc w.heap.size (fun k_ => (w.heap.size ≤ k_)) v65011 y65010) := ⟨by rw [← hq_]; exact (by (with_reducible repeat (first | apply Kd.R_alloc | apply Kd.R_drewN | apply Kd.R_drew)); exact HO_8.out)⟩; have n3_ : Aside0 (Kd.N k113 113 wc w.heap.size (fun k_ => (P0_ k_ ∨ w.heap.size ≤ k_) ∧ some k_ ≠ (v65011 : Value).ownBlock ∧ k_ ≠ gb65009) u9 x9_1) := ⟨by rw [← hq_]; exact (by (with_reducible repeat (first | apply Kd.N_alloc | apply Kd.N_drewN | apply Kd.N_drew)); exact HO_9.out)⟩; have n4_ : Aside0 (wc.heap[gb65009]? = some (.cells #[.slice A39 y65004.length c39, .int .i64 (wrap64 ((wrap64 (rd l0 (ji31))) + (wrap64 (256 * (wrap64 (rd l0 (ji34))))))), .int .i64 0] 113 (0, 0))) := ⟨by rw [← hq_]; exact (by (with_reducible repeat (first | refine blk_drewN ?_ _ | refine blk_drew ?_ | refine blk_alloc ?_ _)); exact BK65009.out)⟩; have n5_ : Aside0 (Below w.heap.size w wc) := ⟨by rw [← hq_]; exact (by repeat (first | (with_reducible first | exact HB.out | apply below_alloc | apply pw_below_drewN | apply below_drew1 | refine below_set ?_ GE65009.out) | exact HB.out))⟩; clear HO_0 HO_65010000 HO_8 HO_9 BK65009 HB hq_; have HO_0 := n0_; have HO_65010000 := n1_; have HO_8 := n2_; have HO_9 := n3_; have BK65009 := n4_; have HB := n5_; clear n0_ n1_ n2_ n3_ n4_ n5_)); have hcz55_0 : wc.cell? ⟨gb65009, 0, none⟩ = some (.slice A39 y65004.length c39) := (blk_cell BK65009.out 0).trans rfl; have hcz55_1 : wc.cell? ⟨gb65009, 1, none⟩ = some (.int .i64 (wrap64 ((wrap64 (rd l0 (ji31))) + (wrap64 (256 * (wrap64 (rd l0 (ji34)))))))) := (blk_cell BK65009.out 1).trans rfl; have hcz55_2 : wc.cell? ⟨gb65009, 2, none⟩ = some (.int .i64 0) := (blk_cell BK65009.out 2).trans rfl; have hfz55_0 := blk_frozen BK65009.out 0; have hfz55_1 := blk_frozen BK65009.out 1; have hfz55_2 := blk_frozen BK65009.out 2; obtain ⟨Ao56, co56, eo56⟩ := Kd.R_slice HO_8.out; subst eo56))
                                                    refine bodyPost_ret (results_list (rs := [.tmp 4, .tmp 5, .tmp 6, .tmp 7]) rfl (by simp) (.tmp (.tmp (.tmp (.tmp .nil))))) rfl ?_
                                                    exact ⟨_, _, by first | rfl | (simp [errW_none, errW_some] <;> rfl) | (simp only [← hji31, ← hji34]; first | rfl | (simp [errW_none, errW_some] <;> rfl)) | (simp [*, errW_none, errW_some] <;> rfl), by first | exact Kd.R_nil _ _ _ _ _ | exact Kd.N_nil _ _ _ _ _ | exact Kd.V_nil _ _ _ _ _ | exact Kd.Q_nil _ _ _ _ _ | exact Kd.S_nil _ _ _ _ _, by first | exact Kd.S_nil _ _ _ _ _ | exact Kd.N_nil _ _ _ _ _ | exact Kd.V_nil _ _ _ _ _ | exact Kd.Q_nil _ _ _ _ _ | exact Kd.R_nil _ _ _ _ _, by repeat (first | (with_reducible first | exact HB.out | apply below_alloc | apply pw_below_drewN | apply below_drew1 | refine below_set ?_ GE65009.out) | exact HB.out)⟩
                                                  · rw [if_neg c54] at H
                                                    have c54b0 : decide ((wrap64 (a1 - (y65010.length : Int))) < (wrap64 (t65019 + 4))) = false := decide_eq_false c54
                                                    clear c54
                                                    have H' := Aside0.mk H
                                                    clear H
                                                    have p65018 : 0 ≤ (x10_1 : Int) := of_decide_eq_true (by first | (with_reducible assumption) | assumption)
                                                    have q65018 : x10_1 < (l0.length : Int) := of_decide_eq_true (by first | (with_reducible assumption) | assumption)
                                                    obtain ⟨ad65018, e65018, hx65018_0⟩ := Kd.at_int (Kd.V_reads' HO_0.out).2.2 x10_1 p65018 q65018
                                                    obtain rfl : ad65001 = ad65018 := (by injection e65018)
                                                    replace p65018 := eq_true p65018
                                                    replace q65018 := eq_true q65018
                                                    go_wp2_with (first | ((with_reducible refine gate_callee (f := 89) rfl ?_); refine goesL_ (some 123) rfl rfl Try.func89 (by kernel_rfl) rfl #[.slice (some ad65001) l0.length c0, .int .i64 (wrap64 (Int.tmod (rd l0 x10_1) 16)), .int .i64 (wrap64 (ji31 + 2))] rfl (by (try simp only [List.map_toArray, List.map_cons, List.map_nil]); first | done | (simp only [hji31]; rfl) | rfl | (simp only [List.length_drop, List.length_take]; rfl)) ?_; (with_reducible refine (portmanteauref05_length.calls kj36 _ _ l0 (wrap64 (Int.tmod (rd l0 x10_1) 16)) (wrap64 (ji31 + 2)) t65019 t65020 _ ?side1 ?side2 A52.out).mono ?_); (case side1 => repeat (first | exact (Kd.V_reads' HO_0.out).2.2 | (with_reducible refine Kd.C_alloc ?_ _) | (with_reducible refine Kd.C_drewN ?_ _) | (with_reducible refine Kd.C_drew ?_))); (case side2 => exact (Kd.V_reads' HO_0.out).2.1); rintro e w' ⟨rfl, ⟨nd, rfl⟩⟩; refine ⟨_, rfl, ?_⟩; (try (rw [drewN_self wc]; generalize hq_ : World.drewN wc _ = wc; have n0_ : Aside0 (Kd.V (Kd.int .u8) 5 wc w.heap.size (fun k_ => (P0_ k_ ∨ w.heap.size ≤ k_) ∧ some k_ ≠ (v65011 : Value).ownBlock ∧ some k_ ≠ (u9 : Value).ownBlock ∧ k_ ≠ gb65009) (.slice (some ad65001) l0.length c0) l0) := ⟨by rw [← hq_]; exact (by (with_reducible repeat (first | apply Kd.V_alloc | apply Kd.V_drewN | apply Kd.V_drew)); exact HO_0.out)⟩; have n1_ : Aside0 (Kd.V (Kd.int .u8) 5 wc w.heap.size (fun k_ => (P0_ k_ ∨ w.heap.size ≤ k_) ∧ some k_ ≠ (v65011 : Value).ownBlock ∧ some k_ ≠ (u9 : Value).ownBlock ∧ k_ ≠ gb65009) (.slice A39 y65004.length c39) y65004) := ⟨by rw [← hq_]; exact (by (with_reducible repeat (first | apply Kd.V_alloc | apply Kd.V_drewN | apply Kd.V_drew)); exact HO_65010000.out)⟩; have n2_ : Aside0 (Kd.R (Kd.int .u8) 5 wc w.heap.size (fun k_ => (w.heap.size ≤ k_)) v65011 y65010) := ⟨by rw [← hq_]; exact (by (with_reducible repeat (first | apply Kd.R_alloc | apply Kd.R_drewN | apply Kd.R_drew)); exact HO_8.out)⟩; have n3_ : Aside0 (Kd.N k113 113 wc w.heap.size (fun k_ => (P0_ k_ ∨ w.heap.size ≤ k_) ∧ some k_ ≠ (v65011 : Value).ownBlock ∧ k_ ≠ gb65009) u9 x9_1) := ⟨by rw [← hq_]; exact (by (with_reducible repeat (first | apply Kd.N_alloc | apply Kd.N_drewN | apply Kd.N_drew)); exact HO_9.out)⟩; have n4_ : Aside0 (wc.heap[gb65009]? = some (.cells #[.slice A39 y65004.length c39, .int .i64 (wrap64 ((wrap64 (rd l0 (ji31))) + (wrap64 (256 * (wrap64 (rd l0 (ji34))))))), .int .i64 0] 113 (0, 0))) := ⟨by rw [← hq_]; exact (by (with_reducible repeat (first | refine blk_drewN ?_ _ | refine blk_drew ?_ | refine blk_alloc ?_ _)); exact BK65009.out)⟩; have n5_ : Aside0 (Below w.heap.size w wc) := ⟨by rw [← hq_]; exact (by repeat (first | (with_reducible first | exact HB.out | apply below_alloc | apply pw_below_drewN | apply below_drew1 | refine below_set ?_ GE65009.out) | exact HB.out))⟩; clear HO_0 HO_65010000 HO_8 HO_9 BK65009 HB hq_; have HO_0 := n0_; have HO_65010000 := n1_; have HO_8 := n2_; have HO_9 := n3_; have BK65009 := n4_; have HB := n5_; clear n0_ n1_ n2_ n3_ n4_ n5_)); have hcz57_0 : wc.cell? ⟨gb65009, 0, none⟩ = some (.slice A39 y65004.length c39) := (blk_cell BK65009.out 0).trans rfl; have hcz57_1 : wc.cell? ⟨gb65009, 1, none⟩ = some (.int .i64 (wrap64 ((wrap64 (rd l0 (ji31))) + (wrap64 (256 * (wrap64 (rd l0 (ji34)))))))) := (blk_cell BK65009.out 1).trans rfl; have hcz57_2 : wc.cell? ⟨gb65009, 2, none⟩ = some (.int .i64 0) := (blk_cell BK65009.out 2).trans rfl; have hfz57_0 := blk_frozen BK65009.out 0; have hfz57_1 := blk_frozen BK65009.out 1; have hfz57_2 := blk_frozen BK65009.out 2; obtain ⟨Ao58, co58, eo58⟩ := Kd.R_slice HO_8.out; subst eo58))
                                                    go_loopg [8, 16] kj36 (fun kq v8 v16 w' => ∃ (x8_3 : List Int) (x16_3 : Int), v16 = .int .i64 x16_3 ∧ Aside0 (portmanteauref05_Decode.l1 kq l0 a1 x8_3 x9_1 t65020 x16_3 y65004 (wrap64 ((wrap64 (rd l0 (ji31))) + (wrap64 (256 * (wrap64 (rd l0 (ji34))))))) (wrap64 (t65019 + 4)) = some (r1, r2, r3, r4)) ∧ Aside0 (kq ≤ kj36) ∧ Aside0 (Kd.V (Kd.int .u8) 5 w' w.heap.size (fun k_ => (P0_ k_ ∨ w.heap.size ≤ k_) ∧ some k_ ≠ (v8 : Value).ownBlock ∧ some k_ ≠ (u9 : Value).ownBlock ∧ k_ ≠ gb65009) (.slice (some ad65001) l0.length c0) l0) ∧ Aside0 (Kd.R (Kd.int .u8) 5 w' w.heap.size (fun k_ => (w.heap.size ≤ k_)) v8 x8_3) ∧ Aside0 (Kd.N k113 113 w' w.heap.size (fun k_ => (P0_ k_ ∨ w.heap.size ≤ k_) ∧ some k_ ≠ (v8 : Value).ownBlock ∧ k_ ≠ gb65009) u9 x9_1) ∧ Aside0 (Kd.V (Kd.int .u8) 5 w' w.heap.size (fun k_ => (P0_ k_ ∨ w.heap.size ≤ k_) ∧ some k_ ≠ (v8 : Value).ownBlock ∧ some k_ ≠ (u9 : Value).ownBlock ∧ k_ ≠ gb65009) (.slice A39 y65004.length c39) y65004) ∧ Aside0 (w'.heap[gb65009]? = some (.cells #[(.slice A39 y65004.length c39), .int .i64 (wrap64 ((wrap64 (rd l0 (ji31))) + (wrap64 (256 * (wrap64 (rd l0 (ji34))))))), .int .i64 (wrap64 (t65019 + 4))] 113 (0, 0))) ∧ Aside0 (Below w.heap.size w w'))
                                                    case atStart => exact ⟨(y65010), (0), (by first | rfl | (simp; done) | (simp [*]; done)), H', ⟨Nat.le_refl _⟩, ⟨by (with_reducible repeat (first | apply Kd.V_alloc | apply Kd.V_drewN | apply Kd.V_drew)); exact Kd.V_mono (Kd.V_far (p := ⟨gb65009, 2, none⟩) (Kd.V_mono HO_0.out (fun k_ hk => (⟨hk, hk.2.2.2⟩ : _ ∧ k_ ≠ gb65009))) (fun _ hk => hk.2) (.int .i64 (wrap64 (t65019 + 4)))) (fun _ hk => ⟨hk.1.1, ⟨hk.1.2.1, ⟨hk.1.2.2.1, hk.1.2.2.2⟩⟩⟩)⟩, ⟨by (with_reducible repeat (first | apply Kd.R_alloc | apply Kd.R_drewN | apply Kd.R_drew)); exact Kd.R_mono (Kd.R_far (p := ⟨gb65009, 2, none⟩) (Kd.R_types HO_8.out BK65009.out (by decide)) (fun _ hk => hk.2) (.int .i64 (wrap64 (t65019 + 4)))) (fun _ hk => hk.1)⟩, ⟨by (with_reducible repeat (first | apply Kd.N_alloc | apply Kd.N_drewN | apply Kd.N_drew)); exact Kd.N_mono (Kd.N_far (p := ⟨gb65009, 2, none⟩) (Kd.N_mono HO_9.out (fun k_ hk => (⟨hk, hk.2.2⟩ : _ ∧ k_ ≠ gb65009))) (fun _ hk => hk.2) (.int .i64 (wrap64 (t65019 + 4)))) (fun _ hk => ⟨hk.1.1, ⟨hk.1.2.1, hk.1.2.2⟩⟩)⟩, ⟨by (with_reducible repeat (first | apply Kd.V_alloc | apply Kd.V_drewN | apply Kd.V_drew)); exact Kd.V_mono (Kd.V_far (p := ⟨gb65009, 2, none⟩) (Kd.V_mono HO_65010000.out (fun k_ hk => (⟨hk, hk.2.2.2⟩ : _ ∧ k_ ≠ gb65009))) (fun _ hk => hk.2) (.int .i64 (wrap64 (t65019 + 4)))) (fun _ hk => ⟨hk.1.1, ⟨hk.1.2.1, ⟨hk.1.2.2.1, hk.1.2.2.2⟩⟩⟩)⟩, ⟨by (with_reducible repeat (first | refine blk_drewN ?_ _ | refine blk_drew ?_ | refine blk_alloc ?_ _)); refine blk_put (cs := #[.slice A39 y65004.length c39, .int .i64 (wrap64 ((wrap64 (rd l0 (ji31))) + (wrap64 (256 * (wrap64 (rd l0 (ji34))))))), .int .i64 0]) ?_ 2 _ rfl; (with_reducible repeat (first | refine blk_drewN ?_ _ | refine blk_drew ?_ | refine blk_alloc ?_ _)); exact BK65009.out⟩, ⟨by repeat (first | (with_reducible first | exact HB.out | apply below_alloc | apply pw_below_drewN | apply below_drew1 | refine below_set ?_ GE65009.out) | exact HB.out)⟩⟩
                                                    case round =>
                                                      clear H'
                                                      try clear c1
                                                      try clear q1
                                                      try clear c2
                                                      try clear p2
                                                      try clear q2
                                                      try clear c3
                                                      try clear c3b0
                                                      try clear q3
                                                      try clear c4
                                                      try clear c4b0
                                                      try clear c5
                                                      try clear c5b0
                                                      try clear c6
                                                      try clear p6
                                                      try clear q6
                                                      try clear hx6
                                                      try clear c7
                                                      try clear c7b0
                                                      try clear c8
                                                      try clear c8b0
                                                      try clear c10
                                                      try clear c10b0
                                                      try clear c12
                                                      try clear c12b0
                                                      try clear c12b1
                                                      try clear c13
                                                      try clear c13b0
                                                      try clear c13b1
                                                      try clear c14
                                                      try clear c14b0
                                                      try clear c14b1
                                                      try clear c15
                                                      try clear c16
                                                      try clear c16b0
                                                      try clear c16b1
                                                      try clear c17
                                                      try clear c19
                                                      try clear q19
                                                      try clear c25
                                                      try clear c25b0
                                                      try clear c25b1
                                                      try clear c27
                                                      try clear q27
                                                      try clear c32
                                                      try clear c32b0
                                                      try clear c33
                                                      try clear c33b0
                                                      try clear c35
                                                      try clear c35b0
                                                      try clear c36
                                                      try clear c36b0
                                                      try clear c39
                                                      try clear q39
                                                      try clear c45
                                                      try clear c45b0
                                                      try clear c45b1
                                                      try clear c49
                                                      try clear c50
                                                      try clear c50b0
                                                      try clear c51
                                                      try clear c51b0
                                                      try clear c53
                                                      try clear c53b0
                                                      try clear c54
                                                      try clear c54b0
                                                      try clear hcz21_0
                                                      try clear hcz21_1
                                                      try clear hcz21_2
                                                      try clear hcz23_0
                                                      try clear hcz23_1
                                                      try clear hcz23_2
                                                      try clear hcz29_0
                                                      try clear hcz29_1
                                                      try clear hcz29_2
                                                      try clear hcz41_0
                                                      try clear hcz41_1
                                                      try clear hcz41_2
                                                      try clear hcz46_0
                                                      try clear hcz46_1
                                                      try clear hcz46_2
                                                      try clear hcz47_0
                                                      try clear hcz47_1
                                                      try clear hcz47_2
                                                      try clear hcz55_0
                                                      try clear hcz55_1
                                                      try clear hcz55_2
                                                      try clear hcz57_0
                                                      try clear hcz57_1
                                                      try clear hcz57_2
                                                      try clear hfz21_0
                                                      try clear hfz21_1
                                                      try clear hfz21_2
                                                      try clear hfz23_0
                                                      try clear hfz23_1
                                                      try clear hfz23_2
                                                      try clear hfz29_0
                                                      try clear hfz29_1
                                                      try clear hfz29_2
                                                      try clear hfz41_0
                                                      try clear hfz41_1
                                                      try clear hfz41_2
                                                      try clear hfz46_0
                                                      try clear hfz46_1
                                                      try clear hfz46_2
                                                      try clear hfz47_0
                                                      try clear hfz47_1
                                                      try clear hfz47_2
                                                      try clear hfz55_0
                                                      try clear hfz55_1
                                                      try clear hfz55_2
                                                      try clear hfz57_0
                                                      try clear hfz57_1
                                                      try clear hfz57_2
                                                      try clear hx65001_0
                                                      try clear hx65016_0
                                                      try clear hx65017_0
                                                      try clear hx65018_0
                                                      try clear p2
                                                      try clear p6
                                                      try clear p65001
                                                      try clear p65016
                                                      try clear p65017
                                                      try clear p65018
                                                      try clear q019
                                                      try clear q027
                                                      try clear q039
                                                      try clear q1
                                                      try clear q19
                                                      try clear q2
                                                      try clear q27
                                                      try clear q3
                                                      try clear q39
                                                      try clear q6
                                                      try clear q65001
                                                      try clear q65016
                                                      try clear q65017
                                                      try clear q65018
                                                      obtain ⟨x8_3, x16_3, rfl, HA, HK3, HO_0, HO_8, HO_9, HO_65010000, BK65009, HB⟩ := hrel
                                                      cases gk with
                                                      | zero => exact absurd HA.out (by simp [portmanteauref05_Decode.l1])
                                                      | succ k3 =>
                                                        have H := HA.out
                                                        clear HA
                                                        simp only [portmanteauref05_Decode.l1] at H
                                                        by_cases c59 : x16_3 < (wrap64 (t65019 + 4))
                                                        · rw [if_pos c59] at H
                                                          have c59b0 : decide (x16_3 < (wrap64 (t65019 + 4))) = true := decide_eq_true c59
                                                          clear c59
                                                          obtain ⟨ji60, hji60⟩ : ∃ j_ : Int, (wrap64 ((x8_3.length : Int) - (wrap64 ((wrap64 (rd l0 (ji31))) + (wrap64 (256 * (wrap64 (rd l0 (ji34))))))))) = j_ := ⟨_, rfl⟩
                                                          replace H : (if 0 ≤ (ji60) then (if (ji60) < (x8_3.length : Int) then (if x8_3.length < 140737488355328 then (portmanteauref05_Decode.l1 k3 l0 a1 (x8_3 ++ [rd x8_3 (ji60)]) x9_1 t65020 (wrap64 (x16_3 + 1)) y65004 (wrap64 ((wrap64 (rd l0 (ji31))) + (wrap64 (256 * (wrap64 (rd l0 (ji34))))))) (wrap64 (t65019 + 4))) else (none)) else (none)) else (none)) = some (r1, r2, r3, r4) := by first | (rw [hji60] at H; exact H) | (simp only [hji60] at H ⊢; exact H)
                                                          have hji60w : (IntKind.i64.wrap ((x8_3.length : Int) - (wrap64 ((wrap64 (rd l0 (ji31))) + (wrap64 (256 * (wrap64 (rd l0 (ji34))))))))) = ji60 := (i64_w _).trans hji60
                                                          by_cases c61 : 0 ≤ (ji60)
                                                          · rw [if_pos c61] at H
                                                            have c61b0 : decide (0 ≤ (ji60)) = true := decide_eq_true c61
                                                            clear c61
                                                            by_cases c62 : (ji60) < (x8_3.length : Int)
                                                            · rw [if_pos c62] at H
                                                              have c62b0 : decide ((ji60) < (x8_3.length : Int)) = true := decide_eq_true c62
                                                              clear c62
                                                              by_cases c63 : x8_3.length < 140737488355328
                                                              · rw [if_pos c63] at H
                                                                have LMc63 := Aside0.mk c63
                                                                clear c63
                                                                obtain ⟨y65022, hy65022⟩ : ∃ y_ : List Int, y_ = (x8_3 ++ [rd x8_3 (ji60)]) := ⟨_, rfl⟩
                                                                replace H : (portmanteauref05_Decode.l1 k3 l0 a1 y65022 x9_1 t65020 (wrap64 (x16_3 + 1)) y65004 (wrap64 ((wrap64 (rd l0 (ji31))) + (wrap64 (256 * (wrap64 (rd l0 (ji34))))))) (wrap64 (t65019 + 4))) = some (r1, r2, r3, r4) := by first | (rw [hy65022]; with_reducible exact H) | (have H2_ := (Option.bind_some _ _).symm.trans H; rw [hy65022]; with_reducible exact H2_) | (have H2_ := (Option.bind_some _ _).symm.trans H; with_reducible exact H2_) | with_reducible exact H | (rw [hy65022]; exact H) | exact H
                                                                have Ny65022 := Aside0.mk hy65022
                                                                clear hy65022
                                                                have H' := Aside0.mk H
                                                                clear H
                                                                have hcz64_0 : wr.cell? ⟨gb65009, 0, none⟩ = some (.slice A39 y65004.length c39) := (blk_cell BK65009.out 0).trans rfl
                                                                have hcz64_1 : wr.cell? ⟨gb65009, 1, none⟩ = some (.int .i64 (wrap64 ((wrap64 (rd l0 (ji31))) + (wrap64 (256 * (wrap64 (rd l0 (ji34)))))))) := (blk_cell BK65009.out 1).trans rfl
                                                                have hcz64_2 : wr.cell? ⟨gb65009, 2, none⟩ = some (.int .i64 (wrap64 (t65019 + 4))) := (blk_cell BK65009.out 2).trans rfl
                                                                have hfz64_0 := blk_frozen BK65009.out 0
                                                                have hfz64_1 := blk_frozen BK65009.out 1
                                                                have hfz64_2 := blk_frozen BK65009.out 2
                                                                obtain ⟨Ao65, co65, eo65⟩ := Kd.R_slice HO_8.out
                                                                subst eo65
                                                                have p65021 : 0 ≤ ((ji60) : Int) := of_decide_eq_true (by first | (with_reducible assumption) | assumption)
                                                                have q65021 : (ji60) < (x8_3.length : Int) := of_decide_eq_true (by first | (with_reducible assumption) | assumption)
                                                                obtain ⟨ad65021, e65021, hx65021_0⟩ := Kd.at_int (Kd.R_reads' HO_8.out).2.2 (ji60) p65021 q65021
                                                                cases e65021
                                                                replace p65021 := eq_true p65021
                                                                replace q65021 := eq_true q65021
                                                                go_wp2_with (first | ((with_reducible refine gate_builtin (b := .append) (xs := #[.tmp 147, .tmp 156]) rfl ?_); (try (refine gate_guard (by rfl) ?_; dsimp only)); at_builtin; refine Kd.R_append (Kd.int .u8) (w0 := w) w.heap.size rfl (.tmp 147) (.tmp 156) 22 5 (.int .u8 0) 1 rfl Try.underlying22 info5 rfl (by decide) (by omega) (.slice (some ad65021) x8_3.length co65) x8_3 (rd x8_3 (ji60)) [.int .u8 (rd x8_3 (ji60))] (fun k_ => (w.heap.size ≤ k_)) (fun _ => False) rfl rfl ?aP (fun _ hk => hk.elim) ?aF ?aO ?aB ?aS ?aL ?_; (case aP => exact rfl); (case aB => exact (by repeat (first | (with_reducible first | exact HB.out | apply below_alloc | apply pw_below_drewN | apply below_drew1 | refine below_set ?_ GE65009.out) | exact HB.out))); (case aF => exact (fun k_ hk => (Nat.le_trans (below_size (by repeat (first | (with_reducible first | exact HB.out | apply below_alloc | apply pw_below_drewN | apply below_drew1 | refine below_set ?_ GE65009.out) | exact HB.out))) hk))); (case aO => exact (by (with_reducible repeat (first | apply Kd.R_alloc | apply Kd.R_drewN | apply Kd.R_drew)); exact HO_8.out)); (case aS => exact (below_size (by repeat (first | (with_reducible first | exact HB.out | apply below_alloc | apply pw_below_drewN | apply below_drew1 | refine below_set ?_ GE65009.out) | exact HB.out)))); (case aL => have := LMc63.out; omega); intro v65023 w66 ho hb hg hat; rw [← Ny65022.out] at ho; have n0_ := Aside0.mk (Kd.V_afterv (ok := (fun k_ => (P0_ k_ ∨ w.heap.size ≤ k_) ∧ some k_ ≠ (u9 : Value).ownBlock ∧ k_ ≠ gb65009)) (by (with_reducible repeat (first | apply Kd.V_alloc | apply Kd.V_drewN | apply Kd.V_drew)); exact Kd.V_mono HO_0.out (fun _ hk => ⟨⟨hk.1, ⟨hk.2.2.1, hk.2.2.2⟩⟩, hk.2.1⟩)) hg hat); have n1_ := Aside0.mk (Kd.N_afterv (ok := (fun k_ => (P0_ k_ ∨ w.heap.size ≤ k_) ∧ k_ ≠ gb65009)) (by (with_reducible repeat (first | apply Kd.N_alloc | apply Kd.N_drewN | apply Kd.N_drew)); exact Kd.N_mono HO_9.out (fun _ hk => ⟨⟨hk.1, hk.2.2⟩, hk.2.1⟩)) hg hat); have n2_ := Aside0.mk (Kd.V_afterv (ok := (fun k_ => (P0_ k_ ∨ w.heap.size ≤ k_) ∧ some k_ ≠ (u9 : Value).ownBlock ∧ k_ ≠ gb65009)) (by (with_reducible repeat (first | apply Kd.V_alloc | apply Kd.V_drewN | apply Kd.V_drew)); exact Kd.V_mono HO_65010000.out (fun _ hk => ⟨⟨hk.1, ⟨hk.2.2.1, hk.2.2.2⟩⟩, hk.2.1⟩)) hg hat); have n3_ := Aside0.mk (blk_grown (g := gb65009) (o := .cells #[.slice A39 y65004.length c39, .int .i64 (wrap64 ((wrap64 (rd l0 (ji31))) + (wrap64 (256 * (wrap64 (rd l0 (ji34))))))), .int .i64 (wrap64 (t65019 + 4))] 113 (0, 0)) (by (with_reducible repeat (first | refine blk_drewN ?_ _ | refine blk_drew ?_ | refine blk_alloc ?_ _)); exact BK65009.out) hg (Kd.R_ne HO_8.out BK65009.out (by decide))); have n4_ := Aside0.mk (hb); have n5_ := Aside0.mk (ho); clear HO_0; clear HO_9; clear HO_65010000; clear BK65009; clear HB; clear HO_8; have HO_0 := n0_; have HO_9 := n1_; have HO_65010000 := n2_; have BK65009 := n3_; have HB := n4_; have HO65024 := n5_; clear n0_ n1_ n2_ n3_ n4_ n5_; clear ho hb hg hat))
                                                                go_roundg k3
                                                                case measure => have := HK1.out; have := HJ36.out; have := HK3.out; omega
                                                                case rel => exact ⟨(y65022), (wrap64 (x16_3 + 1)), (by first | rfl | (simp; done) | (simp [*]; done)), H', ⟨by have := HK1.out; have := HJ36.out; have := HK3.out; omega⟩, ⟨by (with_reducible repeat (first | apply Kd.V_alloc | apply Kd.V_drewN | apply Kd.V_drew)); exact Kd.V_mono HO_0.out (fun _ hk => ⟨hk.1.1, ⟨hk.2, ⟨hk.1.2.1, hk.1.2.2⟩⟩⟩)⟩, ⟨by (with_reducible repeat (first | apply Kd.R_alloc | apply Kd.R_drewN | apply Kd.R_drew)); exact HO65024.out⟩, ⟨by (with_reducible repeat (first | apply Kd.N_alloc | apply Kd.N_drewN | apply Kd.N_drew)); exact Kd.N_mono HO_9.out (fun _ hk => ⟨hk.1.1, ⟨hk.2, hk.1.2⟩⟩)⟩, ⟨by (with_reducible repeat (first | apply Kd.V_alloc | apply Kd.V_drewN | apply Kd.V_drew)); exact Kd.V_mono HO_65010000.out (fun _ hk => ⟨hk.1.1, ⟨hk.2, ⟨hk.1.2.1, hk.1.2.2⟩⟩⟩)⟩, ⟨by (with_reducible repeat (first | refine blk_drewN ?_ _ | refine blk_drew ?_ | refine blk_alloc ?_ _)); exact BK65009.out⟩, ⟨by repeat (first | (with_reducible first | exact HB.out | apply below_alloc | apply pw_below_drewN | apply below_drew1 | refine below_set ?_ GE65009.out) | exact HB.out)⟩⟩
                                                              · rw [if_neg c63] at H
                                                                exact absurd H (by simp)
                                                            · rw [if_neg c62] at H
                                                              exact absurd H (by simp)
                                                          · rw [if_neg c61] at H
                                                            exact absurd H (by simp)
                                                        · rw [if_neg c59] at H
                                                          have c59b0 : decide (x16_3 < (wrap64 (t65019 + 4))) = false := decide_eq_false c59
                                                          clear c59
                                                          by_cases c67 : x9_1.length < 3518437208883
                                                          · rw [if_pos c67] at H
                                                            have LMc67 := Aside0.mk c67
                                                            clear c67
                                                            obtain ⟨y65025, hy65025⟩ : ∃ y_ : List (S113), y_ = (x9_1 ++ [(⟨y65004, (wrap64 ((wrap64 (rd l0 (ji31))) + (wrap64 (256 * (wrap64 (rd l0 (ji34))))))), (wrap64 (t65019 + 4))⟩ : S113)]) := ⟨_, rfl⟩
                                                            replace H : (portmanteauref05_Decode.l0 k3 l0 a1 x8_3 y65025 t65020) = some (r1, r2, r3, r4) := by first | (rw [hy65025]; with_reducible exact H) | (have H2_ := (Option.bind_some _ _).symm.trans H; rw [hy65025]; with_reducible exact H2_) | (have H2_ := (Option.bind_some _ _).symm.trans H; with_reducible exact H2_) | with_reducible exact H | (rw [hy65025]; exact H) | exact H
                                                            have Ny65025 := Aside0.mk hy65025
                                                            clear hy65025
                                                            have H' := Aside0.mk H
                                                            clear H
                                                            have hcz68_0 : wr.cell? ⟨gb65009, 0, none⟩ = some (.slice A39 y65004.length c39) := (blk_cell BK65009.out 0).trans rfl
                                                            have hcz68_1 : wr.cell? ⟨gb65009, 1, none⟩ = some (.int .i64 (wrap64 ((wrap64 (rd l0 (ji31))) + (wrap64 (256 * (wrap64 (rd l0 (ji34)))))))) := (blk_cell BK65009.out 1).trans rfl
                                                            have hcz68_2 : wr.cell? ⟨gb65009, 2, none⟩ = some (.int .i64 (wrap64 (t65019 + 4))) := (blk_cell BK65009.out 2).trans rfl
                                                            have hfz68_0 := blk_frozen BK65009.out 0
                                                            have hfz68_1 := blk_frozen BK65009.out 1
                                                            have hfz68_2 := blk_frozen BK65009.out 2
                                                            go_wp2_with (first | ((with_reducible refine gate_builtin (b := .append) (xs := #[.tmp 158, .tmp 160]) rfl ?_); (try (refine gate_guard (by rfl) ?_; dsimp only)); at_builtin; refine Kd.N_append k113 (w0 := w) w.heap.size rfl (.tmp 158) (.tmp 160) 107 113 (.agg #[(.slice none 0 0), (.int .i64 0), (.int .i64 0)]) 40 rfl Try.underlying107 info113 rfl (by decide) (by omega) u9 x9_1 (⟨y65004, (wrap64 ((wrap64 (rd l0 (ji31))) + (wrap64 (256 * (wrap64 (rd l0 (ji34))))))), (wrap64 (t65019 + 4))⟩ : S113) [.slice A39 y65004.length c39, .int .i64 (wrap64 ((wrap64 (rd l0 (ji31))) + (wrap64 (256 * (wrap64 (rd l0 (ji34))))))), .int .i64 (wrap64 (t65019 + 4))] (fun k_ => (P0_ k_ ∨ w.heap.size ≤ k_) ∧ some k_ ≠ (u8 : Value).ownBlock ∧ k_ ≠ gb65009) (fun k_ => ((fun k_ => (P0_ k_ ∨ w.heap.size ≤ k_) ∧ some k_ ≠ (u8 : Value).ownBlock ∧ k_ ≠ gb65009)) k_ ∧ some k_ ≠ (u9 : Value).ownBlock) rfl rfl ?aP (fun _ hk => hk) ?aF ?aO ?aB ?aS ?aL ?_; (case aP => exact (k113_mkF _ _ (⟨y65004, (wrap64 ((wrap64 (rd l0 (ji31))) + (wrap64 (256 * (wrap64 (rd l0 (ji34))))))), (wrap64 (t65019 + 4))⟩ : S113) (Kd.V_reads' (Kd.V_mono (ok' := (fun k_ => ((fun k_ => (P0_ k_ ∨ w.heap.size ≤ k_) ∧ some k_ ≠ (u8 : Value).ownBlock ∧ k_ ≠ gb65009)) k_ ∧ some k_ ≠ (u9 : Value).ownBlock)) (HO_65010000.out) (fun k_ hk => ⟨⟨hk.1, ⟨hk.2.1, hk.2.2.2⟩⟩, hk.2.2.1⟩))).2.1 (Kd.V_F (Kd.V_mono (ok' := (fun k_ => ((fun k_ => (P0_ k_ ∨ w.heap.size ≤ k_) ∧ some k_ ≠ (u8 : Value).ownBlock ∧ k_ ≠ gb65009)) k_ ∧ some k_ ≠ (u9 : Value).ownBlock)) (HO_65010000.out) (fun k_ hk => ⟨⟨hk.1, ⟨hk.2.1, hk.2.2.2⟩⟩, hk.2.2.1⟩))))); (case aB => exact (by repeat (first | (with_reducible first | exact HB.out | apply below_alloc | apply pw_below_drewN | apply below_drew1 | refine below_set ?_ GE65009.out) | exact HB.out))); (case aF => exact (fun k_ hk => ⟨(.inr (Nat.le_trans (below_size (by repeat (first | (with_reducible first | exact HB.out | apply below_alloc | apply pw_below_drewN | apply below_drew1 | refine below_set ?_ GE65009.out) | exact HB.out))) hk)), Kd.fresh' (Kd.R_lt (by (with_reducible repeat (first | apply Kd.R_alloc | apply Kd.R_drewN | apply Kd.R_drew)); exact HO_8.out)) k_ hk, Kd.freshB (g := gb65009) (o := .cells #[.slice A39 y65004.length c39, .int .i64 (wrap64 ((wrap64 (rd l0 (ji31))) + (wrap64 (256 * (wrap64 (rd l0 (ji34))))))), .int .i64 (wrap64 (t65019 + 4))] 113 (0, 0)) (by (with_reducible repeat (first | refine blk_drewN ?_ _ | refine blk_drew ?_ | refine blk_alloc ?_ _)); exact BK65009.out) k_ hk⟩)); (case aO => exact (by (with_reducible repeat (first | apply Kd.N_alloc | apply Kd.N_drewN | apply Kd.N_drew)); exact HO_9.out)); (case aS => exact (below_size (by repeat (first | (with_reducible first | exact HB.out | apply below_alloc | apply pw_below_drewN | apply below_drew1 | refine below_set ?_ GE65009.out) | exact HB.out)))); (case aL => have := LMc67.out; omega); intro v65026 w69 ho hb hg hat; rw [← Ny65025.out] at ho; have n0_ := Aside0.mk (Kd.V_afterv (ok := (fun k_ => (P0_ k_ ∨ w.heap.size ≤ k_) ∧ some k_ ≠ (u8 : Value).ownBlock ∧ k_ ≠ gb65009)) (by (with_reducible repeat (first | apply Kd.V_alloc | apply Kd.V_drewN | apply Kd.V_drew)); exact Kd.V_mono HO_0.out (fun _ hk => ⟨⟨hk.1, ⟨hk.2.1, hk.2.2.2⟩⟩, hk.2.2.1⟩)) hg hat); have n1_ := Aside0.mk (Kd.R_over' (by (with_reducible repeat (first | apply Kd.R_alloc | apply Kd.R_drewN | apply Kd.R_drew)); exact HO_8.out) (Kd.N_typed (by (with_reducible repeat (first | apply Kd.N_alloc | apply Kd.N_drewN | apply Kd.N_drew)); exact HO_9.out)) (by decide) hg); have n2_ := Aside0.mk (Kd.V_afterv (ok := (fun k_ => (P0_ k_ ∨ w.heap.size ≤ k_) ∧ some k_ ≠ (u8 : Value).ownBlock ∧ k_ ≠ gb65009)) (by (with_reducible repeat (first | apply Kd.V_alloc | apply Kd.V_drewN | apply Kd.V_drew)); exact Kd.V_mono HO_65010000.out (fun _ hk => ⟨⟨hk.1, ⟨hk.2.1, hk.2.2.2⟩⟩, hk.2.2.1⟩)) hg hat); have n3_ := Aside0.mk (blk_grown (g := gb65009) (o := .cells #[.slice A39 y65004.length c39, .int .i64 (wrap64 ((wrap64 (rd l0 (ji31))) + (wrap64 (256 * (wrap64 (rd l0 (ji34))))))), .int .i64 (wrap64 (t65019 + 4))] 113 (0, 0)) (by (with_reducible repeat (first | refine blk_drewN ?_ _ | refine blk_drew ?_ | refine blk_alloc ?_ _)); exact BK65009.out) hg (Kd.N_away HO_9.out (fun _ hk => hk.2.2))); have n4_ := Aside0.mk (hb); have n5_ := Aside0.mk (ho); clear HO_0; clear HO_8; clear HO_65010000; clear BK65009; clear HB; clear HO_9; have HO_0 := n0_; have HO_8 := n1_; have HO_65010000 := n2_; have BK65009 := n3_; have HB := n4_; have HO65027 := n5_; clear n0_ n1_ n2_ n3_ n4_ n5_; clear ho hb hg hat))
                                                            go_roundg k3
                                                            case measure => have := HK1.out; have := HJ36.out; have := HK3.out; omega
                                                            case rel => exact ⟨(x8_3), (y65025), (t65020), (by first | rfl | (simp; done) | (simp [*]; done)), H', ⟨by have := HK1.out; have := HJ36.out; have := HK3.out; omega⟩, ⟨by (with_reducible repeat (first | apply Kd.V_alloc | apply Kd.V_drewN | apply Kd.V_drew)); exact Kd.V_mono HO_0.out (fun _ hk => ⟨hk.1.1, ⟨hk.1.2.1, hk.2⟩⟩)⟩, ⟨by (with_reducible repeat (first | apply Kd.R_alloc | apply Kd.R_drewN | apply Kd.R_drew)); exact HO_8.out⟩, ⟨by (with_reducible repeat (first | apply Kd.N_alloc | apply Kd.N_drewN | apply Kd.N_drew)); exact Kd.N_mono HO65027.out (fun _ hk => ⟨hk.1, hk.2.1⟩)⟩, ⟨by repeat (first | (with_reducible first | exact HB.out | apply below_alloc | apply pw_below_drewN | apply below_drew1 | refine below_set ?_ GE65009.out) | exact HB.out)⟩⟩
                                                          · rw [if_neg c67] at H
                                                            exact absurd H (by simp)
                                              · rw [if_neg c51] at H
                                                exact absurd H (by simp)
                                            · rw [if_neg c50] at H
                                              exact absurd H (by simp)
                                    · rw [if_neg c36] at H
                                      exact absurd H (by simp)
                                  · rw [if_neg c35] at H
                                    exact absurd H (by simp)
                                · rw [if_neg c33] at H
                                  exact absurd H (by simp)
                              · rw [if_neg c32] at H
                                exact absurd H (by simp)
                        · rw [if_neg c15] at H
                          exact absurd H (by simp)
                      · rw [if_neg c14] at H
                        exact absurd H (by simp)
                    · rw [if_neg c13] at H
                      exact absurd H (by simp)
                  · rw [if_neg c12] at H
                    exact absurd H (by simp)
          · rw [if_neg c5] at H
            exact absurd H (by simp)
        · rw [if_neg c4] at H
          exact absurd H (by simp)

end Go.Proofs.Ytdlfflgcmgkmeaa.P

-- Written by a program of this session's own (wip/tools), over the translation. Not trusted: Lean checks it.
namespace Go.Proofs.Ytdlfflgcmgkmeaa.P
open Go.RowKit Go.Proofs.YtdlfflgcmgkmeaaW.PrintWords Go.Proofs.YtdlfflgcmgkmeaaW.PrintLast Go.Proofs.YtdlfflgcmgkmeaaW.PrintMore
attribute [local go_sem] max2_int min2_int max_two min_two max_three min_three max_four min_four   -- for this text's walks alone
set_option linter.unusedVariables false
set_option linter.unusedSimpArgs false

/-! ### portmanteauref06_Unpack: function 21 -/
def portmanteauref06_Unpack.j0 : Nat → List Int → Bool → Int → Bool → Option (List Int × Int)
  | 0, _, _, _, _ => none
  | k + 1, x0, x1, x2, x17 => if x17 = true then (some (([] : List Int), 1)) else (if x1 = true then ((portmanteauref05_Decode.f k x0 x2).bind fun bt22001 => (some (bt22001.1, bt22001.2.2.1))) else (if (x0.length : Int) > x2 then (some (([] : List Int), 2)) else (some (x0, 0))))
def portmanteauref06_Unpack.f (k : Nat) (l0 : List Int) (a1 : Bool) (a2 : Int) : Option (List Int × Int) := if a2 < 0 then (portmanteauref06_Unpack.j0 k l0 a1 a2 true) else (portmanteauref06_Unpack.j0 k l0 a1 a2 (decide (a2 > 1048576)))
theorem portmanteauref06_Unpack.mono_l : ∀ k, (∀ y0 y1 y2 y3, LeO (portmanteauref06_Unpack.j0 k y0 y1 y2 y3) (portmanteauref06_Unpack.j0 (k + 1) y0 y1 y2 y3))
  | 0 => fun _ _ _ _ r h => by simp [portmanteauref06_Unpack.j0] at h
  | k + 1 => by
    have ih0 := portmanteauref06_Unpack.mono_l k
    · intro y0 y1 y2 y3
      unfold portmanteauref06_Unpack.j0
      repeat' first
      | (with_reducible exact ih0 _ _ _ _)
      | (with_reducible exact portmanteauref05_Decode.mono _ _ _)
      | (with_reducible exact LeO.refl _)
      | (with_reducible exact LeO.none _)
      | (with_reducible refine LeO.ite ?_ ?_)
      | (with_reducible refine LeO.bind ?_ (fun _ => ?_))
      | exact ih0 _ _ _ _
      | exact portmanteauref05_Decode.mono _ _ _
      | exact LeO.none _
      | refine LeO.ite ?_ ?_
      | refine LeO.bind ?_ (fun _ => ?_)
theorem portmanteauref06_Unpack.mono : ∀ a0 a1 a2 k, LeO (portmanteauref06_Unpack.f k a0 a1 a2) (portmanteauref06_Unpack.f (k + 1) a0 a1 a2) := by
  intro a0 a1 a2 k
  have ih0 := portmanteauref06_Unpack.mono_l k
  unfold portmanteauref06_Unpack.f
  repeat' first
      | (with_reducible exact ih0 _ _ _ _)
      | (with_reducible exact portmanteauref05_Decode.mono _ _ _)
      | (with_reducible exact LeO.refl _)
      | (with_reducible exact LeO.none _)
      | (with_reducible refine LeO.ite ?_ ?_)
      | (with_reducible refine LeO.bind ?_ (fun _ => ?_))
      | exact ih0 _ _ _ _
      | exact portmanteauref05_Decode.mono _ _ _
      | exact LeO.none _
      | refine LeO.ite ?_ ?_
      | refine LeO.bind ?_ (fun _ => ?_)
set_option maxHeartbeats 8000000 in
set_option maxRecDepth 100000 in
theorem portmanteauref06_Unpack.calls (k : Nat) (P0_ : Nat → Prop) (A0 : Option Addr) (c0 : Nat) (l0 : List Int) (a1 : Bool) (a2 : Int) (r1 : List Int) (r2 : Int) (w : World) (hs0 : Kd.V (Kd.int .u8) 5 w w.heap.size (fun k_ => P0_ k_) (.slice A0 l0.length c0) l0) (h : portmanteauref06_Unpack.f k l0 a1 a2 = some (r1, r2)) :
    Calls Try.prog 21 #[.slice A0 l0.length c0, .bool a1, .int .i64 a2] w fun e w' => ∃ v0_ : Value, e = .returned (.tuple #[v0_, .int .i64 r2]) ∧ Kd.V (Kd.int .u8) 5 w' w.heap.size (fun k_ => (P0_ k_ ∨ w.heap.size ≤ k_)) v0_ r1 ∧ Below w.heap.size w w' := by
  have HO0 := Aside0.mk (show Kd.V (Kd.int .u8) 5 w w.heap.size (fun k_ => (P0_ k_ ∨ w.heap.size ≤ k_)) (.slice A0 l0.length c0) l0 from Kd.V_mono hs0 (fun k_ hk => .inl hk))
  have HB := Aside0.mk (Below.refl w.heap.size w)
  have H : (if a2 < 0 then (portmanteauref06_Unpack.j0 k l0 a1 a2 true) else (portmanteauref06_Unpack.j0 k l0 a1 a2 (decide (a2 > 1048576)))) = some (r1, r2) := h
  clear h
  have HC4 := Aside0.mk H
  clear H
  go_enter Try.func21, Try.ntmps21
  go_upto_region 1 with (fail)
  go_cut [17] (fun v17 wc => ∃ (kq : Nat) (x17_3 : Bool), v17 = .bool x17_3 ∧ Aside0 (portmanteauref06_Unpack.j0 kq l0 a1 a2 x17_3 = some (r1, r2)) ∧ Aside0 (kq ≤ k) ∧ Aside0 (Kd.V (Kd.int .u8) 5 wc w.heap.size (fun k_ => (P0_ k_ ∨ w.heap.size ≤ k_)) (.slice A0 l0.length c0) l0) ∧ Aside0 (Below w.heap.size w wc))
  case first =>
    have H := HC4.out
    clear HC4
    by_cases c5 : a2 < 0
    · rw [if_pos c5] at H
      have c5b0 : decide (a2 < 0) = true := decide_eq_true c5
      clear c5
      (first | rw [c5b0] | (simp only [i64_w, i32_w]; rw [c5b0]) | skip)
      have H' := Aside0.mk H
      clear H
      go_wp2
      go_meet
      case rel => exact ⟨_, (true), (by first | rfl | (simp; done) | (simp [*]; done)), H', ⟨by first | omega | exact Nat.le_refl _⟩, ⟨by (with_reducible repeat (first | apply Kd.V_alloc | apply Kd.V_drewN | apply Kd.V_drew)); exact HO0.out⟩, ⟨by repeat (first | (with_reducible first | exact HB.out | apply below_alloc | apply pw_below_drewN | apply below_drew1) | exact HB.out)⟩⟩
    · rw [if_neg c5] at H
      have c5b0 : decide (a2 < 0) = false := decide_eq_false c5
      clear c5
      (first | rw [c5b0] | (simp only [i64_w, i32_w]; rw [c5b0]) | skip)
      have H' := Aside0.mk H
      clear H
      go_wp2
      go_meet
      case rel => exact ⟨_, (decide (a2 > 1048576)), (by first | rfl | (simp; done) | (simp [*]; done)), H', ⟨by first | omega | exact Nat.le_refl _⟩, ⟨by (with_reducible repeat (first | apply Kd.V_alloc | apply Kd.V_drewN | apply Kd.V_drew)); exact HO0.out⟩, ⟨by repeat (first | (with_reducible first | exact HB.out | apply below_alloc | apply pw_below_drewN | apply below_drew1) | exact HB.out)⟩⟩
  case rest =>
    clear HC4
    try clear c2
    try clear p2
    try clear c5
    try clear c5b0
    obtain ⟨kq, x17_3, rfl, HA, HJ3, HO_0, HB⟩ := hcut
    cases kq with
    | zero => exact absurd HA.out (by simp [portmanteauref06_Unpack.j0])
    | succ kj3 =>
      have H := HA.out
      clear HA
      simp only [portmanteauref06_Unpack.j0] at H
      by_cases c6 : x17_3 = true
      · subst c6
        have H1 : (some (([] : List Int), 1)) = some (r1, r2) := by rw [if_pos rfl] at H; exact H
        clear H
        have H := H1
        clear H1
        simp only [Option.some.injEq, Prod.mk.injEq] at H
        obtain ⟨rfl, rfl⟩ := H
        go_wp2
        go_ret2
        exact ⟨_, by first | rfl | (simp [errW_none, errW_some] <;> rfl) | (simp [*, errW_none, errW_some] <;> rfl), Kd.V_nil _ _ _ _ _, by repeat (first | (with_reducible first | exact HB.out | apply below_alloc | apply pw_below_drewN | apply below_drew1) | exact HB.out)⟩
      · replace c6 := Bool.eq_false_iff.mpr c6
        subst c6
        have H1 : (if a1 = true then ((portmanteauref05_Decode.f kj3 l0 a2).bind fun bt22001 => (some (bt22001.1, bt22001.2.2.1))) else (if (l0.length : Int) > a2 then (some (([] : List Int), 2)) else (some (l0, 0)))) = some (r1, r2) := by rw [if_neg (show ¬ (false = true) by decide)] at H; exact H
        clear H
        have H := H1
        clear H1
        by_cases c7 : a1 = true
        · subst c7
          have H1 : ((portmanteauref05_Decode.f kj3 l0 a2).bind fun bt22001 => (some (bt22001.1, bt22001.2.2.1))) = some (r1, r2) := by rw [if_pos rfl] at H; exact H
          clear H
          have H := H1
          clear H1
          replace H := Option.bind_eq_some_iff.mp H
          obtain ⟨⟨t22001, t22004, t22007, t22008⟩, A80, H⟩ := H
          replace H : (some (t22001, t22007)) = some (r1, r2) := H
          have A8 := Aside0.mk A80
          clear A80
          simp only [Option.some.injEq, Prod.mk.injEq] at H
          obtain ⟨rfl, rfl⟩ := H
          go_wp2_with (first | ((with_reducible refine gate_callee (f := 64) rfl ?_); refine goesL_ (some 22) rfl rfl Try.func64 (by kernel_rfl) rfl #[.slice A0 l0.length c0, .int .i64 a2] rfl (by (try simp only [List.map_toArray, List.map_cons, List.map_nil]); first | done | rfl | (simp only [List.length_drop, List.length_take]; rfl)) ?_; (with_reducible refine (portmanteauref05_Decode.calls kj3 (fun k_ => (P0_ k_ ∨ w.heap.size ≤ k_)) _ _ l0 a2 t22001 t22004 t22007 t22008 _ ?side1 A8.out).mono ?_); (case side1 => exact HO_0.out); rintro e w9 ⟨v22002, v22005, rfl, ho0, ho1, hb⟩; refine ⟨_, rfl, ?_⟩; have n0_ := Aside0.mk (Kd.V_mono (Kd.V_told (Kd.V_told (Kd.V_old (by (with_reducible repeat (first | apply Kd.V_alloc | apply Kd.V_drewN | apply Kd.V_drew)); exact HO_0.out) hb) (Kd.R_base ho0)) (Kd.N_base ho1)) (fun _ h_ => h_.1)); have n1_ := Aside0.mk (Kd.R_lower (Kd.R_newM (M := fun k_ => (w.heap.size ≤ k_)) (Kd.R_mono (ok' := fun k_ => True) ho0 (fun _ hk_ => trivial)) (below_size (by repeat (first | (with_reducible first | exact HB.out | apply below_alloc | apply pw_below_drewN | apply below_drew1) | exact HB.out))) (fun k_ h_ => h_)) (below_size (by repeat (first | (with_reducible first | exact HB.out | apply below_alloc | apply pw_below_drewN | apply below_drew1) | exact HB.out)))); have n2_ := Aside0.mk (Kd.N_lower (Kd.N_mono (ok' := fun k_ => (P0_ k_ ∨ w.heap.size ≤ k_) ∧ some k_ ≠ (v22002 : Value).ownBlock) ho1 (fun k_ hk_ => ⟨Or.elim hk_.1 (fun hs_ => hs_) (fun hn_ => (.inr (Nat.le_trans (below_size (by repeat (first | (with_reducible first | exact HB.out | apply below_alloc | apply pw_below_drewN | apply below_drew1) | exact HB.out))) hn_))), hk_.2⟩)) (below_size (by repeat (first | (with_reducible first | exact HB.out | apply below_alloc | apply pw_below_drewN | apply below_drew1) | exact HB.out)))); have n3_ := Aside0.mk (below_step (by repeat (first | (with_reducible first | exact HB.out | apply below_alloc | apply pw_below_drewN | apply below_drew1) | exact HB.out)) hb); clear HO_0; clear HB; have HO_0 := n0_; have HO22003 := n1_; have HO22006 := n2_; have HB := n3_; clear n0_ n1_ n2_ n3_; (try clear hb); (try clear hb2); (try clear hk); (try clear hi); (try clear ho0); (try clear ho1)))
          go_ret2
          exact ⟨_, by first | rfl | (simp [errW_none, errW_some] <;> rfl) | (simp [*, errW_none, errW_some] <;> rfl), Kd.V_mono (Kd.R_V (by (with_reducible repeat (first | apply Kd.R_alloc | apply Kd.R_drewN | apply Kd.R_drew)); exact Kd.R_mono HO22003.out (fun _ hk => hk.1))) (fun k_ hk => by first | exact ⟨(.inr (hk.1)), hk.2⟩ | exact (.inr (hk))), by repeat (first | (with_reducible first | exact HB.out | apply below_alloc | apply pw_below_drewN | apply below_drew1) | exact HB.out)⟩
        · replace c7 := Bool.eq_false_iff.mpr c7
          subst c7
          have H1 : (if (l0.length : Int) > a2 then (some (([] : List Int), 2)) else (some (l0, 0))) = some (r1, r2) := by rw [if_neg (show ¬ (false = true) by decide)] at H; exact H
          clear H
          have H := H1
          clear H1
          by_cases c10 : (l0.length : Int) > a2
          · rw [if_pos c10] at H
            have c10b0 : decide (a2 < (l0.length : Int)) = true := decide_eq_true c10
            clear c10
            simp only [Option.some.injEq, Prod.mk.injEq] at H
            obtain ⟨rfl, rfl⟩ := H
            go_wp2
            go_ret2
            exact ⟨_, by first | rfl | (simp [errW_none, errW_some] <;> rfl) | (simp [*, errW_none, errW_some] <;> rfl), Kd.V_nil _ _ _ _ _, by repeat (first | (with_reducible first | exact HB.out | apply below_alloc | apply pw_below_drewN | apply below_drew1) | exact HB.out)⟩
          · rw [if_neg c10] at H
            have c10b0 : decide (a2 < (l0.length : Int)) = false := decide_eq_false c10
            clear c10
            simp only [Option.some.injEq, Prod.mk.injEq] at H
            obtain ⟨rfl, rfl⟩ := H
            go_wp2
            go_ret2
            exact ⟨_, by first | rfl | (simp [errW_none, errW_some] <;> rfl) | (simp [*, errW_none, errW_some] <;> rfl), by (with_reducible repeat (first | apply Kd.V_alloc | apply Kd.V_drewN | apply Kd.V_drew)); exact HO_0.out, by repeat (first | (with_reducible first | exact HB.out | apply below_alloc | apply pw_below_drewN | apply below_drew1) | exact HB.out)⟩

end Go.Proofs.Ytdlfflgcmgkmeaa.P

-- Written by a program of this session's own (wip/tools), over the translation. Not trusted: Lean checks it.
namespace Go.Proofs.Ytdlfflgcmgkmeaa.P
open Go.RowKit Go.Proofs.YtdlfflgcmgkmeaaW.PrintWords Go.Proofs.YtdlfflgcmgkmeaaW.PrintLast Go.Proofs.YtdlfflgcmgkmeaaW.PrintMore
attribute [local go_sem] max2_int min2_int max_two min_two max_three min_three max_four min_four   -- for this text's walks alone
set_option linter.unusedVariables false
set_option linter.unusedSimpArgs false

/-! ### portmanteaulaw06_MatchUnpacks: function 3 -/
mutual
def portmanteaulaw06_MatchUnpacks.j0 : Nat → List Int → List Int → List Int → Bool → Option (Bool)
  | 0, _, _, _, _ => none
  | k + 1, x0, x7, x8, x44 => if x44 = true then (some false) else (portmanteaulaw06_MatchUnpacks.l0 k x0 x7 x8 0)
def portmanteaulaw06_MatchUnpacks.l0 : Nat → List Int → List Int → List Int → Int → Option (Bool)
  | 0, _, _, _, _ => none
  | k + 1, x0, x7, x8, x12 => if x12 < (x8.length : Int) then (if 0 ≤ x12 then (portmanteaulaw06_MatchUnpacks.l0 k x0 x7 (x8.set (x12 : Int).toNat (((rd x8 x12) + 1) % 256)) (wrap64 (x12 + 1))) else (none)) else (if (strOfNums x7).toList = (strOfNums x0).toList then ((portmanteaulaw06_live.f k).bind fun t4019 => (some t4019)) else (some false))
end
def portmanteaulaw06_MatchUnpacks.f (k : Nat) (l0 : List Int) (a1 : Bool) (a2 : Int) : Option (Bool) := if (l0.length : Int) > 5000 then ((portmanteaulaw06_live.f k).bind fun t4001 => (some t4001)) else ((some (([] : List Int) : List Int)).bind fun y4002 => (if y4002.length + l0.length < 140737488355328 then ((some (y4002 ++ l0 : List Int)).bind fun y4005 => ((match_Unpack.f k y4005 a1 a2).bind fun bt4008 => ((portmanteauref06_Unpack.f k l0 a1 a2).bind fun bt4012 => (if (strOfNums bt4008.1).toList = (strOfNums bt4012.1).toList then ((portmanteaulaw06_num.f bt4008.2).bind fun t4016 => (portmanteaulaw06_MatchUnpacks.j0 k l0 y4005 bt4008.1 (t4016 != bt4012.2))) else (portmanteaulaw06_MatchUnpacks.j0 k l0 y4005 bt4008.1 true))))) else (none)))
theorem portmanteaulaw06_MatchUnpacks.mono_l : ∀ k, (∀ y0 y1 y2 y3, LeO (portmanteaulaw06_MatchUnpacks.j0 k y0 y1 y2 y3) (portmanteaulaw06_MatchUnpacks.j0 (k + 1) y0 y1 y2 y3)) ∧ (∀ y0 y1 y2 y3, LeO (portmanteaulaw06_MatchUnpacks.l0 k y0 y1 y2 y3) (portmanteaulaw06_MatchUnpacks.l0 (k + 1) y0 y1 y2 y3))
  | 0 => ⟨fun _ _ _ _ r h => by simp [portmanteaulaw06_MatchUnpacks.j0] at h, fun _ _ _ _ r h => by simp [portmanteaulaw06_MatchUnpacks.l0] at h⟩
  | k + 1 => by
    obtain ⟨ih0, ih1⟩ := portmanteaulaw06_MatchUnpacks.mono_l k
    refine ⟨?_, ?_⟩
    · intro y0 y1 y2 y3
      unfold portmanteaulaw06_MatchUnpacks.j0
      repeat' first
      | (with_reducible exact ih0 _ _ _ _)
      | (with_reducible exact ih1 _ _ _ _)
      | (with_reducible exact match_Unpack.mono _ _ _ _)
      | (with_reducible exact portmanteaulaw06_live.mono _)
      | (with_reducible exact portmanteauref06_Unpack.mono _ _ _ _)
      | (with_reducible exact LeO.refl _)
      | (with_reducible exact LeO.none _)
      | (with_reducible refine LeO.ite ?_ ?_)
      | (with_reducible refine LeO.bind ?_ (fun _ => ?_))
      | exact ih0 _ _ _ _
      | exact ih1 _ _ _ _
      | exact match_Unpack.mono _ _ _ _
      | exact portmanteaulaw06_live.mono _
      | exact portmanteauref06_Unpack.mono _ _ _ _
      | exact LeO.none _
      | refine LeO.ite ?_ ?_
      | refine LeO.bind ?_ (fun _ => ?_)
    · intro y0 y1 y2 y3
      unfold portmanteaulaw06_MatchUnpacks.l0
      repeat' first
      | (with_reducible exact ih0 _ _ _ _)
      | (with_reducible exact ih1 _ _ _ _)
      | (with_reducible exact match_Unpack.mono _ _ _ _)
      | (with_reducible exact portmanteaulaw06_live.mono _)
      | (with_reducible exact portmanteauref06_Unpack.mono _ _ _ _)
      | (with_reducible exact LeO.refl _)
      | (with_reducible exact LeO.none _)
      | (with_reducible refine LeO.ite ?_ ?_)
      | (with_reducible refine LeO.bind ?_ (fun _ => ?_))
      | exact ih0 _ _ _ _
      | exact ih1 _ _ _ _
      | exact match_Unpack.mono _ _ _ _
      | exact portmanteaulaw06_live.mono _
      | exact portmanteauref06_Unpack.mono _ _ _ _
      | exact LeO.none _
      | refine LeO.ite ?_ ?_
      | refine LeO.bind ?_ (fun _ => ?_)
theorem portmanteaulaw06_MatchUnpacks.mono : ∀ a0 a1 a2 k, LeO (portmanteaulaw06_MatchUnpacks.f k a0 a1 a2) (portmanteaulaw06_MatchUnpacks.f (k + 1) a0 a1 a2) := by
  intro a0 a1 a2 k
  obtain ⟨ih0, ih1⟩ := portmanteaulaw06_MatchUnpacks.mono_l k
  unfold portmanteaulaw06_MatchUnpacks.f
  repeat' first
      | (with_reducible exact ih0 _ _ _ _)
      | (with_reducible exact ih1 _ _ _ _)
      | (with_reducible exact match_Unpack.mono _ _ _ _)
      | (with_reducible exact portmanteaulaw06_live.mono _)
      | (with_reducible exact portmanteauref06_Unpack.mono _ _ _ _)
      | (with_reducible exact LeO.refl _)
      | (with_reducible exact LeO.none _)
      | (with_reducible refine LeO.ite ?_ ?_)
      | (with_reducible refine LeO.bind ?_ (fun _ => ?_))
      | exact ih0 _ _ _ _
      | exact ih1 _ _ _ _
      | exact match_Unpack.mono _ _ _ _
      | exact portmanteaulaw06_live.mono _
      | exact portmanteauref06_Unpack.mono _ _ _ _
      | exact LeO.none _
      | refine LeO.ite ?_ ?_
      | refine LeO.bind ?_ (fun _ => ?_)
set_option maxHeartbeats 8000000 in
set_option maxRecDepth 100000 in
theorem portmanteaulaw06_MatchUnpacks.calls (k : Nat) (A0 : Option Addr) (c0 : Nat) (l0 : List Int) (a1 : Bool) (a2 : Int) (r : Bool) (w : World) (hr0 : Kd.C (Kd.int .u8) w A0 l0.length l0) (hc0 : l0.length ≤ c0) (h : portmanteaulaw06_MatchUnpacks.f k l0 a1 a2 = some r) :
    Calls Try.prog 3 #[.slice A0 l0.length c0, .bool a1, .int .i64 a2] w fun e w' => e = .returned (.bool r) ∧ Below w.heap.size w w' := by
  have HR0 := Aside0.mk hr0
  have HC0 := Aside0.mk hc0
  clear hr0 hc0
  have HB := Aside0.mk (Below.refl w.heap.size w)
  have H : (if (l0.length : Int) > 5000 then ((portmanteaulaw06_live.f k).bind fun t4001 => (some t4001)) else ((some (([] : List Int) : List Int)).bind fun y4002 => (if y4002.length + l0.length < 140737488355328 then ((some (y4002 ++ l0 : List Int)).bind fun y4005 => ((match_Unpack.f k y4005 a1 a2).bind fun bt4008 => ((portmanteauref06_Unpack.f k l0 a1 a2).bind fun bt4012 => (if (strOfNums bt4008.1).toList = (strOfNums bt4012.1).toList then ((portmanteaulaw06_num.f bt4008.2).bind fun t4016 => (portmanteaulaw06_MatchUnpacks.j0 k l0 y4005 bt4008.1 (t4016 != bt4012.2))) else (portmanteaulaw06_MatchUnpacks.j0 k l0 y4005 bt4008.1 true))))) else (none)))) = some r := h
  clear h
  by_cases c4 : (l0.length : Int) > 5000
  · rw [if_pos c4] at H
    have c4b0 : decide (5000 < (l0.length : Int)) = true := decide_eq_true c4
    have c4b1 : decide (5000 < l0.length) = true := decide_eq_true (by omega)
    clear c4
    replace H := Option.bind_eq_some_iff.mp H
    obtain ⟨t4001, A50, H⟩ := H
    replace H : (some t4001) = some r := H
    have A5 := Aside0.mk A50
    clear A50
    obtain rfl := Option.some.inj H
    go_enter Try.func3, Try.ntmps3
    go_wp2_with (first | ((with_reducible refine gate_callee (f := 19) rfl ?_); refine goesL_ (some 16) rfl rfl Try.func19 (by kernel_rfl) rfl #[] rfl (by (try simp only [List.map_toArray, List.map_cons, List.map_nil]); first | done | rfl | (simp only [List.length_drop, List.length_take]; rfl)) ?_; (with_reducible refine (portmanteaulaw06_live.calls k  t4001 _ A5.out).mono ?_); rintro e w6 ⟨rfl, hb⟩; refine ⟨_, rfl, ?_⟩; have n0_ := Aside0.mk (below_step (by repeat (first | (with_reducible first | exact HB.out | apply below_alloc | apply pw_below_drewN | apply below_drew1) | exact HB.out)) hb); clear HB; have HB := n0_; clear n0_; (try clear hb); (try clear hb2); (try clear hk); (try clear hi)))
    go_ret
    exact ⟨by first | rfl | (simp [errW_none, errW_some] <;> rfl) | (simp [*, errW_none, errW_some] <;> rfl), by repeat (first | (with_reducible first | exact HB.out | apply below_alloc | apply pw_below_drewN | apply below_drew1) | exact HB.out)⟩
  · rw [if_neg c4] at H
    have c4b0 : decide (5000 < (l0.length : Int)) = false := decide_eq_false c4
    have c4b1 : decide (5000 < l0.length) = false := decide_eq_false (by omega)
    clear c4
    obtain ⟨y4002, hy4002⟩ : ∃ y_ : List Int, y_ = (([] : List Int)) := ⟨_, rfl⟩
    replace H : (if y4002.length + l0.length < 140737488355328 then ((some (y4002 ++ l0 : List Int)).bind fun y4005 => ((match_Unpack.f k y4005 a1 a2).bind fun bt4008 => ((portmanteauref06_Unpack.f k l0 a1 a2).bind fun bt4012 => (if (strOfNums bt4008.1).toList = (strOfNums bt4012.1).toList then ((portmanteaulaw06_num.f bt4008.2).bind fun t4016 => (portmanteaulaw06_MatchUnpacks.j0 k l0 y4005 bt4008.1 (t4016 != bt4012.2))) else (portmanteaulaw06_MatchUnpacks.j0 k l0 y4005 bt4008.1 true))))) else (none)) = some r := by first | (rw [hy4002]; with_reducible exact H) | (have H2_ := (Option.bind_some _ _).symm.trans H; rw [hy4002]; with_reducible exact H2_) | (have H2_ := (Option.bind_some _ _).symm.trans H; with_reducible exact H2_) | with_reducible exact H | (rw [hy4002]; exact H) | exact H
    have Ny4002 := Aside0.mk hy4002
    clear hy4002
    by_cases c7 : y4002.length + l0.length < 140737488355328
    · rw [if_pos c7] at H
      have LMc7 := Aside0.mk c7
      clear c7
      obtain ⟨y4005, hy4005⟩ : ∃ y_ : List Int, y_ = (y4002 ++ l0) := ⟨_, rfl⟩
      replace H : ((match_Unpack.f k y4005 a1 a2).bind fun bt4008 => ((portmanteauref06_Unpack.f k l0 a1 a2).bind fun bt4012 => (if (strOfNums bt4008.1).toList = (strOfNums bt4012.1).toList then ((portmanteaulaw06_num.f bt4008.2).bind fun t4016 => (portmanteaulaw06_MatchUnpacks.j0 k l0 y4005 bt4008.1 (t4016 != bt4012.2))) else (portmanteaulaw06_MatchUnpacks.j0 k l0 y4005 bt4008.1 true)))) = some r := by first | (rw [hy4005]; with_reducible exact H) | (have H2_ := (Option.bind_some _ _).symm.trans H; rw [hy4005]; with_reducible exact H2_) | (have H2_ := (Option.bind_some _ _).symm.trans H; with_reducible exact H2_) | with_reducible exact H | (rw [hy4005]; exact H) | exact H
      have Ny4005 := Aside0.mk hy4005
      clear hy4005
      replace H := Option.bind_eq_some_iff.mp H
      obtain ⟨⟨t4008, t4009⟩, A80, H⟩ := H
      replace H : ((portmanteauref06_Unpack.f k l0 a1 a2).bind fun bt4012 => (if (strOfNums t4008).toList = (strOfNums bt4012.1).toList then ((portmanteaulaw06_num.f t4009).bind fun t4016 => (portmanteaulaw06_MatchUnpacks.j0 k l0 y4005 t4008 (t4016 != bt4012.2))) else (portmanteaulaw06_MatchUnpacks.j0 k l0 y4005 t4008 true))) = some r := H
      have A8 := Aside0.mk A80
      clear A80
      replace H := Option.bind_eq_some_iff.mp H
      obtain ⟨⟨t4012, t4015⟩, A90, H⟩ := H
      replace H : (if (strOfNums t4008).toList = (strOfNums t4012).toList then ((portmanteaulaw06_num.f t4009).bind fun t4016 => (portmanteaulaw06_MatchUnpacks.j0 k l0 y4005 t4008 (t4016 != t4015))) else (portmanteaulaw06_MatchUnpacks.j0 k l0 y4005 t4008 true)) = some r := H
      have A9 := Aside0.mk A90
      clear A90
      have HC10 := Aside0.mk H
      clear H
      go_enter Try.func3, Try.ntmps3
      go_upto_region 6 with (first | ((with_reducible refine gate_dst (N := 17) rfl ?_); refine Kd.R_lit (Kd.int .u8) _ 5 ?hg (N := 17) ?hd (xs := ([] : List Int)) (inner := []) (ok := fun _ => True) (okp := fun _ => True) ?hr ?hp (fun _ hk => hk) trivial (Below.refl _ _) (Nat.le_refl _) (by simp) ?_; (case hd => rfl); (case hg => rfl); (case hr => first | (go_simp; done) | (go_simp; rfl)); (case hp => exact (Reps.none _ _)); intro v4003 w11 ho12 hb hg_ hnew_; clear hg_ hnew_; (first | rw [← Ny4002.out] at ho12 | (simp only [Int.reduceToNat] at ho12; rw [← Ny4002.out] at ho12)); have n0_ := Aside0.mk (Kd.R_lower ho12 (below_size (by repeat (first | (with_reducible first | exact HB.out | apply below_alloc | apply pw_below_drewN | apply below_drew1) | exact HB.out)))); have n1_ := Aside0.mk (below_step (by repeat (first | (with_reducible first | exact HB.out | apply below_alloc | apply pw_below_drewN | apply below_drew1) | exact HB.out)) hb); clear HB; have HO4004 := n0_; have HB := n1_; clear n0_ n1_; clear hb ho12) | ((with_reducible refine gate_builtin (b := .append) (xs := #[.tmp 17, .tmp 18]) rfl ?_); at_builtin; refine Kd.R_append_rows (Kd.int .u8) (w0 := w) w.heap.size rfl (.tmp 17) (.tmp 18) 22 5 (.int .u8 0) 1 rfl Try.underlying22 info5 rfl (by decide) (by omega) v4003 y4002 l0 _ _ _ (fun _ => True) (fun _ => False) rfl rfl ?aO ?aR (fun _ _ h => h) (fun _ h => h.elim) ?aF ?aB ?aS ?aL ?_; (case aR => repeat (first | exact (Kd.C_below HR0.out HB.out) | (with_reducible refine Kd.C_alloc ?_ _) | (with_reducible refine Kd.C_drewN ?_ _) | (with_reducible refine Kd.C_drew ?_))); (case aB => exact (by repeat (first | (with_reducible first | exact HB.out | apply below_alloc | apply pw_below_drewN | apply below_drew1) | exact HB.out))); (case aF => exact (fun _ _ => trivial)); (case aO => exact (by (with_reducible repeat (first | apply Kd.R_alloc | apply Kd.R_drewN | apply Kd.R_drew)); exact HO4004.out)); (case aS => exact (below_size (by repeat (first | (with_reducible first | exact HB.out | apply below_alloc | apply pw_below_drewN | apply below_drew1) | exact HB.out)))); (case aL => have := LMc7.out; omega); intro v4006 w13 ho hb hg hat; rw [← Ny4005.out] at ho; have n0_ := Aside0.mk (hb); have n1_ := Aside0.mk (ho); clear HB; clear HO4004; have HB := n0_; have HO4007 := n1_; clear n0_ n1_; clear ho hb hg hat; obtain ⟨Ao14, co14, eo14⟩ := Kd.R_slice HO4007.out; subst eo14) | ((with_reducible refine gate_callee (f := 20) rfl ?_); refine goesL_ (some 24) rfl rfl Try.func20 (by kernel_rfl) rfl #[.slice Ao14 y4005.length co14, .bool a1, .int .i64 a2] rfl (by (try simp only [List.map_toArray, List.map_cons, List.map_nil]); first | done | rfl | (simp only [List.length_drop, List.length_take]; rfl)) ?_; (with_reducible refine (match_Unpack.calls k _ _ y4005 a1 a2 t4008 t4009 _ ?side1 ?side2 A8.out).mono ?_); (case side1 => repeat (first | exact (Kd.R_reads' HO4007.out).2.2 | (with_reducible refine Kd.C_alloc ?_ _) | (with_reducible refine Kd.C_drewN ?_ _) | (with_reducible refine Kd.C_drew ?_))); (case side2 => exact (Kd.R_reads' HO4007.out).2.1); rintro e w15 ⟨v4010, rfl, ho0, hb⟩; refine ⟨_, rfl, ?_⟩; have n0_ := Aside0.mk (Kd.R_elder' (by (with_reducible repeat (first | apply Kd.R_alloc | apply Kd.R_drewN | apply Kd.R_drew)); exact HO4007.out) (Kd.R_base ho0) hb); have n1_ := Aside0.mk (Kd.R_lower (Kd.R_new' ho0 (Kd.R_lt (by (with_reducible repeat (first | apply Kd.R_alloc | apply Kd.R_drewN | apply Kd.R_drew)); exact HO4007.out))) (below_size (by repeat (first | (with_reducible first | exact HB.out | apply below_alloc | apply pw_below_drewN | apply below_drew1) | exact HB.out)))); have n2_ := Aside0.mk (below_step (by repeat (first | (with_reducible first | exact HB.out | apply below_alloc | apply pw_below_drewN | apply below_drew1) | exact HB.out)) hb); clear HO4007; clear HB; have HO4007 := n0_; have HO4011 := n1_; have HB := n2_; clear n0_ n1_ n2_; (try clear hb); (try clear hb2); (try clear hk); (try clear hi); (try clear ho0)) | ((with_reducible refine gate_callee (f := 21) rfl ?_); refine goesL_ (some 31) rfl rfl Try.func21 (by kernel_rfl) rfl #[.slice A0 l0.length c0, .bool a1, .int .i64 a2] rfl (by (try simp only [List.map_toArray, List.map_cons, List.map_nil]); first | done | rfl | (simp only [List.length_drop, List.length_take]; rfl)) ?_; (with_reducible refine (portmanteauref06_Unpack.calls k (fun k_ => k_ < w.heap.size) _ _ l0 a1 a2 t4012 t4015 _ ?side1 A9.out).mono ?_); (case side1 => exact Kd.V_mk HC0.out (Kd.F_below (Kd.C_F (Kd.heap_int .u8) HR0.out) (by repeat (first | (with_reducible first | exact HB.out | apply below_alloc | apply pw_below_drewN | apply below_drew1) | exact HB.out)))); rintro e w16 ⟨v4013, rfl, ho0, hb⟩; refine ⟨_, rfl, ?_⟩; have n0_ := Aside0.mk (Kd.R_below (by (with_reducible repeat (first | apply Kd.R_alloc | apply Kd.R_drewN | apply Kd.R_drew)); exact HO4007.out) hb); have n1_ := Aside0.mk (Kd.R_below (by (with_reducible repeat (first | apply Kd.R_alloc | apply Kd.R_drewN | apply Kd.R_drew)); exact HO4011.out) hb); have n2_ := Aside0.mk (Kd.V_lower (Kd.V_mono (ok' := fun k_ => some k_ ≠ (.slice Ao14 y4005.length co14 : Value).ownBlock ∧ some k_ ≠ (v4010 : Value).ownBlock) ho0 (fun k_ hk_ => ⟨Or.elim hk_ (fun hs_ => fun e_ => Nat.not_le.2 hs_ (Kd.R_base HO4007.out k_ e_.symm)) (fun hn_ => (Kd.fresh' (Kd.R_lt (by (with_reducible repeat (first | apply Kd.R_alloc | apply Kd.R_drewN | apply Kd.R_drew)); exact HO4007.out)) k_ hn_)), Or.elim hk_ (fun hs_ => fun e_ => Nat.not_le.2 hs_ (Kd.R_base HO4011.out k_ e_.symm)) (fun hn_ => (Kd.fresh' (Kd.R_lt (by (with_reducible repeat (first | apply Kd.R_alloc | apply Kd.R_drewN | apply Kd.R_drew)); exact HO4011.out)) k_ hn_))⟩)) (below_size (by repeat (first | (with_reducible first | exact HB.out | apply below_alloc | apply pw_below_drewN | apply below_drew1) | exact HB.out)))); have n3_ := Aside0.mk (below_step (by repeat (first | (with_reducible first | exact HB.out | apply below_alloc | apply pw_below_drewN | apply below_drew1) | exact HB.out)) hb); clear HO4007; clear HO4011; clear HB; have HO4007 := n0_; have HO4011 := n1_; have HO4014 := n2_; have HB := n3_; clear n0_ n1_ n2_ n3_; (try clear hb); (try clear hb2); (try clear hk); (try clear hi); (try clear ho0)))
      (try simp only [Act.put, List.setIfInBounds_toArray, List.set_cons_zero, List.set_cons_succ])
      go_cut [44] (fun v44 wc => ∃ (kq : Nat) (x44_9 : Bool), v44 = .bool x44_9 ∧ Aside0 (portmanteaulaw06_MatchUnpacks.j0 kq l0 y4005 t4008 x44_9 = some r) ∧ Aside0 (kq ≤ k) ∧ Aside0 (Kd.R (Kd.int .u8) 5 wc w.heap.size (fun k_ => some k_ ≠ (v4010 : Value).ownBlock) (.slice Ao14 y4005.length co14) y4005) ∧ Aside0 (Kd.R (Kd.int .u8) 5 wc w.heap.size (fun k_ => some k_ ≠ ((.slice Ao14 y4005.length co14) : Value).ownBlock) v4010 t4008) ∧ Aside0 (Below w.heap.size w wc))
      case first =>
        have H := HC10.out
        clear HC10
        by_cases c17 : (strOfNums t4008).toList = (strOfNums t4012).toList
        · rw [if_pos c17] at H
          have c17b0 : ((strOfNums t4008).toList == (strOfNums t4012).toList) = true := beq_iff_eq.mpr c17
          have c17b1 : ((strOfNums t4008).toList != (strOfNums t4012).toList) = false := bne_eq_false_iff_eq.mpr c17
          clear c17
          (first | rw [c17b0] | (simp only [i64_w, i32_w]; rw [c17b0]) | skip)
          replace H := Option.bind_eq_some_iff.mp H
          obtain ⟨t4016, A180, H⟩ := H
          replace H : (portmanteaulaw06_MatchUnpacks.j0 k l0 y4005 t4008 (t4016 != t4015)) = some r := H
          have A18 := Aside0.mk A180
          clear A180
          have H' := Aside0.mk H
          clear H
          have hcv19 := own_string (P := Try.prog) Try.underlying22 Try.underlying5 Try.underlying9 (Kd.own_of_R HO4011.out)
          have hcv20 := fun n_ => own_string (P := Try.prog) Try.underlying22 Try.underlying5 Try.underlying9 (Kd.own_of_R (Kd.R_drewN HO4011.out n_))
          obtain ⟨Ao21, co21, eo21⟩ := Kd.V_slice HO4014.out
          subst eo21
          have hcv22 := Kd.C_string (P := Try.prog) (A := Ao21) (c := co21) Try.underlying22 Try.underlying5 Try.underlying9 (Kd.V_reads' HO4014.out).2.2
          have hcv23 := fun n_ => Kd.C_string (P := Try.prog) (A := Ao21) (c := co21) Try.underlying22 Try.underlying5 Try.underlying9 (Kd.C_drewN (Kd.V_reads' HO4014.out).2.2 n_)
          go_wp2_with (first | (go_at_call 22; (with_reducible refine (portmanteaulaw06_num.calls t4009 t4016 _ A18.out).mono ?_); rintro e w' ⟨rfl, ⟨nd, rfl⟩⟩))
          go_meet
          case rel => exact ⟨_, ((t4016 != t4015)), (by first | rfl | (simp; done) | (simp [*]; done)), H', ⟨by first | omega | exact Nat.le_refl _⟩, ⟨by (with_reducible repeat (first | apply Kd.R_alloc | apply Kd.R_drewN | apply Kd.R_drew)); exact Kd.R_mono HO4007.out (fun _ hk => hk.2)⟩, ⟨by (with_reducible repeat (first | apply Kd.R_alloc | apply Kd.R_drewN | apply Kd.R_drew)); exact Kd.R_mono HO4011.out (fun _ hk => hk.2)⟩, ⟨by repeat (first | (with_reducible first | exact HB.out | apply below_alloc | apply pw_below_drewN | apply below_drew1) | exact HB.out)⟩⟩
        · rw [if_neg c17] at H
          have c17b0 : ((strOfNums t4008).toList == (strOfNums t4012).toList) = false := beq_eq_false_iff_ne.mpr c17
          have c17b1 : ((strOfNums t4008).toList != (strOfNums t4012).toList) = true := bne_iff_ne.mpr c17
          (first | rw [c17b0] | (simp only [i64_w, i32_w]; rw [c17b0]) | skip)
          have H' := Aside0.mk H
          clear H
          have hcv24 := own_string (P := Try.prog) Try.underlying22 Try.underlying5 Try.underlying9 (Kd.own_of_R HO4011.out)
          have hcv25 := fun n_ => own_string (P := Try.prog) Try.underlying22 Try.underlying5 Try.underlying9 (Kd.own_of_R (Kd.R_drewN HO4011.out n_))
          obtain ⟨Ao26, co26, eo26⟩ := Kd.V_slice HO4014.out
          subst eo26
          have hcv27 := Kd.C_string (P := Try.prog) (A := Ao26) (c := co26) Try.underlying22 Try.underlying5 Try.underlying9 (Kd.V_reads' HO4014.out).2.2
          have hcv28 := fun n_ => Kd.C_string (P := Try.prog) (A := Ao26) (c := co26) Try.underlying22 Try.underlying5 Try.underlying9 (Kd.C_drewN (Kd.V_reads' HO4014.out).2.2 n_)
          go_wp2
          go_meet
          case rel => exact ⟨_, (true), (by first | rfl | (simp; done) | (simp [*]; done)), H', ⟨by first | omega | exact Nat.le_refl _⟩, ⟨by (with_reducible repeat (first | apply Kd.R_alloc | apply Kd.R_drewN | apply Kd.R_drew)); exact Kd.R_mono HO4007.out (fun _ hk => hk.2)⟩, ⟨by (with_reducible repeat (first | apply Kd.R_alloc | apply Kd.R_drewN | apply Kd.R_drew)); exact Kd.R_mono HO4011.out (fun _ hk => hk.2)⟩, ⟨by repeat (first | (with_reducible first | exact HB.out | apply below_alloc | apply pw_below_drewN | apply below_drew1) | exact HB.out)⟩⟩
      case rest =>
        clear HC10
        try clear c1
        try clear hcv1
        try clear c2
        try clear p2
        try clear hcv2
        try clear c3
        try clear c4
        try clear c4b0
        try clear c4b1
        try clear c7
        try clear c17
        try clear c17b0
        try clear c17b1
        try clear c19
        try clear hcv19
        try clear c20
        try clear hcv20
        try clear c21
        try clear hcv22
        try clear hcv23
        try clear hcv24
        try clear hcv25
        try clear hcv27
        try clear hcv28
        obtain ⟨kq, x44_9, rfl, HA, HJ9, HO_7, HO_8, HB⟩ := hcut
        cases kq with
        | zero => exact absurd HA.out (by simp [portmanteaulaw06_MatchUnpacks.j0])
        | succ kj9 =>
          have H := HA.out
          clear HA
          simp only [portmanteaulaw06_MatchUnpacks.j0] at H
          by_cases c29 : x44_9 = true
          · subst c29
            have H1 : (some false) = some r := by rw [if_pos rfl] at H; exact H
            clear H
            have H := H1
            clear H1
            obtain rfl := Option.some.inj H
            go_wp2
            go_ret
            exact ⟨by first | rfl | (simp [errW_none, errW_some] <;> rfl) | (simp [*, errW_none, errW_some] <;> rfl), by repeat (first | (with_reducible first | exact HB.out | apply below_alloc | apply pw_below_drewN | apply below_drew1) | exact HB.out)⟩
          · replace c29 := Bool.eq_false_iff.mpr c29
            subst c29
            have H1 : (portmanteaulaw06_MatchUnpacks.l0 kj9 l0 y4005 t4008 0) = some r := by rw [if_neg (show ¬ (false = true) by decide)] at H; exact H
            clear H
            have H := H1
            clear H1
            have H' := Aside0.mk H
            clear H
            go_wp2
            go_loopg [12] kj9 (fun kq v12 w' => ∃ (x8_2 : List Int) (x12_2 : Int), v12 = .int .i64 x12_2 ∧ Aside0 (portmanteaulaw06_MatchUnpacks.l0 kq l0 y4005 x8_2 x12_2 = some r) ∧ Aside0 (kq ≤ kj9) ∧ Aside0 (Kd.R (Kd.int .u8) 5 w' w.heap.size (fun k_ => some k_ ≠ (v4010 : Value).ownBlock) (.slice Ao14 y4005.length co14) y4005) ∧ Aside0 (Kd.R (Kd.int .u8) 5 w' w.heap.size (fun k_ => some k_ ≠ ((.slice Ao14 y4005.length co14) : Value).ownBlock) v4010 x8_2) ∧ Aside0 (Below w.heap.size w w'))
            case atStart => exact ⟨(t4008), (0), (by first | rfl | (simp; done) | (simp [*]; done)), H', ⟨Nat.le_refl _⟩, ⟨by (with_reducible repeat (first | apply Kd.R_alloc | apply Kd.R_drewN | apply Kd.R_drew)); exact HO_7.out⟩, ⟨by (with_reducible repeat (first | apply Kd.R_alloc | apply Kd.R_drewN | apply Kd.R_drew)); exact HO_8.out⟩, ⟨by repeat (first | (with_reducible first | exact HB.out | apply below_alloc | apply pw_below_drewN | apply below_drew1) | exact HB.out)⟩⟩
            case round =>
              clear H'
              try clear c1
              try clear hcv1
              try clear c2
              try clear p2
              try clear hcv2
              try clear c3
              try clear c4
              try clear c4b0
              try clear c4b1
              try clear c7
              try clear c17
              try clear c17b0
              try clear c17b1
              try clear c19
              try clear hcv19
              try clear c20
              try clear hcv20
              try clear c21
              try clear hcv22
              try clear hcv23
              try clear hcv24
              try clear hcv25
              try clear hcv27
              try clear hcv28
              try clear c29
              try clear p2
              obtain ⟨x8_2, x12_2, rfl, HA, HK2, HO_7, HO_8, HB⟩ := hrel
              cases gk with
              | zero => exact absurd HA.out (by simp [portmanteaulaw06_MatchUnpacks.l0])
              | succ k2 =>
                have H := HA.out
                clear HA
                simp only [portmanteaulaw06_MatchUnpacks.l0] at H
                by_cases c30 : x12_2 < (x8_2.length : Int)
                · rw [if_pos c30] at H
                  have c30b0 : decide (x12_2 < (x8_2.length : Int)) = true := decide_eq_true c30
                  clear c30
                  by_cases c31 : 0 ≤ x12_2
                  · rw [if_pos c31] at H
                    have c31b0 : decide (0 ≤ x12_2) = true := decide_eq_true c31
                    clear c31
                    obtain ⟨y4018, hy4018⟩ : ∃ y_ : List Int, y_ = (x8_2.set (x12_2 : Int).toNat (((rd x8_2 x12_2) + 1) % 256)) := ⟨_, rfl⟩
                    replace H : (portmanteaulaw06_MatchUnpacks.l0 k2 l0 y4005 y4018 (wrap64 (x12_2 + 1))) = some r := by first | (rw [hy4018]; with_reducible exact H) | (have H2_ := (Option.bind_some _ _).symm.trans H; rw [hy4018]; with_reducible exact H2_) | (have H2_ := (Option.bind_some _ _).symm.trans H; with_reducible exact H2_) | with_reducible exact H | (rw [hy4018]; exact H) | exact H
                    have Ny4018 := Aside0.mk hy4018
                    clear hy4018
                    have H' := Aside0.mk H
                    clear H
                    obtain ⟨Ao33, co33, eo33⟩ := Kd.R_slice HO_8.out
                    subst eo33
                    have p4017 : 0 ≤ (x12_2 : Int) := of_decide_eq_true (by first | (with_reducible assumption) | assumption)
                    have q4017 : x12_2 < (x8_2.length : Int) := of_decide_eq_true (by first | (with_reducible assumption) | assumption)
                    obtain ⟨ad4017, e4017, hx4017_0⟩ := Kd.at_int (Kd.R_reads' HO_8.out).2.2 x12_2 p4017 q4017
                    cases e4017
                    replace p4017 := eq_true p4017
                    replace q4017 := eq_true q4017
                    have p32 : 0 ≤ (x12_2 : Int) := of_decide_eq_true (by first | (with_reducible assumption) | assumption)
                    have q32 : (x12_2 : Int) < ((x8_2.length : Int) : Int) := of_decide_eq_true (by first | (with_reducible assumption) | assumption)
                    obtain ⟨go32, co32, eo32, gb32, gl32, cl32, HG32⟩ := Kd.R_form HO_8.out (by omega)
                    (first | cases eo32 | (injection eo32 with ea_ en_ ec_; (first | subst ea_ | (injection ea_ with ea_; subst ea_)); subst ec_; clear en_))
                    have GB32 := Aside0.mk gb32
                    have GG32 := Aside0.mk HG32
                    clear gb32 gl32 HG32
                    (first | simp only [add_plain] at hx4017_0 | skip)
                    obtain ⟨hx32_0, hf32_0⟩ := Kd.R_celln 0 HO_8.out (x12_2 : Int) p32 q32
                    replace p32 := eq_true p32
                    replace q32 := eq_true q32
                    have HP34 := Kd.R_putg HO_8.out (x12_2 : Int) (((rd x8_2 x12_2) + 1) % 256)
                    go_wp2_with (first | ((with_reducible refine gate_store (t := 5) (p := 56) rfl ?_); refine store_event (t := 5) (p := 56) (v := ?vo_w35) (w1 := (wr.setCell ⟨go32, (x12_2 : Int).toNat, none⟩ (.int .u8 (((rd x8_2 x12_2) + 1) % 256)))) ?hg ?ho ?hn ?hr ?_; (case ho => rfl); (case hg => rfl); (case hn => rfl); (case hr => first | (go_simp; done) | (go_simp; rfl)); intro w35 hw; have hg : wr.grownBy w35 (some go32) := (by rw [hw]; exact HP34.2); have hp_ : Kd.R (Kd.int .u8) 5 w35 w.heap.size (fun k_ => some k_ ≠ (.slice Ao14 y4005.length co14 : Value).ownBlock) (.slice (some ⟨go32, 0, none⟩) x8_2.length co33) y4018 := (by rw [hw, Ny4018.out]; exact HP34.1); clear HP34; have n0_ := Aside0.mk (Kd.R_after (v := (.slice (some ⟨go32, 0, none⟩) x8_2.length co33)) (v1 := (.slice (some ⟨go32, 0, none⟩) x8_2.length co33)) (ok := (fun _ => True)) (by (with_reducible repeat (first | apply Kd.R_alloc | apply Kd.R_drewN | apply Kd.R_drew)); exact Kd.R_mono HO_7.out (fun _ hk => ⟨trivial, hk⟩)) hg (.inl rfl)); have n1_ := Aside0.mk (hp_); have n2_ := Aside0.mk ((by rw [hw]; exact below_set (HB.out) GB32.out : Below w.heap.size w w35)); clear HO_7; clear HO_8; clear HB; have HO_7 := n0_; have HO_8 := n1_; have HB := n2_; clear n0_ n1_ n2_; clear hg hw hp_))
                    go_roundg k2
                    case measure => have := HJ9.out; have := HK2.out; omega
                    case rel => exact ⟨(y4018), (wrap64 (x12_2 + 1)), (by first | rfl | (simp; done) | (simp [*]; done)), H', ⟨by have := HJ9.out; have := HK2.out; omega⟩, ⟨by (with_reducible repeat (first | apply Kd.R_alloc | apply Kd.R_drewN | apply Kd.R_drew)); exact Kd.R_mono HO_7.out (fun _ hk => hk.2)⟩, ⟨by (with_reducible repeat (first | apply Kd.R_alloc | apply Kd.R_drewN | apply Kd.R_drew)); exact HO_8.out⟩, ⟨by repeat (first | (with_reducible first | exact HB.out | apply below_alloc | apply pw_below_drewN | apply below_drew1) | exact HB.out)⟩⟩
                  · rw [if_neg c31] at H
                    exact absurd H (by simp)
                · rw [if_neg c30] at H
                  have c30b0 : decide (x12_2 < (x8_2.length : Int)) = false := decide_eq_false c30
                  clear c30
                  by_cases c36 : (strOfNums y4005).toList = (strOfNums l0).toList
                  · rw [if_pos c36] at H
                    have c36b0 : ((strOfNums y4005).toList == (strOfNums l0).toList) = true := beq_iff_eq.mpr c36
                    have c36b1 : ((strOfNums y4005).toList != (strOfNums l0).toList) = false := bne_eq_false_iff_eq.mpr c36
                    clear c36
                    replace H := Option.bind_eq_some_iff.mp H
                    obtain ⟨t4019, A370, H⟩ := H
                    replace H : (some t4019) = some r := H
                    have A37 := Aside0.mk A370
                    clear A370
                    obtain rfl := Option.some.inj H
                    obtain ⟨Ao38, co38, eo38⟩ := Kd.R_slice HO_8.out
                    subst eo38
                    have hcv39 := own_string (P := Try.prog) Try.underlying22 Try.underlying5 Try.underlying9 (Kd.own_of_R HO_7.out)
                    have hcv40 := fun n_ => own_string (P := Try.prog) Try.underlying22 Try.underlying5 Try.underlying9 (Kd.own_of_R (Kd.R_drewN HO_7.out n_))
                    have hcv41 := Kd.C_string (P := Try.prog) (A := A0) (c := c0) Try.underlying22 Try.underlying5 Try.underlying9 (Kd.C_below HR0.out HB.out)
                    have hcv42 := fun n_ => Kd.C_string (P := Try.prog) (A := A0) (c := c0) Try.underlying22 Try.underlying5 Try.underlying9 (Kd.C_drewN (Kd.C_below HR0.out HB.out) n_)
                    go_wp2_with (first | (go_at_call 19; (with_reducible refine (portmanteaulaw06_live.calls k2  t4019 _ A37.out).mono ?_); rintro e w43 ⟨rfl, hb⟩; have n0_ := Aside0.mk (Kd.R_below (by (with_reducible repeat (first | apply Kd.R_alloc | apply Kd.R_drewN | apply Kd.R_drew)); exact HO_7.out) hb); have n1_ := Aside0.mk (Kd.R_below (by (with_reducible repeat (first | apply Kd.R_alloc | apply Kd.R_drewN | apply Kd.R_drew)); exact HO_8.out) hb); have n2_ := Aside0.mk (below_step (by repeat (first | (with_reducible first | exact HB.out | apply below_alloc | apply pw_below_drewN | apply below_drew1) | exact HB.out)) hb); clear HO_7; clear HO_8; clear HB; have HO_7 := n0_; have HO_8 := n1_; have HB := n2_; clear n0_ n1_ n2_; (try clear hb); (try clear hb2); (try clear hk); (try clear hi)))
                    go_ret
                    exact ⟨by first | rfl | (simp [errW_none, errW_some] <;> rfl) | (simp [*, errW_none, errW_some] <;> rfl), by repeat (first | (with_reducible first | exact HB.out | apply below_alloc | apply pw_below_drewN | apply below_drew1) | exact HB.out)⟩
                  · rw [if_neg c36] at H
                    have c36b0 : ((strOfNums y4005).toList == (strOfNums l0).toList) = false := beq_eq_false_iff_ne.mpr c36
                    have c36b1 : ((strOfNums y4005).toList != (strOfNums l0).toList) = true := bne_iff_ne.mpr c36
                    obtain rfl := Option.some.inj H
                    obtain ⟨Ao44, co44, eo44⟩ := Kd.R_slice HO_8.out
                    subst eo44
                    have hcv45 := own_string (P := Try.prog) Try.underlying22 Try.underlying5 Try.underlying9 (Kd.own_of_R HO_7.out)
                    have hcv46 := fun n_ => own_string (P := Try.prog) Try.underlying22 Try.underlying5 Try.underlying9 (Kd.own_of_R (Kd.R_drewN HO_7.out n_))
                    have hcv47 := Kd.C_string (P := Try.prog) (A := A0) (c := c0) Try.underlying22 Try.underlying5 Try.underlying9 (Kd.C_below HR0.out HB.out)
                    have hcv48 := fun n_ => Kd.C_string (P := Try.prog) (A := A0) (c := c0) Try.underlying22 Try.underlying5 Try.underlying9 (Kd.C_drewN (Kd.C_below HR0.out HB.out) n_)
                    go_wp2
                    go_ret
                    exact ⟨by first | rfl | (simp [errW_none, errW_some] <;> rfl) | (simp [*, errW_none, errW_some] <;> rfl), by repeat (first | (with_reducible first | exact HB.out | apply below_alloc | apply pw_below_drewN | apply below_drew1) | exact HB.out)⟩
    · rw [if_neg c7] at H
      exact absurd H (by simp)

/-- THE ONE PURE STATEMENT of portmanteaulaw06_MatchUnpacks: yours. -/
def portmanteaulaw06_MatchUnpacks.Pure : Prop := ∀ (l0 : List Int) (a1 : Bool) (a2 : Int), l0.length ≤ maxLen → l0.length * 1 ≤ 140737488351232 → (∀ x ∈ l0, (Lit.int .u8 x).wf = true) → (Lit.int .i64 a2).wf = true → ∃ k, portmanteaulaw06_MatchUnpacks.f k l0 a1 a2 = some true
theorem portmanteaulaw06_MatchUnpacks.walk (P : portmanteaulaw06_MatchUnpacks.Pure) (a0 : Option Addr) (len0 cap0 : Nat) (z0 : List Int) (a1 : Bool) (a2 : Int) (w : World) (w0 : (a0 = none ∧ len0 = 0 ∧ cap0 = 0 ∧ z0 = []) ∨ ∃ x, a0 = some x ∧ len0 ≤ cap0 ∧ cap0 ≤ maxLen ∧ z0.length = cap0 ∧ (∀ i, i < z0.length → w.cell? (x.add i) = some (.int .u8 (z0.getD i 0))) ∧ ∀ n ∈ z0, (Lit.int .u8 n).wf = true) (y0 : len0 * 1 ≤ 140737488351232) (w2 : (Lit.int .i64 a2).wf = true) :
    Calls Try.prog 3 #[.slice a0 len0 cap0, .bool a1, .int .i64 a2] w fun e w' => e = .returned (.bool true) ∧ Below w.heap.size w w' := by
  obtain ⟨l0, rfl, hr0, hm0, hw0, hc0⟩ := ReadsInt.ofRowC w0
  obtain ⟨k, h⟩ := P l0 a1 a2 hm0 y0 hw0 w2
  refine (portmanteaulaw06_MatchUnpacks.calls k _ _ l0 a1 a2 true w (Kd.C_of_reads (d := (0 : Int)) (h1 := fun _ => rfl) hr0) hc0 h).mono ?_
  rintro e w' ⟨rfl, hd⟩
  exact ⟨rfl, hd⟩

end Go.Proofs.Ytdlfflgcmgkmeaa.P

namespace Go.Proofs.Ytdlfflgcmgkmeaa.Pure
open Go.RowKit Go.Proofs.Ytdlfflgcmgkmeaa.P Go.Proofs.YtdlfflgcmgkmeaaW.PrintWords Go.Proofs.YtdlfflgcmgkmeaaW.PrintLast Go.Proofs.YtdlfflgcmgkmeaaW.PrintMore
set_option linter.unusedVariables false
theorem w64 {x : Int} (h : -9223372036854775808 ≤ x ∧ x ≤ 9223372036854775807) : wrap64 x = x := IntWalk.wrap64_in _ h

theorem ref_len_l0 (l : List Int) (hl : Bytes l) : ∀ (f k : Nat) (n p : Int), 0 ≤ p → p ≤ (l.length : Int) → (l.length : Int) - p < (f : Int) → f ≤ k → 0 ≤ n → n ≤ p * 255 + 15 →
    portmanteauref05_length.l0 k l n p = some (match lenGo f l n p with | some (x, q) => (x, q) | none => (-1, (l.length : Int)))
  | 0, k, n, p, h0, h1, h2, hk, h3, h4 => by omega
  | f + 1, k, n, p, h0, h1, h2, hk, h3, h4 => by
    obtain ⟨k, rfl⟩ : ∃ k', k = k' + 1 := ⟨k - 1, by omega⟩
    have hr := hl.at_ p
    have hl1 := hl.1
    simp only [portmanteauref05_length.l0, lenGo]
    by_cases c1 : p = (l.length : Int)
    · rw [if_neg (by omega), if_pos c1, c1]
    · have hp := Aside0.mk (show wrap64 (p + 1) = p + 1 from w64 (by omega))
      have hpp := Aside0.mk (show wrap64 (p + 1 - 1) = p from by rw [show p + 1 - 1 = p by omega]; exact w64 (by omega))
      have hw := Aside0.mk (show wrap64 (rd l p) = rd l p from w64 (by omega))
      have hn := Aside0.mk (show wrap64 (n + rd l p) = n + rd l p from w64 (by omega))
      rw [if_pos (by omega), if_pos h0, if_neg c1]
      simp only [hp.out, hpp.out, hw.out, hn.out, if_pos h0, if_pos (show p < (l.length : Int) by omega)]
      by_cases c2 : rd l p = 255
      · rw [if_pos c2, if_neg (by omega)]
        exact ref_len_l0 l hl f k _ _ (by omega) (by omega) (by omega) (by omega) (by omega) (by omega)
      · rw [if_neg c2, if_pos (by omega)]
theorem lenGo_more (l : List Int) : ∀ (f f' : Nat) (n p : Int), p ≤ (l.length : Int) → (l.length : Int) - p < (f : Int) → f ≤ f' → lenGo f' l n p = lenGo f l n p
  | 0, f', n, p, h1, h2, hf => by omega
  | f + 1, f', n, p, h1, h2, hf => by
    obtain ⟨f', rfl⟩ : ∃ k', f' = k' + 1 := ⟨f' - 1, by omega⟩
    simp only [lenGo]
    by_cases c1 : p = (l.length : Int)
    · simp only [if_pos c1]
    · rw [if_neg c1, if_neg c1]
      by_cases c2 : rd l p < 255
      · rw [if_pos c2, if_pos c2]
      · rw [if_neg c2, if_neg c2]
        exact lenGo_more l f f' _ _ (by omega) (by omega) (by omega)
theorem ref_len (l : List Int) (hl : Bytes l) (k : Nat) (n p : Int) (h0 : 0 ≤ p) (h1 : p ≤ (l.length : Int)) (hk : l.length + 1 ≤ k) (h3 : 0 ≤ n) (h4 : n ≤ 15) :
    portmanteauref05_length.f k l n p = some (match lenF l n p with | some (x, q) => (x, q) | none => (-1, (l.length : Int))) := by
  unfold portmanteauref05_length.f lenF
  by_cases c : n < 15
  · rw [if_pos c, if_pos c]
  · rw [if_neg c, if_neg c]
    exact ref_len_l0 l hl (l.length + 1) k n p h0 h1 (by omega) hk h3 (by omega)

theorem ref_copy (l : List Int) (m off n : Int) (lit : List Int) (seqs : List S113) (q : Int) (ys : List Int) (r : List Int × List S113 × Int × Int) (K : Nat) (hoff : 1 ≤ off) (hoff2 : off ≤ (ys.length : Int)) (hs : seqs.length < 3518437208883) (hn0 : 0 ≤ n) (hlen : (ys.length : Int) + n ≤ 1099511627776)
    (h : ∀ k, K ≤ k → portmanteauref05_Decode.l0 k l m (copyN n.toNat off.toNat ys) (seqs ++ [(⟨lit, off, n⟩ : S113)]) q = some r) :
    ∀ (d : Nat) (i : Nat) (k : Nat), i + d = n.toNat → K + d + 1 ≤ k → portmanteauref05_Decode.l1 k l m (copyN i off.toNat ys) seqs q i lit off n = some r
  | 0, i, k, hi, hk => by
    obtain ⟨k, rfl⟩ : ∃ k', k = k' + 1 := ⟨k - 1, by omega⟩
    simp only [portmanteauref05_Decode.l1]
    rw [if_neg (by omega), if_pos hs, show i = n.toNat by omega]
    exact h k (by omega)
  | d + 1, i, k, hi, hk => by
    obtain ⟨k, rfl⟩ : ∃ k', k = k' + 1 := ⟨k - 1, by omega⟩
    have hcl := copyN_len i off.toNat ys
    simp only [portmanteauref05_Decode.l1]
    have hw := Aside0.mk (show wrap64 (((copyN i off.toNat ys).length : Int) - off) = ((copyN i off.toNat ys).length : Int) - off from w64 (by omega))
    have hw2 := Aside0.mk (show wrap64 ((i : Int) + 1) = ((i + 1 : Nat) : Int) from by rw [w64 (by omega)]; rfl)
    rw [if_pos (by omega), hw.out, if_pos (by omega), if_pos (by omega), if_pos (by omega), hw2.out]
    have := ref_copy l m off n lit seqs q ys r K hoff hoff2 hs hn0 hlen h d (i + 1) k (by omega) (by omega)
    rw [show (copyN (i + 1) off.toNat ys) = copyN i off.toNat ys ++ [rd (copyN i off.toNat ys) (((copyN i off.toNat ys).length : Int) - off)] by
      simp only [copyN]; congr 2; unfold rd; congr 1; omega] at this
    exact this

theorem ref_dec (l : List Int) (hl : Bytes l) (m : Int) (hm0 : 0 ≤ m) (hm : m ≤ 1048576) (hl5 : l.length ≤ 1000000) : ∀ (f : Nat) (p : Int) (ys : List Int) (seqs : List S113), 0 ≤ p → p ≤ (l.length : Int) → (ys.length : Int) ≤ m → (l.length : Int) - p < (f : Int) → (seqs.length : Int) ≤ p →
    ∃ K S, ∀ k, K ≤ k → portmanteauref05_Decode.l0 k l m ys seqs p = some (match lzAll l m f p ys with | .ok zs => (zs, S, 0, (l.length : Int)) | .err e a => ([], [], e, a))
  | 0, p, ys, seqs, h0, h1, h2, h3, h4 => by omega
  | f + 1, p, ys, seqs, h0, h1, h2, h3, h4 => by
    have hr := hl.at_ p
    -- what the sequence is
    by_cases c1 : p = (l.length : Int)
    · refine ⟨1, [], fun k hk => ?_⟩
      obtain ⟨k, rfl⟩ : ∃ k', k = k' + 1 := ⟨k - 1, by omega⟩
      simp only [portmanteauref05_Decode.l0, lzAll, lzNext]
      rw [if_pos (by omega), if_pos c1]
    · have hp1 := Aside0.mk (show wrap64 (p + 1) = p + 1 from w64 (by omega))
      have hdiv : (Int.tdiv (rd l p) 16) % 256 = rd l p / 16 := by rw [Int.tdiv_eq_ediv_of_nonneg hr.1]; omega
      have hstep : ∀ k, portmanteauref05_Decode.l0 (k + 1) l m ys seqs p = (portmanteauref05_length.f k l (rd l p / 16) (p + 1)).bind _ := fun k => by
        simp only [portmanteauref05_Decode.l0]
        rw [if_neg (by omega), if_pos h0, if_pos (by omega), hp1.out, hdiv]
      rcases hL : lenF l (rd l p / 16) (p + 1) with _ | ⟨n, kk⟩
      · refine ⟨l.length + 3, [], fun k hk => ?_⟩
        obtain ⟨k, rfl⟩ : ∃ k', k = k' + 1 := ⟨k - 1, by omega⟩
        rw [hstep, ref_len l hl k _ _ (by omega) (by omega) (by omega) (by omega) (by omega), hL]
        simp only [lzAll, lzNext, if_neg c1, hL, Option.bind_some]
        rw [if_pos (by omega)]
      · obtain ⟨g1, g2, g3, g4⟩ := lenF_le hl (by omega) (by omega) (by omega) hL
        have hms := Aside0.mk (show wrap64 (m - (ys.length : Int)) = m - (ys.length : Int) from w64 (by omega))
        by_cases c2 : n > m - (ys.length : Int)
        · refine ⟨l.length + 3, [], fun k hk => ?_⟩
          obtain ⟨k, rfl⟩ : ∃ k', k = k' + 1 := ⟨k - 1, by omega⟩
          rw [hstep, ref_len l hl k _ _ (by omega) (by omega) (by omega) (by omega) (by omega), hL]
          simp only [lzAll, lzNext, if_neg c1, hL, if_pos c2, Option.bind_some]
          rw [if_neg (by omega), hms.out, if_pos c2]
        · have hlk := Aside0.mk (show wrap64 ((l.length : Int) - kk) = (l.length : Int) - kk from w64 (by omega))
          by_cases c3 : n > (l.length : Int) - kk
          · refine ⟨l.length + 3, [], fun k hk => ?_⟩
            obtain ⟨k, rfl⟩ : ∃ k', k = k' + 1 := ⟨k - 1, by omega⟩
            rw [hstep, ref_len l hl k _ _ (by omega) (by omega) (by omega) (by omega) (by omega), hL]
            simp only [lzAll, lzNext, if_neg c1, hL, if_neg c2, if_pos c3, Option.bind_some]
            rw [if_neg (by omega), hms.out, if_neg c2, hlk.out, if_pos c3]
          · have hkn := Aside0.mk (show wrap64 (kk + n) = kk + n from w64 (by omega))
            obtain ⟨lit, hlit⟩ : ∃ y, y = (l.take (kk + n).toNat).drop kk.toNat := ⟨_, rfl⟩
            have hll : (lit.length : Int) = n := by rw [hlit, List.length_drop, List.length_take]; omega
            have hal : ((ys ++ lit).length : Int) = ys.length + n := by rw [List.length_append]; omega
            by_cases c4 : kk + n = (l.length : Int)
            · refine ⟨l.length + 3, seqs ++ [(⟨lit, 0, 0⟩ : S113)], fun k hk => ?_⟩
              obtain ⟨k, rfl⟩ : ∃ k', k = k' + 1 := ⟨k - 1, by omega⟩
              rw [hstep, ref_len l hl k _ _ (by omega) (by omega) (by omega) (by omega) (by omega), hL]
              simp only [lzAll, lzNext, if_neg c1, hL, if_neg c2, if_neg c3, Option.bind_some, hkn.out, ← hlit]
              rw [if_neg (by omega), hms.out, if_neg c2, hlk.out, if_neg c3, if_pos (by omega), if_pos (by omega), if_pos (by omega), if_pos (by omega), if_pos c4, if_pos (by omega), if_pos c4]
            · have hkn1 := Aside0.mk (show wrap64 (kk + n + 1) = kk + n + 1 from w64 (by omega))
              by_cases c5 : (l.length : Int) - (kk + n) < 2
              · refine ⟨l.length + 3, [], fun k hk => ?_⟩
                obtain ⟨k, rfl⟩ : ∃ k', k = k' + 1 := ⟨k - 1, by omega⟩
                rw [hstep, ref_len l hl k _ _ (by omega) (by omega) (by omega) (by omega) (by omega), hL]
                simp only [lzAll, lzNext, if_neg c1, hL, if_neg c2, if_neg c3, if_neg c4, if_pos c5, Option.bind_some, hkn.out, hkn1.out, ← hlit]
                rw [if_neg (by omega), hms.out, if_neg c2, hlk.out, if_neg c3, if_pos (by omega), if_pos (by omega), if_pos (by omega), if_pos (by omega), if_pos (by omega)]
              · have hb1 := hl.at_ (kk + n)
                have hb2 := hl.at_ (kk + n + 1)
                have e1 := Aside0.mk (show wrap64 (rd l (kk + n)) = rd l (kk + n) from w64 (by omega))
                have e2 := Aside0.mk (show wrap64 (rd l (kk + n + 1)) = rd l (kk + n + 1) from w64 (by omega))
                have e3 := Aside0.mk (show wrap64 (256 * rd l (kk + n + 1)) = rd l (kk + n + 1) * 256 from by rw [w64 (by omega)]; omega)
                obtain ⟨off, hoff⟩ : ∃ o, o = rd l (kk + n) + rd l (kk + n + 1) * 256 := ⟨_, rfl⟩
                have e4 := Aside0.mk (show wrap64 off = off from w64 (by omega))
                -- the step up to j1
                have hstep2 : ∀ k, l.length + 1 ≤ k → portmanteauref05_Decode.l0 (k + 1) l m ys seqs p = portmanteauref05_Decode.j1 k l m (ys ++ lit) seqs (kk + n) p (decide (off = 0 ∨ off > ys.length + n)) lit off 0 := fun k hk => by
                  rw [hstep, ref_len l hl k _ _ (by omega) (by omega) (by omega) (by omega) (by omega), hL]
                  simp only [Option.bind_some, hkn.out, hkn1.out, ← hlit, e1.out, e2.out, e3.out, ← hoff, e4.out]
                  rw [if_neg (by omega), hms.out, if_neg c2, hlk.out, if_neg c3, if_pos (by omega), if_pos (by omega), if_pos (by omega), if_pos (by omega), if_neg c4, if_neg (by omega), if_pos (by omega), if_pos (by omega), if_pos (by omega), if_pos (by omega)]
                  by_cases c6 : off = 0
                  · rw [if_pos c6]; simp [c6]
                  · rw [if_neg c6, hal]; simp [c6]
                by_cases c6 : off = 0 ∨ off > ys.length + n
                · refine ⟨l.length + 4, [], fun k hk => ?_⟩
                  obtain ⟨k, rfl⟩ : ∃ k', k = k' + 2 := ⟨k - 2, by omega⟩
                  rw [hstep2 (k + 1) (by omega)]
                  simp only [portmanteauref05_Decode.j1, decide_eq_true c6, if_true]
                  simp only [lzAll, lzNext, if_neg c1, hL, if_neg c2, if_neg c3, if_neg c4, if_neg c5, ← hoff]
                  rw [if_pos (by omega)]
                · have hmod := Aside0.mk (show wrap64 (Int.tmod (rd l p) 16) = rd l p % 16 from by rw [Int.tmod_eq_emod_of_nonneg hr.1]; exact w64 (by omega))
                  have hkn2 := Aside0.mk (show wrap64 (kk + n + 2) = kk + n + 2 from w64 (by omega))
                  have hstep3 : ∀ k, l.length + 1 ≤ k → portmanteauref05_Decode.l0 (k + 2) l m ys seqs p = (portmanteauref05_length.f k l (rd l p % 16) (kk + n + 2)).bind _ := fun k hk => by
                    rw [hstep2 (k + 1) (by omega)]
                    simp only [portmanteauref05_Decode.j1, decide_eq_false c6, Bool.false_eq_true, if_false]
                    rw [if_pos h0, if_pos (by omega), hmod.out, hkn2.out]
                  rcases hL2 : lenF l (rd l p % 16) (kk + n + 2) with _ | ⟨n2, q⟩
                  · refine ⟨l.length + 4, [], fun k hk => ?_⟩
                    obtain ⟨k, rfl⟩ : ∃ k', k = k' + 2 := ⟨k - 2, by omega⟩
                    rw [hstep3 k (by omega), ref_len l hl k _ _ (by omega) (by omega) (by omega) (by omega) (by omega), hL2]
                    simp only [lzAll, lzNext, if_neg c1, hL, if_neg c2, if_neg c3, if_neg c4, if_neg c5, ← hoff, hL2, Option.bind_some]
                    rw [if_pos (by omega), if_neg (by omega)]
                  · obtain ⟨g5, g6, g7, g8⟩ := lenF_le hl (by omega) (by omega) (by omega) hL2
                    have hms2 := Aside0.mk (show wrap64 (m - ((ys ++ lit).length : Int)) = m - (ys.length + n) from by rw [hal]; exact w64 (by omega))
                    have hn4 := Aside0.mk (show wrap64 (n2 + 4) = n2 + 4 from w64 (by omega))
                    by_cases c7 : n2 + 4 > m - ((ys.length : Int) + n)
                    · refine ⟨l.length + 4, [], fun k hk => ?_⟩
                      obtain ⟨k, rfl⟩ : ∃ k', k = k' + 2 := ⟨k - 2, by omega⟩
                      rw [hstep3 k (by omega), ref_len l hl k _ _ (by omega) (by omega) (by omega) (by omega) (by omega), hL2]
                      simp only [lzAll, lzNext, if_neg c1, hL, if_neg c2, if_neg c3, if_neg c4, if_neg c5, ← hoff, hL2, if_pos c7, Option.bind_some, hn4.out, hms2.out]
                      rw [if_neg (by omega), if_neg (by omega)]
                    · -- one round more
                      obtain ⟨K, S, ih⟩ := ref_dec l hl m hm0 hm hl5 f q (copyN (n2 + 4).toNat off.toNat (ys ++ lit)) (seqs ++ [(⟨lit, off, n2 + 4⟩ : S113)]) (by omega) (by omega) (by rw [copyN_len, List.length_append]; omega) (by omega) (by rw [List.length_append]; simp; omega)
                      refine ⟨K + (n2 + 4).toNat + l.length + 10, S, fun k hk => ?_⟩
                      obtain ⟨k, rfl⟩ : ∃ k', k = k' + 2 := ⟨k - 2, by omega⟩
                      rw [hstep3 k (by omega), ref_len l hl k _ _ (by omega) (by omega) (by omega) (by omega) (by omega), hL2]
                      simp only [Option.bind_some, hn4.out, hms2.out]
                      rw [if_neg (by omega), if_neg c7]
                      have hc := ref_copy l m off (n2 + 4) lit seqs q (ys ++ lit) _ K (by omega) (by omega) (by omega) (by omega) (by omega) ih (n2 + 4).toNat 0 k (by omega) (by omega)
                      simp only [copyN] at hc
                      rw [show ((0 : Nat) : Int) = 0 from rfl] at hc
                      rw [hc]
                      simp only [lzAll, lzNext, if_neg c1, hL, if_neg c2, if_neg c3, if_neg c4, if_neg c5, ← hoff, hL2, if_neg c7, ← hlit]
                      rw [if_neg c6]
theorem lzAll_len {l : List Int} (hl : Bytes l) {m : Int} (hm0 : 0 ≤ m) (hm : m ≤ 1048576) : ∀ {f : Nat} {p : Int} {ys zs : List Int}, lzAll l m f p ys = .ok zs → 0 ≤ p → p ≤ (l.length : Int) → (ys.length : Int) ≤ m → (zs.length : Int) ≤ m
  | 0, _, _, _, h, _, _, _ => by simp only [lzAll] at h; cases h
  | f + 1, p, ys, zs, h, h0, h1, h2 => by
    simp only [lzAll] at h
    cases hr : lzNext l m p ys.length with
    | bad e' a' => rw [hr] at h; cases h
    | last lit => rw [hr] at h; cases h; have := lzNext_last hl h0 h1 (by omega) hr; rw [List.length_append]; omega
    | more lit off len q =>
      rw [hr] at h
      obtain ⟨m1, m2, m3, m4, m5, m6, m7⟩ := lzNext_more hl h0 h1 (by omega) hr
      exact lzAll_len hl hm0 hm h (by omega) (by omega) (by rw [copyN_len, List.length_append]; omega)
end Go.Proofs.Ytdlfflgcmgkmeaa.Pure

/- Proved: unpacking by the program tells what the document's answer tells, and what came in stays. Conditions: those that the statement itself has. -/
namespace Go.Proofs.Ytdlfflgcmgkmeaa.Pure
open Go.RowKit Go.Proofs.Ytdlfflgcmgkmeaa.P Go.Proofs.YtdlfflgcmgkmeaaW.PrintWords Go.Proofs.YtdlfflgcmgkmeaaW.PrintLast
set_option linter.unusedVariables false
theorem live06 : portmanteaulaw06_live.f 300 = some true := by decide +kernel
theorem live06_at (k : Nat) (h : 300 ≤ k) : portmanteaulaw06_live.f k = some true := at_rounds portmanteaulaw06_live.mono h live06
/-- What is unpacked, or not, as a function. -/
theorem unpack06 (l : List Int) (hl : Bytes l) (hl5 : l.length ≤ 1000000) (a1 : Bool) (a2 : Int) : ∃ K r, r.1.length ≤ 1100000 ∧ ∀ k, K ≤ k → match_Unpack.f k l a1 a2 = some r ∧ portmanteauref06_Unpack.f k l a1 a2 = some r := by
  by_cases h0 : a2 < 0 ∨ a2 > 1048576
  · refine ⟨2, ([], 1), by simp, fun k hk => ?_⟩
    obtain ⟨k, rfl⟩ : ∃ k', k = k' + 1 := ⟨k - 1, by omega⟩
    constructor
    · unfold match_Unpack.f
      cases a1 with
      | true => simp only [if_true, lz_Decode.f, if_pos h0, Option.bind_some]
      | false =>
        simp only [Bool.false_eq_true, if_false]
        rcases h0 with h | h
        · simp only [if_pos h, match_Unpack.j0, if_true]
        · simp only [if_neg (show ¬ a2 < 0 by omega), match_Unpack.j0, decide_eq_true h, if_true]
    · unfold portmanteauref06_Unpack.f
      rcases h0 with h | h
      · simp only [if_pos h, portmanteauref06_Unpack.j0, if_true]
      · simp only [if_neg (show ¬ a2 < 0 by omega), portmanteauref06_Unpack.j0, decide_eq_true h, if_true]
  · have hn : ¬ a2 < 0 := by omega
    have hg : ¬ a2 > 1048576 := by omega
    cases a1 with
    | true =>
      obtain ⟨K, S, hK⟩ := ref_dec l hl a2 (by omega) (by omega) hl5 (l.length + 1) 0 [] [] (by omega) (by omega) (by simp; omega) (by omega) (by simp)
      have hb : BytesB l = true := BytesB_of hl
      cases hA : lzAll l a2 (l.length + 1) 0 [] with
      | ok zs =>
        have hz := lzAll_len hl (by omega) (by omega) hA (by omega) (by omega) (by simp; omega)
        refine ⟨K + 2, (zs, 0), by simp only []; omega, fun k hk => ?_⟩
        obtain ⟨k, rfl⟩ : ∃ k', k = k' + 1 := ⟨k - 1, by omega⟩
        constructor
        · simp only [match_Unpack.f, if_true, lz_Decode.f, if_neg h0, hb, hA, Option.bind_some]
        · have := hK k (by omega)
          rw [hA] at this
          simp only [portmanteauref06_Unpack.f, if_neg hn, portmanteauref06_Unpack.j0, decide_eq_false hg, Bool.false_eq_true, if_false, if_true, portmanteauref05_Decode.f, this, Option.bind_some]
      | err e a =>
        refine ⟨K + 2, ([], e), by simp, fun k hk => ?_⟩
        obtain ⟨k, rfl⟩ : ∃ k', k = k' + 1 := ⟨k - 1, by omega⟩
        constructor
        · simp only [match_Unpack.f, if_true, lz_Decode.f, if_neg h0, hb, hA, Option.bind_some]
        · have := hK k (by omega)
          rw [hA] at this
          simp only [portmanteauref06_Unpack.f, if_neg hn, portmanteauref06_Unpack.j0, decide_eq_false hg, Bool.false_eq_true, if_false, if_true, portmanteauref05_Decode.f, this, Option.bind_some]
    | false =>
      by_cases hm : (l.length : Int) > a2
      · refine ⟨2, ([], 2), by simp, fun k hk => ?_⟩
        obtain ⟨k, rfl⟩ : ∃ k', k = k' + 1 := ⟨k - 1, by omega⟩
        constructor
        · simp only [match_Unpack.f, Bool.false_eq_true, if_false, if_neg hn, match_Unpack.j0, decide_eq_false hg, if_pos hm]
        · simp only [portmanteauref06_Unpack.f, if_neg hn, portmanteauref06_Unpack.j0, decide_eq_false hg, Bool.false_eq_true, if_false, if_pos hm]
      · refine ⟨2, (l, 0), by simp only []; omega, fun k hk => ?_⟩
        obtain ⟨k, rfl⟩ : ∃ k', k = k' + 1 := ⟨k - 1, by omega⟩
        constructor
        · simp only [match_Unpack.f, Bool.false_eq_true, if_false, if_neg hn, match_Unpack.j0, decide_eq_false hg, if_neg hm, bytes_Clone.f, if_pos (show l.length < 140737488355328 by omega), Option.bind_some]
        · simp only [portmanteauref06_Unpack.f, if_neg hn, portmanteauref06_Unpack.j0, decide_eq_false hg, Bool.false_eq_true, if_false, if_neg hm]
theorem unpacks_l0 (x0 : List Int) : ∀ (d k : Nat) (x8 : List Int) (i : Int), 0 ≤ i → i + d = (x8.length : Int) → x8.length ≤ 1100000 → 301 + d ≤ k → portmanteaulaw06_MatchUnpacks.l0 k x0 x0 x8 i = some true
  | 0, k, x8, i, h0, h1, h2, hk => by
    obtain ⟨k, rfl⟩ : ∃ k', k = k' + 1 := ⟨k - 1, by omega⟩
    simp only [portmanteaulaw06_MatchUnpacks.l0]
    rw [if_neg (by omega), if_pos trivial, live06_at k (by omega)]; rfl
  | d + 1, k, x8, i, h0, h1, h2, hk => by
    obtain ⟨k, rfl⟩ : ∃ k', k = k' + 1 := ⟨k - 1, by omega⟩
    simp only [portmanteaulaw06_MatchUnpacks.l0]
    have hi : wrap64 (i + 1) = i + 1 := w64 (by omega)
    rw [if_pos (by omega), if_pos h0, hi]
    clear hi
    exact unpacks_l0 x0 d k _ _ (by omega) (by rw [List.length_set]; omega) (by rw [List.length_set]; omega) (by omega)
theorem u8_of_wf {x : Int} (h : (Lit.int .u8 x).wf = true) : 0 ≤ x ∧ x ≤ 255 := by simpa [Lit.wf, IntKind.min, IntKind.max, IntKind.signed, IntKind.bits] using h
theorem MatchUnpacks : portmanteaulaw06_MatchUnpacks.Pure := by
  intro l0 a1 a2 h1 h2 h3 h4
  by_cases hl : (l0.length : Int) > 5000
  · refine ⟨300, ?_⟩
    simp only [portmanteaulaw06_MatchUnpacks.f, if_pos hl, live06, Option.bind_some]
  · have hB : Bytes l0 := ⟨by omega, fun x hx => by
      have := h3 x hx
      exact u8_of_wf this⟩
    obtain ⟨K, r, hr, hK⟩ := unpack06 l0 hB (by omega) a1 a2
    refine ⟨K + r.1.length + 310, ?_⟩
    obtain ⟨e1, e2⟩ := hK (K + r.1.length + 310) (by omega)
    simp only [portmanteaulaw06_MatchUnpacks.f, if_neg hl, Option.bind_some, List.nil_append]
    rw [if_pos (by simp only [List.length_nil]; omega), e1, e2]
    simp only [Option.bind_some, if_true, portmanteaulaw06_num.f]
    rw [show K + r.1.length + 310 = (K + r.1.length + 309) + 1 by omega]
    simp only [portmanteaulaw06_MatchUnpacks.j0]
    rw [if_neg (by simp)]
    exact unpacks_l0 l0 r.1.length _ _ _ (by omega) (by omega) hr (by omega)
end Go.Proofs.Ytdlfflgcmgkmeaa.Pure

-- Written by a program of this session's own (wip/tools), over the translation. Not trusted: Lean checks it.
namespace Go.Proofs.Ytdlfflgcmgkmeaa.matchUnpacks
open Go.ChangeShapes Go.WideShapes Go.ChangeAt Go.RowKit
open Go.Proofs.YtdlfflgcmgkmeaaW
open Go.ChangeMaps (open_string shut_string)
set_option linter.unusedVariables false
theorem own : ownKnob Try.prog.godebug = none := by kernel_rfl
theorem laidOut : laidOutB Try.prog = true := by kernel_rfl
def IsRow (k : IntKind) (w : World) (a : Option Addr) (len cap : Nat) (zs : List Int) : Prop :=
  (a = none ∧ len = 0 ∧ cap = 0 ∧ zs = []) ∨
  ∃ x, a = some x ∧ len ≤ cap ∧ cap ≤ maxLen ∧ zs.length = cap ∧ (∀ i, i < zs.length → w.cell? (x.add i) = some (.int k (zs.getD i 0))) ∧ ∀ n ∈ zs, (Lit.int k n).wf = true
set_option maxRecDepth 100000 in
theorem lifted (os : Os) (started : os.Started) (H : Type) (enc : TypeId × Value → H) :
    ReturnsInHanded {} Try.checked os 3 .any (Rows.matchUnpacksSpec.pre6 enc Try.prog Try.f3 Rows.matchUnpacksRow.domain false) (Rows.matchUnpacksSpec.post enc Try.prog Try.f3 false true false false) := by
  refine returnsInHanded_of_change_sized (C := Try.checked) own started (by kernel_rfl) Try.func3
    (ChangeSpec.witness6 (enc := enc) (C := Try.checked) false ⟨#[], #[.slice none 0 0, .bool false, .int .i64 0], []⟩ 8 (by kernel_rfl) (by kernel_rfl) (by kernel_rfl) (by kernel_rfl)) ?_
  intro W base args ds gs before hval0 hW hcnd hsz0 _
  have hsz : (DataW.weightsEach Try.prog (Try.f3.params.toList ++ Rows.matchUnpacksSpec.plain.varTypes Try.prog) (ds ++ gs)).all (· ≤ reachBytes) = true := hsz0
  have hval : ∀ (j : Nat) t v, Try.f3.params[j]? = some t → args[j]? = some v → Value.okWide Try.prog W .any base t v := hval0
  have hW' := hW
  obtain ⟨p, q, hA0, hV, rfl, hfz, hnd⟩ := hW
  have hA : DataW.TrodAll enc Try.prog W 0 (fun _ => true) true Try.f3.params.toList args.toList ds p := hA0
  rw [Try.params3] at hA hval hsz
  obtain ⟨v0, vs0, d0, ds0, p0, q0, hargs, rfl, rfl, h0, r0⟩ := trodAll_cons hA
  obtain ⟨v1, vs1, d1, ds1, p1, q1, rfl, rfl, rfl, h1, r1⟩ := trodAll_cons r0
  obtain ⟨v2, vs2, d2, ds2, p2, q2, rfl, rfl, rfl, h2, r2⟩ := trodAll_cons r1
  obtain ⟨rfl, rfl, rfl⟩ := trodAll_nil r2
  obtain rfl : args = #[v0, v1, v2] := by cases args; simp_all
  obtain ⟨rfl, rfl⟩ := trodVars_none hV
  obtain ⟨a0, len0, cap0, rfl⟩ := okWide_slice Try.underlying22 (hval 0 22 v0 rfl rfl)
  have k0 := h0
  have lt0 : ∀ x ∈ p0, x.block < W.heap.size := by obtain ⟨m, hm⟩ := k0; exact DataW.trod_lt m _ _ _ hm
  obtain ⟨z0, w0⟩ : ∃ zs, IsRow .u8 W a0 len0 cap0 zs := by
    obtain ⟨fuel, hf⟩ := h0
    rcases open_ints Try.underlying22 Try.underlying5 (by kernel_rfl) hf with ⟨hcs, _⟩ | ⟨x, l, c, zs, hcs, _, hl, hm, hz, _, hcell, hwz⟩
    · simp [Value.cells] at hcs
      obtain ⟨rfl, rfl, rfl⟩ := hcs
      exact ⟨[], .inl ⟨rfl, rfl, rfl, rfl⟩⟩
    · simp [Value.cells] at hcs
      obtain ⟨rfl, rfl, rfl⟩ := hcs
      exact ⟨zs, .inr ⟨_, rfl, hl, hm, by simpa using hz, hcell, hwz⟩⟩
  have y0 : len0 * 1 ≤ 140737488351232 := PrintWords.sized_ints hsz (j := 0) (t := 22) rfl rfl Try.underlying22 Try.underlying5 (by kernel_rfl) (by kernel_rfl) h0
  obtain ⟨a1, rfl, rfl, rfl⟩ := open_bool Try.underlying4 (hval 1 4 v1 rfl rfl) h1
  obtain ⟨a2, rfl, rfl, rfl, w2⟩ := open_int Try.underlying3 (hval 2 3 v2 rfl rfl) h2
  clear hA0 hval0 hsz0 hsz
  refine (P.portmanteaulaw06_MatchUnpacks.walk Pure.MatchUnpacks a0 len0 cap0 z0 a1 a2 W w0 y0 w2).mono fun e W' ⟨he, bel⟩ => ?_
  subst he
  exact ⟨_, rfl, _, _, _, [], _, [], hW', trodAll_mk1 (shut_bool Try.underlying4 _), (trodAll_cons_mk (Below.trod laidOut (by kernel_rfl) (of_decide_eq_true (by kernel_rfl)) k0 bel lt0) (trodAll_cons_mk (shut_bool Try.underlying4 _) (trodAll_cons_mk (shut_int Try.underlying3 w2) trodAll_mk0))), rfl, bel.frame _, fun h => by cases h⟩
set_option maxRecDepth 100000 in
theorem ownFacts : joinedFacts Try.prog 3 Try.f3 Rows.matchUnpacksSpec Rows.matchUnpacksRow = true :=
  Closing.closed rfl rfl (by kernel_rfl) (by kernel_rfl) (by kernel_rfl) (by kernel_rfl) (by kernel_rfl) (by kernel_rfl) (by kernel_rfl) (by kernel_rfl) (by kernel_rfl) (by kernel_rfl) (by kernel_rfl) (by kernel_rfl) (by kernel_rfl) (by kernel_rfl) (by kernel_rfl) (by kernel_rfl) (by kernel_rfl) (by kernel_rfl) (by kernel_rfl) (by kernel_rfl) (by kernel_rfl) (by kernel_rfl) (by kernel_rfl) (by kernel_rfl)
theorem over : Rows.matchUnpacksRow.holds Try.pinned (OpenSpec.ofChange Rows.matchUnpacksSpec) :=
  OpenClaim.holds_of_wide 3 Try.f3 rfl rfl rfl rfl rfl rfl rfl ⟨rfl, rfl, rfl, rfl, rfl⟩ rfl rfl rfl rfl rfl (by kernel_rfl) Try.func3 ownFacts
    (of_decide_eq_true (by kernel_rfl)) (by unfold Func.isWrapper; first | (rw [if_pos (by decide +kernel)]; kernel_rfl) | (rw [if_neg (by decide +kernel)]; exact ⟨rfl, rfl⟩))
    (fun os started H enc _ => lifted os started H enc)
theorem proved : Rows.MatchUnpacksSaid := over
#print axioms proved
end Go.Proofs.Ytdlfflgcmgkmeaa.matchUnpacks
namespace Go.Proofs.Ytdlfflgcmgkmeaa
/-- The row, under a short name, for the claim. -/
theorem matchUnpacks_holds : Rows.MatchUnpacksSaid := matchUnpacks.proved
end Go.Proofs.Ytdlfflgcmgkmeaa
