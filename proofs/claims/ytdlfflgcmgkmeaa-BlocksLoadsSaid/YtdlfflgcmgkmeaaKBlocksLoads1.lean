/- Proved: BlocksLoads, part 1 of 5: Blocks.Load answers as ref05 says. Conditions: those that the statement itself has. -/
import Derived.Test.YtdlfflgcmgkmeaaProg
import Derived.Below
import Derived.Deep.Draws
import Derived.Deep.AppendLies
import Derived.Maps.AppendAt
import Derived.OwnWalk
import Derived.Laws.BytesArg
import Derived.Laws.MakeOwn
import Derived.Laws.OwnMore
import Derived.Deep.OwnRows
import Derived.Tactics
import Derived.Lib.ConvBytes
import Derived.Laws.Slices
import Derived.WalkKit
import Derived.KernelRfl
import Derived.RowKit3
import Derived.Deep.LoopGhost
import Derived.Deep.QuietTactic
import Derived.BigQuiet
import Derived.WideLaws
import Derived.Deep.DeepCutAuto
import Derived.Deep.CutBlock
import Derived.Deep.RegionHeld3
import Derived.Laws.Rows
import Derived.Lib.AppendStr
import Derived.ArgAppend
import Derived.Laws.IdiomCopy
import Derived.OrdersHeld
import Derived.Laws.BitsLemmas
import Derived.RowKit
import Derived.Test.YtdlfflgcmgkmeaaVBlocksLoadsWords
import Derived.Test.YtdlfflgcmgkmeaaVBlocksLoadsLast
import Derived.Test.YtdlfflgcmgkmeaaVBlocksLoadsTab
import Derived.Test.YtdlfflgcmgkmeaaVBlocksLoadsFour
import Derived.Test.YtdlfflgcmgkmeaaVBlocksLoadsQPut
import Derived.Test.YtdlfflgcmgkmeaaVBlocksLoadsApart
import Derived.Test.YtdlfflgcmgkmeaaVBlocksLoadsArr
import Derived.Test.YtdlfflgcmgkmeaaVBlocksLoadsZeros
import Derived.Test.YtdlfflgcmgkmeaaVBlocksLoadsFoot
import Derived.Test.YtdlfflgcmgkmeaaVBlocksLoadsKept
import Derived.Test.YtdlfflgcmgkmeaaVBlocksLoadsShare
import Derived.Test.YtdlfflgcmgkmeaaVBlocksLoadsN
import Derived.Test.YtdlfflgcmgkmeaaVBlocksLoadsFootNe
import Derived.Test.YtdlfflgcmgkmeaaVBlocksLoadsAt
import Derived.Test.YtdlfflgcmgkmeaaVBlocksLoadsEqStruct
import Derived.Test.YtdlfflgcmgkmeaaVBlocksLoadsRepsOne
import Derived.Test.YtdlfflgcmgkmeaaVBlocksLoadsInv
import Derived.Test.YtdlfflgcmgkmeaaVBlocksLoadsInvWords
import Derived.Test.YtdlfflgcmgkmeaaVBlocksLoadsGuard
import Derived.Test.YtdlfflgcmgkmeaaVBlocksLoadsNEv
import Derived.Test.YtdlfflgcmgkmeaaVBlocksLoadsMore
import Derived.RegionTactic
import Derived.BigRegion
import Derived.Laws.Cover2
import Derived.Laws.FloatArith
import Derived.Laws.Externs
import Derived.WalkSpells
-- Written by a program of this session's own (wip/tools), over the translation. Not trusted: Lean checks it.
namespace Go.Proofs.Ytdlfflgcmgkmeaa.P
open Go.RowKit Go.Proofs.YtdlfflgcmgkmeaaW.PrintWords Go.Proofs.YtdlfflgcmgkmeaaW.PrintLast Go.Proofs.YtdlfflgcmgkmeaaW.PrintMore
attribute [local go_sem] max2_int min2_int max_two min_two max_three min_three max_four min_four   -- for this text's walks alone
set_option linter.unusedVariables false
set_option linter.unusedSimpArgs false



def errW : Option Int → Value
  | none => .nilIface
  | some c => .iface 0 (.int .i64 c)
theorem errW_none : errW none = .nilIface := rfl
theorem errW_some (c : Int) : errW (some c) = .iface 0 (.int .i64 c) := rfl

theorem info5 : (Try.prog.info? 5).map (fun i => (i.zero, i.size, i.bytes)) = some (some (.int .u8 0), 1, 1) := by kernel_rfl
theorem info113 : (Try.prog.info? 113).map (fun i => (i.zero, i.size, i.bytes)) = some (some (.agg #[(.slice none 0 0), (.int .i64 0), (.int .i64 0)]), 3, 40) := by kernel_rfl
-- the values' own types
def rd_L1 (xs : List (List Int)) (i : Int) : (List Int) := xs.getD i.toNat ([] : List Int)
/-! #### struct type 113 -/
structure S113 where
  f0 : (List Int)
  f1 : Int
  f2 : Int
def z113 : S113 := ⟨([] : List Int), (0 : Int), (0 : Int)⟩
def k113 : Kd S113 := Kd.iso (Kd.pair (Kd.slice 5 (Kd.int .u8)) (Kd.pair (Kd.int .i64) (Kd.int .i64))) (fun x : S113 => (x.f0, x.f1, x.f2))
theorem k113_open {w : World} {x : S113} {cs : List Value} (h : k113.K w x cs) : ∃ A0 c0, cs = [.slice A0 x.f0.length c0, .int .i64 x.f1, .int .i64 x.f2] ∧ x.f0.length ≤ c0 ∧ (Kd.int .u8).C w A0 x.f0.length x.f0 := by
  obtain ⟨_, _, rfl, ⟨A0, c0, rfl, l0, g0⟩, ⟨_, _, rfl, rfl, rfl⟩⟩ := h
  exact ⟨A0, c0, rfl, l0, g0⟩
theorem k113_mk (w : World) (x : S113) {A0 : Option Addr} {c0 : Nat} (l0 : x.f0.length ≤ c0) (g0 : (Kd.int .u8).C w A0 x.f0.length x.f0) : k113.K w x [.slice A0 x.f0.length c0, .int .i64 x.f1, .int .i64 x.f2] := ⟨[.slice A0 x.f0.length c0], [.int .i64 x.f1, .int .i64 x.f2], rfl, ⟨A0, c0, rfl, l0, g0⟩, ⟨[.int .i64 x.f1], [.int .i64 x.f2], rfl, rfl, rfl⟩⟩
theorem k113_mkF (W : World) (ok : Nat → Prop) (x : S113) {A0 : Option Addr} {c0 : Nat} (l0 : x.f0.length ≤ c0) (g0 : Kd.F (Kd.int .u8) W ok A0 x.f0.length x.f0) : Kd.FK k113 W ok x [.slice A0 x.f0.length c0, .int .i64 x.f1, .int .i64 x.f2] := fun W2 hW => k113_mk W2 x l0 (g0 W2 hW)
def rd_T113 (xs : List S113) (i : Int) : S113 := xs.getD i.toNat z113
theorem at_T113 {w : World} {A : Option Addr} {n : Nat} {xs : List S113} (h : Kd.C k113 w A n xs) (i : Int) (h0 : 0 ≤ i) (h1 : i < n) : ∃ ad A0 c0, A = some ad ∧ w.cell? (ad.add (i.toNat * 3)) = some (.slice A0 (rd_T113 xs i).f0.length c0) ∧ w.cell? ⟨(ad.add (i.toNat * 3)).block, (ad.add (i.toNat * 3)).off + 1, none⟩ = some (.int .i64 (rd_T113 xs i).f1) ∧ w.cell? ⟨(ad.add (i.toNat * 3)).block, (ad.add (i.toNat * 3)).off + 2, none⟩ = some (.int .i64 (rd_T113 xs i).f2) ∧ (rd_T113 xs i).f0.length ≤ c0 ∧ (Kd.int .u8).C w A0 (rd_T113 xs i).f0.length (rd_T113 xs i).f0 := by
  obtain ⟨ad, c, e, _, hK, hc0⟩ := Kd.C_get h z113 i h0 h1
  have hc : ∀ j u, c[j]? = some u → w.cell? (ad.add (i.toNat * 3 + j)) = some u := hc0
  obtain ⟨A0, c0, rfl, l0, g0⟩ := k113_open hK
  exact ⟨ad, A0, c0, e, hc 0 _ rfl, by rw [← add_field _ _ 1 (by omega)]; exact hc 1 _ rfl, by rw [← add_field _ _ 2 (by omega)]; exact hc 2 _ rfl, l0, g0⟩

def rd_L4 (xs : List (List S113)) (i : Int) : (List S113) := xs.getD i.toNat ([] : List S113)
/-! #### struct type 42 -/
structure S42 where
  f0 : Int
  f1 : Int
  f2 : Int
  f3 : Bool
  f4 : Int
def z42 : S42 := ⟨(0 : Int), (0 : Int), (0 : Int), false, (0 : Int)⟩
def k42 : Kd S42 := Kd.iso (Kd.pair (Kd.int .i64) (Kd.pair (Kd.int .i64) (Kd.pair (Kd.int .i64) (Kd.pair Kd.bool (Kd.int .u32))))) (fun x : S42 => (x.f0, x.f1, x.f2, x.f3, x.f4))
def rd_T42 (xs : List S42) (i : Int) : S42 := xs.getD i.toNat z42
/-! #### struct type 100 -/
structure S100 where
  f0 : Int
  f1 : Int
  f2 : Int
def z100 : S100 := ⟨(0 : Int), (0 : Int), (0 : Int)⟩
def k100 : Kd S100 := Kd.iso (Kd.pair (Kd.int .i64) (Kd.pair (Kd.int .i64) (Kd.int .i64))) (fun x : S100 => (x.f0, x.f1, x.f2))
def rd_T100 (xs : List S100) (i : Int) : S100 := xs.getD i.toNat z100
end Go.Proofs.Ytdlfflgcmgkmeaa.P

-- Written by a program of this session's own (wip/tools), over the translation. Not trusted: Lean checks it.
namespace Go.Proofs.Ytdlfflgcmgkmeaa.P
open Go.RowKit Go.Proofs.YtdlfflgcmgkmeaaW.PrintWords Go.Proofs.YtdlfflgcmgkmeaaW.PrintLast Go.Proofs.YtdlfflgcmgkmeaaW.PrintMore
attribute [local go_sem] max2_int min2_int max_two min_two max_three min_three max_four min_four   -- for this text's walks alone
set_option linter.unusedVariables false
set_option linter.unusedSimpArgs false

/-! ### portmanteaulaw18_num: function 41 -/
def portmanteaulaw18_num.f (a0 : Int) : Option (Int) := some a0
set_option maxHeartbeats 8000000 in
set_option maxRecDepth 100000 in
theorem portmanteaulaw18_num.calls (a0 : Int) (r : Int) (w : World) (h : portmanteaulaw18_num.f a0 = some r) :
    Calls Try.prog 41 #[.int .i64 a0] w fun e w' => e = .returned (.int .i64 r) ∧ Drawn0 w w' := by
  have H : (some a0) = some r := h
  clear h
  obtain rfl := Option.some.inj H
  go_enter Try.func41, Try.ntmps41
  go_wp2
  go_ret
  exact ⟨by first | rfl | (simp; done) | (simp [*]; done), by repeat (first | exact Drawn0.refl _ | apply Drawn0.step)⟩

end Go.Proofs.Ytdlfflgcmgkmeaa.P

-- Written by a program of this session's own (wip/tools), over the translation. Not trusted: Lean checks it.
namespace Go.Proofs.Ytdlfflgcmgkmeaa.P
open Go.RowKit Go.Proofs.YtdlfflgcmgkmeaaW.PrintWords Go.Proofs.YtdlfflgcmgkmeaaW.PrintLast Go.Proofs.YtdlfflgcmgkmeaaW.PrintMore
attribute [local go_sem] max2_int min2_int max_two min_two max_three min_three max_four min_four   -- for this text's walks alone
set_option linter.unusedVariables false
set_option linter.unusedSimpArgs false

/-! ### match_Bound: function 61 -/
def match_Bound.j0 : Nat → Int → Bool → Option (Int)
  | 0, _, _ => none
  | k + 1, x0, x3 => if x3 = true then (some 0) else (if x0 < 15 then (some (wrap64 (x0 + 1))) else (some (wrap64 ((wrap64 (x0 + 2)) + (wrap64 (Int.tdiv (wrap64 (x0 - 15)) 255))))))
def match_Bound.f (k : Nat) (a0 : Int) : Option (Int) := if a0 < 0 then (match_Bound.j0 k a0 true) else (match_Bound.j0 k a0 (decide (a0 > 1048576)))
theorem match_Bound.mono_l : ∀ k, (∀ y0 y1, LeO (match_Bound.j0 k y0 y1) (match_Bound.j0 (k + 1) y0 y1))
  | 0 => fun _ _ r h => by simp [match_Bound.j0] at h
  | k + 1 => by
    have ih0 := match_Bound.mono_l k
    · intro y0 y1
      unfold match_Bound.j0
      repeat' first
      | (with_reducible exact ih0 _ _)
      | (with_reducible exact LeO.refl _)
      | (with_reducible exact LeO.none _)
      | (with_reducible refine LeO.ite ?_ ?_)
      | (with_reducible refine LeO.bind ?_ (fun _ => ?_))
      | exact ih0 _ _
      | exact LeO.none _
      | refine LeO.ite ?_ ?_
      | refine LeO.bind ?_ (fun _ => ?_)
theorem match_Bound.mono : ∀ a0 k, LeO (match_Bound.f k a0) (match_Bound.f (k + 1) a0) := by
  intro a0 k
  have ih0 := match_Bound.mono_l k
  unfold match_Bound.f
  repeat' first
      | (with_reducible exact ih0 _ _)
      | (with_reducible exact LeO.refl _)
      | (with_reducible exact LeO.none _)
      | (with_reducible refine LeO.ite ?_ ?_)
      | (with_reducible refine LeO.bind ?_ (fun _ => ?_))
      | exact ih0 _ _
      | exact LeO.none _
      | refine LeO.ite ?_ ?_
      | refine LeO.bind ?_ (fun _ => ?_)
set_option maxHeartbeats 8000000 in
set_option maxRecDepth 100000 in
theorem match_Bound.calls (k : Nat) (a0 : Int) (r : Int) (w : World) (h : match_Bound.f k a0 = some r) :
    Calls Try.prog 61 #[.int .i64 a0] w fun e w' => e = .returned (.int .i64 r) ∧ Drawn0 w w' := by
  have H : (if a0 < 0 then (match_Bound.j0 k a0 true) else (match_Bound.j0 k a0 (decide (a0 > 1048576)))) = some r := h
  clear h
  have HC2 := Aside0.mk H
  clear H
  go_enter Try.func61, Try.ntmps61
  go_upto_region 1 with (fail)
  go_cut [3] (fun v3 wc => ∃ (kq : Nat) (x3_1 : Bool), v3 = .bool x3_1 ∧ Aside0 (match_Bound.j0 kq a0 x3_1 = some r) ∧ Aside0 (kq ≤ k) ∧ Drawn0 w wc)
  case first =>
    have H := HC2.out
    clear HC2
    by_cases c3 : a0 < 0
    · rw [if_pos c3] at H
      have c3b0 : decide (a0 < 0) = true := decide_eq_true c3
      clear c3
      (first | rw [c3b0] | (simp only [i64_w, i32_w]; rw [c3b0]) | skip)
      have H' := Aside0.mk H
      clear H
      go_wp2
      go_meet
      case rel => exact ⟨_, (true), (by first | rfl | (simp; done) | (simp [*]; done)), H', ⟨by first | omega | exact Nat.le_refl _⟩, by repeat (first | exact Drawn0.refl _ | apply Drawn0.step)⟩
    · rw [if_neg c3] at H
      have c3b0 : decide (a0 < 0) = false := decide_eq_false c3
      clear c3
      (first | rw [c3b0] | (simp only [i64_w, i32_w]; rw [c3b0]) | skip)
      have H' := Aside0.mk H
      clear H
      go_wp2
      go_meet
      case rel => exact ⟨_, (decide (a0 > 1048576)), (by first | rfl | (simp; done) | (simp [*]; done)), H', ⟨by first | omega | exact Nat.le_refl _⟩, by repeat (first | exact Drawn0.refl _ | apply Drawn0.step)⟩
  case rest =>
    clear HC2
    try clear p2
    try clear c3
    try clear c3b0
    obtain ⟨kq, x3_1, rfl, HA, HJ1, ⟨mc1, rfl⟩⟩ := hcut
    cases kq with
    | zero => exact absurd HA.out (by simp [match_Bound.j0])
    | succ kj1 =>
      have H := HA.out
      clear HA
      simp only [match_Bound.j0] at H
      by_cases c4 : x3_1 = true
      · subst c4
        have H1 : (some 0) = some r := by rw [if_pos rfl] at H; exact H
        clear H
        have H := H1
        clear H1
        obtain rfl := Option.some.inj H
        go_wp2
        go_ret
        exact ⟨by first | rfl | (simp; done) | (simp [*]; done), by repeat (first | exact Drawn0.refl _ | apply Drawn0.step)⟩
      · replace c4 := Bool.eq_false_iff.mpr c4
        subst c4
        have H1 : (if a0 < 15 then (some (wrap64 (a0 + 1))) else (some (wrap64 ((wrap64 (a0 + 2)) + (wrap64 (Int.tdiv (wrap64 (a0 - 15)) 255)))))) = some r := by rw [if_neg (show ¬ (false = true) by decide)] at H; exact H
        clear H
        have H := H1
        clear H1
        by_cases c5 : a0 < 15
        · rw [if_pos c5] at H
          have c5b0 : decide (a0 < 15) = true := decide_eq_true c5
          clear c5
          obtain rfl := Option.some.inj H
          go_wp2
          go_ret
          exact ⟨by first | rfl | (simp; done) | (simp [*]; done), by repeat (first | exact Drawn0.refl _ | apply Drawn0.step)⟩
        · rw [if_neg c5] at H
          have c5b0 : decide (a0 < 15) = false := decide_eq_false c5
          clear c5
          obtain rfl := Option.some.inj H
          go_wp2
          go_ret
          exact ⟨by first | rfl | (simp; done) | (simp [*]; done), by repeat (first | exact Drawn0.refl _ | apply Drawn0.step)⟩

end Go.Proofs.Ytdlfflgcmgkmeaa.P

-- Written by a program of this session's own (wip/tools), over the translation. Not trusted: Lean checks it.
namespace Go.Proofs.Ytdlfflgcmgkmeaa.P
open Go.RowKit Go.Proofs.YtdlfflgcmgkmeaaW.PrintWords Go.Proofs.YtdlfflgcmgkmeaaW.PrintLast Go.Proofs.YtdlfflgcmgkmeaaW.PrintMore
attribute [local go_sem] max2_int min2_int max_two min_two max_three min_three max_four min_four   -- for this text's walks alone
set_option linter.unusedVariables false
set_option linter.unusedSimpArgs false

/-! ### lz_wrong: function 90 -/
mutual
def lz_wrong.j0 : Nat → Bool → Int → Bool → List Int → Int → Int → Option (Int)
  | 0, _, _, _, _, _, _ => none
  | k + 1, x1, x2, x7, x91002000, x91002001, x91002002 => if x7 = true then (lz_wrong.j1 k x1 x2 x7 x91002000 x91002001 x91002002) else (if x1 = true then (lz_wrong.j1 k x1 x2 false x91002000 x91002001 x91002002) else (if x91002001 < 1 then (lz_wrong.j1 k x1 x2 true x91002000 x91002001 x91002002) else (if x91002001 > 65535 then (lz_wrong.j1 k x1 x2 true x91002000 x91002001 x91002002) else (lz_wrong.j1 k x1 x2 (decide (x91002002 < 4)) x91002000 x91002001 x91002002))))
def lz_wrong.j1 : Nat → Bool → Int → Bool → List Int → Int → Int → Option (Int)
  | 0, _, _, _, _, _, _ => none
  | k + 1, x1, x2, x7, x91002000, x91002001, x91002002 => if x7 = true then (some 1) else (if x1 = true then (lz_wrong.j2 k x2 false x91002000 x91002001 x91002002) else (if x91002001 > (x91002000.length : Int) then (lz_wrong.j2 k x2 (decide ((wrap64 (x91002001 - (x91002000.length : Int))) > x2)) x91002000 x91002001 x91002002) else (lz_wrong.j2 k x2 false x91002000 x91002001 x91002002)))
def lz_wrong.j2 : Nat → Int → Bool → List Int → Int → Int → Option (Int)
  | 0, _, _, _, _, _ => none
  | k + 1, x2, x36, x91002000, x91002001, x91002002 => if x36 = true then (some 9) else (if (x91002000.length : Int) > (wrap64 (1048576 - x2)) then (some 2) else (if x91002002 > (wrap64 ((wrap64 (1048576 - x2)) - (x91002000.length : Int))) then (some 2) else (some 0)))
end
def lz_wrong.f (k : Nat) (l0_0 : List Int) (a0_1 : Int) (a0_2 : Int) (a1 : Bool) (a2 : Int) : Option (Int) := if a1 = true then (if a0_1 = 0 then (lz_wrong.j0 k a1 a2 (a0_2 != 0) l0_0 a0_1 a0_2) else (lz_wrong.j0 k a1 a2 true l0_0 a0_1 a0_2)) else (lz_wrong.j0 k a1 a2 false l0_0 a0_1 a0_2)
theorem lz_wrong.mono_l : ∀ k, (∀ y0 y1 y2 y3 y4 y5, LeO (lz_wrong.j0 k y0 y1 y2 y3 y4 y5) (lz_wrong.j0 (k + 1) y0 y1 y2 y3 y4 y5)) ∧ (∀ y0 y1 y2 y3 y4 y5, LeO (lz_wrong.j1 k y0 y1 y2 y3 y4 y5) (lz_wrong.j1 (k + 1) y0 y1 y2 y3 y4 y5)) ∧ (∀ y0 y1 y2 y3 y4, LeO (lz_wrong.j2 k y0 y1 y2 y3 y4) (lz_wrong.j2 (k + 1) y0 y1 y2 y3 y4))
  | 0 => ⟨fun _ _ _ _ _ _ r h => by simp [lz_wrong.j0] at h, fun _ _ _ _ _ _ r h => by simp [lz_wrong.j1] at h, fun _ _ _ _ _ r h => by simp [lz_wrong.j2] at h⟩
  | k + 1 => by
    obtain ⟨ih0, ih1, ih2⟩ := lz_wrong.mono_l k
    refine ⟨?_, ?_, ?_⟩
    · intro y0 y1 y2 y3 y4 y5
      unfold lz_wrong.j0
      repeat' first
      | (with_reducible exact ih0 _ _ _ _ _ _)
      | (with_reducible exact ih1 _ _ _ _ _ _)
      | (with_reducible exact ih2 _ _ _ _ _)
      | (with_reducible exact LeO.refl _)
      | (with_reducible exact LeO.none _)
      | (with_reducible refine LeO.ite ?_ ?_)
      | (with_reducible refine LeO.bind ?_ (fun _ => ?_))
      | exact ih0 _ _ _ _ _ _
      | exact ih1 _ _ _ _ _ _
      | exact ih2 _ _ _ _ _
      | exact LeO.none _
      | refine LeO.ite ?_ ?_
      | refine LeO.bind ?_ (fun _ => ?_)
    · intro y0 y1 y2 y3 y4 y5
      unfold lz_wrong.j1
      repeat' first
      | (with_reducible exact ih0 _ _ _ _ _ _)
      | (with_reducible exact ih1 _ _ _ _ _ _)
      | (with_reducible exact ih2 _ _ _ _ _)
      | (with_reducible exact LeO.refl _)
      | (with_reducible exact LeO.none _)
      | (with_reducible refine LeO.ite ?_ ?_)
      | (with_reducible refine LeO.bind ?_ (fun _ => ?_))
      | exact ih0 _ _ _ _ _ _
      | exact ih1 _ _ _ _ _ _
      | exact ih2 _ _ _ _ _
      | exact LeO.none _
      | refine LeO.ite ?_ ?_
      | refine LeO.bind ?_ (fun _ => ?_)
    · intro y0 y1 y2 y3 y4
      unfold lz_wrong.j2
      repeat' first
      | (with_reducible exact ih0 _ _ _ _ _ _)
      | (with_reducible exact ih1 _ _ _ _ _ _)
      | (with_reducible exact ih2 _ _ _ _ _)
      | (with_reducible exact LeO.refl _)
      | (with_reducible exact LeO.none _)
      | (with_reducible refine LeO.ite ?_ ?_)
      | (with_reducible refine LeO.bind ?_ (fun _ => ?_))
      | exact ih0 _ _ _ _ _ _
      | exact ih1 _ _ _ _ _ _
      | exact ih2 _ _ _ _ _
      | exact LeO.none _
      | refine LeO.ite ?_ ?_
      | refine LeO.bind ?_ (fun _ => ?_)
theorem lz_wrong.mono : ∀ a0 a1 a2 a3 a4 k, LeO (lz_wrong.f k a0 a1 a2 a3 a4) (lz_wrong.f (k + 1) a0 a1 a2 a3 a4) := by
  intro a0 a1 a2 a3 a4 k
  obtain ⟨ih0, ih1, ih2⟩ := lz_wrong.mono_l k
  unfold lz_wrong.f
  repeat' first
      | (with_reducible exact ih0 _ _ _ _ _ _)
      | (with_reducible exact ih1 _ _ _ _ _ _)
      | (with_reducible exact ih2 _ _ _ _ _)
      | (with_reducible exact LeO.refl _)
      | (with_reducible exact LeO.none _)
      | (with_reducible refine LeO.ite ?_ ?_)
      | (with_reducible refine LeO.bind ?_ (fun _ => ?_))
      | exact ih0 _ _ _ _ _ _
      | exact ih1 _ _ _ _ _ _
      | exact ih2 _ _ _ _ _
      | exact LeO.none _
      | refine LeO.ite ?_ ?_
      | refine LeO.bind ?_ (fun _ => ?_)
set_option maxHeartbeats 8000000 in
set_option maxRecDepth 100000 in
theorem lz_wrong.calls (k : Nat) (A0_0 : Option Addr) (c0_0 : Nat) (l0_0 : List Int) (a0_1 : Int) (a0_2 : Int) (a1 : Bool) (a2 : Int) (r : Int) (w : World) (hr0_0 : Kd.C (Kd.int .u8) w A0_0 l0_0.length l0_0) (hc0_0 : l0_0.length ≤ c0_0) (h : lz_wrong.f k l0_0 a0_1 a0_2 a1 a2 = some r) :
    Calls Try.prog 90 #[.agg #[.slice A0_0 l0_0.length c0_0, .int .i64 a0_1, .int .i64 a0_2], .bool a1, .int .i64 a2] w fun e w' => e = .returned (.int .i64 r) ∧ Below w.heap.size w w' := by
  have hu113 := Try.underlying113
  have HR0_0 := Aside0.mk hr0_0
  have HC0_0 := Aside0.mk hc0_0
  clear hr0_0 hc0_0
  have HB := Aside0.mk (Below.refl w.heap.size w)
  have H : (if a1 = true then (if a0_1 = 0 then (lz_wrong.j0 k a1 a2 (a0_2 != 0) l0_0 a0_1 a0_2) else (lz_wrong.j0 k a1 a2 true l0_0 a0_1 a0_2)) else (lz_wrong.j0 k a1 a2 false l0_0 a0_1 a0_2)) = some r := h
  clear h
  have HC4 := Aside0.mk H
  clear H
  go_enter Try.func90, Try.ntmps90
  go_upto_region 1 with (first | ((with_reducible refine gate_dst (N := 3) rfl ?_); (try (refine gate_guard (by rfl) ?_; dsimp only)); refine box_event ?hg (N := 3) ?hd (cs := #[.slice A0_0 l0_0.length c0_0, .int .i64 a0_1, .int .i64 a0_2]) (t := 113) ?hr ?_; (case hd => rfl); (case hg => rfl); (case hr => first | (go_simp; done) | (go_simp; rfl)); intro gb91001 hg w5 hbox hb; have n0_ := Aside0.mk (below_step (by repeat (first | (with_reducible first | exact HB.out | apply below_alloc | apply pw_below_drewN | apply below_drew1) | exact HB.out)) hb); have n1_ := Aside0.mk (hbox); have n2_ := Aside0.mk ((by rw [hg]; exact (below_size (by repeat (first | (with_reducible first | exact HB.out | apply below_alloc | apply pw_below_drewN | apply below_drew1) | exact HB.out))) : w.heap.size ≤ gb91001)); have n3_ := Aside0.mk ((by rw [hg]; exact (below_size (by repeat (first | (with_reducible first | exact HB.out | apply below_alloc | apply pw_below_drewN | apply below_drew1) | exact HB.out))) : w.heap.size ≤ gb91001)); clear HB; have HB := n0_; have BK91001 := n1_; have GW91001 := n2_; have GE91001 := n3_; clear n0_ n1_ n2_ n3_; clear hb hbox hg))
  (try simp only [Act.put, List.setIfInBounds_toArray, List.set_cons_zero, List.set_cons_succ])
  go_cut [7] (fun v7 wc => ∃ (kq : Nat) (x7_3 : Bool), v7 = .bool x7_3 ∧ Aside0 (lz_wrong.j0 kq a1 a2 x7_3 l0_0 a0_1 a0_2 = some r) ∧ Aside0 (kq ≤ k) ∧ Aside0 (wc.heap[gb91001]? = some (.cells #[(.slice A0_0 l0_0.length c0_0), .int .i64 a0_1, .int .i64 a0_2] 113 (0, 0))) ∧ Aside0 (Below w.heap.size w wc))
  case first =>
    have H := HC4.out
    clear HC4
    by_cases c6 : a1 = true
    · subst c6
      have H1 : (if a0_1 = 0 then (lz_wrong.j0 k true a2 (a0_2 != 0) l0_0 a0_1 a0_2) else (lz_wrong.j0 k true a2 true l0_0 a0_1 a0_2)) = some r := by rw [if_pos rfl] at H; exact H
      clear H
      have H := H1
      clear H1
      by_cases c7 : a0_1 = 0
      · rw [if_pos c7] at H
        have c7b0 : (a0_1 == 0) = true := beq_iff_eq.mpr c7
        have c7b1 : (a0_1 != 0) = false := bne_eq_false_iff_eq.mpr c7
        clear c7
        (first | rw [c7b0] | (simp only [i64_w, i32_w]; rw [c7b0]) | skip)
        have H' := Aside0.mk H
        clear H
        have hcz8_0 : w5.cell? ⟨gb91001, 0, none⟩ = some (.slice A0_0 l0_0.length c0_0) := (blk_cell BK91001.out 0).trans rfl
        have hcz8_1 : w5.cell? ⟨gb91001, 1, none⟩ = some (.int .i64 a0_1) := (blk_cell BK91001.out 1).trans rfl
        have hcz8_2 : w5.cell? ⟨gb91001, 2, none⟩ = some (.int .i64 a0_2) := (blk_cell BK91001.out 2).trans rfl
        have hfz8_0 := blk_frozen BK91001.out 0
        have hfz8_1 := blk_frozen BK91001.out 1
        have hfz8_2 := blk_frozen BK91001.out 2
        go_wp2
        go_meet
        case rel => exact ⟨_, ((a0_2 != 0)), (by first | rfl | (simp; done) | (simp [*]; done)), H', ⟨by first | omega | exact Nat.le_refl _⟩, ⟨by (with_reducible repeat (first | refine blk_drewN ?_ _ | refine blk_drew ?_ | refine blk_alloc ?_ _)); exact BK91001.out⟩, ⟨by repeat (first | (with_reducible first | exact HB.out | apply below_alloc | apply pw_below_drewN | apply below_drew1 | refine below_set ?_ GE91001.out) | exact HB.out)⟩⟩
      · rw [if_neg c7] at H
        have c7b0 : (a0_1 == 0) = false := beq_eq_false_iff_ne.mpr c7
        have c7b1 : (a0_1 != 0) = true := bne_iff_ne.mpr c7
        (first | rw [c7b0] | (simp only [i64_w, i32_w]; rw [c7b0]) | skip)
        have H' := Aside0.mk H
        clear H
        have hcz9_0 : w5.cell? ⟨gb91001, 0, none⟩ = some (.slice A0_0 l0_0.length c0_0) := (blk_cell BK91001.out 0).trans rfl
        have hcz9_1 : w5.cell? ⟨gb91001, 1, none⟩ = some (.int .i64 a0_1) := (blk_cell BK91001.out 1).trans rfl
        have hcz9_2 : w5.cell? ⟨gb91001, 2, none⟩ = some (.int .i64 a0_2) := (blk_cell BK91001.out 2).trans rfl
        have hfz9_0 := blk_frozen BK91001.out 0
        have hfz9_1 := blk_frozen BK91001.out 1
        have hfz9_2 := blk_frozen BK91001.out 2
        go_wp2
        go_meet
        case rel => exact ⟨_, (true), (by first | rfl | (simp; done) | (simp [*]; done)), H', ⟨by first | omega | exact Nat.le_refl _⟩, ⟨by (with_reducible repeat (first | refine blk_drewN ?_ _ | refine blk_drew ?_ | refine blk_alloc ?_ _)); exact BK91001.out⟩, ⟨by repeat (first | (with_reducible first | exact HB.out | apply below_alloc | apply pw_below_drewN | apply below_drew1 | refine below_set ?_ GE91001.out) | exact HB.out)⟩⟩
    · replace c6 := Bool.eq_false_iff.mpr c6
      subst c6
      have H1 : (lz_wrong.j0 k false a2 false l0_0 a0_1 a0_2) = some r := by rw [if_neg (show ¬ (false = true) by decide)] at H; exact H
      clear H
      have H := H1
      clear H1
      have H' := Aside0.mk H
      clear H
      go_wp2
      go_meet
      case rel => exact ⟨_, (false), (by first | rfl | (simp; done) | (simp [*]; done)), H', ⟨by first | omega | exact Nat.le_refl _⟩, ⟨by (with_reducible repeat (first | refine blk_drewN ?_ _ | refine blk_drew ?_ | refine blk_alloc ?_ _)); exact BK91001.out⟩, ⟨by repeat (first | (with_reducible first | exact HB.out | apply below_alloc | apply pw_below_drewN | apply below_drew1 | refine below_set ?_ GE91001.out) | exact HB.out)⟩⟩
  case rest =>
    clear HC4
    try clear p2
    try clear c6
    try clear c7
    try clear c7b0
    try clear c7b1
    try clear c9
    try clear hcz8_0
    try clear hcz8_1
    try clear hcz8_2
    try clear hcz9_0
    try clear hcz9_1
    try clear hcz9_2
    try clear hfz8_0
    try clear hfz8_1
    try clear hfz8_2
    try clear hfz9_0
    try clear hfz9_1
    try clear hfz9_2
    obtain ⟨kq, x7_3, rfl, HA, HJ3, BK91001, HB⟩ := hcut
    cases kq with
    | zero => exact absurd HA.out (by simp [lz_wrong.j0])
    | succ kj3 =>
      have H := HA.out
      clear HA
      simp only [lz_wrong.j0] at H
      have HC10 := Aside0.mk H
      clear H
      go_upto_if 7 with (fail)
      go_cut [7] (fun v7 wc => ∃ (kq : Nat) (x7_9 : Bool), v7 = .bool x7_9 ∧ Aside0 (lz_wrong.j1 kq a1 a2 x7_9 l0_0 a0_1 a0_2 = some r) ∧ Aside0 (kq ≤ kj3) ∧ Aside0 (wc.heap[gb91001]? = some (.cells #[(.slice A0_0 l0_0.length c0_0), .int .i64 a0_1, .int .i64 a0_2] 113 (0, 0))) ∧ Aside0 (Below w.heap.size w wc))
      case first =>
        have H := HC10.out
        clear HC10
        by_cases c11 : x7_3 = true
        · subst c11
          have H1 : (lz_wrong.j1 kj3 a1 a2 true l0_0 a0_1 a0_2) = some r := by rw [if_pos rfl] at H; exact H
          clear H
          have H := H1
          clear H1
          have H' := Aside0.mk H
          clear H
          go_wp2
          go_meet
          case rel => exact ⟨_, (true), (by first | rfl | (simp; done) | (simp [*]; done)), H', ⟨by have := HJ3.out; first | omega | exact Nat.le_refl _⟩, ⟨by (with_reducible repeat (first | refine blk_drewN ?_ _ | refine blk_drew ?_ | refine blk_alloc ?_ _)); exact BK91001.out⟩, ⟨by repeat (first | (with_reducible first | exact HB.out | apply below_alloc | apply pw_below_drewN | apply below_drew1 | refine below_set ?_ GE91001.out) | exact HB.out)⟩⟩
        · replace c11 := Bool.eq_false_iff.mpr c11
          subst c11
          have H1 : (if a1 = true then (lz_wrong.j1 kj3 a1 a2 false l0_0 a0_1 a0_2) else (if a0_1 < 1 then (lz_wrong.j1 kj3 a1 a2 true l0_0 a0_1 a0_2) else (if a0_1 > 65535 then (lz_wrong.j1 kj3 a1 a2 true l0_0 a0_1 a0_2) else (lz_wrong.j1 kj3 a1 a2 (decide (a0_2 < 4)) l0_0 a0_1 a0_2)))) = some r := by rw [if_neg (show ¬ (false = true) by decide)] at H; exact H
          clear H
          have H := H1
          clear H1
          by_cases c12 : a1 = true
          · subst c12
            have H1 : (lz_wrong.j1 kj3 true a2 false l0_0 a0_1 a0_2) = some r := by rw [if_pos rfl] at H; exact H
            clear H
            have H := H1
            clear H1
            have H' := Aside0.mk H
            clear H
            go_wp2
            go_meet
            case rel => exact ⟨_, (false), (by first | rfl | (simp; done) | (simp [*]; done)), H', ⟨by have := HJ3.out; first | omega | exact Nat.le_refl _⟩, ⟨by (with_reducible repeat (first | refine blk_drewN ?_ _ | refine blk_drew ?_ | refine blk_alloc ?_ _)); exact BK91001.out⟩, ⟨by repeat (first | (with_reducible first | exact HB.out | apply below_alloc | apply pw_below_drewN | apply below_drew1 | refine below_set ?_ GE91001.out) | exact HB.out)⟩⟩
          · replace c12 := Bool.eq_false_iff.mpr c12
            subst c12
            have H1 : (if a0_1 < 1 then (lz_wrong.j1 kj3 false a2 true l0_0 a0_1 a0_2) else (if a0_1 > 65535 then (lz_wrong.j1 kj3 false a2 true l0_0 a0_1 a0_2) else (lz_wrong.j1 kj3 false a2 (decide (a0_2 < 4)) l0_0 a0_1 a0_2))) = some r := by rw [if_neg (show ¬ (false = true) by decide)] at H; exact H
            clear H
            have H := H1
            clear H1
            by_cases c13 : a0_1 < 1
            · rw [if_pos c13] at H
              have c13b0 : decide (a0_1 < 1) = true := decide_eq_true c13
              clear c13
              (first | rw [c13b0] | (simp only [i64_w, i32_w]; rw [c13b0]) | skip)
              have H' := Aside0.mk H
              clear H
              have hcz14_0 : wc.cell? ⟨gb91001, 0, none⟩ = some (.slice A0_0 l0_0.length c0_0) := (blk_cell BK91001.out 0).trans rfl
              have hcz14_1 : wc.cell? ⟨gb91001, 1, none⟩ = some (.int .i64 a0_1) := (blk_cell BK91001.out 1).trans rfl
              have hcz14_2 : wc.cell? ⟨gb91001, 2, none⟩ = some (.int .i64 a0_2) := (blk_cell BK91001.out 2).trans rfl
              have hfz14_0 := blk_frozen BK91001.out 0
              have hfz14_1 := blk_frozen BK91001.out 1
              have hfz14_2 := blk_frozen BK91001.out 2
              go_wp2
              go_meet
              case rel => exact ⟨_, (true), (by first | rfl | (simp; done) | (simp [*]; done)), H', ⟨by have := HJ3.out; first | omega | exact Nat.le_refl _⟩, ⟨by (with_reducible repeat (first | refine blk_drewN ?_ _ | refine blk_drew ?_ | refine blk_alloc ?_ _)); exact BK91001.out⟩, ⟨by repeat (first | (with_reducible first | exact HB.out | apply below_alloc | apply pw_below_drewN | apply below_drew1 | refine below_set ?_ GE91001.out) | exact HB.out)⟩⟩
            · rw [if_neg c13] at H
              have c13b0 : decide (a0_1 < 1) = false := decide_eq_false c13
              clear c13
              (first | rw [c13b0] | (simp only [i64_w, i32_w]; rw [c13b0]) | skip)
              by_cases c15 : a0_1 > 65535
              · rw [if_pos c15] at H
                have c15b0 : decide (65535 < a0_1) = true := decide_eq_true c15
                clear c15
                have H' := Aside0.mk H
                clear H
                have hcz16_0 : wc.cell? ⟨gb91001, 0, none⟩ = some (.slice A0_0 l0_0.length c0_0) := (blk_cell BK91001.out 0).trans rfl
                have hcz16_1 : wc.cell? ⟨gb91001, 1, none⟩ = some (.int .i64 a0_1) := (blk_cell BK91001.out 1).trans rfl
                have hcz16_2 : wc.cell? ⟨gb91001, 2, none⟩ = some (.int .i64 a0_2) := (blk_cell BK91001.out 2).trans rfl
                have hfz16_0 := blk_frozen BK91001.out 0
                have hfz16_1 := blk_frozen BK91001.out 1
                have hfz16_2 := blk_frozen BK91001.out 2
                go_wp2
                go_meet
                case rel => exact ⟨_, (true), (by first | rfl | (simp; done) | (simp [*]; done)), H', ⟨by have := HJ3.out; first | omega | exact Nat.le_refl _⟩, ⟨by (with_reducible repeat (first | refine blk_drewN ?_ _ | refine blk_drew ?_ | refine blk_alloc ?_ _)); exact BK91001.out⟩, ⟨by repeat (first | (with_reducible first | exact HB.out | apply below_alloc | apply pw_below_drewN | apply below_drew1 | refine below_set ?_ GE91001.out) | exact HB.out)⟩⟩
              · rw [if_neg c15] at H
                have c15b0 : decide (65535 < a0_1) = false := decide_eq_false c15
                clear c15
                have H' := Aside0.mk H
                clear H
                have hcz17_0 : wc.cell? ⟨gb91001, 0, none⟩ = some (.slice A0_0 l0_0.length c0_0) := (blk_cell BK91001.out 0).trans rfl
                have hcz17_1 : wc.cell? ⟨gb91001, 1, none⟩ = some (.int .i64 a0_1) := (blk_cell BK91001.out 1).trans rfl
                have hcz17_2 : wc.cell? ⟨gb91001, 2, none⟩ = some (.int .i64 a0_2) := (blk_cell BK91001.out 2).trans rfl
                have hfz17_0 := blk_frozen BK91001.out 0
                have hfz17_1 := blk_frozen BK91001.out 1
                have hfz17_2 := blk_frozen BK91001.out 2
                go_wp2
                go_meet
                case rel => exact ⟨_, (decide (a0_2 < 4)), (by first | rfl | (simp; done) | (simp [*]; done)), H', ⟨by have := HJ3.out; first | omega | exact Nat.le_refl _⟩, ⟨by (with_reducible repeat (first | refine blk_drewN ?_ _ | refine blk_drew ?_ | refine blk_alloc ?_ _)); exact BK91001.out⟩, ⟨by repeat (first | (with_reducible first | exact HB.out | apply below_alloc | apply pw_below_drewN | apply below_drew1 | refine below_set ?_ GE91001.out) | exact HB.out)⟩⟩
      case rest =>
        clear HC10
        try clear c1
        try clear p2
        try clear c6
        try clear c7
        try clear c7b0
        try clear c7b1
        try clear c9
        try clear c11
        try clear c12
        try clear c13
        try clear c13b0
        try clear c15
        try clear c15b0
        try clear hcz14_0
        try clear hcz14_1
        try clear hcz14_2
        try clear hcz16_0
        try clear hcz16_1
        try clear hcz16_2
        try clear hcz17_0
        try clear hcz17_1
        try clear hcz17_2
        try clear hcz8_0
        try clear hcz8_1
        try clear hcz8_2
        try clear hcz9_0
        try clear hcz9_1
        try clear hcz9_2
        try clear hfz14_0
        try clear hfz14_1
        try clear hfz14_2
        try clear hfz16_0
        try clear hfz16_1
        try clear hfz16_2
        try clear hfz17_0
        try clear hfz17_1
        try clear hfz17_2
        try clear hfz8_0
        try clear hfz8_1
        try clear hfz8_2
        try clear hfz9_0
        try clear hfz9_1
        try clear hfz9_2
        try clear p2
        obtain ⟨kq, x7_9, rfl, HA, HJ9, BK91001, HB⟩ := hcut
        cases kq with
        | zero => exact absurd HA.out (by simp [lz_wrong.j1])
        | succ kj9 =>
          have H := HA.out
          clear HA
          simp only [lz_wrong.j1] at H
          by_cases c18 : x7_9 = true
          · subst c18
            have H1 : (some 1) = some r := by rw [if_pos rfl] at H; exact H
            clear H
            have H := H1
            clear H1
            obtain rfl := Option.some.inj H
            go_wp2
            go_ret
            exact ⟨by first | rfl | (simp [errW_none, errW_some] <;> rfl) | (simp [*, errW_none, errW_some] <;> rfl), by repeat (first | (with_reducible first | exact HB.out | apply below_alloc | apply pw_below_drewN | apply below_drew1 | refine below_set ?_ GE91001.out) | exact HB.out)⟩
          · replace c18 := Bool.eq_false_iff.mpr c18
            subst c18
            have H1 : (if a1 = true then (lz_wrong.j2 kj9 a2 false l0_0 a0_1 a0_2) else (if a0_1 > (l0_0.length : Int) then (lz_wrong.j2 kj9 a2 (decide ((wrap64 (a0_1 - (l0_0.length : Int))) > a2)) l0_0 a0_1 a0_2) else (lz_wrong.j2 kj9 a2 false l0_0 a0_1 a0_2))) = some r := by rw [if_neg (show ¬ (false = true) by decide)] at H; exact H
            clear H
            have H := H1
            clear H1
            have HC19 := Aside0.mk H
            clear H
            go_upto_region 4 with (fail)
            go_cut [36] (fun v36 wc => ∃ (kq : Nat) (x36_18 : Bool), v36 = .bool x36_18 ∧ Aside0 (lz_wrong.j2 kq a2 x36_18 l0_0 a0_1 a0_2 = some r) ∧ Aside0 (kq ≤ kj9) ∧ Aside0 (wc.heap[gb91001]? = some (.cells #[(.slice A0_0 l0_0.length c0_0), .int .i64 a0_1, .int .i64 a0_2] 113 (0, 0))) ∧ Aside0 (Below w.heap.size w wc))
            case first =>
              have H := HC19.out
              clear HC19
              by_cases c20 : a1 = true
              · subst c20
                have H1 : (lz_wrong.j2 kj9 a2 false l0_0 a0_1 a0_2) = some r := by rw [if_pos rfl] at H; exact H
                clear H
                have H := H1
                clear H1
                have H' := Aside0.mk H
                clear H
                go_wp2
                go_meet
                case rel => exact ⟨_, (false), (by first | rfl | (simp; done) | (simp [*]; done)), H', ⟨by have := HJ3.out; have := HJ9.out; first | omega | exact Nat.le_refl _⟩, ⟨by (with_reducible repeat (first | refine blk_drewN ?_ _ | refine blk_drew ?_ | refine blk_alloc ?_ _)); exact BK91001.out⟩, ⟨by repeat (first | (with_reducible first | exact HB.out | apply below_alloc | apply pw_below_drewN | apply below_drew1 | refine below_set ?_ GE91001.out) | exact HB.out)⟩⟩
              · replace c20 := Bool.eq_false_iff.mpr c20
                subst c20
                have H1 : (if a0_1 > (l0_0.length : Int) then (lz_wrong.j2 kj9 a2 (decide ((wrap64 (a0_1 - (l0_0.length : Int))) > a2)) l0_0 a0_1 a0_2) else (lz_wrong.j2 kj9 a2 false l0_0 a0_1 a0_2)) = some r := by rw [if_neg (show ¬ (false = true) by decide)] at H; exact H
                clear H
                have H := H1
                clear H1
                by_cases c21 : a0_1 > (l0_0.length : Int)
                · rw [if_pos c21] at H
                  have c21b0 : decide ((l0_0.length : Int) < a0_1) = true := decide_eq_true c21
                  clear c21
                  (first | rw [c21b0] | (simp only [i64_w, i32_w]; rw [c21b0]) | skip)
                  have H' := Aside0.mk H
                  clear H
                  have hcz22_0 : wc.cell? ⟨gb91001, 0, none⟩ = some (.slice A0_0 l0_0.length c0_0) := (blk_cell BK91001.out 0).trans rfl
                  have hcz22_1 : wc.cell? ⟨gb91001, 1, none⟩ = some (.int .i64 a0_1) := (blk_cell BK91001.out 1).trans rfl
                  have hcz22_2 : wc.cell? ⟨gb91001, 2, none⟩ = some (.int .i64 a0_2) := (blk_cell BK91001.out 2).trans rfl
                  have hfz22_0 := blk_frozen BK91001.out 0
                  have hfz22_1 := blk_frozen BK91001.out 1
                  have hfz22_2 := blk_frozen BK91001.out 2
                  go_wp2
                  go_meet
                  case rel => exact ⟨_, (decide ((wrap64 (a0_1 - (l0_0.length : Int))) > a2)), (by first | rfl | (simp; done) | (simp [*]; done)), H', ⟨by have := HJ3.out; have := HJ9.out; first | omega | exact Nat.le_refl _⟩, ⟨by (with_reducible repeat (first | refine blk_drewN ?_ _ | refine blk_drew ?_ | refine blk_alloc ?_ _)); exact BK91001.out⟩, ⟨by repeat (first | (with_reducible first | exact HB.out | apply below_alloc | apply pw_below_drewN | apply below_drew1 | refine below_set ?_ GE91001.out) | exact HB.out)⟩⟩
                · rw [if_neg c21] at H
                  have c21b0 : decide ((l0_0.length : Int) < a0_1) = false := decide_eq_false c21
                  clear c21
                  (first | rw [c21b0] | (simp only [i64_w, i32_w]; rw [c21b0]) | skip)
                  have H' := Aside0.mk H
                  clear H
                  have hcz23_0 : wc.cell? ⟨gb91001, 0, none⟩ = some (.slice A0_0 l0_0.length c0_0) := (blk_cell BK91001.out 0).trans rfl
                  have hcz23_1 : wc.cell? ⟨gb91001, 1, none⟩ = some (.int .i64 a0_1) := (blk_cell BK91001.out 1).trans rfl
                  have hcz23_2 : wc.cell? ⟨gb91001, 2, none⟩ = some (.int .i64 a0_2) := (blk_cell BK91001.out 2).trans rfl
                  have hfz23_0 := blk_frozen BK91001.out 0
                  have hfz23_1 := blk_frozen BK91001.out 1
                  have hfz23_2 := blk_frozen BK91001.out 2
                  go_wp2
                  go_meet
                  case rel => exact ⟨_, (false), (by first | rfl | (simp; done) | (simp [*]; done)), H', ⟨by have := HJ3.out; have := HJ9.out; first | omega | exact Nat.le_refl _⟩, ⟨by (with_reducible repeat (first | refine blk_drewN ?_ _ | refine blk_drew ?_ | refine blk_alloc ?_ _)); exact BK91001.out⟩, ⟨by repeat (first | (with_reducible first | exact HB.out | apply below_alloc | apply pw_below_drewN | apply below_drew1 | refine below_set ?_ GE91001.out) | exact HB.out)⟩⟩
            case rest =>
              clear HC19
              try clear c1
              try clear c2
              try clear p2
              try clear c6
              try clear p6
              try clear c7
              try clear c7b0
              try clear c7b1
              try clear c9
              try clear c11
              try clear c12
              try clear c13
              try clear c13b0
              try clear c15
              try clear c15b0
              try clear c18
              try clear c20
              try clear c21
              try clear c21b0
              try clear hcz14_0
              try clear hcz14_1
              try clear hcz14_2
              try clear hcz16_0
              try clear hcz16_1
              try clear hcz16_2
              try clear hcz17_0
              try clear hcz17_1
              try clear hcz17_2
              try clear hcz22_0
              try clear hcz22_1
              try clear hcz22_2
              try clear hcz23_0
              try clear hcz23_1
              try clear hcz23_2
              try clear hcz8_0
              try clear hcz8_1
              try clear hcz8_2
              try clear hcz9_0
              try clear hcz9_1
              try clear hcz9_2
              try clear hfz14_0
              try clear hfz14_1
              try clear hfz14_2
              try clear hfz16_0
              try clear hfz16_1
              try clear hfz16_2
              try clear hfz17_0
              try clear hfz17_1
              try clear hfz17_2
              try clear hfz22_0
              try clear hfz22_1
              try clear hfz22_2
              try clear hfz23_0
              try clear hfz23_1
              try clear hfz23_2
              try clear hfz8_0
              try clear hfz8_1
              try clear hfz8_2
              try clear hfz9_0
              try clear hfz9_1
              try clear hfz9_2
              try clear p2
              obtain ⟨kq, x36_18, rfl, HA, HJ18, BK91001, HB⟩ := hcut
              cases kq with
              | zero => exact absurd HA.out (by simp [lz_wrong.j2])
              | succ kj18 =>
                have H := HA.out
                clear HA
                simp only [lz_wrong.j2] at H
                by_cases c24 : x36_18 = true
                · subst c24
                  have H1 : (some 9) = some r := by rw [if_pos rfl] at H; exact H
                  clear H
                  have H := H1
                  clear H1
                  obtain rfl := Option.some.inj H
                  go_wp2
                  go_ret
                  exact ⟨by first | rfl | (simp [errW_none, errW_some] <;> rfl) | (simp [*, errW_none, errW_some] <;> rfl), by repeat (first | (with_reducible first | exact HB.out | apply below_alloc | apply pw_below_drewN | apply below_drew1 | refine below_set ?_ GE91001.out) | exact HB.out)⟩
                · replace c24 := Bool.eq_false_iff.mpr c24
                  subst c24
                  have H1 : (if (l0_0.length : Int) > (wrap64 (1048576 - a2)) then (some 2) else (if a0_2 > (wrap64 ((wrap64 (1048576 - a2)) - (l0_0.length : Int))) then (some 2) else (some 0))) = some r := by rw [if_neg (show ¬ (false = true) by decide)] at H; exact H
                  clear H
                  have H := H1
                  clear H1
                  by_cases c25 : (l0_0.length : Int) > (wrap64 (1048576 - a2))
                  · rw [if_pos c25] at H
                    have c25b0 : decide ((wrap64 (1048576 - a2)) < (l0_0.length : Int)) = true := decide_eq_true c25
                    clear c25
                    obtain rfl := Option.some.inj H
                    have hcz26_0 : wc.cell? ⟨gb91001, 0, none⟩ = some (.slice A0_0 l0_0.length c0_0) := (blk_cell BK91001.out 0).trans rfl
                    have hcz26_1 : wc.cell? ⟨gb91001, 1, none⟩ = some (.int .i64 a0_1) := (blk_cell BK91001.out 1).trans rfl
                    have hcz26_2 : wc.cell? ⟨gb91001, 2, none⟩ = some (.int .i64 a0_2) := (blk_cell BK91001.out 2).trans rfl
                    have hfz26_0 := blk_frozen BK91001.out 0
                    have hfz26_1 := blk_frozen BK91001.out 1
                    have hfz26_2 := blk_frozen BK91001.out 2
                    go_wp2
                    go_ret
                    exact ⟨by first | rfl | (simp [errW_none, errW_some] <;> rfl) | (simp [*, errW_none, errW_some] <;> rfl), by repeat (first | (with_reducible first | exact HB.out | apply below_alloc | apply pw_below_drewN | apply below_drew1 | refine below_set ?_ GE91001.out) | exact HB.out)⟩
                  · rw [if_neg c25] at H
                    have c25b0 : decide ((wrap64 (1048576 - a2)) < (l0_0.length : Int)) = false := decide_eq_false c25
                    clear c25
                    by_cases c27 : a0_2 > (wrap64 ((wrap64 (1048576 - a2)) - (l0_0.length : Int)))
                    · rw [if_pos c27] at H
                      have c27b0 : decide ((wrap64 ((wrap64 (1048576 - a2)) - (l0_0.length : Int))) < a0_2) = true := decide_eq_true c27
                      clear c27
                      obtain rfl := Option.some.inj H
                      have hcz28_0 : wc.cell? ⟨gb91001, 0, none⟩ = some (.slice A0_0 l0_0.length c0_0) := (blk_cell BK91001.out 0).trans rfl
                      have hcz28_1 : wc.cell? ⟨gb91001, 1, none⟩ = some (.int .i64 a0_1) := (blk_cell BK91001.out 1).trans rfl
                      have hcz28_2 : wc.cell? ⟨gb91001, 2, none⟩ = some (.int .i64 a0_2) := (blk_cell BK91001.out 2).trans rfl
                      have hfz28_0 := blk_frozen BK91001.out 0
                      have hfz28_1 := blk_frozen BK91001.out 1
                      have hfz28_2 := blk_frozen BK91001.out 2
                      go_wp2
                      go_ret
                      exact ⟨by first | rfl | (simp [errW_none, errW_some] <;> rfl) | (simp [*, errW_none, errW_some] <;> rfl), by repeat (first | (with_reducible first | exact HB.out | apply below_alloc | apply pw_below_drewN | apply below_drew1 | refine below_set ?_ GE91001.out) | exact HB.out)⟩
                    · rw [if_neg c27] at H
                      have c27b0 : decide ((wrap64 ((wrap64 (1048576 - a2)) - (l0_0.length : Int))) < a0_2) = false := decide_eq_false c27
                      clear c27
                      obtain rfl := Option.some.inj H
                      have hcz29_0 : wc.cell? ⟨gb91001, 0, none⟩ = some (.slice A0_0 l0_0.length c0_0) := (blk_cell BK91001.out 0).trans rfl
                      have hcz29_1 : wc.cell? ⟨gb91001, 1, none⟩ = some (.int .i64 a0_1) := (blk_cell BK91001.out 1).trans rfl
                      have hcz29_2 : wc.cell? ⟨gb91001, 2, none⟩ = some (.int .i64 a0_2) := (blk_cell BK91001.out 2).trans rfl
                      have hfz29_0 := blk_frozen BK91001.out 0
                      have hfz29_1 := blk_frozen BK91001.out 1
                      have hfz29_2 := blk_frozen BK91001.out 2
                      go_wp2
                      go_ret
                      exact ⟨by first | rfl | (simp [errW_none, errW_some] <;> rfl) | (simp [*, errW_none, errW_some] <;> rfl), by repeat (first | (with_reducible first | exact HB.out | apply below_alloc | apply pw_below_drewN | apply below_drew1 | refine below_set ?_ GE91001.out) | exact HB.out)⟩

end Go.Proofs.Ytdlfflgcmgkmeaa.P

-- Written by a program of this session's own (wip/tools), over the translation. Not trusted: Lean checks it.
namespace Go.Proofs.Ytdlfflgcmgkmeaa.P
open Go.RowKit Go.Proofs.YtdlfflgcmgkmeaaW.PrintWords Go.Proofs.YtdlfflgcmgkmeaaW.PrintLast Go.Proofs.YtdlfflgcmgkmeaaW.PrintMore
attribute [local go_sem] max2_int min2_int max_two min_two max_three min_three max_four min_four   -- for this text's walks alone
set_option linter.unusedVariables false
set_option linter.unusedSimpArgs false

/-! ### lz_tell: function 91 -/
def lz_tell.l0 : Nat → List Int → Int → Option (List Int)
  | 0, _, _ => none
  | k + 1, x0, x1 => if x1 ≥ 255 then (if x0.length < 140737488355328 then (lz_tell.l0 k (x0 ++ [255]) (wrap64 (x1 - 255))) else (none)) else (if x0.length < 140737488355328 then (some (x0 ++ [(x1) % 256])) else (none))
def lz_tell.f (k : Nat) (l0 : List Int) (a1 : Int) : Option (List Int) := if a1 < 15 then (some l0) else (lz_tell.l0 k l0 (wrap64 (a1 - 15)))
theorem lz_tell.mono_l : ∀ k, (∀ y0 y1, LeO (lz_tell.l0 k y0 y1) (lz_tell.l0 (k + 1) y0 y1))
  | 0 => fun _ _ r h => by simp [lz_tell.l0] at h
  | k + 1 => by
    have ih0 := lz_tell.mono_l k
    · intro y0 y1
      unfold lz_tell.l0
      repeat' first
      | (with_reducible exact ih0 _ _)
      | (with_reducible exact LeO.refl _)
      | (with_reducible exact LeO.none _)
      | (with_reducible refine LeO.ite ?_ ?_)
      | (with_reducible refine LeO.bind ?_ (fun _ => ?_))
      | exact ih0 _ _
      | exact LeO.none _
      | refine LeO.ite ?_ ?_
      | refine LeO.bind ?_ (fun _ => ?_)
theorem lz_tell.mono : ∀ a0 a1 k, LeO (lz_tell.f k a0 a1) (lz_tell.f (k + 1) a0 a1) := by
  intro a0 a1 k
  have ih0 := lz_tell.mono_l k
  unfold lz_tell.f
  repeat' first
      | (with_reducible exact ih0 _ _)
      | (with_reducible exact LeO.refl _)
      | (with_reducible exact LeO.none _)
      | (with_reducible refine LeO.ite ?_ ?_)
      | (with_reducible refine LeO.bind ?_ (fun _ => ?_))
      | exact ih0 _ _
      | exact LeO.none _
      | refine LeO.ite ?_ ?_
      | refine LeO.bind ?_ (fun _ => ?_)
set_option maxHeartbeats 8000000 in
set_option maxRecDepth 100000 in
theorem lz_tell.calls (k : Nat) (P0_ : Nat → Prop) (u9000_ : Value) (l0 : List Int) (a1 : Int) (r : List Int) (w0 w : World) (hB : Below w0.heap.size w0 w) (ho0 : Kd.R (Kd.int .u8) 5 w w0.heap.size P0_ u9000_ l0) (h : lz_tell.f k l0 a1 = some r) :
    Calls Try.prog 91 #[u9000_, .int .i64 a1] w fun e w' => ∃ v0_ : Value, e = .returned (v0_) ∧ Kd.R (Kd.int .u8) 5 w' w0.heap.size (fun k_ => (P0_ k_ ∨ w.heap.size ≤ k_)) v0_ r ∧ Below w0.heap.size w0 w' ∧ Kept w w' (fun k_ => P0_ k_) := by
  have HO0 := Aside0.mk (show Kd.R (Kd.int .u8) 5 w w0.heap.size (fun k_ => (P0_ k_ ∨ w.heap.size ≤ k_)) u9000_ l0 from Kd.R_mono ho0 (fun k_ hk => (.inl hk)))
  have HK := Aside0.mk (Kept.refl w (fun k_ => P0_ k_))
  have HW0 := Aside0.mk hB.size
  have HB := Aside0.mk hB
  clear hB
  have H : (if a1 < 15 then (some l0) else (lz_tell.l0 k l0 (wrap64 (a1 - 15)))) = some r := h
  clear h
  by_cases c3 : a1 < 15
  · rw [if_pos c3] at H
    have c3b0 : decide (a1 < 15) = true := decide_eq_true c3
    clear c3
    obtain rfl := Option.some.inj H
    go_enter Try.func91, Try.ntmps91
    go_wp2
    go_ret
    exact ⟨_, by first | rfl | (simp [errW_none, errW_some] <;> rfl) | (simp [*, errW_none, errW_some] <;> rfl), by (with_reducible repeat (first | apply Kd.R_alloc | apply Kd.R_drewN | apply Kd.R_drew)); exact HO0.out, by repeat (first | (with_reducible first | exact HB.out | apply below_alloc | apply pw_below_drewN | apply below_drew1) | exact HB.out), by repeat (first | (with_reducible first | exact HK.out | apply Kept.alloc | apply Kept.drewN | apply Kept.drew) | exact HK.out)⟩
  · rw [if_neg c3] at H
    have c3b0 : decide (a1 < 15) = false := decide_eq_false c3
    clear c3
    have H' := Aside0.mk H
    clear H
    go_enter Try.func91, Try.ntmps91
    go_wp2
    go_loopg [0, 1] k (fun kq v0 v1 w' => ∃ (x0_1 : List Int) (x1_1 : Int), v1 = .int .i64 x1_1 ∧ Aside0 (lz_tell.l0 kq x0_1 x1_1 = some r) ∧ Aside0 (kq ≤ k) ∧ Aside0 (Kd.R (Kd.int .u8) 5 w' w0.heap.size (fun k_ => (P0_ k_ ∨ w.heap.size ≤ k_)) v0 x0_1) ∧ Aside0 (Kept w w' (fun k_ => P0_ k_)) ∧ Aside0 (Below w0.heap.size w0 w'))
    case atStart => exact ⟨(l0), (wrap64 (a1 - 15)), (by first | rfl | (simp; done) | (simp [*]; done)), H', ⟨Nat.le_refl _⟩, ⟨by (with_reducible repeat (first | apply Kd.R_alloc | apply Kd.R_drewN | apply Kd.R_drew)); exact HO0.out⟩, ⟨by repeat (first | (with_reducible first | exact HK.out | apply Kept.alloc | apply Kept.drewN | apply Kept.drew) | exact HK.out)⟩, ⟨by repeat (first | (with_reducible first | exact HB.out | apply below_alloc | apply pw_below_drewN | apply below_drew1) | exact HB.out)⟩⟩
    case round =>
      clear H'
      try clear p2
      try clear c3
      try clear c3b0
      obtain ⟨x0_1, x1_1, rfl, HA, HK1, HO_0, HK, HB⟩ := hrel
      cases gk with
      | zero => exact absurd HA.out (by simp [lz_tell.l0])
      | succ k1 =>
        have H := HA.out
        clear HA
        simp only [lz_tell.l0] at H
        by_cases c4 : x1_1 ≥ 255
        · rw [if_pos c4] at H
          have c4b0 : decide (255 ≤ x1_1) = true := decide_eq_true c4
          clear c4
          by_cases c5 : x0_1.length < 140737488355328
          · rw [if_pos c5] at H
            have LMc5 := Aside0.mk c5
            clear c5
            obtain ⟨y92001, hy92001⟩ : ∃ y_ : List Int, y_ = (x0_1 ++ [255]) := ⟨_, rfl⟩
            replace H : (lz_tell.l0 k1 y92001 (wrap64 (x1_1 - 255))) = some r := by first | (rw [hy92001]; with_reducible exact H) | (have H2_ := (Option.bind_some _ _).symm.trans H; rw [hy92001]; with_reducible exact H2_) | (have H2_ := (Option.bind_some _ _).symm.trans H; with_reducible exact H2_) | with_reducible exact H | (rw [hy92001]; exact H) | exact H
            have Ny92001 := Aside0.mk hy92001
            clear hy92001
            have H' := Aside0.mk H
            clear H
            go_wp2_with (first | ((with_reducible refine gate_builtin (b := .append) (xs := #[.tmp 14, .tmp 15]) rfl ?_); at_builtin; refine Kd.R_append (Kd.int .u8) (w0 := w0) w0.heap.size rfl (.tmp 14) (.tmp 15) 22 5 (.int .u8 0) 1 rfl Try.underlying22 info5 rfl (by decide) (by omega) u0 x0_1 255 [.int .u8 255] (fun k_ => (P0_ k_ ∨ w.heap.size ≤ k_)) (fun _ => False) rfl rfl ?aP (fun _ hk => hk.elim) ?aF ?aO ?aB ?aS ?aL ?_; (case aP => exact rfl); (case aB => exact (by repeat (first | (with_reducible first | exact HB.out | apply below_alloc | apply pw_below_drewN | apply below_drew1) | exact HB.out))); (case aF => exact (fun k_ hk => (.inr (Nat.le_trans (by first | exact HK.out.1 | exact (show Kept w _ (fun k_ => P0_ k_) from by repeat (first | (with_reducible first | exact HK.out | apply Kept.alloc | apply Kept.drewN | apply Kept.drew) | exact HK.out)).1) hk)))); (case aO => exact (by (with_reducible repeat (first | apply Kd.R_alloc | apply Kd.R_drewN | apply Kd.R_drew)); exact HO_0.out)); (case aS => exact (below_size (by repeat (first | (with_reducible first | exact HB.out | apply below_alloc | apply pw_below_drewN | apply below_drew1) | exact HB.out)))); (case aL => have := LMc5.out; omega); intro v92002 w6 ho hb hg hat; rw [← Ny92001.out] at ho; have n0_ := Aside0.mk (hb); have n1_ := Aside0.mk (Kept.of_grown (S := (fun k_ => P0_ k_)) hg (by repeat (first | (with_reducible first | exact HK.out | apply Kept.alloc | apply Kept.drewN | apply Kept.drew) | exact HK.out)) (fun k_ e_ => (HO_0.out.1 k_ e_))); have n2_ := Aside0.mk (ho); clear HB; clear HK; clear HO_0; have HB := n0_; have HK := n1_; have HO92003 := n2_; clear n0_ n1_ n2_; clear ho hb hg hat))
            go_roundg k1
            case measure => have := HK1.out; omega
            case rel => exact ⟨(y92001), (wrap64 (x1_1 - 255)), (by first | rfl | (simp; done) | (simp [*]; done)), H', ⟨by have := HK1.out; omega⟩, ⟨by (with_reducible repeat (first | apply Kd.R_alloc | apply Kd.R_drewN | apply Kd.R_drew)); exact HO92003.out⟩, ⟨by repeat (first | (with_reducible first | exact HK.out | apply Kept.alloc | apply Kept.drewN | apply Kept.drew) | exact HK.out)⟩, ⟨by repeat (first | (with_reducible first | exact HB.out | apply below_alloc | apply pw_below_drewN | apply below_drew1) | exact HB.out)⟩⟩
          · rw [if_neg c5] at H
            exact absurd H (by simp)
        · rw [if_neg c4] at H
          have c4b0 : decide (255 ≤ x1_1) = false := decide_eq_false c4
          clear c4
          by_cases c7 : x0_1.length < 140737488355328
          · rw [if_pos c7] at H
            have LMc7 := Aside0.mk c7
            clear c7
            obtain ⟨y92004, hy92004⟩ : ∃ y_ : List Int, y_ = (x0_1 ++ [(x1_1) % 256]) := ⟨_, rfl⟩
            replace H : (some y92004) = some r := by first | (rw [hy92004]; with_reducible exact H) | (have H2_ := (Option.bind_some _ _).symm.trans H; rw [hy92004]; with_reducible exact H2_) | (have H2_ := (Option.bind_some _ _).symm.trans H; with_reducible exact H2_) | with_reducible exact H | (rw [hy92004]; exact H) | exact H
            have Ny92004 := Aside0.mk hy92004
            clear hy92004
            obtain rfl := Option.some.inj H
            go_wp2_with (first | ((with_reducible refine gate_builtin (b := .append) (xs := #[.tmp 17, .tmp 20]) rfl ?_); at_builtin; refine Kd.R_append (Kd.int .u8) (w0 := w0) w0.heap.size rfl (.tmp 17) (.tmp 20) 22 5 (.int .u8 0) 1 rfl Try.underlying22 info5 rfl (by decide) (by omega) u0 x0_1 ((x1_1) % 256) [.int .u8 ((x1_1) % 256)] (fun k_ => (P0_ k_ ∨ w.heap.size ≤ k_)) (fun _ => False) rfl rfl ?aP (fun _ hk => hk.elim) ?aF ?aO ?aB ?aS ?aL ?_; (case aP => exact rfl); (case aB => exact (by repeat (first | (with_reducible first | exact HB.out | apply below_alloc | apply pw_below_drewN | apply below_drew1) | exact HB.out))); (case aF => exact (fun k_ hk => (.inr (Nat.le_trans (by first | exact HK.out.1 | exact (show Kept w _ (fun k_ => P0_ k_) from by repeat (first | (with_reducible first | exact HK.out | apply Kept.alloc | apply Kept.drewN | apply Kept.drew) | exact HK.out)).1) hk)))); (case aO => exact (by (with_reducible repeat (first | apply Kd.R_alloc | apply Kd.R_drewN | apply Kd.R_drew)); exact HO_0.out)); (case aS => exact (below_size (by repeat (first | (with_reducible first | exact HB.out | apply below_alloc | apply pw_below_drewN | apply below_drew1) | exact HB.out)))); (case aL => have := LMc7.out; omega); intro v92005 w8 ho hb hg hat; rw [← Ny92004.out] at ho; have n0_ := Aside0.mk (hb); have n1_ := Aside0.mk (Kept.of_grown (S := (fun k_ => P0_ k_)) hg (by repeat (first | (with_reducible first | exact HK.out | apply Kept.alloc | apply Kept.drewN | apply Kept.drew) | exact HK.out)) (fun k_ e_ => (HO_0.out.1 k_ e_))); have n2_ := Aside0.mk (ho); clear HB; clear HK; clear HO_0; have HB := n0_; have HK := n1_; have HO92006 := n2_; clear n0_ n1_ n2_; clear ho hb hg hat))
            go_ret
            exact ⟨_, by first | rfl | (simp [errW_none, errW_some] <;> rfl) | (simp [*, errW_none, errW_some] <;> rfl), by (with_reducible repeat (first | apply Kd.R_alloc | apply Kd.R_drewN | apply Kd.R_drew)); exact HO92006.out, by repeat (first | (with_reducible first | exact HB.out | apply below_alloc | apply pw_below_drewN | apply below_drew1) | exact HB.out), by repeat (first | (with_reducible first | exact HK.out | apply Kept.alloc | apply Kept.drewN | apply Kept.drew) | exact HK.out)⟩
          · rw [if_neg c7] at H
            exact absurd H (by simp)

end Go.Proofs.Ytdlfflgcmgkmeaa.P

-- Written by a program of this session's own (wip/tools), over the translation. Not trusted: Lean checks it.
namespace Go.Proofs.Ytdlfflgcmgkmeaa.P
open Go.RowKit Go.Proofs.YtdlfflgcmgkmeaaW.PrintWords Go.Proofs.YtdlfflgcmgkmeaaW.PrintLast Go.Proofs.YtdlfflgcmgkmeaaW.PrintMore
attribute [local go_sem] max2_int min2_int max_two min_two max_three min_three max_four min_four   -- for this text's walks alone
set_option linter.unusedVariables false
set_option linter.unusedSimpArgs false

/-! ### lz_Join: function 65 -/
mutual
def lz_Join.l0 : Nat → List (S113) → List Int → Int → List (S113) → Int → Int → Option (List Int × Int)
  | 0, _, _, _, _, _, _ => none
  | k + 1, x0, x4, x5, x14, x15, x16 => if x16 < x15 then (if 0 ≤ x16 then (if x16 < (x14.length : Int) then ((lz_wrong.f k ((rd_T113 x14 x16).f0) ((rd_T113 x14 x16).f1) ((rd_T113 x14 x16).f2) (x16 == (wrap64 ((x0.length : Int) - 1))) x5).bind fun t66003 => (if t66003 = 0 then (if (x16 = (wrap64 ((x0.length : Int) - 1))) then (lz_Join.j1 k x0 x4 (wrap64 (x5 + (wrap64 ((((rd_T113 x14 x16).f0).length : Int) + ((rd_T113 x14 x16).f2))))) (x16 == (wrap64 ((x0.length : Int) - 1))) ((mn (((rd_T113 x14 x16).f0).length : Int) 15) * 16) x14 x15 x16 ((rd_T113 x14 x16).f0) ((rd_T113 x14 x16).f1) ((rd_T113 x14 x16).f2)) else (lz_Join.j1 k x0 x4 (wrap64 (x5 + (wrap64 ((((rd_T113 x14 x16).f0).length : Int) + ((rd_T113 x14 x16).f2))))) (x16 == (wrap64 ((x0.length : Int) - 1))) (Go.bits .or .i64 ((mn (((rd_T113 x14 x16).f0).length : Int) 15) * 16) (mn (wrap64 (((rd_T113 x14 x16).f2) - 4)) 15)) x14 x15 x16 ((rd_T113 x14 x16).f0) ((rd_T113 x14 x16).f1) ((rd_T113 x14 x16).f2))) else (some (([] : List Int), t66003)))) else (none)) else (none)) else (some (x4, 0))
def lz_Join.j1 : Nat → List (S113) → List Int → Int → Bool → Int → List (S113) → Int → Int → List Int → Int → Int → Option (List Int × Int)
  | 0, _, _, _, _, _, _, _, _, _, _, _ => none
  | k + 1, x0, x4, x5, x8, x10, x14, x15, x16, x66003000, x66003001, x66003002 => if x4.length < 140737488355328 then ((lz_tell.f k (x4 ++ [(x10) % 256]) (x66003000.length : Int)).bind fun t66007 => (if t66007.length + x66003000.length < 140737488355328 then ((some (t66007 ++ x66003000 : List Int)).bind fun y66010 => (if x8 = true then (lz_Join.l0 k x0 y66010 x5 x14 x15 (wrap64 (x16 + 1))) else ((some (([(x66003001) % 256, (x66003001 / 256) % 256] : List Int) : List Int)).bind fun y66013 => (if y66010.length + y66013.length < 140737488355328 then ((lz_tell.f k (y66010 ++ y66013) (wrap64 (x66003002 - 4))).bind fun t66019 => (lz_Join.l0 k x0 t66019 x5 x14 x15 (wrap64 (x16 + 1)))) else (none))))) else (none))) else (none)
end
def lz_Join.f (k : Nat) (l0 : List (S113)) : Option (List Int × Int) := if (l0.length : Int) = 0 then (some (([] : List Int), 1)) else (lz_Join.l0 k l0 ([] : List Int) 0 l0 (l0.length : Int) 0)
theorem lz_Join.mono_l : ∀ k, (∀ y0 y1 y2 y3 y4 y5, LeO (lz_Join.l0 k y0 y1 y2 y3 y4 y5) (lz_Join.l0 (k + 1) y0 y1 y2 y3 y4 y5)) ∧ (∀ y0 y1 y2 y3 y4 y5 y6 y7 y8 y9 y10, LeO (lz_Join.j1 k y0 y1 y2 y3 y4 y5 y6 y7 y8 y9 y10) (lz_Join.j1 (k + 1) y0 y1 y2 y3 y4 y5 y6 y7 y8 y9 y10))
  | 0 => ⟨fun _ _ _ _ _ _ r h => by simp [lz_Join.l0] at h, fun _ _ _ _ _ _ _ _ _ _ _ r h => by simp [lz_Join.j1] at h⟩
  | k + 1 => by
    obtain ⟨ih0, ih1⟩ := lz_Join.mono_l k
    refine ⟨?_, ?_⟩
    · intro y0 y1 y2 y3 y4 y5
      unfold lz_Join.l0
      repeat' first
      | (with_reducible exact ih0 _ _ _ _ _ _)
      | (with_reducible exact ih1 _ _ _ _ _ _ _ _ _ _ _)
      | (with_reducible exact lz_tell.mono _ _ _)
      | (with_reducible exact lz_wrong.mono _ _ _ _ _ _)
      | (with_reducible exact LeO.refl _)
      | (with_reducible exact LeO.none _)
      | (with_reducible refine LeO.ite ?_ ?_)
      | (with_reducible refine LeO.bind ?_ (fun _ => ?_))
      | exact ih0 _ _ _ _ _ _
      | exact ih1 _ _ _ _ _ _ _ _ _ _ _
      | exact lz_tell.mono _ _ _
      | exact lz_wrong.mono _ _ _ _ _ _
      | exact LeO.none _
      | refine LeO.ite ?_ ?_
      | refine LeO.bind ?_ (fun _ => ?_)
    · intro y0 y1 y2 y3 y4 y5 y6 y7 y8 y9 y10
      unfold lz_Join.j1
      repeat' first
      | (with_reducible exact ih0 _ _ _ _ _ _)
      | (with_reducible exact ih1 _ _ _ _ _ _ _ _ _ _ _)
      | (with_reducible exact lz_tell.mono _ _ _)
      | (with_reducible exact lz_wrong.mono _ _ _ _ _ _)
      | (with_reducible exact LeO.refl _)
      | (with_reducible exact LeO.none _)
      | (with_reducible refine LeO.ite ?_ ?_)
      | (with_reducible refine LeO.bind ?_ (fun _ => ?_))
      | exact ih0 _ _ _ _ _ _
      | exact ih1 _ _ _ _ _ _ _ _ _ _ _
      | exact lz_tell.mono _ _ _
      | exact lz_wrong.mono _ _ _ _ _ _
      | exact LeO.none _
      | refine LeO.ite ?_ ?_
      | refine LeO.bind ?_ (fun _ => ?_)
theorem lz_Join.mono : ∀ a0 k, LeO (lz_Join.f k a0) (lz_Join.f (k + 1) a0) := by
  intro a0 k
  obtain ⟨ih0, ih1⟩ := lz_Join.mono_l k
  unfold lz_Join.f
  repeat' first
      | (with_reducible exact ih0 _ _ _ _ _ _)
      | (with_reducible exact ih1 _ _ _ _ _ _ _ _ _ _ _)
      | (with_reducible exact lz_tell.mono _ _ _)
      | (with_reducible exact lz_wrong.mono _ _ _ _ _ _)
      | (with_reducible exact LeO.refl _)
      | (with_reducible exact LeO.none _)
      | (with_reducible refine LeO.ite ?_ ?_)
      | (with_reducible refine LeO.bind ?_ (fun _ => ?_))
      | exact ih0 _ _ _ _ _ _
      | exact ih1 _ _ _ _ _ _ _ _ _ _ _
      | exact lz_tell.mono _ _ _
      | exact lz_wrong.mono _ _ _ _ _ _
      | exact LeO.none _
      | refine LeO.ite ?_ ?_
      | refine LeO.bind ?_ (fun _ => ?_)
def lz_Join.T16 : Bool × List (List Nat × List Nat) := (true, [([], []), ([], []), ([1], [1]), ([2], [2]), ([0, 3], [0, 3]), ([], []), ([5], [5]), ([6], [6]), ([4, 7, 4], [4, 7]), ([8, 8, 0, 1, 2, 3, 4, 5, 6, 7, 8], [0, 8])])
def lz_Join.B16 : List Nat := [0, 0, 2, 6, 15, 0, 32, 96, 255, 511]
theorem lz_Join.tab16 : rtab .any (opsOf Try.f65 16) = lz_Join.T16 := by kernel_rfl
theorem lz_Join.bits16 : waitsOk lz_Join.T16.2 lz_Join.B16 = true := by kernel_rfl
def lz_Join.T19 : Bool × List (List Nat × List Nat) := (true, [([], []), ([], []), ([1], [1]), ([2], [2]), ([], []), ([4], [4]), ([5], [5]), ([6], [6]), ([3, 7], [3, 7]), ([0, 8], [0, 8]), ([], []), ([10], [10]), ([11], [11]), ([9, 12, 9], [9, 12]), ([13, 13, 0, 1, 2, 3, 4, 5, 6, 7, 8, 9, 10, 11, 12, 13], [0, 13])])
def lz_Join.B19 : List Nat := [0, 0, 2, 6, 0, 16, 48, 112, 254, 511, 0, 1024, 3072, 8191, 16383]
theorem lz_Join.tab19 : rtab .any (opsOf Try.f65 19) = lz_Join.T19 := by kernel_rfl
theorem lz_Join.bits19 : waitsOk lz_Join.T19.2 lz_Join.B19 = true := by kernel_rfl
set_option maxHeartbeats 8000000 in
set_option maxRecDepth 100000 in
theorem lz_Join.calls (k : Nat) (A0 : Option Addr) (c0 : Nat) (l0 : List (S113)) (r1 : List Int) (r2 : Int) (w : World) (hr0 : Kd.C k113 w A0 l0.length l0) (hc0 : l0.length ≤ c0) (h : lz_Join.f k l0 = some (r1, r2)) :
    Calls Try.prog 65 #[.slice A0 l0.length c0] w fun e w' => ∃ v0_ : Value, e = .returned (.tuple #[v0_, .int .i64 r2]) ∧ Kd.R (Kd.int .u8) 5 w' w.heap.size (fun _ => True) v0_ r1 ∧ Below w.heap.size w w' := by
  have hu113 := Try.underlying113
  have HR0 := Aside0.mk hr0
  have HC0 := Aside0.mk hc0
  clear hr0 hc0
  have HB := Aside0.mk (Below.refl w.heap.size w)
  have H : (if (l0.length : Int) = 0 then (some (([] : List Int), 1)) else (lz_Join.l0 k l0 ([] : List Int) 0 l0 (l0.length : Int) 0)) = some (r1, r2) := h
  clear h
  by_cases c2 : (l0.length : Int) = 0
  · rw [if_pos c2] at H
    have c2b0 : ((l0.length : Int) == 0) = true := beq_iff_eq.mpr c2
    have c2b1 : ((l0.length : Int) != 0) = false := bne_eq_false_iff_eq.mpr c2
    clear c2
    simp only [Option.some.injEq, Prod.mk.injEq] at H
    obtain ⟨rfl, rfl⟩ := H
    go_enter Try.func65, Try.ntmps65
    go_wp2
    go_ret2
    exact ⟨_, by first | rfl | (simp [errW_none, errW_some] <;> rfl) | (simp [*, errW_none, errW_some] <;> rfl), by first | exact Kd.R_nil _ _ _ _ _ | exact Kd.N_nil _ _ _ _ _ | exact Kd.V_nil _ _ _ _ _ | exact Kd.Q_nil _ _ _ _ _ | exact Kd.S_nil _ _ _ _ _, by repeat (first | (with_reducible first | exact HB.out | apply below_alloc | apply pw_below_drewN | apply below_drew1) | exact HB.out)⟩
  · rw [if_neg c2] at H
    have c2b0 : ((l0.length : Int) == 0) = false := beq_eq_false_iff_ne.mpr c2
    have c2b1 : ((l0.length : Int) != 0) = true := bne_iff_ne.mpr c2
    have c2b2 : ¬ (l0 = []) := fun h_ => c2 (by rw [h_]; rfl)
    have H' := Aside0.mk H
    clear H
    go_enter Try.func65, Try.ntmps65
    go_wp2
    go_loopg [4, 5, 16] k (fun kq v4 v5 v16 w' => ∃ (x4_1 : List Int) (x5_1 : Int) (x16_1 : Int), v5 = .int .i64 x5_1 ∧ v16 = .int .i64 x16_1 ∧ Aside0 (lz_Join.l0 kq l0 x4_1 x5_1 l0 (l0.length : Int) x16_1 = some (r1, r2)) ∧ Aside0 (kq ≤ k) ∧ Aside0 (Kd.R (Kd.int .u8) 5 w' w.heap.size (fun _ => True) v4 x4_1) ∧ Aside0 (Below w.heap.size w w'))
    case atStart => exact ⟨(([] : List Int)), (0), (0), (by first | rfl | (simp; done) | (simp [*]; done)), (by first | rfl | (simp; done) | (simp [*]; done)), H', ⟨Nat.le_refl _⟩, ⟨by first | exact Kd.R_nil _ _ _ _ _ | exact Kd.N_nil _ _ _ _ _ | exact Kd.V_nil _ _ _ _ _ | exact Kd.Q_nil _ _ _ _ _ | exact Kd.S_nil _ _ _ _ _⟩, ⟨by repeat (first | (with_reducible first | exact HB.out | apply below_alloc | apply pw_below_drewN | apply below_drew1) | exact HB.out)⟩⟩
    case round =>
      clear H'
      try clear c2
      try clear c2b0
      try clear c2b1
      try clear c2b2
      try clear p2
      obtain ⟨x4_1, x5_1, x16_1, rfl, rfl, HA, HK1, HO_4, HB⟩ := hrel
      cases gk with
      | zero => exact absurd HA.out (by simp [lz_Join.l0])
      | succ k1 =>
        have H := HA.out
        clear HA
        simp only [lz_Join.l0] at H
        by_cases c3 : x16_1 < (l0.length : Int)
        · rw [if_pos c3] at H
          have c3b0 : decide (x16_1 < (l0.length : Int)) = true := decide_eq_true c3
          clear c3
          by_cases c4 : 0 ≤ x16_1
          · rw [if_pos c4] at H
            have c4b0 : decide (0 ≤ x16_1) = true := decide_eq_true c4
            clear c4
            by_cases c5 : x16_1 < (l0.length : Int)
            · rw [if_pos c5] at H
              have c5b0 : decide (x16_1 < (l0.length : Int)) = true := decide_eq_true c5
              clear c5
              replace H := Option.bind_eq_some_iff.mp H
              obtain ⟨t66003, A60, H⟩ := H
              replace H : (if t66003 = 0 then (if (x16_1 = (wrap64 ((l0.length : Int) - 1))) then (lz_Join.j1 k1 l0 x4_1 (wrap64 (x5_1 + (wrap64 ((((rd_T113 l0 x16_1).f0).length : Int) + ((rd_T113 l0 x16_1).f2))))) (x16_1 == (wrap64 ((l0.length : Int) - 1))) ((mn (((rd_T113 l0 x16_1).f0).length : Int) 15) * 16) l0 (l0.length : Int) x16_1 ((rd_T113 l0 x16_1).f0) ((rd_T113 l0 x16_1).f1) ((rd_T113 l0 x16_1).f2)) else (lz_Join.j1 k1 l0 x4_1 (wrap64 (x5_1 + (wrap64 ((((rd_T113 l0 x16_1).f0).length : Int) + ((rd_T113 l0 x16_1).f2))))) (x16_1 == (wrap64 ((l0.length : Int) - 1))) (Go.bits .or .i64 ((mn (((rd_T113 l0 x16_1).f0).length : Int) 15) * 16) (mn (wrap64 (((rd_T113 l0 x16_1).f2) - 4)) 15)) l0 (l0.length : Int) x16_1 ((rd_T113 l0 x16_1).f0) ((rd_T113 l0 x16_1).f1) ((rd_T113 l0 x16_1).f2))) else (some (([] : List Int), t66003))) = some (r1, r2) := H
              have A6 := Aside0.mk A60
              clear A60
              by_cases c7 : t66003 = 0
              · rw [if_pos c7] at H
                have c7b0 : (t66003 == 0) = true := beq_iff_eq.mpr c7
                have c7b1 : (t66003 != 0) = false := bne_eq_false_iff_eq.mpr c7
                clear c7
                obtain ⟨ji8, hji8⟩ : ∃ j_ : Int, (mn (((rd_T113 l0 x16_1).f0).length : Int) 15) = j_ := ⟨_, rfl⟩
                replace H : (if (x16_1 = (wrap64 ((l0.length : Int) - 1))) then (lz_Join.j1 k1 l0 x4_1 (wrap64 (x5_1 + (wrap64 ((((rd_T113 l0 x16_1).f0).length : Int) + ((rd_T113 l0 x16_1).f2))))) (x16_1 == (wrap64 ((l0.length : Int) - 1))) ((ji8) * 16) l0 (l0.length : Int) x16_1 ((rd_T113 l0 x16_1).f0) ((rd_T113 l0 x16_1).f1) ((rd_T113 l0 x16_1).f2)) else (lz_Join.j1 k1 l0 x4_1 (wrap64 (x5_1 + (wrap64 ((((rd_T113 l0 x16_1).f0).length : Int) + ((rd_T113 l0 x16_1).f2))))) (x16_1 == (wrap64 ((l0.length : Int) - 1))) (Go.bits .or .i64 ((ji8) * 16) (mn (wrap64 (((rd_T113 l0 x16_1).f2) - 4)) 15)) l0 (l0.length : Int) x16_1 ((rd_T113 l0 x16_1).f0) ((rd_T113 l0 x16_1).f1) ((rd_T113 l0 x16_1).f2))) = some (r1, r2) := by first | (rw [hji8] at H; exact H) | (simp only [hji8] at H ⊢; exact H)
                (try rw [hji8] at A6)
                have hji8_ : (if 15 < (((rd_T113 l0 x16_1).f0).length : Int) then 15 else (((rd_T113 l0 x16_1).f0).length : Int)) = ji8 := hji8
                have HC9 := Aside0.mk H
                clear H
                have p66001 : 0 ≤ (x16_1 : Int) := of_decide_eq_true (by first | (with_reducible assumption) | assumption)
                have q66001 : x16_1 < (l0.length : Int) := of_decide_eq_true (by first | (with_reducible assumption) | assumption)
                obtain ⟨ad66001, A66001_0, c66001_0, e66001, hx66001_0, hx66001_1, hx66001_2, hl66001_0, hi66001_0⟩ := at_T113 HR0.out x16_1 p66001 q66001
                cases e66001
                replace hx66001_0 := (HB.out.cell (World.block_lt_of_cell? w _ hx66001_0)).trans hx66001_0
                replace hx66001_1 := (HB.out.cell (World.block_lt_of_cell? w _ hx66001_1)).trans hx66001_1
                replace hx66001_2 := (HB.out.cell (World.block_lt_of_cell? w _ hx66001_2)).trans hx66001_2
                have HR66001_0 := Aside0.mk hi66001_0
                have HC66001_0 := Aside0.mk hl66001_0
                clear hi66001_0 hl66001_0
                replace p66001 := eq_true p66001
                replace q66001 := eq_true q66001
                go_upto_if 47 with (first | ((with_reducible refine gate_dst (N := 7) rfl ?_); refine box_event ?hg (N := 7) ?hd (cs := #[.slice none 0 0, .int .i64 0, .int .i64 0]) (t := 113) ?hr ?_; (case hd => rfl); (case hg => rfl); (case hr => first | (go_simp; done) | (go_simp; rfl)); intro gb66002 hg w10 hbox hb; have n0_ := Aside0.mk (Kd.R_below (by (with_reducible repeat (first | apply Kd.R_alloc | apply Kd.R_drewN | apply Kd.R_drew)); exact HO_4.out) hb); have n1_ := Aside0.mk (below_step (by repeat (first | (with_reducible first | exact HB.out | apply below_alloc | apply pw_below_drewN | apply below_drew1) | exact HB.out)) hb); have n2_ := Aside0.mk (hbox); have n3_ := Aside0.mk ((by rw [hg]; exact (below_size (by repeat (first | (with_reducible first | exact HB.out | apply below_alloc | apply pw_below_drewN | apply below_drew1) | exact HB.out))) : w.heap.size ≤ gb66002)); have n4_ := Aside0.mk ((by rw [hg]; exact (below_size (by repeat (first | (with_reducible first | exact HB.out | apply below_alloc | apply pw_below_drewN | apply below_drew1) | exact HB.out))) : w.heap.size ≤ gb66002)); clear HO_4; clear HB; have HO_4 := n0_; have HB := n1_; have BK66002 := n2_; have GW66002 := n3_; have GE66002 := n4_; clear n0_ n1_ n2_ n3_ n4_; clear hb hbox hg; have hcz11_0 : w10.cell? ⟨gb66002, 0, none⟩ = some (.slice none 0 0) := (blk_cell BK66002.out 0).trans rfl; have hcz11_1 : w10.cell? ⟨gb66002, 1, none⟩ = some (.int .i64 0) := (blk_cell BK66002.out 1).trans rfl; have hcz11_2 : w10.cell? ⟨gb66002, 2, none⟩ = some (.int .i64 0) := (blk_cell BK66002.out 2).trans rfl; have hfz11_0 := blk_frozen BK66002.out 0; have hfz11_1 := blk_frozen BK66002.out 1; have hfz11_2 := blk_frozen BK66002.out 2) | ((with_reducible refine gate_callee (f := 90) rfl ?_); refine goesL_ (some 29) rfl rfl Try.func90 (by kernel_rfl) rfl #[.agg #[.slice A66001_0 ((rd_T113 l0 x16_1).f0).length c66001_0, .int .i64 ((rd_T113 l0 x16_1).f1), .int .i64 ((rd_T113 l0 x16_1).f2)], .bool (x16_1 == (wrap64 ((l0.length : Int) - 1))), .int .i64 x5_1] rfl (by (try simp only [List.map_toArray, List.map_cons, List.map_nil]); first | done | rfl | (simp only [List.length_drop, List.length_take]; rfl)) ?_; (with_reducible refine (lz_wrong.calls k1 _ _ ((rd_T113 l0 x16_1).f0) ((rd_T113 l0 x16_1).f1) ((rd_T113 l0 x16_1).f2) (x16_1 == (wrap64 ((l0.length : Int) - 1))) x5_1 t66003 _ ?side1 ?side2 A6.out).mono ?_); (case side1 => exact Kd.C_below HR66001_0.out (by repeat (first | (with_reducible first | exact HB.out | apply below_alloc | apply pw_below_drewN | apply below_drew1 | refine below_set ?_ GE66002.out) | exact HB.out))); (case side2 => exact HC66001_0.out); rintro e w12 ⟨rfl, hb⟩; refine ⟨_, rfl, ?_⟩; have n0_ := Aside0.mk (Kd.R_below (by (with_reducible repeat (first | apply Kd.R_alloc | apply Kd.R_drewN | apply Kd.R_drew)); exact (Kd.R_mono (Kd.R_far (p := ⟨gb66002, 2, none⟩) (Kd.R_far (p := ⟨gb66002, 1, none⟩) (Kd.R_far (p := ⟨gb66002, 0, none⟩) (Kd.R_types HO_4.out BK66002.out (by decide)) (fun _ hk => hk.2) (.slice A66001_0 ((rd_T113 l0 x16_1).f0).length c66001_0)) (fun _ hk => hk.2) (.int .i64 ((rd_T113 l0 x16_1).f1))) (fun _ hk => hk.2) (.int .i64 ((rd_T113 l0 x16_1).f2))) (fun _ h_ => h_.1))) hb); have n1_ := Aside0.mk (blk_below (g := gb66002) (o := .cells #[.slice A66001_0 ((rd_T113 l0 x16_1).f0).length c66001_0, .int .i64 ((rd_T113 l0 x16_1).f1), .int .i64 ((rd_T113 l0 x16_1).f2)] 113 (0, 0)) (by (with_reducible repeat (first | refine blk_drewN ?_ _ | refine blk_drew ?_ | refine blk_alloc ?_ _)); refine blk_put (cs := #[.slice A66001_0 ((rd_T113 l0 x16_1).f0).length c66001_0, .int .i64 ((rd_T113 l0 x16_1).f1), .int .i64 0]) ?_ 2 _ rfl; (with_reducible repeat (first | refine blk_drewN ?_ _ | refine blk_drew ?_ | refine blk_alloc ?_ _)); refine blk_put (cs := #[.slice A66001_0 ((rd_T113 l0 x16_1).f0).length c66001_0, .int .i64 0, .int .i64 0]) ?_ 1 _ rfl; (with_reducible repeat (first | refine blk_drewN ?_ _ | refine blk_drew ?_ | refine blk_alloc ?_ _)); refine blk_put (cs := #[.slice none 0 0, .int .i64 0, .int .i64 0]) ?_ 0 _ rfl; (with_reducible repeat (first | refine blk_drewN ?_ _ | refine blk_drew ?_ | refine blk_alloc ?_ _)); exact BK66002.out) hb); have n2_ := Aside0.mk (below_step (by repeat (first | (with_reducible first | exact HB.out | apply below_alloc | apply pw_below_drewN | apply below_drew1 | refine below_set ?_ GE66002.out) | exact HB.out)) hb); clear HO_4; clear BK66002; clear HB; have HO_4 := n0_; have BK66002 := n1_; have HB := n2_; clear n0_ n1_ n2_; (try clear hb); (try clear hb2); (try clear hk); (try clear hi); have hcz13_0 : w12.cell? ⟨gb66002, 0, none⟩ = some (.slice A66001_0 ((rd_T113 l0 x16_1).f0).length c66001_0) := (blk_cell BK66002.out 0).trans rfl; have hcz13_1 : w12.cell? ⟨gb66002, 1, none⟩ = some (.int .i64 ((rd_T113 l0 x16_1).f1)) := (blk_cell BK66002.out 1).trans rfl; have hcz13_2 : w12.cell? ⟨gb66002, 2, none⟩ = some (.int .i64 ((rd_T113 l0 x16_1).f2)) := (blk_cell BK66002.out 2).trans rfl; have hfz13_0 := blk_frozen BK66002.out 0; have hfz13_1 := blk_frozen BK66002.out 1; have hfz13_2 := blk_frozen BK66002.out 2))
                (try simp only [Act.put, List.setIfInBounds_toArray, List.set_cons_zero, List.set_cons_succ])
                go_cut [8, 10] (fun v8 v10 wc => ∃ (kq : Nat) (x10_8 : Int), v8 = .bool (x16_1 == (wrap64 ((l0.length : Int) - 1))) ∧ v10 = .int .i64 x10_8 ∧ Aside0 (lz_Join.j1 kq l0 x4_1 (wrap64 (x5_1 + (wrap64 ((((rd_T113 l0 x16_1).f0).length : Int) + ((rd_T113 l0 x16_1).f2))))) (x16_1 == (wrap64 ((l0.length : Int) - 1))) x10_8 l0 (l0.length : Int) x16_1 ((rd_T113 l0 x16_1).f0) ((rd_T113 l0 x16_1).f1) ((rd_T113 l0 x16_1).f2) = some (r1, r2)) ∧ Aside0 (kq ≤ k1) ∧ Aside0 (Kd.R (Kd.int .u8) 5 wc w.heap.size (fun _ => True) u4 x4_1) ∧ Aside0 (wc.heap[gb66002]? = some (.cells #[(.slice A66001_0 ((rd_T113 l0 x16_1).f0).length c66001_0), .int .i64 ((rd_T113 l0 x16_1).f1), .int .i64 ((rd_T113 l0 x16_1).f2)] 113 (0, 0))) ∧ Aside0 (Below w.heap.size w wc))
                case first =>
                  have H := HC9.out
                  clear HC9
                  by_cases c14 : (x16_1 = (wrap64 ((l0.length : Int) - 1)))
                  · rw [if_pos c14] at H
                    have c14b0 : (x16_1 == (wrap64 ((l0.length : Int) - 1))) = true := beq_iff_eq.mpr c14
                    have c14b1 : (x16_1 != (wrap64 ((l0.length : Int) - 1))) = false := bne_eq_false_iff_eq.mpr c14
                    clear c14
                    (first | rw [c14b0] | (simp only [i64_w, i32_w]; rw [c14b0]) | skip)
                    have H' := Aside0.mk H
                    clear H
                    go_wp2
                    go_meet
                    case rel => exact ⟨_, ((ji8) * 16), (by first | rfl | (rw [c14b0])), (by first | rfl | (simp; done) | (simp only [← hji8] <;> (first | rfl | simp)) | (simp [*]; done)), H', ⟨by have := HK1.out; first | omega | exact Nat.le_refl _⟩, ⟨by (with_reducible repeat (first | apply Kd.R_alloc | apply Kd.R_drewN | apply Kd.R_drew)); exact HO_4.out⟩, ⟨by (with_reducible repeat (first | refine blk_drewN ?_ _ | refine blk_drew ?_ | refine blk_alloc ?_ _)); exact BK66002.out⟩, ⟨by repeat (first | (with_reducible first | exact HB.out | apply below_alloc | apply pw_below_drewN | apply below_drew1 | refine below_set ?_ GE66002.out) | exact HB.out)⟩⟩
                  · rw [if_neg c14] at H
                    have c14b0 : (x16_1 == (wrap64 ((l0.length : Int) - 1))) = false := beq_eq_false_iff_ne.mpr c14
                    have c14b1 : (x16_1 != (wrap64 ((l0.length : Int) - 1))) = true := bne_iff_ne.mpr c14
                    (first | rw [c14b0] | (simp only [i64_w, i32_w]; rw [c14b0]) | skip)
                    obtain ⟨ji15, hji15⟩ : ∃ j_ : Int, (mn (wrap64 (((rd_T113 l0 x16_1).f2) - 4)) 15) = j_ := ⟨_, rfl⟩
                    replace H : (lz_Join.j1 k1 l0 x4_1 (wrap64 (x5_1 + (wrap64 ((((rd_T113 l0 x16_1).f0).length : Int) + ((rd_T113 l0 x16_1).f2))))) (x16_1 == (wrap64 ((l0.length : Int) - 1))) (Go.bits .or .i64 ((ji8) * 16) (ji15)) l0 (l0.length : Int) x16_1 ((rd_T113 l0 x16_1).f0) ((rd_T113 l0 x16_1).f1) ((rd_T113 l0 x16_1).f2)) = some (r1, r2) := by first | (rw [hji15] at H; exact H) | (simp only [hji15] at H ⊢; exact H)
                    have hji15_ : (if 15 < (wrap64 (((rd_T113 l0 x16_1).f2) - 4)) then 15 else (wrap64 (((rd_T113 l0 x16_1).f2) - 4))) = ji15 := hji15
                    have H' := Aside0.mk H
                    clear H
                    have hcz16_0 : w12.cell? ⟨gb66002, 0, none⟩ = some (.slice A66001_0 ((rd_T113 l0 x16_1).f0).length c66001_0) := (blk_cell BK66002.out 0).trans rfl
                    have hcz16_1 : w12.cell? ⟨gb66002, 1, none⟩ = some (.int .i64 ((rd_T113 l0 x16_1).f1)) := (blk_cell BK66002.out 1).trans rfl
                    have hcz16_2 : w12.cell? ⟨gb66002, 2, none⟩ = some (.int .i64 ((rd_T113 l0 x16_1).f2)) := (blk_cell BK66002.out 2).trans rfl
                    have hfz16_0 := blk_frozen BK66002.out 0
                    have hfz16_1 := blk_frozen BK66002.out 1
                    have hfz16_2 := blk_frozen BK66002.out 2
                    go_wp2
                    go_meet
                    case rel => exact ⟨_, (Go.bits .or .i64 ((ji8) * 16) (ji15)), (by first | rfl | (rw [c14b0])), (by first | rfl | (simp; done) | (simp only [← hji8, ← hji15] <;> (first | rfl | simp)) | (simp [*]; done)), H', ⟨by have := HK1.out; first | omega | exact Nat.le_refl _⟩, ⟨by (with_reducible repeat (first | apply Kd.R_alloc | apply Kd.R_drewN | apply Kd.R_drew)); exact HO_4.out⟩, ⟨by (with_reducible repeat (first | refine blk_drewN ?_ _ | refine blk_drew ?_ | refine blk_alloc ?_ _)); exact BK66002.out⟩, ⟨by repeat (first | (with_reducible first | exact HB.out | apply below_alloc | apply pw_below_drewN | apply below_drew1 | refine below_set ?_ GE66002.out) | exact HB.out)⟩⟩
                case rest =>
                  clear HC9
                  try clear c1
                  try clear c2
                  try clear c2b0
                  try clear c2b1
                  try clear c2b2
                  try clear p2
                  try clear c3
                  try clear c3b0
                  try clear c4
                  try clear c4b0
                  try clear c5
                  try clear c5b0
                  try clear c6
                  try clear p6
                  try clear q6
                  try clear hx6
                  try clear c7
                  try clear c7b0
                  try clear c7b1
                  try clear c9
                  try clear c14
                  try clear c14b0
                  try clear c14b1
                  try clear hcz11_0
                  try clear hcz11_1
                  try clear hcz11_2
                  try clear hcz13_0
                  try clear hcz13_1
                  try clear hcz13_2
                  try clear hcz16_0
                  try clear hcz16_1
                  try clear hcz16_2
                  try clear hfz11_0
                  try clear hfz11_1
                  try clear hfz11_2
                  try clear hfz13_0
                  try clear hfz13_1
                  try clear hfz13_2
                  try clear hfz16_0
                  try clear hfz16_1
                  try clear hfz16_2
                  try clear hx66001_0
                  try clear hx66001_1
                  try clear hx66001_2
                  try clear p2
                  try clear p66001
                  try clear q66001
                  obtain ⟨kq, x10_8, rfl, rfl, HA, HJ8, HO_4, BK66002, HB⟩ := hcut
                  cases kq with
                  | zero => exact absurd HA.out (by simp [lz_Join.j1])
                  | succ kj8 =>
                    have H := HA.out
                    clear HA
                    simp only [lz_Join.j1] at H
                    by_cases c17 : x4_1.length < 140737488355328
                    · rw [if_pos c17] at H
                      have LMc17 := Aside0.mk c17
                      clear c17
                      obtain ⟨y66004, hy66004⟩ : ∃ y_ : List Int, y_ = (x4_1 ++ [(x10_8) % 256]) := ⟨_, rfl⟩
                      replace H : ((lz_tell.f kj8 y66004 (((rd_T113 l0 x16_1).f0).length : Int)).bind fun t66007 => (if t66007.length + ((rd_T113 l0 x16_1).f0).length < 140737488355328 then ((some (t66007 ++ ((rd_T113 l0 x16_1).f0) : List Int)).bind fun y66010 => (if (x16_1 == (wrap64 ((l0.length : Int) - 1))) = true then (lz_Join.l0 kj8 l0 y66010 (wrap64 (x5_1 + (wrap64 ((((rd_T113 l0 x16_1).f0).length : Int) + ((rd_T113 l0 x16_1).f2))))) l0 (l0.length : Int) (wrap64 (x16_1 + 1))) else ((some (([(((rd_T113 l0 x16_1).f1)) % 256, (((rd_T113 l0 x16_1).f1) / 256) % 256] : List Int) : List Int)).bind fun y66013 => (if y66010.length + y66013.length < 140737488355328 then ((lz_tell.f kj8 (y66010 ++ y66013) (wrap64 (((rd_T113 l0 x16_1).f2) - 4))).bind fun t66019 => (lz_Join.l0 kj8 l0 t66019 (wrap64 (x5_1 + (wrap64 ((((rd_T113 l0 x16_1).f0).length : Int) + ((rd_T113 l0 x16_1).f2))))) l0 (l0.length : Int) (wrap64 (x16_1 + 1)))) else (none))))) else (none))) = some (r1, r2) := by first | (rw [hy66004]; with_reducible exact H) | (have H2_ := (Option.bind_some _ _).symm.trans H; rw [hy66004]; with_reducible exact H2_) | (have H2_ := (Option.bind_some _ _).symm.trans H; with_reducible exact H2_) | with_reducible exact H | (rw [hy66004]; exact H) | exact H
                      have Ny66004 := Aside0.mk hy66004
                      clear hy66004
                      replace H := Option.bind_eq_some_iff.mp H
                      obtain ⟨t66007, A180, H⟩ := H
                      replace H : (if t66007.length + ((rd_T113 l0 x16_1).f0).length < 140737488355328 then ((some (t66007 ++ ((rd_T113 l0 x16_1).f0) : List Int)).bind fun y66010 => (if (x16_1 == (wrap64 ((l0.length : Int) - 1))) = true then (lz_Join.l0 kj8 l0 y66010 (wrap64 (x5_1 + (wrap64 ((((rd_T113 l0 x16_1).f0).length : Int) + ((rd_T113 l0 x16_1).f2))))) l0 (l0.length : Int) (wrap64 (x16_1 + 1))) else ((some (([(((rd_T113 l0 x16_1).f1)) % 256, (((rd_T113 l0 x16_1).f1) / 256) % 256] : List Int) : List Int)).bind fun y66013 => (if y66010.length + y66013.length < 140737488355328 then ((lz_tell.f kj8 (y66010 ++ y66013) (wrap64 (((rd_T113 l0 x16_1).f2) - 4))).bind fun t66019 => (lz_Join.l0 kj8 l0 t66019 (wrap64 (x5_1 + (wrap64 ((((rd_T113 l0 x16_1).f0).length : Int) + ((rd_T113 l0 x16_1).f2))))) l0 (l0.length : Int) (wrap64 (x16_1 + 1)))) else (none))))) else (none)) = some (r1, r2) := H
                      have A18 := Aside0.mk A180
                      clear A180
                      by_cases c19 : t66007.length + ((rd_T113 l0 x16_1).f0).length < 140737488355328
                      · rw [if_pos c19] at H
                        have LMc19 := Aside0.mk c19
                        clear c19
                        obtain ⟨y66010, hy66010⟩ : ∃ y_ : List Int, y_ = (t66007 ++ ((rd_T113 l0 x16_1).f0)) := ⟨_, rfl⟩
                        replace H : (if (x16_1 == (wrap64 ((l0.length : Int) - 1))) = true then (lz_Join.l0 kj8 l0 y66010 (wrap64 (x5_1 + (wrap64 ((((rd_T113 l0 x16_1).f0).length : Int) + ((rd_T113 l0 x16_1).f2))))) l0 (l0.length : Int) (wrap64 (x16_1 + 1))) else ((some (([(((rd_T113 l0 x16_1).f1)) % 256, (((rd_T113 l0 x16_1).f1) / 256) % 256] : List Int) : List Int)).bind fun y66013 => (if y66010.length + y66013.length < 140737488355328 then ((lz_tell.f kj8 (y66010 ++ y66013) (wrap64 (((rd_T113 l0 x16_1).f2) - 4))).bind fun t66019 => (lz_Join.l0 kj8 l0 t66019 (wrap64 (x5_1 + (wrap64 ((((rd_T113 l0 x16_1).f0).length : Int) + ((rd_T113 l0 x16_1).f2))))) l0 (l0.length : Int) (wrap64 (x16_1 + 1)))) else (none)))) = some (r1, r2) := by first | (rw [hy66010]; with_reducible exact H) | (have H2_ := (Option.bind_some _ _).symm.trans H; rw [hy66010]; with_reducible exact H2_) | (have H2_ := (Option.bind_some _ _).symm.trans H; with_reducible exact H2_) | with_reducible exact H | (rw [hy66010]; exact H) | exact H
                        have Ny66010 := Aside0.mk hy66010
                        clear hy66010
                        by_cases c20 : (x16_1 == (wrap64 ((l0.length : Int) - 1))) = true
                        · rw [if_pos c20] at H
                          have c20b0 : (x16_1 == (wrap64 ((l0.length : Int) - 1))) = true := c20
                          (try (have c20b1 : decide (x16_1 = (wrap64 ((l0.length : Int) - 1))) = true := by simpa using c20))
                          (try (have c20b2 : (x16_1 == (wrap64 ((l0.length : Int) - 1))) = true := by simpa using c20))
                          clear c20
                          have H' := Aside0.mk H
                          clear H
                          try go_wp2
                          have n0_ := Aside0.mk (Kd.R_drew HO_4.out)
                          have n1_ := Aside0.mk (blk_drew BK66002.out)
                          have n2_ := Aside0.mk (below_drew1 HB.out)
                          clear HO_4
                          clear BK66002
                          clear HB
                          have HO_4 := n0_
                          have BK66002 := n1_
                          have HB := n2_
                          clear n0_ n1_ n2_
                          refine start_ (n := 10) (S := fun w' => w'.cell? ⟨gb66002, 0, none⟩ = some (.slice A66001_0 ((rd_T113 l0 x16_1).f0).length c66001_0) ∧ w'.cell? ⟨gb66002, 1, none⟩ = some (.int .i64 ((rd_T113 l0 x16_1).f1)) ∧ w'.cell? ⟨gb66002, 2, none⟩ = some (.int .i64 ((rd_T113 l0 x16_1).f2))) (ds := []) #[false, false, false, false, false, false, false, false, false, false] (by kernel_rfl) rfl rfl ⟨(blk_cell BK66002.out 0).trans rfl, (blk_cell BK66002.out 1).trans rfl, (blk_cell BK66002.out 2).trans rfl⟩ (fun hHeld => ?_); refine with_tabW lz_Join.tab16 lz_Join.bits16 (fun HT_ HW_ => ?_)
                          generalize wc.drew = w21 at HO_4 BK66002 HB hHeld ⊢
                          refine pure_ (i := 0) (N := some 54) (v := ?_) (a' := ?_) #[true, false, false, false, false, false, false, false, false, false] rfl rfl (any_of HT_.out (by kernel_rfl)) (fun _ _ _ h => h) (Or.inl ⟨by rfl, ?_⟩) ?_ ?_
                          rotate_left
                          · intro w'
                            go_simp
                            with_reducible rfl
                          rotate_left
                          · simp only [Act.put, List.setIfInBounds_toArray, List.set_cons_zero, List.set_cons_succ, i64_w, i32_w]
                            rfl
                          refine pure_ (i := 1) (N := some 55) (v := ?_) (a' := ?_) #[true, true, false, false, false, false, false, false, false, false] rfl rfl (any_of HT_.out (by kernel_rfl)) (fun _ _ _ h => h) (Or.inl ⟨by rfl, ?_⟩) ?_ ?_
                          rotate_left
                          · intro w'
                            go_simp
                            with_reducible rfl
                          rotate_left
                          · simp only [Act.put, List.setIfInBounds_toArray, List.set_cons_zero, List.set_cons_succ, i64_w, i32_w]
                            rfl
                          refine pure_ (i := 2) (N := some 56) (v := ?_) (a' := ?_) #[true, true, true, false, false, false, false, false, false, false] rfl rfl (any_of HT_.out (by kernel_rfl)) (fun _ _ _ h => h) (Or.inl ⟨by rfl, ?_⟩) ?_ ?_
                          rotate_left
                          · intro w'
                            go_simp
                            with_reducible rfl
                          rotate_left
                          · simp only [Act.put, List.setIfInBounds_toArray, List.set_cons_zero, List.set_cons_succ, i64_w, i32_w]
                            rfl
                          refine pure_ (i := 5) (N := some 59) (v := ?_) (a' := ?_) #[true, true, true, false, false, true, false, false, false, false] rfl rfl (any_of HT_.out (by kernel_rfl)) (fun _ _ _ h => h) (Or.inl ⟨by rfl, ?_⟩) ?_ ?_
                          rotate_left
                          · intro w'
                            go_simp
                            with_reducible rfl
                          rotate_left
                          · simp only [Act.put, List.setIfInBounds_toArray, List.set_cons_zero, List.set_cons_succ, i64_w, i32_w]
                            rfl
                          refine take_ (i := 6) (N := some 60) (v := ?_) (a' := ?_) #[true, true, true, false, false, true, true, false, false, false] rfl rfl (take_ofW HT_.out HW_.out (by kernel_rfl)) (fun _ _ _ h => h) (Or.inl ⟨by rfl, ?_⟩) hHeld ?_ ?_
                          rotate_left
                          · rintro w' ⟨s0, s1, s2⟩
                            go_simp
                            with_reducible rfl
                          rotate_left
                          · simp only [Act.put, List.setIfInBounds_toArray, List.set_cons_zero, List.set_cons_succ, i64_w, i32_w]
                            rfl
                          refine pure_ (i := 7) (N := some 61) (v := ?_) (a' := ?_) #[true, true, true, false, false, true, true, true, false, false] rfl rfl (any_of HT_.out (by kernel_rfl)) (fun _ _ _ h => h) (Or.inl ⟨by rfl, ?_⟩) ?_ ?_
                          rotate_left
                          · intro w'
                            go_simp
                            with_reducible rfl
                          rotate_left
                          · simp only [Act.put, List.setIfInBounds_toArray, List.set_cons_zero, List.set_cons_succ, i64_w, i32_w]
                            rfl
                          refine one_ (i := 3) (N := some 57) #[true, true, true, true, false, true, true, true, false, false] rfl rfl (one_of HT_.out (by kernel_rfl)) (by decide) (fun K hK => ?_)
                          refine value_ (w1 := ?_) (v := ?_) (by rfl) rfl ?_ ?_
                          rotate_left 2
                          · go_simp
                            constructor
                            · rfl
                            · rfl
                          refine hK.out _ _ ⟨(blk_cell (blk_alloc BK66002.out _) 0).trans rfl, (blk_cell (blk_alloc BK66002.out _) 1).trans rfl, (blk_cell (blk_alloc BK66002.out _) 2).trans rfl⟩ (fun hHeld => ?_)
                          clear hK K
                          refine norm_ (a' := ?_) ?_ ?_
                          rotate_left
                          · show Act.put _ (some 57) _ = _
                            simp only [Act.put, List.setIfInBounds_toArray, List.set_cons_zero, List.set_cons_succ, i64_w, i32_w]
                            rfl
                          refine one_ (i := 4) (N := some 58) #[true, true, true, true, true, true, true, true, false, false] rfl rfl (one_of HT_.out (by kernel_rfl)) (by decide) (fun K hK => ?_)
                          refine Kd.R_append_step (Kd.int .u8) (w0 := w) w.heap.size (by rfl) (.tmp 54) (.tmp 57) 22 5 (.int .u8 0) 1 rfl Try.underlying22 info5 rfl (by decide) (by omega) u4 x4_1 ((x10_8) % 256) [.int .u8 ((x10_8) % 256)] (fun _ => True) (fun _ => False) rfl rfl ?aP (fun _ hk => hk.elim) ?aF ?aO ?aB ?aS ?aL ?_
                          (case aP => exact rfl)
                          (case aB => exact (by repeat (first | (with_reducible first | exact HB.out | apply below_alloc | apply pw_below_drewN | apply below_drew1 | refine below_set ?_ GE66002.out) | exact HB.out)))
                          (case aF => exact (fun _ _ => trivial))
                          (case aO => exact (by (with_reducible repeat (first | apply Kd.R_alloc | apply Kd.R_drewN | apply Kd.R_drew)); exact HO_4.out))
                          (case aS => exact (below_size (by repeat (first | (with_reducible first | exact HB.out | apply below_alloc | apply pw_below_drewN | apply below_drew1 | refine below_set ?_ GE66002.out) | exact HB.out))))
                          (case aL => have := LMc17.out; omega)
                          intro v66005 w22 ho hb hg hat
                          rw [← Ny66004.out] at ho
                          have n0_ := Aside0.mk (blk_grown (g := gb66002) (o := .cells #[.slice A66001_0 ((rd_T113 l0 x16_1).f0).length c66001_0, .int .i64 ((rd_T113 l0 x16_1).f1), .int .i64 ((rd_T113 l0 x16_1).f2)] 113 (0, 0)) (by (with_reducible repeat (first | refine blk_drewN ?_ _ | refine blk_drew ?_ | refine blk_alloc ?_ _)); exact BK66002.out) hg (Kd.R_ne HO_4.out BK66002.out (by decide)))
                          have n1_ := Aside0.mk (hb)
                          have n2_ := Aside0.mk (ho)
                          clear BK66002
                          clear HB
                          clear HO_4
                          have BK66002 := n0_
                          have HB := n1_
                          have HO66006 := n2_
                          clear n0_ n1_ n2_
                          clear ho hb hg hat
                          obtain ⟨Ao23, co23, eo23⟩ := Kd.R_slice HO66006.out
                          (first | subst eo23 | (injection eo23 with f1_ f2_ f3_; have f4_ := f1_.symm; have f5_ := f3_.symm; clear f1_ f2_ f3_; subst f4_; subst f5_))
                          refine hK.out _ _ ⟨(blk_cell BK66002.out 0).trans rfl, (blk_cell BK66002.out 1).trans rfl, (blk_cell BK66002.out 2).trans rfl⟩ (fun hHeld => ?_)
                          clear hK K
                          refine norm_ (a' := ?_) ?_ ?_
                          rotate_left
                          · show Act.put _ (some 58) _ = _
                            simp only [Act.put, List.setIfInBounds_toArray, List.set_cons_zero, List.set_cons_succ, i64_w, i32_w]
                            rfl
                          refine one_ (i := 8) (N := some 62) #[true, true, true, true, true, true, true, true, true, false] rfl rfl (one_of HT_.out (by kernel_rfl)) (by decide) (fun K hK => ?_)
                          refine goes_ Try.func91 (by kernel_rfl) rfl #[.slice Ao23 y66004.length co23, .int .i64 (((rd_T113 l0 x16_1).f0).length : Int)] (by rfl) rfl rfl (by (try simp only [List.map_toArray, List.map_cons, List.map_nil]); first | done | rfl | (simp only [List.length_drop, List.length_take]; rfl)) ?_
                          with_reducible refine (lz_tell.calls kj8 (fun k_ => some k_ = (.slice Ao23 y66004.length co23 : Value).ownBlock) (.slice Ao23 y66004.length co23) y66004 (((rd_T113 l0 x16_1).f0).length : Int) t66007 w _ ?side1 ?side2 A18.out).mono ?_
                          (case side1 => repeat (first | (with_reducible first | exact HB.out | apply below_alloc | apply pw_below_drewN | apply below_drew1 | refine below_set ?_ GE66002.out) | exact HB.out))
                          (case side2 => exact Kd.R_tight rfl HO66006.out)
                          rintro e w24 ⟨v66008, rfl, ho0, hb, hkp⟩
                          refine ⟨_, rfl, ?_⟩
                          have n0_ := Aside0.mk (blk_kept (by (with_reducible repeat (first | refine blk_drewN ?_ _ | refine blk_drew ?_ | refine blk_alloc ?_ _)); exact BK66002.out) hkp (fun hs_ => (fun e_ => (Kd.R_ne HO66006.out BK66002.out (by decide)) e_) hs_))
                          have n1_ := Aside0.mk (Kd.R_mono (ok' := fun k_ => True) ho0 (fun k_ hk_ => trivial))
                          have n2_ := Aside0.mk (hb)
                          clear BK66002
                          clear HB
                          clear HO66006
                          have BK66002 := n0_
                          have HO66009 := n1_
                          have HB := n2_
                          clear n0_ n1_ n2_
                          (try clear hb)
                          (try clear hkp)
                          (try clear ho0)
                          refine hK.out _ _ ⟨(blk_cell BK66002.out 0).trans rfl, (blk_cell BK66002.out 1).trans rfl, (blk_cell BK66002.out 2).trans rfl⟩ (fun hHeld => ?_)
                          clear hK K
                          refine norm_ (a' := ?_) ?_ ?_
                          rotate_left
                          · show Act.put _ (some 62) _ = _
                            simp only [Act.put, List.setIfInBounds_toArray, List.set_cons_zero, List.set_cons_succ, i64_w, i32_w]
                            rfl
                          refine pure_ (i := 9) (N := some 4) (v := ?_) (a' := ?_) #[true, true, true, true, true, true, true, true, true, true] rfl rfl (any_of HT_.out (by kernel_rfl)) (fun _ _ _ h => h) (Or.inl ⟨by rfl, ?_⟩) ?_ ?_
                          rotate_left
                          · intro w'
                            go_simp
                            with_reducible rfl
                          rotate_left
                          · simp only [Act.put, List.setIfInBounds_toArray, List.set_cons_zero, List.set_cons_succ, i64_w, i32_w]
                            rfl
                          refine done_ (done_of HT_.out (by kernel_rfl)) ?_
                          have hcz25_0 : w24.cell? ⟨gb66002, 0, none⟩ = some (.slice A66001_0 ((rd_T113 l0 x16_1).f0).length c66001_0) := (blk_cell BK66002.out 0).trans rfl
                          have hcz25_1 : w24.cell? ⟨gb66002, 1, none⟩ = some (.int .i64 ((rd_T113 l0 x16_1).f1)) := (blk_cell BK66002.out 1).trans rfl
                          have hcz25_2 : w24.cell? ⟨gb66002, 2, none⟩ = some (.int .i64 ((rd_T113 l0 x16_1).f2)) := (blk_cell BK66002.out 2).trans rfl
                          have hfz25_0 := blk_frozen BK66002.out 0
                          have hfz25_1 := blk_frozen BK66002.out 1
                          have hfz25_2 := blk_frozen BK66002.out 2
                          try go_wp2_with (first | ((with_reducible refine gate_builtin (b := .append) (xs := #[.tmp 63, .tmp 65]) rfl ?_); at_builtin; refine Kd.R_append_rows (Kd.int .u8) (w0 := w) w.heap.size rfl (.tmp 63) (.tmp 65) 22 5 (.int .u8 0) 1 rfl Try.underlying22 info5 rfl (by decide) (by omega) v66008 t66007 ((rd_T113 l0 x16_1).f0) _ _ _ (fun _ => True) (fun _ => False) rfl rfl ?aO ?aR (fun _ _ h => h) (fun _ h => h.elim) ?aF ?aB ?aS ?aL ?_; (case aR => repeat (first | exact (Kd.C_below HR66001_0.out HB.out) | (with_reducible refine Kd.C_alloc ?_ _) | (with_reducible refine Kd.C_drewN ?_ _) | (with_reducible refine Kd.C_drew ?_))); (case aB => exact (by repeat (first | (with_reducible first | exact HB.out | apply below_alloc | apply pw_below_drewN | apply below_drew1 | refine below_set ?_ GE66002.out) | exact HB.out))); (case aF => exact (fun _ _ => trivial)); (case aO => exact (by (with_reducible repeat (first | apply Kd.R_alloc | apply Kd.R_drewN | apply Kd.R_drew)); exact HO66009.out)); (case aS => exact (below_size (by repeat (first | (with_reducible first | exact HB.out | apply below_alloc | apply pw_below_drewN | apply below_drew1 | refine below_set ?_ GE66002.out) | exact HB.out)))); (case aL => have := LMc19.out; omega); intro v66011 w26 ho hb hg hat; rw [← Ny66010.out] at ho; have n0_ := Aside0.mk (blk_grown (g := gb66002) (o := .cells #[.slice A66001_0 ((rd_T113 l0 x16_1).f0).length c66001_0, .int .i64 ((rd_T113 l0 x16_1).f1), .int .i64 ((rd_T113 l0 x16_1).f2)] 113 (0, 0)) (by (with_reducible repeat (first | refine blk_drewN ?_ _ | refine blk_drew ?_ | refine blk_alloc ?_ _)); exact BK66002.out) hg (Kd.R_ne HO66009.out BK66002.out (by decide))); have n1_ := Aside0.mk (hb); have n2_ := Aside0.mk (ho); clear BK66002; clear HB; clear HO66009; have BK66002 := n0_; have HB := n1_; have HO66012 := n2_; clear n0_ n1_ n2_; clear ho hb hg hat))
                          go_roundg kj8
                          case measure => have := HK1.out; have := HJ8.out; omega
                          case rel => exact ⟨(y66010), ((wrap64 (x5_1 + (wrap64 ((((rd_T113 l0 x16_1).f0).length : Int) + ((rd_T113 l0 x16_1).f2)))))), (wrap64 (x16_1 + 1)), (by first | rfl | (simp; done) | (simp [*]; done)), (by first | rfl | (simp; done) | (simp [*]; done)), H', ⟨by have := HK1.out; have := HJ8.out; omega⟩, ⟨by (with_reducible repeat (first | apply Kd.R_alloc | apply Kd.R_drewN | apply Kd.R_drew)); exact HO66012.out⟩, ⟨by repeat (first | (with_reducible first | exact HB.out | apply below_alloc | apply pw_below_drewN | apply below_drew1 | refine below_set ?_ GE66002.out) | exact HB.out)⟩⟩
                        · rw [if_neg c20] at H
                          have c20b0 : (x16_1 == (wrap64 ((l0.length : Int) - 1))) = false := by simpa using c20
                          (try (have c20b1 : decide (x16_1 = (wrap64 ((l0.length : Int) - 1))) = false := by simpa using c20))
                          (try (have c20b2 : (x16_1 == (wrap64 ((l0.length : Int) - 1))) = false := by simpa using c20))
                          (try (have c20b3 : ¬ (x16_1 = (wrap64 ((l0.length : Int) - 1))) := by simpa using c20))
                          clear c20
                          obtain ⟨y66013, hy66013⟩ : ∃ y_ : List Int, y_ = (([(((rd_T113 l0 x16_1).f1)) % 256, (((rd_T113 l0 x16_1).f1) / 256) % 256] : List Int)) := ⟨_, rfl⟩
                          replace H : (if y66010.length + y66013.length < 140737488355328 then ((lz_tell.f kj8 (y66010 ++ y66013) (wrap64 (((rd_T113 l0 x16_1).f2) - 4))).bind fun t66019 => (lz_Join.l0 kj8 l0 t66019 (wrap64 (x5_1 + (wrap64 ((((rd_T113 l0 x16_1).f0).length : Int) + ((rd_T113 l0 x16_1).f2))))) l0 (l0.length : Int) (wrap64 (x16_1 + 1)))) else (none)) = some (r1, r2) := by first | (rw [hy66013]; with_reducible exact H) | (have H2_ := (Option.bind_some _ _).symm.trans H; rw [hy66013]; with_reducible exact H2_) | (have H2_ := (Option.bind_some _ _).symm.trans H; with_reducible exact H2_) | with_reducible exact H | (rw [hy66013]; exact H) | exact H
                          have Ny66013 := Aside0.mk hy66013
                          clear hy66013
                          by_cases c27 : y66010.length + y66013.length < 140737488355328
                          · rw [if_pos c27] at H
                            have LMc27 := Aside0.mk c27
                            clear c27
                            obtain ⟨y66016, hy66016⟩ : ∃ y_ : List Int, y_ = (y66010 ++ y66013) := ⟨_, rfl⟩
                            replace H : ((lz_tell.f kj8 y66016 (wrap64 (((rd_T113 l0 x16_1).f2) - 4))).bind fun t66019 => (lz_Join.l0 kj8 l0 t66019 (wrap64 (x5_1 + (wrap64 ((((rd_T113 l0 x16_1).f0).length : Int) + ((rd_T113 l0 x16_1).f2))))) l0 (l0.length : Int) (wrap64 (x16_1 + 1)))) = some (r1, r2) := by first | (rw [hy66016]; with_reducible exact H) | (have H2_ := (Option.bind_some _ _).symm.trans H; rw [hy66016]; with_reducible exact H2_) | (have H2_ := (Option.bind_some _ _).symm.trans H; with_reducible exact H2_) | with_reducible exact H | (rw [hy66016]; exact H) | exact H
                            have Ny66016 := Aside0.mk hy66016
                            clear hy66016
                            replace H := Option.bind_eq_some_iff.mp H
                            obtain ⟨t66019, A280, H⟩ := H
                            replace H : (lz_Join.l0 kj8 l0 t66019 (wrap64 (x5_1 + (wrap64 ((((rd_T113 l0 x16_1).f0).length : Int) + ((rd_T113 l0 x16_1).f2))))) l0 (l0.length : Int) (wrap64 (x16_1 + 1))) = some (r1, r2) := H
                            have A28 := Aside0.mk A280
                            clear A280
                            have H' := Aside0.mk H
                            clear H
                            try go_wp2
                            have n0_ := Aside0.mk (Kd.R_drew HO_4.out)
                            have n1_ := Aside0.mk (blk_drew BK66002.out)
                            have n2_ := Aside0.mk (below_drew1 HB.out)
                            clear HO_4
                            clear BK66002
                            clear HB
                            have HO_4 := n0_
                            have BK66002 := n1_
                            have HB := n2_
                            clear n0_ n1_ n2_
                            refine start_ (n := 10) (S := fun w' => w'.cell? ⟨gb66002, 0, none⟩ = some (.slice A66001_0 ((rd_T113 l0 x16_1).f0).length c66001_0) ∧ w'.cell? ⟨gb66002, 1, none⟩ = some (.int .i64 ((rd_T113 l0 x16_1).f1)) ∧ w'.cell? ⟨gb66002, 2, none⟩ = some (.int .i64 ((rd_T113 l0 x16_1).f2))) (ds := []) #[false, false, false, false, false, false, false, false, false, false] (by kernel_rfl) rfl rfl ⟨(blk_cell BK66002.out 0).trans rfl, (blk_cell BK66002.out 1).trans rfl, (blk_cell BK66002.out 2).trans rfl⟩ (fun hHeld => ?_); refine with_tabW lz_Join.tab16 lz_Join.bits16 (fun HT_ HW_ => ?_)
                            generalize wc.drew = w29 at HO_4 BK66002 HB hHeld ⊢
                            refine pure_ (i := 0) (N := some 54) (v := ?_) (a' := ?_) #[true, false, false, false, false, false, false, false, false, false] rfl rfl (any_of HT_.out (by kernel_rfl)) (fun _ _ _ h => h) (Or.inl ⟨by rfl, ?_⟩) ?_ ?_
                            rotate_left
                            · intro w'
                              go_simp
                              with_reducible rfl
                            rotate_left
                            · simp only [Act.put, List.setIfInBounds_toArray, List.set_cons_zero, List.set_cons_succ, i64_w, i32_w]
                              rfl
                            refine pure_ (i := 1) (N := some 55) (v := ?_) (a' := ?_) #[true, true, false, false, false, false, false, false, false, false] rfl rfl (any_of HT_.out (by kernel_rfl)) (fun _ _ _ h => h) (Or.inl ⟨by rfl, ?_⟩) ?_ ?_
                            rotate_left
                            · intro w'
                              go_simp
                              with_reducible rfl
                            rotate_left
                            · simp only [Act.put, List.setIfInBounds_toArray, List.set_cons_zero, List.set_cons_succ, i64_w, i32_w]
                              rfl
                            refine pure_ (i := 2) (N := some 56) (v := ?_) (a' := ?_) #[true, true, true, false, false, false, false, false, false, false] rfl rfl (any_of HT_.out (by kernel_rfl)) (fun _ _ _ h => h) (Or.inl ⟨by rfl, ?_⟩) ?_ ?_
                            rotate_left
                            · intro w'
                              go_simp
                              with_reducible rfl
                            rotate_left
                            · simp only [Act.put, List.setIfInBounds_toArray, List.set_cons_zero, List.set_cons_succ, i64_w, i32_w]
                              rfl
                            refine pure_ (i := 5) (N := some 59) (v := ?_) (a' := ?_) #[true, true, true, false, false, true, false, false, false, false] rfl rfl (any_of HT_.out (by kernel_rfl)) (fun _ _ _ h => h) (Or.inl ⟨by rfl, ?_⟩) ?_ ?_
                            rotate_left
                            · intro w'
                              go_simp
                              with_reducible rfl
                            rotate_left
                            · simp only [Act.put, List.setIfInBounds_toArray, List.set_cons_zero, List.set_cons_succ, i64_w, i32_w]
                              rfl
                            refine take_ (i := 6) (N := some 60) (v := ?_) (a' := ?_) #[true, true, true, false, false, true, true, false, false, false] rfl rfl (take_ofW HT_.out HW_.out (by kernel_rfl)) (fun _ _ _ h => h) (Or.inl ⟨by rfl, ?_⟩) hHeld ?_ ?_
                            rotate_left
                            · rintro w' ⟨s0, s1, s2⟩
                              go_simp
                              with_reducible rfl
                            rotate_left
                            · simp only [Act.put, List.setIfInBounds_toArray, List.set_cons_zero, List.set_cons_succ, i64_w, i32_w]
                              rfl
                            refine pure_ (i := 7) (N := some 61) (v := ?_) (a' := ?_) #[true, true, true, false, false, true, true, true, false, false] rfl rfl (any_of HT_.out (by kernel_rfl)) (fun _ _ _ h => h) (Or.inl ⟨by rfl, ?_⟩) ?_ ?_
                            rotate_left
                            · intro w'
                              go_simp
                              with_reducible rfl
                            rotate_left
                            · simp only [Act.put, List.setIfInBounds_toArray, List.set_cons_zero, List.set_cons_succ, i64_w, i32_w]
                              rfl
                            refine one_ (i := 3) (N := some 57) #[true, true, true, true, false, true, true, true, false, false] rfl rfl (one_of HT_.out (by kernel_rfl)) (by decide) (fun K hK => ?_)
                            refine value_ (w1 := ?_) (v := ?_) (by rfl) rfl ?_ ?_
                            rotate_left 2
                            · go_simp
                              constructor
                              · rfl
                              · rfl
                            refine hK.out _ _ ⟨(blk_cell (blk_alloc BK66002.out _) 0).trans rfl, (blk_cell (blk_alloc BK66002.out _) 1).trans rfl, (blk_cell (blk_alloc BK66002.out _) 2).trans rfl⟩ (fun hHeld => ?_)
                            clear hK K
                            refine norm_ (a' := ?_) ?_ ?_
                            rotate_left
                            · show Act.put _ (some 57) _ = _
                              simp only [Act.put, List.setIfInBounds_toArray, List.set_cons_zero, List.set_cons_succ, i64_w, i32_w]
                              rfl
                            refine one_ (i := 4) (N := some 58) #[true, true, true, true, true, true, true, true, false, false] rfl rfl (one_of HT_.out (by kernel_rfl)) (by decide) (fun K hK => ?_)
                            refine Kd.R_append_step (Kd.int .u8) (w0 := w) w.heap.size (by rfl) (.tmp 54) (.tmp 57) 22 5 (.int .u8 0) 1 rfl Try.underlying22 info5 rfl (by decide) (by omega) u4 x4_1 ((x10_8) % 256) [.int .u8 ((x10_8) % 256)] (fun _ => True) (fun _ => False) rfl rfl ?aP (fun _ hk => hk.elim) ?aF ?aO ?aB ?aS ?aL ?_
                            (case aP => exact rfl)
                            (case aB => exact (by repeat (first | (with_reducible first | exact HB.out | apply below_alloc | apply pw_below_drewN | apply below_drew1 | refine below_set ?_ GE66002.out) | exact HB.out)))
                            (case aF => exact (fun _ _ => trivial))
                            (case aO => exact (by (with_reducible repeat (first | apply Kd.R_alloc | apply Kd.R_drewN | apply Kd.R_drew)); exact HO_4.out))
                            (case aS => exact (below_size (by repeat (first | (with_reducible first | exact HB.out | apply below_alloc | apply pw_below_drewN | apply below_drew1 | refine below_set ?_ GE66002.out) | exact HB.out))))
                            (case aL => have := LMc17.out; omega)
                            intro v66005 w30 ho hb hg hat
                            rw [← Ny66004.out] at ho
                            have n0_ := Aside0.mk (blk_grown (g := gb66002) (o := .cells #[.slice A66001_0 ((rd_T113 l0 x16_1).f0).length c66001_0, .int .i64 ((rd_T113 l0 x16_1).f1), .int .i64 ((rd_T113 l0 x16_1).f2)] 113 (0, 0)) (by (with_reducible repeat (first | refine blk_drewN ?_ _ | refine blk_drew ?_ | refine blk_alloc ?_ _)); exact BK66002.out) hg (Kd.R_ne HO_4.out BK66002.out (by decide)))
                            have n1_ := Aside0.mk (hb)
                            have n2_ := Aside0.mk (ho)
                            clear BK66002
                            clear HB
                            clear HO_4
                            have BK66002 := n0_
                            have HB := n1_
                            have HO66006 := n2_
                            clear n0_ n1_ n2_
                            clear ho hb hg hat
                            obtain ⟨Ao31, co31, eo31⟩ := Kd.R_slice HO66006.out
                            (first | subst eo31 | (injection eo31 with f1_ f2_ f3_; have f4_ := f1_.symm; have f5_ := f3_.symm; clear f1_ f2_ f3_; subst f4_; subst f5_))
                            refine hK.out _ _ ⟨(blk_cell BK66002.out 0).trans rfl, (blk_cell BK66002.out 1).trans rfl, (blk_cell BK66002.out 2).trans rfl⟩ (fun hHeld => ?_)
                            clear hK K
                            refine norm_ (a' := ?_) ?_ ?_
                            rotate_left
                            · show Act.put _ (some 58) _ = _
                              simp only [Act.put, List.setIfInBounds_toArray, List.set_cons_zero, List.set_cons_succ, i64_w, i32_w]
                              rfl
                            refine one_ (i := 8) (N := some 62) #[true, true, true, true, true, true, true, true, true, false] rfl rfl (one_of HT_.out (by kernel_rfl)) (by decide) (fun K hK => ?_)
                            refine goes_ Try.func91 (by kernel_rfl) rfl #[.slice Ao31 y66004.length co31, .int .i64 (((rd_T113 l0 x16_1).f0).length : Int)] (by rfl) rfl rfl (by (try simp only [List.map_toArray, List.map_cons, List.map_nil]); first | done | rfl | (simp only [List.length_drop, List.length_take]; rfl)) ?_
                            with_reducible refine (lz_tell.calls kj8 (fun k_ => some k_ = (.slice Ao31 y66004.length co31 : Value).ownBlock) (.slice Ao31 y66004.length co31) y66004 (((rd_T113 l0 x16_1).f0).length : Int) t66007 w _ ?side1 ?side2 A18.out).mono ?_
                            (case side1 => repeat (first | (with_reducible first | exact HB.out | apply below_alloc | apply pw_below_drewN | apply below_drew1 | refine below_set ?_ GE66002.out) | exact HB.out))
                            (case side2 => exact Kd.R_tight rfl HO66006.out)
                            rintro e w32 ⟨v66008, rfl, ho0, hb, hkp⟩
                            refine ⟨_, rfl, ?_⟩
                            have n0_ := Aside0.mk (blk_kept (by (with_reducible repeat (first | refine blk_drewN ?_ _ | refine blk_drew ?_ | refine blk_alloc ?_ _)); exact BK66002.out) hkp (fun hs_ => (fun e_ => (Kd.R_ne HO66006.out BK66002.out (by decide)) e_) hs_))
                            have n1_ := Aside0.mk (Kd.R_mono (ok' := fun k_ => True) ho0 (fun k_ hk_ => trivial))
                            have n2_ := Aside0.mk (hb)
                            clear BK66002
                            clear HB
                            clear HO66006
                            have BK66002 := n0_
                            have HO66009 := n1_
                            have HB := n2_
                            clear n0_ n1_ n2_
                            (try clear hb)
                            (try clear hkp)
                            (try clear ho0)
                            refine hK.out _ _ ⟨(blk_cell BK66002.out 0).trans rfl, (blk_cell BK66002.out 1).trans rfl, (blk_cell BK66002.out 2).trans rfl⟩ (fun hHeld => ?_)
                            clear hK K
                            refine norm_ (a' := ?_) ?_ ?_
                            rotate_left
                            · show Act.put _ (some 62) _ = _
                              simp only [Act.put, List.setIfInBounds_toArray, List.set_cons_zero, List.set_cons_succ, i64_w, i32_w]
                              rfl
                            refine pure_ (i := 9) (N := some 4) (v := ?_) (a' := ?_) #[true, true, true, true, true, true, true, true, true, true] rfl rfl (any_of HT_.out (by kernel_rfl)) (fun _ _ _ h => h) (Or.inl ⟨by rfl, ?_⟩) ?_ ?_
                            rotate_left
                            · intro w'
                              go_simp
                              with_reducible rfl
                            rotate_left
                            · simp only [Act.put, List.setIfInBounds_toArray, List.set_cons_zero, List.set_cons_succ, i64_w, i32_w]
                              rfl
                            refine done_ (done_of HT_.out (by kernel_rfl)) ?_
                            have hcz33_0 : w32.cell? ⟨gb66002, 0, none⟩ = some (.slice A66001_0 ((rd_T113 l0 x16_1).f0).length c66001_0) := (blk_cell BK66002.out 0).trans rfl
                            have hcz33_1 : w32.cell? ⟨gb66002, 1, none⟩ = some (.int .i64 ((rd_T113 l0 x16_1).f1)) := (blk_cell BK66002.out 1).trans rfl
                            have hcz33_2 : w32.cell? ⟨gb66002, 2, none⟩ = some (.int .i64 ((rd_T113 l0 x16_1).f2)) := (blk_cell BK66002.out 2).trans rfl
                            have hfz33_0 := blk_frozen BK66002.out 0
                            have hfz33_1 := blk_frozen BK66002.out 1
                            have hfz33_2 := blk_frozen BK66002.out 2
                            try go_wp2_with (first | ((with_reducible refine gate_builtin (b := .append) (xs := #[.tmp 63, .tmp 65]) rfl ?_); at_builtin; refine Kd.R_append_rows (Kd.int .u8) (w0 := w) w.heap.size rfl (.tmp 63) (.tmp 65) 22 5 (.int .u8 0) 1 rfl Try.underlying22 info5 rfl (by decide) (by omega) v66008 t66007 ((rd_T113 l0 x16_1).f0) _ _ _ (fun _ => True) (fun _ => False) rfl rfl ?aO ?aR (fun _ _ h => h) (fun _ h => h.elim) ?aF ?aB ?aS ?aL ?_; (case aR => repeat (first | exact (Kd.C_below HR66001_0.out HB.out) | (with_reducible refine Kd.C_alloc ?_ _) | (with_reducible refine Kd.C_drewN ?_ _) | (with_reducible refine Kd.C_drew ?_))); (case aB => exact (by repeat (first | (with_reducible first | exact HB.out | apply below_alloc | apply pw_below_drewN | apply below_drew1 | refine below_set ?_ GE66002.out) | exact HB.out))); (case aF => exact (fun _ _ => trivial)); (case aO => exact (by (with_reducible repeat (first | apply Kd.R_alloc | apply Kd.R_drewN | apply Kd.R_drew)); exact HO66009.out)); (case aS => exact (below_size (by repeat (first | (with_reducible first | exact HB.out | apply below_alloc | apply pw_below_drewN | apply below_drew1 | refine below_set ?_ GE66002.out) | exact HB.out)))); (case aL => have := LMc19.out; omega); intro v66011 w34 ho hb hg hat; rw [← Ny66010.out] at ho; have n0_ := Aside0.mk (blk_grown (g := gb66002) (o := .cells #[.slice A66001_0 ((rd_T113 l0 x16_1).f0).length c66001_0, .int .i64 ((rd_T113 l0 x16_1).f1), .int .i64 ((rd_T113 l0 x16_1).f2)] 113 (0, 0)) (by (with_reducible repeat (first | refine blk_drewN ?_ _ | refine blk_drew ?_ | refine blk_alloc ?_ _)); exact BK66002.out) hg (Kd.R_ne HO66009.out BK66002.out (by decide))); have n1_ := Aside0.mk (hb); have n2_ := Aside0.mk (ho); clear BK66002; clear HB; clear HO66009; have BK66002 := n0_; have HB := n1_; have HO66012 := n2_; clear n0_ n1_ n2_; clear ho hb hg hat))
                            have n0_ := Aside0.mk (Kd.R_drew HO66012.out)
                            have n1_ := Aside0.mk (blk_drew BK66002.out)
                            have n2_ := Aside0.mk (below_drew1 HB.out)
                            clear HO66012
                            clear BK66002
                            clear HB
                            have HO66012 := n0_
                            have BK66002 := n1_
                            have HB := n2_
                            clear n0_ n1_ n2_
                            refine start_ (n := 15) (S := fun w' => w'.cell? ⟨gb66002, 0, none⟩ = some (.slice A66001_0 ((rd_T113 l0 x16_1).f0).length c66001_0) ∧ w'.cell? ⟨gb66002, 1, none⟩ = some (.int .i64 ((rd_T113 l0 x16_1).f1)) ∧ w'.cell? ⟨gb66002, 2, none⟩ = some (.int .i64 ((rd_T113 l0 x16_1).f2))) (ds := []) #[false, false, false, false, false, false, false, false, false, false, false, false, false, false, false] (by kernel_rfl) rfl rfl ⟨(blk_cell BK66002.out 0).trans rfl, (blk_cell BK66002.out 1).trans rfl, (blk_cell BK66002.out 2).trans rfl⟩ (fun hHeld => ?_); refine with_tabW lz_Join.tab19 lz_Join.bits19 (fun HT_ HW_ => ?_)
                            generalize w34.drew = w35 at HO66012 BK66002 HB hHeld ⊢
                            refine pure_ (i := 0) (N := some 69) (v := ?_) (a' := ?_) #[true, false, false, false, false, false, false, false, false, false, false, false, false, false, false] rfl rfl (any_of HT_.out (by kernel_rfl)) (fun _ _ _ h => h) (Or.inl ⟨by rfl, ?_⟩) ?_ ?_
                            rotate_left
                            · intro w'
                              go_simp
                              with_reducible rfl
                            rotate_left
                            · simp only [Act.put, List.setIfInBounds_toArray, List.set_cons_zero, List.set_cons_succ, i64_w, i32_w]
                              rfl
                            refine pure_ (i := 1) (N := some 70) (v := ?_) (a' := ?_) #[true, true, false, false, false, false, false, false, false, false, false, false, false, false, false] rfl rfl (any_of HT_.out (by kernel_rfl)) (fun _ _ _ h => h) (Or.inl ⟨by rfl, ?_⟩) ?_ ?_
                            rotate_left
                            · intro w'
                              go_simp
                              with_reducible rfl
                            rotate_left
                            · simp only [Act.put, List.setIfInBounds_toArray, List.set_cons_zero, List.set_cons_succ, i64_w, i32_w]
                              rfl
                            refine pure_ (i := 4) (N := some 73) (v := ?_) (a' := ?_) #[true, true, false, false, true, false, false, false, false, false, false, false, false, false, false] rfl rfl (any_of HT_.out (by kernel_rfl)) (fun _ _ _ h => h) (Or.inl ⟨by rfl, ?_⟩) ?_ ?_
                            rotate_left
                            · intro w'
                              go_simp
                              with_reducible rfl
                            rotate_left
                            · simp only [Act.put, List.setIfInBounds_toArray, List.set_cons_zero, List.set_cons_succ, i64_w, i32_w]
                              rfl
                            refine pure_ (i := 10) (N := some 79) (v := ?_) (a' := ?_) #[true, true, false, false, true, false, false, false, false, false, true, false, false, false, false] rfl rfl (any_of HT_.out (by kernel_rfl)) (fun _ _ _ h => h) (Or.inl ⟨by rfl, ?_⟩) ?_ ?_
                            rotate_left
                            · intro w'
                              go_simp
                              with_reducible rfl
                            rotate_left
                            · simp only [Act.put, List.setIfInBounds_toArray, List.set_cons_zero, List.set_cons_succ, i64_w, i32_w]
                              rfl
                            refine take_ (i := 2) (N := some 71) (v := ?_) (a' := ?_) #[true, true, true, false, true, false, false, false, false, false, true, false, false, false, false] rfl rfl (take_ofW HT_.out HW_.out (by kernel_rfl)) (fun _ _ _ h => h) (Or.inl ⟨by rfl, ?_⟩) hHeld ?_ ?_
                            rotate_left
                            · rintro w' ⟨s0, s1, s2⟩
                              go_simp
                              with_reducible rfl
                            rotate_left
                            · simp only [Act.put, List.setIfInBounds_toArray, List.set_cons_zero, List.set_cons_succ, i64_w, i32_w]
                              rfl
                            refine pure_ (i := 3) (N := some 72) (v := ?_) (a' := ?_) #[true, true, true, true, true, false, false, false, false, false, true, false, false, false, false] rfl rfl (any_of HT_.out (by kernel_rfl)) (fun _ _ _ h => h) (Or.inl ⟨by rfl, ?_⟩) ?_ ?_
                            rotate_left
                            · intro w'
                              go_simp
                              with_reducible rfl
                            rotate_left
                            · simp only [Act.put, List.setIfInBounds_toArray, List.set_cons_zero, List.set_cons_succ, i64_w, i32_w]
                              rfl
                            refine take_ (i := 5) (N := some 74) (v := ?_) (a' := ?_) #[true, true, true, true, true, true, false, false, false, false, true, false, false, false, false] rfl rfl (take_ofW HT_.out HW_.out (by kernel_rfl)) (fun _ _ _ h => h) (Or.inl ⟨by rfl, ?_⟩) hHeld ?_ ?_
                            rotate_left
                            · rintro w' ⟨s0, s1, s2⟩
                              go_simp
                              with_reducible rfl
                            rotate_left
                            · simp only [Act.put, List.setIfInBounds_toArray, List.set_cons_zero, List.set_cons_succ, i64_w, i32_w]
                              rfl
                            refine pure_ (i := 6) (N := some 75) (v := ?_) (a' := ?_) #[true, true, true, true, true, true, true, false, false, false, true, false, false, false, false] rfl rfl (any_of HT_.out (by kernel_rfl)) (fun _ _ _ h => h) (Or.inl ⟨by rfl, ?_⟩) ?_ ?_
                            rotate_left
                            · intro w'
                              go_simp
                              with_reducible rfl
                            rotate_left
                            · simp only [Act.put, List.setIfInBounds_toArray, List.set_cons_zero, List.set_cons_succ, i64_w, i32_w]
                              rfl
                            refine pure_ (i := 7) (N := some 76) (v := ?_) (a' := ?_) #[true, true, true, true, true, true, true, true, false, false, true, false, false, false, false] rfl rfl (any_of HT_.out (by kernel_rfl)) (fun _ _ _ h => h) (Or.inl ⟨by rfl, ?_⟩) ?_ ?_
                            rotate_left
                            · intro w'
                              go_simp
                              with_reducible rfl
                            rotate_left
                            · simp only [Act.put, List.setIfInBounds_toArray, List.set_cons_zero, List.set_cons_succ, i64_w, i32_w]
                              rfl
                            refine take_ (i := 11) (N := some 80) (v := ?_) (a' := ?_) #[true, true, true, true, true, true, true, true, false, false, true, true, false, false, false] rfl rfl (take_ofW HT_.out HW_.out (by kernel_rfl)) (fun _ _ _ h => h) (Or.inl ⟨by rfl, ?_⟩) hHeld ?_ ?_
                            rotate_left
                            · rintro w' ⟨s0, s1, s2⟩
                              go_simp
                              with_reducible rfl
                            rotate_left
                            · simp only [Act.put, List.setIfInBounds_toArray, List.set_cons_zero, List.set_cons_succ, i64_w, i32_w]
                              rfl
                            refine pure_ (i := 12) (N := some 81) (v := ?_) (a' := ?_) #[true, true, true, true, true, true, true, true, false, false, true, true, true, false, false] rfl rfl (any_of HT_.out (by kernel_rfl)) (fun _ _ _ h => h) (Or.inl ⟨by rfl, ?_⟩) ?_ ?_
                            rotate_left
                            · intro w'
                              go_simp
                              with_reducible rfl
                            rotate_left
                            · simp only [Act.put, List.setIfInBounds_toArray, List.set_cons_zero, List.set_cons_succ, i64_w, i32_w]
                              rfl
                            refine one_ (i := 8) (N := some 77) #[true, true, true, true, true, true, true, true, true, false, true, true, true, false, false] rfl rfl (one_of HT_.out (by kernel_rfl)) (by decide) (fun K hK => ?_)
                            refine Kd.R_lit_step (Kd.int .u8) _ 5 ?hg (N := 77) ?hd (xs := ([(((rd_T113 l0 x16_1).f1)) % 256, (((rd_T113 l0 x16_1).f1) / 256) % 256] : List Int)) (inner := [.int .u8 ((((rd_T113 l0 x16_1).f1)) % 256), .int .u8 ((((rd_T113 l0 x16_1).f1) / 256) % 256)]) (ok := fun _ => True) (okp := fun _ => True) ?hr ?hp (fun _ hk => hk) trivial (Below.refl _ _) (Nat.le_refl _) (by simp) ?_; (case hd => rfl); (case hg => rfl); (case hr => first | (go_simp; done) | (go_simp; rfl)); (case hp => exact (Reps.one (show Kd.M (Kd.int .u8) _ _ _ ((((rd_T113 l0 x16_1).f1)) % 256) [.int .u8 ((((rd_T113 l0 x16_1).f1)) % 256)] from rfl) (Reps.one (show Kd.M (Kd.int .u8) _ _ _ ((((rd_T113 l0 x16_1).f1) / 256) % 256) [.int .u8 ((((rd_T113 l0 x16_1).f1) / 256) % 256)] from rfl) (Reps.none _ _))))
                            intro v66014 w36 ho37 hb hg_ hnew_
                            clear hg_ hnew_
                            (first | rw [← Ny66013.out] at ho37 | (simp only [Int.reduceToNat] at ho37; rw [← Ny66013.out] at ho37))
                            have n0_ := Aside0.mk (Kd.R_elder' (by (with_reducible repeat (first | apply Kd.R_alloc | apply Kd.R_drewN | apply Kd.R_drew)); exact HO66012.out) (Kd.R_base ho37) hb)
                            have n1_ := Aside0.mk (Kd.R_lower (Kd.R_new' ho37 (Kd.R_lt (by (with_reducible repeat (first | apply Kd.R_alloc | apply Kd.R_drewN | apply Kd.R_drew)); exact HO66012.out))) (below_size (by repeat (first | (with_reducible first | exact HB.out | apply below_alloc | apply pw_below_drewN | apply below_drew1 | refine below_set ?_ GE66002.out) | exact HB.out))))
                            have n2_ := Aside0.mk (blk_below (g := gb66002) (o := .cells #[.slice A66001_0 ((rd_T113 l0 x16_1).f0).length c66001_0, .int .i64 ((rd_T113 l0 x16_1).f1), .int .i64 ((rd_T113 l0 x16_1).f2)] 113 (0, 0)) (by (with_reducible repeat (first | refine blk_drewN ?_ _ | refine blk_drew ?_ | refine blk_alloc ?_ _)); exact BK66002.out) hb)
                            have n3_ := Aside0.mk (below_step (by repeat (first | (with_reducible first | exact HB.out | apply below_alloc | apply pw_below_drewN | apply below_drew1 | refine below_set ?_ GE66002.out) | exact HB.out)) hb)
                            clear HO66012
                            clear BK66002
                            clear HB
                            have HO66012 := n0_
                            have HO66015 := n1_
                            have BK66002 := n2_
                            have HB := n3_
                            clear n0_ n1_ n2_ n3_
                            clear hb ho37
                            obtain ⟨Ao39, co39, eo39⟩ := Kd.R_slice HO66015.out
                            (first | subst eo39 | (injection eo39 with f1_ f2_ f3_; have f4_ := f1_.symm; have f5_ := f3_.symm; clear f1_ f2_ f3_; subst f4_; subst f5_))
                            refine hK.out _ _ ⟨(blk_cell BK66002.out 0).trans rfl, (blk_cell BK66002.out 1).trans rfl, (blk_cell BK66002.out 2).trans rfl⟩ (fun hHeld => ?_)
                            clear hK K
                            refine norm_ (a' := ?_) ?_ ?_
                            rotate_left
                            · show Act.put _ (some 77) _ = _
                              simp only [Act.put, List.setIfInBounds_toArray, List.set_cons_zero, List.set_cons_succ, i64_w, i32_w]
                              rfl
                            refine one_ (i := 9) (N := some 78) #[true, true, true, true, true, true, true, true, true, true, true, true, true, false, false] rfl rfl (one_of HT_.out (by kernel_rfl)) (by decide) (fun K hK => ?_)
                            refine Kd.R_append_rows_step (Kd.int .u8) (w0 := w) w.heap.size (by rfl) (.tmp 69) (.tmp 77) 22 5 (.int .u8 0) 1 rfl Try.underlying22 info5 rfl (by decide) (by omega) v66011 y66010 y66013 _ _ _ (fun k_ => some k_ ≠ (.slice Ao39 y66013.length co39 : Value).ownBlock) (fun _ => False) rfl rfl ?aO ?aR (fun _ _ h => h) (fun _ h => h.elim) ?aF ?aB ?aS ?aL ?_
                            (case aR => repeat (first | exact (Kd.R_reads' HO66015.out).2.2 | (with_reducible refine Kd.C_alloc ?_ _) | (with_reducible refine Kd.C_drewN ?_ _) | (with_reducible refine Kd.C_drew ?_)))
                            (case aB => exact (by repeat (first | (with_reducible first | exact HB.out | apply below_alloc | apply pw_below_drewN | apply below_drew1 | refine below_set ?_ GE66002.out) | exact HB.out)))
                            (case aF => exact (fun k_ hk => Kd.fresh' (Kd.R_lt (by (with_reducible repeat (first | apply Kd.R_alloc | apply Kd.R_drewN | apply Kd.R_drew)); exact HO66015.out)) k_ hk))
                            (case aO => exact (by (with_reducible repeat (first | apply Kd.R_alloc | apply Kd.R_drewN | apply Kd.R_drew)); exact Kd.R_mono HO66012.out (fun _ hk => hk.2)))
                            (case aS => exact (below_size (by repeat (first | (with_reducible first | exact HB.out | apply below_alloc | apply pw_below_drewN | apply below_drew1 | refine below_set ?_ GE66002.out) | exact HB.out))))
                            (case aL => have := LMc27.out; omega)
                            intro v66017 w38 ho hb hg hat
                            rw [← Ny66016.out] at ho
                            have n0_ := Aside0.mk (blk_grown (g := gb66002) (o := .cells #[.slice A66001_0 ((rd_T113 l0 x16_1).f0).length c66001_0, .int .i64 ((rd_T113 l0 x16_1).f1), .int .i64 ((rd_T113 l0 x16_1).f2)] 113 (0, 0)) (by (with_reducible repeat (first | refine blk_drewN ?_ _ | refine blk_drew ?_ | refine blk_alloc ?_ _)); exact BK66002.out) hg (Kd.R_ne HO66012.out BK66002.out (by decide)))
                            have n1_ := Aside0.mk (Kd.R_after (ok := (fun _ => True)) (by (with_reducible repeat (first | apply Kd.R_alloc | apply Kd.R_drewN | apply Kd.R_drew)); exact HO66015.out) hg hat)
                            have n2_ := Aside0.mk (hb)
                            have n3_ := Aside0.mk (ho)
                            clear BK66002
                            clear HO66015
                            clear HB
                            clear HO66012
                            have BK66002 := n0_
                            have HO66015 := n1_
                            have HB := n2_
                            have HO66018 := n3_
                            clear n0_ n1_ n2_ n3_
                            clear ho hb hg hat
                            obtain ⟨Ao40, co40, eo40⟩ := Kd.R_slice HO66018.out
                            (first | subst eo40 | (injection eo40 with f1_ f2_ f3_; have f4_ := f1_.symm; have f5_ := f3_.symm; clear f1_ f2_ f3_; subst f4_; subst f5_))
                            refine hK.out _ _ ⟨(blk_cell BK66002.out 0).trans rfl, (blk_cell BK66002.out 1).trans rfl, (blk_cell BK66002.out 2).trans rfl⟩ (fun hHeld => ?_)
                            clear hK K
                            refine norm_ (a' := ?_) ?_ ?_
                            rotate_left
                            · show Act.put _ (some 78) _ = _
                              simp only [Act.put, List.setIfInBounds_toArray, List.set_cons_zero, List.set_cons_succ, i64_w, i32_w]
                              rfl
                            refine one_ (i := 13) (N := some 82) #[true, true, true, true, true, true, true, true, true, true, true, true, true, true, false] rfl rfl (one_of HT_.out (by kernel_rfl)) (by decide) (fun K hK => ?_)
                            refine goes_ Try.func91 (by kernel_rfl) rfl #[.slice Ao40 y66016.length co40, .int .i64 (wrap64 (((rd_T113 l0 x16_1).f2) - 4))] (by rfl) rfl rfl (by (try simp only [List.map_toArray, List.map_cons, List.map_nil]); first | done | rfl | (simp only [List.length_drop, List.length_take]; rfl)) ?_
                            with_reducible refine (lz_tell.calls kj8 (fun k_ => some k_ = (.slice Ao40 y66016.length co40 : Value).ownBlock) (.slice Ao40 y66016.length co40) y66016 (wrap64 (((rd_T113 l0 x16_1).f2) - 4)) t66019 w _ ?side1 ?side2 A28.out).mono ?_
                            (case side1 => repeat (first | (with_reducible first | exact HB.out | apply below_alloc | apply pw_below_drewN | apply below_drew1 | refine below_set ?_ GE66002.out) | exact HB.out))
                            (case side2 => exact Kd.R_tight rfl HO66018.out)
                            rintro e w41 ⟨v66020, rfl, ho0, hb, hkp⟩
                            refine ⟨_, rfl, ?_⟩
                            have n0_ := Aside0.mk (blk_kept (by (with_reducible repeat (first | refine blk_drewN ?_ _ | refine blk_drew ?_ | refine blk_alloc ?_ _)); exact BK66002.out) hkp (fun hs_ => (fun e_ => (Kd.R_ne HO66018.out BK66002.out (by decide)) e_) hs_))
                            have n1_ := Aside0.mk (Kd.R_mono (ok' := fun k_ => some k_ ≠ (v66020 : Value).ownBlock) (Kd.R_keptB (HO66015.out) hkp (fun k_ hk_ hs_ => (hk_.2) hs_)) (fun k_ hk_ => fun e_ => Or.elim (ho0.1 k_ e_.symm) (fun hs_ => hk_.2.1 hs_) (fun hn_ => Nat.not_le.2 hk_.2.2 hn_)))
                            have n2_ := Aside0.mk (Kd.R_mono (ok' := fun k_ => some k_ ≠ (.slice Ao39 y66013.length co39 : Value).ownBlock) ho0 (fun k_ hk_ => Or.elim hk_ (fun hs_ => fun e_ => (((HO66015.out).1 k_ e_.symm).2) hs_) (fun hn_ => (Kd.fresh' (Kd.R_lt (by (with_reducible repeat (first | apply Kd.R_alloc | apply Kd.R_drewN | apply Kd.R_drew)); exact HO66015.out)) k_ hn_))))
                            have n3_ := Aside0.mk (hb)
                            clear BK66002
                            clear HO66015
                            clear HB
                            clear HO66018
                            have BK66002 := n0_
                            have HO66015 := n1_
                            have HO66021 := n2_
                            have HB := n3_
                            clear n0_ n1_ n2_ n3_
                            (try clear hb)
                            (try clear hkp)
                            (try clear ho0)
                            refine hK.out _ _ ⟨(blk_cell BK66002.out 0).trans rfl, (blk_cell BK66002.out 1).trans rfl, (blk_cell BK66002.out 2).trans rfl⟩ (fun hHeld => ?_)
                            clear hK K
                            refine norm_ (a' := ?_) ?_ ?_
                            rotate_left
                            · show Act.put _ (some 82) _ = _
                              simp only [Act.put, List.setIfInBounds_toArray, List.set_cons_zero, List.set_cons_succ, i64_w, i32_w]
                              rfl
                            refine pure_ (i := 14) (N := some 4) (v := ?_) (a' := ?_) #[true, true, true, true, true, true, true, true, true, true, true, true, true, true, true] rfl rfl (any_of HT_.out (by kernel_rfl)) (fun _ _ _ h => h) (Or.inl ⟨by rfl, ?_⟩) ?_ ?_
                            rotate_left
                            · intro w'
                              go_simp
                              with_reducible rfl
                            rotate_left
                            · simp only [Act.put, List.setIfInBounds_toArray, List.set_cons_zero, List.set_cons_succ, i64_w, i32_w]
                              rfl
                            refine done_ (done_of HT_.out (by kernel_rfl)) ?_
                            try go_wp2
                            go_roundg kj8
                            case measure => have := HK1.out; have := HJ8.out; omega
                            case rel => exact ⟨(t66019), ((wrap64 (x5_1 + (wrap64 ((((rd_T113 l0 x16_1).f0).length : Int) + ((rd_T113 l0 x16_1).f2)))))), (wrap64 (x16_1 + 1)), (by first | rfl | (simp; done) | (simp [*]; done)), (by first | rfl | (simp; done) | (simp [*]; done)), H', ⟨by have := HK1.out; have := HJ8.out; omega⟩, ⟨by (with_reducible repeat (first | apply Kd.R_alloc | apply Kd.R_drewN | apply Kd.R_drew)); exact Kd.R_mono HO66021.out (fun _ hk => trivial)⟩, ⟨by repeat (first | (with_reducible first | exact HB.out | apply below_alloc | apply pw_below_drewN | apply below_drew1 | refine below_set ?_ GE66002.out) | exact HB.out)⟩⟩
                          · rw [if_neg c27] at H
                            exact absurd H (by simp)
                      · rw [if_neg c19] at H
                        exact absurd H (by simp)
                    · rw [if_neg c17] at H
                      exact absurd H (by simp)
              · rw [if_neg c7] at H
                have c7b0 : (t66003 == 0) = false := beq_eq_false_iff_ne.mpr c7
                have c7b1 : (t66003 != 0) = true := bne_iff_ne.mpr c7
                simp only [Option.some.injEq, Prod.mk.injEq] at H
                obtain ⟨rfl, rfl⟩ := H
                have p66001 : 0 ≤ (x16_1 : Int) := of_decide_eq_true (by first | (with_reducible assumption) | assumption)
                have q66001 : x16_1 < (l0.length : Int) := of_decide_eq_true (by first | (with_reducible assumption) | assumption)
                obtain ⟨ad66001, A66001_0, c66001_0, e66001, hx66001_0, hx66001_1, hx66001_2, hl66001_0, hi66001_0⟩ := at_T113 HR0.out x16_1 p66001 q66001
                cases e66001
                replace hx66001_0 := (HB.out.cell (World.block_lt_of_cell? w _ hx66001_0)).trans hx66001_0
                replace hx66001_1 := (HB.out.cell (World.block_lt_of_cell? w _ hx66001_1)).trans hx66001_1
                replace hx66001_2 := (HB.out.cell (World.block_lt_of_cell? w _ hx66001_2)).trans hx66001_2
                have HR66001_0 := Aside0.mk hi66001_0
                have HC66001_0 := Aside0.mk hl66001_0
                clear hi66001_0 hl66001_0
                replace p66001 := eq_true p66001
                replace q66001 := eq_true q66001
                go_wp2_with (first | ((with_reducible refine gate_dst (N := 7) rfl ?_); refine box_event ?hg (N := 7) ?hd (cs := #[.slice none 0 0, .int .i64 0, .int .i64 0]) (t := 113) ?hr ?_; (case hd => rfl); (case hg => rfl); (case hr => first | (go_simp; done) | (go_simp; rfl)); intro gb66002 hg w42 hbox hb; have n0_ := Aside0.mk (Kd.R_below (by (with_reducible repeat (first | apply Kd.R_alloc | apply Kd.R_drewN | apply Kd.R_drew)); exact HO_4.out) hb); have n1_ := Aside0.mk (below_step (by repeat (first | (with_reducible first | exact HB.out | apply below_alloc | apply pw_below_drewN | apply below_drew1) | exact HB.out)) hb); have n2_ := Aside0.mk (hbox); have n3_ := Aside0.mk ((by rw [hg]; exact (below_size (by repeat (first | (with_reducible first | exact HB.out | apply below_alloc | apply pw_below_drewN | apply below_drew1) | exact HB.out))) : w.heap.size ≤ gb66002)); have n4_ := Aside0.mk ((by rw [hg]; exact (below_size (by repeat (first | (with_reducible first | exact HB.out | apply below_alloc | apply pw_below_drewN | apply below_drew1) | exact HB.out))) : w.heap.size ≤ gb66002)); clear HO_4; clear HB; have HO_4 := n0_; have HB := n1_; have BK66002 := n2_; have GW66002 := n3_; have GE66002 := n4_; clear n0_ n1_ n2_ n3_ n4_; clear hb hbox hg; have hcz43_0 : w42.cell? ⟨gb66002, 0, none⟩ = some (.slice none 0 0) := (blk_cell BK66002.out 0).trans rfl; have hcz43_1 : w42.cell? ⟨gb66002, 1, none⟩ = some (.int .i64 0) := (blk_cell BK66002.out 1).trans rfl; have hcz43_2 : w42.cell? ⟨gb66002, 2, none⟩ = some (.int .i64 0) := (blk_cell BK66002.out 2).trans rfl; have hfz43_0 := blk_frozen BK66002.out 0; have hfz43_1 := blk_frozen BK66002.out 1; have hfz43_2 := blk_frozen BK66002.out 2) | ((with_reducible refine gate_callee (f := 90) rfl ?_); refine goesL_ (some 29) rfl rfl Try.func90 (by kernel_rfl) rfl #[.agg #[.slice A66001_0 ((rd_T113 l0 x16_1).f0).length c66001_0, .int .i64 ((rd_T113 l0 x16_1).f1), .int .i64 ((rd_T113 l0 x16_1).f2)], .bool (x16_1 == (wrap64 ((l0.length : Int) - 1))), .int .i64 x5_1] rfl (by (try simp only [List.map_toArray, List.map_cons, List.map_nil]); first | done | rfl | (simp only [List.length_drop, List.length_take]; rfl)) ?_; (with_reducible refine (lz_wrong.calls k1 _ _ ((rd_T113 l0 x16_1).f0) ((rd_T113 l0 x16_1).f1) ((rd_T113 l0 x16_1).f2) (x16_1 == (wrap64 ((l0.length : Int) - 1))) x5_1 t66003 _ ?side1 ?side2 A6.out).mono ?_); (case side1 => exact Kd.C_below HR66001_0.out (by repeat (first | (with_reducible first | exact HB.out | apply below_alloc | apply pw_below_drewN | apply below_drew1 | refine below_set ?_ GE66002.out) | exact HB.out))); (case side2 => exact HC66001_0.out); rintro e w44 ⟨rfl, hb⟩; refine ⟨_, rfl, ?_⟩; have n0_ := Aside0.mk (Kd.R_below (by (with_reducible repeat (first | apply Kd.R_alloc | apply Kd.R_drewN | apply Kd.R_drew)); exact (Kd.R_mono (Kd.R_far (p := ⟨gb66002, 2, none⟩) (Kd.R_far (p := ⟨gb66002, 1, none⟩) (Kd.R_far (p := ⟨gb66002, 0, none⟩) (Kd.R_types HO_4.out BK66002.out (by decide)) (fun _ hk => hk.2) (.slice A66001_0 ((rd_T113 l0 x16_1).f0).length c66001_0)) (fun _ hk => hk.2) (.int .i64 ((rd_T113 l0 x16_1).f1))) (fun _ hk => hk.2) (.int .i64 ((rd_T113 l0 x16_1).f2))) (fun _ h_ => h_.1))) hb); have n1_ := Aside0.mk (blk_below (g := gb66002) (o := .cells #[.slice A66001_0 ((rd_T113 l0 x16_1).f0).length c66001_0, .int .i64 ((rd_T113 l0 x16_1).f1), .int .i64 ((rd_T113 l0 x16_1).f2)] 113 (0, 0)) (by (with_reducible repeat (first | refine blk_drewN ?_ _ | refine blk_drew ?_ | refine blk_alloc ?_ _)); refine blk_put (cs := #[.slice A66001_0 ((rd_T113 l0 x16_1).f0).length c66001_0, .int .i64 ((rd_T113 l0 x16_1).f1), .int .i64 0]) ?_ 2 _ rfl; (with_reducible repeat (first | refine blk_drewN ?_ _ | refine blk_drew ?_ | refine blk_alloc ?_ _)); refine blk_put (cs := #[.slice A66001_0 ((rd_T113 l0 x16_1).f0).length c66001_0, .int .i64 0, .int .i64 0]) ?_ 1 _ rfl; (with_reducible repeat (first | refine blk_drewN ?_ _ | refine blk_drew ?_ | refine blk_alloc ?_ _)); refine blk_put (cs := #[.slice none 0 0, .int .i64 0, .int .i64 0]) ?_ 0 _ rfl; (with_reducible repeat (first | refine blk_drewN ?_ _ | refine blk_drew ?_ | refine blk_alloc ?_ _)); exact BK66002.out) hb); have n2_ := Aside0.mk (below_step (by repeat (first | (with_reducible first | exact HB.out | apply below_alloc | apply pw_below_drewN | apply below_drew1 | refine below_set ?_ GE66002.out) | exact HB.out)) hb); clear HO_4; clear BK66002; clear HB; have HO_4 := n0_; have BK66002 := n1_; have HB := n2_; clear n0_ n1_ n2_; (try clear hb); (try clear hb2); (try clear hk); (try clear hi)))
                go_ret2
                exact ⟨_, by first | rfl | (simp [errW_none, errW_some] <;> rfl) | (simp [*, errW_none, errW_some] <;> rfl), by first | exact Kd.R_nil _ _ _ _ _ | exact Kd.N_nil _ _ _ _ _ | exact Kd.V_nil _ _ _ _ _ | exact Kd.Q_nil _ _ _ _ _ | exact Kd.S_nil _ _ _ _ _, by repeat (first | (with_reducible first | exact HB.out | apply below_alloc | apply pw_below_drewN | apply below_drew1 | refine below_set ?_ GE66002.out) | exact HB.out)⟩
            · rw [if_neg c5] at H
              exact absurd H (by simp)
          · rw [if_neg c4] at H
            exact absurd H (by simp)
        · rw [if_neg c3] at H
          have c3b0 : decide (x16_1 < (l0.length : Int)) = false := decide_eq_false c3
          clear c3
          simp only [Option.some.injEq, Prod.mk.injEq] at H
          obtain ⟨rfl, rfl⟩ := H
          go_wp2
          go_ret2
          exact ⟨_, by first | rfl | (simp [errW_none, errW_some] <;> rfl) | (simp [*, errW_none, errW_some] <;> rfl), by (with_reducible repeat (first | apply Kd.R_alloc | apply Kd.R_drewN | apply Kd.R_drew)); exact HO_4.out, by repeat (first | (with_reducible first | exact HB.out | apply below_alloc | apply pw_below_drewN | apply below_drew1) | exact HB.out)⟩

end Go.Proofs.Ytdlfflgcmgkmeaa.P

-- Written by a program of this session's own (wip/tools), over the translation. Not trusted: Lean checks it.
namespace Go.Proofs.Ytdlfflgcmgkmeaa.P
open Go.RowKit Go.Proofs.YtdlfflgcmgkmeaaW.PrintWords Go.Proofs.YtdlfflgcmgkmeaaW.PrintLast Go.Proofs.YtdlfflgcmgkmeaaW.PrintMore
attribute [local go_sem] max2_int min2_int max_two min_two max_three min_three max_four min_four   -- for this text's walks alone
set_option linter.unusedVariables false
set_option linter.unusedSimpArgs false

/-! ### match_hash: function 106 -/
def match_hash.f (l0 : List Int) : Option (Int) := if 0 < (l0.length : Int) then (if 1 < (l0.length : Int) then (if 2 < (l0.length : Int) then (if 3 < (l0.length : Int) then (some ((((Go.bits .or .u32 (Go.bits .or .u32 (Go.bits .or .u32 ((rd l0 0) % 4294967296) ((((rd l0 1) % 4294967296) * 256) % 4294967296)) ((((rd l0 2) % 4294967296) * 65536) % 4294967296)) ((((rd l0 3) % 4294967296) * 16777216) % 4294967296)) * 2654435761) % 4294967296) / 1048576)) else (none)) else (none)) else (none)) else (none)
set_option maxHeartbeats 8000000 in
set_option maxRecDepth 100000 in
theorem match_hash.calls (A0 : Option Addr) (c0 : Nat) (l0 : List Int) (r : Int) (w : World) (hr0 : Kd.C (Kd.int .u8) w A0 l0.length l0) (hc0 : l0.length ≤ c0) (h : match_hash.f l0 = some r) :
    Calls Try.prog 106 #[.slice A0 l0.length c0] w fun e w' => e = .returned (.int .i64 r) ∧ Drawn0 w w' := by
  have HR0 := Aside0.mk hr0
  have HC0 := Aside0.mk hc0
  clear hr0 hc0
  have H : (if 0 < (l0.length : Int) then (if 1 < (l0.length : Int) then (if 2 < (l0.length : Int) then (if 3 < (l0.length : Int) then (some ((((Go.bits .or .u32 (Go.bits .or .u32 (Go.bits .or .u32 ((rd l0 0) % 4294967296) ((((rd l0 1) % 4294967296) * 256) % 4294967296)) ((((rd l0 2) % 4294967296) * 65536) % 4294967296)) ((((rd l0 3) % 4294967296) * 16777216) % 4294967296)) * 2654435761) % 4294967296) / 1048576)) else (none)) else (none)) else (none)) else (none)) = some r := h
  clear h
  by_cases c2 : 0 < (l0.length : Int)
  · rw [if_pos c2] at H
    have c2b0 : decide (0 < (l0.length : Int)) = true := decide_eq_true c2
    have c2b1 : decide (0 < l0.length) = true := decide_eq_true (by omega)
    clear c2
    by_cases c3 : 1 < (l0.length : Int)
    · rw [if_pos c3] at H
      have c3b0 : decide (1 < (l0.length : Int)) = true := decide_eq_true c3
      have c3b1 : decide (1 < l0.length) = true := decide_eq_true (by omega)
      clear c3
      by_cases c4 : 2 < (l0.length : Int)
      · rw [if_pos c4] at H
        have c4b0 : decide (2 < (l0.length : Int)) = true := decide_eq_true c4
        have c4b1 : decide (2 < l0.length) = true := decide_eq_true (by omega)
        clear c4
        by_cases c5 : 3 < (l0.length : Int)
        · rw [if_pos c5] at H
          have c5b0 : decide (3 < (l0.length : Int)) = true := decide_eq_true c5
          have c5b1 : decide (3 < l0.length) = true := decide_eq_true (by omega)
          clear c5
          obtain rfl := Option.some.inj H
          have p107001 : 0 ≤ (0 : Int) := (by omega)
          have q107001 : 0 < (l0.length : Int) := of_decide_eq_true (by first | (with_reducible assumption) | assumption)
          obtain ⟨ad107001, e107001, hx107001_0⟩ := Kd.at_int HR0.out 0 p107001 q107001
          cases e107001
          have qi107001 : (0 < l0.length) = True := eq_true (by omega)
          (try rw [show ((0 : Int)).toNat = 0 from rfl] at hx107001_0)
          (try rw [Addr.add_zero'] at hx107001_0)
          replace p107001 := eq_true p107001
          replace q107001 := eq_true q107001
          have p107002 : 0 ≤ (1 : Int) := (by omega)
          have q107002 : 1 < (l0.length : Int) := of_decide_eq_true (by first | (with_reducible assumption) | assumption)
          obtain ⟨ad107002, e107002, hx107002_0⟩ := Kd.at_int HR0.out 1 p107002 q107002
          obtain rfl : ad107001 = ad107002 := (by injection e107002)
          (try simp only [show (1 : Int).toNat = 1 from rfl, Nat.reduceMul, Nat.reduceEqDiff, Go.Addr.add, ↓reduceIte] at hx107002_0)
          have qi107002 : (1 < l0.length) = True := eq_true (by omega)
          (try rw [show ((1 : Int)).toNat = 1 from rfl] at hx107002_0)
          replace p107002 := eq_true p107002
          replace q107002 := eq_true q107002
          have p107003 : 0 ≤ (2 : Int) := (by omega)
          have q107003 : 2 < (l0.length : Int) := of_decide_eq_true (by first | (with_reducible assumption) | assumption)
          obtain ⟨ad107003, e107003, hx107003_0⟩ := Kd.at_int HR0.out 2 p107003 q107003
          obtain rfl : ad107001 = ad107003 := (by injection e107003)
          (try simp only [show (2 : Int).toNat = 2 from rfl, Nat.reduceMul, Nat.reduceEqDiff, Go.Addr.add, ↓reduceIte] at hx107003_0)
          have qi107003 : (2 < l0.length) = True := eq_true (by omega)
          (try rw [show ((2 : Int)).toNat = 2 from rfl] at hx107003_0)
          replace p107003 := eq_true p107003
          replace q107003 := eq_true q107003
          have p107004 : 0 ≤ (3 : Int) := (by omega)
          have q107004 : 3 < (l0.length : Int) := of_decide_eq_true (by first | (with_reducible assumption) | assumption)
          obtain ⟨ad107004, e107004, hx107004_0⟩ := Kd.at_int HR0.out 3 p107004 q107004
          obtain rfl : ad107001 = ad107004 := (by injection e107004)
          (try simp only [show (3 : Int).toNat = 3 from rfl, Nat.reduceMul, Nat.reduceEqDiff, Go.Addr.add, ↓reduceIte] at hx107004_0)
          have qi107004 : (3 < l0.length) = True := eq_true (by omega)
          (try rw [show ((3 : Int)).toNat = 3 from rfl] at hx107004_0)
          replace p107004 := eq_true p107004
          replace q107004 := eq_true q107004
          go_enter Try.func106, Try.ntmps106
          go_wp2
          repeat (go_quiet (fail); try go_wp2)
          go_ret
          exact ⟨by first | rfl | (simp; done) | (simp [*]; done), by repeat (first | exact Drawn0.refl _ | apply Drawn0.step)⟩
        · rw [if_neg c5] at H
          exact absurd H (by simp)
      · rw [if_neg c4] at H
        exact absurd H (by simp)
    · rw [if_neg c3] at H
      exact absurd H (by simp)
  · rw [if_neg c2] at H
    exact absurd H (by simp)

end Go.Proofs.Ytdlfflgcmgkmeaa.P

-- Written by a program of this session's own (wip/tools), over the translation. Not trusted: Lean checks it.
namespace Go.Proofs.Ytdlfflgcmgkmeaa.P
open Go.RowKit Go.Proofs.YtdlfflgcmgkmeaaW.PrintWords Go.Proofs.YtdlfflgcmgkmeaaW.PrintLast Go.Proofs.YtdlfflgcmgkmeaaW.PrintMore
attribute [local go_sem] max2_int min2_int max_two min_two max_three min_three max_four min_four   -- for this text's walks alone
set_option linter.unusedVariables false
set_option linter.unusedSimpArgs false

/-! ### match_common: function 107 -/
def match_common.l0 : Nat → List Int → Int → Int → Int → Int → Option (Int)
  | 0, _, _, _, _, _ => none
  | k + 1, x0, x1, x2, x3, x9 => if (wrap64 (x2 + x9)) < x3 then (if 0 ≤ (wrap64 (x1 + x9)) then (if (wrap64 (x1 + x9)) < (x0.length : Int) then (if 0 ≤ (wrap64 (x2 + x9)) then (if (wrap64 (x2 + x9)) < (x0.length : Int) then (if (rd x0 (wrap64 (x1 + x9))) = (rd x0 (wrap64 (x2 + x9))) then (match_common.l0 k x0 x1 x2 x3 (wrap64 (x9 + 1))) else (some x9)) else (none)) else (none)) else (none)) else (none)) else (some x9)
def match_common.f (k : Nat) (l0 : List Int) (a1 : Int) (a2 : Int) (a3 : Int) : Option (Int) := match_common.l0 k l0 a1 a2 a3 0
theorem match_common.mono_l : ∀ k, (∀ y0 y1 y2 y3 y4, LeO (match_common.l0 k y0 y1 y2 y3 y4) (match_common.l0 (k + 1) y0 y1 y2 y3 y4))
  | 0 => fun _ _ _ _ _ r h => by simp [match_common.l0] at h
  | k + 1 => by
    have ih0 := match_common.mono_l k
    · intro y0 y1 y2 y3 y4
      unfold match_common.l0
      repeat' first
      | (with_reducible exact ih0 _ _ _ _ _)
      | (with_reducible exact LeO.refl _)
      | (with_reducible exact LeO.none _)
      | (with_reducible refine LeO.ite ?_ ?_)
      | (with_reducible refine LeO.bind ?_ (fun _ => ?_))
      | exact ih0 _ _ _ _ _
      | exact LeO.none _
      | refine LeO.ite ?_ ?_
      | refine LeO.bind ?_ (fun _ => ?_)
theorem match_common.mono : ∀ a0 a1 a2 a3 k, LeO (match_common.f k a0 a1 a2 a3) (match_common.f (k + 1) a0 a1 a2 a3) := by
  intro a0 a1 a2 a3 k
  have ih0 := match_common.mono_l k
  unfold match_common.f
  repeat' first
      | (with_reducible exact ih0 _ _ _ _ _)
      | (with_reducible exact LeO.refl _)
      | (with_reducible exact LeO.none _)
      | (with_reducible refine LeO.ite ?_ ?_)
      | (with_reducible refine LeO.bind ?_ (fun _ => ?_))
      | exact ih0 _ _ _ _ _
      | exact LeO.none _
      | refine LeO.ite ?_ ?_
      | refine LeO.bind ?_ (fun _ => ?_)
set_option maxHeartbeats 8000000 in
set_option maxRecDepth 100000 in
theorem match_common.calls (k : Nat) (A0 : Option Addr) (c0 : Nat) (l0 : List Int) (a1 : Int) (a2 : Int) (a3 : Int) (r : Int) (w : World) (hr0 : Kd.C (Kd.int .u8) w A0 l0.length l0) (hc0 : l0.length ≤ c0) (h : match_common.f k l0 a1 a2 a3 = some r) :
    Calls Try.prog 107 #[.slice A0 l0.length c0, .int .i64 a1, .int .i64 a2, .int .i64 a3] w fun e w' => e = .returned (.int .i64 r) ∧ Drawn0 w w' := by
  have HR0 := Aside0.mk hr0
  have HC0 := Aside0.mk hc0
  clear hr0 hc0
  have H : (match_common.l0 k l0 a1 a2 a3 0) = some r := h
  clear h
  have H' := Aside0.mk H
  clear H
  go_enter Try.func107, Try.ntmps107
  go_wp2
  repeat (go_quiet (fail); try go_wp2)
  go_loopg [9] k (fun kq v9 w' => ∃ (x9_1 : Int), v9 = .int .i64 x9_1 ∧ Aside0 (match_common.l0 kq l0 a1 a2 a3 x9_1 = some r) ∧ Aside0 (kq ≤ k) ∧ Drawn0 w w')
  case atStart => exact ⟨(0), (by first | rfl | (simp; done) | (simp [*]; done)), H', ⟨Nat.le_refl _⟩, by repeat (first | exact Drawn0.refl _ | apply Drawn0.step)⟩
  case round =>
    clear H'
    try clear c1
    try clear p2
    obtain ⟨x9_1, rfl, HA, HK1, ⟨m1, rfl⟩⟩ := hrel
    cases gk with
    | zero => exact absurd HA.out (by simp [match_common.l0])
    | succ k1 =>
      have H := HA.out
      clear HA
      simp only [match_common.l0] at H
      by_cases c5 : (wrap64 (a2 + x9_1)) < a3
      · rw [if_pos c5] at H
        have c5b0 : decide ((wrap64 (a2 + x9_1)) < a3) = true := decide_eq_true c5
        clear c5
        obtain ⟨ji6, hji6⟩ : ∃ j_ : Int, (wrap64 (a1 + x9_1)) = j_ := ⟨_, rfl⟩
        replace H : (if 0 ≤ (ji6) then (if (ji6) < (l0.length : Int) then (if 0 ≤ (wrap64 (a2 + x9_1)) then (if (wrap64 (a2 + x9_1)) < (l0.length : Int) then (if (rd l0 (ji6)) = (rd l0 (wrap64 (a2 + x9_1))) then (match_common.l0 k1 l0 a1 a2 a3 (wrap64 (x9_1 + 1))) else (some x9_1)) else (none)) else (none)) else (none)) else (none)) = some r := by first | (rw [hji6] at H; exact H) | (simp only [hji6] at H ⊢; exact H)
        have hji6w : (IntKind.i64.wrap (a1 + x9_1)) = ji6 := (i64_w _).trans hji6
        by_cases c7 : 0 ≤ (ji6)
        · rw [if_pos c7] at H
          have c7b0 : decide (0 ≤ (ji6)) = true := decide_eq_true c7
          clear c7
          by_cases c8 : (ji6) < (l0.length : Int)
          · rw [if_pos c8] at H
            have c8b0 : decide ((ji6) < (l0.length : Int)) = true := decide_eq_true c8
            clear c8
            obtain ⟨ji9, hji9⟩ : ∃ j_ : Int, (wrap64 (a2 + x9_1)) = j_ := ⟨_, rfl⟩
            replace H : (if 0 ≤ (ji9) then (if (ji9) < (l0.length : Int) then (if (rd l0 (ji6)) = (rd l0 (ji9)) then (match_common.l0 k1 l0 a1 a2 a3 (wrap64 (x9_1 + 1))) else (some x9_1)) else (none)) else (none)) = some r := by first | (rw [hji9] at H; exact H) | (simp only [hji9] at H ⊢; exact H)
            (try rw [hji9] at c5b0)
            have hji9w : (IntKind.i64.wrap (a2 + x9_1)) = ji9 := (i64_w _).trans hji9
            by_cases c10 : 0 ≤ (ji9)
            · rw [if_pos c10] at H
              have c10b0 : decide (0 ≤ (ji9)) = true := decide_eq_true c10
              clear c10
              by_cases c11 : (ji9) < (l0.length : Int)
              · rw [if_pos c11] at H
                have c11b0 : decide ((ji9) < (l0.length : Int)) = true := decide_eq_true c11
                clear c11
                by_cases c12 : (rd l0 (ji6)) = (rd l0 (ji9))
                · rw [if_pos c12] at H
                  have c12b0 : ((rd l0 (ji6)) == (rd l0 (ji9))) = true := beq_iff_eq.mpr c12
                  have c12b1 : ((rd l0 (ji6)) != (rd l0 (ji9))) = false := bne_eq_false_iff_eq.mpr c12
                  clear c12
                  have H' := Aside0.mk H
                  clear H
                  have p108001 : 0 ≤ ((ji6) : Int) := of_decide_eq_true (by first | (with_reducible assumption) | assumption)
                  have q108001 : (ji6) < (l0.length : Int) := of_decide_eq_true (by first | (with_reducible assumption) | assumption)
                  obtain ⟨ad108001, e108001, hx108001_0⟩ := Kd.at_int HR0.out (ji6) p108001 q108001
                  cases e108001
                  replace p108001 := eq_true p108001
                  replace q108001 := eq_true q108001
                  have p108002 : 0 ≤ ((ji9) : Int) := of_decide_eq_true (by first | (with_reducible assumption) | assumption)
                  have q108002 : (ji9) < (l0.length : Int) := of_decide_eq_true (by first | (with_reducible assumption) | assumption)
                  obtain ⟨ad108002, e108002, hx108002_0⟩ := Kd.at_int HR0.out (ji9) p108002 q108002
                  obtain rfl : ad108001 = ad108002 := (by injection e108002)
                  replace p108002 := eq_true p108002
                  replace q108002 := eq_true q108002
                  go_wp2
                  repeat (go_quiet (fail); try go_wp2)
                  go_roundg k1
                  case measure => have := HK1.out; omega
                  case rel => exact ⟨(wrap64 (x9_1 + 1)), (by first | rfl | (simp; done) | (simp [*]; done)), H', ⟨by have := HK1.out; omega⟩, by repeat (first | exact Drawn0.refl _ | apply Drawn0.step)⟩
                · rw [if_neg c12] at H
                  have c12b0 : ((rd l0 (ji6)) == (rd l0 (ji9))) = false := beq_eq_false_iff_ne.mpr c12
                  have c12b1 : ((rd l0 (ji6)) != (rd l0 (ji9))) = true := bne_iff_ne.mpr c12
                  obtain rfl := Option.some.inj H
                  have p108001 : 0 ≤ ((ji6) : Int) := of_decide_eq_true (by first | (with_reducible assumption) | assumption)
                  have q108001 : (ji6) < (l0.length : Int) := of_decide_eq_true (by first | (with_reducible assumption) | assumption)
                  obtain ⟨ad108001, e108001, hx108001_0⟩ := Kd.at_int HR0.out (ji6) p108001 q108001
                  cases e108001
                  replace p108001 := eq_true p108001
                  replace q108001 := eq_true q108001
                  have p108002 : 0 ≤ ((ji9) : Int) := of_decide_eq_true (by first | (with_reducible assumption) | assumption)
                  have q108002 : (ji9) < (l0.length : Int) := of_decide_eq_true (by first | (with_reducible assumption) | assumption)
                  obtain ⟨ad108002, e108002, hx108002_0⟩ := Kd.at_int HR0.out (ji9) p108002 q108002
                  obtain rfl : ad108001 = ad108002 := (by injection e108002)
                  replace p108002 := eq_true p108002
                  replace q108002 := eq_true q108002
                  go_wp2
                  repeat (go_quiet (fail); try go_wp2)
                  go_ret
                  exact ⟨by first | rfl | (simp; done) | (simp only [← hji6, ← hji9] <;> (first | rfl | simp)) | (simp [*]; done), by repeat (first | exact Drawn0.refl _ | apply Drawn0.step)⟩
              · rw [if_neg c11] at H
                exact absurd H (by simp)
            · rw [if_neg c10] at H
              exact absurd H (by simp)
          · rw [if_neg c8] at H
            exact absurd H (by simp)
        · rw [if_neg c7] at H
          exact absurd H (by simp)
      · rw [if_neg c5] at H
        have c5b0 : decide ((wrap64 (a2 + x9_1)) < a3) = false := decide_eq_false c5
        clear c5
        obtain rfl := Option.some.inj H
        go_wp2
        repeat (go_quiet (fail); try go_wp2)
        go_ret
        exact ⟨by first | rfl | (simp; done) | (simp [*]; done), by repeat (first | exact Drawn0.refl _ | apply Drawn0.step)⟩

end Go.Proofs.Ytdlfflgcmgkmeaa.P

/- The chains of places with one hash: put, find; a text's sequences. -/
namespace Go.Proofs.Ytdlfflgcmgkmeaa.P
open Go.RowKit Go.Proofs.YtdlfflgcmgkmeaaW.PrintWords Go.Proofs.YtdlfflgcmgkmeaaW.PrintLast Go.Proofs.YtdlfflgcmgkmeaaW.PrintMore
set_option linter.unusedVariables false

/-- The cells of a struct chains: the heads, and the slice of what is ahead. -/
def chCells (H : Nat → Int) (gp n : Nat) : Array Value := (((List.range 4096).map fun i => Value.int .i64 (H i)) ++ [Value.slice (some ⟨gp, 0, none⟩) n n]).toArray

theorem chCells_head (H : Nat → Int) (gp n i : Nat) (h : i < 4096) : (chCells H gp n)[i]? = some (.int .i64 (H i)) := by
  unfold chCells
  rw [List.getElem?_toArray, List.getElem?_append_left (by simpa using h)]
  simp [h]
theorem chCells_prev (H : Nat → Int) (gp n : Nat) : (chCells H gp n)[4096]? = some (Value.slice (some ⟨gp, 0, none⟩) n n) := by
  unfold chCells
  rw [List.getElem?_toArray, List.getElem?_append_right (by simp)]
  simp
theorem chCells_size (H : Nat → Int) (gp n : Nat) : (chCells H gp n).size = 4097 := by simp [chCells]
theorem chCells_set (H : Nat → Int) (gp n i : Nat) (x : Int) (h : i < 4096) : (chCells H gp n).setIfInBounds i (.int .i64 x) = chCells (fun j => if j = i then x else H j) gp n := by
  apply Array.ext_getElem?
  intro j
  rw [Array.getElem?_setIfInBounds, chCells_size]
  by_cases hji : i = j
  · subst hji
    rw [if_pos rfl, if_pos (by omega), chCells_head _ _ _ _ h, if_pos rfl]
  · rw [if_neg hji]
    rcases Nat.lt_trichotomy j 4096 with hj | hj | hj
    · rw [chCells_head _ _ _ _ hj, chCells_head _ _ _ _ hj, if_neg (fun h => hji h.symm)]
    · subst hj; rw [chCells_prev, chCells_prev]
    · rw [Array.getElem?_eq_none (by rw [chCells_size]; omega), Array.getElem?_eq_none (by rw [chCells_size]; omega)]

/-- The chains in memory. -/
structure Ch (w : World) (g gp : Nat) (H : Nat → Int) (Pv : List Int) : Prop where
  hb : w.heap[g]? = some (.cells (chCells H gp Pv.length) 155 (0, 0))
  pb : w.heap[gp]? = some (.cells (nums .i64 Pv).toArray 3 (0, 0))

theorem Ch.ne {w : World} {g gp : Nat} {H : Nat → Int} {Pv : List Int} (h : Ch w g gp H Pv) : g ≠ gp := blk_ne h.hb h.pb (by decide)
theorem Ch.drewN {w : World} {g gp : Nat} {H : Nat → Int} {Pv : List Int} (h : Ch w g gp H Pv) (n : Nat) : Ch (w.drewN n) g gp H Pv := ⟨h.hb, h.pb⟩
theorem Ch.head {w : World} {g gp : Nat} {H : Nat → Int} {Pv : List Int} (h : Ch w g gp H Pv) (i : Nat) (hi : i < 4096) : w.cell? ⟨g, i, none⟩ = some (.int .i64 (H i)) := (blk_cell h.hb i).trans (chCells_head _ _ _ _ hi)
theorem Ch.prevc {w : World} {g gp : Nat} {H : Nat → Int} {Pv : List Int} (h : Ch w g gp H Pv) : w.cell? ⟨g, 4096, none⟩ = some (.slice (some ⟨gp, 0, none⟩) Pv.length Pv.length) := (blk_cell h.hb 4096).trans (chCells_prev _ _ _)
theorem Ch.place {w : World} {g gp : Nat} {H : Nat → Int} {Pv : List Int} (h : Ch w g gp H Pv) (i : Nat) (hi : i < Pv.length) : w.cell? ⟨gp, i, none⟩ = some (.int .i64 (Pv.getD i 0)) := by
  rw [blk_cell h.pb i]
  simp [nums, hi]

theorem nums_set (Pv : List Int) (a : Nat) (x : Int) : (nums .i64 Pv).toArray.setIfInBounds a (.int .i64 x) = (nums .i64 (Pv.set a x)).toArray := by
  simp [nums, List.map_set]
theorem Ch.setPlace {w : World} {g gp : Nat} {H : Nat → Int} {Pv : List Int} (h : Ch w g gp H Pv) (a : Nat) (x : Int) : Ch (w.setCell ⟨gp, a, none⟩ (.int .i64 x)) g gp H (Pv.set a x) :=
  ⟨by rw [List.length_set]; exact blk_far h.hb (p := ⟨gp, a, none⟩) h.ne _, by rw [← nums_set]; exact blk_set h.pb a _⟩
theorem Ch.setHead {w : World} {g gp : Nat} {H : Nat → Int} {Pv : List Int} (h : Ch w g gp H Pv) (i : Nat) (hi : i < 4096) (x : Int) : Ch (w.setCell ⟨g, i, none⟩ (.int .i64 x)) g gp (fun j => if j = i then x else H j) Pv :=
  ⟨by rw [← chCells_set _ _ _ _ _ hi]; exact blk_set h.hb i _, blk_far h.pb (p := ⟨g, i, none⟩) h.ne.symm _⟩

def hashAt (l : List Int) (a : Nat) : Int := (match_hash.f (l.drop a)).getD 0
theorem hashAt_eq (l : List Int) (a : Nat) (h : a + 4 ≤ l.length) : match_hash.f (l.drop a) = some (hashAt l a) := by
  unfold hashAt match_hash.f
  rw [if_pos (by simp; omega), if_pos (by simp; omega), if_pos (by simp; omega), if_pos (by simp; omega)]
  rfl
theorem Ch.grown {w w1 : World} {g gp : Nat} {H : Nat → Int} {Pv : List Int} (h : Ch w g gp H Pv) {row : Option Nat} (hg : w.grownBy w1 row) (h1 : some g ≠ row) (h2 : some gp ≠ row) : Ch w1 g gp H Pv := ⟨blk_grown h.hb hg h1, blk_grown h.pb hg h2⟩
theorem hashAt_lt (l : List Int) (a : Nat) : 0 ≤ hashAt l a ∧ hashAt l a < 4096 := by
  unfold hashAt match_hash.f
  repeat' split
  all_goals first | (simp only [Option.getD_some]; omega) | simp

def putH (H : Nat → Int) (l : List Int) (a : Nat) : Nat → Int := if a + 4 ≤ l.length then fun j => if j = (hashAt l a).toNat then (a : Int) + 1 else H j else H
def putP (Pv : List Int) (H : Nat → Int) (l : List Int) (a : Nat) : List Int := if a + 4 ≤ l.length then Pv.set a (H (hashAt l a).toNat) else Pv

set_option maxHeartbeats 1000000 in
set_option maxRecDepth 100000 in
theorem put_calls (g gp : Nat) (H : Nat → Int) (Pv : List Int) (A0 : Option Addr) (c0 : Nat) (l0 : List Int) (a : Nat) (B : Nat) (w : World) (hC : Ch w g gp H Pv) (hlen : Pv.length = l0.length) (hmax : l0.length ≤ 1048576) (h1 : a < l0.length)
    (hr : Kd.C (Kd.int .u8) w A0 l0.length l0) (hc0 : l0.length ≤ c0) (hg : B ≤ g) (hgp : B ≤ gp) :
    Calls Try.prog 93 #[.pointer (some ⟨g, 0, none⟩), .slice A0 l0.length c0, .int .i64 a] w fun e w' => e = .returned (.tuple #[]) ∧ Ch w' g gp (putH H l0 a) (putP Pv H l0 a) ∧ Below B w w' ∧ Kept w w' (fun k => k = g ∨ k = gp) := by
  by_cases h4 : a + 4 ≤ l0.length
  · unfold putH putP
    rw [if_pos h4, if_pos h4]
    have hd1 : decide ((l0.length : Int) < (a : Int) + 4) = false := decide_eq_false (by omega)
    obtain ⟨i028, hi028, _, hsz28, _⟩ := info_parts info5
    obtain ⟨A28, hcut28, hA28, hC28⟩ := print_drop_of (P := Try.prog) (Value.int .u8) 0 22 5 .i64 Try.underlying22 hi028 hsz28 A0 c0 l0 (a : Int) (by omega) (by omega) hc0
    have HR := Aside0.mk (Kd.C_of_reads (h1 := fun _ => rfl) (hA28 _ (Kd.reads_of_C hr)))
    have HC := Aside0.mk hC28
    rw [Int.toNat_natCast] at HR HC
    clear hA28 hC28 hi028 hsz28
    have hh := Aside0.mk (hashAt_eq l0 a h4)
    have hhl := hashAt_lt l0 a
    generalize hashAt l0 a = hh0 at hh hhl ⊢
    have HCh := Aside0.mk hC
    have HL := Aside0.mk hlen
    clear hC hlen hr
    go_enter Try.func93, Try.ntmps93
    go_wp2_with fail
    refine calls_of_args (args' := #[.slice A28 (l0.drop a).length (c0 - a)]) (by rw [List.length_drop]) ?_
    refine (match_hash.calls _ _ _ _ _ HR.out HC.out hh.out).mono ?_
    rintro e w' ⟨rfl, ⟨nd, rfl⟩⟩
    have hn : hh0.toNat < 4096 := by omega
    have k1 := HCh.out.prevc
    have k2 := HCh.out.head hh0.toNat hn
    have k3 := HCh.out.place a (by rw [HL.out]; exact h1)
    have k4 := blk_frozen HCh.out.pb a
    have k5 := blk_frozen HCh.out.hb hh0.toNat
    have b1 : (a : Int) < (Pv.length : Int) := by rw [HL.out]; omega
    have b2 : decide (a < Pv.length) = true := decide_eq_true (by omega)
    go_wp2_with fail
    go_region
    have C2 := (HCh.out.drewN (nd + 1)).setPlace a (H hh0.toNat)
    have k6 := C2.head hh0.toNat hn
    have k7 := blk_frozen C2.hb hh0.toNat
    have C3 := Aside0.mk (C2.setHead hh0.toNat hn ((a : Int) + 1))
    clear C2 k1 k2 k3 k4 k5
    go_wp2
    go_end0
    refine ⟨rfl, C3.out, ?_, ?_⟩
    · exact ((pw_below_drewN (Below.refl _ _) _).setCell (p := ⟨gp, a, none⟩) hgp _).setCell (p := ⟨g, hh0.toNat, none⟩) hg _
    · exact ((Kept.drewN (Kept.refl _ _) _).setCell (p := ⟨gp, a, none⟩) (.inl (.inr rfl)) _).setCell (p := ⟨g, hh0.toNat, none⟩) (.inl (.inl rfl)) _
  · unfold putH putP
    rw [if_neg h4, if_neg h4]
    have hd1 : decide ((l0.length : Int) < (a : Int) + 4) = true := decide_eq_true (by omega)
    have HCh := Aside0.mk hC
    clear hC hlen hr
    go_enter Try.func93, Try.ntmps93
    go_wp2
    first | go_end0 | refine bodyPost_ret (results_none rfl _ _ _) rfl ?_
    exact ⟨rfl, HCh.out, Below.refl _ _, Kept.refl _ _⟩

/-- How many bytes from two places on are the same (f more are asked). -/
def cmn (l : List Int) (p q : Nat) : Nat → Nat → Nat
  | 0, n => n
  | f + 1, n => if rd l ((p + n : Nat) : Int) = rd l ((q + n : Nat) : Int) then cmn l p q f (n + 1) else n

theorem common_eq (l : List Int) (p q e : Nat) (hpq : p < q) (he : e ≤ l.length) (hmax : l.length ≤ 1048576) : ∀ (f n k : Nat), q + n + f = e → f < k → match_common.l0 k l p q e n = some ((cmn l p q f n : Nat) : Int) := by
  intro f
  induction f with
  | zero =>
    intro n k h1 h2
    obtain ⟨k, rfl⟩ : ∃ m, k = m + 1 := ⟨k - 1, by omega⟩
    simp only [match_common.l0, cmn]
    rw [if_neg (by unfold wrap64; omega)]
  | succ f ih =>
    intro n k h1 h2
    obtain ⟨k, rfl⟩ : ∃ m, k = m + 1 := ⟨k - 1, by omega⟩
    have e1 : wrap64 ((q : Int) + n) = ((q + n : Nat) : Int) := by unfold wrap64; omega
    have e2 : wrap64 ((p : Int) + n) = ((p + n : Nat) : Int) := by unfold wrap64; omega
    have e3 : wrap64 ((n : Int) + 1) = ((n + 1 : Nat) : Int) := by unfold wrap64; omega
    simp only [match_common.l0, cmn]
    rw [e1, e2, e3, if_pos (by omega), if_pos (by omega), if_pos (by omega), if_pos (by omega), if_pos (by omega)]
    split
    · exact ih (n + 1) k (by omega) (by omega)
    · rfl
theorem cmn_le (l : List Int) (p q : Nat) : ∀ (f n : Nat), n ≤ cmn l p q f n ∧ cmn l p q f n ≤ n + f := by
  intro f
  induction f with
  | zero => intro n; simp [cmn]
  | succ f ih =>
    intro n
    simp only [cmn]
    split
    · have := ih (n + 1); omega
    · omega

def findL (l Pv : List Int) (a : Nat) : Nat → Nat → Nat → Nat → Nat × Nat
  | 0, _, o, n => (o, n)
  | k + 1, p, o, n =>
    if p = 0 ∨ 65535 < a - (p - 1) then (o, n)
    else if n < cmn l (p - 1) a (l.length - 5 - a) 0 then findL l Pv a k (Pv.getD (p - 1) 0).toNat (a - (p - 1)) (cmn l (p - 1) a (l.length - 5 - a) 0)
    else findL l Pv a k (Pv.getD (p - 1) 0).toNat o n
/-- The longest copy for a place: how far back, how long. -/
def findF (l : List Int) (H : Nat → Int) (Pv : List Int) (a : Nat) : Nat × Nat := if (findL l Pv a 96 (H (hashAt l a).toNat).toNat 0 0).2 < 4 then (0, 0) else findL l Pv a 96 (H (hashAt l a).toNat).toNat 0 0

structure ChInv (a : Nat) (H : Nat → Int) (Pv : List Int) : Prop where
  heads : ∀ i, i < 4096 → 0 ≤ H i ∧ H i ≤ a
  prevs : ∀ j, j < Pv.length → 0 ≤ Pv.getD j 0 ∧ Pv.getD j 0 ≤ j

set_option maxHeartbeats 2000000 in
set_option maxRecDepth 100000 in
theorem find_calls (g gp : Nat) (H : Nat → Int) (Pv : List Int) (A0 : Option Addr) (c0 : Nat) (l0 : List Int) (a : Nat) (w : World) (hC : Ch w g gp H Pv) (hlen : Pv.length = l0.length) (hmax : l0.length ≤ 1048576) (h1 : a + 12 ≤ l0.length)
    (hr : Kd.C (Kd.int .u8) w A0 l0.length l0) (hc0 : l0.length ≤ c0) (hI : ChInv a H Pv) :
    Calls Try.prog 92 #[.pointer (some ⟨g, 0, none⟩), .slice A0 l0.length c0, .int .i64 a] w fun e w' => e = .returned (.tuple #[.int .i64 ((findF l0 H Pv a).1 : Int), .int .i64 ((findF l0 H Pv a).2 : Int)]) ∧ Drawn0 w w' := by
  obtain ⟨i028, hi028, _, hsz28, _⟩ := info_parts info5
  obtain ⟨A28, hcut28, hA28, hC28⟩ := print_drop_of (P := Try.prog) (Value.int .u8) 0 22 5 .i64 Try.underlying22 hi028 hsz28 A0 c0 l0 (a : Int) (by omega) (by omega) hc0
  have HR := Aside0.mk (Kd.C_of_reads (h1 := fun _ => rfl) (hA28 _ (Kd.reads_of_C hr)))
  have HC := Aside0.mk hC28
  rw [Int.toNat_natCast] at HR HC
  clear hA28 hC28 hi028 hsz28
  have hh := Aside0.mk (hashAt_eq l0 a (by omega))
  have hhl := hashAt_lt l0 a
  unfold findF
  have hp0 := hI.heads (hashAt l0 a).toNat (by omega)
  generalize hashAt l0 a = hh0 at hh hhl hp0 ⊢
  have HCh := Aside0.mk hC
  have HL := Aside0.mk hlen
  have HI := Aside0.mk hI
  have HR0 := Aside0.mk hr
  have HC0 := Aside0.mk hc0
  obtain ⟨p0, hp0e⟩ := Int.eq_ofNat_of_zero_le hp0.1
  rw [hp0e] at hp0
  rw [hp0e, Int.toNat_natCast]
  clear hC hlen hr hI hc0
  have hn : hh0.toNat < 4096 := by omega
  have k2 := HCh.out.head hh0.toNat hn
  rw [hp0e] at k2
  clear hp0e
  obtain ⟨R, hR⟩ : ∃ R, findL l0 Pv a 96 p0 0 0 = R := ⟨_, rfl⟩
  rw [hR]
  have HRR := Aside0.mk hR
  clear hR
  obtain ⟨RF, hRF⟩ : ∃ RF : Nat × Nat, (if R.2 < 4 then (0, 0) else R) = RF := ⟨_, rfl⟩
  rw [hRF]
  have HRF := Aside0.mk hRF
  clear hRF
  have k1 := HCh.out.prevc
  go_enter Try.func92, Try.ntmps92
  go_wp2_with fail
  go_quiet ((go_at_call 106; refine calls_of_args (args' := #[.slice A28 (l0.drop a).length (c0 - a)]) (by rw [List.length_drop]) ?_; refine (match_hash.calls _ _ _ _ _ (Kd.C_drewN HR.out _) HC.out hh.out).mono ?_; rintro e w' ⟨rfl, ⟨nd, rfl⟩⟩; exact ⟨rfl, _, World.drewN_drewN _ _ _⟩))
  go_wp2_with fail
  generalize hw0 : w.drewN _ = w1
  have HD := Aside0.mk (show Drawn0 w w1 from by rw [← hw0]; exact Drawn0.step (Drawn0.refl _) _)
  have HC1 := Aside0.mk (show Ch w1 g gp H Pv from by rw [← hw0]; exact HCh.out.drewN _)
  have HR1 := Aside0.mk (show Kd.C (Kd.int .u8) w1 A0 l0.length l0 from by rw [← hw0]; exact Kd.C_drewN HR0.out _)
  clear hw0 k1 k2
  go_loopw [6, 7, 9, 23] (fun o n p c wr => ∃ (k pp oo nn m : Nat), k ≤ 96 ∧ pp ≤ a ∧ o = .int .i64 oo ∧ n = .int .i64 nn ∧ p = .int .i64 pp ∧ c = .int .i64 k ∧ Aside0 (findL l0 Pv a (96 - k) pp oo nn = R) ∧ wr = w1.drewN m) (fun _ _ _ c _ => 96 - (intOf c).toNat)
  case atStart => exact ⟨0, p0, 0, 0, 0, by omega, by omega, rfl, rfl, rfl, rfl, HRR, rfl⟩
  case round =>
    obtain ⟨k, pp, oo, nn, m, hk, hpa, rfl, rfl, rfl, rfl, hF, rfl⟩ := hrel
    have hk0 : 0 ≤ (k : Int) := by omega
    rcases Nat.lt_or_ge k 96 with hlt | hge
    · have hkd : decide ((k : Int) < 96) = true := decide_eq_true (by omega)
      obtain ⟨j, hj⟩ : ∃ j, 96 - k = j + 1 := ⟨95 - k, by omega⟩
      have hF1 := hF.out
      rw [hj] at hF1
      have hj2 : 96 - (k + 1) = j := by omega
      unfold findL at hF1
      by_cases hp : pp = 0
      · subst hp
        rw [if_pos (.inl rfl)] at hF1
        subst hF1
        clear hF hj2 hj
        have hpd : ((((0 : Nat) : Int)) == 0) = true := rfl
        rcases Nat.lt_or_ge nn 4 with h4 | h4
        · have hd4 : decide ((nn : Int) < 4) = true := decide_eq_true (by omega)
          obtain rfl : (0, 0) = RF := by have := HRF.out; rwa [if_pos h4] at this
          go_wp2
          go_ret2
          exact ⟨rfl, Drawn0.step HD.out _⟩
        · have hd4 : decide ((nn : Int) < 4) = false := decide_eq_false (by omega)
          obtain rfl : (oo, nn) = RF := by have := HRF.out; rwa [if_neg (by omega)] at this
          go_wp2
          go_ret2
          exact ⟨rfl, Drawn0.step HD.out _⟩
      · have hpd : ((pp : Int) == 0) = false := beq_eq_false_iff_ne.mpr (by omega)
        by_cases hw : 65535 < a - (pp - 1)
        · have hwd : decide ((65535 : Int) < (a : Int) - ((pp : Int) - 1)) = true := decide_eq_true (by omega)
          rw [if_pos (.inr hw)] at hF1
          subst hF1
          clear hF hj2 hj
          rcases Nat.lt_or_ge nn 4 with h4 | h4
          · have hd4 : decide ((nn : Int) < 4) = true := decide_eq_true (by omega)
            obtain rfl : (0, 0) = RF := by have := HRF.out; rwa [if_pos h4] at this
            go_wp2
            go_ret2
            exact ⟨rfl, Drawn0.step HD.out _⟩
          · have hd4 : decide ((nn : Int) < 4) = false := decide_eq_false (by omega)
            obtain rfl : (oo, nn) = RF := by have := HRF.out; rwa [if_neg (by omega)] at this
            go_wp2
            go_ret2
            exact ⟨rfl, Drawn0.step HD.out _⟩
        · have hwd : decide ((65535 : Int) < (a : Int) - ((pp : Int) - 1)) = false := decide_eq_false (by omega)
          rw [if_neg (by omega)] at hF1
          have hcm := common_eq l0 (pp - 1) a (l0.length - 5) (by omega) (by omega) hmax (l0.length - 5 - a) 0 (l0.length + 1) (by omega) (by omega)
          have hcf : match_common.f (l0.length + 1) l0 ((pp : Int) - 1) (a : Int) ((l0.length : Int) - 5) = some ((cmn l0 (pp - 1) a (l0.length - 5 - a) 0 : Nat) : Int) := by
            unfold match_common.f
            rw [← hcm]
            congr 1 <;> omega
          generalize cmn l0 (pp - 1) a (l0.length - 5 - a) 0 = cm at hF1 hcf
          have HCF := Aside0.mk hcf
          have HF1 := Aside0.mk hF1
          have hpv := HI.out.prevs (pp - 1) (by rw [HL.out]; omega)
          have k3 := HC1.out.place (pp - 1) (by rw [HL.out]; omega)
          obtain ⟨pn, hpn⟩ := Int.eq_ofNat_of_zero_le hpv.1
          rw [hpn] at hpv k3
          rw [hpn, Int.toNat_natCast] at HF1
          clear hcm hcf hF1 hF hpn
          have k1 := HC1.out.prevc
          have hb1 : ((pp : Int) - 1) < (Pv.length : Int) := by rw [HL.out]; omega
          have e1 : ((pp : Int) - 1).toNat = pp - 1 := by omega
          rcases Nat.lt_or_ge nn cm with hm | hm
          · have hmd : decide ((nn : Int) < (cm : Int)) = true := decide_eq_true (by omega)
            have HF2 := Aside0.mk (show findL l0 Pv a j pn (a - (pp - 1)) cm = R from by have := HF1.out; rwa [if_pos hm] at this)
            clear HF1
            go_wp2_with ((go_at_call 107; (with_reducible refine (match_common.calls _ _ _ l0 _ _ _ _ _ (Kd.C_drewN HR1.out _) HC0.out HCF.out).mono ?_); rintro e w' ⟨rfl, ⟨nd, rfl⟩⟩))
            go_roundw
            case rel => exact ⟨k + 1, pn, a - (pp - 1), cm, _, by omega, by omega, by congr 1; omega, rfl, rfl, by go_num, ⟨by rw [hj2]; exact HF2.out⟩, rfl⟩
            case measure => simp [intOf]; omega
          · have hmd : decide ((nn : Int) < (cm : Int)) = false := decide_eq_false (by omega)
            have HF2 := Aside0.mk (show findL l0 Pv a j pn oo nn = R from by have := HF1.out; rwa [if_neg (by omega)] at this)
            clear HF1
            go_wp2_with ((go_at_call 107; (with_reducible refine (match_common.calls _ _ _ l0 _ _ _ _ _ (Kd.C_drewN HR1.out _) HC0.out HCF.out).mono ?_); rintro e w' ⟨rfl, ⟨nd, rfl⟩⟩))
            go_roundw
            case rel => exact ⟨k + 1, pn, oo, nn, _, by omega, by omega, rfl, rfl, rfl, by go_num, ⟨by rw [hj2]; exact HF2.out⟩, rfl⟩
            case measure => simp [intOf]; omega
    · have hkd : decide ((k : Int) < 96) = false := decide_eq_false (by omega)
      obtain rfl : (oo, nn) = R := by
        have := hF.out
        rwa [show 96 - k = 0 by omega, findL] at this
      clear hF
      rcases Nat.lt_or_ge nn 4 with h4 | h4
      · have hd4 : decide ((nn : Int) < 4) = true := decide_eq_true (by omega)
        obtain rfl : (0, 0) = RF := by have := HRF.out; rwa [if_pos h4] at this
        go_wp2
        go_ret2
        exact ⟨rfl, Drawn0.step HD.out _⟩
      · have hd4 : decide ((nn : Int) < 4) = false := decide_eq_false (by omega)
        obtain rfl : (oo, nn) = RF := by have := HRF.out; rwa [if_neg (by omega)] at this
        go_wp2
        go_ret2
        exact ⟨rfl, Drawn0.step HD.out _⟩
def zero155 : Array Value := (((List.range 4096).map fun i => Value.int .i64 0) ++ [Value.slice none 0 0]).toArray
theorem zero155_run (w : World) : (zeroValue 155).run Try.prog w = .ok (.agg zero155) w := by kernel_rfl
theorem under155 : Try.prog.underlying 155 = some (.struct #[{ name := "heads", type := 153, offset := 0, embedded := false, tag := "", pkgPath := "portmanteau/match", byteOffset := 0 }, { name := "prev", type := 68, offset := 4096, embedded := false, tag := "", pkgPath := "portmanteau/match", byteOffset := 32768 }]) := by kernel_rfl
theorem zero155_size : zero155.size = 4097 := by simp [zero155]
theorem zero155_set (p : Nat) (n : Nat) : zero155.setIfInBounds 4096 (.slice (some ⟨p, 0, none⟩) n n) = chCells (fun _ => 0) p n := by
  unfold zero155 chCells
  rw [List.setIfInBounds_toArray, List.set_append_right _ _ (by simp)]
  simp
theorem build155 (p : Nat) (n : Nat) (w : World) : (Instr.build 155 #[(1, .slice (some ⟨p, 0, none⟩) n n)]).run Try.prog w = .ok (.agg (chCells (fun _ => 0) p n)) w := by
  have hz := zero155_set p n
  have hs := zero155_size
  unfold Instr.build
  generalize hZ : zero155 = Z at hz hs
  have hzr := zero155_run w
  rw [hZ] at hzr
  simp [hzr, run_underlying under155, Value.cells, Instr.fill, hs, hz]

/-! ### The sequences -/
def puts (l : List Int) : Nat → (Nat → Int) → List Int → Nat → (Nat → Int) × List Int
  | 0, H, Pv, _ => (H, Pv)
  | n + 1, H, Pv, a => puts l n (putH H l a) (putP Pv H l a) (a + 1)
def seqGo (l : List Int) : Nat → (Nat → Int) → List Int → Nat → Nat → List S113 → List S113
  | 0, _, _, f, _, acc => acc ++ [⟨l.drop f, 0, 0⟩]
  | k + 1, H, Pv, f, a, acc =>
    if a + 12 ≤ l.length then
      if (findF l H Pv a).2 = 0 then seqGo l k (putH H l a) (putP Pv H l a) f (a + 1) acc
      else seqGo l k (puts l (findF l H Pv a).2 H Pv a).1 (puts l (findF l H Pv a).2 H Pv a).2 (a + (findF l H Pv a).2) (a + (findF l H Pv a).2) (acc ++ [⟨(l.take a).drop f, (findF l H Pv a).1, (findF l H Pv a).2⟩])
    else acc ++ [⟨l.drop f, 0, 0⟩]
/-- A text's sequences. -/
def seqs (l : List Int) : List S113 := seqGo l (l.length + 1) (fun _ => 0) (List.replicate l.length 0) 0 0 []

theorem putP_length (Pv : List Int) (H : Nat → Int) (l : List Int) (a : Nat) : (putP Pv H l a).length = Pv.length := by unfold putP; split <;> simp
theorem ChInv.put {a : Nat} {H : Nat → Int} {Pv : List Int} (h : ChInv a H Pv) (l : List Int) (hl : Pv.length = l.length) : ChInv (a + 1) (putH H l a) (putP Pv H l a) := by
  refine ⟨fun i hi => ?_, fun j hj => ?_⟩
  · have := h.heads i hi
    unfold putH
    split
    · dsimp only
      split <;> omega
    · omega
  · rw [putP_length] at hj
    have h1 := h.prevs j hj
    unfold putP
    split
    · have h2 := hashAt_lt l a
      have h3 := h.heads (hashAt l a).toNat (by omega)
      rw [List.getD_eq_getElem?_getD, List.getElem?_set]
      split
      · rename_i he
        subst he
        rw [if_pos hj]
        simp only [Option.getD_some]
        omega
      · rw [← List.getD_eq_getElem?_getD]
        exact h1
    · exact h1
theorem findL_le (l Pv : List Int) (a : Nat) : ∀ (k p o n : Nat), n ≤ l.length - 5 - a → (findL l Pv a k p o n).2 ≤ l.length - 5 - a := by
  intro k
  induction k with
  | zero => intro p o n h; exact h
  | succ k ih =>
    intro p o n h
    unfold findL
    split
    · exact h
    · split
      · exact ih _ _ _ (by have := (cmn_le l (p - 1) a (l.length - 5 - a) 0).2; omega)
      · exact ih _ _ _ h
theorem findF_le (l : List Int) (H : Nat → Int) (Pv : List Int) (a : Nat) : (findF l H Pv a).2 ≤ l.length - 5 - a := by
  unfold findF
  split
  · exact Nat.zero_le _
  · exact findL_le _ _ _ _ _ _ _ (Nat.zero_le _)

theorem seg_V {W : World} {base : Nat} {ok : Nat → Prop} {A0 A28 : Option Addr} {c0 c : Nat} {l0 s : List Int} (h : Kd.V (Kd.int .u8) 5 W base ok (.slice A0 l0.length c0) l0)
    (hA : ∀ w : World, ReadsOf (Value.int .u8) 0 w A0 l0.length l0 → ReadsOf (Value.int .u8) 0 w A28 s.length s) (hc : s.length ≤ c) : Kd.V (Kd.int .u8) 5 W base ok (.slice A28 s.length c) s :=
  Kd.V_mk hc (fun W' hW => Kd.C_of_reads (h1 := fun _ => rfl) (hA W' (Kd.reads_of_C (Kd.V_F h W' hW))))

def match_sequences.f (l0 : List Int) : Option ((List (S113))) := if l0.length ≤ 1048576 then some (seqs l0) else none

set_option maxHeartbeats 4000000 in
set_option maxRecDepth 100000 in
theorem match_sequences.calls (P0_ : Nat → Prop) (A0 : Option Addr) (c0 : Nat) (l0 : List Int) (r : List (S113)) (w : World) (hs0 : Kd.V (Kd.int .u8) 5 w w.heap.size (fun k_ => P0_ k_) (.slice A0 l0.length c0) l0) (h : match_sequences.f l0 = some r) :
    Calls Try.prog 66 #[.slice A0 l0.length c0] w fun e w' => ∃ v0_ : Value, e = .returned (v0_) ∧ Kd.N k113 113 w' w.heap.size (fun k_ => (P0_ k_ ∨ w.heap.size ≤ k_)) v0_ r ∧ Below w.heap.size w w' := by
  have hmax : l0.length ≤ 1048576 ∧ seqs l0 = r := by
    unfold match_sequences.f at h
    split at h
    · rename_i h1
      exact ⟨h1, Option.some.inj h⟩
    · cases h
  clear h
  obtain ⟨hmax, hR⟩ := hmax
  have HRR := Aside0.mk hR
  clear hR
  have HV0 := Aside0.mk (Kd.V_bound hs0)
  clear hs0
  have hmk := print_make (P := Try.prog) 68 3 .i64 8 Try.underlying68 (by kernel_rfl) (by omega) l0.length (by omega)
  have hbd := build155 w.heap.size l0.length
  go_enter Try.func66, Try.ntmps66
  go_wp2_with ((with_reducible refine gate_dst (N := 13) rfl ?_); refine box_event ?hg (N := 13) ?hd (cs := chCells (fun _ => 0) w.heap.size l0.length) (t := 155) ?hr ?_; (case hd => rfl); (case hg => rfl); (case hr => first | (go_simp; done) | (go_simp; rfl)); intro g hg w24 hbox hb)
  have hgs : (w.alloc (.cells (madeCells #[.int .i64 0] l0.length) 3)).heap.size = w.heap.size + 1 := by simp
  have hsz24 : w.heap.size + 2 ≤ w24.heap.size := by
    have h1 := blk_lt hbox
    rw [hg, hgs] at h1
    omega
  have HC0 := Aside0.mk (show Ch w24 (w.heap.size + 1) w.heap.size (fun _ => 0) (List.replicate l0.length 0) from by
    refine ⟨?_, ?_⟩
    · rw [List.length_replicate, ← hgs, ← hg]; exact hbox
    · rw [hb.block _ (by rw [hgs]; omega), show (nums .i64 (List.replicate l0.length 0)).toArray = madeCells #[.int .i64 0] l0.length from by
        apply Array.ext'
        rw [List.toList_toArray]
        apply List.ext_getElem
        · simp [nums, madeCells]
        · intro i h1 h2
          simp [nums, madeCells, Nat.mod_one]]
      exact blk_new w _)
  have HB0 := Aside0.mk (show Below w.heap.size w w24 from ((Below.refl _ w).alloc (Nat.le_refl _) _).trans (hb.mono (by rw [hgs]; omega)))
  have HV1 := Aside0.mk (Kd.V_below HV0.out HB0.out)
  have HSZ := Aside0.mk hsz24
  have HF0 := Aside0.mk HRR.out
  clear hbd hmk hb hbox hg hgs hsz24
  go_loopw [4, 5, 6] (fun lv fr at_ wr => ∃ (k f a : Nat) (H : Nat → Int) (Pv : List Int) (acc : List S113), f ≤ a ∧ a ≤ l0.length ∧ fr = .int .i64 f ∧ at_ = .int .i64 a ∧ Aside0 (l0.length - a < k) ∧ Aside0 (Ch wr (w.heap.size + 1) w.heap.size H Pv) ∧ Aside0 (Pv.length = l0.length) ∧ Aside0 (ChInv a H Pv) ∧
      Aside0 (Kd.N k113 113 wr w.heap.size (fun k_ => (P0_ k_ ∧ k_ < w.heap.size) ∨ w.heap.size + 2 ≤ k_) lv acc) ∧ Aside0 (Kd.V (Kd.int .u8) 5 wr w.heap.size (fun k_ => P0_ k_ ∧ k_ < w.heap.size) (.slice A0 l0.length c0) l0) ∧ Aside0 (Below w.heap.size w wr) ∧ Aside0 (w.heap.size + 2 ≤ wr.heap.size) ∧ Aside0 (acc.length ≤ a) ∧ Aside0 (seqGo l0 k H Pv f a acc = r))
    (fun _ _ at_ _ => l0.length - (intOf at_).toNat)
  case atStart => exact ⟨l0.length + 1, 0, 0, _, _, [], by omega, by omega, rfl, rfl, ⟨by omega⟩, HC0, ⟨by simp⟩, ⟨⟨fun _ _ => ⟨by simp, by simp⟩, fun j hj => by simp at hj; simp [List.getD_eq_getElem?_getD, hj]⟩⟩, ⟨Kd.N_nil _ _ _ _ _⟩, HV1, HB0, HSZ, ⟨by simp⟩, HF0⟩
  case round =>
    obtain ⟨k, f, a, H, Pv, acc, hfa, hal, rfl, rfl, HK, HC, HL, HI, HN, HV, HB, HZ, HA, HF⟩ := hrel
    clear HC0 HB0 HV1 HSZ HF0
    obtain ⟨k, rfl⟩ : ∃ m, k = m + 1 := ⟨k - 1, by have := HK.out; omega⟩
    have hF := HF.out
    unfold seqGo at hF
    clear HF
    by_cases h12 : a + 12 ≤ l0.length
    · have hd : decide ((a : Int) + 12 ≤ (l0.length : Int)) = true := decide_eq_true (by omega)
      rw [if_pos h12] at hF
      have hfind := find_calls (w.heap.size + 1) w.heap.size H Pv A0 c0 l0 a wr HC.out HL.out hmax h12 (Kd.V_reads' HV.out).2.2 (Kd.V_reads' HV.out).2.1 HI.out
      have hle := findF_le l0 H Pv a
      generalize findF l0 H Pv a = q at hF hfind hle
      obtain ⟨o, n⟩ := q
      dsimp only at hF hfind hle
      have HFind := Aside0.mk hfind
      clear hfind
      by_cases hn : n = 0
      · subst hn
        rw [if_pos rfl] at hF
        have HF := Aside0.mk hF
        clear hF hle
        have hn0 : (((0 : Nat) : Int) == 0) = true := rfl
        have hput := Aside0.mk (fun nd => put_calls (w.heap.size + 1) w.heap.size H Pv A0 c0 l0 a w.heap.size (wr.drewN nd) (HC.out.drewN nd) HL.out hmax (by omega) (Kd.V_reads' (Kd.V_drewN HV.out nd)).2.2 (Kd.V_reads' HV.out).2.1 (by omega) (by omega))
        go_wp2_with (first | (go_at_call 92; refine HFind.out.mono ?_; rintro e w' ⟨rfl, ⟨nd, rfl⟩⟩) | (go_at_call 93; refine (hput.out _).mono ?_; rintro e w5 ⟨rfl, hC5, hB5, hK5⟩))
        go_roundw
        case rel => exact ⟨k, f, a + 1, _, _, acc, by omega, by omega, rfl, by go_num, ⟨by have := HK.out; omega⟩, ⟨hC5⟩, ⟨by rw [putP_length]; exact HL.out⟩, ⟨HI.out.put l0 HL.out⟩, ⟨Kd.N_kept (Kd.N_drewN HN.out nd) hK5 (fun k_ hk hs => by rcases hs with rfl | rfl <;> omega)⟩, ⟨Kd.V_kept (Kd.V_drewN HV.out nd) hK5 (fun k_ hk hs => by rcases hs with rfl | rfl <;> omega)⟩, ⟨(pw_below_drewN HB.out nd).trans hB5⟩, ⟨Nat.le_trans HZ.out hB5.size⟩, ⟨by have := HA.out; omega⟩, HF⟩
        case measure => simp [intOf]; omega
      · rw [if_neg hn] at hF
        have hn0 : ((n : Int) == 0) = false := beq_eq_false_iff_ne.mpr (by omega)
        obtain ⟨wo, rfl⟩ : ∃ wo : World, wo = wr := ⟨_, rfl⟩
        obtain ⟨i028, hi028, _, hsz28, _⟩ := info_parts info5
        obtain ⟨A28, hcut28, hA28, hC28⟩ := print_mid_of (P := Try.prog) (Value.int .u8) 0 22 5 .i64 .i64 Try.underlying22 hi028 hsz28 A0 c0 l0 (f : Int) (a : Int) (by omega) (by omega) (by omega) (Kd.V_reads' HV.out).2.1
        rw [Int.toNat_natCast, Int.toNat_natCast] at hcut28 hA28 hC28
        obtain ⟨y, hy⟩ : ∃ y, y = (l0.take a).drop f := ⟨_, rfl⟩
        rw [← hy] at hcut28 hA28 hC28 hF
        have HY := Aside0.mk (seg_V HV.out hA28 hC28)
        obtain ⟨HE, hHE⟩ : ∃ HE, (puts l0 n H Pv a) = HE := ⟨_, rfl⟩
        rw [hHE] at hF
        have HPU := Aside0.mk hHE
        have HF := Aside0.mk hF
        have HLE := Aside0.mk hle
        clear hA28 hC28 hi028 hsz28 hy hF hHE
        go_wp2_with (first | (go_at_call 92; refine HFind.out.mono ?_; rintro e w' ⟨rfl, ⟨nd, rfl⟩⟩) | ((with_reducible refine gate_builtin (b := .append) (xs := #[.tmp 34, .tmp 42]) rfl ?_); at_builtin; refine Kd.N_append k113 (w0 := w) w.heap.size rfl (.tmp 34) (.tmp 42) 107 113 (.agg #[(.slice none 0 0), (.int .i64 0), (.int .i64 0)]) 40 rfl Try.underlying107 info113 rfl (by decide) (by omega) _ acc (⟨y, o, n⟩ : S113) [.slice A28 y.length (c0 - f), .int .i64 o, .int .i64 n] (fun k_ => (P0_ k_ ∧ k_ < w.heap.size) ∨ w.heap.size + 2 ≤ k_) (fun k_ => P0_ k_ ∧ k_ < w.heap.size) rfl rfl ?aP ?aQ ?aF ?aO ?aB ?aS ?aL ?_; (case aP => exact k113_mkF _ _ (⟨y, o, n⟩ : S113) (Kd.V_reads' HY.out).2.1 (Kd.V_F (Kd.V_drewN HY.out nd))); (case aQ => exact fun k_ hk => ⟨.inl hk, fun he => by have := Kd.N_base HN.out k_ he.symm; omega⟩); (case aF => exact fun k_ hk => .inr (Nat.le_trans HZ.out hk)); (case aO => exact Kd.N_drewN HN.out nd); (case aB => exact pw_below_drewN HB.out nd); (case aS => exact Nat.le_trans (Nat.le_add_right _ 2) HZ.out); (case aL => have := HA.out; omega); intro v1 w1 ho hb hg hat))
        have HC1 := Aside0.mk ((HC.out.drewN nd).grown hg (Kd.N_away HN.out (fun k_ hk => by omega)) (Kd.N_away HN.out (fun k_ hk => by omega)))
        have HV1 := Aside0.mk (Kd.V_step (Kd.V_drewN HV.out nd) (fun k_ hk hlt => hg.block k_ hlt (fun he => by have := Kd.N_base HN.out k_ he.symm; omega)))
        have HN1 := Aside0.mk ho
        have HB1 := Aside0.mk hb
        have HZ1 := Aside0.mk (Nat.le_trans HZ.out hg.size)
        clear ho hb hg hat
        go_loopw [6, 45] (fun at_ c wr2 => ∃ (j : Nat) (H2 : Nat → Int) (Pv2 : List Int), j ≤ n ∧ at_ = .int .i64 ((a + j : Nat) : Int) ∧ c = .int .i64 j ∧ Aside0 (Ch wr2 (w.heap.size + 1) w.heap.size H2 Pv2) ∧ Aside0 (Pv2.length = l0.length) ∧ Aside0 (ChInv (a + j) H2 Pv2) ∧ Aside0 (puts l0 (n - j) H2 Pv2 (a + j) = HE) ∧
            Aside0 (Kd.N k113 113 wr2 w.heap.size (fun k_ => (P0_ k_ ∧ k_ < w.heap.size) ∨ w.heap.size + 2 ≤ k_) v1 (acc ++ [⟨y, o, n⟩])) ∧ Aside0 (Kd.V (Kd.int .u8) 5 wr2 w.heap.size (fun k_ => P0_ k_ ∧ k_ < w.heap.size) (.slice A0 l0.length c0) l0) ∧ Aside0 (Below w.heap.size w wr2) ∧ Aside0 (w.heap.size + 2 ≤ wr2.heap.size))
          (fun _ c _ => n - (intOf c).toNat)
        case atStart => exact ⟨0, H, Pv, by omega, rfl, rfl, HC1, HL, HI, HPU, HN1, HV1, HB1, HZ1⟩
        case round =>
          obtain ⟨j, H2, Pv2, hj, rfl, rfl, hC, hL, hI, hP, hN, hV, hB, hZ⟩ := hrel
          clear HC1 HV1 HN1 HB1 HZ1
          rcases Nat.lt_or_ge j n with hlt | hge
          · have hjd : decide ((j : Int) < (n : Int)) = true := decide_eq_true (by omega)
            have hput := Aside0.mk (put_calls (w.heap.size + 1) w.heap.size H2 Pv2 A0 c0 l0 (a + j) w.heap.size _ hC.out hL.out hmax (by have := HLE.out; omega) (Kd.V_reads' hV.out).2.2 (Kd.V_reads' HV.out).2.1 (by omega) (by omega))
            have hj1 : 0 ≤ ((a + j : Nat) : Int) := by omega
            have hP2 := hP.out
            rw [show n - j = (n - (j + 1)) + 1 by omega, puts] at hP2
            have HP2 := Aside0.mk hP2
            clear hP2 hP
            go_wp2_with (go_at_call 93; refine hput.out.mono ?_; rintro e w5 ⟨rfl, hC5, hB5, hK5⟩)
            go_roundw
            case rel => exact ⟨j + 1, _, _, by omega, by go_num, by go_num, ⟨hC5⟩, ⟨by rw [putP_length]; exact hL.out⟩, ⟨hI.out.put l0 hL.out⟩, HP2, ⟨Kd.N_kept hN.out hK5 (fun k_ hk hs => by rcases hs with rfl | rfl <;> omega)⟩, ⟨Kd.V_kept hV.out hK5 (fun k_ hk hs => by rcases hs with rfl | rfl <;> omega)⟩, ⟨hB.out.trans hB5⟩, ⟨Nat.le_trans hZ.out hB5.size⟩⟩
            case measure => simp [intOf]; omega
          · have hjd : decide ((j : Int) < (n : Int)) = false := decide_eq_false (by omega)
            obtain rfl : j = n := by omega
            obtain rfl : (H2, Pv2) = HE := by have := hP.out; rwa [Nat.sub_self, puts] at this
            go_wp2
            go_roundw
            case rel => exact ⟨k, a + j, a + j, _, _, _, by omega, by have := HLE.out; omega, rfl, rfl, ⟨by have := HK.out; omega⟩, hC, hL, hI, hN, hV, hB, hZ, ⟨by have := HA.out; rw [List.length_append]; simp only [List.length_cons, List.length_nil]; omega⟩, HF⟩
            case measure => simp [intOf]; have := HLE.out; omega
    · have hd : decide ((a : Int) + 12 ≤ (l0.length : Int)) = false := decide_eq_false (by omega)
      rw [if_neg h12] at hF
      obtain ⟨i028, hi028, _, hsz28, _⟩ := info_parts info5
      obtain ⟨A28, hcut28, hA28, hC28⟩ := print_drop_of (P := Try.prog) (Value.int .u8) 0 22 5 .i64 Try.underlying22 hi028 hsz28 A0 c0 l0 (f : Int) (by omega) (by omega) (Kd.V_reads' HV.out).2.1
      rw [Int.toNat_natCast] at hcut28 hA28 hC28
      obtain ⟨y, hy⟩ : ∃ y, y = l0.drop f := ⟨_, rfl⟩
      rw [← hy] at hcut28 hA28 hC28 hF
      have HY := Aside0.mk (seg_V HV.out hA28 hC28)
      have HR := Aside0.mk hF
      clear hA28 hC28 hi028 hsz28 hy hF
      go_wp2_with (first | ((with_reducible refine gate_builtin (b := .append) (xs := #[.tmp 55, .tmp 60]) rfl ?_); at_builtin; refine Kd.N_append k113 (w0 := w) w.heap.size rfl (.tmp 55) (.tmp 60) 107 113 (.agg #[(.slice none 0 0), (.int .i64 0), (.int .i64 0)]) 40 rfl Try.underlying107 info113 rfl (by decide) (by omega) _ acc (⟨y, 0, 0⟩ : S113) [.slice A28 y.length (c0 - f), .int .i64 0, .int .i64 0] (fun k_ => (P0_ k_ ∧ k_ < w.heap.size) ∨ w.heap.size + 2 ≤ k_) (fun k_ => P0_ k_ ∧ k_ < w.heap.size) rfl rfl ?aP ?aQ ?aF ?aO ?aB ?aS ?aL ?_; (case aP => exact k113_mkF _ _ (⟨y, 0, 0⟩ : S113) (Kd.V_reads' HY.out).2.1 (Kd.V_F HY.out)); (case aQ => exact fun k_ hk => ⟨.inl hk, fun he => by have := Kd.N_base HN.out k_ he.symm; omega⟩); (case aF => exact fun k_ hk => .inr (Nat.le_trans HZ.out hk)); (case aO => exact HN.out); (case aB => exact HB.out); (case aS => exact Nat.le_trans (Nat.le_add_right _ 2) HZ.out); (case aL => have := HA.out; omega); intro v1 w1 ho hb hg hat))
      go_ret
      exact ⟨_, rfl, by rw [← HR.out]; exact Kd.N_mono ho (fun k_ hk => hk.elim (fun h => .inl h.1) (fun h => .inr (by omega))), hb⟩
end Go.Proofs.Ytdlfflgcmgkmeaa.P

-- Written by a program of this session's own (wip/tools), over the translation. Not trusted: Lean checks it.
namespace Go.Proofs.Ytdlfflgcmgkmeaa.P
open Go.RowKit Go.Proofs.YtdlfflgcmgkmeaaW.PrintWords Go.Proofs.YtdlfflgcmgkmeaaW.PrintLast Go.Proofs.YtdlfflgcmgkmeaaW.PrintMore
attribute [local go_sem] max2_int min2_int max_two min_two max_three min_three max_four min_four   -- for this text's walks alone
set_option linter.unusedVariables false
set_option linter.unusedSimpArgs false

/-! ### match_Encode: function 24 -/
def match_Encode.f (k : Nat) (l0 : List Int) : Option (List Int × Int) := if (l0.length : Int) > 1048576 then (some (([] : List Int), 2)) else ((match_sequences.f l0).bind fun t25001 => ((lz_Join.f k t25001).bind fun bt25004 => ((match_Bound.f k (l0.length : Int)).bind fun t25008 => (if (bt25004.1.length : Int) > t25008 then ((lz_Join.f k (([(⟨l0, 0, 0⟩ : S113)] : List (S113)))).bind fun bt25012 => (some (bt25012.1, 0))) else (some (bt25004.1, 0))))))
theorem match_Encode.mono : ∀ a0 k, LeO (match_Encode.f k a0) (match_Encode.f (k + 1) a0) := by
  intro a0 k
  unfold match_Encode.f
  repeat' first
      | (with_reducible exact lz_Join.mono _ _)
      | (with_reducible exact match_Bound.mono _ _)
      | (with_reducible exact LeO.refl _)
      | (with_reducible exact LeO.none _)
      | (with_reducible refine LeO.ite ?_ ?_)
      | (with_reducible refine LeO.bind ?_ (fun _ => ?_))
      | exact lz_Join.mono _ _
      | exact match_Bound.mono _ _
      | exact LeO.none _
      | refine LeO.ite ?_ ?_
      | refine LeO.bind ?_ (fun _ => ?_)
set_option maxHeartbeats 8000000 in
set_option maxRecDepth 100000 in
theorem match_Encode.calls (k : Nat) (P0_ : Nat → Prop) (A0 : Option Addr) (c0 : Nat) (l0 : List Int) (r1 : List Int) (r2 : Int) (w : World) (hs0 : Kd.V (Kd.int .u8) 5 w w.heap.size (fun k_ => P0_ k_) (.slice A0 l0.length c0) l0) (h : match_Encode.f k l0 = some (r1, r2)) :
    Calls Try.prog 24 #[.slice A0 l0.length c0] w fun e w' => ∃ v0_ : Value, e = .returned (.tuple #[v0_, .int .i64 r2]) ∧ Kd.R (Kd.int .u8) 5 w' w.heap.size (fun k_ => (w.heap.size ≤ k_)) v0_ r1 ∧ Below w.heap.size w w' := by
  have hu113 := Try.underlying113
  have HO0 := Aside0.mk (show Kd.V (Kd.int .u8) 5 w w.heap.size (fun k_ => (P0_ k_ ∨ w.heap.size ≤ k_)) (.slice A0 l0.length c0) l0 from Kd.V_mono hs0 (fun k_ hk => .inl hk))
  have HB := Aside0.mk (Below.refl w.heap.size w)
  have H : (if (l0.length : Int) > 1048576 then (some (([] : List Int), 2)) else ((match_sequences.f l0).bind fun t25001 => ((lz_Join.f k t25001).bind fun bt25004 => ((match_Bound.f k (l0.length : Int)).bind fun t25008 => (if (bt25004.1.length : Int) > t25008 then ((lz_Join.f k (([(⟨l0, 0, 0⟩ : S113)] : List (S113)))).bind fun bt25012 => (some (bt25012.1, 0))) else (some (bt25004.1, 0))))))) = some (r1, r2) := h
  clear h
  by_cases c2 : (l0.length : Int) > 1048576
  · rw [if_pos c2] at H
    have c2b0 : decide (1048576 < (l0.length : Int)) = true := decide_eq_true c2
    have c2b1 : decide (1048576 < l0.length) = true := decide_eq_true (by omega)
    clear c2
    simp only [Option.some.injEq, Prod.mk.injEq] at H
    obtain ⟨rfl, rfl⟩ := H
    go_enter Try.func24, Try.ntmps24
    go_wp2
    go_ret2
    exact ⟨_, by first | rfl | (simp [errW_none, errW_some] <;> rfl) | (simp [*, errW_none, errW_some] <;> rfl), by first | exact Kd.R_nil _ _ _ _ _ | exact Kd.N_nil _ _ _ _ _ | exact Kd.V_nil _ _ _ _ _ | exact Kd.Q_nil _ _ _ _ _ | exact Kd.S_nil _ _ _ _ _, by repeat (first | (with_reducible first | exact HB.out | apply below_alloc | apply pw_below_drewN | apply below_drew1) | exact HB.out)⟩
  · rw [if_neg c2] at H
    have c2b0 : decide (1048576 < (l0.length : Int)) = false := decide_eq_false c2
    have c2b1 : decide (1048576 < l0.length) = false := decide_eq_false (by omega)
    clear c2
    replace H := Option.bind_eq_some_iff.mp H
    obtain ⟨t25001, A30, H⟩ := H
    replace H : ((lz_Join.f k t25001).bind fun bt25004 => ((match_Bound.f k (l0.length : Int)).bind fun t25008 => (if (bt25004.1.length : Int) > t25008 then ((lz_Join.f k (([(⟨l0, 0, 0⟩ : S113)] : List (S113)))).bind fun bt25012 => (some (bt25012.1, 0))) else (some (bt25004.1, 0))))) = some (r1, r2) := H
    have A3 := Aside0.mk A30
    clear A30
    replace H := Option.bind_eq_some_iff.mp H
    obtain ⟨⟨t25004, t25005⟩, A40, H⟩ := H
    replace H : ((match_Bound.f k (l0.length : Int)).bind fun t25008 => (if (t25004.length : Int) > t25008 then ((lz_Join.f k (([(⟨l0, 0, 0⟩ : S113)] : List (S113)))).bind fun bt25012 => (some (bt25012.1, 0))) else (some (t25004, 0)))) = some (r1, r2) := H
    have A4 := Aside0.mk A40
    clear A40
    replace H := Option.bind_eq_some_iff.mp H
    obtain ⟨t25008, A50, H⟩ := H
    replace H : (if (t25004.length : Int) > t25008 then ((lz_Join.f k (([(⟨l0, 0, 0⟩ : S113)] : List (S113)))).bind fun bt25012 => (some (bt25012.1, 0))) else (some (t25004, 0))) = some (r1, r2) := H
    have A5 := Aside0.mk A50
    clear A50
    by_cases c6 : (t25004.length : Int) > t25008
    · rw [if_pos c6] at H
      have c6b0 : decide (t25008 < (t25004.length : Int)) = true := decide_eq_true c6
      clear c6
      obtain ⟨y25009, hy25009⟩ : ∃ y_ : List (S113), y_ = (([(⟨l0, 0, 0⟩ : S113)] : List (S113))) := ⟨_, rfl⟩
      replace H : ((lz_Join.f k y25009).bind fun bt25012 => (some (bt25012.1, 0))) = some (r1, r2) := by first | (rw [hy25009]; with_reducible exact H) | (have H2_ := (Option.bind_some _ _).symm.trans H; rw [hy25009]; with_reducible exact H2_) | (have H2_ := (Option.bind_some _ _).symm.trans H; with_reducible exact H2_) | with_reducible exact H | (rw [hy25009]; exact H) | exact H
      have Ny25009 := Aside0.mk hy25009
      clear hy25009
      replace H := Option.bind_eq_some_iff.mp H
      obtain ⟨⟨t25012, t25013⟩, A70, H⟩ := H
      replace H : (some (t25012, 0)) = some (r1, r2) := H
      have A7 := Aside0.mk A70
      clear A70
      simp only [Option.some.injEq, Prod.mk.injEq] at H
      obtain ⟨rfl, rfl⟩ := H
      go_enter Try.func24, Try.ntmps24
      go_wp2_with (first | ((with_reducible refine gate_callee (f := 66) rfl ?_); refine goesL_ (some 11) rfl rfl Try.func66 (by kernel_rfl) rfl #[.slice A0 l0.length c0] rfl (by (try simp only [List.map_toArray, List.map_cons, List.map_nil]); first | done | rfl | (simp only [List.length_drop, List.length_take]; rfl)) ?_; (with_reducible refine (match_sequences.calls (fun k_ => (P0_ k_ ∨ w.heap.size ≤ k_)) _ _ l0 t25001 _ ?side1 A3.out).mono ?_); (case side1 => exact HO0.out); rintro e w8 ⟨v25002, rfl, ho0, hb⟩; refine ⟨_, rfl, ?_⟩; have n0_ := Aside0.mk (Kd.V_elder' (by (with_reducible repeat (first | apply Kd.V_alloc | apply Kd.V_drewN | apply Kd.V_drew)); exact HO0.out) (Kd.N_base ho0) hb); have n1_ := Aside0.mk (Kd.N_lower (Kd.N_mono (ok' := fun k_ => (P0_ k_ ∨ w.heap.size ≤ k_)) ho0 (fun k_ hk_ => Or.elim hk_ (fun hs_ => hs_) (fun hn_ => (.inr (Nat.le_trans (below_size (by repeat (first | (with_reducible first | exact HB.out | apply below_alloc | apply pw_below_drewN | apply below_drew1) | exact HB.out))) hn_))))) (below_size (by repeat (first | (with_reducible first | exact HB.out | apply below_alloc | apply pw_below_drewN | apply below_drew1) | exact HB.out)))); have n2_ := Aside0.mk (below_step (by repeat (first | (with_reducible first | exact HB.out | apply below_alloc | apply pw_below_drewN | apply below_drew1) | exact HB.out)) hb); clear HO0; clear HB; have HO0 := n0_; have HO25003 := n1_; have HB := n2_; clear n0_ n1_ n2_; (try clear hb); (try clear hb2); (try clear hk); (try clear hi); (try clear ho0); obtain ⟨Ao9, co9, eo9⟩ := Kd.N_slice HO25003.out; subst eo9) | ((with_reducible refine gate_callee (f := 65) rfl ?_); refine goesL_ (some 12) rfl rfl Try.func65 (by kernel_rfl) rfl #[.slice Ao9 t25001.length co9] rfl (by (try simp only [List.map_toArray, List.map_cons, List.map_nil]); first | done | rfl | (simp only [List.length_drop, List.length_take]; rfl)) ?_; (with_reducible refine (lz_Join.calls k _ _ t25001 t25004 t25005 _ ?side1 ?side2 A4.out).mono ?_); (case side1 => repeat (first | exact (Kd.N_reads' HO25003.out).2.2 | (with_reducible refine Kd.C_alloc ?_ _) | (with_reducible refine Kd.C_drewN ?_ _) | (with_reducible refine Kd.C_drew ?_))); (case side2 => exact (Kd.N_reads' HO25003.out).2.1); rintro e w10 ⟨v25006, rfl, ho0, hb⟩; refine ⟨_, rfl, ?_⟩; have n0_ := Aside0.mk (Kd.V_elder' (by (with_reducible repeat (first | apply Kd.V_alloc | apply Kd.V_drewN | apply Kd.V_drew)); exact HO0.out) (Kd.R_base ho0) hb); have n1_ := Aside0.mk (Kd.N_elder' (by (with_reducible repeat (first | apply Kd.N_alloc | apply Kd.N_drewN | apply Kd.N_drew)); exact HO25003.out) (Kd.R_base ho0) hb); have n2_ := Aside0.mk (Kd.R_lower (Kd.R_newM (M := fun k_ => (w.heap.size ≤ k_)) ho0 (below_size (by repeat (first | (with_reducible first | exact HB.out | apply below_alloc | apply pw_below_drewN | apply below_drew1) | exact HB.out))) (fun k_ h_ => h_)) (below_size (by repeat (first | (with_reducible first | exact HB.out | apply below_alloc | apply pw_below_drewN | apply below_drew1) | exact HB.out)))); have n3_ := Aside0.mk (below_step (by repeat (first | (with_reducible first | exact HB.out | apply below_alloc | apply pw_below_drewN | apply below_drew1) | exact HB.out)) hb); clear HO0; clear HO25003; clear HB; have HO0 := n0_; have HO25003 := n1_; have HO25007 := n2_; have HB := n3_; clear n0_ n1_ n2_ n3_; (try clear hb); (try clear hb2); (try clear hk); (try clear hi); (try clear ho0); obtain ⟨Ao11, co11, eo11⟩ := Kd.R_slice HO25007.out; subst eo11) | ((with_reducible refine gate_callee (f := 61) rfl ?_); refine goesL_ (some 19) rfl rfl Try.func61 (by kernel_rfl) rfl #[.int .i64 (l0.length : Int)] rfl (by (try simp only [List.map_toArray, List.map_cons, List.map_nil]); first | done | rfl | (simp only [List.length_drop, List.length_take]; rfl)) ?_; (with_reducible refine (match_Bound.calls k (l0.length : Int) t25008 _ A5.out).mono ?_); rintro e w' ⟨rfl, ⟨nd, rfl⟩⟩; refine ⟨_, rfl, ?_⟩) | ((with_reducible refine gate_dst (N := 24) rfl ?_); refine Kd.N_lit k113 _ 113 ?hg (N' := 24) ?hd (xs := ([(⟨l0, 0, 0⟩ : S113)] : List (S113))) (inner := [.slice A0 l0.length c0, .int .i64 0, .int .i64 0]) (ok := (fun k_ => (P0_ k_ ∨ w.heap.size ≤ k_) ∧ some k_ ≠ (.slice Ao9 t25001.length co9 : Value).ownBlock ∧ some k_ ≠ (.slice Ao11 t25004.length co11 : Value).ownBlock)) (okp := (fun k_ => (P0_ k_ ∨ w.heap.size ≤ k_) ∧ some k_ ≠ (.slice Ao9 t25001.length co9 : Value).ownBlock ∧ some k_ ≠ (.slice Ao11 t25004.length co11 : Value).ownBlock)) ?hr ?hp (fun _ hk => hk) ((show ∀ k_, w10.heap.size ≤ k_ → (fun k_ => (P0_ k_ ∨ w.heap.size ≤ k_) ∧ some k_ ≠ (.slice Ao9 t25001.length co9 : Value).ownBlock ∧ some k_ ≠ (.slice Ao11 t25004.length co11 : Value).ownBlock) k_ from fun k_ hk => ⟨(.inr (Nat.le_trans (below_size (by repeat (first | (with_reducible first | exact HB.out | apply below_alloc | apply pw_below_drewN | apply below_drew1) | exact HB.out))) hk)), Kd.fresh' (Kd.N_lt (by (with_reducible repeat (first | apply Kd.N_alloc | apply Kd.N_drewN | apply Kd.N_drew)); exact HO25003.out)) k_ hk, Kd.fresh' (Kd.R_lt (by (with_reducible repeat (first | apply Kd.R_alloc | apply Kd.R_drewN | apply Kd.R_drew)); exact HO25007.out)) k_ hk⟩) _ (Nat.le_refl _)) (Below.refl _ _) (Nat.le_refl _) (by simp) ?_; (case hd => rfl); (case hg => rfl); (case hr => first | (go_simp; done) | (go_simp; rfl)); (case hp => exact (Reps.c3 (show Kd.FK k113 _ _ (⟨l0, 0, 0⟩ : S113) [.slice A0 l0.length c0, .int .i64 0, .int .i64 0] from (k113_mkF _ _ (⟨l0, 0, 0⟩ : S113) (Kd.V_reads' (Kd.V_mono (ok' := (fun k_ => (P0_ k_ ∨ w.heap.size ≤ k_) ∧ some k_ ≠ (.slice Ao9 t25001.length co9 : Value).ownBlock ∧ some k_ ≠ (.slice Ao11 t25004.length co11 : Value).ownBlock)) (Kd.V_drewN HO0.out nd) (fun k_ hk => ⟨hk.1.1, ⟨hk.1.2, hk.2⟩⟩))).2.1 (Kd.V_F (Kd.V_mono (ok' := (fun k_ => (P0_ k_ ∨ w.heap.size ≤ k_) ∧ some k_ ≠ (.slice Ao9 t25001.length co9 : Value).ownBlock ∧ some k_ ≠ (.slice Ao11 t25004.length co11 : Value).ownBlock)) (Kd.V_drewN HO0.out nd) (fun k_ hk => ⟨hk.1.1, ⟨hk.1.2, hk.2⟩⟩))))) (Reps.none _ _))); intro v25010 w12 ho13 hb hg_ hnew_; clear hg_ hnew_; (first | rw [← Ny25009.out] at ho13 | (simp only [Int.reduceToNat] at ho13; rw [← Ny25009.out] at ho13)); have n0_ := Aside0.mk (Kd.V_elder' (by (with_reducible repeat (first | apply Kd.V_alloc | apply Kd.V_drewN | apply Kd.V_drew)); exact HO0.out) (Kd.N_base ho13) hb); have n1_ := Aside0.mk (Kd.N_elder' (by (with_reducible repeat (first | apply Kd.N_alloc | apply Kd.N_drewN | apply Kd.N_drew)); exact HO25003.out) (Kd.N_base ho13) hb); have n2_ := Aside0.mk (Kd.R_below (by (with_reducible repeat (first | apply Kd.R_alloc | apply Kd.R_drewN | apply Kd.R_drew)); exact HO25007.out) hb); have n3_ := Aside0.mk (Kd.N_lower ho13 (below_size (by repeat (first | (with_reducible first | exact HB.out | apply below_alloc | apply pw_below_drewN | apply below_drew1) | exact HB.out)))); have n4_ := Aside0.mk (below_step (by repeat (first | (with_reducible first | exact HB.out | apply below_alloc | apply pw_below_drewN | apply below_drew1) | exact HB.out)) hb); clear HO0; clear HO25003; clear HO25007; clear HB; have HO0 := n0_; have HO25003 := n1_; have HO25007 := n2_; have HO25011 := n3_; have HB := n4_; clear n0_ n1_ n2_ n3_ n4_; clear hb ho13; obtain ⟨Ao14, co14, eo14⟩ := Kd.N_slice HO25011.out; subst eo14) | ((with_reducible refine gate_callee (f := 65) rfl ?_); refine goesL_ (some 25) rfl rfl Try.func65 (by kernel_rfl) rfl #[.slice Ao14 y25009.length co14] rfl (by (try simp only [List.map_toArray, List.map_cons, List.map_nil]); first | done | rfl | (simp only [List.length_drop, List.length_take]; rfl)) ?_; (with_reducible refine (lz_Join.calls k _ _ y25009 t25012 t25013 _ ?side1 ?side2 A7.out).mono ?_); (case side1 => repeat (first | exact (Kd.N_reads' HO25011.out).2.2 | (with_reducible refine Kd.C_alloc ?_ _) | (with_reducible refine Kd.C_drewN ?_ _) | (with_reducible refine Kd.C_drew ?_))); (case side2 => exact (Kd.N_reads' HO25011.out).2.1); rintro e w15 ⟨v25014, rfl, ho0, hb⟩; refine ⟨_, rfl, ?_⟩; have n0_ := Aside0.mk (Kd.V_elder' (by (with_reducible repeat (first | apply Kd.V_alloc | apply Kd.V_drewN | apply Kd.V_drew)); exact HO0.out) (Kd.R_base ho0) hb); have n1_ := Aside0.mk (Kd.N_elder' (by (with_reducible repeat (first | apply Kd.N_alloc | apply Kd.N_drewN | apply Kd.N_drew)); exact HO25003.out) (Kd.R_base ho0) hb); have n2_ := Aside0.mk (Kd.R_elder' (by (with_reducible repeat (first | apply Kd.R_alloc | apply Kd.R_drewN | apply Kd.R_drew)); exact HO25007.out) (Kd.R_base ho0) hb); have n3_ := Aside0.mk (Kd.N_elder' (by (with_reducible repeat (first | apply Kd.N_alloc | apply Kd.N_drewN | apply Kd.N_drew)); exact HO25011.out) (Kd.R_base ho0) hb); have n4_ := Aside0.mk (Kd.R_lower (Kd.R_new' (Kd.R_newM (M := fun k_ => (w.heap.size ≤ k_)) ho0 (below_size (by repeat (first | (with_reducible first | exact HB.out | apply below_alloc | apply pw_below_drewN | apply below_drew1) | exact HB.out))) (fun k_ h_ => h_)) (Kd.R_lt (by (with_reducible repeat (first | apply Kd.R_alloc | apply Kd.R_drewN | apply Kd.R_drew)); exact HO25007.out))) (below_size (by repeat (first | (with_reducible first | exact HB.out | apply below_alloc | apply pw_below_drewN | apply below_drew1) | exact HB.out)))); have n5_ := Aside0.mk (below_step (by repeat (first | (with_reducible first | exact HB.out | apply below_alloc | apply pw_below_drewN | apply below_drew1) | exact HB.out)) hb); clear HO0; clear HO25003; clear HO25007; clear HO25011; clear HB; have HO0 := n0_; have HO25003 := n1_; have HO25007 := n2_; have HO25011 := n3_; have HO25015 := n4_; have HB := n5_; clear n0_ n1_ n2_ n3_ n4_ n5_; (try clear hb); (try clear hb2); (try clear hk); (try clear hi); (try clear ho0)))
      go_ret2
      exact ⟨_, by first | rfl | (simp [errW_none, errW_some] <;> rfl) | (simp [*, errW_none, errW_some] <;> rfl), by (with_reducible repeat (first | apply Kd.R_alloc | apply Kd.R_drewN | apply Kd.R_drew)); exact Kd.R_mono HO25015.out (fun _ hk => hk.1.1), by repeat (first | (with_reducible first | exact HB.out | apply below_alloc | apply pw_below_drewN | apply below_drew1) | exact HB.out)⟩
    · rw [if_neg c6] at H
      have c6b0 : decide (t25008 < (t25004.length : Int)) = false := decide_eq_false c6
      clear c6
      simp only [Option.some.injEq, Prod.mk.injEq] at H
      obtain ⟨rfl, rfl⟩ := H
      go_enter Try.func24, Try.ntmps24
      go_wp2_with (first | ((with_reducible refine gate_callee (f := 66) rfl ?_); refine goesL_ (some 11) rfl rfl Try.func66 (by kernel_rfl) rfl #[.slice A0 l0.length c0] rfl (by (try simp only [List.map_toArray, List.map_cons, List.map_nil]); first | done | rfl | (simp only [List.length_drop, List.length_take]; rfl)) ?_; (with_reducible refine (match_sequences.calls (fun k_ => (P0_ k_ ∨ w.heap.size ≤ k_)) _ _ l0 t25001 _ ?side1 A3.out).mono ?_); (case side1 => exact HO0.out); rintro e w16 ⟨v25002, rfl, ho0, hb⟩; refine ⟨_, rfl, ?_⟩; have n0_ := Aside0.mk (Kd.V_elder' (by (with_reducible repeat (first | apply Kd.V_alloc | apply Kd.V_drewN | apply Kd.V_drew)); exact HO0.out) (Kd.N_base ho0) hb); have n1_ := Aside0.mk (Kd.N_lower (Kd.N_mono (ok' := fun k_ => (P0_ k_ ∨ w.heap.size ≤ k_)) ho0 (fun k_ hk_ => Or.elim hk_ (fun hs_ => hs_) (fun hn_ => (.inr (Nat.le_trans (below_size (by repeat (first | (with_reducible first | exact HB.out | apply below_alloc | apply pw_below_drewN | apply below_drew1) | exact HB.out))) hn_))))) (below_size (by repeat (first | (with_reducible first | exact HB.out | apply below_alloc | apply pw_below_drewN | apply below_drew1) | exact HB.out)))); have n2_ := Aside0.mk (below_step (by repeat (first | (with_reducible first | exact HB.out | apply below_alloc | apply pw_below_drewN | apply below_drew1) | exact HB.out)) hb); clear HO0; clear HB; have HO0 := n0_; have HO25003 := n1_; have HB := n2_; clear n0_ n1_ n2_; (try clear hb); (try clear hb2); (try clear hk); (try clear hi); (try clear ho0); obtain ⟨Ao17, co17, eo17⟩ := Kd.N_slice HO25003.out; subst eo17) | ((with_reducible refine gate_callee (f := 65) rfl ?_); refine goesL_ (some 12) rfl rfl Try.func65 (by kernel_rfl) rfl #[.slice Ao17 t25001.length co17] rfl (by (try simp only [List.map_toArray, List.map_cons, List.map_nil]); first | done | rfl | (simp only [List.length_drop, List.length_take]; rfl)) ?_; (with_reducible refine (lz_Join.calls k _ _ t25001 t25004 t25005 _ ?side1 ?side2 A4.out).mono ?_); (case side1 => repeat (first | exact (Kd.N_reads' HO25003.out).2.2 | (with_reducible refine Kd.C_alloc ?_ _) | (with_reducible refine Kd.C_drewN ?_ _) | (with_reducible refine Kd.C_drew ?_))); (case side2 => exact (Kd.N_reads' HO25003.out).2.1); rintro e w18 ⟨v25006, rfl, ho0, hb⟩; refine ⟨_, rfl, ?_⟩; have n0_ := Aside0.mk (Kd.V_elder' (by (with_reducible repeat (first | apply Kd.V_alloc | apply Kd.V_drewN | apply Kd.V_drew)); exact HO0.out) (Kd.R_base ho0) hb); have n1_ := Aside0.mk (Kd.N_elder' (by (with_reducible repeat (first | apply Kd.N_alloc | apply Kd.N_drewN | apply Kd.N_drew)); exact HO25003.out) (Kd.R_base ho0) hb); have n2_ := Aside0.mk (Kd.R_lower (Kd.R_newM (M := fun k_ => (w.heap.size ≤ k_)) ho0 (below_size (by repeat (first | (with_reducible first | exact HB.out | apply below_alloc | apply pw_below_drewN | apply below_drew1) | exact HB.out))) (fun k_ h_ => h_)) (below_size (by repeat (first | (with_reducible first | exact HB.out | apply below_alloc | apply pw_below_drewN | apply below_drew1) | exact HB.out)))); have n3_ := Aside0.mk (below_step (by repeat (first | (with_reducible first | exact HB.out | apply below_alloc | apply pw_below_drewN | apply below_drew1) | exact HB.out)) hb); clear HO0; clear HO25003; clear HB; have HO0 := n0_; have HO25003 := n1_; have HO25007 := n2_; have HB := n3_; clear n0_ n1_ n2_ n3_; (try clear hb); (try clear hb2); (try clear hk); (try clear hi); (try clear ho0); obtain ⟨Ao19, co19, eo19⟩ := Kd.R_slice HO25007.out; subst eo19) | ((with_reducible refine gate_callee (f := 61) rfl ?_); refine goesL_ (some 19) rfl rfl Try.func61 (by kernel_rfl) rfl #[.int .i64 (l0.length : Int)] rfl (by (try simp only [List.map_toArray, List.map_cons, List.map_nil]); first | done | rfl | (simp only [List.length_drop, List.length_take]; rfl)) ?_; (with_reducible refine (match_Bound.calls k (l0.length : Int) t25008 _ A5.out).mono ?_); rintro e w' ⟨rfl, ⟨nd, rfl⟩⟩; refine ⟨_, rfl, ?_⟩))
      go_ret2
      exact ⟨_, by first | rfl | (simp [errW_none, errW_some] <;> rfl) | (simp [*, errW_none, errW_some] <;> rfl), by (with_reducible repeat (first | apply Kd.R_alloc | apply Kd.R_drewN | apply Kd.R_drew)); exact Kd.R_mono HO25007.out (fun _ hk => hk.1), by repeat (first | (with_reducible first | exact HB.out | apply below_alloc | apply pw_below_drewN | apply below_drew1) | exact HB.out)⟩

end Go.Proofs.Ytdlfflgcmgkmeaa.P

/- Small functions: bytes.Clone, gauge.Worth, the reference's Worth, math.Float64frombits. -/
namespace Go.Proofs.Ytdlfflgcmgkmeaa.P
open Go.RowKit Go.Proofs.YtdlfflgcmgkmeaaW.PrintWords Go.Proofs.YtdlfflgcmgkmeaaW.PrintLast Go.Proofs.YtdlfflgcmgkmeaaW.PrintMore
set_option linter.unusedVariables false

/-- math.Float64frombits, wherever it is called. -/
theorem run_frombits (n : Int) (w : World) : (callFunc 23 #[.int .u64 n]).run Try.prog w = .ok (.value (.float .f64 (Int.toNat n))) w := by
  rw [run_callFunc_extern (e := Extern.MathFloatBits.float64frombits) Try.func23 (by kernel_rfl) (by kernel_rfl) (by kernel_rfl) (by kernel_rfl)]
  rfl
attribute [go_sem] run_frombits

/-- Is it worth packing? -/
def worthF (a0 a1 : Int) (a2 : Nat) : Bool :=
  match FloatKind.f64.format.mul (floatOfInt .f64 a0) a2 with
  | some m => FloatKind.f64.format.order (floatOfInt .f64 a1) m == some .lt
  | none => false

theorem order_nan (x t : Nat) (a b : Nat) : FloatKind.f64.format.order x ((Question.nanBits .f64 a b).cut t) = none := by
  have hr : FloatKind.f64.format.read ((Question.nanBits .f64 a b).cut t) = .nan (((Question.nanBits .f64 a b).cut t) / 9223372036854775808 % 2 == 1) (((Question.nanBits .f64 a b).cut t) % 9223372036854775808 - 9218868437227405312) := by
    have hc : (Question.nanBits .f64 a b).cut t = (t % 2) * 9223372036854775808 + 9218868437227405312 + 1 + (t / 2) % 4503599627370495 := rfl
    generalize (Question.nanBits .f64 a b).cut t = c at hc
    have ha : t % 2 < 2 := Nat.mod_lt _ (by decide)
    have hb : t / 2 % 4503599627370495 < 4503599627370495 := Nat.mod_lt _ (by decide)
    generalize t / 2 % 4503599627370495 = y at hc hb
    generalize t % 2 = x2 at hc ha
    have hm : c % 9223372036854775808 = 9218868437227405312 + 1 + y := by
      rw [hc, show x2 * 9223372036854775808 + 9218868437227405312 + 1 + y = (9218868437227405312 + 1 + y) + x2 * 9223372036854775808 by omega, Nat.add_mul_mod_self_right]
      exact Nat.mod_eq_of_lt (by omega)
    have h1 : ¬ c % 9223372036854775808 < 4503599627370496 := by omega
    have h2 : ¬ c % 9223372036854775808 < 9218868437227405312 := by omega
    have h3 : ¬ c % 9223372036854775808 = 9218868437227405312 := by omega
    have e1 : Ieee.double.signWeight = 9223372036854775808 := rfl
    have e2 : Ieee.double.binade = 4503599627370496 := rfl
    have e3 : Ieee.double.infRung = 9218868437227405312 := rfl
    unfold Ieee.Format.read
    simp only [FloatKind.format, e1, e2, e3]
    rw [if_neg h1, if_neg h2, if_neg h3]
  unfold Ieee.Format.order
  rw [hr]
  generalize FloatKind.f64.format.read x = d
  cases d <;> rfl

theorem run_mul_some (w : World) (a b m : Nat) (hm : FloatKind.f64.format.mul a b = some m) : (binOp .mul 32 (.float .f64 a) (.float .f64 b)).run Try.prog w = .ok (.float .f64 m) w := by
  simp [binOp, Op.floatArith, hm]
theorem run_mul_none (w : World) (a b : Nat) (hm : FloatKind.f64.format.mul a b = none) : (binOp .mul 32 (.float .f64 a) (.float .f64 b)).run Try.prog w = .ok (.float .f64 ((Question.nanBits .f64 a b).cut (w.tape w.drawn (.nanBits .f64 a b)))) w.drew := by
  simp [binOp, Op.floatArith, hm, Question.forced]

def gauge_Worth.f (a0 : Int) (a1 : Int) (a2 : Nat) : Option (Bool) := some (worthF a0 a1 a2)

theorem gauge_Worth.calls (a0 : Int) (a1 : Int) (a2 : Nat) (r : Bool) (w : World) (h : gauge_Worth.f a0 a1 a2 = some r) :
    Calls Try.prog 67 #[.int .i64 a0, .int .i64 a1, .float .f64 a2] w fun e w' => e = .returned (.bool r) ∧ Drawn0 w w' := by
  unfold gauge_Worth.f at h
  obtain rfl := Option.some.inj h
  unfold worthF
  cases hm : FloatKind.f64.format.mul (floatOfInt .f64 a0) a2 with
  | some m =>
    have hx := fun w => run_mul_some w _ _ m hm
    clear hm
    go_enter Try.func67, Try.ntmps67
    go_wp2
    go_ret
    exact ⟨rfl, Drawn0.refl _⟩
  | none =>
    have hx := run_mul_none w _ _ hm
    clear hm
    have hn := order_nan (floatOfInt .f64 a1) (w.tape w.drawn (.nanBits .f64 (floatOfInt .f64 a0) a2)) (floatOfInt .f64 a0) a2
    generalize (Question.nanBits .f64 (floatOfInt .f64 a0) a2).cut (w.tape w.drawn (.nanBits .f64 (floatOfInt .f64 a0) a2)) = c at hx hn
    go_enter Try.func67, Try.ntmps67
    go_wp2
    go_ret
    exact ⟨by simp, Drawn0.step (Drawn0.refl _) 1⟩

def portmanteauref03_Worth.f (a0 : Int) (a1 : Int) (a2 : Nat) : Option (Bool) := some (worthF a0 a1 a2)

theorem portmanteauref03_Worth.calls (a0 : Int) (a1 : Int) (a2 : Nat) (r : Bool) (w : World) (h : portmanteauref03_Worth.f a0 a1 a2 = some r) :
    Calls Try.prog 68 #[.int .i64 a0, .int .i64 a1, .float .f64 a2] w fun e w' => e = .returned (.bool r) ∧ Drawn0 w w' := by
  unfold portmanteauref03_Worth.f at h
  obtain rfl := Option.some.inj h
  unfold worthF
  cases hm : FloatKind.f64.format.mul (floatOfInt .f64 a0) a2 with
  | some m =>
    have hx := fun w => run_mul_some w _ _ m hm
    clear hm
    go_enter Try.func68, Try.ntmps68
    go_wp2
    go_ret
    exact ⟨rfl, Drawn0.refl _⟩
  | none =>
    have hx := run_mul_none w _ _ hm
    clear hm
    have hn := order_nan (floatOfInt .f64 a1) (w.tape w.drawn (.nanBits .f64 (floatOfInt .f64 a0) a2)) (floatOfInt .f64 a0) a2
    generalize (Question.nanBits .f64 (floatOfInt .f64 a0) a2).cut (w.tape w.drawn (.nanBits .f64 (floatOfInt .f64 a0) a2)) = c at hx hn
    go_enter Try.func68, Try.ntmps68
    go_wp2
    go_ret
    exact ⟨by simp, Drawn0.step (Drawn0.refl _) 1⟩

/-- A copy in new memory. -/
def bytes_Clone.f (l0 : List Int) : Option (List Int) := if l0.length < 140737488355328 then some l0 else none
set_option maxHeartbeats 8000000 in
set_option maxRecDepth 100000 in
theorem bytes_Clone.calls (A0 : Option Addr) (c0 : Nat) (l0 : List Int) (r : List Int) (w : World) (hr0 : Kd.C (Kd.int .u8) w A0 l0.length l0) (hc0 : l0.length ≤ c0) (h : bytes_Clone.f l0 = some r) :
    Calls Try.prog 63 #[.slice A0 l0.length c0] w fun e w' => ∃ v0_ : Value, e = .returned (v0_) ∧ Kd.R (Kd.int .u8) 5 w' w.heap.size (fun _ => True) v0_ r ∧ Below w.heap.size w w' := by
  have HC0 := Aside0.mk hc0
  cases A0 with
  | none =>
    have hl : l0.length = 0 := by
      rcases Nat.eq_zero_or_pos l0.length with h0 | h0
      · exact h0
      · obtain ⟨ad, hx, _⟩ := hr0.2.2 h0
        cases hx
    obtain rfl : l0 = [] := List.eq_nil_of_length_eq_zero hl
    obtain rfl : [] = r := by simpa [bytes_Clone.f] using h
    clear h hl
    have he := fun W => Lib.run_eql_slice_nil (P := Try.prog) W 22 5 none 0 c0 0 0 Try.underlying22
    simp only [Option.isNone_none] at he
    clear hr0 hc0
    go_enter Try.func63, Try.ntmps63
    go_wp2
    go_ret
    exact ⟨_, rfl, Kd.R_nil _ _ _ _ _, Below.refl _ _⟩
  | some ad =>
    have he := fun W => Lib.run_eql_slice_nil (P := Try.prog) W 22 5 (some ad) l0.length c0 0 0 Try.underlying22
    simp only [Option.isNone_some] at he
    have HR0 := Aside0.mk hr0
    clear hr0 hc0
    have HB := Aside0.mk (Below.refl w.heap.size w)
    have hlt : ([] : List Int).length + l0.length < 140737488355328 ∧ l0 = r := by
      unfold bytes_Clone.f at h
      split at h
      · rename_i h1
        exact ⟨by simpa using h1, Option.some.inj h⟩
      · cases h
    clear h
    obtain ⟨hlt, rfl⟩ := hlt
    have LMc2 := Aside0.mk hlt
    clear hlt
    obtain ⟨y104001, hy104001⟩ : ∃ y_ : List Int, y_ = ([] : List Int) := ⟨_, rfl⟩
    rw [← hy104001] at LMc2
    obtain ⟨y104004, hy104004⟩ : ∃ y_ : List Int, y_ = (y104001 ++ l0) := ⟨_, rfl⟩
    have hl0 : y104004 = l0 := by rw [hy104004, hy104001]; rfl
    have Hl0 := Aside0.mk hl0
    clear hl0
    have Ny104001 := Aside0.mk hy104001
    have Ny104004 := Aside0.mk hy104004
    clear hy104001 hy104004
    go_enter Try.func63, Try.ntmps63
    go_wp2_with (first | ((with_reducible refine gate_dst (N := 5) rfl ?_); refine Kd.R_lit (Kd.int .u8) _ 5 ?hg (N := 5) ?hd (xs := ([] : List Int)) (inner := []) (ok := fun _ => True) (okp := fun _ => True) ?hr ?hp (fun _ hk => hk) trivial (Below.refl _ _) (Nat.le_refl _) (by simp) ?_; (case hd => rfl); (case hg => rfl); (case hr => first | (go_simp; done) | (go_simp; rfl)); (case hp => exact (Reps.none _ _)); intro v104002 w3 ho4 hb hg_ hnew_; clear hg_ hnew_; (first | rw [← Ny104001.out] at ho4 | (simp only [Int.reduceToNat] at ho4; rw [← Ny104001.out] at ho4)); have n0_ := Aside0.mk (Kd.R_lower ho4 (below_size (by repeat (first | (with_reducible first | exact HB.out | apply below_alloc | apply pw_below_drewN | apply below_drew1) | exact HB.out)))); have n1_ := Aside0.mk (below_step (by repeat (first | (with_reducible first | exact HB.out | apply below_alloc | apply pw_below_drewN | apply below_drew1) | exact HB.out)) hb); clear HB; have HO104003 := n0_; have HB := n1_; clear n0_ n1_; clear hb ho4) | ((with_reducible refine gate_builtin (b := .append) (xs := #[.tmp 5, .tmp 6]) rfl ?_); at_builtin; refine Kd.R_append_rows (Kd.int .u8) (w0 := w) w.heap.size rfl (.tmp 5) (.tmp 6) 22 5 (.int .u8 0) 1 rfl Try.underlying22 info5 rfl (by decide) (by omega) v104002 y104001 l0 _ _ _ (fun _ => True) (fun _ => False) rfl rfl ?aO ?aR (fun _ _ h => h) (fun _ h => h.elim) ?aF ?aB ?aS ?aL ?_; (case aR => repeat (first | exact (Kd.C_below HR0.out HB.out) | (with_reducible refine Kd.C_alloc ?_ _) | (with_reducible refine Kd.C_drewN ?_ _) | (with_reducible refine Kd.C_drew ?_))); (case aB => exact (by repeat (first | (with_reducible first | exact HB.out | apply below_alloc | apply pw_below_drewN | apply below_drew1) | exact HB.out))); (case aF => exact (fun _ _ => trivial)); (case aO => exact (by (with_reducible repeat (first | apply Kd.R_alloc | apply Kd.R_drewN | apply Kd.R_drew)); exact HO104003.out)); (case aS => exact (below_size (by repeat (first | (with_reducible first | exact HB.out | apply below_alloc | apply pw_below_drewN | apply below_drew1) | exact HB.out)))); (case aL => have := LMc2.out; omega); intro v104005 w5 ho hb hg hat; rw [← Ny104004.out] at ho; have n0_ := Aside0.mk (hb); have n1_ := Aside0.mk (ho); clear HB; clear HO104003; have HB := n0_; have HO104006 := n1_; clear n0_ n1_; clear ho hb hg hat))
    go_ret
    exact ⟨_, by first | rfl | (simp [errW_none, errW_some] <;> rfl) | (simp [*, errW_none, errW_some] <;> rfl), by (with_reducible repeat (first | apply Kd.R_alloc | apply Kd.R_drewN | apply Kd.R_drew)); exact (Hl0.out ▸ HO104006.out), by repeat (first | (with_reducible first | exact HB.out | apply below_alloc | apply pw_below_drewN | apply below_drew1) | exact HB.out)⟩
end Go.Proofs.Ytdlfflgcmgkmeaa.P

-- Written by a program of this session's own (wip/tools), over the translation. Not trusted: Lean checks it.
namespace Go.Proofs.Ytdlfflgcmgkmeaa.P
open Go.RowKit Go.Proofs.YtdlfflgcmgkmeaaW.PrintWords Go.Proofs.YtdlfflgcmgkmeaaW.PrintLast Go.Proofs.YtdlfflgcmgkmeaaW.PrintMore
attribute [local go_sem] max2_int min2_int max_two min_two max_three min_three max_four min_four   -- for this text's walks alone
set_option linter.unusedVariables false
set_option linter.unusedSimpArgs false

/-! ### match_Pack: function 25 -/
def match_Pack.f (k : Nat) (l0 : List Int) (a1 : Nat) : Option (List Int × Bool × Int) := (match_Encode.f k l0).bind fun bt26001 => (if bt26001.2 = 0 then ((gauge_Worth.f (l0.length : Int) (bt26001.1.length : Int) a1).bind fun t26005 => (if t26005 = true then (some (bt26001.1, true, 0)) else ((bytes_Clone.f l0).bind fun t26006 => (some (t26006, false, 0))))) else (some (([] : List Int), false, bt26001.2)))
theorem match_Pack.mono : ∀ a0 a1 k, LeO (match_Pack.f k a0 a1) (match_Pack.f (k + 1) a0 a1) := by
  intro a0 a1 k
  unfold match_Pack.f
  repeat' first
      | (with_reducible exact match_Encode.mono _ _)
      | (with_reducible exact LeO.refl _)
      | (with_reducible exact LeO.none _)
      | (with_reducible refine LeO.ite ?_ ?_)
      | (with_reducible refine LeO.bind ?_ (fun _ => ?_))
      | exact match_Encode.mono _ _
      | exact LeO.none _
      | refine LeO.ite ?_ ?_
      | refine LeO.bind ?_ (fun _ => ?_)
set_option maxHeartbeats 8000000 in
set_option maxRecDepth 100000 in
theorem match_Pack.calls (k : Nat) (A0 : Option Addr) (c0 : Nat) (l0 : List Int) (a1 : Nat) (r1 : List Int) (r2 : Bool) (r3 : Int) (w : World) (hr0 : Kd.C (Kd.int .u8) w A0 l0.length l0) (hc0 : l0.length ≤ c0) (h : match_Pack.f k l0 a1 = some (r1, r2, r3)) :
    Calls Try.prog 25 #[.slice A0 l0.length c0, .float .f64 a1] w fun e w' => ∃ v0_ : Value, e = .returned (.tuple #[v0_, .bool r2, .int .i64 r3]) ∧ Kd.R (Kd.int .u8) 5 w' w.heap.size (fun _ => True) v0_ r1 ∧ Below w.heap.size w w' := by
  have HR0 := Aside0.mk hr0
  have HC0 := Aside0.mk hc0
  clear hr0 hc0
  have HB := Aside0.mk (Below.refl w.heap.size w)
  have H : ((match_Encode.f k l0).bind fun bt26001 => (if bt26001.2 = 0 then ((gauge_Worth.f (l0.length : Int) (bt26001.1.length : Int) a1).bind fun t26005 => (if t26005 = true then (some (bt26001.1, true, 0)) else ((bytes_Clone.f l0).bind fun t26006 => (some (t26006, false, 0))))) else (some (([] : List Int), false, bt26001.2)))) = some (r1, r2, r3) := h
  clear h
  replace H := Option.bind_eq_some_iff.mp H
  obtain ⟨⟨t26001, t26004⟩, A30, H⟩ := H
  replace H : (if t26004 = 0 then ((gauge_Worth.f (l0.length : Int) (t26001.length : Int) a1).bind fun t26005 => (if t26005 = true then (some (t26001, true, 0)) else ((bytes_Clone.f l0).bind fun t26006 => (some (t26006, false, 0))))) else (some (([] : List Int), false, t26004))) = some (r1, r2, r3) := H
  have A3 := Aside0.mk A30
  clear A30
  by_cases c4 : t26004 = 0
  · rw [if_pos c4] at H
    have c4b0 : (t26004 == 0) = true := beq_iff_eq.mpr c4
    have c4b1 : (t26004 != 0) = false := bne_eq_false_iff_eq.mpr c4
    clear c4
    replace H := Option.bind_eq_some_iff.mp H
    obtain ⟨t26005, A50, H⟩ := H
    replace H : (if t26005 = true then (some (t26001, true, 0)) else ((bytes_Clone.f l0).bind fun t26006 => (some (t26006, false, 0)))) = some (r1, r2, r3) := H
    have A5 := Aside0.mk A50
    clear A50
    by_cases c6 : t26005 = true
    · subst c6
      have H1 : (some (t26001, true, 0)) = some (r1, r2, r3) := by rw [if_pos rfl] at H; exact H
      clear H
      have H := H1
      clear H1
      simp only [Option.some.injEq, Prod.mk.injEq] at H
      obtain ⟨rfl, rfl, rfl⟩ := H
      go_enter Try.func25, Try.ntmps25
      go_wp2_with (first | ((with_reducible refine gate_callee (f := 24) rfl ?_); refine goesL_ (some 9) rfl rfl Try.func24 (by kernel_rfl) rfl #[.slice A0 l0.length c0] rfl (by (try simp only [List.map_toArray, List.map_cons, List.map_nil]); first | done | rfl | (simp only [List.length_drop, List.length_take]; rfl)) ?_; (with_reducible refine (match_Encode.calls k (fun k_ => k_ < w.heap.size) _ _ l0 t26001 t26004 _ ?side1 A3.out).mono ?_); (case side1 => exact Kd.V_mk HC0.out (Kd.F_below (Kd.C_F (Kd.heap_int .u8) HR0.out) (by repeat (first | (with_reducible first | exact HB.out | apply below_alloc | apply pw_below_drewN | apply below_drew1) | exact HB.out)))); rintro e w7 ⟨v26002, rfl, ho0, hb⟩; refine ⟨_, rfl, ?_⟩; have n0_ := Aside0.mk (Kd.R_lower (Kd.R_mono (ok' := fun k_ => True) ho0 (fun _ hk_ => trivial)) (below_size (by repeat (first | (with_reducible first | exact HB.out | apply below_alloc | apply pw_below_drewN | apply below_drew1) | exact HB.out)))); have n1_ := Aside0.mk (below_step (by repeat (first | (with_reducible first | exact HB.out | apply below_alloc | apply pw_below_drewN | apply below_drew1) | exact HB.out)) hb); clear HB; have HO26003 := n0_; have HB := n1_; clear n0_ n1_; (try clear hb); (try clear hb2); (try clear hk); (try clear hi); (try clear ho0); obtain ⟨Ao8, co8, eo8⟩ := Kd.R_slice HO26003.out; subst eo8) | ((with_reducible refine gate_callee (f := 67) rfl ?_); refine goesL_ (some 20) rfl rfl Try.func67 (by kernel_rfl) rfl #[.int .i64 (l0.length : Int), .int .i64 (t26001.length : Int), .float .f64 a1] rfl (by (try simp only [List.map_toArray, List.map_cons, List.map_nil]); first | done | rfl | (simp only [List.length_drop, List.length_take]; rfl)) ?_; (with_reducible refine (gauge_Worth.calls (l0.length : Int) (t26001.length : Int) a1 true _ A5.out).mono ?_); rintro e w' ⟨rfl, ⟨nd, rfl⟩⟩; refine ⟨_, rfl, ?_⟩))
      go_ret3
      exact ⟨_, by first | rfl | (simp [errW_none, errW_some] <;> rfl) | (simp [*, errW_none, errW_some] <;> rfl), by (with_reducible repeat (first | apply Kd.R_alloc | apply Kd.R_drewN | apply Kd.R_drew)); exact HO26003.out, by repeat (first | (with_reducible first | exact HB.out | apply below_alloc | apply pw_below_drewN | apply below_drew1) | exact HB.out)⟩
    · replace c6 := Bool.eq_false_iff.mpr c6
      subst c6
      have H1 : ((bytes_Clone.f l0).bind fun t26006 => (some (t26006, false, 0))) = some (r1, r2, r3) := by rw [if_neg (show ¬ (false = true) by decide)] at H; exact H
      clear H
      have H := H1
      clear H1
      replace H := Option.bind_eq_some_iff.mp H
      obtain ⟨t26006, A90, H⟩ := H
      replace H : (some (t26006, false, 0)) = some (r1, r2, r3) := H
      have A9 := Aside0.mk A90
      clear A90
      simp only [Option.some.injEq, Prod.mk.injEq] at H
      obtain ⟨rfl, rfl, rfl⟩ := H
      go_enter Try.func25, Try.ntmps25
      go_wp2_with (first | ((with_reducible refine gate_callee (f := 24) rfl ?_); refine goesL_ (some 9) rfl rfl Try.func24 (by kernel_rfl) rfl #[.slice A0 l0.length c0] rfl (by (try simp only [List.map_toArray, List.map_cons, List.map_nil]); first | done | rfl | (simp only [List.length_drop, List.length_take]; rfl)) ?_; (with_reducible refine (match_Encode.calls k (fun k_ => k_ < w.heap.size) _ _ l0 t26001 t26004 _ ?side1 A3.out).mono ?_); (case side1 => exact Kd.V_mk HC0.out (Kd.F_below (Kd.C_F (Kd.heap_int .u8) HR0.out) (by repeat (first | (with_reducible first | exact HB.out | apply below_alloc | apply pw_below_drewN | apply below_drew1) | exact HB.out)))); rintro e w10 ⟨v26002, rfl, ho0, hb⟩; refine ⟨_, rfl, ?_⟩; have n0_ := Aside0.mk (Kd.R_lower (Kd.R_mono (ok' := fun k_ => True) ho0 (fun _ hk_ => trivial)) (below_size (by repeat (first | (with_reducible first | exact HB.out | apply below_alloc | apply pw_below_drewN | apply below_drew1) | exact HB.out)))); have n1_ := Aside0.mk (below_step (by repeat (first | (with_reducible first | exact HB.out | apply below_alloc | apply pw_below_drewN | apply below_drew1) | exact HB.out)) hb); clear HB; have HO26003 := n0_; have HB := n1_; clear n0_ n1_; (try clear hb); (try clear hb2); (try clear hk); (try clear hi); (try clear ho0); obtain ⟨Ao11, co11, eo11⟩ := Kd.R_slice HO26003.out; subst eo11) | ((with_reducible refine gate_callee (f := 67) rfl ?_); refine goesL_ (some 20) rfl rfl Try.func67 (by kernel_rfl) rfl #[.int .i64 (l0.length : Int), .int .i64 (t26001.length : Int), .float .f64 a1] rfl (by (try simp only [List.map_toArray, List.map_cons, List.map_nil]); first | done | rfl | (simp only [List.length_drop, List.length_take]; rfl)) ?_; (with_reducible refine (gauge_Worth.calls (l0.length : Int) (t26001.length : Int) a1 false _ A5.out).mono ?_); rintro e w' ⟨rfl, ⟨nd, rfl⟩⟩; refine ⟨_, rfl, ?_⟩) | ((with_reducible refine gate_callee (f := 63) rfl ?_); refine goesL_ (some 23) rfl rfl Try.func63 (by kernel_rfl) rfl #[.slice A0 l0.length c0] rfl (by (try simp only [List.map_toArray, List.map_cons, List.map_nil]); first | done | rfl | (simp only [List.length_drop, List.length_take]; rfl)) ?_; (with_reducible refine (bytes_Clone.calls _ _ l0 t26006 _ ?side1 ?side2 A9.out).mono ?_); (case side1 => repeat (first | exact (Kd.C_below HR0.out (by repeat (first | (with_reducible first | exact HB.out | apply below_alloc | apply pw_below_drewN | apply below_drew1) | exact HB.out))) | (with_reducible refine Kd.C_alloc ?_ _) | (with_reducible refine Kd.C_drewN ?_ _) | (with_reducible refine Kd.C_drew ?_))); (case side2 => exact HC0.out); rintro e w12 ⟨v26007, rfl, ho0, hb⟩; refine ⟨_, rfl, ?_⟩; have n0_ := Aside0.mk (Kd.R_elder' (by (with_reducible repeat (first | apply Kd.R_alloc | apply Kd.R_drewN | apply Kd.R_drew)); exact HO26003.out) (Kd.R_base ho0) hb); have n1_ := Aside0.mk (Kd.R_lower (Kd.R_new' ho0 (Kd.R_lt (by (with_reducible repeat (first | apply Kd.R_alloc | apply Kd.R_drewN | apply Kd.R_drew)); exact HO26003.out))) (below_size (by repeat (first | (with_reducible first | exact HB.out | apply below_alloc | apply pw_below_drewN | apply below_drew1) | exact HB.out)))); have n2_ := Aside0.mk (below_step (by repeat (first | (with_reducible first | exact HB.out | apply below_alloc | apply pw_below_drewN | apply below_drew1) | exact HB.out)) hb); clear HO26003; clear HB; have HO26003 := n0_; have HO26008 := n1_; have HB := n2_; clear n0_ n1_ n2_; (try clear hb); (try clear hb2); (try clear hk); (try clear hi); (try clear ho0)))
      go_ret3
      exact ⟨_, by first | rfl | (simp [errW_none, errW_some] <;> rfl) | (simp [*, errW_none, errW_some] <;> rfl), by (with_reducible repeat (first | apply Kd.R_alloc | apply Kd.R_drewN | apply Kd.R_drew)); exact Kd.R_mono HO26008.out (fun _ hk => trivial), by repeat (first | (with_reducible first | exact HB.out | apply below_alloc | apply pw_below_drewN | apply below_drew1) | exact HB.out)⟩
  · rw [if_neg c4] at H
    have c4b0 : (t26004 == 0) = false := beq_eq_false_iff_ne.mpr c4
    have c4b1 : (t26004 != 0) = true := bne_iff_ne.mpr c4
    simp only [Option.some.injEq, Prod.mk.injEq] at H
    obtain ⟨rfl, rfl, rfl⟩ := H
    go_enter Try.func25, Try.ntmps25
    go_wp2_with (first | ((with_reducible refine gate_callee (f := 24) rfl ?_); refine goesL_ (some 9) rfl rfl Try.func24 (by kernel_rfl) rfl #[.slice A0 l0.length c0] rfl (by (try simp only [List.map_toArray, List.map_cons, List.map_nil]); first | done | rfl | (simp only [List.length_drop, List.length_take]; rfl)) ?_; (with_reducible refine (match_Encode.calls k (fun k_ => k_ < w.heap.size) _ _ l0 t26001 t26004 _ ?side1 A3.out).mono ?_); (case side1 => exact Kd.V_mk HC0.out (Kd.F_below (Kd.C_F (Kd.heap_int .u8) HR0.out) (by repeat (first | (with_reducible first | exact HB.out | apply below_alloc | apply pw_below_drewN | apply below_drew1) | exact HB.out)))); rintro e w13 ⟨v26002, rfl, ho0, hb⟩; refine ⟨_, rfl, ?_⟩; have n0_ := Aside0.mk (Kd.R_lower (Kd.R_mono (ok' := fun k_ => True) ho0 (fun _ hk_ => trivial)) (below_size (by repeat (first | (with_reducible first | exact HB.out | apply below_alloc | apply pw_below_drewN | apply below_drew1) | exact HB.out)))); have n1_ := Aside0.mk (below_step (by repeat (first | (with_reducible first | exact HB.out | apply below_alloc | apply pw_below_drewN | apply below_drew1) | exact HB.out)) hb); clear HB; have HO26003 := n0_; have HB := n1_; clear n0_ n1_; (try clear hb); (try clear hb2); (try clear hk); (try clear hi); (try clear ho0)))
    go_ret3
    exact ⟨_, by first | rfl | (simp [errW_none, errW_some] <;> rfl) | (simp [*, errW_none, errW_some] <;> rfl), by first | exact Kd.R_nil _ _ _ _ _ | exact Kd.N_nil _ _ _ _ _ | exact Kd.V_nil _ _ _ _ _ | exact Kd.Q_nil _ _ _ _ _ | exact Kd.S_nil _ _ _ _ _, by repeat (first | (with_reducible first | exact HB.out | apply below_alloc | apply pw_below_drewN | apply below_drew1) | exact HB.out)⟩

end Go.Proofs.Ytdlfflgcmgkmeaa.P

-- Written by a program of this session's own (wip/tools), over the translation. Not trusted: Lean checks it.
namespace Go.Proofs.Ytdlfflgcmgkmeaa.P
open Go.RowKit Go.Proofs.YtdlfflgcmgkmeaaW.PrintWords Go.Proofs.YtdlfflgcmgkmeaaW.PrintLast Go.Proofs.YtdlfflgcmgkmeaaW.PrintMore
attribute [local go_sem] max2_int min2_int max_two min_two max_three min_three max_four min_four   -- for this text's walks alone
set_option linter.unusedVariables false
set_option linter.unusedSimpArgs false

/-! ### sum_entry: function 99 -/
def sum_entry.l0 : Nat → Int → Int → Option (Int)
  | 0, _, _ => none
  | k + 1, x0, x3 => if x3 < 8 then (sum_entry.l0 k (Go.bits .xor .u32 (x0 / 2) (Go.bits .and .u32 3988292384 ((-(Go.bits .and .u32 x0 1)) % 4294967296))) (wrap64 (x3 + 1))) else (some x0)
def sum_entry.f (k : Nat) (a0 : Int) : Option (Int) := sum_entry.l0 k a0 0
theorem sum_entry.mono_l : ∀ k, (∀ y0 y1, LeO (sum_entry.l0 k y0 y1) (sum_entry.l0 (k + 1) y0 y1))
  | 0 => fun _ _ r h => by simp [sum_entry.l0] at h
  | k + 1 => by
    have ih0 := sum_entry.mono_l k
    · intro y0 y1
      unfold sum_entry.l0
      repeat' first
      | (with_reducible exact ih0 _ _)
      | (with_reducible exact LeO.refl _)
      | (with_reducible exact LeO.none _)
      | (with_reducible refine LeO.ite ?_ ?_)
      | (with_reducible refine LeO.bind ?_ (fun _ => ?_))
      | exact ih0 _ _
      | exact LeO.none _
      | refine LeO.ite ?_ ?_
      | refine LeO.bind ?_ (fun _ => ?_)
theorem sum_entry.mono : ∀ a0 k, LeO (sum_entry.f k a0) (sum_entry.f (k + 1) a0) := by
  intro a0 k
  have ih0 := sum_entry.mono_l k
  unfold sum_entry.f
  repeat' first
      | (with_reducible exact ih0 _ _)
      | (with_reducible exact LeO.refl _)
      | (with_reducible exact LeO.none _)
      | (with_reducible refine LeO.ite ?_ ?_)
      | (with_reducible refine LeO.bind ?_ (fun _ => ?_))
      | exact ih0 _ _
      | exact LeO.none _
      | refine LeO.ite ?_ ?_
      | refine LeO.bind ?_ (fun _ => ?_)
set_option maxHeartbeats 8000000 in
set_option maxRecDepth 100000 in
theorem sum_entry.calls (k : Nat) (a0 : Int) (r : Int) (w : World) (h : sum_entry.f k a0 = some r) :
    Calls Try.prog 99 #[.int .u32 a0] w fun e w' => e = .returned (.int .u32 r) ∧ Drawn0 w w' := by
  have H : (sum_entry.l0 k a0 0) = some r := h
  clear h
  have H' := Aside0.mk H
  clear H
  go_enter Try.func99, Try.ntmps99
  go_wp2
  go_loopg [0, 3] k (fun kq v0 v3 w' => ∃ (x0_1 : Int) (x3_1 : Int), v0 = .int .u32 x0_1 ∧ v3 = .int .i64 x3_1 ∧ Aside0 (sum_entry.l0 kq x0_1 x3_1 = some r) ∧ Aside0 (kq ≤ k) ∧ Drawn0 w w')
  case atStart => exact ⟨(a0), (0), (by first | rfl | (simp; done) | (simp [*]; done)), (by first | rfl | (simp; done) | (simp [*]; done)), H', ⟨Nat.le_refl _⟩, by repeat (first | exact Drawn0.refl _ | apply Drawn0.step)⟩
  case round =>
    clear H'
    obtain ⟨x0_1, x3_1, rfl, rfl, HA, HK1, ⟨m1, rfl⟩⟩ := hrel
    cases gk with
    | zero => exact absurd HA.out (by simp [sum_entry.l0])
    | succ k1 =>
      have H := HA.out
      clear HA
      simp only [sum_entry.l0] at H
      by_cases c2 : x3_1 < 8
      · rw [if_pos c2] at H
        have c2b0 : decide (x3_1 < 8) = true := decide_eq_true c2
        clear c2
        have H' := Aside0.mk H
        clear H
        go_wp2
        go_roundg k1
        case measure => have := HK1.out; omega
        case rel => exact ⟨(Go.bits .xor .u32 (x0_1 / 2) (Go.bits .and .u32 3988292384 ((-(Go.bits .and .u32 x0_1 1)) % 4294967296))), (wrap64 (x3_1 + 1)), (by first | rfl | (simp; done) | (simp [*]; done)), (by first | rfl | (simp; done) | (simp [*]; done)), H', ⟨by have := HK1.out; omega⟩, by repeat (first | exact Drawn0.refl _ | apply Drawn0.step)⟩
      · rw [if_neg c2] at H
        have c2b0 : decide (x3_1 < 8) = false := decide_eq_false c2
        clear c2
        obtain rfl := Option.some.inj H
        go_wp2
        go_ret
        exact ⟨by first | rfl | (simp; done) | (simp [*]; done), by repeat (first | exact Drawn0.refl _ | apply Drawn0.step)⟩

end Go.Proofs.Ytdlfflgcmgkmeaa.P

-- Written by a program of this session's own (wip/tools), over the translation. Not trusted: Lean checks it.
namespace Go.Proofs.Ytdlfflgcmgkmeaa.P
open Go.RowKit Go.Proofs.YtdlfflgcmgkmeaaW.PrintWords Go.Proofs.YtdlfflgcmgkmeaaW.PrintLast Go.Proofs.YtdlfflgcmgkmeaaW.PrintMore
attribute [local go_sem] max2_int min2_int max_two min_two max_three min_three max_four min_four   -- for this text's walks alone
set_option linter.unusedVariables false
set_option linter.unusedSimpArgs false

/-! ### sum_More: function 97 -/
def sum_More.l0 : Nat → Int → List Int → Int → Int → Option (Int)
  | 0, _, _, _, _ => none
  | k + 1, x1, x12, x13, x14 => if x14 < x13 then (if 0 ≤ x14 then (if x14 < (x12.length : Int) then ((sum_entry.f k ((Go.bits .xor .u8 ((x1) % 256) (rd x12 x14)) % 4294967296)).bind fun t98002 => (sum_More.l0 k (Go.bits .xor .u32 (x1 / 256) t98002) x12 x13 (wrap64 (x14 + 1)))) else (none)) else (none)) else (some (Go.bits .xor .u32 4294967295 x1))
def sum_More.f (k : Nat)  (a1 : Int) (l2 : List Int) : Option (Int) := sum_More.l0 k (Go.bits .xor .u32 4294967295 a1) l2 (l2.length : Int) 0
theorem sum_More.mono_l : ∀ k, (∀ y0 y1 y2 y3, LeO (sum_More.l0 k y0 y1 y2 y3) (sum_More.l0 (k + 1) y0 y1 y2 y3))
  | 0 => fun _ _ _ _ r h => by simp [sum_More.l0] at h
  | k + 1 => by
    have ih0 := sum_More.mono_l k
    · intro y0 y1 y2 y3
      unfold sum_More.l0
      repeat' first
      | (with_reducible exact ih0 _ _ _ _)
      | (with_reducible exact sum_entry.mono _ _)
      | (with_reducible exact LeO.refl _)
      | (with_reducible exact LeO.none _)
      | (with_reducible refine LeO.ite ?_ ?_)
      | (with_reducible refine LeO.bind ?_ (fun _ => ?_))
      | exact ih0 _ _ _ _
      | exact sum_entry.mono _ _
      | exact LeO.none _
      | refine LeO.ite ?_ ?_
      | refine LeO.bind ?_ (fun _ => ?_)
theorem sum_More.mono : ∀ a0 a1 k, LeO (sum_More.f k a0 a1) (sum_More.f (k + 1) a0 a1) := by
  intro a0 a1 k
  have ih0 := sum_More.mono_l k
  unfold sum_More.f
  repeat' first
      | (with_reducible exact ih0 _ _ _ _)
      | (with_reducible exact sum_entry.mono _ _)
      | (with_reducible exact LeO.refl _)
      | (with_reducible exact LeO.none _)
      | (with_reducible refine LeO.ite ?_ ?_)
      | (with_reducible refine LeO.bind ?_ (fun _ => ?_))
      | exact ih0 _ _ _ _
      | exact sum_entry.mono _ _
      | exact LeO.none _
      | refine LeO.ite ?_ ?_
      | refine LeO.bind ?_ (fun _ => ?_)
set_option maxHeartbeats 8000000 in
set_option maxRecDepth 100000 in
theorem sum_More.calls (k : Nat)  (a1 : Int) (A2 : Option Addr) (c2 : Nat) (l2 : List Int) (r : Int) (w : World) (hr2 : Kd.C (Kd.int .u8) w A2 l2.length l2) (hc2 : l2.length ≤ c2) (h : sum_More.f k a1 l2 = some r) :
    Calls Try.prog 97 #[.pointer none, .int .u32 a1, .slice A2 l2.length c2] w fun e w' => e = .returned (.int .u32 r) ∧ Drawn0 w w' := by
  have HR2 := Aside0.mk hr2
  have HC2 := Aside0.mk hc2
  clear hr2 hc2
  have H : (sum_More.l0 k (Go.bits .xor .u32 4294967295 a1) l2 (l2.length : Int) 0) = some r := h
  clear h
  have H' := Aside0.mk H
  clear H
  go_enter Try.func97, Try.ntmps97
  go_wp2
  go_loopg [1, 14] k (fun kq v1 v14 w' => ∃ (x1_1 : Int) (x14_1 : Int), v1 = .int .u32 x1_1 ∧ v14 = .int .i64 x14_1 ∧ Aside0 (sum_More.l0 kq x1_1 l2 (l2.length : Int) x14_1 = some r) ∧ Aside0 (kq ≤ k) ∧ Drawn0 w w')
  case atStart => exact ⟨(Go.bits .xor .u32 4294967295 a1), (0), (by first | rfl | (simp; done) | (simp [*]; done)), (by first | rfl | (simp; done) | (simp [*]; done)), H', ⟨Nat.le_refl _⟩, by repeat (first | exact Drawn0.refl _ | apply Drawn0.step)⟩
  case round =>
    clear H'
    try clear c2
    try clear p2
    obtain ⟨x1_1, x14_1, rfl, rfl, HA, HK1, ⟨m1, rfl⟩⟩ := hrel
    cases gk with
    | zero => exact absurd HA.out (by simp [sum_More.l0])
    | succ k1 =>
      have H := HA.out
      clear HA
      simp only [sum_More.l0] at H
      by_cases c4 : x14_1 < (l2.length : Int)
      · rw [if_pos c4] at H
        have c4b0 : decide (x14_1 < (l2.length : Int)) = true := decide_eq_true c4
        clear c4
        by_cases c5 : 0 ≤ x14_1
        · rw [if_pos c5] at H
          have c5b0 : decide (0 ≤ x14_1) = true := decide_eq_true c5
          clear c5
          by_cases c6 : x14_1 < (l2.length : Int)
          · rw [if_pos c6] at H
            have c6b0 : decide (x14_1 < (l2.length : Int)) = true := decide_eq_true c6
            clear c6
            replace H := Option.bind_eq_some_iff.mp H
            obtain ⟨t98002, A70, H⟩ := H
            replace H : (sum_More.l0 k1 (Go.bits .xor .u32 (x1_1 / 256) t98002) l2 (l2.length : Int) (wrap64 (x14_1 + 1))) = some r := H
            have A7 := Aside0.mk A70
            clear A70
            have H' := Aside0.mk H
            clear H
            have p98001 : 0 ≤ (x14_1 : Int) := of_decide_eq_true (by first | (with_reducible assumption) | assumption)
            have q98001 : x14_1 < (l2.length : Int) := of_decide_eq_true (by first | (with_reducible assumption) | assumption)
            obtain ⟨ad98001, e98001, hx98001_0⟩ := Kd.at_int HR2.out x14_1 p98001 q98001
            cases e98001
            replace p98001 := eq_true p98001
            replace q98001 := eq_true q98001
            go_wp2_with (first | ((with_reducible refine gate_callee (f := 99) rfl ?_); refine goesL_ (some 28) rfl rfl Try.func99 (by kernel_rfl) rfl #[.int .u32 ((Go.bits .xor .u8 ((x1_1) % 256) (rd l2 x14_1)) % 4294967296)] rfl (by (try simp only [List.map_toArray, List.map_cons, List.map_nil]); first | done | rfl | (simp only [List.length_drop, List.length_take]; rfl)) ?_; (with_reducible refine (sum_entry.calls k1 ((Go.bits .xor .u8 ((x1_1) % 256) (rd l2 x14_1)) % 4294967296) t98002 _ A7.out).mono ?_); rintro e w' ⟨rfl, ⟨nd, rfl⟩⟩; refine ⟨_, rfl, ?_⟩))
            go_roundg k1
            case measure => have := HK1.out; omega
            case rel => exact ⟨(Go.bits .xor .u32 (x1_1 / 256) t98002), (wrap64 (x14_1 + 1)), (by first | rfl | (simp; done) | (simp [*]; done)), (by first | rfl | (simp; done) | (simp [*]; done)), H', ⟨by have := HK1.out; omega⟩, by repeat (first | exact Drawn0.refl _ | apply Drawn0.step)⟩
          · rw [if_neg c6] at H
            exact absurd H (by simp)
        · rw [if_neg c5] at H
          exact absurd H (by simp)
      · rw [if_neg c4] at H
        have c4b0 : decide (x14_1 < (l2.length : Int)) = false := decide_eq_false c4
        clear c4
        obtain rfl := Option.some.inj H
        go_wp2
        go_ret
        exact ⟨by first | rfl | (simp; done) | (simp [*]; done), by repeat (first | exact Drawn0.refl _ | apply Drawn0.step)⟩

end Go.Proofs.Ytdlfflgcmgkmeaa.P

-- Written by a program of this session's own (wip/tools), over the translation. Not trusted: Lean checks it.
namespace Go.Proofs.Ytdlfflgcmgkmeaa.P
open Go.RowKit Go.Proofs.YtdlfflgcmgkmeaaW.PrintWords Go.Proofs.YtdlfflgcmgkmeaaW.PrintLast Go.Proofs.YtdlfflgcmgkmeaaW.PrintMore
attribute [local go_sem] max2_int min2_int max_two min_two max_three min_three max_four min_four   -- for this text's walks alone
set_option linter.unusedVariables false
set_option linter.unusedSimpArgs false

/-! ### sum_Crc: function 75 -/
def sum_Crc.f (k : Nat)  (l1 : List Int) : Option (Int) := (sum_More.f k 0 l1).bind fun t76001 => (some t76001)
theorem sum_Crc.mono : ∀ a0 k, LeO (sum_Crc.f k a0) (sum_Crc.f (k + 1) a0) := by
  intro a0 k
  unfold sum_Crc.f
  repeat' first
      | (with_reducible exact sum_More.mono _ _ _)
      | (with_reducible exact LeO.refl _)
      | (with_reducible exact LeO.none _)
      | (with_reducible refine LeO.ite ?_ ?_)
      | (with_reducible refine LeO.bind ?_ (fun _ => ?_))
      | exact sum_More.mono _ _ _
      | exact LeO.none _
      | refine LeO.ite ?_ ?_
      | refine LeO.bind ?_ (fun _ => ?_)
set_option maxHeartbeats 8000000 in
set_option maxRecDepth 100000 in
theorem sum_Crc.calls (k : Nat)  (A1 : Option Addr) (c1 : Nat) (l1 : List Int) (r : Int) (w : World) (hr1 : Kd.C (Kd.int .u8) w A1 l1.length l1) (hc1 : l1.length ≤ c1) (h : sum_Crc.f k l1 = some r) :
    Calls Try.prog 75 #[.pointer none, .slice A1 l1.length c1] w fun e w' => e = .returned (.int .u32 r) ∧ Drawn0 w w' := by
  have HR1 := Aside0.mk hr1
  have HC1 := Aside0.mk hc1
  clear hr1 hc1
  have H : ((sum_More.f k 0 l1).bind fun t76001 => (some t76001)) = some r := h
  clear h
  replace H := Option.bind_eq_some_iff.mp H
  obtain ⟨t76001, A30, H⟩ := H
  replace H : (some t76001) = some r := H
  have A3 := Aside0.mk A30
  clear A30
  obtain rfl := Option.some.inj H
  go_enter Try.func75, Try.ntmps75
  go_wp2_with (first | ((with_reducible refine gate_callee (f := 97) rfl ?_); refine goesL_ (some 7) rfl rfl Try.func97 (by kernel_rfl) rfl #[.pointer none, .int .u32 0, .slice A1 l1.length c1] rfl (by (try simp only [List.map_toArray, List.map_cons, List.map_nil]); first | done | rfl | (simp only [List.length_drop, List.length_take]; rfl)) ?_; (with_reducible refine (sum_More.calls k  0 _ _ l1 t76001 _ ?side1 ?side2 A3.out).mono ?_); (case side1 => repeat (first | exact HR1.out | (with_reducible refine Kd.C_alloc ?_ _) | (with_reducible refine Kd.C_drewN ?_ _) | (with_reducible refine Kd.C_drew ?_))); (case side2 => exact HC1.out); rintro e w' ⟨rfl, ⟨nd, rfl⟩⟩; refine ⟨_, rfl, ?_⟩))
  go_ret
  exact ⟨by first | rfl | (simp; done) | (simp [*]; done), by repeat (first | exact Drawn0.refl _ | apply Drawn0.step)⟩

end Go.Proofs.Ytdlfflgcmgkmeaa.P

-- Written by a program of this session's own (wip/tools), over the translation. Not trusted: Lean checks it.
namespace Go.Proofs.Ytdlfflgcmgkmeaa.P
open Go.RowKit Go.Proofs.YtdlfflgcmgkmeaaW.PrintWords Go.Proofs.YtdlfflgcmgkmeaaW.PrintLast Go.Proofs.YtdlfflgcmgkmeaaW.PrintMore
attribute [local go_sem] max2_int min2_int max_two min_two max_three min_three max_four min_four   -- for this text's walks alone
set_option linter.unusedVariables false
set_option linter.unusedSimpArgs false

/-! ### field_wide: function 94 -/
def field_wide.j0 : Nat → Int → Bool → Option (Bool)
  | 0, _, _ => none
  | k + 1, x3, x4 => if x4 = true then (some true) else (if x3 = 4 then (some true) else (if x3 = 8 then (some true) else (some false)))
def field_wide.f (k : Nat) (a0 : Int) : Option (Bool) := if a0 = 1 then (field_wide.j0 k a0 (a0 == 1)) else (field_wide.j0 k a0 (a0 == 2))
theorem field_wide.mono_l : ∀ k, (∀ y0 y1, LeO (field_wide.j0 k y0 y1) (field_wide.j0 (k + 1) y0 y1))
  | 0 => fun _ _ r h => by simp [field_wide.j0] at h
  | k + 1 => by
    have ih0 := field_wide.mono_l k
    · intro y0 y1
      unfold field_wide.j0
      repeat' first
      | (with_reducible exact ih0 _ _)
      | (with_reducible exact LeO.refl _)
      | (with_reducible exact LeO.none _)
      | (with_reducible refine LeO.ite ?_ ?_)
      | (with_reducible refine LeO.bind ?_ (fun _ => ?_))
      | exact ih0 _ _
      | exact LeO.none _
      | refine LeO.ite ?_ ?_
      | refine LeO.bind ?_ (fun _ => ?_)
theorem field_wide.mono : ∀ a0 k, LeO (field_wide.f k a0) (field_wide.f (k + 1) a0) := by
  intro a0 k
  have ih0 := field_wide.mono_l k
  unfold field_wide.f
  repeat' first
      | (with_reducible exact ih0 _ _)
      | (with_reducible exact LeO.refl _)
      | (with_reducible exact LeO.none _)
      | (with_reducible refine LeO.ite ?_ ?_)
      | (with_reducible refine LeO.bind ?_ (fun _ => ?_))
      | exact ih0 _ _
      | exact LeO.none _
      | refine LeO.ite ?_ ?_
      | refine LeO.bind ?_ (fun _ => ?_)
set_option maxHeartbeats 8000000 in
set_option maxRecDepth 100000 in
theorem field_wide.calls (k : Nat) (a0 : Int) (r : Bool) (w : World) (h : field_wide.f k a0 = some r) :
    Calls Try.prog 94 #[.int .i64 a0] w fun e w' => e = .returned (.bool r) ∧ Drawn0 w w' := by
  have H : (if a0 = 1 then (field_wide.j0 k a0 (a0 == 1)) else (field_wide.j0 k a0 (a0 == 2))) = some r := h
  clear h
  have HC2 := Aside0.mk H
  clear H
  go_enter Try.func94, Try.ntmps94
  go_upto_if 4 with (fail)
  go_cut [4] (fun v4 wc => ∃ (kq : Nat) (x4_1 : Bool), v4 = .bool x4_1 ∧ Aside0 (field_wide.j0 kq a0 x4_1 = some r) ∧ Aside0 (kq ≤ k) ∧ Drawn0 w wc)
  case first =>
    have H := HC2.out
    clear HC2
    by_cases c3 : a0 = 1
    · rw [if_pos c3] at H
      have c3b0 : (a0 == 1) = true := beq_iff_eq.mpr c3
      have c3b1 : (a0 != 1) = false := bne_eq_false_iff_eq.mpr c3
      clear c3
      (first | rw [c3b0] | (simp only [i64_w, i32_w]; rw [c3b0]) | skip)
      have H' := Aside0.mk H
      clear H
      go_wp2
      go_meet
      case rel => exact ⟨_, ((a0 == 1)), (by first | rfl | (simp; done) | (simp [*]; done)), H', ⟨by first | omega | exact Nat.le_refl _⟩, by repeat (first | exact Drawn0.refl _ | apply Drawn0.step)⟩
    · rw [if_neg c3] at H
      have c3b0 : (a0 == 1) = false := beq_eq_false_iff_ne.mpr c3
      have c3b1 : (a0 != 1) = true := bne_iff_ne.mpr c3
      (first | rw [c3b0] | (simp only [i64_w, i32_w]; rw [c3b0]) | skip)
      have H' := Aside0.mk H
      clear H
      go_wp2
      go_meet
      case rel => exact ⟨_, ((a0 == 2)), (by first | rfl | (simp; done) | (simp [*]; done)), H', ⟨by first | omega | exact Nat.le_refl _⟩, by repeat (first | exact Drawn0.refl _ | apply Drawn0.step)⟩
  case rest =>
    clear HC2
    try clear p2
    try clear c3
    try clear c3b0
    try clear c3b1
    obtain ⟨kq, x4_1, rfl, HA, HJ1, ⟨mc1, rfl⟩⟩ := hcut
    cases kq with
    | zero => exact absurd HA.out (by simp [field_wide.j0])
    | succ kj1 =>
      have H := HA.out
      clear HA
      simp only [field_wide.j0] at H
      by_cases c4 : x4_1 = true
      · subst c4
        have H1 : (some true) = some r := by rw [if_pos rfl] at H; exact H
        clear H
        have H := H1
        clear H1
        obtain rfl := Option.some.inj H
        go_wp2
        go_ret
        exact ⟨by first | rfl | (simp; done) | (simp [*]; done), by repeat (first | exact Drawn0.refl _ | apply Drawn0.step)⟩
      · replace c4 := Bool.eq_false_iff.mpr c4
        subst c4
        have H1 : (if a0 = 4 then (some true) else (if a0 = 8 then (some true) else (some false))) = some r := by rw [if_neg (show ¬ (false = true) by decide)] at H; exact H
        clear H
        have H := H1
        clear H1
        by_cases c5 : a0 = 4
        · rw [if_pos c5] at H
          have c5b0 : (a0 == 4) = true := beq_iff_eq.mpr c5
          have c5b1 : (a0 != 4) = false := bne_eq_false_iff_eq.mpr c5
          clear c5
          obtain rfl := Option.some.inj H
          go_wp2
          go_ret
          exact ⟨by first | rfl | (simp; done) | (simp [*]; done), by repeat (first | exact Drawn0.refl _ | apply Drawn0.step)⟩
        · rw [if_neg c5] at H
          have c5b0 : (a0 == 4) = false := beq_eq_false_iff_ne.mpr c5
          have c5b1 : (a0 != 4) = true := bne_iff_ne.mpr c5
          by_cases c6 : a0 = 8
          · rw [if_pos c6] at H
            have c6b0 : (a0 == 8) = true := beq_iff_eq.mpr c6
            have c6b1 : (a0 != 8) = false := bne_eq_false_iff_eq.mpr c6
            clear c6
            obtain rfl := Option.some.inj H
            go_wp2
            go_ret
            exact ⟨by first | rfl | (simp; done) | (simp [*]; done), by repeat (first | exact Drawn0.refl _ | apply Drawn0.step)⟩
          · rw [if_neg c6] at H
            have c6b0 : (a0 == 8) = false := beq_eq_false_iff_ne.mpr c6
            have c6b1 : (a0 != 8) = true := bne_iff_ne.mpr c6
            obtain rfl := Option.some.inj H
            go_wp2
            go_ret
            exact ⟨by first | rfl | (simp; done) | (simp [*]; done), by repeat (first | exact Drawn0.refl _ | apply Drawn0.step)⟩

end Go.Proofs.Ytdlfflgcmgkmeaa.P
