/- Proved: BlocksLoads, part 4 of 5: Blocks.Load answers as ref05 says. Conditions: those that the statement itself has. -/
import Derived.Test.YtdlfflgcmgkmeaaKBlocksLoads3
import Derived.Test.YtdlfflgcmgkmeaaKBlocksLoads1
namespace Go.Proofs.Ytdlfflgcmgkmeaa.P
open Go.RowKit Go.Proofs.YtdlfflgcmgkmeaaW.PrintWords Go.Proofs.YtdlfflgcmgkmeaaW.PrintLast Go.Proofs.YtdlfflgcmgkmeaaW.PrintMore Go.FW
set_option linter.unusedVariables false
set_option linter.unusedSimpArgs false

/-- A length's further bytes, by rounds. -/
def lenGo : Nat → List Int → Int → Int → Option (Int × Int)
  | 0, _, _, _ => none
  | f + 1, l, n, p => if p = (l.length : Int) then none else if rd l p < 255 then some (n + rd l p, p + 1) else lenGo f l (n + rd l p) (p + 1)
def lenF (l : List Int) (n p : Int) : Option (Int × Int) := if n < 15 then some (n, p) else lenGo (l.length + 1) l n p
/-- Bytes, not too many. -/
def Bytes (l : List Int) : Prop := l.length ≤ 1099511627776 ∧ ∀ x ∈ l, 0 ≤ x ∧ x ≤ 255
theorem Bytes.at_ {l : List Int} (h : Bytes l) (i : Int) : 0 ≤ rd l i ∧ rd l i ≤ 255 := by
  unfold rd
  by_cases hi : i.toNat < l.length
  · rw [show l.getD i.toNat 0 = l[i.toNat] by simp [List.getD, hi]]; exact h.2 _ (List.getElem_mem hi)
  · rw [show l.getD i.toNat 0 = 0 by simp [List.getD, List.getElem?_eq_none (by omega : l.length ≤ i.toNat)]]; omega
theorem length_l0 (l : List Int) (hl : Bytes l) (s m e b : Int) : ∀ (f : Nat) (n p : Int), 0 ≤ p → p ≤ (l.length : Int) → (l.length : Int) - p < (f : Int) → 0 ≤ n → n ≤ p * 255 + 15 →
    lz_reader_length.l0 f n l p s m e b = some (match lenGo f l n p with | some (x, q) => (x, true, q, s, m, e, b) | none => (0, false, (l.length : Int), s, m, 6, (l.length : Int)))
  | 0, n, p, h0, h1, h2, h3, h4 => by omega
  | f + 1, n, p, h0, h1, h2, h3, h4 => by
    have hr := hl.at_ p
    have hl1 := hl.1
    simp only [lz_reader_length.l0, lenGo]
    by_cases c1 : p = (l.length : Int)
    · subst c1; simp only [if_true, lz_reader_fail.f, Option.bind_some]
    · have hw : wrap64 (rd l p) = rd l p := IntWalk.wrap64_in _ (by omega)
      have hp : wrap64 (p + 1) = p + 1 := IntWalk.wrap64_in _ (by omega)
      have hn : wrap64 (n + rd l p) = n + rd l p := IntWalk.wrap64_in _ (by omega)
      simp only [if_neg c1, if_pos h0, if_pos (show p < (l.length : Int) by omega), hw, hp, hn]
      by_cases c2 : rd l p < 255
      · simp only [if_pos c2]
      · simp only [if_neg c2]
        exact length_l0 l hl s m e b f _ _ (by omega) (by omega) (by omega) (by omega) (by omega)
theorem length_f (l : List Int) (hl : Bytes l) (s m e b n p : Int) (h0 : 0 ≤ p) (h1 : p ≤ (l.length : Int)) (h3 : 0 ≤ n) (h4 : n ≤ 15) :
    lz_reader_length.f (l.length + 1) l p s m e b n = some (match lenF l n p with | some (x, q) => (x, true, q, s, m, e, b) | none => (0, false, (l.length : Int), s, m, 6, (l.length : Int))) := by
  unfold lz_reader_length.f lenF
  by_cases c : n < 15
  · simp only [if_pos c]
  · simp only [if_neg c]
    exact length_l0 l hl s m e b _ n p h0 h1 (by omega) h3 (by omega)
theorem lenGo_le (l : List Int) (hl : Bytes l) : ∀ (f : Nat) (n p x q : Int), 0 ≤ p → 0 ≤ n → p ≤ (l.length : Int) → lenGo f l n p = some (x, q) → n ≤ x ∧ p < q ∧ q ≤ (l.length : Int) ∧ x ≤ n + (q - p) * 255
  | 0, n, p, x, q, _, _, _, h => by simp [lenGo] at h
  | f + 1, n, p, x, q, h0, hn, hp, h => by
    have hr := hl.at_ p
    simp only [lenGo] at h
    by_cases c1 : p = (l.length : Int)
    · simp [c1] at h
    · simp only [if_neg c1] at h
      by_cases c2 : rd l p < 255
      · simp only [if_pos c2, Option.some.injEq, Prod.mk.injEq] at h; omega
      · simp only [if_neg c2] at h
        have := lenGo_le l hl f _ _ x q (by omega) (by omega) (by omega) h
        omega
theorem lenF_le {l : List Int} (hl : Bytes l) {n p x q : Int} (h0 : 0 ≤ p) (hn : 0 ≤ n) (hp : p ≤ (l.length : Int)) (h : lenF l n p = some (x, q)) : n ≤ x ∧ p ≤ q ∧ q ≤ (l.length : Int) ∧ x ≤ n + (q - p) * 255 := by
  unfold lenF at h
  by_cases c : n < 15
  · simp only [if_pos c, Option.some.injEq, Prod.mk.injEq] at h; omega
  · simp only [if_neg c] at h
    have := lenGo_le l hl _ n p x q h0 hn hp h
    omega
/-- What the next sequence is. -/
inductive LzR where
  | bad (e at_ : Int)
  | last (lit : List Int)
  | more (lit : List Int) (off len at_ : Int)
def lzNext (l : List Int) (most p s : Int) : LzR :=
  if p = (l.length : Int) then .bad 6 l.length else
  match lenF l (rd l p / 16) (p + 1) with
  | none => .bad 6 l.length
  | some (n, k) =>
    if n > most - s then .bad 2 p else
    if n > (l.length : Int) - k then .bad 6 l.length else
    if k + n = (l.length : Int) then .last ((l.take (k + n).toNat).drop k.toNat) else
    if (l.length : Int) - (k + n) < 2 then .bad 6 l.length else
    if rd l (k + n) + rd l (k + n + 1) * 256 = 0 ∨ rd l (k + n) + rd l (k + n + 1) * 256 > s + n then .bad 9 (k + n) else
    match lenF l (rd l p % 16) (k + n + 2) with
    | none => .bad 6 l.length
    | some (m, q) => if m + 4 > most - (s + n) then .bad 2 p else .more ((l.take (k + n).toNat).drop k.toNat) (rd l (k + n) + rd l (k + n + 1) * 256) (m + 4) q

theorem wrap_smallN (n : Nat) (h : n < 2^63) : IntKind.i64.wrap (n : Int) = n := by
  rw [IntWalk.i64_left, IntWalk.wrap64_in] <;> omega
theorem ofInt_toNatN (x : Int) (h0 : 0 ≤ x) (h1 : x ≤ 9223372036854775807) : (BitVec.ofInt 64 x).toNat = x.toNat := by
  rw [BitVec.toNat_ofInt]
  have : x % ((2^64 : Nat) : Int) = x := Int.emod_eq_of_lt h0 (by omega)
  rw [this]
theorem or_256 (x y : Int) (h0 : 0 ≤ x ∧ x ≤ 255) (h1 : 0 ≤ y ∧ y ≤ 255) : bits .or .i64 x (y * 256) = x + y * 256 := by
  unfold bits
  have hx := ofInt_toNatN x (by omega) (by omega)
  have hy := ofInt_toNatN (y * 256) (by omega) (by omega)
  have e : (BitVec.ofInt 64 x ||| BitVec.ofInt 64 (y * 256)).toNat = x.toNat + y.toNat * 256 := by
    rw [BitVec.toNat_or, hx, hy]
    have := Nat.two_pow_add_eq_or_of_lt (i := 8) (b := x.toNat) (by omega) y.toNat
    rw [Nat.or_comm, show (y * 256).toNat = 2 ^ 8 * y.toNat by omega, ← this]
    omega
  show IntKind.i64.wrap ((BitVec.ofInt 64 x ||| BitVec.ofInt 64 (y * 256)).toNat : Int) = _
  rw [e, wrap_smallN _ (by omega)]; omega

theorem and_15 (x : Int) (h0 : 0 ≤ x ∧ x ≤ 255) : bits .and .i64 x 15 = x % 16 := by
  unfold bits
  have hx := ofInt_toNatN x (by omega) (by omega)
  have e : (BitVec.ofInt 64 x &&& BitVec.ofInt 64 15).toNat = x.toNat % 16 := by
    rw [BitVec.toNat_and, hx, show (BitVec.ofInt 64 15).toNat = 2 ^ 4 - 1 by decide, Nat.and_two_pow_sub_one_eq_mod]
  show IntKind.i64.wrap ((BitVec.ofInt 64 x &&& BitVec.ofInt 64 15).toNat : Int) = _
  rw [e, wrap_smallN _ (by omega)]; omega

/-- What a call of a reader's method needs. -/
theorem isS {A : Option Addr} {c g : Nat} {l : List Int} {p s m e b : Int} {w0 w W : World} {S : List Nat} {Lh : List (Nat × Obj)} (hC : Kd.C (Kd.int .u8) w0 A l.length l) (hge : w0.heap.size ≤ g) (H : Hp S w W Lh) (i : Nat) (hi : Lh[i]? = some (g, Obj.cells #[.slice A l.length c, .int .i64 p, .int .i64 s, .int .i64 m, .int .i64 e, .int .i64 b] 147 (0, 0))) : IsS147 A c w0 W g l p s m e b := ⟨H.has i _ _ hi, hge, hC⟩
theorem viaS {A : Option Addr} {c g : Nat} {l : List Int} {p s m e b : Int} {w0 w W W1 : World} {S : List Nat} {Lh : List (Nat × Obj)} {o : Obj} (H : Hp S w W Lh) (hb : Below w0.heap.size w0 W) (i : Nat) (hi : Lh[i]? = some (g, o)) (h1 : IsS147 A c w0 W1 g l p s m e b) (hb1 : Below w0.heap.size w0 W1) (hk : KeepBut W W1 g none) :
    Hp S w W1 (Lh.set i (g, Obj.cells #[.slice A l.length c, .int .i64 p, .int .i64 s, .int .i64 m, .int .i64 e, .int .i64 b] 147 (0, 0))) :=
  H.but i hi (hb1.os.trans hb.os.symm) (hb1.tape.trans hb.tape.symm) (hb1.output.trans hb.output.symm) hk.1 (fun k hlt hne => hk.2 k hlt hne (by simp)) h1.1
section
variable {A : Option Addr} {c g : Nat} {l : List Int} {p s m e b : Int} {w0 w W : World} {S : List Nat} {Lh : List (Nat × Obj)}
theorem fail_hp (er at_ : Int) (hC : Kd.C (Kd.int .u8) w0 A l.length l) (hge : w0.heap.size ≤ g) (hb0 : Below w0.heap.size w0 w) (hS : ∀ b ∈ S, w0.heap.size ≤ b) (H : Hp S w W Lh) (i : Nat) (hi : Lh[i]? = some (g, Obj.cells #[.slice A l.length c, .int .i64 p, .int .i64 s, .int .i64 m, .int .i64 e, .int .i64 b] 147 (0, 0))) :
    Calls Try.prog 108 #[.pointer (some ⟨g, 0, none⟩), .int .i64 er, .int .i64 at_] W fun e' w' => e' = .returned (.bool false) ∧ Hp S w w' (Lh.set i (g, Obj.cells #[.slice A l.length c, .int .i64 p, .int .i64 s, .int .i64 m, .int .i64 er, .int .i64 at_] 147 (0, 0))) := by
  refine (lz_reader_fail.calls A c g l p s m e b er at_ false p s m er at_ w0 W (isS hC hge H i hi) (H.belowAt hb0 hS) rfl).mono ?_
  rintro e' w' ⟨rfl, h1, h2, h3⟩
  exact ⟨rfl, viaS H (H.belowAt hb0 hS) i hi h1 h2 h3⟩
theorem length_hp (n : Int) (hl : Bytes l) (h0 : 0 ≤ p) (h1 : p ≤ (l.length : Int)) (hn0 : 0 ≤ n) (hn1 : n ≤ 15) (hC : Kd.C (Kd.int .u8) w0 A l.length l) (hge : w0.heap.size ≤ g) (hb0 : Below w0.heap.size w0 w) (hS : ∀ b ∈ S, w0.heap.size ≤ b) (H : Hp S w W Lh) (i : Nat) (hi : Lh[i]? = some (g, Obj.cells #[.slice A l.length c, .int .i64 p, .int .i64 s, .int .i64 m, .int .i64 e, .int .i64 b] 147 (0, 0))) (x q : Int) (hx : lenF l n p = some (x, q)) :
    Calls Try.prog 109 #[.pointer (some ⟨g, 0, none⟩), .int .i64 n] W fun e' w' => e' = .returned (.tuple #[.int .i64 x, .bool true]) ∧ Hp S w w' (Lh.set i (g, Obj.cells #[.slice A l.length c, .int .i64 q, .int .i64 s, .int .i64 m, .int .i64 e, .int .i64 b] 147 (0, 0))) := by
  have := length_f l hl s m e b n p h0 h1 hn0 hn1
  rw [hx] at this
  refine (lz_reader_length.calls A c (l.length + 1) g l p s m e b n _ _ _ _ _ _ _ w0 W (isS hC hge H i hi) (H.belowAt hb0 hS) this).mono ?_
  rintro e' w' ⟨rfl, h1, h2, h3⟩
  exact ⟨rfl, viaS H (H.belowAt hb0 hS) i hi h1 h2 h3⟩
theorem lengthN_hp (n : Int) (hl : Bytes l) (h0 : 0 ≤ p) (h1 : p ≤ (l.length : Int)) (hn0 : 0 ≤ n) (hn1 : n ≤ 15) (hC : Kd.C (Kd.int .u8) w0 A l.length l) (hge : w0.heap.size ≤ g) (hb0 : Below w0.heap.size w0 w) (hS : ∀ b ∈ S, w0.heap.size ≤ b) (H : Hp S w W Lh) (i : Nat) (hi : Lh[i]? = some (g, Obj.cells #[.slice A l.length c, .int .i64 p, .int .i64 s, .int .i64 m, .int .i64 e, .int .i64 b] 147 (0, 0))) (hx : lenF l n p = none) :
    Calls Try.prog 109 #[.pointer (some ⟨g, 0, none⟩), .int .i64 n] W fun e' w' => e' = .returned (.tuple #[.int .i64 0, .bool false]) ∧ Hp S w w' (Lh.set i (g, Obj.cells #[.slice A l.length c, .int .i64 l.length, .int .i64 s, .int .i64 m, .int .i64 6, .int .i64 l.length] 147 (0, 0))) := by
  have := length_f l hl s m e b n p h0 h1 hn0 hn1
  rw [hx] at this
  refine (lz_reader_length.calls A c (l.length + 1) g l p s m e b n _ _ _ _ _ _ _ w0 W (isS hC hge H i hi) (H.belowAt hb0 hS) this).mono ?_
  rintro e' w' ⟨rfl, h1, h2, h3⟩
  exact ⟨rfl, viaS H (H.belowAt hb0 hS) i hi h1 h2 h3⟩
theorem room_hp (n t : Int) (h0 : 0 ≤ s) (h1 : s ≤ m) (hm : m ≤ 1048576) (hn : 0 ≤ n) (hC : Kd.C (Kd.int .u8) w0 A l.length l) (hge : w0.heap.size ≤ g) (hb0 : Below w0.heap.size w0 w) (hS : ∀ b ∈ S, w0.heap.size ≤ b) (H : Hp S w W Lh) (i : Nat) (hi : Lh[i]? = some (g, Obj.cells #[.slice A l.length c, .int .i64 p, .int .i64 s, .int .i64 m, .int .i64 e, .int .i64 b] 147 (0, 0))) (hx : ¬ n > m - s) :
    Calls Try.prog 110 #[.pointer (some ⟨g, 0, none⟩), .int .i64 n, .int .i64 t] W fun e' w' => e' = .returned (.bool true) ∧ Hp S w w' (Lh.set i (g, Obj.cells #[.slice A l.length c, .int .i64 p, .int .i64 (s + n), .int .i64 m, .int .i64 e, .int .i64 b] 147 (0, 0))) := by
  have hms : wrap64 (m - s) = m - s := IntWalk.wrap64_in _ (by omega)
  have hsn : wrap64 (s + n) = s + n := IntWalk.wrap64_in _ (by omega)
  refine (lz_reader_room.calls A c g l p s m e b n t true p (s + n) m e b w0 W (isS hC hge H i hi) (H.belowAt hb0 hS) (by unfold lz_reader_room.f; rw [hms, if_neg hx, hsn])).mono ?_
  rintro e' w' ⟨rfl, h1, h2, h3⟩
  exact ⟨rfl, viaS H (H.belowAt hb0 hS) i hi h1 h2 h3⟩
theorem roomN_hp (n t : Int) (h0 : 0 ≤ s) (h1 : s ≤ m) (hm : m ≤ 1048576) (hC : Kd.C (Kd.int .u8) w0 A l.length l) (hge : w0.heap.size ≤ g) (hb0 : Below w0.heap.size w0 w) (hS : ∀ b ∈ S, w0.heap.size ≤ b) (H : Hp S w W Lh) (i : Nat) (hi : Lh[i]? = some (g, Obj.cells #[.slice A l.length c, .int .i64 p, .int .i64 s, .int .i64 m, .int .i64 e, .int .i64 b] 147 (0, 0))) (hx : n > m - s) :
    Calls Try.prog 110 #[.pointer (some ⟨g, 0, none⟩), .int .i64 n, .int .i64 t] W fun e' w' => e' = .returned (.bool false) ∧ Hp S w w' (Lh.set i (g, Obj.cells #[.slice A l.length c, .int .i64 p, .int .i64 s, .int .i64 m, .int .i64 2, .int .i64 t] 147 (0, 0))) := by
  have hms : wrap64 (m - s) = m - s := IntWalk.wrap64_in _ (by omega)
  refine (lz_reader_room.calls A c g l p s m e b n t false p s m 2 t w0 W (isS hC hge H i hi) (H.belowAt hb0 hS) (by unfold lz_reader_room.f; rw [hms, if_pos hx]; rfl)).mono ?_
  rintro e' w' ⟨rfl, h1, h2, h3⟩
  exact ⟨rfl, viaS H (H.belowAt hb0 hS) i hi h1 h2 h3⟩
end
/-- A byte of what came in. -/
theorem byteAt {ad : Addr} {l : List Int} {w0 W : World} (hC : Kd.C (Kd.int .u8) w0 (some ad) l.length l) (hB : Below w0.heap.size w0 W) (i : Int) (h0 : 0 ≤ i) (h1 : i < (l.length : Int)) : W.cell? (ad.add i.toNat) = some (.int .u8 (rd l i)) := by
  obtain ⟨ad', he, hx⟩ := Kd.at_int hC i h0 h1
  cases he
  exact pw_cell_below hB hx
theorem someAd {A : Option Addr} {l : List Int} {w0 : World} (hC : Kd.C (Kd.int .u8) w0 A l.length l) (i : Int) (h0 : 0 ≤ i) (h1 : i < (l.length : Int)) : ∃ ad, A = some ad := by
  obtain ⟨ad', he, _⟩ := Kd.at_int hC i h0 h1
  exact ⟨ad', he⟩
/-- What a call of next answers. -/
def NextPost (A : Option Addr) (c : Nat) (w0 w : World) (g : Nat) (l : List Int) (s m b : Int) : LzR → Ending → World → Prop
  | .bad er at_, e, w' => ∃ (v0 v1 v2 : Value) (p2 s2 : Int) (Lh : List (Nat × Obj)) (i : Nat), (one v0 = true ∧ one v1 = true ∧ one v2 = true) ∧ e = .returned (.tuple #[.agg #[v0, v1, v2], .bool false]) ∧ Hp [g] w w' Lh ∧ Lh[i]? = some (g, Obj.cells #[.slice A l.length c, .int .i64 p2, .int .i64 s2, .int .i64 m, .int .i64 er, .int .i64 at_] 147 (0, 0))
  | .last lit, e, w' => ∃ (A1 : Option Addr) (c1 : Nat) (p2 : Int) (Lh : List (Nat × Obj)) (i : Nat), e = .returned (.tuple #[.agg #[.slice A1 lit.length c1, .int .i64 0, .int .i64 0], .bool true]) ∧ (Kd.C (Kd.int .u8) w0 A1 lit.length lit ∧ lit.length ≤ c1) ∧ Hp [g] w w' Lh ∧ Lh[i]? = some (g, Obj.cells #[.slice A l.length c, .int .i64 p2, .int .i64 (s + lit.length), .int .i64 m, .int .i64 0, .int .i64 b] 147 (0, 0))
  | .more lit off len q, e, w' => ∃ (A1 : Option Addr) (c1 : Nat) (Lh : List (Nat × Obj)) (i : Nat), e = .returned (.tuple #[.agg #[.slice A1 lit.length c1, .int .i64 off, .int .i64 len], .bool true]) ∧ (Kd.C (Kd.int .u8) w0 A1 lit.length lit ∧ lit.length ≤ c1) ∧ Hp [g] w w' Lh ∧ Lh[i]? = some (g, Obj.cells #[.slice A l.length c, .int .i64 q, .int .i64 (s + lit.length + len), .int .i64 m, .int .i64 0, .int .i64 b] 147 (0, 0))

set_option maxHeartbeats 4000000 in
theorem next_calls (A : Option Addr) (c : Nat) (g : Nat) (l : List Int) (p s m b : Int) (w0 w : World) (hI : w.heap[g]? = some (.cells #[.slice A l.length c, .int .i64 p, .int .i64 s, .int .i64 m, .int .i64 0, .int .i64 b] 147 (0, 0))) (hge : w0.heap.size ≤ g) (hC : Kd.C (Kd.int .u8) w0 A l.length l) (hb0 : Below w0.heap.size w0 w) (hl : Bytes l) (hc : l.length ≤ c) (hp0 : 0 ≤ p) (hp1 : p ≤ (l.length : Int)) (hs0 : 0 ≤ s) (hs1 : s ≤ m) (hm : m ≤ 1048576) :
    Calls Try.prog 105 #[.pointer (some ⟨g, 0, none⟩)] w (NextPost A c w0 w g l s m b (lzNext l m p s)) := by
  obtain ⟨r, hr⟩ : ∃ r, lzNext l m p s = r := ⟨_, rfl⟩
  rw [hr]
  unfold lzNext at hr
  have hl1 := hl.1
  have hS : ∀ b ∈ [g], w0.heap.size ≤ b := by simpa using hge
  have aH : Hp [g] w w [(g, Obj.cells #[.slice A l.length c, .int .i64 p, .int .i64 s, .int .i64 m, .int .i64 0, .int .i64 b] 147 (0, 0))] := Hp.start1 hI
  refine FW.enter [.pointer (some ⟨g, 0, none⟩)] 211 Try.func105 rfl rfl (FW.leB (by kernel_rfl)) (fun a0 ha0 => ?_)
  have ha0 : Holds a0 211 [(0, .pointer (some ⟨g, 0, none⟩))] := ha0
  have aH1 := aH.alloc (.cells #[.slice none 0 0, .int .i64 0, .int .i64 0] 113)
  refine FW.plainS  ha0 [0, 2, 3] [.r, .r] (E' := [(0, .pointer (some ⟨g, 0, none⟩)), (2, .pointer (some ⟨w.heap.size, 0, none⟩)), (3, .bool false)]) (w' := (w.alloc (.cells #[.slice none 0 0, .int .i64 0, .int .i64 0] 113))) (qs := []) (by kernel_rfl) trivial (fun a1 ha1 => ?_)
  clear ha0
  generalize w.alloc (.cells #[.slice none 0 0, .int .i64 0, .int .i64 0] 113) = aW1 at aH1 ⊢
  obtain ⟨aB1, hbn⟩ : ∃ b, b = w.heap.size := ⟨_, rfl⟩
  rw [← hbn] at aH1 ha1; clear hbn
  refine FW.plainS  ha1 [0, 2, 3, 4] [.r, .r, .r, .y (.int .i64 p), .r] (E' := [(0, .pointer (some ⟨g, 0, none⟩)), (2, .pointer (some ⟨aB1, 0, none⟩)), (3, .bool false), (4, .int .i64 p)]) (w' := aW1) (qs := [(Instr.loadAt 3 (.pointer (some ⟨g, 1, none⟩))).run Try.prog aW1 = .ok (.int .i64 p) aW1]) (by kernel_rfl) ⟨FW.ld agg3 (aH1.cell 1 1 rfl rfl), trivial⟩ (fun a2 ha2 => ?_)
  clear ha1
  refine FW.seq ?_
  refine FW.quietS (w := aW1) (k := 10) (pf := fun am1 => [(Instr.loadAt 3 (.pointer (some ⟨g, 1, none⟩))).run Try.prog (aW1.drewN am1) = .ok (.int .i64 p) (aW1.drewN am1), (Instr.loadAt 22 (.pointer (some ⟨g, 0, none⟩))).run Try.prog (aW1.drewN am1) = .ok (.slice A l.length c) (aW1.drewN am1)]) (vs := [.pointer (some ⟨g, 0, none⟩), .pointer (some ⟨g, 0, none⟩), .pointer (some ⟨g, 1, none⟩), .int .i64 p, .pointer (some ⟨g, 0, none⟩), .pointer (some ⟨g, 0, none⟩), .pointer (some ⟨g, 0, none⟩), .slice A l.length c, .int .i64 (l.length : Int), .bool (p == (l.length : Int))]) (E' := [(0, .pointer (some ⟨g, 0, none⟩)), (2, .pointer (some ⟨aB1, 0, none⟩)), (3, .bool false), (4, .int .i64 p), (20, .bool (p == (l.length : Int)))]) (by kernel_rfl) (by kernel_rfl) ha2 [0, 2, 3, 4, 20] [.r, .r, .r, .y (.int .i64 p), .r, .r, .r, .y (.slice A l.length c), .r, .r] (fun am1 => by kernel_rfl) (fun am1 => ⟨FW.ld agg3 ((aH1.drewN am1).cell 1 1 rfl rfl), FW.ld agg22 ((aH1.drewN am1).cell 1 0 rfl rfl), trivial⟩) (fun am1 a3 ha3 => ?_)
  have aHD1 := aH1.drewN am1
  generalize aW1.drewN am1 = aD1 at aHD1 ⊢
  clear ha2
  by_cases c1 : p = (l.length : Int)
  · rw [if_pos c1] at hr
    subst hr
    refine FW.condLT ha3 rfl (beq_iff_eq.mpr c1) ?_
    refine FW.heldStartS (S := fun sw1 => FW.All [(Instr.loadAt 113 (.pointer (some ⟨aB1, 0, none⟩))).run Try.prog sw1 = .ok (.agg #[.slice none 0 0, .int .i64 0, .int .i64 0]) sw1, (Instr.loadAt 22 (.pointer (some ⟨g, 0, none⟩))).run Try.prog sw1 = .ok (.slice A l.length c) sw1]) (by kernel_rfl) ?_
    have aHE1 := aHD1.drew
    generalize aD1.drew = aE1 at aHE1 ⊢
    refine FW.held 3 (by kernel_rfl) (by repeat (first | exact FW.PanicOk.body _ _ _ | apply FW.PanicOk.then | apply FW.PanicOk.inBlock | apply FW.PanicOk.noGoto)) ⟨FW.ld_agg (off := 0) agg113 size113 (aHE1.has 0 _ _ rfl) (FW.leB (by kernel_rfl)) (by kernel_rfl), FW.ld agg22 (aHE1.cell 1 0 rfl rfl), trivial⟩ ha3 [0, 2, 3, 4, 20, 21, 22, 23, 24, 25, 26, 27] [(0, .y (.agg #[.slice none 0 0, .int .i64 0, .int .i64 0])), (1, .r), (2, .r), (3, .r), (4, .r), (5, .y (.slice A l.length c)), (6, .r)] (by kernel_rfl) (pf := fun sw1 => [(Instr.loadAt 113 (.pointer (some ⟨aB1, 0, none⟩))).run Try.prog sw1 = .ok (.agg #[.slice none 0 0, .int .i64 0, .int .i64 0]) sw1, (Instr.loadAt 22 (.pointer (some ⟨g, 0, none⟩))).run Try.prog sw1 = .ok (.slice A l.length c) sw1]) (vs := [.agg #[.slice none 0 0, .int .i64 0, .int .i64 0], .pointer (some ⟨g, 0, none⟩), .pointer (some ⟨g, 0, none⟩), .pointer (some ⟨g, 0, none⟩), .pointer (some ⟨g, 0, none⟩), .slice A l.length c, .int .i64 (l.length : Int)]) (k := 7) (E' := [(0, .pointer (some ⟨g, 0, none⟩)), (2, .pointer (some ⟨aB1, 0, none⟩)), (3, .bool false), (4, .int .i64 p), (20, .bool (p == (l.length : Int))), (21, .agg #[.slice none 0 0, .int .i64 0, .int .i64 0]), (22, .pointer (some ⟨g, 0, none⟩)), (23, .pointer (some ⟨g, 0, none⟩)), (24, .pointer (some ⟨g, 0, none⟩)), (25, .pointer (some ⟨g, 0, none⟩)), (26, .slice A l.length c), (27, .int .i64 (l.length : Int))]) (ls' := #[true, true, true, true, true, true, true, false, false, false]) (fun sw1 => by kernel_rfl) (fun sw1 hS => ⟨hS.1, hS.2.1, trivial⟩) (fun a4 ha4 => ?_)
    clear ha3
    refine FW.heldCall ha4 7 (some 28) 108 #[.pointer (some ⟨g, 0, none⟩), .int .i64 6, .int .i64 (l.length : Int)] (by kernel_rfl) (by kernel_rfl) (by kernel_rfl) (by kernel_rfl) (by kernel_rfl) (by kernel_rfl) (by kernel_rfl) ?_
    refine (fail_hp 6 (l.length : Int) hC hge hb0 hS aHE1 1 rfl).mono ?_
    rintro e cW1 ⟨rfl, cH1⟩
    replace cH1 : Hp [g] w cW1 [(aB1, .cells #[.slice none 0 0, .int .i64 0, .int .i64 0] 113 (0, 0)), (g, .cells #[.slice A l.length c, .int .i64 p, .int .i64 s, .int .i64 m, .int .i64 6, .int .i64 (l.length : Int)] 147 (0, 0))] := cH1
    refine ⟨_, rfl, ⟨FW.ld_agg (off := 0) agg113 size113 (cH1.has 0 _ _ rfl) (FW.leB (by kernel_rfl)) (by kernel_rfl), FW.ld agg22 (cH1.cell 1 0 rfl rfl), trivial⟩, fun a5 ha5 => ?_⟩
    clear ha4
    replace ha5 : Holds a5 211 [(0, .pointer (some ⟨g, 0, none⟩)), (2, .pointer (some ⟨aB1, 0, none⟩)), (3, .bool false), (4, .int .i64 p), (20, .bool (p == (l.length : Int))), (21, .agg #[.slice none 0 0, .int .i64 0, .int .i64 0]), (22, .pointer (some ⟨g, 0, none⟩)), (23, .pointer (some ⟨g, 0, none⟩)), (24, .pointer (some ⟨g, 0, none⟩)), (25, .pointer (some ⟨g, 0, none⟩)), (26, .slice A l.length c), (27, .int .i64 (l.length : Int)), (28, .bool false)] := FW.Holds.mono ha5 (FW.proj_look (ks := [0, 2, 3, 4, 20, 21, 22, 23, 24, 25, 26, 27, 28]) (by kernel_rfl))
    obtain ⟨aW2, aS2, aH2, hon⟩ := FW.Hp.store (P := Try.prog) cH1 0 0 113 (.agg #[.slice none 0 0, .int .i64 0, .int .i64 0]) 3 rfl size113 rfl (by simp [Value.cells, FW.one_int, FW.one_bool, FW.one_slice, FW.one_ptr, FW.one_str, FW.one_float, FW.one_func, FW.one_nilf, FW.one_map]) (FW.leB (by kernel_rfl))
    clear hon
    replace aH2 : FW.Hp [g] w aW2 [(aB1, .cells #[.slice none 0 0, .int .i64 0, .int .i64 0] 113 (0, 0)), (g, .cells #[.slice A l.length c, .int .i64 p, .int .i64 s, .int .i64 m, .int .i64 6, .int .i64 (l.length : Int)] 147 (0, 0))] := aH2
    refine FW.heldSt aW2 ha5 8 113 (.pointer (some ⟨aB1, 0, none⟩)) (.agg #[.slice none 0 0, .int .i64 0, .int .i64 0]) (by kernel_rfl) (by kernel_rfl) (by kernel_rfl) (by kernel_rfl) (by kernel_rfl) (by kernel_rfl) aS2 ⟨FW.ld_agg (off := 0) agg113 size113 (aH2.has 0 _ _ rfl) (FW.leB (by kernel_rfl)) (by kernel_rfl), FW.ld agg22 (aH2.cell 1 0 rfl rfl), trivial⟩ (fun a6 ha6 => ?_)
    clear ha5
    refine FW.held 0 (by kernel_rfl) (by repeat (first | exact FW.PanicOk.body _ _ _ | apply FW.PanicOk.then | apply FW.PanicOk.inBlock | apply FW.PanicOk.noGoto)) ⟨FW.ld_agg (off := 0) agg113 size113 (aH2.has 0 _ _ rfl) (FW.leB (by kernel_rfl)) (by kernel_rfl), FW.ld agg22 (aH2.cell 1 0 rfl rfl), trivial⟩ ha6 [0, 2, 3, 4, 20, 21, 22, 23, 24, 25, 26, 27, 28] [(9, .r)] (by kernel_rfl) (pf := fun sw1 => []) (vs := [.bool false]) (k := 1) (E' := [(0, .pointer (some ⟨g, 0, none⟩)), (2, .pointer (some ⟨aB1, 0, none⟩)), (3, .bool false), (4, .int .i64 p), (20, .bool (p == (l.length : Int))), (21, .agg #[.slice none 0 0, .int .i64 0, .int .i64 0]), (22, .pointer (some ⟨g, 0, none⟩)), (23, .pointer (some ⟨g, 0, none⟩)), (24, .pointer (some ⟨g, 0, none⟩)), (25, .pointer (some ⟨g, 0, none⟩)), (26, .slice A l.length c), (27, .int .i64 (l.length : Int)), (28, .bool false)]) (ls' := #[true, true, true, true, true, true, true, true, true, true]) (fun sw1 => by kernel_rfl) (fun sw1 hS => trivial) (fun a7 ha7 => ?_)
    clear ha6
    refine FW.heldDoneS (by kernel_rfl) ?_
    replace ha7 : Holds a7 211 [(0, .pointer (some ⟨g, 0, none⟩)), (2, .pointer (some ⟨aB1, 0, none⟩)), (3, .bool false), (4, .int .i64 p), (20, .bool (p == (l.length : Int)))] := FW.Holds.mono ha7 (FW.proj_look (ks := [0, 2, 3, 4, 20]) (by kernel_rfl))
    refine wp_ret ?_
    refine FW.retc1 ha7 rfl rfl (FW.ld_agg (vs := #[.slice none 0 0, .int .i64 0, .int .i64 0]) (off := 0) agg113 size113 (aH2.has 0 _ _ rfl) (FW.leB (by kernel_rfl)) (by kernel_rfl)) rfl ?_
    exact ⟨_, _, _, _, _, _, 1, ⟨rfl, rfl, rfl⟩, rfl, aH2, rfl⟩
  · rw [if_neg c1] at hr
    refine FW.condLF ha3 rfl (beq_eq_false_iff_ne.mpr c1) ?_
    show Code.wp _ _ _ _ _
    obtain ⟨ad, rfl⟩ := someAd hC p hp0 (by omega)
    have hT := hl.at_ p
    refine FW.quietS (w := aD1) (k := 12) (pf := fun am2 => [(Instr.loadAt 22 (.pointer (some ⟨g, 0, none⟩))).run Try.prog (aD1.drewN am2) = .ok (.slice (some ad) l.length c) (aD1.drewN am2), (Instr.loadAt 3 (.pointer (some ⟨g, 1, none⟩))).run Try.prog (aD1.drewN am2) = .ok (.int .i64 p) (aD1.drewN am2), (Instr.indexAt 22 (.slice (some ad) l.length c) (.int .i64 p)).run Try.prog (aD1.drewN am2) = .ok (.pointer (some (ad.add p.toNat))) (aD1.drewN am2), (Instr.loadAt 5 (.pointer (some (ad.add p.toNat)))).run Try.prog (aD1.drewN am2) = .ok (.int .u8 (rd l p)) (aD1.drewN am2), (.int .i64 (IntKind.wrap .i64 (rd l p)) : Value) = .int .i64 (rd l p)]) (vs := [.pointer (some ⟨g, 0, none⟩), .pointer (some ⟨g, 0, none⟩), .pointer (some ⟨g, 0, none⟩), .slice (some ad) l.length c, .pointer (some ⟨g, 0, none⟩), .pointer (some ⟨g, 0, none⟩), .pointer (some ⟨g, 1, none⟩), .int .i64 p, .pointer (some (ad.add p.toNat)), .int .u8 (rd l p), .int .i64 (rd l p), .int .i64 (rd l p)]) (E' := [(0, .pointer (some ⟨g, 0, none⟩)), (2, .pointer (some ⟨aB1, 0, none⟩)), (3, .bool false), (4, .int .i64 p), (5, .int .i64 (rd l p)), (20, .bool (p == (l.length : Int)))]) (by kernel_rfl) (by kernel_rfl) ha3 [0, 2, 3, 4, 5, 20] [.r, .r, .r, .y (.slice (some ad) l.length c), .r, .r, .r, .y (.int .i64 p), .y (.pointer (some (ad.add p.toNat))), .y (.int .u8 (rd l p)), .e (.int .i64 (rd l p)), .r] (fun am2 => by kernel_rfl) (fun am2 => ⟨FW.ld agg22 ((aHD1.drewN am2).cell 1 0 rfl rfl), FW.ld agg3 ((aHD1.drewN am2).cell 1 1 rfl rfl), ixB hp0 (by omega), FW.ld agg5 (byteAt hC (aHD1.belowAt hb0 hS) p hp0 (by omega)), FW.nowrap (by omega), trivial⟩) (fun am2 a4 ha4 => ?_)
    have aHD2 := aHD1.drewN am2
    generalize aD1.drewN am2 = aD2 at aHD2 ⊢
    clear ha3
    obtain ⟨aW2, aS2, aH2, hon⟩ := FW.Hp.store (P := Try.prog) aHD2 1 1 3 (.int .i64 (p + 1)) 1 rfl size3 rfl (by simp [Value.cells, FW.one_int, FW.one_bool, FW.one_slice, FW.one_ptr, FW.one_str, FW.one_float, FW.one_func, FW.one_nilf, FW.one_map]) (FW.leB (by kernel_rfl))
    clear hon
    replace aH2 : FW.Hp [g] w aW2 [(aB1, .cells #[.slice none 0 0, .int .i64 0, .int .i64 0] 113 (0, 0)), (g, .cells #[.slice (some ad) l.length c, .int .i64 (p + 1), .int .i64 s, .int .i64 m, .int .i64 0, .int .i64 b] 147 (0, 0))] := aH2
    refine FW.plainS  ha4 [0, 2, 3, 4, 5, 20] [.r, .r, .r, .y (.int .i64 p), .e (.int .i64 (p + 1)), .r, .r, .s aW2] (E' := [(0, .pointer (some ⟨g, 0, none⟩)), (2, .pointer (some ⟨aB1, 0, none⟩)), (3, .bool false), (4, .int .i64 p), (5, .int .i64 (rd l p)), (20, .bool (p == (l.length : Int)))]) (w' := aW2) (qs := [(Instr.storeAt 3 (.pointer (some ⟨g, 1, none⟩)) (.int .i64 (p + 1))).run Try.prog aD2 = .ok () aW2, (.int .i64 (IntKind.wrap .i64 (p + 1)) : Value) = .int .i64 (p + 1), (Instr.loadAt 3 (.pointer (some ⟨g, 1, none⟩))).run Try.prog aD2 = .ok (.int .i64 p) aD2]) (by kernel_rfl) ⟨aS2, FW.nowrap (by omega), FW.ld agg3 (aHD2.cell 1 1 rfl rfl), trivial⟩ (fun a5 ha5 => ?_)
    clear ha4
    refine FW.plainToS 3 ha5 [0, 2, 3, 4, 5, 20, 48, 49, 50] [.r, .r, .e (.int .i64 (rd l p / 16))] (E' := [(0, .pointer (some ⟨g, 0, none⟩)), (2, .pointer (some ⟨aB1, 0, none⟩)), (3, .bool false), (4, .int .i64 p), (5, .int .i64 (rd l p)), (20, .bool (p == (l.length : Int))), (48, .pointer (some ⟨g, 0, none⟩)), (49, .int .i64 (rd l p)), (50, .int .i64 (rd l p / 16))]) (w' := aW2) (qs := [(.int .i64 (Int.fdiv (rd l p) (2 ^ 4)) : Value) = .int .i64 (rd l p / 16)]) (by kernel_rfl) ⟨FW.shr, trivial⟩ (fun a6 ha6 => ?_)
    clear ha5
    rcases hL : lenF l (rd l p / 16) (p + 1) with _ | ⟨n, k⟩
    · rw [hL] at hr
      dsimp only at hr
      subst hr
      refine FW.callAt ha6 109 #[.pointer (some ⟨g, 0, none⟩), .int .i64 (rd l p / 16)] (by kernel_rfl) (by kernel_rfl) (by kernel_rfl) (by kernel_rfl) ?_
      refine (lengthN_hp (rd l p / 16) hl (by omega) (by omega) (by omega) (by omega) hC hge hb0 hS aH2 1 rfl hL).mono ?_
      rintro e cW2 ⟨rfl, cH2⟩
      refine ⟨_, rfl, fun a7 ha7 => ?_⟩
      replace ha7 : Holds a7 211 [(51, .tuple #[.int .i64 0, .bool false]), (0, .pointer (some ⟨g, 0, none⟩)), (2, .pointer (some ⟨aB1, 0, none⟩)), (3, .bool false), (4, .int .i64 p), (5, .int .i64 (rd l p)), (20, .bool (p == (l.length : Int))), (48, .pointer (some ⟨g, 0, none⟩)), (49, .int .i64 (rd l p)), (50, .int .i64 (rd l p / 16))] := ha7
      clear ha6
      replace cH2 : Hp [g] w cW2 [(aB1, .cells #[.slice none 0 0, .int .i64 0, .int .i64 0] 113 (0, 0)), (g, .cells #[.slice (some ad) l.length c, .int .i64 l.length, .int .i64 s, .int .i64 m, .int .i64 6, .int .i64 l.length] 147 (0, 0))] := cH2
      refine FW.listEndS  ha7 [0, 2, 3, 4, 5, 6, 20] [.r, .r, .r, .r, .r] (E' := [(0, .pointer (some ⟨g, 0, none⟩)), (2, .pointer (some ⟨aB1, 0, none⟩)), (3, .bool false), (4, .int .i64 p), (5, .int .i64 (rd l p)), (6, .int .i64 0), (20, .bool (p == (l.length : Int)))]) (w' := cW2) (qs := []) (by kernel_rfl) trivial (fun a8 ha8 => ?_)
      clear ha7
      refine FW.seq ?_
      refine FW.plainS  ha8 [0, 2, 3, 4, 5, 6, 20, 62] [.r, .r, .r, .r, .r, .r, .r, .r, .r] (E' := [(0, .pointer (some ⟨g, 0, none⟩)), (2, .pointer (some ⟨aB1, 0, none⟩)), (3, .bool false), (4, .int .i64 p), (5, .int .i64 (rd l p)), (6, .int .i64 0), (20, .bool (p == (l.length : Int))), (62, .bool true)]) (w' := cW2) (qs := []) (by kernel_rfl) trivial (fun a9 ha9 => ?_)
      clear ha8
      refine FW.condLT ha9 rfl (rfl) ?_
      obtain ⟨aW3, aS3, aH3, hon⟩ := FW.Hp.store (P := Try.prog) cH2 0 0 113 (.agg #[.slice none 0 0, .int .i64 0, .int .i64 0]) 3 rfl size113 rfl (by simp [Value.cells, FW.one_int, FW.one_bool, FW.one_slice, FW.one_ptr, FW.one_str, FW.one_float, FW.one_func, FW.one_nilf, FW.one_map]) (FW.leB (by kernel_rfl))
      clear hon
      replace aH3 : FW.Hp [g] w aW3 [(aB1, .cells #[.slice none 0 0, .int .i64 0, .int .i64 0] 113 (0, 0)), (g, .cells #[.slice (some ad) l.length c, .int .i64 l.length, .int .i64 s, .int .i64 m, .int .i64 6, .int .i64 l.length] 147 (0, 0))] := aH3
      refine FW.plainS  ha9 [0, 2, 3, 4, 5, 6, 20, 62] [.y (.agg #[.slice none 0 0, .int .i64 0, .int .i64 0]), .s aW3, .r] (E' := [(0, .pointer (some ⟨g, 0, none⟩)), (2, .pointer (some ⟨aB1, 0, none⟩)), (3, .bool false), (4, .int .i64 p), (5, .int .i64 (rd l p)), (6, .int .i64 0), (20, .bool (p == (l.length : Int))), (62, .bool true)]) (w' := aW3) (qs := [(Instr.storeAt 113 (.pointer (some ⟨aB1, 0, none⟩)) (.agg #[.slice none 0 0, .int .i64 0, .int .i64 0])).run Try.prog cW2 = .ok () aW3, (Instr.loadAt 113 (.pointer (some ⟨aB1, 0, none⟩))).run Try.prog cW2 = .ok (.agg #[.slice none 0 0, .int .i64 0, .int .i64 0]) cW2]) (by kernel_rfl) ⟨aS3, FW.ld_agg (off := 0) agg113 size113 (cH2.has 0 _ _ rfl) (FW.leB (by kernel_rfl)) (by kernel_rfl), trivial⟩ (fun a10 ha10 => ?_)
      clear ha9
      refine wp_ret ?_
      refine FW.retc1 ha10 rfl rfl (FW.ld_agg (vs := #[.slice none 0 0, .int .i64 0, .int .i64 0]) (off := 0) agg113 size113 (aH3.has 0 _ _ rfl) (FW.leB (by kernel_rfl)) (by kernel_rfl)) rfl ?_
      exact ⟨_, _, _, _, _, _, 1, ⟨rfl, rfl, rfl⟩, rfl, aH3, rfl⟩
    · rw [hL] at hr
      dsimp only at hr
      obtain ⟨hn0, hk0, hk1, hn1⟩ := lenF_le hl (by omega) (by omega) (by omega) hL
      refine FW.callAt ha6 109 #[.pointer (some ⟨g, 0, none⟩), .int .i64 (rd l p / 16)] (by kernel_rfl) (by kernel_rfl) (by kernel_rfl) (by kernel_rfl) ?_
      refine (length_hp (rd l p / 16) hl (by omega) (by omega) (by omega) (by omega) hC hge hb0 hS aH2 1 rfl n k hL).mono ?_
      rintro e cW2 ⟨rfl, cH2⟩
      refine ⟨_, rfl, fun a7 ha7 => ?_⟩
      replace ha7 : Holds a7 211 [(51, .tuple #[.int .i64 n, .bool true]), (0, .pointer (some ⟨g, 0, none⟩)), (2, .pointer (some ⟨aB1, 0, none⟩)), (3, .bool false), (4, .int .i64 p), (5, .int .i64 (rd l p)), (20, .bool (p == (l.length : Int))), (48, .pointer (some ⟨g, 0, none⟩)), (49, .int .i64 (rd l p)), (50, .int .i64 (rd l p / 16))] := ha7
      clear ha6
      replace cH2 : Hp [g] w cW2 [(aB1, .cells #[.slice none 0 0, .int .i64 0, .int .i64 0] 113 (0, 0)), (g, .cells #[.slice (some ad) l.length c, .int .i64 k, .int .i64 s, .int .i64 m, .int .i64 0, .int .i64 b] 147 (0, 0))] := cH2
      refine FW.listEndS  ha7 [0, 2, 3, 4, 5, 6, 20] [.r, .r, .r, .r, .r] (E' := [(0, .pointer (some ⟨g, 0, none⟩)), (2, .pointer (some ⟨aB1, 0, none⟩)), (3, .bool true), (4, .int .i64 p), (5, .int .i64 (rd l p)), (6, .int .i64 n), (20, .bool (p == (l.length : Int)))]) (w' := cW2) (qs := []) (by kernel_rfl) trivial (fun a8 ha8 => ?_)
      clear ha7
      refine FW.seq ?_
      refine FW.plainToS 6 ha8 [0, 2, 3, 4, 5, 6, 20, 54, 55, 56, 57, 58, 59] [.r, .r, .r, .r, .r, .r] (E' := [(0, .pointer (some ⟨g, 0, none⟩)), (2, .pointer (some ⟨aB1, 0, none⟩)), (3, .bool true), (4, .int .i64 p), (5, .int .i64 (rd l p)), (6, .int .i64 n), (20, .bool (p == (l.length : Int))), (54, .bool true), (55, .bool false), (56, .bool false), (57, .pointer (some ⟨g, 0, none⟩)), (58, .int .i64 n), (59, .int .i64 p)]) (w' := cW2) (qs := []) (by kernel_rfl) trivial (fun a9 ha9 => ?_)
      clear ha8
      by_cases c2 : n > m - s
      · rw [if_pos c2] at hr
        subst hr
        refine FW.callAt ha9 110 #[.pointer (some ⟨g, 0, none⟩), .int .i64 n, .int .i64 p] (by kernel_rfl) (by kernel_rfl) (by kernel_rfl) (by kernel_rfl) ?_
        refine (roomN_hp n p hs0 hs1 hm hC hge hb0 hS cH2 1 rfl c2).mono ?_
        rintro e cW3 ⟨rfl, cH3⟩
        refine ⟨_, rfl, fun a10 ha10 => ?_⟩
        replace ha10 : Holds a10 211 [(60, .bool false), (0, .pointer (some ⟨g, 0, none⟩)), (2, .pointer (some ⟨aB1, 0, none⟩)), (3, .bool true), (4, .int .i64 p), (5, .int .i64 (rd l p)), (6, .int .i64 n), (20, .bool (p == (l.length : Int))), (54, .bool true), (55, .bool false), (56, .bool false), (57, .pointer (some ⟨g, 0, none⟩)), (58, .int .i64 n), (59, .int .i64 p)] := ha10
        clear ha9
        replace cH3 : Hp [g] w cW3 [(aB1, .cells #[.slice none 0 0, .int .i64 0, .int .i64 0] 113 (0, 0)), (g, .cells #[.slice (some ad) l.length c, .int .i64 k, .int .i64 s, .int .i64 m, .int .i64 2, .int .i64 p] 147 (0, 0))] := cH3
        refine FW.listEndS  ha10 [0, 2, 3, 4, 5, 6, 20, 62] [.r, .r] (E' := [(0, .pointer (some ⟨g, 0, none⟩)), (2, .pointer (some ⟨aB1, 0, none⟩)), (3, .bool true), (4, .int .i64 p), (5, .int .i64 (rd l p)), (6, .int .i64 n), (20, .bool (p == (l.length : Int))), (62, .bool true)]) (w' := cW3) (qs := []) (by kernel_rfl) trivial (fun a11 ha11 => ?_)
        clear ha10
        refine FW.condLT ha11 rfl (rfl) ?_
        obtain ⟨aW3, aS3, aH3, hon⟩ := FW.Hp.store (P := Try.prog) cH3 0 0 113 (.agg #[.slice none 0 0, .int .i64 0, .int .i64 0]) 3 rfl size113 rfl (by simp [Value.cells, FW.one_int, FW.one_bool, FW.one_slice, FW.one_ptr, FW.one_str, FW.one_float, FW.one_func, FW.one_nilf, FW.one_map]) (FW.leB (by kernel_rfl))
        clear hon
        replace aH3 : FW.Hp [g] w aW3 [(aB1, .cells #[.slice none 0 0, .int .i64 0, .int .i64 0] 113 (0, 0)), (g, .cells #[.slice (some ad) l.length c, .int .i64 k, .int .i64 s, .int .i64 m, .int .i64 2, .int .i64 p] 147 (0, 0))] := aH3
        refine FW.plainS  ha11 [0, 2, 3, 4, 5, 6, 20, 62] [.y (.agg #[.slice none 0 0, .int .i64 0, .int .i64 0]), .s aW3, .r] (E' := [(0, .pointer (some ⟨g, 0, none⟩)), (2, .pointer (some ⟨aB1, 0, none⟩)), (3, .bool false), (4, .int .i64 p), (5, .int .i64 (rd l p)), (6, .int .i64 n), (20, .bool (p == (l.length : Int))), (62, .bool true)]) (w' := aW3) (qs := [(Instr.storeAt 113 (.pointer (some ⟨aB1, 0, none⟩)) (.agg #[.slice none 0 0, .int .i64 0, .int .i64 0])).run Try.prog cW3 = .ok () aW3, (Instr.loadAt 113 (.pointer (some ⟨aB1, 0, none⟩))).run Try.prog cW3 = .ok (.agg #[.slice none 0 0, .int .i64 0, .int .i64 0]) cW3]) (by kernel_rfl) ⟨aS3, FW.ld_agg (off := 0) agg113 size113 (cH3.has 0 _ _ rfl) (FW.leB (by kernel_rfl)) (by kernel_rfl), trivial⟩ (fun a12 ha12 => ?_)
        clear ha11
        refine wp_ret ?_
        refine FW.retc1 ha12 rfl rfl (FW.ld_agg (vs := #[.slice none 0 0, .int .i64 0, .int .i64 0]) (off := 0) agg113 size113 (aH3.has 0 _ _ rfl) (FW.leB (by kernel_rfl)) (by kernel_rfl)) rfl ?_
        exact ⟨_, _, _, _, _, _, 1, ⟨rfl, rfl, rfl⟩, rfl, aH3, rfl⟩
      · rw [if_neg c2] at hr
        refine FW.callAt ha9 110 #[.pointer (some ⟨g, 0, none⟩), .int .i64 n, .int .i64 p] (by kernel_rfl) (by kernel_rfl) (by kernel_rfl) (by kernel_rfl) ?_
        refine (room_hp n p hs0 hs1 hm (by omega) hC hge hb0 hS cH2 1 rfl c2).mono ?_
        rintro e cW3 ⟨rfl, cH3⟩
        refine ⟨_, rfl, fun a10 ha10 => ?_⟩
        replace ha10 : Holds a10 211 [(60, .bool true), (0, .pointer (some ⟨g, 0, none⟩)), (2, .pointer (some ⟨aB1, 0, none⟩)), (3, .bool true), (4, .int .i64 p), (5, .int .i64 (rd l p)), (6, .int .i64 n), (20, .bool (p == (l.length : Int))), (54, .bool true), (55, .bool false), (56, .bool false), (57, .pointer (some ⟨g, 0, none⟩)), (58, .int .i64 n), (59, .int .i64 p)] := ha10
        clear ha9
        replace cH3 : Hp [g] w cW3 [(aB1, .cells #[.slice none 0 0, .int .i64 0, .int .i64 0] 113 (0, 0)), (g, .cells #[.slice (some ad) l.length c, .int .i64 k, .int .i64 (s + n), .int .i64 m, .int .i64 0, .int .i64 b] 147 (0, 0))] := cH3
        refine FW.listEndS  ha10 [0, 2, 3, 4, 5, 6, 20, 62] [.r, .r] (E' := [(0, .pointer (some ⟨g, 0, none⟩)), (2, .pointer (some ⟨aB1, 0, none⟩)), (3, .bool true), (4, .int .i64 p), (5, .int .i64 (rd l p)), (6, .int .i64 n), (20, .bool (p == (l.length : Int))), (62, .bool false)]) (w' := cW3) (qs := []) (by kernel_rfl) trivial (fun a11 ha11 => ?_)
        clear ha10
        refine FW.condLF ha11 rfl (rfl) ?_
        show Code.wp _ _ _ _ _
        refine FW.seq ?_
        refine FW.quietS (w := cW3) (k := 12) (pf := fun am3 => [(Instr.loadAt 22 (.pointer (some ⟨g, 0, none⟩))).run Try.prog (cW3.drewN am3) = .ok (.slice (some ad) l.length c) (cW3.drewN am3), (Instr.loadAt 3 (.pointer (some ⟨g, 1, none⟩))).run Try.prog (cW3.drewN am3) = .ok (.int .i64 k) (cW3.drewN am3), (.int .i64 (IntKind.wrap .i64 ((l.length : Int) - k)) : Value) = .int .i64 ((l.length : Int) - k)]) (vs := [.int .i64 n, .pointer (some ⟨g, 0, none⟩), .pointer (some ⟨g, 0, none⟩), .pointer (some ⟨g, 0, none⟩), .slice (some ad) l.length c, .int .i64 (l.length : Int), .pointer (some ⟨g, 0, none⟩), .pointer (some ⟨g, 0, none⟩), .pointer (some ⟨g, 1, none⟩), .int .i64 k, .int .i64 ((l.length : Int) - k), .bool (decide (n > (l.length : Int) - k))]) (E' := [(0, .pointer (some ⟨g, 0, none⟩)), (2, .pointer (some ⟨aB1, 0, none⟩)), (3, .bool true), (4, .int .i64 p), (5, .int .i64 (rd l p)), (6, .int .i64 n), (20, .bool (p == (l.length : Int))), (62, .bool false), (75, .bool (decide (n > (l.length : Int) - k)))]) (by kernel_rfl) (by kernel_rfl) ha11 [0, 2, 3, 4, 5, 6, 20, 62, 75] [.r, .r, .r, .r, .y (.slice (some ad) l.length c), .r, .r, .r, .r, .y (.int .i64 k), .e (.int .i64 ((l.length : Int) - k)), .r] (fun am3 => by kernel_rfl) (fun am3 => ⟨FW.ld agg22 ((cH3.drewN am3).cell 1 0 rfl rfl), FW.ld agg3 ((cH3.drewN am3).cell 1 1 rfl rfl), FW.nowrap (by omega), trivial⟩) (fun am3 a12 ha12 => ?_)
        have aHD3 := cH3.drewN am3
        generalize cW3.drewN am3 = aD3 at aHD3 ⊢
        clear ha11
        by_cases c3 : n > (l.length : Int) - k
        · rw [if_pos c3] at hr
          subst hr
          refine FW.condLT ha12 rfl (decide_eq_true c3) ?_
          refine FW.heldStartS (S := fun sw2 => FW.All [(Instr.loadAt 113 (.pointer (some ⟨aB1, 0, none⟩))).run Try.prog sw2 = .ok (.agg #[.slice none 0 0, .int .i64 0, .int .i64 0]) sw2, (Instr.loadAt 22 (.pointer (some ⟨g, 0, none⟩))).run Try.prog sw2 = .ok (.slice (some ad) l.length c) sw2]) (by kernel_rfl) ?_
          have aHE2 := aHD3.drew
          generalize aD3.drew = aE2 at aHE2 ⊢
          refine FW.held 3 (by kernel_rfl) (by repeat (first | exact FW.PanicOk.body _ _ _ | apply FW.PanicOk.then | apply FW.PanicOk.inBlock | apply FW.PanicOk.noGoto)) ⟨FW.ld_agg (off := 0) agg113 size113 (aHE2.has 0 _ _ rfl) (FW.leB (by kernel_rfl)) (by kernel_rfl), FW.ld agg22 (aHE2.cell 1 0 rfl rfl), trivial⟩ ha12 [0, 2, 3, 4, 5, 6, 20, 62, 75, 76, 77, 78, 79, 80, 81, 82] [(0, .y (.agg #[.slice none 0 0, .int .i64 0, .int .i64 0])), (1, .r), (2, .r), (3, .r), (4, .r), (5, .y (.slice (some ad) l.length c)), (6, .r)] (by kernel_rfl) (pf := fun sw2 => [(Instr.loadAt 113 (.pointer (some ⟨aB1, 0, none⟩))).run Try.prog sw2 = .ok (.agg #[.slice none 0 0, .int .i64 0, .int .i64 0]) sw2, (Instr.loadAt 22 (.pointer (some ⟨g, 0, none⟩))).run Try.prog sw2 = .ok (.slice (some ad) l.length c) sw2]) (vs := [.agg #[.slice none 0 0, .int .i64 0, .int .i64 0], .pointer (some ⟨g, 0, none⟩), .pointer (some ⟨g, 0, none⟩), .pointer (some ⟨g, 0, none⟩), .pointer (some ⟨g, 0, none⟩), .slice (some ad) l.length c, .int .i64 (l.length : Int)]) (k := 7) (E' := [(0, .pointer (some ⟨g, 0, none⟩)), (2, .pointer (some ⟨aB1, 0, none⟩)), (3, .bool true), (4, .int .i64 p), (5, .int .i64 (rd l p)), (6, .int .i64 n), (20, .bool (p == (l.length : Int))), (62, .bool false), (75, .bool (decide (n > (l.length : Int) - k))), (76, .agg #[.slice none 0 0, .int .i64 0, .int .i64 0]), (77, .pointer (some ⟨g, 0, none⟩)), (78, .pointer (some ⟨g, 0, none⟩)), (79, .pointer (some ⟨g, 0, none⟩)), (80, .pointer (some ⟨g, 0, none⟩)), (81, .slice (some ad) l.length c), (82, .int .i64 (l.length : Int))]) (ls' := #[true, true, true, true, true, true, true, false, false, false]) (fun sw2 => by kernel_rfl) (fun sw2 hS => ⟨hS.1, hS.2.1, trivial⟩) (fun a13 ha13 => ?_)
          clear ha12
          refine FW.heldCall ha13 7 (some 83) 108 #[.pointer (some ⟨g, 0, none⟩), .int .i64 6, .int .i64 (l.length : Int)] (by kernel_rfl) (by kernel_rfl) (by kernel_rfl) (by kernel_rfl) (by kernel_rfl) (by kernel_rfl) (by kernel_rfl) ?_
          refine (fail_hp 6 (l.length : Int) hC hge hb0 hS aHE2 1 rfl).mono ?_
          rintro e cW4 ⟨rfl, cH4⟩
          replace cH4 : Hp [g] w cW4 [(aB1, .cells #[.slice none 0 0, .int .i64 0, .int .i64 0] 113 (0, 0)), (g, .cells #[.slice (some ad) l.length c, .int .i64 k, .int .i64 (s + n), .int .i64 m, .int .i64 6, .int .i64 (l.length : Int)] 147 (0, 0))] := cH4
          refine ⟨_, rfl, ⟨FW.ld_agg (off := 0) agg113 size113 (cH4.has 0 _ _ rfl) (FW.leB (by kernel_rfl)) (by kernel_rfl), FW.ld agg22 (cH4.cell 1 0 rfl rfl), trivial⟩, fun a14 ha14 => ?_⟩
          clear ha13
          replace ha14 : Holds a14 211 [(0, .pointer (some ⟨g, 0, none⟩)), (2, .pointer (some ⟨aB1, 0, none⟩)), (3, .bool true), (4, .int .i64 p), (5, .int .i64 (rd l p)), (6, .int .i64 n), (20, .bool (p == (l.length : Int))), (62, .bool false), (75, .bool (decide (n > (l.length : Int) - k))), (76, .agg #[.slice none 0 0, .int .i64 0, .int .i64 0]), (77, .pointer (some ⟨g, 0, none⟩)), (78, .pointer (some ⟨g, 0, none⟩)), (79, .pointer (some ⟨g, 0, none⟩)), (80, .pointer (some ⟨g, 0, none⟩)), (81, .slice (some ad) l.length c), (82, .int .i64 (l.length : Int)), (83, .bool false)] := FW.Holds.mono ha14 (FW.proj_look (ks := [0, 2, 3, 4, 5, 6, 20, 62, 75, 76, 77, 78, 79, 80, 81, 82, 83]) (by kernel_rfl))
          obtain ⟨aW3, aS3, aH3, hon⟩ := FW.Hp.store (P := Try.prog) cH4 0 0 113 (.agg #[.slice none 0 0, .int .i64 0, .int .i64 0]) 3 rfl size113 rfl (by simp [Value.cells, FW.one_int, FW.one_bool, FW.one_slice, FW.one_ptr, FW.one_str, FW.one_float, FW.one_func, FW.one_nilf, FW.one_map]) (FW.leB (by kernel_rfl))
          clear hon
          replace aH3 : FW.Hp [g] w aW3 [(aB1, .cells #[.slice none 0 0, .int .i64 0, .int .i64 0] 113 (0, 0)), (g, .cells #[.slice (some ad) l.length c, .int .i64 k, .int .i64 (s + n), .int .i64 m, .int .i64 6, .int .i64 (l.length : Int)] 147 (0, 0))] := aH3
          refine FW.heldSt aW3 ha14 8 113 (.pointer (some ⟨aB1, 0, none⟩)) (.agg #[.slice none 0 0, .int .i64 0, .int .i64 0]) (by kernel_rfl) (by kernel_rfl) (by kernel_rfl) (by kernel_rfl) (by kernel_rfl) (by kernel_rfl) aS3 ⟨FW.ld_agg (off := 0) agg113 size113 (aH3.has 0 _ _ rfl) (FW.leB (by kernel_rfl)) (by kernel_rfl), FW.ld agg22 (aH3.cell 1 0 rfl rfl), trivial⟩ (fun a15 ha15 => ?_)
          clear ha14
          refine FW.held 0 (by kernel_rfl) (by repeat (first | exact FW.PanicOk.body _ _ _ | apply FW.PanicOk.then | apply FW.PanicOk.inBlock | apply FW.PanicOk.noGoto)) ⟨FW.ld_agg (off := 0) agg113 size113 (aH3.has 0 _ _ rfl) (FW.leB (by kernel_rfl)) (by kernel_rfl), FW.ld agg22 (aH3.cell 1 0 rfl rfl), trivial⟩ ha15 [0, 2, 3, 4, 5, 6, 20, 62, 75, 76, 77, 78, 79, 80, 81, 82, 83] [(9, .r)] (by kernel_rfl) (pf := fun sw2 => []) (vs := [.bool false]) (k := 1) (E' := [(0, .pointer (some ⟨g, 0, none⟩)), (2, .pointer (some ⟨aB1, 0, none⟩)), (3, .bool false), (4, .int .i64 p), (5, .int .i64 (rd l p)), (6, .int .i64 n), (20, .bool (p == (l.length : Int))), (62, .bool false), (75, .bool (decide (n > (l.length : Int) - k))), (76, .agg #[.slice none 0 0, .int .i64 0, .int .i64 0]), (77, .pointer (some ⟨g, 0, none⟩)), (78, .pointer (some ⟨g, 0, none⟩)), (79, .pointer (some ⟨g, 0, none⟩)), (80, .pointer (some ⟨g, 0, none⟩)), (81, .slice (some ad) l.length c), (82, .int .i64 (l.length : Int)), (83, .bool false)]) (ls' := #[true, true, true, true, true, true, true, true, true, true]) (fun sw2 => by kernel_rfl) (fun sw2 hS => trivial) (fun a16 ha16 => ?_)
          clear ha15
          refine FW.heldDoneS (by kernel_rfl) ?_
          replace ha16 : Holds a16 211 [(0, .pointer (some ⟨g, 0, none⟩)), (2, .pointer (some ⟨aB1, 0, none⟩)), (3, .bool false), (4, .int .i64 p), (5, .int .i64 (rd l p)), (6, .int .i64 n), (20, .bool (p == (l.length : Int))), (62, .bool false), (75, .bool (decide (n > (l.length : Int) - k)))] := FW.Holds.mono ha16 (FW.proj_look (ks := [0, 2, 3, 4, 5, 6, 20, 62, 75]) (by kernel_rfl))
          refine wp_ret ?_
          refine FW.retc1 ha16 rfl rfl (FW.ld_agg (vs := #[.slice none 0 0, .int .i64 0, .int .i64 0]) (off := 0) agg113 size113 (aH3.has 0 _ _ rfl) (FW.leB (by kernel_rfl)) (by kernel_rfl)) rfl ?_
          exact ⟨_, _, _, _, _, _, 1, ⟨rfl, rfl, rfl⟩, rfl, aH3, rfl⟩
        · rw [if_neg c3] at hr
          refine FW.condLF ha12 rfl (decide_eq_false c3) ?_
          show Code.wp _ _ _ _ _
          obtain ⟨A1, hA1, hA2, hA3⟩ := slB (some ad) c l k (k + n) (by omega) (by omega) (by omega) hc
          have hyC := hA2 w0 hC
          obtain ⟨y, hy⟩ : ∃ y, y = (l.take (k + n).toNat).drop k.toNat := ⟨_, rfl⟩
          rw [← hy] at hA1 hA3 hyC hr
          have hyl : (y.length : Int) = n := by rw [hy, List.length_drop, List.length_take]; omega
          clear hy hA2
          refine FW.heldStartS (S := fun sw2 => FW.All [(Instr.loadAt 22 (.pointer (some ⟨g, 0, none⟩))).run Try.prog sw2 = .ok (.slice (some ad) l.length c) sw2, (Instr.loadAt 3 (.pointer (some ⟨g, 1, none⟩))).run Try.prog sw2 = .ok (.int .i64 k) sw2, (Instr.loadAt 3 (.pointer (some ⟨g, 1, none⟩))).run Try.prog sw2 = .ok (.int .i64 k) sw2, (.int .i64 (IntKind.wrap .i64 (k + n)) : Value) = .int .i64 (k + n), (Instr.sliceAt 22 (.slice (some ad) l.length c) (some (.int .i64 k)) (some (.int .i64 (k + n))) none).run Try.prog sw2 = .ok (.slice A1 y.length (c - k.toNat)) sw2]) (by kernel_rfl) ?_
          have aHE2 := aHD3.drew
          generalize aD3.drew = aE2 at aHE2 ⊢
          refine FW.held 1 (by kernel_rfl) (by repeat (first | exact FW.PanicOk.body _ _ _ | apply FW.PanicOk.then | apply FW.PanicOk.inBlock | apply FW.PanicOk.noGoto)) ⟨FW.ld agg22 (aHE2.cell 1 0 rfl rfl), FW.ld agg3 (aHE2.cell 1 1 rfl rfl), FW.ld agg3 (aHE2.cell 1 1 rfl rfl), FW.nowrap (by omega), hA1 _, trivial⟩ ha12 [0, 2, 3, 4, 5, 6, 20, 62, 75, 84, 85, 86, 87, 88, 89, 90, 91, 92, 93, 94, 95, 96, 97, 98, 99] [(0, .r), (4, .r), (8, .r), (12, .r), (1, .r), (5, .r), (9, .r), (2, .r), (6, .r), (10, .r), (3, .y (.slice (some ad) l.length c)), (7, .y (.int .i64 k)), (11, .y (.int .i64 k)), (13, .e (.int .i64 (k + n))), (14, .y (.slice A1 y.length (c - k.toNat))), (15, .r)] (by kernel_rfl) (pf := fun sw2 => [(Instr.loadAt 22 (.pointer (some ⟨g, 0, none⟩))).run Try.prog sw2 = .ok (.slice (some ad) l.length c) sw2, (Instr.loadAt 3 (.pointer (some ⟨g, 1, none⟩))).run Try.prog sw2 = .ok (.int .i64 k) sw2, (Instr.loadAt 3 (.pointer (some ⟨g, 1, none⟩))).run Try.prog sw2 = .ok (.int .i64 k) sw2, (.int .i64 (IntKind.wrap .i64 (k + n)) : Value) = .int .i64 (k + n), (Instr.sliceAt 22 (.slice (some ad) l.length c) (some (.int .i64 k)) (some (.int .i64 (k + n))) none).run Try.prog sw2 = .ok (.slice A1 y.length (c - k.toNat)) sw2]) (vs := [.pointer (some ⟨g, 0, none⟩), .pointer (some ⟨g, 0, none⟩), .pointer (some ⟨g, 0, none⟩), .int .i64 n, .pointer (some ⟨g, 0, none⟩), .pointer (some ⟨g, 0, none⟩), .pointer (some ⟨g, 0, none⟩), .pointer (some ⟨g, 0, none⟩), .pointer (some ⟨g, 1, none⟩), .pointer (some ⟨g, 1, none⟩), .slice (some ad) l.length c, .int .i64 k, .int .i64 k, .int .i64 (k + n), .slice A1 y.length (c - k.toNat), .pointer (some ⟨aB1, 0, none⟩)]) (k := 16) (E' := [(0, .pointer (some ⟨g, 0, none⟩)), (2, .pointer (some ⟨aB1, 0, none⟩)), (3, .bool true), (4, .int .i64 p), (5, .int .i64 (rd l p)), (6, .int .i64 n), (20, .bool (p == (l.length : Int))), (62, .bool false), (75, .bool (decide (n > (l.length : Int) - k))), (84, .pointer (some ⟨g, 0, none⟩)), (85, .pointer (some ⟨g, 0, none⟩)), (86, .pointer (some ⟨g, 0, none⟩)), (87, .slice (some ad) l.length c), (88, .pointer (some ⟨g, 0, none⟩)), (89, .pointer (some ⟨g, 0, none⟩)), (90, .pointer (some ⟨g, 1, none⟩)), (91, .int .i64 k), (92, .pointer (some ⟨g, 0, none⟩)), (93, .pointer (some ⟨g, 0, none⟩)), (94, .pointer (some ⟨g, 1, none⟩)), (95, .int .i64 k), (96, .int .i64 n), (97, .int .i64 (k + n)), (98, .slice A1 y.length (c - k.toNat)), (99, .pointer (some ⟨aB1, 0, none⟩))]) (ls' := #[true, true, true, true, true, true, true, true, true, true, true, true, true, true, true, true, false]) (fun sw2 => by kernel_rfl) (fun sw2 hS => ⟨hS.1, hS.2.1, hS.2.1, hS.2.2.2.1, hS.2.2.2.2.1, trivial⟩) (fun a13 ha13 => ?_)
          clear ha12
          obtain ⟨aW3, aS3, aH3, hon⟩ := FW.Hp.store (P := Try.prog) aHE2 0 0 22 (.slice A1 y.length (c - k.toNat)) 1 rfl size22 rfl (by simp [Value.cells, FW.one_int, FW.one_bool, FW.one_slice, FW.one_ptr, FW.one_str, FW.one_float, FW.one_func, FW.one_nilf, FW.one_map]) (FW.leB (by kernel_rfl))
          clear hon
          replace aH3 : FW.Hp [g] w aW3 [(aB1, .cells #[.slice A1 y.length (c - k.toNat), .int .i64 0, .int .i64 0] 113 (0, 0)), (g, .cells #[.slice (some ad) l.length c, .int .i64 k, .int .i64 (s + n), .int .i64 m, .int .i64 0, .int .i64 b] 147 (0, 0))] := aH3
          refine FW.heldSt aW3 ha13 16 22 (.pointer (some ⟨aB1, 0, none⟩)) (.slice A1 y.length (c - k.toNat)) (by kernel_rfl) (by kernel_rfl) (by kernel_rfl) (by kernel_rfl) (by kernel_rfl) (by kernel_rfl) aS3 ⟨FW.ld agg22 (aH3.cell 1 0 rfl rfl), FW.ld agg3 (aH3.cell 1 1 rfl rfl), FW.ld agg3 (aH3.cell 1 1 rfl rfl), FW.nowrap (by omega), hA1 _, trivial⟩ (fun a14 ha14 => ?_)
          clear ha13
          refine FW.heldDoneS (by kernel_rfl) ?_
          replace ha14 : Holds a14 211 [(0, .pointer (some ⟨g, 0, none⟩)), (2, .pointer (some ⟨aB1, 0, none⟩)), (3, .bool true), (4, .int .i64 p), (5, .int .i64 (rd l p)), (6, .int .i64 n), (20, .bool (p == (l.length : Int))), (62, .bool false), (75, .bool (decide (n > (l.length : Int) - k)))] := FW.Holds.mono ha14 (FW.proj_look (ks := [0, 2, 3, 4, 5, 6, 20, 62, 75]) (by kernel_rfl))
          obtain ⟨aW4, aS4, aH4, hon⟩ := FW.Hp.store (P := Try.prog) aH3 1 1 3 (.int .i64 (k + n)) 1 rfl size3 rfl (by simp [Value.cells, FW.one_int, FW.one_bool, FW.one_slice, FW.one_ptr, FW.one_str, FW.one_float, FW.one_func, FW.one_nilf, FW.one_map]) (FW.leB (by kernel_rfl))
          clear hon
          replace aH4 : FW.Hp [g] w aW4 [(aB1, .cells #[.slice A1 y.length (c - k.toNat), .int .i64 0, .int .i64 0] 113 (0, 0)), (g, .cells #[.slice (some ad) l.length c, .int .i64 (k + n), .int .i64 (s + n), .int .i64 m, .int .i64 0, .int .i64 b] 147 (0, 0))] := aH4
          refine FW.plainS  ha14 [0, 2, 3, 4, 5, 6, 20, 62, 75] [.r, .r, .r, .y (.int .i64 k), .r, .e (.int .i64 (k + n)), .r, .r, .s aW4] (E' := [(0, .pointer (some ⟨g, 0, none⟩)), (2, .pointer (some ⟨aB1, 0, none⟩)), (3, .bool true), (4, .int .i64 p), (5, .int .i64 (rd l p)), (6, .int .i64 n), (20, .bool (p == (l.length : Int))), (62, .bool false), (75, .bool (decide (n > (l.length : Int) - k)))]) (w' := aW4) (qs := [(Instr.storeAt 3 (.pointer (some ⟨g, 1, none⟩)) (.int .i64 (k + n))).run Try.prog aW3 = .ok () aW4, (.int .i64 (IntKind.wrap .i64 (k + n)) : Value) = .int .i64 (k + n), (Instr.loadAt 3 (.pointer (some ⟨g, 1, none⟩))).run Try.prog aW3 = .ok (.int .i64 k) aW3]) (by kernel_rfl) ⟨aS4, FW.nowrap (by omega), FW.ld agg3 (aH3.cell 1 1 rfl rfl), trivial⟩ (fun a15 ha15 => ?_)
          clear ha14
          refine FW.seq ?_
          refine FW.quietS (w := aW4) (k := 10) (pf := fun am4 => [(Instr.loadAt 3 (.pointer (some ⟨g, 1, none⟩))).run Try.prog (aW4.drewN am4) = .ok (.int .i64 (k + n)) (aW4.drewN am4), (Instr.loadAt 22 (.pointer (some ⟨g, 0, none⟩))).run Try.prog (aW4.drewN am4) = .ok (.slice (some ad) l.length c) (aW4.drewN am4)]) (vs := [.pointer (some ⟨g, 0, none⟩), .pointer (some ⟨g, 0, none⟩), .pointer (some ⟨g, 1, none⟩), .int .i64 (k + n), .pointer (some ⟨g, 0, none⟩), .pointer (some ⟨g, 0, none⟩), .pointer (some ⟨g, 0, none⟩), .slice (some ad) l.length c, .int .i64 (l.length : Int), .bool ((k + n) == (l.length : Int))]) (E' := [(0, .pointer (some ⟨g, 0, none⟩)), (2, .pointer (some ⟨aB1, 0, none⟩)), (3, .bool true), (4, .int .i64 p), (5, .int .i64 (rd l p)), (6, .int .i64 n), (20, .bool (p == (l.length : Int))), (62, .bool false), (75, .bool (decide (n > (l.length : Int) - k))), (117, .bool ((k + n) == (l.length : Int)))]) (by kernel_rfl) (by kernel_rfl) ha15 [0, 2, 3, 4, 5, 6, 20, 62, 75, 117] [.r, .r, .r, .y (.int .i64 (k + n)), .r, .r, .r, .y (.slice (some ad) l.length c), .r, .r] (fun am4 => by kernel_rfl) (fun am4 => ⟨FW.ld agg3 ((aH4.drewN am4).cell 1 1 rfl rfl), FW.ld agg22 ((aH4.drewN am4).cell 1 0 rfl rfl), trivial⟩) (fun am4 a16 ha16 => ?_)
          have aHD4 := aH4.drewN am4
          generalize aW4.drewN am4 = aD4 at aHD4 ⊢
          clear ha15
          by_cases c4 : k + n = (l.length : Int)
          · rw [if_pos c4] at hr
            subst hr
            refine FW.condLT ha16 rfl (beq_iff_eq.mpr c4) ?_
            obtain ⟨aW5, aS5, aH5, hon⟩ := FW.Hp.store (P := Try.prog) aHD4 0 0 113 (.agg #[.slice A1 y.length (c - k.toNat), .int .i64 0, .int .i64 0]) 3 rfl size113 rfl (by simp [Value.cells, FW.one_int, FW.one_bool, FW.one_slice, FW.one_ptr, FW.one_str, FW.one_float, FW.one_func, FW.one_nilf, FW.one_map]) (FW.leB (by kernel_rfl))
            clear hon
            replace aH5 : FW.Hp [g] w aW5 [(aB1, .cells #[.slice A1 y.length (c - k.toNat), .int .i64 0, .int .i64 0] 113 (0, 0)), (g, .cells #[.slice (some ad) l.length c, .int .i64 (k + n), .int .i64 (s + n), .int .i64 m, .int .i64 0, .int .i64 b] 147 (0, 0))] := aH5
            refine FW.plainS  ha16 [0, 2, 3, 4, 5, 6, 20, 62, 75, 117] [.y (.agg #[.slice A1 y.length (c - k.toNat), .int .i64 0, .int .i64 0]), .s aW5, .r] (E' := [(0, .pointer (some ⟨g, 0, none⟩)), (2, .pointer (some ⟨aB1, 0, none⟩)), (3, .bool true), (4, .int .i64 p), (5, .int .i64 (rd l p)), (6, .int .i64 n), (20, .bool (p == (l.length : Int))), (62, .bool false), (75, .bool (decide (n > (l.length : Int) - k))), (117, .bool ((k + n) == (l.length : Int)))]) (w' := aW5) (qs := [(Instr.storeAt 113 (.pointer (some ⟨aB1, 0, none⟩)) (.agg #[.slice A1 y.length (c - k.toNat), .int .i64 0, .int .i64 0])).run Try.prog aD4 = .ok () aW5, (Instr.loadAt 113 (.pointer (some ⟨aB1, 0, none⟩))).run Try.prog aD4 = .ok (.agg #[.slice A1 y.length (c - k.toNat), .int .i64 0, .int .i64 0]) aD4]) (by kernel_rfl) ⟨aS5, FW.ld_agg (off := 0) agg113 size113 (aHD4.has 0 _ _ rfl) (FW.leB (by kernel_rfl)) (by kernel_rfl), trivial⟩ (fun a17 ha17 => ?_)
            clear ha16
            rw [← hyl] at aH5
            refine wp_ret ?_
            refine FW.retc1 ha17 rfl rfl (FW.ld_agg (vs := #[.slice A1 y.length (c - k.toNat), .int .i64 0, .int .i64 0]) (off := 0) agg113 size113 (aH5.has 0 _ _ rfl) (FW.leB (by kernel_rfl)) (by kernel_rfl)) rfl ?_
            exact ⟨_, _, _, _, 1, rfl, ⟨hyC, hA3⟩, aH5, rfl⟩
          · rw [if_neg c4] at hr
            refine FW.condLF ha16 rfl (beq_eq_false_iff_ne.mpr c4) ?_
            show Code.wp _ _ _ _ _
            refine FW.seq ?_
            refine FW.quietS (w := aD4) (k := 11) (pf := fun am5 => [(Instr.loadAt 22 (.pointer (some ⟨g, 0, none⟩))).run Try.prog (aD4.drewN am5) = .ok (.slice (some ad) l.length c) (aD4.drewN am5), (Instr.loadAt 3 (.pointer (some ⟨g, 1, none⟩))).run Try.prog (aD4.drewN am5) = .ok (.int .i64 (k + n)) (aD4.drewN am5), (.int .i64 (IntKind.wrap .i64 ((l.length : Int) - (k + n))) : Value) = .int .i64 ((l.length : Int) - (k + n))]) (vs := [.pointer (some ⟨g, 0, none⟩), .pointer (some ⟨g, 0, none⟩), .pointer (some ⟨g, 0, none⟩), .slice (some ad) l.length c, .int .i64 (l.length : Int), .pointer (some ⟨g, 0, none⟩), .pointer (some ⟨g, 0, none⟩), .pointer (some ⟨g, 1, none⟩), .int .i64 (k + n), .int .i64 ((l.length : Int) - (k + n)), .bool (decide ((l.length : Int) - (k + n) < 2))]) (E' := [(0, .pointer (some ⟨g, 0, none⟩)), (2, .pointer (some ⟨aB1, 0, none⟩)), (3, .bool true), (4, .int .i64 p), (5, .int .i64 (rd l p)), (6, .int .i64 n), (20, .bool (p == (l.length : Int))), (62, .bool false), (75, .bool (decide (n > (l.length : Int) - k))), (117, .bool ((k + n) == (l.length : Int))), (129, .bool (decide ((l.length : Int) - (k + n) < 2)))]) (by kernel_rfl) (by kernel_rfl) ha16 [0, 2, 3, 4, 5, 6, 20, 62, 75, 117, 129] [.r, .r, .r, .y (.slice (some ad) l.length c), .r, .r, .r, .r, .y (.int .i64 (k + n)), .e (.int .i64 ((l.length : Int) - (k + n))), .r] (fun am5 => by kernel_rfl) (fun am5 => ⟨FW.ld agg22 ((aHD4.drewN am5).cell 1 0 rfl rfl), FW.ld agg3 ((aHD4.drewN am5).cell 1 1 rfl rfl), FW.nowrap (by omega), trivial⟩) (fun am5 a17 ha17 => ?_)
            have aHD5 := aHD4.drewN am5
            generalize aD4.drewN am5 = aD5 at aHD5 ⊢
            clear ha16
            by_cases c5 : (l.length : Int) - (k + n) < 2
            · rw [if_pos c5] at hr
              subst hr
              refine FW.condLT ha17 rfl (decide_eq_true c5) ?_
              refine FW.heldStartS (S := fun sw3 => FW.All [(Instr.loadAt 113 (.pointer (some ⟨aB1, 0, none⟩))).run Try.prog sw3 = .ok (.agg #[.slice A1 y.length (c - k.toNat), .int .i64 0, .int .i64 0]) sw3, (Instr.loadAt 22 (.pointer (some ⟨g, 0, none⟩))).run Try.prog sw3 = .ok (.slice (some ad) l.length c) sw3]) (by kernel_rfl) ?_
              have aHE3 := aHD5.drew
              generalize aD5.drew = aE3 at aHE3 ⊢
              refine FW.held 3 (by kernel_rfl) (by repeat (first | exact FW.PanicOk.body _ _ _ | apply FW.PanicOk.then | apply FW.PanicOk.inBlock | apply FW.PanicOk.noGoto)) ⟨FW.ld_agg (off := 0) agg113 size113 (aHE3.has 0 _ _ rfl) (FW.leB (by kernel_rfl)) (by kernel_rfl), FW.ld agg22 (aHE3.cell 1 0 rfl rfl), trivial⟩ ha17 [0, 2, 3, 4, 5, 6, 20, 62, 75, 117, 129, 130, 131, 132, 133, 134, 135, 136] [(0, .y (.agg #[.slice A1 y.length (c - k.toNat), .int .i64 0, .int .i64 0])), (1, .r), (2, .r), (3, .r), (4, .r), (5, .y (.slice (some ad) l.length c)), (6, .r)] (by kernel_rfl) (pf := fun sw3 => [(Instr.loadAt 113 (.pointer (some ⟨aB1, 0, none⟩))).run Try.prog sw3 = .ok (.agg #[.slice A1 y.length (c - k.toNat), .int .i64 0, .int .i64 0]) sw3, (Instr.loadAt 22 (.pointer (some ⟨g, 0, none⟩))).run Try.prog sw3 = .ok (.slice (some ad) l.length c) sw3]) (vs := [.agg #[.slice A1 y.length (c - k.toNat), .int .i64 0, .int .i64 0], .pointer (some ⟨g, 0, none⟩), .pointer (some ⟨g, 0, none⟩), .pointer (some ⟨g, 0, none⟩), .pointer (some ⟨g, 0, none⟩), .slice (some ad) l.length c, .int .i64 (l.length : Int)]) (k := 7) (E' := [(0, .pointer (some ⟨g, 0, none⟩)), (2, .pointer (some ⟨aB1, 0, none⟩)), (3, .bool true), (4, .int .i64 p), (5, .int .i64 (rd l p)), (6, .int .i64 n), (20, .bool (p == (l.length : Int))), (62, .bool false), (75, .bool (decide (n > (l.length : Int) - k))), (117, .bool ((k + n) == (l.length : Int))), (129, .bool (decide ((l.length : Int) - (k + n) < 2))), (130, .agg #[.slice A1 y.length (c - k.toNat), .int .i64 0, .int .i64 0]), (131, .pointer (some ⟨g, 0, none⟩)), (132, .pointer (some ⟨g, 0, none⟩)), (133, .pointer (some ⟨g, 0, none⟩)), (134, .pointer (some ⟨g, 0, none⟩)), (135, .slice (some ad) l.length c), (136, .int .i64 (l.length : Int))]) (ls' := #[true, true, true, true, true, true, true, false, false, false]) (fun sw3 => by kernel_rfl) (fun sw3 hS => ⟨hS.1, hS.2.1, trivial⟩) (fun a18 ha18 => ?_)
              clear ha17
              refine FW.heldCall ha18 7 (some 137) 108 #[.pointer (some ⟨g, 0, none⟩), .int .i64 6, .int .i64 (l.length : Int)] (by kernel_rfl) (by kernel_rfl) (by kernel_rfl) (by kernel_rfl) (by kernel_rfl) (by kernel_rfl) (by kernel_rfl) ?_
              refine (fail_hp 6 (l.length : Int) hC hge hb0 hS aHE3 1 rfl).mono ?_
              rintro e cW4 ⟨rfl, cH4⟩
              replace cH4 : Hp [g] w cW4 [(aB1, .cells #[.slice A1 y.length (c - k.toNat), .int .i64 0, .int .i64 0] 113 (0, 0)), (g, .cells #[.slice (some ad) l.length c, .int .i64 (k + n), .int .i64 (s + n), .int .i64 m, .int .i64 6, .int .i64 (l.length : Int)] 147 (0, 0))] := cH4
              refine ⟨_, rfl, ⟨FW.ld_agg (off := 0) agg113 size113 (cH4.has 0 _ _ rfl) (FW.leB (by kernel_rfl)) (by kernel_rfl), FW.ld agg22 (cH4.cell 1 0 rfl rfl), trivial⟩, fun a19 ha19 => ?_⟩
              clear ha18
              replace ha19 : Holds a19 211 [(0, .pointer (some ⟨g, 0, none⟩)), (2, .pointer (some ⟨aB1, 0, none⟩)), (3, .bool true), (4, .int .i64 p), (5, .int .i64 (rd l p)), (6, .int .i64 n), (20, .bool (p == (l.length : Int))), (62, .bool false), (75, .bool (decide (n > (l.length : Int) - k))), (117, .bool ((k + n) == (l.length : Int))), (129, .bool (decide ((l.length : Int) - (k + n) < 2))), (130, .agg #[.slice A1 y.length (c - k.toNat), .int .i64 0, .int .i64 0]), (131, .pointer (some ⟨g, 0, none⟩)), (132, .pointer (some ⟨g, 0, none⟩)), (133, .pointer (some ⟨g, 0, none⟩)), (134, .pointer (some ⟨g, 0, none⟩)), (135, .slice (some ad) l.length c), (136, .int .i64 (l.length : Int)), (137, .bool false)] := FW.Holds.mono ha19 (FW.proj_look (ks := [0, 2, 3, 4, 5, 6, 20, 62, 75, 117, 129, 130, 131, 132, 133, 134, 135, 136, 137]) (by kernel_rfl))
              obtain ⟨aW5, aS5, aH5, hon⟩ := FW.Hp.store (P := Try.prog) cH4 0 0 113 (.agg #[.slice A1 y.length (c - k.toNat), .int .i64 0, .int .i64 0]) 3 rfl size113 rfl (by simp [Value.cells, FW.one_int, FW.one_bool, FW.one_slice, FW.one_ptr, FW.one_str, FW.one_float, FW.one_func, FW.one_nilf, FW.one_map]) (FW.leB (by kernel_rfl))
              clear hon
              replace aH5 : FW.Hp [g] w aW5 [(aB1, .cells #[.slice A1 y.length (c - k.toNat), .int .i64 0, .int .i64 0] 113 (0, 0)), (g, .cells #[.slice (some ad) l.length c, .int .i64 (k + n), .int .i64 (s + n), .int .i64 m, .int .i64 6, .int .i64 (l.length : Int)] 147 (0, 0))] := aH5
              refine FW.heldSt aW5 ha19 8 113 (.pointer (some ⟨aB1, 0, none⟩)) (.agg #[.slice A1 y.length (c - k.toNat), .int .i64 0, .int .i64 0]) (by kernel_rfl) (by kernel_rfl) (by kernel_rfl) (by kernel_rfl) (by kernel_rfl) (by kernel_rfl) aS5 ⟨FW.ld_agg (off := 0) agg113 size113 (aH5.has 0 _ _ rfl) (FW.leB (by kernel_rfl)) (by kernel_rfl), FW.ld agg22 (aH5.cell 1 0 rfl rfl), trivial⟩ (fun a20 ha20 => ?_)
              clear ha19
              refine FW.held 0 (by kernel_rfl) (by repeat (first | exact FW.PanicOk.body _ _ _ | apply FW.PanicOk.then | apply FW.PanicOk.inBlock | apply FW.PanicOk.noGoto)) ⟨FW.ld_agg (off := 0) agg113 size113 (aH5.has 0 _ _ rfl) (FW.leB (by kernel_rfl)) (by kernel_rfl), FW.ld agg22 (aH5.cell 1 0 rfl rfl), trivial⟩ ha20 [0, 2, 3, 4, 5, 6, 20, 62, 75, 117, 129, 130, 131, 132, 133, 134, 135, 136, 137] [(9, .r)] (by kernel_rfl) (pf := fun sw3 => []) (vs := [.bool false]) (k := 1) (E' := [(0, .pointer (some ⟨g, 0, none⟩)), (2, .pointer (some ⟨aB1, 0, none⟩)), (3, .bool false), (4, .int .i64 p), (5, .int .i64 (rd l p)), (6, .int .i64 n), (20, .bool (p == (l.length : Int))), (62, .bool false), (75, .bool (decide (n > (l.length : Int) - k))), (117, .bool ((k + n) == (l.length : Int))), (129, .bool (decide ((l.length : Int) - (k + n) < 2))), (130, .agg #[.slice A1 y.length (c - k.toNat), .int .i64 0, .int .i64 0]), (131, .pointer (some ⟨g, 0, none⟩)), (132, .pointer (some ⟨g, 0, none⟩)), (133, .pointer (some ⟨g, 0, none⟩)), (134, .pointer (some ⟨g, 0, none⟩)), (135, .slice (some ad) l.length c), (136, .int .i64 (l.length : Int)), (137, .bool false)]) (ls' := #[true, true, true, true, true, true, true, true, true, true]) (fun sw3 => by kernel_rfl) (fun sw3 hS => trivial) (fun a21 ha21 => ?_)
              clear ha20
              refine FW.heldDoneS (by kernel_rfl) ?_
              replace ha21 : Holds a21 211 [(0, .pointer (some ⟨g, 0, none⟩)), (2, .pointer (some ⟨aB1, 0, none⟩)), (3, .bool false), (4, .int .i64 p), (5, .int .i64 (rd l p)), (6, .int .i64 n), (20, .bool (p == (l.length : Int))), (62, .bool false), (75, .bool (decide (n > (l.length : Int) - k))), (117, .bool ((k + n) == (l.length : Int))), (129, .bool (decide ((l.length : Int) - (k + n) < 2)))] := FW.Holds.mono ha21 (FW.proj_look (ks := [0, 2, 3, 4, 5, 6, 20, 62, 75, 117, 129]) (by kernel_rfl))
              refine wp_ret ?_
              refine FW.retc1 ha21 rfl rfl (FW.ld_agg (vs := #[.slice A1 y.length (c - k.toNat), .int .i64 0, .int .i64 0]) (off := 0) agg113 size113 (aH5.has 0 _ _ rfl) (FW.leB (by kernel_rfl)) (by kernel_rfl)) rfl ?_
              exact ⟨_, _, _, _, _, _, 1, ⟨rfl, rfl, rfl⟩, rfl, aH5, rfl⟩
            · rw [if_neg c5] at hr
              refine FW.condLF ha17 rfl (decide_eq_false c5) ?_
              show Code.wp _ _ _ _ _
              have hT1 := hl.at_ (k + n)
              have hT2 := hl.at_ (k + n + 1)
              refine FW.heldStartS (S := fun sw3 => FW.All [(Instr.loadAt 22 (.pointer (some ⟨g, 0, none⟩))).run Try.prog sw3 = .ok (.slice (some ad) l.length c) sw3, (Instr.loadAt 3 (.pointer (some ⟨g, 1, none⟩))).run Try.prog sw3 = .ok (.int .i64 (k + n)) sw3, (Instr.loadAt 22 (.pointer (some ⟨g, 0, none⟩))).run Try.prog sw3 = .ok (.slice (some ad) l.length c) sw3, (Instr.loadAt 3 (.pointer (some ⟨g, 1, none⟩))).run Try.prog sw3 = .ok (.int .i64 (k + n)) sw3, (Instr.indexAt 22 (.slice (some ad) l.length c) (.int .i64 (k + n))).run Try.prog sw3 = .ok (.pointer (some (ad.add (k + n).toNat))) sw3, (.int .i64 (IntKind.wrap .i64 (k + n + 1)) : Value) = .int .i64 (k + n + 1), (Instr.loadAt 5 (.pointer (some (ad.add (k + n).toNat)))).run Try.prog sw3 = .ok (.int .u8 (rd l (k + n))) sw3, (Instr.indexAt 22 (.slice (some ad) l.length c) (.int .i64 (k + n + 1))).run Try.prog sw3 = .ok (.pointer (some (ad.add (k + n + 1).toNat))) sw3, (.int .i64 (IntKind.wrap .i64 (rd l (k + n))) : Value) = .int .i64 (rd l (k + n)), (Instr.loadAt 5 (.pointer (some (ad.add (k + n + 1).toNat)))).run Try.prog sw3 = .ok (.int .u8 (rd l (k + n + 1))) sw3, (.int .i64 (IntKind.wrap .i64 (rd l (k + n + 1))) : Value) = .int .i64 (rd l (k + n + 1)), (.int .i64 (IntKind.wrap .i64 ((rd l (k + n + 1)) * 2 ^ 8)) : Value) = .int .i64 (rd l (k + n + 1) * 256), (.int .i64 (Go.bits .or .i64 (rd l (k + n)) (rd l (k + n + 1) * 256)) : Value) = .int .i64 (rd l (k + n) + rd l (k + n + 1) * 256)]) (by kernel_rfl) ?_
              have aHE3 := aHD5.drew
              generalize aD5.drew = aE3 at aHE3 ⊢
              refine FW.held 1 (by kernel_rfl) (by repeat (first | exact FW.PanicOk.body _ _ _ | apply FW.PanicOk.then | apply FW.PanicOk.inBlock | apply FW.PanicOk.noGoto)) ⟨FW.ld agg22 (aHE3.cell 1 0 rfl rfl), FW.ld agg3 (aHE3.cell 1 1 rfl rfl), FW.ld agg22 (aHE3.cell 1 0 rfl rfl), FW.ld agg3 (aHE3.cell 1 1 rfl rfl), ixB (by omega) (by omega), FW.nowrap (by omega), FW.ld agg5 (byteAt hC (aHE3.belowAt hb0 hS) (k + n) (by omega) (by omega)), ixB (by omega) (by omega), FW.nowrap (by omega), FW.ld agg5 (byteAt hC (aHE3.belowAt hb0 hS) (k + n + 1) (by omega) (by omega)), FW.nowrap (by omega), FW.nowrap (by omega), by rw [or_256 _ _ hT1 hT2], trivial⟩ ha17 [0, 2, 3, 4, 5, 6, 20, 62, 75, 117, 129, 138, 139, 140, 141, 142, 143, 144, 145, 146, 147, 148, 149, 150, 151, 152, 153, 154, 155, 156, 157, 158, 159, 160, 161, 162, 163] [(0, .r), (4, .r), (11, .r), (15, .r), (1, .r), (5, .r), (12, .r), (16, .r), (2, .r), (6, .r), (13, .r), (17, .r), (3, .y (.slice (some ad) l.length c)), (7, .y (.int .i64 (k + n))), (14, .y (.slice (some ad) l.length c)), (18, .y (.int .i64 (k + n))), (8, .y (.pointer (some (ad.add (k + n).toNat)))), (19, .e (.int .i64 (k + n + 1))), (9, .y (.int .u8 (rd l (k + n)))), (20, .y (.pointer (some (ad.add (k + n + 1).toNat)))), (10, .e (.int .i64 (rd l (k + n)))), (21, .y (.int .u8 (rd l (k + n + 1)))), (22, .e (.int .i64 (rd l (k + n + 1)))), (23, .e (.int .i64 (rd l (k + n + 1) * 256))), (24, .e (.int .i64 (rd l (k + n) + rd l (k + n + 1) * 256))), (25, .r)] (by kernel_rfl) (pf := fun sw3 => [(Instr.loadAt 22 (.pointer (some ⟨g, 0, none⟩))).run Try.prog sw3 = .ok (.slice (some ad) l.length c) sw3, (Instr.loadAt 3 (.pointer (some ⟨g, 1, none⟩))).run Try.prog sw3 = .ok (.int .i64 (k + n)) sw3, (Instr.loadAt 22 (.pointer (some ⟨g, 0, none⟩))).run Try.prog sw3 = .ok (.slice (some ad) l.length c) sw3, (Instr.loadAt 3 (.pointer (some ⟨g, 1, none⟩))).run Try.prog sw3 = .ok (.int .i64 (k + n)) sw3, (Instr.indexAt 22 (.slice (some ad) l.length c) (.int .i64 (k + n))).run Try.prog sw3 = .ok (.pointer (some (ad.add (k + n).toNat))) sw3, (.int .i64 (IntKind.wrap .i64 (k + n + 1)) : Value) = .int .i64 (k + n + 1), (Instr.loadAt 5 (.pointer (some (ad.add (k + n).toNat)))).run Try.prog sw3 = .ok (.int .u8 (rd l (k + n))) sw3, (Instr.indexAt 22 (.slice (some ad) l.length c) (.int .i64 (k + n + 1))).run Try.prog sw3 = .ok (.pointer (some (ad.add (k + n + 1).toNat))) sw3, (.int .i64 (IntKind.wrap .i64 (rd l (k + n))) : Value) = .int .i64 (rd l (k + n)), (Instr.loadAt 5 (.pointer (some (ad.add (k + n + 1).toNat)))).run Try.prog sw3 = .ok (.int .u8 (rd l (k + n + 1))) sw3, (.int .i64 (IntKind.wrap .i64 (rd l (k + n + 1))) : Value) = .int .i64 (rd l (k + n + 1)), (.int .i64 (IntKind.wrap .i64 ((rd l (k + n + 1)) * 2 ^ 8)) : Value) = .int .i64 (rd l (k + n + 1) * 256), (.int .i64 (Go.bits .or .i64 (rd l (k + n)) (rd l (k + n + 1) * 256)) : Value) = .int .i64 (rd l (k + n) + rd l (k + n + 1) * 256)]) (vs := [.pointer (some ⟨g, 0, none⟩), .pointer (some ⟨g, 0, none⟩), .pointer (some ⟨g, 0, none⟩), .pointer (some ⟨g, 0, none⟩), .pointer (some ⟨g, 0, none⟩), .pointer (some ⟨g, 0, none⟩), .pointer (some ⟨g, 0, none⟩), .pointer (some ⟨g, 0, none⟩), .pointer (some ⟨g, 0, none⟩), .pointer (some ⟨g, 1, none⟩), .pointer (some ⟨g, 0, none⟩), .pointer (some ⟨g, 1, none⟩), .slice (some ad) l.length c, .int .i64 (k + n), .slice (some ad) l.length c, .int .i64 (k + n), .pointer (some (ad.add (k + n).toNat)), .int .i64 (k + n + 1), .int .u8 (rd l (k + n)), .pointer (some (ad.add (k + n + 1).toNat)), .int .i64 (rd l (k + n)), .int .u8 (rd l (k + n + 1)), .int .i64 (rd l (k + n + 1)), .int .i64 (rd l (k + n + 1) * 256), .int .i64 (rd l (k + n) + rd l (k + n + 1) * 256), .pointer (some ⟨aB1, 1, none⟩)]) (k := 26) (E' := [(0, .pointer (some ⟨g, 0, none⟩)), (2, .pointer (some ⟨aB1, 0, none⟩)), (3, .bool true), (4, .int .i64 p), (5, .int .i64 (rd l p)), (6, .int .i64 n), (20, .bool (p == (l.length : Int))), (62, .bool false), (75, .bool (decide (n > (l.length : Int) - k))), (117, .bool ((k + n) == (l.length : Int))), (129, .bool (decide ((l.length : Int) - (k + n) < 2))), (138, .pointer (some ⟨g, 0, none⟩)), (139, .pointer (some ⟨g, 0, none⟩)), (140, .pointer (some ⟨g, 0, none⟩)), (141, .slice (some ad) l.length c), (142, .pointer (some ⟨g, 0, none⟩)), (143, .pointer (some ⟨g, 0, none⟩)), (144, .pointer (some ⟨g, 1, none⟩)), (145, .int .i64 (k + n)), (146, .pointer (some (ad.add (k + n).toNat))), (147, .int .u8 (rd l (k + n))), (148, .int .i64 (rd l (k + n))), (149, .pointer (some ⟨g, 0, none⟩)), (150, .pointer (some ⟨g, 0, none⟩)), (151, .pointer (some ⟨g, 0, none⟩)), (152, .slice (some ad) l.length c), (153, .pointer (some ⟨g, 0, none⟩)), (154, .pointer (some ⟨g, 0, none⟩)), (155, .pointer (some ⟨g, 1, none⟩)), (156, .int .i64 (k + n)), (157, .int .i64 (k + n + 1)), (158, .pointer (some (ad.add (k + n + 1).toNat))), (159, .int .u8 (rd l (k + n + 1))), (160, .int .i64 (rd l (k + n + 1))), (161, .int .i64 (rd l (k + n + 1) * 256)), (162, .int .i64 (rd l (k + n) + rd l (k + n + 1) * 256)), (163, .pointer (some ⟨aB1, 1, none⟩))]) (ls' := #[true, true, true, true, true, true, true, true, true, true, true, true, true, true, true, true, true, true, true, true, true, true, true, true, true, true, false]) (fun sw3 => by kernel_rfl) (fun sw3 hS => ⟨hS.1, hS.2.1, hS.1, hS.2.1, hS.2.2.2.2.1, hS.2.2.2.2.2.1, hS.2.2.2.2.2.2.1, hS.2.2.2.2.2.2.2.1, hS.2.2.2.2.2.2.2.2.1, hS.2.2.2.2.2.2.2.2.2.1, hS.2.2.2.2.2.2.2.2.2.2.1, hS.2.2.2.2.2.2.2.2.2.2.2.1, hS.2.2.2.2.2.2.2.2.2.2.2.2.1, trivial⟩) (fun a18 ha18 => ?_)
              clear ha17
              obtain ⟨aW5, aS5, aH5, hon⟩ := FW.Hp.store (P := Try.prog) aHE3 0 1 3 (.int .i64 (rd l (k + n) + rd l (k + n + 1) * 256)) 1 rfl size3 rfl (by simp [Value.cells, FW.one_int, FW.one_bool, FW.one_slice, FW.one_ptr, FW.one_str, FW.one_float, FW.one_func, FW.one_nilf, FW.one_map]) (FW.leB (by kernel_rfl))
              clear hon
              replace aH5 : FW.Hp [g] w aW5 [(aB1, .cells #[.slice A1 y.length (c - k.toNat), .int .i64 (rd l (k + n) + rd l (k + n + 1) * 256), .int .i64 0] 113 (0, 0)), (g, .cells #[.slice (some ad) l.length c, .int .i64 (k + n), .int .i64 (s + n), .int .i64 m, .int .i64 0, .int .i64 b] 147 (0, 0))] := aH5
              refine FW.heldSt aW5 ha18 26 3 (.pointer (some ⟨aB1, 1, none⟩)) (.int .i64 (rd l (k + n) + rd l (k + n + 1) * 256)) (by kernel_rfl) (by kernel_rfl) (by kernel_rfl) (by kernel_rfl) (by kernel_rfl) (by kernel_rfl) aS5 ⟨FW.ld agg22 (aH5.cell 1 0 rfl rfl), FW.ld agg3 (aH5.cell 1 1 rfl rfl), FW.ld agg22 (aH5.cell 1 0 rfl rfl), FW.ld agg3 (aH5.cell 1 1 rfl rfl), ixB (by omega) (by omega), FW.nowrap (by omega), FW.ld agg5 (byteAt hC (aH5.belowAt hb0 hS) (k + n) (by omega) (by omega)), ixB (by omega) (by omega), FW.nowrap (by omega), FW.ld agg5 (byteAt hC (aH5.belowAt hb0 hS) (k + n + 1) (by omega) (by omega)), FW.nowrap (by omega), FW.nowrap (by omega), by rw [or_256 _ _ hT1 hT2], trivial⟩ (fun a19 ha19 => ?_)
              clear ha18
              refine FW.heldDoneS (by kernel_rfl) ?_
              replace ha19 : Holds a19 211 [(0, .pointer (some ⟨g, 0, none⟩)), (2, .pointer (some ⟨aB1, 0, none⟩)), (3, .bool true), (4, .int .i64 p), (5, .int .i64 (rd l p)), (6, .int .i64 n), (20, .bool (p == (l.length : Int))), (62, .bool false), (75, .bool (decide (n > (l.length : Int) - k))), (117, .bool ((k + n) == (l.length : Int))), (129, .bool (decide ((l.length : Int) - (k + n) < 2)))] := FW.Holds.mono ha19 (FW.proj_look (ks := [0, 2, 3, 4, 5, 6, 20, 62, 75, 117, 129]) (by kernel_rfl))
              obtain ⟨o, ho⟩ : ∃ o, o = rd l (k + n) + rd l (k + n + 1) * 256 := ⟨_, rfl⟩
              have ho2 : 0 ≤ o ∧ o ≤ 65535 := by omega
              rw [← ho] at hr aH5
              clear ho hT1 hT2
              by_cases c6 : o = 0 ∨ o > s + n
              · rw [if_pos c6] at hr
                subst hr
                by_cases c7 : o = 0
                · refine FW.seq ?_
                  refine FW.quietS (w := aW5) (k := 12) (pf := fun am6 => [(Instr.loadAt 3 (.pointer (some ⟨aB1, 1, none⟩))).run Try.prog (aW5.drewN am6) = .ok (.int .i64 o) (aW5.drewN am6), (.bool (o == 0) : Value) = .bool true]) (vs := [.pointer (some ⟨aB1, 1, none⟩), .int .i64 o, .bool true, .bool true, undef, undef, undef, undef, undef, undef, undef, .bool true]) (E' := [(0, .pointer (some ⟨g, 0, none⟩)), (2, .pointer (some ⟨aB1, 0, none⟩)), (3, .bool true), (4, .int .i64 p), (5, .int .i64 (rd l p)), (6, .int .i64 n), (20, .bool (p == (l.length : Int))), (62, .bool false), (75, .bool (decide (n > (l.length : Int) - k))), (117, .bool ((k + n) == (l.length : Int))), (129, .bool (decide ((l.length : Int) - (k + n) < 2))), (175, .bool true)]) (by kernel_rfl) (by kernel_rfl) ha19 [0, 2, 3, 4, 5, 6, 20, 62, 75, 117, 129, 175] [.r, .y (.int .i64 o), .e (.bool true), .r, .r, .r, .r, .r, .r, .r, .r, .r] (fun am6 => by kernel_rfl) (fun am6 => ⟨FW.ld agg3 ((aH5.drewN am6).cell 0 1 rfl rfl), FW.eT c7, trivial⟩) (fun am6 a20 ha20 => ?_)
                  have aHD6 := aH5.drewN am6
                  generalize aW5.drewN am6 = aD6 at aHD6 ⊢
                  clear ha19
                  refine FW.condLT ha20 rfl (rfl) ?_
                  refine FW.heldStartS (S := fun sw4 => FW.All [(Instr.loadAt 113 (.pointer (some ⟨aB1, 0, none⟩))).run Try.prog sw4 = .ok (.agg #[.slice A1 y.length (c - k.toNat), .int .i64 o, .int .i64 0]) sw4, (Instr.loadAt 3 (.pointer (some ⟨g, 1, none⟩))).run Try.prog sw4 = .ok (.int .i64 (k + n)) sw4]) (by kernel_rfl) ?_
                  have aHE4 := aHD6.drew
                  generalize aD6.drew = aE4 at aHE4 ⊢
                  refine FW.held 3 (by kernel_rfl) (by repeat (first | exact FW.PanicOk.body _ _ _ | apply FW.PanicOk.then | apply FW.PanicOk.inBlock | apply FW.PanicOk.noGoto)) ⟨FW.ld_agg (off := 0) agg113 size113 (aHE4.has 0 _ _ rfl) (FW.leB (by kernel_rfl)) (by kernel_rfl), FW.ld agg3 (aHE4.cell 1 1 rfl rfl), trivial⟩ ha20 [0, 2, 3, 4, 5, 6, 20, 62, 75, 117, 129, 175, 176, 177, 178, 179, 180, 181] [(0, .y (.agg #[.slice A1 y.length (c - k.toNat), .int .i64 o, .int .i64 0])), (1, .r), (2, .r), (3, .r), (4, .r), (5, .y (.int .i64 (k + n)))] (by kernel_rfl) (pf := fun sw4 => [(Instr.loadAt 113 (.pointer (some ⟨aB1, 0, none⟩))).run Try.prog sw4 = .ok (.agg #[.slice A1 y.length (c - k.toNat), .int .i64 o, .int .i64 0]) sw4, (Instr.loadAt 3 (.pointer (some ⟨g, 1, none⟩))).run Try.prog sw4 = .ok (.int .i64 (k + n)) sw4]) (vs := [.agg #[.slice A1 y.length (c - k.toNat), .int .i64 o, .int .i64 0], .pointer (some ⟨g, 0, none⟩), .pointer (some ⟨g, 0, none⟩), .pointer (some ⟨g, 0, none⟩), .pointer (some ⟨g, 1, none⟩), .int .i64 (k + n)]) (k := 6) (E' := [(0, .pointer (some ⟨g, 0, none⟩)), (2, .pointer (some ⟨aB1, 0, none⟩)), (3, .bool true), (4, .int .i64 p), (5, .int .i64 (rd l p)), (6, .int .i64 n), (20, .bool (p == (l.length : Int))), (62, .bool false), (75, .bool (decide (n > (l.length : Int) - k))), (117, .bool ((k + n) == (l.length : Int))), (129, .bool (decide ((l.length : Int) - (k + n) < 2))), (175, .bool true), (176, .agg #[.slice A1 y.length (c - k.toNat), .int .i64 o, .int .i64 0]), (177, .pointer (some ⟨g, 0, none⟩)), (178, .pointer (some ⟨g, 0, none⟩)), (179, .pointer (some ⟨g, 0, none⟩)), (180, .pointer (some ⟨g, 1, none⟩)), (181, .int .i64 (k + n))]) (ls' := #[true, true, true, true, true, true, false, false, false]) (fun sw4 => by kernel_rfl) (fun sw4 hS => ⟨hS.1, hS.2.1, trivial⟩) (fun a21 ha21 => ?_)
                  clear ha20
                  refine FW.heldCall ha21 6 (some 182) 108 #[.pointer (some ⟨g, 0, none⟩), .int .i64 9, .int .i64 (k + n)] (by kernel_rfl) (by kernel_rfl) (by kernel_rfl) (by kernel_rfl) (by kernel_rfl) (by kernel_rfl) (by kernel_rfl) ?_
                  refine (fail_hp 9 (k + n) hC hge hb0 hS aHE4 1 rfl).mono ?_
                  rintro e cW4 ⟨rfl, cH4⟩
                  replace cH4 : Hp [g] w cW4 [(aB1, .cells #[.slice A1 y.length (c - k.toNat), .int .i64 o, .int .i64 0] 113 (0, 0)), (g, .cells #[.slice (some ad) l.length c, .int .i64 (k + n), .int .i64 (s + n), .int .i64 m, .int .i64 9, .int .i64 (k + n)] 147 (0, 0))] := cH4
                  refine ⟨_, rfl, ⟨FW.ld_agg (off := 0) agg113 size113 (cH4.has 0 _ _ rfl) (FW.leB (by kernel_rfl)) (by kernel_rfl), FW.ld agg3 (cH4.cell 1 1 rfl rfl), trivial⟩, fun a22 ha22 => ?_⟩
                  clear ha21
                  replace ha22 : Holds a22 211 [(0, .pointer (some ⟨g, 0, none⟩)), (2, .pointer (some ⟨aB1, 0, none⟩)), (3, .bool true), (4, .int .i64 p), (5, .int .i64 (rd l p)), (6, .int .i64 n), (20, .bool (p == (l.length : Int))), (62, .bool false), (75, .bool (decide (n > (l.length : Int) - k))), (117, .bool ((k + n) == (l.length : Int))), (129, .bool (decide ((l.length : Int) - (k + n) < 2))), (175, .bool true), (176, .agg #[.slice A1 y.length (c - k.toNat), .int .i64 o, .int .i64 0]), (177, .pointer (some ⟨g, 0, none⟩)), (178, .pointer (some ⟨g, 0, none⟩)), (179, .pointer (some ⟨g, 0, none⟩)), (180, .pointer (some ⟨g, 1, none⟩)), (181, .int .i64 (k + n)), (182, .bool false)] := FW.Holds.mono ha22 (FW.proj_look (ks := [0, 2, 3, 4, 5, 6, 20, 62, 75, 117, 129, 175, 176, 177, 178, 179, 180, 181, 182]) (by kernel_rfl))
                  obtain ⟨aW6, aS6, aH6, hon⟩ := FW.Hp.store (P := Try.prog) cH4 0 0 113 (.agg #[.slice A1 y.length (c - k.toNat), .int .i64 o, .int .i64 0]) 3 rfl size113 rfl (by simp [Value.cells, FW.one_int, FW.one_bool, FW.one_slice, FW.one_ptr, FW.one_str, FW.one_float, FW.one_func, FW.one_nilf, FW.one_map]) (FW.leB (by kernel_rfl))
                  clear hon
                  replace aH6 : FW.Hp [g] w aW6 [(aB1, .cells #[.slice A1 y.length (c - k.toNat), .int .i64 o, .int .i64 0] 113 (0, 0)), (g, .cells #[.slice (some ad) l.length c, .int .i64 (k + n), .int .i64 (s + n), .int .i64 m, .int .i64 9, .int .i64 (k + n)] 147 (0, 0))] := aH6
                  refine FW.heldSt aW6 ha22 7 113 (.pointer (some ⟨aB1, 0, none⟩)) (.agg #[.slice A1 y.length (c - k.toNat), .int .i64 o, .int .i64 0]) (by kernel_rfl) (by kernel_rfl) (by kernel_rfl) (by kernel_rfl) (by kernel_rfl) (by kernel_rfl) aS6 ⟨FW.ld_agg (off := 0) agg113 size113 (aH6.has 0 _ _ rfl) (FW.leB (by kernel_rfl)) (by kernel_rfl), FW.ld agg3 (aH6.cell 1 1 rfl rfl), trivial⟩ (fun a23 ha23 => ?_)
                  clear ha22
                  refine FW.held 0 (by kernel_rfl) (by repeat (first | exact FW.PanicOk.body _ _ _ | apply FW.PanicOk.then | apply FW.PanicOk.inBlock | apply FW.PanicOk.noGoto)) ⟨FW.ld_agg (off := 0) agg113 size113 (aH6.has 0 _ _ rfl) (FW.leB (by kernel_rfl)) (by kernel_rfl), FW.ld agg3 (aH6.cell 1 1 rfl rfl), trivial⟩ ha23 [0, 2, 3, 4, 5, 6, 20, 62, 75, 117, 129, 175, 176, 177, 178, 179, 180, 181, 182] [(8, .r)] (by kernel_rfl) (pf := fun sw4 => []) (vs := [.bool false]) (k := 1) (E' := [(0, .pointer (some ⟨g, 0, none⟩)), (2, .pointer (some ⟨aB1, 0, none⟩)), (3, .bool false), (4, .int .i64 p), (5, .int .i64 (rd l p)), (6, .int .i64 n), (20, .bool (p == (l.length : Int))), (62, .bool false), (75, .bool (decide (n > (l.length : Int) - k))), (117, .bool ((k + n) == (l.length : Int))), (129, .bool (decide ((l.length : Int) - (k + n) < 2))), (175, .bool true), (176, .agg #[.slice A1 y.length (c - k.toNat), .int .i64 o, .int .i64 0]), (177, .pointer (some ⟨g, 0, none⟩)), (178, .pointer (some ⟨g, 0, none⟩)), (179, .pointer (some ⟨g, 0, none⟩)), (180, .pointer (some ⟨g, 1, none⟩)), (181, .int .i64 (k + n)), (182, .bool false)]) (ls' := #[true, true, true, true, true, true, true, true, true]) (fun sw4 => by kernel_rfl) (fun sw4 hS => trivial) (fun a24 ha24 => ?_)
                  clear ha23
                  refine FW.heldDoneS (by kernel_rfl) ?_
                  replace ha24 : Holds a24 211 [(0, .pointer (some ⟨g, 0, none⟩)), (2, .pointer (some ⟨aB1, 0, none⟩)), (3, .bool false), (4, .int .i64 p), (5, .int .i64 (rd l p)), (6, .int .i64 n), (20, .bool (p == (l.length : Int))), (62, .bool false), (75, .bool (decide (n > (l.length : Int) - k))), (117, .bool ((k + n) == (l.length : Int))), (129, .bool (decide ((l.length : Int) - (k + n) < 2))), (175, .bool true)] := FW.Holds.mono ha24 (FW.proj_look (ks := [0, 2, 3, 4, 5, 6, 20, 62, 75, 117, 129, 175]) (by kernel_rfl))
                  refine wp_ret ?_
                  refine FW.retc1 ha24 rfl rfl (FW.ld_agg (vs := #[.slice A1 y.length (c - k.toNat), .int .i64 o, .int .i64 0]) (off := 0) agg113 size113 (aH6.has 0 _ _ rfl) (FW.leB (by kernel_rfl)) (by kernel_rfl)) rfl ?_
                  exact ⟨_, _, _, _, _, _, 1, ⟨rfl, rfl, rfl⟩, rfl, aH6, rfl⟩
                · refine FW.seq ?_
                  refine FW.quietS (w := aW5) (k := 12) (pf := fun am6 => [(Instr.loadAt 3 (.pointer (some ⟨aB1, 1, none⟩))).run Try.prog (aW5.drewN am6) = .ok (.int .i64 o) (aW5.drewN am6), (.bool (o == 0) : Value) = .bool false, (Instr.loadAt 3 (.pointer (some ⟨aB1, 1, none⟩))).run Try.prog (aW5.drewN am6) = .ok (.int .i64 o) (aW5.drewN am6), (Instr.loadAt 3 (.pointer (some ⟨g, 2, none⟩))).run Try.prog (aW5.drewN am6) = .ok (.int .i64 (s + n)) (aW5.drewN am6), (.bool (decide (o > s + n)) : Value) = .bool true]) (vs := [.pointer (some ⟨aB1, 1, none⟩), .int .i64 o, .bool false, .bool false, .pointer (some ⟨aB1, 1, none⟩), .int .i64 o, .pointer (some ⟨g, 0, none⟩), .pointer (some ⟨g, 0, none⟩), .pointer (some ⟨g, 2, none⟩), .int .i64 (s + n), .bool true, .bool true]) (E' := [(0, .pointer (some ⟨g, 0, none⟩)), (2, .pointer (some ⟨aB1, 0, none⟩)), (3, .bool true), (4, .int .i64 p), (5, .int .i64 (rd l p)), (6, .int .i64 n), (20, .bool (p == (l.length : Int))), (62, .bool false), (75, .bool (decide (n > (l.length : Int) - k))), (117, .bool ((k + n) == (l.length : Int))), (129, .bool (decide ((l.length : Int) - (k + n) < 2))), (175, .bool true)]) (by kernel_rfl) (by kernel_rfl) ha19 [0, 2, 3, 4, 5, 6, 20, 62, 75, 117, 129, 175] [.r, .y (.int .i64 o), .e (.bool false), .r, .r, .y (.int .i64 o), .r, .r, .r, .y (.int .i64 (s + n)), .e (.bool true), .r] (fun am6 => by kernel_rfl) (fun am6 => ⟨FW.ld agg3 ((aH5.drewN am6).cell 0 1 rfl rfl), FW.eF c7, FW.ld agg3 ((aH5.drewN am6).cell 0 1 rfl rfl), FW.ld agg3 ((aH5.drewN am6).cell 1 2 rfl rfl), FW.bT (by omega), trivial⟩) (fun am6 a20 ha20 => ?_)
                  have aHD6 := aH5.drewN am6
                  generalize aW5.drewN am6 = aD6 at aHD6 ⊢
                  clear ha19
                  refine FW.condLT ha20 rfl (rfl) ?_
                  refine FW.heldStartS (S := fun sw4 => FW.All [(Instr.loadAt 113 (.pointer (some ⟨aB1, 0, none⟩))).run Try.prog sw4 = .ok (.agg #[.slice A1 y.length (c - k.toNat), .int .i64 o, .int .i64 0]) sw4, (Instr.loadAt 3 (.pointer (some ⟨g, 1, none⟩))).run Try.prog sw4 = .ok (.int .i64 (k + n)) sw4]) (by kernel_rfl) ?_
                  have aHE4 := aHD6.drew
                  generalize aD6.drew = aE4 at aHE4 ⊢
                  refine FW.held 3 (by kernel_rfl) (by repeat (first | exact FW.PanicOk.body _ _ _ | apply FW.PanicOk.then | apply FW.PanicOk.inBlock | apply FW.PanicOk.noGoto)) ⟨FW.ld_agg (off := 0) agg113 size113 (aHE4.has 0 _ _ rfl) (FW.leB (by kernel_rfl)) (by kernel_rfl), FW.ld agg3 (aHE4.cell 1 1 rfl rfl), trivial⟩ ha20 [0, 2, 3, 4, 5, 6, 20, 62, 75, 117, 129, 175, 176, 177, 178, 179, 180, 181] [(0, .y (.agg #[.slice A1 y.length (c - k.toNat), .int .i64 o, .int .i64 0])), (1, .r), (2, .r), (3, .r), (4, .r), (5, .y (.int .i64 (k + n)))] (by kernel_rfl) (pf := fun sw4 => [(Instr.loadAt 113 (.pointer (some ⟨aB1, 0, none⟩))).run Try.prog sw4 = .ok (.agg #[.slice A1 y.length (c - k.toNat), .int .i64 o, .int .i64 0]) sw4, (Instr.loadAt 3 (.pointer (some ⟨g, 1, none⟩))).run Try.prog sw4 = .ok (.int .i64 (k + n)) sw4]) (vs := [.agg #[.slice A1 y.length (c - k.toNat), .int .i64 o, .int .i64 0], .pointer (some ⟨g, 0, none⟩), .pointer (some ⟨g, 0, none⟩), .pointer (some ⟨g, 0, none⟩), .pointer (some ⟨g, 1, none⟩), .int .i64 (k + n)]) (k := 6) (E' := [(0, .pointer (some ⟨g, 0, none⟩)), (2, .pointer (some ⟨aB1, 0, none⟩)), (3, .bool true), (4, .int .i64 p), (5, .int .i64 (rd l p)), (6, .int .i64 n), (20, .bool (p == (l.length : Int))), (62, .bool false), (75, .bool (decide (n > (l.length : Int) - k))), (117, .bool ((k + n) == (l.length : Int))), (129, .bool (decide ((l.length : Int) - (k + n) < 2))), (175, .bool true), (176, .agg #[.slice A1 y.length (c - k.toNat), .int .i64 o, .int .i64 0]), (177, .pointer (some ⟨g, 0, none⟩)), (178, .pointer (some ⟨g, 0, none⟩)), (179, .pointer (some ⟨g, 0, none⟩)), (180, .pointer (some ⟨g, 1, none⟩)), (181, .int .i64 (k + n))]) (ls' := #[true, true, true, true, true, true, false, false, false]) (fun sw4 => by kernel_rfl) (fun sw4 hS => ⟨hS.1, hS.2.1, trivial⟩) (fun a21 ha21 => ?_)
                  clear ha20
                  refine FW.heldCall ha21 6 (some 182) 108 #[.pointer (some ⟨g, 0, none⟩), .int .i64 9, .int .i64 (k + n)] (by kernel_rfl) (by kernel_rfl) (by kernel_rfl) (by kernel_rfl) (by kernel_rfl) (by kernel_rfl) (by kernel_rfl) ?_
                  refine (fail_hp 9 (k + n) hC hge hb0 hS aHE4 1 rfl).mono ?_
                  rintro e cW4 ⟨rfl, cH4⟩
                  replace cH4 : Hp [g] w cW4 [(aB1, .cells #[.slice A1 y.length (c - k.toNat), .int .i64 o, .int .i64 0] 113 (0, 0)), (g, .cells #[.slice (some ad) l.length c, .int .i64 (k + n), .int .i64 (s + n), .int .i64 m, .int .i64 9, .int .i64 (k + n)] 147 (0, 0))] := cH4
                  refine ⟨_, rfl, ⟨FW.ld_agg (off := 0) agg113 size113 (cH4.has 0 _ _ rfl) (FW.leB (by kernel_rfl)) (by kernel_rfl), FW.ld agg3 (cH4.cell 1 1 rfl rfl), trivial⟩, fun a22 ha22 => ?_⟩
                  clear ha21
                  replace ha22 : Holds a22 211 [(0, .pointer (some ⟨g, 0, none⟩)), (2, .pointer (some ⟨aB1, 0, none⟩)), (3, .bool true), (4, .int .i64 p), (5, .int .i64 (rd l p)), (6, .int .i64 n), (20, .bool (p == (l.length : Int))), (62, .bool false), (75, .bool (decide (n > (l.length : Int) - k))), (117, .bool ((k + n) == (l.length : Int))), (129, .bool (decide ((l.length : Int) - (k + n) < 2))), (175, .bool true), (176, .agg #[.slice A1 y.length (c - k.toNat), .int .i64 o, .int .i64 0]), (177, .pointer (some ⟨g, 0, none⟩)), (178, .pointer (some ⟨g, 0, none⟩)), (179, .pointer (some ⟨g, 0, none⟩)), (180, .pointer (some ⟨g, 1, none⟩)), (181, .int .i64 (k + n)), (182, .bool false)] := FW.Holds.mono ha22 (FW.proj_look (ks := [0, 2, 3, 4, 5, 6, 20, 62, 75, 117, 129, 175, 176, 177, 178, 179, 180, 181, 182]) (by kernel_rfl))
                  obtain ⟨aW6, aS6, aH6, hon⟩ := FW.Hp.store (P := Try.prog) cH4 0 0 113 (.agg #[.slice A1 y.length (c - k.toNat), .int .i64 o, .int .i64 0]) 3 rfl size113 rfl (by simp [Value.cells, FW.one_int, FW.one_bool, FW.one_slice, FW.one_ptr, FW.one_str, FW.one_float, FW.one_func, FW.one_nilf, FW.one_map]) (FW.leB (by kernel_rfl))
                  clear hon
                  replace aH6 : FW.Hp [g] w aW6 [(aB1, .cells #[.slice A1 y.length (c - k.toNat), .int .i64 o, .int .i64 0] 113 (0, 0)), (g, .cells #[.slice (some ad) l.length c, .int .i64 (k + n), .int .i64 (s + n), .int .i64 m, .int .i64 9, .int .i64 (k + n)] 147 (0, 0))] := aH6
                  refine FW.heldSt aW6 ha22 7 113 (.pointer (some ⟨aB1, 0, none⟩)) (.agg #[.slice A1 y.length (c - k.toNat), .int .i64 o, .int .i64 0]) (by kernel_rfl) (by kernel_rfl) (by kernel_rfl) (by kernel_rfl) (by kernel_rfl) (by kernel_rfl) aS6 ⟨FW.ld_agg (off := 0) agg113 size113 (aH6.has 0 _ _ rfl) (FW.leB (by kernel_rfl)) (by kernel_rfl), FW.ld agg3 (aH6.cell 1 1 rfl rfl), trivial⟩ (fun a23 ha23 => ?_)
                  clear ha22
                  refine FW.held 0 (by kernel_rfl) (by repeat (first | exact FW.PanicOk.body _ _ _ | apply FW.PanicOk.then | apply FW.PanicOk.inBlock | apply FW.PanicOk.noGoto)) ⟨FW.ld_agg (off := 0) agg113 size113 (aH6.has 0 _ _ rfl) (FW.leB (by kernel_rfl)) (by kernel_rfl), FW.ld agg3 (aH6.cell 1 1 rfl rfl), trivial⟩ ha23 [0, 2, 3, 4, 5, 6, 20, 62, 75, 117, 129, 175, 176, 177, 178, 179, 180, 181, 182] [(8, .r)] (by kernel_rfl) (pf := fun sw4 => []) (vs := [.bool false]) (k := 1) (E' := [(0, .pointer (some ⟨g, 0, none⟩)), (2, .pointer (some ⟨aB1, 0, none⟩)), (3, .bool false), (4, .int .i64 p), (5, .int .i64 (rd l p)), (6, .int .i64 n), (20, .bool (p == (l.length : Int))), (62, .bool false), (75, .bool (decide (n > (l.length : Int) - k))), (117, .bool ((k + n) == (l.length : Int))), (129, .bool (decide ((l.length : Int) - (k + n) < 2))), (175, .bool true), (176, .agg #[.slice A1 y.length (c - k.toNat), .int .i64 o, .int .i64 0]), (177, .pointer (some ⟨g, 0, none⟩)), (178, .pointer (some ⟨g, 0, none⟩)), (179, .pointer (some ⟨g, 0, none⟩)), (180, .pointer (some ⟨g, 1, none⟩)), (181, .int .i64 (k + n)), (182, .bool false)]) (ls' := #[true, true, true, true, true, true, true, true, true]) (fun sw4 => by kernel_rfl) (fun sw4 hS => trivial) (fun a24 ha24 => ?_)
                  clear ha23
                  refine FW.heldDoneS (by kernel_rfl) ?_
                  replace ha24 : Holds a24 211 [(0, .pointer (some ⟨g, 0, none⟩)), (2, .pointer (some ⟨aB1, 0, none⟩)), (3, .bool false), (4, .int .i64 p), (5, .int .i64 (rd l p)), (6, .int .i64 n), (20, .bool (p == (l.length : Int))), (62, .bool false), (75, .bool (decide (n > (l.length : Int) - k))), (117, .bool ((k + n) == (l.length : Int))), (129, .bool (decide ((l.length : Int) - (k + n) < 2))), (175, .bool true)] := FW.Holds.mono ha24 (FW.proj_look (ks := [0, 2, 3, 4, 5, 6, 20, 62, 75, 117, 129, 175]) (by kernel_rfl))
                  refine wp_ret ?_
                  refine FW.retc1 ha24 rfl rfl (FW.ld_agg (vs := #[.slice A1 y.length (c - k.toNat), .int .i64 o, .int .i64 0]) (off := 0) agg113 size113 (aH6.has 0 _ _ rfl) (FW.leB (by kernel_rfl)) (by kernel_rfl)) rfl ?_
                  exact ⟨_, _, _, _, _, _, 1, ⟨rfl, rfl, rfl⟩, rfl, aH6, rfl⟩
              · rw [if_neg c6] at hr
                refine FW.seq ?_
                refine FW.quietS (w := aW5) (k := 12) (pf := fun am6 => [(Instr.loadAt 3 (.pointer (some ⟨aB1, 1, none⟩))).run Try.prog (aW5.drewN am6) = .ok (.int .i64 o) (aW5.drewN am6), (.bool (o == 0) : Value) = .bool false, (Instr.loadAt 3 (.pointer (some ⟨aB1, 1, none⟩))).run Try.prog (aW5.drewN am6) = .ok (.int .i64 o) (aW5.drewN am6), (Instr.loadAt 3 (.pointer (some ⟨g, 2, none⟩))).run Try.prog (aW5.drewN am6) = .ok (.int .i64 (s + n)) (aW5.drewN am6), (.bool (decide (o > s + n)) : Value) = .bool false]) (vs := [.pointer (some ⟨aB1, 1, none⟩), .int .i64 o, .bool false, .bool false, .pointer (some ⟨aB1, 1, none⟩), .int .i64 o, .pointer (some ⟨g, 0, none⟩), .pointer (some ⟨g, 0, none⟩), .pointer (some ⟨g, 2, none⟩), .int .i64 (s + n), .bool false, .bool false]) (E' := [(0, .pointer (some ⟨g, 0, none⟩)), (2, .pointer (some ⟨aB1, 0, none⟩)), (3, .bool true), (4, .int .i64 p), (5, .int .i64 (rd l p)), (6, .int .i64 n), (20, .bool (p == (l.length : Int))), (62, .bool false), (75, .bool (decide (n > (l.length : Int) - k))), (117, .bool ((k + n) == (l.length : Int))), (129, .bool (decide ((l.length : Int) - (k + n) < 2))), (175, .bool false)]) (by kernel_rfl) (by kernel_rfl) ha19 [0, 2, 3, 4, 5, 6, 20, 62, 75, 117, 129, 175] [.r, .y (.int .i64 o), .e (.bool false), .r, .r, .y (.int .i64 o), .r, .r, .r, .y (.int .i64 (s + n)), .e (.bool false), .r] (fun am6 => by kernel_rfl) (fun am6 => ⟨FW.ld agg3 ((aH5.drewN am6).cell 0 1 rfl rfl), FW.eF (by omega), FW.ld agg3 ((aH5.drewN am6).cell 0 1 rfl rfl), FW.ld agg3 ((aH5.drewN am6).cell 1 2 rfl rfl), FW.bF (by omega), trivial⟩) (fun am6 a20 ha20 => ?_)
                have aHD6 := aH5.drewN am6
                generalize aW5.drewN am6 = aD6 at aHD6 ⊢
                clear ha19
                refine FW.condLF ha20 rfl (rfl) ?_
                show Code.wp _ _ _ _ _
                obtain ⟨aW6, aS6, aH6, hon⟩ := FW.Hp.store (P := Try.prog) aHD6 1 1 3 (.int .i64 (k + n + 2)) 1 rfl size3 rfl (by simp [Value.cells, FW.one_int, FW.one_bool, FW.one_slice, FW.one_ptr, FW.one_str, FW.one_float, FW.one_func, FW.one_nilf, FW.one_map]) (FW.leB (by kernel_rfl))
                clear hon
                replace aH6 : FW.Hp [g] w aW6 [(aB1, .cells #[.slice A1 y.length (c - k.toNat), .int .i64 o, .int .i64 0] 113 (0, 0)), (g, .cells #[.slice (some ad) l.length c, .int .i64 (k + n + 2), .int .i64 (s + n), .int .i64 m, .int .i64 0, .int .i64 b] 147 (0, 0))] := aH6
                refine FW.plainS  ha20 [0, 2, 3, 4, 5, 6, 20, 62, 75, 117, 129, 175] [.r, .r, .r, .y (.int .i64 (k + n)), .e (.int .i64 (k + n + 2)), .r, .r, .s aW6] (E' := [(0, .pointer (some ⟨g, 0, none⟩)), (2, .pointer (some ⟨aB1, 0, none⟩)), (3, .bool true), (4, .int .i64 p), (5, .int .i64 (rd l p)), (6, .int .i64 n), (20, .bool (p == (l.length : Int))), (62, .bool false), (75, .bool (decide (n > (l.length : Int) - k))), (117, .bool ((k + n) == (l.length : Int))), (129, .bool (decide ((l.length : Int) - (k + n) < 2))), (175, .bool false)]) (w' := aW6) (qs := [(Instr.storeAt 3 (.pointer (some ⟨g, 1, none⟩)) (.int .i64 (k + n + 2))).run Try.prog aD6 = .ok () aW6, (.int .i64 (IntKind.wrap .i64 (k + n + 2)) : Value) = .int .i64 (k + n + 2), (Instr.loadAt 3 (.pointer (some ⟨g, 1, none⟩))).run Try.prog aD6 = .ok (.int .i64 (k + n)) aD6]) (by kernel_rfl) ⟨aS6, FW.nowrap (by omega), FW.ld agg3 (aHD6.cell 1 1 rfl rfl), trivial⟩ (fun a21 ha21 => ?_)
                clear ha20
                refine FW.seq ?_
                refine FW.plainToS 3 ha21 [0, 2, 3, 4, 5, 6, 20, 62, 75, 117, 129, 175, 191, 192, 193] [.r, .r, .e (.int .i64 (rd l p % 16))] (E' := [(0, .pointer (some ⟨g, 0, none⟩)), (2, .pointer (some ⟨aB1, 0, none⟩)), (3, .bool true), (4, .int .i64 p), (5, .int .i64 (rd l p)), (6, .int .i64 n), (20, .bool (p == (l.length : Int))), (62, .bool false), (75, .bool (decide (n > (l.length : Int) - k))), (117, .bool ((k + n) == (l.length : Int))), (129, .bool (decide ((l.length : Int) - (k + n) < 2))), (175, .bool false), (191, .pointer (some ⟨g, 0, none⟩)), (192, .int .i64 (rd l p)), (193, .int .i64 (rd l p % 16))]) (w' := aW6) (qs := [(.int .i64 (Go.bits .and .i64 (rd l p) 15) : Value) = .int .i64 (rd l p % 16)]) (by kernel_rfl) ⟨by rw [and_15 _ (by omega)], trivial⟩ (fun a22 ha22 => ?_)
                clear ha21
                rcases hL2 : lenF l (rd l p % 16) (k + n + 2) with _ | ⟨m1, q⟩
                · rw [hL2] at hr
                  dsimp only at hr
                  subst hr
                  refine FW.callAt ha22 109 #[.pointer (some ⟨g, 0, none⟩), .int .i64 (rd l p % 16)] (by kernel_rfl) (by kernel_rfl) (by kernel_rfl) (by kernel_rfl) ?_
                  refine (lengthN_hp (rd l p % 16) hl (by omega) (by omega) (by omega) (by omega) hC hge hb0 hS aH6 1 rfl hL2).mono ?_
                  rintro e cW4 ⟨rfl, cH4⟩
                  refine ⟨_, rfl, fun a23 ha23 => ?_⟩
                  replace ha23 : Holds a23 211 [(194, .tuple #[.int .i64 0, .bool false]), (0, .pointer (some ⟨g, 0, none⟩)), (2, .pointer (some ⟨aB1, 0, none⟩)), (3, .bool true), (4, .int .i64 p), (5, .int .i64 (rd l p)), (6, .int .i64 n), (20, .bool (p == (l.length : Int))), (62, .bool false), (75, .bool (decide (n > (l.length : Int) - k))), (117, .bool ((k + n) == (l.length : Int))), (129, .bool (decide ((l.length : Int) - (k + n) < 2))), (175, .bool false), (191, .pointer (some ⟨g, 0, none⟩)), (192, .int .i64 (rd l p)), (193, .int .i64 (rd l p % 16))] := ha23
                  clear ha22
                  replace cH4 : Hp [g] w cW4 [(aB1, .cells #[.slice A1 y.length (c - k.toNat), .int .i64 o, .int .i64 0] 113 (0, 0)), (g, .cells #[.slice (some ad) l.length c, .int .i64 l.length, .int .i64 (s + n), .int .i64 m, .int .i64 6, .int .i64 l.length] 147 (0, 0))] := cH4
                  obtain ⟨aW7, aS7, aH7, hon⟩ := FW.Hp.store (P := Try.prog) cH4 0 2 3 (.int .i64 0) 1 rfl size3 rfl (by simp [Value.cells, FW.one_int, FW.one_bool, FW.one_slice, FW.one_ptr, FW.one_str, FW.one_float, FW.one_func, FW.one_nilf, FW.one_map]) (FW.leB (by kernel_rfl))
                  clear hon
                  replace aH7 : FW.Hp [g] w aW7 [(aB1, .cells #[.slice A1 y.length (c - k.toNat), .int .i64 o, .int .i64 0] 113 (0, 0)), (g, .cells #[.slice (some ad) l.length c, .int .i64 l.length, .int .i64 (s + n), .int .i64 m, .int .i64 6, .int .i64 l.length] 147 (0, 0))] := aH7
                  refine FW.listEndS  ha23 [0, 2, 3, 4, 5, 6, 20, 62, 75, 117, 129, 175] [.r, .r, .r, .r, .s aW7, .r] (E' := [(0, .pointer (some ⟨g, 0, none⟩)), (2, .pointer (some ⟨aB1, 0, none⟩)), (3, .bool false), (4, .int .i64 p), (5, .int .i64 (rd l p)), (6, .int .i64 n), (20, .bool (p == (l.length : Int))), (62, .bool false), (75, .bool (decide (n > (l.length : Int) - k))), (117, .bool ((k + n) == (l.length : Int))), (129, .bool (decide ((l.length : Int) - (k + n) < 2))), (175, .bool false)]) (w' := aW7) (qs := [(Instr.storeAt 3 (.pointer (some ⟨aB1, 2, none⟩)) (.int .i64 0)).run Try.prog cW4 = .ok () aW7]) (by kernel_rfl) ⟨aS7, trivial⟩ (fun a24 ha24 => ?_)
                  clear ha23
                  refine FW.plainS  ha24 [0, 2, 3, 4, 5, 6, 20, 62, 75, 117, 129, 175, 199] [.r, .r] (E' := [(0, .pointer (some ⟨g, 0, none⟩)), (2, .pointer (some ⟨aB1, 0, none⟩)), (3, .bool false), (4, .int .i64 p), (5, .int .i64 (rd l p)), (6, .int .i64 n), (20, .bool (p == (l.length : Int))), (62, .bool false), (75, .bool (decide (n > (l.length : Int) - k))), (117, .bool ((k + n) == (l.length : Int))), (129, .bool (decide ((l.length : Int) - (k + n) < 2))), (175, .bool false), (199, .bool true)]) (w' := aW7) (qs := []) (by kernel_rfl) trivial (fun a25 ha25 => ?_)
                  clear ha24
                  refine FW.condLT ha25 rfl (rfl) ?_
                  obtain ⟨aW8, aS8, aH8, hon⟩ := FW.Hp.store (P := Try.prog) aH7 0 0 113 (.agg #[.slice A1 y.length (c - k.toNat), .int .i64 o, .int .i64 0]) 3 rfl size113 rfl (by simp [Value.cells, FW.one_int, FW.one_bool, FW.one_slice, FW.one_ptr, FW.one_str, FW.one_float, FW.one_func, FW.one_nilf, FW.one_map]) (FW.leB (by kernel_rfl))
                  clear hon
                  replace aH8 : FW.Hp [g] w aW8 [(aB1, .cells #[.slice A1 y.length (c - k.toNat), .int .i64 o, .int .i64 0] 113 (0, 0)), (g, .cells #[.slice (some ad) l.length c, .int .i64 l.length, .int .i64 (s + n), .int .i64 m, .int .i64 6, .int .i64 l.length] 147 (0, 0))] := aH8
                  refine FW.plainS  ha25 [0, 2, 3, 4, 5, 6, 20, 62, 75, 117, 129, 175, 199] [.y (.agg #[.slice A1 y.length (c - k.toNat), .int .i64 o, .int .i64 0]), .s aW8, .r] (E' := [(0, .pointer (some ⟨g, 0, none⟩)), (2, .pointer (some ⟨aB1, 0, none⟩)), (3, .bool false), (4, .int .i64 p), (5, .int .i64 (rd l p)), (6, .int .i64 n), (20, .bool (p == (l.length : Int))), (62, .bool false), (75, .bool (decide (n > (l.length : Int) - k))), (117, .bool ((k + n) == (l.length : Int))), (129, .bool (decide ((l.length : Int) - (k + n) < 2))), (175, .bool false), (199, .bool true)]) (w' := aW8) (qs := [(Instr.storeAt 113 (.pointer (some ⟨aB1, 0, none⟩)) (.agg #[.slice A1 y.length (c - k.toNat), .int .i64 o, .int .i64 0])).run Try.prog aW7 = .ok () aW8, (Instr.loadAt 113 (.pointer (some ⟨aB1, 0, none⟩))).run Try.prog aW7 = .ok (.agg #[.slice A1 y.length (c - k.toNat), .int .i64 o, .int .i64 0]) aW7]) (by kernel_rfl) ⟨aS8, FW.ld_agg (off := 0) agg113 size113 (aH7.has 0 _ _ rfl) (FW.leB (by kernel_rfl)) (by kernel_rfl), trivial⟩ (fun a26 ha26 => ?_)
                  clear ha25
                  refine wp_ret ?_
                  refine FW.retc1 ha26 rfl rfl (FW.ld_agg (vs := #[.slice A1 y.length (c - k.toNat), .int .i64 o, .int .i64 0]) (off := 0) agg113 size113 (aH8.has 0 _ _ rfl) (FW.leB (by kernel_rfl)) (by kernel_rfl)) rfl ?_
                  exact ⟨_, _, _, _, _, _, 1, ⟨rfl, rfl, rfl⟩, rfl, aH8, rfl⟩
                · rw [hL2] at hr
                  dsimp only at hr
                  obtain ⟨hm0, hq0, hq1, hm1⟩ := lenF_le hl (by omega) (by omega) (by omega) hL2
                  refine FW.callAt ha22 109 #[.pointer (some ⟨g, 0, none⟩), .int .i64 (rd l p % 16)] (by kernel_rfl) (by kernel_rfl) (by kernel_rfl) (by kernel_rfl) ?_
                  refine (length_hp (rd l p % 16) hl (by omega) (by omega) (by omega) (by omega) hC hge hb0 hS aH6 1 rfl m1 q hL2).mono ?_
                  rintro e cW4 ⟨rfl, cH4⟩
                  refine ⟨_, rfl, fun a23 ha23 => ?_⟩
                  replace ha23 : Holds a23 211 [(194, .tuple #[.int .i64 m1, .bool true]), (0, .pointer (some ⟨g, 0, none⟩)), (2, .pointer (some ⟨aB1, 0, none⟩)), (3, .bool true), (4, .int .i64 p), (5, .int .i64 (rd l p)), (6, .int .i64 n), (20, .bool (p == (l.length : Int))), (62, .bool false), (75, .bool (decide (n > (l.length : Int) - k))), (117, .bool ((k + n) == (l.length : Int))), (129, .bool (decide ((l.length : Int) - (k + n) < 2))), (175, .bool false), (191, .pointer (some ⟨g, 0, none⟩)), (192, .int .i64 (rd l p)), (193, .int .i64 (rd l p % 16))] := ha23
                  clear ha22
                  replace cH4 : Hp [g] w cW4 [(aB1, .cells #[.slice A1 y.length (c - k.toNat), .int .i64 o, .int .i64 0] 113 (0, 0)), (g, .cells #[.slice (some ad) l.length c, .int .i64 q, .int .i64 (s + n), .int .i64 m, .int .i64 0, .int .i64 b] 147 (0, 0))] := cH4
                  obtain ⟨aW7, aS7, aH7, hon⟩ := FW.Hp.store (P := Try.prog) cH4 0 2 3 (.int .i64 m1) 1 rfl size3 rfl (by simp [Value.cells, FW.one_int, FW.one_bool, FW.one_slice, FW.one_ptr, FW.one_str, FW.one_float, FW.one_func, FW.one_nilf, FW.one_map]) (FW.leB (by kernel_rfl))
                  clear hon
                  replace aH7 : FW.Hp [g] w aW7 [(aB1, .cells #[.slice A1 y.length (c - k.toNat), .int .i64 o, .int .i64 m1] 113 (0, 0)), (g, .cells #[.slice (some ad) l.length c, .int .i64 q, .int .i64 (s + n), .int .i64 m, .int .i64 0, .int .i64 b] 147 (0, 0))] := aH7
                  refine FW.listEndS  ha23 [0, 2, 3, 4, 5, 6, 20, 62, 75, 117, 129, 175] [.r, .r, .r, .r, .s aW7, .r] (E' := [(0, .pointer (some ⟨g, 0, none⟩)), (2, .pointer (some ⟨aB1, 0, none⟩)), (3, .bool true), (4, .int .i64 p), (5, .int .i64 (rd l p)), (6, .int .i64 n), (20, .bool (p == (l.length : Int))), (62, .bool false), (75, .bool (decide (n > (l.length : Int) - k))), (117, .bool ((k + n) == (l.length : Int))), (129, .bool (decide ((l.length : Int) - (k + n) < 2))), (175, .bool false)]) (w' := aW7) (qs := [(Instr.storeAt 3 (.pointer (some ⟨aB1, 2, none⟩)) (.int .i64 m1)).run Try.prog cW4 = .ok () aW7]) (by kernel_rfl) ⟨aS7, trivial⟩ (fun a24 ha24 => ?_)
                  clear ha23
                  refine FW.plainS  ha24 [0, 2, 3, 4, 5, 6, 20, 62, 75, 117, 129, 175, 199] [.r, .r] (E' := [(0, .pointer (some ⟨g, 0, none⟩)), (2, .pointer (some ⟨aB1, 0, none⟩)), (3, .bool true), (4, .int .i64 p), (5, .int .i64 (rd l p)), (6, .int .i64 n), (20, .bool (p == (l.length : Int))), (62, .bool false), (75, .bool (decide (n > (l.length : Int) - k))), (117, .bool ((k + n) == (l.length : Int))), (129, .bool (decide ((l.length : Int) - (k + n) < 2))), (175, .bool false), (199, .bool false)]) (w' := aW7) (qs := []) (by kernel_rfl) trivial (fun a25 ha25 => ?_)
                  clear ha24
                  refine FW.condLF ha25 rfl (rfl) ?_
                  show Code.wp _ _ _ _ _
                  obtain ⟨aW8, aS8, aH8, hon⟩ := FW.Hp.store (P := Try.prog) aH7 0 2 3 (.int .i64 (m1 + 4)) 1 rfl size3 rfl (by simp [Value.cells, FW.one_int, FW.one_bool, FW.one_slice, FW.one_ptr, FW.one_str, FW.one_float, FW.one_func, FW.one_nilf, FW.one_map]) (FW.leB (by kernel_rfl))
                  clear hon
                  replace aH8 : FW.Hp [g] w aW8 [(aB1, .cells #[.slice A1 y.length (c - k.toNat), .int .i64 o, .int .i64 (m1 + 4)] 113 (0, 0)), (g, .cells #[.slice (some ad) l.length c, .int .i64 q, .int .i64 (s + n), .int .i64 m, .int .i64 0, .int .i64 b] 147 (0, 0))] := aH8
                  refine FW.plainS  ha25 [0, 2, 3, 4, 5, 6, 20, 62, 75, 117, 129, 175, 199] [.r, .y (.int .i64 m1), .e (.int .i64 (m1 + 4)), .r, .s aW8] (E' := [(0, .pointer (some ⟨g, 0, none⟩)), (2, .pointer (some ⟨aB1, 0, none⟩)), (3, .bool true), (4, .int .i64 p), (5, .int .i64 (rd l p)), (6, .int .i64 n), (20, .bool (p == (l.length : Int))), (62, .bool false), (75, .bool (decide (n > (l.length : Int) - k))), (117, .bool ((k + n) == (l.length : Int))), (129, .bool (decide ((l.length : Int) - (k + n) < 2))), (175, .bool false), (199, .bool false)]) (w' := aW8) (qs := [(Instr.storeAt 3 (.pointer (some ⟨aB1, 2, none⟩)) (.int .i64 (m1 + 4))).run Try.prog aW7 = .ok () aW8, (.int .i64 (IntKind.wrap .i64 (m1 + 4)) : Value) = .int .i64 (m1 + 4), (Instr.loadAt 3 (.pointer (some ⟨aB1, 2, none⟩))).run Try.prog aW7 = .ok (.int .i64 m1) aW7]) (by kernel_rfl) ⟨aS8, FW.nowrap (by omega), FW.ld agg3 (aH7.cell 0 2 rfl rfl), trivial⟩ (fun a26 ha26 => ?_)
                  clear ha25
                  by_cases c8 : m1 + 4 > m - (s + n)
                  · rw [if_pos c8] at hr
                    subst hr
                    refine FW.heldStartS (S := fun sw4 => FW.All [(Instr.loadAt 113 (.pointer (some ⟨aB1, 0, none⟩))).run Try.prog sw4 = .ok (.agg #[.slice A1 y.length (c - k.toNat), .int .i64 o, .int .i64 (m1 + 4)]) sw4, (Instr.loadAt 3 (.pointer (some ⟨aB1, 2, none⟩))).run Try.prog sw4 = .ok (.int .i64 (m1 + 4)) sw4]) (by kernel_rfl) ?_
                    have aHE4 := aH8.drew
                    generalize aW8.drew = aE4 at aHE4 ⊢
                    refine FW.held 3 (by kernel_rfl) (by repeat (first | exact FW.PanicOk.body _ _ _ | apply FW.PanicOk.then | apply FW.PanicOk.inBlock | apply FW.PanicOk.noGoto)) ⟨FW.ld_agg (off := 0) agg113 size113 (aHE4.has 0 _ _ rfl) (FW.leB (by kernel_rfl)) (by kernel_rfl), FW.ld agg3 (aHE4.cell 0 2 rfl rfl), trivial⟩ ha26 [0, 2, 3, 4, 5, 6, 20, 62, 75, 117, 129, 175, 199, 205, 206, 207, 208, 209] [(0, .y (.agg #[.slice A1 y.length (c - k.toNat), .int .i64 o, .int .i64 (m1 + 4)])), (1, .r), (2, .r), (4, .r), (3, .y (.int .i64 (m1 + 4)))] (by kernel_rfl) (pf := fun sw4 => [(Instr.loadAt 113 (.pointer (some ⟨aB1, 0, none⟩))).run Try.prog sw4 = .ok (.agg #[.slice A1 y.length (c - k.toNat), .int .i64 o, .int .i64 (m1 + 4)]) sw4, (Instr.loadAt 3 (.pointer (some ⟨aB1, 2, none⟩))).run Try.prog sw4 = .ok (.int .i64 (m1 + 4)) sw4]) (vs := [.agg #[.slice A1 y.length (c - k.toNat), .int .i64 o, .int .i64 (m1 + 4)], .pointer (some ⟨g, 0, none⟩), .pointer (some ⟨aB1, 2, none⟩), .int .i64 p, .int .i64 (m1 + 4)]) (k := 5) (E' := [(0, .pointer (some ⟨g, 0, none⟩)), (2, .pointer (some ⟨aB1, 0, none⟩)), (3, .bool true), (4, .int .i64 p), (5, .int .i64 (rd l p)), (6, .int .i64 n), (20, .bool (p == (l.length : Int))), (62, .bool false), (75, .bool (decide (n > (l.length : Int) - k))), (117, .bool ((k + n) == (l.length : Int))), (129, .bool (decide ((l.length : Int) - (k + n) < 2))), (175, .bool false), (199, .bool false), (205, .agg #[.slice A1 y.length (c - k.toNat), .int .i64 o, .int .i64 (m1 + 4)]), (206, .pointer (some ⟨g, 0, none⟩)), (207, .pointer (some ⟨aB1, 2, none⟩)), (208, .int .i64 (m1 + 4)), (209, .int .i64 p)]) (ls' := #[true, true, true, true, true, false, false, false]) (fun sw4 => by kernel_rfl) (fun sw4 hS => ⟨hS.1, hS.2.1, trivial⟩) (fun a27 ha27 => ?_)
                    clear ha26
                    refine FW.heldCall ha27 5 (some 210) 110 #[.pointer (some ⟨g, 0, none⟩), .int .i64 (m1 + 4), .int .i64 p] (by kernel_rfl) (by kernel_rfl) (by kernel_rfl) (by kernel_rfl) (by kernel_rfl) (by kernel_rfl) (by kernel_rfl) ?_
                    refine (roomN_hp (m1 + 4) p (by omega) (by omega) hm hC hge hb0 hS aHE4 1 rfl c8).mono ?_
                    rintro e cW5 ⟨rfl, cH5⟩
                    replace cH5 : Hp [g] w cW5 [(aB1, .cells #[.slice A1 y.length (c - k.toNat), .int .i64 o, .int .i64 (m1 + 4)] 113 (0, 0)), (g, .cells #[.slice (some ad) l.length c, .int .i64 q, .int .i64 (s + n), .int .i64 m, .int .i64 2, .int .i64 p] 147 (0, 0))] := cH5
                    refine ⟨_, rfl, ⟨FW.ld_agg (off := 0) agg113 size113 (cH5.has 0 _ _ rfl) (FW.leB (by kernel_rfl)) (by kernel_rfl), FW.ld agg3 (cH5.cell 0 2 rfl rfl), trivial⟩, fun a28 ha28 => ?_⟩
                    clear ha27
                    replace ha28 : Holds a28 211 [(0, .pointer (some ⟨g, 0, none⟩)), (2, .pointer (some ⟨aB1, 0, none⟩)), (3, .bool true), (4, .int .i64 p), (5, .int .i64 (rd l p)), (6, .int .i64 n), (20, .bool (p == (l.length : Int))), (62, .bool false), (75, .bool (decide (n > (l.length : Int) - k))), (117, .bool ((k + n) == (l.length : Int))), (129, .bool (decide ((l.length : Int) - (k + n) < 2))), (175, .bool false), (199, .bool false), (205, .agg #[.slice A1 y.length (c - k.toNat), .int .i64 o, .int .i64 (m1 + 4)]), (206, .pointer (some ⟨g, 0, none⟩)), (207, .pointer (some ⟨aB1, 2, none⟩)), (208, .int .i64 (m1 + 4)), (209, .int .i64 p), (210, .bool false)] := FW.Holds.mono ha28 (FW.proj_look (ks := [0, 2, 3, 4, 5, 6, 20, 62, 75, 117, 129, 175, 199, 205, 206, 207, 208, 209, 210]) (by kernel_rfl))
                    obtain ⟨aW9, aS9, aH9, hon⟩ := FW.Hp.store (P := Try.prog) cH5 0 0 113 (.agg #[.slice A1 y.length (c - k.toNat), .int .i64 o, .int .i64 (m1 + 4)]) 3 rfl size113 rfl (by simp [Value.cells, FW.one_int, FW.one_bool, FW.one_slice, FW.one_ptr, FW.one_str, FW.one_float, FW.one_func, FW.one_nilf, FW.one_map]) (FW.leB (by kernel_rfl))
                    clear hon
                    replace aH9 : FW.Hp [g] w aW9 [(aB1, .cells #[.slice A1 y.length (c - k.toNat), .int .i64 o, .int .i64 (m1 + 4)] 113 (0, 0)), (g, .cells #[.slice (some ad) l.length c, .int .i64 q, .int .i64 (s + n), .int .i64 m, .int .i64 2, .int .i64 p] 147 (0, 0))] := aH9
                    refine FW.heldSt aW9 ha28 6 113 (.pointer (some ⟨aB1, 0, none⟩)) (.agg #[.slice A1 y.length (c - k.toNat), .int .i64 o, .int .i64 (m1 + 4)]) (by kernel_rfl) (by kernel_rfl) (by kernel_rfl) (by kernel_rfl) (by kernel_rfl) (by kernel_rfl) aS9 ⟨FW.ld_agg (off := 0) agg113 size113 (aH9.has 0 _ _ rfl) (FW.leB (by kernel_rfl)) (by kernel_rfl), FW.ld agg3 (aH9.cell 0 2 rfl rfl), trivial⟩ (fun a29 ha29 => ?_)
                    clear ha28
                    refine FW.held 0 (by kernel_rfl) (by repeat (first | exact FW.PanicOk.body _ _ _ | apply FW.PanicOk.then | apply FW.PanicOk.inBlock | apply FW.PanicOk.noGoto)) ⟨FW.ld_agg (off := 0) agg113 size113 (aH9.has 0 _ _ rfl) (FW.leB (by kernel_rfl)) (by kernel_rfl), FW.ld agg3 (aH9.cell 0 2 rfl rfl), trivial⟩ ha29 [0, 2, 3, 4, 5, 6, 20, 62, 75, 117, 129, 175, 199, 205, 206, 207, 208, 209, 210] [(7, .r)] (by kernel_rfl) (pf := fun sw4 => []) (vs := [.bool false]) (k := 1) (E' := [(0, .pointer (some ⟨g, 0, none⟩)), (2, .pointer (some ⟨aB1, 0, none⟩)), (3, .bool false), (4, .int .i64 p), (5, .int .i64 (rd l p)), (6, .int .i64 n), (20, .bool (p == (l.length : Int))), (62, .bool false), (75, .bool (decide (n > (l.length : Int) - k))), (117, .bool ((k + n) == (l.length : Int))), (129, .bool (decide ((l.length : Int) - (k + n) < 2))), (175, .bool false), (199, .bool false), (205, .agg #[.slice A1 y.length (c - k.toNat), .int .i64 o, .int .i64 (m1 + 4)]), (206, .pointer (some ⟨g, 0, none⟩)), (207, .pointer (some ⟨aB1, 2, none⟩)), (208, .int .i64 (m1 + 4)), (209, .int .i64 p), (210, .bool false)]) (ls' := #[true, true, true, true, true, true, true, true]) (fun sw4 => by kernel_rfl) (fun sw4 hS => trivial) (fun a30 ha30 => ?_)
                    clear ha29
                    refine FW.heldDoneS (by kernel_rfl) ?_
                    replace ha30 : Holds a30 211 [(0, .pointer (some ⟨g, 0, none⟩)), (2, .pointer (some ⟨aB1, 0, none⟩)), (3, .bool false), (4, .int .i64 p), (5, .int .i64 (rd l p)), (6, .int .i64 n), (20, .bool (p == (l.length : Int))), (62, .bool false), (75, .bool (decide (n > (l.length : Int) - k))), (117, .bool ((k + n) == (l.length : Int))), (129, .bool (decide ((l.length : Int) - (k + n) < 2))), (175, .bool false), (199, .bool false)] := FW.Holds.mono ha30 (FW.proj_look (ks := [0, 2, 3, 4, 5, 6, 20, 62, 75, 117, 129, 175, 199]) (by kernel_rfl))
                    refine wp_ret ?_
                    refine FW.retc1 ha30 rfl rfl (FW.ld_agg (vs := #[.slice A1 y.length (c - k.toNat), .int .i64 o, .int .i64 (m1 + 4)]) (off := 0) agg113 size113 (aH9.has 0 _ _ rfl) (FW.leB (by kernel_rfl)) (by kernel_rfl)) rfl ?_
                    exact ⟨_, _, _, _, _, _, 1, ⟨rfl, rfl, rfl⟩, rfl, aH9, rfl⟩
                  · rw [if_neg c8] at hr
                    subst hr
                    refine FW.heldStartS (S := fun sw4 => FW.All [(Instr.loadAt 113 (.pointer (some ⟨aB1, 0, none⟩))).run Try.prog sw4 = .ok (.agg #[.slice A1 y.length (c - k.toNat), .int .i64 o, .int .i64 (m1 + 4)]) sw4, (Instr.loadAt 3 (.pointer (some ⟨aB1, 2, none⟩))).run Try.prog sw4 = .ok (.int .i64 (m1 + 4)) sw4]) (by kernel_rfl) ?_
                    have aHE4 := aH8.drew
                    generalize aW8.drew = aE4 at aHE4 ⊢
                    refine FW.held 3 (by kernel_rfl) (by repeat (first | exact FW.PanicOk.body _ _ _ | apply FW.PanicOk.then | apply FW.PanicOk.inBlock | apply FW.PanicOk.noGoto)) ⟨FW.ld_agg (off := 0) agg113 size113 (aHE4.has 0 _ _ rfl) (FW.leB (by kernel_rfl)) (by kernel_rfl), FW.ld agg3 (aHE4.cell 0 2 rfl rfl), trivial⟩ ha26 [0, 2, 3, 4, 5, 6, 20, 62, 75, 117, 129, 175, 199, 205, 206, 207, 208, 209] [(0, .y (.agg #[.slice A1 y.length (c - k.toNat), .int .i64 o, .int .i64 (m1 + 4)])), (1, .r), (2, .r), (4, .r), (3, .y (.int .i64 (m1 + 4)))] (by kernel_rfl) (pf := fun sw4 => [(Instr.loadAt 113 (.pointer (some ⟨aB1, 0, none⟩))).run Try.prog sw4 = .ok (.agg #[.slice A1 y.length (c - k.toNat), .int .i64 o, .int .i64 (m1 + 4)]) sw4, (Instr.loadAt 3 (.pointer (some ⟨aB1, 2, none⟩))).run Try.prog sw4 = .ok (.int .i64 (m1 + 4)) sw4]) (vs := [.agg #[.slice A1 y.length (c - k.toNat), .int .i64 o, .int .i64 (m1 + 4)], .pointer (some ⟨g, 0, none⟩), .pointer (some ⟨aB1, 2, none⟩), .int .i64 p, .int .i64 (m1 + 4)]) (k := 5) (E' := [(0, .pointer (some ⟨g, 0, none⟩)), (2, .pointer (some ⟨aB1, 0, none⟩)), (3, .bool true), (4, .int .i64 p), (5, .int .i64 (rd l p)), (6, .int .i64 n), (20, .bool (p == (l.length : Int))), (62, .bool false), (75, .bool (decide (n > (l.length : Int) - k))), (117, .bool ((k + n) == (l.length : Int))), (129, .bool (decide ((l.length : Int) - (k + n) < 2))), (175, .bool false), (199, .bool false), (205, .agg #[.slice A1 y.length (c - k.toNat), .int .i64 o, .int .i64 (m1 + 4)]), (206, .pointer (some ⟨g, 0, none⟩)), (207, .pointer (some ⟨aB1, 2, none⟩)), (208, .int .i64 (m1 + 4)), (209, .int .i64 p)]) (ls' := #[true, true, true, true, true, false, false, false]) (fun sw4 => by kernel_rfl) (fun sw4 hS => ⟨hS.1, hS.2.1, trivial⟩) (fun a27 ha27 => ?_)
                    clear ha26
                    refine FW.heldCall ha27 5 (some 210) 110 #[.pointer (some ⟨g, 0, none⟩), .int .i64 (m1 + 4), .int .i64 p] (by kernel_rfl) (by kernel_rfl) (by kernel_rfl) (by kernel_rfl) (by kernel_rfl) (by kernel_rfl) (by kernel_rfl) ?_
                    refine (room_hp (m1 + 4) p (by omega) (by omega) hm (by omega) hC hge hb0 hS aHE4 1 rfl c8).mono ?_
                    rintro e cW5 ⟨rfl, cH5⟩
                    replace cH5 : Hp [g] w cW5 [(aB1, .cells #[.slice A1 y.length (c - k.toNat), .int .i64 o, .int .i64 (m1 + 4)] 113 (0, 0)), (g, .cells #[.slice (some ad) l.length c, .int .i64 q, .int .i64 (s + n + (m1 + 4)), .int .i64 m, .int .i64 0, .int .i64 b] 147 (0, 0))] := cH5
                    refine ⟨_, rfl, ⟨FW.ld_agg (off := 0) agg113 size113 (cH5.has 0 _ _ rfl) (FW.leB (by kernel_rfl)) (by kernel_rfl), FW.ld agg3 (cH5.cell 0 2 rfl rfl), trivial⟩, fun a28 ha28 => ?_⟩
                    clear ha27
                    replace ha28 : Holds a28 211 [(0, .pointer (some ⟨g, 0, none⟩)), (2, .pointer (some ⟨aB1, 0, none⟩)), (3, .bool true), (4, .int .i64 p), (5, .int .i64 (rd l p)), (6, .int .i64 n), (20, .bool (p == (l.length : Int))), (62, .bool false), (75, .bool (decide (n > (l.length : Int) - k))), (117, .bool ((k + n) == (l.length : Int))), (129, .bool (decide ((l.length : Int) - (k + n) < 2))), (175, .bool false), (199, .bool false), (205, .agg #[.slice A1 y.length (c - k.toNat), .int .i64 o, .int .i64 (m1 + 4)]), (206, .pointer (some ⟨g, 0, none⟩)), (207, .pointer (some ⟨aB1, 2, none⟩)), (208, .int .i64 (m1 + 4)), (209, .int .i64 p), (210, .bool true)] := FW.Holds.mono ha28 (FW.proj_look (ks := [0, 2, 3, 4, 5, 6, 20, 62, 75, 117, 129, 175, 199, 205, 206, 207, 208, 209, 210]) (by kernel_rfl))
                    obtain ⟨aW9, aS9, aH9, hon⟩ := FW.Hp.store (P := Try.prog) cH5 0 0 113 (.agg #[.slice A1 y.length (c - k.toNat), .int .i64 o, .int .i64 (m1 + 4)]) 3 rfl size113 rfl (by simp [Value.cells, FW.one_int, FW.one_bool, FW.one_slice, FW.one_ptr, FW.one_str, FW.one_float, FW.one_func, FW.one_nilf, FW.one_map]) (FW.leB (by kernel_rfl))
                    clear hon
                    replace aH9 : FW.Hp [g] w aW9 [(aB1, .cells #[.slice A1 y.length (c - k.toNat), .int .i64 o, .int .i64 (m1 + 4)] 113 (0, 0)), (g, .cells #[.slice (some ad) l.length c, .int .i64 q, .int .i64 (s + n + (m1 + 4)), .int .i64 m, .int .i64 0, .int .i64 b] 147 (0, 0))] := aH9
                    refine FW.heldSt aW9 ha28 6 113 (.pointer (some ⟨aB1, 0, none⟩)) (.agg #[.slice A1 y.length (c - k.toNat), .int .i64 o, .int .i64 (m1 + 4)]) (by kernel_rfl) (by kernel_rfl) (by kernel_rfl) (by kernel_rfl) (by kernel_rfl) (by kernel_rfl) aS9 ⟨FW.ld_agg (off := 0) agg113 size113 (aH9.has 0 _ _ rfl) (FW.leB (by kernel_rfl)) (by kernel_rfl), FW.ld agg3 (aH9.cell 0 2 rfl rfl), trivial⟩ (fun a29 ha29 => ?_)
                    clear ha28
                    refine FW.held 0 (by kernel_rfl) (by repeat (first | exact FW.PanicOk.body _ _ _ | apply FW.PanicOk.then | apply FW.PanicOk.inBlock | apply FW.PanicOk.noGoto)) ⟨FW.ld_agg (off := 0) agg113 size113 (aH9.has 0 _ _ rfl) (FW.leB (by kernel_rfl)) (by kernel_rfl), FW.ld agg3 (aH9.cell 0 2 rfl rfl), trivial⟩ ha29 [0, 2, 3, 4, 5, 6, 20, 62, 75, 117, 129, 175, 199, 205, 206, 207, 208, 209, 210] [(7, .r)] (by kernel_rfl) (pf := fun sw4 => []) (vs := [.bool true]) (k := 1) (E' := [(0, .pointer (some ⟨g, 0, none⟩)), (2, .pointer (some ⟨aB1, 0, none⟩)), (3, .bool true), (4, .int .i64 p), (5, .int .i64 (rd l p)), (6, .int .i64 n), (20, .bool (p == (l.length : Int))), (62, .bool false), (75, .bool (decide (n > (l.length : Int) - k))), (117, .bool ((k + n) == (l.length : Int))), (129, .bool (decide ((l.length : Int) - (k + n) < 2))), (175, .bool false), (199, .bool false), (205, .agg #[.slice A1 y.length (c - k.toNat), .int .i64 o, .int .i64 (m1 + 4)]), (206, .pointer (some ⟨g, 0, none⟩)), (207, .pointer (some ⟨aB1, 2, none⟩)), (208, .int .i64 (m1 + 4)), (209, .int .i64 p), (210, .bool true)]) (ls' := #[true, true, true, true, true, true, true, true]) (fun sw4 => by kernel_rfl) (fun sw4 hS => trivial) (fun a30 ha30 => ?_)
                    clear ha29
                    refine FW.heldDoneS (by kernel_rfl) ?_
                    replace ha30 : Holds a30 211 [(0, .pointer (some ⟨g, 0, none⟩)), (2, .pointer (some ⟨aB1, 0, none⟩)), (3, .bool true), (4, .int .i64 p), (5, .int .i64 (rd l p)), (6, .int .i64 n), (20, .bool (p == (l.length : Int))), (62, .bool false), (75, .bool (decide (n > (l.length : Int) - k))), (117, .bool ((k + n) == (l.length : Int))), (129, .bool (decide ((l.length : Int) - (k + n) < 2))), (175, .bool false), (199, .bool false)] := FW.Holds.mono ha30 (FW.proj_look (ks := [0, 2, 3, 4, 5, 6, 20, 62, 75, 117, 129, 175, 199]) (by kernel_rfl))
                    rw [← hyl] at aH9
                    refine wp_ret ?_
                    refine FW.retc1 ha30 rfl rfl (FW.ld_agg (vs := #[.slice A1 y.length (c - k.toNat), .int .i64 o, .int .i64 (m1 + 4)]) (off := 0) agg113 size113 (aH9.has 0 _ _ rfl) (FW.leB (by kernel_rfl)) (by kernel_rfl)) rfl ?_
                    exact ⟨_, _, _, 1, rfl, ⟨hyC, hA3⟩, aH9, rfl⟩
theorem Ow_call {S S' : List Nat} {w W W1 : World} {Lh L' : List (Nat × Obj)} {e : TypeId} {v : Value} {xs : List Value} {g : Nat} {o o1 : Obj} (O : Ow S w W Lh e v xs) (i : Nat) (hi : Lh[i]? = some (g, o)) (h' : Hp S' W W1 L') (hS : ∀ b ∈ S', b = g) : Ow S w W1 (Lh.set i (g, o1)) e v xs :=
  O.but i hi (fun k hk hne => h'.keep k hk (fun hm => hne (hS k hm)))
/-- What a call of next answers, to one who has the reader in hand. -/
def NextPost' (A : Option Addr) (c : Nat) (w0 : World) (S : List Nat) (w W : World) (Lh : List (Nat × Obj)) (j g : Nat) (l : List Int) (s m b : Int) : LzR → Ending → World → Prop
  | .bad er at_, e, w' => ∃ (v0 v1 v2 : Value) (p2 s2 : Int), (one v0 = true ∧ one v1 = true ∧ one v2 = true) ∧ e = .returned (.tuple #[.agg #[v0, v1, v2], .bool false]) ∧ Hp S w w' (Lh.set j (g, Obj.cells #[.slice A l.length c, .int .i64 (p2), .int .i64 (s2), .int .i64 (m), .int .i64 (er), .int .i64 (at_)] 147 (0, 0))) ∧ ∀ e v xs, Ow S w W Lh e v xs → Ow S w w' (Lh.set j (g, Obj.cells #[.slice A l.length c, .int .i64 (p2), .int .i64 (s2), .int .i64 (m), .int .i64 (er), .int .i64 (at_)] 147 (0, 0))) e v xs
  | .last lit, e, w' => ∃ (A1 : Option Addr) (c1 : Nat) (p2 : Int), e = .returned (.tuple #[.agg #[.slice A1 lit.length c1, .int .i64 0, .int .i64 0], .bool true]) ∧ (Kd.C (Kd.int .u8) w0 A1 lit.length lit ∧ lit.length ≤ c1) ∧ Hp S w w' (Lh.set j (g, Obj.cells #[.slice A l.length c, .int .i64 (p2), .int .i64 (s + lit.length), .int .i64 (m), .int .i64 (0), .int .i64 (b)] 147 (0, 0))) ∧ ∀ e v xs, Ow S w W Lh e v xs → Ow S w w' (Lh.set j (g, Obj.cells #[.slice A l.length c, .int .i64 (p2), .int .i64 (s + lit.length), .int .i64 (m), .int .i64 (0), .int .i64 (b)] 147 (0, 0))) e v xs
  | .more lit off len q, e, w' => ∃ (A1 : Option Addr) (c1 : Nat), e = .returned (.tuple #[.agg #[.slice A1 lit.length c1, .int .i64 off, .int .i64 len], .bool true]) ∧ (Kd.C (Kd.int .u8) w0 A1 lit.length lit ∧ lit.length ≤ c1) ∧ Hp S w w' (Lh.set j (g, Obj.cells #[.slice A l.length c, .int .i64 (q), .int .i64 (s + lit.length + len), .int .i64 (m), .int .i64 (0), .int .i64 (b)] 147 (0, 0))) ∧ ∀ e v xs, Ow S w W Lh e v xs → Ow S w w' (Lh.set j (g, Obj.cells #[.slice A l.length c, .int .i64 (q), .int .i64 (s + lit.length + len), .int .i64 (m), .int .i64 (0), .int .i64 (b)] 147 (0, 0))) e v xs
theorem next_hp {A : Option Addr} {c g : Nat} {l : List Int} {p s m b : Int} {w0 w W : World} {S : List Nat} {Lh : List (Nat × Obj)} (H : Hp S w W Lh) (j : Nat) (hj : Lh[j]? = some (g, Obj.cells #[.slice A l.length c, .int .i64 (p), .int .i64 (s), .int .i64 (m), .int .i64 (0), .int .i64 (b)] 147 (0, 0))) (hC : Kd.C (Kd.int .u8) w0 A l.length l) (hb0 : Below w0.heap.size w0 w) (hS : ∀ b ∈ S, w0.heap.size ≤ b)
    (hl : Bytes l) (hc : l.length ≤ c) (hp0 : 0 ≤ p) (hp1 : p ≤ (l.length : Int)) (hs0 : 0 ≤ s) (hs1 : s ≤ m) (hm : m ≤ 1048576) :
    Calls Try.prog 105 #[.pointer (some ⟨g, 0, none⟩)] W (NextPost' A c w0 S w W Lh j g l s m b (lzNext l m p s)) := by
  have hge : w0.heap.size ≤ g := by
    rcases H.mine j g _ hj with h | h
    · exact hS g h
    · exact Nat.le_trans hb0.size h
  refine (next_calls A c g l p s m b w0 W (H.has j g _ hj) hge hC (H.belowAt hb0 hS) hl hc hp0 hp1 hs0 hs1 hm).mono ?_
  intro e w' h
  cases hr : lzNext l m p s with
  | bad er at_ =>
    rw [hr] at h
    obtain ⟨v0, v1, v2, p2, s2, L', i, ho, he, h', hi⟩ := h
    exact ⟨v0, v1, v2, p2, s2, ho, he, H.call j hj h' (by simp) i hi, fun e v xs O => Ow_call O j hj h' (by simp)⟩
  | last lit =>
    rw [hr] at h
    obtain ⟨A1, c1, p2, L', i, he, hA, h', hi⟩ := h
    exact ⟨A1, c1, p2, he, hA, H.call j hj h' (by simp) i hi, fun e v xs O => Ow_call O j hj h' (by simp)⟩
  | more lit off len q =>
    rw [hr] at h
    obtain ⟨A1, c1, L', i, he, hA, h', hi⟩ := h
    exact ⟨A1, c1, he, hA, H.call j hj h' (by simp) i hi, fun e v xs O => Ow_call O j hj h' (by simp)⟩

end Go.Proofs.Ytdlfflgcmgkmeaa.P

namespace Go.Proofs.Ytdlfflgcmgkmeaa.P
open Go.RowKit Go.Proofs.YtdlfflgcmgkmeaaW.PrintWords Go.Proofs.YtdlfflgcmgkmeaaW.PrintLast Go.Proofs.YtdlfflgcmgkmeaaW.PrintMore Go.FW
set_option linter.unusedVariables false
set_option linter.unusedSimpArgs false


/-- So many bytes copied from so far back. -/
def copyN : Nat → Nat → List Int → List Int
  | 0, _, ys => ys
  | k + 1, off, ys => copyN k off ys ++ [rd (copyN k off ys) ((copyN k off ys).length - off : Nat)]
theorem copyN_len : ∀ (k off : Nat) (ys : List Int), (copyN k off ys).length = ys.length + k
  | 0, _, _ => rfl
  | k + 1, off, ys => by simp only [copyN, List.length_append, List.length_cons, List.length_nil, copyN_len k off ys]; omega
set_option maxHeartbeats 2000000 in
theorem unpack_hp {S : List Nat} {w W : World} {Lh : List (Nat × Obj)} {w0 : World} {v : Value} {xs lit : List Int} {A1 : Option Addr} {c1 off len : Nat} (H : Hp S w W Lh) (O : Ow S w W Lh 5 v (u8s xs)) (hC : Kd.C (Kd.int .u8) w0 A1 lit.length lit) (hb0 : Below w0.heap.size w0 w) (hS : ∀ b ∈ S, w0.heap.size ≤ b)
    (hoff : len = 0 ∨ (1 ≤ off ∧ off ≤ xs.length + lit.length)) (hlen : xs.length + lit.length + len ≤ 1099511627776) (hoff2 : off ≤ 1099511627776) :
    Calls Try.prog 88 #[v, .agg #[.slice A1 lit.length c1, .int .i64 (off : Int), .int .i64 (len : Int)]] W fun e w' => ∃ v', e = .returned v' ∧ Hp S w w' Lh ∧ Ow S w w' Lh 5 v' (u8s (copyN len off (xs ++ lit))) := by
  obtain ⟨A0, c0, rfl, hc0⟩ := Ob_form O
  refine FW.enter [.slice A0 xs.length c0, .agg #[.slice A1 lit.length c1, .int .i64 (off : Int), .int .i64 (len : Int)]] 36 Try.func88 rfl rfl (FW.leB (by kernel_rfl)) (fun a0 ha0 => ?_)
  have ha0 : Holds a0 36 [(0, .slice A0 xs.length c0), (1, .agg #[.slice A1 lit.length c1, .int .i64 (off : Int), .int .i64 (len : Int)])] := ha0
  have HO := O
  have aH1 := H.alloc (.cells #[.slice A1 lit.length c1, .int .i64 (off : Int), .int .i64 (len : Int)] 113)
  replace HO := HO.alloc (.cells #[.slice A1 lit.length c1, .int .i64 (off : Int), .int .i64 (len : Int)] 113)
  refine FW.plainS  ha0 [0, 1, 3, 4] [.r, .r] (E' := [(0, .slice A0 xs.length c0), (1, .agg #[.slice A1 lit.length c1, .int .i64 (off : Int), .int .i64 (len : Int)]), (3, .pointer (some ⟨W.heap.size, 0, none⟩)), (4, .slice none 0 0)]) (w' := (W.alloc (.cells #[.slice A1 lit.length c1, .int .i64 (off : Int), .int .i64 (len : Int)] 113))) (qs := []) (by kernel_rfl) trivial (fun a1 ha1 => ?_)
  clear ha0
  generalize W.alloc (.cells #[.slice A1 lit.length c1, .int .i64 (off : Int), .int .i64 (len : Int)] 113) = aW1 at aH1 HO ⊢
  obtain ⟨aB1, hbn⟩ : ∃ b, b = W.heap.size := ⟨_, rfl⟩
  rw [← hbn] at aH1 HO ha1; clear hbn
  refine FW.plainS  ha1 [0, 1, 3, 4, 5] [.r, .r, .r] (E' := [(0, .slice A0 xs.length c0), (1, .agg #[.slice A1 lit.length c1, .int .i64 (off : Int), .int .i64 (len : Int)]), (3, .pointer (some ⟨aB1, 0, none⟩)), (4, .slice none 0 0), (5, .int .i64 (xs.length : Int))]) (w' := aW1) (qs := []) (by kernel_rfl) trivial (fun a2 ha2 => ?_)
  clear ha1
  refine FW.plainToS 4 ha2 [0, 1, 3, 4, 5, 8, 9, 10, 11] [.r, .r, .y (.slice A1 lit.length c1), .r] (E' := [(0, .slice A0 xs.length c0), (1, .agg #[.slice A1 lit.length c1, .int .i64 (off : Int), .int .i64 (len : Int)]), (3, .pointer (some ⟨aB1, 0, none⟩)), (4, .slice none 0 0), (5, .int .i64 (xs.length : Int)), (8, .slice A0 xs.length c0), (9, .pointer (some ⟨aB1, 0, none⟩)), (10, .slice A1 lit.length c1), (11, .int .i64 (lit.length : Int))]) (w' := aW1) (qs := [(Instr.loadAt 22 (.pointer (some ⟨aB1, 0, none⟩))).run Try.prog aW1 = .ok (.slice A1 lit.length c1) aW1]) (by kernel_rfl) ⟨FW.ld agg22 (aH1.cell 0 0 rfl rfl), trivial⟩ (fun a3 ha3 => ?_)
  clear ha2
  obtain ⟨v1, W1, hr1, H1, O1⟩ := Ob_zeros aH1 HO lit.length (by omega)
  obtain ⟨A2, c2, rfl, hc2⟩ : ∃ A c, v1 = .slice A (xs.length + lit.length) c ∧ xs.length + lit.length ≤ c := by
    obtain ⟨A, c, h1, h2⟩ := O1.form
    refine ⟨A, c, ?_, ?_⟩
    · rw [h1]; simp
    · simpa using h2
  refine FW.opAt ha3 (v := .slice A2 (xs.length + lit.length) c2) (w' := W1) (by kernel_rfl) (by kernel_rfl) (by kernel_rfl) (FW.exec_run (m := Builtin.append_ #[22, 3] 22 #[.slice A0 xs.length c0, .int .i64 (lit.length : Int)]) (by kernel_rfl) hr1) (fun a4 ha4 => ?_)
  replace ha4 : Holds a4 36 [(0, .slice A0 xs.length c0), (1, .agg #[.slice A1 lit.length c1, .int .i64 (off : Int), .int .i64 (len : Int)]), (3, .pointer (some ⟨aB1, 0, none⟩)), (4, .slice none 0 0), (5, .int .i64 (xs.length : Int)), (8, .slice A0 xs.length c0), (9, .pointer (some ⟨aB1, 0, none⟩)), (10, .slice A1 lit.length c1), (11, .int .i64 (lit.length : Int)), (12, .slice A2 (xs.length + lit.length) c2)] := FW.Holds.mono ha4 (FW.proj_look (ks := [0, 1, 3, 4, 5, 8, 9, 10, 11, 12]) (by kernel_rfl))
  clear ha3
  refine FW.listEndS  ha4 [0, 1, 3, 4, 5] [.r] (E' := [(0, .slice A2 (xs.length + lit.length) c2), (1, .agg #[.slice A1 lit.length c1, .int .i64 (off : Int), .int .i64 (len : Int)]), (3, .pointer (some ⟨aB1, 0, none⟩)), (4, .slice none 0 0), (5, .int .i64 (xs.length : Int))]) (w' := W1) (qs := []) (by kernel_rfl) trivial (fun a5 ha5 => ?_)
  clear ha4
  refine FW.heldStartS (S := fun sw1 => FW.All [(Instr.sliceAt 22 (.slice A2 (xs.length + lit.length) c2) (some (.int .i64 (xs.length : Int))) none none).run Try.prog sw1 = .ok (.slice (if c2 = xs.length then A2 else A2.map (·.add xs.length)) (xs.length + lit.length - xs.length) (c2 - xs.length)) sw1, (Instr.loadAt 22 (.pointer (some ⟨aB1, 0, none⟩))).run Try.prog sw1 = .ok (.slice A1 lit.length c1) sw1]) (by kernel_rfl) ?_
  have aHE1 := H1.drew
  replace O1 := O1.drew
  generalize W1.drew = aE1 at aHE1 O1 ⊢
  refine FW.held 1 (by kernel_rfl) (by repeat (first | exact FW.PanicOk.body _ _ _ | apply FW.PanicOk.then | apply FW.PanicOk.inBlock | apply FW.PanicOk.noGoto)) ⟨slLo A2 _ c2 xs.length (by omega) _, FW.ld agg22 (aHE1.cell 0 0 rfl rfl), trivial⟩ ha5 [0, 1, 3, 4, 5, 13, 14, 15, 16, 17] [(0, .r), (1, .r), (3, .r), (2, .y (.slice (if c2 = xs.length then A2 else A2.map (·.add xs.length)) (xs.length + lit.length - xs.length) (c2 - xs.length))), (4, .y (.slice A1 lit.length c1))] (by kernel_rfl) (pf := fun sw1 => [(Instr.sliceAt 22 (.slice A2 (xs.length + lit.length) c2) (some (.int .i64 (xs.length : Int))) none none).run Try.prog sw1 = .ok (.slice (if c2 = xs.length then A2 else A2.map (·.add xs.length)) (xs.length + lit.length - xs.length) (c2 - xs.length)) sw1, (Instr.loadAt 22 (.pointer (some ⟨aB1, 0, none⟩))).run Try.prog sw1 = .ok (.slice A1 lit.length c1) sw1]) (vs := [.slice A2 (xs.length + lit.length) c2, .int .i64 (xs.length : Int), .pointer (some ⟨aB1, 0, none⟩), .slice (if c2 = xs.length then A2 else A2.map (·.add xs.length)) (xs.length + lit.length - xs.length) (c2 - xs.length), .slice A1 lit.length c1]) (k := 5) (E' := [(0, .slice A2 (xs.length + lit.length) c2), (1, .agg #[.slice A1 lit.length c1, .int .i64 (off : Int), .int .i64 (len : Int)]), (3, .pointer (some ⟨aB1, 0, none⟩)), (4, .slice none 0 0), (5, .int .i64 (xs.length : Int)), (13, .slice A2 (xs.length + lit.length) c2), (14, .int .i64 (xs.length : Int)), (15, .slice (if c2 = xs.length then A2 else A2.map (·.add xs.length)) (xs.length + lit.length - xs.length) (c2 - xs.length)), (16, .pointer (some ⟨aB1, 0, none⟩)), (17, .slice A1 lit.length c1)]) (ls' := #[true, true, true, true, true, false]) (fun sw1 => by kernel_rfl) (fun sw1 hS => ⟨hS.1, hS.2.1, trivial⟩) (fun a6 ha6 => ?_)
  clear ha5
  obtain ⟨W2, hr2, H2, O2⟩ := Ob_copy (zs := List.replicate lit.length 0) aHE1 O1 A1 c1 (by simp) (Kd.C_below hC (aHE1.belowAt hb0 hS))
  refine FW.heldOp ha6 (w' := W2) (v := .int .i64 (lit.length : Int)) 5 (some 18) (by kernel_rfl) (by kernel_rfl) (by kernel_rfl) (by kernel_rfl) (by kernel_rfl) (by kernel_rfl) (FW.exec_run (m := Builtin.copy_ #[22, 22] 3 #[.slice (if c2 = xs.length then A2 else A2.map (·.add xs.length)) (xs.length + lit.length - xs.length) (c2 - xs.length), .slice A1 lit.length c1]) (by kernel_rfl) hr2) ⟨slLo A2 _ c2 xs.length (by omega) _, FW.ld agg22 (H2.cell 0 0 rfl rfl), trivial⟩ (fun a7 ha7 => ?_)
  replace ha7 : Holds a7 36 [(0, .slice A2 (xs.length + lit.length) c2), (1, .agg #[.slice A1 lit.length c1, .int .i64 (off : Int), .int .i64 (len : Int)]), (3, .pointer (some ⟨aB1, 0, none⟩)), (4, .slice none 0 0), (5, .int .i64 (xs.length : Int)), (13, .slice A2 (xs.length + lit.length) c2), (14, .int .i64 (xs.length : Int)), (15, .slice (if c2 = xs.length then A2 else A2.map (·.add xs.length)) (xs.length + lit.length - xs.length) (c2 - xs.length)), (16, .pointer (some ⟨aB1, 0, none⟩)), (17, .slice A1 lit.length c1), (18, .int .i64 (lit.length : Int))] := FW.Holds.mono ha7 (FW.proj_look (ks := [0, 1, 3, 4, 5, 13, 14, 15, 16, 17, 18]) (by kernel_rfl))
  clear ha6
  refine FW.heldDoneS (by kernel_rfl) ?_
  replace ha7 : Holds a7 36 [(0, .slice A2 (xs.length + lit.length) c2), (1, .agg #[.slice A1 lit.length c1, .int .i64 (off : Int), .int .i64 (len : Int)]), (3, .pointer (some ⟨aB1, 0, none⟩)), (4, .slice none 0 0), (5, .int .i64 (xs.length : Int))] := FW.Holds.mono ha7 (FW.proj_look (ks := [0, 1, 3, 4, 5]) (by kernel_rfl))
  refine FW.seq ?_
  refine FW.plainS  ha7 [0, 1, 3, 4, 5, 20, 21] [.r, .y (.int .i64 (len : Int)), .r] (E' := [(0, .slice A2 (xs.length + lit.length) c2), (1, .agg #[.slice A1 lit.length c1, .int .i64 (off : Int), .int .i64 (len : Int)]), (3, .pointer (some ⟨aB1, 0, none⟩)), (4, .slice none 0 0), (5, .int .i64 (xs.length : Int)), (20, .int .i64 (len : Int)), (21, .int .i64 0)]) (w' := W2) (qs := [(Instr.loadAt 3 (.pointer (some ⟨aB1, 2, none⟩))).run Try.prog W2 = .ok (.int .i64 (len : Int)) W2]) (by kernel_rfl) ⟨FW.ld agg3 (H2.cell 0 2 rfl rfl), trivial⟩ (fun a8 ha8 => ?_)
  clear ha7
  generalize hz : xs ++ lit = zs at O2
  have hzl : zs.length = xs.length + lit.length := by rw [← hz, List.length_append]
  rw [← hzl] at O2 ha8
  refine wp_block ?_
  refine FW.loop (α := Nat × Option Addr × Nat) (fun x => match x with | ⟨k, A, c⟩ => [(0, .slice A (zs.length + k) c), (3, .pointer (some ⟨aB1, 0, none⟩)), (20, .int .i64 (len : Int)), (21, .int .i64 (k : Int))]) (fun x aL1 => match x with | ⟨k, A, c⟩ => k ≤ len ∧ Hp S w aL1 ((aB1, .cells #[.slice A1 lit.length c1, .int .i64 (off : Int), .int .i64 (len : Int)] 113 (0, 0)) :: Lh) ∧ Ow S w aL1 ((aB1, .cells #[.slice A1 lit.length c1, .int .i64 (off : Int), .int .i64 (len : Int)] 113 (0, 0)) :: Lh) 5 (.slice A (zs.length + k) c) (u8s (copyN k off zs)) ∧ zs.length + k ≤ c) (fun x => match x with | ⟨k, A, c⟩ => len - k) (⟨0, A2, c2⟩) (FW.Holds.mono ha8 (FW.proj_look (ks := [0, 3, 20, 21]) (by kernel_rfl))) ⟨Nat.zero_le _, H2, O2, by omega⟩ (fun x a9 aL1 ha9 hR => ?_)
  clear ha8
  obtain ⟨k, A, c⟩ := x
  replace ha9 : Holds a9 36 [(0, .slice A (zs.length + k) c), (3, .pointer (some ⟨aB1, 0, none⟩)), (20, .int .i64 (len : Int)), (21, .int .i64 (k : Int))] := ha9
  obtain ⟨hk, aH, aO, hkc⟩ := hR
  refine FW.plainS  ha9 [0, 3, 20, 21, 22] [.r] (E' := [(0, .slice A (zs.length + k) c), (3, .pointer (some ⟨aB1, 0, none⟩)), (20, .int .i64 (len : Int)), (21, .int .i64 (k : Int)), (22, .bool (decide ((k : Int) < (len : Int))))]) (w' := aL1) (qs := []) (by kernel_rfl) trivial (fun a10 ha10 => ?_)
  clear ha9
  by_cases hlt : k < len
  · refine FW.condST ha10 rfl (decide_eq_true (by omega)) ?_
    refine wp_skip ?_
    show Code.wp _ _ _ _ _
    have hcl := copyN_len k off zs
    obtain ⟨ad, rfl, hx⟩ := Ob_cell aO (zs.length + k - off) (by omega)
    refine FW.seq ?_
    refine wp_block ?_
    have hn1 : ((zs.length + k : Nat) : Int) - (off : Int) = ((zs.length + k - off : Nat) : Int) := by omega
    have hix := ixB (ad := ad) (n := zs.length + k) (c := c) (i := ((zs.length + k - off : Nat) : Int)) (w := aL1) (by omega) (by omega)
    rw [Int.toNat_natCast] at hix
    have aH2 := aH.alloc (.cells #[.int .u8 (rd (copyN k off zs) (zs.length + k - off : Nat))] 5)
    replace aO := aO.alloc (.cells #[.int .u8 (rd (copyN k off zs) (zs.length + k - off : Nat))] 5)
    refine FW.plainTo 10 ha10 [0, 3, 20, 21, 22, 23, 24, 25, 26, 27, 28, 29, 30, 31, 32] [.r, .r, .r, .r, .r, .y (.int .i64 (off : Int)), .e (.int .i64 ((zs.length + k - off : Nat) : Int)), .y (.pointer (some (ad.add (zs.length + k - off)))), .y (.int .u8 (rd (copyN k off zs) (zs.length + k - off : Nat))), .r] (E' := [(0, .slice (some ad) (zs.length + k) c), (3, .pointer (some ⟨aB1, 0, none⟩)), (20, .int .i64 (len : Int)), (21, .int .i64 (k : Int)), (22, .bool (decide ((k : Int) < (len : Int)))), (23, .slice (some ad) (zs.length + k) c), (24, .slice (some ad) (zs.length + k) c), (25, .slice (some ad) (zs.length + k) c), (26, .int .i64 ((zs.length + k : Nat) : Int)), (27, .pointer (some ⟨aB1, 1, none⟩)), (28, .int .i64 (off : Int)), (29, .int .i64 ((zs.length + k - off : Nat) : Int)), (30, .pointer (some (ad.add (zs.length + k - off)))), (31, .int .u8 (rd (copyN k off zs) (zs.length + k - off : Nat))), (32, .slice (some ⟨aL1.heap.size, 0, none⟩) 1 1)]) (w' := (aL1.alloc (.cells #[.int .u8 (rd (copyN k off zs) (zs.length + k - off : Nat))] 5))) (qs := [(Instr.loadAt 5 (.pointer (some (ad.add (zs.length + k - off))))).run Try.prog aL1 = .ok (.int .u8 (rd (copyN k off zs) (zs.length + k - off : Nat))) aL1, (Instr.indexAt 22 (.slice (some ad) (zs.length + k) c) (.int .i64 ((zs.length + k - off : Nat) : Int))).run Try.prog aL1 = .ok (.pointer (some (ad.add (zs.length + k - off)))) aL1, (.int .i64 (IntKind.wrap .i64 (((zs.length + k : Nat) : Int) - (off : Int))) : Value) = .int .i64 ((zs.length + k - off : Nat) : Int), (Instr.loadAt 3 (.pointer (some ⟨aB1, 1, none⟩))).run Try.prog aL1 = .ok (.int .i64 (off : Int)) aL1]) (by kernel_rfl) ⟨FW.ld agg5 hx, hix, by rw [← hn1]; exact FW.nowrap (by omega), FW.ld agg3 (aH.cell 0 1 rfl rfl), trivial⟩ (fun a11 ha11 => ?_)
    clear ha10
    generalize aL1.alloc (.cells #[.int .u8 (rd (copyN k off zs) (zs.length + k - off : Nat))] 5) = aW2 at aH2 aO ⊢
    obtain ⟨aB2, hbn⟩ : ∃ b, b = aL1.heap.size := ⟨_, rfl⟩
    rw [← hbn] at aH2 aO ha11; clear hbn
    obtain ⟨v', W', hr, bH, bO⟩ := Ob_push aH2 aO 0 rfl (by omega)
    obtain ⟨A', c', rfl, hc'⟩ := Ob_form bO
    have hpl : (copyN k off zs ++ [rd (copyN k off zs) (zs.length + k - off : Nat)]).length = zs.length + (k + 1) := by simp [hcl]; omega
    rw [hpl] at hr bO hc'
    refine FW.opAt ha11 (v := .slice A' (zs.length + (k + 1)) c') (w' := W') (by kernel_rfl) (by kernel_rfl) (by kernel_rfl) (FW.exec_run (m := Builtin.append_ #[22, 22] 22 #[.slice (some ad) (zs.length + k) c, .slice (some ⟨aB2, 0, none⟩) 1 1]) (by kernel_rfl) hr) (fun a12 ha12 => ?_)
    replace ha12 : Holds a12 36 [(0, .slice (some ad) (zs.length + k) c), (3, .pointer (some ⟨aB1, 0, none⟩)), (20, .int .i64 (len : Int)), (21, .int .i64 (k : Int)), (22, .bool (decide ((k : Int) < (len : Int)))), (23, .slice (some ad) (zs.length + k) c), (24, .slice (some ad) (zs.length + k) c), (25, .slice (some ad) (zs.length + k) c), (26, .int .i64 ((zs.length + k : Nat) : Int)), (27, .pointer (some ⟨aB1, 1, none⟩)), (28, .int .i64 (off : Int)), (29, .int .i64 ((zs.length + k - off : Nat) : Int)), (30, .pointer (some (ad.add (zs.length + k - off)))), (31, .int .u8 (rd (copyN k off zs) (zs.length + k - off : Nat))), (32, .slice (some ⟨aB2, 0, none⟩) 1 1), (33, .slice A' (zs.length + (k + 1)) c')] := FW.Holds.mono ha12 (FW.proj_look (ks := [0, 3, 20, 21, 22, 23, 24, 25, 26, 27, 28, 29, 30, 31, 32, 33]) (by kernel_rfl))
    clear ha11
    refine FW.listEnd  ha12 [0, 3, 20, 21, 22] [.r] (E' := [(0, .slice A' (zs.length + (k + 1)) c'), (3, .pointer (some ⟨aB1, 0, none⟩)), (20, .int .i64 (len : Int)), (21, .int .i64 (k : Int)), (22, .bool (decide ((k : Int) < (len : Int))))]) (w' := W') (qs := []) (by kernel_rfl) trivial (fun a13 ha13 => ?_)
    clear ha12
    show Code.wp _ _ _ _ _
    refine FW.plain  ha13 [0, 3, 20, 21, 22] [.e (.int .i64 ((k : Int) + 1)), .r] (E' := [(0, .slice A' (zs.length + (k + 1)) c'), (3, .pointer (some ⟨aB1, 0, none⟩)), (20, .int .i64 (len : Int)), (21, .int .i64 ((k : Int) + 1)), (22, .bool (decide ((k : Int) < (len : Int))))]) (w' := W') (qs := [(.int .i64 (IntKind.wrap .i64 ((k : Int) + 1)) : Value) = .int .i64 ((k : Int) + 1)]) (by kernel_rfl) ⟨FW.nowrap (by omega), trivial⟩ (fun a14 ha14 => ?_)
    clear ha13
    refine ⟨⟨k + 1, A', c'⟩, FW.Holds.mono ha14 (FW.proj_look (ks := [0, 3, 20, 21]) (by kernel_rfl)), ⟨by omega, bH.tail, by rw [copyN, hcl]; exact bO.tail, hc'⟩, by show len - (k + 1) < len - k; omega⟩
  · refine FW.condSE ha10 rfl (decide_eq_false (by omega)) ?_
    refine wp_exit ?_
    show Code.wp _ _ _ _ _
    refine FW.plainS  ha10 [0, 3, 4, 20, 21, 22] [.r, .r] (E' := [(0, .slice A (zs.length + k) c), (3, .pointer (some ⟨aB1, 0, none⟩)), (4, .slice A (zs.length + k) c), (20, .int .i64 (len : Int)), (21, .int .i64 (k : Int)), (22, .bool (decide ((k : Int) < (len : Int))))]) (w' := aL1) (qs := []) (by kernel_rfl) trivial (fun a11 ha11 => ?_)
    clear ha10
    refine wp_ret ?_
    obtain rfl : k = len := by omega
    refine FW.ret1 ha11 rfl rfl ⟨_, rfl, aH.tail, ?_⟩
    subst hz; exact aO.tail
end Go.Proofs.Ytdlfflgcmgkmeaa.P

namespace Go.Proofs.Ytdlfflgcmgkmeaa.P
open Go.RowKit Go.Proofs.YtdlfflgcmgkmeaaW.PrintWords Go.Proofs.YtdlfflgcmgkmeaaW.PrintLast Go.Proofs.YtdlfflgcmgkmeaaW.PrintMore Go.FW
set_option linter.unusedVariables false
set_option linter.unusedSimpArgs false

set_option maxHeartbeats 2000000 in
theorem dec1_hp {S : List Nat} {w W : World} {Lh : List (Nat × Obj)} {w0 : World} {v : Value} {xs lit : List Int} {A1 : Option Addr} {c1 off len bo i : Nat} (H : Hp S w W Lh) (hi : Lh[i]? = some (bo, .cells #[v] 22 (0, 0))) (O : Ow S w W Lh 5 v (u8s xs)) (hC : Kd.C (Kd.int .u8) w0 A1 lit.length lit) (hb0 : Below w0.heap.size w0 w) (hS : ∀ b ∈ S, w0.heap.size ≤ b)
    (hoff : len = 0 ∨ (1 ≤ off ∧ off ≤ xs.length + lit.length)) (hlen : xs.length + lit.length + len ≤ 1099511627776) (hoff2 : off ≤ 1099511627776) :
    Calls Try.prog 87 #[.agg #[.slice A1 lit.length c1, .int .i64 (off : Int), .int .i64 (len : Int)], .pointer (some ⟨bo, 0, none⟩)] W fun e w' => e = .returned (.tuple #[]) ∧ ∃ v', Hp S w w' (Lh.set i (bo, .cells #[v'] 22 (0, 0))) ∧ Ow S w w' (Lh.set i (bo, .cells #[v'] 22 (0, 0))) 5 v' (u8s (copyN len off (xs ++ lit))) := by
  have H0 : Hp S w W (Lh.set i (bo, .cells #[v] 22 (0, 0))) := by rw [FW.set_id hi]; exact H
  have O0 : Ow S w W (Lh.set i (bo, .cells #[v] 22 (0, 0))) 5 v (u8s xs) := by rw [FW.set_id hi]; exact O
  clear H O
  refine FW.enter [.agg #[.slice A1 lit.length c1, .int .i64 (off : Int), .int .i64 (len : Int)], .pointer (some ⟨bo, 0, none⟩)] 6 Try.func87 rfl rfl (FW.leB (by kernel_rfl)) (fun a0 ha0 => ?_)
  have ha0 : Holds a0 6 [(0, .agg #[.slice A1 lit.length c1, .int .i64 (off : Int), .int .i64 (len : Int)]), (1, .pointer (some ⟨bo, 0, none⟩))] := ha0
  have aH1 := H0.alloc (.cells #[.slice A1 lit.length c1, .int .i64 (off : Int), .int .i64 (len : Int)] 113)
  replace O0 := O0.alloc (.cells #[.slice A1 lit.length c1, .int .i64 (off : Int), .int .i64 (len : Int)] 113)
  refine FW.plainS  ha0 [0, 1, 2] [.r] (E' := [(0, .agg #[.slice A1 lit.length c1, .int .i64 (off : Int), .int .i64 (len : Int)]), (1, .pointer (some ⟨bo, 0, none⟩)), (2, .pointer (some ⟨W.heap.size, 0, none⟩))]) (w' := (W.alloc (.cells #[.slice A1 lit.length c1, .int .i64 (off : Int), .int .i64 (len : Int)] 113))) (qs := []) (by kernel_rfl) trivial (fun a1 ha1 => ?_)
  clear ha0
  generalize W.alloc (.cells #[.slice A1 lit.length c1, .int .i64 (off : Int), .int .i64 (len : Int)] 113) = aW1 at aH1 O0 ⊢
  obtain ⟨aB1, hbn⟩ : ∃ b, b = W.heap.size := ⟨_, rfl⟩
  rw [← hbn] at aH1 O0 ha1; clear hbn
  refine FW.plainTo 2 ha1 [0, 1, 2, 3, 4] [.y (v), .y (.agg #[.slice A1 lit.length c1, .int .i64 (off : Int), .int .i64 (len : Int)])] (E' := [(0, .agg #[.slice A1 lit.length c1, .int .i64 (off : Int), .int .i64 (len : Int)]), (1, .pointer (some ⟨bo, 0, none⟩)), (2, .pointer (some ⟨aB1, 0, none⟩)), (3, v), (4, .agg #[.slice A1 lit.length c1, .int .i64 (off : Int), .int .i64 (len : Int)])]) (w' := aW1) (qs := [(Instr.loadAt 113 (.pointer (some ⟨aB1, 0, none⟩))).run Try.prog aW1 = .ok (.agg #[.slice A1 lit.length c1, .int .i64 (off : Int), .int .i64 (len : Int)]) aW1, (Instr.loadAt 22 (.pointer (some ⟨bo, 0, none⟩))).run Try.prog aW1 = .ok (v) aW1]) (by kernel_rfl) ⟨FW.ld_agg (off := 0) agg113 size113 (aH1.has 0 _ _ rfl) (FW.leB (by kernel_rfl)) (by kernel_rfl), FW.ld agg22 (aH1.cell (i + 1) 0 (FW.set_at hi) rfl), trivial⟩ (fun a2 ha2 => ?_)
  clear ha1
  refine FW.callAt ha2 88 #[v, .agg #[.slice A1 lit.length c1, .int .i64 (off : Int), .int .i64 (len : Int)]] (by kernel_rfl) (by kernel_rfl) (by kernel_rfl) (by kernel_rfl) ?_
  refine (unpack_hp aH1 O0 hC hb0 hS hoff hlen hoff2).mono ?_
  rintro e W2 ⟨v2, rfl, H2, O2⟩
  obtain ⟨A2, c2, rfl, hc2⟩ := Ob_form O2
  refine ⟨_, rfl, fun a3 ha3 => ?_⟩
  replace ha3 : Holds a3 6 [(5, .slice A2 ((copyN len off (xs ++ lit)).length) c2), (0, .agg #[.slice A1 lit.length c1, .int .i64 (off : Int), .int .i64 (len : Int)]), (1, .pointer (some ⟨bo, 0, none⟩)), (2, .pointer (some ⟨aB1, 0, none⟩)), (3, v), (4, .agg #[.slice A1 lit.length c1, .int .i64 (off : Int), .int .i64 (len : Int)])] := ha3
  clear ha2
  obtain ⟨aW2, aS2, aH2, hon⟩ := FW.Hp.store (P := Try.prog) H2 (i + 1) 0 22 (.slice A2 ((copyN len off (xs ++ lit)).length) c2) 1 (FW.set_at hi) size22 rfl (by simp [Value.cells, FW.one_int, FW.one_bool, FW.one_slice, FW.one_ptr, FW.one_str, FW.one_float, FW.one_func, FW.one_nilf, FW.one_map]) (FW.leB (by kernel_rfl))
  replace O2 := FW.Ow.only (o1 := .cells #[.slice A2 ((copyN len off (xs ++ lit)).length) c2] 22 (0, 0)) O2 (i + 1) (FW.set_at hi) hon
  clear hon
  simp only [List.set_cons_succ, List.set_set] at aH2 O2
  replace aH2 : FW.Hp S w aW2 ((aB1, .cells #[.slice A1 lit.length c1, .int .i64 (off : Int), .int .i64 (len : Int)] 113 (0, 0)) :: Lh.set i (bo, .cells #[.slice A2 ((copyN len off (xs ++ lit)).length) c2] 22 (0, 0))) := aH2
  refine FW.listEnd  ha3 [0, 1, 2] [.s aW2] (E' := [(0, .agg #[.slice A1 lit.length c1, .int .i64 (off : Int), .int .i64 (len : Int)]), (1, .pointer (some ⟨bo, 0, none⟩)), (2, .pointer (some ⟨aB1, 0, none⟩))]) (w' := aW2) (qs := [(Instr.storeAt 22 (.pointer (some ⟨bo, 0, none⟩)) (.slice A2 ((copyN len off (xs ++ lit)).length) c2)).run Try.prog W2 = .ok () aW2]) (by kernel_rfl) ⟨aS2, trivial⟩ (fun a4 ha4 => ?_)
  clear ha3
  exact FW.end0 ha4 rfl ⟨rfl, _, aH2.tail, O2.tail⟩


/-- All sequences of a block. -/
inductive LzA where
  | ok (ys : List Int)
  | err (e at_ : Int)
def lzAll (l : List Int) (m : Int) : Nat → Int → List Int → LzA
  | 0, _, _ => .err 6 0
  | f + 1, p, ys => match lzNext l m p ys.length with
    | .bad e at_ => .err e at_
    | .last lit => .ok (ys ++ lit)
    | .more lit off len q => lzAll l m f q (copyN len.toNat off.toNat (ys ++ lit))
theorem lzNext_last {l : List Int} (hl : Bytes l) {m p s : Int} {lit : List Int} (hp0 : 0 ≤ p) (hp1 : p ≤ (l.length : Int)) (hs : 0 ≤ s) (h : lzNext l m p s = .last lit) : s + lit.length ≤ m := by
  unfold lzNext at h
  have hr := hl.at_ p
  split at h <;> try cases h
  rename_i hp
  rcases hL : lenF l (rd l p / 16) (p + 1) with _ | ⟨n, k⟩ <;> rw [hL] at h <;> try cases h
  obtain ⟨h1, h2, h3, h4⟩ := lenF_le hl (by omega) (by omega) (by omega) hL
  dsimp only at h
  split at h <;> try cases h
  split at h <;> try cases h
  split at h
  · cases h
    rw [List.length_drop, List.length_take]; omega
  · exfalso
    split at h <;> try cases h
    split at h <;> try cases h
    rcases hL2 : lenF l (rd l p % 16) (k + n + 2) with _ | ⟨n2, k2⟩ <;> rw [hL2] at h <;> try cases h
    dsimp only at h
    split at h <;> cases h
theorem lzNext_more {l : List Int} (hl : Bytes l) {m p s : Int} {lit : List Int} {off len q : Int} (hp0 : 0 ≤ p) (hp1 : p ≤ (l.length : Int)) (hs : 0 ≤ s) (h : lzNext l m p s = .more lit off len q) : p < q ∧ q ≤ (l.length : Int) ∧ 1 ≤ off ∧ off ≤ s + lit.length ∧ off ≤ 65535 ∧ 4 ≤ len ∧ s + lit.length + len ≤ m := by
  unfold lzNext at h
  have hr := hl.at_ p
  split at h <;> try cases h
  rename_i hp
  rcases hL : lenF l (rd l p / 16) (p + 1) with _ | ⟨n, k⟩ <;> rw [hL] at h <;> try cases h
  obtain ⟨h1, h2, h3, h4⟩ := lenF_le hl (by omega) (by omega) (by omega) hL
  dsimp only at h
  split at h <;> try cases h
  split at h <;> try cases h
  split at h <;> try cases h
  split at h <;> try cases h
  split at h <;> try cases h
  rename_i c1 c2 c3 c4 c5
  have hr1 := hl.at_ (k + n)
  have hr2 := hl.at_ (k + n + 1)
  rcases hL2 : lenF l (rd l p % 16) (k + n + 2) with _ | ⟨n2, k2⟩ <;> rw [hL2] at h <;> try cases h
  obtain ⟨h5, h6, h7, h8⟩ := lenF_le hl (by omega) (by omega) (by omega) hL2
  dsimp only at h
  split at h <;> try cases h
  have hlit : ((List.drop k.toNat (List.take (k + n).toNat l)).length : Int) = n := by rw [List.length_drop, List.length_take]; omega
  rw [hlit]
  omega

def EachPost (S : List Nat) (w : World) (Lh : List (Nat × Obj)) (l : List Int) (A : Option Addr) (c : Nat) (m : Int) (bo i : Nat) : LzA → Ending → World → Prop
  | .ok ys, e, w' => ∃ (g : Nat) (p2 s2 : Int) (v' : Value), e = .returned (.pointer (some ⟨g, 0, none⟩)) ∧ Hp S w w' ((g, Obj.cells #[.slice A l.length c, .int .i64 (p2), .int .i64 (s2), .int .i64 (m), .int .i64 (0), .int .i64 (0)] 147 (0, 0)) :: Lh.set i (bo, .cells #[v'] 22 (0, 0))) ∧ Ow S w w' ((g, Obj.cells #[.slice A l.length c, .int .i64 (p2), .int .i64 (s2), .int .i64 (m), .int .i64 (0), .int .i64 (0)] 147 (0, 0)) :: Lh.set i (bo, .cells #[v'] 22 (0, 0))) 5 v' (u8s ys)
  | .err er at_, e, w' => ∃ (g : Nat) (p2 s2 : Int) (v' : Value), e = .returned (.pointer (some ⟨g, 0, none⟩)) ∧ FW.one v' = true ∧ Hp S w w' ((g, Obj.cells #[.slice A l.length c, .int .i64 (p2), .int .i64 (s2), .int .i64 (m), .int .i64 (er), .int .i64 (at_)] 147 (0, 0)) :: Lh.set i (bo, .cells #[v'] 22 (0, 0)))
set_option maxHeartbeats 2000000 in
theorem each_hp {S : List Nat} {w W : World} {Lh : List (Nat × Obj)} {w0 : World} {l : List Int} {A : Option Addr} {c : Nat} {m : Int} {bo i : Nat} {res : LzA} (H : Hp S w W Lh) (hi : Lh[i]? = some (bo, .cells #[.slice none 0 0] 22 (0, 0))) (hC : Kd.C (Kd.int .u8) w0 A l.length l) (hb0 : Below w0.heap.size w0 w) (hS : ∀ b ∈ S, w0.heap.size ≤ b)
    (hl : Bytes l) (hc : l.length ≤ c) (hm0 : 0 ≤ m) (hm : m ≤ 1048576) (hres : lzAll l m (l.length + 1) 0 [] = res) :
    Calls Try.prog 86 #[.slice A l.length c, .int .i64 m, .func (.func 87) #[] #[.pointer (some ⟨bo, 0, none⟩)]] W (EachPost S w Lh l A c m bo i res) := by
  have hl1 := hl.1
  have H0 : Hp S w W (Lh.set i (bo, .cells #[.slice none 0 0] 22 (0, 0))) := by rw [FW.set_id hi]; exact H
  clear H
  refine FW.enter [.slice A l.length c, .int .i64 m, .func (.func 87) #[] #[.pointer (some ⟨bo, 0, none⟩)]] 28 Try.func86 rfl rfl (FW.leB (by kernel_rfl)) (fun a0 ha0 => ?_)
  have ha0 : Holds a0 28 [(0, .slice A l.length c), (1, .int .i64 m), (2, .func (.func 87) #[] #[.pointer (some ⟨bo, 0, none⟩)])] := ha0
  refine FW.plainS  ha0 [0, 1, 2, 6] [.r] (E' := [(0, .slice A l.length c), (1, .int .i64 m), (2, .func (.func 87) #[] #[.pointer (some ⟨bo, 0, none⟩)]), (6, .pointer none)]) (w' := W) (qs := []) (by kernel_rfl) trivial (fun a1 ha1 => ?_)
  clear ha0
  refine wp_scope_straight ?_
  have aH1 := H0.alloc (.cells #[.slice A l.length c, .int .i64 0, .int .i64 0, .int .i64 m, .int .i64 0, .int .i64 0] 147)
  refine FW.plainS  ha1 [0, 1, 2, 6, 7] [.r, .r, .r, .r, .r] (E' := [(0, .slice A l.length c), (1, .int .i64 m), (2, .func (.func 87) #[] #[.pointer (some ⟨bo, 0, none⟩)]), (6, .pointer none), (7, .pointer (some ⟨W.heap.size, 0, none⟩))]) (w' := (W.alloc (.cells #[.slice A l.length c, .int .i64 0, .int .i64 0, .int .i64 m, .int .i64 0, .int .i64 0] 147))) (qs := []) (by kernel_rfl) trivial (fun a2 ha2 => ?_)
  clear ha1
  generalize W.alloc (.cells #[.slice A l.length c, .int .i64 0, .int .i64 0, .int .i64 m, .int .i64 0, .int .i64 0] 147) = aW1 at aH1 ⊢
  obtain ⟨aB1, hbn⟩ : ∃ b, b = W.heap.size := ⟨_, rfl⟩
  rw [← hbn] at aH1 ha2; clear hbn
  refine FW.seq ?_
  refine wp_label ?_
  show Code.wp _ _ _ _ _
  refine FW.seq ?_
  refine wp_block ?_
  refine FW.loop (α := Nat × Int × List Int) (fun x => match x with | ⟨f, p, ys⟩ => [(2, .func (.func 87) #[] #[.pointer (some ⟨bo, 0, none⟩)]), (7, .pointer (some ⟨aB1, 0, none⟩))]) (fun x aL1 => match x with | ⟨f, p, ys⟩ => 0 ≤ p ∧ p ≤ (l.length : Int) ∧ (ys.length : Int) ≤ m ∧ (l.length : Int) - p < (f : Int) ∧ lzAll l m f p ys = res ∧ ∃ v, Hp S w aL1 ((aB1, .cells #[.slice A l.length c, .int .i64 p, .int .i64 (ys.length : Int), .int .i64 m, .int .i64 0, .int .i64 0] 147 (0, 0)) :: Lh.set i (bo, .cells #[v] 22 (0, 0))) ∧ Ow S w aL1 ((aB1, .cells #[.slice A l.length c, .int .i64 p, .int .i64 (ys.length : Int), .int .i64 m, .int .i64 0, .int .i64 0] 147 (0, 0)) :: Lh.set i (bo, .cells #[v] 22 (0, 0))) 5 v (u8s ys)) (fun x => match x with | ⟨f, p, ys⟩ => f) (⟨l.length + 1, 0, []⟩) (FW.Holds.mono ha2 (FW.proj_look (ks := [2, 7]) (by kernel_rfl))) ⟨by omega, by omega, by simpa using hm0, by omega, hres, .slice none 0 0, aH1, Ow.nil⟩ (fun x a3 aL1 ha3 hR => ?_)
  clear ha2
  obtain ⟨f, p, ys⟩ := x
  replace ha3 : Holds a3 28 [(2, .func (.func 87) #[] #[.pointer (some ⟨bo, 0, none⟩)]), (7, .pointer (some ⟨aB1, 0, none⟩))] := ha3
  obtain ⟨hp0, hp1, hym, hf, hall, v, aH, aO⟩ := hR
  obtain ⟨f, rfl⟩ : ∃ f', f = f' + 1 := ⟨f - 1, by omega⟩
  simp only [lzAll] at hall
  refine wp_block ?_
  refine FW.plainToS 1 ha3 [2, 7, 15] [.r] (E' := [(2, .func (.func 87) #[] #[.pointer (some ⟨bo, 0, none⟩)]), (7, .pointer (some ⟨aB1, 0, none⟩)), (15, .pointer (some ⟨aB1, 0, none⟩))]) (w' := aL1) (qs := []) (by kernel_rfl) trivial (fun a4 ha4 => ?_)
  clear ha3
  have hn := next_hp (A := A) (c := c) (w0 := w0) aH 0 rfl hC hb0 hS hl hc hp0 hp1 (by omega) hym hm
  rcases hr : lzNext l m p (ys.length : Int) with ⟨er, at_⟩ | lit | ⟨lit, off, len, q⟩
  · rw [hr] at hn hall
    dsimp only at hall
    subst hall
    refine FW.callAt ha4 105 #[.pointer (some ⟨aB1, 0, none⟩)] (by kernel_rfl) (by kernel_rfl) (by kernel_rfl) (by kernel_rfl) ?_
    refine (hn).mono ?_
    rintro e cW ⟨v0, v1, v2, p2, s2, ⟨ho0, ho1, ho2⟩, rfl, cH, cO⟩
    refine ⟨_, rfl, fun a5 ha5 => ?_⟩
    replace ha5 : Holds a5 28 [(16, .tuple #[.agg #[v0, v1, v2], .bool false]), (2, .func (.func 87) #[] #[.pointer (some ⟨bo, 0, none⟩)]), (7, .pointer (some ⟨aB1, 0, none⟩)), (15, .pointer (some ⟨aB1, 0, none⟩))] := ha5
    clear ha4
    replace cH : Hp S w cW ((aB1, .cells #[.slice A l.length c, .int .i64 p2, .int .i64 s2, .int .i64 m, .int .i64 er, .int .i64 at_] 147 (0, 0)) :: Lh.set i (bo, .cells #[v] 22 (0, 0))) := cH
    replace aO : Ow S w cW ((aB1, .cells #[.slice A l.length c, .int .i64 p2, .int .i64 s2, .int .i64 m, .int .i64 er, .int .i64 at_] 147 (0, 0)) :: Lh.set i (bo, .cells #[v] 22 (0, 0))) 5 v (u8s ys) := cO _ _ _ aO
    clear cO
    have aH2 := cH.alloc (.cells #[.slice none 0 0, .int .i64 0, .int .i64 0] 113)
    replace aO := aO.alloc (.cells #[.slice none 0 0, .int .i64 0, .int .i64 0] 113)
    obtain ⟨aW3, aS3, aH3, hon⟩ := FW.Hp.store (P := Try.prog) aH2 0 0 113 (.agg #[v0, v1, v2]) 3 rfl size113 rfl (by simp [Value.cells, FW.one_int, FW.one_bool, FW.one_slice, FW.one_ptr, FW.one_str, FW.one_float, FW.one_func, FW.one_nilf, FW.one_map, ho0, ho1, ho2]) (FW.leB (by kernel_rfl))
    replace aO := FW.Ow.only (o1 := .cells #[v0, v1, v2] 113 (0, 0)) aO 0 rfl hon
    clear hon
    replace aH3 : FW.Hp S w aW3 ((cW.heap.size, .cells #[v0, v1, v2] 113 (0, 0)) :: (aB1, .cells #[.slice A l.length c, .int .i64 p2, .int .i64 s2, .int .i64 m, .int .i64 er, .int .i64 at_] 147 (0, 0)) :: Lh.set i (bo, .cells #[v] 22 (0, 0))) := aH3
    refine FW.listEndS  ha5 [2, 7, 8, 9] [.r, .r, .r, .r, .s aW3, .r] (E' := [(2, .func (.func 87) #[] #[.pointer (some ⟨bo, 0, none⟩)]), (7, .pointer (some ⟨aB1, 0, none⟩)), (8, .pointer (some ⟨cW.heap.size, 0, none⟩)), (9, .bool false)]) (w' := aW3) (qs := [(Instr.storeAt 113 (.pointer (some ⟨cW.heap.size, 0, none⟩)) (.agg #[v0, v1, v2])).run Try.prog (cW.alloc (.cells #[.slice none 0 0, .int .i64 0, .int .i64 0] 113)) = .ok () aW3]) (by kernel_rfl) ⟨aS3, trivial⟩ (fun a6 ha6 => ?_)
    clear ha5
    generalize cW.alloc (.cells #[.slice none 0 0, .int .i64 0, .int .i64 0] 113) = aW2 at aH3 aO ⊢
    obtain ⟨aB2, hbn⟩ : ∃ b, b = cW.heap.size := ⟨_, rfl⟩
    rw [← hbn] at aH3 aO ha6; clear hbn
    refine FW.seq ?_
    refine FW.plainS  ha6 [2, 7, 8, 9, 20] [.r, .r] (E' := [(2, .func (.func 87) #[] #[.pointer (some ⟨bo, 0, none⟩)]), (7, .pointer (some ⟨aB1, 0, none⟩)), (8, .pointer (some ⟨aB2, 0, none⟩)), (9, .bool false), (20, .bool true)]) (w' := aW3) (qs := []) (by kernel_rfl) trivial (fun a7 ha7 => ?_)
    clear ha6
    refine FW.condLT ha7 rfl (rfl) ?_
    refine wp_exit ?_
    show Code.wp _ _ _ _ _
    refine FW.plainS  ha7 [2, 6, 7, 8, 9, 20] [.r, .r] (E' := [(2, .func (.func 87) #[] #[.pointer (some ⟨bo, 0, none⟩)]), (6, .pointer (some ⟨aB1, 0, none⟩)), (7, .pointer (some ⟨aB1, 0, none⟩)), (8, .pointer (some ⟨aB2, 0, none⟩)), (9, .bool false), (20, .bool true)]) (w' := aW3) (qs := []) (by kernel_rfl) trivial (fun a8 ha8 => ?_)
    clear ha7
    refine wp_ret ?_
    (try simp only [Exit.then, Exit.inBlock, Exit.noGoto])
    show bodyPost _ _ _ _ _ _
    exact FW.ret1 ha8 rfl rfl ⟨_, _, _, v, rfl, (by obtain ⟨A, c, rfl, _⟩ := Ob_form aO; rfl), aH3.tail⟩
  · rw [hr] at hn hall
    dsimp only at hall
    subst hall
    have hlast := lzNext_last hl hp0 hp1 (by omega) hr
    refine FW.callAt ha4 105 #[.pointer (some ⟨aB1, 0, none⟩)] (by kernel_rfl) (by kernel_rfl) (by kernel_rfl) (by kernel_rfl) ?_
    refine (hn).mono ?_
    rintro e cW ⟨A1, c1, p2, rfl, ⟨hA1, hc1⟩, cH, cO⟩
    refine ⟨_, rfl, fun a5 ha5 => ?_⟩
    replace ha5 : Holds a5 28 [(16, .tuple #[.agg #[.slice A1 lit.length c1, .int .i64 0, .int .i64 0], .bool true]), (2, .func (.func 87) #[] #[.pointer (some ⟨bo, 0, none⟩)]), (7, .pointer (some ⟨aB1, 0, none⟩)), (15, .pointer (some ⟨aB1, 0, none⟩))] := ha5
    clear ha4
    replace cH : Hp S w cW ((aB1, .cells #[.slice A l.length c, .int .i64 p2, .int .i64 ((ys.length : Int) + lit.length), .int .i64 m, .int .i64 0, .int .i64 0] 147 (0, 0)) :: Lh.set i (bo, .cells #[v] 22 (0, 0))) := cH
    replace aO : Ow S w cW ((aB1, .cells #[.slice A l.length c, .int .i64 p2, .int .i64 ((ys.length : Int) + lit.length), .int .i64 m, .int .i64 0, .int .i64 0] 147 (0, 0)) :: Lh.set i (bo, .cells #[v] 22 (0, 0))) 5 v (u8s ys) := cO _ _ _ aO
    clear cO
    have aH2 := cH.alloc (.cells #[.slice none 0 0, .int .i64 0, .int .i64 0] 113)
    replace aO := aO.alloc (.cells #[.slice none 0 0, .int .i64 0, .int .i64 0] 113)
    obtain ⟨aW3, aS3, aH3, hon⟩ := FW.Hp.store (P := Try.prog) aH2 0 0 113 (.agg #[.slice A1 lit.length c1, .int .i64 0, .int .i64 0]) 3 rfl size113 rfl (by simp [Value.cells, FW.one_int, FW.one_bool, FW.one_slice, FW.one_ptr, FW.one_str, FW.one_float, FW.one_func, FW.one_nilf, FW.one_map]) (FW.leB (by kernel_rfl))
    replace aO := FW.Ow.only (o1 := .cells #[.slice A1 lit.length c1, .int .i64 0, .int .i64 0] 113 (0, 0)) aO 0 rfl hon
    clear hon
    replace aH3 : FW.Hp S w aW3 ((cW.heap.size, .cells #[.slice A1 lit.length c1, .int .i64 0, .int .i64 0] 113 (0, 0)) :: (aB1, .cells #[.slice A l.length c, .int .i64 p2, .int .i64 ((ys.length : Int) + lit.length), .int .i64 m, .int .i64 0, .int .i64 0] 147 (0, 0)) :: Lh.set i (bo, .cells #[v] 22 (0, 0))) := aH3
    refine FW.listEndS  ha5 [2, 7, 8, 9] [.r, .r, .r, .r, .s aW3, .r] (E' := [(2, .func (.func 87) #[] #[.pointer (some ⟨bo, 0, none⟩)]), (7, .pointer (some ⟨aB1, 0, none⟩)), (8, .pointer (some ⟨cW.heap.size, 0, none⟩)), (9, .bool true)]) (w' := aW3) (qs := [(Instr.storeAt 113 (.pointer (some ⟨cW.heap.size, 0, none⟩)) (.agg #[.slice A1 lit.length c1, .int .i64 0, .int .i64 0])).run Try.prog (cW.alloc (.cells #[.slice none 0 0, .int .i64 0, .int .i64 0] 113)) = .ok () aW3]) (by kernel_rfl) ⟨aS3, trivial⟩ (fun a6 ha6 => ?_)
    clear ha5
    generalize cW.alloc (.cells #[.slice none 0 0, .int .i64 0, .int .i64 0] 113) = aW2 at aH3 aO ⊢
    obtain ⟨aB2, hbn⟩ : ∃ b, b = cW.heap.size := ⟨_, rfl⟩
    rw [← hbn] at aH3 aO ha6; clear hbn
    refine FW.seq ?_
    refine FW.plainS  ha6 [2, 7, 8, 9, 20] [.r, .r] (E' := [(2, .func (.func 87) #[] #[.pointer (some ⟨bo, 0, none⟩)]), (7, .pointer (some ⟨aB1, 0, none⟩)), (8, .pointer (some ⟨aB2, 0, none⟩)), (9, .bool true), (20, .bool false)]) (w' := aW3) (qs := []) (by kernel_rfl) trivial (fun a7 ha7 => ?_)
    clear ha6
    refine FW.condLF ha7 rfl (rfl) ?_
    show Code.wp _ _ _ _ _
    refine FW.plainToS 2 ha7 [2, 7, 8, 9, 20, 21, 22] [.r, .y (.agg #[.slice A1 lit.length c1, .int .i64 0, .int .i64 0])] (E' := [(2, .func (.func 87) #[] #[.pointer (some ⟨bo, 0, none⟩)]), (7, .pointer (some ⟨aB1, 0, none⟩)), (8, .pointer (some ⟨aB2, 0, none⟩)), (9, .bool true), (20, .bool false), (21, .func (.func 87) #[] #[.pointer (some ⟨bo, 0, none⟩)]), (22, .agg #[.slice A1 lit.length c1, .int .i64 0, .int .i64 0])]) (w' := aW3) (qs := [(Instr.loadAt 113 (.pointer (some ⟨aB2, 0, none⟩))).run Try.prog aW3 = .ok (.agg #[.slice A1 lit.length c1, .int .i64 0, .int .i64 0]) aW3]) (by kernel_rfl) ⟨FW.ld_agg (off := 0) agg113 size113 (aH3.has 0 _ _ rfl) (FW.leB (by kernel_rfl)) (by kernel_rfl), trivial⟩ (fun a8 ha8 => ?_)
    clear ha7
    refine FW.callAt ha8 87 #[.agg #[.slice A1 lit.length c1, .int .i64 0, .int .i64 0], .pointer (some ⟨bo, 0, none⟩)] (by kernel_rfl) (by kernel_rfl) (by kernel_rfl) (by kernel_rfl) ?_
    refine (dec1_hp (off := 0) (len := 0) (i := i + 2) aH3 (FW.set_at hi) aO hA1 hb0 hS (.inl rfl) (by omega) (by omega)).mono ?_
    rintro e dW ⟨rfl, v', dH, dO⟩
    refine ⟨_, rfl, fun a9 ha9 => ?_⟩
    replace ha9 : Holds a9 28 [(23, .tuple #[]), (2, .func (.func 87) #[] #[.pointer (some ⟨bo, 0, none⟩)]), (7, .pointer (some ⟨aB1, 0, none⟩)), (8, .pointer (some ⟨aB2, 0, none⟩)), (9, .bool true), (20, .bool false), (21, .func (.func 87) #[] #[.pointer (some ⟨bo, 0, none⟩)]), (22, .agg #[.slice A1 lit.length c1, .int .i64 0, .int .i64 0])] := ha9
    clear ha8
    simp only [List.set_cons_succ, List.set_set] at dH dO
    refine FW.listEndS ha9 [2, 7, 8, 9, 20] [] (E' := [(2, .func (.func 87) #[] #[.pointer (some ⟨bo, 0, none⟩)]), (7, .pointer (some ⟨aB1, 0, none⟩)), (8, .pointer (some ⟨aB2, 0, none⟩)), (9, .bool true), (20, .bool false)]) (w' := dW) (qs := []) (by kernel_rfl) trivial (fun a10 ha10 => ?_)
    clear ha9
    refine FW.plainS  ha10 [2, 7, 8, 9, 20, 26] [.r, .y (.int .i64 0), .r] (E' := [(2, .func (.func 87) #[] #[.pointer (some ⟨bo, 0, none⟩)]), (7, .pointer (some ⟨aB1, 0, none⟩)), (8, .pointer (some ⟨aB2, 0, none⟩)), (9, .bool true), (20, .bool false), (26, .bool (0 == 0))]) (w' := dW) (qs := [(Instr.loadAt 3 (.pointer (some ⟨aB2, 1, none⟩))).run Try.prog dW = .ok (.int .i64 0) dW]) (by kernel_rfl) ⟨FW.ld agg3 (dH.cell 0 1 rfl rfl), trivial⟩ (fun a11 ha11 => ?_)
    clear ha10
    refine FW.condLT ha11 rfl (rfl) ?_
    refine wp_exit ?_
    show Code.wp _ _ _ _ _
    refine FW.plainS  ha11 [2, 6, 7, 8, 9, 20, 26] [.r, .r] (E' := [(2, .func (.func 87) #[] #[.pointer (some ⟨bo, 0, none⟩)]), (6, .pointer (some ⟨aB1, 0, none⟩)), (7, .pointer (some ⟨aB1, 0, none⟩)), (8, .pointer (some ⟨aB2, 0, none⟩)), (9, .bool true), (20, .bool false), (26, .bool (0 == 0))]) (w' := dW) (qs := []) (by kernel_rfl) trivial (fun a12 ha12 => ?_)
    clear ha11
    refine wp_ret ?_
    (try simp only [Exit.then, Exit.inBlock, Exit.noGoto])
    show bodyPost _ _ _ _ _ _
    exact FW.ret1 ha12 rfl rfl ⟨_, _, _, v', rfl, dH.tail, by simpa [copyN] using dO.tail⟩
  · rw [hr] at hn hall
    dsimp only at hall
    obtain ⟨m1, m2, m3, m4, m5, m6, m7⟩ := lzNext_more hl hp0 hp1 (by omega) hr
    clear hr
    obtain ⟨off, rfl⟩ : ∃ n : Nat, off = n := ⟨off.toNat, by omega⟩
    obtain ⟨len, rfl⟩ : ∃ n : Nat, len = n := ⟨len.toNat, by omega⟩
    refine FW.callAt ha4 105 #[.pointer (some ⟨aB1, 0, none⟩)] (by kernel_rfl) (by kernel_rfl) (by kernel_rfl) (by kernel_rfl) ?_
    refine (hn).mono ?_
    rintro e cW ⟨A1, c1, rfl, ⟨hA1, hc1⟩, cH, cO⟩
    refine ⟨_, rfl, fun a5 ha5 => ?_⟩
    replace ha5 : Holds a5 28 [(16, .tuple #[.agg #[.slice A1 lit.length c1, .int .i64 (off : Int), .int .i64 (len : Int)], .bool true]), (2, .func (.func 87) #[] #[.pointer (some ⟨bo, 0, none⟩)]), (7, .pointer (some ⟨aB1, 0, none⟩)), (15, .pointer (some ⟨aB1, 0, none⟩))] := ha5
    clear ha4
    replace cH : Hp S w cW ((aB1, .cells #[.slice A l.length c, .int .i64 q, .int .i64 ((ys.length : Int) + lit.length + len), .int .i64 m, .int .i64 0, .int .i64 0] 147 (0, 0)) :: Lh.set i (bo, .cells #[v] 22 (0, 0))) := cH
    replace aO : Ow S w cW ((aB1, .cells #[.slice A l.length c, .int .i64 q, .int .i64 ((ys.length : Int) + lit.length + len), .int .i64 m, .int .i64 0, .int .i64 0] 147 (0, 0)) :: Lh.set i (bo, .cells #[v] 22 (0, 0))) 5 v (u8s ys) := cO _ _ _ aO
    clear cO
    have aH2 := cH.alloc (.cells #[.slice none 0 0, .int .i64 0, .int .i64 0] 113)
    replace aO := aO.alloc (.cells #[.slice none 0 0, .int .i64 0, .int .i64 0] 113)
    obtain ⟨aW3, aS3, aH3, hon⟩ := FW.Hp.store (P := Try.prog) aH2 0 0 113 (.agg #[.slice A1 lit.length c1, .int .i64 (off : Int), .int .i64 (len : Int)]) 3 rfl size113 rfl (by simp [Value.cells, FW.one_int, FW.one_bool, FW.one_slice, FW.one_ptr, FW.one_str, FW.one_float, FW.one_func, FW.one_nilf, FW.one_map]) (FW.leB (by kernel_rfl))
    replace aO := FW.Ow.only (o1 := .cells #[.slice A1 lit.length c1, .int .i64 (off : Int), .int .i64 (len : Int)] 113 (0, 0)) aO 0 rfl hon
    clear hon
    replace aH3 : FW.Hp S w aW3 ((cW.heap.size, .cells #[.slice A1 lit.length c1, .int .i64 (off : Int), .int .i64 (len : Int)] 113 (0, 0)) :: (aB1, .cells #[.slice A l.length c, .int .i64 q, .int .i64 ((ys.length : Int) + lit.length + len), .int .i64 m, .int .i64 0, .int .i64 0] 147 (0, 0)) :: Lh.set i (bo, .cells #[v] 22 (0, 0))) := aH3
    refine FW.listEndS  ha5 [2, 7, 8, 9] [.r, .r, .r, .r, .s aW3, .r] (E' := [(2, .func (.func 87) #[] #[.pointer (some ⟨bo, 0, none⟩)]), (7, .pointer (some ⟨aB1, 0, none⟩)), (8, .pointer (some ⟨cW.heap.size, 0, none⟩)), (9, .bool true)]) (w' := aW3) (qs := [(Instr.storeAt 113 (.pointer (some ⟨cW.heap.size, 0, none⟩)) (.agg #[.slice A1 lit.length c1, .int .i64 (off : Int), .int .i64 (len : Int)])).run Try.prog (cW.alloc (.cells #[.slice none 0 0, .int .i64 0, .int .i64 0] 113)) = .ok () aW3]) (by kernel_rfl) ⟨aS3, trivial⟩ (fun a6 ha6 => ?_)
    clear ha5
    generalize cW.alloc (.cells #[.slice none 0 0, .int .i64 0, .int .i64 0] 113) = aW2 at aH3 aO ⊢
    obtain ⟨aB2, hbn⟩ : ∃ b, b = cW.heap.size := ⟨_, rfl⟩
    rw [← hbn] at aH3 aO ha6; clear hbn
    refine FW.seq ?_
    refine FW.plainS  ha6 [2, 7, 8, 9, 20] [.r, .r] (E' := [(2, .func (.func 87) #[] #[.pointer (some ⟨bo, 0, none⟩)]), (7, .pointer (some ⟨aB1, 0, none⟩)), (8, .pointer (some ⟨aB2, 0, none⟩)), (9, .bool true), (20, .bool false)]) (w' := aW3) (qs := []) (by kernel_rfl) trivial (fun a7 ha7 => ?_)
    clear ha6
    refine FW.condLF ha7 rfl (rfl) ?_
    show Code.wp _ _ _ _ _
    refine FW.plainToS 2 ha7 [2, 7, 8, 9, 20, 21, 22] [.r, .y (.agg #[.slice A1 lit.length c1, .int .i64 (off : Int), .int .i64 (len : Int)])] (E' := [(2, .func (.func 87) #[] #[.pointer (some ⟨bo, 0, none⟩)]), (7, .pointer (some ⟨aB1, 0, none⟩)), (8, .pointer (some ⟨aB2, 0, none⟩)), (9, .bool true), (20, .bool false), (21, .func (.func 87) #[] #[.pointer (some ⟨bo, 0, none⟩)]), (22, .agg #[.slice A1 lit.length c1, .int .i64 (off : Int), .int .i64 (len : Int)])]) (w' := aW3) (qs := [(Instr.loadAt 113 (.pointer (some ⟨aB2, 0, none⟩))).run Try.prog aW3 = .ok (.agg #[.slice A1 lit.length c1, .int .i64 (off : Int), .int .i64 (len : Int)]) aW3]) (by kernel_rfl) ⟨FW.ld_agg (off := 0) agg113 size113 (aH3.has 0 _ _ rfl) (FW.leB (by kernel_rfl)) (by kernel_rfl), trivial⟩ (fun a8 ha8 => ?_)
    clear ha7
    refine FW.callAt ha8 87 #[.agg #[.slice A1 lit.length c1, .int .i64 (off : Int), .int .i64 (len : Int)], .pointer (some ⟨bo, 0, none⟩)] (by kernel_rfl) (by kernel_rfl) (by kernel_rfl) (by kernel_rfl) ?_
    refine (dec1_hp (i := i + 2) aH3 (FW.set_at hi) aO hA1 hb0 hS (.inr (by omega)) (by omega) (by omega)).mono ?_
    rintro e dW ⟨rfl, v', dH, dO⟩
    refine ⟨_, rfl, fun a9 ha9 => ?_⟩
    replace ha9 : Holds a9 28 [(23, .tuple #[]), (2, .func (.func 87) #[] #[.pointer (some ⟨bo, 0, none⟩)]), (7, .pointer (some ⟨aB1, 0, none⟩)), (8, .pointer (some ⟨aB2, 0, none⟩)), (9, .bool true), (20, .bool false), (21, .func (.func 87) #[] #[.pointer (some ⟨bo, 0, none⟩)]), (22, .agg #[.slice A1 lit.length c1, .int .i64 (off : Int), .int .i64 (len : Int)])] := ha9
    clear ha8
    simp only [List.set_cons_succ, List.set_set] at dH dO
    refine FW.listEndS ha9 [2, 7, 8, 9, 20] [] (E' := [(2, .func (.func 87) #[] #[.pointer (some ⟨bo, 0, none⟩)]), (7, .pointer (some ⟨aB1, 0, none⟩)), (8, .pointer (some ⟨aB2, 0, none⟩)), (9, .bool true), (20, .bool false)]) (w' := dW) (qs := []) (by kernel_rfl) trivial (fun a10 ha10 => ?_)
    clear ha9
    refine FW.plainS  ha10 [2, 7, 8, 9, 20, 26] [.r, .y (.int .i64 (off : Int)), .r] (E' := [(2, .func (.func 87) #[] #[.pointer (some ⟨bo, 0, none⟩)]), (7, .pointer (some ⟨aB1, 0, none⟩)), (8, .pointer (some ⟨aB2, 0, none⟩)), (9, .bool true), (20, .bool false), (26, .bool ((off : Int) == 0))]) (w' := dW) (qs := [(Instr.loadAt 3 (.pointer (some ⟨aB2, 1, none⟩))).run Try.prog dW = .ok (.int .i64 (off : Int)) dW]) (by kernel_rfl) ⟨FW.ld agg3 (dH.cell 0 1 rfl rfl), trivial⟩ (fun a11 ha11 => ?_)
    clear ha10
    refine FW.condLF ha11 rfl (beq_eq_false_iff_ne.mpr (by omega)) ?_
    have hcl := copyN_len len off (ys ++ lit)
    rw [List.length_append] at hcl
    simp only [Int.toNat_natCast] at hall
    have hsz : (ys.length : Int) + lit.length + len = ((copyN len off (ys ++ lit)).length : Int) := by omega
    rw [hsz] at dH dO
    refine ⟨⟨f, q, copyN len off (ys ++ lit)⟩, FW.Holds.mono ha11 (FW.proj_look (ks := [2, 7]) (by kernel_rfl)), ⟨by omega, by omega, by omega, by omega, hall, v', dH.tail, dO.tail⟩, by show f < f + 1; omega⟩


theorem lzNext_bad {l : List Int} {m p s e at_ : Int} (h : lzNext l m p s = .bad e at_) : e ≠ 0 := by
  unfold lzNext at h
  split at h
  · cases h; decide
  rcases hL : lenF l (rd l p / 16) (p + 1) with _ | ⟨n, k⟩ <;> rw [hL] at h
  · cases h; decide
  dsimp only at h
  split at h
  · cases h; decide
  split at h
  · cases h; decide
  split at h
  · cases h
  split at h
  · cases h; decide
  split at h
  · cases h; decide
  rcases hL2 : lenF l (rd l p % 16) (k + n + 2) with _ | ⟨n2, k2⟩ <;> rw [hL2] at h
  · cases h; decide
  dsimp only at h
  split at h
  · cases h; decide
  · cases h
theorem lzAll_err {l : List Int} {m : Int} : ∀ {f : Nat} {p : Int} {ys : List Int} {e at_ : Int}, lzAll l m f p ys = .err e at_ → e ≠ 0
  | 0, _, _, _, _, h => by simp only [lzAll] at h; cases h; decide
  | f + 1, p, ys, e, at_, h => by
    simp only [lzAll] at h
    cases hr : lzNext l m p ys.length with
    | bad e' a' => rw [hr] at h; cases h; exact lzNext_bad hr
    | last lit => rw [hr] at h; cases h
    | more lit off len q => rw [hr] at h; exact lzAll_err h
def BytesB (l : List Int) : Bool := decide (l.length ≤ 1099511627776) && l.all (fun x => decide (0 ≤ x) && decide (x ≤ 255))
theorem Bytes_of {l : List Int} (h : BytesB l = true) : Bytes l := by
  simp only [BytesB, Bool.and_eq_true, decide_eq_true_eq, List.all_eq_true] at h
  exact ⟨h.1, h.2⟩
theorem BytesB_of {l : List Int} (h : Bytes l) : BytesB l = true := by
  simp only [BytesB, Bool.and_eq_true, decide_eq_true_eq, List.all_eq_true]
  exact ⟨h.1, h.2⟩
def lz_Decode.f (l0 : List Int) (a1 : Int) : Option (List Int × Int × Int) :=
  if a1 < 0 ∨ a1 > 1048576 then some ([], 1, 0)
  else if BytesB l0 then (match lzAll l0 a1 (l0.length + 1) 0 [] with
    | .ok ys => some (ys, 0, l0.length)
    | .err e at_ => some ([], e, at_))
  else none

set_option maxHeartbeats 2000000 in
theorem lz_Decode.calls (A0 : Option Addr) (c0 : Nat) (l0 : List Int) (a1 : Int) (r1 : List Int) (r2 : Int) (r3 : Int) (w : World) (hr0 : Kd.C (Kd.int .u8) w A0 l0.length l0) (hc0 : l0.length ≤ c0) (h : lz_Decode.f l0 a1 = some (r1, r2, r3)) :
    Calls Try.prog 62 #[.slice A0 l0.length c0, .int .i64 a1] w fun e w' => ∃ v0_ : Value, e = .returned (.tuple #[v0_, .int .i64 r2, .int .i64 r3]) ∧ Kd.R (Kd.int .u8) 5 w' w.heap.size (fun _ => True) v0_ r1 ∧ Below w.heap.size w w' := by
  have aH := Hp.start w
  unfold lz_Decode.f at h
  refine FW.enter [.slice A0 l0.length c0, .int .i64 a1] 34 Try.func62 rfl rfl (FW.leB (by kernel_rfl)) (fun t0 ht0 => ?_)
  have ht0 : Holds t0 34 [(0, .slice A0 l0.length c0), (1, .int .i64 a1)] := ht0
  have tH1 := aH.alloc (.cells #[.slice none 0 0] 22)
  refine FW.plainS  ht0 [0, 1, 4, 5, 6] [.r, .r, .r] (E' := [(0, .slice A0 l0.length c0), (1, .int .i64 a1), (4, .pointer (some ⟨w.heap.size, 0, none⟩)), (5, .int .i64 0), (6, .int .i64 0)]) (w' := (w.alloc (.cells #[.slice none 0 0] 22))) (qs := []) (by kernel_rfl) trivial (fun t1 ht1 => ?_)
  clear ht0
  generalize w.alloc (.cells #[.slice none 0 0] 22) = tW1 at tH1 ⊢
  obtain ⟨tB1, hbn⟩ : ∃ b, b = w.heap.size := ⟨_, rfl⟩
  rw [← hbn] at tH1 ht1; clear hbn
  by_cases c1 : a1 < 0 ∨ a1 > 1048576
  · rw [if_pos c1] at h
    simp only [Option.some.injEq, Prod.mk.injEq] at h
    obtain ⟨rfl, rfl, rfl⟩ := h
    by_cases c2 : a1 < 0
    · refine FW.seq ?_
      refine FW.plainS  ht1 [0, 1, 4, 5, 6, 13] [.r, .e (.bool true), .r, .r, .r, .r] (E' := [(0, .slice A0 l0.length c0), (1, .int .i64 a1), (4, .pointer (some ⟨tB1, 0, none⟩)), (5, .int .i64 0), (6, .int .i64 0), (13, .bool true)]) (w' := tW1) (qs := [(.bool (decide (a1 < 0)) : Value) = .bool true]) (by kernel_rfl) ⟨FW.bT c2, trivial⟩ (fun t2 ht2 => ?_)
      clear ht1
      refine FW.condLT ht2 rfl (rfl) ?_
      obtain ⟨tW2, tS2, tH2, hon⟩ := FW.Hp.store (P := Try.prog) tH1 0 0 22 (.slice none 0 0) 1 rfl size22 rfl (by simp [Value.cells, FW.one_int, FW.one_bool, FW.one_slice, FW.one_ptr, FW.one_str, FW.one_float, FW.one_func, FW.one_nilf, FW.one_map]) (FW.leB (by kernel_rfl))
      clear hon
      replace tH2 : FW.Hp [] w tW2 [(tB1, .cells #[.slice none 0 0] 22 (0, 0))] := tH2
      refine FW.plainS  ht2 [0, 1, 4, 5, 6, 13] [.s tW2, .r, .r] (E' := [(0, .slice A0 l0.length c0), (1, .int .i64 a1), (4, .pointer (some ⟨tB1, 0, none⟩)), (5, .int .i64 1), (6, .int .i64 0), (13, .bool true)]) (w' := tW2) (qs := [(Instr.storeAt 22 (.pointer (some ⟨tB1, 0, none⟩)) (.slice none 0 0)).run Try.prog tW1 = .ok () tW2]) (by kernel_rfl) ⟨tS2, trivial⟩ (fun t3 ht3 => ?_)
      clear ht2
      refine wp_ret ?_
      (try simp only [Exit.then, Exit.inBlock, Exit.noGoto])
      show bodyPost _ _ _ _ _ _
      exact FW.retc2 ht3 rfl rfl (FW.ld agg22 (tH2.cell 0 0 rfl rfl)) rfl rfl ⟨_, rfl, Kd.R_nil _ _ _ _ _, tH2.keepBelow⟩
    · refine FW.seq ?_
      refine FW.plainS  ht1 [0, 1, 4, 5, 6, 13] [.r, .e (.bool false), .r, .r, .e (.bool true), .r] (E' := [(0, .slice A0 l0.length c0), (1, .int .i64 a1), (4, .pointer (some ⟨tB1, 0, none⟩)), (5, .int .i64 0), (6, .int .i64 0), (13, .bool true)]) (w' := tW1) (qs := [(.bool (decide (a1 > 1048576)) : Value) = .bool true, (.bool (decide (a1 < 0)) : Value) = .bool false]) (by kernel_rfl) ⟨FW.bT (by omega), FW.bF c2, trivial⟩ (fun t2 ht2 => ?_)
      clear ht1
      refine FW.condLT ht2 rfl (rfl) ?_
      obtain ⟨tW2, tS2, tH2, hon⟩ := FW.Hp.store (P := Try.prog) tH1 0 0 22 (.slice none 0 0) 1 rfl size22 rfl (by simp [Value.cells, FW.one_int, FW.one_bool, FW.one_slice, FW.one_ptr, FW.one_str, FW.one_float, FW.one_func, FW.one_nilf, FW.one_map]) (FW.leB (by kernel_rfl))
      clear hon
      replace tH2 : FW.Hp [] w tW2 [(tB1, .cells #[.slice none 0 0] 22 (0, 0))] := tH2
      refine FW.plainS  ht2 [0, 1, 4, 5, 6, 13] [.s tW2, .r, .r] (E' := [(0, .slice A0 l0.length c0), (1, .int .i64 a1), (4, .pointer (some ⟨tB1, 0, none⟩)), (5, .int .i64 1), (6, .int .i64 0), (13, .bool true)]) (w' := tW2) (qs := [(Instr.storeAt 22 (.pointer (some ⟨tB1, 0, none⟩)) (.slice none 0 0)).run Try.prog tW1 = .ok () tW2]) (by kernel_rfl) ⟨tS2, trivial⟩ (fun t3 ht3 => ?_)
      clear ht2
      refine wp_ret ?_
      (try simp only [Exit.then, Exit.inBlock, Exit.noGoto])
      show bodyPost _ _ _ _ _ _
      exact FW.retc2 ht3 rfl rfl (FW.ld agg22 (tH2.cell 0 0 rfl rfl)) rfl rfl ⟨_, rfl, Kd.R_nil _ _ _ _ _, tH2.keepBelow⟩
  · rw [if_neg c1] at h
    refine FW.seq ?_
    refine FW.plainS  ht1 [0, 1, 4, 5, 6, 13] [.r, .e (.bool false), .r, .r, .e (.bool false), .r] (E' := [(0, .slice A0 l0.length c0), (1, .int .i64 a1), (4, .pointer (some ⟨tB1, 0, none⟩)), (5, .int .i64 0), (6, .int .i64 0), (13, .bool false)]) (w' := tW1) (qs := [(.bool (decide (a1 > 1048576)) : Value) = .bool false, (.bool (decide (a1 < 0)) : Value) = .bool false]) (by kernel_rfl) ⟨FW.bF (by omega), FW.bF (by omega), trivial⟩ (fun t2 ht2 => ?_)
    clear ht1
    refine FW.condLF ht2 rfl (rfl) ?_
    show Code.wp _ _ _ _ _
    by_cases hB : BytesB l0 = true
    · rw [if_pos hB] at h
      refine FW.plainToS 3 ht2 [0, 1, 4, 5, 6, 13, 14, 15, 16] [.r, .r, .r] (E' := [(0, .slice A0 l0.length c0), (1, .int .i64 a1), (4, .pointer (some ⟨tB1, 0, none⟩)), (5, .int .i64 0), (6, .int .i64 0), (13, .bool false), (14, .slice A0 l0.length c0), (15, .int .i64 a1), (16, .func (Fn.func 87) #[] #[.pointer (some ⟨tB1, 0, none⟩)])]) (w' := tW1) (qs := []) (by kernel_rfl) trivial (fun t3 ht3 => ?_)
      clear ht2
      obtain ⟨res, hres⟩ : ∃ r, lzAll l0 a1 (l0.length + 1) 0 [] = r := ⟨_, rfl⟩
      rw [hres] at h
      have he := each_hp (i := 0) tH1 rfl hr0 (Below.refl _ _) (by simp) (Bytes_of hB) hc0 (by omega) (by omega) hres
      rcases res with ys | ⟨er, at_⟩
      · simp only [Option.some.injEq, Prod.mk.injEq] at h
        obtain ⟨rfl, rfl, rfl⟩ := h
        refine FW.callAt ht3 86 #[.slice A0 l0.length c0, .int .i64 a1, .func (Fn.func 87) #[] #[.pointer (some ⟨tB1, 0, none⟩)]] (by kernel_rfl) (by kernel_rfl) (by kernel_rfl) (by kernel_rfl) ?_
        refine (he).mono ?_
        rintro e W1 ⟨g, p2, s2, v1, rfl, H1, O1⟩
        obtain ⟨A1, c1', rfl, hc1'⟩ := Ob_form O1
        refine ⟨_, rfl, fun t4 ht4 => ?_⟩
        replace ht4 : Holds t4 34 [(17, .pointer (some ⟨g, 0, none⟩)), (0, .slice A0 l0.length c0), (1, .int .i64 a1), (4, .pointer (some ⟨tB1, 0, none⟩)), (5, .int .i64 0), (6, .int .i64 0), (13, .bool false), (14, .slice A0 l0.length c0), (15, .int .i64 a1), (16, .func (Fn.func 87) #[] #[.pointer (some ⟨tB1, 0, none⟩)])] := ht4
        clear ht3
        replace H1 : Hp [] w W1 [(g, .cells #[.slice A0 l0.length c0, .int .i64 p2, .int .i64 s2, .int .i64 a1, .int .i64 0, .int .i64 0] 147 (0, 0)), (tB1, .cells #[.slice A1 ys.length c1'] 22 (0, 0))] := H1
        replace O1 : Ow [] w W1 [(g, .cells #[.slice A0 l0.length c0, .int .i64 p2, .int .i64 s2, .int .i64 a1, .int .i64 0, .int .i64 0] 147 (0, 0)), (tB1, .cells #[.slice A1 ys.length c1'] 22 (0, 0))] 5 (.slice A1 ys.length c1') (u8s ys) := O1
        refine FW.listEndS  ht4 [0, 1, 4, 5, 6, 7, 13] [.r] (E' := [(0, .slice A0 l0.length c0), (1, .int .i64 a1), (4, .pointer (some ⟨tB1, 0, none⟩)), (5, .int .i64 0), (6, .int .i64 0), (7, .pointer (some ⟨g, 0, none⟩)), (13, .bool false)]) (w' := W1) (qs := []) (by kernel_rfl) trivial (fun t5 ht5 => ?_)
        clear ht4
        refine FW.seq ?_
        refine FW.plainS  ht5 [0, 1, 4, 5, 6, 7, 13, 22] [.r, .r, .r, .y (.int .i64 0), .r] (E' := [(0, .slice A0 l0.length c0), (1, .int .i64 a1), (4, .pointer (some ⟨tB1, 0, none⟩)), (5, .int .i64 0), (6, .int .i64 0), (7, .pointer (some ⟨g, 0, none⟩)), (13, .bool false), (22, .bool (0 != 0))]) (w' := W1) (qs := [(Instr.loadAt 24 (.pointer (some ⟨g, 4, none⟩))).run Try.prog W1 = .ok (.int .i64 0) W1]) (by kernel_rfl) ⟨FW.ld agg24 (H1.cell 0 4 rfl rfl), trivial⟩ (fun t6 ht6 => ?_)
        clear ht5
        refine FW.condLF ht6 rfl (rfl) ?_
        show Code.wp _ _ _ _ _
        obtain ⟨tW2, tS2, tH2, hon⟩ := FW.Hp.store (P := Try.prog) H1 1 0 22 (.slice A1 ys.length c1') 1 rfl size22 rfl (by simp [Value.cells, FW.one_int, FW.one_bool, FW.one_slice, FW.one_ptr, FW.one_str, FW.one_float, FW.one_func, FW.one_nilf, FW.one_map]) (FW.leB (by kernel_rfl))
        replace O1 := FW.Ow.only (o1 := .cells #[.slice A1 ys.length c1'] 22 (0, 0)) O1 1 rfl hon
        clear hon
        replace tH2 : FW.Hp [] w tW2 [(g, .cells #[.slice A0 l0.length c0, .int .i64 p2, .int .i64 s2, .int .i64 a1, .int .i64 0, .int .i64 0] 147 (0, 0)), (tB1, .cells #[.slice A1 ys.length c1'] 22 (0, 0))] := tH2
        refine FW.plainS  ht6 [0, 1, 4, 5, 6, 7, 13, 22] [.y (.slice A1 ys.length c1'), .r, .r, .s tW2, .r, .r] (E' := [(0, .slice A0 l0.length c0), (1, .int .i64 a1), (4, .pointer (some ⟨tB1, 0, none⟩)), (5, .int .i64 0), (6, .int .i64 (l0.length : Int)), (7, .pointer (some ⟨g, 0, none⟩)), (13, .bool false), (22, .bool (0 != 0))]) (w' := tW2) (qs := [(Instr.storeAt 22 (.pointer (some ⟨tB1, 0, none⟩)) (.slice A1 ys.length c1')).run Try.prog W1 = .ok () tW2, (Instr.loadAt 22 (.pointer (some ⟨tB1, 0, none⟩))).run Try.prog W1 = .ok (.slice A1 ys.length c1') W1]) (by kernel_rfl) ⟨tS2, FW.ld agg22 (H1.cell 1 0 rfl rfl), trivial⟩ (fun t7 ht7 => ?_)
        clear ht6
        refine wp_ret ?_
        (try simp only [Exit.then, Exit.inBlock, Exit.noGoto])
        show bodyPost _ _ _ _ _ _
        exact FW.retc2 ht7 rfl rfl (FW.ld agg22 (tH2.cell 1 0 rfl rfl)) rfl rfl ⟨_, rfl, R_of_Ob O1, tH2.keepBelow⟩
      · have hne := lzAll_err hres
        simp only [Option.some.injEq, Prod.mk.injEq] at h
        obtain ⟨rfl, rfl, rfl⟩ := h
        refine FW.callAt ht3 86 #[.slice A0 l0.length c0, .int .i64 a1, .func (Fn.func 87) #[] #[.pointer (some ⟨tB1, 0, none⟩)]] (by kernel_rfl) (by kernel_rfl) (by kernel_rfl) (by kernel_rfl) ?_
        refine (he).mono ?_
        rintro e W1 ⟨g, p2, s2, v1, rfl, hv1, H1⟩
        refine ⟨_, rfl, fun t4 ht4 => ?_⟩
        replace ht4 : Holds t4 34 [(17, .pointer (some ⟨g, 0, none⟩)), (0, .slice A0 l0.length c0), (1, .int .i64 a1), (4, .pointer (some ⟨tB1, 0, none⟩)), (5, .int .i64 0), (6, .int .i64 0), (13, .bool false), (14, .slice A0 l0.length c0), (15, .int .i64 a1), (16, .func (Fn.func 87) #[] #[.pointer (some ⟨tB1, 0, none⟩)])] := ht4
        clear ht3
        replace H1 : Hp [] w W1 [(g, .cells #[.slice A0 l0.length c0, .int .i64 p2, .int .i64 s2, .int .i64 a1, .int .i64 er, .int .i64 at_] 147 (0, 0)), (tB1, .cells #[v1] 22 (0, 0))] := H1
        refine FW.listEndS  ht4 [0, 1, 4, 5, 6, 7, 13] [.r] (E' := [(0, .slice A0 l0.length c0), (1, .int .i64 a1), (4, .pointer (some ⟨tB1, 0, none⟩)), (5, .int .i64 0), (6, .int .i64 0), (7, .pointer (some ⟨g, 0, none⟩)), (13, .bool false)]) (w' := W1) (qs := []) (by kernel_rfl) trivial (fun t5 ht5 => ?_)
        clear ht4
        refine FW.seq ?_
        refine FW.plainS  ht5 [0, 1, 4, 5, 6, 7, 13, 22] [.r, .r, .r, .y (.int .i64 er), .r] (E' := [(0, .slice A0 l0.length c0), (1, .int .i64 a1), (4, .pointer (some ⟨tB1, 0, none⟩)), (5, .int .i64 0), (6, .int .i64 0), (7, .pointer (some ⟨g, 0, none⟩)), (13, .bool false), (22, .bool (er != 0))]) (w' := W1) (qs := [(Instr.loadAt 24 (.pointer (some ⟨g, 4, none⟩))).run Try.prog W1 = .ok (.int .i64 er) W1]) (by kernel_rfl) ⟨FW.ld agg24 (H1.cell 0 4 rfl rfl), trivial⟩ (fun t6 ht6 => ?_)
        clear ht5
        refine FW.condLT ht6 rfl (by simpa using hne) ?_
        refine FW.heldStartS (S := fun sw1 => FW.All [(Instr.loadAt 24 (.pointer (some ⟨g, 4, none⟩))).run Try.prog sw1 = .ok (.int .i64 er) sw1, (Instr.loadAt 3 (.pointer (some ⟨g, 5, none⟩))).run Try.prog sw1 = .ok (.int .i64 at_) sw1]) (by kernel_rfl) ?_
        have tHE1 := H1.drew
        generalize W1.drew = tE1 at tHE1 ⊢
        refine FW.held 3 (by kernel_rfl) (by repeat (first | exact FW.PanicOk.body _ _ _ | apply FW.PanicOk.then | apply FW.PanicOk.inBlock | apply FW.PanicOk.noGoto)) ⟨FW.ld agg24 (tHE1.cell 0 4 rfl rfl), FW.ld agg3 (tHE1.cell 0 5 rfl rfl), trivial⟩ ht6 [0, 1, 4, 5, 6, 7, 13, 22, 23, 24, 25, 26, 27, 28, 29, 30] [(0, .r), (4, .r), (1, .r), (5, .r), (2, .r), (6, .r), (3, .y (.int .i64 er)), (7, .y (.int .i64 at_))] (by kernel_rfl) (pf := fun sw1 => [(Instr.loadAt 24 (.pointer (some ⟨g, 4, none⟩))).run Try.prog sw1 = .ok (.int .i64 er) sw1, (Instr.loadAt 3 (.pointer (some ⟨g, 5, none⟩))).run Try.prog sw1 = .ok (.int .i64 at_) sw1]) (vs := [.pointer (some ⟨g, 0, none⟩), .pointer (some ⟨g, 0, none⟩), .pointer (some ⟨g, 0, none⟩), .pointer (some ⟨g, 0, none⟩), .pointer (some ⟨g, 4, none⟩), .pointer (some ⟨g, 5, none⟩), .int .i64 er, .int .i64 at_]) (k := 8) (E' := [(0, .slice A0 l0.length c0), (1, .int .i64 a1), (4, .pointer (some ⟨tB1, 0, none⟩)), (5, .int .i64 0), (6, .int .i64 0), (7, .pointer (some ⟨g, 0, none⟩)), (13, .bool false), (22, .bool (er != 0)), (23, .pointer (some ⟨g, 0, none⟩)), (24, .pointer (some ⟨g, 0, none⟩)), (25, .pointer (some ⟨g, 4, none⟩)), (26, .int .i64 er), (27, .pointer (some ⟨g, 0, none⟩)), (28, .pointer (some ⟨g, 0, none⟩)), (29, .pointer (some ⟨g, 5, none⟩)), (30, .int .i64 at_)]) (ls' := #[true, true, true, true, true, true, true, true, false, false, false]) (fun sw1 => by kernel_rfl) (fun sw1 hS => ⟨hS.1, hS.2.1, trivial⟩) (fun t7 ht7 => ?_)
        clear ht6
        obtain ⟨tW2, tS2, tH2, hon⟩ := FW.Hp.store (P := Try.prog) tHE1 1 0 22 (.slice none 0 0) 1 rfl size22 rfl (by simp [Value.cells, FW.one_int, FW.one_bool, FW.one_slice, FW.one_ptr, FW.one_str, FW.one_float, FW.one_func, FW.one_nilf, FW.one_map]) (FW.leB (by kernel_rfl))
        clear hon
        replace tH2 : FW.Hp [] w tW2 [(g, .cells #[.slice A0 l0.length c0, .int .i64 p2, .int .i64 s2, .int .i64 a1, .int .i64 er, .int .i64 at_] 147 (0, 0)), (tB1, .cells #[.slice none 0 0] 22 (0, 0))] := tH2
        refine FW.heldSt tW2 ht7 8 22 (.pointer (some ⟨tB1, 0, none⟩)) (.slice none 0 0) (by kernel_rfl) (by kernel_rfl) (by kernel_rfl) (by kernel_rfl) (by kernel_rfl) (by kernel_rfl) tS2 ⟨FW.ld agg24 (tH2.cell 0 4 rfl rfl), FW.ld agg3 (tH2.cell 0 5 rfl rfl), trivial⟩ (fun t8 ht8 => ?_)
        clear ht7
        refine FW.held 0 (by kernel_rfl) (by repeat (first | exact FW.PanicOk.body _ _ _ | apply FW.PanicOk.then | apply FW.PanicOk.inBlock | apply FW.PanicOk.noGoto)) ⟨FW.ld agg24 (tH2.cell 0 4 rfl rfl), FW.ld agg3 (tH2.cell 0 5 rfl rfl), trivial⟩ ht8 [0, 1, 4, 5, 6, 7, 13, 22, 23, 24, 25, 26, 27, 28, 29, 30] [(9, .r), (10, .r)] (by kernel_rfl) (pf := fun sw1 => []) (vs := [.int .i64 er, .int .i64 at_]) (k := 2) (E' := [(0, .slice A0 l0.length c0), (1, .int .i64 a1), (4, .pointer (some ⟨tB1, 0, none⟩)), (5, .int .i64 er), (6, .int .i64 at_), (7, .pointer (some ⟨g, 0, none⟩)), (13, .bool false), (22, .bool (er != 0)), (23, .pointer (some ⟨g, 0, none⟩)), (24, .pointer (some ⟨g, 0, none⟩)), (25, .pointer (some ⟨g, 4, none⟩)), (26, .int .i64 er), (27, .pointer (some ⟨g, 0, none⟩)), (28, .pointer (some ⟨g, 0, none⟩)), (29, .pointer (some ⟨g, 5, none⟩)), (30, .int .i64 at_)]) (ls' := #[true, true, true, true, true, true, true, true, true, true, true]) (fun sw1 => by kernel_rfl) (fun sw1 hS => trivial) (fun t9 ht9 => ?_)
        clear ht8
        refine FW.heldDoneS (by kernel_rfl) ?_
        replace ht9 : Holds t9 34 [(0, .slice A0 l0.length c0), (1, .int .i64 a1), (4, .pointer (some ⟨tB1, 0, none⟩)), (5, .int .i64 er), (6, .int .i64 at_), (7, .pointer (some ⟨g, 0, none⟩)), (13, .bool false), (22, .bool (er != 0))] := FW.Holds.mono ht9 (FW.proj_look (ks := [0, 1, 4, 5, 6, 7, 13, 22]) (by kernel_rfl))
        refine wp_ret ?_
        (try simp only [Exit.then, Exit.inBlock, Exit.noGoto])
        show bodyPost _ _ _ _ _ _
        exact FW.retc2 ht9 rfl rfl (FW.ld agg22 (tH2.cell 1 0 rfl rfl)) rfl rfl ⟨_, rfl, Kd.R_nil _ _ _ _ _, tH2.keepBelow⟩
    · rw [if_neg hB] at h
      cases h

end Go.Proofs.Ytdlfflgcmgkmeaa.P

-- Written by a program of this session's own (wip/tools), over the translation. Not trusted: Lean checks it.
namespace Go.Proofs.Ytdlfflgcmgkmeaa.P
open Go.RowKit Go.Proofs.YtdlfflgcmgkmeaaW.PrintWords Go.Proofs.YtdlfflgcmgkmeaaW.PrintLast Go.Proofs.YtdlfflgcmgkmeaaW.PrintMore
attribute [local go_sem] max2_int min2_int max_two min_two max_three min_three max_four min_four   -- for this text's walks alone
set_option linter.unusedVariables false
set_option linter.unusedSimpArgs false

/-! ### match_Unpack: function 20 -/
def match_Unpack.j0 : Nat → List Int → Int → Bool → Option (List Int × Int)
  | 0, _, _, _ => none
  | k + 1, x0, x2, x21 => if x21 = true then (some (([] : List Int), 1)) else (if (x0.length : Int) > x2 then (some (([] : List Int), 2)) else ((bytes_Clone.f x0).bind fun t21006 => (some (t21006, 0))))
def match_Unpack.f (k : Nat) (l0 : List Int) (a1 : Bool) (a2 : Int) : Option (List Int × Int) := if a1 = true then ((lz_Decode.f l0 a2).bind fun bt21001 => (some (bt21001.1, bt21001.2.1))) else (if a2 < 0 then (match_Unpack.j0 k l0 a2 true) else (match_Unpack.j0 k l0 a2 (decide (a2 > 1048576))))
theorem match_Unpack.mono_l : ∀ k, (∀ y0 y1 y2, LeO (match_Unpack.j0 k y0 y1 y2) (match_Unpack.j0 (k + 1) y0 y1 y2))
  | 0 => fun _ _ _ r h => by simp [match_Unpack.j0] at h
  | k + 1 => by
    have ih0 := match_Unpack.mono_l k
    · intro y0 y1 y2
      unfold match_Unpack.j0
      repeat' first
      | (with_reducible exact ih0 _ _ _)
      | (with_reducible exact LeO.refl _)
      | (with_reducible exact LeO.none _)
      | (with_reducible refine LeO.ite ?_ ?_)
      | (with_reducible refine LeO.bind ?_ (fun _ => ?_))
      | exact ih0 _ _ _
      | exact LeO.none _
      | refine LeO.ite ?_ ?_
      | refine LeO.bind ?_ (fun _ => ?_)
theorem match_Unpack.mono : ∀ a0 a1 a2 k, LeO (match_Unpack.f k a0 a1 a2) (match_Unpack.f (k + 1) a0 a1 a2) := by
  intro a0 a1 a2 k
  have ih0 := match_Unpack.mono_l k
  unfold match_Unpack.f
  repeat' first
      | (with_reducible exact ih0 _ _ _)
      | (with_reducible exact LeO.refl _)
      | (with_reducible exact LeO.none _)
      | (with_reducible refine LeO.ite ?_ ?_)
      | (with_reducible refine LeO.bind ?_ (fun _ => ?_))
      | exact ih0 _ _ _
      | exact LeO.none _
      | refine LeO.ite ?_ ?_
      | refine LeO.bind ?_ (fun _ => ?_)
set_option maxHeartbeats 8000000 in
set_option maxRecDepth 100000 in
theorem match_Unpack.calls (k : Nat) (A0 : Option Addr) (c0 : Nat) (l0 : List Int) (a1 : Bool) (a2 : Int) (r1 : List Int) (r2 : Int) (w : World) (hr0 : Kd.C (Kd.int .u8) w A0 l0.length l0) (hc0 : l0.length ≤ c0) (h : match_Unpack.f k l0 a1 a2 = some (r1, r2)) :
    Calls Try.prog 20 #[.slice A0 l0.length c0, .bool a1, .int .i64 a2] w fun e w' => ∃ v0_ : Value, e = .returned (.tuple #[v0_, .int .i64 r2]) ∧ Kd.R (Kd.int .u8) 5 w' w.heap.size (fun _ => True) v0_ r1 ∧ Below w.heap.size w w' := by
  have HR0 := Aside0.mk hr0
  have HC0 := Aside0.mk hc0
  clear hr0 hc0
  have HB := Aside0.mk (Below.refl w.heap.size w)
  have H : (if a1 = true then ((lz_Decode.f l0 a2).bind fun bt21001 => (some (bt21001.1, bt21001.2.1))) else (if a2 < 0 then (match_Unpack.j0 k l0 a2 true) else (match_Unpack.j0 k l0 a2 (decide (a2 > 1048576))))) = some (r1, r2) := h
  clear h
  by_cases c4 : a1 = true
  · subst c4
    have H1 : ((lz_Decode.f l0 a2).bind fun bt21001 => (some (bt21001.1, bt21001.2.1))) = some (r1, r2) := by rw [if_pos rfl] at H; exact H
    clear H
    have H := H1
    clear H1
    replace H := Option.bind_eq_some_iff.mp H
    obtain ⟨⟨t21001, t21002, t21003⟩, A50, H⟩ := H
    replace H : (some (t21001, t21002)) = some (r1, r2) := H
    have A5 := Aside0.mk A50
    clear A50
    simp only [Option.some.injEq, Prod.mk.injEq] at H
    obtain ⟨rfl, rfl⟩ := H
    go_enter Try.func20, Try.ntmps20
    go_wp2_with (first | ((with_reducible refine gate_callee (f := 62) rfl ?_); refine goesL_ (some 15) rfl rfl Try.func62 (by kernel_rfl) rfl #[.slice A0 l0.length c0, .int .i64 a2] rfl (by (try simp only [List.map_toArray, List.map_cons, List.map_nil]); first | done | rfl | (simp only [List.length_drop, List.length_take]; rfl)) ?_; (with_reducible refine (lz_Decode.calls _ _ l0 a2 t21001 t21002 t21003 _ ?side1 ?side2 A5.out).mono ?_); (case side1 => repeat (first | exact HR0.out | (with_reducible refine Kd.C_alloc ?_ _) | (with_reducible refine Kd.C_drewN ?_ _) | (with_reducible refine Kd.C_drew ?_))); (case side2 => exact HC0.out); rintro e w6 ⟨v21004, rfl, ho0, hb⟩; refine ⟨_, rfl, ?_⟩; have n0_ := Aside0.mk (Kd.R_lower ho0 (below_size (by repeat (first | (with_reducible first | exact HB.out | apply below_alloc | apply pw_below_drewN | apply below_drew1) | exact HB.out)))); have n1_ := Aside0.mk (below_step (by repeat (first | (with_reducible first | exact HB.out | apply below_alloc | apply pw_below_drewN | apply below_drew1) | exact HB.out)) hb); clear HB; have HO21005 := n0_; have HB := n1_; clear n0_ n1_; (try clear hb); (try clear hb2); (try clear hk); (try clear hi); (try clear ho0)))
    go_ret2
    exact ⟨_, by first | rfl | (simp [errW_none, errW_some] <;> rfl) | (simp [*, errW_none, errW_some] <;> rfl), by (with_reducible repeat (first | apply Kd.R_alloc | apply Kd.R_drewN | apply Kd.R_drew)); exact HO21005.out, by repeat (first | (with_reducible first | exact HB.out | apply below_alloc | apply pw_below_drewN | apply below_drew1) | exact HB.out)⟩
  · replace c4 := Bool.eq_false_iff.mpr c4
    subst c4
    have H1 : (if a2 < 0 then (match_Unpack.j0 k l0 a2 true) else (match_Unpack.j0 k l0 a2 (decide (a2 > 1048576)))) = some (r1, r2) := by rw [if_neg (show ¬ (false = true) by decide)] at H; exact H
    clear H
    have H := H1
    clear H1
    have HC7 := Aside0.mk H
    clear H
    go_enter Try.func20, Try.ntmps20
    go_upto_region 4 with (fail)
    go_cut [21] (fun v21 wc => ∃ (kq : Nat) (x21_6 : Bool), v21 = .bool x21_6 ∧ Aside0 (match_Unpack.j0 kq l0 a2 x21_6 = some (r1, r2)) ∧ Aside0 (kq ≤ k) ∧ Aside0 (Below w.heap.size w wc))
    case first =>
      have H := HC7.out
      clear HC7
      by_cases c8 : a2 < 0
      · rw [if_pos c8] at H
        have c8b0 : decide (a2 < 0) = true := decide_eq_true c8
        clear c8
        (first | rw [c8b0] | (simp only [i64_w, i32_w]; rw [c8b0]) | skip)
        have H' := Aside0.mk H
        clear H
        go_wp2
        go_meet
        case rel => exact ⟨_, (true), (by first | rfl | (simp; done) | (simp [*]; done)), H', ⟨by first | omega | exact Nat.le_refl _⟩, ⟨by repeat (first | (with_reducible first | exact HB.out | apply below_alloc | apply pw_below_drewN | apply below_drew1) | exact HB.out)⟩⟩
      · rw [if_neg c8] at H
        have c8b0 : decide (a2 < 0) = false := decide_eq_false c8
        clear c8
        (first | rw [c8b0] | (simp only [i64_w, i32_w]; rw [c8b0]) | skip)
        have H' := Aside0.mk H
        clear H
        go_wp2
        go_meet
        case rel => exact ⟨_, (decide (a2 > 1048576)), (by first | rfl | (simp; done) | (simp [*]; done)), H', ⟨by first | omega | exact Nat.le_refl _⟩, ⟨by repeat (first | (with_reducible first | exact HB.out | apply below_alloc | apply pw_below_drewN | apply below_drew1) | exact HB.out)⟩⟩
    case rest =>
      clear HC7
      try clear c2
      try clear p2
      try clear c4
      try clear c6
      try clear c8
      try clear c8b0
      obtain ⟨kq, x21_6, rfl, HA, HJ6, HB⟩ := hcut
      cases kq with
      | zero => exact absurd HA.out (by simp [match_Unpack.j0])
      | succ kj6 =>
        have H := HA.out
        clear HA
        simp only [match_Unpack.j0] at H
        by_cases c9 : x21_6 = true
        · subst c9
          have H1 : (some (([] : List Int), 1)) = some (r1, r2) := by rw [if_pos rfl] at H; exact H
          clear H
          have H := H1
          clear H1
          simp only [Option.some.injEq, Prod.mk.injEq] at H
          obtain ⟨rfl, rfl⟩ := H
          go_wp2
          go_ret2
          exact ⟨_, by first | rfl | (simp [errW_none, errW_some] <;> rfl) | (simp [*, errW_none, errW_some] <;> rfl), by first | exact Kd.R_nil _ _ _ _ _ | exact Kd.N_nil _ _ _ _ _ | exact Kd.V_nil _ _ _ _ _ | exact Kd.Q_nil _ _ _ _ _ | exact Kd.S_nil _ _ _ _ _, by repeat (first | (with_reducible first | exact HB.out | apply below_alloc | apply pw_below_drewN | apply below_drew1) | exact HB.out)⟩
        · replace c9 := Bool.eq_false_iff.mpr c9
          subst c9
          have H1 : (if (l0.length : Int) > a2 then (some (([] : List Int), 2)) else ((bytes_Clone.f l0).bind fun t21006 => (some (t21006, 0)))) = some (r1, r2) := by rw [if_neg (show ¬ (false = true) by decide)] at H; exact H
          clear H
          have H := H1
          clear H1
          by_cases c10 : (l0.length : Int) > a2
          · rw [if_pos c10] at H
            have c10b0 : decide (a2 < (l0.length : Int)) = true := decide_eq_true c10
            clear c10
            simp only [Option.some.injEq, Prod.mk.injEq] at H
            obtain ⟨rfl, rfl⟩ := H
            go_wp2
            go_ret2
            exact ⟨_, by first | rfl | (simp [errW_none, errW_some] <;> rfl) | (simp [*, errW_none, errW_some] <;> rfl), by first | exact Kd.R_nil _ _ _ _ _ | exact Kd.N_nil _ _ _ _ _ | exact Kd.V_nil _ _ _ _ _ | exact Kd.Q_nil _ _ _ _ _ | exact Kd.S_nil _ _ _ _ _, by repeat (first | (with_reducible first | exact HB.out | apply below_alloc | apply pw_below_drewN | apply below_drew1) | exact HB.out)⟩
          · rw [if_neg c10] at H
            have c10b0 : decide (a2 < (l0.length : Int)) = false := decide_eq_false c10
            clear c10
            replace H := Option.bind_eq_some_iff.mp H
            obtain ⟨t21006, A110, H⟩ := H
            replace H : (some (t21006, 0)) = some (r1, r2) := H
            have A11 := Aside0.mk A110
            clear A110
            simp only [Option.some.injEq, Prod.mk.injEq] at H
            obtain ⟨rfl, rfl⟩ := H
            go_wp2_with (first | ((with_reducible refine gate_callee (f := 63) rfl ?_); refine goesL_ (some 34) rfl rfl Try.func63 (by kernel_rfl) rfl #[.slice A0 l0.length c0] rfl (by (try simp only [List.map_toArray, List.map_cons, List.map_nil]); first | done | rfl | (simp only [List.length_drop, List.length_take]; rfl)) ?_; (with_reducible refine (bytes_Clone.calls _ _ l0 t21006 _ ?side1 ?side2 A11.out).mono ?_); (case side1 => repeat (first | exact (Kd.C_below HR0.out HB.out) | (with_reducible refine Kd.C_alloc ?_ _) | (with_reducible refine Kd.C_drewN ?_ _) | (with_reducible refine Kd.C_drew ?_))); (case side2 => exact HC0.out); rintro e w12 ⟨v21007, rfl, ho0, hb⟩; refine ⟨_, rfl, ?_⟩; have n0_ := Aside0.mk (Kd.R_lower ho0 (below_size (by repeat (first | (with_reducible first | exact HB.out | apply below_alloc | apply pw_below_drewN | apply below_drew1) | exact HB.out)))); have n1_ := Aside0.mk (below_step (by repeat (first | (with_reducible first | exact HB.out | apply below_alloc | apply pw_below_drewN | apply below_drew1) | exact HB.out)) hb); clear HB; have HO21008 := n0_; have HB := n1_; clear n0_ n1_; (try clear hb); (try clear hb2); (try clear hk); (try clear hi); (try clear ho0)))
            go_ret2
            exact ⟨_, by first | rfl | (simp [errW_none, errW_some] <;> rfl) | (simp [*, errW_none, errW_some] <;> rfl), by (with_reducible repeat (first | apply Kd.R_alloc | apply Kd.R_drewN | apply Kd.R_drew)); exact HO21008.out, by repeat (first | (with_reducible first | exact HB.out | apply below_alloc | apply pw_below_drewN | apply below_drew1) | exact HB.out)⟩

end Go.Proofs.Ytdlfflgcmgkmeaa.P

-- Written by a program of this session's own (wip/tools), over the translation. Not trusted: Lean checks it.
namespace Go.Proofs.Ytdlfflgcmgkmeaa.P
open Go.RowKit Go.Proofs.YtdlfflgcmgkmeaaW.PrintWords Go.Proofs.YtdlfflgcmgkmeaaW.PrintLast Go.Proofs.YtdlfflgcmgkmeaaW.PrintMore
attribute [local go_sem] max2_int min2_int max_two min_two max_three min_three max_four min_four   -- for this text's walks alone
set_option linter.unusedVariables false
set_option linter.unusedSimpArgs false

/-! ### field_within: function 95 -/
def field_within.f (l0 : List Int) (a1 : Int) (a2 : Int) : Option (Bool) := if a1 ≥ 0 then (if a2 ≥ 0 then (if a2 ≤ (l0.length : Int) then (some (decide (a1 ≤ (wrap64 ((l0.length : Int) - a2))))) else (some false)) else (some false)) else (some false)
set_option maxHeartbeats 8000000 in
set_option maxRecDepth 100000 in
theorem field_within.calls (A0 : Option Addr) (c0 : Nat) (l0 : List Int) (a1 : Int) (a2 : Int) (r : Bool) (w : World) (hr0 : Kd.C (Kd.int .u8) w A0 l0.length l0) (hc0 : l0.length ≤ c0) (h : field_within.f l0 a1 a2 = some r) :
    Calls Try.prog 95 #[.slice A0 l0.length c0, .int .i64 a1, .int .i64 a2] w fun e w' => e = .returned (.bool r) ∧ Drawn0 w w' := by
  have HR0 := Aside0.mk hr0
  have HC0 := Aside0.mk hc0
  clear hr0 hc0
  have H : (if a1 ≥ 0 then (if a2 ≥ 0 then (if a2 ≤ (l0.length : Int) then (some (decide (a1 ≤ (wrap64 ((l0.length : Int) - a2))))) else (some false)) else (some false)) else (some false)) = some r := h
  clear h
  by_cases c4 : a1 ≥ 0
  · rw [if_pos c4] at H
    have c4b0 : decide (0 ≤ a1) = true := decide_eq_true c4
    clear c4
    by_cases c5 : a2 ≥ 0
    · rw [if_pos c5] at H
      have c5b0 : decide (0 ≤ a2) = true := decide_eq_true c5
      clear c5
      by_cases c6 : a2 ≤ (l0.length : Int)
      · rw [if_pos c6] at H
        have c6b0 : decide (a2 ≤ (l0.length : Int)) = true := decide_eq_true c6
        clear c6
        obtain rfl := Option.some.inj H
        go_enter Try.func95, Try.ntmps95
        go_wp2
        go_ret
        exact ⟨by first | rfl | (simp; done) | (simp [*]; done), by repeat (first | exact Drawn0.refl _ | apply Drawn0.step)⟩
      · rw [if_neg c6] at H
        have c6b0 : decide (a2 ≤ (l0.length : Int)) = false := decide_eq_false c6
        clear c6
        obtain rfl := Option.some.inj H
        go_enter Try.func95, Try.ntmps95
        go_wp2
        go_ret
        exact ⟨by first | rfl | (simp; done) | (simp [*]; done), by repeat (first | exact Drawn0.refl _ | apply Drawn0.step)⟩
    · rw [if_neg c5] at H
      have c5b0 : decide (0 ≤ a2) = false := decide_eq_false c5
      clear c5
      obtain rfl := Option.some.inj H
      go_enter Try.func95, Try.ntmps95
      go_wp2
      go_ret
      exact ⟨by first | rfl | (simp; done) | (simp [*]; done), by repeat (first | exact Drawn0.refl _ | apply Drawn0.step)⟩
  · rw [if_neg c4] at H
    have c4b0 : decide (0 ≤ a1) = false := decide_eq_false c4
    clear c4
    obtain rfl := Option.some.inj H
    go_enter Try.func95, Try.ntmps95
    go_wp2
    go_ret
    exact ⟨by first | rfl | (simp; done) | (simp [*]; done), by repeat (first | exact Drawn0.refl _ | apply Drawn0.step)⟩

end Go.Proofs.Ytdlfflgcmgkmeaa.P

-- Written by a program of this session's own (wip/tools), over the translation. Not trusted: Lean checks it.
namespace Go.Proofs.Ytdlfflgcmgkmeaa.P
open Go.RowKit Go.Proofs.YtdlfflgcmgkmeaaW.PrintWords Go.Proofs.YtdlfflgcmgkmeaaW.PrintLast Go.Proofs.YtdlfflgcmgkmeaaW.PrintMore
attribute [local go_sem] max2_int min2_int max_two min_two max_three min_three max_four min_four   -- for this text's walks alone
set_option linter.unusedVariables false
set_option linter.unusedSimpArgs false

/-! ### field_load: function 96 -/
def field_load.l0 : Nat → List Int → Int → Int → Int → Option (Int)
  | 0, _, _, _, _ => none
  | k + 1, x0, x3, x6, x7 => if x7 < x6 then (if 0 ≤ x7 then (if x7 < (x0.length : Int) then (if 0 ≤ (wrap64 (8 * x7)) then (field_load.l0 k x0 (Go.bits .or .u64 x3 (shl .u64 (IntKind.u64.wrap (rd x0 x7)) (wrap64 (8 * x7)))) x6 (wrap64 (x7 + 1))) else (none)) else (none)) else (none)) else (some x3)
def field_load.f (k : Nat) (l0 : List Int) : Option (Int) := field_load.l0 k l0 0 (l0.length : Int) 0
theorem field_load.mono_l : ∀ k, (∀ y0 y1 y2 y3, LeO (field_load.l0 k y0 y1 y2 y3) (field_load.l0 (k + 1) y0 y1 y2 y3))
  | 0 => fun _ _ _ _ r h => by simp [field_load.l0] at h
  | k + 1 => by
    have ih0 := field_load.mono_l k
    · intro y0 y1 y2 y3
      unfold field_load.l0
      repeat' first
      | (with_reducible exact ih0 _ _ _ _)
      | (with_reducible exact LeO.refl _)
      | (with_reducible exact LeO.none _)
      | (with_reducible refine LeO.ite ?_ ?_)
      | (with_reducible refine LeO.bind ?_ (fun _ => ?_))
      | exact ih0 _ _ _ _
      | exact LeO.none _
      | refine LeO.ite ?_ ?_
      | refine LeO.bind ?_ (fun _ => ?_)
theorem field_load.mono : ∀ a0 k, LeO (field_load.f k a0) (field_load.f (k + 1) a0) := by
  intro a0 k
  have ih0 := field_load.mono_l k
  unfold field_load.f
  repeat' first
      | (with_reducible exact ih0 _ _ _ _)
      | (with_reducible exact LeO.refl _)
      | (with_reducible exact LeO.none _)
      | (with_reducible refine LeO.ite ?_ ?_)
      | (with_reducible refine LeO.bind ?_ (fun _ => ?_))
      | exact ih0 _ _ _ _
      | exact LeO.none _
      | refine LeO.ite ?_ ?_
      | refine LeO.bind ?_ (fun _ => ?_)
set_option maxHeartbeats 8000000 in
set_option maxRecDepth 100000 in
theorem field_load.calls (k : Nat) (A0 : Option Addr) (c0 : Nat) (l0 : List Int) (r : Int) (w : World) (hr0 : Kd.C (Kd.int .u8) w A0 l0.length l0) (hc0 : l0.length ≤ c0) (h : field_load.f k l0 = some r) :
    Calls Try.prog 96 #[.slice A0 l0.length c0] w fun e w' => e = .returned (.int .u64 r) ∧ Drawn0 w w' := by
  have HR0 := Aside0.mk hr0
  have HC0 := Aside0.mk hc0
  clear hr0 hc0
  have H : (field_load.l0 k l0 0 (l0.length : Int) 0) = some r := h
  clear h
  have H' := Aside0.mk H
  clear H
  go_enter Try.func96, Try.ntmps96
  go_wp2
  go_loopg [3, 7] k (fun kq v3 v7 w' => ∃ (x3_1 : Int) (x7_1 : Int), v3 = .int .u64 x3_1 ∧ v7 = .int .i64 x7_1 ∧ Aside0 (field_load.l0 kq l0 x3_1 (l0.length : Int) x7_1 = some r) ∧ Aside0 (kq ≤ k) ∧ Drawn0 w w')
  case atStart => exact ⟨(0), (0), (by first | rfl | (simp; done) | (simp [*]; done)), (by first | rfl | (simp; done) | (simp [*]; done)), H', ⟨Nat.le_refl _⟩, by repeat (first | exact Drawn0.refl _ | apply Drawn0.step)⟩
  case round =>
    clear H'
    obtain ⟨x3_1, x7_1, rfl, rfl, HA, HK1, ⟨m1, rfl⟩⟩ := hrel
    cases gk with
    | zero => exact absurd HA.out (by simp [field_load.l0])
    | succ k1 =>
      have H := HA.out
      clear HA
      simp only [field_load.l0] at H
      by_cases c2 : x7_1 < (l0.length : Int)
      · rw [if_pos c2] at H
        have c2b0 : decide (x7_1 < (l0.length : Int)) = true := decide_eq_true c2
        clear c2
        by_cases c3 : 0 ≤ x7_1
        · rw [if_pos c3] at H
          have c3b0 : decide (0 ≤ x7_1) = true := decide_eq_true c3
          clear c3
          by_cases c4 : x7_1 < (l0.length : Int)
          · rw [if_pos c4] at H
            have c4b0 : decide (x7_1 < (l0.length : Int)) = true := decide_eq_true c4
            clear c4
            obtain ⟨ji5, hji5⟩ : ∃ j_ : Int, (wrap64 (8 * x7_1)) = j_ := ⟨_, rfl⟩
            replace H : (if 0 ≤ (ji5) then (field_load.l0 k1 l0 (Go.bits .or .u64 x3_1 (shl .u64 (IntKind.u64.wrap (rd l0 x7_1)) (ji5))) (l0.length : Int) (wrap64 (x7_1 + 1))) else (none)) = some r := by first | (rw [hji5] at H; exact H) | (simp only [hji5] at H ⊢; exact H)
            have hji5w : (IntKind.i64.wrap (8 * x7_1)) = ji5 := (i64_w _).trans hji5
            by_cases c6 : 0 ≤ (ji5)
            · rw [if_pos c6] at H
              have c6b0 := eq_true c6
              have c6b1 : decide (0 ≤ (ji5)) = true := decide_eq_true c6
              clear c6
              obtain ⟨ji7, hji7⟩ : ∃ j_ : Int, (shl .u64 (IntKind.u64.wrap (rd l0 x7_1)) (ji5)) = j_ := ⟨_, rfl⟩
              replace H : (field_load.l0 k1 l0 (Go.bits .or .u64 x3_1 (ji7)) (l0.length : Int) (wrap64 (x7_1 + 1))) = some r := by first | (rw [hji7] at H; exact H) | (simp only [hji7] at H ⊢; exact H)
              have hji7_ : (IntKind.u64.wrap ((IntKind.u64.wrap (rd l0 x7_1)) * 2 ^ min (ji5).toNat 64)) = ji7 := hji7
              have hji7z : (ji5) ≤ 64 → (IntKind.u64.wrap ((IntKind.u64.wrap (rd l0 x7_1)) * 2 ^ (ji5).toNat)) = ji7 := shl_small hji7
              have H' := Aside0.mk H
              clear H
              have p97001 : 0 ≤ (x7_1 : Int) := of_decide_eq_true (by first | (with_reducible assumption) | assumption)
              have q97001 : x7_1 < (l0.length : Int) := of_decide_eq_true (by first | (with_reducible assumption) | assumption)
              obtain ⟨ad97001, e97001, hx97001_0⟩ := Kd.at_int HR0.out x7_1 p97001 q97001
              cases e97001
              replace p97001 := eq_true p97001
              replace q97001 := eq_true q97001
              go_wp2
              go_roundg k1
              case measure => have := HK1.out; omega
              case rel => exact ⟨(Go.bits .or .u64 x3_1 (ji7)), (wrap64 (x7_1 + 1)), (by first | rfl | (simp; done) | (simp only [← hji7] <;> (first | rfl | simp)) | (simp [*]; done)), (by first | rfl | (simp; done) | (simp [*]; done)), H', ⟨by have := HK1.out; omega⟩, by repeat (first | exact Drawn0.refl _ | apply Drawn0.step)⟩
            · rw [if_neg c6] at H
              exact absurd H (by simp)
          · rw [if_neg c4] at H
            exact absurd H (by simp)
        · rw [if_neg c3] at H
          exact absurd H (by simp)
      · rw [if_neg c2] at H
        have c2b0 : decide (x7_1 < (l0.length : Int)) = false := decide_eq_false c2
        clear c2
        obtain rfl := Option.some.inj H
        go_wp2
        go_ret
        exact ⟨by first | rfl | (simp; done) | (simp [*]; done), by repeat (first | exact Drawn0.refl _ | apply Drawn0.step)⟩

end Go.Proofs.Ytdlfflgcmgkmeaa.P

-- Written by a program of this session's own (wip/tools), over the translation. Not trusted: Lean checks it.
namespace Go.Proofs.Ytdlfflgcmgkmeaa.P
open Go.RowKit Go.Proofs.YtdlfflgcmgkmeaaW.PrintWords Go.Proofs.YtdlfflgcmgkmeaaW.PrintLast Go.Proofs.YtdlfflgcmgkmeaaW.PrintMore
attribute [local go_sem] max2_int min2_int max_two min_two max_three min_three max_four min_four   -- for this text's walks alone
set_option linter.unusedVariables false
set_option linter.unusedSimpArgs false

/-! ### field_Get: function 71 -/
def field_Get.f (k : Nat) (l0 : List Int) (a1 : Int) (a2 : Int) : Option (Int × Int) := (field_wide.f k a2).bind fun t72001 => (if t72001 = true then ((field_within.f l0 a1 a2).bind fun t72002 => (if t72002 = true then (if 0 ≤ a1 then (if a1 ≤ (wrap64 (a1 + a2)) then (if (wrap64 (a1 + a2)) ≤ (l0.length : Int) then ((field_load.f k ((l0.take ((wrap64 (a1 + a2)) : Int).toNat).drop (a1 : Int).toNat)).bind fun t72004 => (some (t72004, 0))) else (none)) else (none)) else (none)) else (some (0, 9)))) else (some (0, 1)))
theorem field_Get.mono : ∀ a0 a1 a2 k, LeO (field_Get.f k a0 a1 a2) (field_Get.f (k + 1) a0 a1 a2) := by
  intro a0 a1 a2 k
  unfold field_Get.f
  repeat' first
      | (with_reducible exact field_load.mono _ _)
      | (with_reducible exact field_wide.mono _ _)
      | (with_reducible exact LeO.refl _)
      | (with_reducible exact LeO.none _)
      | (with_reducible refine LeO.ite ?_ ?_)
      | (with_reducible refine LeO.bind ?_ (fun _ => ?_))
      | exact field_load.mono _ _
      | exact field_wide.mono _ _
      | exact LeO.none _
      | refine LeO.ite ?_ ?_
      | refine LeO.bind ?_ (fun _ => ?_)
set_option maxHeartbeats 8000000 in
set_option maxRecDepth 100000 in
theorem field_Get.calls (k : Nat) (A0 : Option Addr) (c0 : Nat) (l0 : List Int) (a1 : Int) (a2 : Int) (r1 : Int) (r2 : Int) (w : World) (hr0 : Kd.C (Kd.int .u8) w A0 l0.length l0) (hc0 : l0.length ≤ c0) (h : field_Get.f k l0 a1 a2 = some (r1, r2)) :
    Calls Try.prog 71 #[.slice A0 l0.length c0, .int .i64 a1, .int .i64 a2] w fun e w' => e = .returned (.tuple #[.int .u64 r1, .int .i64 r2]) ∧ Drawn0 w w' := by
  have HR0 := Aside0.mk hr0
  have HC0 := Aside0.mk hc0
  clear hr0 hc0
  have H : ((field_wide.f k a2).bind fun t72001 => (if t72001 = true then ((field_within.f l0 a1 a2).bind fun t72002 => (if t72002 = true then (if 0 ≤ a1 then (if a1 ≤ (wrap64 (a1 + a2)) then (if (wrap64 (a1 + a2)) ≤ (l0.length : Int) then ((field_load.f k ((l0.take ((wrap64 (a1 + a2)) : Int).toNat).drop (a1 : Int).toNat)).bind fun t72004 => (some (t72004, 0))) else (none)) else (none)) else (none)) else (some (0, 9)))) else (some (0, 1)))) = some (r1, r2) := h
  clear h
  replace H := Option.bind_eq_some_iff.mp H
  obtain ⟨t72001, A40, H⟩ := H
  replace H : (if t72001 = true then ((field_within.f l0 a1 a2).bind fun t72002 => (if t72002 = true then (if 0 ≤ a1 then (if a1 ≤ (wrap64 (a1 + a2)) then (if (wrap64 (a1 + a2)) ≤ (l0.length : Int) then ((field_load.f k ((l0.take ((wrap64 (a1 + a2)) : Int).toNat).drop (a1 : Int).toNat)).bind fun t72004 => (some (t72004, 0))) else (none)) else (none)) else (none)) else (some (0, 9)))) else (some (0, 1))) = some (r1, r2) := H
  have A4 := Aside0.mk A40
  clear A40
  by_cases c5 : t72001 = true
  · subst c5
    have H1 : ((field_within.f l0 a1 a2).bind fun t72002 => (if t72002 = true then (if 0 ≤ a1 then (if a1 ≤ (wrap64 (a1 + a2)) then (if (wrap64 (a1 + a2)) ≤ (l0.length : Int) then ((field_load.f k ((l0.take ((wrap64 (a1 + a2)) : Int).toNat).drop (a1 : Int).toNat)).bind fun t72004 => (some (t72004, 0))) else (none)) else (none)) else (none)) else (some (0, 9)))) = some (r1, r2) := by rw [if_pos rfl] at H; exact H
    clear H
    have H := H1
    clear H1
    replace H := Option.bind_eq_some_iff.mp H
    obtain ⟨t72002, A60, H⟩ := H
    replace H : (if t72002 = true then (if 0 ≤ a1 then (if a1 ≤ (wrap64 (a1 + a2)) then (if (wrap64 (a1 + a2)) ≤ (l0.length : Int) then ((field_load.f k ((l0.take ((wrap64 (a1 + a2)) : Int).toNat).drop (a1 : Int).toNat)).bind fun t72004 => (some (t72004, 0))) else (none)) else (none)) else (none)) else (some (0, 9))) = some (r1, r2) := H
    have A6 := Aside0.mk A60
    clear A60
    by_cases c7 : t72002 = true
    · subst c7
      have H1 : (if 0 ≤ a1 then (if a1 ≤ (wrap64 (a1 + a2)) then (if (wrap64 (a1 + a2)) ≤ (l0.length : Int) then ((field_load.f k ((l0.take ((wrap64 (a1 + a2)) : Int).toNat).drop (a1 : Int).toNat)).bind fun t72004 => (some (t72004, 0))) else (none)) else (none)) else (none)) = some (r1, r2) := by rw [if_pos rfl] at H; exact H
      clear H
      have H := H1
      clear H1
      by_cases c8 : 0 ≤ a1
      · rw [if_pos c8] at H
        have c8b0 := eq_true c8
        have c8b1 : decide (0 ≤ a1) = true := decide_eq_true c8
        clear c8
        by_cases c9 : a1 ≤ (wrap64 (a1 + a2))
        · rw [if_pos c9] at H
          have c9b0 := eq_true c9
          have c9b1 : decide (a1 ≤ (wrap64 (a1 + a2))) = true := decide_eq_true c9
          by_cases c10 : (wrap64 (a1 + a2)) ≤ (l0.length : Int)
          · rw [if_pos c10] at H
            have c10b0 := eq_true c10
            have c10b1 : decide ((wrap64 (a1 + a2)) ≤ (l0.length : Int)) = true := decide_eq_true c10
            replace H := Option.bind_eq_some_iff.mp H
            obtain ⟨t72004, A110, H⟩ := H
            replace H : (some (t72004, 0)) = some (r1, r2) := H
            have A11 := Aside0.mk A110
            clear A110
            simp only [Option.some.injEq, Prod.mk.injEq] at H
            obtain ⟨rfl, rfl⟩ := H
            go_enter Try.func71, Try.ntmps71
            go_wp2_with (first | ((with_reducible refine gate_callee (f := 94) rfl ?_); refine goesL_ (some 10) rfl rfl Try.func94 (by kernel_rfl) rfl #[.int .i64 a2] rfl (by (try simp only [List.map_toArray, List.map_cons, List.map_nil]); first | done | rfl | (simp only [List.length_drop, List.length_take]; rfl)) ?_; (with_reducible refine (field_wide.calls k a2 true _ A4.out).mono ?_); rintro e w' ⟨rfl, ⟨nd, rfl⟩⟩; refine ⟨_, rfl, ?_⟩) | ((with_reducible refine gate_callee (f := 95) rfl ?_); refine goesL_ (some 16) rfl rfl Try.func95 (by kernel_rfl) rfl #[.slice A0 l0.length c0, .int .i64 a1, .int .i64 a2] rfl (by (try simp only [List.map_toArray, List.map_cons, List.map_nil]); first | done | rfl | (simp only [List.length_drop, List.length_take]; rfl)) ?_; (with_reducible refine (field_within.calls _ _ l0 a1 a2 true _ ?side1 ?side2 A6.out).mono ?_); (case side1 => repeat (first | exact HR0.out | (with_reducible refine Kd.C_alloc ?_ _) | (with_reducible refine Kd.C_drewN ?_ _) | (with_reducible refine Kd.C_drew ?_))); (case side2 => exact HC0.out); rintro e w' ⟨rfl, ⟨nd, rfl⟩⟩; refine ⟨_, rfl, ?_⟩; obtain ⟨i012, hi012, _, hsz12, _⟩ := info_parts info5; obtain ⟨A12, hcut12, hA12, hC12⟩ := print_mid_of (P := Try.prog) (Value.int .u8) 0 22 5 .i64 .i64 Try.underlying22 hi012 hsz12 A0 c0 l0 a1 (wrap64 (a1 + a2)) (of_decide_eq_true (by first | (with_reducible assumption) | assumption)) (by first | omega | exact of_decide_eq_true (by first | (with_reducible assumption) | assumption)) (of_decide_eq_true (by first | (with_reducible assumption) | assumption)) HC0.out; have HR72003 := Aside0.mk (Kd.C_of_reads (h1 := fun _ => rfl) (hA12 _ (Kd.reads_of_C HR0.out))); have HC72003 := Aside0.mk hC12; clear hA12 hC12 hi012 hsz12) | ((with_reducible refine gate_callee (f := 96) rfl ?_); refine goesL_ (some 24) rfl rfl Try.func96 (by kernel_rfl) rfl #[.slice A12 ((l0.take ((wrap64 (a1 + a2)) : Int).toNat).drop (a1 : Int).toNat).length (c0 - a1.toNat)] rfl (by (try simp only [List.map_toArray, List.map_cons, List.map_nil]); first | done | (rw [show ((l0.take ((wrap64 (a1 + a2)) : Int).toNat).drop (a1 : Int).toNat).length = ((wrap64 (a1 + a2)).toNat - a1.toNat) from (by rw [List.length_drop, List.length_take]; have h_ : ((wrap64 (a1 + a2)) : Int) ≤ (l0.length : Int) := of_decide_eq_true (by first | (with_reducible assumption) | assumption); omega)] <;> rfl) | rfl | (simp only [List.length_drop, List.length_take]; rfl)) ?_; (with_reducible refine (field_load.calls k _ _ ((l0.take ((wrap64 (a1 + a2)) : Int).toNat).drop (a1 : Int).toNat) t72004 _ ?side1 ?side2 A11.out).mono ?_); (case side1 => repeat (first | exact HR72003.out | (with_reducible refine Kd.C_alloc ?_ _) | (with_reducible refine Kd.C_drewN ?_ _) | (with_reducible refine Kd.C_drew ?_))); (case side2 => exact HC72003.out); rintro e w' ⟨rfl, ⟨nd, rfl⟩⟩; refine ⟨_, rfl, ?_⟩))
            go_ret2
            exact ⟨by first | rfl | (simp; done) | (simp [*]; done), by repeat (first | exact Drawn0.refl _ | apply Drawn0.step)⟩
          · rw [if_neg c10] at H
            exact absurd H (by simp)
        · rw [if_neg c9] at H
          exact absurd H (by simp)
      · rw [if_neg c8] at H
        exact absurd H (by simp)
    · replace c7 := Bool.eq_false_iff.mpr c7
      subst c7
      have H1 : (some (0, 9)) = some (r1, r2) := by rw [if_neg (show ¬ (false = true) by decide)] at H; exact H
      clear H
      have H := H1
      clear H1
      simp only [Option.some.injEq, Prod.mk.injEq] at H
      obtain ⟨rfl, rfl⟩ := H
      go_enter Try.func71, Try.ntmps71
      go_wp2_with (first | ((with_reducible refine gate_callee (f := 94) rfl ?_); refine goesL_ (some 10) rfl rfl Try.func94 (by kernel_rfl) rfl #[.int .i64 a2] rfl (by (try simp only [List.map_toArray, List.map_cons, List.map_nil]); first | done | rfl | (simp only [List.length_drop, List.length_take]; rfl)) ?_; (with_reducible refine (field_wide.calls k a2 true _ A4.out).mono ?_); rintro e w' ⟨rfl, ⟨nd, rfl⟩⟩; refine ⟨_, rfl, ?_⟩) | ((with_reducible refine gate_callee (f := 95) rfl ?_); refine goesL_ (some 16) rfl rfl Try.func95 (by kernel_rfl) rfl #[.slice A0 l0.length c0, .int .i64 a1, .int .i64 a2] rfl (by (try simp only [List.map_toArray, List.map_cons, List.map_nil]); first | done | rfl | (simp only [List.length_drop, List.length_take]; rfl)) ?_; (with_reducible refine (field_within.calls _ _ l0 a1 a2 false _ ?side1 ?side2 A6.out).mono ?_); (case side1 => repeat (first | exact HR0.out | (with_reducible refine Kd.C_alloc ?_ _) | (with_reducible refine Kd.C_drewN ?_ _) | (with_reducible refine Kd.C_drew ?_))); (case side2 => exact HC0.out); rintro e w' ⟨rfl, ⟨nd, rfl⟩⟩; refine ⟨_, rfl, ?_⟩))
      go_ret2
      exact ⟨by first | rfl | (simp; done) | (simp [*]; done), by repeat (first | exact Drawn0.refl _ | apply Drawn0.step)⟩
  · replace c5 := Bool.eq_false_iff.mpr c5
    subst c5
    have H1 : (some (0, 1)) = some (r1, r2) := by rw [if_neg (show ¬ (false = true) by decide)] at H; exact H
    clear H
    have H := H1
    clear H1
    simp only [Option.some.injEq, Prod.mk.injEq] at H
    obtain ⟨rfl, rfl⟩ := H
    go_enter Try.func71, Try.ntmps71
    go_wp2_with (first | ((with_reducible refine gate_callee (f := 94) rfl ?_); refine goesL_ (some 10) rfl rfl Try.func94 (by kernel_rfl) rfl #[.int .i64 a2] rfl (by (try simp only [List.map_toArray, List.map_cons, List.map_nil]); first | done | rfl | (simp only [List.length_drop, List.length_take]; rfl)) ?_; (with_reducible refine (field_wide.calls k a2 false _ A4.out).mono ?_); rintro e w' ⟨rfl, ⟨nd, rfl⟩⟩; refine ⟨_, rfl, ?_⟩))
    go_ret2
    exact ⟨by first | rfl | (simp; done) | (simp [*]; done), by repeat (first | exact Drawn0.refl _ | apply Drawn0.step)⟩

end Go.Proofs.Ytdlfflgcmgkmeaa.P

-- Written by a program of this session's own (wip/tools), over the translation. Not trusted: Lean checks it.
namespace Go.Proofs.Ytdlfflgcmgkmeaa.P
open Go.RowKit Go.Proofs.YtdlfflgcmgkmeaaW.PrintWords Go.Proofs.YtdlfflgcmgkmeaaW.PrintLast Go.Proofs.YtdlfflgcmgkmeaaW.PrintMore
attribute [local go_sem] max2_int min2_int max_two min_two max_three min_three max_four min_four   -- for this text's walks alone
set_option linter.unusedVariables false
set_option linter.unusedSimpArgs false

/-! ### blocks_Parts: function 39 -/
def blocks_Parts.f (a0 : Int) : Option (Int × Bool × Int) := if a0 < 0 then (some (0, false, 1)) else (if (Go.bits .andNot .i64 a0 2147483648) < 1 then (some (0, false, 1)) else (if (Go.bits .andNot .i64 a0 2147483648) > 1048576 then (some (0, false, 1)) else (some (Go.bits .andNot .i64 a0 2147483648, ((Go.bits .and .i64 a0 2147483648) == 0), 0))))
set_option maxHeartbeats 8000000 in
set_option maxRecDepth 100000 in
theorem blocks_Parts.calls (a0 : Int) (r1 : Int) (r2 : Bool) (r3 : Int) (w : World) (h : blocks_Parts.f a0 = some (r1, r2, r3)) :
    Calls Try.prog 39 #[.int .i64 a0] w fun e w' => e = .returned (.tuple #[.int .i64 r1, .bool r2, .int .i64 r3]) ∧ Drawn0 w w' := by
  have H : (if a0 < 0 then (some (0, false, 1)) else (if (Go.bits .andNot .i64 a0 2147483648) < 1 then (some (0, false, 1)) else (if (Go.bits .andNot .i64 a0 2147483648) > 1048576 then (some (0, false, 1)) else (some (Go.bits .andNot .i64 a0 2147483648, ((Go.bits .and .i64 a0 2147483648) == 0), 0))))) = some (r1, r2, r3) := h
  clear h
  by_cases c2 : a0 < 0
  · rw [if_pos c2] at H
    have c2b0 : decide (a0 < 0) = true := decide_eq_true c2
    clear c2
    simp only [Option.some.injEq, Prod.mk.injEq] at H
    obtain ⟨rfl, rfl, rfl⟩ := H
    go_enter Try.func39, Try.ntmps39
    go_wp2
    go_ret3
    exact ⟨by first | rfl | (simp; done) | (simp [*]; done), by repeat (first | exact Drawn0.refl _ | apply Drawn0.step)⟩
  · rw [if_neg c2] at H
    have c2b0 : decide (a0 < 0) = false := decide_eq_false c2
    clear c2
    by_cases c3 : (Go.bits .andNot .i64 a0 2147483648) < 1
    · rw [if_pos c3] at H
      have c3b0 : decide ((Go.bits .andNot .i64 a0 2147483648) < 1) = true := decide_eq_true c3
      clear c3
      simp only [Option.some.injEq, Prod.mk.injEq] at H
      obtain ⟨rfl, rfl, rfl⟩ := H
      go_enter Try.func39, Try.ntmps39
      go_wp2
      go_ret3
      exact ⟨by first | rfl | (simp; done) | (simp [*]; done), by repeat (first | exact Drawn0.refl _ | apply Drawn0.step)⟩
    · rw [if_neg c3] at H
      have c3b0 : decide ((Go.bits .andNot .i64 a0 2147483648) < 1) = false := decide_eq_false c3
      clear c3
      by_cases c4 : (Go.bits .andNot .i64 a0 2147483648) > 1048576
      · rw [if_pos c4] at H
        have c4b0 : decide (1048576 < (Go.bits .andNot .i64 a0 2147483648)) = true := decide_eq_true c4
        clear c4
        simp only [Option.some.injEq, Prod.mk.injEq] at H
        obtain ⟨rfl, rfl, rfl⟩ := H
        go_enter Try.func39, Try.ntmps39
        go_wp2
        go_ret3
        exact ⟨by first | rfl | (simp; done) | (simp [*]; done), by repeat (first | exact Drawn0.refl _ | apply Drawn0.step)⟩
      · rw [if_neg c4] at H
        have c4b0 : decide (1048576 < (Go.bits .andNot .i64 a0 2147483648)) = false := decide_eq_false c4
        clear c4
        simp only [Option.some.injEq, Prod.mk.injEq] at H
        obtain ⟨rfl, rfl, rfl⟩ := H
        go_enter Try.func39, Try.ntmps39
        go_wp2
        go_ret3
        exact ⟨by first | rfl | (simp; done) | (simp [*]; done), by repeat (first | exact Drawn0.refl _ | apply Drawn0.step)⟩

end Go.Proofs.Ytdlfflgcmgkmeaa.P
