/- Proved: MatchPacks, part 4 of 4: the law MatchPacks of the program. Conditions: those that the statement itself has. -/
import Derived.Test.YtdlfflgcmgkmeaaKMatchPacks3
import Derived.Test.YtdlfflgcmgkmeaaKMatchPacks1
import Derived.Test.YtdlfflgcmgkmeaaRows
import Derived.Test.YtdlfflgcmgkmeaaClosing
import Derived.WalkKit
import Derived.ProofKit
import Derived.OpenShut
import Derived.ShutString
import Derived.ChangeOld
import Derived.Below
import Derived.SizedLaws
import Derived.Test.YtdlfflgcmgkmeaaWSized
namespace Go.Proofs.Ytdlfflgcmgkmeaa.Pure
open Go.RowKit Go.Proofs.Ytdlfflgcmgkmeaa.P Go.Proofs.YtdlfflgcmgkmeaaW.PrintWords Go.Proofs.YtdlfflgcmgkmeaaW.PrintLast Go.Proofs.YtdlfflgcmgkmeaaW.PrintMore
set_option linter.unusedVariables false
/-! ### What sequences tell -/
def Tells : List Int → List S113 → List Int → Prop
  | _, [], _ => False
  | ys, s :: r, zs => match r with
    | [] => s.f1 = 0 ∧ s.f2 = 0 ∧ zs = ys ++ s.f0
    | _ => 1 ≤ s.f1 ∧ s.f1 ≤ 65535 ∧ 4 ≤ s.f2 ∧ s.f1 ≤ ys.length + s.f0.length ∧ Tells (copyN s.f2.toNat s.f1.toNat (ys ++ s.f0)) r zs
/-- Those ahead of the last. -/
def Plays : List Int → List S113 → List Int → Prop
  | ys, [], zs => ys = zs
  | ys, s :: r, zs => 1 ≤ s.f1 ∧ s.f1 ≤ 65535 ∧ 4 ≤ s.f2 ∧ s.f1 ≤ ys.length + s.f0.length ∧ Plays (copyN s.f2.toNat s.f1.toNat (ys ++ s.f0)) r zs
theorem Plays.snoc : ∀ {ys : List Int} {l : List S113} {zs : List Int} {s : S113}, Plays ys l zs → 1 ≤ s.f1 → s.f1 ≤ 65535 → 4 ≤ s.f2 → s.f1 ≤ zs.length + s.f0.length → Plays ys (l ++ [s]) (copyN s.f2.toNat s.f1.toNat (zs ++ s.f0))
  | ys, [], zs, s, h, h1, h2, h3, h4 => by
    have : ys = zs := h
    subst this
    exact ⟨h1, h2, h3, h4, rfl⟩
  | ys, x :: l, zs, s, h, h1, h2, h3, h4 => by
    obtain ⟨g1, g2, g3, g4, g5⟩ := h
    exact ⟨g1, g2, g3, g4, Plays.snoc g5 h1 h2 h3 h4⟩
theorem Plays.tells : ∀ {ys : List Int} {l : List S113} {zs lit : List Int}, Plays ys l zs → Tells ys (l ++ [⟨lit, 0, 0⟩]) (zs ++ lit)
  | ys, [], zs, lit, h => by
    have : ys = zs := h
    subst this
    exact ⟨rfl, rfl, rfl⟩
  | ys, x :: l, zs, lit, h => by
    obtain ⟨g1, g2, g3, g4, g5⟩ := h
    have := Plays.tells (lit := lit) g5
    cases hl : l ++ [(⟨lit, 0, 0⟩ : S113)] with
    | nil => simp at hl
    | cons a b =>
      rw [List.cons_append, hl]
      rw [hl] at this
      exact ⟨g1, g2, g3, g4, this⟩

/-! ### What a text's sequences tell is the text -/
theorem cmn_same (l : List Int) (p q : Nat) : ∀ (f n i : Nat), n ≤ i → i < cmn l p q f n → rd l ((p + i : Nat) : Int) = rd l ((q + i : Nat) : Int)
  | 0, n, i, h1, h2 => by simp only [cmn] at h2; omega
  | f + 1, n, i, h1, h2 => by
    simp only [cmn] at h2
    split at h2
    · rename_i he
      by_cases hi : n = i
      · subst hi; exact he
      · exact cmn_same l p q f (n + 1) i (by omega) h2
    · omega
theorem findL_good (l Pv : List Int) (a : Nat) (hP : ∀ j, j < Pv.length → 0 ≤ Pv.getD j 0 ∧ Pv.getD j 0 ≤ j) (hPl : a ≤ Pv.length) : ∀ (k p o n : Nat), p ≤ a → (n = 0 ∨ (1 ≤ o ∧ o ≤ 65535 ∧ o ≤ a ∧ ∀ i, i < n → rd l ((a - o + i : Nat) : Int) = rd l ((a + i : Nat) : Int))) →
    (findL l Pv a k p o n).2 = 0 ∨ (1 ≤ (findL l Pv a k p o n).1 ∧ (findL l Pv a k p o n).1 ≤ 65535 ∧ (findL l Pv a k p o n).1 ≤ a ∧ ∀ i, i < (findL l Pv a k p o n).2 → rd l ((a - (findL l Pv a k p o n).1 + i : Nat) : Int) = rd l ((a + i : Nat) : Int))
  | 0, p, o, n, hp, h => h
  | k + 1, p, o, n, hp, h => by
    simp only [findL]
    by_cases c : p = 0 ∨ 65535 < a - (p - 1)
    · rw [if_pos c]; exact h
    · rw [if_neg c]
      have hb := hP (p - 1) (by omega)
      by_cases c2 : n < cmn l (p - 1) a (l.length - 5 - a) 0
      · rw [if_pos c2]
        refine findL_good l Pv a hP hPl k _ _ _ (by omega) (.inr ⟨by omega, by omega, by omega, fun i hi => ?_⟩)
        have := cmn_same l (p - 1) a _ 0 i (by omega) hi
        rw [show a - (a - (p - 1)) + i = p - 1 + i by omega]; exact this
      · rw [if_neg c2]
        exact findL_good l Pv a hP hPl k _ o n (by omega) h
theorem findF_good (l : List Int) (H : Nat → Int) (Pv : List Int) (a : Nat) (hI : ChInv a H Pv) (hPl : a ≤ Pv.length) (hn : (findF l H Pv a).2 ≠ 0) : 4 ≤ (findF l H Pv a).2 ∧ 1 ≤ (findF l H Pv a).1 ∧ (findF l H Pv a).1 ≤ 65535 ∧ (findF l H Pv a).1 ≤ a ∧ ∀ i, i < (findF l H Pv a).2 → rd l ((a - (findF l H Pv a).1 + i : Nat) : Int) = rd l ((a + i : Nat) : Int) := by
  have hh := hashAt_lt l a
  have hb := hI.heads (hashAt l a).toNat (by omega)
  have := findL_good l Pv a hI.prevs hPl 96 (H (hashAt l a).toNat).toNat 0 0 (by omega) (.inl rfl)
  unfold findF at hn ⊢
  by_cases c : (findL l Pv a 96 (H (hashAt l a).toNat).toNat 0 0).2 < 4
  · rw [if_pos c] at hn; exact absurd rfl hn
  · rw [if_neg c] at hn ⊢
    rcases this with h | ⟨h1, h2, h3, h4⟩
    · omega
    · exact ⟨by omega, h1, h2, h3, h4⟩
theorem take_snoc_rd (l : List Int) (n : Nat) (h : n < l.length) : l.take (n + 1) = l.take n ++ [rd l (n : Int)] := by
  rw [List.take_succ_eq_append_getElem h]
  simp [rd, List.getD, h]
theorem copyN_text (l : List Int) (a o : Nat) (h1 : 1 ≤ o) (h2 : o ≤ a) : ∀ (n : Nat), a + n ≤ l.length → (∀ i, i < n → rd l ((a - o + i : Nat) : Int) = rd l ((a + i : Nat) : Int)) → copyN n o (l.take a) = l.take (a + n)
  | 0, _, _ => rfl
  | n + 1, h3, h4 => by
    have ih := copyN_text l a o h1 h2 n (by omega) (fun i hi => h4 i (by omega))
    simp only [copyN, ih]
    rw [show a + (n + 1) = (a + n) + 1 by omega, take_snoc_rd l (a + n) (by omega)]
    congr 2
    have hlen : (l.take (a + n)).length = a + n := by rw [List.length_take]; omega
    rw [hlen, show a + n - o = a - o + n by omega, ← h4 n (by omega)]
    simp only [rd, List.getD, Int.toNat_natCast]
    rw [List.getElem?_take, if_pos (by omega)]
theorem seqGo_tells (l : List Int) (hmax : l.length ≤ 1048576) : ∀ (k : Nat) (H : Nat → Int) (Pv : List Int) (f a : Nat) (acc : List S113), ChInv a H Pv → Pv.length = l.length → f ≤ a → a ≤ l.length → Plays [] acc (l.take f) → Tells [] (seqGo l k H Pv f a acc) l
  | 0, H, Pv, f, a, acc, hI, hP, hf, ha, hp => by
    simp only [seqGo]
    have := Plays.tells (lit := l.drop f) hp
    rwa [List.take_append_drop] at this
  | k + 1, H, Pv, f, a, acc, hI, hP, hf, ha, hp => by
    simp only [seqGo]
    by_cases c : a + 12 ≤ l.length
    · rw [if_pos c]
      by_cases c2 : (findF l H Pv a).2 = 0
      · rw [if_pos c2]
        exact seqGo_tells l hmax k _ _ f (a + 1) acc (hI.put l hP) (by rw [putP_length]; exact hP) (by omega) (by omega) hp
      · rw [if_neg c2]
        obtain ⟨g1, g2, g3, g4, g5⟩ := findF_good l H Pv a hI (by omega) c2
        have hle := findF_le l H Pv a
        have hpi := puts_inv l (findF l H Pv a).2 a H Pv hI hP
        refine seqGo_tells l hmax k _ _ _ _ _ hpi.1 hpi.2 (Nat.le_refl _) (by omega) ?_
        have hlit : l.take f ++ (l.take a).drop f = l.take a := by
          have h1 : l.take f = (l.take a).take f := by rw [List.take_take]; congr 1; omega
          rw [h1, List.take_append_drop]
        have := Plays.snoc (s := ⟨(l.take a).drop f, (findF l H Pv a).1, (findF l H Pv a).2⟩) hp (by simp only []; omega) (by simp only []; omega) (by simp only []; omega) (by simp only []; rw [List.length_drop, List.length_take, List.length_take]; omega)
        simp only [Int.toNat_natCast, hlit] at this
        rw [copyN_text l a _ g2 g4 _ (by omega) g5] at this
        exact this
    · rw [if_neg c]
      have := Plays.tells (lit := l.drop f) hp
      rwa [List.take_append_drop] at this
theorem seqs_tells (l : List Int) (hmax : l.length ≤ 1048576) : Tells [] (seqs l) l :=
  seqGo_tells l hmax _ _ _ 0 0 [] ⟨fun i _ => by omega, fun j hj => by simp [List.getD, List.getElem?_replicate]; split <;> simp⟩ (by simp) (by omega) (by omega) (by simp [Plays])

/-! ### How sequences are written -/
def tellB (n : Nat) : List Int := if n < 15 then [] else List.replicate ((n - 15) / 255) (255 : Int) ++ [(((n - 15) % 255 : Nat) : Int)]
def encS (s : S113) (last : Bool) : List Int :=
  [((min s.f0.length 15 * 16 + (if last then 0 else min (s.f2.toNat - 4) 15) : Nat) : Int)] ++ tellB s.f0.length ++ s.f0 ++ (if last then [] else [s.f1 % 256, s.f1 / 256] ++ tellB (s.f2.toNat - 4))
def encA : List S113 → List Int
  | [] => []
  | s :: r => encS s r.isEmpty ++ encA r

theorem rd_app (pre : List Int) (x : Int) (post : List Int) : rd (pre ++ x :: post) (pre.length : Int) = x := by
  simp [rd, List.getD]
theorem lenGo_tell (n : Nat) : ∀ (c f : Nat) (pre post : List Int) (acc : Int) (x : Int), x < 255 → c < f → lenGo f (pre ++ (List.replicate c 255 ++ [x]) ++ post) acc pre.length = some (acc + c * 255 + x, ((pre.length + c + 1 : Nat) : Int))
  | 0, f, pre, post, acc, x, hx, hf => by
    obtain ⟨f, rfl⟩ : ∃ k', f = k' + 1 := ⟨f - 1, by omega⟩
    have hr : rd (pre ++ (List.replicate 0 255 ++ [x]) ++ post) (pre.length : Int) = x := by
      simp only [List.replicate_zero, List.nil_append, List.append_assoc, List.singleton_append]; exact rd_app pre x post
    simp only [lenGo, hr]
    rw [if_neg (by simp; omega), if_pos hx]
    simp
  | c + 1, f, pre, post, acc, x, hx, hf => by
    obtain ⟨f, rfl⟩ : ∃ k', f = k' + 1 := ⟨f - 1, by omega⟩
    have e : pre ++ (List.replicate (c + 1) 255 ++ [x]) ++ post = (pre ++ [255]) ++ (List.replicate c 255 ++ [x]) ++ post := by
      simp [List.replicate_succ]
    have hr : rd (pre ++ (List.replicate (c + 1) 255 ++ [x]) ++ post) (pre.length : Int) = 255 := by
      rw [e]; simp only [List.append_assoc, List.singleton_append]; exact rd_app pre 255 _
    simp only [lenGo, hr]
    rw [if_neg (by simp; omega), if_neg (by omega), e]
    have := lenGo_tell n c f (pre ++ [255]) post (acc + 255) x hx (by omega)
    simp only [List.length_append, List.length_cons, List.length_nil, Int.natCast_add] at this ⊢
    simp only [Int.natCast_one, Int.natCast_zero, Int.zero_add] at this ⊢
    rw [this]
    congr 2
    · omega
    · omega
theorem lenF_tell (n : Nat) (pre post : List Int) : lenF (pre ++ tellB n ++ post) ((min n 15 : Nat) : Int) pre.length = some ((n : Int), ((pre.length + (tellB n).length : Nat) : Int)) := by
  unfold lenF tellB
  by_cases c : n < 15
  · rw [if_pos (by omega), if_pos c]; simp; omega
  · rw [if_neg (by omega), if_neg c]
    have h := lenGo_tell n ((n - 15) / 255) ((pre ++ (List.replicate ((n - 15) / 255) 255 ++ [(((n - 15) % 255 : Nat) : Int)]) ++ post).length + 1) pre post ((min n 15 : Nat) : Int) (((n - 15) % 255 : Nat) : Int) (by omega) (by simp; omega)
    rw [h]
    congr 2
    · omega
    · simp only [List.length_append, List.length_replicate, List.length_cons, List.length_nil]; omega
theorem tellB_bytes (n : Nat) : ∀ x ∈ tellB n, 0 ≤ x ∧ x ≤ 255 := by
  intro x hx
  unfold tellB at hx
  split at hx
  · simp at hx
  · simp only [List.mem_append, List.mem_replicate, List.mem_singleton] at hx
    rcases hx with ⟨_, rfl⟩ | rfl <;> omega
theorem tellB_len (n : Nat) : (tellB n).length ≤ n + 1 := by
  unfold tellB
  split
  · simp
  · simp; omega

/-! ### The program writes so -/
theorem tell_l0 : ∀ (c k : Nat) (b : List Int) (n : Int), 0 ≤ n → n / 255 = c → c < k → b.length + c < 140737488355328 → n < 1099511627776 → lz_tell.l0 k b n = some (b ++ List.replicate c 255 ++ [n % 255])
  | 0, k, b, n, h0, h1, h2, h3, h4 => by
    obtain ⟨k, rfl⟩ : ∃ k', k = k' + 1 := ⟨k - 1, by omega⟩
    simp only [lz_tell.l0]
    rw [if_neg (by omega), if_pos (by omega)]
    simp only [List.replicate_zero, List.append_nil]
    congr 3
    omega
  | c + 1, k, b, n, h0, h1, h2, h3, h4 => by
    obtain ⟨k, rfl⟩ : ∃ k', k = k' + 1 := ⟨k - 1, by omega⟩
    simp only [lz_tell.l0]
    rw [if_pos (by omega), if_pos (by omega), w64 (by omega), tell_l0 c k _ _ (by omega) (by omega) (by omega) (by rw [List.length_append]; simp; omega) (by omega)]
    congr 1
    simp only [List.replicate_succ, List.append_assoc, List.cons_append, List.nil_append]
    congr 4
    omega
theorem tell_f (k : Nat) (b : List Int) (n : Nat) (hk : n + 1 ≤ k) (hb : b.length ≤ 70368744177664) (hn : n ≤ 1099511627776) : lz_tell.f k b n = some (b ++ tellB n) := by
  unfold lz_tell.f tellB
  by_cases c : n < 15
  · rw [if_pos (by omega), if_pos c, List.append_nil]
  · rw [if_neg (by omega), if_neg c, w64 (by omega), tell_l0 ((n - 15) / 255) k b _ (by omega) (by omega) (by omega) (by omega) (by omega), List.append_assoc]
    congr 4
    omega
theorem wrong_last (k : Nat) (lit : List Int) (size : Int) (hk : 4 ≤ k) (h0 : 0 ≤ size) (h : size + lit.length ≤ 1048576) : lz_wrong.f k lit 0 0 true size = some 0 := by
  obtain ⟨k, rfl⟩ : ∃ k', k = k' + 3 := ⟨k - 3, by omega⟩
  unfold lz_wrong.f
  simp only [if_true]
  rw [show ((0 : Int) != 0) = false from rfl]
  simp only [lz_wrong.j0, lz_wrong.j1, lz_wrong.j2, Bool.false_eq_true, if_false, if_true]
  rw [w64 (by omega), if_neg (by omega), w64 (by omega), if_neg (by omega)]
theorem wrong_mid (k : Nat) (lit : List Int) (off len size : Int) (hk : 4 ≤ k) (h0 : 0 ≤ size) (h1 : 1 ≤ off) (h2 : off ≤ 65535) (h3 : 4 ≤ len) (h4 : off ≤ size + lit.length) (h : size + lit.length + len ≤ 1048576) : lz_wrong.f k lit off len false size = some 0 := by
  obtain ⟨k, rfl⟩ : ∃ k', k = k' + 3 := ⟨k - 3, by omega⟩
  unfold lz_wrong.f
  simp only [Bool.false_eq_true, if_false]
  simp only [lz_wrong.j0, Bool.false_eq_true, if_false]
  rw [if_neg (by omega), if_neg (by omega), decide_eq_false (by omega)]
  simp only [lz_wrong.j1, Bool.false_eq_true, if_false]
  by_cases c : off > (lit.length : Int)
  · rw [if_pos c, w64 (by omega), decide_eq_false (by omega)]
    simp only [lz_wrong.j2, Bool.false_eq_true, if_false]
    rw [w64 (by omega), if_neg (by omega), w64 (by omega), if_neg (by omega)]
  · rw [if_neg c]
    simp only [lz_wrong.j2, Bool.false_eq_true, if_false]
    rw [w64 (by omega), if_neg (by omega), w64 (by omega), if_neg (by omega)]
theorem mn_min (a b : Nat) : mn (a : Int) (b : Int) = ((min a b : Nat) : Int) := by unfold mn; omega
theorem or_16 (x y : Nat) (hx : x ≤ 15) (hy : y ≤ 15) : Go.bits .or .i64 ((x : Int) * 16) (y : Int) = ((x * 16 + y : Nat) : Int) := by
  unfold bits
  have h1 := ofInt_toNatN ((x : Int) * 16) (by omega) (by omega)
  have h2 := ofInt_toNatN (y : Int) (by omega) (by omega)
  have e : (BitVec.ofInt 64 ((x : Int) * 16) ||| BitVec.ofInt 64 (y : Int)).toNat = x * 16 + y := by
    rw [BitVec.toNat_or, h1, h2]
    have := Nat.two_pow_add_eq_or_of_lt (i := 4) (b := y) (by omega) x
    rw [show ((x : Int) * 16).toNat = 2 ^ 4 * x by omega, show (y : Int).toNat = y by omega, ← this]
    omega
  show IntKind.i64.wrap ((BitVec.ofInt 64 ((x : Int) * 16) ||| BitVec.ofInt 64 (y : Int)).toNat : Int) = _
  rw [e, wrap_smallN _ (by omega)]

theorem Tells.len : ∀ {ys : List Int} {ss : List S113} {zs : List Int}, Tells ys ss zs → ys.length ≤ zs.length
  | ys, [], zs, h => by cases h
  | ys, [s], zs, h => by obtain ⟨_, _, rfl⟩ := h; simp
  | ys, s :: s' :: r, zs, h => by
    obtain ⟨_, _, _, _, h⟩ := h
    have := Tells.len h
    rw [copyN_len, List.length_append] at this
    omega
theorem rdT (pre : List S113) (s : S113) (r : List S113) : rd_T113 (pre ++ s :: r) (pre.length : Int) = s := by
  simp [rd_T113, List.getD]
theorem encS_len (s : S113) (last : Bool) : (encS s last).length ≤ 5 + 2 * s.f0.length + s.f2.toNat := by
  have h1 := tellB_len s.f0.length
  have h2 := tellB_len (s.f2.toNat - 4)
  unfold encS
  cases last <;> simp <;> omega
theorem join_last (all : List S113) (i : Nat) (s : S113) (size : Nat) (b : List Int) (k : Nat) (hi : all.length = i + 1) (hal : all.length ≤ 1000000000) (hrd : rd_T113 all (i : Int) = s) (h1 : s.f1 = 0) (h2 : s.f2 = 0) (hz : size + s.f0.length ≤ 1048576) (hb : b.length ≤ 35184372088832) (hk : s.f0.length + 20 ≤ k) :
    lz_Join.l0 k all b size all all.length i = some (b ++ encS s true, 0) := by
  obtain ⟨k, rfl⟩ : ∃ k', k = k' + 3 := ⟨k - 3, by omega⟩
  have hw1 := Aside0.mk (show wrap64 ((all.length : Int) - 1) = (i : Int) from by rw [w64 (by omega)]; omega)
  have hw2 := Aside0.mk (show wrap64 ((i : Int) + 1) = (all.length : Int) from by rw [w64 (by omega)]; omega)
  have ht := tellB_len s.f0.length
  simp only [lz_Join.l0, hrd, hw1.out, h1, h2]
  rw [if_pos (by omega), if_pos (by omega), if_pos (by omega), show ((i : Int) == (i : Int)) = true by simp, wrong_last _ _ _ (by omega) (by omega) (by omega)]
  rw [Option.bind_some, if_pos rfl, if_pos trivial, lz_Join.j1]
  rw [if_pos (by omega), tell_f _ _ _ (by omega) (by simp only [List.length_append, List.length_cons, List.length_nil]; omega) (by omega)]
  rw [Option.bind_some]
  rw [if_pos (by simp only [List.length_append, List.length_cons, List.length_nil]; omega)]
  rw [Option.bind_some, if_pos rfl, hw2.out, lz_Join.l0]
  rw [if_neg (by omega)]
  have hm := mn_min s.f0.length 15
  rw [show ((15 : Nat) : Int) = 15 from rfl] at hm
  have hx : ((min s.f0.length 15 : Nat) : Int) * 16 % 256 = ((min s.f0.length 15 * 16 + 0 : Nat) : Int) := by omega
  rw [hm, hx]
  simp only [encS, if_true, List.append_nil, List.append_assoc]
theorem join_mid (all : List S113) (i : Nat) (s : S113) (size : Nat) (b : List Int) (k : Nat) (hi : i + 2 ≤ all.length) (hal : all.length ≤ 1000000000) (hrd : rd_T113 all (i : Int) = s) (h1 : 1 ≤ s.f1) (h2 : s.f1 ≤ 65535) (h3 : 4 ≤ s.f2) (h4 : s.f1 ≤ size + s.f0.length) (hz : (size : Int) + s.f0.length + s.f2 ≤ 1048576) (hb : b.length ≤ 35184372088832) (hk : s.f0.length + s.f2.toNat + 20 ≤ k) :
    lz_Join.l0 (k + 2) all b size all all.length i = lz_Join.l0 k all (b ++ encS s false) ((size + s.f0.length + s.f2.toNat : Nat) : Int) all all.length ((i + 1 : Nat) : Int) := by
  have hw1 := Aside0.mk (show wrap64 ((all.length : Int) - 1) = (all.length : Int) - 1 from w64 (by omega))
  have hne : ((i : Int) == (all.length : Int) - 1) = false := by simp; omega
  have e1 := Aside0.mk (show wrap64 ((s.f0.length : Int) + s.f2) = (s.f0.length : Int) + s.f2 from w64 (by omega))
  have e2 := Aside0.mk (show wrap64 ((size : Int) + ((s.f0.length : Int) + s.f2)) = ((size + s.f0.length + s.f2.toNat : Nat) : Int) from by rw [w64 (by omega)]; omega)
  have e3 := Aside0.mk (show wrap64 (s.f2 - 4) = ((s.f2.toNat - 4 : Nat) : Int) from by rw [w64 (by omega)]; omega)
  have hw2 := Aside0.mk (show wrap64 ((i : Int) + 1) = ((i + 1 : Nat) : Int) from by rw [w64 (by omega)]; omega)
  have ht1 := tellB_len s.f0.length
  have ht2 := tellB_len (s.f2.toNat - 4)
  have hm := mn_min s.f0.length 15
  have hm2 := mn_min (s.f2.toNat - 4) 15
  rw [show ((15 : Nat) : Int) = 15 from rfl] at hm hm2
  rw [lz_Join.l0, hrd, hw1.out, hne, if_pos (by omega), if_pos (by omega), if_pos (by omega), wrong_mid _ _ _ _ _ (by omega) (by omega) h1 h2 h3 (by omega) (by omega)]
  rw [Option.bind_some, if_pos rfl, if_neg (by omega), e1.out, e2.out, e3.out, hm, hm2, or_16 _ _ (by omega) (by omega), lz_Join.j1]
  rw [if_pos (by omega), tell_f _ _ _ (by omega) (by simp only [List.length_append, List.length_cons, List.length_nil]; omega) (by omega), Option.bind_some]
  rw [if_pos (by simp only [List.length_append, List.length_cons, List.length_nil]; omega), Option.bind_some, if_neg Bool.false_ne_true, Option.bind_some]
  rw [if_pos (by simp only [List.length_append, List.length_cons, List.length_nil]; omega), e3.out, tell_f _ _ _ (by omega) (by simp only [List.length_append, List.length_cons, List.length_nil]; omega) (by omega), Option.bind_some, hw2.out]
  have hx : ((min s.f0.length 15 * 16 + min (s.f2.toNat - 4) 15 : Nat) : Int) % 256 = ((min s.f0.length 15 * 16 + min (s.f2.toNat - 4) 15 : Nat) : Int) := by omega
  have hy : s.f1 / 256 % 256 = s.f1 / 256 := by omega
  rw [hx, hy]
  simp only [encS, Bool.false_eq_true, if_false, List.append_assoc]
theorem join_l0 (all : List S113) (hal : all.length ≤ 1000000) : ∀ (ss pre : List S113) (ys zs b : List Int), Tells ys ss zs → all = pre ++ ss → zs.length ≤ 1048576 → b.length ≤ pre.length * 5000000 →
    ∃ K, ∀ k, K ≤ k → lz_Join.l0 k all b ys.length all all.length pre.length = some (b ++ encA ss, 0)
  | [], pre, ys, zs, b, h, ha, hz, hb => by cases h
  | [s], pre, ys, zs, b, h, ha, hz, hb => by
    have hall : all.length = pre.length + 1 := by rw [ha, List.length_append]; rfl
    obtain ⟨h1, h2, h3⟩ := h
    have hzl : zs.length = ys.length + s.f0.length := by rw [h3, List.length_append]
    refine ⟨s.f0.length + 20, fun k hk => ?_⟩
    rw [join_last all pre.length s ys.length b k hall (by omega) (by rw [ha]; exact rdT pre s []) h1 h2 (by omega) (by omega) hk]
    simp [encA]
  | s :: s' :: r', pre, ys, zs, b, h, ha, hz, hb => by
    have hall : all.length = pre.length + (r'.length + 2) := by rw [ha, List.length_append]; rfl
    obtain ⟨h1, h2, h3, h4, h5⟩ := h
    have hzl := h5.len
    rw [copyN_len, List.length_append] at hzl
    have hel : (encS s false).length ≤ 5 + 2 * s.f0.length + s.f2.toNat := encS_len s false
    obtain ⟨K, ih⟩ := join_l0 all hal (s' :: r') (pre ++ [s]) _ zs (b ++ encS s false) h5 (by rw [ha]; simp) hz (by simp only [List.length_append, List.length_cons, List.length_nil]; omega)
    refine ⟨K + s.f0.length + s.f2.toNat + 22, fun k hk => ?_⟩
    obtain ⟨k, rfl⟩ : ∃ k', k = k' + 2 := ⟨k - 2, by omega⟩
    rw [join_mid all pre.length s ys.length b k (by omega) (by omega) (by rw [ha]; exact rdT pre s _) h1 h2 h3 (by omega) (by omega) (by omega) (by omega)]
    have := ih k (by omega)
    rw [copyN_len, List.length_append, List.length_append, List.length_cons, List.length_nil] at this
    rw [this]
    simp [encA]
theorem join_f (ss : List S113) (zs : List Int) (h : Tells [] ss zs) (hz : zs.length ≤ 1048576) (hs : ss.length ≤ 1000000) : ∃ K, ∀ k, K ≤ k → lz_Join.f k ss = some (encA ss, 0) := by
  obtain ⟨K, hK⟩ := join_l0 ss hs ss [] [] zs [] h rfl hz (by simp)
  refine ⟨K, fun k hk => ?_⟩
  unfold lz_Join.f
  have hne : ss ≠ [] := by intro h0; subst h0; cases h
  rw [if_neg (by have := List.length_pos_iff.mpr hne; omega)]
  have := hK k hk
  simpa using this

/-! ### .. and it is read so -/
theorem take_drop_mid (a x c : List Int) : ((a ++ x ++ c).take (a.length + x.length)).drop a.length = x := by
  rw [List.take_append_of_le_length (by rw [List.length_append]; omega), List.take_of_length_le (by rw [List.length_append]; omega), List.drop_left]
theorem next_last (s : S113) (pre : List Int) (m size : Int) (h1 : size + s.f0.length ≤ m) : lzNext (pre ++ encS s true) m pre.length size = .last s.f0 := by
  have e : pre ++ encS s true = pre ++ ((((min s.f0.length 15 * 16 : Nat) : Int)) :: (tellB s.f0.length ++ s.f0)) := by simp [encS]
  have hr : rd (pre ++ encS s true) (pre.length : Int) = ((min s.f0.length 15 * 16 : Nat) : Int) := by rw [e]; exact rd_app _ _ _
  have hlen : (pre ++ encS s true).length = pre.length + 1 + (tellB s.f0.length).length + s.f0.length := by rw [e]; simp; omega
  have e2 : pre ++ encS s true = (pre ++ [((min s.f0.length 15 * 16 : Nat) : Int)]) ++ tellB s.f0.length ++ s.f0 := by rw [e]; simp
  have hL : lenF (pre ++ encS s true) (rd (pre ++ encS s true) (pre.length : Int) / 16) ((pre.length : Int) + 1) = some ((s.f0.length : Int), ((pre.length + 1 + (tellB s.f0.length).length : Nat) : Int)) := by
    have := lenF_tell s.f0.length (pre ++ [((min s.f0.length 15 * 16 : Nat) : Int)]) s.f0
    rw [← e2] at this
    rw [hr]
    rw [show ((min s.f0.length 15 * 16 : Nat) : Int) / 16 = ((min s.f0.length 15 : Nat) : Int) by omega]
    simpa using this
  unfold lzNext
  rw [if_neg (by omega), hL]
  simp only []
  rw [if_neg (by omega), if_neg (by omega), if_pos (by omega)]
  congr 1
  have := take_drop_mid (pre ++ [((min s.f0.length 15 * 16 : Nat) : Int)] ++ tellB s.f0.length) s.f0 []
  rw [List.append_nil, ← e2] at this
  rw [show (((pre.length + 1 + (tellB s.f0.length).length : Nat) : Int) + (s.f0.length : Int)).toNat = (pre ++ [((min s.f0.length 15 * 16 : Nat) : Int)] ++ tellB s.f0.length).length + s.f0.length by simp; omega,
    show (((pre.length + 1 + (tellB s.f0.length).length : Nat) : Int)).toNat = (pre ++ [((min s.f0.length 15 * 16 : Nat) : Int)] ++ tellB s.f0.length).length by simp; omega]
  exact this
theorem next_mid (s : S113) (pre post : List Int) (m size : Int) (g1 : 1 ≤ s.f1) (g2 : s.f1 ≤ 65535) (g3 : 4 ≤ s.f2) (g4 : s.f1 ≤ size + s.f0.length) (h1 : size + s.f0.length + s.f2 ≤ m) : lzNext (pre ++ encS s false ++ post) m pre.length size = .more s.f0 s.f1 s.f2 (((pre ++ encS s false).length : Nat) : Int) := by
  obtain ⟨t, ht⟩ : ∃ t, t = min s.f0.length 15 * 16 + min (s.f2.toNat - 4) 15 := ⟨_, rfl⟩
  have e : pre ++ encS s false ++ post = pre ++ ((t : Int) :: (tellB s.f0.length ++ s.f0 ++ [s.f1 % 256, s.f1 / 256] ++ tellB (s.f2.toNat - 4) ++ post)) := by simp [encS, ht]
  have hel : (encS s false).length = 1 + (tellB s.f0.length).length + s.f0.length + 2 + (tellB (s.f2.toNat - 4)).length := by simp [encS]; omega
  have hr : rd (pre ++ encS s false ++ post) (pre.length : Int) = (t : Int) := by rw [e]; exact rd_app _ _ _
  have hlen : (pre ++ encS s false ++ post).length = pre.length + 1 + (tellB s.f0.length).length + s.f0.length + 2 + (tellB (s.f2.toNat - 4)).length + post.length := by rw [List.length_append, List.length_append, hel]; omega
  have e2 : pre ++ encS s false ++ post = (pre ++ [(t : Int)]) ++ tellB s.f0.length ++ (s.f0 ++ [s.f1 % 256, s.f1 / 256] ++ tellB (s.f2.toNat - 4) ++ post) := by rw [e]; simp
  have hL : lenF (pre ++ encS s false ++ post) (rd (pre ++ encS s false ++ post) (pre.length : Int) / 16) ((pre.length : Int) + 1) = some ((s.f0.length : Int), ((pre.length + 1 + (tellB s.f0.length).length : Nat) : Int)) := by
    have := lenF_tell s.f0.length (pre ++ [(t : Int)]) (s.f0 ++ [s.f1 % 256, s.f1 / 256] ++ tellB (s.f2.toNat - 4) ++ post)
    rw [← e2] at this
    rw [hr, show (t : Int) / 16 = ((min s.f0.length 15 : Nat) : Int) by omega]
    simpa using this
  obtain ⟨kk, hkk⟩ : ∃ kk, kk = pre.length + 1 + (tellB s.f0.length).length := ⟨_, rfl⟩
  have e3 : pre ++ encS s false ++ post = (pre ++ [(t : Int)] ++ tellB s.f0.length ++ s.f0) ++ (s.f1 % 256) :: ((s.f1 / 256) :: (tellB (s.f2.toNat - 4) ++ post)) := by rw [e]; simp
  have hr1 : rd (pre ++ encS s false ++ post) ((kk : Int) + (s.f0.length : Int)) = s.f1 % 256 := by
    rw [e3]
    have := rd_app (pre ++ [(t : Int)] ++ tellB s.f0.length ++ s.f0) (s.f1 % 256) ((s.f1 / 256) :: (tellB (s.f2.toNat - 4) ++ post))
    rwa [show (((pre ++ [(t : Int)] ++ tellB s.f0.length ++ s.f0).length : Nat) : Int) = (kk : Int) + (s.f0.length : Int) by simp; omega] at this
  have hr2 : rd (pre ++ encS s false ++ post) ((kk : Int) + (s.f0.length : Int) + 1) = s.f1 / 256 := by
    have e4 : pre ++ encS s false ++ post = (pre ++ [(t : Int)] ++ tellB s.f0.length ++ s.f0 ++ [s.f1 % 256]) ++ (s.f1 / 256) :: (tellB (s.f2.toNat - 4) ++ post) := by rw [e3]; simp
    rw [e4]
    have := rd_app (pre ++ [(t : Int)] ++ tellB s.f0.length ++ s.f0 ++ [s.f1 % 256]) (s.f1 / 256) (tellB (s.f2.toNat - 4) ++ post)
    rwa [show (((pre ++ [(t : Int)] ++ tellB s.f0.length ++ s.f0 ++ [s.f1 % 256]).length : Nat) : Int) = (kk : Int) + (s.f0.length : Int) + 1 by simp; omega] at this
  have hL2 : lenF (pre ++ encS s false ++ post) (rd (pre ++ encS s false ++ post) (pre.length : Int) % 16) ((kk : Int) + (s.f0.length : Int) + 2) = some (((s.f2.toNat - 4 : Nat) : Int), ((kk + s.f0.length + 2 + (tellB (s.f2.toNat - 4)).length : Nat) : Int)) := by
    have := lenF_tell (s.f2.toNat - 4) (pre ++ [(t : Int)] ++ tellB s.f0.length ++ s.f0 ++ [s.f1 % 256, s.f1 / 256]) post
    have e5 : pre ++ [(t : Int)] ++ tellB s.f0.length ++ s.f0 ++ [s.f1 % 256, s.f1 / 256] ++ tellB (s.f2.toNat - 4) ++ post = pre ++ encS s false ++ post := by rw [e3]; simp
    rw [e5] at this
    rw [hr, show (t : Int) % 16 = ((min (s.f2.toNat - 4) 15 : Nat) : Int) by omega]
    have hl2 : (pre ++ [(t : Int)] ++ tellB s.f0.length ++ s.f0 ++ [s.f1 % 256, s.f1 / 256]).length = kk + s.f0.length + 2 := by simp; omega
    rw [hl2] at this
    rw [← this]
    congr 1
  unfold lzNext
  rw [if_neg (by omega), hL, ← hkk]
  simp only [hr1, hr2]
  rw [if_neg (by omega), if_neg (by omega), if_neg (by omega), if_neg (by omega), if_neg (by omega), hL2]
  simp only []
  rw [if_neg (by omega)]
  have hlit := take_drop_mid (pre ++ [(t : Int)] ++ tellB s.f0.length) s.f0 ([s.f1 % 256, s.f1 / 256] ++ tellB (s.f2.toNat - 4) ++ post)
  have e6 : pre ++ [(t : Int)] ++ tellB s.f0.length ++ s.f0 ++ ([s.f1 % 256, s.f1 / 256] ++ tellB (s.f2.toNat - 4) ++ post) = pre ++ encS s false ++ post := by rw [e3]; simp
  rw [e6] at hlit
  rw [show ((kk : Int) + (s.f0.length : Int)).toNat = (pre ++ [(t : Int)] ++ tellB s.f0.length).length + s.f0.length by simp; omega,
    show ((kk : Int)).toNat = (pre ++ [(t : Int)] ++ tellB s.f0.length).length by simp; omega, hlit]
  congr 1
  · omega
  · omega
  · rw [List.length_append, hel]; omega
theorem dec_enc (m : Int) (hm : m ≤ 1048576) : ∀ (ss : List S113) (pre ys zs : List Int) (f : Nat), Tells ys ss zs → (zs.length : Int) ≤ m → ss.length ≤ f → lzAll (pre ++ encA ss) m f pre.length ys = .ok zs
  | [], pre, ys, zs, f, h, hz, hf => by cases h
  | [s], pre, ys, zs, f, h, hz, hf => by
    obtain ⟨f, rfl⟩ : ∃ k', f = k' + 1 := ⟨f - 1, by simp at hf; omega⟩
    obtain ⟨h1, h2, h3⟩ := h
    have hzl : zs.length = ys.length + s.f0.length := by rw [h3, List.length_append]
    simp only [encA, List.isEmpty_nil, List.append_nil, lzAll]
    rw [next_last s pre m _ (by omega), h3]
  | s :: s' :: r, pre, ys, zs, f, h, hz, hf => by
    obtain ⟨f, rfl⟩ : ∃ k', f = k' + 1 := ⟨f - 1, by simp at hf; omega⟩
    obtain ⟨h1, h2, h3, h4, h5⟩ := h
    have hzl := h5.len
    rw [copyN_len, List.length_append] at hzl
    have := dec_enc m hm (s' :: r) (pre ++ encS s false) _ zs f h5 hz (by simp at hf ⊢; omega)
    simp only [lzAll]
    rw [show encA (s :: s' :: r) = encS s false ++ encA (s' :: r) by simp [encA], ← List.append_assoc, next_mid s pre (encA (s' :: r)) m _ h1 h2 h3 h4 (by omega)]
    exact this

/-! ### A text's block -/
theorem Tells.count : ∀ {ys : List Int} {ss : List S113} {zs : List Int}, Tells ys ss zs → ss.length + ys.length ≤ zs.length + 1
  | ys, [], zs, h => by cases h
  | ys, [s], zs, h => by obtain ⟨_, _, rfl⟩ := h; simp; omega
  | ys, s :: s' :: r, zs, h => by
    obtain ⟨_, _, h3, _, h⟩ := h
    have := Tells.count h
    rw [copyN_len, List.length_append] at this
    simp only [List.length_cons] at this ⊢
    omega
theorem copyN_pre : ∀ (k off : Nat) (ys : List Int), ∃ t, copyN k off ys = ys ++ t
  | 0, _, ys => ⟨[], by simp [copyN]⟩
  | k + 1, off, ys => by
    obtain ⟨t, ht⟩ := copyN_pre k off ys
    refine ⟨t ++ [rd (copyN k off ys) ((copyN k off ys).length - off : Nat)], ?_⟩
    rw [← List.append_assoc, ← ht]
    rfl
theorem Tells.pre : ∀ {ys : List Int} {ss : List S113} {zs : List Int}, Tells ys ss zs → ∃ t, zs = ys ++ t
  | ys, [], zs, h => by cases h
  | ys, [s], zs, h => by obtain ⟨_, _, rfl⟩ := h; exact ⟨_, rfl⟩
  | ys, s :: s' :: r, zs, h => by
    obtain ⟨_, _, _, _, h⟩ := h
    obtain ⟨t, ht⟩ := Tells.pre h
    obtain ⟨u, hu⟩ := copyN_pre s.f2.toNat s.f1.toNat (ys ++ s.f0)
    exact ⟨s.f0 ++ u ++ t, by rw [ht, hu]; simp⟩
theorem encS_bytes (s : S113) (last : Bool) (h : ∀ x ∈ s.f0, 0 ≤ x ∧ x ≤ 255) (h1 : last = false → 1 ≤ s.f1 ∧ s.f1 ≤ 65535) : ∀ x ∈ encS s last, 0 ≤ x ∧ x ≤ 255 := by
  intro x hx
  have t1 := tellB_bytes s.f0.length
  have t2 := tellB_bytes (s.f2.toNat - 4)
  cases last with
  | true =>
    simp only [encS, if_true, List.append_nil, List.mem_append, List.mem_singleton] at hx
    rcases hx with (rfl | hx) | hx
    · omega
    · exact t1 x hx
    · exact h x hx
  | false =>
    have := h1 rfl
    simp only [encS, Bool.false_eq_true, if_false, List.mem_append, List.mem_cons, List.not_mem_nil, or_false] at hx
    rcases hx with ((rfl | hx) | hx) | ((rfl | rfl) | hx)
    · omega
    · exact t1 x hx
    · exact h x hx
    · omega
    · omega
    · exact t2 x hx
theorem encA_bytes : ∀ {ys : List Int} {ss : List S113} {zs : List Int}, Tells ys ss zs → (∀ x ∈ zs, 0 ≤ x ∧ x ≤ 255) → ∀ x ∈ encA ss, 0 ≤ x ∧ x ≤ 255
  | ys, [], zs, h, hb => by cases h
  | ys, [s], zs, h, hb => by
    obtain ⟨_, _, rfl⟩ := h
    simp only [encA, List.isEmpty_nil, List.append_nil]
    exact encS_bytes s true (fun x hx => hb x (by simp [hx])) (fun h => by cases h)
  | ys, s :: s' :: r, zs, h, hb => by
    have hp := h
    obtain ⟨g1, g2, _, _, h⟩ := h
    have ih := encA_bytes h hb
    obtain ⟨t, ht⟩ := Tells.pre h
    obtain ⟨u, hu⟩ := copyN_pre s.f2.toNat s.f1.toNat (ys ++ s.f0)
    intro x hx
    rw [show encA (s :: s' :: r) = encS s false ++ encA (s' :: r) by simp [encA], List.mem_append] at hx
    rcases hx with hx | hx
    · exact encS_bytes s false (fun y hy => hb y (by rw [ht, hu]; simp [hy])) (fun _ => ⟨g1, g2⟩) x hx
    · exact ih x hx
theorem encA_len : ∀ {ys : List Int} {ss : List S113} {zs : List Int}, Tells ys ss zs → (encA ss).length + 3 * ys.length ≤ 3 * zs.length + 5 ∧ ss.length ≤ (encA ss).length
  | ys, [], zs, h => by cases h
  | ys, [s], zs, h => by
    obtain ⟨h1, h2, rfl⟩ := h
    have := encS_len s true
    simp only [encA, List.isEmpty_nil, List.append_nil, List.length_append, List.length_cons, List.length_nil]
    rw [h2] at this
    refine ⟨by simp at this; omega, ?_⟩
    simp [encS]
  | ys, s :: s' :: r, zs, h => by
    obtain ⟨g1, g2, g3, _, h⟩ := h
    obtain ⟨i1, i2⟩ := encA_len h
    have hs := encS_len s false
    have hp : 1 ≤ (encS s false).length := by simp [encS]
    rw [copyN_len, List.length_append] at i1
    rw [show encA (s :: s' :: r) = encS s false ++ encA (s' :: r) by simp [encA], List.length_append]
    simp only [List.length_cons] at i2 ⊢
    exact ⟨by omega, by omega⟩
theorem bound_f (k : Nat) (n : Int) (hk : 2 ≤ k) : ∃ t, match_Bound.f k n = some t := by
  obtain ⟨k, rfl⟩ : ∃ k', k = k' + 1 := ⟨k - 1, by omega⟩
  unfold match_Bound.f
  simp only [match_Bound.j0]
  split <;> split <;> (try split) <;> exact ⟨_, rfl⟩
theorem bound_same (k k' : Nat) (n : Int) (hk : 2 ≤ k) (hk' : 2 ≤ k') : match_Bound.f k n = match_Bound.f k' n := by
  obtain ⟨k, rfl⟩ : ∃ j, k = j + 1 := ⟨k - 1, by omega⟩
  obtain ⟨k', rfl⟩ : ∃ j, k' = j + 1 := ⟨k' - 1, by omega⟩
  unfold match_Bound.f
  simp only [match_Bound.j0]
/-- A text's block: sequences that tell it. -/
theorem encode_f (l : List Int) (hl : l.length ≤ 900000) : ∃ ss K, Tells [] ss l ∧ ∀ k, K ≤ k → match_Encode.f k l = some (encA ss, 0) := by
  have h1 := seqs_tells l (by omega)
  have h2 : Tells [] [⟨l, 0, 0⟩] l := ⟨rfl, rfl, rfl⟩
  have hc := h1.count
  simp only [List.length_nil] at hc
  obtain ⟨K1, hK1⟩ := join_f (seqs l) l h1 (by omega) (by omega)
  obtain ⟨K2, hK2⟩ := join_f [⟨l, 0, 0⟩] l h2 (by omega) (by simp)
  obtain ⟨t, ht⟩ := bound_f 2 (l.length : Int) (by omega)
  by_cases c : ((encA (seqs l)).length : Int) > t
  · refine ⟨_, K1 + K2 + 2, h2, fun k hk => ?_⟩
    unfold match_Encode.f
    rw [if_neg (by omega), match_sequences.f, if_pos (by omega), Option.bind_some, hK1 k (by omega), Option.bind_some, bound_same k 2 _ (by omega) (by omega), ht, Option.bind_some, if_pos c, hK2 k (by omega), Option.bind_some]
  · refine ⟨_, K1 + K2 + 2, h1, fun k hk => ?_⟩
    unfold match_Encode.f
    rw [if_neg (by omega), match_sequences.f, if_pos (by omega), Option.bind_some, hK1 k (by omega), Option.bind_some, bound_same k 2 _ (by omega) (by omega), ht, Option.bind_some, if_neg c]
theorem decode_f (l : List Int) (ss : List S113) (h : Tells [] ss l) (hl : l.length ≤ 900000) (hb : ∀ x ∈ l, 0 ≤ x ∧ x ≤ 255) : Bytes (encA ss) ∧ (encA ss).length ≤ 3000000 ∧ lzAll (encA ss) l.length ((encA ss).length + 1) 0 [] = .ok l := by
  obtain ⟨h1, h2⟩ := encA_len h
  simp only [List.length_nil] at h1
  refine ⟨⟨by omega, encA_bytes h hb⟩, by omega, ?_⟩
  have := dec_enc (l.length : Int) (by omega) ss [] [] l ((encA ss).length + 1) h (by omega) (by omega)
  simpa using this
end Go.Proofs.Ytdlfflgcmgkmeaa.Pure

/- Proved: what is packed is unpacked as it was. Conditions: those that the statement itself has. -/
namespace Go.Proofs.Ytdlfflgcmgkmeaa.Pure
open Go.RowKit Go.Proofs.Ytdlfflgcmgkmeaa.P Go.Proofs.YtdlfflgcmgkmeaaW.PrintWords Go.Proofs.YtdlfflgcmgkmeaaW.PrintLast
set_option linter.unusedVariables false
theorem packs_live06 : portmanteaulaw06_live.f 300 = some true := by decide +kernel
theorem packs_live06_at (k : Nat) (h : 300 ≤ k) : portmanteaulaw06_live.f k = some true := at_rounds portmanteaulaw06_live.mono h packs_live06
theorem packs_u8 {x : Int} (h : (Lit.int .u8 x).wf = true) : 0 ≤ x ∧ x ≤ 255 := by simpa [Lit.wf, IntKind.min, IntKind.max, IntKind.signed, IntKind.bits] using h
theorem unpack_packed (k : Nat) (l : List Int) (ss : List S113) (h : Tells [] ss l) (hl : l.length ≤ 900000) (hb : ∀ x ∈ l, 0 ≤ x ∧ x ≤ 255) : match_Unpack.f k (encA ss) true l.length = some (l, 0) := by
  obtain ⟨h1, h2, h3⟩ := decode_f l ss h hl hb
  unfold match_Unpack.f
  rw [if_pos rfl, lz_Decode.f, if_neg (by omega), if_pos (BytesB_of h1), h3]
  rfl
theorem unpack_plain (k : Nat) (l : List Int) (hl : l.length ≤ 900000) : match_Unpack.f (k + 1) l false l.length = some (l, 0) := by
  unfold match_Unpack.f
  rw [if_neg Bool.false_ne_true, if_neg (by omega), match_Unpack.j0, if_neg (by simp; omega), if_neg (by omega), bytes_Clone.f, if_pos (by omega), Option.bind_some]
theorem MatchPacks : portmanteaulaw06_MatchPacks.Pure := by
  intro l0 a1 h1 h2 h3 h4
  by_cases hl : (l0.length : Int) > 5000
  · refine ⟨300, ?_⟩
    rw [portmanteaulaw06_MatchPacks.f, if_pos hl, packs_live06]; rfl
  · have hb : ∀ x ∈ l0, 0 ≤ x ∧ x ≤ 255 := fun x hx => packs_u8 (h3 x hx)
    obtain ⟨ss, K, ht, hK⟩ := encode_f l0 (by omega)
    refine ⟨K + 310, ?_⟩
    have e := hK (K + 310) (by omega)
    have hlive := packs_live06_at (K + 308) (by omega)
    rw [portmanteaulaw06_MatchPacks.f, if_neg hl, e, Option.bind_some, match_Pack.f, e, Option.bind_some, if_pos rfl, gauge_Worth.f, Option.bind_some]
    have fin : ∀ (y : List Int) (p : Bool), match_Unpack.f (K + 308) y p l0.length = some (l0, 0) → portmanteaulaw06_MatchPacks.j1 (K + 309) l0 y p false = some true := by
      intro y p hu
      rw [show K + 309 = (K + 308) + 1 by omega, portmanteaulaw06_MatchPacks.j1, if_neg Bool.false_ne_true, hu, Option.bind_some, portmanteaulaw06_num.f, Option.bind_some, if_pos rfl, if_pos rfl, hlive]
      rfl
    by_cases hw : worthF l0.length (encA ss).length a1.toNat = true
    · rw [if_pos hw, Option.bind_some, portmanteaulaw06_num.f, Option.bind_some, Option.bind_some, if_pos (show wrap64 (0 + 0) = 0 from w64 (by omega)), portmanteauref06_Worth.f, portmanteauref03_Worth.f, Option.bind_some, Option.bind_some, hw]
      rw [show K + 310 = (K + 309) + 1 by omega, portmanteaulaw06_MatchPacks.j0, if_neg (show ¬ (true != true) = true from by decide), if_pos rfl, if_pos rfl]
      exact fin _ _ (unpack_packed _ l0 ss ht (by omega) hb)
    · rw [if_neg hw, bytes_Clone.f, if_pos (by omega), Option.bind_some, Option.bind_some, portmanteaulaw06_num.f, Option.bind_some, Option.bind_some, if_pos (show wrap64 (0 + 0) = 0 from w64 (by omega)), portmanteauref06_Worth.f, portmanteauref03_Worth.f, Option.bind_some, Option.bind_some, Bool.eq_false_iff.mpr hw]
      rw [show K + 310 = (K + 309) + 1 by omega, portmanteaulaw06_MatchPacks.j0, if_neg (show ¬ (false != false) = true from by decide), if_neg Bool.false_ne_true]
      rw [show ((strOfNums l0).toList != (strOfNums l0).toList) = false by simp]
      exact fin _ _ (unpack_plain (K + 307) l0 (by omega))
end Go.Proofs.Ytdlfflgcmgkmeaa.Pure

-- Written by a program of this session's own (wip/tools), over the translation. Not trusted: Lean checks it.
namespace Go.Proofs.Ytdlfflgcmgkmeaa.matchPacks
open Go.ChangeShapes Go.WideShapes Go.ChangeAt Go.RowKit
open Go.Proofs.YtdlfflgcmgkmeaaW
open Go.ChangeMaps (open_string shut_string)
set_option linter.unusedVariables false
theorem own : ownKnob Try.prog.godebug = none := by kernel_rfl
theorem laidOut : laidOutB Try.prog = true := by kernel_rfl
def IsRow (k : IntKind) (w : World) (a : Option Addr) (len cap : Nat) (zs : List Int) : Prop :=
  (a = none ∧ len = 0 ∧ cap = 0 ∧ zs = []) ∨
  ∃ x, a = some x ∧ len ≤ cap ∧ cap ≤ maxLen ∧ zs.length = cap ∧ (∀ i, i < zs.length → w.cell? (x.add i) = some (.int k (zs.getD i 0))) ∧ ∀ n ∈ zs, (Lit.int k n).wf = true
set_option maxRecDepth 100000 in
theorem lifted (os : Os) (started : os.Started) (H : Type) (enc : TypeId × Value → H) :
    ReturnsInHanded {} Try.checked os 4 .any (Rows.matchPacksSpec.pre6 enc Try.prog Try.f4 Rows.matchPacksRow.domain false) (Rows.matchPacksSpec.post enc Try.prog Try.f4 false true false false) := by
  refine returnsInHanded_of_change_sized (C := Try.checked) own started (by kernel_rfl) Try.func4
    (ChangeSpec.witness6 (enc := enc) (C := Try.checked) false ⟨#[], #[.slice none 0 0, .int .u64 0], []⟩ 8 (by kernel_rfl) (by kernel_rfl) (by kernel_rfl) (by kernel_rfl)) ?_
  intro W base args ds gs before hval0 hW hcnd hsz0 _
  have hsz : (DataW.weightsEach Try.prog (Try.f4.params.toList ++ Rows.matchPacksSpec.plain.varTypes Try.prog) (ds ++ gs)).all (· ≤ reachBytes) = true := hsz0
  have hval : ∀ (j : Nat) t v, Try.f4.params[j]? = some t → args[j]? = some v → Value.okWide Try.prog W .any base t v := hval0
  have hW' := hW
  obtain ⟨p, q, hA0, hV, rfl, hfz, hnd⟩ := hW
  have hA : DataW.TrodAll enc Try.prog W 0 (fun _ => true) true Try.f4.params.toList args.toList ds p := hA0
  rw [Try.params4] at hA hval hsz
  obtain ⟨v0, vs0, d0, ds0, p0, q0, hargs, rfl, rfl, h0, r0⟩ := trodAll_cons hA
  obtain ⟨v1, vs1, d1, ds1, p1, q1, rfl, rfl, rfl, h1, r1⟩ := trodAll_cons r0
  obtain ⟨rfl, rfl, rfl⟩ := trodAll_nil r1
  obtain rfl : args = #[v0, v1] := by cases args; simp_all
  obtain ⟨rfl, rfl⟩ := trodVars_none hV
  obtain ⟨a0, len0, cap0, rfl⟩ := okWide_slice Try.underlying22 (hval 0 22 v0 rfl rfl)
  have k0 := h0
  have lt0 : ∀ x ∈ p0, x.block < W.heap.size := by obtain ⟨m, hm⟩ := k0; exact DataW.trod_lt m _ _ _ hm
  obtain ⟨z0, w0⟩ : ∃ zs, IsRow .u8 W a0 len0 cap0 zs := by
    obtain ⟨fuel, hf⟩ := h0
    rcases open_ints Try.underlying22 Try.underlying5 (by kernel_rfl) hf with ⟨hcs, _⟩ | ⟨x, l, c, zs, hcs, _, hl, hm, hz, _, hcell, hwz⟩
    · simp [Value.cells] at hcs
      obtain ⟨rfl, rfl, rfl⟩ := hcs
      exact ⟨[], .inl ⟨rfl, rfl, rfl, rfl⟩⟩
    · simp [Value.cells] at hcs
      obtain ⟨rfl, rfl, rfl⟩ := hcs
      exact ⟨zs, .inr ⟨_, rfl, hl, hm, by simpa using hz, hcell, hwz⟩⟩
  have y0 : len0 * 1 ≤ 140737488351232 := PrintWords.sized_ints hsz (j := 0) (t := 22) rfl rfl Try.underlying22 Try.underlying5 (by kernel_rfl) (by kernel_rfl) h0
  obtain ⟨a1, rfl, rfl, rfl, w1⟩ := open_int Try.underlying31 (hval 1 31 v1 rfl rfl) h1
  clear hA0 hval0 hsz0 hsz
  refine (P.portmanteaulaw06_MatchPacks.walk Pure.MatchPacks a0 len0 cap0 z0 a1 W w0 y0 w1).mono fun e W' ⟨he, bel⟩ => ?_
  subst he
  exact ⟨_, rfl, _, _, _, [], _, [], hW', trodAll_mk1 (shut_bool Try.underlying4 _), (trodAll_cons_mk (Below.trod laidOut (by kernel_rfl) (of_decide_eq_true (by kernel_rfl)) k0 bel lt0) (trodAll_cons_mk (shut_int Try.underlying31 w1) trodAll_mk0)), rfl, bel.frame _, fun h => by cases h⟩
set_option maxRecDepth 100000 in
theorem ownFacts : joinedFacts Try.prog 4 Try.f4 Rows.matchPacksSpec Rows.matchPacksRow = true :=
  Closing.closed rfl rfl (by kernel_rfl) (by kernel_rfl) (by kernel_rfl) (by kernel_rfl) (by kernel_rfl) (by kernel_rfl) (by kernel_rfl) (by kernel_rfl) (by kernel_rfl) (by kernel_rfl) (by kernel_rfl) (by kernel_rfl) (by kernel_rfl) (by kernel_rfl) (by kernel_rfl) (by kernel_rfl) (by kernel_rfl) (by kernel_rfl) (by kernel_rfl) (by kernel_rfl) (by kernel_rfl) (by kernel_rfl) (by kernel_rfl) (by kernel_rfl)
theorem over : Rows.matchPacksRow.holds Try.pinned (OpenSpec.ofChange Rows.matchPacksSpec) :=
  OpenClaim.holds_of_wide 4 Try.f4 rfl rfl rfl rfl rfl rfl rfl ⟨rfl, rfl, rfl, rfl, rfl⟩ rfl rfl rfl rfl rfl (by kernel_rfl) Try.func4 ownFacts
    (of_decide_eq_true (by kernel_rfl)) (by unfold Func.isWrapper; first | (rw [if_pos (by decide +kernel)]; kernel_rfl) | (rw [if_neg (by decide +kernel)]; exact ⟨rfl, rfl⟩))
    (fun os started H enc _ => lifted os started H enc)
theorem proved : Rows.MatchPacksSaid := over
#print axioms proved
end Go.Proofs.Ytdlfflgcmgkmeaa.matchPacks
namespace Go.Proofs.Ytdlfflgcmgkmeaa
/-- The row, under a short name, for the claim. -/
theorem matchPacks_holds : Rows.MatchPacksSaid := matchPacks.proved
end Go.Proofs.Ytdlfflgcmgkmeaa
