/-
  Numbers of variable length read, frames written and read, on both sides. Conditions: none.
-/
import Derived.Test.YtflfohphebmemaaGreatHe
namespace Go.Proofs.YtflfohphebmemaaGreat
open Go.SX Go.Proofs
set_option linter.unusedSimpArgs false
set_option linter.unusedVariables false
set_option maxHeartbeats 4000000
attribute [local irreducible] IntKind.wrap

theorem four_size (s : Int) : (four s).size = 4 := rfl
def frameOk (t : ByteArray) : Bool := inR 1 9000 t.size
def frame (t : ByteArray) : ByteArray := varText t.size ++ four (sumOf t) ++ t
theorem frame_size (t : ByteArray) : (frame t).size ≤ 14 + t.size := by
  unfold frame
  rw [ByteArray.size_append, ByteArray.size_append, four_size]
  have := varText_size t.size
  omega

/-! numbers read -/
def byteAt (t : ByteArray) (i : Nat) : UInt8 := (t[i]?).getD 0
/-- from place p, k bytes at most, i read, n so far, u the next byte's weight -/
def rvGo (t : ByteArray) (p : Nat) : Nat → Nat → Nat → Nat → Nat × Nat × Bool
  | 0, _, _, _ => (0, 0, false)
  | k + 1, i, n, u =>
    if p + i < t.size then
      if 128 ≤ (byteAt t (p + i)).toNat then rvGo t p k (i + 1) (n + (byteAt t (p + i)).toNat % 128 * u) (u * 128)
      else if ((byteAt t (p + i)).toNat = 0 ∧ 0 < i) ∨ 1000000000 < n + (byteAt t (p + i)).toNat % 128 * u then (0, 0, false)
      else (n + (byteAt t (p + i)).toNat % 128 * u, p + i + 1, true)
    else (0, 0, false)
def readVar (t : ByteArray) (p : Nat) : Nat × Nat × Bool := rvGo t p 5 0 0 1
theorem rvGo_le (t : ByteArray) (p : Nat) : ∀ k i n u, (rvGo t p k i n u).2.2 = true → p < (rvGo t p k i n u).2.1 ∧ (rvGo t p k i n u).2.1 ≤ t.size ∧ (rvGo t p k i n u).1 ≤ 1000000000
  | 0, i, n, u, h => by simp [rvGo] at h
  | k + 1, i, n, u, h => by
    unfold rvGo at h ⊢
    split at h
    · rename_i h1; rw [if_pos h1]
      split at h
      · rename_i h2; rw [if_pos h2]; exact rvGo_le t p k _ _ _ h
      · rename_i h2; rw [if_neg h2]
        split at h
        · simp at h
        · rename_i h3; rw [if_neg h3]; refine ⟨?_, ?_, ?_⟩ <;> simp only <;> omega
    · simp at h
theorem readVar_le {t : ByteArray} {p : Nat} (h : (readVar t p).2.2 = true) : p < (readVar t p).2.1 ∧ (readVar t p).2.1 ≤ t.size ∧ (readVar t p).1 ≤ 1000000000 := rvGo_le t p 5 0 0 1 h
theorem rvGo_end {t : ByteArray} {p k i n u : Nat} (h : t.size ≤ p + i) : rvGo t p k i n u = (0, 0, false) := by
  cases k with
  | zero => rfl
  | succ k => unfold rvGo; rw [if_neg (by omega)]
theorem rvGo_on {t : ByteArray} {p k i n u : Nat} (h : p + i < t.size) (h2 : 128 ≤ (byteAt t (p + i)).toNat) : rvGo t p (k + 1) i n u = rvGo t p k (i + 1) (n + (byteAt t (p + i)).toNat % 128 * u) (u * 128) := by
  conv => lhs; unfold rvGo
  rw [if_pos h, if_pos h2]
theorem rvGo_bad {t : ByteArray} {p k i n u : Nat} (h : p + i < t.size) (h2 : ¬ 128 ≤ (byteAt t (p + i)).toNat) (h3 : ((byteAt t (p + i)).toNat = 0 ∧ 0 < i) ∨ 1000000000 < n + (byteAt t (p + i)).toNat % 128 * u) : rvGo t p (k + 1) i n u = (0, 0, false) := by
  conv => lhs; unfold rvGo
  rw [if_pos h, if_neg h2, if_pos h3]
theorem rvGo_ok {t : ByteArray} {p k i n u : Nat} (h : p + i < t.size) (h2 : ¬ 128 ≤ (byteAt t (p + i)).toNat) (h3 : ¬ (((byteAt t (p + i)).toNat = 0 ∧ 0 < i) ∨ 1000000000 < n + (byteAt t (p + i)).toNat % 128 * u)) : rvGo t p (k + 1) i n u = (n + (byteAt t (p + i)).toNat % 128 * u, p + i + 1, true) := by
  conv => lhs; unfold rvGo
  rw [if_pos h, if_neg h2, if_neg h3]

/-- the number so far, and what it is the number of -/
def hiOk (t : ByteArray) (p i n : Nat) : Prop := n < 128 ^ i ∧ p + i ≤ t.size ∧ ∀ f m, 0 < m → varL (f + i) (n + 128 ^ i * m) = ((by' t).drop p).take i ++ varL f m
theorem hiOk_zero {t : ByteArray} {p : Nat} (h : p ≤ t.size) : hiOk t p 0 0 := ⟨by simp, h, fun f m _ => by simp⟩
theorem byteAt_take {t : ByteArray} {p i : Nat} (h : p + i < t.size) : ((by' t).drop p).take (i + 1) = ((by' t).drop p).take i ++ [byteAt t (p + i)] := by
  have h1 : i < ((by' t).drop p).length := by rw [List.length_drop, by_size]; omega
  rw [List.take_add_one, List.getElem?_drop]
  unfold byteAt
  rw [by_get, List.getElem?_eq_getElem (by rw [by_size]; exact h)]; rfl
theorem hiOk_step {t : ByteArray} {p i n : Nat} (h : hiOk t p i n) (h1 : p + i < t.size) (h2 : 128 ≤ (byteAt t (p + i)).toNat) : hiOk t p (i + 1) (n + (byteAt t (p + i)).toNat % 128 * 128 ^ i) := by
  obtain ⟨hn, _, hv⟩ := h
  have hb := (byteAt t (p + i)).toNat_lt
  have h7 : (byteAt t (p + i)).toNat % 128 * 128 ^ i ≤ 127 * 128 ^ i := Nat.mul_le_mul_right _ (by omega)
  refine ⟨by rw [Nat.pow_succ]; omega, by omega, fun f m hm => ?_⟩
  have e1 : n + (byteAt t (p + i)).toNat % 128 * 128 ^ i + 128 ^ (i + 1) * m = n + 128 ^ i * ((byteAt t (p + i)).toNat % 128 + 128 * m) := by
    rw [Nat.pow_succ, Nat.mul_add, Nat.mul_assoc, Nat.mul_comm (128 ^ i) ((byteAt t (p + i)).toNat % 128)]; omega
  rw [e1, show f + (i + 1) = (f + 1) + i by omega, hv (f + 1) _ (by omega), byteAt_take h1, List.append_assoc]
  conv => lhs; arg 2; unfold varL
  rw [if_pos (by omega), show ((byteAt t (p + i)).toNat % 128 + 128 * m) / 128 = m by omega]
  have e2 : UInt8.ofNat (128 + ((byteAt t (p + i)).toNat % 128 + 128 * m) % 128) = byteAt t (p + i) := by
    rw [show 128 + ((byteAt t (p + i)).toNat % 128 + 128 * m) % 128 = (byteAt t (p + i)).toNat by omega]; exact UInt8.ofNat_toNat
  rw [e2]; rfl
theorem varL_short : ∀ f i n, n < 128 ^ (i + 1) → (varL f n).length ≤ i + 1
  | 0, i, n, h => by simp [varL]
  | f + 1, i, n, h => by
    unfold varL; split
    · rename_i h1
      obtain ⟨j, rfl⟩ := pow128 i n h h1
      have := varL_short f j (n / 128) (by rw [Nat.pow_succ] at h; omega)
      simp only [List.length_cons]; omega
    · simp
theorem by_extract (t : ByteArray) (i k : Nat) : by' (t.extract i k) = ((by' t).drop i).take (k - i) := by
  unfold by'
  rw [ByteArray.data_extract, Array.toList_extract, List.extract_eq_take_drop]
theorem hi_canon {t : ByteArray} {p i n : Nat} (h : hiOk t p i n) (hi : i ≤ 9) (h1 : p + i < t.size) (h2 : ¬ 128 ≤ (byteAt t (p + i)).toNat) :
    (varText (n + (byteAt t (p + i)).toNat % 128 * 128 ^ i : Nat) = t.extract p (p + i + 1)) ↔ ¬ ((byteAt t (p + i)).toNat = 0 ∧ 0 < i) := by
  obtain ⟨hn, _, hv⟩ := h
  rw [← by_inj, by_extract, show p + i + 1 - p = i + 1 by omega, byteAt_take h1]
  unfold varText varT
  rw [by_tx, Int.toNat_natCast, Nat.mod_eq_of_lt (by omega : (byteAt t (p + i)).toNat < 128)]
  by_cases h3 : (byteAt t (p + i)).toNat = 0
  · rw [h3, Nat.zero_mul, Nat.add_zero]
    have e0 : byteAt t (p + i) = 0 := by apply UInt8.toNat_inj.1; rw [h3]; rfl
    cases i with
    | zero =>
      have : n = 0 := by simp at hn; exact hn
      subst this
      constructor
      · intro _; omega
      · intro _; rw [varL_low _ _ (by omega), e0]; rfl
    | succ i =>
      constructor
      · intro e
        have h5 := varL_short 9 i n hn
        rw [e, List.length_append, List.length_take, List.length_drop, by_size] at h5
        simp at h5; omega
      · intro e; exact absurd ⟨rfl, by omega⟩ e
  · constructor
    · intro _ e; exact h3 e.1
    · intro _
      have h5 := hv (9 - i) (byteAt t (p + i)).toNat (by omega)
      rw [show 9 - i + i = 9 by omega, Nat.mul_comm] at h5
      rw [h5, varL_low _ _ (by omega), UInt8.ofNat_toNat]

theorem rvGo_canon {t : ByteArray} {p : Nat} : ∀ k i n, hiOk t p i n → k + i ≤ 10 → (rvGo t p k i n (128 ^ i)).2.2 = true → varText ((rvGo t p k i n (128 ^ i)).1 : Nat) = t.extract p (rvGo t p k i n (128 ^ i)).2.1
  | 0, i, n, _, _, h => by simp [rvGo] at h
  | k + 1, i, n, hi, hk, h => by
    by_cases h1 : p + i < t.size
    · by_cases h2 : 128 ≤ (byteAt t (p + i)).toNat
      · rw [rvGo_on h1 h2, ← Nat.pow_succ] at h ⊢
        exact rvGo_canon k (i + 1) _ (hiOk_step hi h1 h2) (by omega) h
      · by_cases h3 : ((byteAt t (p + i)).toNat = 0 ∧ 0 < i) ∨ 1000000000 < n + (byteAt t (p + i)).toNat % 128 * 128 ^ i
        · rw [rvGo_bad h1 h2 h3] at h; simp at h
        · rw [rvGo_ok h1 h2 h3]
          exact (hi_canon hi (by omega) h1 h2).2 fun e => h3 (.inl e)
    · rw [rvGo_end (by omega)] at h; simp at h
theorem readVar_canon {t : ByteArray} {p : Nat} (hp : p ≤ t.size) (h : (readVar t p).2.2 = true) : varText ((readVar t p).1 : Nat) = t.extract p (readVar t p).2.1 :=
  rvGo_canon 5 0 0 (hiOk_zero hp) (by omega) h
theorem readVar_end {t : ByteArray} {p : Nat} (h : t.size ≤ p) : readVar t p = (0, 0, false) := rvGo_end (by omega)
theorem ext_join (t : ByteArray) {a b c : Nat} (h1 : a ≤ b) (h2 : b ≤ c) : t.extract a c = t.extract a b ++ t.extract b c := by
  rw [← by_inj, by_app, by_extract, by_extract, by_extract, show c - a = (b - a) + (c - b) by omega, List.take_add, List.drop_drop, show a + (b - a) = b by omega]
theorem app_mid {a b c d : ByteArray} : a ++ b ++ c = a ++ d ++ c ↔ b = d := by
  constructor
  · intro h
    rw [← by_inj, by_app, by_app, by_app, by_app] at h
    exact by_inj.1 (List.append_cancel_left (List.append_cancel_right h))
  · intro h; rw [h]

/-! frames -/
def frE (t : ByteArray) (p : Nat) : Nat := (readVar t p).2.1 + 4 + (readVar t p).1
def frT (t : ByteArray) (p : Nat) : ByteArray := t.extract ((readVar t p).2.1 + 4) (frE t p)
def frSum (t : ByteArray) (p : Nat) : Bool := decide (t.extract (readVar t p).2.1 ((readVar t p).2.1 + 4) = four (sumOf (frT t p)))
def frOk (t : ByteArray) (p : Nat) : Bool := (readVar t p).2.2 && (decide (1 ≤ (readVar t p).1) && (decide ((readVar t p).1 ≤ 9000) && (decide (frE t p ≤ t.size) && frSum t p)))
theorem frT_size {t : ByteArray} {p : Nat} (h : frE t p ≤ t.size) : (frT t p).size = (readVar t p).1 := by
  unfold frT; rw [ByteArray.size_extract]; unfold frE at h ⊢; omega
theorem frame_eq {t : ByteArray} {p : Nat} (h : (readVar t p).2.2 = true) (he : frE t p ≤ t.size) (hp : p ≤ t.size) : frame (frT t p) = t.extract p (frE t p) ↔ frSum t p = true := by
  have h1 := readVar_le h
  unfold frSum frame
  rw [frT_size he, readVar_canon hp h, ext_join t (b := (readVar t p).2.1) (by omega) (by unfold frE; omega : (readVar t p).2.1 ≤ frE t p), ext_join t (a := (readVar t p).2.1) (b := (readVar t p).2.1 + 4) (by omega) (by unfold frE; omega), decide_eq_true_iff]
  show _ ++ _ ++ frT t p = _ ++ (_ ++ frT t p) ↔ _
  rw [← ByteArray.append_assoc, app_mid]
  exact eq_comm
theorem frOk_le {t : ByteArray} {p : Nat} (h : frOk t p = true) : p + 6 ≤ frE t p ∧ frE t p ≤ t.size ∧ (frT t p).size + 6 ≤ frE t p - p + 1 ∧ (frT t p).size + p + 5 ≤ frE t p := by
  unfold frOk at h
  simp only [Bool.and_eq_true, decide_eq_true_iff] at h
  obtain ⟨h1, h2, h3, h4, h5⟩ := h
  have h6 := readVar_le h1
  have h7 := frT_size h4
  unfold frE at h4 h7 ⊢
  omega
/-- the frames read by and by -/
def unfK (t : ByteArray) : Nat → List ByteArray × Nat
  | 0 => ([], 0)
  | k + 1 => if frOk t (unfK t k).2 then ((unfK t k).1 ++ [frT t (unfK t k).2], frE t (unfK t k).2) else unfK t k
theorem unfK_stop {t : ByteArray} {k : Nat} (h : frOk t (unfK t k).2 = false) : ∀ m, unfK t (k + m) = unfK t k
  | 0 => rfl
  | m + 1 => by
    rw [← Nat.add_assoc]
    conv => lhs; unfold unfK
    rw [unfK_stop h m, h]; rfl
theorem unfK_more {t : ByteArray} {k : Nat} (h : frOk t (unfK t k).2 = true) : unfK t (k + 1) = ((unfK t k).1 ++ [frT t (unfK t k).2], frE t (unfK t k).2) := by
  conv => lhs; unfold unfK
  rw [if_pos h]
def unframe (t : ByteArray) : List ByteArray × Nat := if t.size ≤ 20000 then unfK t t.size else ([], 0)
theorem unframe_end {t : ByteArray} {k : Nat} (h0 : t.size ≤ 20000) (hk : k ≤ t.size) (h : frOk t (unfK t k).2 = false) : unframe t = unfK t k := by
  unfold unframe; rw [if_pos h0]
  have := unfK_stop h (t.size - k)
  rw [show k + (t.size - k) = t.size by omega] at this
  exact this
theorem unframe_big {t : ByteArray} (h : ¬ t.size ≤ 20000) : unframe t = ([], 0) := by unfold unframe; rw [if_neg h]
theorem unfK_sz (t : ByteArray) : ∀ k, szL gS (unfK t k).1 ≤ (unfK t k).2 ∧ (unfK t k).2 ≤ t.size
  | 0 => ⟨by simp [unfK, szL], by simp [unfK]⟩
  | k + 1 => by
    have := unfK_sz t k
    cases h : frOk t (unfK t k).2
    · rw [unfK_stop h 1]; exact this
    · rw [unfK_more h]
      have h1 := frOk_le h
      refine ⟨?_, h1.2.1⟩
      rw [szL_append]
      have h2 : szL gS [frT t (unfK t k).2] = 1 + (frT t (unfK t k).2).size + 0 := rfl
      simp only [h2]; omega
theorem unframe_sz (t : ByteArray) : szL gS (unframe t).1 ≤ 20000 ∧ (unframe t).2 ≤ 20000 := by
  unfold unframe
  split
  · have := unfK_sz t t.size; omega
  · simp [szL]

theorem byte_p (t : ByteArray) (k : Nat) : (t[k]?).getD 0 = byteAt t k := rfl
theorem byte_w (b : UInt8) : IntKind.i64.wrap ((b.toNat : Nat) : Int) = ((b.toNat : Nat) : Int) := by
  have := b.toNat_lt
  exact wrap_of (by omega) (by omega)
theorem rv_i (n u b : Nat) (h : n + b % 128 * u ≤ 4611686018427387904) : IntKind.i64.wrap ((n : Int) + IntKind.i64.wrap ((b : Int).tmod 128 * (u : Int))) = ((n + b % 128 * u : Nat) : Int) := by
  have e : (b : Int).tmod 128 * (u : Int) = ((b % 128 * u : Nat) : Int) := by rw [Int.tmod_eq_emod_of_nonneg (by omega)]; push_cast; rfl
  have e2 : IntKind.i64.wrap ((b % 128 * u : Nat) : Int) = ((b % 128 * u : Nat) : Int) := wrap_of (by omega) (by omega)
  rw [e, e2, wrap_of (by omega) (by omega)]; push_cast; rfl
theorem tup3 {a b c d : Int} (h1 : a = c) (h2 : b = d) : Value.tuple ⟨[.int .i64 a, .int .i64 b, .bool true]⟩ = .tuple #[.int .i64 c, .int .i64 d, .bool true] := by subst h1 h2; rfl
theorem rv_n (n u b : Nat) (h : n + b % 128 * u ≤ 4611686018427387904) : Value.int .i64 (IntKind.i64.wrap ((n : Int) + IntKind.i64.wrap ((b : Int).tmod 128 * (u : Int)))) = Value.int .i64 ((n + b % 128 * u : Nat) : Int) := by
  have e : (b : Int).tmod 128 * (u : Int) = ((b % 128 * u : Nat) : Int) := by rw [Int.tmod_eq_emod_of_nonneg (by omega)]; push_cast; rfl
  have e2 : IntKind.i64.wrap ((b % 128 * u : Nat) : Int) = ((b % 128 * u : Nat) : Int) := wrap_of (by omega) (by omega)
  rw [e, e2, wrap_of (by omega) (by omega)]; congr 1
theorem rv_u (u : Nat) (h : u ≤ 4611686018427387904 / 128) : Value.int .i64 (IntKind.i64.wrap ((u : Int) * 128)) = Value.int .i64 ((u * 128 : Nat) : Int) := by
  rw [wrap_of (by omega) (by omega)]; congr 1
theorem rv_bnd {i n u b : Nat} (hi : i < 5) (hn : n < 128 ^ i) (hu : u = 128 ^ i) : n + b % 128 * u ≤ 34359738367 ∧ u ≤ 268435456 := by
  have h1 : (128 : Nat) ^ i ≤ 128 ^ 4 := Nat.pow_le_pow_right (by omega) (by omega)
  have h2 : b % 128 * u ≤ 127 * 128 ^ 4 := Nat.mul_le_mul (by omega) (by omega)
  have h3 : (128 : Nat) ^ 4 = 268435456 := rfl
  omega

--@ct impl.ReadVar val implReadVar_ct _ _ ?_ ?_
theorem implReadVar_ct (t : ByteArray) (p : Nat) (ht : t.size ≤ 1152921504606846976) (hp : p ≤ t.size) :
    Ct Tryz.prog 308 [.string t, .int .i64 (p : Int)] [] (fun _ => True) (fun v A => v = .tuple #[.int .i64 ((readVar t p).1 : Nat), .int .i64 ((readVar t p).2.1 : Nat), .bool (readVar t p).2.2] ∧ A = []) := by
  refine Ct.intro0 G_ok Tryz.func308 rfl rfl rfl fun E H _ => ?_
  refine VCsplit.intro (fun q0 => ?_) (fun q0 => ?_)
  ·
    simp at q0
    exfalso; omega
  ·
    simp at q0
    refine VCsplit.intro (fun q1 => ?_) (fun q1 => ?_)
    ·
      simp at q1
      exfalso; omega
    ·
      simp at q1
      apply loop_mod (α := (Nat) × (Nat) × (Nat)) G_ok [19, 20, 21, 22, 23, 24, 25, 26, 27, 28, 31, 32, 33, 34, 35, 36, 10, 37, 38, 39, 40, 41, 42, 7, 43, 44, 8, 45, 46, 47, 48, 49, 50, 51, 52, 53, 54, 55, 56, 4, 5, 6, 57, 58, 59, 60, 61, 29, 30, 9] (fun z => [(9, .v (.int .i64 z.1)), (8, .v (.int .i64 z.2.2)), (7, .v (.int .i64 z.2.1))]) (fun z => []) (fun z => [H]) (fun z => 5 - z.1) (fun z => z.1 ≤ 5 ∧ hiOk t p z.1 z.2.1 ∧ z.2.2 = 128 ^ z.1 ∧ rvGo t p (5 - z.1) z.1 z.2.1 z.2.2 = readVar t p) ((0, 0, 1))
      · repeat' (first | exact trivial | refine ⟨⟨_, rfl, by first | rfl | exact inc_eq _ (by omega) | (refine sl_eq ?_; simp; done) | (simp only [byte_p, wi, wj, Int.toNat_natCast, byte_w]; exact rv_n _ _ _ (by have := rv_bnd (b := (byteAt t (p + i)).toNat) (i := i) (n := n) (u := u) (by omega) hh.1 hu; omega)) | exact rv_u _ (by have := rv_bnd (b := 0) (i := i) (n := n) (u := u) (by omega) hh.1 hu; omega), by first | exact trivial | simp [SV.ok]⟩, ?_⟩)
      · exact trivial
      · try dsimp only
        exact ⟨by omega, hiOk_zero hp, rfl, rfl⟩
      · exact .refl _
      rintro ⟨i, n, u⟩ hI
      obtain ⟨hi, hh, hu, hr⟩ : i ≤ 5 ∧ hiOk t p i n ∧ u = 128 ^ i ∧ rvGo t p (5 - i) i n u = readVar t p := hI
      try dsimp only
      refine VCsplit.intro (fun q2 => ?_) (fun q2 => ?_)
      ·
        simp at q2
        refine VCsplit.intro (fun q3 => ?_) (fun q3 => ?_)
        ·
          simp at q3
          simp (disch := omega) only [wrap_of] at q3
          have wi : (IntKind.i64.wrap ((p : Int) + (i : Int))).toNat = p + i := by (rw [wrap_of (by omega) (by omega)]; omega)
          have wj : ((p : Int) + (i : Int)).toNat = p + i := by omega
          have hbd := rv_bnd (b := (byteAt t (p + i)).toNat) (i := i) (n := n) (u := u) (by omega) hh.1 hu
          have wn : IntKind.i64.wrap ((n : Int) + IntKind.i64.wrap (((byteAt t (p + i)).toNat : Int).tmod 128 * (u : Int))) = ((n + (byteAt t (p + i)).toNat % 128 * u : Nat) : Int) := rv_i _ _ _ (by omega)
          refine VC.intro ?_ ?_
          · (simp (disch := omega) only [wrap_of]; omega)
          refine VC.intro ?_ ?_
          · trivial
          refine VCsplit.intro (fun q4 => ?_) (fun q4 => ?_)
          ·
            simp at q4
            simp (disch := omega) only [wrap_of] at q4
            simp only [byte_p, wi, wj, Int.toNat_natCast, byte_w, wn] at q4
            apply loop_stepA (i + 1, n + (byteAt t (p + i)).toNat % 128 * u, u * 128)
            · exact .refl _
            · repeat' (first | exact trivial | refine ⟨⟨_, rfl, by first | rfl | exact inc_eq _ (by omega) | (refine sl_eq ?_; simp; done) | (simp only [byte_p, wi, wj, Int.toNat_natCast, byte_w]; exact rv_n _ _ _ (by have := rv_bnd (b := (byteAt t (p + i)).toNat) (i := i) (n := n) (u := u) (by omega) hh.1 hu; omega)) | exact rv_u _ (by have := rv_bnd (b := 0) (i := i) (n := n) (u := u) (by omega) hh.1 hu; omega), by first | exact trivial | simp [SV.ok]⟩, ?_⟩)
            · exact trivial
            · try dsimp only
              exact ⟨by omega, by rw [hu]; exact hiOk_step hh (by omega) (by omega), by rw [hu, Nat.pow_succ], (rvGo_on (k := 5 - (i + 1)) (by omega) (by omega)).symm.trans (by rw [show 5 - (i + 1) + 1 = 5 - i by omega]; exact hr)⟩
            · try dsimp only
              omega
          ·
            simp at q4
            simp (disch := omega) only [wrap_of] at q4
            simp only [byte_p, wi, wj, Int.toNat_natCast, byte_w, wn] at q4
            refine VCsplit.intro (fun q5 => ?_) (fun q5 => ?_)
            ·
              simp at q5
              simp (disch := omega) only [wrap_of] at q5
              simp only [byte_p, wi, wj, Int.toNat_natCast, byte_w, wn] at q5
              refine VCsplit.intro (fun q6 => ?_) (fun q6 => ?_)
              ·
                simp at q6
                exact ⟨[], ⟨by rw [show readVar t p = (0, 0, false) from by rw [← hr, show 5 - i = (5 - (i + 1)) + 1 by omega]; exact rvGo_bad (by omega) (by omega) (by omega)]; rfl, rfl⟩, (.le fun a => by (try simp only [setR, List.cons_append, List.nil_append]); simp only [List.flatten_append, List.flatten_cons, List.flatten_nil, List.count_append, List.count_nil, List.append_nil, List.nil_append]; omega)⟩
              ·
                simp at q6
                refine VCsplit.intro (fun q7 => ?_) (fun q7 => ?_)
                ·
                  simp at q7
                  simp (disch := omega) only [wrap_of] at q7
                  simp only [byte_p, wi, wj, Int.toNat_natCast, byte_w, wn] at q7
                  exact ⟨[], ⟨by rw [show readVar t p = (0, 0, false) from by rw [← hr, show 5 - i = (5 - (i + 1)) + 1 by omega]; exact rvGo_bad (by omega) (by omega) (by omega)]; rfl, rfl⟩, (.le fun a => by (try simp only [setR, List.cons_append, List.nil_append]); simp only [List.flatten_append, List.flatten_cons, List.flatten_nil, List.count_append, List.count_nil, List.append_nil, List.nil_append]; omega)⟩
                ·
                  simp at q7
                  simp (disch := omega) only [wrap_of] at q7
                  simp only [byte_p, wi, wj, Int.toNat_natCast, byte_w, wn] at q7
                  exact ⟨[], ⟨by rw [show readVar t p = (n + (byteAt t (p + i)).toNat % 128 * u, p + i + 1, true) from by rw [← hr, show 5 - i = (5 - (i + 1)) + 1 by omega]; exact rvGo_ok (by omega) (by omega) (by omega)]; exact tup3 (by simp only [byte_p, wi, wj, Int.toNat_natCast, byte_w, wn]) (by simp (disch := omega) only [wrap_of]; omega), rfl⟩, (.le fun a => by (try simp only [setR, List.cons_append, List.nil_append]); simp only [List.flatten_append, List.flatten_cons, List.flatten_nil, List.count_append, List.count_nil, List.append_nil, List.nil_append]; omega)⟩
            ·
              simp at q5
              simp (disch := omega) only [wrap_of] at q5
              simp only [byte_p, wi, wj, Int.toNat_natCast, byte_w, wn] at q5
              refine VCsplit.intro (fun q8 => ?_) (fun q8 => ?_)
              ·
                simp at q8
                simp (disch := omega) only [wrap_of] at q8
                simp only [byte_p, wi, wj, Int.toNat_natCast, byte_w, wn] at q8
                exact ⟨[], ⟨by rw [show readVar t p = (0, 0, false) from by rw [← hr, show 5 - i = (5 - (i + 1)) + 1 by omega]; exact rvGo_bad (by omega) (by omega) (by omega)]; rfl, rfl⟩, (.le fun a => by (try simp only [setR, List.cons_append, List.nil_append]); simp only [List.flatten_append, List.flatten_cons, List.flatten_nil, List.count_append, List.count_nil, List.append_nil, List.nil_append]; omega)⟩
              ·
                simp at q8
                simp (disch := omega) only [wrap_of] at q8
                simp only [byte_p, wi, wj, Int.toNat_natCast, byte_w, wn] at q8
                exact ⟨[], ⟨by rw [show readVar t p = (n + (byteAt t (p + i)).toNat % 128 * u, p + i + 1, true) from by rw [← hr, show 5 - i = (5 - (i + 1)) + 1 by omega]; exact rvGo_ok (by omega) (by omega) (by omega)]; exact tup3 (by simp only [byte_p, wi, wj, Int.toNat_natCast, byte_w, wn]) (by simp (disch := omega) only [wrap_of]; omega), rfl⟩, (.le fun a => by (try simp only [setR, List.cons_append, List.nil_append]); simp only [List.flatten_append, List.flatten_cons, List.flatten_nil, List.count_append, List.count_nil, List.append_nil, List.nil_append]; omega)⟩
        ·
          simp at q3
          simp (disch := omega) only [wrap_of] at q3
          exact ⟨[], ⟨by rw [show readVar t p = (0, 0, false) from by rw [← hr]; exact rvGo_end (by omega)]; rfl, rfl⟩, (.le fun a => by (try simp only [setR, List.cons_append, List.nil_append]); simp only [List.flatten_append, List.flatten_cons, List.flatten_nil, List.count_append, List.count_nil, List.append_nil, List.nil_append]; omega)⟩
      ·
        simp at q2
        exact ⟨[], ⟨by rw [show readVar t p = (0, 0, false) from by rw [← hr, show 5 - i = 0 by omega]; rfl]; rfl, rfl⟩, (.le fun a => by (try simp only [setR, List.cons_append, List.nil_append]); simp only [List.flatten_append, List.flatten_cons, List.flatten_nil, List.count_append, List.count_nil, List.append_nil, List.nil_append]; omega)⟩

--@ct spec.ReadVar val specReadVar_ct _ _ ?_ ?_
theorem specReadVar_ct (t : ByteArray) (p : Nat) (ht : t.size ≤ 1152921504606846976) (hp : p ≤ t.size) :
    Ct Tryz.prog 294 [.string t, .int .i64 (p : Int)] [] (fun _ => True) (fun v A => v = .tuple #[.int .i64 ((readVar t p).1 : Nat), .int .i64 ((readVar t p).2.1 : Nat), .bool (readVar t p).2.2] ∧ A = []) := by
  refine Ct.intro0 G_ok Tryz.func294 rfl rfl rfl fun E H _ => ?_
  refine call_val (l01In_ct _ _ _) trivial ?_
  rintro _ rfl
  refine VCsplit.intro (fun q1 => ?_) (fun q1 => ?_)
  ·
    simp at q1
    (exfalso; unfold inR at q1; simp at q1; omega)
  ·
    simp at q1
    apply loop_mod (α := (Nat) × (Nat) × (Nat)) G_ok [16, 17, 18, 19, 20, 21, 22, 23, 24, 25, 28, 29, 30, 31, 32, 33, 34, 35, 36, 7, 37, 38, 8, 39, 40, 41, 42, 43, 44, 45, 46, 47, 48, 49, 50, 51, 52, 53, 54, 4, 5, 6, 55, 56, 57, 26, 27, 9] (fun z => [(9, .v (.int .i64 ((p + z.1 : Nat) : Int))), (8, .v (.int .i64 z.2.2)), (7, .v (.int .i64 z.2.1))]) (fun z => []) (fun z => [H]) (fun z => 5 - z.1) (fun z => z.1 ≤ 5 ∧ hiOk t p z.1 z.2.1 ∧ z.2.2 = 128 ^ z.1 ∧ rvGo t p (5 - z.1) z.1 z.2.1 z.2.2 = readVar t p) ((0, 0, 1))
    · repeat' (first | exact trivial | refine ⟨⟨_, rfl, by first | rfl | exact inc_eq _ (by omega) | (refine sl_eq ?_; simp; done) | (simp only [byte_p, wi, wj, Int.toNat_natCast, byte_w]; exact rv_n _ _ _ (by have := rv_bnd (b := (byteAt t (p + i)).toNat) (i := i) (n := n) (u := u) (by omega) hh.1 hu; omega)) | exact rv_u _ (by have := rv_bnd (b := 0) (i := i) (n := n) (u := u) (by omega) hh.1 hu; omega), by first | exact trivial | simp [SV.ok]⟩, ?_⟩)
    · exact trivial
    · try dsimp only
      exact ⟨by omega, hiOk_zero hp, rfl, rfl⟩
    · exact .refl _
    rintro ⟨i, n, u⟩ hI
    obtain ⟨hi, hh, hu, hr⟩ : i ≤ 5 ∧ hiOk t p i n ∧ u = 128 ^ i ∧ rvGo t p (5 - i) i n u = readVar t p := hI
    try dsimp only
    refine VCsplit.intro (fun q2 => ?_) (fun q2 => ?_)
    ·
      simp at q2
      refine VCsplit.intro (fun q3 => ?_) (fun q3 => ?_)
      ·
        simp at q3
        simp (disch := omega) only [wrap_of] at q3
        have wi : (IntKind.i64.wrap ((p : Int) + (i : Int))).toNat = p + i := by (rw [wrap_of (by omega) (by omega)]; omega)
        have wj : ((p : Int) + (i : Int)).toNat = p + i := by omega
        have hbd := rv_bnd (b := (byteAt t (p + i)).toNat) (i := i) (n := n) (u := u) (by omega) hh.1 hu
        have wn : IntKind.i64.wrap ((n : Int) + IntKind.i64.wrap (((byteAt t (p + i)).toNat : Int).tmod 128 * (u : Int))) = ((n + (byteAt t (p + i)).toNat % 128 * u : Nat) : Int) := rv_i _ _ _ (by omega)
        refine VC.intro ?_ ?_
        · omega
        refine VC.intro ?_ ?_
        · trivial
        refine VC.intro ?_ ?_
        · omega
        refine VCsplit.intro (fun q4 => ?_) (fun q4 => ?_)
        ·
          simp at q4
          simp only [byte_p, wi, wj, Int.toNat_natCast, byte_w, wn] at q4
          have hc := hi_canon hh (by omega) (by omega) (by omega : ¬ 128 ≤ (byteAt t (p + i)).toNat)
          rw [← hu, show p + i + 1 = ((p : Int) + (i : Int) + 1).toNat by omega] at hc
          refine draw G_ok mixed none (.q 0 (.q 1 (.q 2 (.q 3 (.q 5 (.q 6 (.q 7 (.q 8 (.q 9 (.f 4 (.q 10 (.q 11 (.nil))))))))))))) (by decide +kernel) ?_
          refine VCsplit.intro (fun q5 => ?_) (fun q5 => ?_)
          ·
            simp at q5
            simp only [byte_p, wi, wj, Int.toNat_natCast, byte_w, wn] at q5
            exact ⟨[], ⟨by rw [show readVar t p = (0, 0, false) from by rw [← hr, show 5 - i = (5 - (i + 1)) + 1 by omega]; exact rvGo_bad (by omega) (by omega) (by omega)]; rfl, rfl⟩, (.le fun a => by (try simp only [setR, List.cons_append, List.nil_append]); simp only [List.flatten_append, List.flatten_cons, List.flatten_nil, List.count_append, List.count_nil, List.append_nil, List.nil_append]; omega)⟩
          ·
            simp at q5
            simp only [byte_p, wi, wj, Int.toNat_natCast, byte_w, wn] at q5
            refine VC.intro ?_ ?_
            · (simp (disch := omega) only [wrap_of]; omega)
            refine VC.intro ?_ ?_
            · (simp (disch := omega) only [wrap_of]; omega)
            refine call_val (l01Var_ct _ ?_ ?_) trivial ?_
            · (simp only [byte_p, wi, wj, Int.toNat_natCast, byte_w, wn]; omega)
            · (simp only [byte_p, wi, wj, Int.toNat_natCast, byte_w, wn]; omega)
            rintro _ rfl
            refine VC.intro ?_ ?_
            · exact fun _ h => h
            refine VCsplit.intro (fun q7 => ?_) (fun q7 => ?_)
            ·
              simp at q7
              simp only [str_inj, u8_inj, u8_wrap] at q7
              simp (disch := omega) only [wrap_of] at q7
              simp only [byte_p, wi, wj, Int.toNat_natCast, byte_w, wn] at q7
              exact ⟨[], ⟨by rw [show readVar t p = (0, 0, false) from by rw [← hr, show 5 - i = (5 - (i + 1)) + 1 by omega]; exact rvGo_bad (by omega) (by omega) (.inl (Classical.not_not.1 fun e => ‹¬ varText _ = _› (hc.2 e)))]; rfl, rfl⟩, (.le fun a => by (try simp only [setR, List.cons_append, List.nil_append]); simp only [List.flatten_append, List.flatten_cons, List.flatten_nil, List.count_append, List.count_nil, List.append_nil, List.nil_append]; omega)⟩
            ·
              simp at q7
              simp only [str_inj, u8_inj, u8_wrap] at q7
              simp (disch := omega) only [wrap_of] at q7
              simp only [byte_p, wi, wj, Int.toNat_natCast, byte_w, wn] at q7
              exact ⟨[], ⟨by rw [show readVar t p = (n + (byteAt t (p + i)).toNat % 128 * u, p + i + 1, true) from by rw [← hr, show 5 - i = (5 - (i + 1)) + 1 by omega]; exact rvGo_ok (by omega) (by omega) (fun e => e.elim (hc.1 ‹varText _ = _›) (by omega))]; exact tup3 (by simp only [byte_p, wi, wj, Int.toNat_natCast, byte_w, wn]) (by simp (disch := omega) only [wrap_of]; omega), rfl⟩, (.le fun a => by (try simp only [setR, List.cons_append, List.nil_append]); simp only [List.flatten_append, List.flatten_cons, List.flatten_nil, List.count_append, List.count_nil, List.append_nil, List.nil_append]; omega)⟩
        ·
          simp at q4
          simp only [byte_p, wi, wj, Int.toNat_natCast, byte_w, wn] at q4
          apply loop_stepA (i + 1, n + (byteAt t (p + i)).toNat % 128 * u, u * 128)
          · exact .refl _
          · repeat' (first | exact trivial | refine ⟨⟨_, rfl, by first | rfl | exact inc_eq _ (by omega) | (refine sl_eq ?_; simp; done) | (simp only [byte_p, wi, wj, Int.toNat_natCast, byte_w]; exact rv_n _ _ _ (by have := rv_bnd (b := (byteAt t (p + i)).toNat) (i := i) (n := n) (u := u) (by omega) hh.1 hu; omega)) | exact rv_u _ (by have := rv_bnd (b := 0) (i := i) (n := n) (u := u) (by omega) hh.1 hu; omega), by first | exact trivial | simp [SV.ok]⟩, ?_⟩)
          · exact trivial
          · try dsimp only
            exact ⟨by omega, by rw [hu]; exact hiOk_step hh (by omega) (by omega), by rw [hu, Nat.pow_succ], (rvGo_on (k := 5 - (i + 1)) (by omega) (by omega)).symm.trans (by rw [show 5 - (i + 1) + 1 = 5 - i by omega]; exact hr)⟩
          · try dsimp only
            omega
      ·
        simp at q3
        simp (disch := omega) only [wrap_of] at q3
        exact ⟨[], ⟨by rw [show readVar t p = (0, 0, false) from by rw [← hr, show 5 - i = 0 by omega]; rfl]; rfl, rfl⟩, (.le fun a => by (try simp only [setR, List.cons_append, List.nil_append]); simp only [List.flatten_append, List.flatten_cons, List.flatten_nil, List.count_append, List.count_nil, List.append_nil, List.nil_append]; omega)⟩
    ·
      simp at q2
      exact ⟨[], ⟨by rw [show readVar t p = (0, 0, false) from by rw [← hr]; exact rvGo_end (by omega)]; rfl, rfl⟩, (.le fun a => by (try simp only [setR, List.cons_append, List.nil_append]); simp only [List.flatten_append, List.flatten_cons, List.flatten_nil, List.count_append, List.count_nil, List.append_nil, List.nil_append]; omega)⟩

end Go.Proofs.YtflfohphebmemaaGreat
