/-
  Checksums and numbers as bytes, records in frames, on both sides. Conditions: none.
-/
import Derived.Test.YtflfohphebmemaaGreatHd
namespace Go.Proofs.YtflfohphebmemaaGreat
open Go.SX Go.Proofs
set_option linter.unusedSimpArgs false
set_option linter.unusedVariables false
set_option maxHeartbeats 4000000
attribute [local irreducible] IntKind.wrap

--@ct impl.SumOf val implSumOf_ct _ ?_
theorem implSumOf_ct (t : ByteArray) (ht : t.size ≤ 9223372036854775807) : Ct Tryz.prog 228 [.string t] [] (fun _ => True) (fun v A => v = .int .u32 (sumOf t) ∧ A = []) := by
  refine Ct.intro0 G_ok Tryz.func228 rfl rfl rfl fun E H hp => ?_
  refine call_val (implSumMore_ct _ _ ?_ ?_) trivial ?_
  · trivial
  · trivial
  rintro _ rfl
  exact ⟨[], ⟨rfl, rfl⟩, (.le fun a => by (try simp only [setR, List.cons_append, List.nil_append]); simp only [List.flatten_append, List.flatten_cons, List.flatten_nil, List.count_append, List.count_nil, List.append_nil, List.nil_append]; omega)⟩
--@ct spec.SumOf val specSumOf_ct _ ?_
theorem specSumOf_ct (t : ByteArray) (ht : t.size ≤ 9223372036854775807) : Ct Tryz.prog 222 [.string t] [] (fun _ => True) (fun v A => v = .int .u32 (sumOf t) ∧ A = []) := by
  refine Ct.intro0 G_ok Tryz.func222 rfl rfl rfl fun E H hp => ?_
  refine call_val (specSumMore_ct _ _ ?_ ?_) trivial ?_
  · trivial
  · trivial
  rintro _ rfl
  exact ⟨[], ⟨rfl, rfl⟩, (.le fun a => by (try simp only [setR, List.cons_append, List.nil_append]); simp only [List.flatten_append, List.flatten_cons, List.flatten_nil, List.count_append, List.count_nil, List.append_nil, List.nil_append]; omega)⟩

def varL : Nat → Nat → List UInt8
  | 0, n => [UInt8.ofNat n]
  | f + 1, n => if 127 < n then UInt8.ofNat (128 + n % 128) :: varL f (n / 128) else [UInt8.ofNat n]
def varT (n : Int) : List UInt8 := varL 9 n.toNat
def varText (n : Int) : ByteArray := tx (varT n)
theorem varL_len : ∀ f n, (varL f n).length ≤ f + 1
  | 0, n => by simp [varL]
  | f + 1, n => by
    unfold varL; split
    · have := varL_len f (n / 128); simp only [List.length_cons]; omega
    · simp
theorem varL_low (f n : Nat) (h : n ≤ 127) : varL f n = [UInt8.ofNat n] := by
  cases f with
  | zero => rfl
  | succ f => unfold varL; rw [if_neg (by omega)]
theorem varText_size (n : Int) : (varText n).size ≤ 10 := by
  rw [← by_size]; unfold varText; rw [by_tx]; exact varL_len 9 _
theorem var_b1 (q : Nat) : UInt8.ofNat (IntKind.i64.wrap (128 + (q : Int).tmod 128) % 256).toNat = UInt8.ofNat (128 + q % 128) := by
  rw [Int.tmod_eq_emod_of_nonneg (by omega), wrap_of (by omega) (by omega)]; congr 1; omega
theorem var_b1' (q : Nat) : UInt8.ofNat (IntKind.i64.wrap ((q : Int).tmod 128 + 128) % 256).toNat = UInt8.ofNat (128 + q % 128) := by
  rw [Int.tmod_eq_emod_of_nonneg (by omega), wrap_of (by omega) (by omega)]; congr 1; omega
theorem var_b2 (q : Nat) (h : q ≤ 127) : UInt8.ofNat ((q : Int) % 256).toNat = UInt8.ofNat q := by congr 1; omega
theorem var_q (q : Nat) (h : q ≤ 4611686018427387904) : Value.int .i64 (IntKind.i64.wrap ((q : Int).tdiv 128)) = Value.int .i64 ((q / 128 : Nat) : Int) := by
  rw [Int.tdiv_eq_ediv_of_nonneg (by omega), wrap_of (by omega) (by omega)]; congr 1
theorem pow128 (f q : Nat) (h : q < 128 ^ (f + 1)) (h1 : 127 < q) : ∃ f', f = f' + 1 := by
  cases f with
  | zero => simp at h; omega
  | succ f' => exact ⟨f', rfl⟩

--@ct impl.varText val varText_ct _ ?_ ?_
theorem varText_ct (n : Int) (h0 : 0 ≤ n) (h1 : n ≤ 4611686018427387904) : Ct Tryz.prog 215 [.int .i64 n] [] (fun _ => True) (fun v A => v = .string (varText n) ∧ A = []) := by
  refine Ct.intro0 G_ok Tryz.func215 rfl rfl rfl fun E H hp => ?_
  apply loop_mod (α := (Nat) × (Nat) × (List UInt8) × (Hp) × (Option Addr) × (Nat)) G_ok [4, 5, 6, 7, 8, 9, 10, 11, 12, 3, 13, 14, 0] (fun z => [(3, .v (.slice z.2.2.2.2.1 z.2.2.1.length z.2.2.2.2.2)), (0, .v (.int .i64 z.2.1))]) (fun z => []) (fun z => [z.2.2.2.1, H]) (fun z => z.2.1) (fun z => (gSl 5 gY).ow [.slice z.2.2.2.2.1 z.2.2.1.length z.2.2.2.2.2] z.2.2.1 z.2.2.2.1 ∧ z.2.2.1 ++ varL z.1 z.2.1 = varT n ∧ z.2.1 < 128 ^ (z.1 + 1) ∧ z.2.2.1.length + z.1 ≤ 9 ∧ z.2.1 ≤ 4611686018427387904) ((9, n.toNat, [], [], none, 0))
  · repeat' (first | exact trivial | refine ⟨⟨_, rfl, by first | rfl | exact inc_eq _ (by omega) | (refine sl_eq ?_; simp; done) | (refine svi_eq ?_; (try dsimp only); omega) | exact var_q q (by omega), by first | exact trivial | simp [SV.ok]⟩, ?_⟩)
  · exact trivial
  · try dsimp only
    exact ⟨sl_nil _ _ _, rfl, by omega, by simp, by omega⟩
  · exact .refl _
  rintro ⟨f, q, o, A, b, c⟩ hI
  obtain ⟨oo, hv, hq, hl, hm⟩ : (gSl 5 gY).ow [.slice b o.length c] o A ∧ o ++ varL f q = varT n ∧ q < 128 ^ (f + 1) ∧ o.length + f ≤ 9 ∧ q ≤ 4611686018427387904 := hI
  try dsimp only
  refine VCsplit.intro (fun q0 => ?_) (fun q0 => ?_)
  ·
    simp at q0
    obtain ⟨f, rfl⟩ := pow128 f q hq (by omega)
    refine VC.intro ?_ ?_
    · trivial
    refine VCnew.intro fun x1 => ?_
    refine gappend1 (g := gY) (T := (5 : TypeId)) G_ok A [] [H] ?_ oo (gY_owM _) (List.mem_of_getElem? (i := 0) rfl) rfl rfl rfl rfl rfl rfl rfl rfl ?_ fun b2 c2 A2 o2 => ?_
    · exact .tl
    · omega
    refine VC.intro ?_ ?_
    · trivial
    apply loop_stepA (f, q / 128, _, _, _, _)
    · exact .refl _
    · repeat' (first | exact trivial | refine ⟨⟨_, rfl, by first | rfl | exact inc_eq _ (by omega) | (refine sl_eq ?_; simp; done) | (refine svi_eq ?_; (try dsimp only); omega) | exact var_q q (by omega), by first | exact trivial | simp [SV.ok]⟩, ?_⟩)
    · exact trivial
    · try dsimp only
      exact ⟨‹_›, by rw [var_b1, ← hv]; (conv => rhs; unfold varL; rw [if_pos (by omega)]); rw [List.append_assoc, List.singleton_append], by rw [Nat.pow_succ] at hq; omega, by simp; omega, by omega⟩
    · try dsimp only
      omega
  ·
    simp at q0
    refine VCnew.intro fun x3 => ?_
    refine gappend1 (g := gY) (T := (5 : TypeId)) G_ok A [] [H] ?_ oo (gY_owM _) (List.mem_of_getElem? (i := 0) rfl) rfl rfl rfl rfl rfl rfl rfl rfl ?_ fun b4 c4 A4 o4 => ?_
    · exact .tl
    · omega
    refine conv_bs G_ok (o ++ [UInt8.ofNat ((↑q : Int) % (256 : Int)).toNat]) rfl (Rp.mono _ (mem_at 0 rfl) (Gt.owrd _ o4)) rfl rfl rfl ?_
    exact ⟨[], ⟨by rw [var_b2 q (by omega), ← varL_low f q (by omega), hv]; rfl, rfl⟩, (.le fun a => by (try simp only [setR, List.cons_append, List.nil_append]); simp only [List.flatten_append, List.flatten_cons, List.flatten_nil, List.count_append, List.count_nil, List.append_nil, List.nil_append]; omega)⟩

--@ct spec.l01Var val l01Var_ct _ ?_ ?_
theorem l01Var_ct (n : Int) (h0 : 0 ≤ n) (h1 : n ≤ 4611686018427387904) : Ct Tryz.prog 202 [.int .i64 n] [] (fun _ => True) (fun v A => v = .string (varText n) ∧ A = []) := by
  refine Ct.intro0 G_ok Tryz.func202 rfl rfl rfl fun E H hp => ?_
  refine VCnew.intro fun x0 => ?_
  apply loop_mod (α := (Nat) × (Nat) × (List UInt8) × (Hp) × (Option Addr) × (Nat)) G_ok [5, 6, 7, 8, 9, 10, 11, 12, 13, 3, 14, 15, 0] (fun z => [(3, .v (.slice z.2.2.2.2.1 z.2.2.1.length z.2.2.2.2.2)), (0, .v (.int .i64 z.2.1))]) (fun z => []) (fun z => [z.2.2.2.1, H]) (fun z => z.2.1) (fun z => (gSl 5 gY).ow [.slice z.2.2.2.2.1 z.2.2.1.length z.2.2.2.2.2] z.2.2.1 z.2.2.2.1 ∧ z.2.2.1 ++ varL z.1 z.2.1 = varT n ∧ z.2.1 < 128 ^ (z.1 + 1) ∧ z.2.2.1.length + z.1 ≤ 9 ∧ z.2.1 ≤ 4611686018427387904) ((9, n.toNat, [], [], some ⟨x0, 0, none⟩, 0))
  · repeat' (first | exact trivial | refine ⟨⟨_, rfl, by first | rfl | exact inc_eq _ (by omega) | (refine sl_eq ?_; simp; done) | (refine svi_eq ?_; (try dsimp only); omega) | exact var_q q (by omega), by first | exact trivial | simp [SV.ok]⟩, ?_⟩)
  · exact trivial
  · try dsimp only
    exact ⟨sl_nil _ _ _, rfl, by omega, by simp, by omega⟩
  · exact .tl
  rintro ⟨f, q, o, A, b, c⟩ hI
  obtain ⟨oo, hv, hq, hl, hm⟩ : (gSl 5 gY).ow [.slice b o.length c] o A ∧ o ++ varL f q = varT n ∧ q < 128 ^ (f + 1) ∧ o.length + f ≤ 9 ∧ q ≤ 4611686018427387904 := hI
  try dsimp only
  refine VCsplit.intro (fun q1 => ?_) (fun q1 => ?_)
  ·
    simp at q1
    obtain ⟨f, rfl⟩ := pow128 f q hq (by omega)
    refine VC.intro ?_ ?_
    · trivial
    refine VCnew.intro fun x2 => ?_
    refine gappend1 (g := gY) (T := (5 : TypeId)) G_ok A [] [H] ?_ oo (gY_owM _) (List.mem_of_getElem? (i := 0) rfl) rfl rfl rfl rfl rfl rfl rfl rfl ?_ fun b3 c3 A3 o3 => ?_
    · exact .tl
    · omega
    refine VC.intro ?_ ?_
    · trivial
    apply loop_stepA (f, q / 128, _, _, _, _)
    · exact .refl _
    · repeat' (first | exact trivial | refine ⟨⟨_, rfl, by first | rfl | exact inc_eq _ (by omega) | (refine sl_eq ?_; simp; done) | (refine svi_eq ?_; (try dsimp only); omega) | exact var_q q (by omega), by first | exact trivial | simp [SV.ok]⟩, ?_⟩)
    · exact trivial
    · try dsimp only
      exact ⟨‹_›, by rw [var_b1', ← hv]; (conv => rhs; unfold varL; rw [if_pos (by omega)]); rw [List.append_assoc, List.singleton_append], by rw [Nat.pow_succ] at hq; omega, by simp; omega, by omega⟩
    · try dsimp only
      omega
  ·
    simp at q1
    refine VCnew.intro fun x4 => ?_
    refine gappend1 (g := gY) (T := (5 : TypeId)) G_ok A [] [H] ?_ oo (gY_owM _) (List.mem_of_getElem? (i := 0) rfl) rfl rfl rfl rfl rfl rfl rfl rfl ?_ fun b5 c5 A5 o5 => ?_
    · exact .tl
    · omega
    refine conv_bs G_ok (o ++ [UInt8.ofNat ((↑q : Int) % (256 : Int)).toNat]) rfl (Rp.mono _ (mem_at 0 rfl) (Gt.owrd _ o5)) rfl rfl rfl ?_
    exact ⟨[], ⟨by rw [var_b2 q (by omega), ← varL_low f q (by omega), hv]; rfl, rfl⟩, (.le fun a => by (try simp only [setR, List.cons_append, List.nil_append]); simp only [List.flatten_append, List.flatten_cons, List.flatten_nil, List.count_append, List.count_nil, List.append_nil, List.nil_append]; omega)⟩

def fourL (s : Int) : List UInt8 := [UInt8.ofNat (s / 16777216 % 256).toNat, UInt8.ofNat (s / 65536 % 256).toNat, UInt8.ofNat (s / 256 % 256).toNat, UInt8.ofNat (s % 256).toNat]
def four (s : Int) : ByteArray := tx (fourL s)

theorem four_eq (s : Int) : four s = ⟨(([IntKind.u8.wrap (s.fdiv (2 ^ min (Int.toNat 24) IntKind.u32.bits)), IntKind.u8.wrap (s.fdiv (2 ^ min (Int.toNat 16) IntKind.u32.bits)), IntKind.u8.wrap (s.fdiv (2 ^ min (Int.toNat 8) IntKind.u32.bits)), IntKind.u8.wrap s] : List Int).map fun v => UInt8.ofNat v.toNat).toArray⟩ := by
  unfold four fourL tx
  rw [show (2 : Int) ^ min (Int.toNat 24) IntKind.u32.bits = 16777216 from by decide, show (2 : Int) ^ min (Int.toNat 16) IntKind.u32.bits = 65536 from by decide, show (2 : Int) ^ min (Int.toNat 8) IntKind.u32.bits = 256 from by decide]
  simp only [u8_wrap, List.map_cons, List.map_nil]
  rw [Int.fdiv_eq_ediv_of_nonneg _ (by omega), Int.fdiv_eq_ediv_of_nonneg _ (by omega), Int.fdiv_eq_ediv_of_nonneg _ (by omega)]
end Go.Proofs.YtflfohphebmemaaGreat
