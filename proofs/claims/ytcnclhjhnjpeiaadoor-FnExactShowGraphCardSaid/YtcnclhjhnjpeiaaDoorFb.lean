/-
  Decimal numerals: both sides (the program's for numbers of two digits). Conditions: none.
-/
import Derived.Test.YtcnclhjhnjpeiaaDoorFa
import Derived.Test.YtcnclhjhnjpeiaaDoorHd
namespace Go.Proofs.YtcnclhjhnjpeiaaDoor
open Go.SX Go.Proofs
set_option linter.unusedSimpArgs false
set_option linter.unusedVariables false
set_option maxHeartbeats 4000000
set_option maxRecDepth 100000
attribute [local irreducible] IntKind.wrap

theorem dec_lo {n : Nat} (h : n < 10) : Lib.decDigits n = [UInt8.ofNat (48 + n)] := by rw [Lib.decDigits, dif_pos h]
theorem dec_hi {n : Nat} (h : ¬ n < 10) : Lib.decDigits n = Lib.decDigits (n / 10) ++ [UInt8.ofNat (48 + n % 10)] := by rw [Lib.decDigits, dif_neg h]
theorem dec_12 : Lib.decDigits 10 = [49, 48] ∧ Lib.decDigits 11 = [49, 49] ∧ Lib.decDigits 12 = [49, 50] := by
  refine ⟨?_, ?_, ?_⟩ <;> (rw [dec_hi (by decide), dec_lo (by decide)]; rfl)
def dcT (n : Int) : List UInt8 := Lib.decDigits n.toNat
theorem dcT_len {n : Int} (h : 0 ≤ n ∧ n ≤ 12) : (dcT n).length ≤ 2 := dec_len 1 n.toNat (by omega)

--@ct internal/strconv.small val small_ct _ ?_ | trivial
theorem small_ct (i : Int) (h : 0 ≤ i ∧ i ≤ 12) : Ct Tryd.prog 83 [.int .i64 i] [] (fun _ => True) (fun v A => v = .string (tx (dcT i)) ∧ A = []) := by
  refine Ct.intro0 G_ok Tryd.func83 rfl rfl rfl fun E H hp => ?_
  refine VCsplit.intro (fun q0 => ?_) (fun q0 => ?_)
  ·
    simp at q0
    refine VC.intro ?_ ?_
    · (rw [wrap_of (x := i + 1) (by omega) (by omega)]; exact ⟨by omega, Int.le_trans (show i + 1 ≤ 13 by omega) (by decide)⟩)
    refine VC.intro ?_ ?_
    · (simp (disch := omega) only [wrap_of]; omega)
    (rw [wrap_of (x := i + 1) (by omega) (by omega)]; have hi : i = 0 ∨ i = 1 ∨ i = 2 ∨ i = 3 ∨ i = 4 ∨ i = 5 ∨ i = 6 ∨ i = 7 ∨ i = 8 ∨ i = 9 := (by omega); rcases hi with rfl | rfl | rfl | rfl | rfl | rfl | rfl | rfl | rfl | rfl <;> exact ⟨[], ⟨by unfold dcT; rw [dec_lo (by decide)]; rfl, rfl⟩, (.le fun a => by (try simp only [setR, List.cons_append, List.nil_append]); simp only [List.flatten_append, List.flatten_cons, List.flatten_nil, List.count_append, List.count_nil, List.append_nil, List.nil_append]; omega)⟩)
  ·
    simp at q0
    refine VC.intro ?_ ?_
    · (rw [wrap_of (x := i * 2) (by omega) (by omega), wrap_of (x := i * 2 + 2) (by omega) (by omega)]; exact ⟨by omega, Int.le_trans (show i * 2 + 2 ≤ 26 by omega) (by decide)⟩)
    refine VC.intro ?_ ?_
    · (simp (disch := omega) only [wrap_of]; omega)
    (rw [wrap_of (x := i * 2) (by omega) (by omega), wrap_of (x := i * 2 + 2) (by omega) (by omega)]; have hi : i = 10 ∨ i = 11 ∨ i = 12 := (by omega); rcases hi with rfl | rfl | rfl <;> exact ⟨[], ⟨by unfold dcT; first | (rw [show Int.toNat 10 = 10 from rfl, dec_12.1]; rfl) | (rw [show Int.toNat 11 = 11 from rfl, dec_12.2.1]; rfl) | (rw [show Int.toNat 12 = 12 from rfl, dec_12.2.2]; rfl), rfl⟩, (.le fun a => by (try simp only [setR, List.cons_append, List.nil_append]); simp only [List.flatten_append, List.flatten_cons, List.flatten_nil, List.count_append, List.count_nil, List.append_nil, List.nil_append]; omega)⟩)
--@ct internal/strconv.FormatInt val formatInt_ct _ ?_ | trivial
theorem formatInt_ct (i : Int) (h : 0 ≤ i ∧ i ≤ 12) : Ct Tryd.prog 74 [.int .i64 i, .int .i64 10] [] (fun _ => True) (fun v A => v = .string (tx (dcT i)) ∧ A = []) := by
  refine Ct.intro0 G_ok Tryd.func74 rfl rfl rfl fun E H hp => ?_
  refine VCsplit.intro (fun q0 => ?_) (fun q0 => ?_)
  ·
    simp at q0
    refine VCsplit.intro (fun q1 => ?_) (fun q1 => ?_)
    ·
      simp at q1
      refine VCsplit.intro (fun q2 => ?_) (fun q2 => ?_)
      ·
        simp at q2
        refine call_val (small_ct _ ?_) trivial ?_
        · trivial
        rintro _ rfl
        exact ⟨[], ⟨rfl, rfl⟩, (.le fun a => by (try simp only [setR, List.cons_append, List.nil_append]); simp only [List.flatten_append, List.flatten_cons, List.flatten_nil, List.count_append, List.count_nil, List.append_nil, List.nil_append]; omega)⟩
      ·
        simp at q2
        exfalso; omega
    ·
      simp at q1
      exfalso; omega
  ·
    simp at q0
--@ct internal/strconv.Itoa val itoaI_ct _ ?_ | trivial
theorem itoaI_ct (i : Int) (h : 0 ≤ i ∧ i ≤ 12) : Ct Tryd.prog 63 [.int .i64 i] [] (fun _ => True) (fun v A => v = .string (tx (dcT i)) ∧ A = []) := by
  refine Ct.intro0 G_ok Tryd.func63 rfl rfl rfl fun E H hp => ?_
  refine call_val (formatInt_ct _ ?_) trivial ?_
  · trivial
  rintro _ rfl
  exact ⟨[], ⟨rfl, rfl⟩, (.le fun a => by (try simp only [setR, List.cons_append, List.nil_append]); simp only [List.flatten_append, List.flatten_cons, List.flatten_nil, List.count_append, List.count_nil, List.append_nil, List.nil_append]; omega)⟩
--@ct strconv.Itoa val itoa_ct _ ?_ | trivial
theorem itoa_ct (i : Int) (h : 0 ≤ i ∧ i ≤ 12) : Ct Tryd.prog 46 [.int .i64 i] [] (fun _ => True) (fun v A => v = .string (tx (dcT i)) ∧ A = []) := by
  refine Ct.intro0 G_ok Tryd.func46 rfl rfl rfl fun E H hp => ?_
  refine call_val (itoaI_ct _ ?_) trivial ?_
  · trivial
  rintro _ rfl
  exact ⟨[], ⟨rfl, rfl⟩, (.le fun a => by (try simp only [setR, List.cons_append, List.nil_append]); simp only [List.flatten_append, List.flatten_cons, List.flatten_nil, List.count_append, List.count_nil, List.append_nil, List.nil_append]; omega)⟩
--@ct impl.Decimal val decimal12_ct _ ?_ | trivial
theorem decimal12_ct (i : Int) (h : 0 ≤ i ∧ i ≤ 12) : Ct Tryd.prog 25 [.int .i64 i] [] (fun _ => True) (fun v A => v = .string (tx (dcT i)) ∧ A = []) := by
  refine Ct.intro0 G_ok Tryd.func25 rfl rfl rfl fun E H hp => ?_
  refine call_val (itoa_ct _ ?_) trivial ?_
  · trivial
  rintro _ rfl
  exact ⟨[], ⟨rfl, rfl⟩, (.le fun a => by (try simp only [setR, List.cons_append, List.nil_append]); simp only [List.flatten_append, List.flatten_cons, List.flatten_nil, List.count_append, List.count_nil, List.append_nil, List.nil_append]; omega)⟩
--@ct spec.l01Figure val l01Figure_ct _ ?_ | trivial
theorem l01Figure_ct (d : Int) (h : 0 ≤ d ∧ d < 10) : Ct Tryd.prog 37 [.int .i64 d] [] (fun _ => True) (fun v A => v = .int .u8 (48 + d) ∧ A = []) := by
  refine Ct.intro0 G_ok Tryd.func37 rfl rfl rfl fun E H hp => ?_
  refine VCsplit.intro (fun q0 => ?_) (fun q0 => ?_)
  ·
    simp at q0
    exact ⟨[], ⟨by rw [wrap_of (x := 48 + d) (by omega) (by omega), u8_wrap, Int.emod_eq_of_lt (by omega) (by omega)], rfl⟩, (.le fun a => by (try simp only [setR, List.cons_append, List.nil_append]); simp only [List.flatten_append, List.flatten_cons, List.flatten_nil, List.count_append, List.count_nil, List.append_nil, List.nil_append]; omega)⟩
  ·
    simp at q0
    exfalso; omega
theorem dec_mod (m : Nat) : Int.tmod (m : Int) 10 = ((m % 10 : Nat) : Int) := by rw [Int.tmod_eq_emod_of_nonneg (by omega)]; rfl
theorem dec_div (m : Nat) : Int.tdiv (m : Int) 10 = ((m / 10 : Nat) : Int) := by rw [Int.tdiv_eq_ediv_of_nonneg (by omega)]; rfl
theorem dec_cons (m : Nat) (s : List UInt8) : (⟨(([48 + Int.tmod (m : Int) 10] : List Int).map fun v => UInt8.ofNat v.toNat).toArray⟩ : ByteArray) ++ tx s = tx (UInt8.ofNat (48 + m % 10) :: s) := by
  rw [dec_mod]
  have e : (48 + ((m % 10 : Nat) : Int)).toNat = 48 + m % 10 := by omega
  have e2 : (⟨(([48 + ((m % 10 : Nat) : Int)] : List Int).map fun v => UInt8.ofNat v.toNat).toArray⟩ : ByteArray) = tx [UInt8.ofNat (48 + m % 10)] := by
    unfold tx
    rw [List.map_cons, e]; rfl
  rw [e2, ← tx_app]; rfl
theorem inU8_dec (m : Nat) : inU8 [48 + Int.tmod (m : Int) 10] := by
  rw [dec_mod]
  exact ⟨⟨by omega, by omega⟩, trivial⟩
--@ct spec.Decimal val specDecimal_ct _ ?_ | trivial
theorem specDecimal_ct (n : Int) (h : 0 ≤ n ∧ n ≤ 9223372036854775807) : Ct Tryd.prog 17 [.int .i64 n] [] (fun _ => True) (fun v A => v = .string (tx (dcT n)) ∧ A = []) := by
  refine Ct.intro0 G_ok Tryd.func17 rfl rfl rfl fun E H hp => ?_
  have h19 := dec_i64 h
  refine VCsplit.intro (fun q0 => ?_) (fun q0 => ?_)
  ·
    simp at q0
    (rw [‹n = 0›]; exact ⟨[], ⟨by unfold dcT; rw [show Int.toNat 0 = 0 from rfl, dec_zero]; rfl, rfl⟩, (.le fun a => by (try simp only [setR, List.cons_append, List.nil_append]); simp only [List.flatten_append, List.flatten_cons, List.flatten_nil, List.count_append, List.count_nil, List.append_nil, List.nil_append]; omega)⟩)
  ·
    simp at q0
    apply loop_mod (α := (Nat) × (List UInt8)) G_ok [10, 11, 12, 13, 5, 14, 15, 16, 17, 18, 19, 20, 21, 22, 23, 4, 24, 25, 0] (fun z => [(4, .v (.string (tx z.2))), (0, .v (.int .i64 z.1))]) (fun z => []) (fun z => [H]) (fun z => z.1) (fun z => decI n.toNat z.1 z.2 ∧ (z.1 : Int) ≤ n) ((n.toNat, []))
    · repeat' (first | exact trivial | refine ⟨⟨_, rfl, by first | rfl | exact inc_eq _ (by omega) | (refine sl_eq ?_; simp; done) | exact congrArg (fun v => SV.v (Value.int .i64 v)) (Int.toNat_of_nonneg h.1).symm | exact congrArg (fun v => Value.int .i64 v) (Int.toNat_of_nonneg h.1).symm | exact congrArg (fun v => SV.v (Value.int .i64 v)) hwd | exact congrArg (fun v => SV.v (Value.string v)) (dec_cons m s) | exact congrArg (fun v => Value.int .i64 v) hwd | exact congrArg (fun v => Value.string v) (dec_cons m s), by first | exact trivial | simp [SV.ok]⟩, ?_⟩)
    · exact trivial
    · try dsimp only
      exact ⟨decI_init (by omega), by omega⟩
    · exact .refl _
    rintro ⟨m, s⟩ hI
    obtain ⟨hI, hm⟩ : decI n.toNat m s ∧ (m : Int) ≤ n := hI
    try dsimp only
    refine VCsplit.intro (fun q1 => ?_) (fun q1 => ?_)
    ·
      simp at q1
      have htm := dec_mod m
      have htd := dec_div m
      have hwd : IntKind.i64.wrap (Int.tdiv (m : Int) 10) = ((m / 10 : Nat) : Int) := (by rw [htd, wrap_of (by omega) (by omega)])
      have hsl := decI_le hI
      have h7 : IntKind.i64.max = 9223372036854775807 := rfl
      refine VC.intro ?_ ?_
      · trivial
      refine VCsplit.intro (fun q2 => ?_) (fun q2 => ?_)
      ·
        simp at q2
        exact absurd (htm ▸ q2 : ((m % 10 : Nat) : Int) < 0) (by omega)
      ·
        simp at q2
        refine call_val (l01Figure_ct _ ?_) trivial ?_
        · omega
        rintro _ rfl
        refine VCnew.intro fun x4 => ?_
        refine conv_bs G_ok (([(48 : Int) + (↑m : Int).tmod (10 : Int)] : List Int).map fun v => UInt8.ofNat v.toNat) rfl (lit_bs [(48 : Int) + (↑m : Int).tmod (10 : Int)] (mem_at 0 rfl _ (List.mem_singleton.2 rfl)) rfl ?_ (by simp)) rfl rfl rfl ?_
        · (simp only [inU8, u8_wrap, and_true]; omega)
        refine VC.intro ?_ ?_
        · (simp only [ByteArray.size_append, tx, bsz, List.length_map, List.length_cons, List.length_nil]; omega)
        refine VC.intro ?_ ?_
        · trivial
        apply loop_stepA (m / 10, UInt8.ofNat (48 + m % 10) :: s)
        · exact .sub (by repeat (first | exact .slnil | apply List.Sublist.cons_cons | apply List.Sublist.cons))
        · repeat' (first | exact trivial | refine ⟨⟨_, rfl, by first | rfl | exact inc_eq _ (by omega) | (refine sl_eq ?_; simp; done) | exact congrArg (fun v => SV.v (Value.int .i64 v)) (Int.toNat_of_nonneg h.1).symm | exact congrArg (fun v => Value.int .i64 v) (Int.toNat_of_nonneg h.1).symm | exact congrArg (fun v => SV.v (Value.int .i64 v)) hwd | exact congrArg (fun v => SV.v (Value.string v)) (dec_cons m s) | exact congrArg (fun v => Value.int .i64 v) hwd | exact congrArg (fun v => Value.string v) (dec_cons m s), by first | exact trivial | simp [SV.ok]⟩, ?_⟩)
        · exact trivial
        · try dsimp only
          exact ⟨decI_step hI (by omega), by omega⟩
        · try dsimp only
          omega
    ·
      simp at q1
      refine VCsplit.intro (fun q5 => ?_) (fun q5 => ?_)
      ·
        simp at q5
        exfalso; omega
      ·
        simp at q5
        (have hm0 : m = 0 := (by omega); subst hm0; rw [decI_end hI]; exact ⟨[], ⟨rfl, rfl⟩, (.le fun a => by (try simp only [setR, List.cons_append, List.nil_append]); simp only [List.flatten_append, List.flatten_cons, List.flatten_nil, List.count_append, List.count_nil, List.append_nil, List.nil_append]; omega)⟩)

end Go.Proofs.YtcnclhjhnjpeiaaDoor
