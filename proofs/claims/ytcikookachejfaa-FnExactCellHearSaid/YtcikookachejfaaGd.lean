/-
  The laws' helpers over their types: marks, and what is held (printed by gent.py). Conditions: none.
-/
import Derived.Test.YtcikookachejfaaGc
namespace Go.Proofs.Ytcikookachejfaa
open Go.SX Go.Proofs
set_option maxHeartbeats 4000000
set_option linter.unusedSimpArgs false
set_option linter.unusedVariables false

theorem dgs_size : ∀ (f k : Nat) (out : ByteArray), (dgs f k out).size ≤ f + out.size
  | 0, k, out => by simp [dgs]
  | f + 1, k, out => by
    unfold dgs
    split
    · omega
    · have := dgs_size f (k / 10) (⟨#[UInt8.ofNat (48 + k % 10)]⟩ ++ out)
      rw [ByteArray.size_append] at this
      have e : (⟨#[UInt8.ofNat (48 + k % 10)]⟩ : ByteArray).size = 1 := rfl
      omega
theorem sz1 (x : UInt8) : (⟨#[x]⟩ : ByteArray).size = 1 := rfl
theorem dgs_dig (q : Nat) : ((q : Int).tmod 10) = ((q % 10 : Nat) : Int) := by rw [Int.tmod_eq_emod_of_nonneg (by omega)]; omega
theorem dgs_fr (q : Nat) (o : ByteArray) : Value.string (⟨(([IntKind.u8.wrap (IntKind.i64.wrap (48 + (q : Int).tmod 10))] : List Int).map fun v => UInt8.ofNat v.toNat).toArray⟩ ++ o) = Value.string (⟨#[UInt8.ofNat (48 + q % 10)]⟩ ++ o) := by
  rw [dgs_dig]
  have h : IntKind.u8.wrap (IntKind.i64.wrap (48 + ((q % 10 : Nat) : Int))) = ((48 + q % 10 : Nat) : Int) := by
    simp (disch := omega) only [wrap_of, u8_wrap]; omega
  rw [h]; rfl
theorem mtx_size (k : Int) : (mtx k).size ≤ 9223372036854775807 := by
  unfold mtx
  split
  · decide
  · have := dgs_size 20 k.toNat .empty
    rw [ByteArray.size_append]
    have e : (⟨#[109]⟩ : ByteArray).size = 1 := rfl
    have e2 : ByteArray.empty.size = 0 := rfl
    omega
--@ct laws.markText val markText_ct _ ?_
theorem markText_ct (k : Int) (h1 : k ≤ 4611686018427387904) : Ct Try.prog 73 [.int .i64 k] [] (fun _ => True) (fun v A => v = .string (mtx k) ∧ A = []) := by
  refine Ct.intro0 G_ok Try.func73 rfl rfl rfl fun E H hp => ?_
  refine VCsplit.intro (fun q0 => ?_) (fun q0 => ?_)
  ·
    simp at q0
    exact ⟨[], ⟨by unfold mtx; rw [if_pos (by omega)], rfl⟩, (.le fun a => by (try simp only [setR, List.cons_append, List.nil_append]); simp only [List.flatten_append, List.flatten_cons, List.flatten_nil, List.count_append, List.count_nil, List.append_nil, List.nil_append]; omega)⟩
  ·
    simp at q0
    apply loop_mod (α := (Nat) × (Nat) × (ByteArray)) G_ok [6, 7, 8, 9, 10, 11, 12, 13, 14, 15, 3, 16, 17, 0] (fun z => [(3, .v (.string z.2.2)), (0, .v (.int .i64 z.2.1))]) (fun z => []) (fun z => [H]) (fun z => z.2.1) (fun z => dgs z.1 z.2.1 z.2.2 = dgs 20 k.toNat .empty ∧ z.2.1 < 10 ^ z.1 ∧ z.2.2.size + z.1 ≤ 20 ∧ z.2.1 ≤ 4611686018427387904) ((20, k.toNat, .empty))
    · repeat' (first | exact trivial | refine ⟨⟨_, rfl, by first | rfl | exact inc_eq _ (by omega) | (refine sl_eq ?_; simp; done) | (refine svi_eq ?_; (try dsimp only); omega) | exact dgs_fr q o | (refine svi_eq ?_; (try dsimp only); rw [Int.tdiv_eq_ediv_of_nonneg (show (0 : Int) ≤ (q : Int) by omega)]; (try simp (disch := omega) only [wrap_of]); omega), by first | exact trivial | simp [SV.ok]⟩, ?_⟩)
    · exact trivial
    · try dsimp only
      exact ⟨rfl, by omega, by decide, by omega⟩
    · exact .refl _
    rintro ⟨f, q, o⟩ hI
    obtain ⟨hd, hq, hs, hm⟩ : dgs f q o = dgs 20 k.toNat .empty ∧ q < 10 ^ f ∧ o.size + f ≤ 20 ∧ q ≤ 4611686018427387904 := hI
    try dsimp only
    refine VCsplit.intro (fun q1 => ?_) (fun q1 => ?_)
    ·
      simp at q1
      obtain ⟨f, rfl⟩ : ∃ f', f = f' + 1 := by cases f with | zero => simp at hq; omega | succ f' => exact ⟨f', rfl⟩
      refine VC.intro ?_ ?_
      · trivial
      refine VCnew.intro fun x2 => ?_
      refine conv_bs G_ok (([IntKind.u8.wrap (IntKind.i64.wrap ((48 : Int) + (↑q : Int).tmod (10 : Int)))] : List Int).map fun v => UInt8.ofNat v.toNat) rfl (lit_bs [IntKind.u8.wrap (IntKind.i64.wrap ((48 : Int) + (↑q : Int).tmod (10 : Int)))] (mem_at 0 rfl _ (List.mem_singleton.2 rfl)) rfl ?_ (by simp)) rfl rfl rfl ?_
      · (simp only [inU8, u8_wrap, and_true]; omega)
      refine VC.intro ?_ ?_
      · (rw [bsz]; simp only [List.length_map, List.length_cons, List.length_nil]; have : IntKind.i64.max = 9223372036854775807 := rfl; omega)
      refine VC.intro ?_ ?_
      · trivial
      apply loop_stepA (f, q / 10, ⟨#[UInt8.ofNat (48 + q % 10)]⟩ ++ o)
      · exact .sub (by repeat (first | exact .slnil | apply List.Sublist.cons_cons | apply List.Sublist.cons))
      · repeat' (first | exact trivial | refine ⟨⟨_, rfl, by first | rfl | exact inc_eq _ (by omega) | (refine sl_eq ?_; simp; done) | (refine svi_eq ?_; (try dsimp only); omega) | exact dgs_fr q o | (refine svi_eq ?_; (try dsimp only); rw [Int.tdiv_eq_ediv_of_nonneg (show (0 : Int) ≤ (q : Int) by omega)]; (try simp (disch := omega) only [wrap_of]); omega), by first | exact trivial | simp [SV.ok]⟩, ?_⟩)
      · exact trivial
      · try dsimp only
        exact ⟨by rw [← hd]; conv => rhs; unfold dgs; rw [if_neg (by omega : ¬ q = 0)], by rw [Nat.pow_succ] at hq; omega, by rw [ByteArray.size_append, sz1]; omega, by omega⟩
      · try dsimp only
        omega
    ·
      simp at q1
      obtain rfl : q = 0 := by omega
      have hd0 : o = dgs 20 k.toNat .empty := by rw [← hd]; cases f <;> simp [dgs]
      refine VC.intro ?_ ?_
      · (have e1 : (⟨#[109]⟩ : ByteArray).size = 1 := rfl; have : IntKind.i64.max = 9223372036854775807 := rfl; omega)
      exact ⟨[], ⟨by unfold mtx; rw [if_neg (by omega), hd0], rfl⟩, (.le fun a => by (try simp only [setR, List.cons_append, List.nil_append]); simp only [List.flatten_append, List.flatten_cons, List.flatten_nil, List.count_append, List.count_nil, List.append_nil, List.nil_append]; omega)⟩

--@ct laws.markIntS mark1 markIntS_ct _ _ _ _ _ _ ~ ?_ ?_
theorem markIntS_ct (b : Option Addr) (m c : Nat) (xs : List Int) (A : Hp) (k0 : Int) (ho : (gSl 3 gI).ow [.slice b m c] xs A) (h0 : 0 ≤ k0) (h1 : k0 + cntL gI xs ≤ 4611686018427387904) :
    CtR Try.prog 77 [.slice b m c, .int .i64 k0] A (fun _ => True) (fun v A => v = .int .i64 (k0 + cntL gI xs) ∧ (gSl 3 gI).ow [.slice b m c] (mkL gI k0 xs) A) := by
  obtain ⟨rfl, hcl, hl⟩ := sl_len (Gt.owrd _ ho)
  refine CtR.intro G_ok [A] Try.func77 rfl rfl rfl (by simp) fun E H hp => ?_
  apply loop_mod (α := (Nat) × (Hp)) G_ok [6, 7, 8, 9, 12, 13, 14, 15, 16, 17, 1, 10, 11, 5] (fun z => [(5, .v (.int .i64 z.1)), (1, .v (.int .i64 (k0 + cntL gI (xs.take z.1))))]) (fun z => []) (fun z => [z.2, H]) (fun z => xs.length - z.1) (fun z => z.1 ≤ xs.length ∧ (gSl 3 gI).ow [.slice b xs.length c] (mkL gI k0 (xs.take z.1) ++ xs.drop z.1) z.2) ((0, A))
  · repeat' (first | exact trivial | refine ⟨⟨_, rfl, by first | rfl | exact inc_eq _ (by omega) | (refine sl_eq ?_; simp; done) | (refine svi_eq ?_; subst_vars; (try dsimp only); (try simp (disch := omega) only [wrap_of]); omega) | (simp [cntL]), by first | exact trivial | simp [SV.ok]⟩, ?_⟩)
  · exact trivial
  · try dsimp only
    exact ⟨by omega, by simpa [mkL] using ho⟩
  · exact .refl _
  rintro ⟨k, B⟩ hI
  obtain ⟨hk, oB⟩ : k ≤ xs.length ∧ (gSl 3 gI).ow [.slice b xs.length c] (mkL gI k0 (xs.take k) ++ xs.drop k) B := hI
  try dsimp only
  refine VCsplit.intro (fun q0 => ?_) (fun q0 => ?_)
  ·
    simp at q0
    have hs : cntL gI (xs.take (k + 1)) = cntL gI (xs.take k) + 1 := (cntL_step gI xs k 0 (by omega))
    have hs2 := cntL_take_le gI xs (k + 1)
    refine idx_rd (Gt.owrd _ oB) ?_ ?_ fun b1 o1 hb1 => ?_
    · omega
    · (rw [mk_len _ _ _ _ (by omega)]; omega)
    refine gstoreN (Fld.id _) 0 (k) 0 rfl rfl oB ?_ ?_ hb1 rfl gI_pl _ (gI_ow ?_) fun A2 o2 => ?_
    · omega
    · (rw [mk_len _ _ _ _ (by omega)]; omega)
    · unfold okI; omega
    apply loop_stepA (k + 1, _)
    · exact .refl _
    · repeat' (first | exact trivial | refine ⟨⟨_, rfl, by first | rfl | exact inc_eq _ (by omega) | (refine sl_eq ?_; simp; done) | (refine svi_eq ?_; subst_vars; (try dsimp only); (try simp (disch := omega) only [wrap_of]); omega) | (simp [cntL]), by first | exact trivial | simp [SV.ok]⟩, ?_⟩)
    · exact trivial
    · try dsimp only
      exact ⟨by omega, by rw [← mk_step gI 0 xs k0 k (by omega)] ; assumption⟩
    · try dsimp only
      omega
  ·
    simp at q0
    obtain rfl : k = xs.length := by omega
    rw [List.take_length, List.drop_length, List.append_nil] at oB
    exact ⟨_, ⟨by rw [List.take_length], oB⟩, (.le fun a => by (try simp only [setR, List.cons_append, List.nil_append]); simp only [List.flatten_append, List.flatten_cons, List.flatten_nil, List.count_append, List.count_nil, List.append_nil, List.nil_append]; omega)⟩

--@ct laws.heldIntS val heldIntS_ct _ _ _ _ _ _ ?_ ?_ ?_ | %1
theorem heldIntS_ct (b : Option Addr) (m c : Nat) (xs : List Int) (k0 k1 : Int) (hk1 : k0 = k1) (h0 : 0 ≤ k0) (h1 : k0 + cntL gI xs ≤ 4611686018427387904) :
    Ct Try.prog 81 [.slice b m c, .int .i64 k0] [] (fun H => (gSl 3 gI).rd H [.slice b m c] (mkL gI k1 xs)) (fun v A => v = .int .i64 (k0 + cntL gI xs) ∧ A = []) := by
  subst hk1
  refine Ct.intro0 G_ok Try.func81 rfl rfl rfl fun E H hp => ?_
  have hm0 := (sl_len hp).1
  rw [mkL_len] at hm0; subst hm0
  obtain ⟨-, hcl, hl⟩ := sl_len hp
  rw [mkL_len] at hcl hl
  have hln := mkL_len gI xs k0
  apply loop_mod (α := (Nat)) G_ok [6, 7, 8, 9, 12, 13, 14, 15, 16, 17, 4, 18, 19, 1, 10, 11, 5] (fun z => [(5, .v (.int .i64 z)), (1, .v (.int .i64 (k0 + cntL gI (xs.take z))))]) (fun z => []) (fun z => [H]) (fun z => xs.length - z) (fun z => z ≤ xs.length) (0)
  · repeat' (first | exact trivial | refine ⟨⟨_, rfl, by first | rfl | exact inc_eq _ (by omega) | (refine sl_eq ?_; simp; done) | (refine svi_eq ?_; (try dsimp only); (try simp (disch := omega) only [wrap_of]); omega) | (simp [cntL]), by first | exact trivial | simp [SV.ok]⟩, ?_⟩)
  · exact trivial
  · omega
  · exact .refl _
  rintro k hI
  obtain hk : k ≤ xs.length := hI
  try dsimp only
  refine VCsplit.intro (fun q0 => ?_) (fun q0 => ?_)
  ·
    simp at q0
    have hs : cntL gI (xs.take (k + 1)) = cntL gI (xs.take k) + 1 := (cntL_step gI xs k 0 (by omega))
    have hs2 := cntL_take_le gI xs (k + 1)
    have hm : (mkL gI k0 xs)[k]?.getD 0 = k0 + cntL gI (xs.take k) := mkL_get gI 0 xs k0 k (by omega)
    refine idx_rd hp ?_ ?_ fun b1 o1 hb1 => ?_
    · omega
    · omega
    refine load_allN 0 (k) rfl hp ?_ ?_ hb1 rfl (mem_at 0 rfl) fun l2 hl2 => ?_
    · omega
    · omega
    rw [hm] at hl2
    obtain ⟨rfl, hw2⟩ := hl2; simp only [flStr, flInt, okI] at hw2
    refine VCsplit.intro (fun q3 => ?_) (fun q3 => ?_)
    ·
      simp at q3
    ·
      simp at q3
      apply loop_stepA (k + 1)
      · exact .refl _
      · repeat' (first | exact trivial | refine ⟨⟨_, rfl, by first | rfl | exact inc_eq _ (by omega) | (refine sl_eq ?_; simp; done) | (refine svi_eq ?_; (try dsimp only); (try simp (disch := omega) only [wrap_of]); omega) | (simp [cntL]), by first | exact trivial | simp [SV.ok]⟩, ?_⟩)
      · exact trivial
      · trivial
      · omega
  ·
    simp at q0
    obtain rfl : k = xs.length := by omega
    exact ⟨[], ⟨by rw [List.take_length], rfl⟩, (.le fun a => by (try simp only [setR, List.cons_append, List.nil_append]); simp only [List.flatten_append, List.flatten_cons, List.flatten_nil, List.count_append, List.count_nil, List.append_nil, List.nil_append]; omega)⟩

--@ct laws.markStringS mark1 markStringS_ct _ _ _ _ _ _ ~ ?_ ?_
theorem markStringS_ct (b : Option Addr) (m c : Nat) (xs : List ByteArray) (A : Hp) (k0 : Int) (ho : (gSl 9 gS).ow [.slice b m c] xs A) (h0 : 0 ≤ k0) (h1 : k0 + cntL gS xs ≤ 4611686018427387904) :
    CtR Try.prog 75 [.slice b m c, .int .i64 k0] A (fun _ => True) (fun v A => v = .int .i64 (k0 + cntL gS xs) ∧ (gSl 9 gS).ow [.slice b m c] (mkL gS k0 xs) A) := by
  obtain ⟨rfl, hcl, hl⟩ := sl_len (Gt.owrd _ ho)
  refine CtR.intro G_ok [A] Try.func75 rfl rfl rfl (by simp) fun E H hp => ?_
  apply loop_mod (α := (Nat) × (Hp)) G_ok [6, 7, 8, 9, 12, 13, 14, 15, 16, 17, 18, 1, 10, 11, 5] (fun z => [(5, .v (.int .i64 z.1)), (1, .v (.int .i64 (k0 + cntL gS (xs.take z.1))))]) (fun z => []) (fun z => [z.2, H]) (fun z => xs.length - z.1) (fun z => z.1 ≤ xs.length ∧ (gSl 9 gS).ow [.slice b xs.length c] (mkL gS k0 (xs.take z.1) ++ xs.drop z.1) z.2) ((0, A))
  · repeat' (first | exact trivial | refine ⟨⟨_, rfl, by first | rfl | exact inc_eq _ (by omega) | (refine sl_eq ?_; simp; done) | (refine svi_eq ?_; subst_vars; (try dsimp only); (try simp (disch := omega) only [wrap_of]); omega) | (simp [cntL]), by first | exact trivial | simp [SV.ok]⟩, ?_⟩)
  · exact trivial
  · try dsimp only
    exact ⟨by omega, by simpa [mkL] using ho⟩
  · exact .refl _
  rintro ⟨k, B⟩ hI
  obtain ⟨hk, oB⟩ : k ≤ xs.length ∧ (gSl 9 gS).ow [.slice b xs.length c] (mkL gS k0 (xs.take k) ++ xs.drop k) B := hI
  try dsimp only
  refine VCsplit.intro (fun q0 => ?_) (fun q0 => ?_)
  ·
    simp at q0
    have hs : cntL gS (xs.take (k + 1)) = cntL gS (xs.take k) + 1 := (cntL_step gS xs k ByteArray.empty (by omega))
    have hs2 := cntL_take_le gS xs (k + 1)
    refine call_val (markText_ct _ ?_) trivial ?_
    · omega
    rintro _ rfl
    refine idx_rd (Gt.owrd _ oB) ?_ ?_ fun b2 o2 hb2 => ?_
    · omega
    · (rw [mk_len _ _ _ _ (by omega)]; omega)
    refine gstoreN (Fld.id _) ByteArray.empty (k) 0 rfl rfl oB ?_ ?_ hb2 rfl fl_pl _ (gS_ow ?_) fun A3 o3 => ?_
    · omega
    · (rw [mk_len _ _ _ _ (by omega)]; omega)
    · exact mtx_size _
    apply loop_stepA (k + 1, _)
    · exact .refl _
    · repeat' (first | exact trivial | refine ⟨⟨_, rfl, by first | rfl | exact inc_eq _ (by omega) | (refine sl_eq ?_; simp; done) | (refine svi_eq ?_; subst_vars; (try dsimp only); (try simp (disch := omega) only [wrap_of]); omega) | (simp [cntL]), by first | exact trivial | simp [SV.ok]⟩, ?_⟩)
    · exact trivial
    · try dsimp only
      exact ⟨by omega, by rw [← mk_step gS ByteArray.empty xs k0 k (by omega)] ; assumption⟩
    · try dsimp only
      omega
  ·
    simp at q0
    obtain rfl : k = xs.length := by omega
    rw [List.take_length, List.drop_length, List.append_nil] at oB
    exact ⟨_, ⟨by rw [List.take_length], oB⟩, (.le fun a => by (try simp only [setR, List.cons_append, List.nil_append]); simp only [List.flatten_append, List.flatten_cons, List.flatten_nil, List.count_append, List.count_nil, List.append_nil, List.nil_append]; omega)⟩

--@ct laws.heldStringS val heldStringS_ct _ _ _ _ _ _ ?_ ?_ ?_ | %1
theorem heldStringS_ct (b : Option Addr) (m c : Nat) (xs : List ByteArray) (k0 k1 : Int) (hk1 : k0 = k1) (h0 : 0 ≤ k0) (h1 : k0 + cntL gS xs ≤ 4611686018427387904) :
    Ct Try.prog 79 [.slice b m c, .int .i64 k0] [] (fun H => (gSl 9 gS).rd H [.slice b m c] (mkL gS k1 xs)) (fun v A => v = .int .i64 (k0 + cntL gS xs) ∧ A = []) := by
  subst hk1
  refine Ct.intro0 G_ok Try.func79 rfl rfl rfl fun E H hp => ?_
  have hm0 := (sl_len hp).1
  rw [mkL_len] at hm0; subst hm0
  obtain ⟨-, hcl, hl⟩ := sl_len hp
  rw [mkL_len] at hcl hl
  have hln := mkL_len gS xs k0
  apply loop_mod (α := (Nat)) G_ok [6, 7, 8, 9, 12, 13, 14, 15, 16, 17, 18, 4, 19, 20, 1, 10, 11, 5] (fun z => [(5, .v (.int .i64 z)), (1, .v (.int .i64 (k0 + cntL gS (xs.take z))))]) (fun z => []) (fun z => [H]) (fun z => xs.length - z) (fun z => z ≤ xs.length) (0)
  · repeat' (first | exact trivial | refine ⟨⟨_, rfl, by first | rfl | exact inc_eq _ (by omega) | (refine sl_eq ?_; simp; done) | (refine svi_eq ?_; (try dsimp only); (try simp (disch := omega) only [wrap_of]); omega) | (simp [cntL]), by first | exact trivial | simp [SV.ok]⟩, ?_⟩)
  · exact trivial
  · omega
  · exact .refl _
  rintro k hI
  obtain hk : k ≤ xs.length := hI
  try dsimp only
  refine VCsplit.intro (fun q0 => ?_) (fun q0 => ?_)
  ·
    simp at q0
    have hs : cntL gS (xs.take (k + 1)) = cntL gS (xs.take k) + 1 := (cntL_step gS xs k ByteArray.empty (by omega))
    have hs2 := cntL_take_le gS xs (k + 1)
    have hm : (mkL gS k0 xs)[k]?.getD ByteArray.empty = mtx (k0 + cntL gS (xs.take k)) := mkL_get gS ByteArray.empty xs k0 k (by omega)
    refine draw G_ok mixed none (.q 0 (.q 1 (.q 2 (.q 3 (.q 4 (.f 5 (.q 6 (.nil)))))))) (by decide +kernel) ?_
    refine idx_rd hp ?_ ?_ fun b1 o1 hb1 => ?_
    · omega
    · omega
    refine load_allN ByteArray.empty (k) rfl hp ?_ ?_ hb1 rfl (mem_at 0 rfl) fun l2 hl2 => ?_
    · omega
    · omega
    rw [hm] at hl2
    obtain ⟨rfl, hw2⟩ := hl2; simp only [flStr, flInt, okI] at hw2
    refine call_val (markText_ct _ ?_) trivial ?_
    · omega
    rintro _ rfl
    refine VC.intro ?_ ?_
    · exact fun _ h => h
    refine VCsplit.intro (fun q4 => ?_) (fun q4 => ?_)
    ·
      simp at q4
    ·
      simp at q4
      apply loop_stepA (k + 1)
      · exact .refl _
      · repeat' (first | exact trivial | refine ⟨⟨_, rfl, by first | rfl | exact inc_eq _ (by omega) | (refine sl_eq ?_; simp; done) | (refine svi_eq ?_; (try dsimp only); (try simp (disch := omega) only [wrap_of]); omega) | (simp [cntL]), by first | exact trivial | simp [SV.ok]⟩, ?_⟩)
      · exact trivial
      · trivial
      · omega
  ·
    simp at q0
    obtain rfl : k = xs.length := by omega
    exact ⟨[], ⟨by rw [List.take_length], rfl⟩, (.le fun a => by (try simp only [setR, List.cons_append, List.nil_append]); simp only [List.flatten_append, List.flatten_cons, List.flatten_nil, List.count_append, List.count_nil, List.append_nil, List.nil_append]; omega)⟩

--@ct laws.markItemS mark1 markItemS_ct _ _ _ _ _ _ ~ ?_ ?_
theorem markItemS_ct (b : Option Addr) (m c : Nat) (xs : List Item) (A : Hp) (k0 : Int) (ho : (gSl 144 gItem).ow [.slice b m c] xs A) (h0 : 0 ≤ k0) (h1 : k0 + cntL gItem xs ≤ 4611686018427387904) :
    CtR Try.prog 118 [.slice b m c, .int .i64 k0] A (fun _ => True) (fun v A => v = .int .i64 (k0 + cntL gItem xs) ∧ (gSl 144 gItem).ow [.slice b m c] (mkL gItem k0 xs) A) := by
  obtain ⟨rfl, hcl, hl⟩ := sl_len (Gt.owrd _ ho)
  refine CtR.intro G_ok [A] Try.func118 rfl rfl rfl (by simp) fun E H hp => ?_
  apply loop_mod (α := (Nat) × (Hp)) G_ok [6, 7, 8, 9, 12, 13, 14, 15, 16, 17, 18, 1, 19, 20, 21, 22, 23, 24, 25, 10, 11, 5] (fun z => [(5, .v (.int .i64 z.1)), (1, .v (.int .i64 (k0 + cntL gItem (xs.take z.1))))]) (fun z => []) (fun z => [z.2, H]) (fun z => xs.length - z.1) (fun z => z.1 ≤ xs.length ∧ (gSl 144 gItem).ow [.slice b xs.length c] (mkL gItem k0 (xs.take z.1) ++ xs.drop z.1) z.2) ((0, A))
  · repeat' (first | exact trivial | refine ⟨⟨_, rfl, by first | rfl | exact inc_eq _ (by omega) | (refine sl_eq ?_; simp; done) | (refine svi_eq ?_; subst_vars; (try dsimp only); (try simp (disch := omega) only [wrap_of]); omega) | (simp [cntL]), by first | exact trivial | simp [SV.ok]⟩, ?_⟩)
  · exact trivial
  · try dsimp only
    exact ⟨by omega, by simpa [mkL] using ho⟩
  · exact .refl _
  rintro ⟨k, B⟩ hI
  obtain ⟨hk, oB⟩ : k ≤ xs.length ∧ (gSl 144 gItem).ow [.slice b xs.length c] (mkL gItem k0 (xs.take k) ++ xs.drop k) B := hI
  try dsimp only
  refine VCsplit.intro (fun q0 => ?_) (fun q0 => ?_)
  ·
    simp at q0
    have hs := (cntL_step gItem xs k default (by omega))
    simp only [gItem_cnt] at hs
    have hs2 := cntL_take_le gItem xs (k + 1)
    obtain ⟨y, ey, oe⟩ := OwE.mk default k oB (by rw [mk_len _ _ _ _ (by omega)]; omega)
    rw [mk_get _ _ _ _ _ (by omega)] at ey
    clear oB
    refine oe_idx oe ?_ fun b1 o1 hb1 => ?_
    · rfl
    refine oe_load gItem_row oe rfl hb1 rfl (mem_at 0 rfl) fun l2 hl2 hf2 => ?_
    obtain ⟨u2, w2, rfl, hl2⟩ := sl_rd hl2
    refine call_foc 0 rfl hf2 (fun Af3 oa3 => markIntS_ct _ _ _ _ _ _ oa3 ?_ ?_) (fun _ _ => trivial) ?_
    · omega
    · simp_all; omega
    rintro _ A3 rfl ⟨y3, ey3, o3⟩
    try dsimp only at ey3
    refine oe_idx o3 ?_ fun b4 o4 hb4 => ?_
    · rfl
    refine oe_store gItem_times 0 rfl o3 rfl hb4 rfl gI_pl _ (gI_ow ?_) fun y5 A5 ey5 o5 => ?_
    · (subst_vars; unfold okI; (try dsimp only at *); omega)
    apply loop_stepA (k + 1, _)
    · exact .refl _
    · repeat' (first | exact trivial | refine ⟨⟨_, rfl, by first | rfl | exact inc_eq _ (by omega) | (refine sl_eq ?_; simp; done) | (refine svi_eq ?_; subst_vars; (try dsimp only); (try simp (disch := omega) only [wrap_of]); omega) | (simp [cntL]), by first | exact trivial | simp [SV.ok]⟩, ?_⟩)
    · exact trivial
    · try dsimp only
      exact ⟨by omega, OwE.done (by assumption) (by rw [← mk_step gItem default xs k0 k (by omega)]; congr 1; subst_vars; (try simp only [gItem_mark, gItem_cnt]); (try simp (disch := omega) only [wrap_of]); (try rfl))⟩
    · try dsimp only
      omega
  ·
    simp at q0
    obtain rfl : k = xs.length := by omega
    rw [List.take_length, List.drop_length, List.append_nil] at oB
    exact ⟨_, ⟨by rw [List.take_length], oB⟩, (.le fun a => by (try simp only [setR, List.cons_append, List.nil_append]); simp only [List.flatten_append, List.flatten_cons, List.flatten_nil, List.count_append, List.count_nil, List.append_nil, List.nil_append]; omega)⟩

--@ct laws.heldItemS val heldItemS_ct _ _ _ _ _ _ ?_ ?_ ?_ | %1
theorem heldItemS_ct (b : Option Addr) (m c : Nat) (xs : List Item) (k0 k1 : Int) (hk1 : k0 = k1) (h0 : 0 ≤ k0) (h1 : k0 + cntL gItem xs ≤ 4611686018427387904) :
    Ct Try.prog 185 [.slice b m c, .int .i64 k0] [] (fun H => (gSl 144 gItem).rd H [.slice b m c] (mkL gItem k1 xs)) (fun v A => v = .int .i64 (k0 + cntL gItem xs) ∧ A = []) := by
  subst hk1
  refine Ct.intro0 G_ok Try.func185 rfl rfl rfl fun E H hp => ?_
  have hm0 := (sl_len hp).1
  rw [mkL_len] at hm0; subst hm0
  obtain ⟨-, hcl, hl⟩ := sl_len hp
  rw [mkL_len] at hcl hl
  have hln := mkL_len gItem xs k0
  apply loop_mod (α := (Nat)) G_ok [6, 7, 8, 9, 12, 13, 14, 15, 16, 17, 18, 1, 19, 20, 4, 21, 22, 23, 24, 25, 26, 27, 28, 29, 10, 11, 5] (fun z => [(5, .v (.int .i64 z)), (1, .v (.int .i64 (k0 + cntL gItem (xs.take z))))]) (fun z => []) (fun z => [H]) (fun z => xs.length - z) (fun z => z ≤ xs.length) (0)
  · repeat' (first | exact trivial | refine ⟨⟨_, rfl, by first | rfl | exact inc_eq _ (by omega) | (refine sl_eq ?_; simp; done) | (refine svi_eq ?_; (try dsimp only); (try simp (disch := omega) only [wrap_of]); omega) | (simp [cntL]), by first | exact trivial | simp [SV.ok]⟩, ?_⟩)
  · exact trivial
  · omega
  · exact .refl _
  rintro k hI
  obtain hk : k ≤ xs.length := hI
  try dsimp only
  refine VCsplit.intro (fun q0 => ?_) (fun q0 => ?_)
  ·
    simp at q0
    have hs := (cntL_step gItem xs k default (by omega))
    simp only [gItem_cnt] at hs
    have hs2 := cntL_take_le gItem xs (k + 1)
    have hm := mkL_get gItem default xs k0 k (by omega)
    simp only [gItem_mark, gItem_cnt] at hm
    refine idx_rd hp ?_ ?_ fun b1 o1 hb1 => ?_
    · omega
    · omega
    refine load_partN default (k) 0 rfl hp ?_ ?_ hb1 rfl (by decide) (mem_at 0 rfl) fun l2 hl2 => ?_
    · omega
    · omega
    rw [hm] at hl2
    obtain ⟨b0x2, c0x2, rfl, h0x2, w1x2⟩ := gItem_rd.1 hl2
    refine call_val (heldIntS_ct _ _ _ _ _ _ ?_ ?_ ?_) (Rp.mono _ (mem_at 0 rfl) h0x2) ?_
    · rfl
    · omega
    · omega
    rintro _ rfl
    refine VCsplit.intro (fun q4 => ?_) (fun q4 => ?_)
    ·
      simp at q4
      exfalso; omega
    ·
      simp at q4
      refine idx_rd hp ?_ ?_ fun b5 o5 hb5 => ?_
      · omega
      · omega
      refine load_partN default (k) 1 rfl hp ?_ ?_ hb5 rfl (by decide) (mem_at 0 rfl) fun l6 hl6 => ?_
      · omega
      · omega
      rw [hm] at hl6
      obtain ⟨b0x6, c0x6, rfl, h0x6, w1x6⟩ := gItem_rd.1 hl6
      refine VCsplit.intro (fun q7 => ?_) (fun q7 => ?_)
      ·
        simp at q7
      ·
        simp at q7
        apply loop_stepA (k + 1)
        · exact .refl _
        · repeat' (first | exact trivial | refine ⟨⟨_, rfl, by first | rfl | exact inc_eq _ (by omega) | (refine sl_eq ?_; simp; done) | (refine svi_eq ?_; (try dsimp only); (try simp (disch := omega) only [wrap_of]); omega) | (simp [cntL]), by first | exact trivial | simp [SV.ok]⟩, ?_⟩)
        · exact trivial
        · trivial
        · omega
  ·
    simp at q0
    obtain rfl : k = xs.length := by omega
    exact ⟨[], ⟨by rw [List.take_length], rfl⟩, (.le fun a => by (try simp only [setR, List.cons_append, List.nil_append]); simp only [List.flatten_append, List.flatten_cons, List.flatten_nil, List.count_append, List.count_nil, List.append_nil, List.nil_append]; omega)⟩

--@ct laws.markBag mark1 markBag_ct _ _ _ _ ~ ?_ ?_
theorem markBag_ct (l : List Value) (x : Bag) (A : Hp) (k0 : Int) (ho : gBag.ow l x A) (h0 : 0 ≤ k0) (h1 : k0 + gBag.cntV x ≤ 4611686018427387904) :
    CtR Try.prog 48 [.agg ⟨l⟩, .int .i64 k0] A (fun _ => True) (fun v A => v = .int .i64 (k0 + gBag.cntV x) ∧ gBag.ow l (gBag.markV k0 x) A) := by
  obtain ⟨b0, c0, A0, rfl, hpm, h0⟩ := gBag_ow.1 ho
  have hz := gBag_cntV x
  refine CtR.introP G_ok [A0] Try.func48 rfl rfl rfl (hpm.trans (by simp)) fun E H hp => ?_
  refine VCnew.intro fun x0 => ?_
  refine callR_at 0 rfl (markItemS_ct _ _ _ _ _ _ h0 ?_ ?_) trivial ?_
  · trivial
  · trivial
  rintro _ A1 ⟨rfl, o1⟩
  exact ⟨_, ⟨by rw [hz]; (try simp); (try omega), by rw [gBag_markV]; exact gBag_ow.2 ⟨_, _, _, by simp only [mkL_len]; rfl, .refl _, by rw [mkL_len]; assumption⟩⟩, (.le fun a => by (try simp only [setR, List.cons_append, List.nil_append]); simp only [List.flatten_append, List.flatten_cons, List.flatten_nil, List.count_append, List.count_nil, List.append_nil, List.nil_append]; omega)⟩

--@ct laws.markEdgeS mark1 markEdgeS_ct _ _ _ _ _ _ ~ ?_ ?_
theorem markEdgeS_ct (b : Option Addr) (m c : Nat) (xs : List Edge) (A : Hp) (k0 : Int) (ho : (gSl 192 gEdge).ow [.slice b m c] xs A) (h0 : 0 ≤ k0) (h1 : k0 + cntL gEdge xs ≤ 4611686018427387904) :
    CtR Try.prog 91 [.slice b m c, .int .i64 k0] A (fun _ => True) (fun v A => v = .int .i64 (k0 + cntL gEdge xs) ∧ (gSl 192 gEdge).ow [.slice b m c] (mkL gEdge k0 xs) A) := by
  obtain ⟨rfl, hcl, hl⟩ := sl_len (Gt.owrd _ ho)
  refine CtR.intro G_ok [A] Try.func91 rfl rfl rfl (by simp) fun E H hp => ?_
  apply loop_mod (α := (Nat) × (Hp)) G_ok [6, 7, 8, 9, 12, 13, 14, 15, 16, 17, 18, 1, 19, 20, 21, 22, 23, 24, 25, 26, 27, 28, 29, 30, 31, 32, 33, 10, 11, 5] (fun z => [(5, .v (.int .i64 z.1)), (1, .v (.int .i64 (k0 + cntL gEdge (xs.take z.1))))]) (fun z => []) (fun z => [z.2, H]) (fun z => xs.length - z.1) (fun z => z.1 ≤ xs.length ∧ (gSl 192 gEdge).ow [.slice b xs.length c] (mkL gEdge k0 (xs.take z.1) ++ xs.drop z.1) z.2) ((0, A))
  · repeat' (first | exact trivial | refine ⟨⟨_, rfl, by first | rfl | exact inc_eq _ (by omega) | (refine sl_eq ?_; simp; done) | (refine svi_eq ?_; subst_vars; (try dsimp only); (try simp (disch := omega) only [wrap_of]); omega) | (simp [cntL]), by first | exact trivial | simp [SV.ok]⟩, ?_⟩)
  · exact trivial
  · try dsimp only
    exact ⟨by omega, by simpa [mkL] using ho⟩
  · exact .refl _
  rintro ⟨k, B⟩ hI
  obtain ⟨hk, oB⟩ : k ≤ xs.length ∧ (gSl 192 gEdge).ow [.slice b xs.length c] (mkL gEdge k0 (xs.take k) ++ xs.drop k) B := hI
  try dsimp only
  refine VCsplit.intro (fun q0 => ?_) (fun q0 => ?_)
  ·
    simp at q0
    have hs := (cntL_step gEdge xs k default (by omega))
    simp only [gEdge_cnt] at hs
    have hs2 := cntL_take_le gEdge xs (k + 1)
    obtain ⟨y, ey, oe⟩ := OwE.mk default k oB (by rw [mk_len _ _ _ _ (by omega)]; omega)
    rw [mk_get _ _ _ _ _ (by omega)] at ey
    clear oB
    refine oe_idx oe ?_ fun b1 o1 hb1 => ?_
    · rfl
    refine oe_store gEdge_from 0 rfl oe rfl hb1 rfl gI_pl _ (gI_ow ?_) fun y2 A2 ey2 o2 => ?_
    · unfold okI; omega
    refine oe_idx o2 ?_ fun b3 o3 hb3 => ?_
    · rfl
    refine oe_store gEdge_label 0 rfl o2 rfl hb3 rfl gY_pl _ (gY_owM _) fun y4 A4 ey4 o4 => ?_
    refine oe_idx o4 ?_ fun b5 o5 hb5 => ?_
    · rfl
    refine oe_store gEdge_to 0 rfl o4 rfl hb5 rfl gI_pl _ (gI_ow ?_) fun y6 A6 ey6 o6 => ?_
    · exact okI_wrap _
    apply loop_stepA (k + 1, _)
    · exact .refl _
    · repeat' (first | exact trivial | refine ⟨⟨_, rfl, by first | rfl | exact inc_eq _ (by omega) | (refine sl_eq ?_; simp; done) | (refine svi_eq ?_; subst_vars; (try dsimp only); (try simp (disch := omega) only [wrap_of]); omega) | (simp [cntL]), by first | exact trivial | simp [SV.ok]⟩, ?_⟩)
    · exact trivial
    · try dsimp only
      exact ⟨by omega, OwE.done (by assumption) (by rw [← mk_step gEdge default xs k0 k (by omega)]; congr 1; subst_vars; (try simp only [gEdge_mark, gEdge_cnt]); (try simp (disch := omega) only [wrap_of]); (try rfl))⟩
    · try dsimp only
      omega
  ·
    simp at q0
    obtain rfl : k = xs.length := by omega
    rw [List.take_length, List.drop_length, List.append_nil] at oB
    exact ⟨_, ⟨by rw [List.take_length], oB⟩, (.le fun a => by (try simp only [setR, List.cons_append, List.nil_append]); simp only [List.flatten_append, List.flatten_cons, List.flatten_nil, List.count_append, List.count_nil, List.append_nil, List.nil_append]; omega)⟩

--@ct laws.heldEdgeS val heldEdgeS_ct _ _ _ _ _ _ ?_ ?_ ?_ | %1
theorem heldEdgeS_ct (b : Option Addr) (m c : Nat) (xs : List Edge) (k0 k1 : Int) (hk1 : k0 = k1) (h0 : 0 ≤ k0) (h1 : k0 + cntL gEdge xs ≤ 4611686018427387904) :
    Ct Try.prog 92 [.slice b m c, .int .i64 k0] [] (fun H => (gSl 192 gEdge).rd H [.slice b m c] (mkL gEdge k1 xs)) (fun v A => v = .int .i64 (k0 + cntL gEdge xs) ∧ A = []) := by
  subst hk1
  refine Ct.intro0 G_ok Try.func92 rfl rfl rfl fun E H hp => ?_
  have hm0 := (sl_len hp).1
  rw [mkL_len] at hm0; subst hm0
  obtain ⟨-, hcl, hl⟩ := sl_len hp
  rw [mkL_len] at hcl hl
  have hln := mkL_len gEdge xs k0
  apply loop_mod (α := (Nat)) G_ok [6, 7, 8, 9, 12, 13, 14, 15, 16, 17, 18, 4, 19, 20, 1, 21, 22, 23, 24, 25, 26, 27, 28, 29, 30, 31, 32, 33, 34, 35, 36, 37, 38, 39, 10, 11, 5] (fun z => [(5, .v (.int .i64 z)), (1, .v (.int .i64 (k0 + cntL gEdge (xs.take z))))]) (fun z => []) (fun z => [H]) (fun z => xs.length - z) (fun z => z ≤ xs.length) (0)
  · repeat' (first | exact trivial | refine ⟨⟨_, rfl, by first | rfl | exact inc_eq _ (by omega) | (refine sl_eq ?_; simp; done) | (refine svi_eq ?_; (try dsimp only); (try simp (disch := omega) only [wrap_of]); omega) | (simp [cntL]), by first | exact trivial | simp [SV.ok]⟩, ?_⟩)
  · exact trivial
  · omega
  · exact .refl _
  rintro k hI
  obtain hk : k ≤ xs.length := hI
  try dsimp only
  refine VCsplit.intro (fun q0 => ?_) (fun q0 => ?_)
  ·
    simp at q0
    have hs := (cntL_step gEdge xs k default (by omega))
    simp only [gEdge_cnt] at hs
    have hs2 := cntL_take_le gEdge xs (k + 1)
    have hm := mkL_get gEdge default xs k0 k (by omega)
    simp only [gEdge_mark, gEdge_cnt] at hm
    refine idx_rd hp ?_ ?_ fun b1 o1 hb1 => ?_
    · omega
    · omega
    refine load_partN default (k) 0 rfl hp ?_ ?_ hb1 rfl (by decide) (mem_at 0 rfl) fun l2 hl2 => ?_
    · omega
    · omega
    rw [hm] at hl2
    obtain ⟨rfl, w0x2, w2x2⟩ := gEdge_rd.1 hl2
    refine VCsplit.intro (fun q3 => ?_) (fun q3 => ?_)
    ·
      simp at q3
    ·
      simp at q3
      refine idx_rd hp ?_ ?_ fun b4 o4 hb4 => ?_
      · omega
      · omega
      refine load_partN default (k) 1 rfl hp ?_ ?_ hb4 rfl (by decide) (mem_at 0 rfl) fun l5 hl5 => ?_
      · omega
      · omega
      rw [hm] at hl5
      obtain ⟨rfl, w0x5, w2x5⟩ := gEdge_rd.1 hl5
      refine VCsplit.intro (fun q6 => ?_) (fun q6 => ?_)
      ·
        simp at q6
        simp only [str_inj, u8_inj, u8_wrap] at q6
        simp (disch := omega) only [wrap_of] at q6
        exfalso; omega
      ·
        simp at q6
        simp only [str_inj, u8_inj, u8_wrap] at q6
        simp (disch := omega) only [wrap_of] at q6
        refine idx_rd hp ?_ ?_ fun b7 o7 hb7 => ?_
        · omega
        · omega
        refine load_partN default (k) 2 rfl hp ?_ ?_ hb7 rfl (by decide) (mem_at 0 rfl) fun l8 hl8 => ?_
        · omega
        · omega
        rw [hm] at hl8
        obtain ⟨rfl, w0x8, w2x8⟩ := gEdge_rd.1 hl8
        refine VCsplit.intro (fun q9 => ?_) (fun q9 => ?_)
        ·
          simp at q9
          simp (disch := omega) only [wrap_of] at q9
          exact absurd trivial q9
        ·
          simp at q9
          simp (disch := omega) only [wrap_of] at q9
          apply loop_stepA (k + 1)
          · exact .refl _
          · repeat' (first | exact trivial | refine ⟨⟨_, rfl, by first | rfl | exact inc_eq _ (by omega) | (refine sl_eq ?_; simp; done) | (refine svi_eq ?_; (try dsimp only); (try simp (disch := omega) only [wrap_of]); omega) | (simp [cntL]), by first | exact trivial | simp [SV.ok]⟩, ?_⟩)
          · exact trivial
          · trivial
          · omega
  ·
    simp at q0
    obtain rfl : k = xs.length := by omega
    exact ⟨[], ⟨by rw [List.take_length], rfl⟩, (.le fun a => by (try simp only [setR, List.cons_append, List.nil_append]); simp only [List.flatten_append, List.flatten_cons, List.flatten_nil, List.count_append, List.count_nil, List.append_nil, List.nil_append]; omega)⟩

--@ct laws.markGraph mark1 markGraph_ct _ _ _ _ ~ ?_ ?_
theorem markGraph_ct (l : List Value) (x : Graph) (A : Hp) (k0 : Int) (ho : gGraph.ow l x A) (h0 : 0 ≤ k0) (h1 : k0 + gGraph.cntV x ≤ 4611686018427387904) :
    CtR Try.prog 37 [.agg ⟨l⟩, .int .i64 k0] A (fun _ => True) (fun v A => v = .int .i64 (k0 + gGraph.cntV x) ∧ gGraph.ow l (gGraph.markV k0 x) A) := by
  obtain ⟨b1, c1, A1, rfl, hpm, w0, h1⟩ := gGraph_ow.1 ho
  have hz := gGraph_cntV x
  refine CtR.introP G_ok [A1] Try.func37 rfl rfl rfl (hpm.trans (by simp)) fun E H hp => ?_
  refine VCnew.intro fun x0 => ?_
  refine callR_at 0 rfl (markEdgeS_ct _ _ _ _ _ _ h1 ?_ ?_) trivial ?_
  · trivial
  · omega
  rintro _ A1 ⟨rfl, o1⟩
  exact ⟨_, ⟨by rw [hz]; (try simp); (try omega), by rw [gGraph_markV]; exact gGraph_ow.2 ⟨_, _, _, by simp only [mkL_len]; rfl, .refl _, by assumption, by rw [mkL_len]; assumption⟩⟩, (.le fun a => by (try simp only [setR, List.cons_append, List.nil_append]); simp only [List.flatten_append, List.flatten_cons, List.flatten_nil, List.count_append, List.count_nil, List.append_nil, List.nil_append]; omega)⟩

--@ct laws.heldGraph val heldGraph_ct _ _ _ _ ?_ ?_ ?_ | %1
theorem heldGraph_ct (l : List Value) (x : Graph) (k0 k1 : Int) (hk1 : k0 = k1) (h0 : 0 ≤ k0) (h1 : k0 + gGraph.cntV x ≤ 4611686018427387904) :
    Ct Try.prog 38 [.agg ⟨l⟩, .int .i64 k0] [] (fun H => gGraph.rd H l (gGraph.markV k1 x)) (fun v A => v = .int .i64 (k0 + gGraph.cntV x) ∧ A = []) := by
  subst hk1
  refine Ct.intro0 G_ok Try.func38 rfl rfl rfl fun E H hp => ?_
  rw [gGraph_markV] at hp
  obtain ⟨b1, c1, rfl, w0, h1⟩ := gGraph_rd.1 hp
  have hz := gGraph_cntV x
  refine VCnew.intro fun x0 => ?_
  refine call_val (heldEdgeS_ct _ _ _ _ _ _ ?_ ?_ ?_) (Rp.mono _ (mem_at 0 rfl) h1) ?_
  · rfl
  · trivial
  · omega
  rintro _ rfl
  refine VCsplit.intro (fun q2 => ?_) (fun q2 => ?_)
  ·
    simp at q2
    exfalso; omega
  ·
    simp at q2
    try dsimp only
    exact ⟨[], ⟨by rw [hz]; (try simp); (try omega), rfl⟩, (.le fun a => by (try simp only [setR, List.cons_append, List.nil_append]); simp only [List.flatten_append, List.flatten_cons, List.flatten_nil, List.count_append, List.count_nil, List.append_nil, List.nil_append]; omega)⟩

--@ct laws.markAtomS mark1 markAtomS_ct _ _ _ _ _ _ ~ ?_ ?_
theorem markAtomS_ct (b : Option Addr) (m c : Nat) (xs : List Atom) (A : Hp) (k0 : Int) (ho : (gSl 147 gAtom).ow [.slice b m c] xs A) (h0 : 0 ≤ k0) (h1 : k0 + cntL gAtom xs ≤ 4611686018427387904) :
    CtR Try.prog 181 [.slice b m c, .int .i64 k0] A (fun _ => True) (fun v A => v = .int .i64 (k0 + cntL gAtom xs) ∧ (gSl 147 gAtom).ow [.slice b m c] (mkL gAtom k0 xs) A) := by
  obtain ⟨rfl, hcl, hl⟩ := sl_len (Gt.owrd _ ho)
  refine CtR.intro G_ok [A] Try.func181 rfl rfl rfl (by simp) fun E H hp => ?_
  apply loop_mod (α := (Nat) × (Hp)) G_ok [6, 7, 8, 9, 12, 13, 14, 15, 16, 17, 18, 19, 1, 20, 21, 22, 23, 24, 25, 26, 27, 28, 29, 30, 31, 32, 33, 34, 35, 10, 11, 5] (fun z => [(5, .v (.int .i64 z.1)), (1, .v (.int .i64 (k0 + cntL gAtom (xs.take z.1))))]) (fun z => []) (fun z => [z.2, H]) (fun z => xs.length - z.1) (fun z => z.1 ≤ xs.length ∧ (gSl 147 gAtom).ow [.slice b xs.length c] (mkL gAtom k0 (xs.take z.1) ++ xs.drop z.1) z.2) ((0, A))
  · repeat' (first | exact trivial | refine ⟨⟨_, rfl, by first | rfl | exact inc_eq _ (by omega) | (refine sl_eq ?_; simp; done) | (refine svi_eq ?_; subst_vars; (try dsimp only); (try simp (disch := omega) only [wrap_of]); omega) | (simp [cntL]), by first | exact trivial | simp [SV.ok]⟩, ?_⟩)
  · exact trivial
  · try dsimp only
    exact ⟨by omega, by simpa [mkL] using ho⟩
  · exact .refl _
  rintro ⟨k, B⟩ hI
  obtain ⟨hk, oB⟩ : k ≤ xs.length ∧ (gSl 147 gAtom).ow [.slice b xs.length c] (mkL gAtom k0 (xs.take k) ++ xs.drop k) B := hI
  try dsimp only
  refine VCsplit.intro (fun q0 => ?_) (fun q0 => ?_)
  ·
    simp at q0
    have hs := (cntL_step gAtom xs k default (by omega))
    simp only [gAtom_cnt] at hs
    have hs2 := cntL_take_le gAtom xs (k + 1)
    obtain ⟨y, ey, oe⟩ := OwE.mk default k oB (by rw [mk_len _ _ _ _ (by omega)]; omega)
    rw [mk_get _ _ _ _ _ (by omega)] at ey
    clear oB
    refine call_val (markText_ct _ ?_) trivial ?_
    · omega
    rintro _ rfl
    refine oe_idx oe ?_ fun b2 o2 hb2 => ?_
    · rfl
    refine oe_store gAtom_from 0 rfl oe rfl hb2 rfl fl_pl _ (gS_ow ?_) fun y3 A3 ey3 o3 => ?_
    · exact mtx_size _
    refine call_val (markText_ct _ ?_) trivial ?_
    · (simp (disch := omega) only [wrap_of]; omega)
    rintro _ rfl
    refine oe_idx o3 ?_ fun b5 o5 hb5 => ?_
    · rfl
    refine oe_store gAtom_path 0 rfl o3 rfl hb5 rfl fl_pl _ (gS_ow ?_) fun y6 A6 ey6 o6 => ?_
    · exact mtx_size _
    refine call_val (markText_ct _ ?_) trivial ?_
    · (simp (disch := omega) only [wrap_of]; omega)
    rintro _ rfl
    refine oe_idx o6 ?_ fun b8 o8 hb8 => ?_
    · rfl
    refine oe_store gAtom_to 0 rfl o6 rfl hb8 rfl fl_pl _ (gS_ow ?_) fun y9 A9 ey9 o9 => ?_
    · exact mtx_size _
    apply loop_stepA (k + 1, _)
    · exact .refl _
    · repeat' (first | exact trivial | refine ⟨⟨_, rfl, by first | rfl | exact inc_eq _ (by omega) | (refine sl_eq ?_; simp; done) | (refine svi_eq ?_; subst_vars; (try dsimp only); (try simp (disch := omega) only [wrap_of]); omega) | (simp [cntL]), by first | exact trivial | simp [SV.ok]⟩, ?_⟩)
    · exact trivial
    · try dsimp only
      exact ⟨by omega, OwE.done (by assumption) (by rw [← mk_step gAtom default xs k0 k (by omega)]; congr 1; subst_vars; (try simp only [gAtom_mark, gAtom_cnt]); (try simp (disch := omega) only [wrap_of]); (try rfl))⟩
    · try dsimp only
      omega
  ·
    simp at q0
    obtain rfl : k = xs.length := by omega
    rw [List.take_length, List.drop_length, List.append_nil] at oB
    exact ⟨_, ⟨by rw [List.take_length], oB⟩, (.le fun a => by (try simp only [setR, List.cons_append, List.nil_append]); simp only [List.flatten_append, List.flatten_cons, List.flatten_nil, List.count_append, List.count_nil, List.append_nil, List.nil_append]; omega)⟩

--@ct laws.heldAtomS val heldAtomS_ct _ _ _ _ _ _ ?_ ?_ ?_ | %1
theorem heldAtomS_ct (b : Option Addr) (m c : Nat) (xs : List Atom) (k0 k1 : Int) (hk1 : k0 = k1) (h0 : 0 ≤ k0) (h1 : k0 + cntL gAtom xs ≤ 4611686018427387904) :
    Ct Try.prog 183 [.slice b m c, .int .i64 k0] [] (fun H => (gSl 147 gAtom).rd H [.slice b m c] (mkL gAtom k1 xs)) (fun v A => v = .int .i64 (k0 + cntL gAtom xs) ∧ A = []) := by
  subst hk1
  refine Ct.intro0 G_ok Try.func183 rfl rfl rfl fun E H hp => ?_
  have hm0 := (sl_len hp).1
  rw [mkL_len] at hm0; subst hm0
  obtain ⟨-, hcl, hl⟩ := sl_len hp
  rw [mkL_len] at hcl hl
  have hln := mkL_len gAtom xs k0
  apply loop_mod (α := (Nat)) G_ok [6, 7, 8, 9, 12, 13, 14, 15, 16, 17, 18, 19, 4, 20, 21, 1, 22, 23, 24, 25, 26, 27, 28, 29, 30, 31, 32, 33, 34, 35, 36, 37, 38, 39, 40, 41, 10, 11, 5] (fun z => [(5, .v (.int .i64 z)), (1, .v (.int .i64 (k0 + cntL gAtom (xs.take z))))]) (fun z => []) (fun z => [H]) (fun z => xs.length - z) (fun z => z ≤ xs.length) (0)
  · repeat' (first | exact trivial | refine ⟨⟨_, rfl, by first | rfl | exact inc_eq _ (by omega) | (refine sl_eq ?_; simp; done) | (refine svi_eq ?_; (try dsimp only); (try simp (disch := omega) only [wrap_of]); omega) | (simp [cntL]), by first | exact trivial | simp [SV.ok]⟩, ?_⟩)
  · exact trivial
  · omega
  · exact .refl _
  rintro k hI
  obtain hk : k ≤ xs.length := hI
  try dsimp only
  refine VCsplit.intro (fun q0 => ?_) (fun q0 => ?_)
  ·
    simp at q0
    have hs := (cntL_step gAtom xs k default (by omega))
    simp only [gAtom_cnt] at hs
    have hs2 := cntL_take_le gAtom xs (k + 1)
    have hm := mkL_get gAtom default xs k0 k (by omega)
    simp only [gAtom_mark, gAtom_cnt] at hm
    refine draw G_ok mixed none (.q 0 (.q 1 (.q 2 (.q 3 (.q 4 (.q 5 (.f 6 (.q 7 (.nil))))))))) (by decide +kernel) ?_
    refine idx_rd hp ?_ ?_ fun b1 o1 hb1 => ?_
    · omega
    · omega
    refine load_partN default (k) 0 rfl hp ?_ ?_ hb1 rfl (by decide) (mem_at 0 rfl) fun l2 hl2 => ?_
    · omega
    · omega
    rw [hm] at hl2
    obtain ⟨rfl, w0x2, w1x2, w2x2⟩ := gAtom_rd.1 hl2
    refine call_val (markText_ct _ ?_) trivial ?_
    · omega
    rintro _ rfl
    refine VC.intro ?_ ?_
    · exact fun _ h => h
    refine VCsplit.intro (fun q4 => ?_) (fun q4 => ?_)
    ·
      simp at q4
    ·
      simp at q4
      refine draw G_ok mixed none (.q 0 (.q 1 (.q 2 (.q 3 (.q 4 (.q 5 (.f 6 (.q 7 (.nil))))))))) (by decide +kernel) ?_
      refine idx_rd hp ?_ ?_ fun b5 o5 hb5 => ?_
      · omega
      · omega
      refine load_partN default (k) 1 rfl hp ?_ ?_ hb5 rfl (by decide) (mem_at 0 rfl) fun l6 hl6 => ?_
      · omega
      · omega
      rw [hm] at hl6
      obtain ⟨rfl, w0x6, w1x6, w2x6⟩ := gAtom_rd.1 hl6
      refine call_val (markText_ct _ ?_) trivial ?_
      · (simp (disch := omega) only [wrap_of]; omega)
      rintro _ rfl
      refine VC.intro ?_ ?_
      · exact fun _ h => h
      refine VCsplit.intro (fun q8 => ?_) (fun q8 => ?_)
      ·
        simp at q8
        simp only [str_inj, u8_inj, u8_wrap] at q8
        simp (disch := omega) only [wrap_of] at q8
        exact absurd trivial q8
      ·
        simp at q8
        simp only [str_inj, u8_inj, u8_wrap] at q8
        simp (disch := omega) only [wrap_of] at q8
        refine draw G_ok mixed none (.q 0 (.q 1 (.q 2 (.q 3 (.q 4 (.q 5 (.f 6 (.q 7 (.nil))))))))) (by decide +kernel) ?_
        refine idx_rd hp ?_ ?_ fun b9 o9 hb9 => ?_
        · omega
        · omega
        refine load_partN default (k) 2 rfl hp ?_ ?_ hb9 rfl (by decide) (mem_at 0 rfl) fun l10 hl10 => ?_
        · omega
        · omega
        rw [hm] at hl10
        obtain ⟨rfl, w0x10, w1x10, w2x10⟩ := gAtom_rd.1 hl10
        refine call_val (markText_ct _ ?_) trivial ?_
        · (simp (disch := omega) only [wrap_of]; omega)
        rintro _ rfl
        refine VC.intro ?_ ?_
        · exact fun _ h => h
        refine VCsplit.intro (fun q12 => ?_) (fun q12 => ?_)
        ·
          simp at q12
          simp only [str_inj, u8_inj, u8_wrap] at q12
          simp (disch := omega) only [wrap_of] at q12
          exact absurd trivial q12
        ·
          simp at q12
          simp only [str_inj, u8_inj, u8_wrap] at q12
          simp (disch := omega) only [wrap_of] at q12
          apply loop_stepA (k + 1)
          · exact .refl _
          · repeat' (first | exact trivial | refine ⟨⟨_, rfl, by first | rfl | exact inc_eq _ (by omega) | (refine sl_eq ?_; simp; done) | (refine svi_eq ?_; (try dsimp only); (try simp (disch := omega) only [wrap_of]); omega) | (simp [cntL]), by first | exact trivial | simp [SV.ok]⟩, ?_⟩)
          · exact trivial
          · trivial
          · omega
  ·
    simp at q0
    obtain rfl : k = xs.length := by omega
    exact ⟨[], ⟨by rw [List.take_length], rfl⟩, (.le fun a => by (try simp only [setR, List.cons_append, List.nil_append]); simp only [List.flatten_append, List.flatten_cons, List.flatten_nil, List.count_append, List.count_nil, List.append_nil, List.nil_append]; omega)⟩

--@ct laws.markFilterS mark1 markFilterS_ct _ _ _ _ _ _ ~ ?_ ?_
theorem markFilterS_ct (b : Option Addr) (m c : Nat) (xs : List Filter) (A : Hp) (k0 : Int) (ho : (gSl 258 gFilter).ow [.slice b m c] xs A) (h0 : 0 ≤ k0) (h1 : k0 + cntL gFilter xs ≤ 4611686018427387904) :
    CtR Try.prog 182 [.slice b m c, .int .i64 k0] A (fun _ => True) (fun v A => v = .int .i64 (k0 + cntL gFilter xs) ∧ (gSl 258 gFilter).ow [.slice b m c] (mkL gFilter k0 xs) A) := by
  obtain ⟨rfl, hcl, hl⟩ := sl_len (Gt.owrd _ ho)
  refine CtR.intro G_ok [A] Try.func182 rfl rfl rfl (by simp) fun E H hp => ?_
  apply loop_mod (α := (Nat) × (Hp)) G_ok [6, 7, 8, 9, 12, 13, 14, 15, 16, 17, 18, 19, 1, 20, 21, 22, 23, 24, 25, 26, 27, 28, 29, 30, 31, 32, 33, 34, 35, 36, 37, 38, 39, 40, 41, 10, 11, 5] (fun z => [(5, .v (.int .i64 z.1)), (1, .v (.int .i64 (k0 + cntL gFilter (xs.take z.1))))]) (fun z => []) (fun z => [z.2, H]) (fun z => xs.length - z.1) (fun z => z.1 ≤ xs.length ∧ (gSl 258 gFilter).ow [.slice b xs.length c] (mkL gFilter k0 (xs.take z.1) ++ xs.drop z.1) z.2) ((0, A))
  · repeat' (first | exact trivial | refine ⟨⟨_, rfl, by first | rfl | exact inc_eq _ (by omega) | (refine sl_eq ?_; simp; done) | (refine svi_eq ?_; subst_vars; (try dsimp only); (try simp (disch := omega) only [wrap_of]); omega) | (simp [cntL]), by first | exact trivial | simp [SV.ok]⟩, ?_⟩)
  · exact trivial
  · try dsimp only
    exact ⟨by omega, by simpa [mkL] using ho⟩
  · exact .refl _
  rintro ⟨k, B⟩ hI
  obtain ⟨hk, oB⟩ : k ≤ xs.length ∧ (gSl 258 gFilter).ow [.slice b xs.length c] (mkL gFilter k0 (xs.take k) ++ xs.drop k) B := hI
  try dsimp only
  refine VCsplit.intro (fun q0 => ?_) (fun q0 => ?_)
  ·
    simp at q0
    have hs := (cntL_step gFilter xs k default (by omega))
    simp only [gFilter_cnt] at hs
    have hs2 := cntL_take_le gFilter xs (k + 1)
    obtain ⟨y, ey, oe⟩ := OwE.mk default k oB (by rw [mk_len _ _ _ _ (by omega)]; omega)
    rw [mk_get _ _ _ _ _ (by omega)] at ey
    clear oB
    refine call_val (markText_ct _ ?_) trivial ?_
    · omega
    rintro _ rfl
    refine oe_idx oe ?_ fun b2 o2 hb2 => ?_
    · rfl
    refine oe_store gFilter_left 0 rfl oe rfl hb2 rfl fl_pl _ (gS_ow ?_) fun y3 A3 ey3 o3 => ?_
    · exact mtx_size _
    refine oe_idx o3 ?_ fun b4 o4 hb4 => ?_
    · rfl
    refine oe_store gFilter_op 0 rfl o3 rfl hb4 rfl gI_pl _ (gI_ow ?_) fun y5 A5 ey5 o5 => ?_
    · exact okI_wrap _
    refine call_val (markText_ct _ ?_) trivial ?_
    · (simp (disch := omega) only [wrap_of]; omega)
    rintro _ rfl
    refine oe_idx o5 ?_ fun b7 o7 hb7 => ?_
    · rfl
    refine oe_store gFilter_right 0 rfl o5 rfl hb7 rfl fl_pl _ (gS_ow ?_) fun y8 A8 ey8 o8 => ?_
    · exact mtx_size _
    refine oe_idx o8 ?_ fun b9 o9 hb9 => ?_
    · rfl
    refine oe_store gFilter_num 0 rfl o8 rfl hb9 rfl gI_pl _ (gI_ow ?_) fun y10 A10 ey10 o10 => ?_
    · exact okI_wrap _
    apply loop_stepA (k + 1, _)
    · exact .refl _
    · repeat' (first | exact trivial | refine ⟨⟨_, rfl, by first | rfl | exact inc_eq _ (by omega) | (refine sl_eq ?_; simp; done) | (refine svi_eq ?_; subst_vars; (try dsimp only); (try simp (disch := omega) only [wrap_of]); omega) | (simp [cntL]), by first | exact trivial | simp [SV.ok]⟩, ?_⟩)
    · exact trivial
    · try dsimp only
      exact ⟨by omega, OwE.done (by assumption) (by rw [← mk_step gFilter default xs k0 k (by omega)]; congr 1; subst_vars; (try simp only [gFilter_mark, gFilter_cnt]); (try simp (disch := omega) only [wrap_of]); (try rfl))⟩
    · try dsimp only
      omega
  ·
    simp at q0
    obtain rfl : k = xs.length := by omega
    rw [List.take_length, List.drop_length, List.append_nil] at oB
    exact ⟨_, ⟨by rw [List.take_length], oB⟩, (.le fun a => by (try simp only [setR, List.cons_append, List.nil_append]); simp only [List.flatten_append, List.flatten_cons, List.flatten_nil, List.count_append, List.count_nil, List.append_nil, List.nil_append]; omega)⟩

--@ct laws.heldFilterS val heldFilterS_ct _ _ _ _ _ _ ?_ ?_ ?_ | %1
theorem heldFilterS_ct (b : Option Addr) (m c : Nat) (xs : List Filter) (k0 k1 : Int) (hk1 : k0 = k1) (h0 : 0 ≤ k0) (h1 : k0 + cntL gFilter xs ≤ 4611686018427387904) :
    Ct Try.prog 184 [.slice b m c, .int .i64 k0] [] (fun H => (gSl 258 gFilter).rd H [.slice b m c] (mkL gFilter k1 xs)) (fun v A => v = .int .i64 (k0 + cntL gFilter xs) ∧ A = []) := by
  subst hk1
  refine Ct.intro0 G_ok Try.func184 rfl rfl rfl fun E H hp => ?_
  have hm0 := (sl_len hp).1
  rw [mkL_len] at hm0; subst hm0
  obtain ⟨-, hcl, hl⟩ := sl_len hp
  rw [mkL_len] at hcl hl
  have hln := mkL_len gFilter xs k0
  apply loop_mod (α := (Nat)) G_ok [6, 7, 8, 9, 12, 13, 14, 15, 16, 17, 18, 19, 4, 20, 21, 1, 22, 23, 24, 25, 26, 27, 28, 29, 30, 31, 32, 33, 34, 35, 36, 37, 38, 39, 40, 41, 42, 43, 44, 45, 46, 47, 48, 49, 10, 11, 5] (fun z => [(5, .v (.int .i64 z)), (1, .v (.int .i64 (k0 + cntL gFilter (xs.take z))))]) (fun z => []) (fun z => [H]) (fun z => xs.length - z) (fun z => z ≤ xs.length) (0)
  · repeat' (first | exact trivial | refine ⟨⟨_, rfl, by first | rfl | exact inc_eq _ (by omega) | (refine sl_eq ?_; simp; done) | (refine svi_eq ?_; (try dsimp only); (try simp (disch := omega) only [wrap_of]); omega) | (simp [cntL]), by first | exact trivial | simp [SV.ok]⟩, ?_⟩)
  · exact trivial
  · omega
  · exact .refl _
  rintro k hI
  obtain hk : k ≤ xs.length := hI
  try dsimp only
  refine VCsplit.intro (fun q0 => ?_) (fun q0 => ?_)
  ·
    simp at q0
    have hs := (cntL_step gFilter xs k default (by omega))
    simp only [gFilter_cnt] at hs
    have hs2 := cntL_take_le gFilter xs (k + 1)
    have hm := mkL_get gFilter default xs k0 k (by omega)
    simp only [gFilter_mark, gFilter_cnt] at hm
    refine draw G_ok mixed none (.q 0 (.q 1 (.q 2 (.q 3 (.q 4 (.q 5 (.f 6 (.q 7 (.nil))))))))) (by decide +kernel) ?_
    refine idx_rd hp ?_ ?_ fun b1 o1 hb1 => ?_
    · omega
    · omega
    refine load_partN default (k) 0 rfl hp ?_ ?_ hb1 rfl (by decide) (mem_at 0 rfl) fun l2 hl2 => ?_
    · omega
    · omega
    rw [hm] at hl2
    obtain ⟨rfl, w0x2, w1x2, w2x2, w3x2⟩ := gFilter_rd.1 hl2
    refine call_val (markText_ct _ ?_) trivial ?_
    · omega
    rintro _ rfl
    refine VC.intro ?_ ?_
    · exact fun _ h => h
    refine VCsplit.intro (fun q4 => ?_) (fun q4 => ?_)
    ·
      simp at q4
    ·
      simp at q4
      refine idx_rd hp ?_ ?_ fun b5 o5 hb5 => ?_
      · omega
      · omega
      refine load_partN default (k) 1 rfl hp ?_ ?_ hb5 rfl (by decide) (mem_at 0 rfl) fun l6 hl6 => ?_
      · omega
      · omega
      rw [hm] at hl6
      obtain ⟨rfl, w0x6, w1x6, w2x6, w3x6⟩ := gFilter_rd.1 hl6
      refine VCsplit.intro (fun q7 => ?_) (fun q7 => ?_)
      ·
        simp at q7
        simp (disch := omega) only [wrap_of] at q7
        exact absurd trivial q7
      ·
        simp at q7
        simp (disch := omega) only [wrap_of] at q7
        refine draw G_ok mixed none (.q 0 (.q 1 (.q 2 (.q 3 (.q 4 (.q 5 (.f 6 (.q 7 (.nil))))))))) (by decide +kernel) ?_
        refine idx_rd hp ?_ ?_ fun b8 o8 hb8 => ?_
        · omega
        · omega
        refine load_partN default (k) 2 rfl hp ?_ ?_ hb8 rfl (by decide) (mem_at 0 rfl) fun l9 hl9 => ?_
        · omega
        · omega
        rw [hm] at hl9
        obtain ⟨rfl, w0x9, w1x9, w2x9, w3x9⟩ := gFilter_rd.1 hl9
        refine call_val (markText_ct _ ?_) trivial ?_
        · (simp (disch := omega) only [wrap_of]; omega)
        rintro _ rfl
        refine VC.intro ?_ ?_
        · exact fun _ h => h
        refine VCsplit.intro (fun q11 => ?_) (fun q11 => ?_)
        ·
          simp at q11
          simp only [str_inj, u8_inj, u8_wrap] at q11
          simp (disch := omega) only [wrap_of] at q11
          exact absurd trivial q11
        ·
          simp at q11
          simp only [str_inj, u8_inj, u8_wrap] at q11
          simp (disch := omega) only [wrap_of] at q11
          refine idx_rd hp ?_ ?_ fun b12 o12 hb12 => ?_
          · omega
          · omega
          refine load_partN default (k) 3 rfl hp ?_ ?_ hb12 rfl (by decide) (mem_at 0 rfl) fun l13 hl13 => ?_
          · omega
          · omega
          rw [hm] at hl13
          obtain ⟨rfl, w0x13, w1x13, w2x13, w3x13⟩ := gFilter_rd.1 hl13
          refine VCsplit.intro (fun q14 => ?_) (fun q14 => ?_)
          ·
            simp at q14
            simp (disch := omega) only [wrap_of] at q14
            exact absurd trivial q14
          ·
            simp at q14
            simp (disch := omega) only [wrap_of] at q14
            apply loop_stepA (k + 1)
            · exact .refl _
            · repeat' (first | exact trivial | refine ⟨⟨_, rfl, by first | rfl | exact inc_eq _ (by omega) | (refine sl_eq ?_; simp; done) | (refine svi_eq ?_; (try dsimp only); (try simp (disch := omega) only [wrap_of]); omega) | (simp [cntL]), by first | exact trivial | simp [SV.ok]⟩, ?_⟩)
            · exact trivial
            · trivial
            · omega
  ·
    simp at q0
    obtain rfl : k = xs.length := by omega
    exact ⟨[], ⟨by rw [List.take_length], rfl⟩, (.le fun a => by (try simp only [setR, List.cons_append, List.nil_append]); simp only [List.flatten_append, List.flatten_cons, List.flatten_nil, List.count_append, List.count_nil, List.append_nil, List.nil_append]; omega)⟩

--@ct laws.markQuery mark1 markQuery_ct _ _ _ _ ~ ?_ ?_
theorem markQuery_ct (l : List Value) (x : Query) (A : Hp) (k0 : Int) (ho : gQuery.ow l x A) (h0 : 0 ≤ k0) (h1 : k0 + gQuery.cntV x ≤ 4611686018427387904) :
    CtR Try.prog 116 [.agg ⟨l⟩, .int .i64 k0] A (fun _ => True) (fun v A => v = .int .i64 (k0 + gQuery.cntV x) ∧ gQuery.ow l (gQuery.markV k0 x) A) := by
  obtain ⟨b1, c1, A1, b2, c2, A2, b3, c3, A3, rfl, hpm, h1, h2, h3⟩ := gQuery_ow.1 ho
  have hz := gQuery_cntV x
  refine CtR.introP G_ok [A1, A2, A3] Try.func116 rfl rfl rfl (hpm.trans (by simp)) fun E H hp => ?_
  refine VCnew.intro fun x0 => ?_
  refine callR_at 0 rfl (markStringS_ct _ _ _ _ _ _ h1 ?_ ?_) trivial ?_
  · trivial
  · omega
  rintro _ A1 ⟨rfl, o1⟩
  refine callR_at 1 rfl (markAtomS_ct _ _ _ _ _ _ h2 ?_ ?_) trivial ?_
  · omega
  · omega
  rintro _ A2 ⟨rfl, o2⟩
  refine callR_at 2 rfl (markFilterS_ct _ _ _ _ _ _ h3 ?_ ?_) trivial ?_
  · omega
  · omega
  rintro _ A3 ⟨rfl, o3⟩
  exact ⟨_, ⟨by rw [hz]; (try simp); (try omega), by rw [gQuery_markV]; exact gQuery_ow.2 ⟨_, _, _, _, _, _, _, _, _, by simp only [mkL_len]; rfl, .refl _, by rw [mkL_len]; assumption, by rw [mkL_len]; assumption, by rw [mkL_len]; assumption⟩⟩, (.le fun a => by (try simp only [setR, List.cons_append, List.nil_append]); simp only [List.flatten_append, List.flatten_cons, List.flatten_nil, List.count_append, List.count_nil, List.append_nil, List.nil_append]; omega)⟩

--@ct laws.heldQuery val heldQuery_ct _ _ _ _ ?_ ?_ ?_ | %1
theorem heldQuery_ct (l : List Value) (x : Query) (k0 k1 : Int) (hk1 : k0 = k1) (h0 : 0 ≤ k0) (h1 : k0 + gQuery.cntV x ≤ 4611686018427387904) :
    Ct Try.prog 119 [.agg ⟨l⟩, .int .i64 k0] [] (fun H => gQuery.rd H l (gQuery.markV k1 x)) (fun v A => v = .int .i64 (k0 + gQuery.cntV x) ∧ A = []) := by
  subst hk1
  refine Ct.intro0 G_ok Try.func119 rfl rfl rfl fun E H hp => ?_
  rw [gQuery_markV] at hp
  obtain ⟨b1, c1, b2, c2, b3, c3, rfl, h1, h2, h3⟩ := gQuery_rd.1 hp
  have hz := gQuery_cntV x
  refine VCnew.intro fun x0 => ?_
  refine call_val (heldStringS_ct _ _ _ _ _ _ ?_ ?_ ?_) (Rp.mono _ (mem_at 0 rfl) h1) ?_
  · rfl
  · trivial
  · omega
  rintro _ rfl
  refine VCsplit.intro (fun q2 => ?_) (fun q2 => ?_)
  ·
    simp at q2
    exfalso; omega
  ·
    simp at q2
    refine call_val (heldAtomS_ct _ _ _ _ _ _ ?_ ?_ ?_) (Rp.mono _ (mem_at 0 rfl) h2) ?_
    · rfl
    · trivial
    · omega
    rintro _ rfl
    refine VCsplit.intro (fun q4 => ?_) (fun q4 => ?_)
    ·
      simp at q4
      exfalso; omega
    ·
      simp at q4
      refine call_val (heldFilterS_ct _ _ _ _ _ _ ?_ ?_ ?_) (Rp.mono _ (mem_at 0 rfl) h3) ?_
      · rfl
      · trivial
      · omega
      rintro _ rfl
      refine VCsplit.intro (fun q6 => ?_) (fun q6 => ?_)
      ·
        simp at q6
        exfalso; omega
      ·
        simp at q6
        try dsimp only
        exact ⟨[], ⟨by rw [hz]; (try simp); (try omega), rfl⟩, (.le fun a => by (try simp only [setR, List.cons_append, List.nil_append]); simp only [List.flatten_append, List.flatten_cons, List.flatten_nil, List.count_append, List.count_nil, List.append_nil, List.nil_append]; omega)⟩

--@ct laws.markFileS mark1 markFileS_ct _ _ _ _ _ _ ~ ?_ ?_
theorem markFileS_ct (b : Option Addr) (m c : Nat) (xs : List File) (A : Hp) (k0 : Int) (ho : (gSl 199 gFile).ow [.slice b m c] xs A) (h0 : 0 ≤ k0) (h1 : k0 + cntL gFile xs ≤ 4611686018427387904) :
    CtR Try.prog 90 [.slice b m c, .int .i64 k0] A (fun _ => True) (fun v A => v = .int .i64 (k0 + cntL gFile xs) ∧ (gSl 199 gFile).ow [.slice b m c] (mkL gFile k0 xs) A) := by
  obtain ⟨rfl, hcl, hl⟩ := sl_len (Gt.owrd _ ho)
  refine CtR.intro G_ok [A] Try.func90 rfl rfl rfl (by simp) fun E H hp => ?_
  apply loop_mod (α := (Nat) × (Hp)) G_ok [6, 7, 8, 9, 12, 13, 14, 15, 16, 17, 18, 19, 1, 20, 21, 22, 23, 24, 25, 26, 27, 28, 29, 30, 31, 32, 33, 34, 10, 11, 5] (fun z => [(5, .v (.int .i64 z.1)), (1, .v (.int .i64 (k0 + cntL gFile (xs.take z.1))))]) (fun z => []) (fun z => [z.2, H]) (fun z => xs.length - z.1) (fun z => z.1 ≤ xs.length ∧ (gSl 199 gFile).ow [.slice b xs.length c] (mkL gFile k0 (xs.take z.1) ++ xs.drop z.1) z.2) ((0, A))
  · repeat' (first | exact trivial | refine ⟨⟨_, rfl, by first | rfl | exact inc_eq _ (by omega) | (refine sl_eq ?_; simp; done) | (refine svi_eq ?_; subst_vars; (try dsimp only); (try simp (disch := omega) only [wrap_of]); omega) | (simp [cntL]), by first | exact trivial | simp [SV.ok]⟩, ?_⟩)
  · exact trivial
  · try dsimp only
    exact ⟨by omega, by simpa [mkL] using ho⟩
  · exact .refl _
  rintro ⟨k, B⟩ hI
  obtain ⟨hk, oB⟩ : k ≤ xs.length ∧ (gSl 199 gFile).ow [.slice b xs.length c] (mkL gFile k0 (xs.take k) ++ xs.drop k) B := hI
  try dsimp only
  refine VCsplit.intro (fun q0 => ?_) (fun q0 => ?_)
  ·
    simp at q0
    have hs := (cntL_step gFile xs k default (by omega))
    simp only [gFile_cnt] at hs
    have hs2 := cntL_take_le gFile xs (k + 1)
    obtain ⟨y, ey, oe⟩ := OwE.mk default k oB (by rw [mk_len _ _ _ _ (by omega)]; omega)
    rw [mk_get _ _ _ _ _ (by omega)] at ey
    clear oB
    refine call_val (markText_ct _ ?_) trivial ?_
    · omega
    rintro _ rfl
    refine oe_idx oe ?_ fun b2 o2 hb2 => ?_
    · rfl
    refine oe_store gFile_name 0 rfl oe rfl hb2 rfl fl_pl _ (gS_ow ?_) fun y3 A3 ey3 o3 => ?_
    · exact mtx_size _
    refine call_val (markText_ct _ ?_) trivial ?_
    · (simp (disch := omega) only [wrap_of]; omega)
    rintro _ rfl
    refine oe_idx o3 ?_ fun b5 o5 hb5 => ?_
    · rfl
    refine oe_store gFile_text 0 rfl o3 rfl hb5 rfl fl_pl _ (gS_ow ?_) fun y6 A6 ey6 o6 => ?_
    · exact mtx_size _
    refine oe_idx o6 ?_ fun b7 o7 hb7 => ?_
    · rfl
    refine oe_store gFile_kept 0 rfl o6 rfl hb7 rfl gI_pl _ (gI_ow ?_) fun y8 A8 ey8 o8 => ?_
    · exact okI_wrap _
    apply loop_stepA (k + 1, _)
    · exact .refl _
    · repeat' (first | exact trivial | refine ⟨⟨_, rfl, by first | rfl | exact inc_eq _ (by omega) | (refine sl_eq ?_; simp; done) | (refine svi_eq ?_; subst_vars; (try dsimp only); (try simp (disch := omega) only [wrap_of]); omega) | (simp [cntL]), by first | exact trivial | simp [SV.ok]⟩, ?_⟩)
    · exact trivial
    · try dsimp only
      exact ⟨by omega, OwE.done (by assumption) (by rw [← mk_step gFile default xs k0 k (by omega)]; congr 1; subst_vars; (try simp only [gFile_mark, gFile_cnt]); (try simp (disch := omega) only [wrap_of]); (try rfl))⟩
    · try dsimp only
      omega
  ·
    simp at q0
    obtain rfl : k = xs.length := by omega
    rw [List.take_length, List.drop_length, List.append_nil] at oB
    exact ⟨_, ⟨by rw [List.take_length], oB⟩, (.le fun a => by (try simp only [setR, List.cons_append, List.nil_append]); simp only [List.flatten_append, List.flatten_cons, List.flatten_nil, List.count_append, List.count_nil, List.append_nil, List.nil_append]; omega)⟩

--@ct laws.markLinkS mark1 markLinkS_ct _ _ _ _ _ _ ~ ?_ ?_
theorem markLinkS_ct (b : Option Addr) (m c : Nat) (xs : List Link) (A : Hp) (k0 : Int) (ho : (gSl 45 gLink).ow [.slice b m c] xs A) (h0 : 0 ≤ k0) (h1 : k0 + cntL gLink xs ≤ 4611686018427387904) :
    CtR Try.prog 74 [.slice b m c, .int .i64 k0] A (fun _ => True) (fun v A => v = .int .i64 (k0 + cntL gLink xs) ∧ (gSl 45 gLink).ow [.slice b m c] (mkL gLink k0 xs) A) := by
  obtain ⟨rfl, hcl, hl⟩ := sl_len (Gt.owrd _ ho)
  refine CtR.intro G_ok [A] Try.func74 rfl rfl rfl (by simp) fun E H hp => ?_
  apply loop_mod (α := (Nat) × (Hp)) G_ok [6, 7, 8, 9, 12, 13, 14, 15, 16, 17, 18, 1, 19, 20, 21, 22, 23, 24, 25, 26, 27, 28, 29, 30, 31, 32, 10, 11, 5] (fun z => [(5, .v (.int .i64 z.1)), (1, .v (.int .i64 (k0 + cntL gLink (xs.take z.1))))]) (fun z => []) (fun z => [z.2, H]) (fun z => xs.length - z.1) (fun z => z.1 ≤ xs.length ∧ (gSl 45 gLink).ow [.slice b xs.length c] (mkL gLink k0 (xs.take z.1) ++ xs.drop z.1) z.2) ((0, A))
  · repeat' (first | exact trivial | refine ⟨⟨_, rfl, by first | rfl | exact inc_eq _ (by omega) | (refine sl_eq ?_; simp; done) | (refine svi_eq ?_; subst_vars; (try dsimp only); (try simp (disch := omega) only [wrap_of]); omega) | (simp [cntL]), by first | exact trivial | simp [SV.ok]⟩, ?_⟩)
  · exact trivial
  · try dsimp only
    exact ⟨by omega, by simpa [mkL] using ho⟩
  · exact .refl _
  rintro ⟨k, B⟩ hI
  obtain ⟨hk, oB⟩ : k ≤ xs.length ∧ (gSl 45 gLink).ow [.slice b xs.length c] (mkL gLink k0 (xs.take k) ++ xs.drop k) B := hI
  try dsimp only
  refine VCsplit.intro (fun q0 => ?_) (fun q0 => ?_)
  ·
    simp at q0
    have hs := (cntL_step gLink xs k default (by omega))
    simp only [gLink_cnt] at hs
    have hs2 := cntL_take_le gLink xs (k + 1)
    obtain ⟨y, ey, oe⟩ := OwE.mk default k oB (by rw [mk_len _ _ _ _ (by omega)]; omega)
    rw [mk_get _ _ _ _ _ (by omega)] at ey
    clear oB
    refine oe_idx oe ?_ fun b1 o1 hb1 => ?_
    · rfl
    refine oe_load gLink_sent oe rfl hb1 rfl (mem_at 0 rfl) fun l2 hl2 hf2 => ?_
    obtain ⟨u2, w2, rfl, hl2⟩ := sl_rd hl2
    refine call_foc 0 rfl hf2 (fun Af3 oa3 => markStringS_ct _ _ _ _ _ _ oa3 ?_ ?_) (fun _ _ => trivial) ?_
    · omega
    · simp_all; omega
    rintro _ A3 rfl ⟨y3, ey3, o3⟩
    try dsimp only at ey3
    refine oe_idx o3 ?_ fun b4 o4 hb4 => ?_
    · rfl
    refine oe_store gLink_acked 0 rfl o3 rfl hb4 rfl gI_pl _ (gI_ow ?_) fun y5 A5 ey5 o5 => ?_
    · (subst_vars; unfold okI; (try dsimp only at *); omega)
    refine oe_idx o5 ?_ fun b6 o6 hb6 => ?_
    · rfl
    refine oe_store gLink_took 0 rfl o5 rfl hb6 rfl gI_pl _ (gI_ow ?_) fun y7 A7 ey7 o7 => ?_
    · exact okI_wrap _
    apply loop_stepA (k + 1, _)
    · exact .refl _
    · repeat' (first | exact trivial | refine ⟨⟨_, rfl, by first | rfl | exact inc_eq _ (by omega) | (refine sl_eq ?_; simp; done) | (refine svi_eq ?_; subst_vars; (try dsimp only); (try simp (disch := omega) only [wrap_of]); omega) | (simp [cntL]), by first | exact trivial | simp [SV.ok]⟩, ?_⟩)
    · exact trivial
    · try dsimp only
      exact ⟨by omega, OwE.done (by assumption) (by rw [← mk_step gLink default xs k0 k (by omega)]; congr 1; subst_vars; (try simp only [gLink_mark, gLink_cnt]); (try simp (disch := omega) only [wrap_of]); (try rfl))⟩
    · try dsimp only
      omega
  ·
    simp at q0
    obtain rfl : k = xs.length := by omega
    rw [List.take_length, List.drop_length, List.append_nil] at oB
    exact ⟨_, ⟨by rw [List.take_length], oB⟩, (.le fun a => by (try simp only [setR, List.cons_append, List.nil_append]); simp only [List.flatten_append, List.flatten_cons, List.flatten_nil, List.count_append, List.count_nil, List.append_nil, List.nil_append]; omega)⟩

--@ct laws.heldLinkS val heldLinkS_ct _ _ _ _ _ _ ?_ ?_ ?_ | %1
theorem heldLinkS_ct (b : Option Addr) (m c : Nat) (xs : List Link) (k0 k1 : Int) (hk1 : k0 = k1) (h0 : 0 ≤ k0) (h1 : k0 + cntL gLink xs ≤ 4611686018427387904) :
    Ct Try.prog 78 [.slice b m c, .int .i64 k0] [] (fun H => (gSl 45 gLink).rd H [.slice b m c] (mkL gLink k1 xs)) (fun v A => v = .int .i64 (k0 + cntL gLink xs) ∧ A = []) := by
  subst hk1
  refine Ct.intro0 G_ok Try.func78 rfl rfl rfl fun E H hp => ?_
  have hm0 := (sl_len hp).1
  rw [mkL_len] at hm0; subst hm0
  obtain ⟨-, hcl, hl⟩ := sl_len hp
  rw [mkL_len] at hcl hl
  have hln := mkL_len gLink xs k0
  apply loop_mod (α := (Nat)) G_ok [6, 7, 8, 9, 12, 13, 14, 15, 16, 17, 18, 1, 19, 20, 4, 21, 22, 23, 24, 25, 26, 27, 28, 29, 30, 31, 32, 33, 34, 35, 36, 37, 38, 10, 11, 5] (fun z => [(5, .v (.int .i64 z)), (1, .v (.int .i64 (k0 + cntL gLink (xs.take z))))]) (fun z => []) (fun z => [H]) (fun z => xs.length - z) (fun z => z ≤ xs.length) (0)
  · repeat' (first | exact trivial | refine ⟨⟨_, rfl, by first | rfl | exact inc_eq _ (by omega) | (refine sl_eq ?_; simp; done) | (refine svi_eq ?_; (try dsimp only); (try simp (disch := omega) only [wrap_of]); omega) | (simp [cntL]), by first | exact trivial | simp [SV.ok]⟩, ?_⟩)
  · exact trivial
  · omega
  · exact .refl _
  rintro k hI
  obtain hk : k ≤ xs.length := hI
  try dsimp only
  refine VCsplit.intro (fun q0 => ?_) (fun q0 => ?_)
  ·
    simp at q0
    have hs := (cntL_step gLink xs k default (by omega))
    simp only [gLink_cnt] at hs
    have hs2 := cntL_take_le gLink xs (k + 1)
    have hm := mkL_get gLink default xs k0 k (by omega)
    simp only [gLink_mark, gLink_cnt] at hm
    refine idx_rd hp ?_ ?_ fun b1 o1 hb1 => ?_
    · omega
    · omega
    refine load_partN default (k) 0 rfl hp ?_ ?_ hb1 rfl (by decide) (mem_at 0 rfl) fun l2 hl2 => ?_
    · omega
    · omega
    rw [hm] at hl2
    obtain ⟨b0x2, c0x2, rfl, h0x2, w1x2, w2x2⟩ := gLink_rd.1 hl2
    refine call_val (heldStringS_ct _ _ _ _ _ _ ?_ ?_ ?_) (Rp.mono _ (mem_at 0 rfl) h0x2) ?_
    · rfl
    · omega
    · omega
    rintro _ rfl
    refine VCsplit.intro (fun q4 => ?_) (fun q4 => ?_)
    ·
      simp at q4
      exfalso; omega
    ·
      simp at q4
      refine idx_rd hp ?_ ?_ fun b5 o5 hb5 => ?_
      · omega
      · omega
      refine load_partN default (k) 1 rfl hp ?_ ?_ hb5 rfl (by decide) (mem_at 0 rfl) fun l6 hl6 => ?_
      · omega
      · omega
      rw [hm] at hl6
      obtain ⟨b0x6, c0x6, rfl, h0x6, w1x6, w2x6⟩ := gLink_rd.1 hl6
      refine VCsplit.intro (fun q7 => ?_) (fun q7 => ?_)
      ·
        simp at q7
      ·
        simp at q7
        refine idx_rd hp ?_ ?_ fun b8 o8 hb8 => ?_
        · omega
        · omega
        refine load_partN default (k) 2 rfl hp ?_ ?_ hb8 rfl (by decide) (mem_at 0 rfl) fun l9 hl9 => ?_
        · omega
        · omega
        rw [hm] at hl9
        obtain ⟨b0x9, c0x9, rfl, h0x9, w1x9, w2x9⟩ := gLink_rd.1 hl9
        refine VCsplit.intro (fun q10 => ?_) (fun q10 => ?_)
        ·
          simp at q10
          simp (disch := omega) only [wrap_of] at q10
          exact absurd trivial q10
        ·
          simp at q10
          simp (disch := omega) only [wrap_of] at q10
          apply loop_stepA (k + 1)
          · exact .refl _
          · repeat' (first | exact trivial | refine ⟨⟨_, rfl, by first | rfl | exact inc_eq _ (by omega) | (refine sl_eq ?_; simp; done) | (refine svi_eq ?_; (try dsimp only); (try simp (disch := omega) only [wrap_of]); omega) | (simp [cntL]), by first | exact trivial | simp [SV.ok]⟩, ?_⟩)
          · exact trivial
          · trivial
          · omega
  ·
    simp at q0
    obtain rfl : k = xs.length := by omega
    exact ⟨[], ⟨by rw [List.take_length], rfl⟩, (.le fun a => by (try simp only [setR, List.cons_append, List.nil_append]); simp only [List.flatten_append, List.flatten_cons, List.flatten_nil, List.count_append, List.count_nil, List.append_nil, List.nil_append]; omega)⟩

--@ct laws.markStringSS mark1 markStringSS_ct _ _ _ _ _ _ ~ ?_ ?_
theorem markStringSS_ct (b : Option Addr) (m c : Nat) (xs : List (List ByteArray)) (A : Hp) (k0 : Int) (ho : (gSl 27 (gSl 9 gS)).ow [.slice b m c] xs A) (h0 : 0 ≤ k0) (h1 : k0 + cntL (gSl 9 gS) xs ≤ 4611686018427387904) :
    CtR Try.prog 76 [.slice b m c, .int .i64 k0] A (fun _ => True) (fun v A => v = .int .i64 (k0 + cntL (gSl 9 gS) xs) ∧ (gSl 27 (gSl 9 gS)).ow [.slice b m c] (mkL (gSl 9 gS) k0 xs) A) := by
  obtain ⟨rfl, hcl, hl⟩ := sl_len (Gt.owrd _ ho)
  refine CtR.intro G_ok [A] Try.func76 rfl rfl rfl (by simp) fun E H hp => ?_
  apply loop_mod (α := (Nat) × (Hp)) G_ok [6, 7, 8, 9, 12, 13, 14, 15, 16, 17, 1, 10, 11, 5] (fun z => [(5, .v (.int .i64 z.1)), (1, .v (.int .i64 (k0 + cntL (gSl 9 gS) (xs.take z.1))))]) (fun z => []) (fun z => [z.2, H]) (fun z => xs.length - z.1) (fun z => z.1 ≤ xs.length ∧ (gSl 27 (gSl 9 gS)).ow [.slice b xs.length c] (mkL (gSl 9 gS) k0 (xs.take z.1) ++ xs.drop z.1) z.2) ((0, A))
  · repeat' (first | exact trivial | refine ⟨⟨_, rfl, by first | rfl | exact inc_eq _ (by omega) | (refine sl_eq ?_; simp; done) | (refine svi_eq ?_; subst_vars; (try dsimp only); (try simp (disch := omega) only [wrap_of]); omega) | (simp [cntL]), by first | exact trivial | simp [SV.ok]⟩, ?_⟩)
  · exact trivial
  · try dsimp only
    exact ⟨by omega, by simpa [mkL] using ho⟩
  · exact .refl _
  rintro ⟨k, B⟩ hI
  obtain ⟨hk, oB⟩ : k ≤ xs.length ∧ (gSl 27 (gSl 9 gS)).ow [.slice b xs.length c] (mkL (gSl 9 gS) k0 (xs.take k) ++ xs.drop k) B := hI
  try dsimp only
  refine VCsplit.intro (fun q0 => ?_) (fun q0 => ?_)
  ·
    simp at q0
    have hs := (cntL_step (gSl 9 gS) xs k [] (by omega))
    change _ = _ + cntL _ _ at hs
    have hs2 := cntL_take_le (gSl 9 gS) xs (k + 1)
    obtain ⟨y, ey, oe⟩ := OwE.mk [] k oB (by rw [mk_len _ _ _ _ (by omega)]; omega)
    rw [mk_get _ _ _ _ _ (by omega)] at ey
    clear oB
    refine oe_idx oe ?_ fun b1 o1 hb1 => ?_
    · rfl
    refine oe_load fldId oe rfl hb1 rfl (mem_at 0 rfl) fun l2 hl2 hf2 => ?_
    obtain ⟨u2, w2, rfl, hl2⟩ := sl_rd hl2
    refine call_foc 0 rfl hf2 (fun Af3 oa3 => markStringS_ct _ _ _ _ _ _ oa3 ?_ ?_) (fun _ _ => trivial) ?_
    · omega
    · simp_all; omega
    rintro _ A3 rfl ⟨y3, ey3, o3⟩
    try dsimp only at ey3
    apply loop_stepA (k + 1, _)
    · exact .refl _
    · repeat' (first | exact trivial | refine ⟨⟨_, rfl, by first | rfl | exact inc_eq _ (by omega) | (refine sl_eq ?_; simp; done) | (refine svi_eq ?_; subst_vars; (try dsimp only); (try simp (disch := omega) only [wrap_of]); omega) | (simp [cntL]), by first | exact trivial | simp [SV.ok]⟩, ?_⟩)
    · exact trivial
    · try dsimp only
      exact ⟨by omega, OwE.done (by assumption) (by rw [← mk_step (gSl 9 gS) [] xs k0 k (by omega)]; congr 1; subst_vars; (try simp only [mkL]); (try simp (disch := omega) only [wrap_of]); (try rfl))⟩
    · try dsimp only
      omega
  ·
    simp at q0
    obtain rfl : k = xs.length := by omega
    rw [List.take_length, List.drop_length, List.append_nil] at oB
    exact ⟨_, ⟨by rw [List.take_length], oB⟩, (.le fun a => by (try simp only [setR, List.cons_append, List.nil_append]); simp only [List.flatten_append, List.flatten_cons, List.flatten_nil, List.count_append, List.count_nil, List.append_nil, List.nil_append]; omega)⟩

--@ct laws.heldStringSS val heldStringSS_ct _ _ _ _ _ _ ?_ ?_ ?_ | %1
theorem heldStringSS_ct (b : Option Addr) (m c : Nat) (xs : List (List ByteArray)) (k0 k1 : Int) (hk1 : k0 = k1) (h0 : 0 ≤ k0) (h1 : k0 + cntL (gSl 9 gS) xs ≤ 4611686018427387904) :
    Ct Try.prog 80 [.slice b m c, .int .i64 k0] [] (fun H => (gSl 27 (gSl 9 gS)).rd H [.slice b m c] (mkL (gSl 9 gS) k1 xs)) (fun v A => v = .int .i64 (k0 + cntL (gSl 9 gS) xs) ∧ A = []) := by
  subst hk1
  refine Ct.intro0 G_ok Try.func80 rfl rfl rfl fun E H hp => ?_
  have hm0 := (sl_len hp).1
  rw [mkL_len] at hm0; subst hm0
  obtain ⟨-, hcl, hl⟩ := sl_len hp
  rw [mkL_len] at hcl hl
  have hln := mkL_len (gSl 9 gS) xs k0
  apply loop_mod (α := (Nat)) G_ok [6, 7, 8, 9, 12, 13, 14, 15, 16, 17, 1, 18, 19, 4, 10, 11, 5] (fun z => [(5, .v (.int .i64 z)), (1, .v (.int .i64 (k0 + cntL (gSl 9 gS) (xs.take z))))]) (fun z => []) (fun z => [H]) (fun z => xs.length - z) (fun z => z ≤ xs.length) (0)
  · repeat' (first | exact trivial | refine ⟨⟨_, rfl, by first | rfl | exact inc_eq _ (by omega) | (refine sl_eq ?_; simp; done) | (refine svi_eq ?_; (try dsimp only); (try simp (disch := omega) only [wrap_of]); omega) | (simp [cntL]), by first | exact trivial | simp [SV.ok]⟩, ?_⟩)
  · exact trivial
  · omega
  · exact .refl _
  rintro k hI
  obtain hk : k ≤ xs.length := hI
  try dsimp only
  refine VCsplit.intro (fun q0 => ?_) (fun q0 => ?_)
  ·
    simp at q0
    have hs := (cntL_step (gSl 9 gS) xs k [] (by omega))
    change _ = _ + cntL _ _ at hs
    have hs2 := cntL_take_le (gSl 9 gS) xs (k + 1)
    have hm := mkL_get (gSl 9 gS) [] xs k0 k (by omega)
    change _ = mkL _ _ _ at hm
    refine idx_rd hp ?_ ?_ fun b1 o1 hb1 => ?_
    · omega
    · omega
    refine load_allN [] (k) rfl hp ?_ ?_ hb1 rfl (mem_at 0 rfl) fun l2 hl2 => ?_
    · omega
    · omega
    rw [hm] at hl2
    obtain ⟨u2, w2, rfl, hl2⟩ := sl_rd hl2
    refine call_val (heldStringS_ct _ _ _ _ _ _ ?_ ?_ ?_) (Rp.mono _ (mem_at 0 rfl) hl2) ?_
    · rfl
    · omega
    · omega
    rintro _ rfl
    refine VCsplit.intro (fun q4 => ?_) (fun q4 => ?_)
    ·
      simp at q4
      exfalso; omega
    ·
      simp at q4
      apply loop_stepA (k + 1)
      · exact .refl _
      · repeat' (first | exact trivial | refine ⟨⟨_, rfl, by first | rfl | exact inc_eq _ (by omega) | (refine sl_eq ?_; simp; done) | (refine svi_eq ?_; (try dsimp only); (try simp (disch := omega) only [wrap_of]); omega) | (simp [cntL]), by first | exact trivial | simp [SV.ok]⟩, ?_⟩)
      · exact trivial
      · trivial
      · omega
  ·
    simp at q0
    obtain rfl : k = xs.length := by omega
    exact ⟨[], ⟨by rw [List.take_length], rfl⟩, (.le fun a => by (try simp only [setR, List.cons_append, List.nil_append]); simp only [List.flatten_append, List.flatten_cons, List.flatten_nil, List.count_append, List.count_nil, List.append_nil, List.nil_append]; omega)⟩

--@ct laws.markPair mark1 markPair_ct _ _ _ _ ~ ?_ ?_
theorem markPair_ct (l : List Value) (x : Pair) (A : Hp) (k0 : Int) (ho : gPair.ow l x A) (h0 : 0 ≤ k0) (h1 : k0 + gPair.cntV x ≤ 4611686018427387904) :
    CtR Try.prog 28 [.agg ⟨l⟩, .int .i64 k0] A (fun _ => True) (fun v A => v = .int .i64 (k0 + gPair.cntV x) ∧ gPair.ow l (gPair.markV k0 x) A) := by
  obtain ⟨b0, c0, A0, b1, c1, A1, b2, c2, A2, b3, c3, A3, rfl, hpm, h0, h1, h2, h3⟩ := gPair_ow.1 ho
  have hz := gPair_cntV x
  refine CtR.introP G_ok [A0, A1, A2, A3] Try.func28 rfl rfl rfl (hpm.trans (by simp)) fun E H hp => ?_
  refine VCnew.intro fun x0 => ?_
  refine callR_at 0 rfl (markLinkS_ct _ _ _ _ _ _ h0 ?_ ?_) trivial ?_
  · trivial
  · omega
  rintro _ A1 ⟨rfl, o1⟩
  refine callR_at 1 rfl (markStringS_ct _ _ _ _ _ _ h1 ?_ ?_) trivial ?_
  · omega
  · omega
  rintro _ A2 ⟨rfl, o2⟩
  refine callR_at 2 rfl (markStringSS_ct _ _ _ _ _ _ h2 ?_ ?_) trivial ?_
  · omega
  · omega
  rintro _ A3 ⟨rfl, o3⟩
  refine callR_at 3 rfl (markIntS_ct _ _ _ _ _ _ h3 ?_ ?_) trivial ?_
  · omega
  · omega
  rintro _ A4 ⟨rfl, o4⟩
  exact ⟨_, ⟨by rw [hz]; (try simp); (try omega), by rw [gPair_markV]; exact gPair_ow.2 ⟨_, _, _, _, _, _, _, _, _, _, _, _, by simp only [mkL_len]; rfl, .refl _, by rw [mkL_len]; assumption, by rw [mkL_len]; assumption, by rw [mkL_len]; assumption, by rw [mkL_len]; assumption⟩⟩, (.le fun a => by (try simp only [setR, List.cons_append, List.nil_append]); simp only [List.flatten_append, List.flatten_cons, List.flatten_nil, List.count_append, List.count_nil, List.append_nil, List.nil_append]; omega)⟩

--@ct laws.heldPair val heldPair_ct _ _ _ _ ?_ ?_ ?_ | %1
theorem heldPair_ct (l : List Value) (x : Pair) (k0 k1 : Int) (hk1 : k0 = k1) (h0 : 0 ≤ k0) (h1 : k0 + gPair.cntV x ≤ 4611686018427387904) :
    Ct Try.prog 29 [.agg ⟨l⟩, .int .i64 k0] [] (fun H => gPair.rd H l (gPair.markV k1 x)) (fun v A => v = .int .i64 (k0 + gPair.cntV x) ∧ A = []) := by
  subst hk1
  refine Ct.intro0 G_ok Try.func29 rfl rfl rfl fun E H hp => ?_
  rw [gPair_markV] at hp
  obtain ⟨b0, c0, b1, c1, b2, c2, b3, c3, rfl, h0, h1, h2, h3⟩ := gPair_rd.1 hp
  have hz := gPair_cntV x
  refine VCnew.intro fun x0 => ?_
  refine call_val (heldLinkS_ct _ _ _ _ _ _ ?_ ?_ ?_) (Rp.mono _ (mem_at 0 rfl) h0) ?_
  · rfl
  · trivial
  · omega
  rintro _ rfl
  refine VCsplit.intro (fun q2 => ?_) (fun q2 => ?_)
  ·
    simp at q2
    exfalso; omega
  ·
    simp at q2
    refine call_val (heldStringS_ct _ _ _ _ _ _ ?_ ?_ ?_) (Rp.mono _ (mem_at 0 rfl) h1) ?_
    · rfl
    · trivial
    · omega
    rintro _ rfl
    refine VCsplit.intro (fun q4 => ?_) (fun q4 => ?_)
    ·
      simp at q4
      exfalso; omega
    ·
      simp at q4
      refine call_val (heldStringSS_ct _ _ _ _ _ _ ?_ ?_ ?_) (Rp.mono _ (mem_at 0 rfl) h2) ?_
      · rfl
      · trivial
      · omega
      rintro _ rfl
      refine VCsplit.intro (fun q6 => ?_) (fun q6 => ?_)
      ·
        simp at q6
        exfalso; omega
      ·
        simp at q6
        refine call_val (heldIntS_ct _ _ _ _ _ _ ?_ ?_ ?_) (Rp.mono _ (mem_at 0 rfl) h3) ?_
        · rfl
        · trivial
        · omega
        rintro _ rfl
        refine VCsplit.intro (fun q8 => ?_) (fun q8 => ?_)
        ·
          simp at q8
          exfalso; omega
        ·
          simp at q8
          try dsimp only
          exact ⟨[], ⟨by rw [hz]; (try simp); (try omega), rfl⟩, (.le fun a => by (try simp only [setR, List.cons_append, List.nil_append]); simp only [List.flatten_append, List.flatten_cons, List.flatten_nil, List.count_append, List.count_nil, List.append_nil, List.nil_append]; omega)⟩

--@ct laws.markGotS mark1 markGotS_ct _ _ _ _ _ _ ~ ?_ ?_
theorem markGotS_ct (b : Option Addr) (m c : Nat) (xs : List Got) (A : Hp) (k0 : Int) (ho : (gSl 142 gGot).ow [.slice b m c] xs A) (h0 : 0 ≤ k0) (h1 : k0 + cntL gGot xs ≤ 4611686018427387904) :
    CtR Try.prog 117 [.slice b m c, .int .i64 k0] A (fun _ => True) (fun v A => v = .int .i64 (k0 + cntL gGot xs) ∧ (gSl 142 gGot).ow [.slice b m c] (mkL gGot k0 xs) A) := by
  obtain ⟨rfl, hcl, hl⟩ := sl_len (Gt.owrd _ ho)
  refine CtR.intro G_ok [A] Try.func117 rfl rfl rfl (by simp) fun E H hp => ?_
  apply loop_mod (α := (Nat) × (Hp)) G_ok [6, 7, 8, 9, 12, 13, 14, 15, 16, 17, 18, 1, 19, 20, 21, 22, 23, 24, 25, 26, 27, 28, 29, 30, 31, 32, 33, 10, 11, 5] (fun z => [(5, .v (.int .i64 z.1)), (1, .v (.int .i64 (k0 + cntL gGot (xs.take z.1))))]) (fun z => []) (fun z => [z.2, H]) (fun z => xs.length - z.1) (fun z => z.1 ≤ xs.length ∧ (gSl 142 gGot).ow [.slice b xs.length c] (mkL gGot k0 (xs.take z.1) ++ xs.drop z.1) z.2) ((0, A))
  · repeat' (first | exact trivial | refine ⟨⟨_, rfl, by first | rfl | exact inc_eq _ (by omega) | (refine sl_eq ?_; simp; done) | (refine svi_eq ?_; subst_vars; (try dsimp only); (try simp (disch := omega) only [wrap_of]); omega) | (simp [cntL]), by first | exact trivial | simp [SV.ok]⟩, ?_⟩)
  · exact trivial
  · try dsimp only
    exact ⟨by omega, by simpa [mkL] using ho⟩
  · exact .refl _
  rintro ⟨k, B⟩ hI
  obtain ⟨hk, oB⟩ : k ≤ xs.length ∧ (gSl 142 gGot).ow [.slice b xs.length c] (mkL gGot k0 (xs.take k) ++ xs.drop k) B := hI
  try dsimp only
  refine VCsplit.intro (fun q0 => ?_) (fun q0 => ?_)
  ·
    simp at q0
    have hs := (cntL_step gGot xs k default (by omega))
    simp only [gBag_cnt, gGot_cnt] at hs
    have hs2 := cntL_take_le gGot xs (k + 1)
    obtain ⟨y, ey, oe⟩ := OwE.mk default k oB (by rw [mk_len _ _ _ _ (by omega)]; omega)
    rw [mk_get _ _ _ _ _ (by omega)] at ey
    clear oB
    refine oe_idx oe ?_ fun b1 o1 hb1 => ?_
    · rfl
    refine oe_store gGot_from 0 rfl oe rfl hb1 rfl gI_pl _ (gI_ow ?_) fun y2 A2 ey2 o2 => ?_
    · unfold okI; omega
    refine oe_idx o2 ?_ fun b3 o3 hb3 => ?_
    · rfl
    refine oe_store gGot_atom 0 rfl o2 rfl hb3 rfl gI_pl _ (gI_ow ?_) fun y4 A4 ey4 o4 => ?_
    · exact okI_wrap _
    refine oe_idx o4 ?_ fun b5 o5 hb5 => ?_
    · rfl
    refine oe_load gGot_bag o4 rfl hb5 rfl (mem_at 0 rfl) fun l6 hl6 hf6 => ?_
    obtain ⟨b0x6, c0x6, rfl, h0x6⟩ := gBag_rd.1 hl6
    refine call_foc 0 rfl hf6 (fun Af7 oa7 => markItemS_ct _ _ _ _ _ _ oa7 ?_ ?_) (fun _ _ => trivial) ?_
    · (simp (disch := omega) only [wrap_of]; omega)
    · (subst_vars; (try dsimp only at *); (try simp (disch := omega) only [wrap_of] at *); omega)
    rintro _ A7 rfl ⟨y7, ey7, o7⟩
    try dsimp only at ey7
    apply loop_stepA (k + 1, _)
    · exact .refl _
    · repeat' (first | exact trivial | refine ⟨⟨_, rfl, by first | rfl | exact inc_eq _ (by omega) | (refine sl_eq ?_; simp; done) | (refine svi_eq ?_; subst_vars; (try dsimp only); (try simp (disch := omega) only [wrap_of]); omega) | (simp [cntL]), by first | exact trivial | simp [SV.ok]⟩, ?_⟩)
    · exact trivial
    · try dsimp only
      exact ⟨by omega, OwE.done (by assumption) (by rw [← mk_step gGot default xs k0 k (by omega)]; congr 1; subst_vars; (try simp only [gBag_mark, gBag_cnt, gGot_mark, gGot_cnt]); (try simp (disch := omega) only [wrap_of]); (try rfl))⟩
    · try dsimp only
      omega
  ·
    simp at q0
    obtain rfl : k = xs.length := by omega
    rw [List.take_length, List.drop_length, List.append_nil] at oB
    exact ⟨_, ⟨by rw [List.take_length], oB⟩, (.le fun a => by (try simp only [setR, List.cons_append, List.nil_append]); simp only [List.flatten_append, List.flatten_cons, List.flatten_nil, List.count_append, List.count_nil, List.append_nil, List.nil_append]; omega)⟩

--@ct laws.heldGotS val heldGotS_ct _ _ _ _ _ _ ?_ ?_ ?_ | %1
theorem heldGotS_ct (b : Option Addr) (m c : Nat) (xs : List Got) (k0 k1 : Int) (hk1 : k0 = k1) (h0 : 0 ≤ k0) (h1 : k0 + cntL gGot xs ≤ 4611686018427387904) :
    Ct Try.prog 120 [.slice b m c, .int .i64 k0] [] (fun H => (gSl 142 gGot).rd H [.slice b m c] (mkL gGot k1 xs)) (fun v A => v = .int .i64 (k0 + cntL gGot xs) ∧ A = []) := by
  subst hk1
  refine Ct.intro0 G_ok Try.func120 rfl rfl rfl fun E H hp => ?_
  have hm0 := (sl_len hp).1
  rw [mkL_len] at hm0; subst hm0
  obtain ⟨-, hcl, hl⟩ := sl_len hp
  rw [mkL_len] at hcl hl
  have hln := mkL_len gGot xs k0
  apply loop_mod (α := (Nat)) G_ok [6, 7, 8, 9, 12, 13, 14, 15, 16, 17, 18, 4, 19, 20, 1, 21, 22, 23, 24, 25, 26, 27, 28, 29, 30, 31, 32, 33, 34, 35, 36, 37, 38, 39, 10, 11, 5] (fun z => [(5, .v (.int .i64 z)), (1, .v (.int .i64 (k0 + cntL gGot (xs.take z))))]) (fun z => []) (fun z => [H]) (fun z => xs.length - z) (fun z => z ≤ xs.length) (0)
  · repeat' (first | exact trivial | refine ⟨⟨_, rfl, by first | rfl | exact inc_eq _ (by omega) | (refine sl_eq ?_; simp; done) | (refine svi_eq ?_; (try dsimp only); (try simp (disch := omega) only [wrap_of]); omega) | (simp [cntL]), by first | exact trivial | simp [SV.ok]⟩, ?_⟩)
  · exact trivial
  · omega
  · exact .refl _
  rintro k hI
  obtain hk : k ≤ xs.length := hI
  try dsimp only
  refine VCsplit.intro (fun q0 => ?_) (fun q0 => ?_)
  ·
    simp at q0
    have hs := (cntL_step gGot xs k default (by omega))
    simp only [gBag_cnt, gGot_cnt] at hs
    have hs2 := cntL_take_le gGot xs (k + 1)
    have hm := mkL_get gGot default xs k0 k (by omega)
    simp only [gBag_mark, gBag_cnt, gGot_mark, gGot_cnt] at hm
    refine idx_rd hp ?_ ?_ fun b1 o1 hb1 => ?_
    · omega
    · omega
    refine load_partN default (k) 0 rfl hp ?_ ?_ hb1 rfl (by decide) (mem_at 0 rfl) fun l2 hl2 => ?_
    · omega
    · omega
    rw [hm] at hl2
    obtain ⟨l2x2, rfl, w0x2, w1x2, h2x2⟩ := gGot_rd.1 hl2 ; obtain ⟨b0_2x2, c0_2x2, rfl, h0_2x2⟩ := gBag_rd.1 h2x2
    refine VCsplit.intro (fun q3 => ?_) (fun q3 => ?_)
    ·
      simp at q3
    ·
      simp at q3
      refine idx_rd hp ?_ ?_ fun b4 o4 hb4 => ?_
      · omega
      · omega
      refine load_partN default (k) 1 rfl hp ?_ ?_ hb4 rfl (by decide) (mem_at 0 rfl) fun l5 hl5 => ?_
      · omega
      · omega
      rw [hm] at hl5
      obtain ⟨l2x5, rfl, w0x5, w1x5, h2x5⟩ := gGot_rd.1 hl5 ; obtain ⟨b0_2x5, c0_2x5, rfl, h0_2x5⟩ := gBag_rd.1 h2x5
      refine VCsplit.intro (fun q6 => ?_) (fun q6 => ?_)
      ·
        simp at q6
        simp (disch := omega) only [wrap_of] at q6
        exact absurd trivial q6
      ·
        simp at q6
        simp (disch := omega) only [wrap_of] at q6
        refine idx_rd hp ?_ ?_ fun b7 o7 hb7 => ?_
        · omega
        · omega
        refine load_partN default (k) 2 rfl hp ?_ ?_ hb7 rfl (by decide) (mem_at 0 rfl) fun l8 hl8 => ?_
        · omega
        · omega
        rw [hm] at hl8
        obtain ⟨l2x8, rfl, w0x8, w1x8, h2x8⟩ := gGot_rd.1 hl8 ; obtain ⟨b0_2x8, c0_2x8, rfl, h0_2x8⟩ := gBag_rd.1 h2x8
        refine call_val (heldItemS_ct _ _ _ _ _ _ ?_ ?_ ?_) (Rp.mono _ (mem_at 0 rfl) h0_2x8) ?_
        · (simp (disch := omega) only [wrap_of])
        · (simp (disch := omega) only [wrap_of]; omega)
        · (simp (disch := omega) only [wrap_of]; omega)
        rintro _ rfl
        refine VCsplit.intro (fun q10 => ?_) (fun q10 => ?_)
        ·
          simp at q10
          simp (disch := omega) only [wrap_of] at q10
          exfalso; omega
        ·
          simp at q10
          simp (disch := omega) only [wrap_of] at q10
          apply loop_stepA (k + 1)
          · exact .refl _
          · repeat' (first | exact trivial | refine ⟨⟨_, rfl, by first | rfl | exact inc_eq _ (by omega) | (refine sl_eq ?_; simp; done) | (refine svi_eq ?_; (try dsimp only); (try simp (disch := omega) only [wrap_of]); omega) | (simp [cntL]), by first | exact trivial | simp [SV.ok]⟩, ?_⟩)
          · exact trivial
          · trivial
          · omega
  ·
    simp at q0
    obtain rfl : k = xs.length := by omega
    exact ⟨[], ⟨by rw [List.take_length], rfl⟩, (.le fun a => by (try simp only [setR, List.cons_append, List.nil_append]); simp only [List.flatten_append, List.flatten_cons, List.flatten_nil, List.count_append, List.count_nil, List.append_nil, List.nil_append]; omega)⟩

--@ct laws.markCell mark1 markCell_ct _ _ _ _ ~ ?_ ?_
theorem markCell_ct (l : List Value) (x : Cell) (A : Hp) (k0 : Int) (ho : gCell.ow l x A) (h0 : 0 ≤ k0) (h1 : k0 + gCell.cntV x ≤ 4611686018427387904) :
    CtR Try.prog 47 [.agg ⟨l⟩, .int .i64 k0] A (fun _ => True) (fun v A => v = .int .i64 (k0 + gCell.cntV x) ∧ gCell.ow l (gCell.markV k0 x) A) := by
  obtain ⟨l0, A0, b1, c1, A1, b4, c4, A4, rfl, hpm, h0, h1, w2, w3, h4⟩ := gCell_ow.1 ho
  have r0 := Gt.owrd _ h0
  obtain ⟨b1_0, c1_0, b2_0, c2_0, b3_0, c3_0, rfl, h1_0, h2_0, h3_0⟩ := gQuery_rd.1 r0
  have hz := gCell_cntV x
  refine CtR.introP G_ok [A0, A1, A4] Try.func47 rfl rfl rfl (hpm.trans (by simp)) fun E H hp => ?_
  refine VCnew.intro fun x0 => ?_
  refine callR_at 0 rfl (markQuery_ct _ _ _ _ h0 ?_ ?_) trivial ?_
  · trivial
  · omega
  rintro _ A1 ⟨rfl, o1⟩
  refine callR_at 1 rfl (markIntS_ct _ _ _ _ _ _ h1 ?_ ?_) trivial ?_
  · omega
  · omega
  rintro _ A2 ⟨rfl, o2⟩
  refine callR_at 2 rfl (markGotS_ct _ _ _ _ _ _ h4 ?_ ?_) trivial ?_
  · omega
  · omega
  rintro _ A3 ⟨rfl, o3⟩
  exact ⟨_, ⟨by rw [hz]; (try simp); (try omega), by rw [gCell_markV]; exact gCell_ow.2 ⟨_, _, _, _, _, _, _, _, by simp only [mkL_len]; rfl, .refl _, by assumption, by rw [mkL_len]; assumption, by assumption, by assumption, by rw [mkL_len]; assumption⟩⟩, (.le fun a => by (try simp only [setR, List.cons_append, List.nil_append]); simp only [List.flatten_append, List.flatten_cons, List.flatten_nil, List.count_append, List.count_nil, List.append_nil, List.nil_append]; omega)⟩

--@ct laws.heldCell val heldCell_ct _ _ _ _ ?_ ?_ ?_ | %1
theorem heldCell_ct (l : List Value) (x : Cell) (k0 k1 : Int) (hk1 : k0 = k1) (h0 : 0 ≤ k0) (h1 : k0 + gCell.cntV x ≤ 4611686018427387904) :
    Ct Try.prog 49 [.agg ⟨l⟩, .int .i64 k0] [] (fun H => gCell.rd H l (gCell.markV k1 x)) (fun v A => v = .int .i64 (k0 + gCell.cntV x) ∧ A = []) := by
  subst hk1
  refine Ct.intro0 G_ok Try.func49 rfl rfl rfl fun E H hp => ?_
  rw [gCell_markV] at hp
  obtain ⟨l0, b1, c1, b4, c4, rfl, h0, h1, w2, w3, h4⟩ := gCell_rd.1 hp
  obtain ⟨b1_0, c1_0, b2_0, c2_0, b3_0, c3_0, rfl, h1_0, h2_0, h3_0⟩ := gQuery_rd.1 h0
  have hz := gCell_cntV x
  refine VCnew.intro fun x0 => ?_
  refine call_val (heldQuery_ct _ _ _ _ ?_ ?_ ?_) (Rp.mono _ (mem_at 0 rfl) h0) ?_
  · rfl
  · trivial
  · omega
  rintro _ rfl
  refine VCsplit.intro (fun q2 => ?_) (fun q2 => ?_)
  ·
    simp at q2
    exfalso; omega
  ·
    simp at q2
    refine call_val (heldIntS_ct _ _ _ _ _ _ ?_ ?_ ?_) (Rp.mono _ (mem_at 0 rfl) h1) ?_
    · rfl
    · trivial
    · omega
    rintro _ rfl
    refine VCsplit.intro (fun q4 => ?_) (fun q4 => ?_)
    ·
      simp at q4
      exfalso; omega
    ·
      simp at q4
      refine call_val (heldGotS_ct _ _ _ _ _ _ ?_ ?_ ?_) (Rp.mono _ (mem_at 0 rfl) h4) ?_
      · rfl
      · trivial
      · omega
      rintro _ rfl
      refine VCsplit.intro (fun q6 => ?_) (fun q6 => ?_)
      ·
        simp at q6
        exfalso; omega
      ·
        simp at q6
        try dsimp only
        exact ⟨[], ⟨by rw [hz]; (try simp); (try omega), rfl⟩, (.le fun a => by (try simp only [setR, List.cons_append, List.nil_append]); simp only [List.flatten_append, List.flatten_cons, List.flatten_nil, List.count_append, List.count_nil, List.append_nil, List.nil_append]; omega)⟩

--@ct laws.markDiskS mark1 markDiskS_ct _ _ _ _ _ _ ~ ?_ ?_
theorem markDiskS_ct (b : Option Addr) (m c : Nat) (xs : List Disk) (A : Hp) (k0 : Int) (ho : (gSl 128 gDisk).ow [.slice b m c] xs A) (h0 : 0 ≤ k0) (h1 : k0 + cntL gDisk xs ≤ 4611686018427387904) :
    CtR Try.prog 36 [.slice b m c, .int .i64 k0] A (fun _ => True) (fun v A => v = .int .i64 (k0 + cntL gDisk xs) ∧ (gSl 128 gDisk).ow [.slice b m c] (mkL gDisk k0 xs) A) := by
  obtain ⟨rfl, hcl, hl⟩ := sl_len (Gt.owrd _ ho)
  refine CtR.intro G_ok [A] Try.func36 rfl rfl rfl (by simp) fun E H hp => ?_
  apply loop_mod (α := (Nat) × (Hp)) G_ok [6, 7, 8, 9, 12, 13, 14, 15, 16, 17, 18, 1, 10, 11, 5] (fun z => [(5, .v (.int .i64 z.1)), (1, .v (.int .i64 (k0 + cntL gDisk (xs.take z.1))))]) (fun z => []) (fun z => [z.2, H]) (fun z => xs.length - z.1) (fun z => z.1 ≤ xs.length ∧ (gSl 128 gDisk).ow [.slice b xs.length c] (mkL gDisk k0 (xs.take z.1) ++ xs.drop z.1) z.2) ((0, A))
  · repeat' (first | exact trivial | refine ⟨⟨_, rfl, by first | rfl | exact inc_eq _ (by omega) | (refine sl_eq ?_; simp; done) | (refine svi_eq ?_; subst_vars; (try dsimp only); (try simp (disch := omega) only [wrap_of]); omega) | (simp [cntL]), by first | exact trivial | simp [SV.ok]⟩, ?_⟩)
  · exact trivial
  · try dsimp only
    exact ⟨by omega, by simpa [mkL] using ho⟩
  · exact .refl _
  rintro ⟨k, B⟩ hI
  obtain ⟨hk, oB⟩ : k ≤ xs.length ∧ (gSl 128 gDisk).ow [.slice b xs.length c] (mkL gDisk k0 (xs.take k) ++ xs.drop k) B := hI
  try dsimp only
  refine VCsplit.intro (fun q0 => ?_) (fun q0 => ?_)
  ·
    simp at q0
    have hs := (cntL_step gDisk xs k default (by omega))
    simp only [gDisk_cnt] at hs
    have hs2 := cntL_take_le gDisk xs (k + 1)
    obtain ⟨y, ey, oe⟩ := OwE.mk default k oB (by rw [mk_len _ _ _ _ (by omega)]; omega)
    rw [mk_get _ _ _ _ _ (by omega)] at ey
    clear oB
    refine oe_idx oe ?_ fun b1 o1 hb1 => ?_
    · rfl
    refine oe_load gDisk_files oe rfl hb1 rfl (mem_at 0 rfl) fun l2 hl2 hf2 => ?_
    obtain ⟨u2, w2, rfl, hl2⟩ := sl_rd hl2
    refine call_foc 0 rfl hf2 (fun Af3 oa3 => markFileS_ct _ _ _ _ _ _ oa3 ?_ ?_) (fun _ _ => trivial) ?_
    · omega
    · simp_all; omega
    rintro _ A3 rfl ⟨y3, ey3, o3⟩
    try dsimp only at ey3
    apply loop_stepA (k + 1, _)
    · exact .refl _
    · repeat' (first | exact trivial | refine ⟨⟨_, rfl, by first | rfl | exact inc_eq _ (by omega) | (refine sl_eq ?_; simp; done) | (refine svi_eq ?_; subst_vars; (try dsimp only); (try simp (disch := omega) only [wrap_of]); omega) | (simp [cntL]), by first | exact trivial | simp [SV.ok]⟩, ?_⟩)
    · exact trivial
    · try dsimp only
      exact ⟨by omega, OwE.done (by assumption) (by rw [← mk_step gDisk default xs k0 k (by omega)]; congr 1; subst_vars; (try simp only [gDisk_mark, gDisk_cnt]); (try simp (disch := omega) only [wrap_of]); (try rfl))⟩
    · try dsimp only
      omega
  ·
    simp at q0
    obtain rfl : k = xs.length := by omega
    rw [List.take_length, List.drop_length, List.append_nil] at oB
    exact ⟨_, ⟨by rw [List.take_length], oB⟩, (.le fun a => by (try simp only [setR, List.cons_append, List.nil_append]); simp only [List.flatten_append, List.flatten_cons, List.flatten_nil, List.count_append, List.count_nil, List.append_nil, List.nil_append]; omega)⟩

--@ct laws.markPushS mark1 markPushS_ct _ _ _ _ _ _ ~ ?_ ?_
theorem markPushS_ct (b : Option Addr) (m c : Nat) (xs : List Push) (A : Hp) (k0 : Int) (ho : (gSl 35 gPush).ow [.slice b m c] xs A) (h0 : 0 ≤ k0) (h1 : k0 + cntL gPush xs ≤ 4611686018427387904) :
    CtR Try.prog 27 [.slice b m c, .int .i64 k0] A (fun _ => True) (fun v A => v = .int .i64 (k0 + cntL gPush xs) ∧ (gSl 35 gPush).ow [.slice b m c] (mkL gPush k0 xs) A) := by
  obtain ⟨rfl, hcl, hl⟩ := sl_len (Gt.owrd _ ho)
  refine CtR.intro G_ok [A] Try.func27 rfl rfl rfl (by simp) fun E H hp => ?_
  apply loop_mod (α := (Nat) × (Hp)) G_ok [6, 7, 8, 9, 12, 13, 14, 15, 16, 17, 18, 1, 19, 20, 21, 22, 23, 24, 25, 26, 27, 28, 29, 30, 31, 32, 33, 34, 35, 36, 37, 38, 39, 40, 10, 11, 5] (fun z => [(5, .v (.int .i64 z.1)), (1, .v (.int .i64 (k0 + cntL gPush (xs.take z.1))))]) (fun z => []) (fun z => [z.2, H]) (fun z => xs.length - z.1) (fun z => z.1 ≤ xs.length ∧ (gSl 35 gPush).ow [.slice b xs.length c] (mkL gPush k0 (xs.take z.1) ++ xs.drop z.1) z.2) ((0, A))
  · repeat' (first | exact trivial | refine ⟨⟨_, rfl, by first | rfl | exact inc_eq _ (by omega) | (refine sl_eq ?_; simp; done) | (refine svi_eq ?_; subst_vars; (try dsimp only); (try simp (disch := omega) only [wrap_of]); omega) | (simp [cntL]), by first | exact trivial | simp [SV.ok]⟩, ?_⟩)
  · exact trivial
  · try dsimp only
    exact ⟨by omega, by simpa [mkL] using ho⟩
  · exact .refl _
  rintro ⟨k, B⟩ hI
  obtain ⟨hk, oB⟩ : k ≤ xs.length ∧ (gSl 35 gPush).ow [.slice b xs.length c] (mkL gPush k0 (xs.take k) ++ xs.drop k) B := hI
  try dsimp only
  refine VCsplit.intro (fun q0 => ?_) (fun q0 => ?_)
  ·
    simp at q0
    have hs := (cntL_step gPush xs k default (by omega))
    simp only [gPush_cnt] at hs
    have hs2 := cntL_take_le gPush xs (k + 1)
    obtain ⟨y, ey, oe⟩ := OwE.mk default k oB (by rw [mk_len _ _ _ _ (by omega)]; omega)
    rw [mk_get _ _ _ _ _ (by omega)] at ey
    clear oB
    refine oe_idx oe ?_ fun b1 o1 hb1 => ?_
    · rfl
    refine oe_store gPush_kind 0 rfl oe rfl hb1 rfl gI_pl _ (gI_ow ?_) fun y2 A2 ey2 o2 => ?_
    · unfold okI; omega
    refine oe_idx o2 ?_ fun b3 o3 hb3 => ?_
    · rfl
    refine oe_store gPush_side 0 rfl o2 rfl hb3 rfl gI_pl _ (gI_ow ?_) fun y4 A4 ey4 o4 => ?_
    · exact okI_wrap _
    refine oe_idx o4 ?_ fun b5 o5 hb5 => ?_
    · rfl
    refine oe_store gPush_at 0 rfl o4 rfl hb5 rfl gI_pl _ (gI_ow ?_) fun y6 A6 ey6 o6 => ?_
    · exact okI_wrap _
    refine call_val (markText_ct _ ?_) trivial ?_
    · (simp (disch := omega) only [wrap_of]; omega)
    rintro _ rfl
    refine oe_idx o6 ?_ fun b8 o8 hb8 => ?_
    · rfl
    refine oe_store gPush_text 0 rfl o6 rfl hb8 rfl fl_pl _ (gS_ow ?_) fun y9 A9 ey9 o9 => ?_
    · exact mtx_size _
    apply loop_stepA (k + 1, _)
    · exact .refl _
    · repeat' (first | exact trivial | refine ⟨⟨_, rfl, by first | rfl | exact inc_eq _ (by omega) | (refine sl_eq ?_; simp; done) | (refine svi_eq ?_; subst_vars; (try dsimp only); (try simp (disch := omega) only [wrap_of]); omega) | (simp [cntL]), by first | exact trivial | simp [SV.ok]⟩, ?_⟩)
    · exact trivial
    · try dsimp only
      exact ⟨by omega, OwE.done (by assumption) (by rw [← mk_step gPush default xs k0 k (by omega)]; congr 1; subst_vars; (try simp only [gPush_mark, gPush_cnt]); (try simp (disch := omega) only [wrap_of]); (try rfl))⟩
    · try dsimp only
      omega
  ·
    simp at q0
    obtain rfl : k = xs.length := by omega
    rw [List.take_length, List.drop_length, List.append_nil] at oB
    exact ⟨_, ⟨by rw [List.take_length], oB⟩, (.le fun a => by (try simp only [setR, List.cons_append, List.nil_append]); simp only [List.flatten_append, List.flatten_cons, List.flatten_nil, List.count_append, List.count_nil, List.append_nil, List.nil_append]; omega)⟩

end Go.Proofs.Ytcikookachejfaa
