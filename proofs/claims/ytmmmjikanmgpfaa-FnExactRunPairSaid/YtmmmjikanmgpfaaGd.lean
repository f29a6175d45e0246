/-
  The laws' helpers over their types: marks, and what is held (printed by gent.py). Conditions: none.
-/
import Derived.Test.YtmmmjikanmgpfaaGc
namespace Go.Proofs.Ytmmmjikanmgpfaa
open Go.SX Go.Proofs
set_option maxHeartbeats 4000000
set_option linter.unusedSimpArgs false
set_option linter.unusedVariables false

theorem dgs_size : ∀ (f k : Nat) (out : ByteArray), (dgs f k out).size ≤ f + out.size
  | 0, k, out => by simp [dgs]
  | f + 1, k, out => by
    unfold dgs
    split
    · omega
    · have := dgs_size f (k / 10) (⟨#[UInt8.ofNat (48 + k % 10)]⟩ ++ out)
      rw [ByteArray.size_append] at this
      have e : (⟨#[UInt8.ofNat (48 + k % 10)]⟩ : ByteArray).size = 1 := rfl
      omega
theorem sz1 (x : UInt8) : (⟨#[x]⟩ : ByteArray).size = 1 := rfl
theorem dgs_dig (q : Nat) : ((q : Int).tmod 10) = ((q % 10 : Nat) : Int) := by rw [Int.tmod_eq_emod_of_nonneg (by omega)]; omega
theorem dgs_fr (q : Nat) (o : ByteArray) : Value.string (⟨(([IntKind.u8.wrap (IntKind.i64.wrap (48 + (q : Int).tmod 10))] : List Int).map fun v => UInt8.ofNat v.toNat).toArray⟩ ++ o) = Value.string (⟨#[UInt8.ofNat (48 + q % 10)]⟩ ++ o) := by
  rw [dgs_dig]
  have h : IntKind.u8.wrap (IntKind.i64.wrap (48 + ((q % 10 : Nat) : Int))) = ((48 + q % 10 : Nat) : Int) := by
    simp (disch := omega) only [wrap_of, u8_wrap]; omega
  rw [h]; rfl
theorem mtx_size (k : Int) : (mtx k).size ≤ 9223372036854775807 := by
  unfold mtx
  split
  · decide
  · have := dgs_size 20 k.toNat .empty
    rw [ByteArray.size_append]
    have e : (⟨#[109]⟩ : ByteArray).size = 1 := rfl
    have e2 : ByteArray.empty.size = 0 := rfl
    omega
--@ct laws.markText val markText_ct _ ?_
theorem markText_ct (k : Int) (h1 : k ≤ 4611686018427387904) : Ct Try.prog 51 [.int .i64 k] [] (fun _ => True) (fun v A => v = .string (mtx k) ∧ A = []) := by
  refine Ct.intro0 G_ok Try.func51 rfl rfl rfl fun E H hp => ?_
  refine VCsplit.intro (fun q0 => ?_) (fun q0 => ?_)
  ·
    simp at q0
    exact ⟨[], ⟨by unfold mtx; rw [if_pos (by omega)], rfl⟩, (.le fun a => by (try simp only [setR, List.cons_append, List.nil_append]); simp only [List.flatten_append, List.flatten_cons, List.flatten_nil, List.count_append, List.count_nil, List.append_nil, List.nil_append]; omega)⟩
  ·
    simp at q0
    apply loop_mod (α := (Nat) × (Nat) × (ByteArray)) G_ok [6, 7, 8, 9, 10, 11, 12, 13, 14, 15, 3, 16, 17, 0] (fun z => [(3, .v (.string z.2.2)), (0, .v (.int .i64 z.2.1))]) (fun z => []) (fun z => [H]) (fun z => z.2.1) (fun z => dgs z.1 z.2.1 z.2.2 = dgs 20 k.toNat .empty ∧ z.2.1 < 10 ^ z.1 ∧ z.2.2.size + z.1 ≤ 20 ∧ z.2.1 ≤ 4611686018427387904) ((20, k.toNat, .empty))
    · repeat' (first | exact trivial | refine ⟨⟨_, rfl, by first | rfl | exact inc_eq _ (by omega) | (refine sl_eq ?_; simp; done) | (refine svi_eq ?_; (try dsimp only); omega) | exact dgs_fr q o | (refine svi_eq ?_; (try dsimp only); rw [Int.tdiv_eq_ediv_of_nonneg (show (0 : Int) ≤ (q : Int) by omega)]; (try simp (disch := omega) only [wrap_of]); omega), by first | exact trivial | simp [SV.ok]⟩, ?_⟩)
    · exact trivial
    · try dsimp only
      exact ⟨rfl, by omega, by decide, by omega⟩
    · exact .refl _
    rintro ⟨f, q, o⟩ hI
    obtain ⟨hd, hq, hs, hm⟩ : dgs f q o = dgs 20 k.toNat .empty ∧ q < 10 ^ f ∧ o.size + f ≤ 20 ∧ q ≤ 4611686018427387904 := hI
    try dsimp only
    refine VCsplit.intro (fun q1 => ?_) (fun q1 => ?_)
    ·
      simp at q1
      obtain ⟨f, rfl⟩ : ∃ f', f = f' + 1 := by cases f with | zero => simp at hq; omega | succ f' => exact ⟨f', rfl⟩
      refine VC.intro ?_ ?_
      · trivial
      refine VCnew.intro fun x2 => ?_
      refine conv_bs G_ok (([IntKind.u8.wrap (IntKind.i64.wrap ((48 : Int) + (↑q : Int).tmod (10 : Int)))] : List Int).map fun v => UInt8.ofNat v.toNat) rfl (lit_bs [IntKind.u8.wrap (IntKind.i64.wrap ((48 : Int) + (↑q : Int).tmod (10 : Int)))] (mem_at 0 rfl _ (List.mem_singleton.2 rfl)) rfl ?_ (by simp)) rfl rfl rfl ?_
      · (simp only [inU8, u8_wrap, and_true]; omega)
      refine VC.intro ?_ ?_
      · (rw [bsz]; simp only [List.length_map, List.length_cons, List.length_nil]; have : IntKind.i64.max = 9223372036854775807 := rfl; omega)
      refine VC.intro ?_ ?_
      · trivial
      apply loop_stepA (f, q / 10, ⟨#[UInt8.ofNat (48 + q % 10)]⟩ ++ o)
      · exact .sub (by repeat (first | exact .slnil | apply List.Sublist.cons_cons | apply List.Sublist.cons))
      · repeat' (first | exact trivial | refine ⟨⟨_, rfl, by first | rfl | exact inc_eq _ (by omega) | (refine sl_eq ?_; simp; done) | (refine svi_eq ?_; (try dsimp only); omega) | exact dgs_fr q o | (refine svi_eq ?_; (try dsimp only); rw [Int.tdiv_eq_ediv_of_nonneg (show (0 : Int) ≤ (q : Int) by omega)]; (try simp (disch := omega) only [wrap_of]); omega), by first | exact trivial | simp [SV.ok]⟩, ?_⟩)
      · exact trivial
      · try dsimp only
        exact ⟨by rw [← hd]; conv => rhs; unfold dgs; rw [if_neg (by omega : ¬ q = 0)], by rw [Nat.pow_succ] at hq; omega, by rw [ByteArray.size_append, sz1]; omega, by omega⟩
      · try dsimp only
        omega
    ·
      simp at q1
      obtain rfl : q = 0 := by omega
      have hd0 : o = dgs 20 k.toNat .empty := by rw [← hd]; cases f <;> simp [dgs]
      refine VC.intro ?_ ?_
      · (have e1 : (⟨#[109]⟩ : ByteArray).size = 1 := rfl; have : IntKind.i64.max = 9223372036854775807 := rfl; omega)
      exact ⟨[], ⟨by unfold mtx; rw [if_neg (by omega), hd0], rfl⟩, (.le fun a => by (try simp only [setR, List.cons_append, List.nil_append]); simp only [List.flatten_append, List.flatten_cons, List.flatten_nil, List.count_append, List.count_nil, List.append_nil, List.nil_append]; omega)⟩

--@ct laws.markIntS mark1 markIntS_ct _ _ _ _ _ _ ~ ?_ ?_
theorem markIntS_ct (b : Option Addr) (m c : Nat) (xs : List Int) (A : Hp) (k0 : Int) (ho : (gSl 3 gI).ow [.slice b m c] xs A) (h0 : 0 ≤ k0) (h1 : k0 + cntL gI xs ≤ 4611686018427387904) :
    CtR Try.prog 55 [.slice b m c, .int .i64 k0] A (fun _ => True) (fun v A => v = .int .i64 (k0 + cntL gI xs) ∧ (gSl 3 gI).ow [.slice b m c] (mkL gI k0 xs) A) := by
  obtain ⟨rfl, hcl, hl⟩ := sl_len (Gt.owrd _ ho)
  refine CtR.intro G_ok [A] Try.func55 rfl rfl rfl (by simp) fun E H hp => ?_
  apply loop_mod (α := (Nat) × (Hp)) G_ok [6, 7, 8, 9, 12, 13, 14, 15, 16, 17, 1, 10, 11, 5] (fun z => [(5, .v (.int .i64 z.1)), (1, .v (.int .i64 (k0 + cntL gI (xs.take z.1))))]) (fun z => []) (fun z => [z.2, H]) (fun z => xs.length - z.1) (fun z => z.1 ≤ xs.length ∧ (gSl 3 gI).ow [.slice b xs.length c] (mkL gI k0 (xs.take z.1) ++ xs.drop z.1) z.2) ((0, A))
  · repeat' (first | exact trivial | refine ⟨⟨_, rfl, by first | rfl | exact inc_eq _ (by omega) | (refine sl_eq ?_; simp; done) | (refine svi_eq ?_; subst_vars; (try dsimp only); (try simp (disch := omega) only [wrap_of]); omega) | (simp [cntL]), by first | exact trivial | simp [SV.ok]⟩, ?_⟩)
  · exact trivial
  · try dsimp only
    exact ⟨by omega, by simpa [mkL] using ho⟩
  · exact .refl _
  rintro ⟨k, B⟩ hI
  obtain ⟨hk, oB⟩ : k ≤ xs.length ∧ (gSl 3 gI).ow [.slice b xs.length c] (mkL gI k0 (xs.take k) ++ xs.drop k) B := hI
  try dsimp only
  refine VCsplit.intro (fun q0 => ?_) (fun q0 => ?_)
  ·
    simp at q0
    have hs : cntL gI (xs.take (k + 1)) = cntL gI (xs.take k) + 1 := (cntL_step gI xs k 0 (by omega))
    have hs2 := cntL_take_le gI xs (k + 1)
    refine idx_rd (Gt.owrd _ oB) ?_ ?_ fun b1 o1 hb1 => ?_
    · omega
    · (rw [mk_len _ _ _ _ (by omega)]; omega)
    refine gstoreN (Fld.id _) 0 (k) 0 rfl rfl oB ?_ ?_ hb1 rfl gI_pl _ (gI_ow ?_) fun A2 o2 => ?_
    · omega
    · (rw [mk_len _ _ _ _ (by omega)]; omega)
    · unfold okI; omega
    apply loop_stepA (k + 1, _)
    · exact .refl _
    · repeat' (first | exact trivial | refine ⟨⟨_, rfl, by first | rfl | exact inc_eq _ (by omega) | (refine sl_eq ?_; simp; done) | (refine svi_eq ?_; subst_vars; (try dsimp only); (try simp (disch := omega) only [wrap_of]); omega) | (simp [cntL]), by first | exact trivial | simp [SV.ok]⟩, ?_⟩)
    · exact trivial
    · try dsimp only
      exact ⟨by omega, by rw [← mk_step gI 0 xs k0 k (by omega)] ; assumption⟩
    · try dsimp only
      omega
  ·
    simp at q0
    obtain rfl : k = xs.length := by omega
    rw [List.take_length, List.drop_length, List.append_nil] at oB
    exact ⟨_, ⟨by rw [List.take_length], oB⟩, (.le fun a => by (try simp only [setR, List.cons_append, List.nil_append]); simp only [List.flatten_append, List.flatten_cons, List.flatten_nil, List.count_append, List.count_nil, List.append_nil, List.nil_append]; omega)⟩

--@ct laws.heldIntS val heldIntS_ct _ _ _ _ _ _ ?_ ?_ ?_ | %1
theorem heldIntS_ct (b : Option Addr) (m c : Nat) (xs : List Int) (k0 k1 : Int) (hk1 : k0 = k1) (h0 : 0 ≤ k0) (h1 : k0 + cntL gI xs ≤ 4611686018427387904) :
    Ct Try.prog 59 [.slice b m c, .int .i64 k0] [] (fun H => (gSl 3 gI).rd H [.slice b m c] (mkL gI k1 xs)) (fun v A => v = .int .i64 (k0 + cntL gI xs) ∧ A = []) := by
  subst hk1
  refine Ct.intro0 G_ok Try.func59 rfl rfl rfl fun E H hp => ?_
  have hm0 := (sl_len hp).1
  rw [mkL_len] at hm0; subst hm0
  obtain ⟨-, hcl, hl⟩ := sl_len hp
  rw [mkL_len] at hcl hl
  have hln := mkL_len gI xs k0
  apply loop_mod (α := (Nat)) G_ok [6, 7, 8, 9, 12, 13, 14, 15, 16, 17, 4, 18, 19, 1, 10, 11, 5] (fun z => [(5, .v (.int .i64 z)), (1, .v (.int .i64 (k0 + cntL gI (xs.take z))))]) (fun z => []) (fun z => [H]) (fun z => xs.length - z) (fun z => z ≤ xs.length) (0)
  · repeat' (first | exact trivial | refine ⟨⟨_, rfl, by first | rfl | exact inc_eq _ (by omega) | (refine sl_eq ?_; simp; done) | (refine svi_eq ?_; (try dsimp only); (try simp (disch := omega) only [wrap_of]); omega) | (simp [cntL]), by first | exact trivial | simp [SV.ok]⟩, ?_⟩)
  · exact trivial
  · omega
  · exact .refl _
  rintro k hI
  obtain hk : k ≤ xs.length := hI
  try dsimp only
  refine VCsplit.intro (fun q0 => ?_) (fun q0 => ?_)
  ·
    simp at q0
    have hs : cntL gI (xs.take (k + 1)) = cntL gI (xs.take k) + 1 := (cntL_step gI xs k 0 (by omega))
    have hs2 := cntL_take_le gI xs (k + 1)
    have hm : (mkL gI k0 xs)[k]?.getD 0 = k0 + cntL gI (xs.take k) := mkL_get gI 0 xs k0 k (by omega)
    refine idx_rd hp ?_ ?_ fun b1 o1 hb1 => ?_
    · omega
    · omega
    refine load_allN 0 (k) rfl hp ?_ ?_ hb1 rfl (mem_at 0 rfl) fun l2 hl2 => ?_
    · omega
    · omega
    rw [hm] at hl2
    obtain ⟨rfl, hw2⟩ := hl2; simp only [flStr, flInt, okI] at hw2
    refine VCsplit.intro (fun q3 => ?_) (fun q3 => ?_)
    ·
      simp at q3
    ·
      simp at q3
      apply loop_stepA (k + 1)
      · exact .refl _
      · repeat' (first | exact trivial | refine ⟨⟨_, rfl, by first | rfl | exact inc_eq _ (by omega) | (refine sl_eq ?_; simp; done) | (refine svi_eq ?_; (try dsimp only); (try simp (disch := omega) only [wrap_of]); omega) | (simp [cntL]), by first | exact trivial | simp [SV.ok]⟩, ?_⟩)
      · exact trivial
      · trivial
      · omega
  ·
    simp at q0
    obtain rfl : k = xs.length := by omega
    exact ⟨[], ⟨by rw [List.take_length], rfl⟩, (.le fun a => by (try simp only [setR, List.cons_append, List.nil_append]); simp only [List.flatten_append, List.flatten_cons, List.flatten_nil, List.count_append, List.count_nil, List.append_nil, List.nil_append]; omega)⟩

--@ct laws.markStringS mark1 markStringS_ct _ _ _ _ _ _ ~ ?_ ?_
theorem markStringS_ct (b : Option Addr) (m c : Nat) (xs : List ByteArray) (A : Hp) (k0 : Int) (ho : (gSl 9 gS).ow [.slice b m c] xs A) (h0 : 0 ≤ k0) (h1 : k0 + cntL gS xs ≤ 4611686018427387904) :
    CtR Try.prog 53 [.slice b m c, .int .i64 k0] A (fun _ => True) (fun v A => v = .int .i64 (k0 + cntL gS xs) ∧ (gSl 9 gS).ow [.slice b m c] (mkL gS k0 xs) A) := by
  obtain ⟨rfl, hcl, hl⟩ := sl_len (Gt.owrd _ ho)
  refine CtR.intro G_ok [A] Try.func53 rfl rfl rfl (by simp) fun E H hp => ?_
  apply loop_mod (α := (Nat) × (Hp)) G_ok [6, 7, 8, 9, 12, 13, 14, 15, 16, 17, 18, 1, 10, 11, 5] (fun z => [(5, .v (.int .i64 z.1)), (1, .v (.int .i64 (k0 + cntL gS (xs.take z.1))))]) (fun z => []) (fun z => [z.2, H]) (fun z => xs.length - z.1) (fun z => z.1 ≤ xs.length ∧ (gSl 9 gS).ow [.slice b xs.length c] (mkL gS k0 (xs.take z.1) ++ xs.drop z.1) z.2) ((0, A))
  · repeat' (first | exact trivial | refine ⟨⟨_, rfl, by first | rfl | exact inc_eq _ (by omega) | (refine sl_eq ?_; simp; done) | (refine svi_eq ?_; subst_vars; (try dsimp only); (try simp (disch := omega) only [wrap_of]); omega) | (simp [cntL]), by first | exact trivial | simp [SV.ok]⟩, ?_⟩)
  · exact trivial
  · try dsimp only
    exact ⟨by omega, by simpa [mkL] using ho⟩
  · exact .refl _
  rintro ⟨k, B⟩ hI
  obtain ⟨hk, oB⟩ : k ≤ xs.length ∧ (gSl 9 gS).ow [.slice b xs.length c] (mkL gS k0 (xs.take k) ++ xs.drop k) B := hI
  try dsimp only
  refine VCsplit.intro (fun q0 => ?_) (fun q0 => ?_)
  ·
    simp at q0
    have hs : cntL gS (xs.take (k + 1)) = cntL gS (xs.take k) + 1 := (cntL_step gS xs k ByteArray.empty (by omega))
    have hs2 := cntL_take_le gS xs (k + 1)
    refine call_val (markText_ct _ ?_) trivial ?_
    · omega
    rintro _ rfl
    refine idx_rd (Gt.owrd _ oB) ?_ ?_ fun b2 o2 hb2 => ?_
    · omega
    · (rw [mk_len _ _ _ _ (by omega)]; omega)
    refine gstoreN (Fld.id _) ByteArray.empty (k) 0 rfl rfl oB ?_ ?_ hb2 rfl fl_pl _ (gS_ow ?_) fun A3 o3 => ?_
    · omega
    · (rw [mk_len _ _ _ _ (by omega)]; omega)
    · exact mtx_size _
    apply loop_stepA (k + 1, _)
    · exact .refl _
    · repeat' (first | exact trivial | refine ⟨⟨_, rfl, by first | rfl | exact inc_eq _ (by omega) | (refine sl_eq ?_; simp; done) | (refine svi_eq ?_; subst_vars; (try dsimp only); (try simp (disch := omega) only [wrap_of]); omega) | (simp [cntL]), by first | exact trivial | simp [SV.ok]⟩, ?_⟩)
    · exact trivial
    · try dsimp only
      exact ⟨by omega, by rw [← mk_step gS ByteArray.empty xs k0 k (by omega)] ; assumption⟩
    · try dsimp only
      omega
  ·
    simp at q0
    obtain rfl : k = xs.length := by omega
    rw [List.take_length, List.drop_length, List.append_nil] at oB
    exact ⟨_, ⟨by rw [List.take_length], oB⟩, (.le fun a => by (try simp only [setR, List.cons_append, List.nil_append]); simp only [List.flatten_append, List.flatten_cons, List.flatten_nil, List.count_append, List.count_nil, List.append_nil, List.nil_append]; omega)⟩

--@ct laws.heldStringS val heldStringS_ct _ _ _ _ _ _ ?_ ?_ ?_ | %1
theorem heldStringS_ct (b : Option Addr) (m c : Nat) (xs : List ByteArray) (k0 k1 : Int) (hk1 : k0 = k1) (h0 : 0 ≤ k0) (h1 : k0 + cntL gS xs ≤ 4611686018427387904) :
    Ct Try.prog 57 [.slice b m c, .int .i64 k0] [] (fun H => (gSl 9 gS).rd H [.slice b m c] (mkL gS k1 xs)) (fun v A => v = .int .i64 (k0 + cntL gS xs) ∧ A = []) := by
  subst hk1
  refine Ct.intro0 G_ok Try.func57 rfl rfl rfl fun E H hp => ?_
  have hm0 := (sl_len hp).1
  rw [mkL_len] at hm0; subst hm0
  obtain ⟨-, hcl, hl⟩ := sl_len hp
  rw [mkL_len] at hcl hl
  have hln := mkL_len gS xs k0
  apply loop_mod (α := (Nat)) G_ok [6, 7, 8, 9, 12, 13, 14, 15, 16, 17, 18, 4, 19, 20, 1, 10, 11, 5] (fun z => [(5, .v (.int .i64 z)), (1, .v (.int .i64 (k0 + cntL gS (xs.take z))))]) (fun z => []) (fun z => [H]) (fun z => xs.length - z) (fun z => z ≤ xs.length) (0)
  · repeat' (first | exact trivial | refine ⟨⟨_, rfl, by first | rfl | exact inc_eq _ (by omega) | (refine sl_eq ?_; simp; done) | (refine svi_eq ?_; (try dsimp only); (try simp (disch := omega) only [wrap_of]); omega) | (simp [cntL]), by first | exact trivial | simp [SV.ok]⟩, ?_⟩)
  · exact trivial
  · omega
  · exact .refl _
  rintro k hI
  obtain hk : k ≤ xs.length := hI
  try dsimp only
  refine VCsplit.intro (fun q0 => ?_) (fun q0 => ?_)
  ·
    simp at q0
    have hs : cntL gS (xs.take (k + 1)) = cntL gS (xs.take k) + 1 := (cntL_step gS xs k ByteArray.empty (by omega))
    have hs2 := cntL_take_le gS xs (k + 1)
    have hm : (mkL gS k0 xs)[k]?.getD ByteArray.empty = mtx (k0 + cntL gS (xs.take k)) := mkL_get gS ByteArray.empty xs k0 k (by omega)
    refine draw G_ok mixed none (.q 0 (.q 1 (.q 2 (.q 3 (.q 4 (.f 5 (.q 6 (.nil)))))))) (by decide +kernel) ?_
    refine idx_rd hp ?_ ?_ fun b1 o1 hb1 => ?_
    · omega
    · omega
    refine load_allN ByteArray.empty (k) rfl hp ?_ ?_ hb1 rfl (mem_at 0 rfl) fun l2 hl2 => ?_
    · omega
    · omega
    rw [hm] at hl2
    obtain ⟨rfl, hw2⟩ := hl2; simp only [flStr, flInt, okI] at hw2
    refine call_val (markText_ct _ ?_) trivial ?_
    · omega
    rintro _ rfl
    refine VC.intro ?_ ?_
    · exact fun _ h => h
    refine VCsplit.intro (fun q4 => ?_) (fun q4 => ?_)
    ·
      simp at q4
    ·
      simp at q4
      apply loop_stepA (k + 1)
      · exact .refl _
      · repeat' (first | exact trivial | refine ⟨⟨_, rfl, by first | rfl | exact inc_eq _ (by omega) | (refine sl_eq ?_; simp; done) | (refine svi_eq ?_; (try dsimp only); (try simp (disch := omega) only [wrap_of]); omega) | (simp [cntL]), by first | exact trivial | simp [SV.ok]⟩, ?_⟩)
      · exact trivial
      · trivial
      · omega
  ·
    simp at q0
    obtain rfl : k = xs.length := by omega
    exact ⟨[], ⟨by rw [List.take_length], rfl⟩, (.le fun a => by (try simp only [setR, List.cons_append, List.nil_append]); simp only [List.flatten_append, List.flatten_cons, List.flatten_nil, List.count_append, List.count_nil, List.append_nil, List.nil_append]; omega)⟩

--@ct laws.markLinkS mark1 markLinkS_ct _ _ _ _ _ _ ~ ?_ ?_
theorem markLinkS_ct (b : Option Addr) (m c : Nat) (xs : List Link) (A : Hp) (k0 : Int) (ho : (gSl 45 gLink).ow [.slice b m c] xs A) (h0 : 0 ≤ k0) (h1 : k0 + cntL gLink xs ≤ 4611686018427387904) :
    CtR Try.prog 52 [.slice b m c, .int .i64 k0] A (fun _ => True) (fun v A => v = .int .i64 (k0 + cntL gLink xs) ∧ (gSl 45 gLink).ow [.slice b m c] (mkL gLink k0 xs) A) := by
  obtain ⟨rfl, hcl, hl⟩ := sl_len (Gt.owrd _ ho)
  refine CtR.intro G_ok [A] Try.func52 rfl rfl rfl (by simp) fun E H hp => ?_
  apply loop_mod (α := (Nat) × (Hp)) G_ok [6, 7, 8, 9, 12, 13, 14, 15, 16, 17, 18, 1, 19, 20, 21, 22, 23, 24, 25, 26, 27, 28, 29, 30, 31, 32, 10, 11, 5] (fun z => [(5, .v (.int .i64 z.1)), (1, .v (.int .i64 (k0 + cntL gLink (xs.take z.1))))]) (fun z => []) (fun z => [z.2, H]) (fun z => xs.length - z.1) (fun z => z.1 ≤ xs.length ∧ (gSl 45 gLink).ow [.slice b xs.length c] (mkL gLink k0 (xs.take z.1) ++ xs.drop z.1) z.2) ((0, A))
  · repeat' (first | exact trivial | refine ⟨⟨_, rfl, by first | rfl | exact inc_eq _ (by omega) | (refine sl_eq ?_; simp; done) | (refine svi_eq ?_; subst_vars; (try dsimp only); (try simp (disch := omega) only [wrap_of]); omega) | (simp [cntL]), by first | exact trivial | simp [SV.ok]⟩, ?_⟩)
  · exact trivial
  · try dsimp only
    exact ⟨by omega, by simpa [mkL] using ho⟩
  · exact .refl _
  rintro ⟨k, B⟩ hI
  obtain ⟨hk, oB⟩ : k ≤ xs.length ∧ (gSl 45 gLink).ow [.slice b xs.length c] (mkL gLink k0 (xs.take k) ++ xs.drop k) B := hI
  try dsimp only
  refine VCsplit.intro (fun q0 => ?_) (fun q0 => ?_)
  ·
    simp at q0
    have hs := (cntL_step gLink xs k default (by omega))
    simp only [gLink_cnt] at hs
    have hs2 := cntL_take_le gLink xs (k + 1)
    obtain ⟨y, ey, oe⟩ := OwE.mk default k oB (by rw [mk_len _ _ _ _ (by omega)]; omega)
    rw [mk_get _ _ _ _ _ (by omega)] at ey
    clear oB
    refine oe_idx oe ?_ fun b1 o1 hb1 => ?_
    · rfl
    refine oe_load gLink_sent oe rfl hb1 rfl (mem_at 0 rfl) fun l2 hl2 hf2 => ?_
    obtain ⟨u2, w2, rfl, hl2⟩ := sl_rd hl2
    refine call_foc 0 rfl hf2 (fun Af3 oa3 => markStringS_ct _ _ _ _ _ _ oa3 ?_ ?_) (fun _ _ => trivial) ?_
    · omega
    · simp_all; omega
    rintro _ A3 rfl ⟨y3, ey3, o3⟩
    try dsimp only at ey3
    refine oe_idx o3 ?_ fun b4 o4 hb4 => ?_
    · rfl
    refine oe_store gLink_acked 0 rfl o3 rfl hb4 rfl gI_pl _ (gI_ow ?_) fun y5 A5 ey5 o5 => ?_
    · (subst_vars; unfold okI; (try dsimp only at *); omega)
    refine oe_idx o5 ?_ fun b6 o6 hb6 => ?_
    · rfl
    refine oe_store gLink_took 0 rfl o5 rfl hb6 rfl gI_pl _ (gI_ow ?_) fun y7 A7 ey7 o7 => ?_
    · exact okI_wrap _
    apply loop_stepA (k + 1, _)
    · exact .refl _
    · repeat' (first | exact trivial | refine ⟨⟨_, rfl, by first | rfl | exact inc_eq _ (by omega) | (refine sl_eq ?_; simp; done) | (refine svi_eq ?_; subst_vars; (try dsimp only); (try simp (disch := omega) only [wrap_of]); omega) | (simp [cntL]), by first | exact trivial | simp [SV.ok]⟩, ?_⟩)
    · exact trivial
    · try dsimp only
      exact ⟨by omega, OwE.done (by assumption) (by rw [← mk_step gLink default xs k0 k (by omega)]; congr 1; subst_vars; (try simp only [gLink_mark, gLink_cnt]); (try simp (disch := omega) only [wrap_of]); (try rfl))⟩
    · try dsimp only
      omega
  ·
    simp at q0
    obtain rfl : k = xs.length := by omega
    rw [List.take_length, List.drop_length, List.append_nil] at oB
    exact ⟨_, ⟨by rw [List.take_length], oB⟩, (.le fun a => by (try simp only [setR, List.cons_append, List.nil_append]); simp only [List.flatten_append, List.flatten_cons, List.flatten_nil, List.count_append, List.count_nil, List.append_nil, List.nil_append]; omega)⟩

--@ct laws.heldLinkS val heldLinkS_ct _ _ _ _ _ _ ?_ ?_ ?_ | %1
theorem heldLinkS_ct (b : Option Addr) (m c : Nat) (xs : List Link) (k0 k1 : Int) (hk1 : k0 = k1) (h0 : 0 ≤ k0) (h1 : k0 + cntL gLink xs ≤ 4611686018427387904) :
    Ct Try.prog 56 [.slice b m c, .int .i64 k0] [] (fun H => (gSl 45 gLink).rd H [.slice b m c] (mkL gLink k1 xs)) (fun v A => v = .int .i64 (k0 + cntL gLink xs) ∧ A = []) := by
  subst hk1
  refine Ct.intro0 G_ok Try.func56 rfl rfl rfl fun E H hp => ?_
  have hm0 := (sl_len hp).1
  rw [mkL_len] at hm0; subst hm0
  obtain ⟨-, hcl, hl⟩ := sl_len hp
  rw [mkL_len] at hcl hl
  have hln := mkL_len gLink xs k0
  apply loop_mod (α := (Nat)) G_ok [6, 7, 8, 9, 12, 13, 14, 15, 16, 17, 18, 1, 19, 20, 4, 21, 22, 23, 24, 25, 26, 27, 28, 29, 30, 31, 32, 33, 34, 35, 36, 37, 38, 10, 11, 5] (fun z => [(5, .v (.int .i64 z)), (1, .v (.int .i64 (k0 + cntL gLink (xs.take z))))]) (fun z => []) (fun z => [H]) (fun z => xs.length - z) (fun z => z ≤ xs.length) (0)
  · repeat' (first | exact trivial | refine ⟨⟨_, rfl, by first | rfl | exact inc_eq _ (by omega) | (refine sl_eq ?_; simp; done) | (refine svi_eq ?_; (try dsimp only); (try simp (disch := omega) only [wrap_of]); omega) | (simp [cntL]), by first | exact trivial | simp [SV.ok]⟩, ?_⟩)
  · exact trivial
  · omega
  · exact .refl _
  rintro k hI
  obtain hk : k ≤ xs.length := hI
  try dsimp only
  refine VCsplit.intro (fun q0 => ?_) (fun q0 => ?_)
  ·
    simp at q0
    have hs := (cntL_step gLink xs k default (by omega))
    simp only [gLink_cnt] at hs
    have hs2 := cntL_take_le gLink xs (k + 1)
    have hm := mkL_get gLink default xs k0 k (by omega)
    simp only [gLink_mark, gLink_cnt] at hm
    refine idx_rd hp ?_ ?_ fun b1 o1 hb1 => ?_
    · omega
    · omega
    refine load_partN default (k) 0 rfl hp ?_ ?_ hb1 rfl (by decide) (mem_at 0 rfl) fun l2 hl2 => ?_
    · omega
    · omega
    rw [hm] at hl2
    obtain ⟨b0x2, c0x2, rfl, h0x2, w1x2, w2x2⟩ := gLink_rd.1 hl2
    refine call_val (heldStringS_ct _ _ _ _ _ _ ?_ ?_ ?_) (Rp.mono _ (mem_at 0 rfl) h0x2) ?_
    · rfl
    · omega
    · omega
    rintro _ rfl
    refine VCsplit.intro (fun q4 => ?_) (fun q4 => ?_)
    ·
      simp at q4
      exfalso; omega
    ·
      simp at q4
      refine idx_rd hp ?_ ?_ fun b5 o5 hb5 => ?_
      · omega
      · omega
      refine load_partN default (k) 1 rfl hp ?_ ?_ hb5 rfl (by decide) (mem_at 0 rfl) fun l6 hl6 => ?_
      · omega
      · omega
      rw [hm] at hl6
      obtain ⟨b0x6, c0x6, rfl, h0x6, w1x6, w2x6⟩ := gLink_rd.1 hl6
      refine VCsplit.intro (fun q7 => ?_) (fun q7 => ?_)
      ·
        simp at q7
      ·
        simp at q7
        refine idx_rd hp ?_ ?_ fun b8 o8 hb8 => ?_
        · omega
        · omega
        refine load_partN default (k) 2 rfl hp ?_ ?_ hb8 rfl (by decide) (mem_at 0 rfl) fun l9 hl9 => ?_
        · omega
        · omega
        rw [hm] at hl9
        obtain ⟨b0x9, c0x9, rfl, h0x9, w1x9, w2x9⟩ := gLink_rd.1 hl9
        refine VCsplit.intro (fun q10 => ?_) (fun q10 => ?_)
        ·
          simp at q10
          simp (disch := omega) only [wrap_of] at q10
          exact absurd trivial q10
        ·
          simp at q10
          simp (disch := omega) only [wrap_of] at q10
          apply loop_stepA (k + 1)
          · exact .refl _
          · repeat' (first | exact trivial | refine ⟨⟨_, rfl, by first | rfl | exact inc_eq _ (by omega) | (refine sl_eq ?_; simp; done) | (refine svi_eq ?_; (try dsimp only); (try simp (disch := omega) only [wrap_of]); omega) | (simp [cntL]), by first | exact trivial | simp [SV.ok]⟩, ?_⟩)
          · exact trivial
          · trivial
          · omega
  ·
    simp at q0
    obtain rfl : k = xs.length := by omega
    exact ⟨[], ⟨by rw [List.take_length], rfl⟩, (.le fun a => by (try simp only [setR, List.cons_append, List.nil_append]); simp only [List.flatten_append, List.flatten_cons, List.flatten_nil, List.count_append, List.count_nil, List.append_nil, List.nil_append]; omega)⟩

--@ct laws.markStringSS mark1 markStringSS_ct _ _ _ _ _ _ ~ ?_ ?_
theorem markStringSS_ct (b : Option Addr) (m c : Nat) (xs : List (List ByteArray)) (A : Hp) (k0 : Int) (ho : (gSl 27 (gSl 9 gS)).ow [.slice b m c] xs A) (h0 : 0 ≤ k0) (h1 : k0 + cntL (gSl 9 gS) xs ≤ 4611686018427387904) :
    CtR Try.prog 54 [.slice b m c, .int .i64 k0] A (fun _ => True) (fun v A => v = .int .i64 (k0 + cntL (gSl 9 gS) xs) ∧ (gSl 27 (gSl 9 gS)).ow [.slice b m c] (mkL (gSl 9 gS) k0 xs) A) := by
  obtain ⟨rfl, hcl, hl⟩ := sl_len (Gt.owrd _ ho)
  refine CtR.intro G_ok [A] Try.func54 rfl rfl rfl (by simp) fun E H hp => ?_
  apply loop_mod (α := (Nat) × (Hp)) G_ok [6, 7, 8, 9, 12, 13, 14, 15, 16, 17, 1, 10, 11, 5] (fun z => [(5, .v (.int .i64 z.1)), (1, .v (.int .i64 (k0 + cntL (gSl 9 gS) (xs.take z.1))))]) (fun z => []) (fun z => [z.2, H]) (fun z => xs.length - z.1) (fun z => z.1 ≤ xs.length ∧ (gSl 27 (gSl 9 gS)).ow [.slice b xs.length c] (mkL (gSl 9 gS) k0 (xs.take z.1) ++ xs.drop z.1) z.2) ((0, A))
  · repeat' (first | exact trivial | refine ⟨⟨_, rfl, by first | rfl | exact inc_eq _ (by omega) | (refine sl_eq ?_; simp; done) | (refine svi_eq ?_; subst_vars; (try dsimp only); (try simp (disch := omega) only [wrap_of]); omega) | (simp [cntL]), by first | exact trivial | simp [SV.ok]⟩, ?_⟩)
  · exact trivial
  · try dsimp only
    exact ⟨by omega, by simpa [mkL] using ho⟩
  · exact .refl _
  rintro ⟨k, B⟩ hI
  obtain ⟨hk, oB⟩ : k ≤ xs.length ∧ (gSl 27 (gSl 9 gS)).ow [.slice b xs.length c] (mkL (gSl 9 gS) k0 (xs.take k) ++ xs.drop k) B := hI
  try dsimp only
  refine VCsplit.intro (fun q0 => ?_) (fun q0 => ?_)
  ·
    simp at q0
    have hs := (cntL_step (gSl 9 gS) xs k [] (by omega))
    change _ = _ + cntL _ _ at hs
    have hs2 := cntL_take_le (gSl 9 gS) xs (k + 1)
    obtain ⟨y, ey, oe⟩ := OwE.mk [] k oB (by rw [mk_len _ _ _ _ (by omega)]; omega)
    rw [mk_get _ _ _ _ _ (by omega)] at ey
    clear oB
    refine oe_idx oe ?_ fun b1 o1 hb1 => ?_
    · rfl
    refine oe_load fldId oe rfl hb1 rfl (mem_at 0 rfl) fun l2 hl2 hf2 => ?_
    obtain ⟨u2, w2, rfl, hl2⟩ := sl_rd hl2
    refine call_foc 0 rfl hf2 (fun Af3 oa3 => markStringS_ct _ _ _ _ _ _ oa3 ?_ ?_) (fun _ _ => trivial) ?_
    · omega
    · simp_all; omega
    rintro _ A3 rfl ⟨y3, ey3, o3⟩
    try dsimp only at ey3
    apply loop_stepA (k + 1, _)
    · exact .refl _
    · repeat' (first | exact trivial | refine ⟨⟨_, rfl, by first | rfl | exact inc_eq _ (by omega) | (refine sl_eq ?_; simp; done) | (refine svi_eq ?_; subst_vars; (try dsimp only); (try simp (disch := omega) only [wrap_of]); omega) | (simp [cntL]), by first | exact trivial | simp [SV.ok]⟩, ?_⟩)
    · exact trivial
    · try dsimp only
      exact ⟨by omega, OwE.done (by assumption) (by rw [← mk_step (gSl 9 gS) [] xs k0 k (by omega)]; congr 1; subst_vars; (try simp only [mkL]); (try simp (disch := omega) only [wrap_of]); (try rfl))⟩
    · try dsimp only
      omega
  ·
    simp at q0
    obtain rfl : k = xs.length := by omega
    rw [List.take_length, List.drop_length, List.append_nil] at oB
    exact ⟨_, ⟨by rw [List.take_length], oB⟩, (.le fun a => by (try simp only [setR, List.cons_append, List.nil_append]); simp only [List.flatten_append, List.flatten_cons, List.flatten_nil, List.count_append, List.count_nil, List.append_nil, List.nil_append]; omega)⟩

--@ct laws.heldStringSS val heldStringSS_ct _ _ _ _ _ _ ?_ ?_ ?_ | %1
theorem heldStringSS_ct (b : Option Addr) (m c : Nat) (xs : List (List ByteArray)) (k0 k1 : Int) (hk1 : k0 = k1) (h0 : 0 ≤ k0) (h1 : k0 + cntL (gSl 9 gS) xs ≤ 4611686018427387904) :
    Ct Try.prog 58 [.slice b m c, .int .i64 k0] [] (fun H => (gSl 27 (gSl 9 gS)).rd H [.slice b m c] (mkL (gSl 9 gS) k1 xs)) (fun v A => v = .int .i64 (k0 + cntL (gSl 9 gS) xs) ∧ A = []) := by
  subst hk1
  refine Ct.intro0 G_ok Try.func58 rfl rfl rfl fun E H hp => ?_
  have hm0 := (sl_len hp).1
  rw [mkL_len] at hm0; subst hm0
  obtain ⟨-, hcl, hl⟩ := sl_len hp
  rw [mkL_len] at hcl hl
  have hln := mkL_len (gSl 9 gS) xs k0
  apply loop_mod (α := (Nat)) G_ok [6, 7, 8, 9, 12, 13, 14, 15, 16, 17, 1, 18, 19, 4, 10, 11, 5] (fun z => [(5, .v (.int .i64 z)), (1, .v (.int .i64 (k0 + cntL (gSl 9 gS) (xs.take z))))]) (fun z => []) (fun z => [H]) (fun z => xs.length - z) (fun z => z ≤ xs.length) (0)
  · repeat' (first | exact trivial | refine ⟨⟨_, rfl, by first | rfl | exact inc_eq _ (by omega) | (refine sl_eq ?_; simp; done) | (refine svi_eq ?_; (try dsimp only); (try simp (disch := omega) only [wrap_of]); omega) | (simp [cntL]), by first | exact trivial | simp [SV.ok]⟩, ?_⟩)
  · exact trivial
  · omega
  · exact .refl _
  rintro k hI
  obtain hk : k ≤ xs.length := hI
  try dsimp only
  refine VCsplit.intro (fun q0 => ?_) (fun q0 => ?_)
  ·
    simp at q0
    have hs := (cntL_step (gSl 9 gS) xs k [] (by omega))
    change _ = _ + cntL _ _ at hs
    have hs2 := cntL_take_le (gSl 9 gS) xs (k + 1)
    have hm := mkL_get (gSl 9 gS) [] xs k0 k (by omega)
    change _ = mkL _ _ _ at hm
    refine idx_rd hp ?_ ?_ fun b1 o1 hb1 => ?_
    · omega
    · omega
    refine load_allN [] (k) rfl hp ?_ ?_ hb1 rfl (mem_at 0 rfl) fun l2 hl2 => ?_
    · omega
    · omega
    rw [hm] at hl2
    obtain ⟨u2, w2, rfl, hl2⟩ := sl_rd hl2
    refine call_val (heldStringS_ct _ _ _ _ _ _ ?_ ?_ ?_) (Rp.mono _ (mem_at 0 rfl) hl2) ?_
    · rfl
    · omega
    · omega
    rintro _ rfl
    refine VCsplit.intro (fun q4 => ?_) (fun q4 => ?_)
    ·
      simp at q4
      exfalso; omega
    ·
      simp at q4
      apply loop_stepA (k + 1)
      · exact .refl _
      · repeat' (first | exact trivial | refine ⟨⟨_, rfl, by first | rfl | exact inc_eq _ (by omega) | (refine sl_eq ?_; simp; done) | (refine svi_eq ?_; (try dsimp only); (try simp (disch := omega) only [wrap_of]); omega) | (simp [cntL]), by first | exact trivial | simp [SV.ok]⟩, ?_⟩)
      · exact trivial
      · trivial
      · omega
  ·
    simp at q0
    obtain rfl : k = xs.length := by omega
    exact ⟨[], ⟨by rw [List.take_length], rfl⟩, (.le fun a => by (try simp only [setR, List.cons_append, List.nil_append]); simp only [List.flatten_append, List.flatten_cons, List.flatten_nil, List.count_append, List.count_nil, List.append_nil, List.nil_append]; omega)⟩

--@ct laws.markPair mark1 markPair_ct _ _ _ _ ~ ?_ ?_
theorem markPair_ct (l : List Value) (x : Pair) (A : Hp) (k0 : Int) (ho : gPair.ow l x A) (h0 : 0 ≤ k0) (h1 : k0 + gPair.cntV x ≤ 4611686018427387904) :
    CtR Try.prog 26 [.agg ⟨l⟩, .int .i64 k0] A (fun _ => True) (fun v A => v = .int .i64 (k0 + gPair.cntV x) ∧ gPair.ow l (gPair.markV k0 x) A) := by
  obtain ⟨b0, c0, A0, b1, c1, A1, b2, c2, A2, b3, c3, A3, rfl, hpm, h0, h1, h2, h3⟩ := gPair_ow.1 ho
  have hz := gPair_cntV x
  refine CtR.introP G_ok [A0, A1, A2, A3] Try.func26 rfl rfl rfl (hpm.trans (by simp)) fun E H hp => ?_
  refine VCnew.intro fun x0 => ?_
  refine callR_at 0 rfl (markLinkS_ct _ _ _ _ _ _ h0 ?_ ?_) trivial ?_
  · trivial
  · omega
  rintro _ A1 ⟨rfl, o1⟩
  refine callR_at 1 rfl (markStringS_ct _ _ _ _ _ _ h1 ?_ ?_) trivial ?_
  · omega
  · omega
  rintro _ A2 ⟨rfl, o2⟩
  refine callR_at 2 rfl (markStringSS_ct _ _ _ _ _ _ h2 ?_ ?_) trivial ?_
  · omega
  · omega
  rintro _ A3 ⟨rfl, o3⟩
  refine callR_at 3 rfl (markIntS_ct _ _ _ _ _ _ h3 ?_ ?_) trivial ?_
  · omega
  · omega
  rintro _ A4 ⟨rfl, o4⟩
  exact ⟨_, ⟨by rw [hz]; (try simp); (try omega), by rw [gPair_markV]; exact gPair_ow.2 ⟨_, _, _, _, _, _, _, _, _, _, _, _, by simp only [mkL_len]; rfl, .refl _, by rw [mkL_len]; assumption, by rw [mkL_len]; assumption, by rw [mkL_len]; assumption, by rw [mkL_len]; assumption⟩⟩, (.le fun a => by (try simp only [setR, List.cons_append, List.nil_append]); simp only [List.flatten_append, List.flatten_cons, List.flatten_nil, List.count_append, List.count_nil, List.append_nil, List.nil_append]; omega)⟩

--@ct laws.heldPair val heldPair_ct _ _ _ _ ?_ ?_ ?_ | %1
theorem heldPair_ct (l : List Value) (x : Pair) (k0 k1 : Int) (hk1 : k0 = k1) (h0 : 0 ≤ k0) (h1 : k0 + gPair.cntV x ≤ 4611686018427387904) :
    Ct Try.prog 27 [.agg ⟨l⟩, .int .i64 k0] [] (fun H => gPair.rd H l (gPair.markV k1 x)) (fun v A => v = .int .i64 (k0 + gPair.cntV x) ∧ A = []) := by
  subst hk1
  refine Ct.intro0 G_ok Try.func27 rfl rfl rfl fun E H hp => ?_
  rw [gPair_markV] at hp
  obtain ⟨b0, c0, b1, c1, b2, c2, b3, c3, rfl, h0, h1, h2, h3⟩ := gPair_rd.1 hp
  have hz := gPair_cntV x
  refine VCnew.intro fun x0 => ?_
  refine call_val (heldLinkS_ct _ _ _ _ _ _ ?_ ?_ ?_) (Rp.mono _ (mem_at 0 rfl) h0) ?_
  · rfl
  · trivial
  · omega
  rintro _ rfl
  refine VCsplit.intro (fun q2 => ?_) (fun q2 => ?_)
  ·
    simp at q2
    exfalso; omega
  ·
    simp at q2
    refine call_val (heldStringS_ct _ _ _ _ _ _ ?_ ?_ ?_) (Rp.mono _ (mem_at 0 rfl) h1) ?_
    · rfl
    · trivial
    · omega
    rintro _ rfl
    refine VCsplit.intro (fun q4 => ?_) (fun q4 => ?_)
    ·
      simp at q4
      exfalso; omega
    ·
      simp at q4
      refine call_val (heldStringSS_ct _ _ _ _ _ _ ?_ ?_ ?_) (Rp.mono _ (mem_at 0 rfl) h2) ?_
      · rfl
      · trivial
      · omega
      rintro _ rfl
      refine VCsplit.intro (fun q6 => ?_) (fun q6 => ?_)
      ·
        simp at q6
        exfalso; omega
      ·
        simp at q6
        refine call_val (heldIntS_ct _ _ _ _ _ _ ?_ ?_ ?_) (Rp.mono _ (mem_at 0 rfl) h3) ?_
        · rfl
        · trivial
        · omega
        rintro _ rfl
        refine VCsplit.intro (fun q8 => ?_) (fun q8 => ?_)
        ·
          simp at q8
          exfalso; omega
        ·
          simp at q8
          try dsimp only
          exact ⟨[], ⟨by rw [hz]; (try simp); (try omega), rfl⟩, (.le fun a => by (try simp only [setR, List.cons_append, List.nil_append]); simp only [List.flatten_append, List.flatten_cons, List.flatten_nil, List.count_append, List.count_nil, List.append_nil, List.nil_append]; omega)⟩

--@ct laws.markPushS mark1 markPushS_ct _ _ _ _ _ _ ~ ?_ ?_
theorem markPushS_ct (b : Option Addr) (m c : Nat) (xs : List Push) (A : Hp) (k0 : Int) (ho : (gSl 35 gPush).ow [.slice b m c] xs A) (h0 : 0 ≤ k0) (h1 : k0 + cntL gPush xs ≤ 4611686018427387904) :
    CtR Try.prog 25 [.slice b m c, .int .i64 k0] A (fun _ => True) (fun v A => v = .int .i64 (k0 + cntL gPush xs) ∧ (gSl 35 gPush).ow [.slice b m c] (mkL gPush k0 xs) A) := by
  obtain ⟨rfl, hcl, hl⟩ := sl_len (Gt.owrd _ ho)
  refine CtR.intro G_ok [A] Try.func25 rfl rfl rfl (by simp) fun E H hp => ?_
  apply loop_mod (α := (Nat) × (Hp)) G_ok [6, 7, 8, 9, 12, 13, 14, 15, 16, 17, 18, 1, 19, 20, 21, 22, 23, 24, 25, 26, 27, 28, 29, 30, 31, 32, 33, 34, 35, 36, 37, 38, 39, 40, 10, 11, 5] (fun z => [(5, .v (.int .i64 z.1)), (1, .v (.int .i64 (k0 + cntL gPush (xs.take z.1))))]) (fun z => []) (fun z => [z.2, H]) (fun z => xs.length - z.1) (fun z => z.1 ≤ xs.length ∧ (gSl 35 gPush).ow [.slice b xs.length c] (mkL gPush k0 (xs.take z.1) ++ xs.drop z.1) z.2) ((0, A))
  · repeat' (first | exact trivial | refine ⟨⟨_, rfl, by first | rfl | exact inc_eq _ (by omega) | (refine sl_eq ?_; simp; done) | (refine svi_eq ?_; subst_vars; (try dsimp only); (try simp (disch := omega) only [wrap_of]); omega) | (simp [cntL]), by first | exact trivial | simp [SV.ok]⟩, ?_⟩)
  · exact trivial
  · try dsimp only
    exact ⟨by omega, by simpa [mkL] using ho⟩
  · exact .refl _
  rintro ⟨k, B⟩ hI
  obtain ⟨hk, oB⟩ : k ≤ xs.length ∧ (gSl 35 gPush).ow [.slice b xs.length c] (mkL gPush k0 (xs.take k) ++ xs.drop k) B := hI
  try dsimp only
  refine VCsplit.intro (fun q0 => ?_) (fun q0 => ?_)
  ·
    simp at q0
    have hs := (cntL_step gPush xs k default (by omega))
    simp only [gPush_cnt] at hs
    have hs2 := cntL_take_le gPush xs (k + 1)
    obtain ⟨y, ey, oe⟩ := OwE.mk default k oB (by rw [mk_len _ _ _ _ (by omega)]; omega)
    rw [mk_get _ _ _ _ _ (by omega)] at ey
    clear oB
    refine oe_idx oe ?_ fun b1 o1 hb1 => ?_
    · rfl
    refine oe_store gPush_kind 0 rfl oe rfl hb1 rfl gI_pl _ (gI_ow ?_) fun y2 A2 ey2 o2 => ?_
    · unfold okI; omega
    refine oe_idx o2 ?_ fun b3 o3 hb3 => ?_
    · rfl
    refine oe_store gPush_side 0 rfl o2 rfl hb3 rfl gI_pl _ (gI_ow ?_) fun y4 A4 ey4 o4 => ?_
    · exact okI_wrap _
    refine oe_idx o4 ?_ fun b5 o5 hb5 => ?_
    · rfl
    refine oe_store gPush_at 0 rfl o4 rfl hb5 rfl gI_pl _ (gI_ow ?_) fun y6 A6 ey6 o6 => ?_
    · exact okI_wrap _
    refine call_val (markText_ct _ ?_) trivial ?_
    · (simp (disch := omega) only [wrap_of]; omega)
    rintro _ rfl
    refine oe_idx o6 ?_ fun b8 o8 hb8 => ?_
    · rfl
    refine oe_store gPush_text 0 rfl o6 rfl hb8 rfl fl_pl _ (gS_ow ?_) fun y9 A9 ey9 o9 => ?_
    · exact mtx_size _
    apply loop_stepA (k + 1, _)
    · exact .refl _
    · repeat' (first | exact trivial | refine ⟨⟨_, rfl, by first | rfl | exact inc_eq _ (by omega) | (refine sl_eq ?_; simp; done) | (refine svi_eq ?_; subst_vars; (try dsimp only); (try simp (disch := omega) only [wrap_of]); omega) | (simp [cntL]), by first | exact trivial | simp [SV.ok]⟩, ?_⟩)
    · exact trivial
    · try dsimp only
      exact ⟨by omega, OwE.done (by assumption) (by rw [← mk_step gPush default xs k0 k (by omega)]; congr 1; subst_vars; (try simp only [gPush_mark, gPush_cnt]); (try simp (disch := omega) only [wrap_of]); (try rfl))⟩
    · try dsimp only
      omega
  ·
    simp at q0
    obtain rfl : k = xs.length := by omega
    rw [List.take_length, List.drop_length, List.append_nil] at oB
    exact ⟨_, ⟨by rw [List.take_length], oB⟩, (.le fun a => by (try simp only [setR, List.cons_append, List.nil_append]); simp only [List.flatten_append, List.flatten_cons, List.flatten_nil, List.count_append, List.count_nil, List.append_nil, List.nil_append]; omega)⟩

end Go.Proofs.Ytmmmjikanmgpfaa
