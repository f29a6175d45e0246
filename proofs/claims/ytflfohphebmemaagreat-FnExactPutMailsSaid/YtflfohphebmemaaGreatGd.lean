/-
  The laws' helpers over their types: marks, and what is held (printed by gent.py). Conditions: none.
-/
import Derived.Test.YtflfohphebmemaaGreatGc
namespace Go.Proofs.YtflfohphebmemaaGreat
open Go.SX Go.Proofs
set_option maxHeartbeats 4000000
set_option linter.unusedSimpArgs false
set_option linter.unusedVariables false

theorem dgs_size : ∀ (f k : Nat) (out : ByteArray), (dgs f k out).size ≤ f + out.size
  | 0, k, out => by simp [dgs]
  | f + 1, k, out => by
    unfold dgs
    split
    · omega
    · have := dgs_size f (k / 10) (⟨#[UInt8.ofNat (48 + k % 10)]⟩ ++ out)
      rw [ByteArray.size_append] at this
      have e : (⟨#[UInt8.ofNat (48 + k % 10)]⟩ : ByteArray).size = 1 := rfl
      omega
theorem sz1 (x : UInt8) : (⟨#[x]⟩ : ByteArray).size = 1 := rfl
theorem dgs_dig (q : Nat) : ((q : Int).tmod 10) = ((q % 10 : Nat) : Int) := by rw [Int.tmod_eq_emod_of_nonneg (by omega)]; omega
theorem dgs_fr (q : Nat) (o : ByteArray) : Value.string (⟨(([IntKind.u8.wrap (IntKind.i64.wrap (48 + (q : Int).tmod 10))] : List Int).map fun v => UInt8.ofNat v.toNat).toArray⟩ ++ o) = Value.string (⟨#[UInt8.ofNat (48 + q % 10)]⟩ ++ o) := by
  rw [dgs_dig]
  have h : IntKind.u8.wrap (IntKind.i64.wrap (48 + ((q % 10 : Nat) : Int))) = ((48 + q % 10 : Nat) : Int) := by
    simp (disch := omega) only [wrap_of, u8_wrap]; omega
  rw [h]; rfl
theorem mtx_size (k : Int) : (mtx k).size ≤ 9223372036854775807 := by
  unfold mtx
  split
  · decide
  · have := dgs_size 20 k.toNat .empty
    rw [ByteArray.size_append]
    have e : (⟨#[109]⟩ : ByteArray).size = 1 := rfl
    have e2 : ByteArray.empty.size = 0 := rfl
    omega
--@ct laws.markText val markText_ct _ ?_
theorem markText_ct (k : Int) (h1 : k ≤ 4611686018427387904) : Ct Tryz.prog 66 [.int .i64 k] [] (fun _ => True) (fun v A => v = .string (mtx k) ∧ A = []) := by
  refine Ct.intro0 G_ok Tryz.func66 rfl rfl rfl fun E H hp => ?_
  refine VCsplit.intro (fun q0 => ?_) (fun q0 => ?_)
  ·
    simp at q0
    exact ⟨[], ⟨by unfold mtx; rw [if_pos (by omega)], rfl⟩, (.le fun a => by (try simp only [setR, List.cons_append, List.nil_append]); simp only [List.flatten_append, List.flatten_cons, List.flatten_nil, List.count_append, List.count_nil, List.append_nil, List.nil_append]; omega)⟩
  ·
    simp at q0
    apply loop_mod (α := (Nat) × (Nat) × (ByteArray)) G_ok [6, 7, 8, 9, 10, 11, 12, 13, 14, 15, 3, 16, 17, 0] (fun z => [(3, .v (.string z.2.2)), (0, .v (.int .i64 z.2.1))]) (fun z => []) (fun z => [H]) (fun z => z.2.1) (fun z => dgs z.1 z.2.1 z.2.2 = dgs 20 k.toNat .empty ∧ z.2.1 < 10 ^ z.1 ∧ z.2.2.size + z.1 ≤ 20 ∧ z.2.1 ≤ 4611686018427387904) ((20, k.toNat, .empty))
    · repeat' (first | exact trivial | refine ⟨⟨_, rfl, by first | rfl | exact inc_eq _ (by omega) | (refine sl_eq ?_; simp; done) | (refine svi_eq ?_; (try dsimp only); omega) | exact dgs_fr q o | (refine svi_eq ?_; (try dsimp only); rw [Int.tdiv_eq_ediv_of_nonneg (show (0 : Int) ≤ (q : Int) by omega)]; (try simp (disch := omega) only [wrap_of]); omega), by first | exact trivial | simp [SV.ok]⟩, ?_⟩)
    · exact trivial
    · try dsimp only
      exact ⟨rfl, by omega, by decide, by omega⟩
    · exact .refl _
    rintro ⟨f, q, o⟩ hI
    obtain ⟨hd, hq, hs, hm⟩ : dgs f q o = dgs 20 k.toNat .empty ∧ q < 10 ^ f ∧ o.size + f ≤ 20 ∧ q ≤ 4611686018427387904 := hI
    try dsimp only
    refine VCsplit.intro (fun q1 => ?_) (fun q1 => ?_)
    ·
      simp at q1
      obtain ⟨f, rfl⟩ : ∃ f', f = f' + 1 := by cases f with | zero => simp at hq; omega | succ f' => exact ⟨f', rfl⟩
      refine VC.intro ?_ ?_
      · trivial
      refine VCnew.intro fun x2 => ?_
      refine conv_bs G_ok (([IntKind.u8.wrap (IntKind.i64.wrap ((48 : Int) + (↑q : Int).tmod (10 : Int)))] : List Int).map fun v => UInt8.ofNat v.toNat) rfl (lit_bs [IntKind.u8.wrap (IntKind.i64.wrap ((48 : Int) + (↑q : Int).tmod (10 : Int)))] (mem_at 0 rfl _ (List.mem_singleton.2 rfl)) rfl ?_ (by simp)) rfl rfl rfl ?_
      · (simp only [inU8, u8_wrap, and_true]; omega)
      refine VC.intro ?_ ?_
      · (rw [bsz]; simp only [List.length_map, List.length_cons, List.length_nil]; have : IntKind.i64.max = 9223372036854775807 := rfl; omega)
      refine VC.intro ?_ ?_
      · trivial
      apply loop_stepA (f, q / 10, ⟨#[UInt8.ofNat (48 + q % 10)]⟩ ++ o)
      · exact .sub (by repeat (first | exact .slnil | apply List.Sublist.cons_cons | apply List.Sublist.cons))
      · repeat' (first | exact trivial | refine ⟨⟨_, rfl, by first | rfl | exact inc_eq _ (by omega) | (refine sl_eq ?_; simp; done) | (refine svi_eq ?_; (try dsimp only); omega) | exact dgs_fr q o | (refine svi_eq ?_; (try dsimp only); rw [Int.tdiv_eq_ediv_of_nonneg (show (0 : Int) ≤ (q : Int) by omega)]; (try simp (disch := omega) only [wrap_of]); omega), by first | exact trivial | simp [SV.ok]⟩, ?_⟩)
      · exact trivial
      · try dsimp only
        exact ⟨by rw [← hd]; conv => rhs; unfold dgs; rw [if_neg (by omega : ¬ q = 0)], by rw [Nat.pow_succ] at hq; omega, by rw [ByteArray.size_append, sz1]; omega, by omega⟩
      · try dsimp only
        omega
    ·
      simp at q1
      obtain rfl : q = 0 := by omega
      have hd0 : o = dgs 20 k.toNat .empty := by rw [← hd]; cases f <;> simp [dgs]
      refine VC.intro ?_ ?_
      · (have e1 : (⟨#[109]⟩ : ByteArray).size = 1 := rfl; have : IntKind.i64.max = 9223372036854775807 := rfl; omega)
      exact ⟨[], ⟨by unfold mtx; rw [if_neg (by omega), hd0], rfl⟩, (.le fun a => by (try simp only [setR, List.cons_append, List.nil_append]); simp only [List.flatten_append, List.flatten_cons, List.flatten_nil, List.count_append, List.count_nil, List.append_nil, List.nil_append]; omega)⟩

--@ct laws.markIntS mark1 markIntS_ct _ _ _ _ _ _ ~ ?_ ?_
theorem markIntS_ct (b : Option Addr) (m c : Nat) (xs : List Int) (A : Hp) (k0 : Int) (ho : (gSl 3 gI).ow [.slice b m c] xs A) (h0 : 0 ≤ k0) (h1 : k0 + cntL gI xs ≤ 4611686018427387904) :
    CtR Tryz.prog 30 [.slice b m c, .int .i64 k0] A (fun _ => True) (fun v A => v = .int .i64 (k0 + cntL gI xs) ∧ (gSl 3 gI).ow [.slice b m c] (mkL gI k0 xs) A) := by
  obtain ⟨rfl, hcl, hl⟩ := sl_len (Gt.owrd _ ho)
  refine CtR.intro G_ok [A] Tryz.func30 rfl rfl rfl (by simp) fun E H hp => ?_
  apply loop_mod (α := (Nat) × (Hp)) G_ok [6, 7, 8, 9, 12, 13, 14, 15, 16, 17, 1, 10, 11, 5] (fun z => [(5, .v (.int .i64 z.1)), (1, .v (.int .i64 (k0 + cntL gI (xs.take z.1))))]) (fun z => []) (fun z => [z.2, H]) (fun z => xs.length - z.1) (fun z => z.1 ≤ xs.length ∧ (gSl 3 gI).ow [.slice b xs.length c] (mkL gI k0 (xs.take z.1) ++ xs.drop z.1) z.2) ((0, A))
  · repeat' (first | exact trivial | refine ⟨⟨_, rfl, by first | rfl | exact inc_eq _ (by omega) | (refine sl_eq ?_; simp; done) | (refine svi_eq ?_; subst_vars; (try dsimp only); (try simp (disch := omega) only [wrap_of]); omega) | (simp [cntL]), by first | exact trivial | simp [SV.ok]⟩, ?_⟩)
  · exact trivial
  · try dsimp only
    exact ⟨by omega, by simpa [mkL] using ho⟩
  · exact .refl _
  rintro ⟨k, B⟩ hI
  obtain ⟨hk, oB⟩ : k ≤ xs.length ∧ (gSl 3 gI).ow [.slice b xs.length c] (mkL gI k0 (xs.take k) ++ xs.drop k) B := hI
  try dsimp only
  refine VCsplit.intro (fun q0 => ?_) (fun q0 => ?_)
  ·
    simp at q0
    have hs : cntL gI (xs.take (k + 1)) = cntL gI (xs.take k) + 1 := (cntL_step gI xs k 0 (by omega))
    have hs2 := cntL_take_le gI xs (k + 1)
    refine idx_rd (Gt.owrd _ oB) ?_ ?_ fun b1 o1 hb1 => ?_
    · omega
    · (rw [mk_len _ _ _ _ (by omega)]; omega)
    refine gstoreN (Fld.id _) 0 (k) 0 rfl rfl oB ?_ ?_ hb1 rfl gI_pl _ (gI_ow ?_) fun A2 o2 => ?_
    · omega
    · (rw [mk_len _ _ _ _ (by omega)]; omega)
    · unfold okI; omega
    apply loop_stepA (k + 1, _)
    · exact .refl _
    · repeat' (first | exact trivial | refine ⟨⟨_, rfl, by first | rfl | exact inc_eq _ (by omega) | (refine sl_eq ?_; simp; done) | (refine svi_eq ?_; subst_vars; (try dsimp only); (try simp (disch := omega) only [wrap_of]); omega) | (simp [cntL]), by first | exact trivial | simp [SV.ok]⟩, ?_⟩)
    · exact trivial
    · try dsimp only
      exact ⟨by omega, by rw [← mk_step gI 0 xs k0 k (by omega)] ; assumption⟩
    · try dsimp only
      omega
  ·
    simp at q0
    obtain rfl : k = xs.length := by omega
    rw [List.take_length, List.drop_length, List.append_nil] at oB
    exact ⟨_, ⟨by rw [List.take_length], oB⟩, (.le fun a => by (try simp only [setR, List.cons_append, List.nil_append]); simp only [List.flatten_append, List.flatten_cons, List.flatten_nil, List.count_append, List.count_nil, List.append_nil, List.nil_append]; omega)⟩

--@ct laws.heldIntS val heldIntS_ct _ _ _ _ _ _ ?_ ?_ ?_ | %1
theorem heldIntS_ct (b : Option Addr) (m c : Nat) (xs : List Int) (k0 k1 : Int) (hk1 : k0 = k1) (h0 : 0 ≤ k0) (h1 : k0 + cntL gI xs ≤ 4611686018427387904) :
    Ct Tryz.prog 113 [.slice b m c, .int .i64 k0] [] (fun H => (gSl 3 gI).rd H [.slice b m c] (mkL gI k1 xs)) (fun v A => v = .int .i64 (k0 + cntL gI xs) ∧ A = []) := by
  subst hk1
  refine Ct.intro0 G_ok Tryz.func113 rfl rfl rfl fun E H hp => ?_
  have hm0 := (sl_len hp).1
  rw [mkL_len] at hm0; subst hm0
  obtain ⟨-, hcl, hl⟩ := sl_len hp
  rw [mkL_len] at hcl hl
  have hln := mkL_len gI xs k0
  apply loop_mod (α := (Nat)) G_ok [6, 7, 8, 9, 12, 13, 14, 15, 16, 17, 4, 18, 19, 1, 10, 11, 5] (fun z => [(5, .v (.int .i64 z)), (1, .v (.int .i64 (k0 + cntL gI (xs.take z))))]) (fun z => []) (fun z => [H]) (fun z => xs.length - z) (fun z => z ≤ xs.length) (0)
  · repeat' (first | exact trivial | refine ⟨⟨_, rfl, by first | rfl | exact inc_eq _ (by omega) | (refine sl_eq ?_; simp; done) | (refine svi_eq ?_; (try dsimp only); (try simp (disch := omega) only [wrap_of]); omega) | (simp [cntL]), by first | exact trivial | simp [SV.ok]⟩, ?_⟩)
  · exact trivial
  · omega
  · exact .refl _
  rintro k hI
  obtain hk : k ≤ xs.length := hI
  try dsimp only
  refine VCsplit.intro (fun q0 => ?_) (fun q0 => ?_)
  ·
    simp at q0
    have hs : cntL gI (xs.take (k + 1)) = cntL gI (xs.take k) + 1 := (cntL_step gI xs k 0 (by omega))
    have hs2 := cntL_take_le gI xs (k + 1)
    have hm : (mkL gI k0 xs)[k]?.getD 0 = k0 + cntL gI (xs.take k) := mkL_get gI 0 xs k0 k (by omega)
    refine idx_rd hp ?_ ?_ fun b1 o1 hb1 => ?_
    · omega
    · omega
    refine load_allN 0 (k) rfl hp ?_ ?_ hb1 rfl (mem_at 0 rfl) fun l2 hl2 => ?_
    · omega
    · omega
    rw [hm] at hl2
    obtain ⟨rfl, hw2⟩ := hl2; simp only [flStr, flInt, okI] at hw2
    refine VCsplit.intro (fun q3 => ?_) (fun q3 => ?_)
    ·
      simp at q3
    ·
      simp at q3
      apply loop_stepA (k + 1)
      · exact .refl _
      · repeat' (first | exact trivial | refine ⟨⟨_, rfl, by first | rfl | exact inc_eq _ (by omega) | (refine sl_eq ?_; simp; done) | (refine svi_eq ?_; (try dsimp only); (try simp (disch := omega) only [wrap_of]); omega) | (simp [cntL]), by first | exact trivial | simp [SV.ok]⟩, ?_⟩)
      · exact trivial
      · trivial
      · omega
  ·
    simp at q0
    obtain rfl : k = xs.length := by omega
    exact ⟨[], ⟨by rw [List.take_length], rfl⟩, (.le fun a => by (try simp only [setR, List.cons_append, List.nil_append]); simp only [List.flatten_append, List.flatten_cons, List.flatten_nil, List.count_append, List.count_nil, List.append_nil, List.nil_append]; omega)⟩

--@ct laws.markStringS mark1 markStringS_ct _ _ _ _ _ _ ~ ?_ ?_
theorem markStringS_ct (b : Option Addr) (m c : Nat) (xs : List ByteArray) (A : Hp) (k0 : Int) (ho : (gSl 9 gS).ow [.slice b m c] xs A) (h0 : 0 ≤ k0) (h1 : k0 + cntL gS xs ≤ 4611686018427387904) :
    CtR Tryz.prog 100 [.slice b m c, .int .i64 k0] A (fun _ => True) (fun v A => v = .int .i64 (k0 + cntL gS xs) ∧ (gSl 9 gS).ow [.slice b m c] (mkL gS k0 xs) A) := by
  obtain ⟨rfl, hcl, hl⟩ := sl_len (Gt.owrd _ ho)
  refine CtR.intro G_ok [A] Tryz.func100 rfl rfl rfl (by simp) fun E H hp => ?_
  apply loop_mod (α := (Nat) × (Hp)) G_ok [6, 7, 8, 9, 12, 13, 14, 15, 16, 17, 18, 1, 10, 11, 5] (fun z => [(5, .v (.int .i64 z.1)), (1, .v (.int .i64 (k0 + cntL gS (xs.take z.1))))]) (fun z => []) (fun z => [z.2, H]) (fun z => xs.length - z.1) (fun z => z.1 ≤ xs.length ∧ (gSl 9 gS).ow [.slice b xs.length c] (mkL gS k0 (xs.take z.1) ++ xs.drop z.1) z.2) ((0, A))
  · repeat' (first | exact trivial | refine ⟨⟨_, rfl, by first | rfl | exact inc_eq _ (by omega) | (refine sl_eq ?_; simp; done) | (refine svi_eq ?_; subst_vars; (try dsimp only); (try simp (disch := omega) only [wrap_of]); omega) | (simp [cntL]), by first | exact trivial | simp [SV.ok]⟩, ?_⟩)
  · exact trivial
  · try dsimp only
    exact ⟨by omega, by simpa [mkL] using ho⟩
  · exact .refl _
  rintro ⟨k, B⟩ hI
  obtain ⟨hk, oB⟩ : k ≤ xs.length ∧ (gSl 9 gS).ow [.slice b xs.length c] (mkL gS k0 (xs.take k) ++ xs.drop k) B := hI
  try dsimp only
  refine VCsplit.intro (fun q0 => ?_) (fun q0 => ?_)
  ·
    simp at q0
    have hs : cntL gS (xs.take (k + 1)) = cntL gS (xs.take k) + 1 := (cntL_step gS xs k ByteArray.empty (by omega))
    have hs2 := cntL_take_le gS xs (k + 1)
    refine call_val (markText_ct _ ?_) trivial ?_
    · omega
    rintro _ rfl
    refine idx_rd (Gt.owrd _ oB) ?_ ?_ fun b2 o2 hb2 => ?_
    · omega
    · (rw [mk_len _ _ _ _ (by omega)]; omega)
    refine gstoreN (Fld.id _) ByteArray.empty (k) 0 rfl rfl oB ?_ ?_ hb2 rfl fl_pl _ (gS_ow ?_) fun A3 o3 => ?_
    · omega
    · (rw [mk_len _ _ _ _ (by omega)]; omega)
    · exact mtx_size _
    apply loop_stepA (k + 1, _)
    · exact .refl _
    · repeat' (first | exact trivial | refine ⟨⟨_, rfl, by first | rfl | exact inc_eq _ (by omega) | (refine sl_eq ?_; simp; done) | (refine svi_eq ?_; subst_vars; (try dsimp only); (try simp (disch := omega) only [wrap_of]); omega) | (simp [cntL]), by first | exact trivial | simp [SV.ok]⟩, ?_⟩)
    · exact trivial
    · try dsimp only
      exact ⟨by omega, by rw [← mk_step gS ByteArray.empty xs k0 k (by omega)] ; assumption⟩
    · try dsimp only
      omega
  ·
    simp at q0
    obtain rfl : k = xs.length := by omega
    rw [List.take_length, List.drop_length, List.append_nil] at oB
    exact ⟨_, ⟨by rw [List.take_length], oB⟩, (.le fun a => by (try simp only [setR, List.cons_append, List.nil_append]); simp only [List.flatten_append, List.flatten_cons, List.flatten_nil, List.count_append, List.count_nil, List.append_nil, List.nil_append]; omega)⟩

--@ct laws.heldStringS val heldStringS_ct _ _ _ _ _ _ ?_ ?_ ?_ | %1
theorem heldStringS_ct (b : Option Addr) (m c : Nat) (xs : List ByteArray) (k0 k1 : Int) (hk1 : k0 = k1) (h0 : 0 ≤ k0) (h1 : k0 + cntL gS xs ≤ 4611686018427387904) :
    Ct Tryz.prog 149 [.slice b m c, .int .i64 k0] [] (fun H => (gSl 9 gS).rd H [.slice b m c] (mkL gS k1 xs)) (fun v A => v = .int .i64 (k0 + cntL gS xs) ∧ A = []) := by
  subst hk1
  refine Ct.intro0 G_ok Tryz.func149 rfl rfl rfl fun E H hp => ?_
  have hm0 := (sl_len hp).1
  rw [mkL_len] at hm0; subst hm0
  obtain ⟨-, hcl, hl⟩ := sl_len hp
  rw [mkL_len] at hcl hl
  have hln := mkL_len gS xs k0
  apply loop_mod (α := (Nat)) G_ok [6, 7, 8, 9, 12, 13, 14, 15, 16, 17, 18, 4, 19, 20, 1, 10, 11, 5] (fun z => [(5, .v (.int .i64 z)), (1, .v (.int .i64 (k0 + cntL gS (xs.take z))))]) (fun z => []) (fun z => [H]) (fun z => xs.length - z) (fun z => z ≤ xs.length) (0)
  · repeat' (first | exact trivial | refine ⟨⟨_, rfl, by first | rfl | exact inc_eq _ (by omega) | (refine sl_eq ?_; simp; done) | (refine svi_eq ?_; (try dsimp only); (try simp (disch := omega) only [wrap_of]); omega) | (simp [cntL]), by first | exact trivial | simp [SV.ok]⟩, ?_⟩)
  · exact trivial
  · omega
  · exact .refl _
  rintro k hI
  obtain hk : k ≤ xs.length := hI
  try dsimp only
  refine VCsplit.intro (fun q0 => ?_) (fun q0 => ?_)
  ·
    simp at q0
    have hs : cntL gS (xs.take (k + 1)) = cntL gS (xs.take k) + 1 := (cntL_step gS xs k ByteArray.empty (by omega))
    have hs2 := cntL_take_le gS xs (k + 1)
    have hm : (mkL gS k0 xs)[k]?.getD ByteArray.empty = mtx (k0 + cntL gS (xs.take k)) := mkL_get gS ByteArray.empty xs k0 k (by omega)
    refine draw G_ok mixed none (.q 0 (.q 1 (.q 2 (.q 3 (.q 4 (.f 5 (.q 6 (.nil)))))))) (by decide +kernel) ?_
    refine idx_rd hp ?_ ?_ fun b1 o1 hb1 => ?_
    · omega
    · omega
    refine load_allN ByteArray.empty (k) rfl hp ?_ ?_ hb1 rfl (mem_at 0 rfl) fun l2 hl2 => ?_
    · omega
    · omega
    rw [hm] at hl2
    obtain ⟨rfl, hw2⟩ := hl2; simp only [flStr, flInt, okI] at hw2
    refine call_val (markText_ct _ ?_) trivial ?_
    · omega
    rintro _ rfl
    refine VC.intro ?_ ?_
    · exact fun _ h => h
    refine VCsplit.intro (fun q4 => ?_) (fun q4 => ?_)
    ·
      simp at q4
    ·
      simp at q4
      apply loop_stepA (k + 1)
      · exact .refl _
      · repeat' (first | exact trivial | refine ⟨⟨_, rfl, by first | rfl | exact inc_eq _ (by omega) | (refine sl_eq ?_; simp; done) | (refine svi_eq ?_; (try dsimp only); (try simp (disch := omega) only [wrap_of]); omega) | (simp [cntL]), by first | exact trivial | simp [SV.ok]⟩, ?_⟩)
      · exact trivial
      · trivial
      · omega
  ·
    simp at q0
    obtain rfl : k = xs.length := by omega
    exact ⟨[], ⟨by rw [List.take_length], rfl⟩, (.le fun a => by (try simp only [setR, List.cons_append, List.nil_append]); simp only [List.flatten_append, List.flatten_cons, List.flatten_nil, List.count_append, List.count_nil, List.append_nil, List.nil_append]; omega)⟩

--@ct laws.markItemS mark1 markItemS_ct _ _ _ _ _ _ ~ ?_ ?_
theorem markItemS_ct (b : Option Addr) (m c : Nat) (xs : List Item) (A : Hp) (k0 : Int) (ho : (gSl 212 gItem).ow [.slice b m c] xs A) (h0 : 0 ≤ k0) (h1 : k0 + cntL gItem xs ≤ 4611686018427387904) :
    CtR Tryz.prog 103 [.slice b m c, .int .i64 k0] A (fun _ => True) (fun v A => v = .int .i64 (k0 + cntL gItem xs) ∧ (gSl 212 gItem).ow [.slice b m c] (mkL gItem k0 xs) A) := by
  obtain ⟨rfl, hcl, hl⟩ := sl_len (Gt.owrd _ ho)
  refine CtR.intro G_ok [A] Tryz.func103 rfl rfl rfl (by simp) fun E H hp => ?_
  apply loop_mod (α := (Nat) × (Hp)) G_ok [6, 7, 8, 9, 12, 13, 14, 15, 16, 17, 18, 1, 19, 20, 21, 22, 23, 24, 25, 10, 11, 5] (fun z => [(5, .v (.int .i64 z.1)), (1, .v (.int .i64 (k0 + cntL gItem (xs.take z.1))))]) (fun z => []) (fun z => [z.2, H]) (fun z => xs.length - z.1) (fun z => z.1 ≤ xs.length ∧ (gSl 212 gItem).ow [.slice b xs.length c] (mkL gItem k0 (xs.take z.1) ++ xs.drop z.1) z.2) ((0, A))
  · repeat' (first | exact trivial | refine ⟨⟨_, rfl, by first | rfl | exact inc_eq _ (by omega) | (refine sl_eq ?_; simp; done) | (refine svi_eq ?_; subst_vars; (try dsimp only); (try simp (disch := omega) only [wrap_of]); omega) | (simp [cntL]), by first | exact trivial | simp [SV.ok]⟩, ?_⟩)
  · exact trivial
  · try dsimp only
    exact ⟨by omega, by simpa [mkL] using ho⟩
  · exact .refl _
  rintro ⟨k, B⟩ hI
  obtain ⟨hk, oB⟩ : k ≤ xs.length ∧ (gSl 212 gItem).ow [.slice b xs.length c] (mkL gItem k0 (xs.take k) ++ xs.drop k) B := hI
  try dsimp only
  refine VCsplit.intro (fun q0 => ?_) (fun q0 => ?_)
  ·
    simp at q0
    have hs := (cntL_step gItem xs k default (by omega))
    simp only [gItem_cnt] at hs
    have hs2 := cntL_take_le gItem xs (k + 1)
    obtain ⟨y, ey, oe⟩ := OwE.mk default k oB (by rw [mk_len _ _ _ _ (by omega)]; omega)
    rw [mk_get _ _ _ _ _ (by omega)] at ey
    clear oB
    refine oe_idx oe ?_ fun b1 o1 hb1 => ?_
    · rfl
    refine oe_load gItem_row oe rfl hb1 rfl (mem_at 0 rfl) fun l2 hl2 hf2 => ?_
    obtain ⟨u2, w2, rfl, hl2⟩ := sl_rd hl2
    refine call_foc 0 rfl hf2 (fun Af3 oa3 => markIntS_ct _ _ _ _ _ _ oa3 ?_ ?_) (fun _ _ => trivial) ?_
    · omega
    · simp_all; omega
    rintro _ A3 rfl ⟨y3, ey3, o3⟩
    try dsimp only at ey3
    refine oe_idx o3 ?_ fun b4 o4 hb4 => ?_
    · rfl
    refine oe_store gItem_times 0 rfl o3 rfl hb4 rfl gI_pl _ (gI_ow ?_) fun y5 A5 ey5 o5 => ?_
    · (subst_vars; unfold okI; (try dsimp only at *); omega)
    apply loop_stepA (k + 1, _)
    · exact .refl _
    · repeat' (first | exact trivial | refine ⟨⟨_, rfl, by first | rfl | exact inc_eq _ (by omega) | (refine sl_eq ?_; simp; done) | (refine svi_eq ?_; subst_vars; (try dsimp only); (try simp (disch := omega) only [wrap_of]); omega) | (simp [cntL]), by first | exact trivial | simp [SV.ok]⟩, ?_⟩)
    · exact trivial
    · try dsimp only
      exact ⟨by omega, OwE.done (by assumption) (by rw [← mk_step gItem default xs k0 k (by omega)]; congr 1; subst_vars; (try simp only [gItem_mark, gItem_cnt]); (try simp (disch := omega) only [wrap_of]); (try rfl))⟩
    · try dsimp only
      omega
  ·
    simp at q0
    obtain rfl : k = xs.length := by omega
    rw [List.take_length, List.drop_length, List.append_nil] at oB
    exact ⟨_, ⟨by rw [List.take_length], oB⟩, (.le fun a => by (try simp only [setR, List.cons_append, List.nil_append]); simp only [List.flatten_append, List.flatten_cons, List.flatten_nil, List.count_append, List.count_nil, List.append_nil, List.nil_append]; omega)⟩

--@ct laws.heldItemS val heldItemS_ct _ _ _ _ _ _ ?_ ?_ ?_ | %1
theorem heldItemS_ct (b : Option Addr) (m c : Nat) (xs : List Item) (k0 k1 : Int) (hk1 : k0 = k1) (h0 : 0 ≤ k0) (h1 : k0 + cntL gItem xs ≤ 4611686018427387904) :
    Ct Tryz.prog 104 [.slice b m c, .int .i64 k0] [] (fun H => (gSl 212 gItem).rd H [.slice b m c] (mkL gItem k1 xs)) (fun v A => v = .int .i64 (k0 + cntL gItem xs) ∧ A = []) := by
  subst hk1
  refine Ct.intro0 G_ok Tryz.func104 rfl rfl rfl fun E H hp => ?_
  have hm0 := (sl_len hp).1
  rw [mkL_len] at hm0; subst hm0
  obtain ⟨-, hcl, hl⟩ := sl_len hp
  rw [mkL_len] at hcl hl
  have hln := mkL_len gItem xs k0
  apply loop_mod (α := (Nat)) G_ok [6, 7, 8, 9, 12, 13, 14, 15, 16, 17, 18, 1, 19, 20, 4, 21, 22, 23, 24, 25, 26, 27, 28, 29, 10, 11, 5] (fun z => [(5, .v (.int .i64 z)), (1, .v (.int .i64 (k0 + cntL gItem (xs.take z))))]) (fun z => []) (fun z => [H]) (fun z => xs.length - z) (fun z => z ≤ xs.length) (0)
  · repeat' (first | exact trivial | refine ⟨⟨_, rfl, by first | rfl | exact inc_eq _ (by omega) | (refine sl_eq ?_; simp; done) | (refine svi_eq ?_; (try dsimp only); (try simp (disch := omega) only [wrap_of]); omega) | (simp [cntL]), by first | exact trivial | simp [SV.ok]⟩, ?_⟩)
  · exact trivial
  · omega
  · exact .refl _
  rintro k hI
  obtain hk : k ≤ xs.length := hI
  try dsimp only
  refine VCsplit.intro (fun q0 => ?_) (fun q0 => ?_)
  ·
    simp at q0
    have hs := (cntL_step gItem xs k default (by omega))
    simp only [gItem_cnt] at hs
    have hs2 := cntL_take_le gItem xs (k + 1)
    have hm := mkL_get gItem default xs k0 k (by omega)
    simp only [gItem_mark, gItem_cnt] at hm
    refine idx_rd hp ?_ ?_ fun b1 o1 hb1 => ?_
    · omega
    · omega
    refine load_partN default (k) 0 rfl hp ?_ ?_ hb1 rfl (by decide) (mem_at 0 rfl) fun l2 hl2 => ?_
    · omega
    · omega
    rw [hm] at hl2
    obtain ⟨b0x2, c0x2, rfl, h0x2, w1x2⟩ := gItem_rd.1 hl2
    refine call_val (heldIntS_ct _ _ _ _ _ _ ?_ ?_ ?_) (Rp.mono _ (mem_at 0 rfl) h0x2) ?_
    · rfl
    · omega
    · omega
    rintro _ rfl
    refine VCsplit.intro (fun q4 => ?_) (fun q4 => ?_)
    ·
      simp at q4
      exfalso; omega
    ·
      simp at q4
      refine idx_rd hp ?_ ?_ fun b5 o5 hb5 => ?_
      · omega
      · omega
      refine load_partN default (k) 1 rfl hp ?_ ?_ hb5 rfl (by decide) (mem_at 0 rfl) fun l6 hl6 => ?_
      · omega
      · omega
      rw [hm] at hl6
      obtain ⟨b0x6, c0x6, rfl, h0x6, w1x6⟩ := gItem_rd.1 hl6
      refine VCsplit.intro (fun q7 => ?_) (fun q7 => ?_)
      ·
        simp at q7
      ·
        simp at q7
        apply loop_stepA (k + 1)
        · exact .refl _
        · repeat' (first | exact trivial | refine ⟨⟨_, rfl, by first | rfl | exact inc_eq _ (by omega) | (refine sl_eq ?_; simp; done) | (refine svi_eq ?_; (try dsimp only); (try simp (disch := omega) only [wrap_of]); omega) | (simp [cntL]), by first | exact trivial | simp [SV.ok]⟩, ?_⟩)
        · exact trivial
        · trivial
        · omega
  ·
    simp at q0
    obtain rfl : k = xs.length := by omega
    exact ⟨[], ⟨by rw [List.take_length], rfl⟩, (.le fun a => by (try simp only [setR, List.cons_append, List.nil_append]); simp only [List.flatten_append, List.flatten_cons, List.flatten_nil, List.count_append, List.count_nil, List.append_nil, List.nil_append]; omega)⟩

--@ct laws.markBag mark1 markBag_ct _ _ _ _ ~ ?_ ?_
theorem markBag_ct (l : List Value) (x : Bag) (A : Hp) (k0 : Int) (ho : gBag.ow l x A) (h0 : 0 ≤ k0) (h1 : k0 + gBag.cntV x ≤ 4611686018427387904) :
    CtR Tryz.prog 32 [.agg ⟨l⟩, .int .i64 k0] A (fun _ => True) (fun v A => v = .int .i64 (k0 + gBag.cntV x) ∧ gBag.ow l (gBag.markV k0 x) A) := by
  obtain ⟨b0, c0, A0, rfl, hpm, h0⟩ := gBag_ow.1 ho
  have hz := gBag_cntV x
  refine CtR.introP G_ok [A0] Tryz.func32 rfl rfl rfl (hpm.trans (by simp)) fun E H hp => ?_
  refine VCnew.intro fun x0 => ?_
  refine callR_at 0 rfl (markItemS_ct _ _ _ _ _ _ h0 ?_ ?_) trivial ?_
  · trivial
  · trivial
  rintro _ A1 ⟨rfl, o1⟩
  exact ⟨_, ⟨by rw [hz]; (try simp); (try omega), by rw [gBag_markV]; exact gBag_ow.2 ⟨_, _, _, by simp only [mkL_len]; rfl, .refl _, by rw [mkL_len]; assumption⟩⟩, (.le fun a => by (try simp only [setR, List.cons_append, List.nil_append]); simp only [List.flatten_append, List.flatten_cons, List.flatten_nil, List.count_append, List.count_nil, List.append_nil, List.nil_append]; omega)⟩

--@ct laws.heldBag val heldBag_ct _ _ _ _ ?_ ?_ ?_ | %1
theorem heldBag_ct (l : List Value) (x : Bag) (k0 k1 : Int) (hk1 : k0 = k1) (h0 : 0 ≤ k0) (h1 : k0 + gBag.cntV x ≤ 4611686018427387904) :
    Ct Tryz.prog 33 [.agg ⟨l⟩, .int .i64 k0] [] (fun H => gBag.rd H l (gBag.markV k1 x)) (fun v A => v = .int .i64 (k0 + gBag.cntV x) ∧ A = []) := by
  subst hk1
  refine Ct.intro0 G_ok Tryz.func33 rfl rfl rfl fun E H hp => ?_
  rw [gBag_markV] at hp
  obtain ⟨b0, c0, rfl, h0⟩ := gBag_rd.1 hp
  have hz := gBag_cntV x
  refine VCnew.intro fun x0 => ?_
  refine call_val (heldItemS_ct _ _ _ _ _ _ ?_ ?_ ?_) (Rp.mono _ (mem_at 0 rfl) h0) ?_
  · rfl
  · trivial
  · trivial
  rintro _ rfl
  refine VCsplit.intro (fun q2 => ?_) (fun q2 => ?_)
  ·
    simp at q2
    exfalso; omega
  ·
    simp at q2
    try dsimp only
    exact ⟨[], ⟨by rw [hz]; (try simp); (try omega), rfl⟩, (.le fun a => by (try simp only [setR, List.cons_append, List.nil_append]); simp only [List.flatten_append, List.flatten_cons, List.flatten_nil, List.count_append, List.count_nil, List.append_nil, List.nil_append]; omega)⟩

--@ct laws.markAtomS mark1 markAtomS_ct _ _ _ _ _ _ ~ ?_ ?_
theorem markAtomS_ct (b : Option Addr) (m c : Nat) (xs : List Atom) (A : Hp) (k0 : Int) (ho : (gSl 143 gAtom).ow [.slice b m c] xs A) (h0 : 0 ≤ k0) (h1 : k0 + cntL gAtom xs ≤ 4611686018427387904) :
    CtR Tryz.prog 101 [.slice b m c, .int .i64 k0] A (fun _ => True) (fun v A => v = .int .i64 (k0 + cntL gAtom xs) ∧ (gSl 143 gAtom).ow [.slice b m c] (mkL gAtom k0 xs) A) := by
  obtain ⟨rfl, hcl, hl⟩ := sl_len (Gt.owrd _ ho)
  refine CtR.intro G_ok [A] Tryz.func101 rfl rfl rfl (by simp) fun E H hp => ?_
  apply loop_mod (α := (Nat) × (Hp)) G_ok [6, 7, 8, 9, 12, 13, 14, 15, 16, 17, 18, 19, 1, 20, 21, 22, 23, 24, 25, 26, 27, 28, 29, 30, 31, 32, 33, 34, 35, 10, 11, 5] (fun z => [(5, .v (.int .i64 z.1)), (1, .v (.int .i64 (k0 + cntL gAtom (xs.take z.1))))]) (fun z => []) (fun z => [z.2, H]) (fun z => xs.length - z.1) (fun z => z.1 ≤ xs.length ∧ (gSl 143 gAtom).ow [.slice b xs.length c] (mkL gAtom k0 (xs.take z.1) ++ xs.drop z.1) z.2) ((0, A))
  · repeat' (first | exact trivial | refine ⟨⟨_, rfl, by first | rfl | exact inc_eq _ (by omega) | (refine sl_eq ?_; simp; done) | (refine svi_eq ?_; subst_vars; (try dsimp only); (try simp (disch := omega) only [wrap_of]); omega) | (simp [cntL]), by first | exact trivial | simp [SV.ok]⟩, ?_⟩)
  · exact trivial
  · try dsimp only
    exact ⟨by omega, by simpa [mkL] using ho⟩
  · exact .refl _
  rintro ⟨k, B⟩ hI
  obtain ⟨hk, oB⟩ : k ≤ xs.length ∧ (gSl 143 gAtom).ow [.slice b xs.length c] (mkL gAtom k0 (xs.take k) ++ xs.drop k) B := hI
  try dsimp only
  refine VCsplit.intro (fun q0 => ?_) (fun q0 => ?_)
  ·
    simp at q0
    have hs := (cntL_step gAtom xs k default (by omega))
    simp only [gAtom_cnt] at hs
    have hs2 := cntL_take_le gAtom xs (k + 1)
    obtain ⟨y, ey, oe⟩ := OwE.mk default k oB (by rw [mk_len _ _ _ _ (by omega)]; omega)
    rw [mk_get _ _ _ _ _ (by omega)] at ey
    clear oB
    refine call_val (markText_ct _ ?_) trivial ?_
    · omega
    rintro _ rfl
    refine oe_idx oe ?_ fun b2 o2 hb2 => ?_
    · rfl
    refine oe_store gAtom_from 0 rfl oe rfl hb2 rfl fl_pl _ (gS_ow ?_) fun y3 A3 ey3 o3 => ?_
    · exact mtx_size _
    refine call_val (markText_ct _ ?_) trivial ?_
    · (simp (disch := omega) only [wrap_of]; omega)
    rintro _ rfl
    refine oe_idx o3 ?_ fun b5 o5 hb5 => ?_
    · rfl
    refine oe_store gAtom_path 0 rfl o3 rfl hb5 rfl fl_pl _ (gS_ow ?_) fun y6 A6 ey6 o6 => ?_
    · exact mtx_size _
    refine call_val (markText_ct _ ?_) trivial ?_
    · (simp (disch := omega) only [wrap_of]; omega)
    rintro _ rfl
    refine oe_idx o6 ?_ fun b8 o8 hb8 => ?_
    · rfl
    refine oe_store gAtom_to 0 rfl o6 rfl hb8 rfl fl_pl _ (gS_ow ?_) fun y9 A9 ey9 o9 => ?_
    · exact mtx_size _
    apply loop_stepA (k + 1, _)
    · exact .refl _
    · repeat' (first | exact trivial | refine ⟨⟨_, rfl, by first | rfl | exact inc_eq _ (by omega) | (refine sl_eq ?_; simp; done) | (refine svi_eq ?_; subst_vars; (try dsimp only); (try simp (disch := omega) only [wrap_of]); omega) | (simp [cntL]), by first | exact trivial | simp [SV.ok]⟩, ?_⟩)
    · exact trivial
    · try dsimp only
      exact ⟨by omega, OwE.done (by assumption) (by rw [← mk_step gAtom default xs k0 k (by omega)]; congr 1; subst_vars; (try simp only [gAtom_mark, gAtom_cnt]); (try simp (disch := omega) only [wrap_of]); (try rfl))⟩
    · try dsimp only
      omega
  ·
    simp at q0
    obtain rfl : k = xs.length := by omega
    rw [List.take_length, List.drop_length, List.append_nil] at oB
    exact ⟨_, ⟨by rw [List.take_length], oB⟩, (.le fun a => by (try simp only [setR, List.cons_append, List.nil_append]); simp only [List.flatten_append, List.flatten_cons, List.flatten_nil, List.count_append, List.count_nil, List.append_nil, List.nil_append]; omega)⟩

--@ct laws.heldAtomS val heldAtomS_ct _ _ _ _ _ _ ?_ ?_ ?_ | %1
theorem heldAtomS_ct (b : Option Addr) (m c : Nat) (xs : List Atom) (k0 k1 : Int) (hk1 : k0 = k1) (h0 : 0 ≤ k0) (h1 : k0 + cntL gAtom xs ≤ 4611686018427387904) :
    Ct Tryz.prog 182 [.slice b m c, .int .i64 k0] [] (fun H => (gSl 143 gAtom).rd H [.slice b m c] (mkL gAtom k1 xs)) (fun v A => v = .int .i64 (k0 + cntL gAtom xs) ∧ A = []) := by
  subst hk1
  refine Ct.intro0 G_ok Tryz.func182 rfl rfl rfl fun E H hp => ?_
  have hm0 := (sl_len hp).1
  rw [mkL_len] at hm0; subst hm0
  obtain ⟨-, hcl, hl⟩ := sl_len hp
  rw [mkL_len] at hcl hl
  have hln := mkL_len gAtom xs k0
  apply loop_mod (α := (Nat)) G_ok [6, 7, 8, 9, 12, 13, 14, 15, 16, 17, 18, 19, 4, 20, 21, 1, 22, 23, 24, 25, 26, 27, 28, 29, 30, 31, 32, 33, 34, 35, 36, 37, 38, 39, 40, 41, 10, 11, 5] (fun z => [(5, .v (.int .i64 z)), (1, .v (.int .i64 (k0 + cntL gAtom (xs.take z))))]) (fun z => []) (fun z => [H]) (fun z => xs.length - z) (fun z => z ≤ xs.length) (0)
  · repeat' (first | exact trivial | refine ⟨⟨_, rfl, by first | rfl | exact inc_eq _ (by omega) | (refine sl_eq ?_; simp; done) | (refine svi_eq ?_; (try dsimp only); (try simp (disch := omega) only [wrap_of]); omega) | (simp [cntL]), by first | exact trivial | simp [SV.ok]⟩, ?_⟩)
  · exact trivial
  · omega
  · exact .refl _
  rintro k hI
  obtain hk : k ≤ xs.length := hI
  try dsimp only
  refine VCsplit.intro (fun q0 => ?_) (fun q0 => ?_)
  ·
    simp at q0
    have hs := (cntL_step gAtom xs k default (by omega))
    simp only [gAtom_cnt] at hs
    have hs2 := cntL_take_le gAtom xs (k + 1)
    have hm := mkL_get gAtom default xs k0 k (by omega)
    simp only [gAtom_mark, gAtom_cnt] at hm
    refine draw G_ok mixed none (.q 0 (.q 1 (.q 2 (.q 3 (.q 4 (.q 5 (.f 6 (.q 7 (.nil))))))))) (by decide +kernel) ?_
    refine idx_rd hp ?_ ?_ fun b1 o1 hb1 => ?_
    · omega
    · omega
    refine load_partN default (k) 0 rfl hp ?_ ?_ hb1 rfl (by decide) (mem_at 0 rfl) fun l2 hl2 => ?_
    · omega
    · omega
    rw [hm] at hl2
    obtain ⟨rfl, w0x2, w1x2, w2x2⟩ := gAtom_rd.1 hl2
    refine call_val (markText_ct _ ?_) trivial ?_
    · omega
    rintro _ rfl
    refine VC.intro ?_ ?_
    · exact fun _ h => h
    refine VCsplit.intro (fun q4 => ?_) (fun q4 => ?_)
    ·
      simp at q4
    ·
      simp at q4
      refine draw G_ok mixed none (.q 0 (.q 1 (.q 2 (.q 3 (.q 4 (.q 5 (.f 6 (.q 7 (.nil))))))))) (by decide +kernel) ?_
      refine idx_rd hp ?_ ?_ fun b5 o5 hb5 => ?_
      · omega
      · omega
      refine load_partN default (k) 1 rfl hp ?_ ?_ hb5 rfl (by decide) (mem_at 0 rfl) fun l6 hl6 => ?_
      · omega
      · omega
      rw [hm] at hl6
      obtain ⟨rfl, w0x6, w1x6, w2x6⟩ := gAtom_rd.1 hl6
      refine call_val (markText_ct _ ?_) trivial ?_
      · (simp (disch := omega) only [wrap_of]; omega)
      rintro _ rfl
      refine VC.intro ?_ ?_
      · exact fun _ h => h
      refine VCsplit.intro (fun q8 => ?_) (fun q8 => ?_)
      ·
        simp at q8
        simp only [str_inj, u8_inj, u8_wrap] at q8
        simp (disch := omega) only [wrap_of] at q8
        exact absurd trivial q8
      ·
        simp at q8
        simp only [str_inj, u8_inj, u8_wrap] at q8
        simp (disch := omega) only [wrap_of] at q8
        refine draw G_ok mixed none (.q 0 (.q 1 (.q 2 (.q 3 (.q 4 (.q 5 (.f 6 (.q 7 (.nil))))))))) (by decide +kernel) ?_
        refine idx_rd hp ?_ ?_ fun b9 o9 hb9 => ?_
        · omega
        · omega
        refine load_partN default (k) 2 rfl hp ?_ ?_ hb9 rfl (by decide) (mem_at 0 rfl) fun l10 hl10 => ?_
        · omega
        · omega
        rw [hm] at hl10
        obtain ⟨rfl, w0x10, w1x10, w2x10⟩ := gAtom_rd.1 hl10
        refine call_val (markText_ct _ ?_) trivial ?_
        · (simp (disch := omega) only [wrap_of]; omega)
        rintro _ rfl
        refine VC.intro ?_ ?_
        · exact fun _ h => h
        refine VCsplit.intro (fun q12 => ?_) (fun q12 => ?_)
        ·
          simp at q12
          simp only [str_inj, u8_inj, u8_wrap] at q12
          simp (disch := omega) only [wrap_of] at q12
          exact absurd trivial q12
        ·
          simp at q12
          simp only [str_inj, u8_inj, u8_wrap] at q12
          simp (disch := omega) only [wrap_of] at q12
          apply loop_stepA (k + 1)
          · exact .refl _
          · repeat' (first | exact trivial | refine ⟨⟨_, rfl, by first | rfl | exact inc_eq _ (by omega) | (refine sl_eq ?_; simp; done) | (refine svi_eq ?_; (try dsimp only); (try simp (disch := omega) only [wrap_of]); omega) | (simp [cntL]), by first | exact trivial | simp [SV.ok]⟩, ?_⟩)
          · exact trivial
          · trivial
          · omega
  ·
    simp at q0
    obtain rfl : k = xs.length := by omega
    exact ⟨[], ⟨by rw [List.take_length], rfl⟩, (.le fun a => by (try simp only [setR, List.cons_append, List.nil_append]); simp only [List.flatten_append, List.flatten_cons, List.flatten_nil, List.count_append, List.count_nil, List.append_nil, List.nil_append]; omega)⟩

--@ct laws.markFilterS mark1 markFilterS_ct _ _ _ _ _ _ ~ ?_ ?_
theorem markFilterS_ct (b : Option Addr) (m c : Nat) (xs : List Filter) (A : Hp) (k0 : Int) (ho : (gSl 214 gFilter).ow [.slice b m c] xs A) (h0 : 0 ≤ k0) (h1 : k0 + cntL gFilter xs ≤ 4611686018427387904) :
    CtR Tryz.prog 102 [.slice b m c, .int .i64 k0] A (fun _ => True) (fun v A => v = .int .i64 (k0 + cntL gFilter xs) ∧ (gSl 214 gFilter).ow [.slice b m c] (mkL gFilter k0 xs) A) := by
  obtain ⟨rfl, hcl, hl⟩ := sl_len (Gt.owrd _ ho)
  refine CtR.intro G_ok [A] Tryz.func102 rfl rfl rfl (by simp) fun E H hp => ?_
  apply loop_mod (α := (Nat) × (Hp)) G_ok [6, 7, 8, 9, 12, 13, 14, 15, 16, 17, 18, 19, 1, 20, 21, 22, 23, 24, 25, 26, 27, 28, 29, 30, 31, 32, 33, 34, 35, 36, 37, 38, 39, 40, 41, 10, 11, 5] (fun z => [(5, .v (.int .i64 z.1)), (1, .v (.int .i64 (k0 + cntL gFilter (xs.take z.1))))]) (fun z => []) (fun z => [z.2, H]) (fun z => xs.length - z.1) (fun z => z.1 ≤ xs.length ∧ (gSl 214 gFilter).ow [.slice b xs.length c] (mkL gFilter k0 (xs.take z.1) ++ xs.drop z.1) z.2) ((0, A))
  · repeat' (first | exact trivial | refine ⟨⟨_, rfl, by first | rfl | exact inc_eq _ (by omega) | (refine sl_eq ?_; simp; done) | (refine svi_eq ?_; subst_vars; (try dsimp only); (try simp (disch := omega) only [wrap_of]); omega) | (simp [cntL]), by first | exact trivial | simp [SV.ok]⟩, ?_⟩)
  · exact trivial
  · try dsimp only
    exact ⟨by omega, by simpa [mkL] using ho⟩
  · exact .refl _
  rintro ⟨k, B⟩ hI
  obtain ⟨hk, oB⟩ : k ≤ xs.length ∧ (gSl 214 gFilter).ow [.slice b xs.length c] (mkL gFilter k0 (xs.take k) ++ xs.drop k) B := hI
  try dsimp only
  refine VCsplit.intro (fun q0 => ?_) (fun q0 => ?_)
  ·
    simp at q0
    have hs := (cntL_step gFilter xs k default (by omega))
    simp only [gFilter_cnt] at hs
    have hs2 := cntL_take_le gFilter xs (k + 1)
    obtain ⟨y, ey, oe⟩ := OwE.mk default k oB (by rw [mk_len _ _ _ _ (by omega)]; omega)
    rw [mk_get _ _ _ _ _ (by omega)] at ey
    clear oB
    refine call_val (markText_ct _ ?_) trivial ?_
    · omega
    rintro _ rfl
    refine oe_idx oe ?_ fun b2 o2 hb2 => ?_
    · rfl
    refine oe_store gFilter_left 0 rfl oe rfl hb2 rfl fl_pl _ (gS_ow ?_) fun y3 A3 ey3 o3 => ?_
    · exact mtx_size _
    refine oe_idx o3 ?_ fun b4 o4 hb4 => ?_
    · rfl
    refine oe_store gFilter_op 0 rfl o3 rfl hb4 rfl gI_pl _ (gI_ow ?_) fun y5 A5 ey5 o5 => ?_
    · exact okI_wrap _
    refine call_val (markText_ct _ ?_) trivial ?_
    · (simp (disch := omega) only [wrap_of]; omega)
    rintro _ rfl
    refine oe_idx o5 ?_ fun b7 o7 hb7 => ?_
    · rfl
    refine oe_store gFilter_right 0 rfl o5 rfl hb7 rfl fl_pl _ (gS_ow ?_) fun y8 A8 ey8 o8 => ?_
    · exact mtx_size _
    refine oe_idx o8 ?_ fun b9 o9 hb9 => ?_
    · rfl
    refine oe_store gFilter_num 0 rfl o8 rfl hb9 rfl gI_pl _ (gI_ow ?_) fun y10 A10 ey10 o10 => ?_
    · exact okI_wrap _
    apply loop_stepA (k + 1, _)
    · exact .refl _
    · repeat' (first | exact trivial | refine ⟨⟨_, rfl, by first | rfl | exact inc_eq _ (by omega) | (refine sl_eq ?_; simp; done) | (refine svi_eq ?_; subst_vars; (try dsimp only); (try simp (disch := omega) only [wrap_of]); omega) | (simp [cntL]), by first | exact trivial | simp [SV.ok]⟩, ?_⟩)
    · exact trivial
    · try dsimp only
      exact ⟨by omega, OwE.done (by assumption) (by rw [← mk_step gFilter default xs k0 k (by omega)]; congr 1; subst_vars; (try simp only [gFilter_mark, gFilter_cnt]); (try simp (disch := omega) only [wrap_of]); (try rfl))⟩
    · try dsimp only
      omega
  ·
    simp at q0
    obtain rfl : k = xs.length := by omega
    rw [List.take_length, List.drop_length, List.append_nil] at oB
    exact ⟨_, ⟨by rw [List.take_length], oB⟩, (.le fun a => by (try simp only [setR, List.cons_append, List.nil_append]); simp only [List.flatten_append, List.flatten_cons, List.flatten_nil, List.count_append, List.count_nil, List.append_nil, List.nil_append]; omega)⟩

--@ct laws.heldFilterS val heldFilterS_ct _ _ _ _ _ _ ?_ ?_ ?_ | %1
theorem heldFilterS_ct (b : Option Addr) (m c : Nat) (xs : List Filter) (k0 k1 : Int) (hk1 : k0 = k1) (h0 : 0 ≤ k0) (h1 : k0 + cntL gFilter xs ≤ 4611686018427387904) :
    Ct Tryz.prog 183 [.slice b m c, .int .i64 k0] [] (fun H => (gSl 214 gFilter).rd H [.slice b m c] (mkL gFilter k1 xs)) (fun v A => v = .int .i64 (k0 + cntL gFilter xs) ∧ A = []) := by
  subst hk1
  refine Ct.intro0 G_ok Tryz.func183 rfl rfl rfl fun E H hp => ?_
  have hm0 := (sl_len hp).1
  rw [mkL_len] at hm0; subst hm0
  obtain ⟨-, hcl, hl⟩ := sl_len hp
  rw [mkL_len] at hcl hl
  have hln := mkL_len gFilter xs k0
  apply loop_mod (α := (Nat)) G_ok [6, 7, 8, 9, 12, 13, 14, 15, 16, 17, 18, 19, 4, 20, 21, 1, 22, 23, 24, 25, 26, 27, 28, 29, 30, 31, 32, 33, 34, 35, 36, 37, 38, 39, 40, 41, 42, 43, 44, 45, 46, 47, 48, 49, 10, 11, 5] (fun z => [(5, .v (.int .i64 z)), (1, .v (.int .i64 (k0 + cntL gFilter (xs.take z))))]) (fun z => []) (fun z => [H]) (fun z => xs.length - z) (fun z => z ≤ xs.length) (0)
  · repeat' (first | exact trivial | refine ⟨⟨_, rfl, by first | rfl | exact inc_eq _ (by omega) | (refine sl_eq ?_; simp; done) | (refine svi_eq ?_; (try dsimp only); (try simp (disch := omega) only [wrap_of]); omega) | (simp [cntL]), by first | exact trivial | simp [SV.ok]⟩, ?_⟩)
  · exact trivial
  · omega
  · exact .refl _
  rintro k hI
  obtain hk : k ≤ xs.length := hI
  try dsimp only
  refine VCsplit.intro (fun q0 => ?_) (fun q0 => ?_)
  ·
    simp at q0
    have hs := (cntL_step gFilter xs k default (by omega))
    simp only [gFilter_cnt] at hs
    have hs2 := cntL_take_le gFilter xs (k + 1)
    have hm := mkL_get gFilter default xs k0 k (by omega)
    simp only [gFilter_mark, gFilter_cnt] at hm
    refine draw G_ok mixed none (.q 0 (.q 1 (.q 2 (.q 3 (.q 4 (.q 5 (.f 6 (.q 7 (.nil))))))))) (by decide +kernel) ?_
    refine idx_rd hp ?_ ?_ fun b1 o1 hb1 => ?_
    · omega
    · omega
    refine load_partN default (k) 0 rfl hp ?_ ?_ hb1 rfl (by decide) (mem_at 0 rfl) fun l2 hl2 => ?_
    · omega
    · omega
    rw [hm] at hl2
    obtain ⟨rfl, w0x2, w1x2, w2x2, w3x2⟩ := gFilter_rd.1 hl2
    refine call_val (markText_ct _ ?_) trivial ?_
    · omega
    rintro _ rfl
    refine VC.intro ?_ ?_
    · exact fun _ h => h
    refine VCsplit.intro (fun q4 => ?_) (fun q4 => ?_)
    ·
      simp at q4
    ·
      simp at q4
      refine idx_rd hp ?_ ?_ fun b5 o5 hb5 => ?_
      · omega
      · omega
      refine load_partN default (k) 1 rfl hp ?_ ?_ hb5 rfl (by decide) (mem_at 0 rfl) fun l6 hl6 => ?_
      · omega
      · omega
      rw [hm] at hl6
      obtain ⟨rfl, w0x6, w1x6, w2x6, w3x6⟩ := gFilter_rd.1 hl6
      refine VCsplit.intro (fun q7 => ?_) (fun q7 => ?_)
      ·
        simp at q7
        simp (disch := omega) only [wrap_of] at q7
        exact absurd trivial q7
      ·
        simp at q7
        simp (disch := omega) only [wrap_of] at q7
        refine draw G_ok mixed none (.q 0 (.q 1 (.q 2 (.q 3 (.q 4 (.q 5 (.f 6 (.q 7 (.nil))))))))) (by decide +kernel) ?_
        refine idx_rd hp ?_ ?_ fun b8 o8 hb8 => ?_
        · omega
        · omega
        refine load_partN default (k) 2 rfl hp ?_ ?_ hb8 rfl (by decide) (mem_at 0 rfl) fun l9 hl9 => ?_
        · omega
        · omega
        rw [hm] at hl9
        obtain ⟨rfl, w0x9, w1x9, w2x9, w3x9⟩ := gFilter_rd.1 hl9
        refine call_val (markText_ct _ ?_) trivial ?_
        · (simp (disch := omega) only [wrap_of]; omega)
        rintro _ rfl
        refine VC.intro ?_ ?_
        · exact fun _ h => h
        refine VCsplit.intro (fun q11 => ?_) (fun q11 => ?_)
        ·
          simp at q11
          simp only [str_inj, u8_inj, u8_wrap] at q11
          simp (disch := omega) only [wrap_of] at q11
          exact absurd trivial q11
        ·
          simp at q11
          simp only [str_inj, u8_inj, u8_wrap] at q11
          simp (disch := omega) only [wrap_of] at q11
          refine idx_rd hp ?_ ?_ fun b12 o12 hb12 => ?_
          · omega
          · omega
          refine load_partN default (k) 3 rfl hp ?_ ?_ hb12 rfl (by decide) (mem_at 0 rfl) fun l13 hl13 => ?_
          · omega
          · omega
          rw [hm] at hl13
          obtain ⟨rfl, w0x13, w1x13, w2x13, w3x13⟩ := gFilter_rd.1 hl13
          refine VCsplit.intro (fun q14 => ?_) (fun q14 => ?_)
          ·
            simp at q14
            simp (disch := omega) only [wrap_of] at q14
            exact absurd trivial q14
          ·
            simp at q14
            simp (disch := omega) only [wrap_of] at q14
            apply loop_stepA (k + 1)
            · exact .refl _
            · repeat' (first | exact trivial | refine ⟨⟨_, rfl, by first | rfl | exact inc_eq _ (by omega) | (refine sl_eq ?_; simp; done) | (refine svi_eq ?_; (try dsimp only); (try simp (disch := omega) only [wrap_of]); omega) | (simp [cntL]), by first | exact trivial | simp [SV.ok]⟩, ?_⟩)
            · exact trivial
            · trivial
            · omega
  ·
    simp at q0
    obtain rfl : k = xs.length := by omega
    exact ⟨[], ⟨by rw [List.take_length], rfl⟩, (.le fun a => by (try simp only [setR, List.cons_append, List.nil_append]); simp only [List.flatten_append, List.flatten_cons, List.flatten_nil, List.count_append, List.count_nil, List.append_nil, List.nil_append]; omega)⟩

--@ct laws.markQuery mark1 markQuery_ct _ _ _ _ ~ ?_ ?_
theorem markQuery_ct (l : List Value) (x : Query) (A : Hp) (k0 : Int) (ho : gQuery.ow l x A) (h0 : 0 ≤ k0) (h1 : k0 + gQuery.cntV x ≤ 4611686018427387904) :
    CtR Tryz.prog 29 [.agg ⟨l⟩, .int .i64 k0] A (fun _ => True) (fun v A => v = .int .i64 (k0 + gQuery.cntV x) ∧ gQuery.ow l (gQuery.markV k0 x) A) := by
  obtain ⟨b1, c1, A1, b2, c2, A2, b3, c3, A3, rfl, hpm, h1, h2, h3⟩ := gQuery_ow.1 ho
  have hz := gQuery_cntV x
  refine CtR.introP G_ok [A1, A2, A3] Tryz.func29 rfl rfl rfl (hpm.trans (by simp)) fun E H hp => ?_
  refine VCnew.intro fun x0 => ?_
  refine callR_at 0 rfl (markStringS_ct _ _ _ _ _ _ h1 ?_ ?_) trivial ?_
  · trivial
  · omega
  rintro _ A1 ⟨rfl, o1⟩
  refine callR_at 1 rfl (markAtomS_ct _ _ _ _ _ _ h2 ?_ ?_) trivial ?_
  · omega
  · omega
  rintro _ A2 ⟨rfl, o2⟩
  refine callR_at 2 rfl (markFilterS_ct _ _ _ _ _ _ h3 ?_ ?_) trivial ?_
  · omega
  · omega
  rintro _ A3 ⟨rfl, o3⟩
  exact ⟨_, ⟨by rw [hz]; (try simp); (try omega), by rw [gQuery_markV]; exact gQuery_ow.2 ⟨_, _, _, _, _, _, _, _, _, by simp only [mkL_len]; rfl, .refl _, by rw [mkL_len]; assumption, by rw [mkL_len]; assumption, by rw [mkL_len]; assumption⟩⟩, (.le fun a => by (try simp only [setR, List.cons_append, List.nil_append]); simp only [List.flatten_append, List.flatten_cons, List.flatten_nil, List.count_append, List.count_nil, List.append_nil, List.nil_append]; omega)⟩

--@ct laws.heldQuery val heldQuery_ct _ _ _ _ ?_ ?_ ?_ | %1
theorem heldQuery_ct (l : List Value) (x : Query) (k0 k1 : Int) (hk1 : k0 = k1) (h0 : 0 ≤ k0) (h1 : k0 + gQuery.cntV x ≤ 4611686018427387904) :
    Ct Tryz.prog 112 [.agg ⟨l⟩, .int .i64 k0] [] (fun H => gQuery.rd H l (gQuery.markV k1 x)) (fun v A => v = .int .i64 (k0 + gQuery.cntV x) ∧ A = []) := by
  subst hk1
  refine Ct.intro0 G_ok Tryz.func112 rfl rfl rfl fun E H hp => ?_
  rw [gQuery_markV] at hp
  obtain ⟨b1, c1, b2, c2, b3, c3, rfl, h1, h2, h3⟩ := gQuery_rd.1 hp
  have hz := gQuery_cntV x
  refine VCnew.intro fun x0 => ?_
  refine call_val (heldStringS_ct _ _ _ _ _ _ ?_ ?_ ?_) (Rp.mono _ (mem_at 0 rfl) h1) ?_
  · rfl
  · trivial
  · omega
  rintro _ rfl
  refine VCsplit.intro (fun q2 => ?_) (fun q2 => ?_)
  ·
    simp at q2
    exfalso; omega
  ·
    simp at q2
    refine call_val (heldAtomS_ct _ _ _ _ _ _ ?_ ?_ ?_) (Rp.mono _ (mem_at 0 rfl) h2) ?_
    · rfl
    · trivial
    · omega
    rintro _ rfl
    refine VCsplit.intro (fun q4 => ?_) (fun q4 => ?_)
    ·
      simp at q4
      exfalso; omega
    ·
      simp at q4
      refine call_val (heldFilterS_ct _ _ _ _ _ _ ?_ ?_ ?_) (Rp.mono _ (mem_at 0 rfl) h3) ?_
      · rfl
      · trivial
      · omega
      rintro _ rfl
      refine VCsplit.intro (fun q6 => ?_) (fun q6 => ?_)
      ·
        simp at q6
        exfalso; omega
      ·
        simp at q6
        try dsimp only
        exact ⟨[], ⟨by rw [hz]; (try simp); (try omega), rfl⟩, (.le fun a => by (try simp only [setR, List.cons_append, List.nil_append]); simp only [List.flatten_append, List.flatten_cons, List.flatten_nil, List.count_append, List.count_nil, List.append_nil, List.nil_append]; omega)⟩

--@ct laws.markFileS mark1 markFileS_ct _ _ _ _ _ _ ~ ?_ ?_
theorem markFileS_ct (b : Option Addr) (m c : Nat) (xs : List File) (A : Hp) (k0 : Int) (ho : (gSl 256 gFile).ow [.slice b m c] xs A) (h0 : 0 ≤ k0) (h1 : k0 + cntL gFile xs ≤ 4611686018427387904) :
    CtR Tryz.prog 147 [.slice b m c, .int .i64 k0] A (fun _ => True) (fun v A => v = .int .i64 (k0 + cntL gFile xs) ∧ (gSl 256 gFile).ow [.slice b m c] (mkL gFile k0 xs) A) := by
  obtain ⟨rfl, hcl, hl⟩ := sl_len (Gt.owrd _ ho)
  refine CtR.intro G_ok [A] Tryz.func147 rfl rfl rfl (by simp) fun E H hp => ?_
  apply loop_mod (α := (Nat) × (Hp)) G_ok [6, 7, 8, 9, 12, 13, 14, 15, 16, 17, 18, 19, 1, 20, 21, 22, 23, 24, 25, 26, 27, 28, 29, 30, 31, 32, 33, 34, 10, 11, 5] (fun z => [(5, .v (.int .i64 z.1)), (1, .v (.int .i64 (k0 + cntL gFile (xs.take z.1))))]) (fun z => []) (fun z => [z.2, H]) (fun z => xs.length - z.1) (fun z => z.1 ≤ xs.length ∧ (gSl 256 gFile).ow [.slice b xs.length c] (mkL gFile k0 (xs.take z.1) ++ xs.drop z.1) z.2) ((0, A))
  · repeat' (first | exact trivial | refine ⟨⟨_, rfl, by first | rfl | exact inc_eq _ (by omega) | (refine sl_eq ?_; simp; done) | (refine svi_eq ?_; subst_vars; (try dsimp only); (try simp (disch := omega) only [wrap_of]); omega) | (simp [cntL]), by first | exact trivial | simp [SV.ok]⟩, ?_⟩)
  · exact trivial
  · try dsimp only
    exact ⟨by omega, by simpa [mkL] using ho⟩
  · exact .refl _
  rintro ⟨k, B⟩ hI
  obtain ⟨hk, oB⟩ : k ≤ xs.length ∧ (gSl 256 gFile).ow [.slice b xs.length c] (mkL gFile k0 (xs.take k) ++ xs.drop k) B := hI
  try dsimp only
  refine VCsplit.intro (fun q0 => ?_) (fun q0 => ?_)
  ·
    simp at q0
    have hs := (cntL_step gFile xs k default (by omega))
    simp only [gFile_cnt] at hs
    have hs2 := cntL_take_le gFile xs (k + 1)
    obtain ⟨y, ey, oe⟩ := OwE.mk default k oB (by rw [mk_len _ _ _ _ (by omega)]; omega)
    rw [mk_get _ _ _ _ _ (by omega)] at ey
    clear oB
    refine call_val (markText_ct _ ?_) trivial ?_
    · omega
    rintro _ rfl
    refine oe_idx oe ?_ fun b2 o2 hb2 => ?_
    · rfl
    refine oe_store gFile_name 0 rfl oe rfl hb2 rfl fl_pl _ (gS_ow ?_) fun y3 A3 ey3 o3 => ?_
    · exact mtx_size _
    refine call_val (markText_ct _ ?_) trivial ?_
    · (simp (disch := omega) only [wrap_of]; omega)
    rintro _ rfl
    refine oe_idx o3 ?_ fun b5 o5 hb5 => ?_
    · rfl
    refine oe_store gFile_text 0 rfl o3 rfl hb5 rfl fl_pl _ (gS_ow ?_) fun y6 A6 ey6 o6 => ?_
    · exact mtx_size _
    refine oe_idx o6 ?_ fun b7 o7 hb7 => ?_
    · rfl
    refine oe_store gFile_kept 0 rfl o6 rfl hb7 rfl gI_pl _ (gI_ow ?_) fun y8 A8 ey8 o8 => ?_
    · exact okI_wrap _
    apply loop_stepA (k + 1, _)
    · exact .refl _
    · repeat' (first | exact trivial | refine ⟨⟨_, rfl, by first | rfl | exact inc_eq _ (by omega) | (refine sl_eq ?_; simp; done) | (refine svi_eq ?_; subst_vars; (try dsimp only); (try simp (disch := omega) only [wrap_of]); omega) | (simp [cntL]), by first | exact trivial | simp [SV.ok]⟩, ?_⟩)
    · exact trivial
    · try dsimp only
      exact ⟨by omega, OwE.done (by assumption) (by rw [← mk_step gFile default xs k0 k (by omega)]; congr 1; subst_vars; (try simp only [gFile_mark, gFile_cnt]); (try simp (disch := omega) only [wrap_of]); (try rfl))⟩
    · try dsimp only
      omega
  ·
    simp at q0
    obtain rfl : k = xs.length := by omega
    rw [List.take_length, List.drop_length, List.append_nil] at oB
    exact ⟨_, ⟨by rw [List.take_length], oB⟩, (.le fun a => by (try simp only [setR, List.cons_append, List.nil_append]); simp only [List.flatten_append, List.flatten_cons, List.flatten_nil, List.count_append, List.count_nil, List.append_nil, List.nil_append]; omega)⟩

--@ct laws.heldFileS val heldFileS_ct _ _ _ _ _ _ ?_ ?_ ?_ | %1
theorem heldFileS_ct (b : Option Addr) (m c : Nat) (xs : List File) (k0 k1 : Int) (hk1 : k0 = k1) (h0 : 0 ≤ k0) (h1 : k0 + cntL gFile xs ≤ 4611686018427387904) :
    Ct Tryz.prog 148 [.slice b m c, .int .i64 k0] [] (fun H => (gSl 256 gFile).rd H [.slice b m c] (mkL gFile k1 xs)) (fun v A => v = .int .i64 (k0 + cntL gFile xs) ∧ A = []) := by
  subst hk1
  refine Ct.intro0 G_ok Tryz.func148 rfl rfl rfl fun E H hp => ?_
  have hm0 := (sl_len hp).1
  rw [mkL_len] at hm0; subst hm0
  obtain ⟨-, hcl, hl⟩ := sl_len hp
  rw [mkL_len] at hcl hl
  have hln := mkL_len gFile xs k0
  apply loop_mod (α := (Nat)) G_ok [6, 7, 8, 9, 12, 13, 14, 15, 16, 17, 18, 19, 4, 20, 21, 1, 22, 23, 24, 25, 26, 27, 28, 29, 30, 31, 32, 33, 34, 35, 36, 37, 38, 39, 40, 10, 11, 5] (fun z => [(5, .v (.int .i64 z)), (1, .v (.int .i64 (k0 + cntL gFile (xs.take z))))]) (fun z => []) (fun z => [H]) (fun z => xs.length - z) (fun z => z ≤ xs.length) (0)
  · repeat' (first | exact trivial | refine ⟨⟨_, rfl, by first | rfl | exact inc_eq _ (by omega) | (refine sl_eq ?_; simp; done) | (refine svi_eq ?_; (try dsimp only); (try simp (disch := omega) only [wrap_of]); omega) | (simp [cntL]), by first | exact trivial | simp [SV.ok]⟩, ?_⟩)
  · exact trivial
  · omega
  · exact .refl _
  rintro k hI
  obtain hk : k ≤ xs.length := hI
  try dsimp only
  refine VCsplit.intro (fun q0 => ?_) (fun q0 => ?_)
  ·
    simp at q0
    have hs := (cntL_step gFile xs k default (by omega))
    simp only [gFile_cnt] at hs
    have hs2 := cntL_take_le gFile xs (k + 1)
    have hm := mkL_get gFile default xs k0 k (by omega)
    simp only [gFile_mark, gFile_cnt] at hm
    refine draw G_ok mixed none (.q 0 (.q 1 (.q 2 (.q 3 (.q 4 (.q 5 (.f 6 (.q 7 (.nil))))))))) (by decide +kernel) ?_
    refine idx_rd hp ?_ ?_ fun b1 o1 hb1 => ?_
    · omega
    · omega
    refine load_partN default (k) 0 rfl hp ?_ ?_ hb1 rfl (by decide) (mem_at 0 rfl) fun l2 hl2 => ?_
    · omega
    · omega
    rw [hm] at hl2
    obtain ⟨rfl, w0x2, w1x2, w2x2⟩ := gFile_rd.1 hl2
    refine call_val (markText_ct _ ?_) trivial ?_
    · omega
    rintro _ rfl
    refine VC.intro ?_ ?_
    · exact fun _ h => h
    refine VCsplit.intro (fun q4 => ?_) (fun q4 => ?_)
    ·
      simp at q4
    ·
      simp at q4
      refine draw G_ok mixed none (.q 0 (.q 1 (.q 2 (.q 3 (.q 4 (.q 5 (.f 6 (.q 7 (.nil))))))))) (by decide +kernel) ?_
      refine idx_rd hp ?_ ?_ fun b5 o5 hb5 => ?_
      · omega
      · omega
      refine load_partN default (k) 1 rfl hp ?_ ?_ hb5 rfl (by decide) (mem_at 0 rfl) fun l6 hl6 => ?_
      · omega
      · omega
      rw [hm] at hl6
      obtain ⟨rfl, w0x6, w1x6, w2x6⟩ := gFile_rd.1 hl6
      refine call_val (markText_ct _ ?_) trivial ?_
      · (simp (disch := omega) only [wrap_of]; omega)
      rintro _ rfl
      refine VC.intro ?_ ?_
      · exact fun _ h => h
      refine VCsplit.intro (fun q8 => ?_) (fun q8 => ?_)
      ·
        simp at q8
        simp only [str_inj, u8_inj, u8_wrap] at q8
        simp (disch := omega) only [wrap_of] at q8
        exact absurd trivial q8
      ·
        simp at q8
        simp only [str_inj, u8_inj, u8_wrap] at q8
        simp (disch := omega) only [wrap_of] at q8
        refine idx_rd hp ?_ ?_ fun b9 o9 hb9 => ?_
        · omega
        · omega
        refine load_partN default (k) 2 rfl hp ?_ ?_ hb9 rfl (by decide) (mem_at 0 rfl) fun l10 hl10 => ?_
        · omega
        · omega
        rw [hm] at hl10
        obtain ⟨rfl, w0x10, w1x10, w2x10⟩ := gFile_rd.1 hl10
        refine VCsplit.intro (fun q11 => ?_) (fun q11 => ?_)
        ·
          simp at q11
          simp (disch := omega) only [wrap_of] at q11
          exact absurd trivial q11
        ·
          simp at q11
          simp (disch := omega) only [wrap_of] at q11
          apply loop_stepA (k + 1)
          · exact .refl _
          · repeat' (first | exact trivial | refine ⟨⟨_, rfl, by first | rfl | exact inc_eq _ (by omega) | (refine sl_eq ?_; simp; done) | (refine svi_eq ?_; (try dsimp only); (try simp (disch := omega) only [wrap_of]); omega) | (simp [cntL]), by first | exact trivial | simp [SV.ok]⟩, ?_⟩)
          · exact trivial
          · trivial
          · omega
  ·
    simp at q0
    obtain rfl : k = xs.length := by omega
    exact ⟨[], ⟨by rw [List.take_length], rfl⟩, (.le fun a => by (try simp only [setR, List.cons_append, List.nil_append]); simp only [List.flatten_append, List.flatten_cons, List.flatten_nil, List.count_append, List.count_nil, List.append_nil, List.nil_append]; omega)⟩

--@ct laws.markDisk mark1 markDisk_ct _ _ _ _ ~ ?_ ?_
theorem markDisk_ct (l : List Value) (x : Disk) (A : Hp) (k0 : Int) (ho : gDisk.ow l x A) (h0 : 0 ≤ k0) (h1 : k0 + gDisk.cntV x ≤ 4611686018427387904) :
    CtR Tryz.prog 62 [.agg ⟨l⟩, .int .i64 k0] A (fun _ => True) (fun v A => v = .int .i64 (k0 + gDisk.cntV x) ∧ gDisk.ow l (gDisk.markV k0 x) A) := by
  obtain ⟨b0, c0, A0, rfl, hpm, h0⟩ := gDisk_ow.1 ho
  have hz := gDisk_cntV x
  refine CtR.introP G_ok [A0] Tryz.func62 rfl rfl rfl (hpm.trans (by simp)) fun E H hp => ?_
  refine VCnew.intro fun x0 => ?_
  refine callR_at 0 rfl (markFileS_ct _ _ _ _ _ _ h0 ?_ ?_) trivial ?_
  · trivial
  · trivial
  rintro _ A1 ⟨rfl, o1⟩
  exact ⟨_, ⟨by rw [hz]; (try simp); (try omega), by rw [gDisk_markV]; exact gDisk_ow.2 ⟨_, _, _, by simp only [mkL_len]; rfl, .refl _, by rw [mkL_len]; assumption⟩⟩, (.le fun a => by (try simp only [setR, List.cons_append, List.nil_append]); simp only [List.flatten_append, List.flatten_cons, List.flatten_nil, List.count_append, List.count_nil, List.append_nil, List.nil_append]; omega)⟩

--@ct laws.heldDisk val heldDisk_ct _ _ _ _ ?_ ?_ ?_ | %1
theorem heldDisk_ct (l : List Value) (x : Disk) (k0 k1 : Int) (hk1 : k0 = k1) (h0 : 0 ≤ k0) (h1 : k0 + gDisk.cntV x ≤ 4611686018427387904) :
    Ct Tryz.prog 67 [.agg ⟨l⟩, .int .i64 k0] [] (fun H => gDisk.rd H l (gDisk.markV k1 x)) (fun v A => v = .int .i64 (k0 + gDisk.cntV x) ∧ A = []) := by
  subst hk1
  refine Ct.intro0 G_ok Tryz.func67 rfl rfl rfl fun E H hp => ?_
  rw [gDisk_markV] at hp
  obtain ⟨b0, c0, rfl, h0⟩ := gDisk_rd.1 hp
  have hz := gDisk_cntV x
  refine VCnew.intro fun x0 => ?_
  refine call_val (heldFileS_ct _ _ _ _ _ _ ?_ ?_ ?_) (Rp.mono _ (mem_at 0 rfl) h0) ?_
  · rfl
  · trivial
  · trivial
  rintro _ rfl
  refine VCsplit.intro (fun q2 => ?_) (fun q2 => ?_)
  ·
    simp at q2
    exfalso; omega
  ·
    simp at q2
    try dsimp only
    exact ⟨[], ⟨by rw [hz]; (try simp); (try omega), rfl⟩, (.le fun a => by (try simp only [setR, List.cons_append, List.nil_append]); simp only [List.flatten_append, List.flatten_cons, List.flatten_nil, List.count_append, List.count_nil, List.append_nil, List.nil_append]; omega)⟩

--@ct laws.markWalkS mark1 markWalkS_ct _ _ _ _ _ _ ~ ?_ ?_
theorem markWalkS_ct (b : Option Addr) (m c : Nat) (xs : List Walk) (A : Hp) (k0 : Int) (ho : (gSl 200 gWalk).ow [.slice b m c] xs A) (h0 : 0 ≤ k0) (h1 : k0 + cntL gWalk xs ≤ 4611686018427387904) :
    CtR Tryz.prog 65 [.slice b m c, .int .i64 k0] A (fun _ => True) (fun v A => v = .int .i64 (k0 + cntL gWalk xs) ∧ (gSl 200 gWalk).ow [.slice b m c] (mkL gWalk k0 xs) A) := by
  obtain ⟨rfl, hcl, hl⟩ := sl_len (Gt.owrd _ ho)
  refine CtR.intro G_ok [A] Tryz.func65 rfl rfl rfl (by simp) fun E H hp => ?_
  apply loop_mod (α := (Nat) × (Hp)) G_ok [6, 7, 8, 9, 12, 13, 14, 15, 16, 17, 18, 1, 19, 20, 21, 22, 23, 24, 25, 26, 27, 28, 29, 30, 31, 32, 33, 34, 35, 36, 37, 38, 39, 10, 11, 5] (fun z => [(5, .v (.int .i64 z.1)), (1, .v (.int .i64 (k0 + cntL gWalk (xs.take z.1))))]) (fun z => []) (fun z => [z.2, H]) (fun z => xs.length - z.1) (fun z => z.1 ≤ xs.length ∧ (gSl 200 gWalk).ow [.slice b xs.length c] (mkL gWalk k0 (xs.take z.1) ++ xs.drop z.1) z.2) ((0, A))
  · repeat' (first | exact trivial | refine ⟨⟨_, rfl, by first | rfl | exact inc_eq _ (by omega) | (refine sl_eq ?_; simp; done) | (refine svi_eq ?_; subst_vars; (try dsimp only); (try simp (disch := omega) only [wrap_of]); omega) | (simp [cntL]), by first | exact trivial | simp [SV.ok]⟩, ?_⟩)
  · exact trivial
  · try dsimp only
    exact ⟨by omega, by simpa [mkL] using ho⟩
  · exact .refl _
  rintro ⟨k, B⟩ hI
  obtain ⟨hk, oB⟩ : k ≤ xs.length ∧ (gSl 200 gWalk).ow [.slice b xs.length c] (mkL gWalk k0 (xs.take k) ++ xs.drop k) B := hI
  try dsimp only
  refine VCsplit.intro (fun q0 => ?_) (fun q0 => ?_)
  ·
    simp at q0
    have hs := (cntL_step gWalk xs k default (by omega))
    simp only [gWalk_cnt] at hs
    have hs2 := cntL_take_le gWalk xs (k + 1)
    obtain ⟨y, ey, oe⟩ := OwE.mk default k oB (by rw [mk_len _ _ _ _ (by omega)]; omega)
    rw [mk_get _ _ _ _ _ (by omega)] at ey
    clear oB
    refine oe_idx oe ?_ fun b1 o1 hb1 => ?_
    · rfl
    refine oe_store gWalk_atom 0 rfl oe rfl hb1 rfl gI_pl _ (gI_ow ?_) fun y2 A2 ey2 o2 => ?_
    · unfold okI; omega
    refine oe_idx o2 ?_ fun b3 o3 hb3 => ?_
    · rfl
    refine oe_store gWalk_src 0 rfl o2 rfl hb3 rfl gI_pl _ (gI_ow ?_) fun y4 A4 ey4 o4 => ?_
    · exact okI_wrap _
    refine oe_idx o4 ?_ fun b5 o5 hb5 => ?_
    · rfl
    refine oe_store gWalk_at 0 rfl o4 rfl hb5 rfl gI_pl _ (gI_ow ?_) fun y6 A6 ey6 o6 => ?_
    · exact okI_wrap _
    refine oe_idx o6 ?_ fun b7 o7 hb7 => ?_
    · rfl
    refine oe_store gWalk_state 0 rfl o6 rfl hb7 rfl gI_pl _ (gI_ow ?_) fun y8 A8 ey8 o8 => ?_
    · exact okI_wrap _
    apply loop_stepA (k + 1, _)
    · exact .refl _
    · repeat' (first | exact trivial | refine ⟨⟨_, rfl, by first | rfl | exact inc_eq _ (by omega) | (refine sl_eq ?_; simp; done) | (refine svi_eq ?_; subst_vars; (try dsimp only); (try simp (disch := omega) only [wrap_of]); omega) | (simp [cntL]), by first | exact trivial | simp [SV.ok]⟩, ?_⟩)
    · exact trivial
    · try dsimp only
      exact ⟨by omega, OwE.done (by assumption) (by rw [← mk_step gWalk default xs k0 k (by omega)]; congr 1; subst_vars; (try simp only [gWalk_mark, gWalk_cnt]); (try simp (disch := omega) only [wrap_of]); (try rfl))⟩
    · try dsimp only
      omega
  ·
    simp at q0
    obtain rfl : k = xs.length := by omega
    rw [List.take_length, List.drop_length, List.append_nil] at oB
    exact ⟨_, ⟨by rw [List.take_length], oB⟩, (.le fun a => by (try simp only [setR, List.cons_append, List.nil_append]); simp only [List.flatten_append, List.flatten_cons, List.flatten_nil, List.count_append, List.count_nil, List.append_nil, List.nil_append]; omega)⟩

--@ct laws.heldWalkS val heldWalkS_ct _ _ _ _ _ _ ?_ ?_ ?_ | %1
theorem heldWalkS_ct (b : Option Addr) (m c : Nat) (xs : List Walk) (k0 k1 : Int) (hk1 : k0 = k1) (h0 : 0 ≤ k0) (h1 : k0 + cntL gWalk xs ≤ 4611686018427387904) :
    Ct Tryz.prog 150 [.slice b m c, .int .i64 k0] [] (fun H => (gSl 200 gWalk).rd H [.slice b m c] (mkL gWalk k1 xs)) (fun v A => v = .int .i64 (k0 + cntL gWalk xs) ∧ A = []) := by
  subst hk1
  refine Ct.intro0 G_ok Tryz.func150 rfl rfl rfl fun E H hp => ?_
  have hm0 := (sl_len hp).1
  rw [mkL_len] at hm0; subst hm0
  obtain ⟨-, hcl, hl⟩ := sl_len hp
  rw [mkL_len] at hcl hl
  have hln := mkL_len gWalk xs k0
  apply loop_mod (α := (Nat)) G_ok [6, 7, 8, 9, 12, 13, 14, 15, 16, 17, 18, 4, 19, 20, 1, 21, 22, 23, 24, 25, 26, 27, 28, 29, 30, 31, 32, 33, 34, 35, 36, 37, 38, 39, 40, 41, 42, 43, 44, 45, 46, 47, 10, 11, 5] (fun z => [(5, .v (.int .i64 z)), (1, .v (.int .i64 (k0 + cntL gWalk (xs.take z))))]) (fun z => []) (fun z => [H]) (fun z => xs.length - z) (fun z => z ≤ xs.length) (0)
  · repeat' (first | exact trivial | refine ⟨⟨_, rfl, by first | rfl | exact inc_eq _ (by omega) | (refine sl_eq ?_; simp; done) | (refine svi_eq ?_; (try dsimp only); (try simp (disch := omega) only [wrap_of]); omega) | (simp [cntL]), by first | exact trivial | simp [SV.ok]⟩, ?_⟩)
  · exact trivial
  · omega
  · exact .refl _
  rintro k hI
  obtain hk : k ≤ xs.length := hI
  try dsimp only
  refine VCsplit.intro (fun q0 => ?_) (fun q0 => ?_)
  ·
    simp at q0
    have hs := (cntL_step gWalk xs k default (by omega))
    simp only [gWalk_cnt] at hs
    have hs2 := cntL_take_le gWalk xs (k + 1)
    have hm := mkL_get gWalk default xs k0 k (by omega)
    simp only [gWalk_mark, gWalk_cnt] at hm
    refine idx_rd hp ?_ ?_ fun b1 o1 hb1 => ?_
    · omega
    · omega
    refine load_partN default (k) 0 rfl hp ?_ ?_ hb1 rfl (by decide) (mem_at 0 rfl) fun l2 hl2 => ?_
    · omega
    · omega
    rw [hm] at hl2
    obtain ⟨rfl, w0x2, w1x2, w2x2, w3x2⟩ := gWalk_rd.1 hl2
    refine VCsplit.intro (fun q3 => ?_) (fun q3 => ?_)
    ·
      simp at q3
    ·
      simp at q3
      refine idx_rd hp ?_ ?_ fun b4 o4 hb4 => ?_
      · omega
      · omega
      refine load_partN default (k) 1 rfl hp ?_ ?_ hb4 rfl (by decide) (mem_at 0 rfl) fun l5 hl5 => ?_
      · omega
      · omega
      rw [hm] at hl5
      obtain ⟨rfl, w0x5, w1x5, w2x5, w3x5⟩ := gWalk_rd.1 hl5
      refine VCsplit.intro (fun q6 => ?_) (fun q6 => ?_)
      ·
        simp at q6
        simp (disch := omega) only [wrap_of] at q6
        exact absurd trivial q6
      ·
        simp at q6
        simp (disch := omega) only [wrap_of] at q6
        refine idx_rd hp ?_ ?_ fun b7 o7 hb7 => ?_
        · omega
        · omega
        refine load_partN default (k) 2 rfl hp ?_ ?_ hb7 rfl (by decide) (mem_at 0 rfl) fun l8 hl8 => ?_
        · omega
        · omega
        rw [hm] at hl8
        obtain ⟨rfl, w0x8, w1x8, w2x8, w3x8⟩ := gWalk_rd.1 hl8
        refine VCsplit.intro (fun q9 => ?_) (fun q9 => ?_)
        ·
          simp at q9
          simp (disch := omega) only [wrap_of] at q9
          exact absurd trivial q9
        ·
          simp at q9
          simp (disch := omega) only [wrap_of] at q9
          refine idx_rd hp ?_ ?_ fun b10 o10 hb10 => ?_
          · omega
          · omega
          refine load_partN default (k) 3 rfl hp ?_ ?_ hb10 rfl (by decide) (mem_at 0 rfl) fun l11 hl11 => ?_
          · omega
          · omega
          rw [hm] at hl11
          obtain ⟨rfl, w0x11, w1x11, w2x11, w3x11⟩ := gWalk_rd.1 hl11
          refine VCsplit.intro (fun q12 => ?_) (fun q12 => ?_)
          ·
            simp at q12
            simp (disch := omega) only [wrap_of] at q12
            exact absurd trivial q12
          ·
            simp at q12
            simp (disch := omega) only [wrap_of] at q12
            apply loop_stepA (k + 1)
            · exact .refl _
            · repeat' (first | exact trivial | refine ⟨⟨_, rfl, by first | rfl | exact inc_eq _ (by omega) | (refine sl_eq ?_; simp; done) | (refine svi_eq ?_; (try dsimp only); (try simp (disch := omega) only [wrap_of]); omega) | (simp [cntL]), by first | exact trivial | simp [SV.ok]⟩, ?_⟩)
            · exact trivial
            · trivial
            · omega
  ·
    simp at q0
    obtain rfl : k = xs.length := by omega
    exact ⟨[], ⟨by rw [List.take_length], rfl⟩, (.le fun a => by (try simp only [setR, List.cons_append, List.nil_append]); simp only [List.flatten_append, List.flatten_cons, List.flatten_nil, List.count_append, List.count_nil, List.append_nil, List.nil_append]; omega)⟩

--@ct laws.markGotS mark1 markGotS_ct _ _ _ _ _ _ ~ ?_ ?_
theorem markGotS_ct (b : Option Addr) (m c : Nat) (xs : List Got) (A : Hp) (k0 : Int) (ho : (gSl 232 gGot).ow [.slice b m c] xs A) (h0 : 0 ≤ k0) (h1 : k0 + cntL gGot xs ≤ 4611686018427387904) :
    CtR Tryz.prog 111 [.slice b m c, .int .i64 k0] A (fun _ => True) (fun v A => v = .int .i64 (k0 + cntL gGot xs) ∧ (gSl 232 gGot).ow [.slice b m c] (mkL gGot k0 xs) A) := by
  obtain ⟨rfl, hcl, hl⟩ := sl_len (Gt.owrd _ ho)
  refine CtR.intro G_ok [A] Tryz.func111 rfl rfl rfl (by simp) fun E H hp => ?_
  apply loop_mod (α := (Nat) × (Hp)) G_ok [6, 7, 8, 9, 12, 13, 14, 15, 16, 17, 18, 1, 19, 20, 21, 22, 23, 24, 25, 26, 27, 28, 29, 30, 31, 32, 33, 10, 11, 5] (fun z => [(5, .v (.int .i64 z.1)), (1, .v (.int .i64 (k0 + cntL gGot (xs.take z.1))))]) (fun z => []) (fun z => [z.2, H]) (fun z => xs.length - z.1) (fun z => z.1 ≤ xs.length ∧ (gSl 232 gGot).ow [.slice b xs.length c] (mkL gGot k0 (xs.take z.1) ++ xs.drop z.1) z.2) ((0, A))
  · repeat' (first | exact trivial | refine ⟨⟨_, rfl, by first | rfl | exact inc_eq _ (by omega) | (refine sl_eq ?_; simp; done) | (refine svi_eq ?_; subst_vars; (try dsimp only); (try simp (disch := omega) only [wrap_of]); omega) | (simp [cntL]), by first | exact trivial | simp [SV.ok]⟩, ?_⟩)
  · exact trivial
  · try dsimp only
    exact ⟨by omega, by simpa [mkL] using ho⟩
  · exact .refl _
  rintro ⟨k, B⟩ hI
  obtain ⟨hk, oB⟩ : k ≤ xs.length ∧ (gSl 232 gGot).ow [.slice b xs.length c] (mkL gGot k0 (xs.take k) ++ xs.drop k) B := hI
  try dsimp only
  refine VCsplit.intro (fun q0 => ?_) (fun q0 => ?_)
  ·
    simp at q0
    have hs := (cntL_step gGot xs k default (by omega))
    simp only [gBag_cnt, gGot_cnt] at hs
    have hs2 := cntL_take_le gGot xs (k + 1)
    obtain ⟨y, ey, oe⟩ := OwE.mk default k oB (by rw [mk_len _ _ _ _ (by omega)]; omega)
    rw [mk_get _ _ _ _ _ (by omega)] at ey
    clear oB
    refine oe_idx oe ?_ fun b1 o1 hb1 => ?_
    · rfl
    refine oe_store gGot_from 0 rfl oe rfl hb1 rfl gI_pl _ (gI_ow ?_) fun y2 A2 ey2 o2 => ?_
    · unfold okI; omega
    refine oe_idx o2 ?_ fun b3 o3 hb3 => ?_
    · rfl
    refine oe_store gGot_atom 0 rfl o2 rfl hb3 rfl gI_pl _ (gI_ow ?_) fun y4 A4 ey4 o4 => ?_
    · exact okI_wrap _
    refine oe_idx o4 ?_ fun b5 o5 hb5 => ?_
    · rfl
    refine oe_load gGot_bag o4 rfl hb5 rfl (mem_at 0 rfl) fun l6 hl6 hf6 => ?_
    obtain ⟨b0x6, c0x6, rfl, h0x6⟩ := gBag_rd.1 hl6
    refine call_foc 0 rfl hf6 (fun Af7 oa7 => markItemS_ct _ _ _ _ _ _ oa7 ?_ ?_) (fun _ _ => trivial) ?_
    · (simp (disch := omega) only [wrap_of]; omega)
    · (subst_vars; (try dsimp only at *); (try simp (disch := omega) only [wrap_of] at *); omega)
    rintro _ A7 rfl ⟨y7, ey7, o7⟩
    try dsimp only at ey7
    apply loop_stepA (k + 1, _)
    · exact .refl _
    · repeat' (first | exact trivial | refine ⟨⟨_, rfl, by first | rfl | exact inc_eq _ (by omega) | (refine sl_eq ?_; simp; done) | (refine svi_eq ?_; subst_vars; (try dsimp only); (try simp (disch := omega) only [wrap_of]); omega) | (simp [cntL]), by first | exact trivial | simp [SV.ok]⟩, ?_⟩)
    · exact trivial
    · try dsimp only
      exact ⟨by omega, OwE.done (by assumption) (by rw [← mk_step gGot default xs k0 k (by omega)]; congr 1; subst_vars; (try simp only [gBag_mark, gBag_cnt, gGot_mark, gGot_cnt]); (try simp (disch := omega) only [wrap_of]); (try rfl))⟩
    · try dsimp only
      omega
  ·
    simp at q0
    obtain rfl : k = xs.length := by omega
    rw [List.take_length, List.drop_length, List.append_nil] at oB
    exact ⟨_, ⟨by rw [List.take_length], oB⟩, (.le fun a => by (try simp only [setR, List.cons_append, List.nil_append]); simp only [List.flatten_append, List.flatten_cons, List.flatten_nil, List.count_append, List.count_nil, List.append_nil, List.nil_append]; omega)⟩

--@ct laws.heldGotS val heldGotS_ct _ _ _ _ _ _ ?_ ?_ ?_ | %1
theorem heldGotS_ct (b : Option Addr) (m c : Nat) (xs : List Got) (k0 k1 : Int) (hk1 : k0 = k1) (h0 : 0 ≤ k0) (h1 : k0 + cntL gGot xs ≤ 4611686018427387904) :
    Ct Tryz.prog 114 [.slice b m c, .int .i64 k0] [] (fun H => (gSl 232 gGot).rd H [.slice b m c] (mkL gGot k1 xs)) (fun v A => v = .int .i64 (k0 + cntL gGot xs) ∧ A = []) := by
  subst hk1
  refine Ct.intro0 G_ok Tryz.func114 rfl rfl rfl fun E H hp => ?_
  have hm0 := (sl_len hp).1
  rw [mkL_len] at hm0; subst hm0
  obtain ⟨-, hcl, hl⟩ := sl_len hp
  rw [mkL_len] at hcl hl
  have hln := mkL_len gGot xs k0
  apply loop_mod (α := (Nat)) G_ok [6, 7, 8, 9, 12, 13, 14, 15, 16, 17, 18, 4, 19, 20, 1, 21, 22, 23, 24, 25, 26, 27, 28, 29, 30, 31, 32, 33, 34, 35, 36, 37, 38, 39, 10, 11, 5] (fun z => [(5, .v (.int .i64 z)), (1, .v (.int .i64 (k0 + cntL gGot (xs.take z))))]) (fun z => []) (fun z => [H]) (fun z => xs.length - z) (fun z => z ≤ xs.length) (0)
  · repeat' (first | exact trivial | refine ⟨⟨_, rfl, by first | rfl | exact inc_eq _ (by omega) | (refine sl_eq ?_; simp; done) | (refine svi_eq ?_; (try dsimp only); (try simp (disch := omega) only [wrap_of]); omega) | (simp [cntL]), by first | exact trivial | simp [SV.ok]⟩, ?_⟩)
  · exact trivial
  · omega
  · exact .refl _
  rintro k hI
  obtain hk : k ≤ xs.length := hI
  try dsimp only
  refine VCsplit.intro (fun q0 => ?_) (fun q0 => ?_)
  ·
    simp at q0
    have hs := (cntL_step gGot xs k default (by omega))
    simp only [gBag_cnt, gGot_cnt] at hs
    have hs2 := cntL_take_le gGot xs (k + 1)
    have hm := mkL_get gGot default xs k0 k (by omega)
    simp only [gBag_mark, gBag_cnt, gGot_mark, gGot_cnt] at hm
    refine idx_rd hp ?_ ?_ fun b1 o1 hb1 => ?_
    · omega
    · omega
    refine load_partN default (k) 0 rfl hp ?_ ?_ hb1 rfl (by decide) (mem_at 0 rfl) fun l2 hl2 => ?_
    · omega
    · omega
    rw [hm] at hl2
    obtain ⟨l2x2, rfl, w0x2, w1x2, h2x2⟩ := gGot_rd.1 hl2 ; obtain ⟨b0_2x2, c0_2x2, rfl, h0_2x2⟩ := gBag_rd.1 h2x2
    refine VCsplit.intro (fun q3 => ?_) (fun q3 => ?_)
    ·
      simp at q3
    ·
      simp at q3
      refine idx_rd hp ?_ ?_ fun b4 o4 hb4 => ?_
      · omega
      · omega
      refine load_partN default (k) 1 rfl hp ?_ ?_ hb4 rfl (by decide) (mem_at 0 rfl) fun l5 hl5 => ?_
      · omega
      · omega
      rw [hm] at hl5
      obtain ⟨l2x5, rfl, w0x5, w1x5, h2x5⟩ := gGot_rd.1 hl5 ; obtain ⟨b0_2x5, c0_2x5, rfl, h0_2x5⟩ := gBag_rd.1 h2x5
      refine VCsplit.intro (fun q6 => ?_) (fun q6 => ?_)
      ·
        simp at q6
        simp (disch := omega) only [wrap_of] at q6
        exact absurd trivial q6
      ·
        simp at q6
        simp (disch := omega) only [wrap_of] at q6
        refine idx_rd hp ?_ ?_ fun b7 o7 hb7 => ?_
        · omega
        · omega
        refine load_partN default (k) 2 rfl hp ?_ ?_ hb7 rfl (by decide) (mem_at 0 rfl) fun l8 hl8 => ?_
        · omega
        · omega
        rw [hm] at hl8
        obtain ⟨l2x8, rfl, w0x8, w1x8, h2x8⟩ := gGot_rd.1 hl8 ; obtain ⟨b0_2x8, c0_2x8, rfl, h0_2x8⟩ := gBag_rd.1 h2x8
        refine call_val (heldItemS_ct _ _ _ _ _ _ ?_ ?_ ?_) (Rp.mono _ (mem_at 0 rfl) h0_2x8) ?_
        · (simp (disch := omega) only [wrap_of])
        · (simp (disch := omega) only [wrap_of]; omega)
        · (simp (disch := omega) only [wrap_of]; omega)
        rintro _ rfl
        refine VCsplit.intro (fun q10 => ?_) (fun q10 => ?_)
        ·
          simp at q10
          simp (disch := omega) only [wrap_of] at q10
          exfalso; omega
        ·
          simp at q10
          simp (disch := omega) only [wrap_of] at q10
          apply loop_stepA (k + 1)
          · exact .refl _
          · repeat' (first | exact trivial | refine ⟨⟨_, rfl, by first | rfl | exact inc_eq _ (by omega) | (refine sl_eq ?_; simp; done) | (refine svi_eq ?_; (try dsimp only); (try simp (disch := omega) only [wrap_of]); omega) | (simp [cntL]), by first | exact trivial | simp [SV.ok]⟩, ?_⟩)
          · exact trivial
          · trivial
          · omega
  ·
    simp at q0
    obtain rfl : k = xs.length := by omega
    exact ⟨[], ⟨by rw [List.take_length], rfl⟩, (.le fun a => by (try simp only [setR, List.cons_append, List.nil_append]); simp only [List.flatten_append, List.flatten_cons, List.flatten_nil, List.count_append, List.count_nil, List.append_nil, List.nil_append]; omega)⟩

--@ct laws.markCell mark1 markCell_ct _ _ _ _ ~ ?_ ?_
theorem markCell_ct (l : List Value) (x : Cell) (A : Hp) (k0 : Int) (ho : gCell.ow l x A) (h0 : 0 ≤ k0) (h1 : k0 + gCell.cntV x ≤ 4611686018427387904) :
    CtR Tryz.prog 37 [.agg ⟨l⟩, .int .i64 k0] A (fun _ => True) (fun v A => v = .int .i64 (k0 + gCell.cntV x) ∧ gCell.ow l (gCell.markV k0 x) A) := by
  obtain ⟨l0, A0, b1, c1, A1, b4, c4, A4, rfl, hpm, h0, h1, w2, w3, h4⟩ := gCell_ow.1 ho
  have r0 := Gt.owrd _ h0
  obtain ⟨b1_0, c1_0, b2_0, c2_0, b3_0, c3_0, rfl, h1_0, h2_0, h3_0⟩ := gQuery_rd.1 r0
  have hz := gCell_cntV x
  refine CtR.introP G_ok [A0, A1, A4] Tryz.func37 rfl rfl rfl (hpm.trans (by simp)) fun E H hp => ?_
  refine VCnew.intro fun x0 => ?_
  refine callR_at 0 rfl (markQuery_ct _ _ _ _ h0 ?_ ?_) trivial ?_
  · trivial
  · omega
  rintro _ A1 ⟨rfl, o1⟩
  refine callR_at 1 rfl (markIntS_ct _ _ _ _ _ _ h1 ?_ ?_) trivial ?_
  · omega
  · omega
  rintro _ A2 ⟨rfl, o2⟩
  refine callR_at 2 rfl (markGotS_ct _ _ _ _ _ _ h4 ?_ ?_) trivial ?_
  · omega
  · omega
  rintro _ A3 ⟨rfl, o3⟩
  exact ⟨_, ⟨by rw [hz]; (try simp); (try omega), by rw [gCell_markV]; exact gCell_ow.2 ⟨_, _, _, _, _, _, _, _, by simp only [mkL_len]; rfl, .refl _, by assumption, by rw [mkL_len]; assumption, by assumption, by assumption, by rw [mkL_len]; assumption⟩⟩, (.le fun a => by (try simp only [setR, List.cons_append, List.nil_append]); simp only [List.flatten_append, List.flatten_cons, List.flatten_nil, List.count_append, List.count_nil, List.append_nil, List.nil_append]; omega)⟩

--@ct laws.heldCell val heldCell_ct _ _ _ _ ?_ ?_ ?_ | %1
theorem heldCell_ct (l : List Value) (x : Cell) (k0 k1 : Int) (hk1 : k0 = k1) (h0 : 0 ≤ k0) (h1 : k0 + gCell.cntV x ≤ 4611686018427387904) :
    Ct Tryz.prog 38 [.agg ⟨l⟩, .int .i64 k0] [] (fun H => gCell.rd H l (gCell.markV k1 x)) (fun v A => v = .int .i64 (k0 + gCell.cntV x) ∧ A = []) := by
  subst hk1
  refine Ct.intro0 G_ok Tryz.func38 rfl rfl rfl fun E H hp => ?_
  rw [gCell_markV] at hp
  obtain ⟨l0, b1, c1, b4, c4, rfl, h0, h1, w2, w3, h4⟩ := gCell_rd.1 hp
  obtain ⟨b1_0, c1_0, b2_0, c2_0, b3_0, c3_0, rfl, h1_0, h2_0, h3_0⟩ := gQuery_rd.1 h0
  have hz := gCell_cntV x
  refine VCnew.intro fun x0 => ?_
  refine call_val (heldQuery_ct _ _ _ _ ?_ ?_ ?_) (Rp.mono _ (mem_at 0 rfl) h0) ?_
  · rfl
  · trivial
  · omega
  rintro _ rfl
  refine VCsplit.intro (fun q2 => ?_) (fun q2 => ?_)
  ·
    simp at q2
    exfalso; omega
  ·
    simp at q2
    refine call_val (heldIntS_ct _ _ _ _ _ _ ?_ ?_ ?_) (Rp.mono _ (mem_at 0 rfl) h1) ?_
    · rfl
    · trivial
    · omega
    rintro _ rfl
    refine VCsplit.intro (fun q4 => ?_) (fun q4 => ?_)
    ·
      simp at q4
      exfalso; omega
    ·
      simp at q4
      refine call_val (heldGotS_ct _ _ _ _ _ _ ?_ ?_ ?_) (Rp.mono _ (mem_at 0 rfl) h4) ?_
      · rfl
      · trivial
      · omega
      rintro _ rfl
      refine VCsplit.intro (fun q6 => ?_) (fun q6 => ?_)
      ·
        simp at q6
        exfalso; omega
      ·
        simp at q6
        try dsimp only
        exact ⟨[], ⟨by rw [hz]; (try simp); (try omega), rfl⟩, (.le fun a => by (try simp only [setR, List.cons_append, List.nil_append]); simp only [List.flatten_append, List.flatten_cons, List.flatten_nil, List.count_append, List.count_nil, List.append_nil, List.nil_append]; omega)⟩

--@ct laws.markMailS mark1 markMailS_ct _ _ _ _ _ _ ~ ?_ ?_
theorem markMailS_ct (b : Option Addr) (m c : Nat) (xs : List Mail) (A : Hp) (k0 : Int) (ho : (gSl 122 gMail).ow [.slice b m c] xs A) (h0 : 0 ≤ k0) (h1 : k0 + cntL gMail xs ≤ 4611686018427387904) :
    CtR Tryz.prog 16 [.slice b m c, .int .i64 k0] A (fun _ => True) (fun v A => v = .int .i64 (k0 + cntL gMail xs) ∧ (gSl 122 gMail).ow [.slice b m c] (mkL gMail k0 xs) A) := by
  obtain ⟨rfl, hcl, hl⟩ := sl_len (Gt.owrd _ ho)
  refine CtR.intro G_ok [A] Tryz.func16 rfl rfl rfl (by simp) fun E H hp => ?_
  apply loop_mod (α := (Nat) × (Hp)) G_ok [6, 7, 8, 9, 12, 13, 14, 15, 16, 17, 18, 1, 19, 20, 21, 22, 23, 24, 25, 26, 27, 28, 29, 30, 31, 32, 33, 34, 35, 36, 37, 38, 39, 40, 41, 42, 43, 44, 45, 46, 47, 48, 49, 50, 51, 52, 53, 54, 55, 56, 57, 58, 59, 60, 61, 62, 63, 64, 65, 66, 67, 68, 69, 10, 11, 5] (fun z => [(5, .v (.int .i64 z.1)), (1, .v (.int .i64 (k0 + cntL gMail (xs.take z.1))))]) (fun z => []) (fun z => [z.2, H]) (fun z => xs.length - z.1) (fun z => z.1 ≤ xs.length ∧ (gSl 122 gMail).ow [.slice b xs.length c] (mkL gMail k0 (xs.take z.1) ++ xs.drop z.1) z.2) ((0, A))
  · repeat' (first | exact trivial | refine ⟨⟨_, rfl, by first | rfl | exact inc_eq _ (by omega) | (refine sl_eq ?_; simp; done) | (refine svi_eq ?_; subst_vars; (try dsimp only); (try simp (disch := omega) only [wrap_of]); omega) | (simp [cntL]), by first | exact trivial | simp [SV.ok]⟩, ?_⟩)
  · exact trivial
  · try dsimp only
    exact ⟨by omega, by simpa [mkL] using ho⟩
  · exact .refl _
  rintro ⟨k, B⟩ hI
  obtain ⟨hk, oB⟩ : k ≤ xs.length ∧ (gSl 122 gMail).ow [.slice b xs.length c] (mkL gMail k0 (xs.take k) ++ xs.drop k) B := hI
  try dsimp only
  refine VCsplit.intro (fun q0 => ?_) (fun q0 => ?_)
  ·
    simp at q0
    have hs := (cntL_step gMail xs k default (by omega))
    simp only [gLetter_cnt, gMail_cnt] at hs
    have hs2 := cntL_take_le gMail xs (k + 1)
    obtain ⟨y, ey, oe⟩ := OwE.mk default k oB (by rw [mk_len _ _ _ _ (by omega)]; omega)
    rw [mk_get _ _ _ _ _ (by omega)] at ey
    clear oB
    refine oe_idx oe ?_ fun b1 o1 hb1 => ?_
    · rfl
    refine oe_store gMail_peer 0 rfl oe rfl hb1 rfl gI_pl _ (gI_ow ?_) fun y2 A2 ey2 o2 => ?_
    · unfold okI; omega
    refine oe_idx o2 ?_ fun b3 o3 hb3 => ?_
    · rfl
    refine oe_store gMail_letter_kind 0 rfl o2 rfl hb3 rfl gI_pl _ (gI_ow ?_) fun y4 A4 ey4 o4 => ?_
    · exact okI_wrap _
    dsimp only at ey4
    refine oe_idx o4 ?_ fun b5 o5 hb5 => ?_
    · rfl
    refine oe_store gMail_letter_atom 0 rfl o4 rfl hb5 rfl gI_pl _ (gI_ow ?_) fun y6 A6 ey6 o6 => ?_
    · exact okI_wrap _
    dsimp only at ey6
    refine oe_idx o6 ?_ fun b7 o7 hb7 => ?_
    · rfl
    refine oe_store gMail_letter_num 0 rfl o6 rfl hb7 rfl gI_pl _ (gI_ow ?_) fun y8 A8 ey8 o8 => ?_
    · exact okI_wrap _
    dsimp only at ey8
    refine VC.intro ?_ ?_
    · trivial
    refine oe_idx o8 ?_ fun b9 o9 hb9 => ?_
    · rfl
    refine oe_store gMail_letter_black 0 rfl o8 rfl hb9 rfl gB_pl _ (gB_ow trivial) fun y10 A10 ey10 o10 => ?_
    dsimp only at ey10
    refine oe_idx o10 ?_ fun b11 o11 hb11 => ?_
    · rfl
    refine oe_load gMail_letter_walks o10 rfl hb11 rfl (mem_at 0 rfl) fun l12 hl12 hf12 => ?_
    dsimp only at hl12 hf12
    obtain ⟨u12, w12, rfl, hl12⟩ := sl_rd hl12
    refine call_foc 0 rfl hf12 (fun Af13 oa13 => markWalkS_ct _ _ _ _ _ _ oa13 ?_ ?_) (fun _ _ => trivial) ?_
    · (simp (disch := omega) only [wrap_of]; omega)
    · (subst_vars; (try dsimp only at *); (try simp (disch := omega) only [wrap_of] at *); omega)
    rintro _ A13 rfl ⟨y13, ey13, o13⟩
    try dsimp only at ey13
    refine call_val (markText_ct _ ?_) trivial ?_
    · (subst_vars; (try dsimp only at *); (try simp (disch := omega) only [wrap_of] at *); omega)
    rintro _ rfl
    refine oe_idx o13 ?_ fun b15 o15 hb15 => ?_
    · rfl
    refine oe_store gMail_letter_text 0 rfl o13 rfl hb15 rfl fl_pl _ (gS_ow ?_) fun y16 A16 ey16 o16 => ?_
    · exact mtx_size _
    dsimp only at ey16
    apply loop_stepA (k + 1, _)
    · exact .refl _
    · repeat' (first | exact trivial | refine ⟨⟨_, rfl, by first | rfl | exact inc_eq _ (by omega) | (refine sl_eq ?_; simp; done) | (refine svi_eq ?_; subst_vars; (try dsimp only); (try simp (disch := omega) only [wrap_of]); omega) | (simp [cntL]), by first | exact trivial | simp [SV.ok]⟩, ?_⟩)
    · exact trivial
    · try dsimp only
      exact ⟨by omega, OwE.done (by assumption) (by rw [← mk_step gMail default xs k0 k (by omega)]; congr 1; subst_vars; (try simp only [gLetter_mark, gLetter_cnt, gMail_mark, gMail_cnt]); (try simp (disch := omega) only [wrap_of]); (try rfl))⟩
    · try dsimp only
      omega
  ·
    simp at q0
    obtain rfl : k = xs.length := by omega
    rw [List.take_length, List.drop_length, List.append_nil] at oB
    exact ⟨_, ⟨by rw [List.take_length], oB⟩, (.le fun a => by (try simp only [setR, List.cons_append, List.nil_append]); simp only [List.flatten_append, List.flatten_cons, List.flatten_nil, List.count_append, List.count_nil, List.append_nil, List.nil_append]; omega)⟩

--@ct laws.heldMailS val heldMailS_ct _ _ _ _ _ _ ?_ ?_ ?_ | %1
theorem heldMailS_ct (b : Option Addr) (m c : Nat) (xs : List Mail) (k0 k1 : Int) (hk1 : k0 = k1) (h0 : 0 ≤ k0) (h1 : k0 + cntL gMail xs ≤ 4611686018427387904) :
    Ct Tryz.prog 151 [.slice b m c, .int .i64 k0] [] (fun H => (gSl 122 gMail).rd H [.slice b m c] (mkL gMail k1 xs)) (fun v A => v = .int .i64 (k0 + cntL gMail xs) ∧ A = []) := by
  subst hk1
  refine Ct.intro0 G_ok Tryz.func151 rfl rfl rfl fun E H hp => ?_
  have hm0 := (sl_len hp).1
  rw [mkL_len] at hm0; subst hm0
  obtain ⟨-, hcl, hl⟩ := sl_len hp
  rw [mkL_len] at hcl hl
  have hln := mkL_len gMail xs k0
  apply loop_mod (α := (Nat)) G_ok [6, 7, 8, 9, 12, 13, 14, 15, 16, 17, 18, 4, 19, 20, 1, 21, 22, 23, 24, 25, 26, 27, 28, 29, 30, 31, 32, 33, 34, 35, 36, 37, 38, 39, 40, 41, 42, 43, 44, 45, 46, 47, 48, 49, 50, 51, 52, 53, 54, 55, 56, 57, 58, 59, 60, 61, 62, 63, 64, 65, 66, 67, 68, 69, 70, 71, 72, 73, 74, 75, 76, 77, 78, 79, 80, 81, 82, 83, 10, 11, 5] (fun z => [(5, .v (.int .i64 z)), (1, .v (.int .i64 (k0 + cntL gMail (xs.take z))))]) (fun z => []) (fun z => [H]) (fun z => xs.length - z) (fun z => z ≤ xs.length) (0)
  · repeat' (first | exact trivial | refine ⟨⟨_, rfl, by first | rfl | exact inc_eq _ (by omega) | (refine sl_eq ?_; simp; done) | (refine svi_eq ?_; (try dsimp only); (try simp (disch := omega) only [wrap_of]); omega) | (simp [cntL]), by first | exact trivial | simp [SV.ok]⟩, ?_⟩)
  · exact trivial
  · omega
  · exact .refl _
  rintro k hI
  obtain hk : k ≤ xs.length := hI
  try dsimp only
  refine VCsplit.intro (fun q0 => ?_) (fun q0 => ?_)
  ·
    simp at q0
    have hs := (cntL_step gMail xs k default (by omega))
    simp only [gLetter_cnt, gMail_cnt] at hs
    have hs2 := cntL_take_le gMail xs (k + 1)
    have hm := mkL_get gMail default xs k0 k (by omega)
    simp only [gLetter_mark, gLetter_cnt, gMail_mark, gMail_cnt] at hm
    refine idx_rd hp ?_ ?_ fun b1 o1 hb1 => ?_
    · omega
    · omega
    refine load_partN default (k) 0 rfl hp ?_ ?_ hb1 rfl (by decide) (mem_at 0 rfl) fun l2 hl2 => ?_
    · omega
    · omega
    rw [hm] at hl2
    obtain ⟨l1x2, rfl, w0x2, h1x2⟩ := gMail_rd.1 hl2 ; obtain ⟨b4_1x2, c4_1x2, rfl, w0_1x2, w1_1x2, w2_1x2, h4_1x2, w5_1x2⟩ := gLetter_rd.1 h1x2
    refine VCsplit.intro (fun q3 => ?_) (fun q3 => ?_)
    ·
      simp at q3
    ·
      simp at q3
      refine idx_rd hp ?_ ?_ fun b4 o4 hb4 => ?_
      · omega
      · omega
      refine load_partN default (k) 1 rfl hp ?_ ?_ hb4 rfl (by decide) (mem_at 0 rfl) fun l5 hl5 => ?_
      · omega
      · omega
      rw [hm] at hl5
      obtain ⟨l1x5, rfl, w0x5, h1x5⟩ := gMail_rd.1 hl5 ; obtain ⟨b4_1x5, c4_1x5, rfl, w0_1x5, w1_1x5, w2_1x5, h4_1x5, w5_1x5⟩ := gLetter_rd.1 h1x5
      refine VCsplit.intro (fun q6 => ?_) (fun q6 => ?_)
      ·
        simp at q6
        simp (disch := omega) only [wrap_of] at q6
        exact absurd trivial q6
      ·
        simp at q6
        simp (disch := omega) only [wrap_of] at q6
        refine idx_rd hp ?_ ?_ fun b7 o7 hb7 => ?_
        · omega
        · omega
        refine load_partN default (k) 2 rfl hp ?_ ?_ hb7 rfl (by decide) (mem_at 0 rfl) fun l8 hl8 => ?_
        · omega
        · omega
        rw [hm] at hl8
        obtain ⟨l1x8, rfl, w0x8, h1x8⟩ := gMail_rd.1 hl8 ; obtain ⟨b4_1x8, c4_1x8, rfl, w0_1x8, w1_1x8, w2_1x8, h4_1x8, w5_1x8⟩ := gLetter_rd.1 h1x8
        refine VCsplit.intro (fun q9 => ?_) (fun q9 => ?_)
        ·
          simp at q9
          simp (disch := omega) only [wrap_of] at q9
          exact absurd trivial q9
        ·
          simp at q9
          simp (disch := omega) only [wrap_of] at q9
          refine idx_rd hp ?_ ?_ fun b10 o10 hb10 => ?_
          · omega
          · omega
          refine load_partN default (k) 3 rfl hp ?_ ?_ hb10 rfl (by decide) (mem_at 0 rfl) fun l11 hl11 => ?_
          · omega
          · omega
          rw [hm] at hl11
          obtain ⟨l1x11, rfl, w0x11, h1x11⟩ := gMail_rd.1 hl11 ; obtain ⟨b4_1x11, c4_1x11, rfl, w0_1x11, w1_1x11, w2_1x11, h4_1x11, w5_1x11⟩ := gLetter_rd.1 h1x11
          refine VCsplit.intro (fun q12 => ?_) (fun q12 => ?_)
          ·
            simp at q12
            simp (disch := omega) only [wrap_of] at q12
            exact absurd trivial q12
          ·
            simp at q12
            simp (disch := omega) only [wrap_of] at q12
            refine idx_rd hp ?_ ?_ fun b13 o13 hb13 => ?_
            · omega
            · omega
            refine load_partN default (k) 4 rfl hp ?_ ?_ hb13 rfl (by decide) (mem_at 0 rfl) fun l14 hl14 => ?_
            · omega
            · omega
            rw [hm] at hl14
            obtain ⟨l1x14, rfl, w0x14, h1x14⟩ := gMail_rd.1 hl14 ; obtain ⟨b4_1x14, c4_1x14, rfl, w0_1x14, w1_1x14, w2_1x14, h4_1x14, w5_1x14⟩ := gLetter_rd.1 h1x14
            refine VC.intro ?_ ?_
            · trivial
            refine VCsplit.intro (fun q15 => ?_) (fun q15 => ?_)
            ·
              simp at q15
              simp (disch := omega) only [wrap_of] at q15
              exact absurd trivial q15
            ·
              simp at q15
              simp (disch := omega) only [wrap_of] at q15
              refine idx_rd hp ?_ ?_ fun b16 o16 hb16 => ?_
              · omega
              · omega
              refine load_partN default (k) 5 rfl hp ?_ ?_ hb16 rfl (by decide) (mem_at 0 rfl) fun l17 hl17 => ?_
              · omega
              · omega
              rw [hm] at hl17
              obtain ⟨l1x17, rfl, w0x17, h1x17⟩ := gMail_rd.1 hl17 ; obtain ⟨b4_1x17, c4_1x17, rfl, w0_1x17, w1_1x17, w2_1x17, h4_1x17, w5_1x17⟩ := gLetter_rd.1 h1x17
              refine call_val (heldWalkS_ct _ _ _ _ _ _ ?_ ?_ ?_) (Rp.mono _ (mem_at 0 rfl) h4_1x17) ?_
              · (simp (disch := omega) only [wrap_of])
              · (simp (disch := omega) only [wrap_of]; omega)
              · (simp (disch := omega) only [wrap_of]; omega)
              rintro _ rfl
              refine VCsplit.intro (fun q19 => ?_) (fun q19 => ?_)
              ·
                simp at q19
                simp (disch := omega) only [wrap_of] at q19
                exfalso; omega
              ·
                simp at q19
                simp (disch := omega) only [wrap_of] at q19
                refine draw G_ok mixed none (.q 0 (.q 1 (.q 2 (.q 3 (.q 4 (.q 5 (.q 6 (.f 7 (.q 8 (.nil)))))))))) (by decide +kernel) ?_
                refine idx_rd hp ?_ ?_ fun b20 o20 hb20 => ?_
                · omega
                · omega
                refine load_partN default (k) 6 rfl hp ?_ ?_ hb20 rfl (by decide) (mem_at 0 rfl) fun l21 hl21 => ?_
                · omega
                · omega
                rw [hm] at hl21
                obtain ⟨l1x21, rfl, w0x21, h1x21⟩ := gMail_rd.1 hl21 ; obtain ⟨b4_1x21, c4_1x21, rfl, w0_1x21, w1_1x21, w2_1x21, h4_1x21, w5_1x21⟩ := gLetter_rd.1 h1x21
                refine call_val (markText_ct _ ?_) trivial ?_
                · (simp (disch := omega) only [wrap_of]; omega)
                rintro _ rfl
                refine VC.intro ?_ ?_
                · exact fun _ h => h
                refine VCsplit.intro (fun q23 => ?_) (fun q23 => ?_)
                ·
                  simp at q23
                  simp only [str_inj, u8_inj, u8_wrap] at q23
                  simp (disch := omega) only [wrap_of] at q23
                  exact absurd trivial q23
                ·
                  simp at q23
                  simp only [str_inj, u8_inj, u8_wrap] at q23
                  simp (disch := omega) only [wrap_of] at q23
                  apply loop_stepA (k + 1)
                  · exact .refl _
                  · repeat' (first | exact trivial | refine ⟨⟨_, rfl, by first | rfl | exact inc_eq _ (by omega) | (refine sl_eq ?_; simp; done) | (refine svi_eq ?_; (try dsimp only); (try simp (disch := omega) only [wrap_of]); omega) | (simp [cntL]), by first | exact trivial | simp [SV.ok]⟩, ?_⟩)
                  · exact trivial
                  · trivial
                  · omega
  ·
    simp at q0
    obtain rfl : k = xs.length := by omega
    exact ⟨[], ⟨by rw [List.take_length], rfl⟩, (.le fun a => by (try simp only [setR, List.cons_append, List.nil_append]); simp only [List.flatten_append, List.flatten_cons, List.flatten_nil, List.count_append, List.count_nil, List.append_nil, List.nil_append]; omega)⟩

--@ct laws.markWork mark1 markWork_ct _ _ _ _ ~ ?_ ?_
theorem markWork_ct (l : List Value) (x : Work) (A : Hp) (k0 : Int) (ho : gWork.ow l x A) (h0 : 0 ≤ k0) (h1 : k0 + gWork.cntV x ≤ 4611686018427387904) :
    CtR Tryz.prog 44 [.agg ⟨l⟩, .int .i64 k0] A (fun _ => True) (fun v A => v = .int .i64 (k0 + gWork.cntV x) ∧ gWork.ow l (gWork.markV k0 x) A) := by
  obtain ⟨l1, A1, b2, c2, A2, b4, c4, A4, l11, A11, b13, c13, A13, rfl, hpm, h1, h2, w3, h4, w5, w8, h11, h13⟩ := gWork_ow.1 ho
  have r1 := Gt.owrd _ h1
  obtain ⟨b1_1, c1_1, b2_1, c2_1, b3_1, c3_1, rfl, h1_1, h2_1, h3_1⟩ := gQuery_rd.1 r1
  have r11 := Gt.owrd _ h11
  obtain ⟨l0_11, b1_11, c1_11, b4_11, c4_11, rfl, h0_11, h1_11, w2_11, w3_11, h4_11⟩ := gCell_rd.1 r11
  obtain ⟨b1_0_11, c1_0_11, b2_0_11, c2_0_11, b3_0_11, c3_0_11, rfl, h1_0_11, h2_0_11, h3_0_11⟩ := gQuery_rd.1 h0_11
  have hz := gWork_cntV x
  refine CtR.introP G_ok [A1, A2, A4, A11, A13] Tryz.func44 rfl rfl rfl (hpm.trans (by simp)) fun E H hp => ?_
  refine VCnew.intro fun x0 => ?_
  refine callR_at 0 rfl (markQuery_ct _ _ _ _ h1 ?_ ?_) trivial ?_
  · trivial
  · omega
  rintro _ A1 ⟨rfl, o1⟩
  refine callR_at 1 rfl (markIntS_ct _ _ _ _ _ _ h2 ?_ ?_) trivial ?_
  · omega
  · omega
  rintro _ A2 ⟨rfl, o2⟩
  refine callR_at 2 rfl (markWalkS_ct _ _ _ _ _ _ h4 ?_ ?_) trivial ?_
  · omega
  · omega
  rintro _ A3 ⟨rfl, o3⟩
  refine callR_at 3 rfl (markCell_ct _ _ _ _ h11 ?_ ?_) trivial ?_
  · omega
  · omega
  rintro _ A4 ⟨rfl, o4⟩
  refine callR_at 4 rfl (markMailS_ct _ _ _ _ _ _ h13 ?_ ?_) trivial ?_
  · omega
  · omega
  rintro _ A5 ⟨rfl, o5⟩
  exact ⟨_, ⟨by rw [hz]; (try simp); (try omega), by rw [gWork_markV]; exact gWork_ow.2 ⟨_, _, _, _, _, _, _, _, _, _, _, _, _, by simp only [mkL_len]; rfl, .refl _, by assumption, by rw [mkL_len]; assumption, by assumption, by rw [mkL_len]; assumption, by assumption, by assumption, by assumption, by rw [mkL_len]; assumption⟩⟩, (.le fun a => by (try simp only [setR, List.cons_append, List.nil_append]); simp only [List.flatten_append, List.flatten_cons, List.flatten_nil, List.count_append, List.count_nil, List.append_nil, List.nil_append]; omega)⟩

--@ct laws.heldWork val heldWork_ct _ _ _ _ ?_ ?_ ?_ | %1
theorem heldWork_ct (l : List Value) (x : Work) (k0 k1 : Int) (hk1 : k0 = k1) (h0 : 0 ≤ k0) (h1 : k0 + gWork.cntV x ≤ 4611686018427387904) :
    Ct Tryz.prog 69 [.agg ⟨l⟩, .int .i64 k0] [] (fun H => gWork.rd H l (gWork.markV k1 x)) (fun v A => v = .int .i64 (k0 + gWork.cntV x) ∧ A = []) := by
  subst hk1
  refine Ct.intro0 G_ok Tryz.func69 rfl rfl rfl fun E H hp => ?_
  rw [gWork_markV] at hp
  obtain ⟨l1, b2, c2, b4, c4, l11, b13, c13, rfl, h1, h2, w3, h4, w5, w8, h11, h13⟩ := gWork_rd.1 hp
  obtain ⟨b1_1, c1_1, b2_1, c2_1, b3_1, c3_1, rfl, h1_1, h2_1, h3_1⟩ := gQuery_rd.1 h1
  obtain ⟨l0_11, b1_11, c1_11, b4_11, c4_11, rfl, h0_11, h1_11, w2_11, w3_11, h4_11⟩ := gCell_rd.1 h11
  obtain ⟨b1_0_11, c1_0_11, b2_0_11, c2_0_11, b3_0_11, c3_0_11, rfl, h1_0_11, h2_0_11, h3_0_11⟩ := gQuery_rd.1 h0_11
  have hz := gWork_cntV x
  refine VCnew.intro fun x0 => ?_
  refine call_val (heldQuery_ct _ _ _ _ ?_ ?_ ?_) (Rp.mono _ (mem_at 0 rfl) h1) ?_
  · rfl
  · trivial
  · omega
  rintro _ rfl
  refine VCsplit.intro (fun q2 => ?_) (fun q2 => ?_)
  ·
    simp at q2
    exfalso; omega
  ·
    simp at q2
    refine call_val (heldIntS_ct _ _ _ _ _ _ ?_ ?_ ?_) (Rp.mono _ (mem_at 0 rfl) h2) ?_
    · rfl
    · trivial
    · omega
    rintro _ rfl
    refine VCsplit.intro (fun q4 => ?_) (fun q4 => ?_)
    ·
      simp at q4
      exfalso; omega
    ·
      simp at q4
      refine call_val (heldWalkS_ct _ _ _ _ _ _ ?_ ?_ ?_) (Rp.mono _ (mem_at 0 rfl) h4) ?_
      · rfl
      · trivial
      · omega
      rintro _ rfl
      refine VCsplit.intro (fun q6 => ?_) (fun q6 => ?_)
      ·
        simp at q6
        exfalso; omega
      ·
        simp at q6
        refine call_val (heldCell_ct _ _ _ _ ?_ ?_ ?_) (Rp.mono _ (mem_at 0 rfl) h11) ?_
        · rfl
        · trivial
        · omega
        rintro _ rfl
        refine VCsplit.intro (fun q8 => ?_) (fun q8 => ?_)
        ·
          simp at q8
          exfalso; omega
        ·
          simp at q8
          refine call_val (heldMailS_ct _ _ _ _ _ _ ?_ ?_ ?_) (Rp.mono _ (mem_at 0 rfl) h13) ?_
          · rfl
          · trivial
          · omega
          rintro _ rfl
          refine VCsplit.intro (fun q10 => ?_) (fun q10 => ?_)
          ·
            simp at q10
            exfalso; omega
          ·
            simp at q10
            try dsimp only
            exact ⟨[], ⟨by rw [hz]; (try simp); (try omega), rfl⟩, (.le fun a => by (try simp only [setR, List.cons_append, List.nil_append]); simp only [List.flatten_append, List.flatten_cons, List.flatten_nil, List.count_append, List.count_nil, List.append_nil, List.nil_append]; omega)⟩

--@ct laws.markAsk mark1 markAsk_ct _ _ _ _ ~ ?_ ?_
theorem markAsk_ct (l : List Value) (x : Ask) (A : Hp) (k0 : Int) (ho : gAsk.ow l x A) (h0 : 0 ≤ k0) (h1 : k0 + gAsk.cntV x ≤ 4611686018427387904) :
    CtR Tryz.prog 64 [.agg ⟨l⟩, .int .i64 k0] A (fun _ => True) (fun v A => v = .int .i64 (k0 + gAsk.cntV x) ∧ gAsk.ow l (gAsk.markV k0 x) A) := by
  obtain ⟨l1, A1, b2, c2, A2, b4, c4, A4, l6, A6, rfl, hpm, h1, h2, w3, h4, h6⟩ := gAsk_ow.1 ho
  have r1 := Gt.owrd _ h1
  obtain ⟨b1_1, c1_1, b2_1, c2_1, b3_1, c3_1, rfl, h1_1, h2_1, h3_1⟩ := gQuery_rd.1 r1
  have r6 := Gt.owrd _ h6
  obtain ⟨b0_6, c0_6, rfl, h0_6⟩ := gBag_rd.1 r6
  have hz := gAsk_cntV x
  refine CtR.introP G_ok [A1, A2, A4, A6] Tryz.func64 rfl rfl rfl (hpm.trans (by simp)) fun E H hp => ?_
  refine VCnew.intro fun x0 => ?_
  refine callR_at 0 rfl (markQuery_ct _ _ _ _ h1 ?_ ?_) trivial ?_
  · trivial
  · omega
  rintro _ A1 ⟨rfl, o1⟩
  refine callR_at 1 rfl (markIntS_ct _ _ _ _ _ _ h2 ?_ ?_) trivial ?_
  · omega
  · omega
  rintro _ A2 ⟨rfl, o2⟩
  refine callR_at 2 rfl (markGotS_ct _ _ _ _ _ _ h4 ?_ ?_) trivial ?_
  · omega
  · omega
  rintro _ A3 ⟨rfl, o3⟩
  refine callR_at 3 rfl (markBag_ct _ _ _ _ h6 ?_ ?_) trivial ?_
  · omega
  · omega
  rintro _ A4 ⟨rfl, o4⟩
  exact ⟨_, ⟨by rw [hz]; (try simp); (try omega), by rw [gAsk_markV]; exact gAsk_ow.2 ⟨_, _, _, _, _, _, _, _, _, _, by simp only [mkL_len]; rfl, .refl _, by assumption, by rw [mkL_len]; assumption, by assumption, by rw [mkL_len]; assumption, by assumption⟩⟩, (.le fun a => by (try simp only [setR, List.cons_append, List.nil_append]); simp only [List.flatten_append, List.flatten_cons, List.flatten_nil, List.count_append, List.count_nil, List.append_nil, List.nil_append]; omega)⟩

--@ct laws.heldAsk val heldAsk_ct _ _ _ _ ?_ ?_ ?_ | %1
theorem heldAsk_ct (l : List Value) (x : Ask) (k0 k1 : Int) (hk1 : k0 = k1) (h0 : 0 ≤ k0) (h1 : k0 + gAsk.cntV x ≤ 4611686018427387904) :
    Ct Tryz.prog 70 [.agg ⟨l⟩, .int .i64 k0] [] (fun H => gAsk.rd H l (gAsk.markV k1 x)) (fun v A => v = .int .i64 (k0 + gAsk.cntV x) ∧ A = []) := by
  subst hk1
  refine Ct.intro0 G_ok Tryz.func70 rfl rfl rfl fun E H hp => ?_
  rw [gAsk_markV] at hp
  obtain ⟨l1, b2, c2, b4, c4, l6, rfl, h1, h2, w3, h4, h6⟩ := gAsk_rd.1 hp
  obtain ⟨b1_1, c1_1, b2_1, c2_1, b3_1, c3_1, rfl, h1_1, h2_1, h3_1⟩ := gQuery_rd.1 h1
  obtain ⟨b0_6, c0_6, rfl, h0_6⟩ := gBag_rd.1 h6
  have hz := gAsk_cntV x
  refine VCnew.intro fun x0 => ?_
  refine call_val (heldQuery_ct _ _ _ _ ?_ ?_ ?_) (Rp.mono _ (mem_at 0 rfl) h1) ?_
  · rfl
  · trivial
  · omega
  rintro _ rfl
  refine VCsplit.intro (fun q2 => ?_) (fun q2 => ?_)
  ·
    simp at q2
    exfalso; omega
  ·
    simp at q2
    refine call_val (heldIntS_ct _ _ _ _ _ _ ?_ ?_ ?_) (Rp.mono _ (mem_at 0 rfl) h2) ?_
    · rfl
    · trivial
    · omega
    rintro _ rfl
    refine VCsplit.intro (fun q4 => ?_) (fun q4 => ?_)
    ·
      simp at q4
      exfalso; omega
    ·
      simp at q4
      refine call_val (heldGotS_ct _ _ _ _ _ _ ?_ ?_ ?_) (Rp.mono _ (mem_at 0 rfl) h4) ?_
      · rfl
      · trivial
      · omega
      rintro _ rfl
      refine VCsplit.intro (fun q6 => ?_) (fun q6 => ?_)
      ·
        simp at q6
        exfalso; omega
      ·
        simp at q6
        refine call_val (heldBag_ct _ _ _ _ ?_ ?_ ?_) (Rp.mono _ (mem_at 0 rfl) h6) ?_
        · rfl
        · trivial
        · omega
        rintro _ rfl
        refine VCsplit.intro (fun q8 => ?_) (fun q8 => ?_)
        ·
          simp at q8
          exfalso; omega
        ·
          simp at q8
          try dsimp only
          exact ⟨[], ⟨by rw [hz]; (try simp); (try omega), rfl⟩, (.le fun a => by (try simp only [setR, List.cons_append, List.nil_append]); simp only [List.flatten_append, List.flatten_cons, List.flatten_nil, List.count_append, List.count_nil, List.append_nil, List.nil_append]; omega)⟩

--@ct laws.markLinkS mark1 markLinkS_ct _ _ _ _ _ _ ~ ?_ ?_
theorem markLinkS_ct (b : Option Addr) (m c : Nat) (xs : List Link) (A : Hp) (k0 : Int) (ho : (gSl 180 gLink).ow [.slice b m c] xs A) (h0 : 0 ≤ k0) (h1 : k0 + cntL gLink xs ≤ 4611686018427387904) :
    CtR Tryz.prog 63 [.slice b m c, .int .i64 k0] A (fun _ => True) (fun v A => v = .int .i64 (k0 + cntL gLink xs) ∧ (gSl 180 gLink).ow [.slice b m c] (mkL gLink k0 xs) A) := by
  obtain ⟨rfl, hcl, hl⟩ := sl_len (Gt.owrd _ ho)
  refine CtR.intro G_ok [A] Tryz.func63 rfl rfl rfl (by simp) fun E H hp => ?_
  apply loop_mod (α := (Nat) × (Hp)) G_ok [6, 7, 8, 9, 12, 13, 14, 15, 16, 17, 18, 1, 19, 20, 21, 22, 23, 24, 25, 26, 27, 28, 29, 30, 31, 32, 10, 11, 5] (fun z => [(5, .v (.int .i64 z.1)), (1, .v (.int .i64 (k0 + cntL gLink (xs.take z.1))))]) (fun z => []) (fun z => [z.2, H]) (fun z => xs.length - z.1) (fun z => z.1 ≤ xs.length ∧ (gSl 180 gLink).ow [.slice b xs.length c] (mkL gLink k0 (xs.take z.1) ++ xs.drop z.1) z.2) ((0, A))
  · repeat' (first | exact trivial | refine ⟨⟨_, rfl, by first | rfl | exact inc_eq _ (by omega) | (refine sl_eq ?_; simp; done) | (refine svi_eq ?_; subst_vars; (try dsimp only); (try simp (disch := omega) only [wrap_of]); omega) | (simp [cntL]), by first | exact trivial | simp [SV.ok]⟩, ?_⟩)
  · exact trivial
  · try dsimp only
    exact ⟨by omega, by simpa [mkL] using ho⟩
  · exact .refl _
  rintro ⟨k, B⟩ hI
  obtain ⟨hk, oB⟩ : k ≤ xs.length ∧ (gSl 180 gLink).ow [.slice b xs.length c] (mkL gLink k0 (xs.take k) ++ xs.drop k) B := hI
  try dsimp only
  refine VCsplit.intro (fun q0 => ?_) (fun q0 => ?_)
  ·
    simp at q0
    have hs := (cntL_step gLink xs k default (by omega))
    simp only [gLink_cnt] at hs
    have hs2 := cntL_take_le gLink xs (k + 1)
    obtain ⟨y, ey, oe⟩ := OwE.mk default k oB (by rw [mk_len _ _ _ _ (by omega)]; omega)
    rw [mk_get _ _ _ _ _ (by omega)] at ey
    clear oB
    refine oe_idx oe ?_ fun b1 o1 hb1 => ?_
    · rfl
    refine oe_load gLink_sent oe rfl hb1 rfl (mem_at 0 rfl) fun l2 hl2 hf2 => ?_
    obtain ⟨u2, w2, rfl, hl2⟩ := sl_rd hl2
    refine call_foc 0 rfl hf2 (fun Af3 oa3 => markStringS_ct _ _ _ _ _ _ oa3 ?_ ?_) (fun _ _ => trivial) ?_
    · omega
    · simp_all; omega
    rintro _ A3 rfl ⟨y3, ey3, o3⟩
    try dsimp only at ey3
    refine oe_idx o3 ?_ fun b4 o4 hb4 => ?_
    · rfl
    refine oe_store gLink_acked 0 rfl o3 rfl hb4 rfl gI_pl _ (gI_ow ?_) fun y5 A5 ey5 o5 => ?_
    · (subst_vars; unfold okI; (try dsimp only at *); omega)
    refine oe_idx o5 ?_ fun b6 o6 hb6 => ?_
    · rfl
    refine oe_store gLink_took 0 rfl o5 rfl hb6 rfl gI_pl _ (gI_ow ?_) fun y7 A7 ey7 o7 => ?_
    · exact okI_wrap _
    apply loop_stepA (k + 1, _)
    · exact .refl _
    · repeat' (first | exact trivial | refine ⟨⟨_, rfl, by first | rfl | exact inc_eq _ (by omega) | (refine sl_eq ?_; simp; done) | (refine svi_eq ?_; subst_vars; (try dsimp only); (try simp (disch := omega) only [wrap_of]); omega) | (simp [cntL]), by first | exact trivial | simp [SV.ok]⟩, ?_⟩)
    · exact trivial
    · try dsimp only
      exact ⟨by omega, OwE.done (by assumption) (by rw [← mk_step gLink default xs k0 k (by omega)]; congr 1; subst_vars; (try simp only [gLink_mark, gLink_cnt]); (try simp (disch := omega) only [wrap_of]); (try rfl))⟩
    · try dsimp only
      omega
  ·
    simp at q0
    obtain rfl : k = xs.length := by omega
    rw [List.take_length, List.drop_length, List.append_nil] at oB
    exact ⟨_, ⟨by rw [List.take_length], oB⟩, (.le fun a => by (try simp only [setR, List.cons_append, List.nil_append]); simp only [List.flatten_append, List.flatten_cons, List.flatten_nil, List.count_append, List.count_nil, List.append_nil, List.nil_append]; omega)⟩

--@ct laws.heldLinkS val heldLinkS_ct _ _ _ _ _ _ ?_ ?_ ?_ | %1
theorem heldLinkS_ct (b : Option Addr) (m c : Nat) (xs : List Link) (k0 k1 : Int) (hk1 : k0 = k1) (h0 : 0 ≤ k0) (h1 : k0 + cntL gLink xs ≤ 4611686018427387904) :
    Ct Tryz.prog 68 [.slice b m c, .int .i64 k0] [] (fun H => (gSl 180 gLink).rd H [.slice b m c] (mkL gLink k1 xs)) (fun v A => v = .int .i64 (k0 + cntL gLink xs) ∧ A = []) := by
  subst hk1
  refine Ct.intro0 G_ok Tryz.func68 rfl rfl rfl fun E H hp => ?_
  have hm0 := (sl_len hp).1
  rw [mkL_len] at hm0; subst hm0
  obtain ⟨-, hcl, hl⟩ := sl_len hp
  rw [mkL_len] at hcl hl
  have hln := mkL_len gLink xs k0
  apply loop_mod (α := (Nat)) G_ok [6, 7, 8, 9, 12, 13, 14, 15, 16, 17, 18, 1, 19, 20, 4, 21, 22, 23, 24, 25, 26, 27, 28, 29, 30, 31, 32, 33, 34, 35, 36, 37, 38, 10, 11, 5] (fun z => [(5, .v (.int .i64 z)), (1, .v (.int .i64 (k0 + cntL gLink (xs.take z))))]) (fun z => []) (fun z => [H]) (fun z => xs.length - z) (fun z => z ≤ xs.length) (0)
  · repeat' (first | exact trivial | refine ⟨⟨_, rfl, by first | rfl | exact inc_eq _ (by omega) | (refine sl_eq ?_; simp; done) | (refine svi_eq ?_; (try dsimp only); (try simp (disch := omega) only [wrap_of]); omega) | (simp [cntL]), by first | exact trivial | simp [SV.ok]⟩, ?_⟩)
  · exact trivial
  · omega
  · exact .refl _
  rintro k hI
  obtain hk : k ≤ xs.length := hI
  try dsimp only
  refine VCsplit.intro (fun q0 => ?_) (fun q0 => ?_)
  ·
    simp at q0
    have hs := (cntL_step gLink xs k default (by omega))
    simp only [gLink_cnt] at hs
    have hs2 := cntL_take_le gLink xs (k + 1)
    have hm := mkL_get gLink default xs k0 k (by omega)
    simp only [gLink_mark, gLink_cnt] at hm
    refine idx_rd hp ?_ ?_ fun b1 o1 hb1 => ?_
    · omega
    · omega
    refine load_partN default (k) 0 rfl hp ?_ ?_ hb1 rfl (by decide) (mem_at 0 rfl) fun l2 hl2 => ?_
    · omega
    · omega
    rw [hm] at hl2
    obtain ⟨b0x2, c0x2, rfl, h0x2, w1x2, w2x2⟩ := gLink_rd.1 hl2
    refine call_val (heldStringS_ct _ _ _ _ _ _ ?_ ?_ ?_) (Rp.mono _ (mem_at 0 rfl) h0x2) ?_
    · rfl
    · omega
    · omega
    rintro _ rfl
    refine VCsplit.intro (fun q4 => ?_) (fun q4 => ?_)
    ·
      simp at q4
      exfalso; omega
    ·
      simp at q4
      refine idx_rd hp ?_ ?_ fun b5 o5 hb5 => ?_
      · omega
      · omega
      refine load_partN default (k) 1 rfl hp ?_ ?_ hb5 rfl (by decide) (mem_at 0 rfl) fun l6 hl6 => ?_
      · omega
      · omega
      rw [hm] at hl6
      obtain ⟨b0x6, c0x6, rfl, h0x6, w1x6, w2x6⟩ := gLink_rd.1 hl6
      refine VCsplit.intro (fun q7 => ?_) (fun q7 => ?_)
      ·
        simp at q7
      ·
        simp at q7
        refine idx_rd hp ?_ ?_ fun b8 o8 hb8 => ?_
        · omega
        · omega
        refine load_partN default (k) 2 rfl hp ?_ ?_ hb8 rfl (by decide) (mem_at 0 rfl) fun l9 hl9 => ?_
        · omega
        · omega
        rw [hm] at hl9
        obtain ⟨b0x9, c0x9, rfl, h0x9, w1x9, w2x9⟩ := gLink_rd.1 hl9
        refine VCsplit.intro (fun q10 => ?_) (fun q10 => ?_)
        ·
          simp at q10
          simp (disch := omega) only [wrap_of] at q10
          exact absurd trivial q10
        ·
          simp at q10
          simp (disch := omega) only [wrap_of] at q10
          apply loop_stepA (k + 1)
          · exact .refl _
          · repeat' (first | exact trivial | refine ⟨⟨_, rfl, by first | rfl | exact inc_eq _ (by omega) | (refine sl_eq ?_; simp; done) | (refine svi_eq ?_; (try dsimp only); (try simp (disch := omega) only [wrap_of]); omega) | (simp [cntL]), by first | exact trivial | simp [SV.ok]⟩, ?_⟩)
          · exact trivial
          · trivial
          · omega
  ·
    simp at q0
    obtain rfl : k = xs.length := by omega
    exact ⟨[], ⟨by rw [List.take_length], rfl⟩, (.le fun a => by (try simp only [setR, List.cons_append, List.nil_append]); simp only [List.flatten_append, List.flatten_cons, List.flatten_nil, List.count_append, List.count_nil, List.append_nil, List.nil_append]; omega)⟩

--@ct laws.markNode mark1 markNode_ct _ _ _ _ ~ ?_ ?_
theorem markNode_ct (l : List Value) (x : Node) (A : Hp) (k0 : Int) (ho : gNode.ow l x A) (h0 : 0 ≤ k0) (h1 : k0 + gNode.cntV x ≤ 4611686018427387904) :
    CtR Tryz.prog 15 [.agg ⟨l⟩, .int .i64 k0] A (fun _ => True) (fun v A => v = .int .i64 (k0 + gNode.cntV x) ∧ gNode.ow l (gNode.markV k0 x) A) := by
  obtain ⟨l2, A2, b5, c5, A5, l6, A6, l7, A7, rfl, hpm, w0, h2, w3, h5, h6, h7⟩ := gNode_ow.1 ho
  have r2 := Gt.owrd _ h2
  obtain ⟨b0_2, c0_2, rfl, h0_2⟩ := gDisk_rd.1 r2
  have r6 := Gt.owrd _ h6
  obtain ⟨l1_6, b2_6, c2_6, b4_6, c4_6, l11_6, b13_6, c13_6, rfl, h1_6, h2_6, w3_6, h4_6, w5_6, w8_6, h11_6, h13_6⟩ := gWork_rd.1 r6
  obtain ⟨b1_1_6, c1_1_6, b2_1_6, c2_1_6, b3_1_6, c3_1_6, rfl, h1_1_6, h2_1_6, h3_1_6⟩ := gQuery_rd.1 h1_6
  obtain ⟨l0_11_6, b1_11_6, c1_11_6, b4_11_6, c4_11_6, rfl, h0_11_6, h1_11_6, w2_11_6, w3_11_6, h4_11_6⟩ := gCell_rd.1 h11_6
  obtain ⟨b1_0_11_6, c1_0_11_6, b2_0_11_6, c2_0_11_6, b3_0_11_6, c3_0_11_6, rfl, h1_0_11_6, h2_0_11_6, h3_0_11_6⟩ := gQuery_rd.1 h0_11_6
  have r7 := Gt.owrd _ h7
  obtain ⟨l1_7, b2_7, c2_7, b4_7, c4_7, l6_7, rfl, h1_7, h2_7, w3_7, h4_7, h6_7⟩ := gAsk_rd.1 r7
  obtain ⟨b1_1_7, c1_1_7, b2_1_7, c2_1_7, b3_1_7, c3_1_7, rfl, h1_1_7, h2_1_7, h3_1_7⟩ := gQuery_rd.1 h1_7
  obtain ⟨b0_6_7, c0_6_7, rfl, h0_6_7⟩ := gBag_rd.1 h6_7
  have hz := gNode_cntV x
  refine CtR.introP G_ok [A2, A5, A6, A7] Tryz.func15 rfl rfl rfl (hpm.trans (by simp)) fun E H hp => ?_
  refine VCnew.intro fun x0 => ?_
  refine callR_at 0 rfl (markDisk_ct _ _ _ _ h2 ?_ ?_) trivial ?_
  · trivial
  · omega
  rintro _ A1 ⟨rfl, o1⟩
  refine callR_at 1 rfl (markLinkS_ct _ _ _ _ _ _ h5 ?_ ?_) trivial ?_
  · omega
  · omega
  rintro _ A2 ⟨rfl, o2⟩
  refine callR_at 2 rfl (markWork_ct _ _ _ _ h6 ?_ ?_) trivial ?_
  · omega
  · omega
  rintro _ A3 ⟨rfl, o3⟩
  refine callR_at 3 rfl (markAsk_ct _ _ _ _ h7 ?_ ?_) trivial ?_
  · omega
  · omega
  rintro _ A4 ⟨rfl, o4⟩
  exact ⟨_, ⟨by rw [hz]; (try simp); (try omega), by rw [gNode_markV]; exact gNode_ow.2 ⟨_, _, _, _, _, _, _, _, _, by simp only [mkL_len]; rfl, .refl _, by assumption, by assumption, by assumption, by rw [mkL_len]; assumption, by assumption, by assumption⟩⟩, (.le fun a => by (try simp only [setR, List.cons_append, List.nil_append]); simp only [List.flatten_append, List.flatten_cons, List.flatten_nil, List.count_append, List.count_nil, List.append_nil, List.nil_append]; omega)⟩

--@ct laws.heldNode val heldNode_ct _ _ _ _ ?_ ?_ ?_ | %1
theorem heldNode_ct (l : List Value) (x : Node) (k0 k1 : Int) (hk1 : k0 = k1) (h0 : 0 ≤ k0) (h1 : k0 + gNode.cntV x ≤ 4611686018427387904) :
    Ct Tryz.prog 17 [.agg ⟨l⟩, .int .i64 k0] [] (fun H => gNode.rd H l (gNode.markV k1 x)) (fun v A => v = .int .i64 (k0 + gNode.cntV x) ∧ A = []) := by
  subst hk1
  refine Ct.intro0 G_ok Tryz.func17 rfl rfl rfl fun E H hp => ?_
  rw [gNode_markV] at hp
  obtain ⟨l2, b5, c5, l6, l7, rfl, w0, h2, w3, h5, h6, h7⟩ := gNode_rd.1 hp
  obtain ⟨b0_2, c0_2, rfl, h0_2⟩ := gDisk_rd.1 h2
  obtain ⟨l1_6, b2_6, c2_6, b4_6, c4_6, l11_6, b13_6, c13_6, rfl, h1_6, h2_6, w3_6, h4_6, w5_6, w8_6, h11_6, h13_6⟩ := gWork_rd.1 h6
  obtain ⟨b1_1_6, c1_1_6, b2_1_6, c2_1_6, b3_1_6, c3_1_6, rfl, h1_1_6, h2_1_6, h3_1_6⟩ := gQuery_rd.1 h1_6
  obtain ⟨l0_11_6, b1_11_6, c1_11_6, b4_11_6, c4_11_6, rfl, h0_11_6, h1_11_6, w2_11_6, w3_11_6, h4_11_6⟩ := gCell_rd.1 h11_6
  obtain ⟨b1_0_11_6, c1_0_11_6, b2_0_11_6, c2_0_11_6, b3_0_11_6, c3_0_11_6, rfl, h1_0_11_6, h2_0_11_6, h3_0_11_6⟩ := gQuery_rd.1 h0_11_6
  obtain ⟨l1_7, b2_7, c2_7, b4_7, c4_7, l6_7, rfl, h1_7, h2_7, w3_7, h4_7, h6_7⟩ := gAsk_rd.1 h7
  obtain ⟨b1_1_7, c1_1_7, b2_1_7, c2_1_7, b3_1_7, c3_1_7, rfl, h1_1_7, h2_1_7, h3_1_7⟩ := gQuery_rd.1 h1_7
  obtain ⟨b0_6_7, c0_6_7, rfl, h0_6_7⟩ := gBag_rd.1 h6_7
  have hz := gNode_cntV x
  refine VCnew.intro fun x0 => ?_
  refine call_val (heldDisk_ct _ _ _ _ ?_ ?_ ?_) (Rp.mono _ (mem_at 0 rfl) h2) ?_
  · rfl
  · trivial
  · omega
  rintro _ rfl
  refine VCsplit.intro (fun q2 => ?_) (fun q2 => ?_)
  ·
    simp at q2
    exfalso; omega
  ·
    simp at q2
    refine call_val (heldLinkS_ct _ _ _ _ _ _ ?_ ?_ ?_) (Rp.mono _ (mem_at 0 rfl) h5) ?_
    · rfl
    · trivial
    · omega
    rintro _ rfl
    refine VCsplit.intro (fun q4 => ?_) (fun q4 => ?_)
    ·
      simp at q4
      exfalso; omega
    ·
      simp at q4
      refine call_val (heldWork_ct _ _ _ _ ?_ ?_ ?_) (Rp.mono _ (mem_at 0 rfl) h6) ?_
      · rfl
      · trivial
      · omega
      rintro _ rfl
      refine VCsplit.intro (fun q6 => ?_) (fun q6 => ?_)
      ·
        simp at q6
        exfalso; omega
      ·
        simp at q6
        refine call_val (heldAsk_ct _ _ _ _ ?_ ?_ ?_) (Rp.mono _ (mem_at 0 rfl) h7) ?_
        · rfl
        · trivial
        · omega
        rintro _ rfl
        refine VCsplit.intro (fun q8 => ?_) (fun q8 => ?_)
        ·
          simp at q8
          exfalso; omega
        ·
          simp at q8
          try dsimp only
          exact ⟨[], ⟨by rw [hz]; (try simp); (try omega), rfl⟩, (.le fun a => by (try simp only [setR, List.cons_append, List.nil_append]); simp only [List.flatten_append, List.flatten_cons, List.flatten_nil, List.count_append, List.count_nil, List.append_nil, List.nil_append]; omega)⟩

--@ct laws.markIntSS mark1 markIntSS_ct _ _ _ _ _ _ ~ ?_ ?_
theorem markIntSS_ct (b : Option Addr) (m c : Nat) (xs : List (List Int)) (A : Hp) (k0 : Int) (ho : (gSl 31 (gSl 3 gI)).ow [.slice b m c] xs A) (h0 : 0 ≤ k0) (h1 : k0 + cntL (gSl 3 gI) xs ≤ 4611686018427387904) :
    CtR Tryz.prog 31 [.slice b m c, .int .i64 k0] A (fun _ => True) (fun v A => v = .int .i64 (k0 + cntL (gSl 3 gI) xs) ∧ (gSl 31 (gSl 3 gI)).ow [.slice b m c] (mkL (gSl 3 gI) k0 xs) A) := by
  obtain ⟨rfl, hcl, hl⟩ := sl_len (Gt.owrd _ ho)
  refine CtR.intro G_ok [A] Tryz.func31 rfl rfl rfl (by simp) fun E H hp => ?_
  apply loop_mod (α := (Nat) × (Hp)) G_ok [6, 7, 8, 9, 12, 13, 14, 15, 16, 17, 1, 10, 11, 5] (fun z => [(5, .v (.int .i64 z.1)), (1, .v (.int .i64 (k0 + cntL (gSl 3 gI) (xs.take z.1))))]) (fun z => []) (fun z => [z.2, H]) (fun z => xs.length - z.1) (fun z => z.1 ≤ xs.length ∧ (gSl 31 (gSl 3 gI)).ow [.slice b xs.length c] (mkL (gSl 3 gI) k0 (xs.take z.1) ++ xs.drop z.1) z.2) ((0, A))
  · repeat' (first | exact trivial | refine ⟨⟨_, rfl, by first | rfl | exact inc_eq _ (by omega) | (refine sl_eq ?_; simp; done) | (refine svi_eq ?_; subst_vars; (try dsimp only); (try simp (disch := omega) only [wrap_of]); omega) | (simp [cntL]), by first | exact trivial | simp [SV.ok]⟩, ?_⟩)
  · exact trivial
  · try dsimp only
    exact ⟨by omega, by simpa [mkL] using ho⟩
  · exact .refl _
  rintro ⟨k, B⟩ hI
  obtain ⟨hk, oB⟩ : k ≤ xs.length ∧ (gSl 31 (gSl 3 gI)).ow [.slice b xs.length c] (mkL (gSl 3 gI) k0 (xs.take k) ++ xs.drop k) B := hI
  try dsimp only
  refine VCsplit.intro (fun q0 => ?_) (fun q0 => ?_)
  ·
    simp at q0
    have hs := (cntL_step (gSl 3 gI) xs k [] (by omega))
    change _ = _ + cntL _ _ at hs
    have hs2 := cntL_take_le (gSl 3 gI) xs (k + 1)
    obtain ⟨y, ey, oe⟩ := OwE.mk [] k oB (by rw [mk_len _ _ _ _ (by omega)]; omega)
    rw [mk_get _ _ _ _ _ (by omega)] at ey
    clear oB
    refine oe_idx oe ?_ fun b1 o1 hb1 => ?_
    · rfl
    refine oe_load fldId oe rfl hb1 rfl (mem_at 0 rfl) fun l2 hl2 hf2 => ?_
    obtain ⟨u2, w2, rfl, hl2⟩ := sl_rd hl2
    refine call_foc 0 rfl hf2 (fun Af3 oa3 => markIntS_ct _ _ _ _ _ _ oa3 ?_ ?_) (fun _ _ => trivial) ?_
    · omega
    · simp_all; omega
    rintro _ A3 rfl ⟨y3, ey3, o3⟩
    try dsimp only at ey3
    apply loop_stepA (k + 1, _)
    · exact .refl _
    · repeat' (first | exact trivial | refine ⟨⟨_, rfl, by first | rfl | exact inc_eq _ (by omega) | (refine sl_eq ?_; simp; done) | (refine svi_eq ?_; subst_vars; (try dsimp only); (try simp (disch := omega) only [wrap_of]); omega) | (simp [cntL]), by first | exact trivial | simp [SV.ok]⟩, ?_⟩)
    · exact trivial
    · try dsimp only
      exact ⟨by omega, OwE.done (by assumption) (by rw [← mk_step (gSl 3 gI) [] xs k0 k (by omega)]; congr 1; subst_vars; (try simp only [mkL]); (try simp (disch := omega) only [wrap_of]); (try rfl))⟩
    · try dsimp only
      omega
  ·
    simp at q0
    obtain rfl : k = xs.length := by omega
    rw [List.take_length, List.drop_length, List.append_nil] at oB
    exact ⟨_, ⟨by rw [List.take_length], oB⟩, (.le fun a => by (try simp only [setR, List.cons_append, List.nil_append]); simp only [List.flatten_append, List.flatten_cons, List.flatten_nil, List.count_append, List.count_nil, List.append_nil, List.nil_append]; omega)⟩

--@ct laws.heldIntSS val heldIntSS_ct _ _ _ _ _ _ ?_ ?_ ?_ | %1
theorem heldIntSS_ct (b : Option Addr) (m c : Nat) (xs : List (List Int)) (k0 k1 : Int) (hk1 : k0 = k1) (h0 : 0 ≤ k0) (h1 : k0 + cntL (gSl 3 gI) xs ≤ 4611686018427387904) :
    Ct Tryz.prog 45 [.slice b m c, .int .i64 k0] [] (fun H => (gSl 31 (gSl 3 gI)).rd H [.slice b m c] (mkL (gSl 3 gI) k1 xs)) (fun v A => v = .int .i64 (k0 + cntL (gSl 3 gI) xs) ∧ A = []) := by
  subst hk1
  refine Ct.intro0 G_ok Tryz.func45 rfl rfl rfl fun E H hp => ?_
  have hm0 := (sl_len hp).1
  rw [mkL_len] at hm0; subst hm0
  obtain ⟨-, hcl, hl⟩ := sl_len hp
  rw [mkL_len] at hcl hl
  have hln := mkL_len (gSl 3 gI) xs k0
  apply loop_mod (α := (Nat)) G_ok [6, 7, 8, 9, 12, 13, 14, 15, 16, 17, 1, 18, 19, 4, 10, 11, 5] (fun z => [(5, .v (.int .i64 z)), (1, .v (.int .i64 (k0 + cntL (gSl 3 gI) (xs.take z))))]) (fun z => []) (fun z => [H]) (fun z => xs.length - z) (fun z => z ≤ xs.length) (0)
  · repeat' (first | exact trivial | refine ⟨⟨_, rfl, by first | rfl | exact inc_eq _ (by omega) | (refine sl_eq ?_; simp; done) | (refine svi_eq ?_; (try dsimp only); (try simp (disch := omega) only [wrap_of]); omega) | (simp [cntL]), by first | exact trivial | simp [SV.ok]⟩, ?_⟩)
  · exact trivial
  · omega
  · exact .refl _
  rintro k hI
  obtain hk : k ≤ xs.length := hI
  try dsimp only
  refine VCsplit.intro (fun q0 => ?_) (fun q0 => ?_)
  ·
    simp at q0
    have hs := (cntL_step (gSl 3 gI) xs k [] (by omega))
    change _ = _ + cntL _ _ at hs
    have hs2 := cntL_take_le (gSl 3 gI) xs (k + 1)
    have hm := mkL_get (gSl 3 gI) [] xs k0 k (by omega)
    change _ = mkL _ _ _ at hm
    refine idx_rd hp ?_ ?_ fun b1 o1 hb1 => ?_
    · omega
    · omega
    refine load_allN [] (k) rfl hp ?_ ?_ hb1 rfl (mem_at 0 rfl) fun l2 hl2 => ?_
    · omega
    · omega
    rw [hm] at hl2
    obtain ⟨u2, w2, rfl, hl2⟩ := sl_rd hl2
    refine call_val (heldIntS_ct _ _ _ _ _ _ ?_ ?_ ?_) (Rp.mono _ (mem_at 0 rfl) hl2) ?_
    · rfl
    · omega
    · omega
    rintro _ rfl
    refine VCsplit.intro (fun q4 => ?_) (fun q4 => ?_)
    ·
      simp at q4
      exfalso; omega
    ·
      simp at q4
      apply loop_stepA (k + 1)
      · exact .refl _
      · repeat' (first | exact trivial | refine ⟨⟨_, rfl, by first | rfl | exact inc_eq _ (by omega) | (refine sl_eq ?_; simp; done) | (refine svi_eq ?_; (try dsimp only); (try simp (disch := omega) only [wrap_of]); omega) | (simp [cntL]), by first | exact trivial | simp [SV.ok]⟩, ?_⟩)
      · exact trivial
      · trivial
      · omega
  ·
    simp at q0
    obtain rfl : k = xs.length := by omega
    exact ⟨[], ⟨by rw [List.take_length], rfl⟩, (.le fun a => by (try simp only [setR, List.cons_append, List.nil_append]); simp only [List.flatten_append, List.flatten_cons, List.flatten_nil, List.count_append, List.count_nil, List.append_nil, List.nil_append]; omega)⟩

end Go.Proofs.YtflfohphebmemaaGreat
