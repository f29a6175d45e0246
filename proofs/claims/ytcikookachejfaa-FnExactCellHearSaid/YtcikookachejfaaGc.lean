/-
  The laws' helpers over their types: sizes, copies, likeness (printed by gent.py). Conditions: none.
-/
import Derived.Test.YtcikookachejfaaGb
namespace Go.Proofs.Ytcikookachejfaa
open Go.SX Go.Proofs
set_option maxHeartbeats 4000000
set_option linter.unusedSimpArgs false
set_option linter.unusedVariables false

--@ct laws.szIntS raw refine call_q (szIntS_ct _ _ _ $1 _ ?_ ?_) %1 ?_ | | rintro _ ⟨r#, rfl, hr#⟩
theorem szIntS_ct (b : Option Addr) (m c : Nat) (xs : List Int) (left : Int) (h0 : 0 ≤ left) (h1 : left ≤ 1048576) :
    Ct Try.prog 94 [.slice b m c, .int .i64 left] [] (fun H => (gSl 3 gI).rd H [.slice b m c] xs) (fun v A => (∃ r : Int, v = .int .i64 r ∧ ((r = -1 ∧ left < (szL gI xs : Int)) ∨ (r = left - (szL gI xs : Int) ∧ (szL gI xs : Int) ≤ left))) ∧ A = []) := by
  refine Ct.intro0 G_ok Try.func94 rfl rfl rfl fun E H hp => ?_
  obtain ⟨rfl, hcl, hl⟩ := sl_len hp
  have hq := szL_eq gI xs
  have hz := szE_zero gI (fun _ => rfl) xs
  refine VCsplit.intro (fun q0 => ?_) (fun q0 => ?_)
  ·
    simp at q0
    simp (disch := omega) only [wrap_of] at q0
    exact ⟨[], ⟨⟨-1, rfl, .inl ⟨rfl, by (try simp (disch := omega) only [wrap_of] at *); omega⟩⟩, rfl⟩, (.le fun a => by (try simp only [setR, List.cons_append, List.nil_append]); simp only [List.flatten_append, List.flatten_cons, List.flatten_nil, List.count_append, List.count_nil, List.append_nil, List.nil_append]; omega)⟩
  ·
    simp at q0
    simp (disch := omega) only [wrap_of] at q0
    exact ⟨[], ⟨⟨_, rfl, .inr ⟨by (try simp (disch := omega) only [wrap_of] at *); omega, by omega⟩⟩, rfl⟩, (.le fun a => by (try simp only [setR, List.cons_append, List.nil_append]); simp only [List.flatten_append, List.flatten_cons, List.flatten_nil, List.count_append, List.count_nil, List.append_nil, List.nil_append]; omega)⟩

--@ct laws.toIntS new toIntS_ct _ _ _ $1 ?_ | %1 | obtain ⟨b#, c#, rfl, o#⟩ := o#
theorem toIntS_ct (b : Option Addr) (m c : Nat) (xs : List Int) (hx : szL gI xs ≤ 1048576) :
    Ct Try.prog 104 [.slice b m c] [] (fun H => (gSl 3 gI).rd H [.slice b m c] xs) (fun v A => ∃ b c, v = .slice b xs.length c ∧ (gSl 3 gI).ow [.slice b xs.length c] xs A) := by
  refine Ct.intro0 G_ok Try.func104 rfl rfl rfl fun E H hp => ?_
  obtain ⟨rfl, hcl, hl⟩ := sl_len hp
  have hls := len_szL gI xs
  refine VCmake.intro ?_ ?_ ?_ ?_ fun x0 => ?_
  · omega
  · omega
  · omega
  · omega
  apply loop_mod (α := (Nat) × (Hp)) G_ok [8, 9, 10, 11, 14, 15, 16, 17, 18, 19, 20, 12, 13, 4] (fun z => [(4, .v (.int .i64 z.1))]) (fun z => []) (fun z => [z.2, H]) (fun z => xs.length - z.1) (fun z => z.1 ≤ xs.length ∧ (gSl 3 gI).ow [.slice (some ⟨x0, 0, none⟩) xs.length xs.length] (xs.take z.1 ++ List.replicate (xs.length - z.1) 0) z.2) ((0, _))
  · repeat' (first | exact trivial | refine ⟨⟨_, rfl, by first | rfl | exact inc_eq _ (by omega) | (refine sl_eq ?_; simp; done), by first | exact trivial | simp [SV.ok]⟩, ?_⟩)
  · exact trivial
  · try dsimp only
    exact ⟨by omega, by simpa using gmake (g := gI) (T := 3) (b := x0) (gI_ow (by unfold okI; decide)) (Nat.le_refl xs.length) (by omega)⟩
  · exact .refl _
  rintro ⟨k, A⟩ hI
  obtain ⟨hk, oA⟩ : k ≤ xs.length ∧ (gSl 3 gI).ow [.slice (some ⟨x0, 0, none⟩) xs.length xs.length] (xs.take k ++ List.replicate (xs.length - k) 0) A := hI
  try dsimp only
  refine VCsplit.intro (fun q1 => ?_) (fun q1 => ?_)
  ·
    simp at q1
    refine idx_rd hp ?_ ?_ fun b2 o2 hb2 => ?_
    · omega
    · omega
    refine load_allN 0 (k) rfl hp ?_ ?_ hb2 rfl (mem_at 1 rfl) fun l3 hl3 => ?_
    · omega
    · omega
    obtain ⟨rfl, hw3⟩ := hl3; simp only [flStr, flInt, okI] at hw3
    refine idx_rd (Gt.owrd _ oA) ?_ ?_ fun b4 o4 hb4 => ?_
    · omega
    · simp; omega
    refine gstoreN (Fld.id _) 0 (k) 0 rfl rfl oA ?_ ?_ hb4 rfl gI_pl _ (gI_ow ?_) fun A5 o5 => ?_
    · omega
    · simp; omega
    · trivial
    apply loop_stepA (k + 1, _)
    · exact .refl _
    · repeat' (first | exact trivial | refine ⟨⟨_, rfl, by first | rfl | exact inc_eq _ (by omega) | (refine sl_eq ?_; simp; done), by first | exact trivial | simp [SV.ok]⟩, ?_⟩)
    · exact trivial
    · try dsimp only
      exact ⟨by omega, by rw [← take_step xs k 0 (by omega)] ; assumption⟩
    · try dsimp only
      omega
  ·
    simp at q1
    obtain rfl : k = xs.length := by omega
    rw [List.take_length, Nat.sub_self, List.replicate_zero, List.append_nil] at oA
    exact ⟨_, ⟨_, _, rfl, oA⟩, (.le fun a => by (try simp only [setR, List.cons_append, List.nil_append]); simp only [List.flatten_append, List.flatten_cons, List.flatten_nil, List.count_append, List.count_nil, List.append_nil, List.nil_append]; omega)⟩

--@ct laws.eqIntS val eqIntS_ct _ _ _ _ _ _ $1 $2 | ⟨%1, %2⟩
theorem eqIntS_ct (b1 : Option Addr) (m1 c1 : Nat) (b2 : Option Addr) (m2 c2 : Nat) (xs ys : List Int) :
    Ct Try.prog 71 [.slice b1 m1 c1, .slice b2 m2 c2] [] (fun H => (gSl 3 gI).rd H [.slice b1 m1 c1] xs ∧ (gSl 3 gI).rd H [.slice b2 m2 c2] ys) (fun v A => v = .bool (decide (xs = ys)) ∧ A = []) := by
  refine Ct.intro0 G_ok Try.func71 rfl rfl rfl fun E H hp => ?_
  obtain ⟨hp1, hp2⟩ := hp
  obtain ⟨rfl, hc1, hl1⟩ := sl_len hp1
  obtain ⟨rfl, hc2, hl2⟩ := sl_len hp2
  refine VCsplit.intro (fun q0 => ?_) (fun q0 => ?_)
  ·
    simp at q0
    exact ⟨[], ⟨by rw [decide_eq_false (fun e => by subst e; omega)], rfl⟩, (.le fun a => by (try simp only [setR, List.cons_append, List.nil_append]); simp only [List.flatten_append, List.flatten_cons, List.flatten_nil, List.count_append, List.count_nil, List.append_nil, List.nil_append]; omega)⟩
  ·
    simp at q0
    apply loop_mod (α := (Nat)) G_ok [11, 12, 13, 14, 17, 18, 19, 20, 21, 22, 23, 24, 25, 4, 15, 16, 5] (fun z => [(5, .v (.int .i64 z))]) (fun z => []) (fun z => [H]) (fun z => xs.length - z) (fun z => z ≤ xs.length ∧ xs.take z = ys.take z) (0)
    · repeat' (first | exact trivial | refine ⟨⟨_, rfl, by first | rfl | exact inc_eq _ (by omega) | (refine sl_eq ?_; simp; done), by first | exact trivial | simp [SV.ok]⟩, ?_⟩)
    · exact trivial
    · exact ⟨by omega, by simp⟩
    · exact .refl _
    rintro k hI
    obtain ⟨hk, he⟩ : k ≤ xs.length ∧ xs.take k = ys.take k := hI
    try dsimp only
    refine VCsplit.intro (fun q1 => ?_) (fun q1 => ?_)
    ·
      simp at q1
      refine draw G_ok mixed none (.q 0 (.q 1 (.q 2 (.q 3 (.q 4 (.q 5 (.q 6 (.q 7 (.q 8 (.nil)))))))))) (by decide +kernel) ?_
      refine idx_rd hp1 ?_ ?_ fun b2 o2 hb2 => ?_
      · omega
      · omega
      refine load_allN 0 (k) rfl hp1 ?_ ?_ hb2 rfl (mem_at 0 rfl) fun l3 hl3 => ?_
      · omega
      · omega
      obtain ⟨rfl, hw3⟩ := hl3; simp only [flStr, flInt, okI] at hw3
      refine idx_rd hp2 ?_ ?_ fun b4 o4 hb4 => ?_
      · omega
      · omega
      refine load_allN 0 (k) rfl hp2 ?_ ?_ hb4 rfl (mem_at 0 rfl) fun l5 hl5 => ?_
      · omega
      · omega
      obtain ⟨rfl, hw5⟩ := hl5; simp only [flStr, flInt, okI] at hw5
      refine VCsplit.intro (fun q6 => ?_) (fun q6 => ?_)
      ·
        simp at q6
        exact ⟨[], ⟨by rw [decide_eq_false (fun e => by subst e; omega)], rfl⟩, (.le fun a => by (try simp only [setR, List.cons_append, List.nil_append]); simp only [List.flatten_append, List.flatten_cons, List.flatten_nil, List.count_append, List.count_nil, List.append_nil, List.nil_append]; omega)⟩
      ·
        simp at q6
        apply loop_stepA (k + 1)
        · exact .refl _
        · repeat' (first | exact trivial | refine ⟨⟨_, rfl, by first | rfl | exact inc_eq _ (by omega) | (refine sl_eq ?_; simp; done), by first | exact trivial | simp [SV.ok]⟩, ?_⟩)
        · exact trivial
        · exact ⟨by omega, eq_step 0 (by omega) he (by omega) (by simpa using ‹_›)⟩
        · omega
    ·
      simp at q1
      exact ⟨[], ⟨by rw [decide_eq_true]; rw [← List.take_length (l := xs), ← List.take_length (l := ys), ← (by omega : xs.length = ys.length), show xs.length = k by omega]; exact he, rfl⟩, (.le fun a => by (try simp only [setR, List.cons_append, List.nil_append]); simp only [List.flatten_append, List.flatten_cons, List.flatten_nil, List.count_append, List.count_nil, List.append_nil, List.nil_append]; omega)⟩

--@ct laws.szStringS raw refine call_q (szStringS_ct _ _ _ $1 _ ?_ ?_) %1 ?_ | | rintro _ ⟨r#, rfl, hr#⟩
theorem szStringS_ct (b : Option Addr) (m c : Nat) (xs : List ByteArray) (left : Int) (h0 : 0 ≤ left) (h1 : left ≤ 1048576) :
    Ct Try.prog 157 [.slice b m c, .int .i64 left] [] (fun H => (gSl 9 gS).rd H [.slice b m c] xs) (fun v A => (∃ r : Int, v = .int .i64 r ∧ ((r = -1 ∧ left < (szL gS xs : Int)) ∨ (r = left - (szL gS xs : Int) ∧ (szL gS xs : Int) ≤ left))) ∧ A = []) := by
  refine Ct.intro0 G_ok Try.func157 rfl rfl rfl fun E H hp => ?_
  obtain ⟨rfl, hcl, hl⟩ := sl_len hp
  have hq := szL_eq gS xs
  have ht := List.take_length (l := xs)
  refine VCsplit.intro (fun q0 => ?_) (fun q0 => ?_)
  ·
    simp at q0
    simp (disch := omega) only [wrap_of] at q0
    exact ⟨[], ⟨⟨-1, rfl, .inl ⟨rfl, by (try simp (disch := omega) only [wrap_of] at *); omega⟩⟩, rfl⟩, (.le fun a => by (try simp only [setR, List.cons_append, List.nil_append]); simp only [List.flatten_append, List.flatten_cons, List.flatten_nil, List.count_append, List.count_nil, List.append_nil, List.nil_append]; omega)⟩
  ·
    simp at q0
    simp (disch := omega) only [wrap_of] at q0
    apply loop_mod (α := (Nat) × (Int)) G_ok [12, 13, 14, 15, 18, 19, 20, 21, 22, 23, 24, 1, 25, 26, 4, 16, 17, 5] (fun z => [(5, .v (.int .i64 z.1)), (1, .v (.int .i64 z.2))]) (fun z => []) (fun z => [H]) (fun z => xs.length - z.1) (fun z => z.1 ≤ xs.length ∧ z.2 = left - xs.length - szE gS (xs.take z.1) ∧ 0 ≤ z.2) ((0, left - xs.length))
    · repeat' (first | exact trivial | refine ⟨⟨_, rfl, by first | rfl | exact inc_eq _ (by omega) | (refine sl_eq ?_; simp; done) | (simp (disch := omega) only [wrap_of]), by first | exact trivial | simp [SV.ok]⟩, ?_⟩)
    · exact trivial
    · try dsimp only
      exact ⟨by omega, by simp [szE], by omega⟩
    · exact .refl _
    rintro ⟨k, lf⟩ hI
    obtain ⟨hk, hlf, hnn⟩ : k ≤ xs.length ∧ lf = left - xs.length - szE gS (xs.take k) ∧ 0 ≤ lf := hI
    try dsimp only
    refine VCsplit.intro (fun q1 => ?_) (fun q1 => ?_)
    ·
      simp at q1
      have hs := szE_step gS xs k ByteArray.empty (by omega)
      have hs2 := szE_le gS xs (k + 1)
      refine idx_rd hp ?_ ?_ fun b2 o2 hb2 => ?_
      · omega
      · omega
      refine load_allN ByteArray.empty (k) rfl hp ?_ ?_ hb2 rfl (mem_at 0 rfl) fun l3 hl3 => ?_
      · omega
      · omega
      have hss : gS.sz (xs[k]?.getD ByteArray.empty) = (xs[k]?.getD ByteArray.empty).size := rfl
      obtain ⟨rfl, hw3⟩ := hl3; simp only [flStr, flInt, okI] at hw3
      refine VCsplit.intro (fun q4 => ?_) (fun q4 => ?_)
      ·
        simp at q4
        simp (disch := omega) only [wrap_of] at q4
        exact ⟨[], ⟨⟨-1, rfl, .inl ⟨rfl, by (try simp (disch := omega) only [wrap_of] at *); omega⟩⟩, rfl⟩, (.le fun a => by (try simp only [setR, List.cons_append, List.nil_append]); simp only [List.flatten_append, List.flatten_cons, List.flatten_nil, List.count_append, List.count_nil, List.append_nil, List.nil_append]; omega)⟩
      ·
        simp at q4
        simp (disch := omega) only [wrap_of] at q4
        apply loop_stepA (k + 1, lf - ((xs[k]?.getD ByteArray.empty).size : Int))
        · exact .refl _
        · repeat' (first | exact trivial | refine ⟨⟨_, rfl, by first | rfl | exact inc_eq _ (by omega) | (refine sl_eq ?_; simp; done) | (simp (disch := omega) only [wrap_of]), by first | exact trivial | simp [SV.ok]⟩, ?_⟩)
        · exact trivial
        · try dsimp only
          ((try simp (disch := omega) only [wrap_of] at *); refine ⟨by omega, by omega, by omega⟩)
        · try dsimp only
          omega
    ·
      simp at q1
      obtain rfl : k = xs.length := by omega
      rw [List.take_length] at hlf
      exact ⟨[], ⟨⟨_, rfl, .inr ⟨by (try simp (disch := omega) only [wrap_of] at *); omega, by omega⟩⟩, rfl⟩, (.le fun a => by (try simp only [setR, List.cons_append, List.nil_append]); simp only [List.flatten_append, List.flatten_cons, List.flatten_nil, List.count_append, List.count_nil, List.append_nil, List.nil_append]; omega)⟩

--@ct laws.toStringS new toStringS_ct _ _ _ $1 ?_ | %1 | obtain ⟨b#, c#, rfl, o#⟩ := o#
theorem toStringS_ct (b : Option Addr) (m c : Nat) (xs : List ByteArray) (hx : szL gS xs ≤ 1048576) :
    Ct Try.prog 165 [.slice b m c] [] (fun H => (gSl 9 gS).rd H [.slice b m c] xs) (fun v A => ∃ b c, v = .slice b xs.length c ∧ (gSl 9 gS).ow [.slice b xs.length c] xs A) := by
  refine Ct.intro0 G_ok Try.func165 rfl rfl rfl fun E H hp => ?_
  obtain ⟨rfl, hcl, hl⟩ := sl_len hp
  have hls := len_szL gS xs
  refine VCmake.intro ?_ ?_ ?_ ?_ fun x0 => ?_
  · omega
  · omega
  · omega
  · omega
  apply loop_mod (α := (Nat) × (Hp)) G_ok [8, 9, 10, 11, 14, 15, 16, 17, 18, 19, 20, 12, 13, 4] (fun z => [(4, .v (.int .i64 z.1))]) (fun z => []) (fun z => [z.2, H]) (fun z => xs.length - z.1) (fun z => z.1 ≤ xs.length ∧ (gSl 9 gS).ow [.slice (some ⟨x0, 0, none⟩) xs.length xs.length] (xs.take z.1 ++ List.replicate (xs.length - z.1) ByteArray.empty) z.2) ((0, _))
  · repeat' (first | exact trivial | refine ⟨⟨_, rfl, by first | rfl | exact inc_eq _ (by omega) | (refine sl_eq ?_; simp; done), by first | exact trivial | simp [SV.ok]⟩, ?_⟩)
  · exact trivial
  · try dsimp only
    exact ⟨by omega, by simpa using gmake (g := gS) (T := 9) (b := x0) (gS_ow (by decide)) (Nat.le_refl xs.length) (by omega)⟩
  · exact .refl _
  rintro ⟨k, A⟩ hI
  obtain ⟨hk, oA⟩ : k ≤ xs.length ∧ (gSl 9 gS).ow [.slice (some ⟨x0, 0, none⟩) xs.length xs.length] (xs.take k ++ List.replicate (xs.length - k) ByteArray.empty) A := hI
  try dsimp only
  refine VCsplit.intro (fun q1 => ?_) (fun q1 => ?_)
  ·
    simp at q1
    refine idx_rd hp ?_ ?_ fun b2 o2 hb2 => ?_
    · omega
    · omega
    refine load_allN ByteArray.empty (k) rfl hp ?_ ?_ hb2 rfl (mem_at 1 rfl) fun l3 hl3 => ?_
    · omega
    · omega
    obtain ⟨rfl, hw3⟩ := hl3; simp only [flStr, flInt, okI] at hw3
    refine idx_rd (Gt.owrd _ oA) ?_ ?_ fun b4 o4 hb4 => ?_
    · omega
    · simp; omega
    refine gstoreN (Fld.id _) ByteArray.empty (k) 0 rfl rfl oA ?_ ?_ hb4 rfl fl_pl _ (gS_ow ?_) fun A5 o5 => ?_
    · omega
    · simp; omega
    · trivial
    apply loop_stepA (k + 1, _)
    · exact .refl _
    · repeat' (first | exact trivial | refine ⟨⟨_, rfl, by first | rfl | exact inc_eq _ (by omega) | (refine sl_eq ?_; simp; done), by first | exact trivial | simp [SV.ok]⟩, ?_⟩)
    · exact trivial
    · try dsimp only
      exact ⟨by omega, by rw [← take_step xs k ByteArray.empty (by omega)] ; assumption⟩
    · try dsimp only
      omega
  ·
    simp at q1
    obtain rfl : k = xs.length := by omega
    rw [List.take_length, Nat.sub_self, List.replicate_zero, List.append_nil] at oA
    exact ⟨_, ⟨_, _, rfl, oA⟩, (.le fun a => by (try simp only [setR, List.cons_append, List.nil_append]); simp only [List.flatten_append, List.flatten_cons, List.flatten_nil, List.count_append, List.count_nil, List.append_nil, List.nil_append]; omega)⟩

--@ct laws.eqStringS val eqStringS_ct _ _ _ _ _ _ $1 $2 | ⟨%1, %2⟩
theorem eqStringS_ct (b1 : Option Addr) (m1 c1 : Nat) (b2 : Option Addr) (m2 c2 : Nat) (xs ys : List ByteArray) :
    Ct Try.prog 69 [.slice b1 m1 c1, .slice b2 m2 c2] [] (fun H => (gSl 9 gS).rd H [.slice b1 m1 c1] xs ∧ (gSl 9 gS).rd H [.slice b2 m2 c2] ys) (fun v A => v = .bool (decide (xs = ys)) ∧ A = []) := by
  refine Ct.intro0 G_ok Try.func69 rfl rfl rfl fun E H hp => ?_
  obtain ⟨hp1, hp2⟩ := hp
  obtain ⟨rfl, hc1, hl1⟩ := sl_len hp1
  obtain ⟨rfl, hc2, hl2⟩ := sl_len hp2
  refine VCsplit.intro (fun q0 => ?_) (fun q0 => ?_)
  ·
    simp at q0
    exact ⟨[], ⟨by rw [decide_eq_false (fun e => by subst e; omega)], rfl⟩, (.le fun a => by (try simp only [setR, List.cons_append, List.nil_append]); simp only [List.flatten_append, List.flatten_cons, List.flatten_nil, List.count_append, List.count_nil, List.append_nil, List.nil_append]; omega)⟩
  ·
    simp at q0
    apply loop_mod (α := (Nat)) G_ok [11, 12, 13, 14, 17, 18, 19, 20, 21, 22, 23, 24, 25, 4, 15, 16, 5] (fun z => [(5, .v (.int .i64 z))]) (fun z => []) (fun z => [H]) (fun z => xs.length - z) (fun z => z ≤ xs.length ∧ xs.take z = ys.take z) (0)
    · repeat' (first | exact trivial | refine ⟨⟨_, rfl, by first | rfl | exact inc_eq _ (by omega) | (refine sl_eq ?_; simp; done), by first | exact trivial | simp [SV.ok]⟩, ?_⟩)
    · exact trivial
    · exact ⟨by omega, by simp⟩
    · exact .refl _
    rintro k hI
    obtain ⟨hk, he⟩ : k ≤ xs.length ∧ xs.take k = ys.take k := hI
    try dsimp only
    refine VCsplit.intro (fun q1 => ?_) (fun q1 => ?_)
    ·
      simp at q1
      refine draw G_ok mixed none (.q 0 (.q 1 (.q 2 (.q 3 (.q 4 (.q 5 (.q 6 (.q 7 (.q 8 (.nil)))))))))) (by decide +kernel) ?_
      refine idx_rd hp1 ?_ ?_ fun b2 o2 hb2 => ?_
      · omega
      · omega
      refine load_allN ByteArray.empty (k) rfl hp1 ?_ ?_ hb2 rfl (mem_at 0 rfl) fun l3 hl3 => ?_
      · omega
      · omega
      obtain ⟨rfl, hw3⟩ := hl3; simp only [flStr, flInt, okI] at hw3
      refine idx_rd hp2 ?_ ?_ fun b4 o4 hb4 => ?_
      · omega
      · omega
      refine load_allN ByteArray.empty (k) rfl hp2 ?_ ?_ hb4 rfl (mem_at 0 rfl) fun l5 hl5 => ?_
      · omega
      · omega
      obtain ⟨rfl, hw5⟩ := hl5; simp only [flStr, flInt, okI] at hw5
      refine VCsplit.intro (fun q6 => ?_) (fun q6 => ?_)
      ·
        simp at q6
        simp only [str_inj, u8_inj, u8_wrap] at q6
        exact ⟨[], ⟨by rw [decide_eq_false (fun e => by subst e; simp at *)], rfl⟩, (.le fun a => by (try simp only [setR, List.cons_append, List.nil_append]); simp only [List.flatten_append, List.flatten_cons, List.flatten_nil, List.count_append, List.count_nil, List.append_nil, List.nil_append]; omega)⟩
      ·
        simp at q6
        simp only [str_inj, u8_inj, u8_wrap] at q6
        apply loop_stepA (k + 1)
        · exact .refl _
        · repeat' (first | exact trivial | refine ⟨⟨_, rfl, by first | rfl | exact inc_eq _ (by omega) | (refine sl_eq ?_; simp; done), by first | exact trivial | simp [SV.ok]⟩, ?_⟩)
        · exact trivial
        · exact ⟨by omega, eq_step ByteArray.empty (by omega) he (by omega) (by simpa using ‹_›)⟩
        · omega
    ·
      simp at q1
      exact ⟨[], ⟨by rw [decide_eq_true]; rw [← List.take_length (l := xs), ← List.take_length (l := ys), ← (by omega : xs.length = ys.length), show xs.length = k by omega]; exact he, rfl⟩, (.le fun a => by (try simp only [setR, List.cons_append, List.nil_append]); simp only [List.flatten_append, List.flatten_cons, List.flatten_nil, List.count_append, List.count_nil, List.append_nil, List.nil_append]; omega)⟩

--@ct laws.szItem raw refine call_q (szItem_ct _ $1 _ ?_ ?_) %1 ?_ | | rintro _ ⟨r#, rfl, hr#⟩
theorem szItem_ct (l : List Value) (x : Item) (left : Int) (h0 : 0 ≤ left) (h1 : left ≤ 1048576) :
    Ct Try.prog 161 [.agg ⟨l⟩, .int .i64 left] [] (fun H => gItem.rd H l x) (fun v A => (∃ r : Int, v = .int .i64 r ∧ ((r = -1 ∧ left < (gItem.sz x : Int)) ∨ (r = left - (gItem.sz x : Int) ∧ (gItem.sz x : Int) ≤ left))) ∧ A = []) := by
  refine Ct.intro0 G_ok Try.func161 rfl rfl rfl fun E H hp => ?_
  obtain ⟨b0, c0, rfl, h0, w1⟩ := gItem_rd.1 hp
  have hz := gItem_sz x
  refine VCnew.intro fun x0 => ?_
  refine call_q (szIntS_ct _ _ _ (x.row) _ ?_ ?_) (Rp.mono _ (mem_at 0 rfl) h0) ?_
  · trivial
  · trivial
  rintro _ ⟨r1, rfl, hr1⟩
  refine VCsplit.intro (fun q2 => ?_) (fun q2 => ?_)
  ·
    simp at q2
    exact ⟨[], ⟨⟨-1, rfl, .inl ⟨rfl, by (try simp (disch := omega) only [wrap_of] at *); omega⟩⟩, rfl⟩, (.le fun a => by (try simp only [setR, List.cons_append, List.nil_append]); simp only [List.flatten_append, List.flatten_cons, List.flatten_nil, List.count_append, List.count_nil, List.append_nil, List.nil_append]; omega)⟩
  ·
    simp at q2
    exact ⟨[], ⟨⟨_, rfl, .inr ⟨by (try simp (disch := omega) only [wrap_of] at *); omega, by omega⟩⟩, rfl⟩, (.le fun a => by (try simp only [setR, List.cons_append, List.nil_append]); simp only [List.flatten_append, List.flatten_cons, List.flatten_nil, List.count_append, List.count_nil, List.append_nil, List.nil_append]; omega)⟩

--@ct laws.toItem new toItem_ct _ $1 ?_ | %1 | obtain ⟨l#, rfl, o#⟩ := o# ;; have r# := Gt.owrd _ o# ;; obtain ⟨b0x#, c0x#, rfl, h0x#, w1x#⟩ := gItem_rd.1 r#
theorem toItem_ct (l : List Value) (x : Item) (hx : gItem.sz x ≤ 1048576) :
    Ct Try.prog 169 [.agg ⟨l⟩] [] (fun H => gItem.rd H l x) (fun v A => ∃ l, v = .agg ⟨l⟩ ∧ gItem.ow l x A) := by
  refine Ct.intro0 G_ok Try.func169 rfl rfl rfl fun E H hp => ?_
  obtain ⟨b0, c0, rfl, h0, w1⟩ := gItem_rd.1 hp
  have hz := gItem_sz x
  refine VCnew.intro fun x0 => ?_
  refine VCnew.intro fun x1 => ?_
  refine VCnew.intro fun x2 => ?_
  refine call_new (toIntS_ct _ _ _ (x.row) ?_) (Rp.mono _ (mem_at 0 rfl) h0) ?_
  · trivial
  rintro v3 A3 o3
  obtain ⟨b3, c3, rfl, o3⟩ := o3
  exact ⟨_, ⟨_, rfl, gItem_ow.2 ⟨_, _, _, rfl, .refl _, by assumption, by assumption⟩⟩, (.le fun a => by (try simp only [setR, List.cons_append, List.nil_append]); simp only [List.flatten_append, List.flatten_cons, List.flatten_nil, List.count_append, List.count_nil, List.append_nil, List.nil_append]; omega)⟩

--@ct laws.eqItem val eqItem_ct _ _ $1 $2 | ⟨%1, %2⟩
theorem eqItem_ct (l1 l2 : List Value) (x y : Item) :
    Ct Try.prog 180 [.agg ⟨l1⟩, .agg ⟨l2⟩] [] (fun H => gItem.rd H l1 x ∧ gItem.rd H l2 y) (fun v A => v = .bool (decide (x = y)) ∧ A = []) := by
  refine Ct.intro0 G_ok Try.func180 rfl rfl rfl fun E H hp => ?_
  obtain ⟨hp1, hp2⟩ := hp
  obtain ⟨b0p, c0p, rfl, h0p, w1p⟩ := gItem_rd.1 hp1
  obtain ⟨b0q, c0q, rfl, h0q, w1q⟩ := gItem_rd.1 hp2
  refine VCnew.intro fun x0 => ?_
  refine VCnew.intro fun x1 => ?_
  refine call_val (eqIntS_ct _ _ _ _ _ _ (x.row) (y.row)) ⟨(Rp.mono _ (mem_at 0 rfl) h0p), (Rp.mono _ (mem_at 0 rfl) h0q)⟩ ?_
  rintro _ rfl
  refine VCsplit.intro (fun q3 => ?_) (fun q3 => ?_)
  ·
    simp at q3
    exact ⟨[], ⟨by rw [decide_eq_false (fun e => by subst e; simp at *)], rfl⟩, (.le fun a => by (try simp only [setR, List.cons_append, List.nil_append]); simp only [List.flatten_append, List.flatten_cons, List.flatten_nil, List.count_append, List.count_nil, List.append_nil, List.nil_append]; omega)⟩
  ·
    simp at q3
    refine VCsplit.intro (fun q4 => ?_) (fun q4 => ?_)
    ·
      simp at q4
      exact ⟨[], ⟨by rw [decide_eq_false (fun e => by subst e; simp at *)], rfl⟩, (.le fun a => by (try simp only [setR, List.cons_append, List.nil_append]); simp only [List.flatten_append, List.flatten_cons, List.flatten_nil, List.count_append, List.count_nil, List.append_nil, List.nil_append]; omega)⟩
    ·
      simp at q4
      exact ⟨[], ⟨by rw [decide_eq_true (Item.eq_iff.2 (by simp_all))], rfl⟩, (.le fun a => by (try simp only [setR, List.cons_append, List.nil_append]); simp only [List.flatten_append, List.flatten_cons, List.flatten_nil, List.count_append, List.count_nil, List.append_nil, List.nil_append]; omega)⟩

--@ct laws.szItemS raw refine call_q (szItemS_ct _ _ _ $1 _ ?_ ?_) %1 ?_ | | rintro _ ⟨r#, rfl, hr#⟩
theorem szItemS_ct (b : Option Addr) (m c : Nat) (xs : List Item) (left : Int) (h0 : 0 ≤ left) (h1 : left ≤ 1048576) :
    Ct Try.prog 96 [.slice b m c, .int .i64 left] [] (fun H => (gSl 144 gItem).rd H [.slice b m c] xs) (fun v A => (∃ r : Int, v = .int .i64 r ∧ ((r = -1 ∧ left < (szL gItem xs : Int)) ∨ (r = left - (szL gItem xs : Int) ∧ (szL gItem xs : Int) ≤ left))) ∧ A = []) := by
  refine Ct.intro0 G_ok Try.func96 rfl rfl rfl fun E H hp => ?_
  obtain ⟨rfl, hcl, hl⟩ := sl_len hp
  have hq := szL_eq gItem xs
  have ht := List.take_length (l := xs)
  refine VCsplit.intro (fun q0 => ?_) (fun q0 => ?_)
  ·
    simp at q0
    simp (disch := omega) only [wrap_of] at q0
    exact ⟨[], ⟨⟨-1, rfl, .inl ⟨rfl, by (try simp (disch := omega) only [wrap_of] at *); omega⟩⟩, rfl⟩, (.le fun a => by (try simp only [setR, List.cons_append, List.nil_append]); simp only [List.flatten_append, List.flatten_cons, List.flatten_nil, List.count_append, List.count_nil, List.append_nil, List.nil_append]; omega)⟩
  ·
    simp at q0
    simp (disch := omega) only [wrap_of] at q0
    apply loop_mod (α := (Nat) × (Int)) G_ok [12, 13, 14, 15, 18, 19, 20, 21, 22, 23, 1, 24, 25, 4, 16, 17, 5] (fun z => [(5, .v (.int .i64 z.1)), (1, .v (.int .i64 z.2))]) (fun z => []) (fun z => [H]) (fun z => xs.length - z.1) (fun z => z.1 ≤ xs.length ∧ z.2 = left - xs.length - szE gItem (xs.take z.1) ∧ 0 ≤ z.2) ((0, left - xs.length))
    · repeat' (first | exact trivial | refine ⟨⟨_, rfl, by first | rfl | exact inc_eq _ (by omega) | (refine sl_eq ?_; simp; done) | (simp (disch := omega) only [wrap_of]), by first | exact trivial | simp [SV.ok]⟩, ?_⟩)
    · exact trivial
    · try dsimp only
      exact ⟨by omega, by simp [szE], by omega⟩
    · exact .refl _
    rintro ⟨k, lf⟩ hI
    obtain ⟨hk, hlf, hnn⟩ : k ≤ xs.length ∧ lf = left - xs.length - szE gItem (xs.take k) ∧ 0 ≤ lf := hI
    try dsimp only
    refine VCsplit.intro (fun q1 => ?_) (fun q1 => ?_)
    ·
      simp at q1
      have hs := szE_step gItem xs k default (by omega)
      have hs2 := szE_le gItem xs (k + 1)
      refine idx_rd hp ?_ ?_ fun b2 o2 hb2 => ?_
      · omega
      · omega
      refine load_allN default (k) rfl hp ?_ ?_ hb2 rfl (mem_at 0 rfl) fun l3 hl3 => ?_
      · omega
      · omega
      obtain ⟨b0x3, c0x3, rfl, h0x3, w1x3⟩ := gItem_rd.1 hl3
      refine call_q (szItem_ct _ (xs[k]?.getD default) _ ?_ ?_) (Rp.mono _ (mem_at 0 rfl) hl3) ?_
      · trivial
      · omega
      rintro _ ⟨r4, rfl, hr4⟩
      refine VCsplit.intro (fun q5 => ?_) (fun q5 => ?_)
      ·
        simp at q5
        exact ⟨[], ⟨⟨-1, rfl, .inl ⟨rfl, by (try simp (disch := omega) only [wrap_of] at *); omega⟩⟩, rfl⟩, (.le fun a => by (try simp only [setR, List.cons_append, List.nil_append]); simp only [List.flatten_append, List.flatten_cons, List.flatten_nil, List.count_append, List.count_nil, List.append_nil, List.nil_append]; omega)⟩
      ·
        simp at q5
        apply loop_stepA (k + 1, _)
        · exact .refl _
        · repeat' (first | exact trivial | refine ⟨⟨_, rfl, by first | rfl | exact inc_eq _ (by omega) | (refine sl_eq ?_; simp; done) | (simp (disch := omega) only [wrap_of]), by first | exact trivial | simp [SV.ok]⟩, ?_⟩)
        · exact trivial
        · try dsimp only
          ((try simp (disch := omega) only [wrap_of] at *); refine ⟨by omega, by omega, by omega⟩)
        · try dsimp only
          omega
    ·
      simp at q1
      obtain rfl : k = xs.length := by omega
      rw [List.take_length] at hlf
      exact ⟨[], ⟨⟨_, rfl, .inr ⟨by (try simp (disch := omega) only [wrap_of] at *); omega, by omega⟩⟩, rfl⟩, (.le fun a => by (try simp only [setR, List.cons_append, List.nil_append]); simp only [List.flatten_append, List.flatten_cons, List.flatten_nil, List.count_append, List.count_nil, List.append_nil, List.nil_append]; omega)⟩

--@ct laws.toItemS new toItemS_ct _ _ _ $1 ?_ | %1 | obtain ⟨b#, c#, rfl, o#⟩ := o#
theorem toItemS_ct (b : Option Addr) (m c : Nat) (xs : List Item) (hx : szL gItem xs ≤ 1048576) :
    Ct Try.prog 106 [.slice b m c] [] (fun H => (gSl 144 gItem).rd H [.slice b m c] xs) (fun v A => ∃ b c, v = .slice b xs.length c ∧ (gSl 144 gItem).ow [.slice b xs.length c] xs A) := by
  refine Ct.intro0 G_ok Try.func106 rfl rfl rfl fun E H hp => ?_
  obtain ⟨rfl, hcl, hl⟩ := sl_len hp
  have hls := len_szL gItem xs
  have hq := szL_eq gItem xs
  refine VCmake.intro ?_ ?_ ?_ ?_ fun x0 => ?_
  · omega
  · omega
  · omega
  · omega
  apply loop_mod (α := (Nat) × (Hp)) G_ok [8, 9, 10, 11, 14, 15, 16, 17, 18, 19, 20, 21, 12, 13, 4] (fun z => [(4, .v (.int .i64 z.1))]) (fun z => []) (fun z => [z.2, H]) (fun z => xs.length - z.1) (fun z => z.1 ≤ xs.length ∧ (gSl 144 gItem).ow [.slice (some ⟨x0, 0, none⟩) xs.length xs.length] (xs.take z.1 ++ List.replicate (xs.length - z.1) zItem) z.2) ((0, _))
  · repeat' (first | exact trivial | refine ⟨⟨_, rfl, by first | rfl | exact inc_eq _ (by omega) | (refine sl_eq ?_; simp; done), by first | exact trivial | simp [SV.ok]⟩, ?_⟩)
  · exact trivial
  · try dsimp only
    exact ⟨by omega, by simpa using gmake (g := gItem) (T := 144) (b := x0) (zItem_ow) (Nat.le_refl xs.length) (by omega)⟩
  · exact .refl _
  rintro ⟨k, A⟩ hI
  obtain ⟨hk, oA⟩ : k ≤ xs.length ∧ (gSl 144 gItem).ow [.slice (some ⟨x0, 0, none⟩) xs.length xs.length] (xs.take k ++ List.replicate (xs.length - k) zItem) A := hI
  try dsimp only
  refine VCsplit.intro (fun q1 => ?_) (fun q1 => ?_)
  ·
    simp at q1
    have hs := szE_step gItem xs k default (by omega)
    have hs2 := szE_le gItem xs (k + 1)
    refine idx_rd hp ?_ ?_ fun b2 o2 hb2 => ?_
    · omega
    · omega
    refine load_allN default (k) rfl hp ?_ ?_ hb2 rfl (mem_at 1 rfl) fun l3 hl3 => ?_
    · omega
    · omega
    obtain ⟨b0x3, c0x3, rfl, h0x3, w1x3⟩ := gItem_rd.1 hl3
    refine call_new (toItem_ct _ (xs[k]?.getD default) ?_) (Rp.mono _ (mem_at 1 rfl) hl3) ?_
    · omega
    rintro v4 A4 o4
    obtain ⟨l4, rfl, o4⟩ := o4
    have r4 := Gt.owrd _ o4
    obtain ⟨b0x4, c0x4, rfl, h0x4, w1x4⟩ := gItem_rd.1 r4
    refine idx_rd (Gt.owrd _ oA) ?_ ?_ fun b5 o5 hb5 => ?_
    · omega
    · simp; omega
    refine gstore1N (k) (A) (A4) [H] (.le fun a => by (try simp only [setR, List.cons_append, List.nil_append]); simp only [List.flatten_append, List.flatten_cons, List.flatten_nil, List.count_append, List.count_nil, List.append_nil, List.nil_append]; omega) rfl oA ?_ ?_ hb5 rfl _ o4 fun A6 o6 => ?_
    · omega
    · simp; omega
    apply loop_stepA (k + 1, _)
    · exact .refl _
    · repeat' (first | exact trivial | refine ⟨⟨_, rfl, by first | rfl | exact inc_eq _ (by omega) | (refine sl_eq ?_; simp; done), by first | exact trivial | simp [SV.ok]⟩, ?_⟩)
    · exact trivial
    · try dsimp only
      exact ⟨by omega, by rw [← take_stepz xs k default zItem (by omega)] ; assumption⟩
    · try dsimp only
      omega
  ·
    simp at q1
    obtain rfl : k = xs.length := by omega
    rw [List.take_length, Nat.sub_self, List.replicate_zero, List.append_nil] at oA
    exact ⟨_, ⟨_, _, rfl, oA⟩, (.le fun a => by (try simp only [setR, List.cons_append, List.nil_append]); simp only [List.flatten_append, List.flatten_cons, List.flatten_nil, List.count_append, List.count_nil, List.append_nil, List.nil_append]; omega)⟩

--@ct laws.eqItemS val eqItemS_ct _ _ _ _ _ _ $1 $2 | ⟨%1, %2⟩
theorem eqItemS_ct (b1 : Option Addr) (m1 c1 : Nat) (b2 : Option Addr) (m2 c2 : Nat) (xs ys : List Item) :
    Ct Try.prog 115 [.slice b1 m1 c1, .slice b2 m2 c2] [] (fun H => (gSl 144 gItem).rd H [.slice b1 m1 c1] xs ∧ (gSl 144 gItem).rd H [.slice b2 m2 c2] ys) (fun v A => v = .bool (decide (xs = ys)) ∧ A = []) := by
  refine Ct.intro0 G_ok Try.func115 rfl rfl rfl fun E H hp => ?_
  obtain ⟨hp1, hp2⟩ := hp
  obtain ⟨rfl, hc1, hl1⟩ := sl_len hp1
  obtain ⟨rfl, hc2, hl2⟩ := sl_len hp2
  refine VCsplit.intro (fun q0 => ?_) (fun q0 => ?_)
  ·
    simp at q0
    exact ⟨[], ⟨by rw [decide_eq_false (fun e => by subst e; omega)], rfl⟩, (.le fun a => by (try simp only [setR, List.cons_append, List.nil_append]); simp only [List.flatten_append, List.flatten_cons, List.flatten_nil, List.count_append, List.count_nil, List.append_nil, List.nil_append]; omega)⟩
  ·
    simp at q0
    apply loop_mod (α := (Nat)) G_ok [11, 12, 13, 14, 17, 18, 19, 20, 21, 22, 23, 24, 25, 26, 4, 15, 16, 5] (fun z => [(5, .v (.int .i64 z))]) (fun z => []) (fun z => [H]) (fun z => xs.length - z) (fun z => z ≤ xs.length ∧ xs.take z = ys.take z) (0)
    · repeat' (first | exact trivial | refine ⟨⟨_, rfl, by first | rfl | exact inc_eq _ (by omega) | (refine sl_eq ?_; simp; done), by first | exact trivial | simp [SV.ok]⟩, ?_⟩)
    · exact trivial
    · exact ⟨by omega, by simp⟩
    · exact .refl _
    rintro k hI
    obtain ⟨hk, he⟩ : k ≤ xs.length ∧ xs.take k = ys.take k := hI
    try dsimp only
    refine VCsplit.intro (fun q1 => ?_) (fun q1 => ?_)
    ·
      simp at q1
      refine draw G_ok mixed none (.q 0 (.q 1 (.q 2 (.q 3 (.q 4 (.q 5 (.q 6 (.q 7 (.f 8 (.q 9 (.nil))))))))))) (by decide +kernel) ?_
      refine idx_rd hp1 ?_ ?_ fun b2 o2 hb2 => ?_
      · omega
      · omega
      refine load_allN default (k) rfl hp1 ?_ ?_ hb2 rfl (mem_at 0 rfl) fun l3 hl3 => ?_
      · omega
      · omega
      obtain ⟨b0x3, c0x3, rfl, h0x3, w1x3⟩ := gItem_rd.1 hl3
      refine idx_rd hp2 ?_ ?_ fun b4 o4 hb4 => ?_
      · omega
      · omega
      refine load_allN default (k) rfl hp2 ?_ ?_ hb4 rfl (mem_at 0 rfl) fun l5 hl5 => ?_
      · omega
      · omega
      obtain ⟨b0x5, c0x5, rfl, h0x5, w1x5⟩ := gItem_rd.1 hl5
      refine call_val (eqItem_ct _ _ (xs[k]?.getD default) (ys[k]?.getD default)) ⟨(Rp.mono _ (mem_at 0 rfl) hl3), (Rp.mono _ (mem_at 0 rfl) hl5)⟩ ?_
      rintro _ rfl
      refine VC.intro ?_ ?_
      · exact fun _ h => h
      refine VCsplit.intro (fun q7 => ?_) (fun q7 => ?_)
      ·
        simp at q7
        exact ⟨[], ⟨by rw [decide_eq_false (fun e => by subst e; simp at *)], rfl⟩, (.le fun a => by (try simp only [setR, List.cons_append, List.nil_append]); simp only [List.flatten_append, List.flatten_cons, List.flatten_nil, List.count_append, List.count_nil, List.append_nil, List.nil_append]; omega)⟩
      ·
        simp at q7
        apply loop_stepA (k + 1)
        · exact .refl _
        · repeat' (first | exact trivial | refine ⟨⟨_, rfl, by first | rfl | exact inc_eq _ (by omega) | (refine sl_eq ?_; simp; done), by first | exact trivial | simp [SV.ok]⟩, ?_⟩)
        · exact trivial
        · exact ⟨by omega, eq_step default (by omega) he (by omega) (by simpa using ‹_›)⟩
        · omega
    ·
      simp at q1
      exact ⟨[], ⟨by rw [decide_eq_true]; rw [← List.take_length (l := xs), ← List.take_length (l := ys), ← (by omega : xs.length = ys.length), show xs.length = k by omega]; exact he, rfl⟩, (.le fun a => by (try simp only [setR, List.cons_append, List.nil_append]); simp only [List.flatten_append, List.flatten_cons, List.flatten_nil, List.count_append, List.count_nil, List.append_nil, List.nil_append]; omega)⟩

--@ct laws.szBag raw refine call_q (szBag_ct _ $1 _ ?_ ?_) %1 ?_ | | rintro _ ⟨r#, rfl, hr#⟩
theorem szBag_ct (l : List Value) (x : Bag) (left : Int) (h0 : 0 ≤ left) (h1 : left ≤ 1048576) :
    Ct Try.prog 40 [.agg ⟨l⟩, .int .i64 left] [] (fun H => gBag.rd H l x) (fun v A => (∃ r : Int, v = .int .i64 r ∧ ((r = -1 ∧ left < (gBag.sz x : Int)) ∨ (r = left - (gBag.sz x : Int) ∧ (gBag.sz x : Int) ≤ left))) ∧ A = []) := by
  refine Ct.intro0 G_ok Try.func40 rfl rfl rfl fun E H hp => ?_
  obtain ⟨b0, c0, rfl, h0⟩ := gBag_rd.1 hp
  have hz := gBag_sz x
  refine VCnew.intro fun x0 => ?_
  refine call_q (szItemS_ct _ _ _ (x.items) _ ?_ ?_) (Rp.mono _ (mem_at 0 rfl) h0) ?_
  · trivial
  · trivial
  rintro _ ⟨r1, rfl, hr1⟩
  refine VCsplit.intro (fun q2 => ?_) (fun q2 => ?_)
  ·
    simp at q2
    exact ⟨[], ⟨⟨-1, rfl, .inl ⟨rfl, by (try simp (disch := omega) only [wrap_of] at *); omega⟩⟩, rfl⟩, (.le fun a => by (try simp only [setR, List.cons_append, List.nil_append]); simp only [List.flatten_append, List.flatten_cons, List.flatten_nil, List.count_append, List.count_nil, List.append_nil, List.nil_append]; omega)⟩
  ·
    simp at q2
    exact ⟨[], ⟨⟨_, rfl, .inr ⟨by (try simp (disch := omega) only [wrap_of] at *); omega, by omega⟩⟩, rfl⟩, (.le fun a => by (try simp only [setR, List.cons_append, List.nil_append]); simp only [List.flatten_append, List.flatten_cons, List.flatten_nil, List.count_append, List.count_nil, List.append_nil, List.nil_append]; omega)⟩

--@ct laws.toBag new toBag_ct _ $1 ?_ | %1 | obtain ⟨l#, rfl, o#⟩ := o# ;; have r# := Gt.owrd _ o# ;; obtain ⟨b0x#, c0x#, rfl, h0x#⟩ := gBag_rd.1 r#
theorem toBag_ct (l : List Value) (x : Bag) (hx : gBag.sz x ≤ 1048576) :
    Ct Try.prog 43 [.agg ⟨l⟩] [] (fun H => gBag.rd H l x) (fun v A => ∃ l, v = .agg ⟨l⟩ ∧ gBag.ow l x A) := by
  refine Ct.intro0 G_ok Try.func43 rfl rfl rfl fun E H hp => ?_
  obtain ⟨b0, c0, rfl, h0⟩ := gBag_rd.1 hp
  have hz := gBag_sz x
  refine VCnew.intro fun x0 => ?_
  refine VCnew.intro fun x1 => ?_
  refine VCnew.intro fun x2 => ?_
  refine call_new (toItemS_ct _ _ _ (x.items) ?_) (Rp.mono _ (mem_at 0 rfl) h0) ?_
  · trivial
  rintro v3 A3 o3
  obtain ⟨b3, c3, rfl, o3⟩ := o3
  exact ⟨_, ⟨_, rfl, gBag_ow.2 ⟨_, _, _, rfl, .refl _, by assumption⟩⟩, (.le fun a => by (try simp only [setR, List.cons_append, List.nil_append]); simp only [List.flatten_append, List.flatten_cons, List.flatten_nil, List.count_append, List.count_nil, List.append_nil, List.nil_append]; omega)⟩

--@ct laws.eqBag val eqBag_ct _ _ $1 $2 | ⟨%1, %2⟩
theorem eqBag_ct (l1 l2 : List Value) (x y : Bag) :
    Ct Try.prog 46 [.agg ⟨l1⟩, .agg ⟨l2⟩] [] (fun H => gBag.rd H l1 x ∧ gBag.rd H l2 y) (fun v A => v = .bool (decide (x = y)) ∧ A = []) := by
  refine Ct.intro0 G_ok Try.func46 rfl rfl rfl fun E H hp => ?_
  obtain ⟨hp1, hp2⟩ := hp
  obtain ⟨b0p, c0p, rfl, h0p⟩ := gBag_rd.1 hp1
  obtain ⟨b0q, c0q, rfl, h0q⟩ := gBag_rd.1 hp2
  refine VCnew.intro fun x0 => ?_
  refine VCnew.intro fun x1 => ?_
  refine call_val (eqItemS_ct _ _ _ _ _ _ (x.items) (y.items)) ⟨(Rp.mono _ (mem_at 0 rfl) h0p), (Rp.mono _ (mem_at 0 rfl) h0q)⟩ ?_
  rintro _ rfl
  refine VCsplit.intro (fun q3 => ?_) (fun q3 => ?_)
  ·
    simp at q3
    exact ⟨[], ⟨by rw [decide_eq_false (fun e => by subst e; simp at *)], rfl⟩, (.le fun a => by (try simp only [setR, List.cons_append, List.nil_append]); simp only [List.flatten_append, List.flatten_cons, List.flatten_nil, List.count_append, List.count_nil, List.append_nil, List.nil_append]; omega)⟩
  ·
    simp at q3
    exact ⟨[], ⟨by rw [decide_eq_true (Bag.eq_iff.2 (by simp_all))], rfl⟩, (.le fun a => by (try simp only [setR, List.cons_append, List.nil_append]); simp only [List.flatten_append, List.flatten_cons, List.flatten_nil, List.count_append, List.count_nil, List.append_nil, List.nil_append]; omega)⟩

--@ct laws.eqEdge val eqEdge_ct _ _ $1 $2 | ⟨%1, %2⟩
theorem eqEdge_ct (l1 l2 : List Value) (x y : Edge) :
    Ct Try.prog 155 [.agg ⟨l1⟩, .agg ⟨l2⟩] [] (fun H => gEdge.rd H l1 x ∧ gEdge.rd H l2 y) (fun v A => v = .bool (decide (x = y)) ∧ A = []) := by
  refine Ct.intro0 G_ok Try.func155 rfl rfl rfl fun E H hp => ?_
  obtain ⟨hp1, hp2⟩ := hp
  obtain ⟨rfl, w0p, w2p⟩ := gEdge_rd.1 hp1
  obtain ⟨rfl, w0q, w2q⟩ := gEdge_rd.1 hp2
  refine VCnew.intro fun x0 => ?_
  refine VCnew.intro fun x1 => ?_
  refine VCsplit.intro (fun q2 => ?_) (fun q2 => ?_)
  ·
    simp at q2
    exact ⟨[], ⟨by rw [decide_eq_false (fun e => by subst e; simp at *)], rfl⟩, (.le fun a => by (try simp only [setR, List.cons_append, List.nil_append]); simp only [List.flatten_append, List.flatten_cons, List.flatten_nil, List.count_append, List.count_nil, List.append_nil, List.nil_append]; omega)⟩
  ·
    simp at q2
    refine VCsplit.intro (fun q3 => ?_) (fun q3 => ?_)
    ·
      simp at q3
      simp only [str_inj, u8_inj, u8_wrap] at q3
      exact ⟨[], ⟨by rw [decide_eq_false (fun e => by subst e; simp at *)], rfl⟩, (.le fun a => by (try simp only [setR, List.cons_append, List.nil_append]); simp only [List.flatten_append, List.flatten_cons, List.flatten_nil, List.count_append, List.count_nil, List.append_nil, List.nil_append]; omega)⟩
    ·
      simp at q3
      simp only [str_inj, u8_inj, u8_wrap] at q3
      refine VCsplit.intro (fun q4 => ?_) (fun q4 => ?_)
      ·
        simp at q4
        exact ⟨[], ⟨by rw [decide_eq_false (fun e => by subst e; simp at *)], rfl⟩, (.le fun a => by (try simp only [setR, List.cons_append, List.nil_append]); simp only [List.flatten_append, List.flatten_cons, List.flatten_nil, List.count_append, List.count_nil, List.append_nil, List.nil_append]; omega)⟩
      ·
        simp at q4
        exact ⟨[], ⟨by rw [decide_eq_true (Edge.eq_iff.2 (by simp_all))], rfl⟩, (.le fun a => by (try simp only [setR, List.cons_append, List.nil_append]); simp only [List.flatten_append, List.flatten_cons, List.flatten_nil, List.count_append, List.count_nil, List.append_nil, List.nil_append]; omega)⟩

--@ct laws.eqEdgeS val eqEdgeS_ct _ _ _ _ _ _ $1 $2 | ⟨%1, %2⟩
theorem eqEdgeS_ct (b1 : Option Addr) (m1 c1 : Nat) (b2 : Option Addr) (m2 c2 : Nat) (xs ys : List Edge) :
    Ct Try.prog 88 [.slice b1 m1 c1, .slice b2 m2 c2] [] (fun H => (gSl 192 gEdge).rd H [.slice b1 m1 c1] xs ∧ (gSl 192 gEdge).rd H [.slice b2 m2 c2] ys) (fun v A => v = .bool (decide (xs = ys)) ∧ A = []) := by
  refine Ct.intro0 G_ok Try.func88 rfl rfl rfl fun E H hp => ?_
  obtain ⟨hp1, hp2⟩ := hp
  obtain ⟨rfl, hc1, hl1⟩ := sl_len hp1
  obtain ⟨rfl, hc2, hl2⟩ := sl_len hp2
  refine VCsplit.intro (fun q0 => ?_) (fun q0 => ?_)
  ·
    simp at q0
    exact ⟨[], ⟨by rw [decide_eq_false (fun e => by subst e; omega)], rfl⟩, (.le fun a => by (try simp only [setR, List.cons_append, List.nil_append]); simp only [List.flatten_append, List.flatten_cons, List.flatten_nil, List.count_append, List.count_nil, List.append_nil, List.nil_append]; omega)⟩
  ·
    simp at q0
    apply loop_mod (α := (Nat)) G_ok [11, 12, 13, 14, 17, 18, 19, 20, 21, 22, 23, 24, 25, 26, 4, 15, 16, 5] (fun z => [(5, .v (.int .i64 z))]) (fun z => []) (fun z => [H]) (fun z => xs.length - z) (fun z => z ≤ xs.length ∧ xs.take z = ys.take z) (0)
    · repeat' (first | exact trivial | refine ⟨⟨_, rfl, by first | rfl | exact inc_eq _ (by omega) | (refine sl_eq ?_; simp; done), by first | exact trivial | simp [SV.ok]⟩, ?_⟩)
    · exact trivial
    · exact ⟨by omega, by simp⟩
    · exact .refl _
    rintro k hI
    obtain ⟨hk, he⟩ : k ≤ xs.length ∧ xs.take k = ys.take k := hI
    try dsimp only
    refine VCsplit.intro (fun q1 => ?_) (fun q1 => ?_)
    ·
      simp at q1
      refine draw G_ok mixed none (.q 0 (.q 1 (.q 2 (.q 3 (.q 4 (.q 5 (.q 6 (.q 7 (.f 8 (.q 9 (.nil))))))))))) (by decide +kernel) ?_
      refine idx_rd hp1 ?_ ?_ fun b2 o2 hb2 => ?_
      · omega
      · omega
      refine load_allN default (k) rfl hp1 ?_ ?_ hb2 rfl (mem_at 0 rfl) fun l3 hl3 => ?_
      · omega
      · omega
      obtain ⟨rfl, w0x3, w2x3⟩ := gEdge_rd.1 hl3
      refine idx_rd hp2 ?_ ?_ fun b4 o4 hb4 => ?_
      · omega
      · omega
      refine load_allN default (k) rfl hp2 ?_ ?_ hb4 rfl (mem_at 0 rfl) fun l5 hl5 => ?_
      · omega
      · omega
      obtain ⟨rfl, w0x5, w2x5⟩ := gEdge_rd.1 hl5
      refine call_val (eqEdge_ct _ _ (xs[k]?.getD default) (ys[k]?.getD default)) ⟨(Rp.mono _ (mem_at 0 rfl) hl3), (Rp.mono _ (mem_at 0 rfl) hl5)⟩ ?_
      rintro _ rfl
      refine VC.intro ?_ ?_
      · exact fun _ h => h
      refine VCsplit.intro (fun q7 => ?_) (fun q7 => ?_)
      ·
        simp at q7
        exact ⟨[], ⟨by rw [decide_eq_false (fun e => by subst e; simp at *)], rfl⟩, (.le fun a => by (try simp only [setR, List.cons_append, List.nil_append]); simp only [List.flatten_append, List.flatten_cons, List.flatten_nil, List.count_append, List.count_nil, List.append_nil, List.nil_append]; omega)⟩
      ·
        simp at q7
        apply loop_stepA (k + 1)
        · exact .refl _
        · repeat' (first | exact trivial | refine ⟨⟨_, rfl, by first | rfl | exact inc_eq _ (by omega) | (refine sl_eq ?_; simp; done), by first | exact trivial | simp [SV.ok]⟩, ?_⟩)
        · exact trivial
        · exact ⟨by omega, eq_step default (by omega) he (by omega) (by simpa using ‹_›)⟩
        · omega
    ·
      simp at q1
      exact ⟨[], ⟨by rw [decide_eq_true]; rw [← List.take_length (l := xs), ← List.take_length (l := ys), ← (by omega : xs.length = ys.length), show xs.length = k by omega]; exact he, rfl⟩, (.le fun a => by (try simp only [setR, List.cons_append, List.nil_append]); simp only [List.flatten_append, List.flatten_cons, List.flatten_nil, List.count_append, List.count_nil, List.append_nil, List.nil_append]; omega)⟩

--@ct laws.eqGraph val eqGraph_ct _ _ $1 $2 | ⟨%1, %2⟩
theorem eqGraph_ct (l1 l2 : List Value) (x y : Graph) :
    Ct Try.prog 34 [.agg ⟨l1⟩, .agg ⟨l2⟩] [] (fun H => gGraph.rd H l1 x ∧ gGraph.rd H l2 y) (fun v A => v = .bool (decide (x = y)) ∧ A = []) := by
  refine Ct.intro0 G_ok Try.func34 rfl rfl rfl fun E H hp => ?_
  obtain ⟨hp1, hp2⟩ := hp
  obtain ⟨b1p, c1p, rfl, w0p, h1p⟩ := gGraph_rd.1 hp1
  obtain ⟨b1q, c1q, rfl, w0q, h1q⟩ := gGraph_rd.1 hp2
  refine VCnew.intro fun x0 => ?_
  refine VCnew.intro fun x1 => ?_
  refine VCsplit.intro (fun q2 => ?_) (fun q2 => ?_)
  ·
    simp at q2
    exact ⟨[], ⟨by rw [decide_eq_false (fun e => by subst e; simp at *)], rfl⟩, (.le fun a => by (try simp only [setR, List.cons_append, List.nil_append]); simp only [List.flatten_append, List.flatten_cons, List.flatten_nil, List.count_append, List.count_nil, List.append_nil, List.nil_append]; omega)⟩
  ·
    simp at q2
    refine call_val (eqEdgeS_ct _ _ _ _ _ _ (x.edges) (y.edges)) ⟨(Rp.mono _ (mem_at 0 rfl) h1p), (Rp.mono _ (mem_at 0 rfl) h1q)⟩ ?_
    rintro _ rfl
    refine VCsplit.intro (fun q4 => ?_) (fun q4 => ?_)
    ·
      simp at q4
      exact ⟨[], ⟨by rw [decide_eq_false (fun e => by subst e; simp at *)], rfl⟩, (.le fun a => by (try simp only [setR, List.cons_append, List.nil_append]); simp only [List.flatten_append, List.flatten_cons, List.flatten_nil, List.count_append, List.count_nil, List.append_nil, List.nil_append]; omega)⟩
    ·
      simp at q4
      exact ⟨[], ⟨by rw [decide_eq_true (Graph.eq_iff.2 (by simp_all))], rfl⟩, (.le fun a => by (try simp only [setR, List.cons_append, List.nil_append]); simp only [List.flatten_append, List.flatten_cons, List.flatten_nil, List.count_append, List.count_nil, List.append_nil, List.nil_append]; omega)⟩

--@ct laws.szAtom raw refine call_q (szAtom_ct _ $1 _ ?_ ?_) %1 ?_ | | rintro _ ⟨r#, rfl, hr#⟩
theorem szAtom_ct (l : List Value) (x : Atom) (left : Int) (h0 : 0 ≤ left) (h1 : left ≤ 1048576) :
    Ct Try.prog 224 [.agg ⟨l⟩, .int .i64 left] [] (fun H => gAtom.rd H l x) (fun v A => (∃ r : Int, v = .int .i64 r ∧ ((r = -1 ∧ left < (gAtom.sz x : Int)) ∨ (r = left - (gAtom.sz x : Int) ∧ (gAtom.sz x : Int) ≤ left))) ∧ A = []) := by
  refine Ct.intro0 G_ok Try.func224 rfl rfl rfl fun E H hp => ?_
  obtain ⟨rfl, w0, w1, w2⟩ := gAtom_rd.1 hp
  have hz := gAtom_sz x
  refine VCnew.intro fun x0 => ?_
  refine VCsplit.intro (fun q1 => ?_) (fun q1 => ?_)
  ·
    simp at q1
    simp (disch := omega) only [wrap_of] at q1
    exact ⟨[], ⟨⟨-1, rfl, .inl ⟨rfl, by (try simp (disch := omega) only [wrap_of] at *); omega⟩⟩, rfl⟩, (.le fun a => by (try simp only [setR, List.cons_append, List.nil_append]); simp only [List.flatten_append, List.flatten_cons, List.flatten_nil, List.count_append, List.count_nil, List.append_nil, List.nil_append]; omega)⟩
  ·
    simp at q1
    simp (disch := omega) only [wrap_of] at q1
    refine VCsplit.intro (fun q2 => ?_) (fun q2 => ?_)
    ·
      simp at q2
      simp (disch := omega) only [wrap_of] at q2
      exact ⟨[], ⟨⟨-1, rfl, .inl ⟨rfl, by (try simp (disch := omega) only [wrap_of] at *); omega⟩⟩, rfl⟩, (.le fun a => by (try simp only [setR, List.cons_append, List.nil_append]); simp only [List.flatten_append, List.flatten_cons, List.flatten_nil, List.count_append, List.count_nil, List.append_nil, List.nil_append]; omega)⟩
    ·
      simp at q2
      simp (disch := omega) only [wrap_of] at q2
      refine VCsplit.intro (fun q3 => ?_) (fun q3 => ?_)
      ·
        simp at q3
        simp (disch := omega) only [wrap_of] at q3
        exact ⟨[], ⟨⟨-1, rfl, .inl ⟨rfl, by (try simp (disch := omega) only [wrap_of] at *); omega⟩⟩, rfl⟩, (.le fun a => by (try simp only [setR, List.cons_append, List.nil_append]); simp only [List.flatten_append, List.flatten_cons, List.flatten_nil, List.count_append, List.count_nil, List.append_nil, List.nil_append]; omega)⟩
      ·
        simp at q3
        simp (disch := omega) only [wrap_of] at q3
        exact ⟨[], ⟨⟨_, rfl, .inr ⟨by (try simp (disch := omega) only [wrap_of] at *); omega, by omega⟩⟩, rfl⟩, (.le fun a => by (try simp only [setR, List.cons_append, List.nil_append]); simp only [List.flatten_append, List.flatten_cons, List.flatten_nil, List.count_append, List.count_nil, List.append_nil, List.nil_append]; omega)⟩

--@ct laws.toAtom new toAtom_ct _ $1 ?_ | %1 | obtain ⟨l#, rfl, o#⟩ := o# ;; have r# := Gt.owrd _ o# ;; obtain ⟨rfl, w0x#, w1x#, w2x#⟩ := gAtom_rd.1 r#
theorem toAtom_ct (l : List Value) (x : Atom) (hx : gAtom.sz x ≤ 1048576) :
    Ct Try.prog 226 [.agg ⟨l⟩] [] (fun H => gAtom.rd H l x) (fun v A => ∃ l, v = .agg ⟨l⟩ ∧ gAtom.ow l x A) := by
  refine Ct.intro0 G_ok Try.func226 rfl rfl rfl fun E H hp => ?_
  obtain ⟨rfl, w0, w1, w2⟩ := gAtom_rd.1 hp
  have hz := gAtom_sz x
  refine VCnew.intro fun x0 => ?_
  refine VCnew.intro fun x1 => ?_
  refine VCnew.intro fun x2 => ?_
  exact ⟨_, ⟨_, rfl, gAtom_ow.2 ⟨rfl, .refl _, by assumption, by assumption, by assumption⟩⟩, (.le fun a => by (try simp only [setR, List.cons_append, List.nil_append]); simp only [List.flatten_append, List.flatten_cons, List.flatten_nil, List.count_append, List.count_nil, List.append_nil, List.nil_append]; omega)⟩

--@ct laws.eqAtom val eqAtom_ct _ _ $1 $2 | ⟨%1, %2⟩
theorem eqAtom_ct (l1 l2 : List Value) (x y : Atom) :
    Ct Try.prog 232 [.agg ⟨l1⟩, .agg ⟨l2⟩] [] (fun H => gAtom.rd H l1 x ∧ gAtom.rd H l2 y) (fun v A => v = .bool (decide (x = y)) ∧ A = []) := by
  refine Ct.intro0 G_ok Try.func232 rfl rfl rfl fun E H hp => ?_
  obtain ⟨hp1, hp2⟩ := hp
  obtain ⟨rfl, w0p, w1p, w2p⟩ := gAtom_rd.1 hp1
  obtain ⟨rfl, w0q, w1q, w2q⟩ := gAtom_rd.1 hp2
  refine VCnew.intro fun x0 => ?_
  refine VCnew.intro fun x1 => ?_
  refine VCsplit.intro (fun q2 => ?_) (fun q2 => ?_)
  ·
    simp at q2
    simp only [str_inj, u8_inj, u8_wrap] at q2
    exact ⟨[], ⟨by rw [decide_eq_false (fun e => by subst e; simp at *)], rfl⟩, (.le fun a => by (try simp only [setR, List.cons_append, List.nil_append]); simp only [List.flatten_append, List.flatten_cons, List.flatten_nil, List.count_append, List.count_nil, List.append_nil, List.nil_append]; omega)⟩
  ·
    simp at q2
    simp only [str_inj, u8_inj, u8_wrap] at q2
    refine VCsplit.intro (fun q3 => ?_) (fun q3 => ?_)
    ·
      simp at q3
      simp only [str_inj, u8_inj, u8_wrap] at q3
      exact ⟨[], ⟨by rw [decide_eq_false (fun e => by subst e; simp at *)], rfl⟩, (.le fun a => by (try simp only [setR, List.cons_append, List.nil_append]); simp only [List.flatten_append, List.flatten_cons, List.flatten_nil, List.count_append, List.count_nil, List.append_nil, List.nil_append]; omega)⟩
    ·
      simp at q3
      simp only [str_inj, u8_inj, u8_wrap] at q3
      refine VCsplit.intro (fun q4 => ?_) (fun q4 => ?_)
      ·
        simp at q4
        simp only [str_inj, u8_inj, u8_wrap] at q4
        exact ⟨[], ⟨by rw [decide_eq_false (fun e => by subst e; simp at *)], rfl⟩, (.le fun a => by (try simp only [setR, List.cons_append, List.nil_append]); simp only [List.flatten_append, List.flatten_cons, List.flatten_nil, List.count_append, List.count_nil, List.append_nil, List.nil_append]; omega)⟩
      ·
        simp at q4
        simp only [str_inj, u8_inj, u8_wrap] at q4
        exact ⟨[], ⟨by rw [decide_eq_true (Atom.eq_iff.2 (by simp_all))], rfl⟩, (.le fun a => by (try simp only [setR, List.cons_append, List.nil_append]); simp only [List.flatten_append, List.flatten_cons, List.flatten_nil, List.count_append, List.count_nil, List.append_nil, List.nil_append]; omega)⟩

--@ct laws.szFilter raw refine call_q (szFilter_ct _ $1 _ ?_ ?_) %1 ?_ | | rintro _ ⟨r#, rfl, hr#⟩
theorem szFilter_ct (l : List Value) (x : Filter) (left : Int) (h0 : 0 ≤ left) (h1 : left ≤ 1048576) :
    Ct Try.prog 225 [.agg ⟨l⟩, .int .i64 left] [] (fun H => gFilter.rd H l x) (fun v A => (∃ r : Int, v = .int .i64 r ∧ ((r = -1 ∧ left < (gFilter.sz x : Int)) ∨ (r = left - (gFilter.sz x : Int) ∧ (gFilter.sz x : Int) ≤ left))) ∧ A = []) := by
  refine Ct.intro0 G_ok Try.func225 rfl rfl rfl fun E H hp => ?_
  obtain ⟨rfl, w0, w1, w2, w3⟩ := gFilter_rd.1 hp
  have hz := gFilter_sz x
  refine VCnew.intro fun x0 => ?_
  refine VCsplit.intro (fun q1 => ?_) (fun q1 => ?_)
  ·
    simp at q1
    simp (disch := omega) only [wrap_of] at q1
    exact ⟨[], ⟨⟨-1, rfl, .inl ⟨rfl, by (try simp (disch := omega) only [wrap_of] at *); omega⟩⟩, rfl⟩, (.le fun a => by (try simp only [setR, List.cons_append, List.nil_append]); simp only [List.flatten_append, List.flatten_cons, List.flatten_nil, List.count_append, List.count_nil, List.append_nil, List.nil_append]; omega)⟩
  ·
    simp at q1
    simp (disch := omega) only [wrap_of] at q1
    refine VCsplit.intro (fun q2 => ?_) (fun q2 => ?_)
    ·
      simp at q2
      simp (disch := omega) only [wrap_of] at q2
      exact ⟨[], ⟨⟨-1, rfl, .inl ⟨rfl, by (try simp (disch := omega) only [wrap_of] at *); omega⟩⟩, rfl⟩, (.le fun a => by (try simp only [setR, List.cons_append, List.nil_append]); simp only [List.flatten_append, List.flatten_cons, List.flatten_nil, List.count_append, List.count_nil, List.append_nil, List.nil_append]; omega)⟩
    ·
      simp at q2
      simp (disch := omega) only [wrap_of] at q2
      exact ⟨[], ⟨⟨_, rfl, .inr ⟨by (try simp (disch := omega) only [wrap_of] at *); omega, by omega⟩⟩, rfl⟩, (.le fun a => by (try simp only [setR, List.cons_append, List.nil_append]); simp only [List.flatten_append, List.flatten_cons, List.flatten_nil, List.count_append, List.count_nil, List.append_nil, List.nil_append]; omega)⟩

--@ct laws.toFilter new toFilter_ct _ $1 ?_ | %1 | obtain ⟨l#, rfl, o#⟩ := o# ;; have r# := Gt.owrd _ o# ;; obtain ⟨rfl, w0x#, w1x#, w2x#, w3x#⟩ := gFilter_rd.1 r#
theorem toFilter_ct (l : List Value) (x : Filter) (hx : gFilter.sz x ≤ 1048576) :
    Ct Try.prog 227 [.agg ⟨l⟩] [] (fun H => gFilter.rd H l x) (fun v A => ∃ l, v = .agg ⟨l⟩ ∧ gFilter.ow l x A) := by
  refine Ct.intro0 G_ok Try.func227 rfl rfl rfl fun E H hp => ?_
  obtain ⟨rfl, w0, w1, w2, w3⟩ := gFilter_rd.1 hp
  have hz := gFilter_sz x
  refine VCnew.intro fun x0 => ?_
  refine VCnew.intro fun x1 => ?_
  refine VCnew.intro fun x2 => ?_
  exact ⟨_, ⟨_, rfl, gFilter_ow.2 ⟨rfl, .refl _, by assumption, by assumption, by assumption, by assumption⟩⟩, (.le fun a => by (try simp only [setR, List.cons_append, List.nil_append]); simp only [List.flatten_append, List.flatten_cons, List.flatten_nil, List.count_append, List.count_nil, List.append_nil, List.nil_append]; omega)⟩

--@ct laws.eqFilter val eqFilter_ct _ _ $1 $2 | ⟨%1, %2⟩
theorem eqFilter_ct (l1 l2 : List Value) (x y : Filter) :
    Ct Try.prog 233 [.agg ⟨l1⟩, .agg ⟨l2⟩] [] (fun H => gFilter.rd H l1 x ∧ gFilter.rd H l2 y) (fun v A => v = .bool (decide (x = y)) ∧ A = []) := by
  refine Ct.intro0 G_ok Try.func233 rfl rfl rfl fun E H hp => ?_
  obtain ⟨hp1, hp2⟩ := hp
  obtain ⟨rfl, w0p, w1p, w2p, w3p⟩ := gFilter_rd.1 hp1
  obtain ⟨rfl, w0q, w1q, w2q, w3q⟩ := gFilter_rd.1 hp2
  refine VCnew.intro fun x0 => ?_
  refine VCnew.intro fun x1 => ?_
  refine VCsplit.intro (fun q2 => ?_) (fun q2 => ?_)
  ·
    simp at q2
    simp only [str_inj, u8_inj, u8_wrap] at q2
    exact ⟨[], ⟨by rw [decide_eq_false (fun e => by subst e; simp at *)], rfl⟩, (.le fun a => by (try simp only [setR, List.cons_append, List.nil_append]); simp only [List.flatten_append, List.flatten_cons, List.flatten_nil, List.count_append, List.count_nil, List.append_nil, List.nil_append]; omega)⟩
  ·
    simp at q2
    simp only [str_inj, u8_inj, u8_wrap] at q2
    refine VCsplit.intro (fun q3 => ?_) (fun q3 => ?_)
    ·
      simp at q3
      exact ⟨[], ⟨by rw [decide_eq_false (fun e => by subst e; simp at *)], rfl⟩, (.le fun a => by (try simp only [setR, List.cons_append, List.nil_append]); simp only [List.flatten_append, List.flatten_cons, List.flatten_nil, List.count_append, List.count_nil, List.append_nil, List.nil_append]; omega)⟩
    ·
      simp at q3
      refine VCsplit.intro (fun q4 => ?_) (fun q4 => ?_)
      ·
        simp at q4
        simp only [str_inj, u8_inj, u8_wrap] at q4
        exact ⟨[], ⟨by rw [decide_eq_false (fun e => by subst e; simp at *)], rfl⟩, (.le fun a => by (try simp only [setR, List.cons_append, List.nil_append]); simp only [List.flatten_append, List.flatten_cons, List.flatten_nil, List.count_append, List.count_nil, List.append_nil, List.nil_append]; omega)⟩
      ·
        simp at q4
        simp only [str_inj, u8_inj, u8_wrap] at q4
        refine VCsplit.intro (fun q5 => ?_) (fun q5 => ?_)
        ·
          simp at q5
          exact ⟨[], ⟨by rw [decide_eq_false (fun e => by subst e; simp at *)], rfl⟩, (.le fun a => by (try simp only [setR, List.cons_append, List.nil_append]); simp only [List.flatten_append, List.flatten_cons, List.flatten_nil, List.count_append, List.count_nil, List.append_nil, List.nil_append]; omega)⟩
        ·
          simp at q5
          exact ⟨[], ⟨by rw [decide_eq_true (Filter.eq_iff.2 (by simp_all))], rfl⟩, (.le fun a => by (try simp only [setR, List.cons_append, List.nil_append]); simp only [List.flatten_append, List.flatten_cons, List.flatten_nil, List.count_append, List.count_nil, List.append_nil, List.nil_append]; omega)⟩

--@ct laws.szAtomS raw refine call_q (szAtomS_ct _ _ _ $1 _ ?_ ?_) %1 ?_ | | rintro _ ⟨r#, rfl, hr#⟩
theorem szAtomS_ct (b : Option Addr) (m c : Nat) (xs : List Atom) (left : Int) (h0 : 0 ≤ left) (h1 : left ≤ 1048576) :
    Ct Try.prog 158 [.slice b m c, .int .i64 left] [] (fun H => (gSl 147 gAtom).rd H [.slice b m c] xs) (fun v A => (∃ r : Int, v = .int .i64 r ∧ ((r = -1 ∧ left < (szL gAtom xs : Int)) ∨ (r = left - (szL gAtom xs : Int) ∧ (szL gAtom xs : Int) ≤ left))) ∧ A = []) := by
  refine Ct.intro0 G_ok Try.func158 rfl rfl rfl fun E H hp => ?_
  obtain ⟨rfl, hcl, hl⟩ := sl_len hp
  have hq := szL_eq gAtom xs
  have ht := List.take_length (l := xs)
  refine VCsplit.intro (fun q0 => ?_) (fun q0 => ?_)
  ·
    simp at q0
    simp (disch := omega) only [wrap_of] at q0
    exact ⟨[], ⟨⟨-1, rfl, .inl ⟨rfl, by (try simp (disch := omega) only [wrap_of] at *); omega⟩⟩, rfl⟩, (.le fun a => by (try simp only [setR, List.cons_append, List.nil_append]); simp only [List.flatten_append, List.flatten_cons, List.flatten_nil, List.count_append, List.count_nil, List.append_nil, List.nil_append]; omega)⟩
  ·
    simp at q0
    simp (disch := omega) only [wrap_of] at q0
    apply loop_mod (α := (Nat) × (Int)) G_ok [12, 13, 14, 15, 18, 19, 20, 21, 22, 23, 1, 24, 25, 4, 16, 17, 5] (fun z => [(5, .v (.int .i64 z.1)), (1, .v (.int .i64 z.2))]) (fun z => []) (fun z => [H]) (fun z => xs.length - z.1) (fun z => z.1 ≤ xs.length ∧ z.2 = left - xs.length - szE gAtom (xs.take z.1) ∧ 0 ≤ z.2) ((0, left - xs.length))
    · repeat' (first | exact trivial | refine ⟨⟨_, rfl, by first | rfl | exact inc_eq _ (by omega) | (refine sl_eq ?_; simp; done) | (simp (disch := omega) only [wrap_of]), by first | exact trivial | simp [SV.ok]⟩, ?_⟩)
    · exact trivial
    · try dsimp only
      exact ⟨by omega, by simp [szE], by omega⟩
    · exact .refl _
    rintro ⟨k, lf⟩ hI
    obtain ⟨hk, hlf, hnn⟩ : k ≤ xs.length ∧ lf = left - xs.length - szE gAtom (xs.take k) ∧ 0 ≤ lf := hI
    try dsimp only
    refine VCsplit.intro (fun q1 => ?_) (fun q1 => ?_)
    ·
      simp at q1
      have hs := szE_step gAtom xs k default (by omega)
      have hs2 := szE_le gAtom xs (k + 1)
      refine idx_rd hp ?_ ?_ fun b2 o2 hb2 => ?_
      · omega
      · omega
      refine load_allN default (k) rfl hp ?_ ?_ hb2 rfl (mem_at 0 rfl) fun l3 hl3 => ?_
      · omega
      · omega
      obtain ⟨rfl, w0x3, w1x3, w2x3⟩ := gAtom_rd.1 hl3
      refine call_q (szAtom_ct _ (xs[k]?.getD default) _ ?_ ?_) (Rp.mono _ (mem_at 0 rfl) hl3) ?_
      · trivial
      · omega
      rintro _ ⟨r4, rfl, hr4⟩
      refine VCsplit.intro (fun q5 => ?_) (fun q5 => ?_)
      ·
        simp at q5
        exact ⟨[], ⟨⟨-1, rfl, .inl ⟨rfl, by (try simp (disch := omega) only [wrap_of] at *); omega⟩⟩, rfl⟩, (.le fun a => by (try simp only [setR, List.cons_append, List.nil_append]); simp only [List.flatten_append, List.flatten_cons, List.flatten_nil, List.count_append, List.count_nil, List.append_nil, List.nil_append]; omega)⟩
      ·
        simp at q5
        apply loop_stepA (k + 1, _)
        · exact .refl _
        · repeat' (first | exact trivial | refine ⟨⟨_, rfl, by first | rfl | exact inc_eq _ (by omega) | (refine sl_eq ?_; simp; done) | (simp (disch := omega) only [wrap_of]), by first | exact trivial | simp [SV.ok]⟩, ?_⟩)
        · exact trivial
        · try dsimp only
          ((try simp (disch := omega) only [wrap_of] at *); refine ⟨by omega, by omega, by omega⟩)
        · try dsimp only
          omega
    ·
      simp at q1
      obtain rfl : k = xs.length := by omega
      rw [List.take_length] at hlf
      exact ⟨[], ⟨⟨_, rfl, .inr ⟨by (try simp (disch := omega) only [wrap_of] at *); omega, by omega⟩⟩, rfl⟩, (.le fun a => by (try simp only [setR, List.cons_append, List.nil_append]); simp only [List.flatten_append, List.flatten_cons, List.flatten_nil, List.count_append, List.count_nil, List.append_nil, List.nil_append]; omega)⟩

--@ct laws.toAtomS new toAtomS_ct _ _ _ $1 ?_ | %1 | obtain ⟨b#, c#, rfl, o#⟩ := o#
theorem toAtomS_ct (b : Option Addr) (m c : Nat) (xs : List Atom) (hx : szL gAtom xs ≤ 1048576) :
    Ct Try.prog 166 [.slice b m c] [] (fun H => (gSl 147 gAtom).rd H [.slice b m c] xs) (fun v A => ∃ b c, v = .slice b xs.length c ∧ (gSl 147 gAtom).ow [.slice b xs.length c] xs A) := by
  refine Ct.intro0 G_ok Try.func166 rfl rfl rfl fun E H hp => ?_
  obtain ⟨rfl, hcl, hl⟩ := sl_len hp
  have hls := len_szL gAtom xs
  have hq := szL_eq gAtom xs
  refine VCmake.intro ?_ ?_ ?_ ?_ fun x0 => ?_
  · omega
  · omega
  · omega
  · omega
  apply loop_mod (α := (Nat) × (Hp)) G_ok [8, 9, 10, 11, 14, 15, 16, 17, 18, 19, 20, 21, 12, 13, 4] (fun z => [(4, .v (.int .i64 z.1))]) (fun z => []) (fun z => [z.2, H]) (fun z => xs.length - z.1) (fun z => z.1 ≤ xs.length ∧ (gSl 147 gAtom).ow [.slice (some ⟨x0, 0, none⟩) xs.length xs.length] (xs.take z.1 ++ List.replicate (xs.length - z.1) zAtom) z.2) ((0, _))
  · repeat' (first | exact trivial | refine ⟨⟨_, rfl, by first | rfl | exact inc_eq _ (by omega) | (refine sl_eq ?_; simp; done), by first | exact trivial | simp [SV.ok]⟩, ?_⟩)
  · exact trivial
  · try dsimp only
    exact ⟨by omega, by simpa using gmake (g := gAtom) (T := 147) (b := x0) (zAtom_ow) (Nat.le_refl xs.length) (by omega)⟩
  · exact .refl _
  rintro ⟨k, A⟩ hI
  obtain ⟨hk, oA⟩ : k ≤ xs.length ∧ (gSl 147 gAtom).ow [.slice (some ⟨x0, 0, none⟩) xs.length xs.length] (xs.take k ++ List.replicate (xs.length - k) zAtom) A := hI
  try dsimp only
  refine VCsplit.intro (fun q1 => ?_) (fun q1 => ?_)
  ·
    simp at q1
    have hs := szE_step gAtom xs k default (by omega)
    have hs2 := szE_le gAtom xs (k + 1)
    refine idx_rd hp ?_ ?_ fun b2 o2 hb2 => ?_
    · omega
    · omega
    refine load_allN default (k) rfl hp ?_ ?_ hb2 rfl (mem_at 1 rfl) fun l3 hl3 => ?_
    · omega
    · omega
    obtain ⟨rfl, w0x3, w1x3, w2x3⟩ := gAtom_rd.1 hl3
    refine call_new (toAtom_ct _ (xs[k]?.getD default) ?_) (Rp.mono _ (mem_at 1 rfl) hl3) ?_
    · omega
    rintro v4 A4 o4
    obtain ⟨l4, rfl, o4⟩ := o4
    have r4 := Gt.owrd _ o4
    obtain ⟨rfl, w0x4, w1x4, w2x4⟩ := gAtom_rd.1 r4
    refine idx_rd (Gt.owrd _ oA) ?_ ?_ fun b5 o5 hb5 => ?_
    · omega
    · simp; omega
    refine gstore1N (k) (A) (A4) [H] (.le fun a => by (try simp only [setR, List.cons_append, List.nil_append]); simp only [List.flatten_append, List.flatten_cons, List.flatten_nil, List.count_append, List.count_nil, List.append_nil, List.nil_append]; omega) rfl oA ?_ ?_ hb5 rfl _ o4 fun A6 o6 => ?_
    · omega
    · simp; omega
    apply loop_stepA (k + 1, _)
    · exact .refl _
    · repeat' (first | exact trivial | refine ⟨⟨_, rfl, by first | rfl | exact inc_eq _ (by omega) | (refine sl_eq ?_; simp; done), by first | exact trivial | simp [SV.ok]⟩, ?_⟩)
    · exact trivial
    · try dsimp only
      exact ⟨by omega, by rw [← take_stepz xs k default zAtom (by omega)] ; assumption⟩
    · try dsimp only
      omega
  ·
    simp at q1
    obtain rfl : k = xs.length := by omega
    rw [List.take_length, Nat.sub_self, List.replicate_zero, List.append_nil] at oA
    exact ⟨_, ⟨_, _, rfl, oA⟩, (.le fun a => by (try simp only [setR, List.cons_append, List.nil_append]); simp only [List.flatten_append, List.flatten_cons, List.flatten_nil, List.count_append, List.count_nil, List.append_nil, List.nil_append]; omega)⟩

--@ct laws.eqAtomS val eqAtomS_ct _ _ _ _ _ _ $1 $2 | ⟨%1, %2⟩
theorem eqAtomS_ct (b1 : Option Addr) (m1 c1 : Nat) (b2 : Option Addr) (m2 c2 : Nat) (xs ys : List Atom) :
    Ct Try.prog 177 [.slice b1 m1 c1, .slice b2 m2 c2] [] (fun H => (gSl 147 gAtom).rd H [.slice b1 m1 c1] xs ∧ (gSl 147 gAtom).rd H [.slice b2 m2 c2] ys) (fun v A => v = .bool (decide (xs = ys)) ∧ A = []) := by
  refine Ct.intro0 G_ok Try.func177 rfl rfl rfl fun E H hp => ?_
  obtain ⟨hp1, hp2⟩ := hp
  obtain ⟨rfl, hc1, hl1⟩ := sl_len hp1
  obtain ⟨rfl, hc2, hl2⟩ := sl_len hp2
  refine VCsplit.intro (fun q0 => ?_) (fun q0 => ?_)
  ·
    simp at q0
    exact ⟨[], ⟨by rw [decide_eq_false (fun e => by subst e; omega)], rfl⟩, (.le fun a => by (try simp only [setR, List.cons_append, List.nil_append]); simp only [List.flatten_append, List.flatten_cons, List.flatten_nil, List.count_append, List.count_nil, List.append_nil, List.nil_append]; omega)⟩
  ·
    simp at q0
    apply loop_mod (α := (Nat)) G_ok [11, 12, 13, 14, 17, 18, 19, 20, 21, 22, 23, 24, 25, 26, 4, 15, 16, 5] (fun z => [(5, .v (.int .i64 z))]) (fun z => []) (fun z => [H]) (fun z => xs.length - z) (fun z => z ≤ xs.length ∧ xs.take z = ys.take z) (0)
    · repeat' (first | exact trivial | refine ⟨⟨_, rfl, by first | rfl | exact inc_eq _ (by omega) | (refine sl_eq ?_; simp; done), by first | exact trivial | simp [SV.ok]⟩, ?_⟩)
    · exact trivial
    · exact ⟨by omega, by simp⟩
    · exact .refl _
    rintro k hI
    obtain ⟨hk, he⟩ : k ≤ xs.length ∧ xs.take k = ys.take k := hI
    try dsimp only
    refine VCsplit.intro (fun q1 => ?_) (fun q1 => ?_)
    ·
      simp at q1
      refine draw G_ok mixed none (.q 0 (.q 1 (.q 2 (.q 3 (.q 4 (.q 5 (.q 6 (.q 7 (.f 8 (.q 9 (.nil))))))))))) (by decide +kernel) ?_
      refine idx_rd hp1 ?_ ?_ fun b2 o2 hb2 => ?_
      · omega
      · omega
      refine load_allN default (k) rfl hp1 ?_ ?_ hb2 rfl (mem_at 0 rfl) fun l3 hl3 => ?_
      · omega
      · omega
      obtain ⟨rfl, w0x3, w1x3, w2x3⟩ := gAtom_rd.1 hl3
      refine idx_rd hp2 ?_ ?_ fun b4 o4 hb4 => ?_
      · omega
      · omega
      refine load_allN default (k) rfl hp2 ?_ ?_ hb4 rfl (mem_at 0 rfl) fun l5 hl5 => ?_
      · omega
      · omega
      obtain ⟨rfl, w0x5, w1x5, w2x5⟩ := gAtom_rd.1 hl5
      refine call_val (eqAtom_ct _ _ (xs[k]?.getD default) (ys[k]?.getD default)) ⟨(Rp.mono _ (mem_at 0 rfl) hl3), (Rp.mono _ (mem_at 0 rfl) hl5)⟩ ?_
      rintro _ rfl
      refine VC.intro ?_ ?_
      · exact fun _ h => h
      refine VCsplit.intro (fun q7 => ?_) (fun q7 => ?_)
      ·
        simp at q7
        exact ⟨[], ⟨by rw [decide_eq_false (fun e => by subst e; simp at *)], rfl⟩, (.le fun a => by (try simp only [setR, List.cons_append, List.nil_append]); simp only [List.flatten_append, List.flatten_cons, List.flatten_nil, List.count_append, List.count_nil, List.append_nil, List.nil_append]; omega)⟩
      ·
        simp at q7
        apply loop_stepA (k + 1)
        · exact .refl _
        · repeat' (first | exact trivial | refine ⟨⟨_, rfl, by first | rfl | exact inc_eq _ (by omega) | (refine sl_eq ?_; simp; done), by first | exact trivial | simp [SV.ok]⟩, ?_⟩)
        · exact trivial
        · exact ⟨by omega, eq_step default (by omega) he (by omega) (by simpa using ‹_›)⟩
        · omega
    ·
      simp at q1
      exact ⟨[], ⟨by rw [decide_eq_true]; rw [← List.take_length (l := xs), ← List.take_length (l := ys), ← (by omega : xs.length = ys.length), show xs.length = k by omega]; exact he, rfl⟩, (.le fun a => by (try simp only [setR, List.cons_append, List.nil_append]); simp only [List.flatten_append, List.flatten_cons, List.flatten_nil, List.count_append, List.count_nil, List.append_nil, List.nil_append]; omega)⟩

--@ct laws.szFilterS raw refine call_q (szFilterS_ct _ _ _ $1 _ ?_ ?_) %1 ?_ | | rintro _ ⟨r#, rfl, hr#⟩
theorem szFilterS_ct (b : Option Addr) (m c : Nat) (xs : List Filter) (left : Int) (h0 : 0 ≤ left) (h1 : left ≤ 1048576) :
    Ct Try.prog 159 [.slice b m c, .int .i64 left] [] (fun H => (gSl 258 gFilter).rd H [.slice b m c] xs) (fun v A => (∃ r : Int, v = .int .i64 r ∧ ((r = -1 ∧ left < (szL gFilter xs : Int)) ∨ (r = left - (szL gFilter xs : Int) ∧ (szL gFilter xs : Int) ≤ left))) ∧ A = []) := by
  refine Ct.intro0 G_ok Try.func159 rfl rfl rfl fun E H hp => ?_
  obtain ⟨rfl, hcl, hl⟩ := sl_len hp
  have hq := szL_eq gFilter xs
  have ht := List.take_length (l := xs)
  refine VCsplit.intro (fun q0 => ?_) (fun q0 => ?_)
  ·
    simp at q0
    simp (disch := omega) only [wrap_of] at q0
    exact ⟨[], ⟨⟨-1, rfl, .inl ⟨rfl, by (try simp (disch := omega) only [wrap_of] at *); omega⟩⟩, rfl⟩, (.le fun a => by (try simp only [setR, List.cons_append, List.nil_append]); simp only [List.flatten_append, List.flatten_cons, List.flatten_nil, List.count_append, List.count_nil, List.append_nil, List.nil_append]; omega)⟩
  ·
    simp at q0
    simp (disch := omega) only [wrap_of] at q0
    apply loop_mod (α := (Nat) × (Int)) G_ok [12, 13, 14, 15, 18, 19, 20, 21, 22, 23, 1, 24, 25, 4, 16, 17, 5] (fun z => [(5, .v (.int .i64 z.1)), (1, .v (.int .i64 z.2))]) (fun z => []) (fun z => [H]) (fun z => xs.length - z.1) (fun z => z.1 ≤ xs.length ∧ z.2 = left - xs.length - szE gFilter (xs.take z.1) ∧ 0 ≤ z.2) ((0, left - xs.length))
    · repeat' (first | exact trivial | refine ⟨⟨_, rfl, by first | rfl | exact inc_eq _ (by omega) | (refine sl_eq ?_; simp; done) | (simp (disch := omega) only [wrap_of]), by first | exact trivial | simp [SV.ok]⟩, ?_⟩)
    · exact trivial
    · try dsimp only
      exact ⟨by omega, by simp [szE], by omega⟩
    · exact .refl _
    rintro ⟨k, lf⟩ hI
    obtain ⟨hk, hlf, hnn⟩ : k ≤ xs.length ∧ lf = left - xs.length - szE gFilter (xs.take k) ∧ 0 ≤ lf := hI
    try dsimp only
    refine VCsplit.intro (fun q1 => ?_) (fun q1 => ?_)
    ·
      simp at q1
      have hs := szE_step gFilter xs k default (by omega)
      have hs2 := szE_le gFilter xs (k + 1)
      refine idx_rd hp ?_ ?_ fun b2 o2 hb2 => ?_
      · omega
      · omega
      refine load_allN default (k) rfl hp ?_ ?_ hb2 rfl (mem_at 0 rfl) fun l3 hl3 => ?_
      · omega
      · omega
      obtain ⟨rfl, w0x3, w1x3, w2x3, w3x3⟩ := gFilter_rd.1 hl3
      refine call_q (szFilter_ct _ (xs[k]?.getD default) _ ?_ ?_) (Rp.mono _ (mem_at 0 rfl) hl3) ?_
      · trivial
      · omega
      rintro _ ⟨r4, rfl, hr4⟩
      refine VCsplit.intro (fun q5 => ?_) (fun q5 => ?_)
      ·
        simp at q5
        exact ⟨[], ⟨⟨-1, rfl, .inl ⟨rfl, by (try simp (disch := omega) only [wrap_of] at *); omega⟩⟩, rfl⟩, (.le fun a => by (try simp only [setR, List.cons_append, List.nil_append]); simp only [List.flatten_append, List.flatten_cons, List.flatten_nil, List.count_append, List.count_nil, List.append_nil, List.nil_append]; omega)⟩
      ·
        simp at q5
        apply loop_stepA (k + 1, _)
        · exact .refl _
        · repeat' (first | exact trivial | refine ⟨⟨_, rfl, by first | rfl | exact inc_eq _ (by omega) | (refine sl_eq ?_; simp; done) | (simp (disch := omega) only [wrap_of]), by first | exact trivial | simp [SV.ok]⟩, ?_⟩)
        · exact trivial
        · try dsimp only
          ((try simp (disch := omega) only [wrap_of] at *); refine ⟨by omega, by omega, by omega⟩)
        · try dsimp only
          omega
    ·
      simp at q1
      obtain rfl : k = xs.length := by omega
      rw [List.take_length] at hlf
      exact ⟨[], ⟨⟨_, rfl, .inr ⟨by (try simp (disch := omega) only [wrap_of] at *); omega, by omega⟩⟩, rfl⟩, (.le fun a => by (try simp only [setR, List.cons_append, List.nil_append]); simp only [List.flatten_append, List.flatten_cons, List.flatten_nil, List.count_append, List.count_nil, List.append_nil, List.nil_append]; omega)⟩

--@ct laws.toFilterS new toFilterS_ct _ _ _ $1 ?_ | %1 | obtain ⟨b#, c#, rfl, o#⟩ := o#
theorem toFilterS_ct (b : Option Addr) (m c : Nat) (xs : List Filter) (hx : szL gFilter xs ≤ 1048576) :
    Ct Try.prog 167 [.slice b m c] [] (fun H => (gSl 258 gFilter).rd H [.slice b m c] xs) (fun v A => ∃ b c, v = .slice b xs.length c ∧ (gSl 258 gFilter).ow [.slice b xs.length c] xs A) := by
  refine Ct.intro0 G_ok Try.func167 rfl rfl rfl fun E H hp => ?_
  obtain ⟨rfl, hcl, hl⟩ := sl_len hp
  have hls := len_szL gFilter xs
  have hq := szL_eq gFilter xs
  refine VCmake.intro ?_ ?_ ?_ ?_ fun x0 => ?_
  · omega
  · omega
  · omega
  · omega
  apply loop_mod (α := (Nat) × (Hp)) G_ok [8, 9, 10, 11, 14, 15, 16, 17, 18, 19, 20, 21, 12, 13, 4] (fun z => [(4, .v (.int .i64 z.1))]) (fun z => []) (fun z => [z.2, H]) (fun z => xs.length - z.1) (fun z => z.1 ≤ xs.length ∧ (gSl 258 gFilter).ow [.slice (some ⟨x0, 0, none⟩) xs.length xs.length] (xs.take z.1 ++ List.replicate (xs.length - z.1) zFilter) z.2) ((0, _))
  · repeat' (first | exact trivial | refine ⟨⟨_, rfl, by first | rfl | exact inc_eq _ (by omega) | (refine sl_eq ?_; simp; done), by first | exact trivial | simp [SV.ok]⟩, ?_⟩)
  · exact trivial
  · try dsimp only
    exact ⟨by omega, by simpa using gmake (g := gFilter) (T := 258) (b := x0) (zFilter_ow) (Nat.le_refl xs.length) (by omega)⟩
  · exact .refl _
  rintro ⟨k, A⟩ hI
  obtain ⟨hk, oA⟩ : k ≤ xs.length ∧ (gSl 258 gFilter).ow [.slice (some ⟨x0, 0, none⟩) xs.length xs.length] (xs.take k ++ List.replicate (xs.length - k) zFilter) A := hI
  try dsimp only
  refine VCsplit.intro (fun q1 => ?_) (fun q1 => ?_)
  ·
    simp at q1
    have hs := szE_step gFilter xs k default (by omega)
    have hs2 := szE_le gFilter xs (k + 1)
    refine idx_rd hp ?_ ?_ fun b2 o2 hb2 => ?_
    · omega
    · omega
    refine load_allN default (k) rfl hp ?_ ?_ hb2 rfl (mem_at 1 rfl) fun l3 hl3 => ?_
    · omega
    · omega
    obtain ⟨rfl, w0x3, w1x3, w2x3, w3x3⟩ := gFilter_rd.1 hl3
    refine call_new (toFilter_ct _ (xs[k]?.getD default) ?_) (Rp.mono _ (mem_at 1 rfl) hl3) ?_
    · omega
    rintro v4 A4 o4
    obtain ⟨l4, rfl, o4⟩ := o4
    have r4 := Gt.owrd _ o4
    obtain ⟨rfl, w0x4, w1x4, w2x4, w3x4⟩ := gFilter_rd.1 r4
    refine idx_rd (Gt.owrd _ oA) ?_ ?_ fun b5 o5 hb5 => ?_
    · omega
    · simp; omega
    refine gstore1N (k) (A) (A4) [H] (.le fun a => by (try simp only [setR, List.cons_append, List.nil_append]); simp only [List.flatten_append, List.flatten_cons, List.flatten_nil, List.count_append, List.count_nil, List.append_nil, List.nil_append]; omega) rfl oA ?_ ?_ hb5 rfl _ o4 fun A6 o6 => ?_
    · omega
    · simp; omega
    apply loop_stepA (k + 1, _)
    · exact .refl _
    · repeat' (first | exact trivial | refine ⟨⟨_, rfl, by first | rfl | exact inc_eq _ (by omega) | (refine sl_eq ?_; simp; done), by first | exact trivial | simp [SV.ok]⟩, ?_⟩)
    · exact trivial
    · try dsimp only
      exact ⟨by omega, by rw [← take_stepz xs k default zFilter (by omega)] ; assumption⟩
    · try dsimp only
      omega
  ·
    simp at q1
    obtain rfl : k = xs.length := by omega
    rw [List.take_length, Nat.sub_self, List.replicate_zero, List.append_nil] at oA
    exact ⟨_, ⟨_, _, rfl, oA⟩, (.le fun a => by (try simp only [setR, List.cons_append, List.nil_append]); simp only [List.flatten_append, List.flatten_cons, List.flatten_nil, List.count_append, List.count_nil, List.append_nil, List.nil_append]; omega)⟩

--@ct laws.eqFilterS val eqFilterS_ct _ _ _ _ _ _ $1 $2 | ⟨%1, %2⟩
theorem eqFilterS_ct (b1 : Option Addr) (m1 c1 : Nat) (b2 : Option Addr) (m2 c2 : Nat) (xs ys : List Filter) :
    Ct Try.prog 178 [.slice b1 m1 c1, .slice b2 m2 c2] [] (fun H => (gSl 258 gFilter).rd H [.slice b1 m1 c1] xs ∧ (gSl 258 gFilter).rd H [.slice b2 m2 c2] ys) (fun v A => v = .bool (decide (xs = ys)) ∧ A = []) := by
  refine Ct.intro0 G_ok Try.func178 rfl rfl rfl fun E H hp => ?_
  obtain ⟨hp1, hp2⟩ := hp
  obtain ⟨rfl, hc1, hl1⟩ := sl_len hp1
  obtain ⟨rfl, hc2, hl2⟩ := sl_len hp2
  refine VCsplit.intro (fun q0 => ?_) (fun q0 => ?_)
  ·
    simp at q0
    exact ⟨[], ⟨by rw [decide_eq_false (fun e => by subst e; omega)], rfl⟩, (.le fun a => by (try simp only [setR, List.cons_append, List.nil_append]); simp only [List.flatten_append, List.flatten_cons, List.flatten_nil, List.count_append, List.count_nil, List.append_nil, List.nil_append]; omega)⟩
  ·
    simp at q0
    apply loop_mod (α := (Nat)) G_ok [11, 12, 13, 14, 17, 18, 19, 20, 21, 22, 23, 24, 25, 26, 4, 15, 16, 5] (fun z => [(5, .v (.int .i64 z))]) (fun z => []) (fun z => [H]) (fun z => xs.length - z) (fun z => z ≤ xs.length ∧ xs.take z = ys.take z) (0)
    · repeat' (first | exact trivial | refine ⟨⟨_, rfl, by first | rfl | exact inc_eq _ (by omega) | (refine sl_eq ?_; simp; done), by first | exact trivial | simp [SV.ok]⟩, ?_⟩)
    · exact trivial
    · exact ⟨by omega, by simp⟩
    · exact .refl _
    rintro k hI
    obtain ⟨hk, he⟩ : k ≤ xs.length ∧ xs.take k = ys.take k := hI
    try dsimp only
    refine VCsplit.intro (fun q1 => ?_) (fun q1 => ?_)
    ·
      simp at q1
      refine draw G_ok mixed none (.q 0 (.q 1 (.q 2 (.q 3 (.q 4 (.q 5 (.q 6 (.q 7 (.f 8 (.q 9 (.nil))))))))))) (by decide +kernel) ?_
      refine idx_rd hp1 ?_ ?_ fun b2 o2 hb2 => ?_
      · omega
      · omega
      refine load_allN default (k) rfl hp1 ?_ ?_ hb2 rfl (mem_at 0 rfl) fun l3 hl3 => ?_
      · omega
      · omega
      obtain ⟨rfl, w0x3, w1x3, w2x3, w3x3⟩ := gFilter_rd.1 hl3
      refine idx_rd hp2 ?_ ?_ fun b4 o4 hb4 => ?_
      · omega
      · omega
      refine load_allN default (k) rfl hp2 ?_ ?_ hb4 rfl (mem_at 0 rfl) fun l5 hl5 => ?_
      · omega
      · omega
      obtain ⟨rfl, w0x5, w1x5, w2x5, w3x5⟩ := gFilter_rd.1 hl5
      refine call_val (eqFilter_ct _ _ (xs[k]?.getD default) (ys[k]?.getD default)) ⟨(Rp.mono _ (mem_at 0 rfl) hl3), (Rp.mono _ (mem_at 0 rfl) hl5)⟩ ?_
      rintro _ rfl
      refine VC.intro ?_ ?_
      · exact fun _ h => h
      refine VCsplit.intro (fun q7 => ?_) (fun q7 => ?_)
      ·
        simp at q7
        exact ⟨[], ⟨by rw [decide_eq_false (fun e => by subst e; simp at *)], rfl⟩, (.le fun a => by (try simp only [setR, List.cons_append, List.nil_append]); simp only [List.flatten_append, List.flatten_cons, List.flatten_nil, List.count_append, List.count_nil, List.append_nil, List.nil_append]; omega)⟩
      ·
        simp at q7
        apply loop_stepA (k + 1)
        · exact .refl _
        · repeat' (first | exact trivial | refine ⟨⟨_, rfl, by first | rfl | exact inc_eq _ (by omega) | (refine sl_eq ?_; simp; done), by first | exact trivial | simp [SV.ok]⟩, ?_⟩)
        · exact trivial
        · exact ⟨by omega, eq_step default (by omega) he (by omega) (by simpa using ‹_›)⟩
        · omega
    ·
      simp at q1
      exact ⟨[], ⟨by rw [decide_eq_true]; rw [← List.take_length (l := xs), ← List.take_length (l := ys), ← (by omega : xs.length = ys.length), show xs.length = k by omega]; exact he, rfl⟩, (.le fun a => by (try simp only [setR, List.cons_append, List.nil_append]); simp only [List.flatten_append, List.flatten_cons, List.flatten_nil, List.count_append, List.count_nil, List.append_nil, List.nil_append]; omega)⟩

--@ct laws.szQuery raw refine call_q (szQuery_ct _ $1 _ ?_ ?_) %1 ?_ | | rintro _ ⟨r#, rfl, hr#⟩
theorem szQuery_ct (l : List Value) (x : Query) (left : Int) (h0 : 0 ≤ left) (h1 : left ≤ 1048576) :
    Ct Try.prog 93 [.agg ⟨l⟩, .int .i64 left] [] (fun H => gQuery.rd H l x) (fun v A => (∃ r : Int, v = .int .i64 r ∧ ((r = -1 ∧ left < (gQuery.sz x : Int)) ∨ (r = left - (gQuery.sz x : Int) ∧ (gQuery.sz x : Int) ≤ left))) ∧ A = []) := by
  refine Ct.intro0 G_ok Try.func93 rfl rfl rfl fun E H hp => ?_
  obtain ⟨b1, c1, b2, c2, b3, c3, rfl, h1, h2, h3⟩ := gQuery_rd.1 hp
  have hz := gQuery_sz x
  refine VCnew.intro fun x0 => ?_
  refine call_q (szStringS_ct _ _ _ (x.out) _ ?_ ?_) (Rp.mono _ (mem_at 0 rfl) h1) ?_
  · trivial
  · trivial
  rintro _ ⟨r1, rfl, hr1⟩
  refine VCsplit.intro (fun q2 => ?_) (fun q2 => ?_)
  ·
    simp at q2
    exact ⟨[], ⟨⟨-1, rfl, .inl ⟨rfl, by (try simp (disch := omega) only [wrap_of] at *); omega⟩⟩, rfl⟩, (.le fun a => by (try simp only [setR, List.cons_append, List.nil_append]); simp only [List.flatten_append, List.flatten_cons, List.flatten_nil, List.count_append, List.count_nil, List.append_nil, List.nil_append]; omega)⟩
  ·
    simp at q2
    refine call_q (szAtomS_ct _ _ _ (x.atoms) _ ?_ ?_) (Rp.mono _ (mem_at 0 rfl) h2) ?_
    · trivial
    · omega
    rintro _ ⟨r3, rfl, hr3⟩
    refine VCsplit.intro (fun q4 => ?_) (fun q4 => ?_)
    ·
      simp at q4
      exact ⟨[], ⟨⟨-1, rfl, .inl ⟨rfl, by (try simp (disch := omega) only [wrap_of] at *); omega⟩⟩, rfl⟩, (.le fun a => by (try simp only [setR, List.cons_append, List.nil_append]); simp only [List.flatten_append, List.flatten_cons, List.flatten_nil, List.count_append, List.count_nil, List.append_nil, List.nil_append]; omega)⟩
    ·
      simp at q4
      refine call_q (szFilterS_ct _ _ _ (x.filters) _ ?_ ?_) (Rp.mono _ (mem_at 0 rfl) h3) ?_
      · trivial
      · omega
      rintro _ ⟨r5, rfl, hr5⟩
      refine VCsplit.intro (fun q6 => ?_) (fun q6 => ?_)
      ·
        simp at q6
        exact ⟨[], ⟨⟨-1, rfl, .inl ⟨rfl, by (try simp (disch := omega) only [wrap_of] at *); omega⟩⟩, rfl⟩, (.le fun a => by (try simp only [setR, List.cons_append, List.nil_append]); simp only [List.flatten_append, List.flatten_cons, List.flatten_nil, List.count_append, List.count_nil, List.append_nil, List.nil_append]; omega)⟩
      ·
        simp at q6
        exact ⟨[], ⟨⟨_, rfl, .inr ⟨by (try simp (disch := omega) only [wrap_of] at *); omega, by omega⟩⟩, rfl⟩, (.le fun a => by (try simp only [setR, List.cons_append, List.nil_append]); simp only [List.flatten_append, List.flatten_cons, List.flatten_nil, List.count_append, List.count_nil, List.append_nil, List.nil_append]; omega)⟩

--@ct laws.toQuery new toQuery_ct _ $1 ?_ | %1 | obtain ⟨l#, rfl, o#⟩ := o# ;; have r# := Gt.owrd _ o# ;; obtain ⟨b1x#, c1x#, b2x#, c2x#, b3x#, c3x#, rfl, h1x#, h2x#, h3x#⟩ := gQuery_rd.1 r#
theorem toQuery_ct (l : List Value) (x : Query) (hx : gQuery.sz x ≤ 1048576) :
    Ct Try.prog 103 [.agg ⟨l⟩] [] (fun H => gQuery.rd H l x) (fun v A => ∃ l, v = .agg ⟨l⟩ ∧ gQuery.ow l x A) := by
  refine Ct.intro0 G_ok Try.func103 rfl rfl rfl fun E H hp => ?_
  obtain ⟨b1, c1, b2, c2, b3, c3, rfl, h1, h2, h3⟩ := gQuery_rd.1 hp
  have hz := gQuery_sz x
  refine VCnew.intro fun x0 => ?_
  refine VCnew.intro fun x1 => ?_
  refine VCnew.intro fun x2 => ?_
  refine call_new (toStringS_ct _ _ _ (x.out) ?_) (Rp.mono _ (mem_at 0 rfl) h1) ?_
  · omega
  rintro v3 A3 o3
  obtain ⟨b3, c3, rfl, o3⟩ := o3
  refine call_new (toAtomS_ct _ _ _ (x.atoms) ?_) (Rp.mono _ (mem_at 1 rfl) h2) ?_
  · omega
  rintro v4 A4 o4
  obtain ⟨b4, c4, rfl, o4⟩ := o4
  refine call_new (toFilterS_ct _ _ _ (x.filters) ?_) (Rp.mono _ (mem_at 2 rfl) h3) ?_
  · omega
  rintro v5 A5 o5
  obtain ⟨b5, c5, rfl, o5⟩ := o5
  exact ⟨_, ⟨_, rfl, gQuery_ow.2 ⟨_, _, _, _, _, _, _, _, _, rfl, .refl _, by assumption, by assumption, by assumption⟩⟩, (.le fun a => by (try simp only [setR, List.cons_append, List.nil_append]); simp only [List.flatten_append, List.flatten_cons, List.flatten_nil, List.count_append, List.count_nil, List.append_nil, List.nil_append]; omega)⟩

--@ct laws.eqQuery val eqQuery_ct _ _ $1 $2 | ⟨%1, %2⟩
theorem eqQuery_ct (l1 l2 : List Value) (x y : Query) :
    Ct Try.prog 113 [.agg ⟨l1⟩, .agg ⟨l2⟩] [] (fun H => gQuery.rd H l1 x ∧ gQuery.rd H l2 y) (fun v A => v = .bool (decide (x = y)) ∧ A = []) := by
  refine Ct.intro0 G_ok Try.func113 rfl rfl rfl fun E H hp => ?_
  obtain ⟨hp1, hp2⟩ := hp
  obtain ⟨b1p, c1p, b2p, c2p, b3p, c3p, rfl, h1p, h2p, h3p⟩ := gQuery_rd.1 hp1
  obtain ⟨b1q, c1q, b2q, c2q, b3q, c3q, rfl, h1q, h2q, h3q⟩ := gQuery_rd.1 hp2
  refine VCnew.intro fun x0 => ?_
  refine VCnew.intro fun x1 => ?_
  refine VCsplit.intro (fun q2 => ?_) (fun q2 => ?_)
  ·
    simp at q2
    exact ⟨[], ⟨by rw [decide_eq_false (fun e => by subst e; simp at *)], rfl⟩, (.le fun a => by (try simp only [setR, List.cons_append, List.nil_append]); simp only [List.flatten_append, List.flatten_cons, List.flatten_nil, List.count_append, List.count_nil, List.append_nil, List.nil_append]; omega)⟩
  ·
    simp at q2
    refine call_val (eqStringS_ct _ _ _ _ _ _ (x.out) (y.out)) ⟨(Rp.mono _ (mem_at 0 rfl) h1p), (Rp.mono _ (mem_at 0 rfl) h1q)⟩ ?_
    rintro _ rfl
    refine VCsplit.intro (fun q4 => ?_) (fun q4 => ?_)
    ·
      simp at q4
      exact ⟨[], ⟨by rw [decide_eq_false (fun e => by subst e; simp at *)], rfl⟩, (.le fun a => by (try simp only [setR, List.cons_append, List.nil_append]); simp only [List.flatten_append, List.flatten_cons, List.flatten_nil, List.count_append, List.count_nil, List.append_nil, List.nil_append]; omega)⟩
    ·
      simp at q4
      refine call_val (eqAtomS_ct _ _ _ _ _ _ (x.atoms) (y.atoms)) ⟨(Rp.mono _ (mem_at 0 rfl) h2p), (Rp.mono _ (mem_at 0 rfl) h2q)⟩ ?_
      rintro _ rfl
      refine VCsplit.intro (fun q6 => ?_) (fun q6 => ?_)
      ·
        simp at q6
        exact ⟨[], ⟨by rw [decide_eq_false (fun e => by subst e; simp at *)], rfl⟩, (.le fun a => by (try simp only [setR, List.cons_append, List.nil_append]); simp only [List.flatten_append, List.flatten_cons, List.flatten_nil, List.count_append, List.count_nil, List.append_nil, List.nil_append]; omega)⟩
      ·
        simp at q6
        refine call_val (eqFilterS_ct _ _ _ _ _ _ (x.filters) (y.filters)) ⟨(Rp.mono _ (mem_at 0 rfl) h3p), (Rp.mono _ (mem_at 0 rfl) h3q)⟩ ?_
        rintro _ rfl
        refine VCsplit.intro (fun q8 => ?_) (fun q8 => ?_)
        ·
          simp at q8
          exact ⟨[], ⟨by rw [decide_eq_false (fun e => by subst e; simp at *)], rfl⟩, (.le fun a => by (try simp only [setR, List.cons_append, List.nil_append]); simp only [List.flatten_append, List.flatten_cons, List.flatten_nil, List.count_append, List.count_nil, List.append_nil, List.nil_append]; omega)⟩
        ·
          simp at q8
          exact ⟨[], ⟨by rw [decide_eq_true (Query.eq_iff.2 (by simp_all))], rfl⟩, (.le fun a => by (try simp only [setR, List.cons_append, List.nil_append]); simp only [List.flatten_append, List.flatten_cons, List.flatten_nil, List.count_append, List.count_nil, List.append_nil, List.nil_append]; omega)⟩

--@ct laws.szFile raw refine call_q (szFile_ct _ $1 _ ?_ ?_) %1 ?_ | | rintro _ ⟨r#, rfl, hr#⟩
theorem szFile_ct (l : List Value) (x : File) (left : Int) (h0 : 0 ≤ left) (h1 : left ≤ 1048576) :
    Ct Try.prog 204 [.agg ⟨l⟩, .int .i64 left] [] (fun H => gFile.rd H l x) (fun v A => (∃ r : Int, v = .int .i64 r ∧ ((r = -1 ∧ left < (gFile.sz x : Int)) ∨ (r = left - (gFile.sz x : Int) ∧ (gFile.sz x : Int) ≤ left))) ∧ A = []) := by
  refine Ct.intro0 G_ok Try.func204 rfl rfl rfl fun E H hp => ?_
  obtain ⟨rfl, w0, w1, w2⟩ := gFile_rd.1 hp
  have hz := gFile_sz x
  refine VCnew.intro fun x0 => ?_
  refine VCsplit.intro (fun q1 => ?_) (fun q1 => ?_)
  ·
    simp at q1
    simp (disch := omega) only [wrap_of] at q1
    exact ⟨[], ⟨⟨-1, rfl, .inl ⟨rfl, by (try simp (disch := omega) only [wrap_of] at *); omega⟩⟩, rfl⟩, (.le fun a => by (try simp only [setR, List.cons_append, List.nil_append]); simp only [List.flatten_append, List.flatten_cons, List.flatten_nil, List.count_append, List.count_nil, List.append_nil, List.nil_append]; omega)⟩
  ·
    simp at q1
    simp (disch := omega) only [wrap_of] at q1
    refine VCsplit.intro (fun q2 => ?_) (fun q2 => ?_)
    ·
      simp at q2
      simp (disch := omega) only [wrap_of] at q2
      exact ⟨[], ⟨⟨-1, rfl, .inl ⟨rfl, by (try simp (disch := omega) only [wrap_of] at *); omega⟩⟩, rfl⟩, (.le fun a => by (try simp only [setR, List.cons_append, List.nil_append]); simp only [List.flatten_append, List.flatten_cons, List.flatten_nil, List.count_append, List.count_nil, List.append_nil, List.nil_append]; omega)⟩
    ·
      simp at q2
      simp (disch := omega) only [wrap_of] at q2
      exact ⟨[], ⟨⟨_, rfl, .inr ⟨by (try simp (disch := omega) only [wrap_of] at *); omega, by omega⟩⟩, rfl⟩, (.le fun a => by (try simp only [setR, List.cons_append, List.nil_append]); simp only [List.flatten_append, List.flatten_cons, List.flatten_nil, List.count_append, List.count_nil, List.append_nil, List.nil_append]; omega)⟩

--@ct laws.toFile new toFile_ct _ $1 ?_ | %1 | obtain ⟨l#, rfl, o#⟩ := o# ;; have r# := Gt.owrd _ o# ;; obtain ⟨rfl, w0x#, w1x#, w2x#⟩ := gFile_rd.1 r#
theorem toFile_ct (l : List Value) (x : File) (hx : gFile.sz x ≤ 1048576) :
    Ct Try.prog 211 [.agg ⟨l⟩] [] (fun H => gFile.rd H l x) (fun v A => ∃ l, v = .agg ⟨l⟩ ∧ gFile.ow l x A) := by
  refine Ct.intro0 G_ok Try.func211 rfl rfl rfl fun E H hp => ?_
  obtain ⟨rfl, w0, w1, w2⟩ := gFile_rd.1 hp
  have hz := gFile_sz x
  refine VCnew.intro fun x0 => ?_
  refine VCnew.intro fun x1 => ?_
  refine VCnew.intro fun x2 => ?_
  exact ⟨_, ⟨_, rfl, gFile_ow.2 ⟨rfl, .refl _, by assumption, by assumption, by assumption⟩⟩, (.le fun a => by (try simp only [setR, List.cons_append, List.nil_append]); simp only [List.flatten_append, List.flatten_cons, List.flatten_nil, List.count_append, List.count_nil, List.append_nil, List.nil_append]; omega)⟩

--@ct laws.eqFile val eqFile_ct _ _ $1 $2 | ⟨%1, %2⟩
theorem eqFile_ct (l1 l2 : List Value) (x y : File) :
    Ct Try.prog 223 [.agg ⟨l1⟩, .agg ⟨l2⟩] [] (fun H => gFile.rd H l1 x ∧ gFile.rd H l2 y) (fun v A => v = .bool (decide (x = y)) ∧ A = []) := by
  refine Ct.intro0 G_ok Try.func223 rfl rfl rfl fun E H hp => ?_
  obtain ⟨hp1, hp2⟩ := hp
  obtain ⟨rfl, w0p, w1p, w2p⟩ := gFile_rd.1 hp1
  obtain ⟨rfl, w0q, w1q, w2q⟩ := gFile_rd.1 hp2
  refine VCnew.intro fun x0 => ?_
  refine VCnew.intro fun x1 => ?_
  refine VCsplit.intro (fun q2 => ?_) (fun q2 => ?_)
  ·
    simp at q2
    simp only [str_inj, u8_inj, u8_wrap] at q2
    exact ⟨[], ⟨by rw [decide_eq_false (fun e => by subst e; simp at *)], rfl⟩, (.le fun a => by (try simp only [setR, List.cons_append, List.nil_append]); simp only [List.flatten_append, List.flatten_cons, List.flatten_nil, List.count_append, List.count_nil, List.append_nil, List.nil_append]; omega)⟩
  ·
    simp at q2
    simp only [str_inj, u8_inj, u8_wrap] at q2
    refine VCsplit.intro (fun q3 => ?_) (fun q3 => ?_)
    ·
      simp at q3
      simp only [str_inj, u8_inj, u8_wrap] at q3
      exact ⟨[], ⟨by rw [decide_eq_false (fun e => by subst e; simp at *)], rfl⟩, (.le fun a => by (try simp only [setR, List.cons_append, List.nil_append]); simp only [List.flatten_append, List.flatten_cons, List.flatten_nil, List.count_append, List.count_nil, List.append_nil, List.nil_append]; omega)⟩
    ·
      simp at q3
      simp only [str_inj, u8_inj, u8_wrap] at q3
      refine VCsplit.intro (fun q4 => ?_) (fun q4 => ?_)
      ·
        simp at q4
        exact ⟨[], ⟨by rw [decide_eq_false (fun e => by subst e; simp at *)], rfl⟩, (.le fun a => by (try simp only [setR, List.cons_append, List.nil_append]); simp only [List.flatten_append, List.flatten_cons, List.flatten_nil, List.count_append, List.count_nil, List.append_nil, List.nil_append]; omega)⟩
      ·
        simp at q4
        exact ⟨[], ⟨by rw [decide_eq_true (File.eq_iff.2 (by simp_all))], rfl⟩, (.le fun a => by (try simp only [setR, List.cons_append, List.nil_append]); simp only [List.flatten_append, List.flatten_cons, List.flatten_nil, List.count_append, List.count_nil, List.append_nil, List.nil_append]; omega)⟩

--@ct laws.szFileS raw refine call_q (szFileS_ct _ _ _ $1 _ ?_ ?_) %1 ?_ | | rintro _ ⟨r#, rfl, hr#⟩
theorem szFileS_ct (b : Option Addr) (m c : Nat) (xs : List File) (left : Int) (h0 : 0 ≤ left) (h1 : left ≤ 1048576) :
    Ct Try.prog 143 [.slice b m c, .int .i64 left] [] (fun H => (gSl 199 gFile).rd H [.slice b m c] xs) (fun v A => (∃ r : Int, v = .int .i64 r ∧ ((r = -1 ∧ left < (szL gFile xs : Int)) ∨ (r = left - (szL gFile xs : Int) ∧ (szL gFile xs : Int) ≤ left))) ∧ A = []) := by
  refine Ct.intro0 G_ok Try.func143 rfl rfl rfl fun E H hp => ?_
  obtain ⟨rfl, hcl, hl⟩ := sl_len hp
  have hq := szL_eq gFile xs
  have ht := List.take_length (l := xs)
  refine VCsplit.intro (fun q0 => ?_) (fun q0 => ?_)
  ·
    simp at q0
    simp (disch := omega) only [wrap_of] at q0
    exact ⟨[], ⟨⟨-1, rfl, .inl ⟨rfl, by (try simp (disch := omega) only [wrap_of] at *); omega⟩⟩, rfl⟩, (.le fun a => by (try simp only [setR, List.cons_append, List.nil_append]); simp only [List.flatten_append, List.flatten_cons, List.flatten_nil, List.count_append, List.count_nil, List.append_nil, List.nil_append]; omega)⟩
  ·
    simp at q0
    simp (disch := omega) only [wrap_of] at q0
    apply loop_mod (α := (Nat) × (Int)) G_ok [12, 13, 14, 15, 18, 19, 20, 21, 22, 23, 1, 24, 25, 4, 16, 17, 5] (fun z => [(5, .v (.int .i64 z.1)), (1, .v (.int .i64 z.2))]) (fun z => []) (fun z => [H]) (fun z => xs.length - z.1) (fun z => z.1 ≤ xs.length ∧ z.2 = left - xs.length - szE gFile (xs.take z.1) ∧ 0 ≤ z.2) ((0, left - xs.length))
    · repeat' (first | exact trivial | refine ⟨⟨_, rfl, by first | rfl | exact inc_eq _ (by omega) | (refine sl_eq ?_; simp; done) | (simp (disch := omega) only [wrap_of]), by first | exact trivial | simp [SV.ok]⟩, ?_⟩)
    · exact trivial
    · try dsimp only
      exact ⟨by omega, by simp [szE], by omega⟩
    · exact .refl _
    rintro ⟨k, lf⟩ hI
    obtain ⟨hk, hlf, hnn⟩ : k ≤ xs.length ∧ lf = left - xs.length - szE gFile (xs.take k) ∧ 0 ≤ lf := hI
    try dsimp only
    refine VCsplit.intro (fun q1 => ?_) (fun q1 => ?_)
    ·
      simp at q1
      have hs := szE_step gFile xs k default (by omega)
      have hs2 := szE_le gFile xs (k + 1)
      refine idx_rd hp ?_ ?_ fun b2 o2 hb2 => ?_
      · omega
      · omega
      refine load_allN default (k) rfl hp ?_ ?_ hb2 rfl (mem_at 0 rfl) fun l3 hl3 => ?_
      · omega
      · omega
      obtain ⟨rfl, w0x3, w1x3, w2x3⟩ := gFile_rd.1 hl3
      refine call_q (szFile_ct _ (xs[k]?.getD default) _ ?_ ?_) (Rp.mono _ (mem_at 0 rfl) hl3) ?_
      · trivial
      · omega
      rintro _ ⟨r4, rfl, hr4⟩
      refine VCsplit.intro (fun q5 => ?_) (fun q5 => ?_)
      ·
        simp at q5
        exact ⟨[], ⟨⟨-1, rfl, .inl ⟨rfl, by (try simp (disch := omega) only [wrap_of] at *); omega⟩⟩, rfl⟩, (.le fun a => by (try simp only [setR, List.cons_append, List.nil_append]); simp only [List.flatten_append, List.flatten_cons, List.flatten_nil, List.count_append, List.count_nil, List.append_nil, List.nil_append]; omega)⟩
      ·
        simp at q5
        apply loop_stepA (k + 1, _)
        · exact .refl _
        · repeat' (first | exact trivial | refine ⟨⟨_, rfl, by first | rfl | exact inc_eq _ (by omega) | (refine sl_eq ?_; simp; done) | (simp (disch := omega) only [wrap_of]), by first | exact trivial | simp [SV.ok]⟩, ?_⟩)
        · exact trivial
        · try dsimp only
          ((try simp (disch := omega) only [wrap_of] at *); refine ⟨by omega, by omega, by omega⟩)
        · try dsimp only
          omega
    ·
      simp at q1
      obtain rfl : k = xs.length := by omega
      rw [List.take_length] at hlf
      exact ⟨[], ⟨⟨_, rfl, .inr ⟨by (try simp (disch := omega) only [wrap_of] at *); omega, by omega⟩⟩, rfl⟩, (.le fun a => by (try simp only [setR, List.cons_append, List.nil_append]); simp only [List.flatten_append, List.flatten_cons, List.flatten_nil, List.count_append, List.count_nil, List.append_nil, List.nil_append]; omega)⟩

--@ct laws.toFileS new toFileS_ct _ _ _ $1 ?_ | %1 | obtain ⟨b#, c#, rfl, o#⟩ := o#
theorem toFileS_ct (b : Option Addr) (m c : Nat) (xs : List File) (hx : szL gFile xs ≤ 1048576) :
    Ct Try.prog 150 [.slice b m c] [] (fun H => (gSl 199 gFile).rd H [.slice b m c] xs) (fun v A => ∃ b c, v = .slice b xs.length c ∧ (gSl 199 gFile).ow [.slice b xs.length c] xs A) := by
  refine Ct.intro0 G_ok Try.func150 rfl rfl rfl fun E H hp => ?_
  obtain ⟨rfl, hcl, hl⟩ := sl_len hp
  have hls := len_szL gFile xs
  have hq := szL_eq gFile xs
  refine VCmake.intro ?_ ?_ ?_ ?_ fun x0 => ?_
  · omega
  · omega
  · omega
  · omega
  apply loop_mod (α := (Nat) × (Hp)) G_ok [8, 9, 10, 11, 14, 15, 16, 17, 18, 19, 20, 21, 12, 13, 4] (fun z => [(4, .v (.int .i64 z.1))]) (fun z => []) (fun z => [z.2, H]) (fun z => xs.length - z.1) (fun z => z.1 ≤ xs.length ∧ (gSl 199 gFile).ow [.slice (some ⟨x0, 0, none⟩) xs.length xs.length] (xs.take z.1 ++ List.replicate (xs.length - z.1) zFile) z.2) ((0, _))
  · repeat' (first | exact trivial | refine ⟨⟨_, rfl, by first | rfl | exact inc_eq _ (by omega) | (refine sl_eq ?_; simp; done), by first | exact trivial | simp [SV.ok]⟩, ?_⟩)
  · exact trivial
  · try dsimp only
    exact ⟨by omega, by simpa using gmake (g := gFile) (T := 199) (b := x0) (zFile_ow) (Nat.le_refl xs.length) (by omega)⟩
  · exact .refl _
  rintro ⟨k, A⟩ hI
  obtain ⟨hk, oA⟩ : k ≤ xs.length ∧ (gSl 199 gFile).ow [.slice (some ⟨x0, 0, none⟩) xs.length xs.length] (xs.take k ++ List.replicate (xs.length - k) zFile) A := hI
  try dsimp only
  refine VCsplit.intro (fun q1 => ?_) (fun q1 => ?_)
  ·
    simp at q1
    have hs := szE_step gFile xs k default (by omega)
    have hs2 := szE_le gFile xs (k + 1)
    refine idx_rd hp ?_ ?_ fun b2 o2 hb2 => ?_
    · omega
    · omega
    refine load_allN default (k) rfl hp ?_ ?_ hb2 rfl (mem_at 1 rfl) fun l3 hl3 => ?_
    · omega
    · omega
    obtain ⟨rfl, w0x3, w1x3, w2x3⟩ := gFile_rd.1 hl3
    refine call_new (toFile_ct _ (xs[k]?.getD default) ?_) (Rp.mono _ (mem_at 1 rfl) hl3) ?_
    · omega
    rintro v4 A4 o4
    obtain ⟨l4, rfl, o4⟩ := o4
    have r4 := Gt.owrd _ o4
    obtain ⟨rfl, w0x4, w1x4, w2x4⟩ := gFile_rd.1 r4
    refine idx_rd (Gt.owrd _ oA) ?_ ?_ fun b5 o5 hb5 => ?_
    · omega
    · simp; omega
    refine gstore1N (k) (A) (A4) [H] (.le fun a => by (try simp only [setR, List.cons_append, List.nil_append]); simp only [List.flatten_append, List.flatten_cons, List.flatten_nil, List.count_append, List.count_nil, List.append_nil, List.nil_append]; omega) rfl oA ?_ ?_ hb5 rfl _ o4 fun A6 o6 => ?_
    · omega
    · simp; omega
    apply loop_stepA (k + 1, _)
    · exact .refl _
    · repeat' (first | exact trivial | refine ⟨⟨_, rfl, by first | rfl | exact inc_eq _ (by omega) | (refine sl_eq ?_; simp; done), by first | exact trivial | simp [SV.ok]⟩, ?_⟩)
    · exact trivial
    · try dsimp only
      exact ⟨by omega, by rw [← take_stepz xs k default zFile (by omega)] ; assumption⟩
    · try dsimp only
      omega
  ·
    simp at q1
    obtain rfl : k = xs.length := by omega
    rw [List.take_length, Nat.sub_self, List.replicate_zero, List.append_nil] at oA
    exact ⟨_, ⟨_, _, rfl, oA⟩, (.le fun a => by (try simp only [setR, List.cons_append, List.nil_append]); simp only [List.flatten_append, List.flatten_cons, List.flatten_nil, List.count_append, List.count_nil, List.append_nil, List.nil_append]; omega)⟩

--@ct laws.eqFileS val eqFileS_ct _ _ _ _ _ _ $1 $2 | ⟨%1, %2⟩
theorem eqFileS_ct (b1 : Option Addr) (m1 c1 : Nat) (b2 : Option Addr) (m2 c2 : Nat) (xs ys : List File) :
    Ct Try.prog 156 [.slice b1 m1 c1, .slice b2 m2 c2] [] (fun H => (gSl 199 gFile).rd H [.slice b1 m1 c1] xs ∧ (gSl 199 gFile).rd H [.slice b2 m2 c2] ys) (fun v A => v = .bool (decide (xs = ys)) ∧ A = []) := by
  refine Ct.intro0 G_ok Try.func156 rfl rfl rfl fun E H hp => ?_
  obtain ⟨hp1, hp2⟩ := hp
  obtain ⟨rfl, hc1, hl1⟩ := sl_len hp1
  obtain ⟨rfl, hc2, hl2⟩ := sl_len hp2
  refine VCsplit.intro (fun q0 => ?_) (fun q0 => ?_)
  ·
    simp at q0
    exact ⟨[], ⟨by rw [decide_eq_false (fun e => by subst e; omega)], rfl⟩, (.le fun a => by (try simp only [setR, List.cons_append, List.nil_append]); simp only [List.flatten_append, List.flatten_cons, List.flatten_nil, List.count_append, List.count_nil, List.append_nil, List.nil_append]; omega)⟩
  ·
    simp at q0
    apply loop_mod (α := (Nat)) G_ok [11, 12, 13, 14, 17, 18, 19, 20, 21, 22, 23, 24, 25, 26, 4, 15, 16, 5] (fun z => [(5, .v (.int .i64 z))]) (fun z => []) (fun z => [H]) (fun z => xs.length - z) (fun z => z ≤ xs.length ∧ xs.take z = ys.take z) (0)
    · repeat' (first | exact trivial | refine ⟨⟨_, rfl, by first | rfl | exact inc_eq _ (by omega) | (refine sl_eq ?_; simp; done), by first | exact trivial | simp [SV.ok]⟩, ?_⟩)
    · exact trivial
    · exact ⟨by omega, by simp⟩
    · exact .refl _
    rintro k hI
    obtain ⟨hk, he⟩ : k ≤ xs.length ∧ xs.take k = ys.take k := hI
    try dsimp only
    refine VCsplit.intro (fun q1 => ?_) (fun q1 => ?_)
    ·
      simp at q1
      refine draw G_ok mixed none (.q 0 (.q 1 (.q 2 (.q 3 (.q 4 (.q 5 (.q 6 (.q 7 (.f 8 (.q 9 (.nil))))))))))) (by decide +kernel) ?_
      refine idx_rd hp1 ?_ ?_ fun b2 o2 hb2 => ?_
      · omega
      · omega
      refine load_allN default (k) rfl hp1 ?_ ?_ hb2 rfl (mem_at 0 rfl) fun l3 hl3 => ?_
      · omega
      · omega
      obtain ⟨rfl, w0x3, w1x3, w2x3⟩ := gFile_rd.1 hl3
      refine idx_rd hp2 ?_ ?_ fun b4 o4 hb4 => ?_
      · omega
      · omega
      refine load_allN default (k) rfl hp2 ?_ ?_ hb4 rfl (mem_at 0 rfl) fun l5 hl5 => ?_
      · omega
      · omega
      obtain ⟨rfl, w0x5, w1x5, w2x5⟩ := gFile_rd.1 hl5
      refine call_val (eqFile_ct _ _ (xs[k]?.getD default) (ys[k]?.getD default)) ⟨(Rp.mono _ (mem_at 0 rfl) hl3), (Rp.mono _ (mem_at 0 rfl) hl5)⟩ ?_
      rintro _ rfl
      refine VC.intro ?_ ?_
      · exact fun _ h => h
      refine VCsplit.intro (fun q7 => ?_) (fun q7 => ?_)
      ·
        simp at q7
        exact ⟨[], ⟨by rw [decide_eq_false (fun e => by subst e; simp at *)], rfl⟩, (.le fun a => by (try simp only [setR, List.cons_append, List.nil_append]); simp only [List.flatten_append, List.flatten_cons, List.flatten_nil, List.count_append, List.count_nil, List.append_nil, List.nil_append]; omega)⟩
      ·
        simp at q7
        apply loop_stepA (k + 1)
        · exact .refl _
        · repeat' (first | exact trivial | refine ⟨⟨_, rfl, by first | rfl | exact inc_eq _ (by omega) | (refine sl_eq ?_; simp; done), by first | exact trivial | simp [SV.ok]⟩, ?_⟩)
        · exact trivial
        · exact ⟨by omega, eq_step default (by omega) he (by omega) (by simpa using ‹_›)⟩
        · omega
    ·
      simp at q1
      exact ⟨[], ⟨by rw [decide_eq_true]; rw [← List.take_length (l := xs), ← List.take_length (l := ys), ← (by omega : xs.length = ys.length), show xs.length = k by omega]; exact he, rfl⟩, (.le fun a => by (try simp only [setR, List.cons_append, List.nil_append]); simp only [List.flatten_append, List.flatten_cons, List.flatten_nil, List.count_append, List.count_nil, List.append_nil, List.nil_append]; omega)⟩

--@ct laws.szDisk raw refine call_q (szDisk_ct _ $1 _ ?_ ?_) %1 ?_ | | rintro _ ⟨r#, rfl, hr#⟩
theorem szDisk_ct (l : List Value) (x : Disk) (left : Int) (h0 : 0 ≤ left) (h1 : left ≤ 1048576) :
    Ct Try.prog 82 [.agg ⟨l⟩, .int .i64 left] [] (fun H => gDisk.rd H l x) (fun v A => (∃ r : Int, v = .int .i64 r ∧ ((r = -1 ∧ left < (gDisk.sz x : Int)) ∨ (r = left - (gDisk.sz x : Int) ∧ (gDisk.sz x : Int) ≤ left))) ∧ A = []) := by
  refine Ct.intro0 G_ok Try.func82 rfl rfl rfl fun E H hp => ?_
  obtain ⟨b0, c0, rfl, h0⟩ := gDisk_rd.1 hp
  have hz := gDisk_sz x
  refine VCnew.intro fun x0 => ?_
  refine call_q (szFileS_ct _ _ _ (x.files) _ ?_ ?_) (Rp.mono _ (mem_at 0 rfl) h0) ?_
  · trivial
  · trivial
  rintro _ ⟨r1, rfl, hr1⟩
  refine VCsplit.intro (fun q2 => ?_) (fun q2 => ?_)
  ·
    simp at q2
    exact ⟨[], ⟨⟨-1, rfl, .inl ⟨rfl, by (try simp (disch := omega) only [wrap_of] at *); omega⟩⟩, rfl⟩, (.le fun a => by (try simp only [setR, List.cons_append, List.nil_append]); simp only [List.flatten_append, List.flatten_cons, List.flatten_nil, List.count_append, List.count_nil, List.append_nil, List.nil_append]; omega)⟩
  ·
    simp at q2
    exact ⟨[], ⟨⟨_, rfl, .inr ⟨by (try simp (disch := omega) only [wrap_of] at *); omega, by omega⟩⟩, rfl⟩, (.le fun a => by (try simp only [setR, List.cons_append, List.nil_append]); simp only [List.flatten_append, List.flatten_cons, List.flatten_nil, List.count_append, List.count_nil, List.append_nil, List.nil_append]; omega)⟩

--@ct laws.toDisk new toDisk_ct _ $1 ?_ | %1 | obtain ⟨l#, rfl, o#⟩ := o# ;; have r# := Gt.owrd _ o# ;; obtain ⟨b0x#, c0x#, rfl, h0x#⟩ := gDisk_rd.1 r#
theorem toDisk_ct (l : List Value) (x : Disk) (hx : gDisk.sz x ≤ 1048576) :
    Ct Try.prog 85 [.agg ⟨l⟩] [] (fun H => gDisk.rd H l x) (fun v A => ∃ l, v = .agg ⟨l⟩ ∧ gDisk.ow l x A) := by
  refine Ct.intro0 G_ok Try.func85 rfl rfl rfl fun E H hp => ?_
  obtain ⟨b0, c0, rfl, h0⟩ := gDisk_rd.1 hp
  have hz := gDisk_sz x
  refine VCnew.intro fun x0 => ?_
  refine VCnew.intro fun x1 => ?_
  refine VCnew.intro fun x2 => ?_
  refine call_new (toFileS_ct _ _ _ (x.files) ?_) (Rp.mono _ (mem_at 0 rfl) h0) ?_
  · trivial
  rintro v3 A3 o3
  obtain ⟨b3, c3, rfl, o3⟩ := o3
  exact ⟨_, ⟨_, rfl, gDisk_ow.2 ⟨_, _, _, rfl, .refl _, by assumption⟩⟩, (.le fun a => by (try simp only [setR, List.cons_append, List.nil_append]); simp only [List.flatten_append, List.flatten_cons, List.flatten_nil, List.count_append, List.count_nil, List.append_nil, List.nil_append]; omega)⟩

--@ct laws.eqDisk val eqDisk_ct _ _ $1 $2 | ⟨%1, %2⟩
theorem eqDisk_ct (l1 l2 : List Value) (x y : Disk) :
    Ct Try.prog 89 [.agg ⟨l1⟩, .agg ⟨l2⟩] [] (fun H => gDisk.rd H l1 x ∧ gDisk.rd H l2 y) (fun v A => v = .bool (decide (x = y)) ∧ A = []) := by
  refine Ct.intro0 G_ok Try.func89 rfl rfl rfl fun E H hp => ?_
  obtain ⟨hp1, hp2⟩ := hp
  obtain ⟨b0p, c0p, rfl, h0p⟩ := gDisk_rd.1 hp1
  obtain ⟨b0q, c0q, rfl, h0q⟩ := gDisk_rd.1 hp2
  refine VCnew.intro fun x0 => ?_
  refine VCnew.intro fun x1 => ?_
  refine call_val (eqFileS_ct _ _ _ _ _ _ (x.files) (y.files)) ⟨(Rp.mono _ (mem_at 0 rfl) h0p), (Rp.mono _ (mem_at 0 rfl) h0q)⟩ ?_
  rintro _ rfl
  refine VCsplit.intro (fun q3 => ?_) (fun q3 => ?_)
  ·
    simp at q3
    exact ⟨[], ⟨by rw [decide_eq_false (fun e => by subst e; simp at *)], rfl⟩, (.le fun a => by (try simp only [setR, List.cons_append, List.nil_append]); simp only [List.flatten_append, List.flatten_cons, List.flatten_nil, List.count_append, List.count_nil, List.append_nil, List.nil_append]; omega)⟩
  ·
    simp at q3
    exact ⟨[], ⟨by rw [decide_eq_true (Disk.eq_iff.2 (by simp_all))], rfl⟩, (.le fun a => by (try simp only [setR, List.cons_append, List.nil_append]); simp only [List.flatten_append, List.flatten_cons, List.flatten_nil, List.count_append, List.count_nil, List.append_nil, List.nil_append]; omega)⟩

--@ct laws.eqLink val eqLink_ct _ _ $1 $2 | ⟨%1, %2⟩
theorem eqLink_ct (l1 l2 : List Value) (x y : Link) :
    Ct Try.prog 142 [.agg ⟨l1⟩, .agg ⟨l2⟩] [] (fun H => gLink.rd H l1 x ∧ gLink.rd H l2 y) (fun v A => v = .bool (decide (x = y)) ∧ A = []) := by
  refine Ct.intro0 G_ok Try.func142 rfl rfl rfl fun E H hp => ?_
  obtain ⟨hp1, hp2⟩ := hp
  obtain ⟨b0p, c0p, rfl, h0p, w1p, w2p⟩ := gLink_rd.1 hp1
  obtain ⟨b0q, c0q, rfl, h0q, w1q, w2q⟩ := gLink_rd.1 hp2
  refine VCnew.intro fun x0 => ?_
  refine VCnew.intro fun x1 => ?_
  refine call_val (eqStringS_ct _ _ _ _ _ _ (x.sent) (y.sent)) ⟨(Rp.mono _ (mem_at 0 rfl) h0p), (Rp.mono _ (mem_at 0 rfl) h0q)⟩ ?_
  rintro _ rfl
  refine VCsplit.intro (fun q3 => ?_) (fun q3 => ?_)
  ·
    simp at q3
    exact ⟨[], ⟨by rw [decide_eq_false (fun e => by subst e; simp at *)], rfl⟩, (.le fun a => by (try simp only [setR, List.cons_append, List.nil_append]); simp only [List.flatten_append, List.flatten_cons, List.flatten_nil, List.count_append, List.count_nil, List.append_nil, List.nil_append]; omega)⟩
  ·
    simp at q3
    refine VCsplit.intro (fun q4 => ?_) (fun q4 => ?_)
    ·
      simp at q4
      exact ⟨[], ⟨by rw [decide_eq_false (fun e => by subst e; simp at *)], rfl⟩, (.le fun a => by (try simp only [setR, List.cons_append, List.nil_append]); simp only [List.flatten_append, List.flatten_cons, List.flatten_nil, List.count_append, List.count_nil, List.append_nil, List.nil_append]; omega)⟩
    ·
      simp at q4
      refine VCsplit.intro (fun q5 => ?_) (fun q5 => ?_)
      ·
        simp at q5
        exact ⟨[], ⟨by rw [decide_eq_false (fun e => by subst e; simp at *)], rfl⟩, (.le fun a => by (try simp only [setR, List.cons_append, List.nil_append]); simp only [List.flatten_append, List.flatten_cons, List.flatten_nil, List.count_append, List.count_nil, List.append_nil, List.nil_append]; omega)⟩
      ·
        simp at q5
        exact ⟨[], ⟨by rw [decide_eq_true (Link.eq_iff.2 (by simp_all))], rfl⟩, (.le fun a => by (try simp only [setR, List.cons_append, List.nil_append]); simp only [List.flatten_append, List.flatten_cons, List.flatten_nil, List.count_append, List.count_nil, List.append_nil, List.nil_append]; omega)⟩

--@ct laws.szPush raw refine call_q (szPush_ct _ $1 _ ?_ ?_) %1 ?_ | | rintro _ ⟨r#, rfl, hr#⟩
theorem szPush_ct (l : List Value) (x : Push) (left : Int) (h0 : 0 ≤ left) (h1 : left ≤ 1048576) :
    Ct Try.prog 66 [.agg ⟨l⟩, .int .i64 left] [] (fun H => gPush.rd H l x) (fun v A => (∃ r : Int, v = .int .i64 r ∧ ((r = -1 ∧ left < (gPush.sz x : Int)) ∨ (r = left - (gPush.sz x : Int) ∧ (gPush.sz x : Int) ≤ left))) ∧ A = []) := by
  refine Ct.intro0 G_ok Try.func66 rfl rfl rfl fun E H hp => ?_
  obtain ⟨rfl, w0, w1, w2, w3⟩ := gPush_rd.1 hp
  have hz := gPush_sz x
  refine VCnew.intro fun x0 => ?_
  refine VCsplit.intro (fun q1 => ?_) (fun q1 => ?_)
  ·
    simp at q1
    simp (disch := omega) only [wrap_of] at q1
    exact ⟨[], ⟨⟨-1, rfl, .inl ⟨rfl, by (try simp (disch := omega) only [wrap_of] at *); omega⟩⟩, rfl⟩, (.le fun a => by (try simp only [setR, List.cons_append, List.nil_append]); simp only [List.flatten_append, List.flatten_cons, List.flatten_nil, List.count_append, List.count_nil, List.append_nil, List.nil_append]; omega)⟩
  ·
    simp at q1
    simp (disch := omega) only [wrap_of] at q1
    exact ⟨[], ⟨⟨_, rfl, .inr ⟨by (try simp (disch := omega) only [wrap_of] at *); omega, by omega⟩⟩, rfl⟩, (.le fun a => by (try simp only [setR, List.cons_append, List.nil_append]); simp only [List.flatten_append, List.flatten_cons, List.flatten_nil, List.count_append, List.count_nil, List.append_nil, List.nil_append]; omega)⟩

--@ct laws.toPush new toPush_ct _ $1 ?_ | %1 | obtain ⟨l#, rfl, o#⟩ := o# ;; have r# := Gt.owrd _ o# ;; obtain ⟨rfl, w0x#, w1x#, w2x#, w3x#⟩ := gPush_rd.1 r#
theorem toPush_ct (l : List Value) (x : Push) (hx : gPush.sz x ≤ 1048576) :
    Ct Try.prog 67 [.agg ⟨l⟩] [] (fun H => gPush.rd H l x) (fun v A => ∃ l, v = .agg ⟨l⟩ ∧ gPush.ow l x A) := by
  refine Ct.intro0 G_ok Try.func67 rfl rfl rfl fun E H hp => ?_
  obtain ⟨rfl, w0, w1, w2, w3⟩ := gPush_rd.1 hp
  have hz := gPush_sz x
  refine VCnew.intro fun x0 => ?_
  refine VCnew.intro fun x1 => ?_
  refine VCnew.intro fun x2 => ?_
  exact ⟨_, ⟨_, rfl, gPush_ow.2 ⟨rfl, .refl _, by assumption, by assumption, by assumption, by assumption⟩⟩, (.le fun a => by (try simp only [setR, List.cons_append, List.nil_append]); simp only [List.flatten_append, List.flatten_cons, List.flatten_nil, List.count_append, List.count_nil, List.append_nil, List.nil_append]; omega)⟩

--@ct laws.eqPush val eqPush_ct _ _ $1 $2 | ⟨%1, %2⟩
theorem eqPush_ct (l1 l2 : List Value) (x y : Push) :
    Ct Try.prog 72 [.agg ⟨l1⟩, .agg ⟨l2⟩] [] (fun H => gPush.rd H l1 x ∧ gPush.rd H l2 y) (fun v A => v = .bool (decide (x = y)) ∧ A = []) := by
  refine Ct.intro0 G_ok Try.func72 rfl rfl rfl fun E H hp => ?_
  obtain ⟨hp1, hp2⟩ := hp
  obtain ⟨rfl, w0p, w1p, w2p, w3p⟩ := gPush_rd.1 hp1
  obtain ⟨rfl, w0q, w1q, w2q, w3q⟩ := gPush_rd.1 hp2
  refine VCnew.intro fun x0 => ?_
  refine VCnew.intro fun x1 => ?_
  refine VCsplit.intro (fun q2 => ?_) (fun q2 => ?_)
  ·
    simp at q2
    exact ⟨[], ⟨by rw [decide_eq_false (fun e => by subst e; simp at *)], rfl⟩, (.le fun a => by (try simp only [setR, List.cons_append, List.nil_append]); simp only [List.flatten_append, List.flatten_cons, List.flatten_nil, List.count_append, List.count_nil, List.append_nil, List.nil_append]; omega)⟩
  ·
    simp at q2
    refine VCsplit.intro (fun q3 => ?_) (fun q3 => ?_)
    ·
      simp at q3
      exact ⟨[], ⟨by rw [decide_eq_false (fun e => by subst e; simp at *)], rfl⟩, (.le fun a => by (try simp only [setR, List.cons_append, List.nil_append]); simp only [List.flatten_append, List.flatten_cons, List.flatten_nil, List.count_append, List.count_nil, List.append_nil, List.nil_append]; omega)⟩
    ·
      simp at q3
      refine VCsplit.intro (fun q4 => ?_) (fun q4 => ?_)
      ·
        simp at q4
        exact ⟨[], ⟨by rw [decide_eq_false (fun e => by subst e; simp at *)], rfl⟩, (.le fun a => by (try simp only [setR, List.cons_append, List.nil_append]); simp only [List.flatten_append, List.flatten_cons, List.flatten_nil, List.count_append, List.count_nil, List.append_nil, List.nil_append]; omega)⟩
      ·
        simp at q4
        refine VCsplit.intro (fun q5 => ?_) (fun q5 => ?_)
        ·
          simp at q5
          simp only [str_inj, u8_inj, u8_wrap] at q5
          exact ⟨[], ⟨by rw [decide_eq_false (fun e => by subst e; simp at *)], rfl⟩, (.le fun a => by (try simp only [setR, List.cons_append, List.nil_append]); simp only [List.flatten_append, List.flatten_cons, List.flatten_nil, List.count_append, List.count_nil, List.append_nil, List.nil_append]; omega)⟩
        ·
          simp at q5
          simp only [str_inj, u8_inj, u8_wrap] at q5
          exact ⟨[], ⟨by rw [decide_eq_true (Push.eq_iff.2 (by simp_all))], rfl⟩, (.le fun a => by (try simp only [setR, List.cons_append, List.nil_append]); simp only [List.flatten_append, List.flatten_cons, List.flatten_nil, List.count_append, List.count_nil, List.append_nil, List.nil_append]; omega)⟩

--@ct laws.eqLinkS val eqLinkS_ct _ _ _ _ _ _ $1 $2 | ⟨%1, %2⟩
theorem eqLinkS_ct (b1 : Option Addr) (m1 c1 : Nat) (b2 : Option Addr) (m2 c2 : Nat) (xs ys : List Link) :
    Ct Try.prog 68 [.slice b1 m1 c1, .slice b2 m2 c2] [] (fun H => (gSl 45 gLink).rd H [.slice b1 m1 c1] xs ∧ (gSl 45 gLink).rd H [.slice b2 m2 c2] ys) (fun v A => v = .bool (decide (xs = ys)) ∧ A = []) := by
  refine Ct.intro0 G_ok Try.func68 rfl rfl rfl fun E H hp => ?_
  obtain ⟨hp1, hp2⟩ := hp
  obtain ⟨rfl, hc1, hl1⟩ := sl_len hp1
  obtain ⟨rfl, hc2, hl2⟩ := sl_len hp2
  refine VCsplit.intro (fun q0 => ?_) (fun q0 => ?_)
  ·
    simp at q0
    exact ⟨[], ⟨by rw [decide_eq_false (fun e => by subst e; omega)], rfl⟩, (.le fun a => by (try simp only [setR, List.cons_append, List.nil_append]); simp only [List.flatten_append, List.flatten_cons, List.flatten_nil, List.count_append, List.count_nil, List.append_nil, List.nil_append]; omega)⟩
  ·
    simp at q0
    apply loop_mod (α := (Nat)) G_ok [11, 12, 13, 14, 17, 18, 19, 20, 21, 22, 23, 24, 25, 26, 4, 15, 16, 5] (fun z => [(5, .v (.int .i64 z))]) (fun z => []) (fun z => [H]) (fun z => xs.length - z) (fun z => z ≤ xs.length ∧ xs.take z = ys.take z) (0)
    · repeat' (first | exact trivial | refine ⟨⟨_, rfl, by first | rfl | exact inc_eq _ (by omega) | (refine sl_eq ?_; simp; done), by first | exact trivial | simp [SV.ok]⟩, ?_⟩)
    · exact trivial
    · exact ⟨by omega, by simp⟩
    · exact .refl _
    rintro k hI
    obtain ⟨hk, he⟩ : k ≤ xs.length ∧ xs.take k = ys.take k := hI
    try dsimp only
    refine VCsplit.intro (fun q1 => ?_) (fun q1 => ?_)
    ·
      simp at q1
      refine draw G_ok mixed none (.q 0 (.q 1 (.q 2 (.q 3 (.q 4 (.q 5 (.q 6 (.q 7 (.f 8 (.q 9 (.nil))))))))))) (by decide +kernel) ?_
      refine idx_rd hp1 ?_ ?_ fun b2 o2 hb2 => ?_
      · omega
      · omega
      refine load_allN default (k) rfl hp1 ?_ ?_ hb2 rfl (mem_at 0 rfl) fun l3 hl3 => ?_
      · omega
      · omega
      obtain ⟨b0x3, c0x3, rfl, h0x3, w1x3, w2x3⟩ := gLink_rd.1 hl3
      refine idx_rd hp2 ?_ ?_ fun b4 o4 hb4 => ?_
      · omega
      · omega
      refine load_allN default (k) rfl hp2 ?_ ?_ hb4 rfl (mem_at 0 rfl) fun l5 hl5 => ?_
      · omega
      · omega
      obtain ⟨b0x5, c0x5, rfl, h0x5, w1x5, w2x5⟩ := gLink_rd.1 hl5
      refine call_val (eqLink_ct _ _ (xs[k]?.getD default) (ys[k]?.getD default)) ⟨(Rp.mono _ (mem_at 0 rfl) hl3), (Rp.mono _ (mem_at 0 rfl) hl5)⟩ ?_
      rintro _ rfl
      refine VC.intro ?_ ?_
      · exact fun _ h => h
      refine VCsplit.intro (fun q7 => ?_) (fun q7 => ?_)
      ·
        simp at q7
        exact ⟨[], ⟨by rw [decide_eq_false (fun e => by subst e; simp at *)], rfl⟩, (.le fun a => by (try simp only [setR, List.cons_append, List.nil_append]); simp only [List.flatten_append, List.flatten_cons, List.flatten_nil, List.count_append, List.count_nil, List.append_nil, List.nil_append]; omega)⟩
      ·
        simp at q7
        apply loop_stepA (k + 1)
        · exact .refl _
        · repeat' (first | exact trivial | refine ⟨⟨_, rfl, by first | rfl | exact inc_eq _ (by omega) | (refine sl_eq ?_; simp; done), by first | exact trivial | simp [SV.ok]⟩, ?_⟩)
        · exact trivial
        · exact ⟨by omega, eq_step default (by omega) he (by omega) (by simpa using ‹_›)⟩
        · omega
    ·
      simp at q1
      exact ⟨[], ⟨by rw [decide_eq_true]; rw [← List.take_length (l := xs), ← List.take_length (l := ys), ← (by omega : xs.length = ys.length), show xs.length = k by omega]; exact he, rfl⟩, (.le fun a => by (try simp only [setR, List.cons_append, List.nil_append]); simp only [List.flatten_append, List.flatten_cons, List.flatten_nil, List.count_append, List.count_nil, List.append_nil, List.nil_append]; omega)⟩

--@ct laws.eqStringSS val eqStringSS_ct _ _ _ _ _ _ $1 $2 | ⟨%1, %2⟩
theorem eqStringSS_ct (b1 : Option Addr) (m1 c1 : Nat) (b2 : Option Addr) (m2 c2 : Nat) (xs ys : List (List ByteArray)) :
    Ct Try.prog 70 [.slice b1 m1 c1, .slice b2 m2 c2] [] (fun H => (gSl 27 (gSl 9 gS)).rd H [.slice b1 m1 c1] xs ∧ (gSl 27 (gSl 9 gS)).rd H [.slice b2 m2 c2] ys) (fun v A => v = .bool (decide (xs = ys)) ∧ A = []) := by
  refine Ct.intro0 G_ok Try.func70 rfl rfl rfl fun E H hp => ?_
  obtain ⟨hp1, hp2⟩ := hp
  obtain ⟨rfl, hc1, hl1⟩ := sl_len hp1
  obtain ⟨rfl, hc2, hl2⟩ := sl_len hp2
  refine VCsplit.intro (fun q0 => ?_) (fun q0 => ?_)
  ·
    simp at q0
    exact ⟨[], ⟨by rw [decide_eq_false (fun e => by subst e; omega)], rfl⟩, (.le fun a => by (try simp only [setR, List.cons_append, List.nil_append]); simp only [List.flatten_append, List.flatten_cons, List.flatten_nil, List.count_append, List.count_nil, List.append_nil, List.nil_append]; omega)⟩
  ·
    simp at q0
    apply loop_mod (α := (Nat)) G_ok [11, 12, 13, 14, 17, 18, 19, 20, 21, 22, 23, 24, 25, 26, 4, 15, 16, 5] (fun z => [(5, .v (.int .i64 z))]) (fun z => []) (fun z => [H]) (fun z => xs.length - z) (fun z => z ≤ xs.length ∧ xs.take z = ys.take z) (0)
    · repeat' (first | exact trivial | refine ⟨⟨_, rfl, by first | rfl | exact inc_eq _ (by omega) | (refine sl_eq ?_; simp; done), by first | exact trivial | simp [SV.ok]⟩, ?_⟩)
    · exact trivial
    · exact ⟨by omega, by simp⟩
    · exact .refl _
    rintro k hI
    obtain ⟨hk, he⟩ : k ≤ xs.length ∧ xs.take k = ys.take k := hI
    try dsimp only
    refine VCsplit.intro (fun q1 => ?_) (fun q1 => ?_)
    ·
      simp at q1
      refine draw G_ok mixed none (.q 0 (.q 1 (.q 2 (.q 3 (.q 4 (.q 5 (.q 6 (.q 7 (.f 8 (.q 9 (.nil))))))))))) (by decide +kernel) ?_
      refine idx_rd hp1 ?_ ?_ fun b2 o2 hb2 => ?_
      · omega
      · omega
      refine load_allN [] (k) rfl hp1 ?_ ?_ hb2 rfl (mem_at 0 rfl) fun l3 hl3 => ?_
      · omega
      · omega
      obtain ⟨u3, w3, rfl, hl3⟩ := sl_rd hl3
      refine idx_rd hp2 ?_ ?_ fun b4 o4 hb4 => ?_
      · omega
      · omega
      refine load_allN [] (k) rfl hp2 ?_ ?_ hb4 rfl (mem_at 0 rfl) fun l5 hl5 => ?_
      · omega
      · omega
      obtain ⟨u5, w5, rfl, hl5⟩ := sl_rd hl5
      refine call_val (eqStringS_ct _ _ _ _ _ _ (xs[k]?.getD []) (ys[k]?.getD [])) ⟨(Rp.mono _ (mem_at 0 rfl) hl3), (Rp.mono _ (mem_at 0 rfl) hl5)⟩ ?_
      rintro _ rfl
      refine VC.intro ?_ ?_
      · exact fun _ h => h
      refine VCsplit.intro (fun q7 => ?_) (fun q7 => ?_)
      ·
        simp at q7
        exact ⟨[], ⟨by rw [decide_eq_false (fun e => by subst e; simp at *)], rfl⟩, (.le fun a => by (try simp only [setR, List.cons_append, List.nil_append]); simp only [List.flatten_append, List.flatten_cons, List.flatten_nil, List.count_append, List.count_nil, List.append_nil, List.nil_append]; omega)⟩
      ·
        simp at q7
        apply loop_stepA (k + 1)
        · exact .refl _
        · repeat' (first | exact trivial | refine ⟨⟨_, rfl, by first | rfl | exact inc_eq _ (by omega) | (refine sl_eq ?_; simp; done), by first | exact trivial | simp [SV.ok]⟩, ?_⟩)
        · exact trivial
        · exact ⟨by omega, eq_step [] (by omega) he (by omega) (by simpa using ‹_›)⟩
        · omega
    ·
      simp at q1
      exact ⟨[], ⟨by rw [decide_eq_true]; rw [← List.take_length (l := xs), ← List.take_length (l := ys), ← (by omega : xs.length = ys.length), show xs.length = k by omega]; exact he, rfl⟩, (.le fun a => by (try simp only [setR, List.cons_append, List.nil_append]); simp only [List.flatten_append, List.flatten_cons, List.flatten_nil, List.count_append, List.count_nil, List.append_nil, List.nil_append]; omega)⟩

--@ct laws.eqPair val eqPair_ct _ _ $1 $2 | ⟨%1, %2⟩
theorem eqPair_ct (l1 l2 : List Value) (x y : Pair) :
    Ct Try.prog 25 [.agg ⟨l1⟩, .agg ⟨l2⟩] [] (fun H => gPair.rd H l1 x ∧ gPair.rd H l2 y) (fun v A => v = .bool (decide (x = y)) ∧ A = []) := by
  refine Ct.intro0 G_ok Try.func25 rfl rfl rfl fun E H hp => ?_
  obtain ⟨hp1, hp2⟩ := hp
  obtain ⟨b0p, c0p, b1p, c1p, b2p, c2p, b3p, c3p, rfl, h0p, h1p, h2p, h3p⟩ := gPair_rd.1 hp1
  obtain ⟨b0q, c0q, b1q, c1q, b2q, c2q, b3q, c3q, rfl, h0q, h1q, h2q, h3q⟩ := gPair_rd.1 hp2
  refine VCnew.intro fun x0 => ?_
  refine VCnew.intro fun x1 => ?_
  refine call_val (eqLinkS_ct _ _ _ _ _ _ (x.ends) (y.ends)) ⟨(Rp.mono _ (mem_at 0 rfl) h0p), (Rp.mono _ (mem_at 0 rfl) h0q)⟩ ?_
  rintro _ rfl
  refine VCsplit.intro (fun q3 => ?_) (fun q3 => ?_)
  ·
    simp at q3
    exact ⟨[], ⟨by rw [decide_eq_false (fun e => by subst e; simp at *)], rfl⟩, (.le fun a => by (try simp only [setR, List.cons_append, List.nil_append]); simp only [List.flatten_append, List.flatten_cons, List.flatten_nil, List.count_append, List.count_nil, List.append_nil, List.nil_append]; omega)⟩
  ·
    simp at q3
    refine call_val (eqStringS_ct _ _ _ _ _ _ (x.net) (y.net)) ⟨(Rp.mono _ (mem_at 0 rfl) h1p), (Rp.mono _ (mem_at 0 rfl) h1q)⟩ ?_
    rintro _ rfl
    refine VCsplit.intro (fun q5 => ?_) (fun q5 => ?_)
    ·
      simp at q5
      exact ⟨[], ⟨by rw [decide_eq_false (fun e => by subst e; simp at *)], rfl⟩, (.le fun a => by (try simp only [setR, List.cons_append, List.nil_append]); simp only [List.flatten_append, List.flatten_cons, List.flatten_nil, List.count_append, List.count_nil, List.append_nil, List.nil_append]; omega)⟩
    ·
      simp at q5
      refine call_val (eqStringSS_ct _ _ _ _ _ _ (x.heard) (y.heard)) ⟨(Rp.mono _ (mem_at 0 rfl) h2p), (Rp.mono _ (mem_at 0 rfl) h2q)⟩ ?_
      rintro _ rfl
      refine VCsplit.intro (fun q7 => ?_) (fun q7 => ?_)
      ·
        simp at q7
        exact ⟨[], ⟨by rw [decide_eq_false (fun e => by subst e; simp at *)], rfl⟩, (.le fun a => by (try simp only [setR, List.cons_append, List.nil_append]); simp only [List.flatten_append, List.flatten_cons, List.flatten_nil, List.count_append, List.count_nil, List.append_nil, List.nil_append]; omega)⟩
      ·
        simp at q7
        refine call_val (eqIntS_ct _ _ _ _ _ _ (x.codes) (y.codes)) ⟨(Rp.mono _ (mem_at 0 rfl) h3p), (Rp.mono _ (mem_at 0 rfl) h3q)⟩ ?_
        rintro _ rfl
        refine VCsplit.intro (fun q9 => ?_) (fun q9 => ?_)
        ·
          simp at q9
          exact ⟨[], ⟨by rw [decide_eq_false (fun e => by subst e; simp at *)], rfl⟩, (.le fun a => by (try simp only [setR, List.cons_append, List.nil_append]); simp only [List.flatten_append, List.flatten_cons, List.flatten_nil, List.count_append, List.count_nil, List.append_nil, List.nil_append]; omega)⟩
        ·
          simp at q9
          exact ⟨[], ⟨by rw [decide_eq_true (Pair.eq_iff.2 (by simp_all))], rfl⟩, (.le fun a => by (try simp only [setR, List.cons_append, List.nil_append]); simp only [List.flatten_append, List.flatten_cons, List.flatten_nil, List.count_append, List.count_nil, List.append_nil, List.nil_append]; omega)⟩

--@ct laws.szGot raw refine call_q (szGot_ct _ $1 _ ?_ ?_) %1 ?_ | | rintro _ ⟨r#, rfl, hr#⟩
theorem szGot_ct (l : List Value) (x : Got) (left : Int) (h0 : 0 ≤ left) (h1 : left ≤ 1048576) :
    Ct Try.prog 160 [.agg ⟨l⟩, .int .i64 left] [] (fun H => gGot.rd H l x) (fun v A => (∃ r : Int, v = .int .i64 r ∧ ((r = -1 ∧ left < (gGot.sz x : Int)) ∨ (r = left - (gGot.sz x : Int) ∧ (gGot.sz x : Int) ≤ left))) ∧ A = []) := by
  refine Ct.intro0 G_ok Try.func160 rfl rfl rfl fun E H hp => ?_
  obtain ⟨l2, rfl, w0, w1, h2⟩ := gGot_rd.1 hp
  obtain ⟨b0_2, c0_2, rfl, h0_2⟩ := gBag_rd.1 h2
  have hz := gGot_sz x
  refine VCnew.intro fun x0 => ?_
  refine call_q (szBag_ct _ (x.bag) _ ?_ ?_) (Rp.mono _ (mem_at 0 rfl) h2) ?_
  · trivial
  · trivial
  rintro _ ⟨r1, rfl, hr1⟩
  refine VCsplit.intro (fun q2 => ?_) (fun q2 => ?_)
  ·
    simp at q2
    exact ⟨[], ⟨⟨-1, rfl, .inl ⟨rfl, by (try simp (disch := omega) only [wrap_of] at *); omega⟩⟩, rfl⟩, (.le fun a => by (try simp only [setR, List.cons_append, List.nil_append]); simp only [List.flatten_append, List.flatten_cons, List.flatten_nil, List.count_append, List.count_nil, List.append_nil, List.nil_append]; omega)⟩
  ·
    simp at q2
    exact ⟨[], ⟨⟨_, rfl, .inr ⟨by (try simp (disch := omega) only [wrap_of] at *); omega, by omega⟩⟩, rfl⟩, (.le fun a => by (try simp only [setR, List.cons_append, List.nil_append]); simp only [List.flatten_append, List.flatten_cons, List.flatten_nil, List.count_append, List.count_nil, List.append_nil, List.nil_append]; omega)⟩

--@ct laws.toGot new toGot_ct _ $1 ?_ | %1 | obtain ⟨l#, rfl, o#⟩ := o# ;; have r# := Gt.owrd _ o# ;; obtain ⟨l2x#, rfl, w0x#, w1x#, h2x#⟩ := gGot_rd.1 r# ;; obtain ⟨b0_2x#, c0_2x#, rfl, h0_2x#⟩ := gBag_rd.1 h2x#
theorem toGot_ct (l : List Value) (x : Got) (hx : gGot.sz x ≤ 1048576) :
    Ct Try.prog 168 [.agg ⟨l⟩] [] (fun H => gGot.rd H l x) (fun v A => ∃ l, v = .agg ⟨l⟩ ∧ gGot.ow l x A) := by
  refine Ct.intro0 G_ok Try.func168 rfl rfl rfl fun E H hp => ?_
  obtain ⟨l2, rfl, w0, w1, h2⟩ := gGot_rd.1 hp
  obtain ⟨b0_2, c0_2, rfl, h0_2⟩ := gBag_rd.1 h2
  have hz := gGot_sz x
  refine VCnew.intro fun x0 => ?_
  refine VCnew.intro fun x1 => ?_
  refine VCnew.intro fun x2 => ?_
  refine call_new (toBag_ct _ (x.bag) ?_) (Rp.mono _ (mem_at 0 rfl) h2) ?_
  · omega
  rintro v3 A3 o3
  obtain ⟨l3, rfl, o3⟩ := o3
  have r3 := Gt.owrd _ o3
  obtain ⟨b0x3, c0x3, rfl, h0x3⟩ := gBag_rd.1 r3
  exact ⟨_, ⟨_, rfl, gGot_ow.2 ⟨_, _, rfl, .refl _, by assumption, by assumption, by assumption⟩⟩, (.le fun a => by (try simp only [setR, List.cons_append, List.nil_append]); simp only [List.flatten_append, List.flatten_cons, List.flatten_nil, List.count_append, List.count_nil, List.append_nil, List.nil_append]; omega)⟩

--@ct laws.eqGot val eqGot_ct _ _ $1 $2 | ⟨%1, %2⟩
theorem eqGot_ct (l1 l2 : List Value) (x y : Got) :
    Ct Try.prog 179 [.agg ⟨l1⟩, .agg ⟨l2⟩] [] (fun H => gGot.rd H l1 x ∧ gGot.rd H l2 y) (fun v A => v = .bool (decide (x = y)) ∧ A = []) := by
  refine Ct.intro0 G_ok Try.func179 rfl rfl rfl fun E H hp => ?_
  obtain ⟨hp1, hp2⟩ := hp
  obtain ⟨l2p, rfl, w0p, w1p, h2p⟩ := gGot_rd.1 hp1
  obtain ⟨b0_2p, c0_2p, rfl, h0_2p⟩ := gBag_rd.1 h2p
  obtain ⟨l2q, rfl, w0q, w1q, h2q⟩ := gGot_rd.1 hp2
  obtain ⟨b0_2q, c0_2q, rfl, h0_2q⟩ := gBag_rd.1 h2q
  refine VCnew.intro fun x0 => ?_
  refine VCnew.intro fun x1 => ?_
  refine VCsplit.intro (fun q2 => ?_) (fun q2 => ?_)
  ·
    simp at q2
    exact ⟨[], ⟨by rw [decide_eq_false (fun e => by subst e; simp at *)], rfl⟩, (.le fun a => by (try simp only [setR, List.cons_append, List.nil_append]); simp only [List.flatten_append, List.flatten_cons, List.flatten_nil, List.count_append, List.count_nil, List.append_nil, List.nil_append]; omega)⟩
  ·
    simp at q2
    refine VCsplit.intro (fun q3 => ?_) (fun q3 => ?_)
    ·
      simp at q3
      exact ⟨[], ⟨by rw [decide_eq_false (fun e => by subst e; simp at *)], rfl⟩, (.le fun a => by (try simp only [setR, List.cons_append, List.nil_append]); simp only [List.flatten_append, List.flatten_cons, List.flatten_nil, List.count_append, List.count_nil, List.append_nil, List.nil_append]; omega)⟩
    ·
      simp at q3
      refine call_val (eqBag_ct _ _ (x.bag) (y.bag)) ⟨(Rp.mono _ (mem_at 0 rfl) h2p), (Rp.mono _ (mem_at 0 rfl) h2q)⟩ ?_
      rintro _ rfl
      refine VCsplit.intro (fun q5 => ?_) (fun q5 => ?_)
      ·
        simp at q5
        exact ⟨[], ⟨by rw [decide_eq_false (fun e => by subst e; simp at *)], rfl⟩, (.le fun a => by (try simp only [setR, List.cons_append, List.nil_append]); simp only [List.flatten_append, List.flatten_cons, List.flatten_nil, List.count_append, List.count_nil, List.append_nil, List.nil_append]; omega)⟩
      ·
        simp at q5
        exact ⟨[], ⟨by rw [decide_eq_true (Got.eq_iff.2 (by simp_all))], rfl⟩, (.le fun a => by (try simp only [setR, List.cons_append, List.nil_append]); simp only [List.flatten_append, List.flatten_cons, List.flatten_nil, List.count_append, List.count_nil, List.append_nil, List.nil_append]; omega)⟩

--@ct laws.szGotS raw refine call_q (szGotS_ct _ _ _ $1 _ ?_ ?_) %1 ?_ | | rintro _ ⟨r#, rfl, hr#⟩
theorem szGotS_ct (b : Option Addr) (m c : Nat) (xs : List Got) (left : Int) (h0 : 0 ≤ left) (h1 : left ≤ 1048576) :
    Ct Try.prog 95 [.slice b m c, .int .i64 left] [] (fun H => (gSl 142 gGot).rd H [.slice b m c] xs) (fun v A => (∃ r : Int, v = .int .i64 r ∧ ((r = -1 ∧ left < (szL gGot xs : Int)) ∨ (r = left - (szL gGot xs : Int) ∧ (szL gGot xs : Int) ≤ left))) ∧ A = []) := by
  refine Ct.intro0 G_ok Try.func95 rfl rfl rfl fun E H hp => ?_
  obtain ⟨rfl, hcl, hl⟩ := sl_len hp
  have hq := szL_eq gGot xs
  have ht := List.take_length (l := xs)
  refine VCsplit.intro (fun q0 => ?_) (fun q0 => ?_)
  ·
    simp at q0
    simp (disch := omega) only [wrap_of] at q0
    exact ⟨[], ⟨⟨-1, rfl, .inl ⟨rfl, by (try simp (disch := omega) only [wrap_of] at *); omega⟩⟩, rfl⟩, (.le fun a => by (try simp only [setR, List.cons_append, List.nil_append]); simp only [List.flatten_append, List.flatten_cons, List.flatten_nil, List.count_append, List.count_nil, List.append_nil, List.nil_append]; omega)⟩
  ·
    simp at q0
    simp (disch := omega) only [wrap_of] at q0
    apply loop_mod (α := (Nat) × (Int)) G_ok [12, 13, 14, 15, 18, 19, 20, 21, 22, 23, 1, 24, 25, 4, 16, 17, 5] (fun z => [(5, .v (.int .i64 z.1)), (1, .v (.int .i64 z.2))]) (fun z => []) (fun z => [H]) (fun z => xs.length - z.1) (fun z => z.1 ≤ xs.length ∧ z.2 = left - xs.length - szE gGot (xs.take z.1) ∧ 0 ≤ z.2) ((0, left - xs.length))
    · repeat' (first | exact trivial | refine ⟨⟨_, rfl, by first | rfl | exact inc_eq _ (by omega) | (refine sl_eq ?_; simp; done) | (simp (disch := omega) only [wrap_of]), by first | exact trivial | simp [SV.ok]⟩, ?_⟩)
    · exact trivial
    · try dsimp only
      exact ⟨by omega, by simp [szE], by omega⟩
    · exact .refl _
    rintro ⟨k, lf⟩ hI
    obtain ⟨hk, hlf, hnn⟩ : k ≤ xs.length ∧ lf = left - xs.length - szE gGot (xs.take k) ∧ 0 ≤ lf := hI
    try dsimp only
    refine VCsplit.intro (fun q1 => ?_) (fun q1 => ?_)
    ·
      simp at q1
      have hs := szE_step gGot xs k default (by omega)
      have hs2 := szE_le gGot xs (k + 1)
      refine idx_rd hp ?_ ?_ fun b2 o2 hb2 => ?_
      · omega
      · omega
      refine load_allN default (k) rfl hp ?_ ?_ hb2 rfl (mem_at 0 rfl) fun l3 hl3 => ?_
      · omega
      · omega
      obtain ⟨l2x3, rfl, w0x3, w1x3, h2x3⟩ := gGot_rd.1 hl3 ; obtain ⟨b0_2x3, c0_2x3, rfl, h0_2x3⟩ := gBag_rd.1 h2x3
      refine call_q (szGot_ct _ (xs[k]?.getD default) _ ?_ ?_) (Rp.mono _ (mem_at 0 rfl) hl3) ?_
      · trivial
      · omega
      rintro _ ⟨r4, rfl, hr4⟩
      refine VCsplit.intro (fun q5 => ?_) (fun q5 => ?_)
      ·
        simp at q5
        exact ⟨[], ⟨⟨-1, rfl, .inl ⟨rfl, by (try simp (disch := omega) only [wrap_of] at *); omega⟩⟩, rfl⟩, (.le fun a => by (try simp only [setR, List.cons_append, List.nil_append]); simp only [List.flatten_append, List.flatten_cons, List.flatten_nil, List.count_append, List.count_nil, List.append_nil, List.nil_append]; omega)⟩
      ·
        simp at q5
        apply loop_stepA (k + 1, _)
        · exact .refl _
        · repeat' (first | exact trivial | refine ⟨⟨_, rfl, by first | rfl | exact inc_eq _ (by omega) | (refine sl_eq ?_; simp; done) | (simp (disch := omega) only [wrap_of]), by first | exact trivial | simp [SV.ok]⟩, ?_⟩)
        · exact trivial
        · try dsimp only
          ((try simp (disch := omega) only [wrap_of] at *); refine ⟨by omega, by omega, by omega⟩)
        · try dsimp only
          omega
    ·
      simp at q1
      obtain rfl : k = xs.length := by omega
      rw [List.take_length] at hlf
      exact ⟨[], ⟨⟨_, rfl, .inr ⟨by (try simp (disch := omega) only [wrap_of] at *); omega, by omega⟩⟩, rfl⟩, (.le fun a => by (try simp only [setR, List.cons_append, List.nil_append]); simp only [List.flatten_append, List.flatten_cons, List.flatten_nil, List.count_append, List.count_nil, List.append_nil, List.nil_append]; omega)⟩

--@ct laws.toGotS new toGotS_ct _ _ _ $1 ?_ | %1 | obtain ⟨b#, c#, rfl, o#⟩ := o#
theorem toGotS_ct (b : Option Addr) (m c : Nat) (xs : List Got) (hx : szL gGot xs ≤ 1048576) :
    Ct Try.prog 105 [.slice b m c] [] (fun H => (gSl 142 gGot).rd H [.slice b m c] xs) (fun v A => ∃ b c, v = .slice b xs.length c ∧ (gSl 142 gGot).ow [.slice b xs.length c] xs A) := by
  refine Ct.intro0 G_ok Try.func105 rfl rfl rfl fun E H hp => ?_
  obtain ⟨rfl, hcl, hl⟩ := sl_len hp
  have hls := len_szL gGot xs
  have hq := szL_eq gGot xs
  refine VCmake.intro ?_ ?_ ?_ ?_ fun x0 => ?_
  · omega
  · omega
  · omega
  · omega
  apply loop_mod (α := (Nat) × (Hp)) G_ok [8, 9, 10, 11, 14, 15, 16, 17, 18, 19, 20, 21, 12, 13, 4] (fun z => [(4, .v (.int .i64 z.1))]) (fun z => []) (fun z => [z.2, H]) (fun z => xs.length - z.1) (fun z => z.1 ≤ xs.length ∧ (gSl 142 gGot).ow [.slice (some ⟨x0, 0, none⟩) xs.length xs.length] (xs.take z.1 ++ List.replicate (xs.length - z.1) zGot) z.2) ((0, _))
  · repeat' (first | exact trivial | refine ⟨⟨_, rfl, by first | rfl | exact inc_eq _ (by omega) | (refine sl_eq ?_; simp; done), by first | exact trivial | simp [SV.ok]⟩, ?_⟩)
  · exact trivial
  · try dsimp only
    exact ⟨by omega, by simpa using gmake (g := gGot) (T := 142) (b := x0) (zGot_ow) (Nat.le_refl xs.length) (by omega)⟩
  · exact .refl _
  rintro ⟨k, A⟩ hI
  obtain ⟨hk, oA⟩ : k ≤ xs.length ∧ (gSl 142 gGot).ow [.slice (some ⟨x0, 0, none⟩) xs.length xs.length] (xs.take k ++ List.replicate (xs.length - k) zGot) A := hI
  try dsimp only
  refine VCsplit.intro (fun q1 => ?_) (fun q1 => ?_)
  ·
    simp at q1
    have hs := szE_step gGot xs k default (by omega)
    have hs2 := szE_le gGot xs (k + 1)
    refine idx_rd hp ?_ ?_ fun b2 o2 hb2 => ?_
    · omega
    · omega
    refine load_allN default (k) rfl hp ?_ ?_ hb2 rfl (mem_at 1 rfl) fun l3 hl3 => ?_
    · omega
    · omega
    obtain ⟨l2x3, rfl, w0x3, w1x3, h2x3⟩ := gGot_rd.1 hl3 ; obtain ⟨b0_2x3, c0_2x3, rfl, h0_2x3⟩ := gBag_rd.1 h2x3
    refine call_new (toGot_ct _ (xs[k]?.getD default) ?_) (Rp.mono _ (mem_at 1 rfl) hl3) ?_
    · omega
    rintro v4 A4 o4
    obtain ⟨l4, rfl, o4⟩ := o4
    have r4 := Gt.owrd _ o4
    obtain ⟨l2x4, rfl, w0x4, w1x4, h2x4⟩ := gGot_rd.1 r4
    obtain ⟨b0_2x4, c0_2x4, rfl, h0_2x4⟩ := gBag_rd.1 h2x4
    refine idx_rd (Gt.owrd _ oA) ?_ ?_ fun b5 o5 hb5 => ?_
    · omega
    · simp; omega
    refine gstore1N (k) (A) (A4) [H] (.le fun a => by (try simp only [setR, List.cons_append, List.nil_append]); simp only [List.flatten_append, List.flatten_cons, List.flatten_nil, List.count_append, List.count_nil, List.append_nil, List.nil_append]; omega) rfl oA ?_ ?_ hb5 rfl _ o4 fun A6 o6 => ?_
    · omega
    · simp; omega
    apply loop_stepA (k + 1, _)
    · exact .refl _
    · repeat' (first | exact trivial | refine ⟨⟨_, rfl, by first | rfl | exact inc_eq _ (by omega) | (refine sl_eq ?_; simp; done), by first | exact trivial | simp [SV.ok]⟩, ?_⟩)
    · exact trivial
    · try dsimp only
      exact ⟨by omega, by rw [← take_stepz xs k default zGot (by omega)] ; assumption⟩
    · try dsimp only
      omega
  ·
    simp at q1
    obtain rfl : k = xs.length := by omega
    rw [List.take_length, Nat.sub_self, List.replicate_zero, List.append_nil] at oA
    exact ⟨_, ⟨_, _, rfl, oA⟩, (.le fun a => by (try simp only [setR, List.cons_append, List.nil_append]); simp only [List.flatten_append, List.flatten_cons, List.flatten_nil, List.count_append, List.count_nil, List.append_nil, List.nil_append]; omega)⟩

--@ct laws.eqGotS val eqGotS_ct _ _ _ _ _ _ $1 $2 | ⟨%1, %2⟩
theorem eqGotS_ct (b1 : Option Addr) (m1 c1 : Nat) (b2 : Option Addr) (m2 c2 : Nat) (xs ys : List Got) :
    Ct Try.prog 114 [.slice b1 m1 c1, .slice b2 m2 c2] [] (fun H => (gSl 142 gGot).rd H [.slice b1 m1 c1] xs ∧ (gSl 142 gGot).rd H [.slice b2 m2 c2] ys) (fun v A => v = .bool (decide (xs = ys)) ∧ A = []) := by
  refine Ct.intro0 G_ok Try.func114 rfl rfl rfl fun E H hp => ?_
  obtain ⟨hp1, hp2⟩ := hp
  obtain ⟨rfl, hc1, hl1⟩ := sl_len hp1
  obtain ⟨rfl, hc2, hl2⟩ := sl_len hp2
  refine VCsplit.intro (fun q0 => ?_) (fun q0 => ?_)
  ·
    simp at q0
    exact ⟨[], ⟨by rw [decide_eq_false (fun e => by subst e; omega)], rfl⟩, (.le fun a => by (try simp only [setR, List.cons_append, List.nil_append]); simp only [List.flatten_append, List.flatten_cons, List.flatten_nil, List.count_append, List.count_nil, List.append_nil, List.nil_append]; omega)⟩
  ·
    simp at q0
    apply loop_mod (α := (Nat)) G_ok [11, 12, 13, 14, 17, 18, 19, 20, 21, 22, 23, 24, 25, 26, 4, 15, 16, 5] (fun z => [(5, .v (.int .i64 z))]) (fun z => []) (fun z => [H]) (fun z => xs.length - z) (fun z => z ≤ xs.length ∧ xs.take z = ys.take z) (0)
    · repeat' (first | exact trivial | refine ⟨⟨_, rfl, by first | rfl | exact inc_eq _ (by omega) | (refine sl_eq ?_; simp; done), by first | exact trivial | simp [SV.ok]⟩, ?_⟩)
    · exact trivial
    · exact ⟨by omega, by simp⟩
    · exact .refl _
    rintro k hI
    obtain ⟨hk, he⟩ : k ≤ xs.length ∧ xs.take k = ys.take k := hI
    try dsimp only
    refine VCsplit.intro (fun q1 => ?_) (fun q1 => ?_)
    ·
      simp at q1
      refine draw G_ok mixed none (.q 0 (.q 1 (.q 2 (.q 3 (.q 4 (.q 5 (.q 6 (.q 7 (.f 8 (.q 9 (.nil))))))))))) (by decide +kernel) ?_
      refine idx_rd hp1 ?_ ?_ fun b2 o2 hb2 => ?_
      · omega
      · omega
      refine load_allN default (k) rfl hp1 ?_ ?_ hb2 rfl (mem_at 0 rfl) fun l3 hl3 => ?_
      · omega
      · omega
      obtain ⟨l2x3, rfl, w0x3, w1x3, h2x3⟩ := gGot_rd.1 hl3 ; obtain ⟨b0_2x3, c0_2x3, rfl, h0_2x3⟩ := gBag_rd.1 h2x3
      refine idx_rd hp2 ?_ ?_ fun b4 o4 hb4 => ?_
      · omega
      · omega
      refine load_allN default (k) rfl hp2 ?_ ?_ hb4 rfl (mem_at 0 rfl) fun l5 hl5 => ?_
      · omega
      · omega
      obtain ⟨l2x5, rfl, w0x5, w1x5, h2x5⟩ := gGot_rd.1 hl5 ; obtain ⟨b0_2x5, c0_2x5, rfl, h0_2x5⟩ := gBag_rd.1 h2x5
      refine call_val (eqGot_ct _ _ (xs[k]?.getD default) (ys[k]?.getD default)) ⟨(Rp.mono _ (mem_at 0 rfl) hl3), (Rp.mono _ (mem_at 0 rfl) hl5)⟩ ?_
      rintro _ rfl
      refine VC.intro ?_ ?_
      · exact fun _ h => h
      refine VCsplit.intro (fun q7 => ?_) (fun q7 => ?_)
      ·
        simp at q7
        exact ⟨[], ⟨by rw [decide_eq_false (fun e => by subst e; simp at *)], rfl⟩, (.le fun a => by (try simp only [setR, List.cons_append, List.nil_append]); simp only [List.flatten_append, List.flatten_cons, List.flatten_nil, List.count_append, List.count_nil, List.append_nil, List.nil_append]; omega)⟩
      ·
        simp at q7
        apply loop_stepA (k + 1)
        · exact .refl _
        · repeat' (first | exact trivial | refine ⟨⟨_, rfl, by first | rfl | exact inc_eq _ (by omega) | (refine sl_eq ?_; simp; done), by first | exact trivial | simp [SV.ok]⟩, ?_⟩)
        · exact trivial
        · exact ⟨by omega, eq_step default (by omega) he (by omega) (by simpa using ‹_›)⟩
        · omega
    ·
      simp at q1
      exact ⟨[], ⟨by rw [decide_eq_true]; rw [← List.take_length (l := xs), ← List.take_length (l := ys), ← (by omega : xs.length = ys.length), show xs.length = k by omega]; exact he, rfl⟩, (.le fun a => by (try simp only [setR, List.cons_append, List.nil_append]); simp only [List.flatten_append, List.flatten_cons, List.flatten_nil, List.count_append, List.count_nil, List.append_nil, List.nil_append]; omega)⟩

--@ct laws.szCell raw refine call_q (szCell_ct _ $1 _ ?_ ?_) %1 ?_ | | rintro _ ⟨r#, rfl, hr#⟩
theorem szCell_ct (l : List Value) (x : Cell) (left : Int) (h0 : 0 ≤ left) (h1 : left ≤ 1048576) :
    Ct Try.prog 39 [.agg ⟨l⟩, .int .i64 left] [] (fun H => gCell.rd H l x) (fun v A => (∃ r : Int, v = .int .i64 r ∧ ((r = -1 ∧ left < (gCell.sz x : Int)) ∨ (r = left - (gCell.sz x : Int) ∧ (gCell.sz x : Int) ≤ left))) ∧ A = []) := by
  refine Ct.intro0 G_ok Try.func39 rfl rfl rfl fun E H hp => ?_
  obtain ⟨l0, b1, c1, b4, c4, rfl, h0, h1, w2, w3, h4⟩ := gCell_rd.1 hp
  obtain ⟨b1_0, c1_0, b2_0, c2_0, b3_0, c3_0, rfl, h1_0, h2_0, h3_0⟩ := gQuery_rd.1 h0
  have hz := gCell_sz x
  refine VCnew.intro fun x0 => ?_
  refine call_q (szQuery_ct _ (x.query) _ ?_ ?_) (Rp.mono _ (mem_at 0 rfl) h0) ?_
  · trivial
  · trivial
  rintro _ ⟨r1, rfl, hr1⟩
  refine VCsplit.intro (fun q2 => ?_) (fun q2 => ?_)
  ·
    simp at q2
    exact ⟨[], ⟨⟨-1, rfl, .inl ⟨rfl, by (try simp (disch := omega) only [wrap_of] at *); omega⟩⟩, rfl⟩, (.le fun a => by (try simp only [setR, List.cons_append, List.nil_append]); simp only [List.flatten_append, List.flatten_cons, List.flatten_nil, List.count_append, List.count_nil, List.append_nil, List.nil_append]; omega)⟩
  ·
    simp at q2
    refine call_q (szIntS_ct _ _ _ (x.shares) _ ?_ ?_) (Rp.mono _ (mem_at 0 rfl) h1) ?_
    · trivial
    · omega
    rintro _ ⟨r3, rfl, hr3⟩
    refine VCsplit.intro (fun q4 => ?_) (fun q4 => ?_)
    ·
      simp at q4
      exact ⟨[], ⟨⟨-1, rfl, .inl ⟨rfl, by (try simp (disch := omega) only [wrap_of] at *); omega⟩⟩, rfl⟩, (.le fun a => by (try simp only [setR, List.cons_append, List.nil_append]); simp only [List.flatten_append, List.flatten_cons, List.flatten_nil, List.count_append, List.count_nil, List.append_nil, List.nil_append]; omega)⟩
    ·
      simp at q4
      refine call_q (szGotS_ct _ _ _ (x.gots) _ ?_ ?_) (Rp.mono _ (mem_at 0 rfl) h4) ?_
      · trivial
      · omega
      rintro _ ⟨r5, rfl, hr5⟩
      refine VCsplit.intro (fun q6 => ?_) (fun q6 => ?_)
      ·
        simp at q6
        exact ⟨[], ⟨⟨-1, rfl, .inl ⟨rfl, by (try simp (disch := omega) only [wrap_of] at *); omega⟩⟩, rfl⟩, (.le fun a => by (try simp only [setR, List.cons_append, List.nil_append]); simp only [List.flatten_append, List.flatten_cons, List.flatten_nil, List.count_append, List.count_nil, List.append_nil, List.nil_append]; omega)⟩
      ·
        simp at q6
        exact ⟨[], ⟨⟨_, rfl, .inr ⟨by (try simp (disch := omega) only [wrap_of] at *); omega, by omega⟩⟩, rfl⟩, (.le fun a => by (try simp only [setR, List.cons_append, List.nil_append]); simp only [List.flatten_append, List.flatten_cons, List.flatten_nil, List.count_append, List.count_nil, List.append_nil, List.nil_append]; omega)⟩

--@ct laws.toCell new toCell_ct _ $1 ?_ | %1 | obtain ⟨l#, rfl, o#⟩ := o# ;; have r# := Gt.owrd _ o# ;; obtain ⟨l0x#, b1x#, c1x#, b4x#, c4x#, rfl, h0x#, h1x#, w2x#, w3x#, h4x#⟩ := gCell_rd.1 r# ;; obtain ⟨b1_0x#, c1_0x#, b2_0x#, c2_0x#, b3_0x#, c3_0x#, rfl, h1_0x#, h2_0x#, h3_0x#⟩ := gQuery_rd.1 h0x#
theorem toCell_ct (l : List Value) (x : Cell) (hx : gCell.sz x ≤ 1048576) :
    Ct Try.prog 42 [.agg ⟨l⟩] [] (fun H => gCell.rd H l x) (fun v A => ∃ l, v = .agg ⟨l⟩ ∧ gCell.ow l x A) := by
  refine Ct.intro0 G_ok Try.func42 rfl rfl rfl fun E H hp => ?_
  obtain ⟨l0, b1, c1, b4, c4, rfl, h0, h1, w2, w3, h4⟩ := gCell_rd.1 hp
  obtain ⟨b1_0, c1_0, b2_0, c2_0, b3_0, c3_0, rfl, h1_0, h2_0, h3_0⟩ := gQuery_rd.1 h0
  have hz := gCell_sz x
  refine VCnew.intro fun x0 => ?_
  refine VCnew.intro fun x1 => ?_
  refine VCnew.intro fun x2 => ?_
  refine call_new (toQuery_ct _ (x.query) ?_) (Rp.mono _ (mem_at 0 rfl) h0) ?_
  · omega
  rintro v3 A3 o3
  obtain ⟨l3, rfl, o3⟩ := o3
  have r3 := Gt.owrd _ o3
  obtain ⟨b1x3, c1x3, b2x3, c2x3, b3x3, c3x3, rfl, h1x3, h2x3, h3x3⟩ := gQuery_rd.1 r3
  refine call_new (toIntS_ct _ _ _ (x.shares) ?_) (Rp.mono _ (mem_at 1 rfl) h1) ?_
  · omega
  rintro v4 A4 o4
  obtain ⟨b4, c4, rfl, o4⟩ := o4
  refine call_new (toGotS_ct _ _ _ (x.gots) ?_) (Rp.mono _ (mem_at 2 rfl) h4) ?_
  · omega
  rintro v5 A5 o5
  obtain ⟨b5, c5, rfl, o5⟩ := o5
  exact ⟨_, ⟨_, rfl, gCell_ow.2 ⟨_, _, _, _, _, _, _, _, rfl, .refl _, by assumption, by assumption, by assumption, by assumption, by assumption⟩⟩, (.le fun a => by (try simp only [setR, List.cons_append, List.nil_append]); simp only [List.flatten_append, List.flatten_cons, List.flatten_nil, List.count_append, List.count_nil, List.append_nil, List.nil_append]; omega)⟩

--@ct laws.eqCell val eqCell_ct _ _ $1 $2 | ⟨%1, %2⟩
theorem eqCell_ct (l1 l2 : List Value) (x y : Cell) :
    Ct Try.prog 45 [.agg ⟨l1⟩, .agg ⟨l2⟩] [] (fun H => gCell.rd H l1 x ∧ gCell.rd H l2 y) (fun v A => v = .bool (decide (x = y)) ∧ A = []) := by
  refine Ct.intro0 G_ok Try.func45 rfl rfl rfl fun E H hp => ?_
  obtain ⟨hp1, hp2⟩ := hp
  obtain ⟨l0p, b1p, c1p, b4p, c4p, rfl, h0p, h1p, w2p, w3p, h4p⟩ := gCell_rd.1 hp1
  obtain ⟨b1_0p, c1_0p, b2_0p, c2_0p, b3_0p, c3_0p, rfl, h1_0p, h2_0p, h3_0p⟩ := gQuery_rd.1 h0p
  obtain ⟨l0q, b1q, c1q, b4q, c4q, rfl, h0q, h1q, w2q, w3q, h4q⟩ := gCell_rd.1 hp2
  obtain ⟨b1_0q, c1_0q, b2_0q, c2_0q, b3_0q, c3_0q, rfl, h1_0q, h2_0q, h3_0q⟩ := gQuery_rd.1 h0q
  refine VCnew.intro fun x0 => ?_
  refine VCnew.intro fun x1 => ?_
  refine call_val (eqQuery_ct _ _ (x.query) (y.query)) ⟨(Rp.mono _ (mem_at 0 rfl) h0p), (Rp.mono _ (mem_at 0 rfl) h0q)⟩ ?_
  rintro _ rfl
  refine VCsplit.intro (fun q3 => ?_) (fun q3 => ?_)
  ·
    simp at q3
    exact ⟨[], ⟨by rw [decide_eq_false (fun e => by subst e; simp at *)], rfl⟩, (.le fun a => by (try simp only [setR, List.cons_append, List.nil_append]); simp only [List.flatten_append, List.flatten_cons, List.flatten_nil, List.count_append, List.count_nil, List.append_nil, List.nil_append]; omega)⟩
  ·
    simp at q3
    refine call_val (eqIntS_ct _ _ _ _ _ _ (x.shares) (y.shares)) ⟨(Rp.mono _ (mem_at 0 rfl) h1p), (Rp.mono _ (mem_at 0 rfl) h1q)⟩ ?_
    rintro _ rfl
    refine VCsplit.intro (fun q5 => ?_) (fun q5 => ?_)
    ·
      simp at q5
      exact ⟨[], ⟨by rw [decide_eq_false (fun e => by subst e; simp at *)], rfl⟩, (.le fun a => by (try simp only [setR, List.cons_append, List.nil_append]); simp only [List.flatten_append, List.flatten_cons, List.flatten_nil, List.count_append, List.count_nil, List.append_nil, List.nil_append]; omega)⟩
    ·
      simp at q5
      refine VCsplit.intro (fun q6 => ?_) (fun q6 => ?_)
      ·
        simp at q6
        exact ⟨[], ⟨by rw [decide_eq_false (fun e => by subst e; simp at *)], rfl⟩, (.le fun a => by (try simp only [setR, List.cons_append, List.nil_append]); simp only [List.flatten_append, List.flatten_cons, List.flatten_nil, List.count_append, List.count_nil, List.append_nil, List.nil_append]; omega)⟩
      ·
        simp at q6
        refine VCsplit.intro (fun q7 => ?_) (fun q7 => ?_)
        ·
          simp at q7
          exact ⟨[], ⟨by rw [decide_eq_false (fun e => by subst e; simp at *)], rfl⟩, (.le fun a => by (try simp only [setR, List.cons_append, List.nil_append]); simp only [List.flatten_append, List.flatten_cons, List.flatten_nil, List.count_append, List.count_nil, List.append_nil, List.nil_append]; omega)⟩
        ·
          simp at q7
          refine call_val (eqGotS_ct _ _ _ _ _ _ (x.gots) (y.gots)) ⟨(Rp.mono _ (mem_at 0 rfl) h4p), (Rp.mono _ (mem_at 0 rfl) h4q)⟩ ?_
          rintro _ rfl
          refine VCsplit.intro (fun q9 => ?_) (fun q9 => ?_)
          ·
            simp at q9
            exact ⟨[], ⟨by rw [decide_eq_false (fun e => by subst e; simp at *)], rfl⟩, (.le fun a => by (try simp only [setR, List.cons_append, List.nil_append]); simp only [List.flatten_append, List.flatten_cons, List.flatten_nil, List.count_append, List.count_nil, List.append_nil, List.nil_append]; omega)⟩
          ·
            simp at q9
            exact ⟨[], ⟨by rw [decide_eq_true (Cell.eq_iff.2 (by simp_all))], rfl⟩, (.le fun a => by (try simp only [setR, List.cons_append, List.nil_append]); simp only [List.flatten_append, List.flatten_cons, List.flatten_nil, List.count_append, List.count_nil, List.append_nil, List.nil_append]; omega)⟩

--@ct laws.szDiskS raw refine call_q (szDiskS_ct _ _ _ $1 _ ?_ ?_) %1 ?_ | | rintro _ ⟨r#, rfl, hr#⟩
theorem szDiskS_ct (b : Option Addr) (m c : Nat) (xs : List Disk) (left : Int) (h0 : 0 ≤ left) (h1 : left ≤ 1048576) :
    Ct Try.prog 30 [.slice b m c, .int .i64 left] [] (fun H => (gSl 128 gDisk).rd H [.slice b m c] xs) (fun v A => (∃ r : Int, v = .int .i64 r ∧ ((r = -1 ∧ left < (szL gDisk xs : Int)) ∨ (r = left - (szL gDisk xs : Int) ∧ (szL gDisk xs : Int) ≤ left))) ∧ A = []) := by
  refine Ct.intro0 G_ok Try.func30 rfl rfl rfl fun E H hp => ?_
  obtain ⟨rfl, hcl, hl⟩ := sl_len hp
  have hq := szL_eq gDisk xs
  have ht := List.take_length (l := xs)
  refine VCsplit.intro (fun q0 => ?_) (fun q0 => ?_)
  ·
    simp at q0
    simp (disch := omega) only [wrap_of] at q0
    exact ⟨[], ⟨⟨-1, rfl, .inl ⟨rfl, by (try simp (disch := omega) only [wrap_of] at *); omega⟩⟩, rfl⟩, (.le fun a => by (try simp only [setR, List.cons_append, List.nil_append]); simp only [List.flatten_append, List.flatten_cons, List.flatten_nil, List.count_append, List.count_nil, List.append_nil, List.nil_append]; omega)⟩
  ·
    simp at q0
    simp (disch := omega) only [wrap_of] at q0
    apply loop_mod (α := (Nat) × (Int)) G_ok [12, 13, 14, 15, 18, 19, 20, 21, 22, 23, 1, 24, 25, 4, 16, 17, 5] (fun z => [(5, .v (.int .i64 z.1)), (1, .v (.int .i64 z.2))]) (fun z => []) (fun z => [H]) (fun z => xs.length - z.1) (fun z => z.1 ≤ xs.length ∧ z.2 = left - xs.length - szE gDisk (xs.take z.1) ∧ 0 ≤ z.2) ((0, left - xs.length))
    · repeat' (first | exact trivial | refine ⟨⟨_, rfl, by first | rfl | exact inc_eq _ (by omega) | (refine sl_eq ?_; simp; done) | (simp (disch := omega) only [wrap_of]), by first | exact trivial | simp [SV.ok]⟩, ?_⟩)
    · exact trivial
    · try dsimp only
      exact ⟨by omega, by simp [szE], by omega⟩
    · exact .refl _
    rintro ⟨k, lf⟩ hI
    obtain ⟨hk, hlf, hnn⟩ : k ≤ xs.length ∧ lf = left - xs.length - szE gDisk (xs.take k) ∧ 0 ≤ lf := hI
    try dsimp only
    refine VCsplit.intro (fun q1 => ?_) (fun q1 => ?_)
    ·
      simp at q1
      have hs := szE_step gDisk xs k default (by omega)
      have hs2 := szE_le gDisk xs (k + 1)
      refine idx_rd hp ?_ ?_ fun b2 o2 hb2 => ?_
      · omega
      · omega
      refine load_allN default (k) rfl hp ?_ ?_ hb2 rfl (mem_at 0 rfl) fun l3 hl3 => ?_
      · omega
      · omega
      obtain ⟨b0x3, c0x3, rfl, h0x3⟩ := gDisk_rd.1 hl3
      refine call_q (szDisk_ct _ (xs[k]?.getD default) _ ?_ ?_) (Rp.mono _ (mem_at 0 rfl) hl3) ?_
      · trivial
      · omega
      rintro _ ⟨r4, rfl, hr4⟩
      refine VCsplit.intro (fun q5 => ?_) (fun q5 => ?_)
      ·
        simp at q5
        exact ⟨[], ⟨⟨-1, rfl, .inl ⟨rfl, by (try simp (disch := omega) only [wrap_of] at *); omega⟩⟩, rfl⟩, (.le fun a => by (try simp only [setR, List.cons_append, List.nil_append]); simp only [List.flatten_append, List.flatten_cons, List.flatten_nil, List.count_append, List.count_nil, List.append_nil, List.nil_append]; omega)⟩
      ·
        simp at q5
        apply loop_stepA (k + 1, _)
        · exact .refl _
        · repeat' (first | exact trivial | refine ⟨⟨_, rfl, by first | rfl | exact inc_eq _ (by omega) | (refine sl_eq ?_; simp; done) | (simp (disch := omega) only [wrap_of]), by first | exact trivial | simp [SV.ok]⟩, ?_⟩)
        · exact trivial
        · try dsimp only
          ((try simp (disch := omega) only [wrap_of] at *); refine ⟨by omega, by omega, by omega⟩)
        · try dsimp only
          omega
    ·
      simp at q1
      obtain rfl : k = xs.length := by omega
      rw [List.take_length] at hlf
      exact ⟨[], ⟨⟨_, rfl, .inr ⟨by (try simp (disch := omega) only [wrap_of] at *); omega, by omega⟩⟩, rfl⟩, (.le fun a => by (try simp only [setR, List.cons_append, List.nil_append]); simp only [List.flatten_append, List.flatten_cons, List.flatten_nil, List.count_append, List.count_nil, List.append_nil, List.nil_append]; omega)⟩

--@ct laws.toDiskS new toDiskS_ct _ _ _ $1 ?_ | %1 | obtain ⟨b#, c#, rfl, o#⟩ := o#
theorem toDiskS_ct (b : Option Addr) (m c : Nat) (xs : List Disk) (hx : szL gDisk xs ≤ 1048576) :
    Ct Try.prog 32 [.slice b m c] [] (fun H => (gSl 128 gDisk).rd H [.slice b m c] xs) (fun v A => ∃ b c, v = .slice b xs.length c ∧ (gSl 128 gDisk).ow [.slice b xs.length c] xs A) := by
  refine Ct.intro0 G_ok Try.func32 rfl rfl rfl fun E H hp => ?_
  obtain ⟨rfl, hcl, hl⟩ := sl_len hp
  have hls := len_szL gDisk xs
  have hq := szL_eq gDisk xs
  refine VCmake.intro ?_ ?_ ?_ ?_ fun x0 => ?_
  · omega
  · omega
  · omega
  · omega
  apply loop_mod (α := (Nat) × (Hp)) G_ok [8, 9, 10, 11, 14, 15, 16, 17, 18, 19, 20, 21, 12, 13, 4] (fun z => [(4, .v (.int .i64 z.1))]) (fun z => []) (fun z => [z.2, H]) (fun z => xs.length - z.1) (fun z => z.1 ≤ xs.length ∧ (gSl 128 gDisk).ow [.slice (some ⟨x0, 0, none⟩) xs.length xs.length] (xs.take z.1 ++ List.replicate (xs.length - z.1) zDisk) z.2) ((0, _))
  · repeat' (first | exact trivial | refine ⟨⟨_, rfl, by first | rfl | exact inc_eq _ (by omega) | (refine sl_eq ?_; simp; done), by first | exact trivial | simp [SV.ok]⟩, ?_⟩)
  · exact trivial
  · try dsimp only
    exact ⟨by omega, by simpa using gmake (g := gDisk) (T := 128) (b := x0) (zDisk_ow) (Nat.le_refl xs.length) (by omega)⟩
  · exact .refl _
  rintro ⟨k, A⟩ hI
  obtain ⟨hk, oA⟩ : k ≤ xs.length ∧ (gSl 128 gDisk).ow [.slice (some ⟨x0, 0, none⟩) xs.length xs.length] (xs.take k ++ List.replicate (xs.length - k) zDisk) A := hI
  try dsimp only
  refine VCsplit.intro (fun q1 => ?_) (fun q1 => ?_)
  ·
    simp at q1
    have hs := szE_step gDisk xs k default (by omega)
    have hs2 := szE_le gDisk xs (k + 1)
    refine idx_rd hp ?_ ?_ fun b2 o2 hb2 => ?_
    · omega
    · omega
    refine load_allN default (k) rfl hp ?_ ?_ hb2 rfl (mem_at 1 rfl) fun l3 hl3 => ?_
    · omega
    · omega
    obtain ⟨b0x3, c0x3, rfl, h0x3⟩ := gDisk_rd.1 hl3
    refine call_new (toDisk_ct _ (xs[k]?.getD default) ?_) (Rp.mono _ (mem_at 1 rfl) hl3) ?_
    · omega
    rintro v4 A4 o4
    obtain ⟨l4, rfl, o4⟩ := o4
    have r4 := Gt.owrd _ o4
    obtain ⟨b0x4, c0x4, rfl, h0x4⟩ := gDisk_rd.1 r4
    refine idx_rd (Gt.owrd _ oA) ?_ ?_ fun b5 o5 hb5 => ?_
    · omega
    · simp; omega
    refine gstore1N (k) (A) (A4) [H] (.le fun a => by (try simp only [setR, List.cons_append, List.nil_append]); simp only [List.flatten_append, List.flatten_cons, List.flatten_nil, List.count_append, List.count_nil, List.append_nil, List.nil_append]; omega) rfl oA ?_ ?_ hb5 rfl _ o4 fun A6 o6 => ?_
    · omega
    · simp; omega
    apply loop_stepA (k + 1, _)
    · exact .refl _
    · repeat' (first | exact trivial | refine ⟨⟨_, rfl, by first | rfl | exact inc_eq _ (by omega) | (refine sl_eq ?_; simp; done), by first | exact trivial | simp [SV.ok]⟩, ?_⟩)
    · exact trivial
    · try dsimp only
      exact ⟨by omega, by rw [← take_stepz xs k default zDisk (by omega)] ; assumption⟩
    · try dsimp only
      omega
  ·
    simp at q1
    obtain rfl : k = xs.length := by omega
    rw [List.take_length, Nat.sub_self, List.replicate_zero, List.append_nil] at oA
    exact ⟨_, ⟨_, _, rfl, oA⟩, (.le fun a => by (try simp only [setR, List.cons_append, List.nil_append]); simp only [List.flatten_append, List.flatten_cons, List.flatten_nil, List.count_append, List.count_nil, List.append_nil, List.nil_append]; omega)⟩

--@ct laws.eqDiskS val eqDiskS_ct _ _ _ _ _ _ $1 $2 | ⟨%1, %2⟩
theorem eqDiskS_ct (b1 : Option Addr) (m1 c1 : Nat) (b2 : Option Addr) (m2 c2 : Nat) (xs ys : List Disk) :
    Ct Try.prog 35 [.slice b1 m1 c1, .slice b2 m2 c2] [] (fun H => (gSl 128 gDisk).rd H [.slice b1 m1 c1] xs ∧ (gSl 128 gDisk).rd H [.slice b2 m2 c2] ys) (fun v A => v = .bool (decide (xs = ys)) ∧ A = []) := by
  refine Ct.intro0 G_ok Try.func35 rfl rfl rfl fun E H hp => ?_
  obtain ⟨hp1, hp2⟩ := hp
  obtain ⟨rfl, hc1, hl1⟩ := sl_len hp1
  obtain ⟨rfl, hc2, hl2⟩ := sl_len hp2
  refine VCsplit.intro (fun q0 => ?_) (fun q0 => ?_)
  ·
    simp at q0
    exact ⟨[], ⟨by rw [decide_eq_false (fun e => by subst e; omega)], rfl⟩, (.le fun a => by (try simp only [setR, List.cons_append, List.nil_append]); simp only [List.flatten_append, List.flatten_cons, List.flatten_nil, List.count_append, List.count_nil, List.append_nil, List.nil_append]; omega)⟩
  ·
    simp at q0
    apply loop_mod (α := (Nat)) G_ok [11, 12, 13, 14, 17, 18, 19, 20, 21, 22, 23, 24, 25, 26, 4, 15, 16, 5] (fun z => [(5, .v (.int .i64 z))]) (fun z => []) (fun z => [H]) (fun z => xs.length - z) (fun z => z ≤ xs.length ∧ xs.take z = ys.take z) (0)
    · repeat' (first | exact trivial | refine ⟨⟨_, rfl, by first | rfl | exact inc_eq _ (by omega) | (refine sl_eq ?_; simp; done), by first | exact trivial | simp [SV.ok]⟩, ?_⟩)
    · exact trivial
    · exact ⟨by omega, by simp⟩
    · exact .refl _
    rintro k hI
    obtain ⟨hk, he⟩ : k ≤ xs.length ∧ xs.take k = ys.take k := hI
    try dsimp only
    refine VCsplit.intro (fun q1 => ?_) (fun q1 => ?_)
    ·
      simp at q1
      refine draw G_ok mixed none (.q 0 (.q 1 (.q 2 (.q 3 (.q 4 (.q 5 (.q 6 (.q 7 (.f 8 (.q 9 (.nil))))))))))) (by decide +kernel) ?_
      refine idx_rd hp1 ?_ ?_ fun b2 o2 hb2 => ?_
      · omega
      · omega
      refine load_allN default (k) rfl hp1 ?_ ?_ hb2 rfl (mem_at 0 rfl) fun l3 hl3 => ?_
      · omega
      · omega
      obtain ⟨b0x3, c0x3, rfl, h0x3⟩ := gDisk_rd.1 hl3
      refine idx_rd hp2 ?_ ?_ fun b4 o4 hb4 => ?_
      · omega
      · omega
      refine load_allN default (k) rfl hp2 ?_ ?_ hb4 rfl (mem_at 0 rfl) fun l5 hl5 => ?_
      · omega
      · omega
      obtain ⟨b0x5, c0x5, rfl, h0x5⟩ := gDisk_rd.1 hl5
      refine call_val (eqDisk_ct _ _ (xs[k]?.getD default) (ys[k]?.getD default)) ⟨(Rp.mono _ (mem_at 0 rfl) hl3), (Rp.mono _ (mem_at 0 rfl) hl5)⟩ ?_
      rintro _ rfl
      refine VC.intro ?_ ?_
      · exact fun _ h => h
      refine VCsplit.intro (fun q7 => ?_) (fun q7 => ?_)
      ·
        simp at q7
        exact ⟨[], ⟨by rw [decide_eq_false (fun e => by subst e; simp at *)], rfl⟩, (.le fun a => by (try simp only [setR, List.cons_append, List.nil_append]); simp only [List.flatten_append, List.flatten_cons, List.flatten_nil, List.count_append, List.count_nil, List.append_nil, List.nil_append]; omega)⟩
      ·
        simp at q7
        apply loop_stepA (k + 1)
        · exact .refl _
        · repeat' (first | exact trivial | refine ⟨⟨_, rfl, by first | rfl | exact inc_eq _ (by omega) | (refine sl_eq ?_; simp; done), by first | exact trivial | simp [SV.ok]⟩, ?_⟩)
        · exact trivial
        · exact ⟨by omega, eq_step default (by omega) he (by omega) (by simpa using ‹_›)⟩
        · omega
    ·
      simp at q1
      exact ⟨[], ⟨by rw [decide_eq_true]; rw [← List.take_length (l := xs), ← List.take_length (l := ys), ← (by omega : xs.length = ys.length), show xs.length = k by omega]; exact he, rfl⟩, (.le fun a => by (try simp only [setR, List.cons_append, List.nil_append]); simp only [List.flatten_append, List.flatten_cons, List.flatten_nil, List.count_append, List.count_nil, List.append_nil, List.nil_append]; omega)⟩

--@ct laws.szPushS raw refine call_q (szPushS_ct _ _ _ $1 _ ?_ ?_) %1 ?_ | | rintro _ ⟨r#, rfl, hr#⟩
theorem szPushS_ct (b : Option Addr) (m c : Nat) (xs : List Push) (left : Int) (h0 : 0 ≤ left) (h1 : left ≤ 1048576) :
    Ct Try.prog 23 [.slice b m c, .int .i64 left] [] (fun H => (gSl 35 gPush).rd H [.slice b m c] xs) (fun v A => (∃ r : Int, v = .int .i64 r ∧ ((r = -1 ∧ left < (szL gPush xs : Int)) ∨ (r = left - (szL gPush xs : Int) ∧ (szL gPush xs : Int) ≤ left))) ∧ A = []) := by
  refine Ct.intro0 G_ok Try.func23 rfl rfl rfl fun E H hp => ?_
  obtain ⟨rfl, hcl, hl⟩ := sl_len hp
  have hq := szL_eq gPush xs
  have ht := List.take_length (l := xs)
  refine VCsplit.intro (fun q0 => ?_) (fun q0 => ?_)
  ·
    simp at q0
    simp (disch := omega) only [wrap_of] at q0
    exact ⟨[], ⟨⟨-1, rfl, .inl ⟨rfl, by (try simp (disch := omega) only [wrap_of] at *); omega⟩⟩, rfl⟩, (.le fun a => by (try simp only [setR, List.cons_append, List.nil_append]); simp only [List.flatten_append, List.flatten_cons, List.flatten_nil, List.count_append, List.count_nil, List.append_nil, List.nil_append]; omega)⟩
  ·
    simp at q0
    simp (disch := omega) only [wrap_of] at q0
    apply loop_mod (α := (Nat) × (Int)) G_ok [12, 13, 14, 15, 18, 19, 20, 21, 22, 23, 1, 24, 25, 4, 16, 17, 5] (fun z => [(5, .v (.int .i64 z.1)), (1, .v (.int .i64 z.2))]) (fun z => []) (fun z => [H]) (fun z => xs.length - z.1) (fun z => z.1 ≤ xs.length ∧ z.2 = left - xs.length - szE gPush (xs.take z.1) ∧ 0 ≤ z.2) ((0, left - xs.length))
    · repeat' (first | exact trivial | refine ⟨⟨_, rfl, by first | rfl | exact inc_eq _ (by omega) | (refine sl_eq ?_; simp; done) | (simp (disch := omega) only [wrap_of]), by first | exact trivial | simp [SV.ok]⟩, ?_⟩)
    · exact trivial
    · try dsimp only
      exact ⟨by omega, by simp [szE], by omega⟩
    · exact .refl _
    rintro ⟨k, lf⟩ hI
    obtain ⟨hk, hlf, hnn⟩ : k ≤ xs.length ∧ lf = left - xs.length - szE gPush (xs.take k) ∧ 0 ≤ lf := hI
    try dsimp only
    refine VCsplit.intro (fun q1 => ?_) (fun q1 => ?_)
    ·
      simp at q1
      have hs := szE_step gPush xs k default (by omega)
      have hs2 := szE_le gPush xs (k + 1)
      refine idx_rd hp ?_ ?_ fun b2 o2 hb2 => ?_
      · omega
      · omega
      refine load_allN default (k) rfl hp ?_ ?_ hb2 rfl (mem_at 0 rfl) fun l3 hl3 => ?_
      · omega
      · omega
      obtain ⟨rfl, w0x3, w1x3, w2x3, w3x3⟩ := gPush_rd.1 hl3
      refine call_q (szPush_ct _ (xs[k]?.getD default) _ ?_ ?_) (Rp.mono _ (mem_at 0 rfl) hl3) ?_
      · trivial
      · omega
      rintro _ ⟨r4, rfl, hr4⟩
      refine VCsplit.intro (fun q5 => ?_) (fun q5 => ?_)
      ·
        simp at q5
        exact ⟨[], ⟨⟨-1, rfl, .inl ⟨rfl, by (try simp (disch := omega) only [wrap_of] at *); omega⟩⟩, rfl⟩, (.le fun a => by (try simp only [setR, List.cons_append, List.nil_append]); simp only [List.flatten_append, List.flatten_cons, List.flatten_nil, List.count_append, List.count_nil, List.append_nil, List.nil_append]; omega)⟩
      ·
        simp at q5
        apply loop_stepA (k + 1, _)
        · exact .refl _
        · repeat' (first | exact trivial | refine ⟨⟨_, rfl, by first | rfl | exact inc_eq _ (by omega) | (refine sl_eq ?_; simp; done) | (simp (disch := omega) only [wrap_of]), by first | exact trivial | simp [SV.ok]⟩, ?_⟩)
        · exact trivial
        · try dsimp only
          ((try simp (disch := omega) only [wrap_of] at *); refine ⟨by omega, by omega, by omega⟩)
        · try dsimp only
          omega
    ·
      simp at q1
      obtain rfl : k = xs.length := by omega
      rw [List.take_length] at hlf
      exact ⟨[], ⟨⟨_, rfl, .inr ⟨by (try simp (disch := omega) only [wrap_of] at *); omega, by omega⟩⟩, rfl⟩, (.le fun a => by (try simp only [setR, List.cons_append, List.nil_append]); simp only [List.flatten_append, List.flatten_cons, List.flatten_nil, List.count_append, List.count_nil, List.append_nil, List.nil_append]; omega)⟩

--@ct laws.toPushS new toPushS_ct _ _ _ $1 ?_ | %1 | obtain ⟨b#, c#, rfl, o#⟩ := o#
theorem toPushS_ct (b : Option Addr) (m c : Nat) (xs : List Push) (hx : szL gPush xs ≤ 1048576) :
    Ct Try.prog 24 [.slice b m c] [] (fun H => (gSl 35 gPush).rd H [.slice b m c] xs) (fun v A => ∃ b c, v = .slice b xs.length c ∧ (gSl 35 gPush).ow [.slice b xs.length c] xs A) := by
  refine Ct.intro0 G_ok Try.func24 rfl rfl rfl fun E H hp => ?_
  obtain ⟨rfl, hcl, hl⟩ := sl_len hp
  have hls := len_szL gPush xs
  have hq := szL_eq gPush xs
  refine VCmake.intro ?_ ?_ ?_ ?_ fun x0 => ?_
  · omega
  · omega
  · omega
  · omega
  apply loop_mod (α := (Nat) × (Hp)) G_ok [8, 9, 10, 11, 14, 15, 16, 17, 18, 19, 20, 21, 12, 13, 4] (fun z => [(4, .v (.int .i64 z.1))]) (fun z => []) (fun z => [z.2, H]) (fun z => xs.length - z.1) (fun z => z.1 ≤ xs.length ∧ (gSl 35 gPush).ow [.slice (some ⟨x0, 0, none⟩) xs.length xs.length] (xs.take z.1 ++ List.replicate (xs.length - z.1) zPush) z.2) ((0, _))
  · repeat' (first | exact trivial | refine ⟨⟨_, rfl, by first | rfl | exact inc_eq _ (by omega) | (refine sl_eq ?_; simp; done), by first | exact trivial | simp [SV.ok]⟩, ?_⟩)
  · exact trivial
  · try dsimp only
    exact ⟨by omega, by simpa using gmake (g := gPush) (T := 35) (b := x0) (zPush_ow) (Nat.le_refl xs.length) (by omega)⟩
  · exact .refl _
  rintro ⟨k, A⟩ hI
  obtain ⟨hk, oA⟩ : k ≤ xs.length ∧ (gSl 35 gPush).ow [.slice (some ⟨x0, 0, none⟩) xs.length xs.length] (xs.take k ++ List.replicate (xs.length - k) zPush) A := hI
  try dsimp only
  refine VCsplit.intro (fun q1 => ?_) (fun q1 => ?_)
  ·
    simp at q1
    have hs := szE_step gPush xs k default (by omega)
    have hs2 := szE_le gPush xs (k + 1)
    refine idx_rd hp ?_ ?_ fun b2 o2 hb2 => ?_
    · omega
    · omega
    refine load_allN default (k) rfl hp ?_ ?_ hb2 rfl (mem_at 1 rfl) fun l3 hl3 => ?_
    · omega
    · omega
    obtain ⟨rfl, w0x3, w1x3, w2x3, w3x3⟩ := gPush_rd.1 hl3
    refine call_new (toPush_ct _ (xs[k]?.getD default) ?_) (Rp.mono _ (mem_at 1 rfl) hl3) ?_
    · omega
    rintro v4 A4 o4
    obtain ⟨l4, rfl, o4⟩ := o4
    have r4 := Gt.owrd _ o4
    obtain ⟨rfl, w0x4, w1x4, w2x4, w3x4⟩ := gPush_rd.1 r4
    refine idx_rd (Gt.owrd _ oA) ?_ ?_ fun b5 o5 hb5 => ?_
    · omega
    · simp; omega
    refine gstore1N (k) (A) (A4) [H] (.le fun a => by (try simp only [setR, List.cons_append, List.nil_append]); simp only [List.flatten_append, List.flatten_cons, List.flatten_nil, List.count_append, List.count_nil, List.append_nil, List.nil_append]; omega) rfl oA ?_ ?_ hb5 rfl _ o4 fun A6 o6 => ?_
    · omega
    · simp; omega
    apply loop_stepA (k + 1, _)
    · exact .refl _
    · repeat' (first | exact trivial | refine ⟨⟨_, rfl, by first | rfl | exact inc_eq _ (by omega) | (refine sl_eq ?_; simp; done), by first | exact trivial | simp [SV.ok]⟩, ?_⟩)
    · exact trivial
    · try dsimp only
      exact ⟨by omega, by rw [← take_stepz xs k default zPush (by omega)] ; assumption⟩
    · try dsimp only
      omega
  ·
    simp at q1
    obtain rfl : k = xs.length := by omega
    rw [List.take_length, Nat.sub_self, List.replicate_zero, List.append_nil] at oA
    exact ⟨_, ⟨_, _, rfl, oA⟩, (.le fun a => by (try simp only [setR, List.cons_append, List.nil_append]); simp only [List.flatten_append, List.flatten_cons, List.flatten_nil, List.count_append, List.count_nil, List.append_nil, List.nil_append]; omega)⟩

--@ct laws.eqPushS val eqPushS_ct _ _ _ _ _ _ $1 $2 | ⟨%1, %2⟩
theorem eqPushS_ct (b1 : Option Addr) (m1 c1 : Nat) (b2 : Option Addr) (m2 c2 : Nat) (xs ys : List Push) :
    Ct Try.prog 26 [.slice b1 m1 c1, .slice b2 m2 c2] [] (fun H => (gSl 35 gPush).rd H [.slice b1 m1 c1] xs ∧ (gSl 35 gPush).rd H [.slice b2 m2 c2] ys) (fun v A => v = .bool (decide (xs = ys)) ∧ A = []) := by
  refine Ct.intro0 G_ok Try.func26 rfl rfl rfl fun E H hp => ?_
  obtain ⟨hp1, hp2⟩ := hp
  obtain ⟨rfl, hc1, hl1⟩ := sl_len hp1
  obtain ⟨rfl, hc2, hl2⟩ := sl_len hp2
  refine VCsplit.intro (fun q0 => ?_) (fun q0 => ?_)
  ·
    simp at q0
    exact ⟨[], ⟨by rw [decide_eq_false (fun e => by subst e; omega)], rfl⟩, (.le fun a => by (try simp only [setR, List.cons_append, List.nil_append]); simp only [List.flatten_append, List.flatten_cons, List.flatten_nil, List.count_append, List.count_nil, List.append_nil, List.nil_append]; omega)⟩
  ·
    simp at q0
    apply loop_mod (α := (Nat)) G_ok [11, 12, 13, 14, 17, 18, 19, 20, 21, 22, 23, 24, 25, 26, 4, 15, 16, 5] (fun z => [(5, .v (.int .i64 z))]) (fun z => []) (fun z => [H]) (fun z => xs.length - z) (fun z => z ≤ xs.length ∧ xs.take z = ys.take z) (0)
    · repeat' (first | exact trivial | refine ⟨⟨_, rfl, by first | rfl | exact inc_eq _ (by omega) | (refine sl_eq ?_; simp; done), by first | exact trivial | simp [SV.ok]⟩, ?_⟩)
    · exact trivial
    · exact ⟨by omega, by simp⟩
    · exact .refl _
    rintro k hI
    obtain ⟨hk, he⟩ : k ≤ xs.length ∧ xs.take k = ys.take k := hI
    try dsimp only
    refine VCsplit.intro (fun q1 => ?_) (fun q1 => ?_)
    ·
      simp at q1
      refine draw G_ok mixed none (.q 0 (.q 1 (.q 2 (.q 3 (.q 4 (.q 5 (.q 6 (.q 7 (.f 8 (.q 9 (.nil))))))))))) (by decide +kernel) ?_
      refine idx_rd hp1 ?_ ?_ fun b2 o2 hb2 => ?_
      · omega
      · omega
      refine load_allN default (k) rfl hp1 ?_ ?_ hb2 rfl (mem_at 0 rfl) fun l3 hl3 => ?_
      · omega
      · omega
      obtain ⟨rfl, w0x3, w1x3, w2x3, w3x3⟩ := gPush_rd.1 hl3
      refine idx_rd hp2 ?_ ?_ fun b4 o4 hb4 => ?_
      · omega
      · omega
      refine load_allN default (k) rfl hp2 ?_ ?_ hb4 rfl (mem_at 0 rfl) fun l5 hl5 => ?_
      · omega
      · omega
      obtain ⟨rfl, w0x5, w1x5, w2x5, w3x5⟩ := gPush_rd.1 hl5
      refine call_val (eqPush_ct _ _ (xs[k]?.getD default) (ys[k]?.getD default)) ⟨(Rp.mono _ (mem_at 0 rfl) hl3), (Rp.mono _ (mem_at 0 rfl) hl5)⟩ ?_
      rintro _ rfl
      refine VC.intro ?_ ?_
      · exact fun _ h => h
      refine VCsplit.intro (fun q7 => ?_) (fun q7 => ?_)
      ·
        simp at q7
        exact ⟨[], ⟨by rw [decide_eq_false (fun e => by subst e; simp at *)], rfl⟩, (.le fun a => by (try simp only [setR, List.cons_append, List.nil_append]); simp only [List.flatten_append, List.flatten_cons, List.flatten_nil, List.count_append, List.count_nil, List.append_nil, List.nil_append]; omega)⟩
      ·
        simp at q7
        apply loop_stepA (k + 1)
        · exact .refl _
        · repeat' (first | exact trivial | refine ⟨⟨_, rfl, by first | rfl | exact inc_eq _ (by omega) | (refine sl_eq ?_; simp; done), by first | exact trivial | simp [SV.ok]⟩, ?_⟩)
        · exact trivial
        · exact ⟨by omega, eq_step default (by omega) he (by omega) (by simpa using ‹_›)⟩
        · omega
    ·
      simp at q1
      exact ⟨[], ⟨by rw [decide_eq_true]; rw [← List.take_length (l := xs), ← List.take_length (l := ys), ← (by omega : xs.length = ys.length), show xs.length = k by omega]; exact he, rfl⟩, (.le fun a => by (try simp only [setR, List.cons_append, List.nil_append]); simp only [List.flatten_append, List.flatten_cons, List.flatten_nil, List.count_append, List.count_nil, List.append_nil, List.nil_append]; omega)⟩

end Go.Proofs.Ytcikookachejfaa
