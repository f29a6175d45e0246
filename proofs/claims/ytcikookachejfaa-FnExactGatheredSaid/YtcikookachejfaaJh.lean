/-
  Edges put into graphs, on both sides. Conditions: none.
-/
import Derived.Test.YtcikookachejfaaJg
import Derived.Test.YtcikookachejfaaJc
namespace Go.Proofs.Ytcikookachejfaa
open Go.SX Go.Proofs
set_option linter.unusedSimpArgs false
set_option linter.unusedVariables false
set_option maxHeartbeats 4000000
attribute [local irreducible] IntKind.wrap

theorem OwL_drop {α : Type} {g : Gt α} {ls : List (RawC g.size)} {xs : List α} {As : List Hp} (h : OwL g ls xs As) : ∀ i : Nat, OwL g (ls.drop i) (xs.drop i) (As.drop i) := by
  induction h with
  | nil => intro i; simp; exact .nil
  | cons h hr ih =>
    intro i
    cases i with
    | zero => exact .cons h hr
    | succ i => exact ih i
theorem insEdge_ct (b : Option Addr) (m c i x : Nat) (xs : List Edge) (e : Edge) (l : List Value) (A : Hp) (hA : (gSl 192 gEdge).ow [.slice b m c] xs A) (hl : gEdge.ow l e []) (hi : i ≤ m) (hm : m ≤ 1000000) :
    CtR Try.prog 222 [.slice b m c, .int .i64 (i : Int), .slice (some ⟨x, 0, none⟩) 1 1] A (fun H => (x, Obj.cells ⟨l⟩ 192) ∈ H)
      (fun v A => ∃ b c, v = .slice b (xs.take i ++ ([e] ++ xs.drop i)).length c ∧ (gSl 192 gEdge).ow [.slice b (xs.take i ++ ([e] ++ xs.drop i)).length c] (xs.take i ++ ([e] ++ xs.drop i)) A) := by
  obtain ⟨v, ls, A0, As, ev, ho, hp, hL⟩ := hA
  cases ev
  have hlen := hL.len
  have hm0 : m = ls.length := by obtain ⟨_, _, _, _, e0, _⟩ := ho; cases e0; rfl
  have hr := insRaw_ct b m c i x ls ⟨l, raw_of (gEdge.owrd hl)⟩ A0 ho hi hm
  refine ⟨hr.1, fun E H w hs hpre => ?_⟩
  have hs' : Sat E (A0 ++ (As.flatten ++ H)) w := by
    refine hs.perm ?_
    have := hp.append_right H
    simpa [List.append_assoc] using this
  refine (hr.2 E (As.flatten ++ H) w hs' ⟨?_, List.mem_append_right _ hpre⟩).mono ?_
  · exact lit_rd (f := flRaw gEdge.size gEdge.pos) (List.mem_append_right _ hpre) rfl trivial
  · rintro e' w' ⟨v, A1, h1, ⟨b', c', h2, h3⟩, h4⟩
    have hlx : (xs.take i ++ ([e] ++ xs.drop i)).length = m + 1 := by
      simp only [List.length_append, List.length_take, List.length_drop, List.length_cons, List.length_nil]; omega
    refine ⟨v, A1 ++ As.flatten, h1, ⟨b', c', by rw [hlx]; exact h2, ?_⟩, by rw [List.append_assoc]; exact h4⟩
    rw [hlx]
    refine ⟨_, _, A1, As.take i ++ ([[]] ++ As.drop i), rfl, h3, ?_, (hL.take i).append (OwL.append (.cons hl .nil) (OwL_drop hL i))⟩
    refine List.Perm.append_left _ ?_
    conv => lhs; rw [← List.take_append_drop i As]
    simp only [List.flatten_append, List.flatten_cons, List.flatten_nil, List.nil_append]
    exact .refl _

theorem cmpE_zero {a b : Edge} : cmpE a b = 0 ↔ a = b := by
  have h1 := cmpE_lt a b
  constructor
  · intro h
    rw [h] at h1
    unfold cmpE at h
    split at h
    · rename_i h2
      have : a.label.toNat = b.label.toNat := by omega
      exact absurd (UInt8.toNat_inj.1 this) h2.1
    · rename_i h2
      simp only [cmpL] at h
      have h3 : a.from' = b.from' := by
        by_cases h4 : a.from' < b.from'
        · rw [if_pos h4] at h; omega
        · rw [if_neg h4] at h
          by_cases h5 : b.from' < a.from'
          · rw [if_pos h5] at h; omega
          · omega
      have h6 : a.label = b.label := by
        by_cases h7 : a.label = b.label
        · exact h7
        · exact absurd ⟨h7, h3⟩ h2
      rw [if_neg (by omega), if_neg (by omega)] at h
      have h8 : a.to = b.to := by
        by_cases h4 : a.to < b.to
        · rw [if_pos h4] at h; omega
        · rw [if_neg h4] at h
          by_cases h5 : b.to < a.to
          · rw [if_pos h5] at h; omega
          · omega
      cases a; cases b; simp_all
  · rintro rfl
    unfold cmpE
    rw [if_neg (by simp)]
    simp [cmpL]
theorem cmpE_neg {a b : Edge} : cmpE a b < 0 ↔ edgeLess a b = true := by rw [← cmpE_lt, decide_eq_true_iff]

theorem u64_wrap (x : Int) : IntKind.u64.wrap x = x % 18446744073709551616 := by
  unfold IntKind.wrap; simp [IntKind.bits, IntKind.signed]
theorem half_64 (B : Int) : B.fdiv (2 ^ min (Int.toNat 1) IntKind.u64.bits) = B / 2 := by
  have : (2 : Int) ^ min (Int.toNat 1) IntKind.u64.bits = 2 := by decide
  rw [this, Int.fdiv_eq_ediv_of_nonneg _ (by decide)]
theorem mid_eq (i j : Nat) (h : i + j ≤ 1000000000) : IntKind.i64.wrap ((IntKind.u64.wrap (IntKind.i64.wrap ((i : Int) + (j : Int)))).fdiv (2 ^ min (Int.toNat 1) IntKind.u64.bits)) = (((i + j) / 2 : Nat) : Int) := by
  have e1 : IntKind.i64.wrap ((i : Int) + (j : Int)) = (i : Int) + (j : Int) := wrap_of (by omega) (by omega)
  rw [e1, u64_wrap, half_64, wrap_of (by omega) (by omega)]
  omega
theorem below_all {xs : List Edge} {e : Edge} {m : Nat} (hs : sortedE xs) (hm : m < xs.length) (h : edgeLess (xs[m]?.getD default) e = true) (q : Nat) (hq : q < m + 1) : edgeLess (xs[q]?.getD default) e = true := by
  rcases Nat.lt_or_ge q m with h1 | h1
  · exact edgeLess_trans (sorted_at hs h1 hm) h
  · rw [show q = m by omega]; exact h
theorem above_all {xs : List Edge} {e : Edge} {m : Nat} (hs : sortedE xs) (h : edgeLess (xs[m]?.getD default) e = false) (q : Nat) (h1 : m ≤ q) (hq : q < xs.length) : edgeLess (xs[q]?.getD default) e = false := by
  rcases Nat.lt_or_ge m q with h2 | h2
  · cases h3 : edgeLess (xs[q]?.getD default) e with
    | false => rfl
    | true => have := edgeLess_trans (sorted_at hs h2 hq) h3; rw [h] at this; cases this
  · rw [show q = m by omega]; exact h
theorem cmpE_nneg {a b : Edge} (h : 0 ≤ cmpE a b) : edgeLess a b = false := by
  cases e : edgeLess a b with
  | false => rfl
  | true => have := cmpE_neg.2 e; omega
--@ct slices.BinarySearchFunc[[]impl.Edge,impl.Edge,impl.Edge] raw refine call_val (bsEdge_ct _ _ _ _ $1 $2 ?_ ?_) ⟨%1, %2⟩ ?_ | | rintro _ ⟨k#, hk#, rfl⟩
theorem bsEdge_ct (b : Option Addr) (m c : Nat) (l : List Value) (xs : List Edge) (e : Edge) (hs : sortedE xs) (hm : xs.length ≤ 1000000) :
    Ct Try.prog 220 [.slice b m c, .agg ⟨l⟩, .func (.func 221) ⟨[]⟩ ⟨[]⟩] [] (fun H => (gSl 192 gEdge).rd H [.slice b m c] xs ∧ gEdge.rd H l e)
      (fun v A => (∃ k : Nat, atE xs e k ∧ v = .tuple #[.int .i64 (k : Int), .bool (decide (k < xs.length ∧ xs[k]?.getD default = e))]) ∧ A = []) := by
  refine Ct.intro0 G_ok Try.func220 rfl rfl rfl fun E H hp => ?_
  obtain ⟨hp, hp2⟩ := hp
  obtain ⟨rfl, hcl, hl⟩ := sl_len hp
  obtain ⟨rfl, w0f, w2f⟩ := gEdge_rd.1 hp2
  refine VCnew.intro fun x0 => ?_
  apply loop_mod (α := (Nat) × (Nat)) G_ok [15, 16, 17, 18, 19, 20, 21, 22, 23, 11, 24, 25, 26, 27, 28, 29, 30, 31, 32, 33, 9, 34, 10] (fun z => [(9, .v (.int .i64 z.1)), (10, .v (.int .i64 z.2))]) (fun z => [{ id := x0, cs := [Value.int IntKind.i64 e.from', Value.int IntKind.u8 (↑e.label.toNat : Int), Value.int IntKind.i64 e.to], ty := (192 : Nat) }]) (fun z => [H]) (fun z => z.2 - z.1) (fun z => z.1 ≤ z.2 ∧ z.2 ≤ xs.length ∧ (∀ q, q < z.1 → edgeLess (xs[q]?.getD default) e = true) ∧ (∀ q, z.2 ≤ q → q < xs.length → edgeLess (xs[q]?.getD default) e = false)) ((0, xs.length))
  · repeat' (first | exact trivial | refine ⟨⟨_, rfl, by first | rfl | exact inc_eq _ (by omega) | (refine sl_eq ?_; simp; done) | (rw [hh]; exact inc_eq _ (by omega)) | (rw [hh]), by first | exact trivial | simp [SV.ok]⟩, ?_⟩)
  · exact ⟨rfl, trivial⟩
  · try dsimp only
    exact ⟨by omega, by omega, fun q hq => absurd hq (by omega), fun q hq hq2 => absurd hq2 (by omega)⟩
  · exact .refl _
  rintro ⟨i, j⟩ hI
  obtain ⟨hij, hj, h1, h2⟩ : i ≤ j ∧ j ≤ xs.length ∧ (∀ q, q < i → edgeLess (xs[q]?.getD default) e = true) ∧ (∀ q, j ≤ q → q < xs.length → edgeLess (xs[q]?.getD default) e = false) := hI
  try dsimp only
  refine VCsplit.intro (fun q1 => ?_) (fun q1 => ?_)
  ·
    simp at q1
    have hh := mid_eq i j (by omega)
    refine VC.intro ?_ ?_
    · trivial
    refine draw G_ok mixed none (.q 0 (.q 1 (.q 2 (.q 3 (.q 4 (.q 5 (.f 6 (.q 7 (.nil))))))))) (by decide +kernel) ?_
    refine idx_rd hp ?_ ?_ fun b2 o2 hb2 => ?_
    · omega
    · omega
    refine load_all default hp ?_ ?_ hb2 rfl (mem_at 0 rfl) fun l3 hl3 => ?_
    · omega
    · omega
    obtain ⟨rfl, w0x3, w2x3⟩ := gEdge_rd.1 hl3
    refine call_val (compareEdges_ct _ _ (xs[(IntKind.i64.wrap ((IntKind.u64.wrap (IntKind.i64.wrap ((↑i : Int) + (↑j : Int)))).fdiv ((2 : Int) ^ min (Int.toNat (1 : Int)) IntKind.u64.bits))).toNat]?.getD default) (e)) ⟨(Rp.mono _ (mem_at 0 rfl) hl3), (Rp.mono _ (mem_at 0 rfl) hp2)⟩ ?_
    rintro _ rfl
    refine VC.intro ?_ ?_
    · exact fun _ h => h
    refine VCsplit.intro (fun q5 => ?_) (fun q5 => ?_)
    ·
      rw [hh, Int.toNat_natCast] at q5
      simp at q5
      apply loop_stepA ((i + j) / 2 + 1, j)
      · exact .refl _
      · repeat' (first | exact trivial | refine ⟨⟨_, rfl, by first | rfl | exact inc_eq _ (by omega) | (refine sl_eq ?_; simp; done) | (rw [hh]; exact inc_eq _ (by omega)) | (rw [hh]), by first | exact trivial | simp [SV.ok]⟩, ?_⟩)
      · exact ⟨rfl, trivial⟩
      · try dsimp only
        exact ⟨by omega, by omega, below_all hs (by omega) (cmpE_neg.1 ‹_›), h2⟩
      · try dsimp only
        omega
    ·
      rw [hh, Int.toNat_natCast] at q5
      simp at q5
      apply loop_stepA (i, (i + j) / 2)
      · exact .refl _
      · repeat' (first | exact trivial | refine ⟨⟨_, rfl, by first | rfl | exact inc_eq _ (by omega) | (refine sl_eq ?_; simp; done) | (rw [hh]; exact inc_eq _ (by omega)) | (rw [hh]), by first | exact trivial | simp [SV.ok]⟩, ?_⟩)
      · exact ⟨rfl, trivial⟩
      · try dsimp only
        exact ⟨by omega, by omega, h1, above_all hs (cmpE_nneg (by omega))⟩
      · try dsimp only
        omega
  ·
    simp at q1
    obtain rfl : i = j := by omega
    refine draw G_ok mixed none (.q 0 (.q 1 (.q 2 (.q 3 (.q 4 (.q 5 (.q 6 (.q 7 (.q 8 (.q 9 (.q 10 (.f 11 (.q 12 (.q 13 (.q 14 (.q 15 (.nil))))))))))))))))) (by decide +kernel) ?_
    refine VCsplit.intro (fun q6 => ?_) (fun q6 => ?_)
    ·
      simp at q6
      refine idx_rd hp ?_ ?_ fun b7 o7 hb7 => ?_
      · omega
      · omega
      refine load_allN default (i) rfl hp ?_ ?_ hb7 rfl (mem_at 0 rfl) fun l8 hl8 => ?_
      · omega
      · omega
      obtain ⟨rfl, w0x8, w2x8⟩ := gEdge_rd.1 hl8
      refine call_val (compareEdges_ct _ _ (xs[i]?.getD default) (e)) ⟨(Rp.mono _ (mem_at 0 rfl) hl8), (Rp.mono _ (mem_at 0 rfl) hp2)⟩ ?_
      rintro _ rfl
      refine VC.intro ?_ ?_
      · exact fun _ h => h
      exact ⟨[], ⟨⟨i, ⟨by omega, h1, h2⟩, by (congr 2; rw [← decide_eq_decide.2 (show (cmpE (xs[i]?.getD default) e = 0) ↔ (i < xs.length ∧ xs[i]?.getD default = e) from cmpE_zero.trans ⟨fun h => ⟨by omega, h⟩, fun h => h.2⟩)]; rfl)⟩, rfl⟩, (.le fun a => by (try simp only [setR, List.cons_append, List.nil_append]); simp [List.count_cons, Blk.ent, idOf]; try omega)⟩
    ·
      simp at q6
      exact ⟨[], ⟨⟨i, ⟨by omega, h1, h2⟩, by rw [decide_eq_false (by omega)]⟩, rfl⟩, (.le fun a => by (try simp only [setR, List.cons_append, List.nil_append]); simp [List.count_cons, Blk.ent, idOf]; try omega)⟩

end Go.Proofs.Ytcikookachejfaa
