/-
  Lists of rows that came, put together, on both sides. Conditions: none.
-/
import Derived.Test.YtcikookachejfaaNb
import Derived.Test.YtcikookachejfaaNa
import Derived.Test.YtcikookachejfaaIc
namespace Go.Proofs.Ytcikookachejfaa
open Go.SX Go.Proofs
set_option linter.unusedSimpArgs false
set_option linter.unusedVariables false
set_option maxHeartbeats 4000000
attribute [local irreducible] IntKind.wrap

abbrev gRG : Gt (RawC gGot.size) := gRaw gGot.size gGot.pos
theorem ow_zero {α : Type} {f : Fl α} {T : TypeId} {b : Option Addr} {m c : Nat} {xs : List α} {A : Hp} (h : Ow f T (.slice b m c) xs A) : Ow f T (.slice b 0 c) [] A := by
  obtain ⟨h1, h2, base, cap, e, h3⟩ := h
  cases e
  refine ⟨by simp, by simp, b, c, rfl, ?_⟩
  rcases h3 with ⟨rfl, rfl, rfl⟩ | ⟨bb, sp, rfl, rfl, h4, h5⟩
  · exact .inl ⟨rfl, rfl, rfl⟩
  · refine .inr ⟨bb, xs.flatMap f.enc ++ sp, rfl, by simp, by simp, ?_⟩
    rw [List.length_append, flat_length, h5, ← Nat.add_mul, show xs.length + (c - xs.length) = c by omega]; rfl

theorem sb_ow {α : Type} {f : Fl α} {T : TypeId} {b : Option Addr} {m c : Nat} {xs : List α} {A : Hp} (h : Ow f T (.slice b m c) xs A) (sz : Nat) : subBase c 0 b sz = b := by
  obtain ⟨h1, h2, base, c0, e, h3⟩ := h
  cases e
  rcases h3 with ⟨rfl, rfl, rfl⟩ | ⟨bb, sp, rfl, rfl, h4, h5⟩
  · rw [subBase_eq]; split
    · rfl
    · rename_i hh; exact absurd rfl hh
  · rw [subBase_eq]; split
    · rfl
    · rw [Option.map_some, addr_add]; simp
--@ct slices.Grow[[]impl.Got,impl.Got] new growGot_ct _ ?_ | trivial | obtain ⟨b#, c#, rfl, o#⟩ := o#
theorem growGot_ct (n : Nat) (hn : n ≤ 4000000) :
    Ct Try.prog 231 [.slice none 0 0, .int .i64 (n : Int)] [] (fun _ => True) (fun v A => ∃ b c, v = .slice b 0 c ∧ (gSl 142 gRG).ow [.slice b 0 c] [] A) := by
  refine Ct.intro0 G_ok Try.func231 rfl rfl rfl fun E H hp => ?_
  have hwn : IntKind.i64.wrap ((n : Int) - IntKind.i64.wrap (((0 : Nat) : Int) - ((0 : Nat) : Int))) = (n : Int) := by
    have e1 : IntKind.i64.wrap (((0 : Nat) : Int) - ((0 : Nat) : Int)) = 0 := wrap_of (by omega) (by omega)
    rw [e1, wrap_of (by omega) (by omega)]; omega
  refine VCsplit.intro (fun q0 => ?_) (fun q0 => ?_)
  ·
    simp at q0
    exfalso; omega
  ·
    simp at q0
    refine VCsplit.intro (fun q1 => ?_) (fun q1 => ?_)
    ·
      simp at q1
      simp (disch := omega) only [wrap_of] at q1
      refine VC.intro ?_ ?_
      · trivial
      refine append_zeros (f := flRaw gGot.size gGot.pos) (z := (⟨_, raw_of (gGot.owrd zGot_ow)⟩ : RawC gGot.size)) (xs := []) (base := none) (m := 0) (cap := 0) (k := n) G_ok rfl (congrArg (fun v => SV.v (Value.int .i64 v)) hwn) (Rp.mono _ (fun _ h => absurd h (by simp)) (Ow.rd (Ow.nil (f := flRaw gGot.size gGot.pos) 142 none))) (fun _ _ => trivial) rfl rfl rfl rfl rfl trivial rfl ?_ ?_ ?_ fun b' c' A' o' => ?_
      · omega
      · omega
      · omega
      refine VC.intro ?_ ?_
      · omega
      exact ⟨A', ⟨b', c', congrArg (fun x => Value.slice x 0 c') (sb_ow o' _), ow_fl (ow_zero o')⟩, (.le fun a => by (try simp only [setR, List.cons_append, List.nil_append]); simp only [List.flatten_append, List.flatten_cons, List.flatten_nil, List.count_append, List.count_nil, List.append_nil, List.nil_append]; omega)⟩
    ·
      simp at q1
      simp (disch := omega) only [wrap_of] at q1
      exact ⟨[], ⟨none, 0, rfl, sl_nil _ _ _⟩, (.le fun a => by (try simp only [setR, List.cons_append, List.nil_append]); simp only [List.flatten_append, List.flatten_cons, List.flatten_nil, List.count_append, List.count_nil, List.append_nil, List.nil_append]; omega)⟩

theorem flat_next {α : Type} {ys : List (List α)} {k : Nat} (hk : k < ys.length) : (ys.take (k + 1)).flatten = (ys.take k).flatten ++ ys[k]?.getD [] := by
  rw [← List.take_append_getElem hk, List.flatten_append, List.getElem?_eq_getElem hk]; simp
theorem flat_part {α : Type} {ys : List (List α)} {k : Nat} : (ys.take k).flatten.length ≤ ys.flatten.length := by
  conv => rhs; rw [← List.take_append_drop k ys]
  rw [List.flatten_append, List.length_append]; omega
theorem flat_one {α : Type} {ys : List (List α)} {k : Nat} (hk : k < ys.length) : (ys.take k).flatten.length + (ys[k]?.getD []).length ≤ ys.flatten.length := by
  have h1 := flat_next hk
  have h2 := flat_part (ys := ys) (k := k + 1)
  rw [h1, List.length_append] at h2; exact h2
--@ct slices.Concat[[]impl.Got,impl.Got] new concatGot_ct _ _ _ $1 ?_ | %1 | obtain ⟨b#, c#, rfl, o#⟩ := o#
theorem concatGot_ct (b : Option Addr) (m c : Nat) (ys : List (List (RawC gGot.size))) (hn : ys.flatten.length ≤ 4000000) :
    Ct Try.prog 176 [.slice b m c] [] (fun H => (gSl 84 (gSl 142 gRG)).rd H [.slice b m c] ys) (fun v A => ∃ b c, v = .slice b ys.flatten.length c ∧ (gSl 142 gRG).ow [.slice b ys.flatten.length c] ys.flatten A) := by
  refine Ct.intro0 G_ok Try.func176 rfl rfl rfl fun E H hp => ?_
  obtain ⟨rfl, hcl, hl⟩ := sl_len hp
  apply loop_mod (α := (Nat)) G_ok [12, 13, 14, 5, 15, 16, 17, 18, 3, 19, 20, 21, 22, 11] (fun z => [(11, .v (.int .i64 z)), (3, .v (.int .i64 (((ys.take z).flatten.length : Nat) : Int)))]) (fun z => []) (fun z => [H]) (fun z => ys.length - z) (fun z => z ≤ ys.length) (0)
  · repeat' (first | exact trivial | refine ⟨⟨_, rfl, by first | rfl | exact inc_eq _ (by omega) | (refine sl_eq ?_; simp; done) | exact congrArg (fun v => SV.v (Value.int .i64 v)) hf2 | exact congrArg (fun v => Value.int .i64 v) hf2 | (refine sl_eq ?_; rw [flat_next (by omega)]), by first | exact trivial | simp [SV.ok]⟩, ?_⟩)
  · exact trivial
  · omega
  · exact .refl _
  rintro k hI
  obtain hk : k ≤ ys.length := hI
  try dsimp only
  refine VCsplit.intro (fun q0 => ?_) (fun q0 => ?_)
  ·
    simp at q0
    have hf1 := flat_one (by omega : k < ys.length)
    have hf2 : IntKind.i64.wrap ((((ys.take k).flatten.length : Nat) : Int) + (((ys[k]?.getD []).length : Nat) : Int)) = (((ys.take (k + 1)).flatten.length : Nat) : Int) := by (rw [wrap_of (by omega) (by omega), flat_next (by omega), List.length_append]; push_cast; rfl)
    refine idx_rd hp ?_ ?_ fun b1 o1 hb1 => ?_
    · omega
    · omega
    refine load_allN [] (k) rfl hp ?_ ?_ hb1 rfl (mem_at 0 rfl) fun l2 hl2 => ?_
    · omega
    · omega
    obtain ⟨u2, w2, rfl, hl2⟩ := sl_rd hl2
    refine VCsplit.intro (fun q3 => ?_) (fun q3 => ?_)
    ·
      rw [hf2] at q3
      simp at q3
      exfalso; omega
    ·
      rw [hf2] at q3
      simp at q3
      apply loop_stepA (k + 1)
      · exact .refl _
      · repeat' (first | exact trivial | refine ⟨⟨_, rfl, by first | rfl | exact inc_eq _ (by omega) | (refine sl_eq ?_; simp; done) | exact congrArg (fun v => SV.v (Value.int .i64 v)) hf2 | exact congrArg (fun v => Value.int .i64 v) hf2 | (refine sl_eq ?_; rw [flat_next (by omega)]), by first | exact trivial | simp [SV.ok]⟩, ?_⟩)
      · exact trivial
      · trivial
      · omega
  ·
    simp at q0
    obtain rfl : k = ys.length := by omega
    rw [List.take_length]
    refine call_new (growGot_ct _ ?_) trivial ?_
    · trivial
    rintro v4 A4 o4
    obtain ⟨b4, c4, rfl, o4⟩ := o4
    apply loop_mod (α := (Nat) × (Hp) × (Option Addr) × (Nat)) G_ok [28, 29, 30, 8, 31, 32, 33, 6, 34, 27] (fun z => [(27, .v (.int .i64 z.1)), (6, .v (.slice z.2.2.1 (ys.take z.1).flatten.length z.2.2.2))]) (fun z => []) (fun z => [z.2.1, H]) (fun z => ys.length - z.1) (fun z => z.1 ≤ ys.length ∧ (gSl 142 gRG).ow [.slice z.2.2.1 (ys.take z.1).flatten.length z.2.2.2] (ys.take z.1).flatten z.2.1) ((0, _, _, _))
    · repeat' (first | exact trivial | refine ⟨⟨_, rfl, by first | rfl | exact inc_eq _ (by omega) | (refine sl_eq ?_; simp; done) | exact congrArg (fun v => SV.v (Value.int .i64 v)) hf2 | exact congrArg (fun v => Value.int .i64 v) hf2 | (refine sl_eq ?_; rw [flat_next (by omega)]), by first | exact trivial | simp [SV.ok]⟩, ?_⟩)
    · exact trivial
    · try dsimp only
      exact ⟨Nat.zero_le _, by assumption⟩
    · exact .refl _
    rintro ⟨k, A, lb, lc⟩ hI
    obtain ⟨hk, oA⟩ : k ≤ ys.length ∧ (gSl 142 gRG).ow [.slice lb (ys.take k).flatten.length lc] (ys.take k).flatten A := hI
    try dsimp only
    refine VCsplit.intro (fun q5 => ?_) (fun q5 => ?_)
    ·
      simp at q5
      have hf1 := flat_one (by omega : k < ys.length)
      refine idx_rd hp ?_ ?_ fun b6 o6 hb6 => ?_
      · omega
      · omega
      refine load_allN [] (k) rfl hp ?_ ?_ hb6 rfl (mem_at 1 rfl) fun l7 hl7 => ?_
      · omega
      · omega
      obtain ⟨u7, w7, rfl, hl7⟩ := sl_rd hl7
      refine append_allN (g := gRG) (T := (142 : TypeId)) G_ok (by repeat (first | exact fl_plain | apply plain_iso | apply plain_pair)) A [H] 0 ?_ oA rfl hl7 rfl rfl rfl rfl rfl rfl rfl rfl ?_ fun b8 c8 A8 o8 => ?_
      · exact .refl _
      · omega
      apply loop_stepA (k + 1, _, _, _)
      · exact .refl _
      · repeat' (first | exact trivial | refine ⟨⟨_, rfl, by first | rfl | exact inc_eq _ (by omega) | (refine sl_eq ?_; simp; done) | exact congrArg (fun v => SV.v (Value.int .i64 v)) hf2 | exact congrArg (fun v => Value.int .i64 v) hf2 | (refine sl_eq ?_; rw [flat_next (by omega)]), by first | exact trivial | simp [SV.ok]⟩, ?_⟩)
      · exact trivial
      · try dsimp only
        (rw [flat_next (by omega)]; exact ⟨by omega, by assumption⟩)
      · try dsimp only
        omega
    ·
      simp at q5
      (have hke : k = ys.length := (by omega); subst hke; rw [List.take_length] at oA ⊢; exact ⟨_, ⟨_, _, rfl, oA⟩, (.le fun a => by (try simp only [setR, List.cons_append, List.nil_append]); simp [List.count_cons, Blk.ent, idOf]; try omega)⟩)

end Go.Proofs.Ytcikookachejfaa
