/-
  A bag is read, on the reference's side. Conditions: none.
-/
import Derived.Test.YtflfohphebmemaaGreatRb
namespace Go.Proofs.YtflfohphebmemaaGreat
open Go.SX Go.Proofs
set_option linter.unusedSimpArgs false
set_option linter.unusedVariables false
set_option maxHeartbeats 4000000
attribute [local irreducible] IntKind.wrap

def C0 (t : ByteArray) (i : Nat) (its : List Item) (s : Nat × Bool) : Prop := ∀ b, BagOf t b → i ≤ b.items.length ∧ its = b.items.take i ∧ s = ((preI b i).length, false)
def C1 (t : ByteArray) (i j : Nat) (row : List Int) (q : Nat × Bool) : Prop := ∀ b, BagOf t b → i < b.items.length → j ≤ (b.items[i]?.getD default).row.length ∧ row = (b.items[i]?.getD default).row.take j ∧ q = ((preR b i j).length, false)
theorem c0_zero (t : ByteArray) : C0 t 0 [] (scNum t (0, false)).2 := fun b h => ⟨Nat.zero_le _, rfl, by rw [sc_count h]⟩
theorem c1_zero {t : ByteArray} {i : Nat} {its : List Item} {s : Nat × Bool} (hC : C0 t i its s) : C1 t i 0 [] (scNum t (s.1, s.2)).2 := fun b h hi => by
  obtain ⟨_, _, rfl⟩ := hC b h
  exact ⟨Nat.zero_le _, rfl, by rw [sc_wide h hi]⟩
theorem num_ok {t : ByteArray} {s : Nat × Bool} (h : s.1 ≤ t.size) : okI ((scNum t (s.1, s.2)).1 : Nat) := by
  have := (scNum_le (t := t) (s := (s.1, s.2)) h).2
  unfold okI; omega
theorem c1_next {t : ByteArray} {i j : Nat} {its : List Item} {s q : Nat × Bool} {row : List Int} (hC : C0 t i its s) (hD : C1 t i j row q) (hj : j < (scNum t (s.1, s.2)).1) : C1 t i (j + 1) (row ++ [(((scNum t (q.1, q.2)).1 : Nat) : Int)]) (scNum t (q.1, q.2)).2 := fun b h hi => by
  obtain ⟨_, _, rfl⟩ := hC b h
  obtain ⟨h1, rfl, rfl⟩ := hD b h hi
  rw [sc_wide h hi] at hj
  have hr := ((bag_rng h.1).2 i hi).2.1 j hj
  rw [sc_row h hi hj]
  refine ⟨hj, ?_, rfl⟩
  dsimp only
  rw [Int.toNat_of_nonneg hr.1, List.getElem?_eq_getElem hj, Option.getD_some, List.take_append_getElem hj]
theorem c0_next {t : ByteArray} {i j : Nat} {its : List Item} {s q : Nat × Bool} {row : List Int} (hC : C0 t i its s) (hD : C1 t i j row q) (hi : i < (scNum t (0, false)).1) (hx : ¬ (j < (scNum t (s.1, s.2)).1 ∧ j < 10 ∧ q.2 = false)) :
    C0 t (i + 1) (its ++ [⟨row, ((scNum t (q.1, q.2)).1 : Nat)⟩]) (scNum t (q.1, q.2)).2 := fun b h => by
  rw [sc_count h] at hi
  obtain ⟨_, rfl, rfl⟩ := hC b h
  obtain ⟨h1, rfl, rfl⟩ := hD b h hi
  rw [sc_wide h hi] at hx
  have hr := (bag_rng h.1).2 i hi
  have hjl : j = (b.items[i]?.getD default).row.length := by
    rcases Nat.lt_or_ge j (b.items[i]?.getD default).row.length with h2 | h2
    · exact (hx ⟨h2, by omega, rfl⟩).elim
    · omega
  subst hjl
  rw [sc_times h hi]
  refine ⟨hi, ?_, rfl⟩
  dsimp only
  rw [Int.toNat_of_nonneg (by omega), List.take_length]
  have e : (⟨(b.items[i]?.getD default).row, (b.items[i]?.getD default).times⟩ : Item) = b.items[i] := by rw [List.getElem?_eq_getElem hi]; rfl
  rw [e, List.take_append_getElem hi]
theorem c0_end {t : ByteArray} {i : Nat} {its : List Item} {s : Nat × Bool} (hC : C0 t i its s) (hx : ¬ (i < (scNum t (0, false)).1 ∧ i < 310 ∧ s.2 = false)) : ∀ b, BagOf t b → b = ⟨its⟩ ∧ s.2 = false := fun b h => by
  rw [sc_count h] at hx
  have hr := (bag_rng h.1).1
  obtain ⟨h1, rfl, rfl⟩ := hC b h
  have hi : i = b.items.length := by
    rcases Nat.lt_or_ge i b.items.length with h2 | h2
    · exact (hx ⟨h2, by omega, rfl⟩).elim
    · omega
  subst hi
  rw [List.take_length]
  exact ⟨rfl, rfl⟩
--@ct spec.ReadBag new specReadBag_ct _ ?_ | trivial | obtain ⟨l#, rfl, o#⟩ := o# ;; have r# := Gt.owrd _ o# ;; @open{Bag r# x#}
theorem specReadBag_ct (t : ByteArray) (ht : t.size ≤ 4194304) :
    Ct Tryz.prog 241 [.string t] [] (fun _ => True) (fun v A => ∃ l, v = .tuple #[.agg ⟨l⟩, .bool (rbOk t)] ∧ gBag.ow l (rbR t) A) := by
  refine Ct.intro0 G_ok Tryz.func241 rfl rfl rfl fun E H hp => ?_
  have hn0 := scNum_le (t := t) (s := (0, false)) (Nat.zero_le _)
  refine VCnew.intro fun x0 => ?_
  refine VCnew.intro fun x1 => ?_
  refine VCnew.intro fun x2 => ?_
  refine callR_blk 1 ([]) [H] rfl ?_ (l03Var_ct _ _ _ _ _ rfl ?_ ?_) trivial ?_
  · exact .refl _
  · omega
  · (simp only [inU8, u8_wrap]; omega)
  rintro _ A3 ⟨rfl, rfl⟩
  refine ⟨_, _, [], rfl, perm0, ?_⟩
  apply loop_mod (α := (Nat) × (List Item) × (Option Addr) × (Nat) × (Hp) × (Nat × Bool)) G_ok [19, 20, 21, 22, 23, 24, 25, 26, 27, 28, 29, 30, 31, 32, 35, 8, 36, 37, 9, 10, 38, 39, 40, 41, 42, 43, 44, 45, 46, 47, 48, 49, 50, 51, 54, 55, 56, 57, 58, 59, 60, 52, 53, 61, 62, 63, 64, 65, 66, 67, 68, 69, 33, 34, 7] (fun z => [(7, .v (.int .i64 z.1))]) (fun z => [⟨x0, [Value.slice none (0 : Nat) (0 : Nat)], (65 : Nat)⟩, ⟨x1, [Value.string t, .int .i64 (z.2.2.2.2.2.1 : Nat), .bool z.2.2.2.2.2.2], (328 : Nat)⟩, ⟨x2, [.slice z.2.2.1 z.2.1.length z.2.2.2.1], (65 : Nat)⟩]) (fun z => [z.2.2.2.2.1, H]) (fun z => 310 - z.1) (fun z => (z.1 ≤ 310 ∧ z.2.1.length = z.1 ∧ z.2.2.2.2.2.1 ≤ t.size) ∧ (gSl 212 gItem).ow [.slice z.2.2.1 z.2.1.length z.2.2.2.1] z.2.1 z.2.2.2.2.1 ∧ C0 t z.1 z.2.1 z.2.2.2.2.2) ((0, [], none, 0, [], _))
  · repeat' (first | exact trivial | refine ⟨⟨_, rfl, by first | rfl | exact inc_eq _ (by omega) | (refine sl_eq ?_; simp; done), by first | exact trivial | simp [SV.ok]⟩, ?_⟩)
  · exact ⟨rfl, rfl, rfl, trivial⟩
  · try dsimp only
    exact ⟨⟨by omega, rfl, hn0.1⟩, sl_nil _ _ _, c0_zero t⟩
  · exact .refl _
  rintro ⟨i, its, ib, ic, A, s⟩ hI
  obtain ⟨⟨hi, hil, hs⟩, oA, hC⟩ : (i ≤ 310 ∧ its.length = i ∧ s.1 ≤ t.size) ∧ (gSl 212 gItem).ow [.slice ib its.length ic] its A ∧ C0 t i its s := hI
  try dsimp only
  refine VCsplit.intro (fun q4 => ?_) (fun q4 => ?_)
  ·
    simp at q4
    refine VCsplit.intro (fun q5 => ?_) (fun q5 => ?_)
    ·
      simp at q5
      refine VCsplit.intro (fun q6 => ?_) (fun q6 => ?_)
      ·
        simp at q6
        refine VCnew.intro fun x7 => ?_
        refine callR_blk 1 ([]) [A, H] rfl ?_ (l03Var_ct _ _ _ _ _ rfl ?_ ?_) trivial ?_
        · exact .refl _
        · omega
        · assumption
        rintro _ A8 ⟨rfl, rfl⟩
        refine ⟨_, _, [], rfl, perm0, ?_⟩
        apply loop_mod (α := (Nat) × (List Int) × (Option Addr) × (Nat) × (Hp) × (Nat × Bool)) G_ok [38, 39, 40, 41, 42, 43, 44, 45, 46, 47, 48, 49, 50, 51, 54, 55, 56, 57, 58, 59, 60, 52, 53, 10] (fun z => [(10, .v (.int .i64 z.1))]) (fun z => [⟨x0, [Value.slice none (0 : Nat) (0 : Nat)], (65 : Nat)⟩, ⟨x1, [Value.string t, .int .i64 (z.2.2.2.2.2.1 : Nat), .bool z.2.2.2.2.2.2], (328 : Nat)⟩, ⟨x2, [Value.slice ib its.length ic], (65 : Nat)⟩, ⟨x7, [.slice z.2.2.1 z.2.1.length z.2.2.2.1, Value.int IntKind.i64 (0 : Int)], (212 : Nat)⟩]) (fun z => [z.2.2.2.2.1, A, H]) (fun z => 10 - z.1) (fun z => (z.1 ≤ 10 ∧ z.2.1.length = z.1 ∧ z.2.2.2.2.2.1 ≤ t.size) ∧ (gSl 3 gI).ow [.slice z.2.2.1 z.2.1.length z.2.2.2.1] z.2.1 z.2.2.2.2.1 ∧ C1 t i z.1 z.2.1 z.2.2.2.2.2) ((0, [], none, 0, [], _))
        · repeat' (first | exact trivial | refine ⟨⟨_, rfl, by first | rfl | exact inc_eq _ (by omega) | (refine sl_eq ?_; simp; done), by first | exact trivial | simp [SV.ok]⟩, ?_⟩)
        · exact ⟨rfl, rfl, rfl, rfl, trivial⟩
        · try dsimp only
          exact ⟨⟨by omega, rfl, (scNum_le (t := t) (s := (s.1, s.2)) hs).1⟩, sl_nil _ _ _, c1_zero hC⟩
        · exact .refl _
        rintro ⟨j, row, rb, rc, D, q⟩ hI
        obtain ⟨⟨hj, hjl, hq⟩, oD, hD⟩ : (j ≤ 10 ∧ row.length = j ∧ q.1 ≤ t.size) ∧ (gSl 3 gI).ow [.slice rb row.length rc] row D ∧ C1 t i j row q := hI
        try dsimp only
        refine VCsplit.intro (fun q9 => ?_) (fun q9 => ?_)
        ·
          simp at q9
          refine VCsplit.intro (fun q10 => ?_) (fun q10 => ?_)
          ·
            simp at q10
            refine VCsplit.intro (fun q11 => ?_) (fun q11 => ?_)
            ·
              simp at q11
              refine draw G_ok mixed none (.q 0 (.q 2 (.hd (.alt 1 (.f 3 (.f 4 (.f 5 (.q 6 (.f 7 (.nil)))))) (.alt 3 (.hd (.alt 1 (.f 4 (.f 5 (.q 6 (.f 7 (.nil))))) (.alt 4 (.f 1 (.f 5 (.q 6 (.f 7 (.nil))))) (.nil)))) (.nil)))))) (by decide +kernel) ?_
              refine VC.intro ?_ ?_
              ·
                refine callR_blk 1 ([]) [D, A, H] rfl ?_ (l03Var_ct _ _ _ _ _ rfl ?_ ?_) trivial ?_
                · exact .refl _
                · omega
                · assumption
                rintro _ A12 ⟨rfl, rfl⟩
                refine ⟨_, _, [], rfl, perm0, ?_⟩
                refine VCnew.intro fun x13 => ?_
                refine gappend1 (g := gI) (T := (3 : TypeId)) G_ok D [] [A, H] ?_ oD (gI_ow ?_) (List.mem_of_getElem? (i := 0) rfl) rfl rfl rfl rfl rfl rfl rfl rfl ?_ fun b14 c14 A14 o14 => ?_
                · exact .tl
                · exact num_ok (by assumption)
                · omega
                apply loop_stepA (j + 1, row ++ [_], _, _, _, _)
                · exact .refl _
                · repeat' (first | exact trivial | refine ⟨⟨_, rfl, by first | rfl | exact inc_eq _ (by omega) | (refine sl_eq ?_; simp; done), by first | exact trivial | simp [SV.ok]⟩, ?_⟩)
                · exact ⟨rfl, rfl, rfl, rfl, trivial⟩
                · try dsimp only
                  exact ⟨⟨by omega, by simp; omega, (scNum_le (t := t) (s := (q.1, q.2)) hq).1⟩, by assumption, c1_next hC hD (by omega)⟩
                · try dsimp only
                  omega
              ·
                refine VC.intro ?_ ?_
                ·
                  refine callR_blk 1 ([]) [D, A, H] rfl ?_ (l03Var_ct _ _ _ _ _ rfl ?_ ?_) trivial ?_
                  · exact .refl _
                  · omega
                  · assumption
                  rintro _ A15 ⟨rfl, rfl⟩
                  refine ⟨_, _, [], rfl, perm0, ?_⟩
                  refine VC.intro ?_ ?_
                  ·
                    refine VCnew.intro fun x16 => ?_
                    refine gappend1 (g := gI) (T := (3 : TypeId)) G_ok D [] [A, H] ?_ oD (gI_ow ?_) (List.mem_of_getElem? (i := 0) rfl) rfl rfl rfl rfl rfl rfl rfl rfl ?_ fun b17 c17 A17 o17 => ?_
                    · exact .tl
                    · exact num_ok (by assumption)
                    · omega
                    apply loop_stepA (j + 1, row ++ [_], _, _, _, _)
                    · exact .refl _
                    · repeat' (first | exact trivial | refine ⟨⟨_, rfl, by first | rfl | exact inc_eq _ (by omega) | (refine sl_eq ?_; simp; done), by first | exact trivial | simp [SV.ok]⟩, ?_⟩)
                    · exact ⟨rfl, rfl, rfl, rfl, trivial⟩
                    · try dsimp only
                      exact ⟨⟨by omega, by simp; omega, (scNum_le (t := t) (s := (q.1, q.2)) hq).1⟩, by assumption, c1_next hC hD (by omega)⟩
                    · try dsimp only
                      omega
                  ·
                    refine VC.intro ?_ ?_
                    ·
                      refine VCnew.intro fun x18 => ?_
                      refine gappend1 (g := gI) (T := (3 : TypeId)) G_ok D [] [A, H] ?_ oD (gI_ow ?_) (List.mem_of_getElem? (i := 0) rfl) rfl rfl rfl rfl rfl rfl rfl rfl ?_ fun b19 c19 A19 o19 => ?_
                      · exact .tl
                      · exact num_ok (by assumption)
                      · omega
                      apply loop_stepA (j + 1, row ++ [_], _, _, _, _)
                      · exact .refl _
                      · repeat' (first | exact trivial | refine ⟨⟨_, rfl, by first | rfl | exact inc_eq _ (by omega) | (refine sl_eq ?_; simp; done), by first | exact trivial | simp [SV.ok]⟩, ?_⟩)
                      · exact ⟨rfl, rfl, rfl, rfl, trivial⟩
                      · try dsimp only
                        exact ⟨⟨by omega, by simp; omega, (scNum_le (t := t) (s := (q.1, q.2)) hq).1⟩, by assumption, c1_next hC hD (by omega)⟩
                      · try dsimp only
                        omega
                    ·
                      exact trivial
                ·
                  exact trivial
            ·
              simp at q11
              refine callR_blk 1 ([]) [D, A, H] rfl ?_ (l03Var_ct _ _ _ _ _ rfl ?_ ?_) trivial ?_
              · exact .refl _
              · omega
              · assumption
              rintro _ A20 ⟨rfl, rfl⟩
              refine ⟨_, _, [], rfl, perm0, ?_⟩
              refine VCnew.intro fun x21 => ?_
              refine gappend1 (g := gItem) (T := (212 : TypeId)) G_ok A _ [H] ?_ oA (((gItem_ow (x := ⟨row, ((scNum t (q.1, q.2)).1 : Nat)⟩)).2 ⟨rb, rc, D, rfl, .refl _, oD, num_ok (by assumption)⟩)) (List.mem_of_getElem? (i := 0) rfl) rfl rfl rfl rfl rfl rfl rfl rfl ?_ fun b22 c22 A22 o22 => ?_
              · exact .le fun a => by (try simp only [setR, List.cons_append, List.nil_append]); simp only [List.flatten_append, List.flatten_cons, List.flatten_nil, List.count_append, List.count_nil, List.append_nil, List.nil_append]; omega
              · omega
              apply loop_stepA (i + 1, its ++ [_], _, _, _, _)
              · exact .refl _
              · repeat' (first | exact trivial | refine ⟨⟨_, rfl, by first | rfl | exact inc_eq _ (by omega) | (refine sl_eq ?_; simp; done), by first | exact trivial | simp [SV.ok]⟩, ?_⟩)
              · exact ⟨rfl, rfl, rfl, trivial⟩
              · try dsimp only
                exact ⟨⟨by omega, by simp; omega, (scNum_le (t := t) (s := (q.1, q.2)) hq).1⟩, by assumption, c0_next hC hD (by omega) (fun h => by first | omega | simp_all)⟩
              · try dsimp only
                omega
          ·
            simp at q10
            refine callR_blk 1 ([]) [D, A, H] rfl ?_ (l03Var_ct _ _ _ _ _ rfl ?_ ?_) trivial ?_
            · exact .refl _
            · omega
            · assumption
            rintro _ A23 ⟨rfl, rfl⟩
            refine ⟨_, _, [], rfl, perm0, ?_⟩
            refine VCnew.intro fun x24 => ?_
            refine gappend1 (g := gItem) (T := (212 : TypeId)) G_ok A _ [H] ?_ oA (((gItem_ow (x := ⟨row, ((scNum t (q.1, q.2)).1 : Nat)⟩)).2 ⟨rb, rc, D, rfl, .refl _, oD, num_ok (by assumption)⟩)) (List.mem_of_getElem? (i := 0) rfl) rfl rfl rfl rfl rfl rfl rfl rfl ?_ fun b25 c25 A25 o25 => ?_
            · exact .le fun a => by (try simp only [setR, List.cons_append, List.nil_append]); simp only [List.flatten_append, List.flatten_cons, List.flatten_nil, List.count_append, List.count_nil, List.append_nil, List.nil_append]; omega
            · omega
            apply loop_stepA (i + 1, its ++ [_], _, _, _, _)
            · exact .refl _
            · repeat' (first | exact trivial | refine ⟨⟨_, rfl, by first | rfl | exact inc_eq _ (by omega) | (refine sl_eq ?_; simp; done), by first | exact trivial | simp [SV.ok]⟩, ?_⟩)
            · exact ⟨rfl, rfl, rfl, trivial⟩
            · try dsimp only
              exact ⟨⟨by omega, by simp; omega, (scNum_le (t := t) (s := (q.1, q.2)) hq).1⟩, by assumption, c0_next hC hD (by omega) (fun h => by first | omega | simp_all)⟩
            · try dsimp only
              omega
        ·
          simp at q9
          refine callR_blk 1 ([]) [D, A, H] rfl ?_ (l03Var_ct _ _ _ _ _ rfl ?_ ?_) trivial ?_
          · exact .refl _
          · omega
          · assumption
          rintro _ A26 ⟨rfl, rfl⟩
          refine ⟨_, _, [], rfl, perm0, ?_⟩
          refine VCnew.intro fun x27 => ?_
          refine gappend1 (g := gItem) (T := (212 : TypeId)) G_ok A _ [H] ?_ oA (((gItem_ow (x := ⟨row, ((scNum t (q.1, q.2)).1 : Nat)⟩)).2 ⟨rb, rc, D, rfl, .refl _, oD, num_ok (by assumption)⟩)) (List.mem_of_getElem? (i := 0) rfl) rfl rfl rfl rfl rfl rfl rfl rfl ?_ fun b28 c28 A28 o28 => ?_
          · exact .le fun a => by (try simp only [setR, List.cons_append, List.nil_append]); simp only [List.flatten_append, List.flatten_cons, List.flatten_nil, List.count_append, List.count_nil, List.append_nil, List.nil_append]; omega
          · omega
          apply loop_stepA (i + 1, its ++ [_], _, _, _, _)
          · exact .refl _
          · repeat' (first | exact trivial | refine ⟨⟨_, rfl, by first | rfl | exact inc_eq _ (by omega) | (refine sl_eq ?_; simp; done), by first | exact trivial | simp [SV.ok]⟩, ?_⟩)
          · exact ⟨rfl, rfl, rfl, trivial⟩
          · try dsimp only
            exact ⟨⟨by omega, by simp; omega, (scNum_le (t := t) (s := (q.1, q.2)) hq).1⟩, by assumption, c0_next hC hD (by omega) (fun h => by first | omega | simp_all)⟩
          · try dsimp only
            omega
      ·
        simp at q6
        refine call_val (specBagText_ct _ ⟨its⟩) (gBag_rd.2 ⟨_, _, rfl, Rp.mono _ (mem_at 0 rfl) (Gt.owrd _ oA)⟩) ?_
        rintro _ rfl
        refine VCsplit.intro (fun q30 => ?_) (fun q30 => ?_)
        ·
          (obtain ⟨e1, e2⟩ := rb_no (t := t) (fun b hb => by (have h9 := c0_end hC (fun h => by first | omega | simp_all) b hb; obtain ⟨rfl, h10⟩ := h9; have h11 := hb.1; have h12 := hb.2; simp_all)); rw [e1, e2]; exact ⟨_, ⟨_, rfl, zBag_ow⟩, (.le fun a => by (try simp only [setR, List.cons_append, List.nil_append]); simp [List.count_cons, Blk.ent, idOf]; try omega)⟩)
        ·
          refine VCsplit.intro (fun q31 => ?_) (fun q31 => ?_)
          ·
            simp at q31
            (obtain ⟨e1, e2⟩ := rb_no (t := t) (fun b hb => by (have h9 := c0_end hC (fun h => by first | omega | simp_all) b hb; obtain ⟨rfl, h10⟩ := h9; have h11 := hb.1; have h12 := hb.2; simp_all)); rw [e1, e2]; exact ⟨_, ⟨_, rfl, zBag_ow⟩, (.le fun a => by (try simp only [setR, List.cons_append, List.nil_append]); simp [List.count_cons, Blk.ent, idOf]; try omega)⟩)
          ·
            simp at q31
            refine VCsplit.intro (fun q32 => ?_) (fun q32 => ?_)
            ·
              simp at q32
              simp only [str_inj, u8_inj, u8_wrap] at q32
              (obtain ⟨e1, e2⟩ := rb_no (t := t) (fun b hb => by (have h9 := c0_end hC (fun h => by first | omega | simp_all) b hb; obtain ⟨rfl, h10⟩ := h9; have h11 := hb.1; have h12 := hb.2; simp_all)); rw [e1, e2]; exact ⟨_, ⟨_, rfl, zBag_ow⟩, (.le fun a => by (try simp only [setR, List.cons_append, List.nil_append]); simp [List.count_cons, Blk.ent, idOf]; try omega)⟩)
            ·
              simp at q32
              simp only [str_inj, u8_inj, u8_wrap] at q32
              (have hok9 : bagM ⟨its⟩ = true := (by simp_all); obtain ⟨e1, e2⟩ := rb_yes (t := t) (b := ⟨its⟩) ⟨hok9, by simp_all⟩ (fun c hc => ((c0_end hC (fun h => by first | omega | simp_all) c hc).1).symm); rw [e1, e2]; exact ⟨_, ⟨_, rfl, gBag_ow.2 ⟨_, _, A, rfl, .refl _, oA⟩⟩, (.le fun a => by (try simp only [setR, List.cons_append, List.nil_append]); simp [List.count_cons, Blk.ent, idOf]; try omega)⟩)
    ·
      simp at q5
      refine call_val (specBagText_ct _ ⟨its⟩) (gBag_rd.2 ⟨_, _, rfl, Rp.mono _ (mem_at 0 rfl) (Gt.owrd _ oA)⟩) ?_
      rintro _ rfl
      refine VCsplit.intro (fun q34 => ?_) (fun q34 => ?_)
      ·
        (obtain ⟨e1, e2⟩ := rb_no (t := t) (fun b hb => by (have h9 := c0_end hC (fun h => by first | omega | simp_all) b hb; obtain ⟨rfl, h10⟩ := h9; have h11 := hb.1; have h12 := hb.2; simp_all)); rw [e1, e2]; exact ⟨_, ⟨_, rfl, zBag_ow⟩, (.le fun a => by (try simp only [setR, List.cons_append, List.nil_append]); simp [List.count_cons, Blk.ent, idOf]; try omega)⟩)
      ·
        refine VCsplit.intro (fun q35 => ?_) (fun q35 => ?_)
        ·
          simp at q35
          (obtain ⟨e1, e2⟩ := rb_no (t := t) (fun b hb => by (have h9 := c0_end hC (fun h => by first | omega | simp_all) b hb; obtain ⟨rfl, h10⟩ := h9; have h11 := hb.1; have h12 := hb.2; simp_all)); rw [e1, e2]; exact ⟨_, ⟨_, rfl, zBag_ow⟩, (.le fun a => by (try simp only [setR, List.cons_append, List.nil_append]); simp [List.count_cons, Blk.ent, idOf]; try omega)⟩)
        ·
          simp at q35
          refine VCsplit.intro (fun q36 => ?_) (fun q36 => ?_)
          ·
            simp at q36
            simp only [str_inj, u8_inj, u8_wrap] at q36
            (obtain ⟨e1, e2⟩ := rb_no (t := t) (fun b hb => by (have h9 := c0_end hC (fun h => by first | omega | simp_all) b hb; obtain ⟨rfl, h10⟩ := h9; have h11 := hb.1; have h12 := hb.2; simp_all)); rw [e1, e2]; exact ⟨_, ⟨_, rfl, zBag_ow⟩, (.le fun a => by (try simp only [setR, List.cons_append, List.nil_append]); simp [List.count_cons, Blk.ent, idOf]; try omega)⟩)
          ·
            simp at q36
            simp only [str_inj, u8_inj, u8_wrap] at q36
            (have hok9 : bagM ⟨its⟩ = true := (by simp_all); obtain ⟨e1, e2⟩ := rb_yes (t := t) (b := ⟨its⟩) ⟨hok9, by simp_all⟩ (fun c hc => ((c0_end hC (fun h => by first | omega | simp_all) c hc).1).symm); rw [e1, e2]; exact ⟨_, ⟨_, rfl, gBag_ow.2 ⟨_, _, A, rfl, .refl _, oA⟩⟩, (.le fun a => by (try simp only [setR, List.cons_append, List.nil_append]); simp [List.count_cons, Blk.ent, idOf]; try omega)⟩)
  ·
    simp at q4
    refine call_val (specBagText_ct _ ⟨its⟩) (gBag_rd.2 ⟨_, _, rfl, Rp.mono _ (mem_at 0 rfl) (Gt.owrd _ oA)⟩) ?_
    rintro _ rfl
    refine VCsplit.intro (fun q38 => ?_) (fun q38 => ?_)
    ·
      (obtain ⟨e1, e2⟩ := rb_no (t := t) (fun b hb => by (have h9 := c0_end hC (fun h => by first | omega | simp_all) b hb; obtain ⟨rfl, h10⟩ := h9; have h11 := hb.1; have h12 := hb.2; simp_all)); rw [e1, e2]; exact ⟨_, ⟨_, rfl, zBag_ow⟩, (.le fun a => by (try simp only [setR, List.cons_append, List.nil_append]); simp [List.count_cons, Blk.ent, idOf]; try omega)⟩)
    ·
      refine VCsplit.intro (fun q39 => ?_) (fun q39 => ?_)
      ·
        simp at q39
        (obtain ⟨e1, e2⟩ := rb_no (t := t) (fun b hb => by (have h9 := c0_end hC (fun h => by first | omega | simp_all) b hb; obtain ⟨rfl, h10⟩ := h9; have h11 := hb.1; have h12 := hb.2; simp_all)); rw [e1, e2]; exact ⟨_, ⟨_, rfl, zBag_ow⟩, (.le fun a => by (try simp only [setR, List.cons_append, List.nil_append]); simp [List.count_cons, Blk.ent, idOf]; try omega)⟩)
      ·
        simp at q39
        refine VCsplit.intro (fun q40 => ?_) (fun q40 => ?_)
        ·
          simp at q40
          simp only [str_inj, u8_inj, u8_wrap] at q40
          (obtain ⟨e1, e2⟩ := rb_no (t := t) (fun b hb => by (have h9 := c0_end hC (fun h => by first | omega | simp_all) b hb; obtain ⟨rfl, h10⟩ := h9; have h11 := hb.1; have h12 := hb.2; simp_all)); rw [e1, e2]; exact ⟨_, ⟨_, rfl, zBag_ow⟩, (.le fun a => by (try simp only [setR, List.cons_append, List.nil_append]); simp [List.count_cons, Blk.ent, idOf]; try omega)⟩)
        ·
          simp at q40
          simp only [str_inj, u8_inj, u8_wrap] at q40
          (have hok9 : bagM ⟨its⟩ = true := (by simp_all); obtain ⟨e1, e2⟩ := rb_yes (t := t) (b := ⟨its⟩) ⟨hok9, by simp_all⟩ (fun c hc => ((c0_end hC (fun h => by first | omega | simp_all) c hc).1).symm); rw [e1, e2]; exact ⟨_, ⟨_, rfl, gBag_ow.2 ⟨_, _, A, rfl, .refl _, oA⟩⟩, (.le fun a => by (try simp only [setR, List.cons_append, List.nil_append]); simp [List.count_cons, Blk.ent, idOf]; try omega)⟩)

end Go.Proofs.YtflfohphebmemaaGreat
