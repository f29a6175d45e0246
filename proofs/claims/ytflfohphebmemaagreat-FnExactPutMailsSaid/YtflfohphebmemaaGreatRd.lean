/-
  A bag is read, on the program's side. Conditions: none.
-/
import Derived.Test.YtflfohphebmemaaGreatRc
namespace Go.Proofs.YtflfohphebmemaaGreat
open Go.SX Go.Proofs
set_option linter.unusedSimpArgs false
set_option linter.unusedVariables false
set_option maxHeartbeats 4000000
attribute [local irreducible] IntKind.wrap

/-- what has been read is what is written of it -/
def S0 (t : ByteArray) (n : Nat) (its : List Item) (s : Nat × Bool) : Prop := s.2 = false → t.extract 0 s.1 = tx (varT (n : Nat) ++ its.flatMap itemBytes)
def S1 (t : ByteArray) (n w : Nat) (its : List Item) (row : List Int) (q : Nat × Bool) : Prop := q.2 = false → t.extract 0 q.1 = tx (varT (n : Nat) ++ its.flatMap itemBytes ++ (varT (w : Nat) ++ rowBytes row))
theorem by_empty : by' ByteArray.empty = [] := rfl
theorem ext0 (t : ByteArray) : t.extract 0 0 = ByteArray.empty := by rw [← by_inj, by_extract, by_empty]; simp
theorem s0_zero (t : ByteArray) : S0 t (scNum t (0, false)).1 [] (scNum t (0, false)).2 := fun h => by
  have h2 := (scNum_txt (t := t) (s := (0, false)) (Nat.zero_le _) h).2
  rw [h2, ext0]
  unfold varText
  rw [← by_inj, by_app, by_tx, by_tx, by_empty]; simp
theorem s1_zero {t : ByteArray} {n : Nat} {its : List Item} {s : Nat × Bool} (hs : s.1 ≤ t.size) (h : S0 t n its s) : S1 t n (scNum t (s.1, s.2)).1 its [] (scNum t (s.1, s.2)).2 := fun hb => by
  obtain ⟨h1, h2⟩ := scNum_txt (t := t) (s := (s.1, s.2)) hs hb
  rw [h2, h h1]
  unfold varText rowBytes
  rw [← by_inj, by_app, by_tx, by_tx, by_tx]; simp
theorem s1_next {t : ByteArray} {n w : Nat} {its : List Item} {row : List Int} {q : Nat × Bool} (hq : q.1 ≤ t.size) (h : S1 t n w its row q) : S1 t n w its (row ++ [(((scNum t (q.1, q.2)).1 : Nat) : Int)]) (scNum t (q.1, q.2)).2 := fun hb => by
  obtain ⟨h1, h2⟩ := scNum_txt (t := t) (s := (q.1, q.2)) hq hb
  rw [h2, h h1]
  unfold varText rowBytes
  rw [← by_inj, by_app, by_tx, by_tx, by_tx]; simp
theorem s0_next {t : ByteArray} {n w : Nat} {its : List Item} {row : List Int} {q : Nat × Bool} (hq : q.1 ≤ t.size) (h : S1 t n w its row q) (hw : row.length = w) : S0 t n (its ++ [⟨row, ((scNum t (q.1, q.2)).1 : Nat)⟩]) (scNum t (q.1, q.2)).2 := fun hb => by
  obtain ⟨h1, h2⟩ := scNum_txt (t := t) (s := (q.1, q.2)) hq hb
  rw [h2, h h1]
  subst hw
  unfold varText itemBytes
  rw [← by_inj, by_app, by_tx, by_tx, by_tx]; simp
theorem s0_end {t : ByteArray} {n : Nat} {its : List Item} {s : Nat × Bool} (h : S0 t n its s) (hb : s.2 = false) (he : s.1 = t.size) (hn : its.length = n) : t = tx (bagBytes ⟨its⟩) := by
  have h2 := h hb
  rw [he] at h2
  have e : t.extract 0 t.size = t := by rw [← by_inj, by_extract, List.drop_zero, List.take_of_length_le (by rw [by_size]; omega)]
  rw [e] at h2
  subst hn
  rw [h2]; rfl

theorem scDoneB_ct (q : Nat) (t : ByteArray) (ai : Int) (a : Nat) (bd : Bool) (hai : ai = (a : Int)) (ht : t.size ≤ 1152921504606846976) (ha : a ≤ t.size) :
    CtR Tryz.prog 297 [.pointer (some ⟨q, 0, none⟩)] [(q, Obj.cells ⟨[.string t, .int .i64 ai, .bool bd]⟩ 365)] (fun _ => True) (fun v A => v = .bool (!bd && decide (a = t.size)) ∧ A = [(q, Obj.cells ⟨[.string t, .int .i64 ai, .bool bd]⟩ 365)]) := by
  subst hai
  refine CtR.introB G_ok [.p 0 0] [⟨q, [.string t, .int .i64 (a : Int), .bool bd], 365⟩] [] Tryz.func297 rfl rfl rfl rfl (by simp [SV.ok]) (by simp [Blk.ent]) fun E H hp => ?_
  refine draw G_ok mixed none (.q 0 (.q 1 (.q 2 (.q 3 (.q 4 (.q 5 (.q 6 (.q 7 (.q 8 (.q 9 (.q 10 (.q 11 (.q 12 (.q 13 (.q 14 (.q 15 (.q 16 (.q 17 (.nil))))))))))))))))))) (by decide +kernel) ?_
  refine VCsplit.intro (fun q0 => ?_) (fun q0 => ?_)
  ·
    simp at q0
    (have hb0 : bd = false := ‹_›; subst hb0; exact ⟨_, ⟨by (show Value.bool (_ == _) = Value.bool (true && decide (a = t.size)); rw [Bool.true_and]; congr 1; rw [Bool.eq_iff_iff]; simp; omega), rfl⟩, (.le fun a => by (try simp only [setR, List.cons_append, List.nil_append]); simp [List.count_cons, Blk.ent, idOf]; try omega)⟩)
  ·
    simp at q0
    (have hb0 : bd = true := ‹_›; subst hb0; exact ⟨_, ⟨rfl, rfl⟩, (.le fun a => by (try simp only [setR, List.cons_append, List.nil_append]); simp [List.count_cons, Blk.ent, idOf]; try omega)⟩)

theorem wide_no {t : ByteArray} {i : Nat} {its : List Item} {s : Nat × Bool} (hC : C0 t i its s) (hi : i < (scNum t (0, false)).1) (hw : 4 < (scNum t (s.1, s.2)).1) : ∀ b, ¬ BagOf t b := fun b h => by
  rw [sc_count h] at hi
  obtain ⟨_, _, rfl⟩ := hC b h
  rw [sc_wide h hi] at hw
  have := ((bag_rng h.1).2 i hi).1
  omega
theorem items_no {t : ByteArray} {i : Nat} (hi : i < (scNum t (0, false)).1) (h3 : 300 ≤ i) : ∀ b, ¬ BagOf t b := fun b h => by
  rw [sc_count h] at hi
  have := (bag_rng h.1).1
  omega
theorem c0_done {t : ByteArray} {i : Nat} {its : List Item} {s : Nat × Bool} (hC : C0 t i its s) (hx : ¬ (i < (scNum t (0, false)).1 ∧ i < 310 ∧ s.2 = false)) : ∀ b, BagOf t b → b = ⟨its⟩ ∧ s.2 = false ∧ s.1 = t.size := fun b h => by
  obtain ⟨h1, h2⟩ := c0_end hC hx b h
  refine ⟨h1, h2, ?_⟩
  obtain ⟨h3, h4, rfl⟩ := hC b h
  rw [sc_count h] at hx
  have hr := (bag_rng h.1).1
  have hi : i = b.items.length := by
    rcases Nat.lt_or_ge i b.items.length with h2 | h2
    · exact (hx ⟨h2, by omega, rfl⟩).elim
    · omega
  subst hi
  exact pre_end h
--@ct impl.ReadBag new implReadBag_ct _ ?_ | trivial | obtain ⟨l#, rfl, o#⟩ := o# ;; have r# := Gt.owrd _ o# ;; @open{Bag r# x#}
theorem implReadBag_ct (t : ByteArray) (ht : t.size ≤ 4194304) :
    Ct Tryz.prog 274 [.string t] [] (fun _ => True) (fun v A => ∃ l, v = .tuple #[.agg ⟨l⟩, .bool (rbOk t)] ∧ gBag.ow l (rbR t) A) := by
  refine Ct.intro0 G_ok Tryz.func274 rfl rfl rfl fun E H hp => ?_
  have hn0 := scNum_le (t := t) (s := (0, false)) (Nat.zero_le _)
  refine VCnew.intro fun x0 => ?_
  refine VCnew.intro fun x1 => ?_
  refine VCnew.intro fun x2 => ?_
  refine callR_blk 1 ([]) [H] rfl ?_ (scNumber_ct _ _ _ _ _ rfl ?_ ?_) trivial ?_
  · exact .refl _
  · omega
  · (simp only [inU8, u8_wrap]; omega)
  rintro _ A3 ⟨rfl, rfl⟩
  refine ⟨_, _, [], rfl, perm0, ?_⟩
  apply loop_mod (α := (Nat) × (List Item) × (Option Addr) × (Nat) × (Hp) × (Nat × Bool)) G_ok [13, 14, 15, 16, 17, 18, 19, 20, 23, 8, 24, 25, 26, 27, 28, 29, 30, 3, 9, 31, 32, 33, 34, 35, 36, 37, 38, 39, 40, 41, 42, 43, 44, 45, 46, 21, 22, 7] (fun z => [(7, .v (.int .i64 z.1)), (3, .v (.bool false))]) (fun z => [⟨x0, [Value.slice none (0 : Nat) (0 : Nat)], (65 : Nat)⟩, ⟨x1, [Value.string t, .int .i64 (z.2.2.2.2.2.1 : Nat), .bool z.2.2.2.2.2.2], (365 : Nat)⟩, ⟨x2, [.slice z.2.2.1 z.2.1.length z.2.2.2.1], (65 : Nat)⟩]) (fun z => [z.2.2.2.2.1, H]) (fun z => 1000 - z.1) (fun z => (z.1 ≤ 300 ∧ z.2.1.length = z.1 ∧ z.2.2.2.2.2.1 ≤ t.size ∧ z.1 ≤ (scNum t (0, false)).1) ∧ (gSl 212 gItem).ow [.slice z.2.2.1 z.2.1.length z.2.2.2.1] z.2.1 z.2.2.2.2.1 ∧ C0 t z.1 z.2.1 z.2.2.2.2.2 ∧ S0 t (scNum t (0, false)).1 z.2.1 z.2.2.2.2.2) ((0, [], none, 0, [], _))
  · repeat' (first | exact trivial | refine ⟨⟨_, rfl, by first | rfl | exact inc_eq _ (by omega) | (refine sl_eq ?_; simp; done), by first | exact trivial | simp [SV.ok]⟩, ?_⟩)
  · exact ⟨rfl, rfl, rfl, trivial⟩
  · try dsimp only
    exact ⟨⟨by omega, rfl, hn0.1, by omega⟩, sl_nil _ _ _, c0_zero t, s0_zero t⟩
  · exact .refl _
  rintro ⟨i, its, ib, ic, A, s⟩ hI
  obtain ⟨⟨hi, hil, hs, hin⟩, oA, hC, hS⟩ : (i ≤ 300 ∧ its.length = i ∧ s.1 ≤ t.size ∧ i ≤ (scNum t (0, false)).1) ∧ (gSl 212 gItem).ow [.slice ib its.length ic] its A ∧ C0 t i its s ∧ S0 t (scNum t (0, false)).1 its s := hI
  try dsimp only
  refine VCsplit.intro (fun q4 => ?_) (fun q4 => ?_)
  ·
    simp at q4
    refine VCsplit.intro (fun q5 => ?_) (fun q5 => ?_)
    ·
      simp at q5
      refine callR_blk 1 ([]) [A, H] rfl ?_ (scNumber_ct _ _ _ _ _ rfl ?_ ?_) trivial ?_
      · exact .refl _
      · omega
      · trivial
      rintro _ A6 ⟨rfl, rfl⟩
      refine ⟨_, _, [], rfl, perm0, ?_⟩
      refine VCsplit.intro (fun q7 => ?_) (fun q7 => ?_)
      ·
        simp at q7
        (obtain ⟨e1, e2⟩ := rb_no (t := t) (wide_no hC (by omega) (by omega)); rw [e1, e2]; exact ⟨_, ⟨_, rfl, zBag_ow⟩, (.le fun a => by (try simp only [setR, List.cons_append, List.nil_append]); simp [List.count_cons, Blk.ent, idOf]; try omega)⟩)
      ·
        simp at q7
        refine VCsplit.intro (fun q8 => ?_) (fun q8 => ?_)
        ·
          simp at q8
          (obtain ⟨e1, e2⟩ := rb_no (t := t) (items_no (i := i) (by omega) (by omega)); rw [e1, e2]; exact ⟨_, ⟨_, rfl, zBag_ow⟩, (.le fun a => by (try simp only [setR, List.cons_append, List.nil_append]); simp [List.count_cons, Blk.ent, idOf]; try omega)⟩)
        ·
          simp at q8
          apply loop_mod (α := (Nat) × (List Int) × (Option Addr) × (Nat) × (Hp) × (Nat × Bool)) G_ok [33, 34, 35, 36, 37, 9, 38, 32] (fun z => [(32, .v (.int .i64 z.1)), (9, .v (.slice z.2.2.1 z.2.1.length z.2.2.2.1))]) (fun z => [⟨x0, [Value.slice none (0 : Nat) (0 : Nat)], (65 : Nat)⟩, ⟨x1, [Value.string t, .int .i64 (z.2.2.2.2.2.1 : Nat), .bool z.2.2.2.2.2.2], (365 : Nat)⟩, ⟨x2, [Value.slice ib its.length ic], (65 : Nat)⟩]) (fun z => [z.2.2.2.2.1, A, H]) (fun z => (scNum t (s.1, s.2)).1 - z.1) (fun z => (z.1 ≤ (scNum t (s.1, s.2)).1 ∧ z.2.1.length = z.1 ∧ z.2.2.2.2.2.1 ≤ t.size ∧ (scNum t (s.1, s.2)).1 ≤ 4) ∧ (gSl 3 gI).ow [.slice z.2.2.1 z.2.1.length z.2.2.2.1] z.2.1 z.2.2.2.2.1 ∧ C1 t i z.1 z.2.1 z.2.2.2.2.2 ∧ S1 t (scNum t (0, false)).1 (scNum t (s.1, s.2)).1 its z.2.1 z.2.2.2.2.2) ((0, [], none, 0, [], _))
          · repeat' (first | exact trivial | refine ⟨⟨_, rfl, by first | rfl | exact inc_eq _ (by omega) | (refine sl_eq ?_; simp; done), by first | exact trivial | simp [SV.ok]⟩, ?_⟩)
          · exact ⟨rfl, rfl, rfl, trivial⟩
          · try dsimp only
            exact ⟨⟨by omega, rfl, (scNum_le (t := t) (s := (s.1, s.2)) hs).1, by omega⟩, sl_nil _ _ _, c1_zero hC, s1_zero hs hS⟩
          · exact .refl _
          rintro ⟨j, row, rb, rc, D, q⟩ hI
          obtain ⟨⟨hj, hjl, hq, hw⟩, oD, hD, hT⟩ : (j ≤ (scNum t (s.1, s.2)).1 ∧ row.length = j ∧ q.1 ≤ t.size ∧ (scNum t (s.1, s.2)).1 ≤ 4) ∧ (gSl 3 gI).ow [.slice rb row.length rc] row D ∧ C1 t i j row q ∧ S1 t (scNum t (0, false)).1 (scNum t (s.1, s.2)).1 its row q := hI
          try dsimp only
          refine VCsplit.intro (fun q9 => ?_) (fun q9 => ?_)
          ·
            simp at q9
            refine callR_blk 1 ([]) [D, A, H] rfl ?_ (scNumber_ct _ _ _ _ _ rfl ?_ ?_) trivial ?_
            · exact .refl _
            · omega
            · assumption
            rintro _ A10 ⟨rfl, rfl⟩
            refine ⟨_, _, [], rfl, perm0, ?_⟩
            refine VCnew.intro fun x11 => ?_
            refine gappend1 (g := gI) (T := (3 : TypeId)) G_ok D [] [A, H] ?_ oD (gI_ow ?_) (List.mem_of_getElem? (i := 0) rfl) rfl rfl rfl rfl rfl rfl rfl rfl ?_ fun b12 c12 A12 o12 => ?_
            · exact .tl
            · exact num_ok (by assumption)
            · omega
            apply loop_stepA (j + 1, row ++ [_], _, _, _, _)
            · exact .refl _
            · repeat' (first | exact trivial | refine ⟨⟨_, rfl, by first | rfl | exact inc_eq _ (by omega) | (refine sl_eq ?_; simp; done), by first | exact trivial | simp [SV.ok]⟩, ?_⟩)
            · exact ⟨rfl, rfl, rfl, trivial⟩
            · try dsimp only
              exact ⟨⟨by omega, by simp; omega, (scNum_le (t := t) (s := (q.1, q.2)) hq).1, hw⟩, by assumption, c1_next hC hD (by omega), s1_next hq hT⟩
            · try dsimp only
              omega
          ·
            simp at q9
            refine draw G_ok mixed none (.q 0 (.q 2 (.hd (.alt 1 (.f 3 (.f 4 (.f 5 (.f 6 (.q 7 (.f 8 (.nil))))))) (.alt 3 (.hd (.alt 1 (.f 4 (.f 5 (.f 6 (.q 7 (.f 8 (.nil)))))) (.alt 4 (.hd (.alt 1 (.f 5 (.f 6 (.q 7 (.f 8 (.nil))))) (.alt 5 (.f 1 (.f 6 (.q 7 (.f 8 (.nil))))) (.nil)))) (.nil)))) (.nil)))))) (by decide +kernel) ?_
            refine VC.intro ?_ ?_
            ·
              refine callR_blk 1 ([]) [D, A, H] rfl ?_ (scNumber_ct _ _ _ _ _ rfl ?_ ?_) trivial ?_
              · exact .refl _
              · omega
              · assumption
              rintro _ A13 ⟨rfl, rfl⟩
              refine ⟨_, _, [], rfl, perm0, ?_⟩
              refine VCnew.intro fun x14 => ?_
              refine gappend1 (g := gItem) (T := (212 : TypeId)) G_ok A _ [H] ?_ oA (((gItem_ow (x := ⟨row, ((scNum t (q.1, q.2)).1 : Nat)⟩)).2 ⟨rb, rc, D, rfl, .refl _, oD, num_ok (by assumption)⟩)) (List.mem_of_getElem? (i := 0) rfl) rfl rfl rfl rfl rfl rfl rfl rfl ?_ fun b15 c15 A15 o15 => ?_
              · exact .le fun a => by (try simp only [setR, List.cons_append, List.nil_append]); simp only [List.flatten_append, List.flatten_cons, List.flatten_nil, List.count_append, List.count_nil, List.append_nil, List.nil_append]; omega
              · omega
              apply loop_stepA (i + 1, its ++ [_], _, _, _, _)
              · exact .refl _
              · repeat' (first | exact trivial | refine ⟨⟨_, rfl, by first | rfl | exact inc_eq _ (by omega) | (refine sl_eq ?_; simp; done), by first | exact trivial | simp [SV.ok]⟩, ?_⟩)
              · exact ⟨rfl, rfl, rfl, trivial⟩
              · try dsimp only
                exact ⟨⟨by omega, by simp; omega, (scNum_le (t := t) (s := (q.1, q.2)) hq).1, by omega⟩, by assumption, c0_next hC hD (by omega) (fun h => by omega), s0_next hq hT (by omega)⟩
              · try dsimp only
                omega
            ·
              refine VC.intro ?_ ?_
              ·
                refine callR_blk 1 ([]) [D, A, H] rfl ?_ (scNumber_ct _ _ _ _ _ rfl ?_ ?_) trivial ?_
                · exact .refl _
                · omega
                · assumption
                rintro _ A16 ⟨rfl, rfl⟩
                refine ⟨_, _, [], rfl, perm0, ?_⟩
                refine VC.intro ?_ ?_
                ·
                  refine VCnew.intro fun x17 => ?_
                  refine gappend1 (g := gItem) (T := (212 : TypeId)) G_ok A _ [H] ?_ oA (((gItem_ow (x := ⟨row, ((scNum t (q.1, q.2)).1 : Nat)⟩)).2 ⟨rb, rc, D, rfl, .refl _, oD, num_ok (by assumption)⟩)) (List.mem_of_getElem? (i := 0) rfl) rfl rfl rfl rfl rfl rfl rfl rfl ?_ fun b18 c18 A18 o18 => ?_
                  · exact .le fun a => by (try simp only [setR, List.cons_append, List.nil_append]); simp only [List.flatten_append, List.flatten_cons, List.flatten_nil, List.count_append, List.count_nil, List.append_nil, List.nil_append]; omega
                  · omega
                  apply loop_stepA (i + 1, its ++ [_], _, _, _, _)
                  · exact .refl _
                  · repeat' (first | exact trivial | refine ⟨⟨_, rfl, by first | rfl | exact inc_eq _ (by omega) | (refine sl_eq ?_; simp; done), by first | exact trivial | simp [SV.ok]⟩, ?_⟩)
                  · exact ⟨rfl, rfl, rfl, trivial⟩
                  · try dsimp only
                    exact ⟨⟨by omega, by simp; omega, (scNum_le (t := t) (s := (q.1, q.2)) hq).1, by omega⟩, by assumption, c0_next hC hD (by omega) (fun h => by omega), s0_next hq hT (by omega)⟩
                  · try dsimp only
                    omega
                ·
                  refine VC.intro ?_ ?_
                  ·
                    refine VC.intro ?_ ?_
                    ·
                      refine VCnew.intro fun x19 => ?_
                      refine gappend1 (g := gItem) (T := (212 : TypeId)) G_ok A _ [H] ?_ oA (((gItem_ow (x := ⟨row, ((scNum t (q.1, q.2)).1 : Nat)⟩)).2 ⟨rb, rc, D, rfl, .refl _, oD, num_ok (by assumption)⟩)) (List.mem_of_getElem? (i := 0) rfl) rfl rfl rfl rfl rfl rfl rfl rfl ?_ fun b20 c20 A20 o20 => ?_
                      · exact .le fun a => by (try simp only [setR, List.cons_append, List.nil_append]); simp only [List.flatten_append, List.flatten_cons, List.flatten_nil, List.count_append, List.count_nil, List.append_nil, List.nil_append]; omega
                      · omega
                      apply loop_stepA (i + 1, its ++ [_], _, _, _, _)
                      · exact .refl _
                      · repeat' (first | exact trivial | refine ⟨⟨_, rfl, by first | rfl | exact inc_eq _ (by omega) | (refine sl_eq ?_; simp; done), by first | exact trivial | simp [SV.ok]⟩, ?_⟩)
                      · exact ⟨rfl, rfl, rfl, trivial⟩
                      · try dsimp only
                        exact ⟨⟨by omega, by simp; omega, (scNum_le (t := t) (s := (q.1, q.2)) hq).1, by omega⟩, by assumption, c0_next hC hD (by omega) (fun h => by omega), s0_next hq hT (by omega)⟩
                      · try dsimp only
                        omega
                    ·
                      refine VC.intro ?_ ?_
                      ·
                        refine VCnew.intro fun x21 => ?_
                        refine gappend1 (g := gItem) (T := (212 : TypeId)) G_ok A _ [H] ?_ oA (((gItem_ow (x := ⟨row, ((scNum t (q.1, q.2)).1 : Nat)⟩)).2 ⟨rb, rc, D, rfl, .refl _, oD, num_ok (by assumption)⟩)) (List.mem_of_getElem? (i := 0) rfl) rfl rfl rfl rfl rfl rfl rfl rfl ?_ fun b22 c22 A22 o22 => ?_
                        · exact .le fun a => by (try simp only [setR, List.cons_append, List.nil_append]); simp only [List.flatten_append, List.flatten_cons, List.flatten_nil, List.count_append, List.count_nil, List.append_nil, List.nil_append]; omega
                        · omega
                        apply loop_stepA (i + 1, its ++ [_], _, _, _, _)
                        · exact .refl _
                        · repeat' (first | exact trivial | refine ⟨⟨_, rfl, by first | rfl | exact inc_eq _ (by omega) | (refine sl_eq ?_; simp; done), by first | exact trivial | simp [SV.ok]⟩, ?_⟩)
                        · exact ⟨rfl, rfl, rfl, trivial⟩
                        · try dsimp only
                          exact ⟨⟨by omega, by simp; omega, (scNum_le (t := t) (s := (q.1, q.2)) hq).1, by omega⟩, by assumption, c0_next hC hD (by omega) (fun h => by omega), s0_next hq hT (by omega)⟩
                        · try dsimp only
                          omega
                      ·
                        exact trivial
                  ·
                    exact trivial
              ·
                exact trivial
    ·
      simp at q5
      refine callR_blk 1 ([]) [A, H] rfl ?_ (scDoneB_ct _ _ _ _ _ rfl ?_ ?_) trivial ?_
      · exact .refl _
      · omega
      · trivial
      rintro _ A23 ⟨rfl, rfl⟩
      refine ⟨_, _, [], rfl, perm0, ?_⟩
      refine VCsplit.intro (fun q24 => ?_) (fun q24 => ?_)
      ·
        simp at q24
        (obtain ⟨e1, e2⟩ := rb_no (t := t) (fun b hb => by (obtain ⟨h9, h10, h12⟩ := c0_done hC (fun h => by first | omega | simp_all) b hb; have h11 := hb.1; rw [h9] at h11; simp_all)); rw [e1, e2]; exact ⟨_, ⟨_, rfl, zBag_ow⟩, (.le fun a => by (try simp only [setR, List.cons_append, List.nil_append]); simp [List.count_cons, Blk.ent, idOf]; try omega)⟩)
      ·
        simp at q24
        refine call_val (implBagOk_ct _ ⟨its⟩) (gBag_rd.2 ⟨_, _, rfl, Rp.mono _ (mem_at 0 rfl) (Gt.owrd _ oA)⟩) ?_
        rintro _ rfl
        refine VCsplit.intro (fun q26 => ?_) (fun q26 => ?_)
        ·
          simp at q26
          (obtain ⟨e1, e2⟩ := rb_no (t := t) (fun b hb => by (obtain ⟨h9, h10, h12⟩ := c0_done hC (fun h => by first | omega | simp_all) b hb; have h11 := hb.1; rw [h9] at h11; simp_all)); rw [e1, e2]; exact ⟨_, ⟨_, rfl, zBag_ow⟩, (.le fun a => by (try simp only [setR, List.cons_append, List.nil_append]); simp [List.count_cons, Blk.ent, idOf]; try omega)⟩)
        ·
          simp at q26
          (have hok9 : bagM ⟨its⟩ = true := (by simp_all); obtain ⟨e1, e2⟩ := rb_yes (t := t) (b := ⟨its⟩) ⟨hok9, s0_end hS (by simp_all) (by simp_all) (by first | omega | simp_all)⟩ (fun c hc => ((c0_end hC (fun h => by first | omega | simp_all) c hc).1).symm); rw [e1, e2]; exact ⟨_, ⟨_, rfl, gBag_ow.2 ⟨_, _, A, rfl, .refl _, oA⟩⟩, (.le fun a => by (try simp only [setR, List.cons_append, List.nil_append]); simp [List.count_cons, Blk.ent, idOf]; try omega)⟩)
  ·
    simp at q4
    refine callR_blk 1 ([]) [A, H] rfl ?_ (scDoneB_ct _ _ _ _ _ rfl ?_ ?_) trivial ?_
    · exact .refl _
    · omega
    · trivial
    rintro _ A27 ⟨rfl, rfl⟩
    refine ⟨_, _, [], rfl, perm0, ?_⟩
    refine VCsplit.intro (fun q28 => ?_) (fun q28 => ?_)
    ·
      simp at q28
      (obtain ⟨e1, e2⟩ := rb_no (t := t) (fun b hb => by (obtain ⟨h9, h10, h12⟩ := c0_done hC (fun h => by first | omega | simp_all) b hb; have h11 := hb.1; rw [h9] at h11; simp_all)); rw [e1, e2]; exact ⟨_, ⟨_, rfl, zBag_ow⟩, (.le fun a => by (try simp only [setR, List.cons_append, List.nil_append]); simp [List.count_cons, Blk.ent, idOf]; try omega)⟩)
    ·
      simp at q28
      refine call_val (implBagOk_ct _ ⟨its⟩) (gBag_rd.2 ⟨_, _, rfl, Rp.mono _ (mem_at 0 rfl) (Gt.owrd _ oA)⟩) ?_
      rintro _ rfl
      refine VCsplit.intro (fun q30 => ?_) (fun q30 => ?_)
      ·
        simp at q30
        (obtain ⟨e1, e2⟩ := rb_no (t := t) (fun b hb => by (obtain ⟨h9, h10, h12⟩ := c0_done hC (fun h => by first | omega | simp_all) b hb; have h11 := hb.1; rw [h9] at h11; simp_all)); rw [e1, e2]; exact ⟨_, ⟨_, rfl, zBag_ow⟩, (.le fun a => by (try simp only [setR, List.cons_append, List.nil_append]); simp [List.count_cons, Blk.ent, idOf]; try omega)⟩)
      ·
        simp at q30
        (have hok9 : bagM ⟨its⟩ = true := (by simp_all); obtain ⟨e1, e2⟩ := rb_yes (t := t) (b := ⟨its⟩) ⟨hok9, s0_end hS (by simp_all) (by simp_all) (by first | omega | simp_all)⟩ (fun c hc => ((c0_end hC (fun h => by first | omega | simp_all) c hc).1).symm); rw [e1, e2]; exact ⟨_, ⟨_, rfl, gBag_ow.2 ⟨_, _, A, rfl, .refl _, oA⟩⟩, (.le fun a => by (try simp only [setR, List.cons_append, List.nil_append]); simp [List.count_cons, Blk.ent, idOf]; try omega)⟩)

end Go.Proofs.YtflfohphebmemaaGreat
