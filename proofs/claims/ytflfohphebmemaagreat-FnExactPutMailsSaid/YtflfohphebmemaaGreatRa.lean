/-
  The text of a bag, as the reference writes it. Conditions: none.
-/
import Derived.Test.YtflfohphebmemaaGreatNa
import Derived.Test.YtflfohphebmemaaGreatHe
namespace Go.Proofs.YtflfohphebmemaaGreat
open Go.SX Go.Proofs
set_option linter.unusedSimpArgs false
set_option linter.unusedVariables false
set_option maxHeartbeats 4000000
attribute [local irreducible] IntKind.wrap

def rowBytes (r : List Int) : List UInt8 := r.flatMap varT
def itemBytes (x : Item) : List UInt8 := varT x.row.length ++ (rowBytes x.row ++ varT x.times)
def bagBytes (b : Bag) : List UInt8 := varT b.items.length ++ b.items.flatMap itemBytes
theorem flat_step {α : Type} {f : α → List UInt8} {xs : List α} {k : Nat} (z : α) (h : k < xs.length) : (xs.take (k + 1)).flatMap f = (xs.take k).flatMap f ++ f (xs[k]?.getD z) := by
  rw [← List.take_append_getElem h, List.flatMap_append, List.getElem?_eq_getElem h]; simp
theorem bag_rng {b : Bag} (h : bagM b = true) : b.items.length ≤ 300 ∧ ∀ k, k < b.items.length → (b.items[k]?.getD default).row.length ≤ 4 ∧ (∀ j, j < (b.items[k]?.getD default).row.length → 0 ≤ (b.items[k]?.getD default).row[j]?.getD 0 ∧ (b.items[k]?.getD default).row[j]?.getD 0 ≤ 99) ∧ 1 ≤ (b.items[k]?.getD default).times ∧ (b.items[k]?.getD default).times ≤ 1000000 := by
  unfold bagM at h
  rw [Bool.and_eq_true, decide_eq_true_iff] at h
  refine ⟨h.1, fun k hk => ?_⟩
  have h2 := allK_at h.2 k hk
  unfold itemM rowAt rowM at h2
  simp only [Bool.and_eq_true, decide_eq_true_iff] at h2
  refine ⟨h2.1.1, fun j hj => inR_iff.1 (allK_at h2.1.2 j hj), inR_iff.1 h2.2.1⟩
theorem bt_size (n : Int) : (varText n).size ≤ 10 := varText_size n
theorem bt_row0 (s a : ByteArray) : s ++ a = s ++ (a ++ tx (rowBytes ([] : List Int))) := by
  rw [← by_inj, by_app, by_app, by_app, by_tx]; unfold rowBytes; simp
theorem bt_row {s2 s a : ByteArray} {r : List Int} {j : Nat} (h : s2 = s ++ (a ++ tx (rowBytes (r.take j)))) (hj : j < r.length) : s2 ++ varText (r[j]?.getD 0) = s ++ (a ++ tx (rowBytes (r.take (j + 1)))) := by
  subst h
  unfold rowBytes varText
  rw [flat_step 0 hj, tx_app]
  simp only [ByteArray.append_assoc]
theorem bt_item {s s2 : ByteArray} {P : List UInt8} {xs : List Item} {k : Nat} (hk : k < xs.length) (ho : s = tx (P ++ (xs.take k).flatMap itemBytes)) (h : s2 = s ++ (varText (xs[k]?.getD default).row.length ++ tx (rowBytes ((xs[k]?.getD default).row.take (xs[k]?.getD default).row.length)))) :
    s2 ++ varText (xs[k]?.getD default).times = tx (P ++ (xs.take (k + 1)).flatMap itemBytes) := by
  subst h
  rw [flat_step default hk, ho, List.take_length]
  unfold itemBytes varText
  simp only [tx_app, ByteArray.append_assoc]
--@ct spec.BagText val specBagText_ct _ $1 | %1
theorem specBagText_ct (l : List Value) (x : Bag) : Ct Tryz.prog 272 [.agg ⟨l⟩] [] (fun H => gBag.rd H l x) (fun v A => v = .tuple #[.string (if bagM x then tx (bagBytes x) else .empty), .bool (bagM x)] ∧ A = []) := by
  refine Ct.intro0 G_ok Tryz.func272 rfl rfl rfl fun E H hp => ?_
  obtain ⟨b0p, c0p, rfl, h0p⟩ := gBag_rd.1 hp
  have hl := (rd_len h0p).2
  have h7 : IntKind.i64.max = 9223372036854775807 := rfl
  have hz0 := varText_size x.items.length
  refine VCnew.intro fun x0 => ?_
  refine call_val (specBagOk_ct _ (x)) (Rp.mono _ (mem_at 0 rfl) hp) ?_
  rintro _ rfl
  refine VCsplit.intro (fun q2 => ?_) (fun q2 => ?_)
  ·
    simp at q2
    exact ⟨[], ⟨by rw [show bagM x = false by simp_all]; rfl, rfl⟩, (.le fun a => by (try simp only [setR, List.cons_append, List.nil_append]); simp [List.count_cons, Blk.ent, idOf]; try omega)⟩
  ·
    simp at q2
    have hr := bag_rng (by assumption : bagM x = true)
    refine call_val (l01Var_ct _ ?_ ?_) trivial ?_
    · omega
    · omega
    rintro _ rfl
    apply loop_mod (α := (Nat) × (ByteArray)) G_ok [14, 15, 16, 17, 18, 21, 22, 23, 24, 25, 26, 27, 28, 29, 30, 4, 6, 31, 32, 33, 34, 35, 36, 37, 38, 39, 42, 43, 44, 45, 46, 47, 48, 49, 50, 51, 52, 53, 40, 41, 54, 55, 56, 57, 58, 59, 60, 61, 62, 19, 20, 5] (fun z => [(5, .v (.int .i64 z.1)), (4, .v (.string z.2))]) (fun z => [{ id := x0, cs := [Value.slice b0p x.items.length c0p], ty := (65 : Nat) }]) (fun z => [H]) (fun z => x.items.length - z.1) (fun z => z.1 ≤ x.items.length ∧ z.2 = tx (varT x.items.length ++ (x.items.take z.1).flatMap itemBytes) ∧ z.2.size ≤ 10 + 100 * z.1) ((0, _))
    · repeat' (first | exact trivial | refine ⟨⟨_, rfl, by first | rfl | exact inc_eq _ (by omega) | (refine sl_eq ?_; simp; done), by first | exact trivial | simp [SV.ok]⟩, ?_⟩)
    · exact ⟨rfl, trivial⟩
    · try dsimp only
      exact ⟨Nat.zero_le _, by simp [tx], by (show (varText x.items.length).size ≤ _; omega)⟩
    · exact .refl _
    rintro ⟨k, s⟩ hI
    obtain ⟨hk, ho, hol⟩ : k ≤ x.items.length ∧ s = tx (varT x.items.length ++ (x.items.take k).flatMap itemBytes) ∧ s.size ≤ 10 + 100 * k := hI
    try dsimp only
    refine VCsplit.intro (fun q4 => ?_) (fun q4 => ?_)
    ·
      simp at q4
      have hi := hr.2 k (by omega)
      have z1 := varText_size (x.items[k]?.getD default).row.length
      have z2 := varText_size (x.items[k]?.getD default).times
      refine idx_rd h0p ?_ ?_ fun b5 o5 hb5 => ?_
      · omega
      · omega
      refine load_partN default (k) 0 rfl h0p ?_ ?_ hb5 rfl (by decide) (mem_at 0 rfl) fun l6 hl6 => ?_
      · omega
      · omega
      obtain ⟨b0x6, c0x6, rfl, h0x6, w1x6⟩ := gItem_rd.1 hl6
      refine call_val (l01Var_ct _ ?_ ?_) trivial ?_
      · omega
      · omega
      rintro _ rfl
      refine VC.intro ?_ ?_
      · omega
      apply loop_mod (α := (Nat) × (ByteArray)) G_ok [31, 32, 33, 34, 35, 36, 37, 38, 39, 42, 43, 44, 45, 46, 47, 48, 49, 50, 51, 52, 53, 4, 40, 41, 6] (fun z => [(6, .v (.int .i64 z.1)), (4, .v (.string z.2))]) (fun z => [{ id := x0, cs := [Value.slice b0p x.items.length c0p], ty := (65 : Nat) }]) (fun z => [H]) (fun z => (x.items[k]?.getD default).row.length - z.1) (fun z => z.1 ≤ (x.items[k]?.getD default).row.length ∧ z.2 = s ++ (varText (x.items[k]?.getD default).row.length ++ tx (rowBytes ((x.items[k]?.getD default).row.take z.1))) ∧ z.2.size ≤ 20 + 100 * k + 10 * z.1) ((0, _))
      · repeat' (first | exact trivial | refine ⟨⟨_, rfl, by first | rfl | exact inc_eq _ (by omega) | (refine sl_eq ?_; simp; done), by first | exact trivial | simp [SV.ok]⟩, ?_⟩)
      · exact ⟨rfl, trivial⟩
      · try dsimp only
        exact ⟨Nat.zero_le _, bt_row0 s (varText (x.items[k]?.getD default).row.length), by (show (s ++ varText (x.items[k]?.getD default).row.length).size ≤ _; rw [ByteArray.size_append]; omega)⟩
      · exact .refl _
      rintro ⟨j, s2⟩ hI
      obtain ⟨hj, ho2, hol2⟩ : j ≤ (x.items[k]?.getD default).row.length ∧ s2 = s ++ (varText (x.items[k]?.getD default).row.length ++ tx (rowBytes ((x.items[k]?.getD default).row.take j))) ∧ s2.size ≤ 20 + 100 * k + 10 * j := hI
      try dsimp only
      refine idx_rd h0p ?_ ?_ fun b8 o8 hb8 => ?_
      · omega
      · omega
      refine load_partN default (k) 0 rfl h0p ?_ ?_ hb8 rfl (by decide) (mem_at 0 rfl) fun l9 hl9 => ?_
      · omega
      · omega
      obtain ⟨b0x9, c0x9, rfl, h0x9, w1x9⟩ := gItem_rd.1 hl9
      refine VCsplit.intro (fun q10 => ?_) (fun q10 => ?_)
      ·
        simp at q10
        have z3 := varText_size ((x.items[k]?.getD default).row[j]?.getD 0)
        refine idx_rd h0p ?_ ?_ fun b11 o11 hb11 => ?_
        · omega
        · omega
        refine load_partN default (k) 0 rfl h0p ?_ ?_ hb11 rfl (by decide) (mem_at 0 rfl) fun l12 hl12 => ?_
        · omega
        · omega
        obtain ⟨b0x12, c0x12, rfl, h0x12, w1x12⟩ := gItem_rd.1 hl12
        refine idx_rd h0x12 ?_ ?_ fun b13 o13 hb13 => ?_
        · omega
        · omega
        refine load_allN 0 (j) rfl h0x12 ?_ ?_ hb13 rfl (mem_at 0 rfl) fun l14 hl14 => ?_
        · omega
        · omega
        obtain ⟨rfl, hw14⟩ := hl14; simp only [flStr, flInt, okI] at hw14
        refine call_val (l01Var_ct _ ?_ ?_) trivial ?_
        · simp_all
        · grind
        rintro _ rfl
        refine VC.intro ?_ ?_
        · omega
        apply loop_stepA (j + 1, _)
        · exact .refl _
        · repeat' (first | exact trivial | refine ⟨⟨_, rfl, by first | rfl | exact inc_eq _ (by omega) | (refine sl_eq ?_; simp; done), by first | exact trivial | simp [SV.ok]⟩, ?_⟩)
        · exact ⟨rfl, trivial⟩
        · try dsimp only
          exact ⟨by omega, bt_row ho2 (by omega), by (rw [ByteArray.size_append]; omega)⟩
        · try dsimp only
          omega
      ·
        simp at q10
        obtain rfl : j = (x.items[k]?.getD default).row.length := (by omega)
        refine idx_rd h0p ?_ ?_ fun b16 o16 hb16 => ?_
        · omega
        · omega
        refine load_partN default (k) 1 rfl h0p ?_ ?_ hb16 rfl (by decide) (mem_at 0 rfl) fun l17 hl17 => ?_
        · omega
        · omega
        obtain ⟨b0x17, c0x17, rfl, h0x17, w1x17⟩ := gItem_rd.1 hl17
        refine call_val (l01Var_ct _ ?_ ?_) trivial ?_
        · omega
        · omega
        rintro _ rfl
        refine VC.intro ?_ ?_
        · omega
        apply loop_stepA (k + 1, _)
        · exact .refl _
        · repeat' (first | exact trivial | refine ⟨⟨_, rfl, by first | rfl | exact inc_eq _ (by omega) | (refine sl_eq ?_; simp; done), by first | exact trivial | simp [SV.ok]⟩, ?_⟩)
        · exact ⟨rfl, trivial⟩
        · try dsimp only
          exact ⟨by omega, bt_item (by omega) ho ho2, by (rw [ByteArray.size_append]; omega)⟩
        · try dsimp only
          omega
    ·
      simp at q4
      (have hke : k = x.items.length := (by omega); exact ⟨[], ⟨by rw [show bagM x = true by assumption, ho, hke, List.take_length]; rfl, rfl⟩, (.le fun a => by (try simp only [setR, List.cons_append, List.nil_append]); simp [List.count_cons, Blk.ent, idOf]; try omega)⟩)

end Go.Proofs.YtflfohphebmemaaGreat
