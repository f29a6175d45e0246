/-
  Packets read, on the reference's side. Conditions: none.
-/
import Derived.Test.YtmmmjikanmgpfaaKd
namespace Go.Proofs.Ytmmmjikanmgpfaa
open Go.SX Go.Proofs
set_option linter.unusedSimpArgs false
set_option linter.unusedVariables false
set_option maxHeartbeats 4000000
attribute [local irreducible] IntKind.wrap

theorem ptR_other {p : Packet} {t : ByteArray} (h : packOk p = true) (h2 : ¬ ptR p = t) : ¬ packText p = t := by rwa [ptR_yes h] at h2
theorem rk_bad4 {t : ByteArray} (h0 : openOk t = true) (h : ¬ ptR (pkF (openR t)) = t) : rkR t = ⟨0, 0, 0, 0, 0, .empty⟩ ∧ (readPack t).isSome = false := rk_none (readPack_none (t := t) (fun x hx h2 => by
  rw [openX_yes h0] at hx; cases hx
  exact h (rk_canon h0 h2.1 h2.2)))
theorem pkF_rd2 {H : Hp} (x : ByteArray) (hx : x.size ≤ 9223372036854775807) (h : (pk5 x).2.2 = false) : gPacket.rd H [.int .i64 ((pk1 x).1 : Nat), .int .i64 ((pk2 x).1.toNat : Nat), .int .i64 ((pk3 x).1.toNat : Nat), .int .i64 ((pk4 x).1 : Nat), .int .i64 ((pk5 x).1 : Nat), .string (x.extract (pk5 x).2.1 x.size)] (pkF x) := by
  have h1 := pkF_rd (H := H) x hx
  have e : pkCells (pkF x) = [.int .i64 ((pk1 x).1 : Nat), .int .i64 ((pk2 x).1.toNat : Nat), .int .i64 ((pk3 x).1.toNat : Nat), .int .i64 ((pk4 x).1 : Nat), .int .i64 ((pk5 x).1 : Nat), .string (x.extract (pk5 x).2.1 x.size)] := by
    unfold pkCells pkF pkB; rw [h]; rfl
  rwa [e] at h1
theorem specRead_yes (t : ByteArray) (ht : t.size ≤ 1152921504606846976) (ho : openOk t = true) : Ct Try.prog 80 [.string t] [] (fun _ => True) (fun v A => v = .tuple #[.agg ⟨pkCells (rkR t)⟩, .bool (readPack t).isSome] ∧ A = []) := by
  refine Ct.intro0 G_ok Try.func80 rfl rfl rfl fun E H hp => ?_
  have hsz := openR_size t
  have hle := pk_le (openR t)
  have hno : (!openOk t) = false := by rw [ho]; rfl
  refine VCnew.intro fun x0 => ?_
  refine call_val (specUnsealed_ct _ ?_) trivial ?_
  · trivial
  rintro _ rfl
  rw [ho]
  refine VCnew.intro fun x2 => ?_
  refine callR_blk 1 ([]) [H] rfl ?_ (l03Var_ct _ _ _ _ _ rfl ?_ ?_) trivial ?_
  · exact .refl _
  · omega
  · (simp only [inU8, u8_wrap]; omega)
  rintro _ A3 ⟨rfl, rfl⟩
  refine ⟨_, _, [], rfl, perm0, ?_⟩
  refine VCnew.intro fun x4 => ?_
  refine callR_blk 1 ([]) [H] rfl ?_ (l03Byte_ct _ _ _ _ _ rfl ?_ ?_) trivial ?_
  · exact .refl _
  · omega
  · exact hle.1
  rintro _ A5 ⟨rfl, rfl⟩
  refine ⟨_, _, [], rfl, perm0, ?_⟩
  refine callR_blk 1 ([]) [H] rfl ?_ (l03Byte_ct _ _ _ _ _ rfl ?_ ?_) trivial ?_
  · exact .refl _
  · omega
  · exact hle.2.1
  rintro _ A6 ⟨rfl, rfl⟩
  refine ⟨_, _, [], rfl, perm0, ?_⟩
  refine callR_blk 1 ([]) [H] rfl ?_ (l03Var_ct _ _ _ _ _ rfl ?_ ?_) trivial ?_
  · exact .refl _
  · omega
  · exact hle.2.2.1
  rintro _ A7 ⟨rfl, rfl⟩
  refine ⟨_, _, [], rfl, perm0, ?_⟩
  refine callR_blk 1 ([]) [H] rfl ?_ (l03Var_ct _ _ _ _ _ rfl ?_ ?_) trivial ?_
  · exact .refl _
  · omega
  · exact hle.2.2.2.1
  rintro _ A8 ⟨rfl, rfl⟩
  refine ⟨_, _, [], rfl, perm0, ?_⟩
  refine VCsplit.intro (fun q9 => ?_) (fun q9 => ?_)
  ·
    simp at q9
    have hb9 : (pk5 (openR t)).2.2 = true := q9
    try dsimp only
    (obtain ⟨e1, e2⟩ := rk_bad2 ‹(pk5 (openR t)).2.2 = true›; rw [e1, e2]; exact ⟨[], ⟨rfl, rfl⟩, (.le fun a => by (try simp only [setR, List.cons_append, List.nil_append]); simp [List.count_cons, Blk.ent, idOf]; try omega)⟩)
  ·
    simp at q9
    have hg9 : (pk5 (openR t)).2.2 = false := q9
    have heb : (pkB (openR t)) = (openR t).extract (pk5 (openR t)).2.1 (openR t).size := by (unfold pkB; rw [‹(pk5 (openR t)).2.2 = false›]; rfl)
    simp only [wrap_byte]
    refine VC.intro ?_ ?_
    · exact ⟨Int.natCast_nonneg _, Int.ofNat_le.2 hle.2.2.2.2⟩
    refine call_val (specPacketText_ct _ (pkF (openR t))) (pkF_rd2 (openR t) (by omega) ‹(pk5 (openR t)).2.2 = false›) ?_
    rintro _ rfl
    refine VCsplit.intro (fun q11 => ?_) (fun q11 => ?_)
    ·
      simp at q11
      (obtain ⟨e1, e2⟩ := rk_bad3 ‹packOk (pkF (openR t)) = false›; rw [e1, e2]; exact ⟨[], ⟨rfl, rfl⟩, (.le fun a => by (try simp only [setR, List.cons_append, List.nil_append]); simp [List.count_cons, Blk.ent, idOf]; try omega)⟩)
    ·
      simp at q11
      refine VCsplit.intro (fun q12 => ?_) (fun q12 => ?_)
      ·
        simp at q12
        simp only [str_inj, u8_inj, u8_wrap] at q12
        (obtain ⟨e1, e2⟩ := rk_bad4 ho ‹¬ ptR (pkF (openR t)) = t›; rw [e1, e2]; exact ⟨[], ⟨rfl, rfl⟩, (.le fun a => by (try simp only [setR, List.cons_append, List.nil_append]); simp [List.count_cons, Blk.ent, idOf]; try omega)⟩)
      ·
        simp at q12
        simp only [str_inj, u8_inj, u8_wrap] at q12
        (obtain ⟨e1, e2⟩ := rk_good ho ‹(pk5 (openR t)).2.2 = false› ‹packOk (pkF (openR t)) = true›; rw [e1, e2]; unfold pkCells pkF; rw [heb]; exact ⟨[], ⟨rfl, rfl⟩, (.le fun a => by (try simp only [setR, List.cons_append, List.nil_append]); simp [List.count_cons, Blk.ent, idOf]; try omega)⟩)
theorem specRead_no (t : ByteArray) (ht : t.size ≤ 1152921504606846976) (ho : openOk t = false) : Ct Try.prog 80 [.string t] [] (fun _ => True) (fun v A => v = .tuple #[.agg ⟨pkCells (rkR t)⟩, .bool (readPack t).isSome] ∧ A = []) := by
  refine Ct.intro0 G_ok Try.func80 rfl rfl rfl fun E H hp => ?_
  have hsz := openR_size t
  have l1 : (scNum (openR t) (0, true)).2.1 ≤ (openR t).size := (scNum_le (Nat.zero_le _)).1
  have l2 := scByte_le (s := (scNum (openR t) (0, true)).2) l1
  have l3 := scByte_le (s := (scByte (openR t) (scNum (openR t) (0, true)).2).2) l2
  have l4 := (scNum_le (s := (scByte (openR t) (scByte (openR t) (scNum (openR t) (0, true)).2).2).2) l3).1
  refine VCnew.intro fun x0 => ?_
  refine call_val (specUnsealed_ct _ ?_) trivial ?_
  · trivial
  rintro _ rfl
  rw [ho]
  refine VCnew.intro fun x2 => ?_
  refine callR_blk 1 ([]) [H] rfl ?_ (l03Var_ct _ _ _ _ _ rfl ?_ ?_) trivial ?_
  · exact .refl _
  · omega
  · (simp only [inU8, u8_wrap]; omega)
  rintro _ A3 ⟨rfl, rfl⟩
  refine ⟨_, _, [], rfl, perm0, ?_⟩
  refine VCnew.intro fun x4 => ?_
  refine callR_blk 1 ([]) [H] rfl ?_ (l03Byte_ct _ _ _ _ _ rfl ?_ ?_) trivial ?_
  · exact .refl _
  · omega
  · trivial
  rintro _ A5 ⟨rfl, rfl⟩
  refine ⟨_, _, [], rfl, perm0, ?_⟩
  refine callR_blk 1 ([]) [H] rfl ?_ (l03Byte_ct _ _ _ _ _ rfl ?_ ?_) trivial ?_
  · exact .refl _
  · omega
  · trivial
  rintro _ A6 ⟨rfl, rfl⟩
  refine ⟨_, _, [], rfl, perm0, ?_⟩
  refine callR_blk 1 ([]) [H] rfl ?_ (l03Var_ct _ _ _ _ _ rfl ?_ ?_) trivial ?_
  · exact .refl _
  · omega
  · trivial
  rintro _ A7 ⟨rfl, rfl⟩
  refine ⟨_, _, [], rfl, perm0, ?_⟩
  refine callR_blk 1 ([]) [H] rfl ?_ (l03Var_ct _ _ _ _ _ rfl ?_ ?_) trivial ?_
  · exact .refl _
  · omega
  · trivial
  rintro _ A8 ⟨rfl, rfl⟩
  refine ⟨_, _, [], rfl, perm0, ?_⟩
  refine VCsplit.intro (fun q9 => ?_) (fun q9 => ?_)
  ·
    simp at q9
    try dsimp only
    (obtain ⟨e1, e2⟩ := rk_bad1 ho; rw [e1, e2]; exact ⟨[], ⟨rfl, rfl⟩, (.le fun a => by (try simp only [setR, List.cons_append, List.nil_append]); simp [List.count_cons, Blk.ent, idOf]; try omega)⟩)
  ·
    simp at q9
    exact absurd (q9.symm.trans (scNum_bad (scNum_bad (scByte_bad (scByte_bad (scNum_bad rfl)))))) (by decide)
--@ct spec.ReadPacket val specReadPacket_ct _ ?_
theorem specReadPacket_ct (t : ByteArray) (ht : t.size ≤ 1152921504606846976) : Ct Try.prog 80 [.string t] [] (fun _ => True) (fun v A => v = .tuple #[.agg ⟨pkCells (rkR t)⟩, .bool (readPack t).isSome] ∧ A = []) := by
  cases ho : openOk t with
  | true => exact specRead_yes t ht ho
  | false => exact specRead_no t ht ho

end Go.Proofs.Ytmmmjikanmgpfaa
