/-
  The part of a disk, on both sides. Conditions: none.
-/
import Derived.Test.YtcikookachejfaaJk
import Derived.Test.YtcikookachejfaaIb
namespace Go.Proofs.Ytcikookachejfaa
open Go.SX Go.Proofs
set_option linter.unusedSimpArgs false
set_option linter.unusedVariables false
set_option maxHeartbeats 1000000
attribute [local irreducible] IntKind.wrap

def lastG (l : List ByteArray) : Option Graph := (l.filterMap readGraph).getLast?
def readPart (d : Disk) : Option Graph := lastG (recordsOf d (ByteArray.mk #[112, 97, 114, 116]))
def rpR (d : Disk) : Graph := (readPart d).getD ⟨0, []⟩
theorem lastG_nil {l : List ByteArray} (h : l.filterMap readGraph = []) : lastG l = none := by unfold lastG; rw [h]; rfl
theorem lastG_at {l : List ByteArray} {k : Nat} (hk : k < l.length) (h : (l.drop (k + 1)).filterMap readGraph = []) {g : Graph} (hg : readGraph (l[k]?.getD .empty) = some g) : lastG l = some g := by
  have h1 : l = l.take k ++ (l[k]?.getD .empty :: l.drop (k + 1)) := by
    rw [List.getElem?_eq_getElem hk, Option.getD_some, ← List.drop_eq_getElem_cons hk, List.take_append_drop]
  unfold lastG
  rw [h1, List.filterMap_append, List.filterMap_cons, hg, h]
  simp
theorem drop_none {l : List ByteArray} {k : Nat} (hk : k < l.length) (h : (l.drop (k + 1)).filterMap readGraph = []) (hg : readGraph (l[k]?.getD .empty) = none) : (l.drop k).filterMap readGraph = [] := by
  rw [List.getElem?_eq_getElem hk, Option.getD_some] at hg
  rw [List.drop_eq_getElem_cons hk, List.filterMap_cons, hg]; exact h
theorem lastG_step {l : List ByteArray} {k : Nat} (hk : k < l.length) : lastG (l.take (k + 1)) = match readGraph (l[k]?.getD .empty) with
  | some g => some g
  | none => lastG (l.take k) := by
  rw [← List.take_append_getElem hk, List.getElem?_eq_getElem hk, Option.getD_some]
  unfold lastG
  rw [List.filterMap_append]
  cases h : readGraph l[k] <;> simp [h]
theorem isSome_f {α : Type} {o : Option α} (h : o.isSome = false) : o = none := by cases o <;> simp_all
theorem rgR_some {t : ByteArray} (h : (readGraph t).isSome = true) : readGraph t = some (rgR t) := by
  unfold rgR; cases e : readGraph t with
  | none => rw [e] at h; cases h
  | some g => rfl
theorem rp_none {d : Disk} (h : readPart d = none) : rpR d = ⟨0, []⟩ ∧ (readPart d).isSome = false := by unfold rpR; rw [h]; exact ⟨rfl, rfl⟩
theorem rp_some {d : Disk} {g : Graph} (h : readPart d = some g) : rpR d = g ∧ (readPart d).isSome = true := by unfold rpR; rw [h]; exact ⟨rfl, rfl⟩

def lgR (l : List ByteArray) : Graph := (lastG l).getD ⟨0, []⟩
theorem lg_yes {l : List ByteArray} {k : Nat} (hk : k < l.length) (h : (readGraph (l[k]?.getD .empty)).isSome = true) : lgR (l.take (k + 1)) = rgR (l[k]?.getD .empty) ∧ (lastG (l.take (k + 1))).isSome = true := by
  have h1 := lastG_step hk
  rw [rgR_some h] at h1
  unfold lgR; rw [h1]; exact ⟨rfl, rfl⟩
theorem lg_no {l : List ByteArray} {k : Nat} (hk : k < l.length) (h : readGraph (l[k]?.getD .empty) = none) : lgR (l.take (k + 1)) = lgR (l.take k) ∧ (lastG (l.take (k + 1))).isSome = (lastG (l.take k)).isSome := by
  have h1 := lastG_step hk
  rw [h] at h1
  unfold lgR; rw [h1]; exact ⟨rfl, rfl⟩
theorem rp_eq {d : Disk} {l : List ByteArray} (h : recordsOf d (ByteArray.mk #[112, 97, 114, 116]) = l) : rpR d = lgR l ∧ readPart d = lastG l := by unfold rpR lgR readPart; rw [h]; exact ⟨rfl, rfl⟩
theorem rp_nil {d : Disk} (h : diskOk d = false) : readPart d = none := by unfold readPart; rw [recordsOf_no _ h]; rfl
theorem rp_def (d : Disk) : readPart d = lastG (recordsOf d (ByteArray.mk #[112, 97, 114, 116])) := rfl
attribute [local irreducible] unframe recordsOf readGraph fileText readPart rpR rgR
--@ct impl.ReadPart new implReadPart_ct _ $1 | %1 | obtain ⟨b#, c#, rfl, o#⟩ := o#
theorem implReadPart_ct (l : List Value) (d : Disk) : Ct Try.prog 86 [.agg ⟨l⟩] [] (fun H => gDisk.rd H l d) (fun v A => ∃ b c, v = .tuple #[.agg ⟨[.int .i64 (rpR d).size, .slice b (rpR d).edges.length c]⟩, .bool (readPart d).isSome] ∧ (gSl 192 gEdge).ow [.slice b (rpR d).edges.length c] (rpR d).edges A) := by
  refine Ct.intro0 G_ok Try.func86 rfl rfl rfl fun E H hp => ?_
  obtain ⟨b0p, c0p, rfl, h0p⟩ := gDisk_rd.1 hp
  have hln := rec_len d (ByteArray.mk #[112, 97, 114, 116])
  refine VCnew.intro fun x0 => ?_
  refine VCnew.intro fun x1 => ?_
  refine call_new (implRecordsOf_ct _ (d) _) (Rp.mono _ (mem_at 0 rfl) hp) ?_
  rintro v2 A2 o2
  obtain ⟨b2, c2, rfl, o2⟩ := o2
  apply loop_mod (α := (Nat)) G_ok [13, 14, 18, 19, 20, 21, 22, 17, 23, 24, 6, 7, 25, 26, 3, 15, 16, 5] (fun z => [(5, .v (.int .i64 ((z : Int) - 1)))]) (fun z => [{ id := x0, cs := [Value.slice b0p d.files.length c0p], ty := (128 : Nat) }, { id := x1, cs := [Value.int IntKind.i64 (0 : Int), Value.slice none (0 : Nat) (0 : Nat)], ty := (58 : Nat) }]) (fun z => [A2, H]) (fun z => z) (fun z => z ≤ (recordsOf d (ByteArray.mk #[112, 97, 114, 116])).length ∧ ((recordsOf d (ByteArray.mk #[112, 97, 114, 116])).drop z).filterMap readGraph = []) ((recordsOf d (ByteArray.mk #[112, 97, 114, 116])).length)
  · repeat' (first | exact trivial | refine ⟨⟨_, rfl, by first | rfl | exact inc_eq _ (by omega) | (refine sl_eq ?_; simp; done) | exact congrArg (Value.int .i64) (wrap_of (by omega) (by omega)) | exact congrArg (Value.int .i64) ((wrap_of (by omega) (by omega)).trans (by omega)), by first | exact trivial | simp [SV.ok]⟩, ?_⟩)
  · exact ⟨rfl, rfl, trivial⟩
  · exact ⟨Nat.le_refl _, by rw [List.drop_length]; rfl⟩
  · exact .refl _
  rintro k hI
  obtain ⟨hk, hd⟩ : k ≤ (recordsOf d (ByteArray.mk #[112, 97, 114, 116])).length ∧ ((recordsOf d (ByteArray.mk #[112, 97, 114, 116])).drop k).filterMap readGraph = [] := hI
  try dsimp only
  refine VCsplit.intro (fun q3 => ?_) (fun q3 => ?_)
  ·
    simp at q3
    refine idx_rd (Gt.owrd _ o2) ?_ ?_ fun b4 o4 hb4 => ?_
    · omega
    · omega
    refine load_all ByteArray.empty (Gt.owrd _ o2) ?_ ?_ hb4 rfl (mem_at 0 rfl) fun l5 hl5 => ?_
    · omega
    · omega
    obtain ⟨rfl, hw5⟩ := hl5; simp only [flStr, flInt, okI] at hw5
    refine call_new (implReadGraph_ct _ ?_) trivial ?_
    · exact rec_s _ _ _
    rintro v6 A6 o6
    obtain ⟨b6, c6, rfl, o6⟩ := o6
    refine VCnew.intro fun x7 => ?_
    refine VCsplit.intro (fun q8 => ?_) (fun q8 => ?_)
    ·
      simp at q8
      (have h1 := lastG_at (l := recordsOf d (ByteArray.mk #[112, 97, 114, 116])) (k := k - 1) (by omega) (by rw [show k - 1 + 1 = k by omega]; exact hd) (rgR_some ‹_ = true›); have ek : ((k : Int) - 1).toNat = k - 1 := (by omega); rw [← ek, ← rp_def] at h1; obtain ⟨e1, e2⟩ := rp_some h1; rw [e1, e2]; exact ⟨_, ⟨_, _, rfl, by assumption⟩, (.le fun a => by (try simp only [setR, List.cons_append, List.nil_append]); simp [List.count_cons, Blk.ent, idOf]; try omega)⟩)
    ·
      simp at q8
      apply loop_stepA (k - 1)
      · exact .sub (by repeat (first | exact .slnil | apply List.Sublist.cons_cons | apply List.Sublist.cons))
      · repeat' (first | exact trivial | refine ⟨⟨_, rfl, by first | rfl | exact inc_eq _ (by omega) | (refine sl_eq ?_; simp; done) | exact congrArg (Value.int .i64) (wrap_of (by omega) (by omega)) | exact congrArg (Value.int .i64) ((wrap_of (by omega) (by omega)).trans (by omega)), by first | exact trivial | simp [SV.ok]⟩, ?_⟩)
      · exact ⟨rfl, rfl, trivial⟩
      · exact ⟨by omega, drop_none (by omega) (by rw [show k - 1 + 1 = k by omega]; exact hd) ‹readGraph _ = none›⟩
      · omega
  ·
    simp at q3
    (have h1 : readPart d = none := (rp_def d).trans (lastG_nil (by (have hk0 : k = 0 := (by omega); subst hk0; exact hd))); obtain ⟨e1, e2⟩ := rp_none h1; rw [e1, e2]; exact ⟨[], ⟨none, 0, rfl, sl_nil _ _ _⟩, (.le fun a => by (try simp only [setR, List.cons_append, List.nil_append]); simp [List.count_cons, Blk.ent, idOf]; try omega)⟩)

--@ct spec.ReadPart new specReadPart_ct _ $1 | %1 | obtain ⟨b#, c#, rfl, o#⟩ := o#
theorem specReadPart_ct (l : List Value) (d : Disk) : Ct Try.prog 83 [.agg ⟨l⟩] [] (fun H => gDisk.rd H l d) (fun v A => ∃ b c, v = .tuple #[.agg ⟨[.int .i64 (rpR d).size, .slice b (rpR d).edges.length c]⟩, .bool (readPart d).isSome] ∧ (gSl 192 gEdge).ow [.slice b (rpR d).edges.length c] (rpR d).edges A) := by
  refine Ct.intro0 G_ok Try.func83 rfl rfl rfl fun E H hp => ?_
  obtain ⟨b0p, c0p, rfl, h0p⟩ := gDisk_rd.1 hp
  have hln := rec_len d (ByteArray.mk #[112, 97, 114, 116])
  have hlu := unf_len (fileText d (ByteArray.mk #[112, 97, 114, 116]))
  refine VCnew.intro fun x0 => ?_
  refine VCnew.intro fun x1 => ?_
  refine VCnew.intro fun x2 => ?_
  refine call_val (specDiskOk_ct _ (d)) (Rp.mono _ (mem_at 0 rfl) hp) ?_
  rintro _ rfl
  refine VCsplit.intro (fun q4 => ?_) (fun q4 => ?_)
  ·
    simp at q4
    (have h1 := rp_nil ‹diskOk d = false›; obtain ⟨e1, e2⟩ := rp_none h1; rw [e1, e2]; exact ⟨[], ⟨none, 0, rfl, sl_nil _ _ _⟩, (.le fun a => by (try simp only [setR, List.cons_append, List.nil_append]); simp [List.count_cons, Blk.ent, idOf]; try omega)⟩)
  ·
    simp at q4
    refine call_val (specFileAt_ct _ (d) _) (Rp.mono _ (mem_at 0 rfl) hp) ?_
    rintro _ rfl
    refine call_new (specUnframe_ct _ ?_) trivial ?_
    · exact fileText_sz (by assumption) _
    rintro v6 A6 o6
    obtain ⟨b6, c6, rfl, o6⟩ := o6
    apply loop_mod (α := (Nat) × (Hp) × (Option Addr) × (Nat)) G_ok [28, 29, 30, 31, 35, 36, 37, 38, 39, 34, 40, 41, 11, 12, 42, 43, 5, 32, 33, 10] (fun z => [(10, .v (.int .i64 z.1)), (5, .v (.bool (lastG ((unframe (fileText d (ByteArray.mk #[112, 97, 114, 116]))).1.take z.1)).isSome))]) (fun z => [⟨x0, [Value.slice b0p d.files.length c0p], (128 : Nat)⟩, ⟨x1, [Value.int IntKind.i64 (0 : Int), Value.slice none (0 : Nat) (0 : Nat)], (58 : Nat)⟩, ⟨x2, [.int .i64 (lgR ((unframe (fileText d (ByteArray.mk #[112, 97, 114, 116]))).1.take z.1)).size, .slice z.2.2.1 (lgR ((unframe (fileText d (ByteArray.mk #[112, 97, 114, 116]))).1.take z.1)).edges.length z.2.2.2], (58 : Nat)⟩]) (fun z => [z.2.1, A6, H]) (fun z => (unframe (fileText d (ByteArray.mk #[112, 97, 114, 116]))).1.length - z.1) (fun z => z.1 ≤ (unframe (fileText d (ByteArray.mk #[112, 97, 114, 116]))).1.length ∧ (gSl 192 gEdge).ow [.slice z.2.2.1 (lgR ((unframe (fileText d (ByteArray.mk #[112, 97, 114, 116]))).1.take z.1)).edges.length z.2.2.2] (lgR ((unframe (fileText d (ByteArray.mk #[112, 97, 114, 116]))).1.take z.1)).edges z.2.1) ((0, [], none, 0))
    · repeat' (first | exact trivial | refine ⟨⟨_, rfl, by first | rfl | exact inc_eq _ (by omega) | (refine sl_eq ?_; simp; done) | (rw [(lg_yes (by omega) ‹_ = true›).2] <;> rfl) | exact congrArg Value.bool (lg_no (by omega) ‹_ = none›).2.symm | exact congrArg (fun v => SV.v (Value.bool v)) (lg_no (by omega) ‹_ = none›).2.symm, by first | exact trivial | simp [SV.ok]⟩, ?_⟩)
    · exact ⟨rfl, rfl, rfl, trivial⟩
    · try dsimp only
      exact ⟨by omega, sl_nil _ _ _⟩
    · exact .refl _
    rintro ⟨k, A, lb, lc⟩ hI
    obtain ⟨hk, oA⟩ : k ≤ (unframe (fileText d (ByteArray.mk #[112, 97, 114, 116]))).1.length ∧ (gSl 192 gEdge).ow [.slice lb (lgR ((unframe (fileText d (ByteArray.mk #[112, 97, 114, 116]))).1.take k)).edges.length lc] (lgR ((unframe (fileText d (ByteArray.mk #[112, 97, 114, 116]))).1.take k)).edges A := hI
    try dsimp only
    refine VCsplit.intro (fun q7 => ?_) (fun q7 => ?_)
    ·
      simp at q7
      refine idx_rd (Gt.owrd _ o6) ?_ ?_ fun b8 o8 hb8 => ?_
      · omega
      · omega
      refine load_allN ByteArray.empty (k) rfl (Gt.owrd _ o6) ?_ ?_ hb8 rfl (mem_at 1 rfl) fun l9 hl9 => ?_
      · omega
      · omega
      obtain ⟨rfl, hw9⟩ := hl9; simp only [flStr, flInt, okI] at hw9
      refine call_new (specReadGraph_ct _ ?_) trivial ?_
      · exact unf_s _ _
      rintro v10 A10 o10
      obtain ⟨b10, c10, rfl, o10⟩ := o10
      refine VCnew.intro fun x11 => ?_
      refine VCsplit.intro (fun q12 => ?_) (fun q12 => ?_)
      ·
        apply loop_stepA (k + 1, _, _, _)
        · exact .sub (by repeat (first | exact .slnil | apply List.Sublist.cons_cons | apply List.Sublist.cons))
        · repeat' (first | exact trivial | refine ⟨⟨_, rfl, by first | rfl | exact inc_eq _ (by omega) | (refine sl_eq ?_; simp; done) | (rw [(lg_yes (by omega) ‹_ = true›).2] <;> rfl) | exact congrArg Value.bool (lg_no (by omega) ‹_ = none›).2.symm | exact congrArg (fun v => SV.v (Value.bool v)) (lg_no (by omega) ‹_ = none›).2.symm, by first | exact trivial | simp [SV.ok]⟩, ?_⟩)
        · ((rw [(lg_yes (by omega) ‹_ = true›).1]); repeat' (first | exact trivial | refine ⟨by first | rfl | simp [Blk.ent], ?_⟩))
        · try dsimp only
          exact ⟨by omega, by (rw [(lg_yes (by omega) ‹_ = true›).1]; assumption)⟩
        · try dsimp only
          omega
      ·
        simp at q12
        apply loop_stepA (k + 1, A, lb, lc)
        · exact .sub (by repeat (first | exact .slnil | apply List.Sublist.cons_cons | apply List.Sublist.cons))
        · repeat' (first | exact trivial | refine ⟨⟨_, rfl, by first | rfl | exact inc_eq _ (by omega) | (refine sl_eq ?_; simp; done) | (rw [(lg_yes (by omega) ‹_ = true›).2] <;> rfl) | exact congrArg Value.bool (lg_no (by omega) ‹_ = none›).2.symm | exact congrArg (fun v => SV.v (Value.bool v)) (lg_no (by omega) ‹_ = none›).2.symm, by first | exact trivial | simp [SV.ok]⟩, ?_⟩)
        · ((rw [(lg_no (by omega) ‹_ = none›).1]); repeat' (first | exact trivial | refine ⟨by first | rfl | simp [Blk.ent], ?_⟩))
        · try dsimp only
          exact ⟨by omega, by (rw [(lg_no (by omega) ‹_ = none›).1]; assumption)⟩
        · try dsimp only
          omega
    ·
      simp at q7
      (have hke : k = (unframe (fileText d (ByteArray.mk #[112, 97, 114, 116]))).1.length := (by omega); subst hke; rw [List.take_length] at *; obtain ⟨h2, h1⟩ := rp_eq (recordsOf_yes (ByteArray.mk #[112, 97, 114, 116]) ‹diskOk d = true›); rw [h2, h1]; exact ⟨_, ⟨_, _, rfl, oA⟩, (.le fun a => by (try simp only [setR, List.cons_append, List.nil_append]); simp [List.count_cons, Blk.ent, idOf]; try omega)⟩)

end Go.Proofs.Ytcikookachejfaa
