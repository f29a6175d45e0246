/-
  Copies of values, on both sides. Conditions: none.
-/
import Derived.Test.YtohafcffenoegaaGc
import Derived.Test.YtohafcffenoegaaSxZ
namespace Go.Proofs.Ytohafcffenoegaa
open Go.SX Go.Proofs
set_option linter.unusedSimpArgs false
set_option linter.unusedVariables false
set_option maxHeartbeats 4000000
attribute [local irreducible] IntKind.wrap

theorem sl_none {α : Type} {T : TypeId} {g : Gt α} {H : Hp} {xs : List α} {b : Option Addr} {n c : Nat} (h : (gSl T g).rd H [.slice b n c] xs) (hb : b = none) : xs = [] := by
  obtain ⟨base, cap, e, -, h3⟩ := h
  cases xs with
  | nil => rfl
  | cons x xs =>
    obtain ⟨b', o, l', h4, -⟩ := h3 0 (by simp)
    injection e with e; injection e with e
    rw [hb, h4] at e; cases e

--@ct slices.Clone[[]impl.File,impl.File] new cloneFile_ct _ _ _ $1 ?_ | %1 | obtain ⟨b#, c#, rfl, o#⟩ := o#
theorem cloneFile_ct (b : Option Addr) (m c : Nat) (xs : List File) (hx : szL gFile xs ≤ 1048576) :
    Ct Try.prog 37 [.slice b m c] [] (fun H => (gSl 82 gFile).rd H [.slice b m c] xs) (fun v A => ∃ b c, v = .slice b xs.length c ∧ (gSl 82 gFile).ow [.slice b xs.length c] xs A) := by
  refine Ct.intro0 G_ok Try.func37 rfl rfl rfl fun E H hp => ?_
  obtain ⟨rfl, hcl, hl⟩ := sl_len hp
  have hls := len_szL gFile xs
  refine VCsplit.intro (fun q0 => ?_) (fun q0 => ?_)
  ·
    simp at q0
    (obtain rfl := sl_none hp ‹_ = none›; exact ⟨[], ⟨none, 0, rfl, sl_nil _ _ _⟩, (.le fun a => by (try simp only [setR, List.cons_append, List.nil_append]); simp only [List.flatten_append, List.flatten_cons, List.flatten_nil, List.count_append, List.count_nil, List.append_nil, List.nil_append]; omega)⟩)
  ·
    simp at q0
    refine VCnew.intro fun x1 => ?_
    refine append_allN (g := gFile) (T := (82 : TypeId)) G_ok (by repeat (first | exact fl_plain | apply plain_iso | apply plain_pair)) [] [[(x1, Obj.cells { toList := zeros (0 : Nat) [Value.string ByteArray.empty, Value.string ByteArray.empty, Value.int IntKind.i64 (0 : Int)] } (82 : TypeId))], H] 1 ?_ (sl_nil _ _ _) rfl hp rfl rfl rfl rfl rfl rfl rfl rfl ?_ fun b2 c2 A2 o2 => ?_
    · exact .refl _
    · simp; omega
    exact ⟨_, ⟨_, _, rfl, by assumption⟩, (.le fun a => by (try simp only [setR, List.cons_append, List.nil_append]); simp only [List.flatten_append, List.flatten_cons, List.flatten_nil, List.count_append, List.count_nil, List.append_nil, List.nil_append]; omega)⟩

--@ct impl.copyDisk new copyDisk_ct _ $1 ?_ | %1 | obtain ⟨l#, rfl, o#⟩ := o# ;; have r# := Gt.owrd _ o# ;; obtain ⟨b0x#, c0x#, rfl, h0x#⟩ := gDisk_rd.1 r#
theorem copyDisk_ct (l : List Value) (x : Disk) (hx : gDisk.sz x ≤ 1048576) :
    Ct Try.prog 16 [.agg ⟨l⟩] [] (fun H => gDisk.rd H l x) (fun v A => ∃ l, v = .agg ⟨l⟩ ∧ gDisk.ow l x A) := by
  refine Ct.intro0 G_ok Try.func16 rfl rfl rfl fun E H hp => ?_
  obtain ⟨b0, c0, rfl, h0⟩ := gDisk_rd.1 hp
  have hz := gDisk_sz x
  refine VCnew.intro fun x0 => ?_
  refine VCnew.intro fun x1 => ?_
  refine call_new (cloneFile_ct _ _ _ (x.files) ?_) (Rp.mono _ (mem_at 0 rfl) h0) ?_
  · trivial
  rintro v2 A2 o2
  obtain ⟨b2, c2, rfl, o2⟩ := o2
  exact ⟨_, ⟨_, rfl, gDisk_ow.2 ⟨_, _, _, rfl, .refl _, by assumption⟩⟩, (.le fun a => by (try simp only [setR, List.cons_append, List.nil_append]); simp only [List.flatten_append, List.flatten_cons, List.flatten_nil, List.count_append, List.count_nil, List.append_nil, List.nil_append]; omega)⟩

end Go.Proofs.Ytohafcffenoegaa
