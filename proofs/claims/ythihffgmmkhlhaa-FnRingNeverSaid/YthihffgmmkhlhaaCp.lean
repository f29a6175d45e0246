/-
  Copies of rings. Conditions: none.
-/
import Derived.Test.YthihffgmmkhlhaaCr
namespace Go.Proofs.Ythihffgmmkhlhaa
open Go.SX Go.Proofs

theorem cloneInt_ct (base : Option Addr) (m cap : Nat) (xs : List Int) (hx : xs.length ≤ 1048576) :
    Ct Try.prog 73 [.slice base m cap] [] (fun H => (rpSl flInt.rp).rd H [.slice base m cap] xs) (fun v A => Ow flInt 3 v xs A) := by
  refine Ct.intro0 G_ok Try.func73 rfl rfl rfl fun E H hp => ?_
  have hwf := rd_wf hp
  obtain ⟨rfl, hl⟩ := rd_len hp
  refine VCsplit.intro (fun h => ?_) (fun h => ?_)
  · have hxs : xs = [] := by
      obtain ⟨_, _, e, _, h2⟩ := hp
      cases e
      cases xs with
      | nil => rfl
      | cons x r =>
        obtain ⟨_, _, _, h3, _⟩ := h2 0 (by simp)
        subst h3; simp at h
    subst hxs
    exact ⟨[], Ow.nil _ _, .refl _⟩
  · refine VCnew.intro fun b => ?_
    refine append_ow (f := flInt) G_ok 0 rfl (Ow.lit (xs := []) (fun _ h => by cases h) (by simp)) ((rpSl _).mono (mem_at 1 rfl) hp) hwf rfl rfl rfl rfl rfl rfl rfl rfl (by simp; omega) ?_
    intro base' cap' A' ho _
    refine ⟨A', ?_, .refl _⟩
    simpa using ho
theorem cloneBool_ct (base : Option Addr) (m cap : Nat) (xs : List Bool) (hx : xs.length ≤ 1048576) :
    Ct Try.prog 72 [.slice base m cap] [] (fun H => (rpSl flBool.rp).rd H [.slice base m cap] xs) (fun v A => Ow flBool 4 v xs A) := by
  refine Ct.intro0 G_ok Try.func72 rfl rfl rfl fun E H hp => ?_
  have hwf := rd_wf hp
  obtain ⟨rfl, hl⟩ := rd_len hp
  refine VCsplit.intro (fun h => ?_) (fun h => ?_)
  · have hxs : xs = [] := by
      obtain ⟨_, _, e, _, h2⟩ := hp
      cases e
      cases xs with
      | nil => rfl
      | cons x r =>
        obtain ⟨_, _, _, h3, _⟩ := h2 0 (by simp)
        subst h3; simp at h
    subst hxs
    exact ⟨[], Ow.nil _ _, .refl _⟩
  · refine VCnew.intro fun b => ?_
    refine append_ow (f := flBool) G_ok 0 rfl (Ow.lit (xs := []) (fun _ h => by cases h) (by simp)) ((rpSl _).mono (mem_at 1 rfl) hp) hwf rfl rfl rfl rfl rfl rfl rfl rfl (by simp; omega) ?_
    intro base' cap' A' ho _
    refine ⟨A', ?_, .refl _⟩
    simpa using ho
theorem copyRing_ct (v : Value) (r : Ring) (hl : r.cells ≤ 1048576) :
    Ct Try.prog 58 [v] [] (fun H => rdV true rpRing H v r) (fun v A => OwR v r A) := by
  unfold Ring.cells at hl
  refine Ct.intro0 G_ok Try.func58 rfl rfl rfl fun E H hp => ?_
  obtain ⟨_, rfl, b1, b2, b3, b4, c1, c2, c3, c4, rfl, h1, h2, h3, h4, h5, h6⟩ := hp
  refine VCnew.intro fun bb => VCnew.intro fun bb2 => ?_
  refine call_new (cloneBool_ct b1 _ c1 _ (by omega)) ((rpSl flBool.rp).mono (mem_at 0 rfl) h1) ?_
  rintro v1 A1 o1
  obtain ⟨_, _, d1, e1, rfl, _⟩ := id o1
  refine call_new (cloneInt_ct b2 _ c2 _ (by omega)) ((rpSl flInt.rp).mono (mem_at 1 rfl) h2) ?_
  rintro v2 A2 o2
  obtain ⟨_, _, d2, e2, rfl, _⟩ := id o2
  refine call_new (cloneBool_ct b3 _ c3 _ (by omega)) ((rpSl flBool.rp).mono (mem_at 2 rfl) h3) ?_
  rintro v3 A3 o3
  obtain ⟨_, _, d3, e3, rfl, _⟩ := id o3
  refine call_new (cloneInt_ct b4 _ c4 _ (by omega)) ((rpSl flInt.rp).mono (mem_at 3 rfl) h4) ?_
  rintro v4 A4 o4
  obtain ⟨_, _, d4, e4, rfl, _⟩ := id o4
  exact ⟨A1 ++ (A2 ++ (A3 ++ A4)), ⟨_, _, _, _, _, _, _, _, A1, A2, A3, A4, rfl, rfl, o1, o2, o3, o4, h5, h6⟩, .le fun a => by simp [List.count_cons]; omega⟩
theorem l22Copy_ct (v : Value) (r : Ring) (hl : r.cells ≤ 1048576) :
    Ct Try.prog 64 [v] [] (fun H => rdV true rpRing H v r) (fun v A => OwR v r A) := by
  unfold Ring.cells at hl
  refine Ct.intro0 G_ok Try.func64 rfl rfl rfl fun E H hp => ?_
  obtain ⟨_, rfl, b1, b2, b3, b4, c1, c2, c3, c4, rfl, h1, h2, h3, h4, h5, h6⟩ := hp
  refine VCnew.intro fun bb => VCnew.intro fun bb2 => VCnew.intro fun bb3 => VCnew.intro fun x1 => ?_
  refine append_ow (f := flBool) G_ok 0 rfl (Ow.lit (xs := []) (fun _ h => by cases h) (by simp)) ((rpSl _).mono (mem_at 1 rfl) h1) (rd_wf h1) rfl rfl rfl rfl rfl rfl rfl rfl (by simp; omega) ?_
  intro d1 e1 A1 o1 _
  refine VCnew.intro fun x2 => ?_
  refine append_ow (f := flInt) G_ok 0 rfl (Ow.lit (xs := []) (fun _ h => by cases h) (by simp)) ((rpSl _).mono (mem_at 2 rfl) h2) (rd_wf h2) rfl rfl rfl rfl rfl rfl rfl rfl (by simp; omega) ?_
  intro d2 e2 A2 o2 _
  refine VCnew.intro fun x3 => ?_
  refine append_ow (f := flBool) G_ok 0 rfl (Ow.lit (xs := []) (fun _ h => by cases h) (by simp)) ((rpSl _).mono (mem_at 3 rfl) h3) (rd_wf h3) rfl rfl rfl rfl rfl rfl rfl rfl (by simp; omega) ?_
  intro d3 e3 A3 o3 _
  refine VCnew.intro fun x4 => ?_
  refine append_ow (f := flInt) G_ok 0 rfl (Ow.lit (xs := []) (fun _ h => by cases h) (by simp)) ((rpSl _).mono (mem_at 4 rfl) h4) (rd_wf h4) rfl rfl rfl rfl rfl rfl rfl rfl (by simp; omega) ?_
  intro d4 e4 A4 o4 _
  refine ⟨A1 ++ (A2 ++ (A3 ++ A4)), ⟨d1, d2, d3, d4, e1, e2, e3, e4, A1, A2, A3, A4, ?_, rfl, ?_, ?_, ?_, ?_, h5, h6⟩, .le fun a => by simp [setR, List.count_cons]; omega⟩
  · simp [ringCells]
  · simpa using o1
  · simpa using o2
  · simpa using o3
  · simpa using o4
end Go.Proofs.Ythihffgmmkhlhaa
