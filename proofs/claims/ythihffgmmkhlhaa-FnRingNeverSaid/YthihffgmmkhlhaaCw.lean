/-
  A step of a ring: the program's. Conditions: none.
-/
import Derived.Test.YthihffgmmkhlhaaCu
namespace Go.Proofs.Ythihffgmmkhlhaa
open Go.SX Go.Proofs

def ringStep (r : Ring) (t : Turn) : Ring × Bool :=
  if ringOk r = true ∧ r.over = false ∧ turnOk r t = true ∧ ringOk (turnT r t) = true then (turnT r t, true) else (r, false)

theorem implRingStep_ct (v : Value) (r : Ring) (t : Turn) (hl : r.cells ≤ 1048576) (ht : okI t.to) :
    Ct Try.prog 31 [v, .agg ⟨turnCells t⟩] [] (fun H => rdV true rpRing H v r)
      (fun v A => ∃ v', v = .tuple #[v', .bool (ringStep r t).2] ∧ OwR v' (ringStep r t).1 A) := by
  refine Ct.intro0 G_ok Try.func31 rfl rfl rfl fun E H hp => ?_
  have hp0 := hp
  obtain ⟨_, rfl, b1, b2, b3, b4, c1, c2, c3, c4, rfl, h1, h2, h3, h4, h5, h6⟩ := hp
  refine VCnew.intro fun bb => ?_
  refine VCnew.intro fun bz => VCnew.intro fun by' => ?_
  refine call_new (copyRing_ct _ r hl) (rdV_mono (mem_at 0 rfl) hp0) ?_
  rintro v1 A1 o1
  obtain ⟨d1, d2, d3, d4, k1, k2, k3, k4, B1, B2, B3, B4, rfl, hA1, _⟩ := id o1
  refine VCnew.intro fun bx => ?_
  refine call_val (implRingOk_ct _ r) (rdV_mono (mem_at 1 rfl) hp0) ?_
  rintro _ rfl
  refine VCsplit.intro (fun q1 => ?_) (fun q1 => ?_)
  · have hs : ringStep r t = (r, false) := by rw [ringStep, if_neg (by simp at q1; simp [q1])]
    rw [hs]
    exact ⟨_, ⟨_, rfl, o1⟩, .tl⟩
  have q1 : ringOk r = true := by simpa using q1
  refine VCsplit.intro (fun q2 => ?_) (fun q2 => ?_)
  · have hs : ringStep r t = (r, false) := by rw [ringStep, if_neg (by simp [q2])]
    rw [hs]
    exact ⟨_, ⟨_, rfl, o1⟩, .tl⟩
  refine call_gen (A0 := (bx, Obj.cells ⟨ringCells r d1 d2 d3 d4 k1 k2 k3 k4⟩ 34) :: A1) ((bb, Obj.cells ⟨ringCells r b1 b2 b3 b4 c1 c2 c3 c4⟩ 34) :: (bz, Obj.cells ⟨turnCells t⟩ 43) :: (by', Obj.cells ⟨ringCells ⟨[], [], [], [], 0, 0, false, false⟩ none none none none 0 0 0 0⟩ 34) :: H)
    (turn_ct bx _ _ r t o1 q1 ht) (.le fun a => by simp [List.count_cons, St.hall, Blk.ent, ringCells]; omega) trivial ?_
  intro v A hv
  by_cases q3 : turnOk r t = true
  · rw [if_pos q3] at hv
    obtain ⟨rfl, l', A', hA, rfl⟩ := hv
    obtain ⟨f1, f2, f3, f4, m1, m2, m3, m4, C1, C2, C3, C4, el, hA', _⟩ := id hA
    cases el
    refine ⟨[⟨bb, _, 34⟩, ⟨bz, _, 43⟩, ⟨by', _, 34⟩, ⟨bx, ringCells (turnT r t) f1 f2 f3 f4 m1 m2 m3 m4, 34⟩], [A', H], rfl, .le fun a => by simp [List.count_cons, St.hall, Blk.ent, ringCells]; omega, ?_⟩
    refine VCsplit.intro (fun q4 => ?_) (fun _ => ?_)
    · simp at q4
    refine call_val (implRingOk_ct _ (turnT r t)) (rdV_mono (mem_at 0 rfl) hA.rd) ?_
    rintro _ rfl
    refine VCsplit.intro (fun q5 => ?_) (fun q5 => ?_)
    · have hs : ringStep r t = (r, false) := by rw [ringStep, if_neg (by simp at q5; simp [q5])]
      refine call_new (copyRing_ct _ r hl) (rdV_mono (mem_at 1 rfl) hp0) ?_
      rintro v1 A2 o2
      obtain ⟨_, _, _, _, _, _, _, _, _, _, _, _, rfl, _⟩ := id o2
      rw [hs]
      exact ⟨_, ⟨_, rfl, o2⟩, .le fun a => by simp [List.count_cons]; omega⟩
    · have hs : ringStep r t = (turnT r t, true) := by rw [ringStep, if_pos (by simp at q5; simp [q1, q2, q3, q5])]
      rw [hs]
      exact ⟨_, ⟨_, rfl, hA⟩, .tl⟩
  · rw [if_neg q3] at hv
    obtain ⟨rfl, l', A', hA, rfl⟩ := hv
    obtain ⟨f1, f2, f3, f4, m1, m2, m3, m4, C1, C2, C3, C4, el, hA', _⟩ := id hA
    cases el
    refine ⟨[⟨bb, _, 34⟩, ⟨bz, _, 43⟩, ⟨by', _, 34⟩, ⟨bx, ringCells r f1 f2 f3 f4 m1 m2 m3 m4, 34⟩], [A', H], rfl, .le fun a => by simp [List.count_cons, St.hall, Blk.ent, ringCells]; omega, ?_⟩
    refine VCsplit.intro (fun _ => ?_) (fun q4 => ?_)
    · have hs : ringStep r t = (r, false) := by rw [ringStep, if_neg (by simp [q3])]
      refine call_new (copyRing_ct _ r hl) (rdV_mono (mem_at 1 rfl) hp0) ?_
      rintro v1 A2 o2
      obtain ⟨_, _, _, _, _, _, _, _, _, _, _, _, rfl, _⟩ := id o2
      rw [hs]
      exact ⟨_, ⟨_, rfl, o2⟩, .le fun a => by simp [List.count_cons]; omega⟩
    · simp at q4
end Go.Proofs.Ythihffgmmkhlhaa
