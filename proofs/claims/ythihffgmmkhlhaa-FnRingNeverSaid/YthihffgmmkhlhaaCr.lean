/-
  Rings: how they lie; the laws' helpers. Conditions: none.
-/
import Derived.Test.YthihffgmmkhlhaaCb
namespace Go.Proofs.Ythihffgmmkhlhaa
open Go.SX Go.Proofs

structure Ring where
  actives : List Bool
  counts : List Int
  blacks : List Bool
  flying : List Int
  held : Int
  num : Int
  black : Bool
  over : Bool
deriving DecidableEq

def ringCells (r : Ring) (b1 b2 b3 b4 : Option Addr) (c1 c2 c3 c4 : Nat) : List Value :=
  [.slice b1 r.actives.length c1, .slice b2 r.counts.length c2, .slice b3 r.blacks.length c3, .slice b4 r.flying.length c4, .int .i64 r.held, .int .i64 r.num, .bool r.black, .bool r.over]

def rpRing : Rp Ring where
  size := 8
  rd H l r := ∃ b1 b2 b3 b4 c1 c2 c3 c4, l = ringCells r b1 b2 b3 b4 c1 c2 c3 c4 ∧ (rpSl flBool.rp).rd H [.slice b1 r.actives.length c1] r.actives ∧ (rpSl flInt.rp).rd H [.slice b2 r.counts.length c2] r.counts ∧
    (rpSl flBool.rp).rd H [.slice b3 r.blacks.length c3] r.blacks ∧ (rpSl flInt.rp).rd H [.slice b4 r.flying.length c4] r.flying ∧ okI r.held ∧ okI r.num
  mono hh h := by
    obtain ⟨b1, b2, b3, b4, c1, c2, c3, c4, h0, h1, h2, h3, h4, h5, h6⟩ := h
    exact ⟨b1, b2, b3, b4, c1, c2, c3, c4, h0, (rpSl flBool.rp).mono hh h1, (rpSl flInt.rp).mono hh h2, (rpSl flBool.rp).mono hh h3, (rpSl flInt.rp).mono hh h4, h5, h6⟩
  len h := by obtain ⟨b1, b2, b3, b4, c1, c2, c3, c4, h0, _⟩ := h; rw [h0]; rfl

theorem szRing_ct (r : Ring) (b1 b2 b3 b4 : Option Addr) (c1 c2 c3 c4 : Nat) (left : Int) (h0 : 0 ≤ left) (h1 : left ≤ 1048576) (hl : r.actives.length ≤ 9223372036854775807 ∧ r.counts.length ≤ 9223372036854775807 ∧ r.blacks.length ≤ 9223372036854775807 ∧ r.flying.length ≤ 9223372036854775807) :
    Ct Try.prog 15 [.agg ⟨ringCells r b1 b2 b3 b4 c1 c2 c3 c4⟩, .int .i64 left] [] (fun _ => True)
      (fun v A => (∃ z : Int, v = .int .i64 z ∧ (z < 0 ∨ (r.actives.length : Int) + r.counts.length + r.blacks.length + r.flying.length ≤ left)) ∧ A = []) := by
  obtain ⟨hl1, hl2, hl3, hl4⟩ := hl
  refine Ct.intro0 G_ok Try.func15 rfl rfl rfl fun E H _ => ?_
  refine VCnew.intro fun bb => ?_
  refine call_val (szBoolS_ct b1 _ c1 left h0 h1 hl1) trivial ?_
  rintro _ rfl
  refine VCsplit.intro (fun h => ?_) (fun h => ?_)
  · exact ⟨[], ⟨⟨_, rfl, .inl (by omega)⟩, rfl⟩, .tl⟩
  have g1 : ¬ left - r.actives.length < 0 := by
    intro e; rw [if_pos e] at h; simp at h
  rw [if_neg g1]
  refine call_val (szIntS_ct b2 _ c2 _ (by omega) (by omega) hl2) trivial ?_
  rintro _ rfl
  refine VCsplit.intro (fun h => ?_) (fun h => ?_)
  · exact ⟨[], ⟨⟨_, rfl, .inl (by omega)⟩, rfl⟩, .tl⟩
  have g2 : ¬ left - r.actives.length - r.counts.length < 0 := by
    intro e; rw [if_pos e] at h; simp at h
  rw [if_neg g2]
  refine call_val (szBoolS_ct b3 _ c3 _ (by omega) (by omega) hl3) trivial ?_
  rintro _ rfl
  refine VCsplit.intro (fun h => ?_) (fun h => ?_)
  · exact ⟨[], ⟨⟨_, rfl, .inl (by omega)⟩, rfl⟩, .tl⟩
  have g3 : ¬ left - r.actives.length - r.counts.length - r.blacks.length < 0 := by
    intro e; rw [if_pos e] at h; simp at h
  rw [if_neg g3]
  refine call_val (szIntS_ct b4 _ c4 _ (by omega) (by omega) hl4) trivial ?_
  rintro _ rfl
  refine VCsplit.intro (fun h => ?_) (fun h => ?_)
  · exact ⟨[], ⟨⟨_, rfl, .inl (by omega)⟩, rfl⟩, .tl⟩
  have g4 : ¬ left - r.actives.length - r.counts.length - r.blacks.length - r.flying.length < 0 := by
    intro e; rw [if_pos e] at h; simp at h
  exact ⟨[], ⟨⟨_, rfl, .inr (by omega)⟩, rfl⟩, .tl⟩

/-- a ring that owns its memory -/
def OwR (v : Value) (r : Ring) (A : Hp) : Prop :=
  ∃ b1 b2 b3 b4 c1 c2 c3 c4 A1 A2 A3 A4, v = .agg ⟨ringCells r b1 b2 b3 b4 c1 c2 c3 c4⟩ ∧ A = A1 ++ (A2 ++ (A3 ++ A4)) ∧
    Ow flBool 4 (.slice b1 r.actives.length c1) r.actives A1 ∧ Ow flInt 3 (.slice b2 r.counts.length c2) r.counts A2 ∧
    Ow flBool 4 (.slice b3 r.blacks.length c3) r.blacks A3 ∧ Ow flInt 3 (.slice b4 r.flying.length c4) r.flying A4 ∧ okI r.held ∧ okI r.num

theorem OwR.rd {v : Value} {r : Ring} {A : Hp} (h : OwR v r A) : rdV true rpRing A v r := by
  obtain ⟨b1, b2, b3, b4, c1, c2, c3, c4, A1, A2, A3, A4, rfl, rfl, h1, h2, h3, h4, h5, h6⟩ := h
  exact ⟨_, rfl, b1, b2, b3, b4, c1, c2, c3, c4, rfl, (rpSl flBool.rp).mono (fun p hp => by simp [hp]) h1.rd, (rpSl flInt.rp).mono (fun p hp => by simp [hp]) h2.rd,
    (rpSl flBool.rp).mono (fun p hp => by simp [hp]) h3.rd, (rpSl flInt.rp).mono (fun p hp => by simp [hp]) h4.rd, h5, h6⟩

theorem rdV_mono {α : Type} {r : Rp α} {agg : Bool} {H H' : Hp} {v : Value} {x : α} (hs : ∀ p ∈ H, p ∈ H') (h : rdV agg r H v x) : rdV agg r H' v x := by
  cases agg with
  | true => obtain ⟨l, h1, h2⟩ := h; exact ⟨l, h1, r.mono hs h2⟩
  | false => exact r.mono hs h

theorem toRing_ct (v : Value) (r : Ring) (hl : (r.actives.length : Int) + r.counts.length + r.blacks.length + r.flying.length ≤ 1048576) :
    Ct Try.prog 17 [v] [] (fun H => rdV true rpRing H v r) (fun v A => OwR v r A) := by
  refine Ct.intro0 G_ok Try.func17 rfl rfl rfl fun E H hp => ?_
  obtain ⟨_, rfl, b1, b2, b3, b4, c1, c2, c3, c4, rfl, h1, h2, h3, h4, h5, h6⟩ := hp
  refine VCnew.intro fun bb => VCnew.intro fun bb2 => VCnew.intro fun bb3 => ?_
  refine call_new (toBoolS_ct b1 _ c1 _ (by omega)) ((rpSl flBool.rp).mono (mem_at 0 rfl) h1) ?_
  rintro v1 A1 o1
  obtain ⟨_, _, d1, e1, rfl, _⟩ := id o1
  refine call_new (toIntS_ct b2 _ c2 _ (by omega)) ((rpSl flInt.rp).mono (mem_at 1 rfl) h2) ?_
  rintro v2 A2 o2
  obtain ⟨_, _, d2, e2, rfl, _⟩ := id o2
  refine call_new (toBoolS_ct b3 _ c3 _ (by omega)) ((rpSl flBool.rp).mono (mem_at 2 rfl) h3) ?_
  rintro v3 A3 o3
  obtain ⟨_, _, d3, e3, rfl, _⟩ := id o3
  refine call_new (toIntS_ct b4 _ c4 _ (by omega)) ((rpSl flInt.rp).mono (mem_at 3 rfl) h4) ?_
  rintro v4 A4 o4
  obtain ⟨_, _, d4, e4, rfl, _⟩ := id o4
  exact ⟨A1 ++ (A2 ++ (A3 ++ A4)), ⟨_, _, _, _, _, _, _, _, A1, A2, A3, A4, rfl, rfl, o1, o2, o3, o4, h5, h6⟩, RLe.tl.trans (.cnt fun a => by simp; omega)⟩

theorem eqRing_ct (v1 v2 : Value) (r s : Ring) :
    Ct Try.prog 19 [v1, v2] [] (fun H => rdV true rpRing H v1 r ∧ rdV true rpRing H v2 s) (fun v A => v = .bool (decide (r = s)) ∧ A = []) := by
  refine Ct.intro0 G_ok Try.func19 rfl rfl rfl fun E H hp => ?_
  obtain ⟨⟨_, rfl, b1, b2, b3, b4, c1, c2, c3, c4, rfl, h1, h2, h3, h4, h5, h6⟩, ⟨_, rfl, d1, d2, d3, d4, e1, e2, e3, e4, rfl, g1, g2, g3, g4, g5, g6⟩⟩ := hp
  obtain ⟨ra, rc, rb, rf, rh, rn, rk, ro⟩ := r
  obtain ⟨sa, sc, sb, sf, sh, sn, sk, so⟩ := s
  dsimp only [] at *
  refine VCnew.intro fun bb => VCnew.intro fun bb2 => ?_
  refine call_val (eqBoolS_ct b1 d1 _ c1 _ e1 _ _) ⟨(rpSl _).mono (mem_at 0 rfl) h1, (rpSl _).mono (mem_at 0 rfl) g1⟩ ?_
  rintro _ rfl
  refine VCsplit.intro (fun h => ?_) (fun h => ?_)
  · exact ⟨[], ⟨by rw [decide_eq_false]; intro e; cases e; simp at h, rfl⟩, .tl⟩
  obtain rfl : ra = sa := by simpa using h
  refine call_val (eqIntS_ct b2 d2 _ c2 _ e2 _ _) ⟨(rpSl _).mono (mem_at 0 rfl) h2, (rpSl _).mono (mem_at 0 rfl) g2⟩ ?_
  rintro _ rfl
  refine VCsplit.intro (fun h => ?_) (fun h => ?_)
  · exact ⟨[], ⟨by rw [decide_eq_false]; intro e; cases e; simp at h, rfl⟩, .tl⟩
  obtain rfl : rc = sc := by simpa using h
  refine call_val (eqBoolS_ct b3 d3 _ c3 _ e3 _ _) ⟨(rpSl _).mono (mem_at 0 rfl) h3, (rpSl _).mono (mem_at 0 rfl) g3⟩ ?_
  rintro _ rfl
  refine VCsplit.intro (fun h => ?_) (fun h => ?_)
  · exact ⟨[], ⟨by rw [decide_eq_false]; intro e; cases e; simp at h, rfl⟩, .tl⟩
  obtain rfl : rb = sb := by simpa using h
  refine call_val (eqIntS_ct b4 d4 _ c4 _ e4 _ _) ⟨(rpSl _).mono (mem_at 0 rfl) h4, (rpSl _).mono (mem_at 0 rfl) g4⟩ ?_
  rintro _ rfl
  refine VCsplit.intro (fun h => ?_) (fun h => ?_)
  · exact ⟨[], ⟨by rw [decide_eq_false]; intro e; cases e; simp at h, rfl⟩, .tl⟩
  obtain rfl : rf = sf := by simpa using h
  refine VCsplit.intro (fun h => ?_) (fun h => ?_)
  · exact ⟨[], ⟨by rw [decide_eq_false]; intro e; cases e; simp at h, rfl⟩, .tl⟩
  obtain rfl : rh = sh := by simpa using h
  refine VCsplit.intro (fun h => ?_) (fun h => ?_)
  · exact ⟨[], ⟨by rw [decide_eq_false]; intro e; cases e; simp at h, rfl⟩, .tl⟩
  obtain rfl : rn = sn := by simpa using h
  refine VCsplit.intro (fun h => ?_) (fun h => ?_)
  · exact ⟨[], ⟨by rw [decide_eq_false]; intro e; cases e; simp at h, rfl⟩, .tl⟩
  obtain rfl : rk = sk := by simpa using h
  refine VCsplit.intro (fun h => ?_) (fun h => ?_)
  · exact ⟨[], ⟨by rw [decide_eq_false]; intro e; cases e; simp at h, rfl⟩, .tl⟩
  obtain rfl : ro = so := by simpa using h
  exact ⟨[], ⟨by rw [decide_eq_true]; rfl, rfl⟩, .tl⟩

def markR (k : Int) (r : Ring) : Ring :=
  ⟨markBool k r.actives.length, markInt (k + r.actives.length) r.counts.length, markBool (k + r.actives.length + r.counts.length) r.blacks.length, markInt (k + r.actives.length + r.counts.length + r.blacks.length) r.flying.length, r.held, r.num, r.black, r.over⟩
def Ring.cells (r : Ring) : Nat := r.actives.length + r.counts.length + r.blacks.length + r.flying.length

theorem markRing_ct (v : Value) (r : Ring) (A : Hp) (k : Int) (ho : OwR v r A) (hk0 : 0 ≤ k) (hk : k ≤ 4294967296) (hm : r.cells ≤ 1073741824) :
    Ct Try.prog 32 [v, .int .i64 k] A (fun _ => True) (fun w A' => w = .int .i64 (k + r.cells) ∧ OwR v (markR k r) A') := by
  obtain ⟨b1, b2, b3, b4, c1, c2, c3, c4, A1, A2, A3, A4, rfl, rfl, o1, o2, o3, o4, h5, h6⟩ := ho
  unfold Ring.cells at hm
  refine Ct.introL G_ok [A1, A2, A3, A4] Try.func32 rfl rfl rfl (by simp) fun E H _ => ?_
  refine VCnew.intro fun bb => ?_
  refine call_at 0 rfl (markBoolS_ct b1 _ c1 _ A1 k o1 (by omega) (by omega) (by omega)) (fun _ _ _ => trivial) ?_
  rintro _ A1' ⟨rfl, p1⟩
  refine call_at 1 rfl (markIntS_ct b2 _ c2 _ A2 _ o2 (by omega) (by omega) (by omega)) (fun _ _ _ => trivial) ?_
  rintro _ A2' ⟨rfl, p2⟩
  refine call_at 2 rfl (markBoolS_ct b3 _ c3 _ A3 _ o3 (by omega) (by omega) (by omega)) (fun _ _ _ => trivial) ?_
  rintro _ A3' ⟨rfl, p3⟩
  refine call_at 3 rfl (markIntS_ct b4 _ c4 _ A4 _ o4 (by omega) (by omega) (by omega)) (fun _ _ _ => trivial) ?_
  rintro _ A4' ⟨rfl, p4⟩
  refine ⟨A1' ++ (A2' ++ (A3' ++ A4')), ⟨?_, b1, b2, b3, b4, c1, c2, c3, c4, _, _, _, _, ?_, rfl, ?_, ?_, ?_, ?_, h5, h6⟩, RLe.tl.trans (.cnt fun a => by simp [setR])⟩
  · simp [Ring.cells, Int.add_assoc]
  · simp [ringCells, markR, markBool_len, markInt_len]
  · simpa [markR, markBool_len, markInt_len] using p1
  · simpa [markR, markBool_len, markInt_len] using p2
  · simpa [markR, markBool_len, markInt_len] using p3
  · simpa [markR, markBool_len, markInt_len] using p4

theorem heldRing_ct (v : Value) (r : Ring) (k : Int) (hk0 : 0 ≤ k) (hk : k ≤ 4294967296) (hm : r.cells ≤ 1073741824) :
    Ct Try.prog 33 [v, .int .i64 k] [] (fun H => rdV true rpRing H v (markR k r)) (fun w A' => w = .int .i64 (k + r.cells) ∧ A' = []) := by
  unfold Ring.cells at hm
  refine Ct.intro0 G_ok Try.func33 rfl rfl rfl fun E H hp => ?_
  obtain ⟨_, rfl, b1, b2, b3, b4, c1, c2, c3, c4, e, h1, h2, h3, h4, h5, h6⟩ := hp
  simp only [ringCells, markR, markBool_len, markInt_len] at e h1 h2 h3 h4
  subst e
  refine VCnew.intro fun bb => ?_
  refine call_val (heldBoolS_ct b1 _ c1 _ (by omega) (by omega) (by omega)) ((rpSl _).mono (mem_at 0 rfl) h1) ?_
  rintro _ rfl
  refine VCsplit.intro (fun h => ?_) (fun h => ?_)
  · simp at h; omega
  refine call_val (heldIntS_ct b2 _ c2 _ (by omega) (by omega) (by omega)) ((rpSl _).mono (mem_at 0 rfl) h2) ?_
  rintro _ rfl
  refine VCsplit.intro (fun h => ?_) (fun h => ?_)
  · simp at h; omega
  refine call_val (heldBoolS_ct b3 _ c3 _ (by omega) (by omega) (by omega)) ((rpSl _).mono (mem_at 0 rfl) h3) ?_
  rintro _ rfl
  refine VCsplit.intro (fun h => ?_) (fun h => ?_)
  · simp at h; omega
  refine call_val (heldIntS_ct b4 _ c4 _ (by omega) (by omega) (by omega)) ((rpSl _).mono (mem_at 0 rfl) h4) ?_
  rintro _ rfl
  refine VCsplit.intro (fun h => ?_) (fun h => ?_)
  · simp at h; omega
  exact ⟨[], ⟨by simp [Ring.cells, Int.add_assoc], rfl⟩, .tl⟩
end Go.Proofs.Ythihffgmmkhlhaa
