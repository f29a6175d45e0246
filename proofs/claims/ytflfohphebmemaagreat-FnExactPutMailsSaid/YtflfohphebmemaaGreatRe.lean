/-
  Walks and letters that are right. Conditions: none.
-/
import Derived.Test.YtflfohphebmemaaGreatRd
namespace Go.Proofs.YtflfohphebmemaaGreat
open Go.SX Go.Proofs
set_option linter.unusedSimpArgs false
set_option linter.unusedVariables false
set_option maxHeartbeats 4000000
attribute [local irreducible] IntKind.wrap

--@ct impl.WalkOk val implWalkOk_ct _ $1 | %1
--@ct spec.WalkOk val specWalkOk_ct _ $1 | %1
def walkM (w : Walk) : Bool := inR 0 3 w.atom && (inR 0 11 w.src && (inR 0 11 w.at' && inR 0 23 w.state))
theorem implWalkOk_ct (l : List Value) (w : Walk) : Ct Tryz.prog 273 [.agg ⟨l⟩] [] (fun H => gWalk.rd H l w) (fun v A => v = .bool (walkM w) ∧ A = []) := by
  refine Ct.intro0 G_ok Tryz.func273 rfl rfl rfl fun E H hp => ?_
  obtain ⟨rfl, w0p, w1p, w2p, w3p⟩ := gWalk_rd.1 hp
  refine VCnew.intro fun x0 => ?_
  refine VCsplit.intro (fun q1 => ?_) (fun q1 => ?_)
  ·
    simp at q1
    exact ⟨[], ⟨congrArg Value.bool (by unfold walkM; rw [Bool.eq_iff_iff]; simp only [Bool.and_eq_true, inR_iff, decide_eq_true_iff]; first | omega | (simp; omega)), rfl⟩, (.le fun a => by (try simp only [setR, List.cons_append, List.nil_append]); simp [List.count_cons, Blk.ent, idOf]; try omega)⟩
  ·
    simp at q1
    refine VCsplit.intro (fun q2 => ?_) (fun q2 => ?_)
    ·
      simp at q2
      exact ⟨[], ⟨congrArg Value.bool (by unfold walkM; rw [Bool.eq_iff_iff]; simp only [Bool.and_eq_true, inR_iff, decide_eq_true_iff]; first | omega | (simp; omega)), rfl⟩, (.le fun a => by (try simp only [setR, List.cons_append, List.nil_append]); simp [List.count_cons, Blk.ent, idOf]; try omega)⟩
    ·
      simp at q2
      refine VCsplit.intro (fun q3 => ?_) (fun q3 => ?_)
      ·
        simp at q3
        exact ⟨[], ⟨congrArg Value.bool (by unfold walkM; rw [Bool.eq_iff_iff]; simp only [Bool.and_eq_true, inR_iff, decide_eq_true_iff]; first | omega | (simp; omega)), rfl⟩, (.le fun a => by (try simp only [setR, List.cons_append, List.nil_append]); simp [List.count_cons, Blk.ent, idOf]; try omega)⟩
      ·
        simp at q3
        refine VCsplit.intro (fun q4 => ?_) (fun q4 => ?_)
        ·
          simp at q4
          exact ⟨[], ⟨congrArg Value.bool (by unfold walkM; rw [Bool.eq_iff_iff]; simp only [Bool.and_eq_true, inR_iff, decide_eq_true_iff]; first | omega | (simp; omega)), rfl⟩, (.le fun a => by (try simp only [setR, List.cons_append, List.nil_append]); simp [List.count_cons, Blk.ent, idOf]; try omega)⟩
        ·
          simp at q4
          refine VCsplit.intro (fun q5 => ?_) (fun q5 => ?_)
          ·
            simp at q5
            refine VCsplit.intro (fun q6 => ?_) (fun q6 => ?_)
            ·
              simp at q6
              refine VCsplit.intro (fun q7 => ?_) (fun q7 => ?_)
              ·
                simp at q7
                exact ⟨[], ⟨congrArg Value.bool (by unfold walkM; rw [Bool.eq_iff_iff]; simp only [Bool.and_eq_true, inR_iff, decide_eq_true_iff]; first | omega | (simp; omega)), rfl⟩, (.le fun a => by (try simp only [setR, List.cons_append, List.nil_append]); simp [List.count_cons, Blk.ent, idOf]; try omega)⟩
              ·
                simp at q7
                exact ⟨[], ⟨congrArg Value.bool (by unfold walkM; rw [Bool.eq_iff_iff]; simp only [Bool.and_eq_true, inR_iff, decide_eq_true_iff]; first | omega | (simp; omega)), rfl⟩, (.le fun a => by (try simp only [setR, List.cons_append, List.nil_append]); simp [List.count_cons, Blk.ent, idOf]; try omega)⟩
            ·
              simp at q6
              exact ⟨[], ⟨congrArg Value.bool (by unfold walkM; rw [Bool.eq_iff_iff]; simp only [Bool.and_eq_true, inR_iff, decide_eq_true_iff]; first | omega | (simp; omega)), rfl⟩, (.le fun a => by (try simp only [setR, List.cons_append, List.nil_append]); simp [List.count_cons, Blk.ent, idOf]; try omega)⟩
          ·
            simp at q5
            exact ⟨[], ⟨congrArg Value.bool (by unfold walkM; rw [Bool.eq_iff_iff]; simp only [Bool.and_eq_true, inR_iff, decide_eq_true_iff]; first | omega | (simp; omega)), rfl⟩, (.le fun a => by (try simp only [setR, List.cons_append, List.nil_append]); simp [List.count_cons, Blk.ent, idOf]; try omega)⟩

theorem specWalkOk_ct (l : List Value) (w : Walk) : Ct Tryz.prog 240 [.agg ⟨l⟩] [] (fun H => gWalk.rd H l w) (fun v A => v = .bool (walkM w) ∧ A = []) := by
  refine Ct.intro0 G_ok Tryz.func240 rfl rfl rfl fun E H hp => ?_
  obtain ⟨rfl, w0p, w1p, w2p, w3p⟩ := gWalk_rd.1 hp
  refine VCnew.intro fun x0 => ?_
  refine call_val (l01In_ct _ _ _) trivial ?_
  rintro _ rfl
  refine VCsplit.intro (fun q2 => ?_) (fun q2 => ?_)
  ·
    have iq2 := inR_iff.1 q2
    refine call_val (l01In_ct _ _ _) trivial ?_
    rintro _ rfl
    refine VCsplit.intro (fun q4 => ?_) (fun q4 => ?_)
    ·
      have iq4 := inR_iff.1 q4
      refine call_val (l01In_ct _ _ _) trivial ?_
      rintro _ rfl
      refine VCsplit.intro (fun q6 => ?_) (fun q6 => ?_)
      ·
        have iq6 := inR_iff.1 q6
        refine call_val (l01In_ct _ _ _) trivial ?_
        rintro _ rfl
        exact ⟨[], ⟨congrArg Value.bool (by unfold walkM; rw [Bool.eq_iff_iff]; simp only [Bool.and_eq_true, inR_iff, decide_eq_true_iff]; first | omega | (simp; omega)), rfl⟩, (.le fun a => by (try simp only [setR, List.cons_append, List.nil_append]); simp [List.count_cons, Blk.ent, idOf]; try omega)⟩
      ·
        have iq6 := mt inR_iff.2 (Bool.eq_false_iff.1 q6)
        exact ⟨[], ⟨congrArg Value.bool (by unfold walkM; rw [Bool.eq_iff_iff]; simp only [Bool.and_eq_true, inR_iff, decide_eq_true_iff]; first | omega | (simp; omega)), rfl⟩, (.le fun a => by (try simp only [setR, List.cons_append, List.nil_append]); simp [List.count_cons, Blk.ent, idOf]; try omega)⟩
    ·
      have iq4 := mt inR_iff.2 (Bool.eq_false_iff.1 q4)
      exact ⟨[], ⟨congrArg Value.bool (by unfold walkM; rw [Bool.eq_iff_iff]; simp only [Bool.and_eq_true, inR_iff, decide_eq_true_iff]; first | omega | (simp; omega)), rfl⟩, (.le fun a => by (try simp only [setR, List.cons_append, List.nil_append]); simp [List.count_cons, Blk.ent, idOf]; try omega)⟩
  ·
    have iq2 := mt inR_iff.2 (Bool.eq_false_iff.1 q2)
    exact ⟨[], ⟨congrArg Value.bool (by unfold walkM; rw [Bool.eq_iff_iff]; simp only [Bool.and_eq_true, inR_iff, decide_eq_true_iff]; first | omega | (simp; omega)), rfl⟩, (.le fun a => by (try simp only [setR, List.cons_append, List.nil_append]); simp [List.count_cons, Blk.ent, idOf]; try omega)⟩

def walksK (ws : List Walk) (k : Nat) : Bool := allK (fun i => walkM (ws[i]?.getD default)) k
def walksM (ws : List Walk) : Bool := walksK ws ws.length && (decide (1 ≤ ws.length) && decide (ws.length ≤ 60))
theorem walks_no {ws : List Walk} {k : Nat} (hk : k < ws.length) (h : walkM (ws[k]?.getD default) = false) : walksM ws = false := by
  unfold walksM walksK
  rw [allK_no (p := fun i => walkM (ws[i]?.getD default)) (k := k) h _ hk]; rfl
--@ct impl.walksOk val walksOk_ct _ _ _ $1 | %1
theorem walksOk_ct (b : Option Addr) (m c : Nat) (ws : List Walk) : Ct Tryz.prog 244 [.slice b m c] [] (fun H => (gSl 200 gWalk).rd H [.slice b m c] ws) (fun v A => v = .bool (walksM ws) ∧ A = []) := by
  refine Ct.intro0 G_ok Tryz.func244 rfl rfl rfl fun E H hp => ?_
  obtain ⟨rfl, hcl, hl⟩ := sl_len hp
  apply loop_mod (α := (Nat)) G_ok [8, 9, 10, 4, 11, 12, 13, 2, 14, 7] (fun z => [(7, .v (.int .i64 z))]) (fun z => []) (fun z => [H]) (fun z => ws.length - z) (fun z => z ≤ ws.length ∧ walksK ws z = true) ((0))
  · repeat' (first | exact trivial | refine ⟨⟨_, rfl, by first | rfl | exact inc_eq _ (by omega) | (refine sl_eq ?_; simp; done), by first | exact trivial | simp [SV.ok]⟩, ?_⟩)
  · exact trivial
  · exact ⟨by omega, rfl⟩
  · exact .refl _
  rintro k hI
  obtain ⟨hk, ha⟩ : k ≤ ws.length ∧ walksK ws k = true := hI
  try dsimp only
  refine VCsplit.intro (fun q0 => ?_) (fun q0 => ?_)
  ·
    simp at q0
    refine idx_rd hp ?_ ?_ fun b1 o1 hb1 => ?_
    · omega
    · omega
    refine load_allN default (k) rfl hp ?_ ?_ hb1 rfl (mem_at 0 rfl) fun l2 hl2 => ?_
    · omega
    · omega
    obtain ⟨rfl, w0x2, w1x2, w2x2, w3x2⟩ := gWalk_rd.1 hl2
    refine VCnew.intro fun x3 => ?_
    refine call_val (implWalkOk_ct _ (ws[k]?.getD default)) (Rp.mono _ (mem_at 0 rfl) hl2) ?_
    rintro _ rfl
    refine VCsplit.intro (fun q5 => ?_) (fun q5 => ?_)
    ·
      simp at q5
      exact ⟨[], ⟨by rw [walks_no (k := k) (by omega) (by assumption)], rfl⟩, (.le fun a => by (try simp only [setR, List.cons_append, List.nil_append]); simp [List.count_cons, Blk.ent, idOf]; try omega)⟩
    ·
      simp at q5
      apply loop_stepA (k + 1)
      · exact .refl _
      · repeat' (first | exact trivial | refine ⟨⟨_, rfl, by first | rfl | exact inc_eq _ (by omega) | (refine sl_eq ?_; simp; done), by first | exact trivial | simp [SV.ok]⟩, ?_⟩)
      · exact trivial
      · exact ⟨by omega, allK_step ha (by assumption)⟩
      · omega
  ·
    simp at q0
    refine VCsplit.intro (fun q6 => ?_) (fun q6 => ?_)
    ·
      simp at q6
      (have hke : k = ws.length := (by omega); subst hke; exact ⟨[], ⟨congrArg Value.bool (by unfold walksM; rw [ha, Bool.true_and, Bool.eq_iff_iff]; simp; omega), rfl⟩, (.le fun a => by (try simp only [setR, List.cons_append, List.nil_append]); simp [List.count_cons, Blk.ent, idOf]; try omega)⟩)
    ·
      simp at q6
      (have hke : k = ws.length := (by omega); subst hke; exact ⟨[], ⟨congrArg Value.bool (by unfold walksM; rw [ha, Bool.true_and, Bool.eq_iff_iff]; simp; omega), rfl⟩, (.le fun a => by (try simp only [setR, List.cons_append, List.nil_append]); simp [List.count_cons, Blk.ent, idOf]; try omega)⟩)

--@ct impl.isBagText val isBagText_ct _ ?_
theorem isBagText_ct (t : ByteArray) (ht : t.size ≤ 4194304) : Ct Tryz.prog 245 [.string t] [] (fun _ => True) (fun v A => v = .bool (rbOk t && decide (t.size ≤ 6000)) ∧ A = []) := by
  refine Ct.intro0 G_ok Tryz.func245 rfl rfl rfl fun E H hp => ?_
  refine call_new (implReadBag_ct _ ?_) trivial ?_
  · trivial
  rintro v0 A0 o0
  obtain ⟨l0, rfl, o0⟩ := o0
  have r0 := Gt.owrd _ o0
  obtain ⟨b0x0, c0x0, rfl, h0x0⟩ := gBag_rd.1 r0
  refine VCnew.intro fun x1 => ?_
  refine VCsplit.intro (fun q2 => ?_) (fun q2 => ?_)
  ·
    exact ⟨[], ⟨congrArg Value.bool (by rw [show rbOk t = true by simp_all, Bool.true_and, Bool.eq_iff_iff]; simp; omega), rfl⟩, (.le fun a => by (try simp only [setR, List.cons_append, List.nil_append]); simp only [List.flatten_append, List.flatten_cons, List.flatten_nil, List.count_append, List.count_nil, List.append_nil, List.nil_append]; omega)⟩
  ·
    exact ⟨[], ⟨by rw [show rbOk t = false by simp_all]; rfl, rfl⟩, (.le fun a => by (try simp only [setR, List.cons_append, List.nil_append]); simp only [List.flatten_append, List.flatten_cons, List.flatten_nil, List.count_append, List.count_nil, List.append_nil, List.nil_append]; omega)⟩

end Go.Proofs.YtflfohphebmemaaGreat
