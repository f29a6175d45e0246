/-
  A run of a ring, on both sides. Conditions: none.
-/
import Derived.Test.YthihffgmmkhlhaaDe
import Derived.Test.YthihffgmmkhlhaaDg
import Derived.Test.YthihffgmmkhlhaaDi
namespace Go.Proofs.Ythihffgmmkhlhaa
open Go.SX Go.Proofs
set_option linter.unusedSimpArgs false
set_option linter.unusedVariables false
set_option maxHeartbeats 4000000

instance : Inhabited Turn := ⟨⟨0, 0, 0⟩⟩
def runF (p : Ring × List Int) (t : Turn) : Ring × List Int := ((ringStep p.1 t).1, p.2 ++ [if (ringStep p.1 t).2 = true then 0 else 1])
theorem runF_no {p : Ring × List Int} {t : Turn} (h : (ringStep p.1 t).2 = false) : runF p t = ((ringStep p.1 t).1, p.2 ++ [1]) := by simp [runF, h]
theorem runF_yes {p : Ring × List Int} {t : Turn} (h : (ringStep p.1 t).2 = true) : runF p t = ((ringStep p.1 t).1, p.2 ++ [0]) := by simp [runF, h]
def runN (r : Ring) (ts : List Turn) : Ring × List Int := ts.foldl runF (r, [])
def runOk (n : Int) (ts : List Turn) : Bool := inR 1 8 n && decide (ts.length ≤ 120)
def runRing (n : Int) (ts : List Turn) : Ring × List Int := if runOk n ts = true then runN (ringNew n.toNat) ts else (ring0, [])
theorem runN_step (r : Ring) (ts : List Turn) (k : Nat) (z : Turn) (h : k < ts.length) : runN r (ts.take (k + 1)) = runF (runN r (ts.take k)) (ts[k]?.getD z) := by
  unfold runN; rw [← List.take_append_getElem h, List.foldl_append, List.getElem?_eq_getElem h]; rfl
theorem runN_len (r : Ring) (ts : List Turn) : (runN r ts).2.length = ts.length := by
  have : ∀ (ts : List Turn) (p : Ring × List Int), (ts.foldl runF p).2.length = p.2.length + ts.length := by
    intro ts
    induction ts with
    | nil => intro p; simp
    | cons t r ih => intro p; rw [List.foldl_cons, ih]; simp [runF]; omega
  rw [runN, this]; simp
theorem runN_cells (r : Ring) (h : r.cells ≤ 1048576) (ts : List Turn) : (runN r ts).1.cells ≤ 1048576 := by
  have : ∀ (ts : List Turn) (p : Ring × List Int), p.1.cells ≤ 1048576 → (ts.foldl runF p).1.cells ≤ 1048576 := by
    intro ts
    induction ts with
    | nil => intro p h; exact h
    | cons t r ih => intro p h; rw [List.foldl_cons]; exact ih _ (step_cells _ _ h)
  exact this ts _ h
theorem runN_codes (r : Ring) (ts : List Turn) : ∀ x ∈ (runN r ts).2, x = 0 ∨ x = 1 := by
  have : ∀ (ts : List Turn) (p : Ring × List Int), (∀ x ∈ p.2, x = 0 ∨ x = 1) → ∀ x ∈ (ts.foldl runF p).2, x = 0 ∨ x = 1 := by
    intro ts
    induction ts with
    | nil => intro p h; exact h
    | cons t r ih =>
      intro p h; rw [List.foldl_cons]
      refine ih _ fun x hx => ?_
      simp only [runF, List.mem_append, List.mem_singleton] at hx
      rcases hx with hx | hx
      · exact h x hx
      · split at hx <;> simp [hx]
  exact this ts _ (by simp)
theorem ringNew_cells (n : Nat) (h : n ≤ 8) : (ringNew n).cells ≤ 1048576 := by unfold Ring.cells ringNew; simp; omega

--@ct impl.RingStep new implRingStep_ct _ $1 _ ?_ ?_ | %1 | obtain ⟨rv#, rfl, or#⟩ := o# ;; obtain ⟨d1#, d2#, d3#, d4#, g1#, g2#, g3#, g4#, B1#, B2#, B3#, B4#, rfl, -⟩ := id or#
--@ct spec.RingStep new specRingStep_ct _ $1 _ ?_ ?_ | %1 | obtain ⟨rv#, rfl, or#⟩ := o# ;; obtain ⟨d1#, d2#, d3#, d4#, g1#, g2#, g3#, g4#, B1#, B2#, B3#, B4#, rfl, -⟩ := id or#
--@ct impl.RunRing newp implRunRing_ct _ _ _ _ $2 | %2 | obtain ⟨rv#, cb#, cc#, Aa#, Ab#, rfl, hp#, or#, oc#⟩ := o# ;; refine ⟨[Aa#, Ab#], by simpa using hp#, ?_⟩ ;; replace oc# := fl_ow oc# ;; obtain ⟨d1#, d2#, d3#, d4#, g1#, g2#, g3#, g4#, B1#, B2#, B3#, B4#, rfl, -⟩ := id or#
theorem implRunRing_ct (n : Int) (b : Option Addr) (m c : Nat) (ts : List Turn) :
    Ct Try.prog 22 [.int .i64 n, .slice b m c] [] (fun H => (rpSl flTurn.rp).rd H [.slice b m c] ts)
      (fun v A => ∃ v' cb cc A1 A2, v = .tuple #[v', .slice cb (runRing n ts).2.length cc, .bool (runOk n ts)] ∧ A.Perm (A1 ++ A2) ∧ OwR v' (runRing n ts).1 A1 ∧ (gSl 3 gI).ow [.slice cb (runRing n ts).2.length cc] (runRing n ts).2 A2) := by
  refine Ct.intro0 G_ok Try.func22 rfl rfl rfl fun E H hp => ?_
  obtain ⟨rfl, hl⟩ := rd_len hp
  refine VCnew.intro fun x0 => ?_
  refine call_new (implRingNew_ct _) trivial ?_
  rintro v1 A1 o1
  obtain ⟨rv1, rfl, or1⟩ := o1
  obtain ⟨d11, d21, d31, d41, g11, g21, g31, g41, B11, B21, B31, B41, rfl, -⟩ := id or1
  refine VCnew.intro fun x2 => ?_
  refine VCsplit.intro (fun q3 => ?_) (fun q3 => ?_)
  ·
    simp at q3
    have hok : runOk n ts = false := by simp [runOk, *]
    exact ⟨[], ⟨.agg ⟨ringCells ring0 none none none none 0 0 0 0⟩, none, 0, [], [], by rw [runRing, hok]; rfl, .refl _, by rw [runRing, hok]; exact own0, by rw [runRing, hok]; exact sl_nil _ _ _⟩, (.le fun a => by (try simp only [setR, List.cons_append, List.nil_append]); simp only [List.flatten_append, List.flatten_cons, List.flatten_nil, List.count_append, List.count_nil, List.append_nil, List.nil_append]; omega)⟩
  ·
    simp at q3
    refine VCsplit.intro (fun q4 => ?_) (fun q4 => ?_)
    ·
      simp at q4
      have hok : runOk n ts = false := by simp [runOk]; omega
      exact ⟨[], ⟨.agg ⟨ringCells ring0 none none none none 0 0 0 0⟩, none, 0, [], [], by rw [runRing, hok]; rfl, .refl _, by rw [runRing, hok]; exact own0, by rw [runRing, hok]; exact sl_nil _ _ _⟩, (.le fun a => by (try simp only [setR, List.cons_append, List.nil_append]); simp only [List.flatten_append, List.flatten_cons, List.flatten_nil, List.count_append, List.count_nil, List.append_nil, List.nil_append]; omega)⟩
    ·
      simp at q4
      have e0 : (if inR 1 8 n = true then ringNew n.toNat else ring0) = ringNew n.toNat := if_pos (by assumption)
      have hn := inR_le (x := n) (by assumption)
      have hok : runOk n ts = true := by simp [runOk, *]; omega
      apply loop_mod (α := (Nat) × (List Value) × (Hp) × (Bool) × (Option Addr) × (Nat) × (Hp)) G_ok [29, 30, 31, 11, 12, 33, 34, 35, 32, 36, 37, 8, 38, 39, 40, 41, 42, 43, 9, 44, 28] (fun z => [(28, .v (.int .i64 z.1)), (9, .v (.slice z.2.2.2.2.1 (runN (ringNew n.toNat) (ts.take z.1)).2.length z.2.2.2.2.2.1)), (8, .v (.bool z.2.2.2.1))]) (fun z => [⟨x0, ringCells ring0 none none none none 0 0 0 0, 34⟩, ⟨x2, z.2.1, 34⟩]) (fun z => [z.2.2.1, z.2.2.2.2.2.2, H]) (fun z => ts.length - z.1) (fun z => z.1 ≤ ts.length ∧ OwR (.agg ⟨z.2.1⟩) (runN (ringNew n.toNat) (ts.take z.1)).1 z.2.2.1 ∧ (gSl 3 gI).ow [.slice z.2.2.2.2.1 (runN (ringNew n.toNat) (ts.take z.1)).2.length z.2.2.2.2.2.1] (runN (ringNew n.toNat) (ts.take z.1)).2 z.2.2.2.2.2.2) ((0, _, _, _, none, 0, []))
      · repeat' (first | exact trivial | refine ⟨⟨_, rfl, by first | rfl | exact inc_eq _ (by omega) | (refine sl_eq ?_; simp; done) | (refine sl_eq ?_; simp [runN_len]; omega), by first | exact trivial | simp [SV.ok]⟩, ?_⟩)
      · exact ⟨rfl, rfl, trivial⟩
      · try dsimp only
        exact ⟨by omega, Eq.mp (congrArg (fun r => OwR (Value.agg _) r A1) e0) or1, sl_nil _ _ _⟩
      · exact .refl _
      rintro ⟨k, l, A, ok, cb, cc, C⟩ hI
      obtain ⟨hk, oR, oC⟩ : k ≤ ts.length ∧ OwR (.agg ⟨l⟩) (runN (ringNew n.toNat) (ts.take k)).1 A ∧ (gSl 3 gI).ow [.slice cb (runN (ringNew n.toNat) (ts.take k)).2.length cc] (runN (ringNew n.toNat) (ts.take k)).2 C := hI
      try dsimp only
      obtain ⟨d1, d2, d3, d4, g1, g2, g3, g4, B1, B2, B3, B4, el, -⟩ := id oR
      cases el
      have hcl := runN_cells (ringNew n.toNat) (ringNew_cells _ (by omega)) (ts.take k)
      refine VCsplit.intro (fun q5 => ?_) (fun q5 => ?_)
      ·
        simp at q5
        refine idx_rd hp ?_ ?_ fun b6 o6 hb6 => ?_
        · omega
        · omega
        refine load_allN default (k) rfl hp ?_ ?_ hb6 rfl (mem_at 2 rfl) fun l7 hl7 => ?_
        · omega
        · omega
        obtain ⟨rfl, hw7⟩ := hl7
        refine VCnew.intro fun x8 => ?_
        refine call_new (implRingStep_ct _ ((runN (ringNew n.toNat) (List.take k ts)).fst) _ ?_ ?_) (rdV_mono (mem_at 0 rfl) (OwR.rd oR)) ?_
        · trivial
        · exact (‹flTurn.wf _›).2.2
        rintro v9 A9 o9
        obtain ⟨rv9, rfl, or9⟩ := o9
        obtain ⟨d19, d29, d39, d49, g19, g29, g39, g49, B19, B29, B39, B49, rfl, -⟩ := id or9
        refine VCsplit.intro (fun q10 => ?_) (fun q10 => ?_)
        ·
          simp at q10
          refine VCnew.intro fun x11 => ?_
          refine gappend1 (g := gI) (T := (3 : TypeId)) G_ok C [] [A9, A, H] ?_ oC (gI_ow ?_) (List.mem_of_getElem? (i := 0) rfl) rfl rfl rfl rfl rfl rfl rfl rfl ?_ fun b12 c12 A12 o12 => ?_
          · exact .le fun a => by (try simp only [setR, List.cons_append, List.nil_append]); simp only [List.flatten_append, List.flatten_cons, List.flatten_nil, List.count_append, List.count_nil, List.append_nil, List.nil_append]; omega
          · trivial
          · rw [runN_len]; simp; omega
          apply loop_stepI (k + 1, _, _, _, _, _, _)
          · repeat' (first | exact trivial | refine ⟨⟨_, rfl, by first | rfl | exact inc_eq _ (by omega) | (refine sl_eq ?_; simp; done) | (refine sl_eq ?_; simp [runN_len]; omega), by first | exact trivial | simp [SV.ok]⟩, ?_⟩)
          · exact ⟨rfl, rfl, trivial⟩
          · try dsimp only
            rw [runN_step _ _ _ default (by omega), runF_no ‹(ringStep _ _).2 = false›]; dsimp only; exact ⟨by omega, ‹OwR _ (ringStep _ _).1 _›, ‹(gSl _ gI).ow _ (_ ++ _) _›⟩
          · exact .le fun a => by (try simp only [setR, List.cons_append, List.nil_append]); simp only [List.flatten_append, List.flatten_cons, List.flatten_nil, List.count_append, List.count_nil, List.append_nil, List.nil_append]; omega
          · try dsimp only
            omega
        ·
          simp at q10
          refine VCnew.intro fun x13 => ?_
          refine gappend1 (g := gI) (T := (3 : TypeId)) G_ok C [] [A9, A, H] ?_ oC (gI_ow ?_) (List.mem_of_getElem? (i := 0) rfl) rfl rfl rfl rfl rfl rfl rfl rfl ?_ fun b14 c14 A14 o14 => ?_
          · exact .le fun a => by (try simp only [setR, List.cons_append, List.nil_append]); simp only [List.flatten_append, List.flatten_cons, List.flatten_nil, List.count_append, List.count_nil, List.append_nil, List.nil_append]; omega
          · trivial
          · rw [runN_len]; simp; omega
          apply loop_stepI (k + 1, _, _, _, _, _, _)
          · repeat' (first | exact trivial | refine ⟨⟨_, rfl, by first | rfl | exact inc_eq _ (by omega) | (refine sl_eq ?_; simp; done) | (refine sl_eq ?_; simp [runN_len]; omega), by first | exact trivial | simp [SV.ok]⟩, ?_⟩)
          · exact ⟨rfl, rfl, trivial⟩
          · try dsimp only
            rw [runN_step _ _ _ default (by omega), runF_yes ‹(ringStep _ _).2 = true›]; dsimp only; exact ⟨by omega, ‹OwR _ (ringStep _ _).1 _›, ‹(gSl _ gI).ow _ (_ ++ _) _›⟩
          · exact .le fun a => by (try simp only [setR, List.cons_append, List.nil_append]); simp only [List.flatten_append, List.flatten_cons, List.flatten_nil, List.count_append, List.count_nil, List.append_nil, List.nil_append]; omega
          · try dsimp only
            omega
      ·
        simp at q5
        have hk2 : ts.take k = ts := List.take_of_length_le (by omega); rw [hk2] at oR oC ⊢; exact ⟨A ++ C, ⟨_, cb, cc, A, C, by rw [runRing, hok, if_pos rfl], .refl _, by rw [runRing, hok, if_pos rfl]; exact oR, by rw [runRing, hok, if_pos rfl]; exact oC⟩, (.le fun a => by (try simp only [setR, List.cons_append, List.nil_append]); simp only [List.flatten_append, List.flatten_cons, List.flatten_nil, List.count_append, List.count_nil, List.append_nil, List.nil_append]; omega)⟩


--@ct spec.RunRing newp specRunRing_ct _ _ _ _ $2 | %2 | obtain ⟨rv#, cb#, cc#, Aa#, Ab#, rfl, hp#, or#, oc#⟩ := o# ;; refine ⟨[Aa#, Ab#], by simpa using hp#, ?_⟩ ;; replace oc# := fl_ow oc# ;; obtain ⟨d1#, d2#, d3#, d4#, g1#, g2#, g3#, g4#, B1#, B2#, B3#, B4#, rfl, -⟩ := id or#
theorem specRunRing_ct (n : Int) (b : Option Addr) (m c : Nat) (ts : List Turn) :
    Ct Try.prog 25 [.int .i64 n, .slice b m c] [] (fun H => (rpSl flTurn.rp).rd H [.slice b m c] ts)
      (fun v A => ∃ v' cb cc A1 A2, v = .tuple #[v', .slice cb (runRing n ts).2.length cc, .bool (runOk n ts)] ∧ A.Perm (A1 ++ A2) ∧ OwR v' (runRing n ts).1 A1 ∧ (gSl 3 gI).ow [.slice cb (runRing n ts).2.length cc] (runRing n ts).2 A2) := by
  refine Ct.intro0 G_ok Try.func25 rfl rfl rfl fun E H hp => ?_
  obtain ⟨rfl, hl⟩ := rd_len hp
  refine VCnew.intro fun x0 => ?_
  refine call_new (specRingNew_ct _) trivial ?_
  rintro v1 A1 o1
  obtain ⟨rv1, rfl, or1⟩ := o1
  obtain ⟨d11, d21, d31, d41, g11, g21, g31, g41, B11, B21, B31, B41, rfl, -⟩ := id or1
  refine VCnew.intro fun x2 => ?_
  refine VCnew.intro fun x3 => ?_
  refine VCsplit.intro (fun q4 => ?_) (fun q4 => ?_)
  ·
    simp at q4
    have hok : runOk n ts = false := by simp [runOk, *]
    exact ⟨[], ⟨.agg ⟨ringCells ring0 none none none none 0 0 0 0⟩, some ⟨x3, 0, none⟩, 0, [], [], by rw [runRing, hok]; rfl, .refl _, by rw [runRing, hok]; exact own0, by rw [runRing, hok]; exact sl_nil _ _ _⟩, (.le fun a => by (try simp only [setR, List.cons_append, List.nil_append]); simp only [List.flatten_append, List.flatten_cons, List.flatten_nil, List.count_append, List.count_nil, List.append_nil, List.nil_append]; omega)⟩
  ·
    simp at q4
    refine VCsplit.intro (fun q5 => ?_) (fun q5 => ?_)
    ·
      simp at q5
      have hok : runOk n ts = false := by simp [runOk]; omega
      exact ⟨[], ⟨.agg ⟨ringCells ring0 none none none none 0 0 0 0⟩, some ⟨x3, 0, none⟩, 0, [], [], by rw [runRing, hok]; rfl, .refl _, by rw [runRing, hok]; exact own0, by rw [runRing, hok]; exact sl_nil _ _ _⟩, (.le fun a => by (try simp only [setR, List.cons_append, List.nil_append]); simp only [List.flatten_append, List.flatten_cons, List.flatten_nil, List.count_append, List.count_nil, List.append_nil, List.nil_append]; omega)⟩
    ·
      simp at q5
      have e0 : (if inR 1 8 n = true then ringNew n.toNat else ring0) = ringNew n.toNat := if_pos (by assumption)
      have hn := inR_le (x := n) (by assumption)
      have hok : runOk n ts = true := by simp [runOk, *]; omega
      apply loop_mod (α := (Nat) × (List Value) × (Hp) × (Option Addr) × (Nat) × (Hp)) G_ok [28, 29, 30, 31, 35, 36, 37, 38, 39, 40, 34, 41, 42, 11, 12, 43, 44, 45, 46, 47, 9, 48, 49, 50, 32, 33, 10] (fun z => [(10, .v (.int .i64 z.1)), (9, .v (.slice z.2.2.2.1 (runN (ringNew n.toNat) (ts.take z.1)).2.length z.2.2.2.2.1))]) (fun z => [⟨x0, ringCells ring0 none none none none 0 0 0 0, 34⟩, ⟨x2, z.2.1, 34⟩]) (fun z => [z.2.2.1, z.2.2.2.2.2, H]) (fun z => ts.length - z.1) (fun z => z.1 ≤ ts.length ∧ OwR (.agg ⟨z.2.1⟩) (runN (ringNew n.toNat) (ts.take z.1)).1 z.2.2.1 ∧ (gSl 3 gI).ow [.slice z.2.2.2.1 (runN (ringNew n.toNat) (ts.take z.1)).2.length z.2.2.2.2.1] (runN (ringNew n.toNat) (ts.take z.1)).2 z.2.2.2.2.2) ((0, _, _, _, 0, []))
      · repeat' (first | exact trivial | refine ⟨⟨_, rfl, by first | rfl | exact inc_eq _ (by omega) | (refine sl_eq ?_; simp; done) | (refine sl_eq ?_; simp [runN_len]; omega), by first | exact trivial | simp [SV.ok]⟩, ?_⟩)
      · exact ⟨rfl, rfl, trivial⟩
      · try dsimp only
        exact ⟨by omega, Eq.mp (congrArg (fun r => OwR (Value.agg _) r A1) e0) or1, sl_nil _ _ _⟩
      · exact .tl
      rintro ⟨k, l, A, cb, cc, C⟩ hI
      obtain ⟨hk, oR, oC⟩ : k ≤ ts.length ∧ OwR (.agg ⟨l⟩) (runN (ringNew n.toNat) (ts.take k)).1 A ∧ (gSl 3 gI).ow [.slice cb (runN (ringNew n.toNat) (ts.take k)).2.length cc] (runN (ringNew n.toNat) (ts.take k)).2 C := hI
      try dsimp only
      obtain ⟨d1, d2, d3, d4, g1, g2, g3, g4, B1, B2, B3, B4, el, -⟩ := id oR
      cases el
      have hcl := runN_cells (ringNew n.toNat) (ringNew_cells _ (by omega)) (ts.take k)
      refine VCsplit.intro (fun q6 => ?_) (fun q6 => ?_)
      ·
        simp at q6
        refine draw G_ok mixed (some 10) (.q 0 (.q 1 (.q 2 (.q 3 (.q 4 (.hd (.alt 5 (.q 6 (.q 7 (.q 8 (.f 9 (.tl 10 (.f 11 (.nil))))))) (.alt 9 (.f 5 (.q 6 (.q 7 (.q 8 (.tl 10 (.f 11 (.nil))))))) (.nil))))))))) (by decide +kernel) ?_
        refine idx_rd hp ?_ ?_ fun b7 o7 hb7 => ?_
        · omega
        · omega
        refine load_allN default (k) rfl hp ?_ ?_ hb7 rfl (mem_at 2 rfl) fun l8 hl8 => ?_
        · omega
        · omega
        obtain ⟨rfl, hw8⟩ := hl8
        refine VC.intro ?_ ?_
        ·
          refine call_new (specRingStep_ct _ ((runN (ringNew n.toNat) (List.take k ts)).fst) _ ?_ ?_) (rdV_mono (mem_at 0 rfl) (OwR.rd oR)) ?_
          · trivial
          · exact (‹flTurn.wf _›).2.2
          rintro v9 A9 o9
          obtain ⟨rv9, rfl, or9⟩ := o9
          obtain ⟨d19, d29, d39, d49, g19, g29, g39, g49, B19, B29, B39, B49, rfl, -⟩ := id or9
          refine VC.intro ?_ ?_
          · exact keep_new
          refine VCnew.intro fun x10 => ?_
          refine VC.intro ?_ ?_
          · exact keep_blk (by simp)
          refine VCsplit.intro (fun q11 => ?_) (fun q11 => ?_)
          ·
            refine VCnew.intro fun x12 => ?_
            refine gappend1 (g := gI) (T := (3 : TypeId)) G_ok C [] [A9, A, H] ?_ oC (gI_ow ?_) (List.mem_of_getElem? (i := 0) rfl) rfl rfl rfl rfl rfl rfl rfl rfl ?_ fun b13 c13 A13 o13 => ?_
            · exact .le fun a => by (try simp only [setR, List.cons_append, List.nil_append]); simp only [List.flatten_append, List.flatten_cons, List.flatten_nil, List.count_append, List.count_nil, List.append_nil, List.nil_append]; omega
            · trivial
            · rw [runN_len]; simp; omega
            apply loop_stepI (k + 1, _, _, _, _, _)
            · repeat' (first | exact trivial | refine ⟨⟨_, rfl, by first | rfl | exact inc_eq _ (by omega) | (refine sl_eq ?_; simp; done) | (refine sl_eq ?_; simp [runN_len]; omega), by first | exact trivial | simp [SV.ok]⟩, ?_⟩)
            · exact ⟨rfl, rfl, trivial⟩
            · try dsimp only
              rw [runN_step _ _ _ default (by omega), runF_yes ‹(ringStep _ _).2 = true›]; dsimp only; exact ⟨by omega, ‹OwR _ (ringStep _ _).1 _›, ‹(gSl _ gI).ow _ (_ ++ _) _›⟩
            · exact .le fun a => by (try simp only [setR, List.cons_append, List.nil_append]); simp only [List.flatten_append, List.flatten_cons, List.flatten_nil, List.count_append, List.count_nil, List.append_nil, List.nil_append]; omega
            · try dsimp only
              omega
          ·
            refine VCnew.intro fun x14 => ?_
            refine gappend1 (g := gI) (T := (3 : TypeId)) G_ok C [] [A9, A, H] ?_ oC (gI_ow ?_) (List.mem_of_getElem? (i := 0) rfl) rfl rfl rfl rfl rfl rfl rfl rfl ?_ fun b15 c15 A15 o15 => ?_
            · exact .le fun a => by (try simp only [setR, List.cons_append, List.nil_append]); simp only [List.flatten_append, List.flatten_cons, List.flatten_nil, List.count_append, List.count_nil, List.append_nil, List.nil_append]; omega
            · trivial
            · rw [runN_len]; simp; omega
            apply loop_stepI (k + 1, _, _, _, _, _)
            · repeat' (first | exact trivial | refine ⟨⟨_, rfl, by first | rfl | exact inc_eq _ (by omega) | (refine sl_eq ?_; simp; done) | (refine sl_eq ?_; simp [runN_len]; omega), by first | exact trivial | simp [SV.ok]⟩, ?_⟩)
            · exact ⟨rfl, rfl, trivial⟩
            · try dsimp only
              rw [runN_step _ _ _ default (by omega), runF_no ‹(ringStep _ _).2 = false›]; dsimp only; exact ⟨by omega, ‹OwR _ (ringStep _ _).1 _›, ‹(gSl _ gI).ow _ (_ ++ _) _›⟩
            · exact .le fun a => by (try simp only [setR, List.cons_append, List.nil_append]); simp only [List.flatten_append, List.flatten_cons, List.flatten_nil, List.count_append, List.count_nil, List.append_nil, List.nil_append]; omega
            · try dsimp only
              omega
        ·
          refine VC.intro ?_ ?_
          ·
            refine VCnew.intro fun x16 => ?_
            refine VC.intro ?_ ?_
            · exact keep_blk (by simp)
            refine call_new (specRingStep_ct _ ((runN (ringNew n.toNat) (List.take k ts)).fst) _ ?_ ?_) (rdV_mono (mem_at 0 rfl) (OwR.rd oR)) ?_
            · trivial
            · exact (‹flTurn.wf _›).2.2
            rintro v17 A17 o17
            obtain ⟨rv17, rfl, or17⟩ := o17
            obtain ⟨d117, d217, d317, d417, g117, g217, g317, g417, B117, B217, B317, B417, rfl, -⟩ := id or17
            refine VC.intro ?_ ?_
            · exact keep_new
            refine VCsplit.intro (fun q18 => ?_) (fun q18 => ?_)
            ·
              refine VCnew.intro fun x19 => ?_
              refine gappend1 (g := gI) (T := (3 : TypeId)) G_ok C [] [A17, A, H] ?_ oC (gI_ow ?_) (List.mem_of_getElem? (i := 0) rfl) rfl rfl rfl rfl rfl rfl rfl rfl ?_ fun b20 c20 A20 o20 => ?_
              · exact .le fun a => by (try simp only [setR, List.cons_append, List.nil_append]); simp only [List.flatten_append, List.flatten_cons, List.flatten_nil, List.count_append, List.count_nil, List.append_nil, List.nil_append]; omega
              · trivial
              · rw [runN_len]; simp; omega
              apply loop_stepI (k + 1, _, _, _, _, _)
              · repeat' (first | exact trivial | refine ⟨⟨_, rfl, by first | rfl | exact inc_eq _ (by omega) | (refine sl_eq ?_; simp; done) | (refine sl_eq ?_; simp [runN_len]; omega), by first | exact trivial | simp [SV.ok]⟩, ?_⟩)
              · exact ⟨rfl, rfl, trivial⟩
              · try dsimp only
                rw [runN_step _ _ _ default (by omega), runF_yes ‹(ringStep _ _).2 = true›]; dsimp only; exact ⟨by omega, ‹OwR _ (ringStep _ _).1 _›, ‹(gSl _ gI).ow _ (_ ++ _) _›⟩
              · exact .le fun a => by (try simp only [setR, List.cons_append, List.nil_append]); simp only [List.flatten_append, List.flatten_cons, List.flatten_nil, List.count_append, List.count_nil, List.append_nil, List.nil_append]; omega
              · try dsimp only
                omega
            ·
              refine VCnew.intro fun x21 => ?_
              refine gappend1 (g := gI) (T := (3 : TypeId)) G_ok C [] [A17, A, H] ?_ oC (gI_ow ?_) (List.mem_of_getElem? (i := 0) rfl) rfl rfl rfl rfl rfl rfl rfl rfl ?_ fun b22 c22 A22 o22 => ?_
              · exact .le fun a => by (try simp only [setR, List.cons_append, List.nil_append]); simp only [List.flatten_append, List.flatten_cons, List.flatten_nil, List.count_append, List.count_nil, List.append_nil, List.nil_append]; omega
              · trivial
              · rw [runN_len]; simp; omega
              apply loop_stepI (k + 1, _, _, _, _, _)
              · repeat' (first | exact trivial | refine ⟨⟨_, rfl, by first | rfl | exact inc_eq _ (by omega) | (refine sl_eq ?_; simp; done) | (refine sl_eq ?_; simp [runN_len]; omega), by first | exact trivial | simp [SV.ok]⟩, ?_⟩)
              · exact ⟨rfl, rfl, trivial⟩
              · try dsimp only
                rw [runN_step _ _ _ default (by omega), runF_no ‹(ringStep _ _).2 = false›]; dsimp only; exact ⟨by omega, ‹OwR _ (ringStep _ _).1 _›, ‹(gSl _ gI).ow _ (_ ++ _) _›⟩
              · exact .le fun a => by (try simp only [setR, List.cons_append, List.nil_append]); simp only [List.flatten_append, List.flatten_cons, List.flatten_nil, List.count_append, List.count_nil, List.append_nil, List.nil_append]; omega
              · try dsimp only
                omega
          ·
            exact trivial
      ·
        simp at q6
        have hk2 : ts.take k = ts := List.take_of_length_le (by omega); rw [hk2] at oR oC ⊢; exact ⟨A ++ C, ⟨_, cb, cc, A, C, by rw [runRing, hok, if_pos rfl], .refl _, by rw [runRing, hok, if_pos rfl]; exact oR, by rw [runRing, hok, if_pos rfl]; exact oC⟩, (.le fun a => by (try simp only [setR, List.cons_append, List.nil_append]); simp only [List.flatten_append, List.flatten_cons, List.flatten_nil, List.count_append, List.count_nil, List.append_nil, List.nil_append]; omega)⟩

end Go.Proofs.Ythihffgmmkhlhaa
