/-
  Rules for loops, calls and functions over the executor of Sx.lean. Conditions: none.
-/
import Derived.Test.YtcnclhjhnjpeiaaDoorSxX
import Derived.Deep.LoopGhost
namespace Go.SX

section
variable {P : Program} {E : World} {Γ : Ty} {n : Nat}

/-- every known slot of the second frame is known in the first -/
def FrLe (bl' bl : List Blk) (fr' : Fr) : Fr → Prop
  | [] => True
  | (k, s) :: r => (∃ s', look fr' k = some s' ∧ s'.den bl' = s.den bl ∧ (s.ok bl)) ∧ FrLe bl' bl fr' r

/-- the second blocks are the first ones, some of them left away at the end -/
def BlLe : List Blk → List Blk → Prop
  | _, [] => True
  | b' :: r', b :: r => b'.ent = b.ent ∧ BlLe r' r
  | [], _ :: _ => False


theorem RLe.refl (R : List Hp) : RLe R R := ⟨[], by simp⟩
theorem RLe.perm {R' R : List Hp} (h : R'.Perm R) : RLe R' R := ⟨[], by simpa using h.flatten⟩
theorem RLe.sub {R' R : List Hp} (h : R.Sublist R') : RLe R' R := by
  induction h with
  | slnil => exact .refl _
  | cons a h ih =>
    obtain ⟨L, hL⟩ := ih
    refine ⟨a ++ L, ?_⟩
    simp only [List.flatten_cons]
    refine (hL.append_left a).trans ?_
    rw [← List.append_assoc, ← List.append_assoc]
    exact List.Perm.append_right L List.perm_append_comm
  | cons_cons a h ih =>
    obtain ⟨L, hL⟩ := ih
    refine ⟨L, ?_⟩
    simp only [List.flatten_cons, List.append_assoc]
    exact hL.append_left a
theorem RLe.trans {A B C : List Hp} (h : RLe A B) (h' : RLe B C) : RLe A C := by
  obtain ⟨L, hL⟩ := h
  obtain ⟨M, hM⟩ := h'
  exact ⟨M ++ L, hL.trans (by rw [← List.append_assoc]; exact hM.append_right L)⟩

def Weak (st' st : St) : Prop := FrLe st'.bl st.bl st'.fr st.fr ∧ BlLe st'.bl st.bl ∧ RLe st'.R st.R

theorem BlLe.split : ∀ {bl' bl : List Blk}, BlLe bl' bl → ∃ B, bl'.map Blk.ent = bl.map Blk.ent ++ B
  | bl', [], _ => ⟨bl'.map Blk.ent, by simp⟩
  | b' :: r', b :: r, h => by
    obtain ⟨B, hB⟩ := BlLe.split h.2
    exact ⟨B, by simp [h.1, hB]⟩
  | [], _ :: _, h => h.elim

theorem Weak.rel {st' st : St} (h : Weak st' st) {a : Act} {w : World} (hr : Rel E n st' a w) : Rel E n st a w := by
  obtain ⟨h1, h2, h3⟩ := h
  refine ⟨hr.size, hr.defers, ?_, ?_⟩
  · have key : ∀ fr : Fr, FrLe st'.bl st.bl st'.fr fr → ∀ k sv, look fr k = some sv → a.tmps[k]? = some (sv.den st.bl) ∧ sv.ok st.bl := by
      intro fr
      induction fr with
      | nil => intro _ k sv hk; simp [look] at hk
      | cons p r ih =>
        obtain ⟨k', s⟩ := p
        intro hle k sv hk
        obtain ⟨⟨s', e1, e2, e3⟩, hle⟩ := hle
        simp only [look] at hk
        split at hk
        · rename_i hb
          have := Nat.eq_of_beq_eq_true hb
          subst this
          cases hk
          exact ⟨by rw [← e2]; exact (hr.val _ _ e1).1, e3⟩
        · exact ih hle k sv hk
    exact key st.fr h1
  · obtain ⟨B, hB⟩ := BlLe.split h2
    obtain ⟨L, hL⟩ := h3
    have : st'.hall.Perm (st.hall ++ (B ++ L)) := by
      unfold St.hall
      rw [hB]
      refine ((hL.append_left _).trans ?_)
      simp only [List.append_assoc]
      refine List.Perm.append_left _ ?_
      rw [← List.append_assoc, ← List.append_assoc]
      exact List.Perm.append_right L List.perm_append_comm
    exact (hr.sat.perm this).drop

/-- A loop: states indexed by x, a measure of x. -/
theorem loop_intro {α : Type} {body : Code} {st : St} {Q : Exit → St → Prop} (hΓ : TyOk P Γ) (Inv : α → St) (μ : α → Nat) (I : α → Prop) (x0 : α) (hi : I x0) (h0 : Weak st (Inv x0))
    (hr : ∀ x, I x → exC P E Γ n body (Inv x) (thenQ (fun st' => ∃ x', I x' ∧ μ x' < μ x ∧ Weak st' (Inv x')) Q)) : VCloop P E n body st Q := by
  refine ⟨fun a w hrel => ?_⟩
  refine wp_loop_ghost (fun k a w => ∃ x, I x ∧ μ x = k ∧ Rel E n (Inv x) a w) (μ x0) ⟨x0, hi, rfl, h0.rel hrel⟩ ?_
  rintro k a w ⟨x, hx, rfl, hrx⟩
  refine wp_mono (exC_sound hΓ body _ _ a w (hr x hx) hrx) ?_
  rintro e a' w' ⟨st', h1, h2⟩
  cases e with
  | normal =>
    obtain ⟨x', h3, h4, h5⟩ := h2
    exact ⟨μ x', h4, x', h3, rfl, h5.rel h1⟩
  | _ => exact ⟨st', h1, h2⟩

/-- Two ways that meet again: what stands behind a sequence's first part is forgotten but for J. -/
theorem exC_join {α : Type} {x y : Code} {st : St} {Q : Exit → St → Prop} (J : α → St) (I : α → Prop)
    (h1 : exC P E Γ n x st (thenQ (fun st' => ∃ z, I z ∧ Weak st' (J z)) Q)) (hΓ : TyOk P Γ) (h2 : ∀ z, I z → exC P E Γ n y (J z) Q) {a : Act} {w : World} (hr : Rel E n st a w) :
    (Code.seq x y).wp P (lift E n Q) a w := by
  refine wp_seq (wp_mono (exC_sound hΓ x st _ a w h1 hr) ?_)
  rintro e a' w' ⟨st', h3, h4⟩
  cases e with
  | normal =>
    obtain ⟨z, h5, h6⟩ := h4
    exact exC_sound hΓ y _ Q a' w' (h2 z h5) (h6.rel h3)
  | _ => exact ⟨st', h3, h4⟩

/- results -/
def resOneK (Γ : Ty) (fr : Fr) (bl : List Blk) (r : ResultVar) (K : Value → Prop) : Prop :=
  match r with
  | .tmp t => match look fr t with
    | some s => denK bl s K
    | none => False
  | .cell s t => match tyOf Γ t with
    | none => False
    | some ti => match look fr s with
      | some s => exLoad ti s bl [] (fun s => denK bl s K) False
      | none => False
def resK (Γ : Ty) (fr : Fr) (bl : List Blk) : List ResultVar → (List Value → Prop) → Prop
  | [], K => K []
  | r :: rs, K => resOneK Γ fr bl r fun v => resK Γ fr bl rs fun vs => K (v :: vs)
def oneOr : List Value → Value
  | [v] => v
  | vs => .tuple ⟨vs⟩
def oneOrK (vs : List Value) (K : Value → Prop) : Prop :=
  match vs with
  | [v] => K v
  | vs => K (.tuple ⟨vs⟩)
theorem oneOrK_sound {vs : List Value} {K : Value → Prop} (h : oneOrK vs K) : K (oneOr vs) := by
  match vs, h with
  | [], h => exact h
  | [v], h => exact h
  | _ :: _ :: _, h => exact h
def retQ (Γ : Ty) (rs : Array ResultVar) (post : Value → List Blk → List Hp → Prop) (e : Exit) (st : St) : Prop :=
  match e with
  | .ret => match st with
    | ⟨fr, bl, R⟩ => match rs with
      | ⟨l⟩ => resK Γ fr bl l fun vs => oneOrK vs fun v => post v bl R
  | .normal => match st with
    | ⟨fr, bl, R⟩ => match rs with
      | ⟨l⟩ => resK Γ fr bl l fun vs => oneOrK vs fun v => post v bl R
  | _ => False

def semOne (tmps : Array Value) (r : ResultVar) : Sem Value :=
  match r with
  | .tmp t => pure (tmps.getD t undef)
  | .cell s t => do loadVar t (← asAddr (tmps.getD s undef))

theorem resOneK_sound (hΓ : TyOk P Γ) {fr : Fr} {bl : List Blk} {R : List Hp} {a : Act} {w : World} (hr : Rel E n ⟨fr, bl, R⟩ a w) {r : ResultVar} {K : Value → Prop} (h : resOneK Γ fr bl r K) :
    ∃ v, K v ∧ (semOne a.tmps r).run P w = .ok v w := by
  cases r with
  | tmp t =>
    simp only [resOneK] at h
    split at h
    · rename_i s hs
      refine ⟨_, denK_sound h, ?_⟩
      simp only [semOne, Sem.run_pure]
      rw [Array.getD_eq_getD_getElem?, (hr.val _ _ hs).1]; rfl
    · exact h.elim
  | cell slot t =>
    simp only [resOneK] at h
    split at h
    · exact h.elim
    · rename_i ti ht
      split at h
      · rename_i s hs
        have h1 := (hr.val _ _ hs).1
        have h2 : a.tmps.getD slot undef = s.den bl := by rw [Array.getD_eq_getD_getElem?, h1]; rfl
        have hlv := fun b o => run_loadVar_rd (P := P) (b := b) (o := o) hΓ hr.sat ht
        simp only [semOne]
        rw [h2]
        unfold exLoad at h
        split at h
        · rename_i hh off
          split at h
          · exact h.elim
          · rename_i b hb
            obtain ⟨bi, cs, bt⟩ := b
            simp only at h
            split at h
            · rename_i hag
              split at h
              · exact h.elim
              · rename_i l hl
                refine ⟨_, denK_sound h, ?_⟩
                simp only [SV.den, asAddr, Sem.run_bind, Sem.run_pure, Result.andThen_ok]
                exact (hlv _ _).1 l hag (hr.load hb hl)
            · rename_i hag
              split at h
              · rename_i c hl
                refine ⟨_, denK_sound h, ?_⟩
                simp only [SV.den, asAddr, Sem.run_bind, Sem.run_pure, Result.andThen_ok]
                exact (hlv _ _).2 c hag (hr.load hb hl)
              · exact h.elim
        · rename_i b o
          have mem : ∀ {m l}, RdCells (St.hall ⟨[], bl, []⟩) b o m l → RdCells (St.hall ⟨fr, bl, R⟩) b o m l := by
            rintro m l ⟨e1, cs, T, fz, hm, hc⟩
            refine ⟨e1, cs, T, fz, ?_, hc⟩
            unfold St.hall at hm ⊢
            simp only [List.flatten_nil, List.append_nil] at hm
            exact List.mem_append_left _ hm
          split at h
          · rename_i hag
            obtain ⟨l, h4, h5⟩ := h
            refine ⟨_, denK_sound h5, ?_⟩
            simp only [SV.den, asAddr, Sem.run_bind, Sem.run_pure, Result.andThen_ok]
            exact (hlv _ _).1 l hag (mem h4)
          · rename_i hag
            obtain ⟨l, h4, h5⟩ := h
            split at h5
            · rename_i c
              refine ⟨_, denK_sound h5, ?_⟩
              simp only [SV.den, asAddr, Sem.run_bind, Sem.run_pure, Result.andThen_ok]
              exact (hlv _ _).2 c hag (mem h4)
            · exact h5.elim
        · exact h.elim
      · exact h.elim

theorem resK_sound (hΓ : TyOk P Γ) {fr : Fr} {bl : List Blk} {R : List Hp} {a : Act} {w : World} (hr : Rel E n ⟨fr, bl, R⟩ a w) : ∀ {rs : List ResultVar} {K : List Value → Prop}, resK Γ fr bl rs K →
    ∃ vs, K vs ∧ (rs.mapM (semOne a.tmps)).run P w = .ok vs w
  | [], K, h => ⟨[], h, rfl⟩
  | r :: rs, K, h => by
    obtain ⟨v, h1, h2⟩ := resOneK_sound (P := P) hΓ hr h
    obtain ⟨vs, h3, h4⟩ := resK_sound hΓ hr h1
    refine ⟨v :: vs, h3, ?_⟩
    rw [List.mapM_cons, Sem.run_bind, h2, Result.andThen_ok, Sem.run_bind, h4, Result.andThen_ok]; rfl

theorem run_results {fn : Func} {rs : List ResultVar} (hrs : fn.results = ⟨rs⟩) {tmps : Array Value} {vs : List Value} {w : World}
    (h : (rs.mapM (semOne tmps)).run P w = .ok vs w) : (results fn tmps).run P w = .ok (oneOr vs) w := by
  have e : results fn tmps = (do
      let vs ← (⟨rs⟩ : Array ResultVar).mapM (semOne tmps)
      pure (if h : vs.size = 1 then vs[0] else .tuple vs)) := by
    unfold results
    rw [hrs]
    congr 1
  rw [e]
  simp only [Sem.run_bind]
  rw [Array.mapM_eq_mapM_toList, Sem.run_map, h, Result.andThen_ok, Result.andThen_ok, Sem.run_pure]
  congr 1
  split
  · rename_i h1
    match vs, h1 with
    | [v], _ => rfl
  · rename_i h1
    match vs, h1 with
    | [], _ => rfl
    | [v], h1 => simp at h1
    | _ :: _ :: _, _ => rfl

/-- the frame at the beginning -/
def initFr : Nat → List Value → Fr
  | _, [] => []
  | k, v :: r => (k, .v v) :: initFr (k + 1) r

theorem look_initFr : ∀ (l : List Value) (k j : Nat) (s : SV), look (initFr k l) j = some s → k ≤ j ∧ ∃ v, s = .v v ∧ l[j - k]? = some v
  | [], k, j, s, h => by simp [initFr, look] at h
  | v :: r, k, j, s, h => by
    simp only [initFr, look] at h
    split at h
    · rename_i hb
      have := Nat.eq_of_beq_eq_true hb
      subst this
      cases h
      exact ⟨Nat.le_refl _, v, rfl, by simp⟩
    · obtain ⟨h1, v', h2, h3⟩ := look_initFr r (k + 1) j s h
      refine ⟨by omega, v', h2, ?_⟩
      rw [show j - k = (j - (k + 1)) + 1 by omega, List.getElem?_cons_succ]; exact h3

def exBody (P : Program) (E : World) (Γ : Ty) (fn : Func) (st : St) (Q : Exit → St → Prop) : Prop :=
  match fn with
  | ⟨_, _, _, _, _, _, n, _, some c, _, _, _, _, _, _, _⟩ => exC P E Γ n c st Q
  | _ => False
def exFn (P : Program) (E : World) (Γ : Ty) (fn : Func) (args : List Value) (R : List Hp) (post : Value → List Blk → List Hp → Prop) : Prop :=
  exBody P E Γ fn ⟨initFr 0 args, [], R⟩ (retQ Γ fn.results post)

theorem exFn_sound (hΓ : TyOk P Γ) {f : FuncId} {fn : Func} (hf : P.funcs[f]? = some fn) {args : List Value} (ha : Nat.ble args.length fn.ntmps = true) {R : List Hp} {post : Value → List Blk → List Hp → Prop}
    (h : exFn P E Γ fn args R post) {w : World} (hs : Sat E R.flatten w) :
    Calls P f ⟨args⟩ w fun e w' => ∃ v bl R', e = .returned v ∧ Sat E (St.hall ⟨[], bl, R'⟩) w' ∧ post v bl R' := by
  unfold exFn exBody at h
  split at h
  · rename_i nm og tg ps rt nf n rs c nr ou fi el ln mt tn
    refine calls_of_wp hf rfl ?_
    have ha' : args.length ≤ n := Nat.le_of_ble_eq_true ha
    have hr : Rel E n ⟨initFr 0 args, [], R⟩ { tmps := (⟨args⟩ : Array Value) ++ Array.replicate (n - (⟨args⟩ : Array Value).size) undef, defers := [] } w := by
      refine ⟨?_, rfl, ?_, by simpa [St.hall] using hs⟩
      · simp; omega
      · intro k sv hk
        obtain ⟨_, v, h2, h3⟩ := look_initFr args 0 k sv hk
        subst h2
        refine ⟨?_, trivial⟩
        simp only [SV.den]
        simp only [Nat.sub_zero] at h3
        have hlt : k < args.length := by
          rcases Nat.lt_or_ge k args.length with h4 | h4
          · exact h4
          · rw [List.getElem?_eq_none h4] at h3; cases h3
        rw [Array.getElem?_append_left (by simpa using hlt)]
        simpa using h3
    refine wp_mono (exC_sound hΓ c _ _ _ _ h hr) ?_
    rintro e a' w' ⟨⟨fr', bl', R'⟩, h1, h2⟩
    obtain ⟨rs⟩ := rs
    cases e with
    | normal =>
      obtain ⟨vs, h3, h4⟩ := resK_sound (P := P) hΓ h1 h2
      exact ⟨h1.defers, _, run_results rfl h4, _, bl', R', rfl, h1.sat, oneOrK_sound h3⟩
    | ret =>
      obtain ⟨vs, h3, h4⟩ := resK_sound (P := P) hΓ h1 h2
      exact ⟨h1.defers, _, run_results rfl h4, _, bl', R', rfl, h1.sat, oneOrK_sound h3⟩
    | _ => exact h2.elim
  · exact h.elim

/-- A contract: A0 is what the call may write (and what of it it leaves is A); pre speaks of all heaplets at the call. -/
def Ct (P : Program) (f : FuncId) (args : List Value) (A0 : Hp) (pre : Hp → Prop) (post : Value → Hp → Prop) : Prop :=
  (∃ fn, P.funcs[f]? = some fn ∧ fn.name ≠ "runtime.NumGoroutine" ∧ fn.body.isSome = true) ∧
  ∀ E H w, Sat E (A0 ++ H) w → pre (A0 ++ H) → Calls P f ⟨args⟩ w fun e w' => ∃ v A, e = .returned v ∧ post v A ∧ Sat E (A ++ H) w'

theorem Ct.intro (hΓ : TyOk P Γ) {f : FuncId} {fn : Func} (hf : P.funcs[f]? = some fn) (hn : decide (fn.name = "runtime.NumGoroutine") = false) (hb : fn.body.isSome = true) {args : List Value} (ha : Nat.ble args.length fn.ntmps = true) {A0 : Hp} {pre : Hp → Prop} {post : Value → Hp → Prop}
    (h : ∀ E H, pre (A0 ++ H) → exFn P E Γ fn args [A0, H] fun v bl R => ∃ A, post v A ∧ RLe (bl.map Blk.ent :: R) [A, H]) : Ct P f args A0 pre post := by
  refine ⟨⟨fn, hf, of_decide_eq_false hn, hb⟩, fun E H w hs hp => ?_⟩
  refine (exFn_sound hΓ hf ha (h E H hp) (by simpa using hs)).mono ?_
  rintro e w' ⟨v, bl, R', h1, h2, A, h3, L, h4⟩
  refine ⟨v, A, h1, h3, ?_⟩
  have : (St.hall ⟨[], bl, R'⟩).Perm ((A ++ H) ++ L) := by simpa [St.hall] using h4
  exact (h2.perm this).drop

/-- a call that only makes new memory -/
theorem call_new {f : FuncId} {args : List Value} {bl : List Blk} {R : List Hp} {pre : Hp → Prop} {post : Value → Hp → Prop} {K : Value → List Blk → List Hp → Prop} (hc : Ct P f args [] pre post)
    (hp : pre (St.hall ⟨[], bl, R⟩)) (hk : ∀ v A, post v A → K v bl (A :: R)) : VCcall P E f args ⟨[], bl, R⟩ K := by
  refine .intro hc.1 (fun w hs => (hc.2 E _ w (by simpa using hs) (by simpa using hp)).mono ?_)
  rintro e w' ⟨v, A, h1, h2, h3⟩
  refine ⟨v, bl, A :: R, h1, h3.perm ?_, rfl, hk v A h2⟩
  simp only [St.hall, List.flatten_cons]
  rw [← List.append_assoc, ← List.append_assoc]
  exact List.Perm.append_right _ List.perm_append_comm

/-- a call that hands back a plain value -/
theorem call_val {f : FuncId} {args : List Value} {bl : List Blk} {R : List Hp} {pre : Hp → Prop} {post : Value → Prop} {K : Value → List Blk → List Hp → Prop} (hc : Ct P f args [] pre (fun v A => post v ∧ A = []))
    (hp : pre (St.hall ⟨[], bl, R⟩)) (hk : ∀ v, post v → K v bl R) : VCcall P E f args ⟨[], bl, R⟩ K := by
  refine .intro hc.1 (fun w hs => (hc.2 E _ w (by simpa using hs) (by simpa using hp)).mono ?_)
  rintro e w' ⟨v, A, h1, ⟨h2, rfl⟩, h3⟩
  exact ⟨v, bl, R, h1, by simpa using h3, rfl, hk v h2⟩

/-- a call that may write heaplet number i -/
theorem call_wr {f : FuncId} {args : List Value} {bl : List Blk} {pre' post' : List Hp} {A0 : Hp} {pre : Hp → Prop} {post : Value → Hp → Prop} {K : Value → List Blk → List Hp → Prop} (hc : Ct P f args A0 pre post)
    (hp : pre (A0 ++ St.hall ⟨[], bl, pre' ++ post'⟩)) (hk : ∀ v A, post v A → K v bl (pre' ++ A :: post')) : VCcall P E f args ⟨[], bl, pre' ++ A0 :: post'⟩ K := by
  have perm : ∀ A : Hp, (St.hall ⟨[], bl, pre' ++ A :: post'⟩).Perm (A ++ St.hall ⟨[], bl, pre' ++ post'⟩) := by
    intro A
    simp only [St.hall, List.flatten_append, List.flatten_cons]
    rw [← List.append_assoc, ← List.append_assoc, ← List.append_assoc, ← List.append_assoc]
    refine List.Perm.append_right _ ?_
    have := List.perm_append_comm (l₁ := List.map Blk.ent bl ++ pre'.flatten) (l₂ := A)
    simpa only [List.append_assoc] using this
  refine .intro hc.1 (fun w hs => (hc.2 E _ w (hs.perm (perm A0)) hp).mono ?_)
  rintro e w' ⟨v, A, h1, h2, h3⟩
  exact ⟨v, bl, _, h1, h3.perm (perm A).symm, rfl, hk v A h2⟩

end
end Go.SX
