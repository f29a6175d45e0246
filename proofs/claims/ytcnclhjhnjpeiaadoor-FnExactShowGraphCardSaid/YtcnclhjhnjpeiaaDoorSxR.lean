/-
  How arguments read: from the form's reading of data to the executor's; the frame of a law's row. Conditions: none.
-/
import Derived.Test.YtcnclhjhnjpeiaaDoorSxY
import Derived.WalkKit
import Derived.ProofKit
import Derived.OpenShut
namespace Go.SX
open Go.RowKit Go.WideShapes Go.ChangeShapes

/-- How a Go type's values lie in cells, as values of a Lean type. -/
structure Rp (α : Type) where
  size : Nat
  rd : Hp → List Value → α → Prop
  mono : ∀ {H H' : Hp} {l : List Value} {x : α}, (∀ p ∈ H, p ∈ H') → rd H l x → rd H' l x
  len : ∀ {H : Hp} {l : List Value} {x : α}, rd H l x → l.length = size

theorem RdCells.mono {H H' : Hp} {b o n : Nat} {l : List Value} (hh : ∀ p ∈ H, p ∈ H') (h : RdCells H b o n l) : RdCells H' b o n l := by
  obtain ⟨h1, cs, T, fz, h2, h3⟩ := h
  exact ⟨h1, cs, T, fz, hh _ h2, h3⟩

def okI (x : Int) : Prop := -9223372036854775808 ≤ x ∧ x ≤ 9223372036854775807

def rpInt : Rp Int where
  size := 1
  rd _ l x := l = [.int .i64 x] ∧ okI x
  mono _ h := h
  len h := by rw [h.1]; rfl
def rpBool : Rp Bool where
  size := 1
  rd _ l x := l = [.bool x]
  mono _ h := h
  len h := by rw [h]; rfl
def rpByte : Rp UInt8 where
  size := 1
  rd _ l x := l = [.int .u8 x.toNat]
  mono _ h := h
  len h := by rw [h]; rfl
def rpStr : Rp ByteArray where
  size := 1
  rd _ l x := l = [.string x] ∧ x.size ≤ 9223372036854775807
  mono _ h := h
  len h := by rw [h.1]; rfl
/-- a slice: its header, and each element where it lies -/
def rpSl {α : Type} (r : Rp α) : Rp (List α) where
  size := 1
  rd H l xs := ∃ base cap, l = [.slice base xs.length cap] ∧ (xs.length ≤ cap ∧ xs.length ≤ 9223372036854775807) ∧
    ∀ i (h : i < xs.length), ∃ b o l', base = some ⟨b, o, none⟩ ∧ RdCells H b (o + i * r.size) r.size l' ∧ r.rd H l' xs[i]
  mono hh h := by
    obtain ⟨base, cap, h1, h2, h3⟩ := h
    refine ⟨base, cap, h1, h2, fun i hi => ?_⟩
    obtain ⟨b, o, l', h4, h5, h6⟩ := h3 i hi
    exact ⟨b, o, l', h4, h5.mono hh, r.mono hh h6⟩
  len h := by obtain ⟨_, _, h1, _⟩ := h; rw [h1]; rfl

def Cov (w : World) (H : Hp) : Prop := ∀ b c t fz, w.heap[b]? = some (.cells c t fz) → (b, Obj.cells c t fz) ∈ H

def Opens {α : Type} (P : Program) (r : Rp α) (T : TypeId) : Prop :=
  ∀ {H' : Type} (enc : TypeId × Value → H') (w : World) (H : Hp) (sp : Nat → Bool) (hd : Bool) (fuel : Nat) (cs : List Value) (d : DataW H') (ps : List MemPlace), Cov w H →
    DataW.trod enc P w 0 sp hd fuel T cs = some (d, ps) → ∃ x, r.rd H cs x

section
variable {P : Program} {Γ : Ty}

theorem opens_int {T : TypeId} (h : P.underlying T = some (.int .i64)) : Opens P rpInt T := by
  intro H' enc w H sp hd fuel cs d ps _ ht
  obtain ⟨n, e1, _, hw⟩ := DataW.trod_int h ht
  exact ⟨n, e1, by simpa [Lit.wf, IntKind.min, IntKind.max, IntKind.signed, IntKind.bits, okI] using hw⟩
theorem opens_bool {T : TypeId} (h : P.underlying T = some .bool) : Opens P rpBool T := by
  intro H' enc w H sp hd fuel cs d ps _ ht
  obtain ⟨n, e1, _⟩ := DataW.trod_bool h ht
  exact ⟨n, e1⟩
theorem opens_byte {T : TypeId} (h : P.underlying T = some (.int .u8)) : Opens P rpByte T := by
  intro H' enc w H sp hd fuel cs d ps _ ht
  obtain ⟨n, e1, _, hw⟩ := DataW.trod_int h ht
  have hn : 0 ≤ n ∧ n ≤ 255 := by simpa [Lit.wf, IntKind.min, IntKind.max, IntKind.signed, IntKind.bits] using hw
  refine ⟨UInt8.ofNat n.toNat, ?_⟩
  show cs = _
  rw [e1]
  congr 2
  have : (UInt8.ofNat n.toNat).toNat = n.toNat := by simp; omega
  rw [this]; omega
theorem opens_str {T : TypeId} (h : P.underlying T = some .string) : Opens P rpStr T := by
  intro H' enc w H sp hd fuel cs d ps _ ht
  obtain ⟨s, e1, _, hw⟩ := DataW.trod_string h ht
  exact ⟨s, e1, hw⟩

theorem mapM_some {α β : Type} {f : α → Option β} : ∀ {l : List α} {r : List β}, l.mapM f = some r → r.length = l.length ∧ ∀ i (h : i < l.length), f l[i] = r[i]?
  | [], r, h => by simp at h; subst h; exact ⟨rfl, fun i hi => by simp at hi⟩
  | x :: xs, r, h => by
    rw [List.mapM_cons] at h
    cases hx : f x with
    | none => rw [hx] at h; cases h
    | some y =>
      rw [hx] at h
      cases hxs : xs.mapM f with
      | none => simp [hxs] at h
      | some ys =>
        simp [hxs] at h
        subst h
        obtain ⟨h1, h2⟩ := mapM_some hxs
        refine ⟨by simp [h1], fun i hi => ?_⟩
        cases i with
        | zero => simp [hx]
        | succ i => simp only [List.getElem_cons_succ, List.getElem?_cons_succ]; exact h2 i (by simpa using hi)

theorem rd_of_cells {w : World} {H : Hp} (hc : Cov w H) {a : Addr} {n : Nat} {l : List Value} (h : w.cells? 0 a n = some l) (hn : 0 < n) : a = ⟨a.block, a.off, none⟩ ∧ RdCells H a.block a.off n l := by
  unfold World.cells? at h
  rw [if_pos (Nat.zero_le _)] at h
  obtain ⟨h1, h2⟩ := mapM_some h
  simp only [List.length_range] at h1 h2
  have h0 := h2 0 hn
  simp only [List.getElem_range] at h0
  have hl0 : l[0]? ≠ none := by rw [List.getElem?_eq_getElem (by omega)]; simp
  have hsp : a.spot = none := by
    cases hs : a.spot with
    | none => rfl
    | some x =>
      exfalso
      apply hl0
      rw [← h0]
      unfold Addr.add World.cell?
      simp only [if_true]
      split
      · simp [hs]
      · rfl
  have ha : a = ⟨a.block, a.off, none⟩ := by cases a; simp_all
  refine ⟨ha, h1, ?_⟩
  have hc0 : w.cell? ⟨a.block, a.off, none⟩ ≠ none := by
    rw [← ha]
    have e : a.add 0 = a := by unfold Addr.add; simp
    rw [e] at h0
    rw [h0]; exact hl0
  unfold World.cell? at hc0
  simp only at hc0
  split at hc0
  · rename_i cs T fz hb
    refine ⟨cs, T, fz, hc _ _ _ _ hb, fun i hi => ?_⟩
    have := h2 i (by omega)
    simp only [List.getElem_range] at this
    rw [← this, ha, addr_add]
    simp [World.cell?, hb]
  · exact (hc0 rfl).elim

theorem opens_sl {α : Type} {r : Rp α} {T e : TypeId} (h : P.underlying T = some (.slice e)) (hs : P.cellsOf e = r.size) (hp : 0 < r.size) (ho : Opens P r e) : Opens P (rpSl r) T := by
  intro H' enc w H sp hd fuel cs d ps hc ht
  rcases DataW.trod_slice h ht with ⟨e1, _⟩ | ⟨a, len, cap, elems, rest, n, _, e1, _, _, h2, h3, h4, h5, _, _⟩
  · exact ⟨[], none, 0, e1, ⟨by simp, by simp⟩, fun i hi => by simp at hi⟩
  · have key : ∀ i, i < len → ∃ x b o l', a = ⟨b, o, none⟩ ∧ RdCells H b (o + i * r.size) r.size l' ∧ r.rd H l' x := by
      intro i hi
      have h6 := h5 i hi
      rw [List.getElem?_eq_getElem (by omega), Option.bind_eq_some_iff] at h6
      obtain ⟨l', h7, h8⟩ := h6
      rw [hs] at h7
      obtain ⟨ha, h9⟩ := rd_of_cells hc h7 hp
      obtain ⟨x, hx⟩ := ho enc w H sp hd n l' _ _ hc h8
      obtain ⟨b, o, s⟩ := a
      have hsp : s = none := by
        unfold Addr.add at ha
        split at ha
        · cases ha; rfl
        · rename_i hne
          by_cases hs0 : s = none
          · exact hs0
          · exfalso
            have hcell : w.cells? 0 ⟨b, o, s⟩ r.size ≠ none := by
              have h60 := h5 0 (by omega)
              rw [List.getElem?_eq_getElem (by omega), Option.bind_eq_some_iff] at h60
              obtain ⟨l0, h70, _⟩ := h60
              rw [hs] at h70
              have e0 : (⟨b, o, s⟩ : Addr).add (0 * r.size) = ⟨b, o, s⟩ := by simp [Addr.add]
              rw [e0] at h70
              rw [h70]; simp
            cases hcc : w.cells? 0 ⟨b, o, s⟩ r.size with
            | none => exact hcell hcc
            | some l0 =>
              obtain ⟨ha0, _⟩ := rd_of_cells hc hcc hp
              cases ha0
              exact hs0 rfl
      subst hsp
      refine ⟨x, b, o, l', rfl, ?_, hx⟩
      rw [addr_add] at h9
      exact h9
    have hex : ∃ xs : List α, xs.length = len ∧ ∀ i (hi : i < xs.length), ∃ b o l', a = ⟨b, o, none⟩ ∧ RdCells H b (o + i * r.size) r.size l' ∧ r.rd H l' xs[i] := by
      clear h5 h4 e1 h2
      have : ∀ m, m ≤ len → ∃ xs : List α, xs.length = m ∧ ∀ i (hi : i < xs.length), ∃ b o l', a = ⟨b, o, none⟩ ∧ RdCells H b (o + i * r.size) r.size l' ∧ r.rd H l' xs[i] := by
        intro m
        induction m with
        | zero => intro _; exact ⟨[], rfl, fun i hi => by simp at hi⟩
        | succ m ih =>
          intro hm
          obtain ⟨xs, hx1, hx2⟩ := ih (by omega)
          obtain ⟨x, hx3⟩ := key m (by omega)
          refine ⟨xs ++ [x], by simp [hx1], fun i hi => ?_⟩
          by_cases him : i < xs.length
          · rw [List.getElem_append_left him]; exact hx2 i him
          · have : i = m := by simp at hi; omega
            subst this
            obtain ⟨b, o, l', g1, g2, g3⟩ := hx3
            refine ⟨b, o, l', g1, g2, ?_⟩
            rw [List.getElem_append_right (by omega)]
            simpa [hx1] using g3
      exact this len (Nat.le_refl _)
    obtain ⟨xs, hx1, hx2⟩ := hex
    refine ⟨xs, some a, cap, by rw [e1, hx1], by rw [hx1]; unfold maxLen at h3; omega, fun i hi => ?_⟩
    obtain ⟨b, o, l', g1, g2, g3⟩ := hx2 i hi
    exact ⟨b, o, l', by rw [g1], g2, g3⟩

/-- the fields of a struct, each read where it lies -/
theorem trod_fields {fl : List (Nat × TypeId)} {T : TypeId} (h : UD.ok P T (.struct fl)) {H' : Type} {enc : TypeId × Value → H'} {w : World} {sp : Nat → Bool} {hd : Bool} {fuel : Nat} {cs : List Value} {x : DataW H' × List MemPlace}
    (ht : DataW.trod enc P w 0 sp hd fuel T cs = some x) : cs.length = P.cellsOf T ∧ ∀ (i off ft : Nat), fl[i]? = some (off, ft) → ∃ n y, DataW.trod enc P w 0 sp hd n ft ((cs.drop off).take (P.cellsOf ft)) = some y := by
  obtain ⟨fs, hu, hfl⟩ := h
  obtain ⟨xs, n, _, _, h1, h2, h3⟩ := DataW.trod_struct hu ht
  refine ⟨h1, fun i off ft hi => ?_⟩
  rw [← hfl] at hi
  simp only [List.getElem?_map, Option.map_eq_some_iff] at hi
  obtain ⟨f, hf1, hf2⟩ := hi
  cases hf2
  have hf : fs[i]? = some f := by simpa using hf1
  have hlt : i < xs.length := by rw [h2]; exact (Array.getElem?_eq_some_iff.1 hf).1
  exact ⟨n, xs[i], by rw [h3 i f hf, List.getElem?_eq_getElem hlt]⟩

/- all blocks of a world -/
def allOf (w : World) : Hp := (List.range w.heap.size).filterMap fun b => (w.heap[b]?).map fun o => (b, o)
theorem mem_allOf {w : World} {b : Nat} {o : Obj} : (b, o) ∈ allOf w ↔ w.heap[b]? = some o := by
  unfold allOf
  simp only [List.mem_filterMap, List.mem_range, Option.map_eq_some_iff, Prod.mk.injEq]
  constructor
  · rintro ⟨b', _, o', h1, rfl, rfl⟩; exact h1
  · intro h
    exact ⟨b, (Array.getElem?_eq_some_iff.1 h).1, o, h, rfl, rfl⟩
theorem nodup_allOf (w : World) : ((allOf w).map (·.1)).Nodup := by
  have : (allOf w).map (·.1) = List.range w.heap.size := by
    unfold allOf
    rw [List.map_filterMap]
    have : ∀ l : List Nat, (∀ b ∈ l, b < w.heap.size) → l.filterMap (fun b => Option.map (·.1) ((w.heap[b]?).map fun o => (b, o))) = l := by
      intro l
      induction l with
      | nil => intro _; rfl
      | cons b r ih =>
        intro hb
        have h0 : b < w.heap.size := hb b (by simp)
        rw [List.filterMap_cons]
        simp only [Array.getElem?_eq_getElem h0, Option.map_some]
        rw [ih (fun c hc => hb c (by simp [hc]))]
    exact this _ (fun b hb => by simpa using hb)
  rw [this]
  exact List.nodup_range
theorem sat_allOf (w : World) : Sat w (allOf w) w := ⟨rfl, rfl, rfl, fun _ _ h => mem_allOf.1 h, nodup_allOf w, Nat.le_refl _⟩
theorem cov_allOf (w : World) : Cov w (allOf w) := fun _ _ _ _ h => mem_allOf.2 h

theorem below_of_sat {W W' : World} {A : Hp} (h : Sat W (A ++ allOf W) W') : Below W.heap.size W W' := by
  have hb : ∀ k, k < W.heap.size → W'.heap[k]? = W.heap[k]? := by
    intro k hk
    have h1 : W.heap[k]? = some W.heap[k] := Array.getElem?_eq_getElem hk
    rw [h1]
    exact h.mem _ _ (List.mem_append_right _ (mem_allOf.2 h1))
  refine ⟨h.os, h.tape, h.out, ?_, hb⟩
  rcases Nat.lt_or_ge W'.heap.size W.heap.size with hlt | hge
  · exfalso
    have := hb W'.heap.size hlt
    rw [Array.getElem?_eq_none (Nat.le_refl _), Array.getElem?_eq_getElem hlt] at this
    cases this
  · exact hge

theorem trodAll_stays {H' : Type} {enc : TypeId × Value → H'} (hl : laidOutB P = true) {W W' : World} {sp' : Nat → Bool} : ∀ {ts : List TypeId} {vs : List Value} {ds : List (DataW H')} {ps : List MemPlace},
    ts.all (fun t => P.readableRec t && decide (t < P.types.size)) = true → DataW.TrodAll enc P W 0 (fun _ => true) true ts vs ds ps → (∀ p ∈ ps, W.sameAt W' p) → (∀ p ∈ ps, sp' p.block = true) → DataW.TrodAll enc P W' 0 sp' true ts vs ds ps
  | [], [], [], _, _, h, _, _ => h
  | t :: ts, _ :: _, _ :: _, _, hr, ⟨p, q, h1, h2, e⟩, hs, hsp => by
    simp only [List.all_cons, Bool.and_eq_true, decide_eq_true_eq] at hr
    subst e
    exact ⟨p, q, WideElems.Trod_stays hl hr.1.1 hr.1.2 h1 (fun x hx => hs x (List.mem_append_left _ hx)) (fun x hx => hsp x (List.mem_append_left _ hx)),
      trodAll_stays hl (by simpa using hr.2) h2 (fun x hx => hs x (List.mem_append_right _ hx)) (fun x hx => hsp x (List.mem_append_right _ hx)), rfl⟩

/-- THE ROW OF A LAW OUT OF ITS CONTRACT. -/
theorem law_of_ct {H' : Type} {enc : TypeId × Value → H'} {f : FuncId} {fn : Func} {s : ChangeSpec} {Tb : TypeId} (hl : laidOutB P = true)
    (hp : fn.params.toList.all (fun t => P.readableRec t && decide (t < P.types.size)) = true) (hres : fn.resultTypes = #[Tb]) (hTb : P.underlying Tb = some .bool)
    (hvars : s.vars = []) {W : World} {args : Array Value} {ds gs : List (DataW H')} {before : List MemPlace}
    (hspec : s.fn H' (ds ++ gs) = { results := [.lit (.bool true)], args := ds ++ gs, vars := [] })
    (hW : DataW.Whole enc P fn.params.toList s.vars false W args.toList ds gs before)
    {pre : Hp → Prop} (hpre : pre (allOf W)) (hct : Ct P f args.toList [] pre (fun v A => v = .bool true ∧ A = [])) :
    Calls P f args W fun e W' => ∃ v, e = .returned v ∧ s.post enc P fn false true false false W args v W' := by
  have hc := hct.2 W (allOf W) W (by simpa using sat_allOf W) (by simpa using hpre)
  refine Calls.mono hc ?_
  rintro e W' ⟨v, A, rfl, ⟨rfl, rfl⟩, hs⟩
  refine ⟨_, rfl, ?_⟩
  have hb := below_of_sat hs
  have hlt : ∀ p ∈ before, p.block < W.heap.size := fun p hp => hW.lt p hp
  have hWc := hW
  obtain ⟨p, q, hA, hV, rfl, hz, hn⟩ := hWc
  rw [hvars] at hV
  have hgs : gs = [] ∧ q = [] := by
    cases gs with
    | nil => exact ⟨rfl, hV⟩
    | cons _ _ => exact hV.elim
  obtain ⟨rfl, rfl⟩ := hgs
  have hsame : ∀ x ∈ p, W.sameAt W' x := fun x hx => hb.same (hlt x (List.mem_append_left _ hx))
  have hargs : ∀ sp : Nat → Bool, (∀ x ∈ p, sp x.block = true) → DataW.TrodAll enc P W' 0 sp true fn.params.toList args.toList ds p := fun sp hsp => trodAll_stays hl hp hA hsame hsp
  have hresT : ∀ (b : Nat) (sp : Nat → Bool) (hd : Bool), DataW.TrodAll enc P W' b sp hd fn.resultTypes.toList ((Value.bool true).resultList fn.resultTypes.size) [.lit (.bool true)] [] := by
    intro b sp hd
    rw [hres]
    exact ⟨[], [], shut_bool hTb true, rfl, rfl⟩
  rw [List.append_nil] at hspec
  refine ⟨ds, [], p ++ [], [], p, [], hW, ?_, ?_, ?_, World.keptBut_mono (fun x hx => ⟨hx, ?_⟩) (hb.frame (· ∈ p ++ [])), fun h => by cases h⟩
  · rw [List.append_nil, hspec]; exact hresT _ _ _
  · rw [List.append_nil, hspec]; exact hargs _ (fun x hx => by simpa using hlt x (List.mem_append_left _ hx))
  · rw [List.append_nil, hspec, hvars]; rfl
  · simpa using hx

def rdV {α : Type} (agg : Bool) (r : Rp α) (H : Hp) (v : Value) (x : α) : Prop :=
  match agg with
  | true => ∃ l, v = .agg ⟨l⟩ ∧ r.rd H l x
  | false => r.rd H [v] x

theorem rdV_of {α : Type} {r : Rp α} {Γ : Ty} (hΓ : TyOk P Γ) {T : TypeId} {ti : TI} (ht : tyOf Γ T = some ti) (hk : ∀ a b, ti.und ≠ .map a b) (hk2 : ti.und ≠ .func) (hk3 : ∀ e, ti.und ≠ .pointer e) (ho : Opens P r T) {H' : Type} {enc : TypeId × Value → H'} {w : World} {H : Hp} (hc : Cov w H)
    {sp : Nat → Bool} {hd : Bool} {v : Value} {d : DataW H'} {ps : List MemPlace} {rr : Reach} {b0 : Nat} (hv : Value.okWide P w rr b0 T v) (h : DataW.Trod enc P w 0 sp hd T v d ps) : ∃ x, rdV ti.agg r H v x := by
  obtain ⟨fuel, hf⟩ := h
  obtain ⟨x, hx⟩ := ho enc w H sp hd fuel _ _ _ hc hf
  refine ⟨x, ?_⟩
  have hu := (hΓ _ _ ht).1
  obtain ⟨u, s1, b1, z1⟩ := ti
  cases u <;> simp only [UD.ok, TI.agg] at hu ⊢
  case bool => obtain ⟨b, rfl⟩ := okWide_bool hu hv; exact hx
  case int => obtain ⟨b, rfl⟩ := okWide_int hu hv; exact hx
  case string => obtain ⟨b, rfl⟩ := okWide_string hu hv; exact hx
  case slice => obtain ⟨b, _, _, rfl⟩ := okWide_slice hu hv; exact hx
  case struct =>
    obtain ⟨fs, hu, _⟩ := hu
    obtain ⟨cs, rfl, _⟩ := okWide_struct hu hv
    exact ⟨cs.toList, rfl, hx⟩
  case pointer => exact (hk3 _ rfl).elim
  case map => exact (hk _ _ rfl).elim
  case func => exact (hk2 rfl).elim

end
end Go.SX
