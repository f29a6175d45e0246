/-
  Contracts of functions that write: what they ask of the rest of the memory stands apart from what they own. Fields: a part of a value that may be read, written, or handed on alone. Bytes and texts. What the texts over the laws' types share. The types of the laws: how their values lie, and the laws' helpers over them (printed by gent.py). Conditions: none.
-/
import Derived.Test.YtcnclhjhnjpeiaaGreatDoorZb1

namespace Go.SX
def CtR (P : Program) (f : FuncId) (args : List Value) (A0 : Hp) (pre : Hp → Prop) (post : Value → Hp → Prop) : Prop :=
  (∃ fn, P.funcs[f]? = some fn ∧ fn.name ≠ "runtime.NumGoroutine" ∧ fn.body.isSome = true) ∧
  ∀ E H w, Sat E (A0 ++ H) w → pre H → Calls P f ⟨args⟩ w fun e w' => ∃ v A, e = .returned v ∧ post v A ∧ Sat E (A ++ H) w'
def delBlk : List Blk → Nat → List Blk
  | [], _ => []
  | _ :: r, 0 => r
  | b :: r, i + 1 => b :: delBlk r i
theorem delBlk_perm : ∀ {bl : List Blk} {h : Nat} {b : Blk}, nthBlk bl h = some b → bl.Perm (b :: delBlk bl h)
  | [], _, _, e => by simp [nthBlk] at e
  | b :: r, 0, _, e => by cases e; exact .refl _
  | c :: r, i + 1, b, e => by
    have := delBlk_perm (bl := r) (h := i) (b := b) e
    exact (this.cons c).trans (.swap _ _ _)
theorem setBlk_perm : ∀ {bl bl' : List Blk} {h : Nat} {b : Blk} {cs : List Value}, nthBlk bl h = some b → setBlk bl h cs = some bl' → bl'.Perm (⟨b.id, cs, b.ty⟩ :: delBlk bl h) ∧ bl'.map Blk.id = bl.map Blk.id
  | [], _, _, _, _, e, _ => by simp [nthBlk] at e
  | b :: r, bl', 0, _, cs, e, e' => by
    cases e
    obtain ⟨i, c0, t⟩ := b
    simp only [setBlk, Option.some.injEq] at e'
    subst e'
    exact ⟨.refl _, rfl⟩
  | c :: r, bl', i + 1, b, cs, e, e' => by
    simp only [setBlk] at e'
    split at e'
    · rename_i r' hr'
      cases e'
      obtain ⟨h1, h2⟩ := setBlk_perm (bl := r) (h := i) (b := b) e hr'
      exact ⟨(h1.cons c).trans (.swap _ _ _), by simp [h2]⟩
    cases e'
section
variable {P : Program} {E : World} {Γ : Ty}
theorem Ct.toR {f : FuncId} {args : List Value} {pre : Hp → Prop} {post : Value → Hp → Prop} (h : Ct P f args [] pre post) : CtR P f args [] pre post := h
theorem CtR.intro (hΓ : TyOk P Γ) {f : FuncId} {fn : Func} (L : List Hp) (hf : P.funcs[f]? = some fn) (hn : decide (fn.name = "runtime.NumGoroutine") = false) (hb : fn.body.isSome = true) {args : List Value} (ha : Nat.ble args.length fn.ntmps = true) {A0 : Hp} {pre : Hp → Prop} {post : Value → Hp → Prop}
    (hL : L.flatten = A0) (h : ∀ E H, pre H → exFn P E Γ fn args (L ++ [H]) fun v bl R => ∃ A, post v A ∧ RLe (bl.map Blk.ent :: R) [A, H]) : CtR P f args A0 pre post := by
  refine ⟨⟨fn, hf, of_decide_eq_false hn, hb⟩, fun E H w hs hp => ?_⟩
  refine (exFn_sound hΓ hf ha (h E H hp) (by simpa [hL] using hs)).mono ?_
  rintro e w' ⟨v, bl, R', h1, h2, A, h3, L, h4⟩
  refine ⟨v, A, h1, h3, ?_⟩
  have : (St.hall ⟨[], bl, R'⟩).Perm ((A ++ H) ++ L) := by simpa [St.hall] using h4
  exact (h2.perm this).drop
theorem CtR.introB (hΓ : TyOk P Γ) {f : FuncId} {fn : Func} (svs : List SV) (bl : List Blk) (L : List Hp) (hf : P.funcs[f]? = some fn) (hn : decide (fn.name = "runtime.NumGoroutine") = false) (hb : fn.body.isSome = true) {args : List Value} (ha : Nat.ble svs.length fn.ntmps = true)
    (hargs : svs.map (SV.den bl) = args) (hok : ∀ s ∈ svs, s.ok bl) {A0 : Hp} {pre : Hp → Prop} {post : Value → Hp → Prop}
    (hL : A0.Perm (bl.map Blk.ent ++ L.flatten)) (h : ∀ E H, pre H → exFnS P E Γ fn svs bl (L ++ [H]) fun v bl R => ∃ A, post v A ∧ RLe (bl.map Blk.ent :: R) [A, H]) : CtR P f args A0 pre post := by
  refine ⟨⟨fn, hf, of_decide_eq_false hn, hb⟩, fun E H w hs hp => ?_⟩
  subst hargs
  have hs' : Sat E (St.hall ⟨[], bl, L ++ [H]⟩) w := by
    refine hs.perm ?_
    have := hL.append_right H
    simpa [St.hall, List.append_assoc] using this
  refine (exFnS_sound hΓ hf ha hok (h E H hp) hs').mono ?_
  rintro e w' ⟨v, bl, R', h1, h2, A, h3, L, h4⟩
  refine ⟨v, A, h1, h3, ?_⟩
  have : (St.hall ⟨[], bl, R'⟩).Perm ((A ++ H) ++ L) := by simpa [St.hall] using h4
  exact (h2.perm this).drop
theorem sat_le {X : Hp} {R R' : List Hp} {w : World} (hs : Sat E (X ++ R.flatten) w) (h : RLe R R') : Sat E (X ++ R'.flatten) w := by
  obtain ⟨L, hL⟩ := h
  have : (X ++ R.flatten).Perm ((X ++ R'.flatten) ++ L) := by
    rw [List.append_assoc]; exact hL.append_left X
  exact (hs.perm this).drop
/-- a call with heaplets parted anew: A0 is what it may write, R0 the rest -/
theorem callR_part {f : FuncId} {args : List Value} {bl : List Blk} {R : List Hp} (A0 : Hp) (R0 : List Hp) {pre : Hp → Prop} {post : Value → Hp → Prop} {K : Value → List Blk → List Hp → Prop} (hc : CtR P f args A0 pre post)
    (hR : RLe R (A0 :: R0)) (hp : pre (St.hall ⟨[], bl, R0⟩)) (hk : ∀ v A, post v A → ∃ L, A.Perm L.flatten ∧ K v bl (L ++ R0)) : VCcall P E f args ⟨[], bl, R⟩ K := by
  have perm : ∀ A : Hp, (bl.map Blk.ent ++ (A :: R0).flatten).Perm (A ++ St.hall ⟨[], bl, R0⟩) := by
    intro A
    simp only [St.hall, List.flatten_cons]
    rw [← List.append_assoc, ← List.append_assoc]
    exact List.perm_append_comm.append_right _
  refine .intro hc.1 (fun w hs => (hc.2 E _ w ((sat_le hs hR).perm (perm A0)) hp).mono ?_)
  rintro e w' ⟨v, A, h1, h2, h3⟩
  obtain ⟨L, h4, h5⟩ := hk v A h2
  refine ⟨v, bl, L ++ R0, h1, h3.perm ((perm A).symm.trans ?_), rfl, h5⟩
  simp only [St.hall, List.flatten_cons, List.flatten_append]
  exact (h4.append_right _).append_left _
/-- a call that makes new memory, which is parted -/
theorem call_newP {f : FuncId} {args : List Value} {bl : List Blk} {R : List Hp} {pre : Hp → Prop} {post : Value → Hp → Prop} {K : Value → List Blk → List Hp → Prop} (hc : Ct P f args [] pre post)
    (hp : pre (St.hall ⟨[], bl, R⟩)) (hk : ∀ v A, post v A → ∃ L, A.Perm L.flatten ∧ K v bl (L ++ R)) : VCcall P E f args ⟨[], bl, R⟩ K :=
  callR_part [] R hc.toR (.refl _) hp hk
/-- a call with a pointer to block number h, which owns A1 -/
theorem callR_blk (h : Nat) {f : FuncId} {args : List Value} {bl : List Blk} {R : List Hp} (A1 : Hp) (R0 : List Hp) {b : Blk} {pre : Hp → Prop} {post : Value → Hp → Prop} {K : Value → List Blk → List Hp → Prop} (hb : nthBlk bl h = some b)
    (hR : RLe R (A1 :: R0)) (hc : CtR P f args ((b.id, Obj.cells ⟨b.cs⟩ b.ty) :: A1) pre post) (hp : pre (St.hall ⟨[], delBlk bl h, R0⟩))
    (hk : ∀ v A, post v A → ∃ cs' bl' L, setBlk bl h cs' = some bl' ∧ A.Perm ((b.id, Obj.cells ⟨cs'⟩ b.ty) :: L.flatten) ∧ K v bl' (L ++ R0)) : VCcall P E f args ⟨[], bl, R⟩ K := by
  have hbl := (delBlk_perm hb).map Blk.ent
  refine .intro hc.1 (fun w hs => (hc.2 E _ w ((sat_le hs hR).perm ?_) hp).mono ?_)
  · refine (hbl.append_right _).trans ?_
    simp only [List.map_cons, St.hall, List.flatten_cons, List.cons_append]
    refine .cons _ ?_
    rw [← List.append_assoc, ← List.append_assoc]
    exact List.perm_append_comm.append_right _
  rintro e w' ⟨v, A, h1, h2, h3⟩
  obtain ⟨cs', bl', L, h4, h5, h6⟩ := hk v A h2
  obtain ⟨g1, g2⟩ := setBlk_perm hb h4
  refine ⟨v, bl', L ++ R0, h1, h3.perm ?_, g2, h6⟩
  have g3 := (g1.map Blk.ent).symm
  refine List.Perm.trans ?_ (g3.append_right _)
  refine (h5.append_right _).trans ?_
  simp only [List.map_cons, St.hall, List.flatten_append, List.cons_append, Blk.ent]
  refine .cons _ ?_
  rw [← List.append_assoc, ← List.append_assoc]
  exact List.perm_append_comm.append_right _
end
end Go.SX

namespace Go.SX
theorem u8_wrap (x : Int) : IntKind.u8.wrap x = x % 256 := by
  unfold IntKind.wrap
  simp [IntKind.bits, IntKind.signed]
theorem str_inj {a b : ByteArray} : a.toList = b.toList ↔ a = b := by
  constructor
  · intro h
    rw [ByteArray.toList_eq, ByteArray.toList_eq] at h
    obtain ⟨⟨a⟩⟩ := a; obtain ⟨⟨b⟩⟩ := b
    cases h; rfl
  rintro rfl; rfl
theorem u8_inj {a b : UInt8} : ((a.toNat : Nat) : Int) = (b.toNat : Nat) ↔ a = b := by
  constructor
  · intro h
    exact UInt8.toNat_inj.1 (by omega)
  rintro rfl; rfl
theorem setAt_whole (l l' : List Value) (h : l'.length = l.length) : setAt l 0 l' = l' := by
  rw [setAt_eq _ _ _ (by omega)]
  simp [h]
section
variable {α β γ : Type}
/-- the cells from d on of a value under g are a value under h -/
structure Fld (g : Gt α) (h : Gt β) (get : α → β) (upd : α → β → α) (d : Nat) : Prop where
  fit : d + h.size ≤ g.size
  rd : ∀ {H : Hp} {l : List Value} {x : α}, g.rd H l x → h.rd H ((l.drop d).take h.size) (get x)
  ow : ∀ {l : List Value} {x : α} {A : Hp}, g.ow l x A → ∃ Af Ar, A.Perm (Af ++ Ar) ∧ h.ow ((l.drop d).take h.size) (get x) Af ∧ ∀ l' y B, h.ow l' y B → g.ow (setAt l d l') (upd x y) (B ++ Ar)
theorem Fld.id (g : Gt α) : Fld g g (fun x => x) (fun _ y => y) 0 where
  fit := by omega
  rd h := by
    have e := g.len h
    rw [List.drop_zero, ← e, List.take_length]; exact h
  ow h := by
    have e := g.len (g.owrd h)
    refine ⟨_, [], by rw [List.append_nil], by rw [List.drop_zero, ← e, List.take_length]; exact h, fun l' y B hB => ?_⟩
    have e' := g.len (g.owrd hB)
    rw [setAt_whole _ _ (by omega), List.append_nil]; exact hB
variable {P : Program} {E : World} {Γ : Ty} {n : Nat} {g : Gt α} {T : TypeId}
/-- a call that gives no memory; of its answer Q is known -/
theorem call_q {Q : Value → Prop} {f : FuncId} {args : List Value} {bl : List Blk} {R : List Hp} {pre : Hp → Prop} {K : Value → List Blk → List Hp → Prop} (hc : Ct P f args [] pre (fun v A => Q v ∧ A = []))
    (hp : pre (St.hall ⟨[], bl, R⟩)) (hk : ∀ v, Q v → K v bl R) : VCcall P E f args ⟨[], bl, R⟩ K := by
  refine call_newP hc hp ?_
  rintro v A ⟨h, rfl⟩
  exact ⟨[], by simp, hk v h⟩
/-- a plain part is stored -/
theorem Fld.st {h : Gt β} {get : α → β} {upd : α → β → α} {d : Nat} (F : Fld g h get upd d) {x : α} {v : β} {l : List Value} (hpl : ∀ l y A, h.ow l y A → A = []) (ho : h.ow l v []) :
    ∀ lx Ax, g.ow lx x Ax → d + l.length ≤ g.size ∧ ∃ Ay, g.ow (setAt lx d l) (upd x v) Ay ∧ Ax.Perm Ay := by
  intro lx Ax hx
  have e := h.len (h.owrd ho)
  obtain ⟨Af, Ar, h1, h2, h3⟩ := F.ow hx
  have := hpl _ _ _ h2
  subst this
  exact ⟨by rw [e]; exact F.fit, _, h3 l v [] ho, h1⟩
/-- a plain part of an element of an owned slice is stored -/
theorem gstoreN {h : Gt β} {get : α → β} {upd : α → β → α} {d : Nat} (F : Fld g h get upd d) (z : α) (k : Nat) {R : List Hp} {A : Hp} {base : Option Addr} {m cap : Nat} {xs : List α} {i : Int} {b o off : Nat} {l : List Value} {G : List Hp → Prop} (j : Nat) (hj : nthR R j = some A) (hk : i = (k : Int)) (ho : (gSl T g).ow [.slice base m cap] xs A)
    (h0 : 0 ≤ i) (h1 : i < xs.length) (hb : base = some ⟨b, o, none⟩) (hoff : off = o + i.toNat * g.size + d) (hpl : ∀ l y A, h.ow l y A → A = []) (y : β) (hy : h.ow l y [])
    (c : ∀ A', (gSl T g).ow [.slice base m cap] (xs.set k (upd (xs[k]?.getD z) y)) A' → G (setR R j A')) : VCstore R b off l G := by
  subst hk
  refine gstore j hj ho h0 h1 hb d hoff (upd (xs[k]?.getD z) y) ?_ fun A' _ o => c A' (by simpa using o)
  have : xs[(k : Int).toNat]'(by omega) = xs[k]?.getD z := by
    have hlt : k < xs.length := by omega
    simp [List.getElem?_eq_getElem hlt]
  rw [this]
  exact F.st hpl hy
theorem gstore1N (k : Nat) {R : List Hp} (A B : Hp) (Rr : List Hp) {base : Option Addr} {m cap : Nat} {xs : List α} {i : Int} {b o off : Nat} {l : List Value} {G : List Hp → Prop} (hR : RLe R (A :: B :: Rr)) (hk : i = (k : Int)) (h : (gSl T g).ow [.slice base m cap] xs A)
    (h0 : 0 ≤ i) (h1 : i < xs.length) (hb : base = some ⟨b, o, none⟩) (hoff : off = o + i.toNat * g.size) (y : α) (hy : g.ow l y B)
    (c : ∀ A', (gSl T g).ow [.slice base m cap] (xs.set k y) A' → G (A' :: Rr)) : VCstore R b off l G := by
  subst hk
  exact gstore1 A B Rr hR h h0 h1 hb hoff y hy fun A' o => c A' (by simpa using o)
/-- an owned slice whose element number k is x -/
def OwE (T : TypeId) (g : Gt α) (base : Option Addr) (m cap : Nat) (xs : List α) (k : Nat) (x : α) (A : Hp) : Prop :=
  k < xs.length ∧ (gSl T g).ow [.slice base m cap] (xs.set k x) A
theorem OwE.mk {base : Option Addr} {m cap : Nat} {xs : List α} {A : Hp} (z : α) (k : Nat) (h : (gSl T g).ow [.slice base m cap] xs A) (hk : k < xs.length) :
    ∃ x, x = xs[k]?.getD z ∧ OwE T g base m cap xs k x A := by
  refine ⟨_, rfl, hk, ?_⟩
  have : xs.set k (xs[k]?.getD z) = xs := by
    rw [List.getElem?_eq_getElem hk, Option.getD_some, List.set_getElem_self]
  rw [this]; exact h
theorem OwE.done {base : Option Addr} {m cap : Nat} {xs : List α} {A : Hp} {k : Nat} {x : α} {ys : List α} (h : OwE T g base m cap xs k x A) (e : xs.set k x = ys) : (gSl T g).ow [.slice base m cap] ys A := e ▸ h.2
theorem loop_stepA {ε : Type} {st' : St} {I : ε → Prop} {μ : ε → Nat} {J : ε → St} {m0 : Nat} (x : ε) (h3 : RLe st'.R (J x).R) (h1 : FrLe st'.bl (J x).bl st'.fr (J x).fr) (h2 : BlLe st'.bl (J x).bl) (h4 : I x) (h5 : μ x < m0) :
    ∃ x', I x' ∧ μ x' < m0 ∧ Weak st' (J x') := ⟨x, h4, h5, h1, h2, h3⟩
theorem gI_pl : ∀ l y A, gI.ow l y A → A = [] := fun _ _ _ h => h.2.2
theorem fl_pl {f : Fl α} {mk : Int → α} {sz : α → Nat} : ∀ l y A, (f.gt mk sz).ow l y A → A = [] := fun _ _ _ h => h.2.2
end
end Go.SX

namespace Go.SX
theorem strOfNums_u8 (xs : List UInt8) : strOfNums (xs.map fun x => (x.toNat : Int)) = ⟨xs.toArray⟩ := by
  unfold strOfNums
  congr 2
  rw [List.map_map]
  conv => rhs; rw [← List.map_id xs]
  apply List.map_congr_left
  intro x _
  simp
section
variable {P : Program} {E : World} {Γ : Ty} {n : Nat}
/-- a slice of bytes becomes a text -/
theorem conv_bs (hΓ : TyOk P Γ) (xs : List UInt8) {dst : Option Nat} {x : Operand} {t u e ty : TypeId} {pos : String} {after : Array Edge} {guard : Option (Nat × Bool)} {fr : Fr} {bl : List Blk} {R : List Hp} {K : St → Prop}
    {base : Option Addr} {m cap : Nat} (hx1 : getK fr x fun sv => sv = .v (.slice base m cap)) (hr : (rpSl flByte.rp).rd (St.hall ⟨[], bl, R⟩) [.slice base m cap] xs)
    (ht : undOf Γ t = some (.slice e)) (he : undOf Γ e = some (.int .u8)) (hu : undOf Γ u = some .string)
    (hk : putK n fr dst (.v (.string ⟨xs.toArray⟩)) fun fr => K ⟨fr, bl, R⟩) : VCraw P E n ⟨dst, .convert t u x, ty, pos, after, guard⟩ ⟨fr, bl, R⟩ K := by
  refine ⟨fun a w hrel Q => ?_⟩
  obtain ⟨sv, g1, _, rfl⟩ := getK_sound hrel hx1
  refine wp_value (s := .v _) (v := .string ⟨xs.toArray⟩) ?_ hrel rfl trivial hk
  have key : (convert t u (.slice base m cap)).run P w = .ok (.string ⟨xs.toArray⟩) w := by
    obtain ⟨base', cap', e1, h1, h2⟩ := hr
    cases e1
    have ht' := undOf_ok hΓ ht
    have he' := undOf_ok hΓ he
    have hu' := undOf_ok hΓ hu
    cases xs with
    | nil =>
      rw [run_convert_bytes_string w t u e _ _ _ ht' he' hu']
      cases base with
      | none => rfl
      | some a => exact run_bytesToString w a 0 cap [] rfl
    | cons x0 r =>
      obtain ⟨b, o, l', hb, hc, _⟩ := h2 0 (by simp)
      subst hb
      rw [← strOfNums_u8]
      refine run_convert_bytes_arg w t e ht' he' b o (x0 :: r).length cap ((x0 :: r).map fun x => (x.toNat : Int)) (by simp) (fun i hi => ?_) u hu'
      obtain ⟨b2, o2, l2, hb2, hc2, hl2, _⟩ := h2 i hi
      cases hb2
      obtain ⟨_, cs, T, fz, k1, k2⟩ := hc2
      have k3 := k2 0 (by show 0 < 1; omega)
      rw [hrel.sat.cell k1]
      have e2 : flByte.rp.size = 1 := rfl
      rw [e2, Nat.mul_one, Nat.add_zero] at k3
      rw [k3, hl2, List.getD_eq_getElem?_getD, List.getElem?_map, List.getElem?_eq_getElem hi]
      rfl
  simp only [execOp, g1, SV.den, Sem.run_bind, key, Sem.run_pure, Result.andThen_ok]
theorem bsz (l : List UInt8) : (⟨l.toArray⟩ : ByteArray).size = l.length := by simp [ByteArray.size]
def inU8 : List Int → Prop
  | [] => True
  | v :: r => (0 ≤ v ∧ v < 256) ∧ inU8 r
theorem lit_bs (vs : List Int) {b : Nat} {e : TypeId} {H : Hp} {cs : List Value} (hm : (b, Obj.cells ⟨cs⟩ e) ∈ H) (hc : cs = vs.map fun v => Value.int .u8 v) (h : inU8 vs) (hl : vs.length ≤ 9223372036854775807) : (rpSl flByte.rp).rd H [.slice (some ⟨b, 0, none⟩) vs.length vs.length] (vs.map fun v => UInt8.ofNat v.toNat) := by
  subst hc
  refine ⟨some ⟨b, 0, none⟩, vs.length, by simp, by simpa using hl, fun i hi => ?_⟩
  have hi' : i < vs.length := by simpa using hi
  refine ⟨b, 0, [.int .u8 vs[i]], rfl, ⟨rfl, _, _, _, hm, fun j hj => ?_⟩, ?_, trivial⟩
  · have : j = 0 := by have : j < 1 := hj; omega
    subst this
    have e2 : flByte.rp.size = 1 := rfl
    simp [e2, hi']
  have key : ∀ (vs : List Int) (i : Nat) (hi : i < vs.length), inU8 vs → 0 ≤ vs[i] ∧ vs[i] < 256 := by
    intro vs
    induction vs with
    | nil => intro i hi; simp at hi
    | cons v r ih =>
      intro i hi h
      cases i with
      | zero => exact h.1
      | succ i => exact ih i (by simpa using hi) h.2
  have := key vs i hi' h
  show [Value.int .u8 vs[i]] = [.int .u8 ((vs.map fun v => UInt8.ofNat v.toNat)[i]).toNat]
  rw [List.getElem_map]
  simp; omega
end
end Go.SX

namespace Go.Proofs.YtcnclhjhnjpeiaaGreatDoor
open Go.SX Go.Proofs
theorem mixed : Tryz.prog.follows .mixedOrders = true := by kernel_rfl
theorem rd_len {α : Type} {r : Rp α} {H : Hp} {base : Option Addr} {m cap : Nat} {xs : List α} (h : (rpSl r).rd H [.slice base m cap] xs) : m = xs.length ∧ xs.length ≤ 9223372036854775807 := by
  obtain ⟨_, _, e, h1, _⟩ := h; cases e; exact ⟨rfl, h1.2⟩
theorem take_step {α : Type} (xs : List α) (k : Nat) (z : α) (h : k < xs.length) : (xs.take k ++ List.replicate (xs.length - k) z).set k (xs[k]?.getD z) = xs.take (k + 1) ++ List.replicate (xs.length - (k + 1)) z := by
  rw [List.getElem?_eq_getElem h, Option.getD_some]
  obtain ⟨j, hj⟩ : ∃ j, xs.length - k = j + 1 := ⟨xs.length - k - 1, by omega⟩
  rw [List.set_append_right _ _ (by rw [List.length_take]; omega), hj, show xs.length - (k + 1) = j by omega, List.length_take, show k - min k xs.length = 0 by omega, List.replicate_succ, List.set_cons_zero, ← List.take_append_getElem h, List.append_assoc, List.singleton_append]
theorem take_stepz {α : Type} (xs : List α) (k : Nat) (z z' : α) (h : k < xs.length) : (xs.take k ++ List.replicate (xs.length - k) z').set k (xs[k]?.getD z) = xs.take (k + 1) ++ List.replicate (xs.length - (k + 1)) z' := by
  rw [← take_step xs k z' h, List.getElem?_eq_getElem h, Option.getD_some, Option.getD_some]
theorem eq_step {α : Type} {xs ys : List α} {k : Nat} (z : α) (h : xs.length = ys.length) (he : xs.take k = ys.take k) (hk : k < xs.length) (e : xs[k]?.getD z = ys[k]?.getD z) : xs.take (k + 1) = ys.take (k + 1) := by
  rw [List.getElem?_eq_getElem hk, List.getElem?_eq_getElem (by omega)] at e
  rw [← List.take_append_getElem hk, ← List.take_append_getElem (by omega : k < ys.length), he]
  have e' : xs[k] = ys[k]'(by omega) := e
  rw [e']
/-- a text's mark -/
def dgs : Nat → Nat → ByteArray → ByteArray
  | 0, _, out => out
  | f + 1, k, out => if k = 0 then out else dgs f (k / 10) (⟨#[UInt8.ofNat (48 + k % 10)]⟩ ++ out)
def mtx (k : Int) : ByteArray := if k ≤ 0 then ⟨#[109, 48]⟩ else ⟨#[109]⟩ ++ dgs 20 k.toNat .empty
def gS : Gt ByteArray := flStr.gt mtx fun s => s.size
theorem gS_ow {x : ByteArray} (h : x.size ≤ 9223372036854775807) : gS.ow [.string x] x [] := ⟨rfl, h, rfl⟩
section
variable {α : Type}
def szE (g : Gt α) : List α → Nat
  | [] => 0
  | x :: r => g.sz x + szE g r
theorem szL_eq (g : Gt α) : ∀ xs, szL g xs = xs.length + szE g xs
  | [] => rfl
  | x :: r => by rw [szL, szE, szL_eq g r, List.length_cons]; omega
theorem szE_app (g : Gt α) : ∀ xs ys, szE g (xs ++ ys) = szE g xs + szE g ys
  | [], ys => by simp [szE]
  | x :: r, ys => by simp [szE, szE_app g r]; omega
theorem szE_step (g : Gt α) (xs : List α) (k : Nat) (z : α) (h : k < xs.length) : szE g (xs.take (k + 1)) = szE g (xs.take k) + g.sz (xs[k]?.getD z) := by
  rw [← List.take_append_getElem h, szE_app, List.getElem?_eq_getElem h]; rfl
theorem szE_le (g : Gt α) (xs : List α) (k : Nat) : szE g (xs.take k) ≤ szE g xs := by
  conv => rhs; rw [← List.take_append_drop k xs]
  rw [szE_app]; omega
theorem szE_zero (g : Gt α) (h : ∀ x, g.sz x = 0) : ∀ xs, szE g xs = 0
  | [] => rfl
  | x :: r => by rw [szE, h, szE_zero g h r]
theorem pair_at {β : Type} {g : Gt α} {h : Gt β} {H : Hp} {cs : List Value} {off : Nat} {x : α} {y : β} (h1 : g.rd H ((cs.drop off).take g.size) x) (h2 : h.rd H ((cs.drop (off + g.size)).take h.size) y) :
    (gPair g h).rd H ((cs.drop off).take (g.size + h.size)) (x, y) := by
  refine ⟨_, _, ?_, h1, h2⟩
  rw [List.take_add, List.drop_drop]
end
end Go.Proofs.YtcnclhjhnjpeiaaGreatDoor

--@dev import Derived.Test.YtcnclhjhnjpeiaaGreatDoorSxWalk
namespace Go.Proofs.YtcnclhjhnjpeiaaGreatDoor
open Go.SX Go.Proofs
set_option maxHeartbeats 4000000
set_option linter.unusedSimpArgs false
set_option linter.unusedVariables false
structure Item where
  row : List Int
  times : Int
deriving DecidableEq, Inhabited
def gItem : Gt Item := gIso (SX.gPair (gSl 3 gI) gI) (fun x => (x.row, x.times)) (fun p => ⟨p.1, p.2⟩)
theorem gItem_rd {H : Hp} {l : List Value} {x : Item} : gItem.rd H l x ↔ ∃ (b0 : Option Addr) (c0 : Nat), l = .slice b0 x.row.length c0 :: .int .i64 x.times :: [] ∧ (gSl 3 gI).rd H [.slice b0 x.row.length c0] x.row ∧ okI x.times := by
  constructor
  · rintro ⟨m0, q0, rfl, h0, h1⟩
    obtain ⟨b0, c0, rfl, h0⟩ := sl_rd h0
    obtain ⟨rfl, w1⟩ := h1
    exact ⟨b0, c0, rfl, h0, w1⟩
  rintro ⟨b0, c0, rfl, h0, w1⟩
  exact ⟨[.slice b0 x.row.length c0], [.int .i64 x.times], rfl, h0, ⟨rfl, w1⟩⟩
open Classical in
theorem gItem_ow {A : Hp} {l : List Value} {x : Item} : gItem.ow l x A ↔ ∃ (b0 : Option Addr) (c0 : Nat) (A0 : Hp), l = .slice b0 x.row.length c0 :: .int .i64 x.times :: [] ∧ A.Perm A0 ∧ (gSl 3 gI).ow [.slice b0 x.row.length c0] x.row A0 ∧ okI x.times := by
  constructor
  · rintro ⟨m0, q0, D0, E0, rfl, p0, h0, h1⟩
    obtain ⟨b0, c0, rfl, h0⟩ := sl_ow h0
    obtain ⟨rfl, w1, e1⟩ := h1
    subst e1
    exact ⟨b0, c0, D0, rfl, (perm_cnt fun a => by have e0 := p0.count_eq a; simp only [List.count_append, List.count_nil] at *; omega), h0, w1⟩
  rintro ⟨b0, c0, A0, rfl, hp, h0, w1⟩
  exact ⟨[.slice b0 x.row.length c0], [.int .i64 x.times], A0, [], rfl, (perm_cnt fun a => by have e := hp.count_eq a; simp only [List.count_append, List.count_nil] at *; omega), h0, ⟨rfl, w1, rfl⟩⟩
theorem opens_Item : Opens Tryz.prog gItem.toRp 221 := by
  intro H' enc w H sp hd fuel cs d ps hcov ht
  obtain ⟨h1, h2⟩ := trod_fields ty221_ok.1 ht
  obtain ⟨_, _, t0⟩ := h2 0 0 28 rfl
  obtain ⟨x0, r0⟩ := (opens_sl ty28_ok.1 (by kernel_rfl) (by decide) (opens_fi ty3_ok.1)) _ _ H _ _ _ _ _ _ hcov t0
  rw [show Tryz.prog.cellsOf 28 = 1 by kernel_rfl] at r0
  obtain ⟨_, _, t1⟩ := h2 1 1 3 rfl
  obtain ⟨x1, r1⟩ := (opens_fi ty3_ok.1) _ _ H _ _ _ _ _ _ hcov t1
  rw [show Tryz.prog.cellsOf 3 = 1 by kernel_rfl] at r1
  rw [show Tryz.prog.cellsOf 221 = 2 by kernel_rfl] at h1
  have key : gItem.rd H ((cs.drop 0).take 2) ⟨x0, x1⟩ := (pair_at (g := (gSl 3 gI)) (h := gI) (off := 0) r0 r1)
  rw [List.drop_zero, List.take_of_length_le (by omega)] at key
  exact ⟨_, key⟩
def zItem : Item := ⟨[], 0⟩
theorem zItem_ow : gItem.ow [.slice none 0 0, .int .i64 0] zItem [] := gItem_ow.2 ⟨none, 0, [], rfl, by simp, sl_nil _ _ _, by first | (unfold okI; decide) | decide⟩
theorem gItem_sz (x : Item) : gItem.sz x = szL gI x.row + (0) := rfl
theorem Item.eq_iff {x y : Item} : x = y ↔ x.row = y.row ∧ x.times = y.times := by cases x; cases y; simp
--@gt impl.Item | gItem | default | obtain ⟨b0x#, c0x#, rfl, h0x#, w1x#⟩ := gItem_rd.1 hl# | 0 1 sl gItem_row ; 1 1 pr gItem_times | 2 | 
structure Bag where
  items : List Item
deriving DecidableEq, Inhabited
def gBag : Gt Bag := gIso (gSl 134 gItem) (fun x => x.items) (fun p => ⟨p⟩)
theorem gBag_rd {H : Hp} {l : List Value} {x : Bag} : gBag.rd H l x ↔ ∃ (b0 : Option Addr) (c0 : Nat), l = .slice b0 x.items.length c0 :: [] ∧ (gSl 134 gItem).rd H [.slice b0 x.items.length c0] x.items := by
  constructor
  · rintro h0
    obtain ⟨b0, c0, rfl, h0⟩ := sl_rd h0
    exact ⟨b0, c0, rfl, h0⟩
  rintro ⟨b0, c0, rfl, h0⟩
  exact h0
open Classical in
theorem gBag_ow {A : Hp} {l : List Value} {x : Bag} : gBag.ow l x A ↔ ∃ (b0 : Option Addr) (c0 : Nat) (A0 : Hp), l = .slice b0 x.items.length c0 :: [] ∧ A.Perm A0 ∧ (gSl 134 gItem).ow [.slice b0 x.items.length c0] x.items A0 := by
  constructor
  · rintro h0
    obtain ⟨b0, c0, rfl, h0⟩ := sl_ow h0
    exact ⟨b0, c0, A, rfl, .refl _, h0⟩
  rintro ⟨b0, c0, A0, rfl, hp, h0⟩
  exact gBag.owp (l := _) (x := x) h0 hp
theorem opens_Bag : Opens Tryz.prog gBag.toRp 63 := by
  intro H' enc w H sp hd fuel cs d ps hcov ht
  obtain ⟨h1, h2⟩ := trod_fields ty63_ok.1 ht
  obtain ⟨_, _, t0⟩ := h2 0 0 61 rfl
  obtain ⟨x0, r0⟩ := (opens_sl ty61_ok.1 (by kernel_rfl) (by decide) opens_Item) _ _ H _ _ _ _ _ _ hcov t0
  rw [show Tryz.prog.cellsOf 61 = 1 by kernel_rfl] at r0
  rw [show Tryz.prog.cellsOf 63 = 1 by kernel_rfl] at h1
  have key : gBag.rd H ((cs.drop 0).take 1) ⟨x0⟩ := r0
  rw [List.drop_zero, List.take_of_length_le (by omega)] at key
  exact ⟨_, key⟩
def zBag : Bag := ⟨[]⟩
theorem zBag_ow : gBag.ow [.slice none 0 0] zBag [] := gBag_ow.2 ⟨none, 0, [], rfl, by simp, sl_nil _ _ _⟩
theorem gBag_sz (x : Bag) : gBag.sz x = szL gItem x.items := rfl
theorem Bag.eq_iff {x y : Bag} : x = y ↔ x.items = y.items := by cases x; cases y; simp
--@gt impl.Bag | gBag | default | obtain ⟨b0x#, c0x#, rfl, h0x#⟩ := gBag_rd.1 hl# | 0 1 sl gBag_items | 1 | 
structure Piece where
  op : Int
  label : UInt8
  kids : List Int
deriving DecidableEq, Inhabited
theorem Piece.eq_iff {x y : Piece} : x = y ↔ x.op = y.op ∧ x.label = y.label ∧ x.kids = y.kids := by cases x; cases y; simp
--@gt impl.Piece | gPiece | default | obtain ⟨b2x#, c2x#, rfl, w0x#, h2x#⟩ := gPiece_rd.1 hl# | 0 1 pr gPiece_op ; 1 1 pr gPiece_label ; 2 1 sl gPiece_kids | 3 | 
structure Path where
  pieces : List Piece
deriving DecidableEq, Inhabited
theorem Path.eq_iff {x y : Path} : x = y ↔ x.pieces = y.pieces := by cases x; cases y; simp
--@gt impl.Path | gPath | default | obtain ⟨b0x#, c0x#, rfl, h0x#⟩ := gPath_rd.1 hl# | 0 1 sl gPath_pieces | 1 | 
structure Arc where
  from' : Int
  label : UInt8
  to : Int
deriving DecidableEq, Inhabited
theorem Arc.eq_iff {x y : Arc} : x = y ↔ x.from' = y.from' ∧ x.label = y.label ∧ x.to = y.to := by cases x; cases y; simp
--@gt impl.Arc | gArc | default | obtain ⟨rfl, w0x#, w2x#⟩ := gArc_rd.1 hl# | 0 1 pr gArc_from ; 1 1 pr gArc_label ; 2 1 pr gArc_to | 3 | gArc_own ‹_›
structure Nfa where
  states : Int
  arcs : List Arc
  ends : List Bool
deriving DecidableEq, Inhabited
theorem Nfa.eq_iff {x y : Nfa} : x = y ↔ x.states = y.states ∧ x.arcs = y.arcs ∧ x.ends = y.ends := by cases x; cases y; simp
--@gt impl.Nfa | gNfa | default | obtain ⟨b1x#, c1x#, b2x#, c2x#, rfl, w0x#, h1x#, h2x#⟩ := gNfa_rd.1 hl# | 0 1 pr gNfa_states ; 1 1 sl gNfa_arcs ; 2 1 sl gNfa_ends | 3 | 
structure Atom where
  from' : ByteArray
  path : ByteArray
  to : ByteArray
deriving DecidableEq, Inhabited
def gAtom : Gt Atom := gIso (SX.gPair gS (SX.gPair gS gS)) (fun x => (x.from', (x.path, x.to))) (fun p => ⟨p.1, p.2.1, p.2.2⟩)
theorem gAtom_rd {H : Hp} {l : List Value} {x : Atom} : gAtom.rd H l x ↔ l = .string x.from' :: .string x.path :: .string x.to :: [] ∧ x.from'.size ≤ 9223372036854775807 ∧ x.path.size ≤ 9223372036854775807 ∧ x.to.size ≤ 9223372036854775807 := by
  constructor
  · rintro ⟨m0, q0, rfl, h0, m1, q1, rfl, h1, h2⟩
    obtain ⟨rfl, w0⟩ := h0
    obtain ⟨rfl, w1⟩ := h1
    obtain ⟨rfl, w2⟩ := h2
    exact ⟨rfl, w0, w1, w2⟩
  rintro ⟨rfl, w0, w1, w2⟩
  exact ⟨[.string x.from'], .string x.path :: .string x.to :: [], rfl, ⟨rfl, w0⟩, ⟨[.string x.path], [.string x.to], rfl, ⟨rfl, w1⟩, ⟨rfl, w2⟩⟩⟩
open Classical in
theorem gAtom_ow {A : Hp} {l : List Value} {x : Atom} : gAtom.ow l x A ↔ l = .string x.from' :: .string x.path :: .string x.to :: [] ∧ A.Perm [] ∧ x.from'.size ≤ 9223372036854775807 ∧ x.path.size ≤ 9223372036854775807 ∧ x.to.size ≤ 9223372036854775807 := by
  constructor
  · rintro ⟨m0, q0, D0, E0, rfl, p0, h0, m1, q1, D1, E1, rfl, p1, h1, h2⟩
    obtain ⟨rfl, w0, e0⟩ := h0
    subst e0
    obtain ⟨rfl, w1, e1⟩ := h1
    subst e1
    obtain ⟨rfl, w2, e2⟩ := h2
    subst e2
    exact ⟨rfl, (perm_cnt fun a => by have e0 := p0.count_eq a; have e1 := p1.count_eq a; simp only [List.count_append, List.count_nil] at *; omega), w0, w1, w2⟩
  rintro ⟨rfl, hp, w0, w1, w2⟩
  exact ⟨[.string x.from'], .string x.path :: .string x.to :: [], [], ([] ++ []), rfl, (perm_cnt fun a => by have e := hp.count_eq a; simp only [List.count_append, List.count_nil] at *; omega), ⟨rfl, w0, rfl⟩, ⟨[.string x.path], [.string x.to], [], [], rfl, .refl _, ⟨rfl, w1, rfl⟩, ⟨rfl, w2, rfl⟩⟩⟩
theorem opens_Atom : Opens Tryz.prog gAtom.toRp 149 := by
  intro H' enc w H sp hd fuel cs d ps hcov ht
  obtain ⟨h1, h2⟩ := trod_fields ty149_ok.1 ht
  obtain ⟨_, _, t0⟩ := h2 0 0 9 rfl
  obtain ⟨x0, r0⟩ := (opens_fs ty9_ok.1) _ _ H _ _ _ _ _ _ hcov t0
  rw [show Tryz.prog.cellsOf 9 = 1 by kernel_rfl] at r0
  obtain ⟨_, _, t1⟩ := h2 1 1 9 rfl
  obtain ⟨x1, r1⟩ := (opens_fs ty9_ok.1) _ _ H _ _ _ _ _ _ hcov t1
  rw [show Tryz.prog.cellsOf 9 = 1 by kernel_rfl] at r1
  obtain ⟨_, _, t2⟩ := h2 2 2 9 rfl
  obtain ⟨x2, r2⟩ := (opens_fs ty9_ok.1) _ _ H _ _ _ _ _ _ hcov t2
  rw [show Tryz.prog.cellsOf 9 = 1 by kernel_rfl] at r2
  rw [show Tryz.prog.cellsOf 149 = 3 by kernel_rfl] at h1
  have key : gAtom.rd H ((cs.drop 0).take 3) ⟨x0, x1, x2⟩ := (pair_at (g := gS) (h := (SX.gPair gS gS)) (off := 0) r0 (pair_at (g := gS) (h := gS) (off := 1) r1 r2))
  rw [List.drop_zero, List.take_of_length_le (by omega)] at key
  exact ⟨_, key⟩
def zAtom : Atom := ⟨ByteArray.empty, ByteArray.empty, ByteArray.empty⟩
theorem zAtom_ow : gAtom.ow [.string .empty, .string .empty, .string .empty] zAtom [] := gAtom_ow.2 ⟨rfl, by simp, by first | (unfold okI; decide) | decide, by first | (unfold okI; decide) | decide, by first | (unfold okI; decide) | decide⟩
theorem gAtom_sz (x : Atom) : gAtom.sz x = x.from'.size + (x.path.size + (x.to.size)) := rfl
theorem Atom.eq_iff {x y : Atom} : x = y ↔ x.from' = y.from' ∧ x.path = y.path ∧ x.to = y.to := by cases x; cases y; simp
--@gt impl.Atom | gAtom | default | obtain ⟨rfl, w0x#, w1x#, w2x#⟩ := gAtom_rd.1 hl# | 0 1 pr gAtom_from ; 1 1 pr gAtom_path ; 2 1 pr gAtom_to | 3 | gAtom_own ‹_›
structure Filter where
  left : ByteArray
  op : Int
  right : ByteArray
  num : Int
deriving DecidableEq, Inhabited
def gFilter : Gt Filter := gIso (SX.gPair gS (SX.gPair gI (SX.gPair gS gI))) (fun x => (x.left, (x.op, (x.right, x.num)))) (fun p => ⟨p.1, p.2.1, p.2.2.1, p.2.2.2⟩)
theorem gFilter_rd {H : Hp} {l : List Value} {x : Filter} : gFilter.rd H l x ↔ l = .string x.left :: .int .i64 x.op :: .string x.right :: .int .i64 x.num :: [] ∧ x.left.size ≤ 9223372036854775807 ∧ okI x.op ∧ x.right.size ≤ 9223372036854775807 ∧ okI x.num := by
  constructor
  · rintro ⟨m0, q0, rfl, h0, m1, q1, rfl, h1, m2, q2, rfl, h2, h3⟩
    obtain ⟨rfl, w0⟩ := h0
    obtain ⟨rfl, w1⟩ := h1
    obtain ⟨rfl, w2⟩ := h2
    obtain ⟨rfl, w3⟩ := h3
    exact ⟨rfl, w0, w1, w2, w3⟩
  rintro ⟨rfl, w0, w1, w2, w3⟩
  exact ⟨[.string x.left], .int .i64 x.op :: .string x.right :: .int .i64 x.num :: [], rfl, ⟨rfl, w0⟩, ⟨[.int .i64 x.op], .string x.right :: .int .i64 x.num :: [], rfl, ⟨rfl, w1⟩, ⟨[.string x.right], [.int .i64 x.num], rfl, ⟨rfl, w2⟩, ⟨rfl, w3⟩⟩⟩⟩
open Classical in
theorem gFilter_ow {A : Hp} {l : List Value} {x : Filter} : gFilter.ow l x A ↔ l = .string x.left :: .int .i64 x.op :: .string x.right :: .int .i64 x.num :: [] ∧ A.Perm [] ∧ x.left.size ≤ 9223372036854775807 ∧ okI x.op ∧ x.right.size ≤ 9223372036854775807 ∧ okI x.num := by
  constructor
  · rintro ⟨m0, q0, D0, E0, rfl, p0, h0, m1, q1, D1, E1, rfl, p1, h1, m2, q2, D2, E2, rfl, p2, h2, h3⟩
    obtain ⟨rfl, w0, e0⟩ := h0
    subst e0
    obtain ⟨rfl, w1, e1⟩ := h1
    subst e1
    obtain ⟨rfl, w2, e2⟩ := h2
    subst e2
    obtain ⟨rfl, w3, e3⟩ := h3
    subst e3
    exact ⟨rfl, (perm_cnt fun a => by have e0 := p0.count_eq a; have e1 := p1.count_eq a; have e2 := p2.count_eq a; simp only [List.count_append, List.count_nil] at *; omega), w0, w1, w2, w3⟩
  rintro ⟨rfl, hp, w0, w1, w2, w3⟩
  exact ⟨[.string x.left], .int .i64 x.op :: .string x.right :: .int .i64 x.num :: [], [], ([] ++ ([] ++ [])), rfl, (perm_cnt fun a => by have e := hp.count_eq a; simp only [List.count_append, List.count_nil] at *; omega), ⟨rfl, w0, rfl⟩, ⟨[.int .i64 x.op], .string x.right :: .int .i64 x.num :: [], [], ([] ++ []), rfl, .refl _, ⟨rfl, w1, rfl⟩, ⟨[.string x.right], [.int .i64 x.num], [], [], rfl, .refl _, ⟨rfl, w2, rfl⟩, ⟨rfl, w3, rfl⟩⟩⟩⟩
theorem opens_Filter : Opens Tryz.prog gFilter.toRp 152 := by
  intro H' enc w H sp hd fuel cs d ps hcov ht
  obtain ⟨h1, h2⟩ := trod_fields ty152_ok.1 ht
  obtain ⟨_, _, t0⟩ := h2 0 0 9 rfl
  obtain ⟨x0, r0⟩ := (opens_fs ty9_ok.1) _ _ H _ _ _ _ _ _ hcov t0
  rw [show Tryz.prog.cellsOf 9 = 1 by kernel_rfl] at r0
  obtain ⟨_, _, t1⟩ := h2 1 1 3 rfl
  obtain ⟨x1, r1⟩ := (opens_fi ty3_ok.1) _ _ H _ _ _ _ _ _ hcov t1
  rw [show Tryz.prog.cellsOf 3 = 1 by kernel_rfl] at r1
  obtain ⟨_, _, t2⟩ := h2 2 2 9 rfl
  obtain ⟨x2, r2⟩ := (opens_fs ty9_ok.1) _ _ H _ _ _ _ _ _ hcov t2
  rw [show Tryz.prog.cellsOf 9 = 1 by kernel_rfl] at r2
  obtain ⟨_, _, t3⟩ := h2 3 3 3 rfl
  obtain ⟨x3, r3⟩ := (opens_fi ty3_ok.1) _ _ H _ _ _ _ _ _ hcov t3
  rw [show Tryz.prog.cellsOf 3 = 1 by kernel_rfl] at r3
  rw [show Tryz.prog.cellsOf 152 = 4 by kernel_rfl] at h1
  have key : gFilter.rd H ((cs.drop 0).take 4) ⟨x0, x1, x2, x3⟩ := (pair_at (g := gS) (h := (SX.gPair gI (SX.gPair gS gI))) (off := 0) r0 (pair_at (g := gI) (h := (SX.gPair gS gI)) (off := 1) r1 (pair_at (g := gS) (h := gI) (off := 2) r2 r3)))
  rw [List.drop_zero, List.take_of_length_le (by omega)] at key
  exact ⟨_, key⟩
def zFilter : Filter := ⟨ByteArray.empty, 0, ByteArray.empty, 0⟩
theorem zFilter_ow : gFilter.ow [.string .empty, .int .i64 0, .string .empty, .int .i64 0] zFilter [] := gFilter_ow.2 ⟨rfl, by simp, by first | (unfold okI; decide) | decide, by first | (unfold okI; decide) | decide, by first | (unfold okI; decide) | decide, by first | (unfold okI; decide) | decide⟩
theorem gFilter_sz (x : Filter) : gFilter.sz x = x.left.size + (0 + (x.right.size + (0))) := rfl
theorem Filter.eq_iff {x y : Filter} : x = y ↔ x.left = y.left ∧ x.op = y.op ∧ x.right = y.right ∧ x.num = y.num := by cases x; cases y; simp
--@gt impl.Filter | gFilter | default | obtain ⟨rfl, w0x#, w1x#, w2x#, w3x#⟩ := gFilter_rd.1 hl# | 0 1 pr gFilter_left ; 1 1 pr gFilter_op ; 2 1 pr gFilter_right ; 3 1 pr gFilter_num | 4 | gFilter_own ‹_›
structure Query where
  each : Bool
  out : List ByteArray
  atoms : List Atom
  filters : List Filter
deriving DecidableEq, Inhabited
def gQuery : Gt Query := gIso (SX.gPair gB (SX.gPair (gSl 9 gS) (SX.gPair (gSl 154 gAtom) (gSl 157 gFilter)))) (fun x => (x.each, (x.out, (x.atoms, x.filters)))) (fun p => ⟨p.1, p.2.1, p.2.2.1, p.2.2.2⟩)
theorem gQuery_rd {H : Hp} {l : List Value} {x : Query} : gQuery.rd H l x ↔ ∃ (b1 : Option Addr) (c1 : Nat) (b2 : Option Addr) (c2 : Nat) (b3 : Option Addr) (c3 : Nat), l = .bool x.each :: .slice b1 x.out.length c1 :: .slice b2 x.atoms.length c2 :: .slice b3 x.filters.length c3 :: [] ∧ (gSl 9 gS).rd H [.slice b1 x.out.length c1] x.out ∧ (gSl 154 gAtom).rd H [.slice b2 x.atoms.length c2] x.atoms ∧ (gSl 157 gFilter).rd H [.slice b3 x.filters.length c3] x.filters := by
  constructor
  · rintro ⟨m0, q0, rfl, h0, m1, q1, rfl, h1, m2, q2, rfl, h2, h3⟩
    obtain ⟨rfl, w0⟩ := h0
    obtain ⟨b1, c1, rfl, h1⟩ := sl_rd h1
    obtain ⟨b2, c2, rfl, h2⟩ := sl_rd h2
    obtain ⟨b3, c3, rfl, h3⟩ := sl_rd h3
    exact ⟨b1, c1, b2, c2, b3, c3, rfl, h1, h2, h3⟩
  rintro ⟨b1, c1, b2, c2, b3, c3, rfl, h1, h2, h3⟩
  exact ⟨[.bool x.each], .slice b1 x.out.length c1 :: .slice b2 x.atoms.length c2 :: .slice b3 x.filters.length c3 :: [], rfl, ⟨rfl, trivial⟩, ⟨[.slice b1 x.out.length c1], .slice b2 x.atoms.length c2 :: .slice b3 x.filters.length c3 :: [], rfl, h1, ⟨[.slice b2 x.atoms.length c2], [.slice b3 x.filters.length c3], rfl, h2, h3⟩⟩⟩
open Classical in
theorem gQuery_ow {A : Hp} {l : List Value} {x : Query} : gQuery.ow l x A ↔ ∃ (b1 : Option Addr) (c1 : Nat) (A1 : Hp) (b2 : Option Addr) (c2 : Nat) (A2 : Hp) (b3 : Option Addr) (c3 : Nat) (A3 : Hp), l = .bool x.each :: .slice b1 x.out.length c1 :: .slice b2 x.atoms.length c2 :: .slice b3 x.filters.length c3 :: [] ∧ A.Perm (A1 ++ (A2 ++ A3)) ∧ (gSl 9 gS).ow [.slice b1 x.out.length c1] x.out A1 ∧ (gSl 154 gAtom).ow [.slice b2 x.atoms.length c2] x.atoms A2 ∧ (gSl 157 gFilter).ow [.slice b3 x.filters.length c3] x.filters A3 := by
  constructor
  · rintro ⟨m0, q0, D0, E0, rfl, p0, h0, m1, q1, D1, E1, rfl, p1, h1, m2, q2, D2, E2, rfl, p2, h2, h3⟩
    obtain ⟨rfl, w0, e0⟩ := h0
    subst e0
    obtain ⟨b1, c1, rfl, h1⟩ := sl_ow h1
    obtain ⟨b2, c2, rfl, h2⟩ := sl_ow h2
    obtain ⟨b3, c3, rfl, h3⟩ := sl_ow h3
    exact ⟨b1, c1, D1, b2, c2, D2, b3, c3, E2, rfl, (perm_cnt fun a => by have e0 := p0.count_eq a; have e1 := p1.count_eq a; have e2 := p2.count_eq a; simp only [List.count_append, List.count_nil] at *; omega), h1, h2, h3⟩
  rintro ⟨b1, c1, A1, b2, c2, A2, b3, c3, A3, rfl, hp, h1, h2, h3⟩
  exact ⟨[.bool x.each], .slice b1 x.out.length c1 :: .slice b2 x.atoms.length c2 :: .slice b3 x.filters.length c3 :: [], [], (A1 ++ (A2 ++ A3)), rfl, (perm_cnt fun a => by have e := hp.count_eq a; simp only [List.count_append, List.count_nil] at *; omega), ⟨rfl, trivial, rfl⟩, ⟨[.slice b1 x.out.length c1], .slice b2 x.atoms.length c2 :: .slice b3 x.filters.length c3 :: [], A1, (A2 ++ A3), rfl, .refl _, h1, ⟨[.slice b2 x.atoms.length c2], [.slice b3 x.filters.length c3], A2, A3, rfl, .refl _, h2, h3⟩⟩⟩
theorem opens_Query : Opens Tryz.prog gQuery.toRp 26 := by
  intro H' enc w H sp hd fuel cs d ps hcov ht
  obtain ⟨h1, h2⟩ := trod_fields ty26_ok.1 ht
  obtain ⟨_, _, t0⟩ := h2 0 0 4 rfl
  obtain ⟨x0, r0⟩ := (opens_fb ty4_ok.1) _ _ H _ _ _ _ _ _ hcov t0
  rw [show Tryz.prog.cellsOf 4 = 1 by kernel_rfl] at r0
  obtain ⟨_, _, t1⟩ := h2 1 1 22 rfl
  obtain ⟨x1, r1⟩ := (opens_sl ty22_ok.1 (by kernel_rfl) (by decide) (opens_fs ty9_ok.1)) _ _ H _ _ _ _ _ _ hcov t1
  rw [show Tryz.prog.cellsOf 22 = 1 by kernel_rfl] at r1
  obtain ⟨_, _, t2⟩ := h2 2 2 23 rfl
  obtain ⟨x2, r2⟩ := (opens_sl ty23_ok.1 (by kernel_rfl) (by decide) opens_Atom) _ _ H _ _ _ _ _ _ hcov t2
  rw [show Tryz.prog.cellsOf 23 = 1 by kernel_rfl] at r2
  obtain ⟨_, _, t3⟩ := h2 3 3 24 rfl
  obtain ⟨x3, r3⟩ := (opens_sl ty24_ok.1 (by kernel_rfl) (by decide) opens_Filter) _ _ H _ _ _ _ _ _ hcov t3
  rw [show Tryz.prog.cellsOf 24 = 1 by kernel_rfl] at r3
  rw [show Tryz.prog.cellsOf 26 = 4 by kernel_rfl] at h1
  have key : gQuery.rd H ((cs.drop 0).take 4) ⟨x0, x1, x2, x3⟩ := (pair_at (g := gB) (h := (SX.gPair (gSl 9 gS) (SX.gPair (gSl 154 gAtom) (gSl 157 gFilter)))) (off := 0) r0 (pair_at (g := (gSl 9 gS)) (h := (SX.gPair (gSl 154 gAtom) (gSl 157 gFilter))) (off := 1) r1 (pair_at (g := (gSl 154 gAtom)) (h := (gSl 157 gFilter)) (off := 2) r2 r3)))
  rw [List.drop_zero, List.take_of_length_le (by omega)] at key
  exact ⟨_, key⟩
def zQuery : Query := ⟨false, [], [], []⟩
theorem zQuery_ow : gQuery.ow [.bool false, .slice none 0 0, .slice none 0 0, .slice none 0 0] zQuery [] := gQuery_ow.2 ⟨none, 0, [], none, 0, [], none, 0, [], rfl, by simp, sl_nil _ _ _, sl_nil _ _ _, sl_nil _ _ _⟩
theorem gQuery_sz (x : Query) : gQuery.sz x = 0 + (szL gS x.out + (szL gAtom x.atoms + (szL gFilter x.filters))) := rfl
theorem Query.eq_iff {x y : Query} : x = y ↔ x.each = y.each ∧ x.out = y.out ∧ x.atoms = y.atoms ∧ x.filters = y.filters := by cases x; cases y; simp
--@gt impl.Query | gQuery | default | obtain ⟨b1x#, c1x#, b2x#, c2x#, b3x#, c3x#, rfl, h1x#, h2x#, h3x#⟩ := gQuery_rd.1 hl# | 0 1 pr gQuery_each ; 1 1 sl gQuery_out ; 2 1 sl gQuery_atoms ; 3 1 sl gQuery_filters | 4 | 
structure File where
  name : ByteArray
  text : ByteArray
  kept : Int
deriving DecidableEq, Inhabited
def gFile : Gt File := gIso (SX.gPair gS (SX.gPair gS gI)) (fun x => (x.name, (x.text, x.kept))) (fun p => ⟨p.1, p.2.1, p.2.2⟩)
theorem gFile_rd {H : Hp} {l : List Value} {x : File} : gFile.rd H l x ↔ l = .string x.name :: .string x.text :: .int .i64 x.kept :: [] ∧ x.name.size ≤ 9223372036854775807 ∧ x.text.size ≤ 9223372036854775807 ∧ okI x.kept := by
  constructor
  · rintro ⟨m0, q0, rfl, h0, m1, q1, rfl, h1, h2⟩
    obtain ⟨rfl, w0⟩ := h0
    obtain ⟨rfl, w1⟩ := h1
    obtain ⟨rfl, w2⟩ := h2
    exact ⟨rfl, w0, w1, w2⟩
  rintro ⟨rfl, w0, w1, w2⟩
  exact ⟨[.string x.name], .string x.text :: .int .i64 x.kept :: [], rfl, ⟨rfl, w0⟩, ⟨[.string x.text], [.int .i64 x.kept], rfl, ⟨rfl, w1⟩, ⟨rfl, w2⟩⟩⟩
open Classical in
theorem gFile_ow {A : Hp} {l : List Value} {x : File} : gFile.ow l x A ↔ l = .string x.name :: .string x.text :: .int .i64 x.kept :: [] ∧ A.Perm [] ∧ x.name.size ≤ 9223372036854775807 ∧ x.text.size ≤ 9223372036854775807 ∧ okI x.kept := by
  constructor
  · rintro ⟨m0, q0, D0, E0, rfl, p0, h0, m1, q1, D1, E1, rfl, p1, h1, h2⟩
    obtain ⟨rfl, w0, e0⟩ := h0
    subst e0
    obtain ⟨rfl, w1, e1⟩ := h1
    subst e1
    obtain ⟨rfl, w2, e2⟩ := h2
    subst e2
    exact ⟨rfl, (perm_cnt fun a => by have e0 := p0.count_eq a; have e1 := p1.count_eq a; simp only [List.count_append, List.count_nil] at *; omega), w0, w1, w2⟩
  rintro ⟨rfl, hp, w0, w1, w2⟩
  exact ⟨[.string x.name], .string x.text :: .int .i64 x.kept :: [], [], ([] ++ []), rfl, (perm_cnt fun a => by have e := hp.count_eq a; simp only [List.count_append, List.count_nil] at *; omega), ⟨rfl, w0, rfl⟩, ⟨[.string x.text], [.int .i64 x.kept], [], [], rfl, .refl _, ⟨rfl, w1, rfl⟩, ⟨rfl, w2, rfl⟩⟩⟩
theorem opens_File : Opens Tryz.prog gFile.toRp 261 := by
  intro H' enc w H sp hd fuel cs d ps hcov ht
  obtain ⟨h1, h2⟩ := trod_fields ty261_ok.1 ht
  obtain ⟨_, _, t0⟩ := h2 0 0 9 rfl
  obtain ⟨x0, r0⟩ := (opens_fs ty9_ok.1) _ _ H _ _ _ _ _ _ hcov t0
  rw [show Tryz.prog.cellsOf 9 = 1 by kernel_rfl] at r0
  obtain ⟨_, _, t1⟩ := h2 1 1 9 rfl
  obtain ⟨x1, r1⟩ := (opens_fs ty9_ok.1) _ _ H _ _ _ _ _ _ hcov t1
  rw [show Tryz.prog.cellsOf 9 = 1 by kernel_rfl] at r1
  obtain ⟨_, _, t2⟩ := h2 2 2 3 rfl
  obtain ⟨x2, r2⟩ := (opens_fi ty3_ok.1) _ _ H _ _ _ _ _ _ hcov t2
  rw [show Tryz.prog.cellsOf 3 = 1 by kernel_rfl] at r2
  rw [show Tryz.prog.cellsOf 261 = 3 by kernel_rfl] at h1
  have key : gFile.rd H ((cs.drop 0).take 3) ⟨x0, x1, x2⟩ := (pair_at (g := gS) (h := (SX.gPair gS gI)) (off := 0) r0 (pair_at (g := gS) (h := gI) (off := 1) r1 r2))
  rw [List.drop_zero, List.take_of_length_le (by omega)] at key
  exact ⟨_, key⟩
def zFile : File := ⟨ByteArray.empty, ByteArray.empty, 0⟩
theorem zFile_ow : gFile.ow [.string .empty, .string .empty, .int .i64 0] zFile [] := gFile_ow.2 ⟨rfl, by simp, by first | (unfold okI; decide) | decide, by first | (unfold okI; decide) | decide, by first | (unfold okI; decide) | decide⟩
theorem gFile_sz (x : File) : gFile.sz x = x.name.size + (x.text.size + (0)) := rfl
theorem File.eq_iff {x y : File} : x = y ↔ x.name = y.name ∧ x.text = y.text ∧ x.kept = y.kept := by cases x; cases y; simp
--@gt impl.File | gFile | default | obtain ⟨rfl, w0x#, w1x#, w2x#⟩ := gFile_rd.1 hl# | 0 1 pr gFile_name ; 1 1 pr gFile_text ; 2 1 pr gFile_kept | 3 | gFile_own ‹_›
structure Disk where
  files : List File
deriving DecidableEq, Inhabited
def gDisk : Gt Disk := gIso (gSl 267 gFile) (fun x => x.files) (fun p => ⟨p⟩)
theorem gDisk_rd {H : Hp} {l : List Value} {x : Disk} : gDisk.rd H l x ↔ ∃ (b0 : Option Addr) (c0 : Nat), l = .slice b0 x.files.length c0 :: [] ∧ (gSl 267 gFile).rd H [.slice b0 x.files.length c0] x.files := by
  constructor
  · rintro h0
    obtain ⟨b0, c0, rfl, h0⟩ := sl_rd h0
    exact ⟨b0, c0, rfl, h0⟩
  rintro ⟨b0, c0, rfl, h0⟩
  exact h0
open Classical in
theorem gDisk_ow {A : Hp} {l : List Value} {x : Disk} : gDisk.ow l x A ↔ ∃ (b0 : Option Addr) (c0 : Nat) (A0 : Hp), l = .slice b0 x.files.length c0 :: [] ∧ A.Perm A0 ∧ (gSl 267 gFile).ow [.slice b0 x.files.length c0] x.files A0 := by
  constructor
  · rintro h0
    obtain ⟨b0, c0, rfl, h0⟩ := sl_ow h0
    exact ⟨b0, c0, A, rfl, .refl _, h0⟩
  rintro ⟨b0, c0, A0, rfl, hp, h0⟩
  exact gDisk.owp (l := _) (x := x) h0 hp
theorem opens_Disk : Opens Tryz.prog gDisk.toRp 120 := by
  intro H' enc w H sp hd fuel cs d ps hcov ht
  obtain ⟨h1, h2⟩ := trod_fields ty120_ok.1 ht
  obtain ⟨_, _, t0⟩ := h2 0 0 118 rfl
  obtain ⟨x0, r0⟩ := (opens_sl ty118_ok.1 (by kernel_rfl) (by decide) opens_File) _ _ H _ _ _ _ _ _ hcov t0
  rw [show Tryz.prog.cellsOf 118 = 1 by kernel_rfl] at r0
  rw [show Tryz.prog.cellsOf 120 = 1 by kernel_rfl] at h1
  have key : gDisk.rd H ((cs.drop 0).take 1) ⟨x0⟩ := r0
  rw [List.drop_zero, List.take_of_length_le (by omega)] at key
  exact ⟨_, key⟩
def zDisk : Disk := ⟨[]⟩
theorem zDisk_ow : gDisk.ow [.slice none 0 0] zDisk [] := gDisk_ow.2 ⟨none, 0, [], rfl, by simp, sl_nil _ _ _⟩
theorem gDisk_sz (x : Disk) : gDisk.sz x = szL gFile x.files := rfl
theorem Disk.eq_iff {x y : Disk} : x = y ↔ x.files = y.files := by cases x; cases y; simp
--@gt impl.Disk | gDisk | default | obtain ⟨b0x#, c0x#, rfl, h0x#⟩ := gDisk_rd.1 hl# | 0 1 sl gDisk_files | 1 | 
structure Walk where
  atom : Int
  src : Int
  at' : Int
  state : Int
deriving DecidableEq, Inhabited
def gWalk : Gt Walk := gIso (SX.gPair gI (SX.gPair gI (SX.gPair gI gI))) (fun x => (x.atom, (x.src, (x.at', x.state)))) (fun p => ⟨p.1, p.2.1, p.2.2.1, p.2.2.2⟩)
theorem gWalk_rd {H : Hp} {l : List Value} {x : Walk} : gWalk.rd H l x ↔ l = .int .i64 x.atom :: .int .i64 x.src :: .int .i64 x.at' :: .int .i64 x.state :: [] ∧ okI x.atom ∧ okI x.src ∧ okI x.at' ∧ okI x.state := by
  constructor
  · rintro ⟨m0, q0, rfl, h0, m1, q1, rfl, h1, m2, q2, rfl, h2, h3⟩
    obtain ⟨rfl, w0⟩ := h0
    obtain ⟨rfl, w1⟩ := h1
    obtain ⟨rfl, w2⟩ := h2
    obtain ⟨rfl, w3⟩ := h3
    exact ⟨rfl, w0, w1, w2, w3⟩
  rintro ⟨rfl, w0, w1, w2, w3⟩
  exact ⟨[.int .i64 x.atom], .int .i64 x.src :: .int .i64 x.at' :: .int .i64 x.state :: [], rfl, ⟨rfl, w0⟩, ⟨[.int .i64 x.src], .int .i64 x.at' :: .int .i64 x.state :: [], rfl, ⟨rfl, w1⟩, ⟨[.int .i64 x.at'], [.int .i64 x.state], rfl, ⟨rfl, w2⟩, ⟨rfl, w3⟩⟩⟩⟩
open Classical in
theorem gWalk_ow {A : Hp} {l : List Value} {x : Walk} : gWalk.ow l x A ↔ l = .int .i64 x.atom :: .int .i64 x.src :: .int .i64 x.at' :: .int .i64 x.state :: [] ∧ A.Perm [] ∧ okI x.atom ∧ okI x.src ∧ okI x.at' ∧ okI x.state := by
  constructor
  · rintro ⟨m0, q0, D0, E0, rfl, p0, h0, m1, q1, D1, E1, rfl, p1, h1, m2, q2, D2, E2, rfl, p2, h2, h3⟩
    obtain ⟨rfl, w0, e0⟩ := h0
    subst e0
    obtain ⟨rfl, w1, e1⟩ := h1
    subst e1
    obtain ⟨rfl, w2, e2⟩ := h2
    subst e2
    obtain ⟨rfl, w3, e3⟩ := h3
    subst e3
    exact ⟨rfl, (perm_cnt fun a => by have e0 := p0.count_eq a; have e1 := p1.count_eq a; have e2 := p2.count_eq a; simp only [List.count_append, List.count_nil] at *; omega), w0, w1, w2, w3⟩
  rintro ⟨rfl, hp, w0, w1, w2, w3⟩
  exact ⟨[.int .i64 x.atom], .int .i64 x.src :: .int .i64 x.at' :: .int .i64 x.state :: [], [], ([] ++ ([] ++ [])), rfl, (perm_cnt fun a => by have e := hp.count_eq a; simp only [List.count_append, List.count_nil] at *; omega), ⟨rfl, w0, rfl⟩, ⟨[.int .i64 x.src], .int .i64 x.at' :: .int .i64 x.state :: [], [], ([] ++ []), rfl, .refl _, ⟨rfl, w1, rfl⟩, ⟨[.int .i64 x.at'], [.int .i64 x.state], [], [], rfl, .refl _, ⟨rfl, w2, rfl⟩, ⟨rfl, w3, rfl⟩⟩⟩⟩
theorem opens_Walk : Opens Tryz.prog gWalk.toRp 270 := by
  intro H' enc w H sp hd fuel cs d ps hcov ht
  obtain ⟨h1, h2⟩ := trod_fields ty270_ok.1 ht
  obtain ⟨_, _, t0⟩ := h2 0 0 3 rfl
  obtain ⟨x0, r0⟩ := (opens_fi ty3_ok.1) _ _ H _ _ _ _ _ _ hcov t0
  rw [show Tryz.prog.cellsOf 3 = 1 by kernel_rfl] at r0
  obtain ⟨_, _, t1⟩ := h2 1 1 3 rfl
  obtain ⟨x1, r1⟩ := (opens_fi ty3_ok.1) _ _ H _ _ _ _ _ _ hcov t1
  rw [show Tryz.prog.cellsOf 3 = 1 by kernel_rfl] at r1
  obtain ⟨_, _, t2⟩ := h2 2 2 3 rfl
  obtain ⟨x2, r2⟩ := (opens_fi ty3_ok.1) _ _ H _ _ _ _ _ _ hcov t2
  rw [show Tryz.prog.cellsOf 3 = 1 by kernel_rfl] at r2
  obtain ⟨_, _, t3⟩ := h2 3 3 3 rfl
  obtain ⟨x3, r3⟩ := (opens_fi ty3_ok.1) _ _ H _ _ _ _ _ _ hcov t3
  rw [show Tryz.prog.cellsOf 3 = 1 by kernel_rfl] at r3
  rw [show Tryz.prog.cellsOf 270 = 4 by kernel_rfl] at h1
  have key : gWalk.rd H ((cs.drop 0).take 4) ⟨x0, x1, x2, x3⟩ := (pair_at (g := gI) (h := (SX.gPair gI (SX.gPair gI gI))) (off := 0) r0 (pair_at (g := gI) (h := (SX.gPair gI gI)) (off := 1) r1 (pair_at (g := gI) (h := gI) (off := 2) r2 r3)))
  rw [List.drop_zero, List.take_of_length_le (by omega)] at key
  exact ⟨_, key⟩
def zWalk : Walk := ⟨0, 0, 0, 0⟩
theorem zWalk_ow : gWalk.ow [.int .i64 0, .int .i64 0, .int .i64 0, .int .i64 0] zWalk [] := gWalk_ow.2 ⟨rfl, by simp, by first | (unfold okI; decide) | decide, by first | (unfold okI; decide) | decide, by first | (unfold okI; decide) | decide, by first | (unfold okI; decide) | decide⟩
theorem gWalk_sz (x : Walk) : gWalk.sz x = 0 + (0 + (0 + (0))) := rfl
theorem Walk.eq_iff {x y : Walk} : x = y ↔ x.atom = y.atom ∧ x.src = y.src ∧ x.at' = y.at' ∧ x.state = y.state := by cases x; cases y; simp
--@gt impl.Walk | gWalk | default | obtain ⟨rfl, w0x#, w1x#, w2x#, w3x#⟩ := gWalk_rd.1 hl# | 0 1 pr gWalk_atom ; 1 1 pr gWalk_src ; 2 1 pr gWalk_at ; 3 1 pr gWalk_state | 4 | gWalk_own ‹_›
structure Letter where
  kind : Int
  atom : Int
  num : Int
  black : Bool
  walks : List Walk
  text : ByteArray
deriving DecidableEq, Inhabited
def gLetter : Gt Letter := gIso (SX.gPair gI (SX.gPair gI (SX.gPair gI (SX.gPair gB (SX.gPair (gSl 184 gWalk) gS))))) (fun x => (x.kind, (x.atom, (x.num, (x.black, (x.walks, x.text)))))) (fun p => ⟨p.1, p.2.1, p.2.2.1, p.2.2.2.1, p.2.2.2.2.1, p.2.2.2.2.2⟩)
theorem gLetter_rd {H : Hp} {l : List Value} {x : Letter} : gLetter.rd H l x ↔ ∃ (b4 : Option Addr) (c4 : Nat), l = .int .i64 x.kind :: .int .i64 x.atom :: .int .i64 x.num :: .bool x.black :: .slice b4 x.walks.length c4 :: .string x.text :: [] ∧ okI x.kind ∧ okI x.atom ∧ okI x.num ∧ (gSl 184 gWalk).rd H [.slice b4 x.walks.length c4] x.walks ∧ x.text.size ≤ 9223372036854775807 := by
  constructor
  · rintro ⟨m0, q0, rfl, h0, m1, q1, rfl, h1, m2, q2, rfl, h2, m3, q3, rfl, h3, m4, q4, rfl, h4, h5⟩
    obtain ⟨rfl, w0⟩ := h0
    obtain ⟨rfl, w1⟩ := h1
    obtain ⟨rfl, w2⟩ := h2
    obtain ⟨rfl, w3⟩ := h3
    obtain ⟨b4, c4, rfl, h4⟩ := sl_rd h4
    obtain ⟨rfl, w5⟩ := h5
    exact ⟨b4, c4, rfl, w0, w1, w2, h4, w5⟩
  rintro ⟨b4, c4, rfl, w0, w1, w2, h4, w5⟩
  exact ⟨[.int .i64 x.kind], .int .i64 x.atom :: .int .i64 x.num :: .bool x.black :: .slice b4 x.walks.length c4 :: .string x.text :: [], rfl, ⟨rfl, w0⟩, ⟨[.int .i64 x.atom], .int .i64 x.num :: .bool x.black :: .slice b4 x.walks.length c4 :: .string x.text :: [], rfl, ⟨rfl, w1⟩, ⟨[.int .i64 x.num], .bool x.black :: .slice b4 x.walks.length c4 :: .string x.text :: [], rfl, ⟨rfl, w2⟩, ⟨[.bool x.black], .slice b4 x.walks.length c4 :: .string x.text :: [], rfl, ⟨rfl, trivial⟩, ⟨[.slice b4 x.walks.length c4], [.string x.text], rfl, h4, ⟨rfl, w5⟩⟩⟩⟩⟩⟩
open Classical in
theorem gLetter_ow {A : Hp} {l : List Value} {x : Letter} : gLetter.ow l x A ↔ ∃ (b4 : Option Addr) (c4 : Nat) (A4 : Hp), l = .int .i64 x.kind :: .int .i64 x.atom :: .int .i64 x.num :: .bool x.black :: .slice b4 x.walks.length c4 :: .string x.text :: [] ∧ A.Perm A4 ∧ okI x.kind ∧ okI x.atom ∧ okI x.num ∧ (gSl 184 gWalk).ow [.slice b4 x.walks.length c4] x.walks A4 ∧ x.text.size ≤ 9223372036854775807 := by
  constructor
  · rintro ⟨m0, q0, D0, E0, rfl, p0, h0, m1, q1, D1, E1, rfl, p1, h1, m2, q2, D2, E2, rfl, p2, h2, m3, q3, D3, E3, rfl, p3, h3, m4, q4, D4, E4, rfl, p4, h4, h5⟩
    obtain ⟨rfl, w0, e0⟩ := h0
    subst e0
    obtain ⟨rfl, w1, e1⟩ := h1
    subst e1
    obtain ⟨rfl, w2, e2⟩ := h2
    subst e2
    obtain ⟨rfl, w3, e3⟩ := h3
    subst e3
    obtain ⟨b4, c4, rfl, h4⟩ := sl_ow h4
    obtain ⟨rfl, w5, e5⟩ := h5
    subst e5
    exact ⟨b4, c4, D4, rfl, (perm_cnt fun a => by have e0 := p0.count_eq a; have e1 := p1.count_eq a; have e2 := p2.count_eq a; have e3 := p3.count_eq a; have e4 := p4.count_eq a; simp only [List.count_append, List.count_nil] at *; omega), w0, w1, w2, h4, w5⟩
  rintro ⟨b4, c4, A4, rfl, hp, w0, w1, w2, h4, w5⟩
  exact ⟨[.int .i64 x.kind], .int .i64 x.atom :: .int .i64 x.num :: .bool x.black :: .slice b4 x.walks.length c4 :: .string x.text :: [], [], ([] ++ ([] ++ ([] ++ (A4 ++ [])))), rfl, (perm_cnt fun a => by have e := hp.count_eq a; simp only [List.count_append, List.count_nil] at *; omega), ⟨rfl, w0, rfl⟩, ⟨[.int .i64 x.atom], .int .i64 x.num :: .bool x.black :: .slice b4 x.walks.length c4 :: .string x.text :: [], [], ([] ++ ([] ++ (A4 ++ []))), rfl, .refl _, ⟨rfl, w1, rfl⟩, ⟨[.int .i64 x.num], .bool x.black :: .slice b4 x.walks.length c4 :: .string x.text :: [], [], ([] ++ (A4 ++ [])), rfl, .refl _, ⟨rfl, w2, rfl⟩, ⟨[.bool x.black], .slice b4 x.walks.length c4 :: .string x.text :: [], [], (A4 ++ []), rfl, .refl _, ⟨rfl, trivial, rfl⟩, ⟨[.slice b4 x.walks.length c4], [.string x.text], A4, [], rfl, .refl _, h4, ⟨rfl, w5, rfl⟩⟩⟩⟩⟩⟩
theorem opens_Letter : Opens Tryz.prog gLetter.toRp 264 := by
  intro H' enc w H sp hd fuel cs d ps hcov ht
  obtain ⟨h1, h2⟩ := trod_fields ty264_ok.1 ht
  obtain ⟨_, _, t0⟩ := h2 0 0 3 rfl
  obtain ⟨x0, r0⟩ := (opens_fi ty3_ok.1) _ _ H _ _ _ _ _ _ hcov t0
  rw [show Tryz.prog.cellsOf 3 = 1 by kernel_rfl] at r0
  obtain ⟨_, _, t1⟩ := h2 1 1 3 rfl
  obtain ⟨x1, r1⟩ := (opens_fi ty3_ok.1) _ _ H _ _ _ _ _ _ hcov t1
  rw [show Tryz.prog.cellsOf 3 = 1 by kernel_rfl] at r1
  obtain ⟨_, _, t2⟩ := h2 2 2 3 rfl
  obtain ⟨x2, r2⟩ := (opens_fi ty3_ok.1) _ _ H _ _ _ _ _ _ hcov t2
  rw [show Tryz.prog.cellsOf 3 = 1 by kernel_rfl] at r2
  obtain ⟨_, _, t3⟩ := h2 3 3 4 rfl
  obtain ⟨x3, r3⟩ := (opens_fb ty4_ok.1) _ _ H _ _ _ _ _ _ hcov t3
  rw [show Tryz.prog.cellsOf 4 = 1 by kernel_rfl] at r3
  obtain ⟨_, _, t4⟩ := h2 4 4 122 rfl
  obtain ⟨x4, r4⟩ := (opens_sl ty122_ok.1 (by kernel_rfl) (by decide) opens_Walk) _ _ H _ _ _ _ _ _ hcov t4
  rw [show Tryz.prog.cellsOf 122 = 1 by kernel_rfl] at r4
  obtain ⟨_, _, t5⟩ := h2 5 5 9 rfl
  obtain ⟨x5, r5⟩ := (opens_fs ty9_ok.1) _ _ H _ _ _ _ _ _ hcov t5
  rw [show Tryz.prog.cellsOf 9 = 1 by kernel_rfl] at r5
  rw [show Tryz.prog.cellsOf 264 = 6 by kernel_rfl] at h1
  have key : gLetter.rd H ((cs.drop 0).take 6) ⟨x0, x1, x2, x3, x4, x5⟩ := (pair_at (g := gI) (h := (SX.gPair gI (SX.gPair gI (SX.gPair gB (SX.gPair (gSl 184 gWalk) gS))))) (off := 0) r0 (pair_at (g := gI) (h := (SX.gPair gI (SX.gPair gB (SX.gPair (gSl 184 gWalk) gS)))) (off := 1) r1 (pair_at (g := gI) (h := (SX.gPair gB (SX.gPair (gSl 184 gWalk) gS))) (off := 2) r2 (pair_at (g := gB) (h := (SX.gPair (gSl 184 gWalk) gS)) (off := 3) r3 (pair_at (g := (gSl 184 gWalk)) (h := gS) (off := 4) r4 r5)))))
  rw [List.drop_zero, List.take_of_length_le (by omega)] at key
  exact ⟨_, key⟩
def zLetter : Letter := ⟨0, 0, 0, false, [], ByteArray.empty⟩
theorem zLetter_ow : gLetter.ow [.int .i64 0, .int .i64 0, .int .i64 0, .bool false, .slice none 0 0, .string .empty] zLetter [] := gLetter_ow.2 ⟨none, 0, [], rfl, by simp, by first | (unfold okI; decide) | decide, by first | (unfold okI; decide) | decide, by first | (unfold okI; decide) | decide, sl_nil _ _ _, by first | (unfold okI; decide) | decide⟩
theorem gLetter_sz (x : Letter) : gLetter.sz x = 0 + (0 + (0 + (0 + (szL gWalk x.walks + (x.text.size))))) := rfl
theorem Letter.eq_iff {x y : Letter} : x = y ↔ x.kind = y.kind ∧ x.atom = y.atom ∧ x.num = y.num ∧ x.black = y.black ∧ x.walks = y.walks ∧ x.text = y.text := by cases x; cases y; simp
--@gt impl.Letter | gLetter | default | obtain ⟨b4x#, c4x#, rfl, w0x#, w1x#, w2x#, h4x#, w5x#⟩ := gLetter_rd.1 hl# | 0 1 pr gLetter_kind ; 1 1 pr gLetter_atom ; 2 1 pr gLetter_num ; 3 1 pr gLetter_black ; 4 1 sl gLetter_walks ; 5 1 pr gLetter_text | 6 | 
structure Link where
  sent : List ByteArray
  acked : Int
  took : Int
deriving DecidableEq, Inhabited
def gLink : Gt Link := gIso (SX.gPair (gSl 9 gS) (SX.gPair gI gI)) (fun x => (x.sent, (x.acked, x.took))) (fun p => ⟨p.1, p.2.1, p.2.2⟩)
theorem gLink_rd {H : Hp} {l : List Value} {x : Link} : gLink.rd H l x ↔ ∃ (b0 : Option Addr) (c0 : Nat), l = .slice b0 x.sent.length c0 :: .int .i64 x.acked :: .int .i64 x.took :: [] ∧ (gSl 9 gS).rd H [.slice b0 x.sent.length c0] x.sent ∧ okI x.acked ∧ okI x.took := by
  constructor
  · rintro ⟨m0, q0, rfl, h0, m1, q1, rfl, h1, h2⟩
    obtain ⟨b0, c0, rfl, h0⟩ := sl_rd h0
    obtain ⟨rfl, w1⟩ := h1
    obtain ⟨rfl, w2⟩ := h2
    exact ⟨b0, c0, rfl, h0, w1, w2⟩
  rintro ⟨b0, c0, rfl, h0, w1, w2⟩
  exact ⟨[.slice b0 x.sent.length c0], .int .i64 x.acked :: .int .i64 x.took :: [], rfl, h0, ⟨[.int .i64 x.acked], [.int .i64 x.took], rfl, ⟨rfl, w1⟩, ⟨rfl, w2⟩⟩⟩
open Classical in
theorem gLink_ow {A : Hp} {l : List Value} {x : Link} : gLink.ow l x A ↔ ∃ (b0 : Option Addr) (c0 : Nat) (A0 : Hp), l = .slice b0 x.sent.length c0 :: .int .i64 x.acked :: .int .i64 x.took :: [] ∧ A.Perm A0 ∧ (gSl 9 gS).ow [.slice b0 x.sent.length c0] x.sent A0 ∧ okI x.acked ∧ okI x.took := by
  constructor
  · rintro ⟨m0, q0, D0, E0, rfl, p0, h0, m1, q1, D1, E1, rfl, p1, h1, h2⟩
    obtain ⟨b0, c0, rfl, h0⟩ := sl_ow h0
    obtain ⟨rfl, w1, e1⟩ := h1
    subst e1
    obtain ⟨rfl, w2, e2⟩ := h2
    subst e2
    exact ⟨b0, c0, D0, rfl, (perm_cnt fun a => by have e0 := p0.count_eq a; have e1 := p1.count_eq a; simp only [List.count_append, List.count_nil] at *; omega), h0, w1, w2⟩
  rintro ⟨b0, c0, A0, rfl, hp, h0, w1, w2⟩
  exact ⟨[.slice b0 x.sent.length c0], .int .i64 x.acked :: .int .i64 x.took :: [], A0, ([] ++ []), rfl, (perm_cnt fun a => by have e := hp.count_eq a; simp only [List.count_append, List.count_nil] at *; omega), h0, ⟨[.int .i64 x.acked], [.int .i64 x.took], [], [], rfl, .refl _, ⟨rfl, w1, rfl⟩, ⟨rfl, w2, rfl⟩⟩⟩
theorem opens_Link : Opens Tryz.prog gLink.toRp 227 := by
  intro H' enc w H sp hd fuel cs d ps hcov ht
  obtain ⟨h1, h2⟩ := trod_fields ty227_ok.1 ht
  obtain ⟨_, _, t0⟩ := h2 0 0 22 rfl
  obtain ⟨x0, r0⟩ := (opens_sl ty22_ok.1 (by kernel_rfl) (by decide) (opens_fs ty9_ok.1)) _ _ H _ _ _ _ _ _ hcov t0
  rw [show Tryz.prog.cellsOf 22 = 1 by kernel_rfl] at r0
  obtain ⟨_, _, t1⟩ := h2 1 1 3 rfl
  obtain ⟨x1, r1⟩ := (opens_fi ty3_ok.1) _ _ H _ _ _ _ _ _ hcov t1
  rw [show Tryz.prog.cellsOf 3 = 1 by kernel_rfl] at r1
  obtain ⟨_, _, t2⟩ := h2 2 2 3 rfl
  obtain ⟨x2, r2⟩ := (opens_fi ty3_ok.1) _ _ H _ _ _ _ _ _ hcov t2
  rw [show Tryz.prog.cellsOf 3 = 1 by kernel_rfl] at r2
  rw [show Tryz.prog.cellsOf 227 = 3 by kernel_rfl] at h1
  have key : gLink.rd H ((cs.drop 0).take 3) ⟨x0, x1, x2⟩ := (pair_at (g := (gSl 9 gS)) (h := (SX.gPair gI gI)) (off := 0) r0 (pair_at (g := gI) (h := gI) (off := 1) r1 r2))
  rw [List.drop_zero, List.take_of_length_le (by omega)] at key
  exact ⟨_, key⟩
def zLink : Link := ⟨[], 0, 0⟩
theorem zLink_ow : gLink.ow [.slice none 0 0, .int .i64 0, .int .i64 0] zLink [] := gLink_ow.2 ⟨none, 0, [], rfl, by simp, sl_nil _ _ _, by first | (unfold okI; decide) | decide, by first | (unfold okI; decide) | decide⟩
theorem gLink_sz (x : Link) : gLink.sz x = szL gS x.sent + (0 + (0)) := rfl
theorem Link.eq_iff {x y : Link} : x = y ↔ x.sent = y.sent ∧ x.acked = y.acked ∧ x.took = y.took := by cases x; cases y; simp
--@gt impl.Link | gLink | default | obtain ⟨b0x#, c0x#, rfl, h0x#, w1x#, w2x#⟩ := gLink_rd.1 hl# | 0 1 sl gLink_sent ; 1 1 pr gLink_acked ; 2 1 pr gLink_took | 3 | 
structure Got where
  from' : Int
  atom : Int
  bag : Bag
deriving DecidableEq, Inhabited
def gGot : Gt Got := gIso (SX.gPair gI (SX.gPair gI gBag)) (fun x => (x.from', (x.atom, x.bag))) (fun p => ⟨p.1, p.2.1, p.2.2⟩)
theorem gGot_rd {H : Hp} {l : List Value} {x : Got} : gGot.rd H l x ↔ ∃ (l2 : List Value), l = .int .i64 x.from' :: .int .i64 x.atom :: l2 ++ ([]) ∧ okI x.from' ∧ okI x.atom ∧ gBag.rd H l2 x.bag := by
  constructor
  · rintro ⟨m0, q0, rfl, h0, m1, q1, rfl, h1, h2⟩
    obtain ⟨rfl, w0⟩ := h0
    obtain ⟨rfl, w1⟩ := h1
    exact ⟨q1, (by simp [flInt, flBool, flByte, flStr]), w0, w1, h2⟩
  rintro ⟨l2, rfl, w0, w1, h2⟩
  exact ⟨[.int .i64 x.from'], .int .i64 x.atom :: l2 ++ ([]), rfl, ⟨rfl, w0⟩, ⟨[.int .i64 x.atom], l2, (by simp [flInt, flBool, flByte, flStr]), ⟨rfl, w1⟩, h2⟩⟩
open Classical in
theorem gGot_ow {A : Hp} {l : List Value} {x : Got} : gGot.ow l x A ↔ ∃ (l2 : List Value) (A2 : Hp), l = .int .i64 x.from' :: .int .i64 x.atom :: l2 ++ ([]) ∧ A.Perm A2 ∧ okI x.from' ∧ okI x.atom ∧ gBag.ow l2 x.bag A2 := by
  constructor
  · rintro ⟨m0, q0, D0, E0, rfl, p0, h0, m1, q1, D1, E1, rfl, p1, h1, h2⟩
    obtain ⟨rfl, w0, e0⟩ := h0
    subst e0
    obtain ⟨rfl, w1, e1⟩ := h1
    subst e1
    exact ⟨q1, E1, (by simp [flInt, flBool, flByte, flStr]), (perm_cnt fun a => by have e0 := p0.count_eq a; have e1 := p1.count_eq a; simp only [List.count_append, List.count_nil] at *; omega), w0, w1, h2⟩
  rintro ⟨l2, A2, rfl, hp, w0, w1, h2⟩
  exact ⟨[.int .i64 x.from'], .int .i64 x.atom :: l2 ++ ([]), [], ([] ++ A2), rfl, (perm_cnt fun a => by have e := hp.count_eq a; simp only [List.count_append, List.count_nil] at *; omega), ⟨rfl, w0, rfl⟩, ⟨[.int .i64 x.atom], l2, [], A2, (by simp [flInt, flBool, flByte, flStr]), .refl _, ⟨rfl, w1, rfl⟩, h2⟩⟩
theorem opens_Got : Opens Tryz.prog gGot.toRp 178 := by
  intro H' enc w H sp hd fuel cs d ps hcov ht
  obtain ⟨h1, h2⟩ := trod_fields ty178_ok.1 ht
  obtain ⟨_, _, t0⟩ := h2 0 0 3 rfl
  obtain ⟨x0, r0⟩ := (opens_fi ty3_ok.1) _ _ H _ _ _ _ _ _ hcov t0
  rw [show Tryz.prog.cellsOf 3 = 1 by kernel_rfl] at r0
  obtain ⟨_, _, t1⟩ := h2 1 1 3 rfl
  obtain ⟨x1, r1⟩ := (opens_fi ty3_ok.1) _ _ H _ _ _ _ _ _ hcov t1
  rw [show Tryz.prog.cellsOf 3 = 1 by kernel_rfl] at r1
  obtain ⟨_, _, t2⟩ := h2 2 2 63 rfl
  obtain ⟨x2, r2⟩ := opens_Bag _ _ H _ _ _ _ _ _ hcov t2
  rw [show Tryz.prog.cellsOf 63 = 1 by kernel_rfl] at r2
  rw [show Tryz.prog.cellsOf 178 = 3 by kernel_rfl] at h1
  have key : gGot.rd H ((cs.drop 0).take 3) ⟨x0, x1, x2⟩ := (pair_at (g := gI) (h := (SX.gPair gI gBag)) (off := 0) r0 (pair_at (g := gI) (h := gBag) (off := 1) r1 r2))
  rw [List.drop_zero, List.take_of_length_le (by omega)] at key
  exact ⟨_, key⟩
def zGot : Got := ⟨0, 0, zBag⟩
theorem zGot_ow : gGot.ow [.int .i64 0, .int .i64 0, .slice none 0 0] zGot [] := gGot_ow.2 ⟨_, [], rfl, by simp, by first | (unfold okI; decide) | decide, by first | (unfold okI; decide) | decide, zBag_ow⟩
theorem gGot_sz (x : Got) : gGot.sz x = 0 + (0 + (gBag.sz x.bag)) := rfl
theorem Got.eq_iff {x y : Got} : x = y ↔ x.from' = y.from' ∧ x.atom = y.atom ∧ x.bag = y.bag := by cases x; cases y; simp
--@gt impl.Got | gGot | default | obtain ⟨l2x#, rfl, w0x#, w1x#, h2x#⟩ := gGot_rd.1 hl# ; obtain ⟨b0_2x#, c0_2x#, rfl, h0_2x#⟩ := gBag_rd.1 h2x# | 0 1 pr gGot_from ; 1 1 pr gGot_atom ; 2 1 st gGot_bag ; 2 1 sl gGot_bag_items | 3 | 
structure Cell where
  query : Query
  shares : List Int
  at' : Int
  n : Int
  gots : List Got
deriving DecidableEq, Inhabited
def gCell : Gt Cell := gIso (SX.gPair gQuery (SX.gPair (gSl 3 gI) (SX.gPair gI (SX.gPair gI (gSl 171 gGot))))) (fun x => (x.query, (x.shares, (x.at', (x.n, x.gots))))) (fun p => ⟨p.1, p.2.1, p.2.2.1, p.2.2.2.1, p.2.2.2.2⟩)
theorem gCell_rd {H : Hp} {l : List Value} {x : Cell} : gCell.rd H l x ↔ ∃ (l0 : List Value) (b1 : Option Addr) (c1 : Nat) (b4 : Option Addr) (c4 : Nat), l = l0 ++ (.slice b1 x.shares.length c1 :: .int .i64 x.at' :: .int .i64 x.n :: .slice b4 x.gots.length c4 :: []) ∧ gQuery.rd H l0 x.query ∧ (gSl 3 gI).rd H [.slice b1 x.shares.length c1] x.shares ∧ okI x.at' ∧ okI x.n ∧ (gSl 171 gGot).rd H [.slice b4 x.gots.length c4] x.gots := by
  constructor
  · rintro ⟨m0, q0, rfl, h0, m1, q1, rfl, h1, m2, q2, rfl, h2, m3, q3, rfl, h3, h4⟩
    obtain ⟨b1, c1, rfl, h1⟩ := sl_rd h1
    obtain ⟨rfl, w2⟩ := h2
    obtain ⟨rfl, w3⟩ := h3
    obtain ⟨b4, c4, rfl, h4⟩ := sl_rd h4
    exact ⟨m0, b1, c1, b4, c4, rfl, h0, h1, w2, w3, h4⟩
  rintro ⟨l0, b1, c1, b4, c4, rfl, h0, h1, w2, w3, h4⟩
  exact ⟨l0, .slice b1 x.shares.length c1 :: .int .i64 x.at' :: .int .i64 x.n :: .slice b4 x.gots.length c4 :: [], rfl, h0, ⟨[.slice b1 x.shares.length c1], .int .i64 x.at' :: .int .i64 x.n :: .slice b4 x.gots.length c4 :: [], rfl, h1, ⟨[.int .i64 x.at'], .int .i64 x.n :: .slice b4 x.gots.length c4 :: [], rfl, ⟨rfl, w2⟩, ⟨[.int .i64 x.n], [.slice b4 x.gots.length c4], rfl, ⟨rfl, w3⟩, h4⟩⟩⟩⟩
open Classical in
theorem gCell_ow {A : Hp} {l : List Value} {x : Cell} : gCell.ow l x A ↔ ∃ (l0 : List Value) (A0 : Hp) (b1 : Option Addr) (c1 : Nat) (A1 : Hp) (b4 : Option Addr) (c4 : Nat) (A4 : Hp), l = l0 ++ (.slice b1 x.shares.length c1 :: .int .i64 x.at' :: .int .i64 x.n :: .slice b4 x.gots.length c4 :: []) ∧ A.Perm (A0 ++ (A1 ++ A4)) ∧ gQuery.ow l0 x.query A0 ∧ (gSl 3 gI).ow [.slice b1 x.shares.length c1] x.shares A1 ∧ okI x.at' ∧ okI x.n ∧ (gSl 171 gGot).ow [.slice b4 x.gots.length c4] x.gots A4 := by
  constructor
  · rintro ⟨m0, q0, D0, E0, rfl, p0, h0, m1, q1, D1, E1, rfl, p1, h1, m2, q2, D2, E2, rfl, p2, h2, m3, q3, D3, E3, rfl, p3, h3, h4⟩
    obtain ⟨b1, c1, rfl, h1⟩ := sl_ow h1
    obtain ⟨rfl, w2, e2⟩ := h2
    subst e2
    obtain ⟨rfl, w3, e3⟩ := h3
    subst e3
    obtain ⟨b4, c4, rfl, h4⟩ := sl_ow h4
    exact ⟨m0, D0, b1, c1, D1, b4, c4, E3, rfl, (perm_cnt fun a => by have e0 := p0.count_eq a; have e1 := p1.count_eq a; have e2 := p2.count_eq a; have e3 := p3.count_eq a; simp only [List.count_append, List.count_nil] at *; omega), h0, h1, w2, w3, h4⟩
  rintro ⟨l0, A0, b1, c1, A1, b4, c4, A4, rfl, hp, h0, h1, w2, w3, h4⟩
  exact ⟨l0, .slice b1 x.shares.length c1 :: .int .i64 x.at' :: .int .i64 x.n :: .slice b4 x.gots.length c4 :: [], A0, (A1 ++ ([] ++ ([] ++ A4))), rfl, (perm_cnt fun a => by have e := hp.count_eq a; simp only [List.count_append, List.count_nil] at *; omega), h0, ⟨[.slice b1 x.shares.length c1], .int .i64 x.at' :: .int .i64 x.n :: .slice b4 x.gots.length c4 :: [], A1, ([] ++ ([] ++ A4)), rfl, .refl _, h1, ⟨[.int .i64 x.at'], .int .i64 x.n :: .slice b4 x.gots.length c4 :: [], [], ([] ++ A4), rfl, .refl _, ⟨rfl, w2, rfl⟩, ⟨[.int .i64 x.n], [.slice b4 x.gots.length c4], [], A4, rfl, .refl _, ⟨rfl, w3, rfl⟩, h4⟩⟩⟩⟩
theorem opens_Cell : Opens Tryz.prog gCell.toRp 124 := by
  intro H' enc w H sp hd fuel cs d ps hcov ht
  obtain ⟨h1, h2⟩ := trod_fields ty124_ok.1 ht
  obtain ⟨_, _, t0⟩ := h2 0 0 26 rfl
  obtain ⟨x0, r0⟩ := opens_Query _ _ H _ _ _ _ _ _ hcov t0
  rw [show Tryz.prog.cellsOf 26 = 4 by kernel_rfl] at r0
  obtain ⟨_, _, t1⟩ := h2 1 4 28 rfl
  obtain ⟨x1, r1⟩ := (opens_sl ty28_ok.1 (by kernel_rfl) (by decide) (opens_fi ty3_ok.1)) _ _ H _ _ _ _ _ _ hcov t1
  rw [show Tryz.prog.cellsOf 28 = 1 by kernel_rfl] at r1
  obtain ⟨_, _, t2⟩ := h2 2 5 3 rfl
  obtain ⟨x2, r2⟩ := (opens_fi ty3_ok.1) _ _ H _ _ _ _ _ _ hcov t2
  rw [show Tryz.prog.cellsOf 3 = 1 by kernel_rfl] at r2
  obtain ⟨_, _, t3⟩ := h2 3 6 3 rfl
  obtain ⟨x3, r3⟩ := (opens_fi ty3_ok.1) _ _ H _ _ _ _ _ _ hcov t3
  rw [show Tryz.prog.cellsOf 3 = 1 by kernel_rfl] at r3
  obtain ⟨_, _, t4⟩ := h2 4 7 60 rfl
  obtain ⟨x4, r4⟩ := (opens_sl ty60_ok.1 (by kernel_rfl) (by decide) opens_Got) _ _ H _ _ _ _ _ _ hcov t4
  rw [show Tryz.prog.cellsOf 60 = 1 by kernel_rfl] at r4
  rw [show Tryz.prog.cellsOf 124 = 8 by kernel_rfl] at h1
  have key : gCell.rd H ((cs.drop 0).take 8) ⟨x0, x1, x2, x3, x4⟩ := (pair_at (g := gQuery) (h := (SX.gPair (gSl 3 gI) (SX.gPair gI (SX.gPair gI (gSl 171 gGot))))) (off := 0) r0 (pair_at (g := (gSl 3 gI)) (h := (SX.gPair gI (SX.gPair gI (gSl 171 gGot)))) (off := 4) r1 (pair_at (g := gI) (h := (SX.gPair gI (gSl 171 gGot))) (off := 5) r2 (pair_at (g := gI) (h := (gSl 171 gGot)) (off := 6) r3 r4))))
  rw [List.drop_zero, List.take_of_length_le (by omega)] at key
  exact ⟨_, key⟩
def zCell : Cell := ⟨zQuery, [], 0, 0, []⟩
theorem zCell_ow : gCell.ow [.bool false, .slice none 0 0, .slice none 0 0, .slice none 0 0, .slice none 0 0, .int .i64 0, .int .i64 0, .slice none 0 0] zCell [] := gCell_ow.2 ⟨_, [], none, 0, [], none, 0, [], rfl, by simp, zQuery_ow, sl_nil _ _ _, by first | (unfold okI; decide) | decide, by first | (unfold okI; decide) | decide, sl_nil _ _ _⟩
theorem gCell_sz (x : Cell) : gCell.sz x = gQuery.sz x.query + (szL gI x.shares + (0 + (0 + (szL gGot x.gots)))) := rfl
theorem Cell.eq_iff {x y : Cell} : x = y ↔ x.query = y.query ∧ x.shares = y.shares ∧ x.at' = y.at' ∧ x.n = y.n ∧ x.gots = y.gots := by cases x; cases y; simp
--@gt impl.Cell | gCell | default | obtain ⟨l0x#, b1x#, c1x#, b4x#, c4x#, rfl, h0x#, h1x#, w2x#, w3x#, h4x#⟩ := gCell_rd.1 hl# ; obtain ⟨b1_0x#, c1_0x#, b2_0x#, c2_0x#, b3_0x#, c3_0x#, rfl, h1_0x#, h2_0x#, h3_0x#⟩ := gQuery_rd.1 h0x# | 0 4 st gCell_query ; 0 1 pr gCell_query_each ; 1 1 sl gCell_query_out ; 2 1 sl gCell_query_atoms ; 3 1 sl gCell_query_filters ; 4 1 sl gCell_shares ; 5 1 pr gCell_at ; 6 1 pr gCell_n ; 7 1 sl gCell_gots | 8 | 
structure Mail where
  peer : Int
  letter : Letter
deriving DecidableEq, Inhabited
def gMail : Gt Mail := gIso (SX.gPair gI gLetter) (fun x => (x.peer, x.letter)) (fun p => ⟨p.1, p.2⟩)
theorem gMail_rd {H : Hp} {l : List Value} {x : Mail} : gMail.rd H l x ↔ ∃ (l1 : List Value), l = .int .i64 x.peer :: l1 ++ ([]) ∧ okI x.peer ∧ gLetter.rd H l1 x.letter := by
  constructor
  · rintro ⟨m0, q0, rfl, h0, h1⟩
    obtain ⟨rfl, w0⟩ := h0
    exact ⟨q0, (by simp [flInt, flBool, flByte, flStr]), w0, h1⟩
  rintro ⟨l1, rfl, w0, h1⟩
  exact ⟨[.int .i64 x.peer], l1, (by simp [flInt, flBool, flByte, flStr]), ⟨rfl, w0⟩, h1⟩
open Classical in
theorem gMail_ow {A : Hp} {l : List Value} {x : Mail} : gMail.ow l x A ↔ ∃ (l1 : List Value) (A1 : Hp), l = .int .i64 x.peer :: l1 ++ ([]) ∧ A.Perm A1 ∧ okI x.peer ∧ gLetter.ow l1 x.letter A1 := by
  constructor
  · rintro ⟨m0, q0, D0, E0, rfl, p0, h0, h1⟩
    obtain ⟨rfl, w0, e0⟩ := h0
    subst e0
    exact ⟨q0, E0, (by simp [flInt, flBool, flByte, flStr]), (perm_cnt fun a => by have e0 := p0.count_eq a; simp only [List.count_append, List.count_nil] at *; omega), w0, h1⟩
  rintro ⟨l1, A1, rfl, hp, w0, h1⟩
  exact ⟨[.int .i64 x.peer], l1, [], A1, (by simp [flInt, flBool, flByte, flStr]), (perm_cnt fun a => by have e := hp.count_eq a; simp only [List.count_append, List.count_nil] at *; omega), ⟨rfl, w0, rfl⟩, h1⟩
theorem opens_Mail : Opens Tryz.prog gMail.toRp 266 := by
  intro H' enc w H sp hd fuel cs d ps hcov ht
  obtain ⟨h1, h2⟩ := trod_fields ty266_ok.1 ht
  obtain ⟨_, _, t0⟩ := h2 0 0 3 rfl
  obtain ⟨x0, r0⟩ := (opens_fi ty3_ok.1) _ _ H _ _ _ _ _ _ hcov t0
  rw [show Tryz.prog.cellsOf 3 = 1 by kernel_rfl] at r0
  obtain ⟨_, _, t1⟩ := h2 1 1 264 rfl
  obtain ⟨x1, r1⟩ := opens_Letter _ _ H _ _ _ _ _ _ hcov t1
  rw [show Tryz.prog.cellsOf 264 = 6 by kernel_rfl] at r1
  rw [show Tryz.prog.cellsOf 266 = 7 by kernel_rfl] at h1
  have key : gMail.rd H ((cs.drop 0).take 7) ⟨x0, x1⟩ := (pair_at (g := gI) (h := gLetter) (off := 0) r0 r1)
  rw [List.drop_zero, List.take_of_length_le (by omega)] at key
  exact ⟨_, key⟩
def zMail : Mail := ⟨0, zLetter⟩
theorem zMail_ow : gMail.ow [.int .i64 0, .int .i64 0, .int .i64 0, .int .i64 0, .bool false, .slice none 0 0, .string .empty] zMail [] := gMail_ow.2 ⟨_, [], rfl, by simp, by first | (unfold okI; decide) | decide, zLetter_ow⟩
theorem gMail_sz (x : Mail) : gMail.sz x = 0 + (gLetter.sz x.letter) := rfl
theorem Mail.eq_iff {x y : Mail} : x = y ↔ x.peer = y.peer ∧ x.letter = y.letter := by cases x; cases y; simp
--@gt impl.Mail | gMail | default | obtain ⟨l1x#, rfl, w0x#, h1x#⟩ := gMail_rd.1 hl# ; obtain ⟨b4_1x#, c4_1x#, rfl, w0_1x#, w1_1x#, w2_1x#, h4_1x#, w5_1x#⟩ := gLetter_rd.1 h1x# | 0 1 pr gMail_peer ; 1 6 st gMail_letter ; 1 1 pr gMail_letter_kind ; 2 1 pr gMail_letter_atom ; 3 1 pr gMail_letter_num ; 4 1 pr gMail_letter_black ; 5 1 sl gMail_letter_walks ; 6 1 pr gMail_letter_text | 7 | 
structure Work where
  begun : Bool
  query : Query
  shares : List Int
  count : Int
  seen : List Walk
  num : Int
  black : Bool
  holds : Bool
  tokNum : Int
  tokBlack : Bool
  walked : Bool
  cell : Cell
  told : Bool
  waits : List Mail
deriving DecidableEq, Inhabited
def gWork : Gt Work := gIso (SX.gPair gB (SX.gPair gQuery (SX.gPair (gSl 3 gI) (SX.gPair gI (SX.gPair (gSl 184 gWalk) (SX.gPair gI (SX.gPair gB (SX.gPair gB (SX.gPair gI (SX.gPair gB (SX.gPair gB (SX.gPair gCell (SX.gPair gB (gSl 112 gMail)))))))))))))) (fun x => (x.begun, (x.query, (x.shares, (x.count, (x.seen, (x.num, (x.black, (x.holds, (x.tokNum, (x.tokBlack, (x.walked, (x.cell, (x.told, x.waits)))))))))))))) (fun p => ⟨p.1, p.2.1, p.2.2.1, p.2.2.2.1, p.2.2.2.2.1, p.2.2.2.2.2.1, p.2.2.2.2.2.2.1, p.2.2.2.2.2.2.2.1, p.2.2.2.2.2.2.2.2.1, p.2.2.2.2.2.2.2.2.2.1, p.2.2.2.2.2.2.2.2.2.2.1, p.2.2.2.2.2.2.2.2.2.2.2.1, p.2.2.2.2.2.2.2.2.2.2.2.2.1, p.2.2.2.2.2.2.2.2.2.2.2.2.2⟩)
theorem gWork_rd {H : Hp} {l : List Value} {x : Work} : gWork.rd H l x ↔ ∃ (l1 : List Value) (b2 : Option Addr) (c2 : Nat) (b4 : Option Addr) (c4 : Nat) (l11 : List Value) (b13 : Option Addr) (c13 : Nat), l = .bool x.begun :: l1 ++ (.slice b2 x.shares.length c2 :: .int .i64 x.count :: .slice b4 x.seen.length c4 :: .int .i64 x.num :: .bool x.black :: .bool x.holds :: .int .i64 x.tokNum :: .bool x.tokBlack :: .bool x.walked :: l11 ++ (.bool x.told :: .slice b13 x.waits.length c13 :: [])) ∧ gQuery.rd H l1 x.query ∧ (gSl 3 gI).rd H [.slice b2 x.shares.length c2] x.shares ∧ okI x.count ∧ (gSl 184 gWalk).rd H [.slice b4 x.seen.length c4] x.seen ∧ okI x.num ∧ okI x.tokNum ∧ gCell.rd H l11 x.cell ∧ (gSl 112 gMail).rd H [.slice b13 x.waits.length c13] x.waits := by
  constructor
  · rintro ⟨m0, q0, rfl, h0, m1, q1, rfl, h1, m2, q2, rfl, h2, m3, q3, rfl, h3, m4, q4, rfl, h4, m5, q5, rfl, h5, m6, q6, rfl, h6, m7, q7, rfl, h7, m8, q8, rfl, h8, m9, q9, rfl, h9, m10, q10, rfl, h10, m11, q11, rfl, h11, m12, q12, rfl, h12, h13⟩
    obtain ⟨rfl, w0⟩ := h0
    obtain ⟨b2, c2, rfl, h2⟩ := sl_rd h2
    obtain ⟨rfl, w3⟩ := h3
    obtain ⟨b4, c4, rfl, h4⟩ := sl_rd h4
    obtain ⟨rfl, w5⟩ := h5
    obtain ⟨rfl, w6⟩ := h6
    obtain ⟨rfl, w7⟩ := h7
    obtain ⟨rfl, w8⟩ := h8
    obtain ⟨rfl, w9⟩ := h9
    obtain ⟨rfl, w10⟩ := h10
    obtain ⟨rfl, w12⟩ := h12
    obtain ⟨b13, c13, rfl, h13⟩ := sl_rd h13
    exact ⟨m1, b2, c2, b4, c4, m11, b13, c13, rfl, h1, h2, w3, h4, w5, w8, h11, h13⟩
  rintro ⟨l1, b2, c2, b4, c4, l11, b13, c13, rfl, h1, h2, w3, h4, w5, w8, h11, h13⟩
  exact ⟨[.bool x.begun], l1 ++ (.slice b2 x.shares.length c2 :: .int .i64 x.count :: .slice b4 x.seen.length c4 :: .int .i64 x.num :: .bool x.black :: .bool x.holds :: .int .i64 x.tokNum :: .bool x.tokBlack :: .bool x.walked :: l11 ++ (.bool x.told :: .slice b13 x.waits.length c13 :: [])), rfl, ⟨rfl, trivial⟩, ⟨l1, .slice b2 x.shares.length c2 :: .int .i64 x.count :: .slice b4 x.seen.length c4 :: .int .i64 x.num :: .bool x.black :: .bool x.holds :: .int .i64 x.tokNum :: .bool x.tokBlack :: .bool x.walked :: l11 ++ (.bool x.told :: .slice b13 x.waits.length c13 :: []), rfl, h1, ⟨[.slice b2 x.shares.length c2], .int .i64 x.count :: .slice b4 x.seen.length c4 :: .int .i64 x.num :: .bool x.black :: .bool x.holds :: .int .i64 x.tokNum :: .bool x.tokBlack :: .bool x.walked :: l11 ++ (.bool x.told :: .slice b13 x.waits.length c13 :: []), rfl, h2, ⟨[.int .i64 x.count], .slice b4 x.seen.length c4 :: .int .i64 x.num :: .bool x.black :: .bool x.holds :: .int .i64 x.tokNum :: .bool x.tokBlack :: .bool x.walked :: l11 ++ (.bool x.told :: .slice b13 x.waits.length c13 :: []), rfl, ⟨rfl, w3⟩, ⟨[.slice b4 x.seen.length c4], .int .i64 x.num :: .bool x.black :: .bool x.holds :: .int .i64 x.tokNum :: .bool x.tokBlack :: .bool x.walked :: l11 ++ (.bool x.told :: .slice b13 x.waits.length c13 :: []), rfl, h4, ⟨[.int .i64 x.num], .bool x.black :: .bool x.holds :: .int .i64 x.tokNum :: .bool x.tokBlack :: .bool x.walked :: l11 ++ (.bool x.told :: .slice b13 x.waits.length c13 :: []), rfl, ⟨rfl, w5⟩, ⟨[.bool x.black], .bool x.holds :: .int .i64 x.tokNum :: .bool x.tokBlack :: .bool x.walked :: l11 ++ (.bool x.told :: .slice b13 x.waits.length c13 :: []), rfl, ⟨rfl, trivial⟩, ⟨[.bool x.holds], .int .i64 x.tokNum :: .bool x.tokBlack :: .bool x.walked :: l11 ++ (.bool x.told :: .slice b13 x.waits.length c13 :: []), rfl, ⟨rfl, trivial⟩, ⟨[.int .i64 x.tokNum], .bool x.tokBlack :: .bool x.walked :: l11 ++ (.bool x.told :: .slice b13 x.waits.length c13 :: []), rfl, ⟨rfl, w8⟩, ⟨[.bool x.tokBlack], .bool x.walked :: l11 ++ (.bool x.told :: .slice b13 x.waits.length c13 :: []), rfl, ⟨rfl, trivial⟩, ⟨[.bool x.walked], l11 ++ (.bool x.told :: .slice b13 x.waits.length c13 :: []), rfl, ⟨rfl, trivial⟩, ⟨l11, .bool x.told :: .slice b13 x.waits.length c13 :: [], rfl, h11, ⟨[.bool x.told], [.slice b13 x.waits.length c13], rfl, ⟨rfl, trivial⟩, h13⟩⟩⟩⟩⟩⟩⟩⟩⟩⟩⟩⟩⟩
open Classical in
theorem gWork_ow {A : Hp} {l : List Value} {x : Work} : gWork.ow l x A ↔ ∃ (l1 : List Value) (A1 : Hp) (b2 : Option Addr) (c2 : Nat) (A2 : Hp) (b4 : Option Addr) (c4 : Nat) (A4 : Hp) (l11 : List Value) (A11 : Hp) (b13 : Option Addr) (c13 : Nat) (A13 : Hp), l = .bool x.begun :: l1 ++ (.slice b2 x.shares.length c2 :: .int .i64 x.count :: .slice b4 x.seen.length c4 :: .int .i64 x.num :: .bool x.black :: .bool x.holds :: .int .i64 x.tokNum :: .bool x.tokBlack :: .bool x.walked :: l11 ++ (.bool x.told :: .slice b13 x.waits.length c13 :: [])) ∧ A.Perm (A1 ++ (A2 ++ (A4 ++ (A11 ++ A13)))) ∧ gQuery.ow l1 x.query A1 ∧ (gSl 3 gI).ow [.slice b2 x.shares.length c2] x.shares A2 ∧ okI x.count ∧ (gSl 184 gWalk).ow [.slice b4 x.seen.length c4] x.seen A4 ∧ okI x.num ∧ okI x.tokNum ∧ gCell.ow l11 x.cell A11 ∧ (gSl 112 gMail).ow [.slice b13 x.waits.length c13] x.waits A13 := by
  constructor
  · rintro ⟨m0, q0, D0, E0, rfl, p0, h0, m1, q1, D1, E1, rfl, p1, h1, m2, q2, D2, E2, rfl, p2, h2, m3, q3, D3, E3, rfl, p3, h3, m4, q4, D4, E4, rfl, p4, h4, m5, q5, D5, E5, rfl, p5, h5, m6, q6, D6, E6, rfl, p6, h6, m7, q7, D7, E7, rfl, p7, h7, m8, q8, D8, E8, rfl, p8, h8, m9, q9, D9, E9, rfl, p9, h9, m10, q10, D10, E10, rfl, p10, h10, m11, q11, D11, E11, rfl, p11, h11, m12, q12, D12, E12, rfl, p12, h12, h13⟩
    obtain ⟨rfl, w0, e0⟩ := h0
    subst e0
    obtain ⟨b2, c2, rfl, h2⟩ := sl_ow h2
    obtain ⟨rfl, w3, e3⟩ := h3
    subst e3
    obtain ⟨b4, c4, rfl, h4⟩ := sl_ow h4
    obtain ⟨rfl, w5, e5⟩ := h5
    subst e5
    obtain ⟨rfl, w6, e6⟩ := h6
    subst e6
    obtain ⟨rfl, w7, e7⟩ := h7
    subst e7
    obtain ⟨rfl, w8, e8⟩ := h8
    subst e8
    obtain ⟨rfl, w9, e9⟩ := h9
    subst e9
    obtain ⟨rfl, w10, e10⟩ := h10
    subst e10
    obtain ⟨rfl, w12, e12⟩ := h12
    subst e12
    obtain ⟨b13, c13, rfl, h13⟩ := sl_ow h13
    exact ⟨m1, D1, b2, c2, D2, b4, c4, D4, m11, D11, b13, c13, E12, rfl, (perm_cnt fun a => by have e0 := p0.count_eq a; have e1 := p1.count_eq a; have e2 := p2.count_eq a; have e3 := p3.count_eq a; have e4 := p4.count_eq a; have e5 := p5.count_eq a; have e6 := p6.count_eq a; have e7 := p7.count_eq a; have e8 := p8.count_eq a; have e9 := p9.count_eq a; have e10 := p10.count_eq a; have e11 := p11.count_eq a; have e12 := p12.count_eq a; simp only [List.count_append, List.count_nil] at *; omega), h1, h2, w3, h4, w5, w8, h11, h13⟩
  rintro ⟨l1, A1, b2, c2, A2, b4, c4, A4, l11, A11, b13, c13, A13, rfl, hp, h1, h2, w3, h4, w5, w8, h11, h13⟩
  exact ⟨[.bool x.begun], l1 ++ (.slice b2 x.shares.length c2 :: .int .i64 x.count :: .slice b4 x.seen.length c4 :: .int .i64 x.num :: .bool x.black :: .bool x.holds :: .int .i64 x.tokNum :: .bool x.tokBlack :: .bool x.walked :: l11 ++ (.bool x.told :: .slice b13 x.waits.length c13 :: [])), [], (A1 ++ (A2 ++ ([] ++ (A4 ++ ([] ++ ([] ++ ([] ++ ([] ++ ([] ++ ([] ++ (A11 ++ ([] ++ A13)))))))))))), rfl, (perm_cnt fun a => by have e := hp.count_eq a; simp only [List.count_append, List.count_nil] at *; omega), ⟨rfl, trivial, rfl⟩, ⟨l1, .slice b2 x.shares.length c2 :: .int .i64 x.count :: .slice b4 x.seen.length c4 :: .int .i64 x.num :: .bool x.black :: .bool x.holds :: .int .i64 x.tokNum :: .bool x.tokBlack :: .bool x.walked :: l11 ++ (.bool x.told :: .slice b13 x.waits.length c13 :: []), A1, (A2 ++ ([] ++ (A4 ++ ([] ++ ([] ++ ([] ++ ([] ++ ([] ++ ([] ++ (A11 ++ ([] ++ A13))))))))))), rfl, .refl _, h1, ⟨[.slice b2 x.shares.length c2], .int .i64 x.count :: .slice b4 x.seen.length c4 :: .int .i64 x.num :: .bool x.black :: .bool x.holds :: .int .i64 x.tokNum :: .bool x.tokBlack :: .bool x.walked :: l11 ++ (.bool x.told :: .slice b13 x.waits.length c13 :: []), A2, ([] ++ (A4 ++ ([] ++ ([] ++ ([] ++ ([] ++ ([] ++ ([] ++ (A11 ++ ([] ++ A13)))))))))), rfl, .refl _, h2, ⟨[.int .i64 x.count], .slice b4 x.seen.length c4 :: .int .i64 x.num :: .bool x.black :: .bool x.holds :: .int .i64 x.tokNum :: .bool x.tokBlack :: .bool x.walked :: l11 ++ (.bool x.told :: .slice b13 x.waits.length c13 :: []), [], (A4 ++ ([] ++ ([] ++ ([] ++ ([] ++ ([] ++ ([] ++ (A11 ++ ([] ++ A13))))))))), rfl, .refl _, ⟨rfl, w3, rfl⟩, ⟨[.slice b4 x.seen.length c4], .int .i64 x.num :: .bool x.black :: .bool x.holds :: .int .i64 x.tokNum :: .bool x.tokBlack :: .bool x.walked :: l11 ++ (.bool x.told :: .slice b13 x.waits.length c13 :: []), A4, ([] ++ ([] ++ ([] ++ ([] ++ ([] ++ ([] ++ (A11 ++ ([] ++ A13)))))))), rfl, .refl _, h4, ⟨[.int .i64 x.num], .bool x.black :: .bool x.holds :: .int .i64 x.tokNum :: .bool x.tokBlack :: .bool x.walked :: l11 ++ (.bool x.told :: .slice b13 x.waits.length c13 :: []), [], ([] ++ ([] ++ ([] ++ ([] ++ ([] ++ (A11 ++ ([] ++ A13))))))), rfl, .refl _, ⟨rfl, w5, rfl⟩, ⟨[.bool x.black], .bool x.holds :: .int .i64 x.tokNum :: .bool x.tokBlack :: .bool x.walked :: l11 ++ (.bool x.told :: .slice b13 x.waits.length c13 :: []), [], ([] ++ ([] ++ ([] ++ ([] ++ (A11 ++ ([] ++ A13)))))), rfl, .refl _, ⟨rfl, trivial, rfl⟩, ⟨[.bool x.holds], .int .i64 x.tokNum :: .bool x.tokBlack :: .bool x.walked :: l11 ++ (.bool x.told :: .slice b13 x.waits.length c13 :: []), [], ([] ++ ([] ++ ([] ++ (A11 ++ ([] ++ A13))))), rfl, .refl _, ⟨rfl, trivial, rfl⟩, ⟨[.int .i64 x.tokNum], .bool x.tokBlack :: .bool x.walked :: l11 ++ (.bool x.told :: .slice b13 x.waits.length c13 :: []), [], ([] ++ ([] ++ (A11 ++ ([] ++ A13)))), rfl, .refl _, ⟨rfl, w8, rfl⟩, ⟨[.bool x.tokBlack], .bool x.walked :: l11 ++ (.bool x.told :: .slice b13 x.waits.length c13 :: []), [], ([] ++ (A11 ++ ([] ++ A13))), rfl, .refl _, ⟨rfl, trivial, rfl⟩, ⟨[.bool x.walked], l11 ++ (.bool x.told :: .slice b13 x.waits.length c13 :: []), [], (A11 ++ ([] ++ A13)), rfl, .refl _, ⟨rfl, trivial, rfl⟩, ⟨l11, .bool x.told :: .slice b13 x.waits.length c13 :: [], A11, ([] ++ A13), rfl, .refl _, h11, ⟨[.bool x.told], [.slice b13 x.waits.length c13], [], A13, rfl, .refl _, ⟨rfl, trivial, rfl⟩, h13⟩⟩⟩⟩⟩⟩⟩⟩⟩⟩⟩⟩⟩
theorem opens_Work : Opens Tryz.prog gWork.toRp 127 := by
  intro H' enc w H sp hd fuel cs d ps hcov ht
  obtain ⟨h1, h2⟩ := trod_fields ty127_ok.1 ht
  obtain ⟨_, _, t0⟩ := h2 0 0 4 rfl
  obtain ⟨x0, r0⟩ := (opens_fb ty4_ok.1) _ _ H _ _ _ _ _ _ hcov t0
  rw [show Tryz.prog.cellsOf 4 = 1 by kernel_rfl] at r0
  obtain ⟨_, _, t1⟩ := h2 1 1 26 rfl
  obtain ⟨x1, r1⟩ := opens_Query _ _ H _ _ _ _ _ _ hcov t1
  rw [show Tryz.prog.cellsOf 26 = 4 by kernel_rfl] at r1
  obtain ⟨_, _, t2⟩ := h2 2 5 28 rfl
  obtain ⟨x2, r2⟩ := (opens_sl ty28_ok.1 (by kernel_rfl) (by decide) (opens_fi ty3_ok.1)) _ _ H _ _ _ _ _ _ hcov t2
  rw [show Tryz.prog.cellsOf 28 = 1 by kernel_rfl] at r2
  obtain ⟨_, _, t3⟩ := h2 3 6 3 rfl
  obtain ⟨x3, r3⟩ := (opens_fi ty3_ok.1) _ _ H _ _ _ _ _ _ hcov t3
  rw [show Tryz.prog.cellsOf 3 = 1 by kernel_rfl] at r3
  obtain ⟨_, _, t4⟩ := h2 4 7 122 rfl
  obtain ⟨x4, r4⟩ := (opens_sl ty122_ok.1 (by kernel_rfl) (by decide) opens_Walk) _ _ H _ _ _ _ _ _ hcov t4
  rw [show Tryz.prog.cellsOf 122 = 1 by kernel_rfl] at r4
  obtain ⟨_, _, t5⟩ := h2 5 8 3 rfl
  obtain ⟨x5, r5⟩ := (opens_fi ty3_ok.1) _ _ H _ _ _ _ _ _ hcov t5
  rw [show Tryz.prog.cellsOf 3 = 1 by kernel_rfl] at r5
  obtain ⟨_, _, t6⟩ := h2 6 9 4 rfl
  obtain ⟨x6, r6⟩ := (opens_fb ty4_ok.1) _ _ H _ _ _ _ _ _ hcov t6
  rw [show Tryz.prog.cellsOf 4 = 1 by kernel_rfl] at r6
  obtain ⟨_, _, t7⟩ := h2 7 10 4 rfl
  obtain ⟨x7, r7⟩ := (opens_fb ty4_ok.1) _ _ H _ _ _ _ _ _ hcov t7
  rw [show Tryz.prog.cellsOf 4 = 1 by kernel_rfl] at r7
  obtain ⟨_, _, t8⟩ := h2 8 11 3 rfl
  obtain ⟨x8, r8⟩ := (opens_fi ty3_ok.1) _ _ H _ _ _ _ _ _ hcov t8
  rw [show Tryz.prog.cellsOf 3 = 1 by kernel_rfl] at r8
  obtain ⟨_, _, t9⟩ := h2 9 12 4 rfl
  obtain ⟨x9, r9⟩ := (opens_fb ty4_ok.1) _ _ H _ _ _ _ _ _ hcov t9
  rw [show Tryz.prog.cellsOf 4 = 1 by kernel_rfl] at r9
  obtain ⟨_, _, t10⟩ := h2 10 13 4 rfl
  obtain ⟨x10, r10⟩ := (opens_fb ty4_ok.1) _ _ H _ _ _ _ _ _ hcov t10
  rw [show Tryz.prog.cellsOf 4 = 1 by kernel_rfl] at r10
  obtain ⟨_, _, t11⟩ := h2 11 14 124 rfl
  obtain ⟨x11, r11⟩ := opens_Cell _ _ H _ _ _ _ _ _ hcov t11
  rw [show Tryz.prog.cellsOf 124 = 8 by kernel_rfl] at r11
  obtain ⟨_, _, t12⟩ := h2 12 22 4 rfl
  obtain ⟨x12, r12⟩ := (opens_fb ty4_ok.1) _ _ H _ _ _ _ _ _ hcov t12
  rw [show Tryz.prog.cellsOf 4 = 1 by kernel_rfl] at r12
  obtain ⟨_, _, t13⟩ := h2 13 23 125 rfl
  obtain ⟨x13, r13⟩ := (opens_sl ty125_ok.1 (by kernel_rfl) (by decide) opens_Mail) _ _ H _ _ _ _ _ _ hcov t13
  rw [show Tryz.prog.cellsOf 125 = 1 by kernel_rfl] at r13
  rw [show Tryz.prog.cellsOf 127 = 24 by kernel_rfl] at h1
  have key : gWork.rd H ((cs.drop 0).take 24) ⟨x0, x1, x2, x3, x4, x5, x6, x7, x8, x9, x10, x11, x12, x13⟩ := (pair_at (g := gB) (h := (SX.gPair gQuery (SX.gPair (gSl 3 gI) (SX.gPair gI (SX.gPair (gSl 184 gWalk) (SX.gPair gI (SX.gPair gB (SX.gPair gB (SX.gPair gI (SX.gPair gB (SX.gPair gB (SX.gPair gCell (SX.gPair gB (gSl 112 gMail)))))))))))))) (off := 0) r0 (pair_at (g := gQuery) (h := (SX.gPair (gSl 3 gI) (SX.gPair gI (SX.gPair (gSl 184 gWalk) (SX.gPair gI (SX.gPair gB (SX.gPair gB (SX.gPair gI (SX.gPair gB (SX.gPair gB (SX.gPair gCell (SX.gPair gB (gSl 112 gMail))))))))))))) (off := 1) r1 (pair_at (g := (gSl 3 gI)) (h := (SX.gPair gI (SX.gPair (gSl 184 gWalk) (SX.gPair gI (SX.gPair gB (SX.gPair gB (SX.gPair gI (SX.gPair gB (SX.gPair gB (SX.gPair gCell (SX.gPair gB (gSl 112 gMail)))))))))))) (off := 5) r2 (pair_at (g := gI) (h := (SX.gPair (gSl 184 gWalk) (SX.gPair gI (SX.gPair gB (SX.gPair gB (SX.gPair gI (SX.gPair gB (SX.gPair gB (SX.gPair gCell (SX.gPair gB (gSl 112 gMail))))))))))) (off := 6) r3 (pair_at (g := (gSl 184 gWalk)) (h := (SX.gPair gI (SX.gPair gB (SX.gPair gB (SX.gPair gI (SX.gPair gB (SX.gPair gB (SX.gPair gCell (SX.gPair gB (gSl 112 gMail)))))))))) (off := 7) r4 (pair_at (g := gI) (h := (SX.gPair gB (SX.gPair gB (SX.gPair gI (SX.gPair gB (SX.gPair gB (SX.gPair gCell (SX.gPair gB (gSl 112 gMail))))))))) (off := 8) r5 (pair_at (g := gB) (h := (SX.gPair gB (SX.gPair gI (SX.gPair gB (SX.gPair gB (SX.gPair gCell (SX.gPair gB (gSl 112 gMail)))))))) (off := 9) r6 (pair_at (g := gB) (h := (SX.gPair gI (SX.gPair gB (SX.gPair gB (SX.gPair gCell (SX.gPair gB (gSl 112 gMail))))))) (off := 10) r7 (pair_at (g := gI) (h := (SX.gPair gB (SX.gPair gB (SX.gPair gCell (SX.gPair gB (gSl 112 gMail)))))) (off := 11) r8 (pair_at (g := gB) (h := (SX.gPair gB (SX.gPair gCell (SX.gPair gB (gSl 112 gMail))))) (off := 12) r9 (pair_at (g := gB) (h := (SX.gPair gCell (SX.gPair gB (gSl 112 gMail)))) (off := 13) r10 (pair_at (g := gCell) (h := (SX.gPair gB (gSl 112 gMail))) (off := 14) r11 (pair_at (g := gB) (h := (gSl 112 gMail)) (off := 22) r12 r13)))))))))))))
  rw [List.drop_zero, List.take_of_length_le (by omega)] at key
  exact ⟨_, key⟩
def zWork : Work := ⟨false, zQuery, [], 0, [], 0, false, false, 0, false, false, zCell, false, []⟩
theorem zWork_ow : gWork.ow [.bool false, .bool false, .slice none 0 0, .slice none 0 0, .slice none 0 0, .slice none 0 0, .int .i64 0, .slice none 0 0, .int .i64 0, .bool false, .bool false, .int .i64 0, .bool false, .bool false, .bool false, .slice none 0 0, .slice none 0 0, .slice none 0 0, .slice none 0 0, .int .i64 0, .int .i64 0, .slice none 0 0, .bool false, .slice none 0 0] zWork [] := gWork_ow.2 ⟨_, [], none, 0, [], none, 0, [], _, [], none, 0, [], rfl, by simp, zQuery_ow, sl_nil _ _ _, by first | (unfold okI; decide) | decide, sl_nil _ _ _, by first | (unfold okI; decide) | decide, by first | (unfold okI; decide) | decide, zCell_ow, sl_nil _ _ _⟩
theorem gWork_sz (x : Work) : gWork.sz x = 0 + (gQuery.sz x.query + (szL gI x.shares + (0 + (szL gWalk x.seen + (0 + (0 + (0 + (0 + (0 + (0 + (gCell.sz x.cell + (0 + (szL gMail x.waits))))))))))))) := rfl
theorem Work.eq_iff {x y : Work} : x = y ↔ x.begun = y.begun ∧ x.query = y.query ∧ x.shares = y.shares ∧ x.count = y.count ∧ x.seen = y.seen ∧ x.num = y.num ∧ x.black = y.black ∧ x.holds = y.holds ∧ x.tokNum = y.tokNum ∧ x.tokBlack = y.tokBlack ∧ x.walked = y.walked ∧ x.cell = y.cell ∧ x.told = y.told ∧ x.waits = y.waits := by cases x; cases y; simp
--@gt impl.Work | gWork | default | obtain ⟨l1x#, b2x#, c2x#, b4x#, c4x#, l11x#, b13x#, c13x#, rfl, h1x#, h2x#, w3x#, h4x#, w5x#, w8x#, h11x#, h13x#⟩ := gWork_rd.1 hl# ; obtain ⟨b1_1x#, c1_1x#, b2_1x#, c2_1x#, b3_1x#, c3_1x#, rfl, h1_1x#, h2_1x#, h3_1x#⟩ := gQuery_rd.1 h1x# ; obtain ⟨l0_11x#, b1_11x#, c1_11x#, b4_11x#, c4_11x#, rfl, h0_11x#, h1_11x#, w2_11x#, w3_11x#, h4_11x#⟩ := gCell_rd.1 h11x# ; obtain ⟨b1_0_11x#, c1_0_11x#, b2_0_11x#, c2_0_11x#, b3_0_11x#, c3_0_11x#, rfl, h1_0_11x#, h2_0_11x#, h3_0_11x#⟩ := gQuery_rd.1 h0_11x# | 0 1 pr gWork_begun ; 1 4 st gWork_query ; 1 1 pr gWork_query_each ; 2 1 sl gWork_query_out ; 3 1 sl gWork_query_atoms ; 4 1 sl gWork_query_filters ; 5 1 sl gWork_shares ; 6 1 pr gWork_count ; 7 1 sl gWork_seen ; 8 1 pr gWork_num ; 9 1 pr gWork_black ; 10 1 pr gWork_holds ; 11 1 pr gWork_tokNum ; 12 1 pr gWork_tokBlack ; 13 1 pr gWork_walked ; 14 8 st gWork_cell ; 14 4 st gWork_cell_query ; 14 1 pr gWork_cell_query_each ; 15 1 sl gWork_cell_query_out ; 16 1 sl gWork_cell_query_atoms ; 17 1 sl gWork_cell_query_filters ; 18 1 sl gWork_cell_shares ; 19 1 pr gWork_cell_at ; 20 1 pr gWork_cell_n ; 21 1 sl gWork_cell_gots ; 22 1 pr gWork_told ; 23 1 sl gWork_waits | 24 | 
structure Ask where
  on : Bool
  query : Query
  shares : List Int
  count : Int
  results : List Got
  over : Bool
  answer : Bag
deriving DecidableEq, Inhabited
def gAsk : Gt Ask := gIso (SX.gPair gB (SX.gPair gQuery (SX.gPair (gSl 3 gI) (SX.gPair gI (SX.gPair (gSl 171 gGot) (SX.gPair gB gBag)))))) (fun x => (x.on, (x.query, (x.shares, (x.count, (x.results, (x.over, x.answer))))))) (fun p => ⟨p.1, p.2.1, p.2.2.1, p.2.2.2.1, p.2.2.2.2.1, p.2.2.2.2.2.1, p.2.2.2.2.2.2⟩)
theorem gAsk_rd {H : Hp} {l : List Value} {x : Ask} : gAsk.rd H l x ↔ ∃ (l1 : List Value) (b2 : Option Addr) (c2 : Nat) (b4 : Option Addr) (c4 : Nat) (l6 : List Value), l = .bool x.on :: l1 ++ (.slice b2 x.shares.length c2 :: .int .i64 x.count :: .slice b4 x.results.length c4 :: .bool x.over :: l6 ++ ([])) ∧ gQuery.rd H l1 x.query ∧ (gSl 3 gI).rd H [.slice b2 x.shares.length c2] x.shares ∧ okI x.count ∧ (gSl 171 gGot).rd H [.slice b4 x.results.length c4] x.results ∧ gBag.rd H l6 x.answer := by
  constructor
  · rintro ⟨m0, q0, rfl, h0, m1, q1, rfl, h1, m2, q2, rfl, h2, m3, q3, rfl, h3, m4, q4, rfl, h4, m5, q5, rfl, h5, h6⟩
    obtain ⟨rfl, w0⟩ := h0
    obtain ⟨b2, c2, rfl, h2⟩ := sl_rd h2
    obtain ⟨rfl, w3⟩ := h3
    obtain ⟨b4, c4, rfl, h4⟩ := sl_rd h4
    obtain ⟨rfl, w5⟩ := h5
    exact ⟨m1, b2, c2, b4, c4, q5, (by simp [flInt, flBool, flByte, flStr]), h1, h2, w3, h4, h6⟩
  rintro ⟨l1, b2, c2, b4, c4, l6, rfl, h1, h2, w3, h4, h6⟩
  exact ⟨[.bool x.on], l1 ++ (.slice b2 x.shares.length c2 :: .int .i64 x.count :: .slice b4 x.results.length c4 :: .bool x.over :: l6 ++ ([])), rfl, ⟨rfl, trivial⟩, ⟨l1, .slice b2 x.shares.length c2 :: .int .i64 x.count :: .slice b4 x.results.length c4 :: .bool x.over :: l6 ++ ([]), rfl, h1, ⟨[.slice b2 x.shares.length c2], .int .i64 x.count :: .slice b4 x.results.length c4 :: .bool x.over :: l6 ++ ([]), rfl, h2, ⟨[.int .i64 x.count], .slice b4 x.results.length c4 :: .bool x.over :: l6 ++ ([]), rfl, ⟨rfl, w3⟩, ⟨[.slice b4 x.results.length c4], .bool x.over :: l6 ++ ([]), rfl, h4, ⟨[.bool x.over], l6, (by simp [flInt, flBool, flByte, flStr]), ⟨rfl, trivial⟩, h6⟩⟩⟩⟩⟩⟩
open Classical in
theorem gAsk_ow {A : Hp} {l : List Value} {x : Ask} : gAsk.ow l x A ↔ ∃ (l1 : List Value) (A1 : Hp) (b2 : Option Addr) (c2 : Nat) (A2 : Hp) (b4 : Option Addr) (c4 : Nat) (A4 : Hp) (l6 : List Value) (A6 : Hp), l = .bool x.on :: l1 ++ (.slice b2 x.shares.length c2 :: .int .i64 x.count :: .slice b4 x.results.length c4 :: .bool x.over :: l6 ++ ([])) ∧ A.Perm (A1 ++ (A2 ++ (A4 ++ A6))) ∧ gQuery.ow l1 x.query A1 ∧ (gSl 3 gI).ow [.slice b2 x.shares.length c2] x.shares A2 ∧ okI x.count ∧ (gSl 171 gGot).ow [.slice b4 x.results.length c4] x.results A4 ∧ gBag.ow l6 x.answer A6 := by
  constructor
  · rintro ⟨m0, q0, D0, E0, rfl, p0, h0, m1, q1, D1, E1, rfl, p1, h1, m2, q2, D2, E2, rfl, p2, h2, m3, q3, D3, E3, rfl, p3, h3, m4, q4, D4, E4, rfl, p4, h4, m5, q5, D5, E5, rfl, p5, h5, h6⟩
    obtain ⟨rfl, w0, e0⟩ := h0
    subst e0
    obtain ⟨b2, c2, rfl, h2⟩ := sl_ow h2
    obtain ⟨rfl, w3, e3⟩ := h3
    subst e3
    obtain ⟨b4, c4, rfl, h4⟩ := sl_ow h4
    obtain ⟨rfl, w5, e5⟩ := h5
    subst e5
    exact ⟨m1, D1, b2, c2, D2, b4, c4, D4, q5, E5, (by simp [flInt, flBool, flByte, flStr]), (perm_cnt fun a => by have e0 := p0.count_eq a; have e1 := p1.count_eq a; have e2 := p2.count_eq a; have e3 := p3.count_eq a; have e4 := p4.count_eq a; have e5 := p5.count_eq a; simp only [List.count_append, List.count_nil] at *; omega), h1, h2, w3, h4, h6⟩
  rintro ⟨l1, A1, b2, c2, A2, b4, c4, A4, l6, A6, rfl, hp, h1, h2, w3, h4, h6⟩
  exact ⟨[.bool x.on], l1 ++ (.slice b2 x.shares.length c2 :: .int .i64 x.count :: .slice b4 x.results.length c4 :: .bool x.over :: l6 ++ ([])), [], (A1 ++ (A2 ++ ([] ++ (A4 ++ ([] ++ A6))))), rfl, (perm_cnt fun a => by have e := hp.count_eq a; simp only [List.count_append, List.count_nil] at *; omega), ⟨rfl, trivial, rfl⟩, ⟨l1, .slice b2 x.shares.length c2 :: .int .i64 x.count :: .slice b4 x.results.length c4 :: .bool x.over :: l6 ++ ([]), A1, (A2 ++ ([] ++ (A4 ++ ([] ++ A6)))), rfl, .refl _, h1, ⟨[.slice b2 x.shares.length c2], .int .i64 x.count :: .slice b4 x.results.length c4 :: .bool x.over :: l6 ++ ([]), A2, ([] ++ (A4 ++ ([] ++ A6))), rfl, .refl _, h2, ⟨[.int .i64 x.count], .slice b4 x.results.length c4 :: .bool x.over :: l6 ++ ([]), [], (A4 ++ ([] ++ A6)), rfl, .refl _, ⟨rfl, w3, rfl⟩, ⟨[.slice b4 x.results.length c4], .bool x.over :: l6 ++ ([]), A4, ([] ++ A6), rfl, .refl _, h4, ⟨[.bool x.over], l6, [], A6, (by simp [flInt, flBool, flByte, flStr]), .refl _, ⟨rfl, trivial, rfl⟩, h6⟩⟩⟩⟩⟩⟩
theorem opens_Ask : Opens Tryz.prog gAsk.toRp 65 := by
  intro H' enc w H sp hd fuel cs d ps hcov ht
  obtain ⟨h1, h2⟩ := trod_fields ty65_ok.1 ht
  obtain ⟨_, _, t0⟩ := h2 0 0 4 rfl
  obtain ⟨x0, r0⟩ := (opens_fb ty4_ok.1) _ _ H _ _ _ _ _ _ hcov t0
  rw [show Tryz.prog.cellsOf 4 = 1 by kernel_rfl] at r0
  obtain ⟨_, _, t1⟩ := h2 1 1 26 rfl
  obtain ⟨x1, r1⟩ := opens_Query _ _ H _ _ _ _ _ _ hcov t1
  rw [show Tryz.prog.cellsOf 26 = 4 by kernel_rfl] at r1
  obtain ⟨_, _, t2⟩ := h2 2 5 28 rfl
  obtain ⟨x2, r2⟩ := (opens_sl ty28_ok.1 (by kernel_rfl) (by decide) (opens_fi ty3_ok.1)) _ _ H _ _ _ _ _ _ hcov t2
  rw [show Tryz.prog.cellsOf 28 = 1 by kernel_rfl] at r2
  obtain ⟨_, _, t3⟩ := h2 3 6 3 rfl
  obtain ⟨x3, r3⟩ := (opens_fi ty3_ok.1) _ _ H _ _ _ _ _ _ hcov t3
  rw [show Tryz.prog.cellsOf 3 = 1 by kernel_rfl] at r3
  obtain ⟨_, _, t4⟩ := h2 4 7 60 rfl
  obtain ⟨x4, r4⟩ := (opens_sl ty60_ok.1 (by kernel_rfl) (by decide) opens_Got) _ _ H _ _ _ _ _ _ hcov t4
  rw [show Tryz.prog.cellsOf 60 = 1 by kernel_rfl] at r4
  obtain ⟨_, _, t5⟩ := h2 5 8 4 rfl
  obtain ⟨x5, r5⟩ := (opens_fb ty4_ok.1) _ _ H _ _ _ _ _ _ hcov t5
  rw [show Tryz.prog.cellsOf 4 = 1 by kernel_rfl] at r5
  obtain ⟨_, _, t6⟩ := h2 6 9 63 rfl
  obtain ⟨x6, r6⟩ := opens_Bag _ _ H _ _ _ _ _ _ hcov t6
  rw [show Tryz.prog.cellsOf 63 = 1 by kernel_rfl] at r6
  rw [show Tryz.prog.cellsOf 65 = 10 by kernel_rfl] at h1
  have key : gAsk.rd H ((cs.drop 0).take 10) ⟨x0, x1, x2, x3, x4, x5, x6⟩ := (pair_at (g := gB) (h := (SX.gPair gQuery (SX.gPair (gSl 3 gI) (SX.gPair gI (SX.gPair (gSl 171 gGot) (SX.gPair gB gBag)))))) (off := 0) r0 (pair_at (g := gQuery) (h := (SX.gPair (gSl 3 gI) (SX.gPair gI (SX.gPair (gSl 171 gGot) (SX.gPair gB gBag))))) (off := 1) r1 (pair_at (g := (gSl 3 gI)) (h := (SX.gPair gI (SX.gPair (gSl 171 gGot) (SX.gPair gB gBag)))) (off := 5) r2 (pair_at (g := gI) (h := (SX.gPair (gSl 171 gGot) (SX.gPair gB gBag))) (off := 6) r3 (pair_at (g := (gSl 171 gGot)) (h := (SX.gPair gB gBag)) (off := 7) r4 (pair_at (g := gB) (h := gBag) (off := 8) r5 r6))))))
  rw [List.drop_zero, List.take_of_length_le (by omega)] at key
  exact ⟨_, key⟩
def zAsk : Ask := ⟨false, zQuery, [], 0, [], false, zBag⟩
theorem zAsk_ow : gAsk.ow [.bool false, .bool false, .slice none 0 0, .slice none 0 0, .slice none 0 0, .slice none 0 0, .int .i64 0, .slice none 0 0, .bool false, .slice none 0 0] zAsk [] := gAsk_ow.2 ⟨_, [], none, 0, [], none, 0, [], _, [], rfl, by simp, zQuery_ow, sl_nil _ _ _, by first | (unfold okI; decide) | decide, sl_nil _ _ _, zBag_ow⟩
theorem gAsk_sz (x : Ask) : gAsk.sz x = 0 + (gQuery.sz x.query + (szL gI x.shares + (0 + (szL gGot x.results + (0 + (gBag.sz x.answer)))))) := rfl
theorem Ask.eq_iff {x y : Ask} : x = y ↔ x.on = y.on ∧ x.query = y.query ∧ x.shares = y.shares ∧ x.count = y.count ∧ x.results = y.results ∧ x.over = y.over ∧ x.answer = y.answer := by cases x; cases y; simp
--@gt impl.Ask | gAsk | default | obtain ⟨l1x#, b2x#, c2x#, b4x#, c4x#, l6x#, rfl, h1x#, h2x#, w3x#, h4x#, h6x#⟩ := gAsk_rd.1 hl# ; obtain ⟨b1_1x#, c1_1x#, b2_1x#, c2_1x#, b3_1x#, c3_1x#, rfl, h1_1x#, h2_1x#, h3_1x#⟩ := gQuery_rd.1 h1x# ; obtain ⟨b0_6x#, c0_6x#, rfl, h0_6x#⟩ := gBag_rd.1 h6x# | 0 1 pr gAsk_on ; 1 4 st gAsk_query ; 1 1 pr gAsk_query_each ; 2 1 sl gAsk_query_out ; 3 1 sl gAsk_query_atoms ; 4 1 sl gAsk_query_filters ; 5 1 sl gAsk_shares ; 6 1 pr gAsk_count ; 7 1 sl gAsk_results ; 8 1 pr gAsk_over ; 9 1 st gAsk_answer ; 9 1 sl gAsk_answer_items | 10 | 
structure Node where
  id : Int
  up : Bool
  disk : Disk
  epoch : Int
  joined : Bool
  links : List Link
  work : Work
  ask : Ask
deriving DecidableEq, Inhabited
def gNode : Gt Node := gIso (SX.gPair gI (SX.gPair gB (SX.gPair gDisk (SX.gPair gI (SX.gPair gB (SX.gPair (gSl 232 gLink) (SX.gPair gWork gAsk))))))) (fun x => (x.id, (x.up, (x.disk, (x.epoch, (x.joined, (x.links, (x.work, x.ask)))))))) (fun p => ⟨p.1, p.2.1, p.2.2.1, p.2.2.2.1, p.2.2.2.2.1, p.2.2.2.2.2.1, p.2.2.2.2.2.2.1, p.2.2.2.2.2.2.2⟩)
theorem gNode_rd {H : Hp} {l : List Value} {x : Node} : gNode.rd H l x ↔ ∃ (l2 : List Value) (b5 : Option Addr) (c5 : Nat) (l6 : List Value) (l7 : List Value), l = .int .i64 x.id :: .bool x.up :: l2 ++ (.int .i64 x.epoch :: .bool x.joined :: .slice b5 x.links.length c5 :: l6 ++ (l7 ++ ([]))) ∧ okI x.id ∧ gDisk.rd H l2 x.disk ∧ okI x.epoch ∧ (gSl 232 gLink).rd H [.slice b5 x.links.length c5] x.links ∧ gWork.rd H l6 x.work ∧ gAsk.rd H l7 x.ask := by
  constructor
  · rintro ⟨m0, q0, rfl, h0, m1, q1, rfl, h1, m2, q2, rfl, h2, m3, q3, rfl, h3, m4, q4, rfl, h4, m5, q5, rfl, h5, m6, q6, rfl, h6, h7⟩
    obtain ⟨rfl, w0⟩ := h0
    obtain ⟨rfl, w1⟩ := h1
    obtain ⟨rfl, w3⟩ := h3
    obtain ⟨rfl, w4⟩ := h4
    obtain ⟨b5, c5, rfl, h5⟩ := sl_rd h5
    exact ⟨m2, b5, c5, m6, q6, (by simp [flInt, flBool, flByte, flStr]), w0, h2, w3, h5, h6, h7⟩
  rintro ⟨l2, b5, c5, l6, l7, rfl, w0, h2, w3, h5, h6, h7⟩
  exact ⟨[.int .i64 x.id], .bool x.up :: l2 ++ (.int .i64 x.epoch :: .bool x.joined :: .slice b5 x.links.length c5 :: l6 ++ (l7 ++ ([]))), rfl, ⟨rfl, w0⟩, ⟨[.bool x.up], l2 ++ (.int .i64 x.epoch :: .bool x.joined :: .slice b5 x.links.length c5 :: l6 ++ (l7 ++ ([]))), rfl, ⟨rfl, trivial⟩, ⟨l2, .int .i64 x.epoch :: .bool x.joined :: .slice b5 x.links.length c5 :: l6 ++ (l7 ++ ([])), rfl, h2, ⟨[.int .i64 x.epoch], .bool x.joined :: .slice b5 x.links.length c5 :: l6 ++ (l7 ++ ([])), rfl, ⟨rfl, w3⟩, ⟨[.bool x.joined], .slice b5 x.links.length c5 :: l6 ++ (l7 ++ ([])), rfl, ⟨rfl, trivial⟩, ⟨[.slice b5 x.links.length c5], l6 ++ (l7 ++ ([])), rfl, h5, ⟨l6, l7, (by simp [flInt, flBool, flByte, flStr]), h6, h7⟩⟩⟩⟩⟩⟩⟩
open Classical in
theorem gNode_ow {A : Hp} {l : List Value} {x : Node} : gNode.ow l x A ↔ ∃ (l2 : List Value) (A2 : Hp) (b5 : Option Addr) (c5 : Nat) (A5 : Hp) (l6 : List Value) (A6 : Hp) (l7 : List Value) (A7 : Hp), l = .int .i64 x.id :: .bool x.up :: l2 ++ (.int .i64 x.epoch :: .bool x.joined :: .slice b5 x.links.length c5 :: l6 ++ (l7 ++ ([]))) ∧ A.Perm (A2 ++ (A5 ++ (A6 ++ A7))) ∧ okI x.id ∧ gDisk.ow l2 x.disk A2 ∧ okI x.epoch ∧ (gSl 232 gLink).ow [.slice b5 x.links.length c5] x.links A5 ∧ gWork.ow l6 x.work A6 ∧ gAsk.ow l7 x.ask A7 := by
  constructor
  · rintro ⟨m0, q0, D0, E0, rfl, p0, h0, m1, q1, D1, E1, rfl, p1, h1, m2, q2, D2, E2, rfl, p2, h2, m3, q3, D3, E3, rfl, p3, h3, m4, q4, D4, E4, rfl, p4, h4, m5, q5, D5, E5, rfl, p5, h5, m6, q6, D6, E6, rfl, p6, h6, h7⟩
    obtain ⟨rfl, w0, e0⟩ := h0
    subst e0
    obtain ⟨rfl, w1, e1⟩ := h1
    subst e1
    obtain ⟨rfl, w3, e3⟩ := h3
    subst e3
    obtain ⟨rfl, w4, e4⟩ := h4
    subst e4
    obtain ⟨b5, c5, rfl, h5⟩ := sl_ow h5
    exact ⟨m2, D2, b5, c5, D5, m6, D6, q6, E6, (by simp [flInt, flBool, flByte, flStr]), (perm_cnt fun a => by have e0 := p0.count_eq a; have e1 := p1.count_eq a; have e2 := p2.count_eq a; have e3 := p3.count_eq a; have e4 := p4.count_eq a; have e5 := p5.count_eq a; have e6 := p6.count_eq a; simp only [List.count_append, List.count_nil] at *; omega), w0, h2, w3, h5, h6, h7⟩
  rintro ⟨l2, A2, b5, c5, A5, l6, A6, l7, A7, rfl, hp, w0, h2, w3, h5, h6, h7⟩
  exact ⟨[.int .i64 x.id], .bool x.up :: l2 ++ (.int .i64 x.epoch :: .bool x.joined :: .slice b5 x.links.length c5 :: l6 ++ (l7 ++ ([]))), [], ([] ++ (A2 ++ ([] ++ ([] ++ (A5 ++ (A6 ++ A7)))))), rfl, (perm_cnt fun a => by have e := hp.count_eq a; simp only [List.count_append, List.count_nil] at *; omega), ⟨rfl, w0, rfl⟩, ⟨[.bool x.up], l2 ++ (.int .i64 x.epoch :: .bool x.joined :: .slice b5 x.links.length c5 :: l6 ++ (l7 ++ ([]))), [], (A2 ++ ([] ++ ([] ++ (A5 ++ (A6 ++ A7))))), rfl, .refl _, ⟨rfl, trivial, rfl⟩, ⟨l2, .int .i64 x.epoch :: .bool x.joined :: .slice b5 x.links.length c5 :: l6 ++ (l7 ++ ([])), A2, ([] ++ ([] ++ (A5 ++ (A6 ++ A7)))), rfl, .refl _, h2, ⟨[.int .i64 x.epoch], .bool x.joined :: .slice b5 x.links.length c5 :: l6 ++ (l7 ++ ([])), [], ([] ++ (A5 ++ (A6 ++ A7))), rfl, .refl _, ⟨rfl, w3, rfl⟩, ⟨[.bool x.joined], .slice b5 x.links.length c5 :: l6 ++ (l7 ++ ([])), [], (A5 ++ (A6 ++ A7)), rfl, .refl _, ⟨rfl, trivial, rfl⟩, ⟨[.slice b5 x.links.length c5], l6 ++ (l7 ++ ([])), A5, (A6 ++ A7), rfl, .refl _, h5, ⟨l6, l7, A6, A7, (by simp [flInt, flBool, flByte, flStr]), .refl _, h6, h7⟩⟩⟩⟩⟩⟩⟩
theorem opens_Node : Opens Tryz.prog gNode.toRp 129 := by
  intro H' enc w H sp hd fuel cs d ps hcov ht
  obtain ⟨h1, h2⟩ := trod_fields ty129_ok.1 ht
  obtain ⟨_, _, t0⟩ := h2 0 0 3 rfl
  obtain ⟨x0, r0⟩ := (opens_fi ty3_ok.1) _ _ H _ _ _ _ _ _ hcov t0
  rw [show Tryz.prog.cellsOf 3 = 1 by kernel_rfl] at r0
  obtain ⟨_, _, t1⟩ := h2 1 1 4 rfl
  obtain ⟨x1, r1⟩ := (opens_fb ty4_ok.1) _ _ H _ _ _ _ _ _ hcov t1
  rw [show Tryz.prog.cellsOf 4 = 1 by kernel_rfl] at r1
  obtain ⟨_, _, t2⟩ := h2 2 2 120 rfl
  obtain ⟨x2, r2⟩ := opens_Disk _ _ H _ _ _ _ _ _ hcov t2
  rw [show Tryz.prog.cellsOf 120 = 1 by kernel_rfl] at r2
  obtain ⟨_, _, t3⟩ := h2 3 3 3 rfl
  obtain ⟨x3, r3⟩ := (opens_fi ty3_ok.1) _ _ H _ _ _ _ _ _ hcov t3
  rw [show Tryz.prog.cellsOf 3 = 1 by kernel_rfl] at r3
  obtain ⟨_, _, t4⟩ := h2 4 4 4 rfl
  obtain ⟨x4, r4⟩ := (opens_fb ty4_ok.1) _ _ H _ _ _ _ _ _ hcov t4
  rw [show Tryz.prog.cellsOf 4 = 1 by kernel_rfl] at r4
  obtain ⟨_, _, t5⟩ := h2 5 5 121 rfl
  obtain ⟨x5, r5⟩ := (opens_sl ty121_ok.1 (by kernel_rfl) (by decide) opens_Link) _ _ H _ _ _ _ _ _ hcov t5
  rw [show Tryz.prog.cellsOf 121 = 1 by kernel_rfl] at r5
  obtain ⟨_, _, t6⟩ := h2 6 6 127 rfl
  obtain ⟨x6, r6⟩ := opens_Work _ _ H _ _ _ _ _ _ hcov t6
  rw [show Tryz.prog.cellsOf 127 = 24 by kernel_rfl] at r6
  obtain ⟨_, _, t7⟩ := h2 7 30 65 rfl
  obtain ⟨x7, r7⟩ := opens_Ask _ _ H _ _ _ _ _ _ hcov t7
  rw [show Tryz.prog.cellsOf 65 = 10 by kernel_rfl] at r7
  rw [show Tryz.prog.cellsOf 129 = 40 by kernel_rfl] at h1
  have key : gNode.rd H ((cs.drop 0).take 40) ⟨x0, x1, x2, x3, x4, x5, x6, x7⟩ := (pair_at (g := gI) (h := (SX.gPair gB (SX.gPair gDisk (SX.gPair gI (SX.gPair gB (SX.gPair (gSl 232 gLink) (SX.gPair gWork gAsk))))))) (off := 0) r0 (pair_at (g := gB) (h := (SX.gPair gDisk (SX.gPair gI (SX.gPair gB (SX.gPair (gSl 232 gLink) (SX.gPair gWork gAsk)))))) (off := 1) r1 (pair_at (g := gDisk) (h := (SX.gPair gI (SX.gPair gB (SX.gPair (gSl 232 gLink) (SX.gPair gWork gAsk))))) (off := 2) r2 (pair_at (g := gI) (h := (SX.gPair gB (SX.gPair (gSl 232 gLink) (SX.gPair gWork gAsk)))) (off := 3) r3 (pair_at (g := gB) (h := (SX.gPair (gSl 232 gLink) (SX.gPair gWork gAsk))) (off := 4) r4 (pair_at (g := (gSl 232 gLink)) (h := (SX.gPair gWork gAsk)) (off := 5) r5 (pair_at (g := gWork) (h := gAsk) (off := 6) r6 r7)))))))
  rw [List.drop_zero, List.take_of_length_le (by omega)] at key
  exact ⟨_, key⟩
def zNode : Node := ⟨0, false, zDisk, 0, false, [], zWork, zAsk⟩
theorem zNode_ow : gNode.ow [.int .i64 0, .bool false, .slice none 0 0, .int .i64 0, .bool false, .slice none 0 0, .bool false, .bool false, .slice none 0 0, .slice none 0 0, .slice none 0 0, .slice none 0 0, .int .i64 0, .slice none 0 0, .int .i64 0, .bool false, .bool false, .int .i64 0, .bool false, .bool false, .bool false, .slice none 0 0, .slice none 0 0, .slice none 0 0, .slice none 0 0, .int .i64 0, .int .i64 0, .slice none 0 0, .bool false, .slice none 0 0, .bool false, .bool false, .slice none 0 0, .slice none 0 0, .slice none 0 0, .slice none 0 0, .int .i64 0, .slice none 0 0, .bool false, .slice none 0 0] zNode [] := gNode_ow.2 ⟨_, [], none, 0, [], _, [], _, [], rfl, by simp, by first | (unfold okI; decide) | decide, zDisk_ow, by first | (unfold okI; decide) | decide, sl_nil _ _ _, zWork_ow, zAsk_ow⟩
theorem gNode_sz (x : Node) : gNode.sz x = 0 + (0 + (gDisk.sz x.disk + (0 + (0 + (szL gLink x.links + (gWork.sz x.work + (gAsk.sz x.ask))))))) := rfl
theorem Node.eq_iff {x y : Node} : x = y ↔ x.id = y.id ∧ x.up = y.up ∧ x.disk = y.disk ∧ x.epoch = y.epoch ∧ x.joined = y.joined ∧ x.links = y.links ∧ x.work = y.work ∧ x.ask = y.ask := by cases x; cases y; simp
--@gt impl.Node | gNode | default | obtain ⟨l2x#, b5x#, c5x#, l6x#, l7x#, rfl, w0x#, h2x#, w3x#, h5x#, h6x#, h7x#⟩ := gNode_rd.1 hl# ; obtain ⟨b0_2x#, c0_2x#, rfl, h0_2x#⟩ := gDisk_rd.1 h2x# ; obtain ⟨l1_6x#, b2_6x#, c2_6x#, b4_6x#, c4_6x#, l11_6x#, b13_6x#, c13_6x#, rfl, h1_6x#, h2_6x#, w3_6x#, h4_6x#, w5_6x#, w8_6x#, h11_6x#, h13_6x#⟩ := gWork_rd.1 h6x# ; obtain ⟨b1_1_6x#, c1_1_6x#, b2_1_6x#, c2_1_6x#, b3_1_6x#, c3_1_6x#, rfl, h1_1_6x#, h2_1_6x#, h3_1_6x#⟩ := gQuery_rd.1 h1_6x# ; obtain ⟨l0_11_6x#, b1_11_6x#, c1_11_6x#, b4_11_6x#, c4_11_6x#, rfl, h0_11_6x#, h1_11_6x#, w2_11_6x#, w3_11_6x#, h4_11_6x#⟩ := gCell_rd.1 h11_6x# ; obtain ⟨b1_0_11_6x#, c1_0_11_6x#, b2_0_11_6x#, c2_0_11_6x#, b3_0_11_6x#, c3_0_11_6x#, rfl, h1_0_11_6x#, h2_0_11_6x#, h3_0_11_6x#⟩ := gQuery_rd.1 h0_11_6x# ; obtain ⟨l1_7x#, b2_7x#, c2_7x#, b4_7x#, c4_7x#, l6_7x#, rfl, h1_7x#, h2_7x#, w3_7x#, h4_7x#, h6_7x#⟩ := gAsk_rd.1 h7x# ; obtain ⟨b1_1_7x#, c1_1_7x#, b2_1_7x#, c2_1_7x#, b3_1_7x#, c3_1_7x#, rfl, h1_1_7x#, h2_1_7x#, h3_1_7x#⟩ := gQuery_rd.1 h1_7x# ; obtain ⟨b0_6_7x#, c0_6_7x#, rfl, h0_6_7x#⟩ := gBag_rd.1 h6_7x# | 0 1 pr gNode_id ; 1 1 pr gNode_up ; 2 1 st gNode_disk ; 2 1 sl gNode_disk_files ; 3 1 pr gNode_epoch ; 4 1 pr gNode_joined ; 5 1 sl gNode_links ; 6 24 st gNode_work ; 6 1 pr gNode_work_begun ; 7 4 st gNode_work_query ; 7 1 pr gNode_work_query_each ; 8 1 sl gNode_work_query_out ; 9 1 sl gNode_work_query_atoms ; 10 1 sl gNode_work_query_filters ; 11 1 sl gNode_work_shares ; 12 1 pr gNode_work_count ; 13 1 sl gNode_work_seen ; 14 1 pr gNode_work_num ; 15 1 pr gNode_work_black ; 16 1 pr gNode_work_holds ; 17 1 pr gNode_work_tokNum ; 18 1 pr gNode_work_tokBlack ; 19 1 pr gNode_work_walked ; 20 8 st gNode_work_cell ; 20 4 st gNode_work_cell_query ; 20 1 pr gNode_work_cell_query_each ; 21 1 sl gNode_work_cell_query_out ; 22 1 sl gNode_work_cell_query_atoms ; 23 1 sl gNode_work_cell_query_filters ; 24 1 sl gNode_work_cell_shares ; 25 1 pr gNode_work_cell_at ; 26 1 pr gNode_work_cell_n ; 27 1 sl gNode_work_cell_gots ; 28 1 pr gNode_work_told ; 29 1 sl gNode_work_waits ; 30 10 st gNode_ask ; 30 1 pr gNode_ask_on ; 31 4 st gNode_ask_query ; 31 1 pr gNode_ask_query_each ; 32 1 sl gNode_ask_query_out ; 33 1 sl gNode_ask_query_atoms ; 34 1 sl gNode_ask_query_filters ; 35 1 sl gNode_ask_shares ; 36 1 pr gNode_ask_count ; 37 1 sl gNode_ask_results ; 38 1 pr gNode_ask_over ; 39 1 st gNode_ask_answer ; 39 1 sl gNode_ask_answer_items | 40 | 
structure Cluster where
  query : Query
  nodes : List Node
  net : List ByteArray
  codes : List Int
  replies : List Bag
deriving DecidableEq, Inhabited
def gCluster : Gt Cluster := gIso (SX.gPair gQuery (SX.gPair (gSl 144 gNode) (SX.gPair (gSl 9 gS) (SX.gPair (gSl 3 gI) (gSl 49 gBag))))) (fun x => (x.query, (x.nodes, (x.net, (x.codes, x.replies))))) (fun p => ⟨p.1, p.2.1, p.2.2.1, p.2.2.2.1, p.2.2.2.2⟩)
theorem gCluster_rd {H : Hp} {l : List Value} {x : Cluster} : gCluster.rd H l x ↔ ∃ (l0 : List Value) (b1 : Option Addr) (c1 : Nat) (b2 : Option Addr) (c2 : Nat) (b3 : Option Addr) (c3 : Nat) (b4 : Option Addr) (c4 : Nat), l = l0 ++ (.slice b1 x.nodes.length c1 :: .slice b2 x.net.length c2 :: .slice b3 x.codes.length c3 :: .slice b4 x.replies.length c4 :: []) ∧ gQuery.rd H l0 x.query ∧ (gSl 144 gNode).rd H [.slice b1 x.nodes.length c1] x.nodes ∧ (gSl 9 gS).rd H [.slice b2 x.net.length c2] x.net ∧ (gSl 3 gI).rd H [.slice b3 x.codes.length c3] x.codes ∧ (gSl 49 gBag).rd H [.slice b4 x.replies.length c4] x.replies := by
  constructor
  · rintro ⟨m0, q0, rfl, h0, m1, q1, rfl, h1, m2, q2, rfl, h2, m3, q3, rfl, h3, h4⟩
    obtain ⟨b1, c1, rfl, h1⟩ := sl_rd h1
    obtain ⟨b2, c2, rfl, h2⟩ := sl_rd h2
    obtain ⟨b3, c3, rfl, h3⟩ := sl_rd h3
    obtain ⟨b4, c4, rfl, h4⟩ := sl_rd h4
    exact ⟨m0, b1, c1, b2, c2, b3, c3, b4, c4, rfl, h0, h1, h2, h3, h4⟩
  rintro ⟨l0, b1, c1, b2, c2, b3, c3, b4, c4, rfl, h0, h1, h2, h3, h4⟩
  exact ⟨l0, .slice b1 x.nodes.length c1 :: .slice b2 x.net.length c2 :: .slice b3 x.codes.length c3 :: .slice b4 x.replies.length c4 :: [], rfl, h0, ⟨[.slice b1 x.nodes.length c1], .slice b2 x.net.length c2 :: .slice b3 x.codes.length c3 :: .slice b4 x.replies.length c4 :: [], rfl, h1, ⟨[.slice b2 x.net.length c2], .slice b3 x.codes.length c3 :: .slice b4 x.replies.length c4 :: [], rfl, h2, ⟨[.slice b3 x.codes.length c3], [.slice b4 x.replies.length c4], rfl, h3, h4⟩⟩⟩⟩
open Classical in
theorem gCluster_ow {A : Hp} {l : List Value} {x : Cluster} : gCluster.ow l x A ↔ ∃ (l0 : List Value) (A0 : Hp) (b1 : Option Addr) (c1 : Nat) (A1 : Hp) (b2 : Option Addr) (c2 : Nat) (A2 : Hp) (b3 : Option Addr) (c3 : Nat) (A3 : Hp) (b4 : Option Addr) (c4 : Nat) (A4 : Hp), l = l0 ++ (.slice b1 x.nodes.length c1 :: .slice b2 x.net.length c2 :: .slice b3 x.codes.length c3 :: .slice b4 x.replies.length c4 :: []) ∧ A.Perm (A0 ++ (A1 ++ (A2 ++ (A3 ++ A4)))) ∧ gQuery.ow l0 x.query A0 ∧ (gSl 144 gNode).ow [.slice b1 x.nodes.length c1] x.nodes A1 ∧ (gSl 9 gS).ow [.slice b2 x.net.length c2] x.net A2 ∧ (gSl 3 gI).ow [.slice b3 x.codes.length c3] x.codes A3 ∧ (gSl 49 gBag).ow [.slice b4 x.replies.length c4] x.replies A4 := by
  constructor
  · rintro ⟨m0, q0, D0, E0, rfl, p0, h0, m1, q1, D1, E1, rfl, p1, h1, m2, q2, D2, E2, rfl, p2, h2, m3, q3, D3, E3, rfl, p3, h3, h4⟩
    obtain ⟨b1, c1, rfl, h1⟩ := sl_ow h1
    obtain ⟨b2, c2, rfl, h2⟩ := sl_ow h2
    obtain ⟨b3, c3, rfl, h3⟩ := sl_ow h3
    obtain ⟨b4, c4, rfl, h4⟩ := sl_ow h4
    exact ⟨m0, D0, b1, c1, D1, b2, c2, D2, b3, c3, D3, b4, c4, E3, rfl, (perm_cnt fun a => by have e0 := p0.count_eq a; have e1 := p1.count_eq a; have e2 := p2.count_eq a; have e3 := p3.count_eq a; simp only [List.count_append, List.count_nil] at *; omega), h0, h1, h2, h3, h4⟩
  rintro ⟨l0, A0, b1, c1, A1, b2, c2, A2, b3, c3, A3, b4, c4, A4, rfl, hp, h0, h1, h2, h3, h4⟩
  exact ⟨l0, .slice b1 x.nodes.length c1 :: .slice b2 x.net.length c2 :: .slice b3 x.codes.length c3 :: .slice b4 x.replies.length c4 :: [], A0, (A1 ++ (A2 ++ (A3 ++ A4))), rfl, (perm_cnt fun a => by have e := hp.count_eq a; simp only [List.count_append, List.count_nil] at *; omega), h0, ⟨[.slice b1 x.nodes.length c1], .slice b2 x.net.length c2 :: .slice b3 x.codes.length c3 :: .slice b4 x.replies.length c4 :: [], A1, (A2 ++ (A3 ++ A4)), rfl, .refl _, h1, ⟨[.slice b2 x.net.length c2], .slice b3 x.codes.length c3 :: .slice b4 x.replies.length c4 :: [], A2, (A3 ++ A4), rfl, .refl _, h2, ⟨[.slice b3 x.codes.length c3], [.slice b4 x.replies.length c4], A3, A4, rfl, .refl _, h3, h4⟩⟩⟩⟩
theorem opens_Cluster : Opens Tryz.prog gCluster.toRp 31 := by
  intro H' enc w H sp hd fuel cs d ps hcov ht
  obtain ⟨h1, h2⟩ := trod_fields ty31_ok.1 ht
  obtain ⟨_, _, t0⟩ := h2 0 0 26 rfl
  obtain ⟨x0, r0⟩ := opens_Query _ _ H _ _ _ _ _ _ hcov t0
  rw [show Tryz.prog.cellsOf 26 = 4 by kernel_rfl] at r0
  obtain ⟨_, _, t1⟩ := h2 1 4 27 rfl
  obtain ⟨x1, r1⟩ := (opens_sl ty27_ok.1 (by kernel_rfl) (by decide) opens_Node) _ _ H _ _ _ _ _ _ hcov t1
  rw [show Tryz.prog.cellsOf 27 = 1 by kernel_rfl] at r1
  obtain ⟨_, _, t2⟩ := h2 2 5 22 rfl
  obtain ⟨x2, r2⟩ := (opens_sl ty22_ok.1 (by kernel_rfl) (by decide) (opens_fs ty9_ok.1)) _ _ H _ _ _ _ _ _ hcov t2
  rw [show Tryz.prog.cellsOf 22 = 1 by kernel_rfl] at r2
  obtain ⟨_, _, t3⟩ := h2 3 6 28 rfl
  obtain ⟨x3, r3⟩ := (opens_sl ty28_ok.1 (by kernel_rfl) (by decide) (opens_fi ty3_ok.1)) _ _ H _ _ _ _ _ _ hcov t3
  rw [show Tryz.prog.cellsOf 28 = 1 by kernel_rfl] at r3
  obtain ⟨_, _, t4⟩ := h2 4 7 29 rfl
  obtain ⟨x4, r4⟩ := (opens_sl ty29_ok.1 (by kernel_rfl) (by decide) opens_Bag) _ _ H _ _ _ _ _ _ hcov t4
  rw [show Tryz.prog.cellsOf 29 = 1 by kernel_rfl] at r4
  rw [show Tryz.prog.cellsOf 31 = 8 by kernel_rfl] at h1
  have key : gCluster.rd H ((cs.drop 0).take 8) ⟨x0, x1, x2, x3, x4⟩ := (pair_at (g := gQuery) (h := (SX.gPair (gSl 144 gNode) (SX.gPair (gSl 9 gS) (SX.gPair (gSl 3 gI) (gSl 49 gBag))))) (off := 0) r0 (pair_at (g := (gSl 144 gNode)) (h := (SX.gPair (gSl 9 gS) (SX.gPair (gSl 3 gI) (gSl 49 gBag)))) (off := 4) r1 (pair_at (g := (gSl 9 gS)) (h := (SX.gPair (gSl 3 gI) (gSl 49 gBag))) (off := 5) r2 (pair_at (g := (gSl 3 gI)) (h := (gSl 49 gBag)) (off := 6) r3 r4))))
  rw [List.drop_zero, List.take_of_length_le (by omega)] at key
  exact ⟨_, key⟩
theorem gCluster_sz (x : Cluster) : gCluster.sz x = gQuery.sz x.query + (szL gNode x.nodes + (szL gS x.net + (szL gI x.codes + (szL gBag x.replies)))) := rfl
theorem Cluster.eq_iff {x y : Cluster} : x = y ↔ x.query = y.query ∧ x.nodes = y.nodes ∧ x.net = y.net ∧ x.codes = y.codes ∧ x.replies = y.replies := by cases x; cases y; simp
--@gt impl.Cluster | gCluster | default | obtain ⟨l0x#, b1x#, c1x#, b2x#, c2x#, b3x#, c3x#, b4x#, c4x#, rfl, h0x#, h1x#, h2x#, h3x#, h4x#⟩ := gCluster_rd.1 hl# ; obtain ⟨b1_0x#, c1_0x#, b2_0x#, c2_0x#, b3_0x#, c3_0x#, rfl, h1_0x#, h2_0x#, h3_0x#⟩ := gQuery_rd.1 h0x# | 0 4 st gCluster_query ; 0 1 pr gCluster_query_each ; 1 1 sl gCluster_query_out ; 2 1 sl gCluster_query_atoms ; 3 1 sl gCluster_query_filters ; 4 1 sl gCluster_nodes ; 5 1 sl gCluster_net ; 6 1 sl gCluster_codes ; 7 1 sl gCluster_replies | 8 | 
--@gt []impl.Item | (gSl 134 gItem) | [] | | 0 1 sl fldId | 1
--@gt []impl.Bag | (gSl 49 gBag) | [] | | 0 1 sl fldId | 1
--@gt []impl.Piece | (gSl 279 gPiece) | [] | | 0 1 sl fldId | 1
--@gt []impl.Path | (gSl 205 gPath) | [] | | 0 1 sl fldId | 1
--@gt []impl.Arc | (gSl 282 gArc) | [] | | 0 1 sl fldId | 1
--@gt []impl.Nfa | (gSl 212 gNfa) | [] | | 0 1 sl fldId | 1
--@gt []impl.Atom | (gSl 154 gAtom) | [] | | 0 1 sl fldId | 1
--@gt []impl.Filter | (gSl 157 gFilter) | [] | | 0 1 sl fldId | 1
--@gt []impl.Query | (gSl 37 gQuery) | [] | | 0 1 sl fldId | 1
--@gt []impl.File | (gSl 267 gFile) | [] | | 0 1 sl fldId | 1
--@gt []impl.Disk | (gSl 137 gDisk) | [] | | 0 1 sl fldId | 1
--@gt []impl.Walk | (gSl 184 gWalk) | [] | | 0 1 sl fldId | 1
--@gt []impl.Letter | (gSl 110 gLetter) | [] | | 0 1 sl fldId | 1
--@gt []impl.Link | (gSl 232 gLink) | [] | | 0 1 sl fldId | 1
--@gt []impl.Got | (gSl 171 gGot) | [] | | 0 1 sl fldId | 1
--@gt []impl.Cell | (gSl 140 gCell) | [] | | 0 1 sl fldId | 1
--@gt []impl.Mail | (gSl 112 gMail) | [] | | 0 1 sl fldId | 1
--@gt []impl.Work | (gSl 142 gWork) | [] | | 0 1 sl fldId | 1
--@gt []impl.Ask | (gSl 51 gAsk) | [] | | 0 1 sl fldId | 1
--@gt []impl.Node | (gSl 144 gNode) | [] | | 0 1 sl fldId | 1
--@gt []impl.Cluster | (gSl 41 gCluster) | [] | | 0 1 sl fldId | 1
--@gt []int | (gSl 3 gI) | [] | | 0 1 sl fldId | 1
--@gt []bool | (gSl 4 gB) | [] | | 0 1 sl fldId | 1
--@gt []uint8 | (gSl 5 gY) | [] | | 0 1 sl fldId | 1
--@gt []string | (gSl 9 gS) | [] | | 0 1 sl fldId | 1
--@gt int | gI | 0 | | 0 1 pr fldId | 1 | gI_ow ?_
--@gt bool | gB | false | | 0 1 pr fldId | 1 | gB_ow ?_
--@gt uint8 | gY | 0 | | 0 1 pr fldId | 1 | gY_owM _; gY_ow trivial
--@gt string | gS | ByteArray.empty | | 0 1 pr fldId | 1 | gS_ow ?_
end Go.Proofs.YtcnclhjhnjpeiaaGreatDoor
