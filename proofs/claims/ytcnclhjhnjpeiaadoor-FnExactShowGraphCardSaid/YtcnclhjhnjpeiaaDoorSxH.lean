/-
  Slices whose elements own memory: appending, storing whole elements, new ones. Conditions: none.
-/
import Derived.Test.YtcnclhjhnjpeiaaDoorSxG
namespace Go.SX

section
variable {P : Program} {E : World} {Γ : Ty} {n : Nat} {α : Type} {g : Gt α} {T : TypeId}

/-- an operation left to a rule, its heaplets parted anew -/
theorem VCraw.conv {o : Oper} {fr : Fr} {bl : List Blk} {R R2 : List Hp} {K : St → Prop} (h0 : RLe R R2)
    (h : VCraw P E n o ⟨fr, bl, R2⟩ (fun st => ∃ R', RLe st.R R' ∧ K ⟨st.fr, st.bl, R'⟩)) : VCraw P E n o ⟨fr, bl, R⟩ K := by
  obtain ⟨h⟩ := h
  refine ⟨fun a w hr Q => ?_⟩
  refine Oper.wp_next (h a w (hr.repart h0) Q) ?_
  rintro a' w' ⟨st, h1, R', h2, h3⟩
  obtain ⟨fr', bl', R''⟩ := st
  exact ⟨_, h1.repart h2, h3⟩

theorem lit_rd {f : Fl α} {b : Nat} {l : List Value} {y : α} {T' : TypeId} {H : Hp} (hm : (b, Obj.cells ⟨l⟩ T') ∈ H) (hl : l = f.enc y) (hy : f.wf y) : (rpSl f.rp).rd H [.slice (some ⟨b, 0, none⟩) 1 1] [y] := by
  subst hl
  refine ⟨some ⟨b, 0, none⟩, 1, rfl, by simp, fun i hi => ?_⟩
  have : i = 0 := by simpa using hi
  subst this
  refine ⟨b, 0, f.enc y, rfl, ⟨f.len y, _, _, _, hm, fun j hj => ?_⟩, rfl, hy⟩
  simp

theorem putK_mono {fr : Fr} {dst : Option Nat} {s : SV} {K K' : Fr → Prop} (h : putK n fr dst s K) (hk : ∀ fr, K fr → K' fr) : putK n fr dst s K' := by
  unfold putK at h ⊢
  split at h
  · exact hk _ h
  · split at h
    · exact hk _ h
    · exact h.elim

/-- one element, which owns B, is appended to the slice that owns A; the element lies in a literal of its own -/
theorem gappend1 (hΓ : TyOk P Γ) {dst : Option Nat} {s x : Operand} {sT xT e2 ty : TypeId} {pos : String} {after : Array Edge} {guard : Option (Nat × Bool)} {fr : Fr} {bl : List Blk} {R : List Hp} {K : St → Prop} {ti : TI}
    (A B : Hp) (Rr : List Hp) {base : Option Addr} {xb m cap : Nat} {xs : List α} {l : List Value} {y : α} {T' : TypeId} (hR : RLe R (A :: B :: Rr)) (ho : (gSl T g).ow [.slice base m cap] xs A) (hB : g.ow l y B)
    (hlit : [(xb, Obj.cells ⟨l⟩ T')] ∈ R)
    (hs1 : getK fr s fun sv => sv = .v (.slice base m cap)) (hx1 : getK fr x fun sv => sv = .v (.slice (some ⟨xb, 0, none⟩) 1 1))
    (hsT : undOf Γ sT = some (.slice T)) (hxT : undOf Γ xT = some (.slice e2)) (ht : tyOf Γ T = some ti) (hsz : ti.size = g.size) (hz : lenIs ti.zero.cells.toList g.size = true)
    (hby : Nat.ble ti.bytes 65536 = true) (hlen : xs.length + 1 ≤ 1073741824)
    (hk : ∀ base' cap' A', (gSl T g).ow [.slice base' (xs ++ [y]).length cap'] (xs ++ [y]) A' → putK n fr dst (.v (.slice base' (xs ++ [y]).length cap')) fun fr => K ⟨fr, bl, A' :: Rr⟩) :
    VCraw P E n ⟨dst, .call ⟨.builtin .append, #[s, x], #[sT, xT]⟩, ty, pos, after, guard⟩ ⟨fr, bl, R⟩ K := by
  have e0 : (xs ++ [y]).length = xs.length + 1 := by simp
  simp only [e0] at hk
  obtain ⟨v, ls, A0, As, e, ho, hp, hl⟩ := ho
  cases e
  obtain ⟨L, hL⟩ := hR
  obtain ⟨e1, e2'⟩ := hl.len
  have hm : m = ls.length := (by obtain ⟨_, _, _, _, e, _⟩ := ho; cases e; rfl)
  subst hm
  have hraw := raw_of (g.owrd hB)
  have hperm : R.flatten.Perm (A0 ++ (As.flatten ++ (B ++ (Rr.flatten ++ L)))) := by
    refine hL.trans ?_
    simp only [List.flatten_cons]
    have := hp.append_right (B ++ (Rr.flatten ++ L))
    simpa only [List.append_assoc] using this
  refine VCraw.conv (R2 := [A0, As.flatten ++ (B ++ (Rr.flatten ++ L))]) ⟨[], by simpa using hperm⟩ ?_
  have hmem : (xb, Obj.cells ⟨l⟩ T') ∈ St.hall ⟨[], bl, [A0, As.flatten ++ (B ++ (Rr.flatten ++ L))]⟩ := by
    have h1 : (xb, Obj.cells ⟨l⟩ T') ∈ R.flatten := List.mem_flatten.2 ⟨_, hlit, List.mem_singleton.2 rfl⟩
    have h2 := hperm.mem_iff.1 h1
    simp only [St.hall, List.flatten_cons, List.flatten_nil, List.append_nil]
    exact List.mem_append_right _ h2
  have hx : (rpSl (flRaw g.size g.pos).rp).rd (St.hall ⟨[], bl, [A0, As.flatten ++ (B ++ (Rr.flatten ++ L))]⟩) [.slice (some ⟨xb, 0, none⟩) 1 1] [⟨l, hraw⟩] := lit_rd (f := flRaw g.size g.pos) hmem rfl trivial
  refine append_ow (f := flRaw g.size g.pos) hΓ 0 rfl ho hx (fun _ _ => trivial) hs1 hx1 hsT hxT ht hsz hz hby (by rw [e1]; exact hlen) ?_
  intro base' cap' A' ho' _
  have h3 : (gSl T g).ow [.slice base' (xs.length + 1) cap'] (xs ++ [y]) (A' ++ (As ++ [B]).flatten) := by
    refine ⟨_, ls ++ [⟨l, hraw⟩], A', As ++ [B], rfl, ?_, .refl _, hl.append (.cons hB .nil)⟩
    rw [← e1]; exact ho'
  have h4 := hk base' cap' _ h3
  have e3 : ls.length + [(⟨l, hraw⟩ : RawC g.size)].length = xs.length + 1 := by rw [e1]; rfl
  rw [e3]
  refine putK_mono h4 fun fr' hK => ⟨_, ?_, hK⟩
  refine ⟨L, ?_⟩
  simp only [setR, List.flatten_cons, List.flatten_nil, List.append_nil, List.flatten_append]
  simp only [List.append_assoc]
  exact .refl _

/-- plain elements, which lie in a literal, are appended -/
theorem gappendF (hΓ : TyOk P Γ) {f : Fl α} {mk : Int → α} {szf : α → Nat} {dst : Option Nat} {s x : Operand} {sT xT e2 ty : TypeId} {pos : String} {after : Array Edge} {guard : Option (Nat × Bool)} {fr : Fr} {bl : List Blk} {R : List Hp} {K : St → Prop} {ti : TI}
    (A : Hp) (Rr : List Hp) (ys : List α) {base : Option Addr} {xb m cap : Nat} {xs : List α} {l : List Value} {T' : TypeId} (hR : RLe R (A :: Rr)) (ho : (gSl T (f.gt mk szf)).ow [.slice base m cap] xs A)
    (hlit : [(xb, Obj.cells ⟨l⟩ T')] ∈ R) (hl : l = ys.flatMap f.enc) (hy : ∀ y ∈ ys, f.wf y)
    (hs1 : getK fr s fun sv => sv = .v (.slice base m cap)) (hx1 : getK fr x fun sv => sv = .v (.slice (some ⟨xb, 0, none⟩) ys.length ys.length))
    (hsT : undOf Γ sT = some (.slice T)) (hxT : undOf Γ xT = some (.slice e2)) (ht : tyOf Γ T = some ti) (hsz : ti.size = f.size) (hz : lenIs ti.zero.cells.toList f.size = true)
    (hby : Nat.ble ti.bytes 65536 = true) (hlen : xs.length + ys.length ≤ 1073741824)
    (hk : ∀ base' cap' A', (gSl T (f.gt mk szf)).ow [.slice base' (xs ++ ys).length cap'] (xs ++ ys) A' → putK n fr dst (.v (.slice base' (xs ++ ys).length cap')) fun fr => K ⟨fr, bl, A' :: Rr⟩) :
    VCraw P E n ⟨dst, .call ⟨.builtin .append, #[s, x], #[sT, xT]⟩, ty, pos, after, guard⟩ ⟨fr, bl, R⟩ K := by
  have ho' := fl_ow ho
  obtain ⟨L, hL⟩ := hR
  have hm : m = xs.length := (by obtain ⟨_, _, _, _, e, _⟩ := ho'; cases e; rfl)
  subst hm
  have e0 : (xs ++ ys).length = xs.length + ys.length := by simp
  simp only [e0] at hk
  refine VCraw.conv (R2 := [A, Rr.flatten ++ L]) ⟨[], by simpa using hL⟩ ?_
  have hmem : (xb, Obj.cells ⟨l⟩ T') ∈ St.hall ⟨[], bl, [A, Rr.flatten ++ L]⟩ := by
    have h1 : (xb, Obj.cells ⟨l⟩ T') ∈ R.flatten := List.mem_flatten.2 ⟨_, hlit, List.mem_singleton.2 rfl⟩
    have h2 := hL.mem_iff.1 h1
    simp only [St.hall, List.flatten_cons, List.flatten_nil, List.append_nil]
    simp only [List.flatten_cons, List.append_assoc] at h2
    exact List.mem_append_right _ h2
  have hx : (rpSl f.rp).rd (St.hall ⟨[], bl, [A, Rr.flatten ++ L]⟩) [.slice (some ⟨xb, 0, none⟩) ys.length ys.length] ys := by
    subst hl
    refine ⟨some ⟨xb, 0, none⟩, ys.length, rfl, ⟨Nat.le_refl _, by omega⟩, fun i hi => ?_⟩
    refine ⟨xb, 0, f.enc ys[i], rfl, ⟨f.len _, _, _, _, hmem, fun j hj => ?_⟩, rfl, hy _ (List.getElem_mem hi)⟩
    have := flat_get f ys i j hi hj
    simp only [List.getElem?_toArray, Nat.zero_add]
    exact this
  refine append_ow (f := f) hΓ 0 rfl ho' hx hy hs1 hx1 hsT hxT ht hsz hz hby hlen ?_
  intro base' cap' A' ho2 _
  have h4 := hk base' cap' A' (ow_fl ho2)
  refine putK_mono h4 fun fr' hK => ⟨_, ⟨L, ?_⟩, hK⟩
  simp only [setR, List.flatten_cons, List.flatten_nil, List.append_nil, List.append_assoc]
  exact .refl _

open Classical in
/-- a whole element is stored; the slice then owns what the new element owns -/
theorem gstore1 {R : List Hp} (A B : Hp) (Rr : List Hp) {base : Option Addr} {m cap : Nat} {xs : List α} {i : Int} {b o off : Nat} {l : List Value} {F : List Hp → Prop} (hR : RLe R (A :: B :: Rr)) (h : (gSl T g).ow [.slice base m cap] xs A)
    (h0 : 0 ≤ i) (h1 : i < xs.length) (hb : base = some ⟨b, o, none⟩) (hoff : off = o + i.toNat * g.size) (y : α) (hy : g.ow l y B)
    (k : ∀ A', (gSl T g).ow [.slice base m cap] (xs.set i.toNat y) A' → F (A' :: Rr)) : VCstore R b off l F := by
  obtain ⟨v, ls, A0, As, e, ho, hp, hl⟩ := h
  cases e
  obtain ⟨L, hL⟩ := hR
  obtain ⟨e1, e2⟩ := hl.len
  have hraw := raw_of (g.owrd hy)
  obtain ⟨hw, hlen, base', cap', e, h2⟩ := ho
  cases e
  rcases h2 with ⟨rfl, rfl, rfl⟩ | ⟨b', sp, h3, rfl, h4, h5⟩
  · simp at e1; omega
  · rw [hb] at h3; cases h3
    subst hoff
    have hset := flat_set (flRaw g.size g.pos) ls i.toNat ⟨l, hraw⟩ sp (by omega)
    refine .part ([[(b, Obj.cells ⟨ls.flatMap (flRaw g.size g.pos).enc ++ sp⟩ T)], As.flatten ++ (B ++ (Rr.flatten ++ L))]) ([[(b, Obj.cells ⟨(ls.set i.toNat ⟨l, hraw⟩).flatMap (flRaw g.size g.pos).enc ++ sp⟩ T)], As.flatten ++ (B ++ (Rr.flatten ++ L))])
      (([(b, Obj.cells ⟨(ls.set i.toNat ⟨l, hraw⟩).flatMap (flRaw g.size g.pos).enc ++ sp⟩ T)] ++ (As.set i.toNat B).flatten) :: Rr) ?_ ?_ ?_ (k _ ⟨_, ls.set i.toNat ⟨l, hraw⟩, [(b, Obj.cells ⟨(ls.set i.toNat ⟨l, hraw⟩).flatMap (flRaw g.size g.pos).enc ++ sp⟩ T)], As.set i.toNat B, rfl, ⟨fun _ _ => trivial, by simpa using hlen, some ⟨b, 0, none⟩, cap, by rw [hb, List.length_set], .inr ⟨b, sp, rfl, rfl, by simpa using h4, by simpa using h5⟩⟩, .refl _, hl.set hy i.toNat⟩)
    · refine ⟨[], ?_⟩
      refine hL.trans ?_
      simp only [List.flatten_cons, List.flatten_nil, List.append_nil]
      have := hp.append_right (B ++ (Rr.flatten ++ L))
      simpa only [List.append_assoc] using this
    · refine ⟨[], [As.flatten ++ (B ++ (Rr.flatten ++ L))], [], [], ⟨ls.flatMap (flRaw g.size g.pos).enc ++ sp⟩, T, rfl, ?_, ?_⟩
      · show 0 + i.toNat * g.size + l.length ≤ (ls.flatMap (flRaw g.size g.pos).enc ++ sp).length
        rw [List.length_append, flat_length, hraw.1]
        have : (flRaw g.size g.pos).size = g.size := rfl
        rw [this]
        have := Nat.mul_le_mul_right g.size (show i.toNat + 1 ≤ ls.length by omega)
        rw [Nat.succ_mul] at this; omega
      · simp only [List.nil_append, Nat.zero_add]
        have hset' : setAt (ls.flatMap (flRaw g.size g.pos).enc ++ sp) (i.toNat * g.size) l = (ls.set i.toNat ⟨l, hraw⟩).flatMap (flRaw g.size g.pos).enc ++ sp := hset
        rw [hset']
    · have q1 := flat_lists As i.toNat (by omega)
      have q2 := flat_lists (As.set i.toNat B) i.toNat (by simpa using (by omega : i.toNat < As.length))
      simp only [List.getElem_set_self, List.set_set] at q2
      refine ⟨As[i.toNat]'(by omega) ++ L, ?_⟩
      refine perm_cnt fun a => ?_
      have c1 := q1.count_eq a
      have c2 := q2.count_eq a
      simp only [List.count_append] at c1 c2
      simp only [List.flatten_cons, List.flatten_nil, List.append_nil, List.count_append]
      omega

theorem sl_eq {b : Option Addr} {m m' c : Nat} (h : m = m') : Value.slice b m c = Value.slice b m' c := by rw [h]

theorem gmake {z : α} {lz : List Value} {b k c : Nat} (hz : g.ow lz z []) (hn : k ≤ c) (hc : c ≤ 281474976710656) : (gSl T g).ow [.slice (some ⟨b, 0, none⟩) k c] (List.replicate k z) [(b, Obj.cells ⟨zeros c lz⟩ T)] :=
  ⟨_, List.replicate k ⟨lz, raw_of (g.owrd hz)⟩, _, List.replicate k [], rfl, Ow.make (f := flRaw g.size g.pos) (z := ⟨lz, raw_of (g.owrd hz)⟩) trivial hn hc, by simp; rfl, OwL.rep hz k⟩
end

def gI : Gt Int := flInt.gt fun k => k
def gB : Gt Bool := flBool.gt fun k => k.tmod 3 == 0
def gY : Gt UInt8 := flByte.gt fun k => UInt8.ofNat (k % 256).toNat
theorem gS_one : ∀ (H : Hp) (l : List Value) (x : ByteArray), flStr.rp.rd H l x → l = [.string x] ∧ x.size ≤ 9223372036854775807 := fun _ _ _ h => h
theorem gI_ow {x : Int} (h : okI x) : gI.ow [.int .i64 x] x [] := ⟨rfl, h, rfl⟩
theorem gB_ow {x : Bool} (_ : True) : gB.ow [.bool x] x [] := ⟨rfl, trivial, rfl⟩
theorem gY_ow {x : UInt8} (_ : True) : gY.ow [.int .u8 x.toNat] x [] := ⟨rfl, trivial, rfl⟩
theorem wrap_of {x : Int} (h1 : -9223372036854775808 ≤ x) (h2 : x ≤ 9223372036854775807) : IntKind.i64.wrap x = x := wrap_ok ⟨h1, h2⟩
theorem gI_st {x v : Int} (h : okI v) : ∀ lx Ax, gI.ow lx x Ax → 0 + [Value.int .i64 v].length ≤ gI.size ∧ ∃ Ay, gI.ow (setAt lx 0 [.int .i64 v]) v Ay ∧ Ax.Perm Ay := by
  rintro lx Ax ⟨rfl, _, rfl⟩; exact ⟨Nat.le_refl _, [], ⟨rfl, h, rfl⟩, .refl _⟩
theorem gB_st {x v : Bool} (_ : True) : ∀ lx Ax, gB.ow lx x Ax → 0 + [Value.bool v].length ≤ gB.size ∧ ∃ Ay, gB.ow (setAt lx 0 [.bool v]) v Ay ∧ Ax.Perm Ay := by
  rintro lx Ax ⟨rfl, _, rfl⟩; exact ⟨Nat.le_refl _, [], ⟨rfl, trivial, rfl⟩, .refl _⟩
theorem gY_st {x v : UInt8} (_ : True) : ∀ lx Ax, gY.ow lx x Ax → 0 + [Value.int .u8 v.toNat].length ≤ gY.size ∧ ∃ Ay, gY.ow (setAt lx 0 [.int .u8 v.toNat]) v Ay ∧ Ax.Perm Ay := by
  rintro lx Ax ⟨rfl, _, rfl⟩; exact ⟨Nat.le_refl _, [], ⟨rfl, trivial, rfl⟩, .refl _⟩
theorem okI_wrap (x : Int) : okI (IntKind.i64.wrap x) := by
  unfold okI IntKind.wrap
  simp only [IntKind.bits, IntKind.signed]
  simp only [Bool.true_and, decide_eq_true_eq, ge_iff_le]
  split <;> omega
end Go.SX
