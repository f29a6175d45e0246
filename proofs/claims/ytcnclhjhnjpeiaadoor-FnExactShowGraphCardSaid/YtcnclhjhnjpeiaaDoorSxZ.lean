/-
  Texts appended to bytes; builders of texts. Conditions: none.
-/
import Derived.Test.YtcnclhjhnjpeiaaDoorSxQ
import Derived.Lib.UnsafeStr
import Derived.Lib.Builder
namespace Go.SX

section
variable {P : Program} {E : World} {Γ : Ty} {n : Nat}

theorem run_firstS (w : World) (str : ByteArray) : (Builtin.firstCells flByte.size str.data.toList.length (.string str)).run P w = .ok ⟨str.data.toList.flatMap flByte.enc⟩ w := by
  have e1 : str.data.toList.length = str.size := by simp
  rw [e1]
  have e2 : str.extract 0 str.size = str := by simp
  simp only [Builtin.firstCells, e2, Sem.run_pure]
  congr 1
  apply Array.ext'
  simp only [Array.toList_map]
  induction str.data.toList with
  | nil => rfl
  | cons x r ih => simp only [List.map_cons, List.flatMap_cons, ih]; rfl

/-- the run of append of a text onto an owned slice of bytes -/
theorem run_appendS (hΓ : TyOk P Γ) {sT xT e ty : TypeId} {ti : TI} (hsT : P.underlying sT = some (.slice e)) (hxT : P.underlying xT = some .string) (ht : tyOf Γ e = some ti) (hsz : ti.size = flByte.size)
    (hz : ti.zero.cells.toList.length = flByte.size)
    {A B : Hp} {w : World} {base : Option Addr} {m cap : Nat} {xs : List UInt8} {str : ByteArray} (hs : Sat E (A ++ B) w) (ho : Ow flByte e (.slice base m cap) xs A) 
    (hlen : xs.length + str.data.toList.length ≤ 9223372036854775807) (hbd : (xs.length + str.data.toList.length) * ti.bytes ≤ 140737488355328) :
    ∃ base' cap' A' w', (Builtin.append_ #[sT, xT] ty #[.slice base m cap, .string str]).run P w = .ok (.slice base' (xs.length + str.data.toList.length) cap') w' ∧ (Ow flByte e (.slice base' (xs.length + str.data.toList.length) cap') (xs ++ str.data.toList) A' ∧ (xs.length + str.data.toList.length ≤ cap → base' = base ∧ cap' = cap)) ∧ Sat E (A' ++ B) w' := by
  have hrowS := fun w => run_firstS (P := P) w str
  have hsz2 : str.size = str.data.toList.length := by simp
  have hwf0 : ∀ x, flByte.wf x := fun _ => trivial
  generalize hf : flByte = f at *
  generalize hys : str.data.toList = ys at *
  obtain ⟨hw, hl, base0, cap0, e0, h2⟩ := ho
  cases e0
  have hrow := hrowS w
  have hwf : ∀ x ∈ xs ++ ys, f.wf x := fun x _ => hwf0 x
  have hlen' : (xs ++ ys).length ≤ 9223372036854775807 := by rw [List.length_append]; exact hlen
  unfold Builtin.append_
  simp only [List.getElem?_toArray, List.getElem?_cons_zero, List.getElem?_cons_succ, Sem.run_bind, run_underlying hsT, run_underlying hxT, Result.andThen_ok, ty_size hΓ ht, hsz, Sem.run_pure, Builtin.lenOf, Bool.false_eq_true, if_false, Bool.not_false, if_true]
  rw [hsz2]
  by_cases hfit : xs.length + ys.length ≤ cap
  · rw [if_pos hfit]
    simp only [Sem.run_bind, hrow, Result.andThen_ok]
    rcases h2 with ⟨rfl, rfl, rfl⟩ | ⟨b, sp, rfl, rfl, h3, h4⟩
    · have hys : ys = [] := by cases ys with
        | nil => rfl
        | cons _ _ => simp at hfit
      subst hys
      refine ⟨base, 0, [], w, ?_, ⟨Ow.nil e base, fun _ => ⟨rfl, rfl⟩⟩, hs⟩
      cases base with
      | none => rfl
      | some a => rfl
    · have hsl : ys.length * f.size ≤ sp.length := by
        exact Nat.le_trans (Nat.mul_le_mul_right _ (by omega)) h4
      have hfl := flat_length f xs
      have hfly := flat_length f ys
      obtain ⟨w', h5, h6⟩ := run_storeCells_wr (P := P) (A := []) (o := xs.length * f.size) (l := ys.flatMap f.enc) hs (by
        show xs.length * f.size + (ys.flatMap f.enc).length ≤ (xs.flatMap f.enc ++ sp).length
        rw [List.length_append]; omega) (by
          have : ∀ l : List UInt8, allOne (l.flatMap f.enc) = true := by
            intro l
            induction l with
            | nil => rfl
            | cons x r ih =>
              rw [List.flatMap_cons]
              have h1 := f.one x
              revert h1
              generalize f.enc x = c
              intro h1
              induction c with
              | nil => exact ih
              | cons v c ihc => cases v <;> simp_all [allOne]
          exact this ys)
      refine ⟨some ⟨b, 0, none⟩, cap, [(b, Obj.cells ⟨setAt (xs.flatMap f.enc ++ sp) (xs.length * f.size) (ys.flatMap f.enc)⟩ e)], w', ?_, ?_, h6⟩
      · simp only [addr_add, Nat.zero_add, h5, Sem.run_bind, Result.andThen_ok, Sem.run_pure]
      · refine ⟨?_, fun _ => ⟨rfl, rfl⟩⟩
        refine ⟨hwf, hlen', some ⟨b, 0, none⟩, cap, by rw [List.length_append], .inr ⟨b, sp.drop (ys.length * f.size), rfl, ?_, by rw [List.length_append]; exact hfit, ?_⟩⟩
        · show [(b, Obj.cells ⟨setAt (xs.flatMap f.enc ++ sp) (xs.length * f.size) (ys.flatMap f.enc)⟩ e)] = _
          have key : setAt (xs.flatMap f.enc ++ sp) (xs.length * f.size) (ys.flatMap f.enc) = xs.flatMap f.enc ++ ys.flatMap f.enc ++ sp.drop (ys.length * f.size) := by
            rw [setAt_eq _ _ _ (by rw [List.length_append]; omega), ← hfl, List.take_left, hfl, hfly, List.drop_append, List.drop_eq_nil_of_le (by omega), List.nil_append, hfl]
            rw [show xs.length * f.size + ys.length * f.size - xs.length * f.size = ys.length * f.size by omega]
          rw [key, List.flatMap_append]
        · rw [List.length_drop, List.length_append]
          have e9 : (cap - (xs.length + ys.length)) * f.size = (cap - xs.length) * f.size - ys.length * f.size := by rw [← Nat.sub_mul]; congr 1; omega
          omega
  · rw [if_neg hfit]
    obtain ⟨i, hi, hib, _, _⟩ := ty_bytes hΓ ht
    have hcap : Builtin.nextslicecap (xs.length + ys.length) cap * ti.bytes ≤ 281474976710656 := by
      have h7 := nextcap_le (xs.length + ys.length) cap (by omega)
      have h8 := Nat.mul_le_mul_right ti.bytes h7
      rw [Nat.mul_assoc] at h8
      omega
    have hold : (Builtin.firstCells f.size xs.length (.slice base xs.length cap)).run P w = .ok ⟨xs.flatMap f.enc⟩ w := by
      have h9 : (rpSl f.rp).rd A [.slice base xs.length cap] xs := Ow.rd ⟨hw, hl, base, cap, rfl, h2⟩
      exact (rd_row (f := f) h9 (P := P) hs.drop).2
    have hdrew : ∀ {H : Hp}, Sat E H w → Sat E H { w with drawn := w.drawn + 1 } := fun h => ⟨h.os, h.out, h.tape, h.mem, h.nodup, Nat.le_trans h.dr (Nat.le_succ _)⟩
    have hold' : (Builtin.firstCells f.size xs.length (.slice base xs.length cap)).run P { w with drawn := w.drawn + 1 } = .ok ⟨xs.flatMap f.enc⟩ { w with drawn := w.drawn + 1 } := by
      have h9 : (rpSl f.rp).rd A [.slice base xs.length cap] xs := Ow.rd ⟨hw, hl, base, cap, rfl, h2⟩
      exact (rd_row (f := f) h9 (P := P) (hdrew hs).drop).2
    have hrow' := hrowS { w with drawn := w.drawn + 1 }
    have hmax : IntKind.i64.max = 9223372036854775807 := rfl
    simp only [Sem.run_bind, typeInfo, run_program, Result.andThen_ok, hi, Sem.run_pure]
    rw [if_neg (by
      rw [hmax]
      rintro ⟨h10, _⟩
      omega)]
    have hif : ¬ (Builtin.nextslicecap (xs.length + ys.length) cap * ti.bytes > 2 ^ 48) := by omega
    simp only [Sem.run_bind, run_program, Result.andThen_ok, hi, Sem.run_pure, hib]
    rw [if_neg hif]
    simp only [Sem.run_bind, run_choose, Question.forced, Bool.false_eq_true, if_false, Result.andThen_ok, run_askRoom, hold', hrow', ty_zero hΓ ht, Sem.run_pure, newRow, run_newObj, run_program, hi]
    have hq : xs.length + ys.length ≤ (Question.appendCap (xs.length + ys.length) cap e).cut (w.tape w.drawn (.appendCap (xs.length + ys.length) cap e)) := by
      simp only [Question.cut]; omega
    generalize (Question.appendCap (xs.length + ys.length) cap e).cut (w.tape w.drawn (.appendCap (xs.length + ys.length) cap e)) = c at hq
    rw [zeroCells_eq]
    refine ⟨some ⟨w.heap.size, 0, none⟩, c, [(w.heap.size, Obj.cells ⟨(xs ++ ys).flatMap f.enc ++ zeros (c - (xs.length + ys.length)) ti.zero.cells.toList⟩ e)], _, rfl, ?_, ?_⟩
    · refine ⟨?_, fun h => absurd h hfit⟩
      refine ⟨hwf, hlen', some ⟨w.heap.size, 0, none⟩, c, by rw [List.length_append], .inr ⟨w.heap.size, _, rfl, rfl, by rw [List.length_append]; exact hq, ?_⟩⟩
      rw [zeros_length, hz, List.length_append]
      exact Nat.le_refl _
    · have h11 := (hdrew hs).push (Obj.cells ⟨(xs ++ ys).flatMap f.enc ++ zeros (c - (xs.length + ys.length)) ti.zero.cells.toList⟩ e)
      have h12 : Sat E ((w.heap.size, Obj.cells ⟨(xs ++ ys).flatMap f.enc ++ zeros (c - (xs.length + ys.length)) ti.zero.cells.toList⟩ e) :: B ++ A) (World.alloc { w with drawn := w.drawn + 1 } (Obj.cells ⟨(xs ++ ys).flatMap f.enc ++ zeros (c - (xs.length + ys.length)) ti.zero.cells.toList⟩ e)) := by
        refine h11.perm ?_
        simp only [List.cons_append]
        exact List.Perm.cons _ List.perm_append_comm
      have h13 := h12.drop
      have e1 : ((⟨xs.flatMap f.enc⟩ : Array Value) ++ (⟨ys.flatMap f.enc⟩ : Array Value) ++ (⟨zeros (c - (xs.length + ys.length)) ti.zero.cells.toList⟩ : Array Value)) = ⟨(xs ++ ys).flatMap f.enc ++ zeros (c - (xs.length + ys.length)) ti.zero.cells.toList⟩ := by
        apply Array.ext'
        simp
      rw [e1]
      exact h13



theorem perm0 {α : Type} {x : α} : List.Perm [x] (x :: List.flatten []) := .refl _
theorem perm1 {α : Type} {x : α} {B : List α} : List.Perm (x :: B) (x :: List.flatten [B]) := by simp
def Bz (base : Option Addr) (cap : Nat) : Prop := (base = none ∧ cap = 0) ∨ cap ≠ 0

theorem ow_room {α : Type} {f : Fl α} {T : TypeId} {base : Option Addr} {k cap : Nat} {xs : List α} {A : Hp} (h : Ow f T (.slice base k cap) xs A) (hne : 0 < xs.length) : cap ≠ 0 := by
  obtain ⟨_, _, b0, c0, e, h5⟩ := h
  simp only [Value.slice.injEq] at e
  obtain ⟨_, _, e3⟩ := e
  rcases h5 with ⟨_, h7, _⟩ | ⟨_, _, _, _, h8, _⟩
  · rw [h7] at hne; simp at hne
  · omega

/-- append of a text -/
theorem append_str (hΓ : TyOk P Γ) {dst : Option Nat} {s x : Operand} {sT xT T ty : TypeId} {pos : String} {after : Array Edge} {guard : Option (Nat × Bool)} {fr : Fr} {bl : List Blk} {R : List Hp} {K : St → Prop} {ti : TI}
    (i : Nat) {A : Hp} {base : Option Addr} {m cap : Nat} {xs : List UInt8} {str : ByteArray} (hi : nthR R i = some A) (ho : (gSl T gY).ow [.slice base m cap] xs A) (hz0 : Bz base cap)
    (hs1 : getK fr s fun sv => sv = .v (.slice base m cap)) (hx1 : getK fr x fun sv => sv = .v (.string str))
    (hsT : undOf Γ sT = some (.slice T)) (hxT : undOf Γ xT = some .string) (ht : tyOf Γ T = some ti) (hsz : ti.size = flByte.size) (hz : lenIs ti.zero.cells.toList flByte.size = true)
    (hby : Nat.ble ti.bytes 65536 = true) (hlen : xs.length + str.data.toList.length ≤ 1073741824)
    (hk : ∀ base' cap' A', (gSl T gY).ow [.slice base' (xs ++ str.data.toList).length cap'] (xs ++ str.data.toList) A' → Bz base' cap' → putK n fr dst (.v (.slice base' (xs ++ str.data.toList).length cap')) fun fr => K ⟨fr, bl, setR R i A'⟩) :
    VCraw P E n ⟨dst, .call ⟨.builtin .append, #[s, x], #[sT, xT]⟩, ty, pos, after, guard⟩ ⟨fr, bl, R⟩ K := by
  have ho' := fl_ow ho
  have hm : m = xs.length := (by obtain ⟨_, _, _, _, e, _⟩ := ho'; cases e; rfl)
  subst hm
  have hbd : (xs.length + str.data.toList.length) * ti.bytes ≤ 140737488355328 := by
    have h1 := Nat.le_of_ble_eq_true hby
    have h2 := Nat.mul_le_mul hlen h1
    omega
  refine ⟨fun a w hr Q => ?_⟩
  obtain ⟨sv, g1, _, rfl⟩ := getK_sound hr hs1
  obtain ⟨xv, g2, _, rfl⟩ := getK_sound hr hx1
  obtain ⟨pre, post, e1, e2'⟩ := nthR_split hi
  have perm : ∀ C : Hp, (St.hall ⟨[], bl, pre ++ C :: post⟩).Perm (C ++ St.hall ⟨[], bl, pre ++ post⟩) := by
    intro C
    simp only [St.hall, List.flatten_append, List.flatten_cons]
    have := List.perm_append_comm (l₁ := List.map Blk.ent bl ++ pre.flatten) (l₂ := C)
    have := this.append_right post.flatten
    simpa only [List.append_assoc] using this
  subst e1
  have hsat : Sat E (A ++ St.hall ⟨[], bl, pre ++ post⟩) w := hr.sat.perm (perm A)
  obtain ⟨base', cap', A', w', h1, h2, h3⟩ := run_appendS (ty := ty) hΓ (undOf_ok hΓ hsT) (undOf_ok hΓ hxT) ht hsz (lenIs_spec hz) hsat ho' (by omega) hbd
  have hr' : Rel E n ⟨fr, bl, setR (pre ++ A :: post) i A'⟩ a w' := by
    rw [e2']
    exact hr.ids rfl (h3.perm (perm A').symm)
  have hBz : Bz base' cap' := by
    by_cases hf : xs.length + str.data.toList.length ≤ cap
    · obtain ⟨rfl, rfl⟩ := h2.2 hf; exact hz0
    · exact .inr (ow_room h2.1 (by rw [List.length_append]; omega))
  have e3 : (xs ++ str.data.toList).length = xs.length + str.data.toList.length := List.length_append
  rw [e3] at hk
  refine wp_value (s := .v _) (v := .slice base' (xs.length + str.data.toList.length) cap') ?_ hr' rfl trivial (hk base' cap' A' (by have := ow_fl (mk := fun k => UInt8.ofNat (k % 256).toNat) (sz := fun _ => 0) h2.1; exact this) hBz)
  simp only [execOp, resolve, invoke, builtin, Sem.run_bind, Sem.run_pure, Result.andThen_ok]
  rw [show (#[s, x] : Array Operand).map a.eval = #[a.eval s, a.eval x] from by simp, g1, g2]
  simp only [SV.den]
  rw [h1]; rfl

/-- append of one byte; what is kept of the room -/
theorem append_byte (hΓ : TyOk P Γ) {dst : Option Nat} {s x : Operand} {sT xT e2 T ty : TypeId} {pos : String} {after : Array Edge} {guard : Option (Nat × Bool)} {fr : Fr} {bl : List Blk} {R : List Hp} {K : St → Prop} {ti : TI}
    (i : Nat) {A : Hp} {base : Option Addr} {xb m cap : Nat} {xs : List UInt8} {y : UInt8} {T' : TypeId} (hi : nthR R i = some A) (ho : (gSl T gY).ow [.slice base m cap] xs A) (hz0 : Bz base cap)
    (hlit : [(xb, Obj.cells ⟨[.int .u8 y.toNat]⟩ T')] ∈ R)
    (hs1 : getK fr s fun sv => sv = .v (.slice base m cap)) (hx1 : getK fr x fun sv => sv = .v (.slice (some ⟨xb, 0, none⟩) 1 1))
    (hsT : undOf Γ sT = some (.slice T)) (hxT : undOf Γ xT = some (.slice e2)) (ht : tyOf Γ T = some ti) (hsz : ti.size = flByte.size) (hz : lenIs ti.zero.cells.toList flByte.size = true)
    (hby : Nat.ble ti.bytes 65536 = true) (hlen : xs.length + 1 ≤ 1073741824)
    (hk : ∀ base' cap' A', (gSl T gY).ow [.slice base' (xs ++ [y]).length cap'] (xs ++ [y]) A' → Bz base' cap' → putK n fr dst (.v (.slice base' (xs ++ [y]).length cap')) fun fr => K ⟨fr, bl, setR R i A'⟩) :
    VCraw P E n ⟨dst, .call ⟨.builtin .append, #[s, x], #[sT, xT]⟩, ty, pos, after, guard⟩ ⟨fr, bl, R⟩ K := by
  have ho' := fl_ow ho
  have hm : m = xs.length := (by obtain ⟨_, _, _, _, e, _⟩ := ho'; cases e; rfl)
  subst hm
  have hmem : (xb, Obj.cells ⟨[.int .u8 y.toNat]⟩ T') ∈ St.hall ⟨[], bl, R⟩ := by
    refine List.mem_append_right _ (List.mem_flatten.2 ⟨_, hlit, List.mem_singleton.2 rfl⟩)
  refine append_ow (f := flByte) hΓ i hi ho' (lit_rd (f := flByte) (y := y) hmem rfl trivial) (fun _ _ => trivial) hs1 hx1 hsT hxT ht hsz hz hby hlen ?_
  intro base' cap' A' h1 h2
  have hBz : Bz base' cap' := by
    by_cases hf : xs.length + [y].length ≤ cap
    · obtain ⟨rfl, rfl⟩ := h2 hf; exact hz0
    · exact .inr (ow_room h1 (by rw [List.length_append]; simp))
  have e3 : (xs ++ [y]).length = xs.length + [y].length := List.length_append
  rw [e3] at hk
  exact hk base' cap' A' (ow_fl h1) hBz

/-- unsafe.SliceData -/
theorem sliceData {dst : Option Nat} {x : Operand} {tys : Array TypeId} {ty : TypeId} {pos : String} {after : Array Edge} {guard : Option (Nat × Bool)} {fr : Fr} {bl : List Blk} {R : List Hp} {K : St → Prop}
    {base : Option Addr} {m cap : Nat} (hx1 : getK fr x fun sv => sv = .v (.slice base m cap)) (hz : Bz base cap)
    (hk : putK n fr dst (.v (.pointer base)) fun fr => K ⟨fr, bl, R⟩) : VCraw P E n ⟨dst, .call ⟨.builtin .unsafeSliceData, #[x], tys⟩, ty, pos, after, guard⟩ ⟨fr, bl, R⟩ K := by
  refine ⟨fun a w hr Q => ?_⟩
  obtain ⟨sv, g1, _, rfl⟩ := getK_sound hr hx1
  have key : (Builtin.unsafeSliceData_ tys ty #[.slice base m cap]).run P w = .ok (.pointer base) w := by
    cases base with
    | none => rfl
    | some ad =>
      rcases hz with ⟨h, _⟩ | h
      · cases h
      · exact Lib.run_unsafeSliceData_row w tys ty ad m cap h
  refine wp_value (s := .v _) (v := .pointer base) ?_ hr rfl trivial hk
  simp only [execOp, resolve, invoke, builtin, Sem.run_bind, Sem.run_pure, Result.andThen_ok]
  rw [show (#[x] : Array Operand).map a.eval = #[a.eval x] from by simp, g1]
  simp only [SV.den]
  rw [key]; rfl

theorem Sat.dropAt {A B : Hp} {w w' : World} {g : Nat} (h : Sat E (A ++ B) w) (hg : ∀ x, (g, x) ∉ B) (ho : w'.os = w.os) (hu : w'.output = w.output) (ht : w'.tape = w.tape) (hn : ∀ i, i ≠ g → w'.heap[i]? = w.heap[i]?) (hd : w.drawn ≤ w'.drawn) : Sat E B w' := by
  refine ⟨ho.trans h.os, hu.trans h.out, ht.trans h.tape, fun b o hm => ?_, ?_, Nat.le_trans h.dr hd⟩
  · rw [hn b (fun e => hg o (e ▸ hm))]; exact h.mem b o (List.mem_append_right _ hm)
  · have := h.nodup; rw [List.map_append, List.nodup_append] at this; exact this.2.1

/-- unsafe.String over what a slice of bytes owns: the bytes are given up -/
theorem unsafeStr (hΓ : TyOk P Γ) {dst : Option Nat} {x l : Operand} {pt it T ty : TypeId} {pos : String} {after : Array Edge} {guard : Option (Nat × Bool)} {fr : Fr} {bl : List Blk} {R : List Hp} {K : St → Prop}
    (i : Nat) {A : Hp} {base : Option Addr} {m cap : Nat} {xs : List UInt8} (hi : nthR R i = some A) (ho : (gSl T gY).ow [.slice base m cap] xs A)
    (hx1 : getK fr x fun sv => sv = .v (.pointer base)) (hl1 : getK fr l fun sv => sv = .v (.int .i64 m))
    (hp : undOf Γ pt = some (.pointer T)) (hc : P.cellsOf T = 1)
    (hk : putK n fr dst (.v (.string ⟨xs.toArray⟩)) fun fr => K ⟨fr, bl, setR R i []⟩) : VCraw P E n ⟨dst, .call ⟨.builtin .unsafeString, #[x, l], #[pt, it]⟩, ty, pos, after, guard⟩ ⟨fr, bl, R⟩ K := by
  have ho' := fl_ow ho
  refine ⟨fun a w hr Q => ?_⟩
  obtain ⟨sv, g1, _, rfl⟩ := getK_sound hr hx1
  obtain ⟨lv, g2, _, rfl⟩ := getK_sound hr hl1
  obtain ⟨pre, post, e1, e2'⟩ := nthR_split hi
  have perm : ∀ C : Hp, (St.hall ⟨[], bl, pre ++ C :: post⟩).Perm (C ++ St.hall ⟨[], bl, pre ++ post⟩) := by
    intro C
    simp only [St.hall, List.flatten_append, List.flatten_cons]
    have := List.perm_append_comm (l₁ := List.map Blk.ent bl ++ pre.flatten) (l₂ := C)
    have := this.append_right post.flatten
    simpa only [List.append_assoc] using this
  subst e1
  have hsat : Sat E (A ++ St.hall ⟨[], bl, pre ++ post⟩) w := hr.sat.perm (perm A)
  have key : ∃ w', (Builtin.unsafeString_ #[pt, it] ty #[.pointer base, .int .i64 m]).run P w = .ok (.string ⟨xs.toArray⟩) w' ∧ Sat E (St.hall ⟨[], bl, pre ++ post⟩) w' := by
    obtain ⟨_, hlen, base0, cap0, e0, h2⟩ := ho'
    cases e0
    cases xs with
    | nil =>
      refine ⟨w, Lib.run_unsafeString_none w pt it ty base, ?_⟩
      exact (hsat.perm List.perm_append_comm).drop
    | cons x0 r =>
      rcases h2 with ⟨_, h7, _⟩ | ⟨b, sp, rfl, rfl, h3, h4⟩
      · cases h7
      · have hmem : (b, Obj.cells ⟨(x0 :: r).flatMap flByte.enc ++ sp⟩ T) ∈ ([(b, Obj.cells ⟨(x0 :: r).flatMap flByte.enc ++ sp⟩ T)] : Hp) ++ St.hall ⟨[], bl, pre ++ post⟩ := List.mem_append_left _ (List.mem_singleton.2 rfl)
        have hheap := hsat.mem _ _ hmem
        have hfl := flat_length flByte (x0 :: r)
        have e5 : flByte.size = 1 := rfl
        rw [e5, Nat.mul_one] at hfl
        refine ⟨w.freeze ⟨b, 0, none⟩ (x0 :: r).length, ?_, ?_⟩
        · refine Lib.run_unsafeString_row w pt it ty T (undOf_ok hΓ hp) hc b ((x0 :: r).flatMap flByte.enc ++ sp).length ?_ (x0 :: r) (by simp) ?_ hlen ?_
          · simp [World.shape?, hheap]
          · rw [List.length_append, hfl]; omega
          · intro j x hx
            rw [addr_add, Nat.zero_add, hsat.cell hmem]
            have hj : j < (x0 :: r).length := by
              rcases Nat.lt_or_ge j (x0 :: r).length with h | h
              · exact h
              · rw [List.getElem?_eq_none h] at hx; cases hx
            rw [List.getElem?_eq_getElem hj] at hx
            cases hx
            have := flat_get flByte (x0 :: r) j 0 hj (by show 0 < 1; omega)
            rw [e5, Nat.mul_one, Nat.add_zero] at this
            simp only [List.getElem?_toArray]
            rw [List.getElem?_append_left (by rw [hfl]; exact hj), this]
            rfl
        · have hnd := hsat.nodup
          refine Sat.dropAt (g := b) hsat ?_ ?_ ?_ ?_ ?_ (by unfold World.freeze; split <;> exact Nat.le_refl _)
          · intro x hx
            rw [List.map_append, List.nodup_append] at hnd
            exact hnd.2.2 b (by simp) b (List.mem_map.2 ⟨_, hx, rfl⟩) rfl
          · unfold World.freeze; split <;> rfl
          · unfold World.freeze; split <;> rfl
          · unfold World.freeze; split <;> rfl
          · intro i hne
            unfold World.freeze
            split
            · rfl
            · simp only [Array.getElem?_modify]
              rw [if_neg (fun e => hne e.symm)]
  obtain ⟨w', h1, h2⟩ := key
  have hr' : Rel E n ⟨fr, bl, setR (pre ++ A :: post) i []⟩ a w' := by
    rw [e2']
    exact hr.ids rfl (h2.perm (perm []).symm)
  refine wp_value (s := .v _) (v := .string ⟨xs.toArray⟩) ?_ hr' rfl trivial hk
  simp only [execOp, resolve, invoke, builtin, Sem.run_bind, Sem.run_pure, Result.andThen_ok]
  rw [show (#[x, l] : Array Operand).map a.eval = #[a.eval x, a.eval l] from by simp, g1, g2]
  simp only [SV.den]
  rw [h1]; rfl

theorem chooseL {β : Type} {P : Nat → β → Prop} : ∀ (n : Nat), (∀ i, i < n → ∃ r, P i r) → ∃ rs : List β, rs.length = n ∧ ∀ i (h : i < rs.length), P i rs[i]
  | 0, _ => ⟨[], rfl, fun i h => by simp at h⟩
  | n + 1, h => by
    obtain ⟨rs, h1, h2⟩ := chooseL n (fun i hi => h i (by omega))
    obtain ⟨r, hr⟩ := h n (by omega)
    refine ⟨rs ++ [r], by simp [h1], fun i hi => ?_⟩
    by_cases hlt : i < rs.length
    · rw [List.getElem_append_left hlt]; exact h2 i hlt
    · have : i = n := by simp at hi; omega
      subst this
      rw [List.getElem_append_right (by omega)]
      simp [h1, hr]

/-- elements that own nothing -/
def Plain {α : Type} (g : Gt α) : Prop := ∀ {H : Hp} {l : List Value} {x : α}, g.rd H l x → g.ow l x []
theorem fl_plain {α : Type} {f : Fl α} {mk : Int → α} {sz : α → Nat} : Plain (f.gt mk sz) := fun h => ⟨h.1, h.2, rfl⟩

theorem OwL.of {α : Type} {g : Gt α} : ∀ (ls : List (RawC g.size)) (xs : List α), ls.length = xs.length → (∀ i (h1 : i < ls.length) (h2 : i < xs.length), g.ow (ls[i]).1 xs[i] []) → OwL g ls xs (List.replicate xs.length [])
  | [], [], _, _ => .nil
  | l :: ls, x :: xs, h, hp => by
    refine .cons (hp 0 (by simp) (by simp)) (OwL.of ls xs (by simpa using h) fun i h1 h2 => ?_)
    exact hp (i + 1) (by simpa using h1) (by simpa using h2)
  | [], _ :: _, h, _ => by simp at h
  | _ :: _, [], h, _ => by simp at h

theorem rd_raws {α : Type} {g : Gt α} (hpl : Plain g) {H : Hp} {xb : Option Addr} {mx xc : Nat} {ys : List α} (hx : (rpSl g.toRp).rd H [.slice xb mx xc] ys) :
    ∃ rs : List (RawC g.size), (rpSl (flRaw g.size g.pos).rp).rd H [.slice xb mx xc] rs ∧ OwL g rs ys (List.replicate ys.length []) ∧ rs.length = ys.length := by
  obtain ⟨base, cap, e, h1, h2⟩ := hx
  cases e
  have h3 : ∀ i, i < ys.length → ∃ r : RawC g.size, (∃ b o, xb = some ⟨b, o, none⟩ ∧ RdCells H b (o + i * g.size) g.size r.1) ∧ ∃ h : i < ys.length, g.ow r.1 ys[i] [] := by
    intro i hi
    obtain ⟨b, o, l', h4, h5, h6⟩ := h2 i hi
    exact ⟨⟨l', raw_of h6⟩, ⟨b, o, h4, h5⟩, hi, hpl h6⟩
  obtain ⟨rs, h7, h8⟩ := chooseL ys.length h3
  refine ⟨rs, ⟨xb, xc, by rw [h7], ⟨by rw [h7]; exact h1.1, by rw [h7]; exact h1.2⟩, fun i hi => ?_⟩, OwL.of rs ys h7 fun i hi1 hi2 => ?_, h7⟩
  · obtain ⟨⟨b, o, h9, h10⟩, _⟩ := h8 i hi
    exact ⟨b, o, (rs[i]).1, h9, h10, rfl, trivial⟩
  · obtain ⟨_, _, h11⟩ := h8 i hi1
    exact h11

/-- plain elements that lie elsewhere are appended -/
theorem append_all (hΓ : TyOk P Γ) {α : Type} {g : Gt α} (hpl : Plain g) {dst : Option Nat} {s x : Operand} {sT xT e2 T ty : TypeId} {pos : String} {after : Array Edge} {guard : Option (Nat × Bool)} {fr : Fr} {bl : List Blk} {R : List Hp} {K : St → Prop} {ti : TI}
    (A : Hp) (Rr : List Hp) {base xb : Option Addr} {m cap mx xc : Nat} {xs ys : List α} (hR : RLe R (A :: Rr)) (ho : (gSl T g).ow [.slice base m cap] xs A) (hx : (rpSl g.toRp).rd (St.hall ⟨[], bl, A :: Rr⟩) [.slice xb mx xc] ys)
    (hs1 : getK fr s fun sv => sv = .v (.slice base m cap)) (hx1 : getK fr x fun sv => sv = .v (.slice xb mx xc))
    (hsT : undOf Γ sT = some (.slice T)) (hxT : undOf Γ xT = some (.slice e2)) (ht : tyOf Γ T = some ti) (hsz : ti.size = g.size) (hz : lenIs ti.zero.cells.toList g.size = true)
    (hby : Nat.ble ti.bytes 65536 = true) (hlen : xs.length + ys.length ≤ 1073741824)
    (hk : ∀ base' cap' A', (gSl T g).ow [.slice base' (xs ++ ys).length cap'] (xs ++ ys) A' → putK n fr dst (.v (.slice base' (xs ++ ys).length cap')) fun fr => K ⟨fr, bl, A' :: Rr⟩) :
    VCraw P E n ⟨dst, .call ⟨.builtin .append, #[s, x], #[sT, xT]⟩, ty, pos, after, guard⟩ ⟨fr, bl, R⟩ K := by
  have e0 : (xs ++ ys).length = xs.length + ys.length := List.length_append
  simp only [e0] at hk
  obtain ⟨v, ls, A0, As, e, ho, hp, hl⟩ := ho
  cases e
  obtain ⟨e1, e2'⟩ := hl.len
  have hm : m = ls.length := (by obtain ⟨_, _, _, _, e, _⟩ := ho; cases e; rfl)
  subst hm
  obtain ⟨rs, hrs, hol, hrl⟩ := rd_raws hpl hx
  obtain ⟨L, hL⟩ := hR
  have hperm : R.flatten.Perm (A0 ++ (As.flatten ++ (Rr.flatten ++ L))) := by
    refine hL.trans ?_
    simp only [List.flatten_cons]
    have := hp.append_right (Rr.flatten ++ L)
    simpa only [List.append_assoc] using this
  refine VCraw.conv (R2 := [A0, As.flatten ++ (Rr.flatten ++ L)]) ⟨[], by simpa using hperm⟩ ?_
  have hsub : ∀ p ∈ St.hall ⟨[], bl, A :: Rr⟩, p ∈ St.hall ⟨[], bl, [A0, As.flatten ++ (Rr.flatten ++ L)]⟩ := by
    intro p hp'
    simp only [St.hall, List.flatten_cons, List.flatten_nil, List.append_nil] at hp' ⊢
    rcases List.mem_append.1 hp' with h | h
    · exact List.mem_append_left _ h
    · refine List.mem_append_right _ ?_
      rcases List.mem_append.1 h with h | h
      · have := hp.mem_iff.1 h
        rcases List.mem_append.1 this with h2 | h2
        · exact List.mem_append_left _ h2
        · exact List.mem_append_right _ (List.mem_append_left _ h2)
      · exact List.mem_append_right _ (List.mem_append_right _ (List.mem_append_left _ h))
  refine append_ow (f := flRaw g.size g.pos) hΓ 0 rfl ho ((rpSl (flRaw g.size g.pos).rp).mono hsub hrs) (fun _ _ => trivial) hs1 hx1 hsT hxT ht hsz hz hby (by rw [e1, hrl]; exact hlen) ?_
  intro base' cap' A' ho' _
  have h3 : (gSl T g).ow [.slice base' (xs.length + ys.length) cap'] (xs ++ ys) (A' ++ (As ++ List.replicate ys.length []).flatten) := by
    refine ⟨_, ls ++ rs, A', As ++ List.replicate ys.length [], rfl, ?_, .refl _, hl.append hol⟩
    rw [← e1, ← hrl]; exact ho'
  have h4 := hk base' cap' _ h3
  rw [e1, hrl]
  refine putK_mono h4 fun fr' hK => ⟨_, ?_, hK⟩
  refine ⟨L, ?_⟩
  simp only [setR, List.flatten_cons, List.flatten_nil, List.append_nil, List.flatten_append]
  have : (List.replicate ys.length ([] : Hp)).flatten = [] := by simp
  rw [this]
  simp only [List.append_assoc, List.append_nil]
  exact .refl _
theorem plain_pair {α β : Type} {g : Gt α} {h : Gt β} (hg : Plain g) (hh : Plain h) : Plain (SX.gPair g h) := by
  rintro H l x ⟨l1, l2, rfl, h1, h2⟩
  exact ⟨l1, l2, [], [], rfl, .refl _, hg h1, hh h2⟩
theorem plain_iso {α β : Type} {g : Gt α} {f : β → α} {f' : α → β} (hg : Plain g) : Plain (gIso g f f') := fun h => hg h
theorem nthR_mem : ∀ {R : List Hp} {i : Nat} {A : Hp}, nthR R i = some A → ∀ p ∈ A, p ∈ R.flatten := by
  intro R i A h p hp
  obtain ⟨pre, post, rfl, -⟩ := nthR_split h
  simp only [List.flatten_append, List.flatten_cons, List.mem_append]
  exact .inr (.inl hp)
/-- the same, the elements read in heaplet i -/
theorem append_allN (hΓ : TyOk P Γ) {α : Type} {g : Gt α} (hpl : Plain g) {dst : Option Nat} {s x : Operand} {sT xT e2 T ty : TypeId} {pos : String} {after : Array Edge} {guard : Option (Nat × Bool)} {fr : Fr} {bl : List Blk} {R : List Hp} {K : St → Prop} {ti : TI}
    (A : Hp) (Rr : List Hp) (i : Nat) {H : Hp} {base xb : Option Addr} {m cap mx xc : Nat} {xs ys : List α} (hR : RLe R (A :: Rr)) (ho : (gSl T g).ow [.slice base m cap] xs A) (hi : nthR Rr i = some H) (hx : (gSl T g).rd H [.slice xb mx xc] ys)
    (hs1 : getK fr s fun sv => sv = .v (.slice base m cap)) (hx1 : getK fr x fun sv => sv = .v (.slice xb mx xc))
    (hsT : undOf Γ sT = some (.slice T)) (hxT : undOf Γ xT = some (.slice e2)) (ht : tyOf Γ T = some ti) (hsz : ti.size = g.size) (hz : lenIs ti.zero.cells.toList g.size = true)
    (hby : Nat.ble ti.bytes 65536 = true) (hlen : xs.length + ys.length ≤ 1073741824)
    (hk : ∀ base' cap' A', (gSl T g).ow [.slice base' (xs ++ ys).length cap'] (xs ++ ys) A' → putK n fr dst (.v (.slice base' (xs ++ ys).length cap')) fun fr => K ⟨fr, bl, A' :: Rr⟩) :
    VCraw P E n ⟨dst, .call ⟨.builtin .append, #[s, x], #[sT, xT]⟩, ty, pos, after, guard⟩ ⟨fr, bl, R⟩ K :=
  append_all hΓ hpl A Rr hR ho ((gSl T g).mono (fun p hp => by
    simp only [St.hall, List.flatten_cons, List.mem_append]
    have := nthR_mem hi p hp
    simp only [this, or_true]) hx) hs1 hx1 hsT hxT ht hsz hz hby hlen hk
end
end Go.SX
