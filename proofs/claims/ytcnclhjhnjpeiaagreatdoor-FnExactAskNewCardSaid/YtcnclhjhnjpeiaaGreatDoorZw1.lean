/-
 Parts of the law, put together. Conditions: none.
-/
import Derived.Tactics
import Derived.Laws.Sem
import Derived.Laws.World
import Derived.Test.YtcnclhjhnjpeiaaGreatDoorProg
import Derived.KernelRfl
import Derived.Laws.Cells
import Derived.Laws.CopyRow
import Derived.Laws.IdiomCopy
import Derived.BigCall
import Derived.Deep.LoopGhost
import Derived.WalkKit
import Derived.ProofKit
import Derived.OpenShut
import Derived.Orders
import Derived.OrdersHeld
import Derived.Laws.Strings
import Derived.Laws.BytesArg
import Derived.Lib.UnsafeStr
import Derived.Lib.Builder
import Derived.Shelf.SlSortCmp.NoneTotal
import Derived.Lib.Walk
import Derived.Lib.Strings
import Derived.Laws.Externs
import Derived.Lib.Overlaps
import Derived.Lib.MakeNoZero
import Derived.Lib.ItoaNum
import Derived.Shelf.Strconv.Itoa3
import Derived.Test.YtcnclhjhnjpeiaaGreatDoorCards
import Derived.Test.YtcnclhjhnjpeiaaGreatDoorTie
import Derived.Lay
import Derived.LaidMore
import Derived.SevenTiedAt
import Derived.LaidSub
import Derived.Lib.LaidTab
set_option linter.unusedSimpArgs false
set_option linter.unusedVariables false
namespace Go.SX
inductive SV where
 | v (x : Value)
 | p (h off : Nat)
 | b (t : Bool)
structure Blk where
 id : Nat
 cs : List Value
 ty : TypeId
abbrev Hp := List (Nat × Obj)
structure St where
 fr : List (Nat × SV)
 bl : List Blk
 R : List Hp
def Blk.ent (b : Blk) : Nat × Obj := (b.id, .cells ⟨b.cs⟩ b.ty)
def St.hall (st : St) : Hp := st.bl.map Blk.ent ++ st.R.flatten
def idOf : List Blk → Nat → Nat
 | [], _ => 0
 | b :: _, 0 => b.id
 | _ :: r, n + 1 => idOf r n
def SV.den (bl : List Blk) : SV → Value
 | .v x => x
 | .p h off => .pointer (some ⟨idOf bl h, off, none⟩)
 | .b t => .bool t
def SV.ok (bl : List Blk) : SV → Prop
 | .p h _ => h < bl.length
 | _ => True
def look : List (Nat × SV) → Nat → Option SV
 | [], _ => none
 | (k', s) :: r, k => match Nat.beq k' k with
  | true => some s
  | false => look r k
structure Sat (E : World) (H : Hp) (w : World) : Prop where
 os : w.os = E.os
 out : w.output = E.output
 tape : w.tape = E.tape
 mem : ∀ b o, (b, o) ∈ H → w.heap[b]? = some o
 nodup : (H.map (·.1)).Nodup
 dr : E.drawn ≤ w.drawn
structure Rel (E : World) (n : Nat) (st : St) (a : Act) (w : World) : Prop where
 size : a.tmps.size = n
 defers : a.defers = []
 val : ∀ k sv, look st.fr k = some sv → a.tmps[k]? = some (sv.den st.bl) ∧ sv.ok st.bl
 sat : Sat E st.hall w
inductive UD where
 | bool
 | int (k : IntKind)
 | string
 | slice (e : TypeId)
 | struct (fl : List (Nat × TypeId))
 | pointer (e : TypeId)
 | map (k e : TypeId)
 | func
structure TI where
 und : UD
 size : Nat
 bytes : Nat
 zero : Value
def TI.agg (t : TI) : Bool := match t.und with
 | .struct _ => true
 | _ => false
abbrev Ty := List (Nat × TI)
def tyOf : Ty → Nat → Option TI
 | [], _ => none
 | (k', s) :: r, k => match Nat.beq k' k with
  | true => some s
  | false => tyOf r k
def undOf (Γ : Ty) (t : Nat) : Option UD := match tyOf Γ t with
 | some ti => some ti.und
 | none => none
def sizOf (Γ : Ty) (t : Nat) : Option Nat := match tyOf Γ t with
 | some ti => some ti.size
 | none => none
def UD.ok (P : Program) (t : TypeId) : UD → Prop
 | .bool => P.underlying t = some .bool
 | .int k => P.underlying t = some (.int k)
 | .string => P.underlying t = some .string
 | .slice e => P.underlying t = some (.slice e)
 | .struct fl => ∃ fs, P.underlying t = some (.struct fs) ∧ fs.toList.map (fun f => (f.offset, f.type)) = fl
 | .pointer e => P.underlying t = some (.pointer e)
 | .map k e => P.underlying t = some (.map k e)
 | .func => ∃ a b c, P.underlying t = some (.func a b c)
def TI.ok (P : Program) (t : TypeId) (ti : TI) : Prop :=
 ti.und.ok P t ∧ (P.info? t).map (fun i => (i.size, i.bytes, i.zero)) = some (ti.size, ti.bytes, some ti.zero)
def TyOk (P : Program) (Γ : Ty) : Prop := ∀ t ti, tyOf Γ t = some ti → ti.ok P t
theorem TyOk.nil {P : Program} : TyOk P [] := fun _ _ h => by simp [tyOf] at h
theorem TyOk.cons {P : Program} {t : Nat} {ti : TI} {Γ : Ty} (h : ti.ok P t) (hr : TyOk P Γ) : TyOk P ((t, ti) :: Γ) := by
 intro t' ti' h'
 unfold tyOf at h'
 split at h'
 ·rename_i hb
  cases h'
  have := Nat.eq_of_beq_eq_true hb
  subst this; exact h
 exact hr _ _ h'
/- The questions that the executor leaves. Each is an inductive proposition, so that unfolding stops at it. -/
inductive VC (side next : Prop) : Prop where
 | intro : side → next → VC side next
inductive VCsplit (t : Bool) (A B : Prop) : Prop where
 | intro : (t = true → A) → (t = false → B) → VCsplit t A B
inductive VCnew (f : Nat → Prop) : Prop where
 | intro : (∀ b, f b) → VCnew f
inductive VCidx (base : Option Addr) (n : Nat) (i : Int) (f : Nat → Nat → Prop) : Prop where
 | intro (b o : Nat) : base = some ⟨b, o, none⟩ → 0 ≤ i → i < n → f b o → VCidx base n i f
def RdCells (H : Hp) (b o n : Nat) (l : List Value) : Prop :=
 l.length = n ∧ ∃ cs T fz, (b, Obj.cells cs T fz) ∈ H ∧ ∀ i, i < n → cs[o + i]? = l[i]?
inductive VCload (H : Hp) (b o n : Nat) (f : List Value → Prop) : Prop where
 | intro (l : List Value) : RdCells H b o n l → f l → VCload H b o n f
def setAt : List Value → Nat → List Value → List Value
 | cs, _, [] => cs
 | cs, o, x :: r => setAt (cs.set o x) (o + 1) r
def WrCells (R : List Hp) (b o : Nat) (l : List Value) (R' : List Hp) : Prop :=
 ∃ pre post A1 A2 cs T, R = pre ++ (A1 ++ (b, Obj.cells cs T) :: A2) :: post ∧ o + l.length ≤ cs.size ∧
  R' = pre ++ (A1 ++ (b, Obj.cells ⟨setAt cs.toList o l⟩ T) :: A2) :: post
def RLe (R' R : List Hp) : Prop := ∃ L, R'.flatten.Perm (R.flatten ++ L)
def WrCellF (R : List Hp) (b o : Nat) (l : List Value) (R' : List Hp) : Prop :=
 ∃ pre post A1 A2 cs T lo hi v, l = [v] ∧ R = pre ++ (A1 ++ (b, Obj.cells cs T (lo, hi)) :: A2) :: post ∧ o < cs.size ∧ o < lo ∧
  R' = pre ++ (A1 ++ (b, Obj.cells ⟨cs.toList.set o v⟩ T (lo, hi)) :: A2) :: post
inductive VCstore (R : List Hp) (b o : Nat) (l : List Value) (f : List Hp → Prop) : Prop where
 | part (R0 R1 R' : List Hp) : RLe R R0 → WrCells R0 b o l R1 → RLe R1 R' → f R' → VCstore R b o l f
 | frz (R0 R1 R' : List Hp) : RLe R R0 → WrCellF R0 b o l R1 → RLe R1 R' → f R' → VCstore R b o l f
theorem VCstore.intro {R : List Hp} {b o : Nat} {l : List Value} {f : List Hp → Prop} (R' : List Hp) (h : WrCells R b o l R') (k : f R') : VCstore R b o l f :=
 .part R R' R' ⟨[], by simp⟩ h ⟨[], by simp⟩ k
inductive VCmake (m c : Int) (bytes : Nat) (f : Nat → Prop) : Prop where
 | intro : 0 ≤ m → m ≤ c → c ≤ 281474976710656 → bytes * c ≤ 281474976710656 → (∀ b, f b) → VCmake m c bytes f
def zeros : Nat → List Value → List Value
 | 0, _ => []
 | n + 1, z => z ++ zeros n z
def lift (E : World) (n : Nat) (Q : Exit → St → Prop) (e : Exit) (a : Act) (w : World) : Prop := ∃ st, Rel E n st a w ∧ Q e st
inductive VCraw (P : Program) (E : World) (n : Nat) (o : Oper) (st : St) (K : St → Prop) : Prop where
 | intro : (∀ a w, Rel E n st a w → ∀ Q, o.wp P a w (fun a' w' => ∃ st', Rel E n st' a' w' ∧ K st') Q) → VCraw P E n o st K
inductive VCcall (P : Program) (E : World) (f : FuncId) (args : List Value) (st : St) (K : Value → List Blk → List Hp → Prop) : Prop where
 | intro : (∃ fn, P.funcs[f]? = some fn ∧ fn.name ≠ "runtime.NumGoroutine" ∧ fn.body.isSome = true) →
   (∀ w, Sat E st.hall w → Calls P f ⟨args⟩ w (fun e w' => ∃ v bl R, e = .returned v ∧ Sat E (St.mk [] bl R).hall w' ∧ bl.map Blk.id = st.bl.map Blk.id ∧ K v bl R)) →
   VCcall P E f args st K
 | ext : (∀ w, Sat E st.hall w → ∃ v w' bl R, (callFunc f ⟨args⟩).run P w = .ok (.value v) w' ∧ Sat E (St.mk [] bl R).hall w' ∧ bl.map Blk.id = st.bl.map Blk.id ∧ K v bl R) →
   VCcall P E f args st K
inductive VCloop (P : Program) (E : World) (n : Nat) (body : Code) (st : St) (Q : Exit → St → Prop) : Prop where
 | intro : (∀ a w, Rel E n st a w → (Code.loop body).wp P (lift E n Q) a w) → VCloop P E n body st Q
inductive VCdraw (P : Program) (E : World) (n id : Nat) (ops : Array Oper) (st : St) (K : St → Prop) : Prop where
 | intro : (∀ a w, Rel E n st a w → ∀ Q : Exit → St → Prop, (∀ st, K st → Q .normal st) → (Code.region id ops true).wp P (lift E n Q) a w) → VCdraw P E n id ops st K
inductive VCcode (P : Program) (E : World) (n : Nat) (c : Code) (st : St) (Q : Exit → St → Prop) : Prop where
 | intro : (∀ a w, Rel E n st a w → c.wp P (lift E n Q) a w) → VCcode P E n c st Q
def constSV : Value → SV
 | .bool true => .b true
 | .bool false => .b false
 | x => .v x
abbrev Fr := List (Nat × SV)
def cellsK (bl : List Blk) (s : SV) (K : List Value → Prop) : Prop :=
 match s with
 | .v (.agg ⟨cs⟩) => K cs
 | .v x => K [x]
 | .b t => K [.bool t]
 | .p h off => K [.pointer (some ⟨idOf bl h, off, none⟩)]
def pushBlk : List Blk → Blk → List Blk × Nat
 | [], x => ([x], 0)
 | b :: r, x => match pushBlk r x with
  | (r', h) => (b :: r', h + 1)
section
variable (P : Program) (E : World) (Γ : Ty) (n : Nat)
def getK (fr : Fr) (x : Operand) (K : SV → Prop) : Prop :=
 match x with
 | .tmp t => match look fr t with
  | some s => K s
  | none => False
 | .const c => K (constSV c)
 | .global g => K (.v (.pointer (some ⟨g, 0, none⟩)))
 | .func f => K (.v (.func (.func f) #[] #[]))
def putK (fr : Fr) (dst : Option Nat) (s : SV) (K : Fr → Prop) : Prop :=
 match dst with
 | none => K fr
 | some d => match Nat.blt d n with
  | true => K ((d, s) :: fr)
  | false => False
def denK (bl : List Blk) (s : SV) (K : Value → Prop) : Prop :=
 match s with
 | .v x => K x
 | .b t => K (.bool t)
 | .p h off => K (.pointer (some ⟨idOf bl h, off, none⟩))
def getsK (fr : Fr) (bl : List Blk) : List Operand → (List Value → Prop) → Prop
 | [], K => K []
 | x :: r, K => getK fr x fun s => denK bl s fun v => getsK fr bl r fun l => K (v :: l)
def asB : SV → Option Bool
 | .b t => some t
 | .v (.bool t) => some t
 | _ => none
def exIntCmp (op : BinOp) (x y : Int) (K : SV → Prop) (raw : Prop) : Prop :=
 match op with
 | .eql => K (.v (.bool (x == y)))
 | .neq => K (.v (.bool (x != y)))
 | .lss => K (.v (.bool (x < y)))
 | .leq => K (.v (.bool (x ≤ y)))
 | .gtr => K (.v (.bool (x > y)))
 | .geq => K (.v (.bool (x ≥ y)))
 | _ => raw
def exInt (op : BinOp) (k : IntKind) (x y : Int) (K : SV → Prop) (raw : Prop) : Prop :=
 match op with
 | .add => K (.v (.int k (k.wrap (x + y))))
 | .sub => K (.v (.int k (k.wrap (x - y))))
 | .mul => K (.v (.int k (k.wrap (x * y))))
 | .quo => VC (y ≠ 0) (K (.v (.int k (k.wrap (x.tdiv y)))))
 | .rem => VC (y ≠ 0) (K (.v (.int k (x.tmod y))))
 | .and => K (.v (.int k (k.wrap (BitVec.ofInt k.bits x &&& BitVec.ofInt k.bits y).toNat)))
 | .or => K (.v (.int k (k.wrap (BitVec.ofInt k.bits x ||| BitVec.ofInt k.bits y).toNat)))
 | .xor => K (.v (.int k (k.wrap (BitVec.ofInt k.bits x ^^^ BitVec.ofInt k.bits y).toNat)))
 | .andNot => K (.v (.int k (k.wrap (BitVec.ofInt k.bits x &&& ~~~ BitVec.ofInt k.bits y).toNat)))
 | .shl => raw
 | .shr => raw
 | op => exIntCmp op x y K raw
def exShift (op : BinOp) (k : IntKind) (x y : Int) (K : SV → Prop) (raw : Prop) : Prop :=
 match op with
 | .shl => VC (0 ≤ y) (K (.v (.int k (k.wrap (x * 2 ^ (min y.toNat k.bits))))))
 | .shr => VC (0 ≤ y) (K (.v (.int k (x.fdiv (2 ^ (min y.toNat k.bits))))))
 | _ => raw
def exStr (op : BinOp) (x y : ByteArray) (K : SV → Prop) (raw : Prop) : Prop :=
 match op with
 | .add => VC (((x.size + y.size : Nat) : Int) ≤ IntKind.i64.max) (K (.v (.string (x ++ y))))
 | .eql => K (.v (.bool (x.toList == y.toList)))
 | .neq => K (.v (.bool !(x.toList == y.toList)))
 | .lss => K (.v (.bool (Op.bytesLess x.toList y.toList)))
 | .leq => K (.v (.bool (Op.bytesLess x.toList y.toList || x.toList == y.toList)))
 | .gtr => K (.v (.bool !(Op.bytesLess x.toList y.toList || x.toList == y.toList)))
 | .geq => K (.v (.bool !(Op.bytesLess x.toList y.toList)))
 | _ => raw
def exBool (op : BinOp) (x y : Bool) (K : SV → Prop) (raw : Prop) : Prop :=
 match op with
 | .eql => K (.v (.bool (x == y)))
 | .neq => K (.v (.bool !(x == y)))
 | _ => raw
def exNil (op : BinOp) (t : Bool) (K : SV → Prop) (raw : Prop) : Prop :=
 match op with
 | .eql => K (.v (.bool t))
 | .neq => K (.v (.bool !t))
 | _ => raw
def isShift : BinOp → Bool
 | .shl => true
 | .shr => true
 | _ => false
def exBin (op : BinOp) (xt : TypeId) (sx sy : SV) (K : SV → Prop) (raw : Prop) : Prop :=
 match sx with
 | .v (.int k x) => match sy with
  | .v (.int k' y) => match isShift op with
   | true => exShift op k x y K raw
   | false => match decide (k = k') with
    | true => exInt op k x y K raw
    | false => raw
  | _ => raw
 | .v (.string x) => match sy with
  | .v (.string y) => exStr op x y K raw
  | _ => raw
 | .p _ _ => match sy with
  | .v (.pointer none) => match undOf Γ xt with
   | some (.pointer _) => exNil op false K raw
   | _ => raw
  | _ => raw
 | .v (.slice a _ _) => match sy with
  | .v (.slice none _ _) => match undOf Γ xt with
   | some (.slice _) => exNil op a.isNone K raw
   | _ => raw
  | _ => raw
 | .v (.pointer a) => match sy with
  | .v (.pointer none) => match undOf Γ xt with
   | some (.pointer _) => exNil op a.isNone K raw
   | _ => raw
  | _ => raw
 | .v (.map a) => match sy with
  | .v (.map none) => match undOf Γ xt with
   | some (.map _ _) => exNil op a.isNone K raw
   | _ => raw
  | _ => raw
 | sx => match asB sx with
  | none => raw
  | some x => match asB sy with
   | none => raw
   | some y => match undOf Γ xt with
    | some .bool => exBool op x y K raw
    | _ => raw
def exUn (op : UnOp) (sx : SV) (K : SV → Prop) (raw : Prop) : Prop :=
 match op with
 | .neg => match sx with
  | .v (.int k x) => K (.v (.int k (k.wrap (0 - x))))
  | _ => raw
 | .not => match sx with
  | .b true => K (.b false)
  | .b false => K (.b true)
  | .v (.bool t) => K (.v (.bool !t))
  | _ => raw
 | _ => raw
def nthBlk : List Blk → Nat → Option Blk
 | [], _ => none
 | b :: _, 0 => some b
 | _ :: r, i + 1 => nthBlk r i
def setBlk : List Blk → Nat → List Value → Option (List Blk)
 | [], _, _ => none
 | ⟨i, _, t⟩ :: r, 0, cs => some (⟨i, cs, t⟩ :: r)
 | b :: r, i + 1, cs => match setBlk r i cs with
  | some r' => some (b :: r')
  | none => none
def takeAt : List Value → Nat → Nat → Option (List Value)
 | _, 0, 0 => some []
 | c :: r, 0, m + 1 => match takeAt r 0 m with
  | some l => some (c :: l)
  | none => none
 | _ :: r, off + 1, m => takeAt r off m
 | [], _, _ => none
def layAt : List Value → Nat → List Value → Option (List Value)
 | cs, 0, [] => some cs
 | _ :: r, 0, x :: l => match layAt r 0 l with
  | some r' => some (x :: r')
  | none => none
 | c :: r, off + 1, l => match layAt r off l with
  | some r' => some (c :: r')
  | none => none
 | [], _, _ => none
def lenIs : List Value → Nat → Bool
 | [], 0 => true
 | _ :: r, n + 1 => lenIs r n
 | _, _ => false
def allOne : List Value → Bool
 | [] => true
 | .agg _ :: _ => false
 | .tuple _ :: _ => false
 | _ :: r => allOne r
def exLoad (ti : TI) (s : SV) (bl : List Blk) (R : List Hp) (K : SV → Prop) (raw : Prop) : Prop :=
 match s with
 | .p h off => match nthBlk bl h with
  | none => False
  | some b => match b with
   | ⟨_, cs, _⟩ => match ti.agg with
    | true => match takeAt cs off ti.size with
     | none => False
     | some l => K (.v (.agg ⟨l⟩))
    | false => match takeAt cs off 1 with
     | some [c] => K (.v c)
     | _ => False
 | .v (.pointer (some ⟨b, o, none⟩)) => match ti.agg with
  | true => VCload (St.mk [] bl R).hall b o ti.size fun l => K (.v (.agg ⟨l⟩))
  | false => VCload (St.mk [] bl R).hall b o 1 fun l => match l with
   | [c] => K (.v c)
   | _ => False
 | _ => raw
def exStore (ti : TI) (s x : SV) (bl : List Blk) (R : List Hp) (K : List Blk → List Hp → Prop) (raw : Prop) : Prop :=
  cellsK bl x fun xs => match lenIs xs ti.size with
  | false => raw
  | true => match allOne xs with
   | false => raw
   | true => match s with
    | .p h off => match nthBlk bl h with
      | none => False
      | some b => match b with
        | ⟨_, cs, _⟩ => match layAt cs off xs with
          | none => False
          | some cs => match setBlk bl h cs with
            | none => False
            | some bl => K bl R
    | .v (.pointer (some ⟨b, o, none⟩)) => VCstore R b o xs fun R' => K bl R'
    | _ => raw
def nthF : List (Nat × TypeId) → Nat → Option (Nat × TypeId)
 | [], _ => none
 | b :: _, 0 => some b
 | _ :: r, i + 1 => nthF r i
def nthV : List Value → Nat → Option Value
 | [], _ => none
 | b :: _, 0 => some b
 | _ :: r, i + 1 => nthV r i
def fldsOk (Γ : Ty) : List (Nat × TypeId) → Bool
 | [] => true
 | (_, t) :: r => match sizOf Γ t with
  | some _ => fldsOk Γ r
  | none => false
def exBuild (fs : List (Nat × TypeId)) (fr : Fr) (bl : List Blk) : List Value → List (Nat × Operand) → (List Value → Prop) → Prop
 | cs, [], K => K cs
 | cs, (i, x) :: r, K => match nthF fs i with
  | none => False
  | some (off, ft) => match tyOf Γ ft with
   | none => False
   | some ti => getK fr x fun s => cellsK bl s fun xs => match lenIs xs ti.size with
    | false => False
    | true => match layAt cs off xs with
     | none => False
     | some cs' => exBuild fs fr bl cs' r K
def exBuildS (sz : Nat) (fr : Fr) (bl : List Blk) : List Value → List (Nat × Operand) → (List Value → Prop) → Prop
 | cs, [], K => K cs
 | cs, (i, x) :: r, K => getK fr x fun s => cellsK bl s fun xs => match lenIs xs sz with
  | false => False
  | true => match layAt cs (i * sz) xs with
   | none => False
   | some cs' => exBuildS sz fr bl cs' r K
def exLo (fr : Fr) (lo : Option Operand) (h : Nat) (K : Nat → Prop) (raw : Prop) : Prop :=
 match lo with
 | none => K 0
 | some x => getK fr x fun s => match s with
  | .v (.int _ l) => VC (0 ≤ l ∧ l ≤ h) (K l.toNat)
  | _ => raw
def exBounds (fr : Fr) (len cap : Nat) (lo hi : Option Operand) (K : Nat → Nat → Prop) (raw : Prop) : Prop :=
 match hi with
 | none => exLo fr lo len (fun l => K l len) raw
 | some x => getK fr x fun s => match s with
  | .v (.int _ h) => VC (0 ≤ h ∧ h ≤ cap) (exLo fr lo h.toNat (fun l => K l h.toNat) raw)
  | _ => raw
def subBase (cap l : Nat) (a : Option Addr) (sz : Nat) : Option Addr :=
 match l with
 | 0 => a
 | l + 1 => if cap = l + 1 then a else a.map (·.add ((l + 1) * sz))
theorem subBase_eq (cap l : Nat) (a : Option Addr) (sz : Nat) : subBase cap l a sz = (if cap = l then a else a.map (·.add (l * sz))) := by
 cases l with
 | zero => cases a <;> simp [subBase, Addr.add]
 | succ l => rfl
def exBounds3 (fr : Fr) (cap : Nat) (lo : Option Operand) (hi mx : Operand) (K : Nat → Nat → Nat → Prop) (raw : Prop) : Prop :=
 getK fr mx fun sm => match sm with
  | .v (.int _ m) => VC (0 ≤ m ∧ m ≤ cap) (getK fr hi fun s => match s with
   | .v (.int _ h) => VC (0 ≤ h ∧ h ≤ m.toNat) (exLo fr lo h.toNat (fun l => K l h.toNat m.toNat) raw)
   | _ => raw)
  | _ => raw
def exP (op : Op) (fr : Fr) (bl : List Blk) (R : List Hp) (K : SV → Prop) (raw : Prop) : Prop :=
  match op with
  | .move x => getK fr x K
  | .assign x => getK fr x K
  | .nilCheck x => getK fr x fun s => match s with
    | .p h o => K (.p h o)
    | .v (.pointer (some a)) => K (.v (.pointer (some a)))
    | .v (.func (.func f) fs cs) => K (.v (.func (.func f) fs cs))
    | _ => raw
  | .makeFunc (.func f) ⟨first⟩ ⟨caps⟩ => getsK fr bl first fun a => getsK fr bl caps fun b => K (.v (.func (.func f) ⟨a⟩ ⟨b⟩))
  | .pick c a b => getK fr c fun s => match s with
    | .b true => getK fr a K
    | .b false => getK fr b K
    | .v (.bool t) => VCsplit t (getK fr a K) (getK fr b K)
    | _ => raw
  | .binOp op xt x y _ => getK fr x fun sx => getK fr y fun sy => exBin Γ op xt sx sy K raw
  | .unOp op _ x => getK fr x fun sx => exUn op sx K raw
  | .load t x => match tyOf Γ t with
    | none => False
    | some ti => getK fr x fun s => exLoad ti s bl R K raw
  | .fieldAddr t x f => match undOf Γ t with
    | some (.struct fs) => match nthF fs f with
      | none => False
      | some fd => match fd with
        | (off, ft) => match sizOf Γ ft with
          | none => False
          | some 0 => False
          | some (_ + 1) => getK fr x fun s => match s with
            | .p h o => K (.p h (o + off))
            | .v (.pointer (some ⟨b, o, none⟩)) => K (.v (.pointer (some ⟨b, o + off, none⟩)))
            | _ => raw
    | _ => False
  | .build t ⟨parts⟩ => match tyOf Γ t with
    | none => False
    | some ti => match ti with
      | ⟨und, _, _, z⟩ => match und with
        | .struct fs => match fldsOk Γ fs with
         | false => False
         | true => cellsK [] (.v z) fun cs => exBuild Γ fs fr bl cs parts fun cs => K (.v (.agg ⟨cs⟩))
        | _ => raw
  | .extract x i => getK fr x fun s => match s with
    | .v (.tuple ⟨vs⟩) => match nthV vs i with
      | some v => K (.v v)
      | none => False
    | _ => raw
  | .field t x f => match undOf Γ t with
    | some (.struct fs) => match nthF fs f with
      | none => False
      | some fd => match fd with
        | (off, ft) => match tyOf Γ ft with
          | none => False
          | some ti => getK fr x fun s => match s with
            | .v (.agg ⟨cs⟩) => match ti.agg with
              | true => match takeAt cs off ti.size with
                | some l => K (.v (.agg ⟨l⟩))
                | none => False
              | false => match takeAt cs off 1 with
                | some [c] => K (.v c)
                | _ => False
            | _ => raw
    | _ => False
  | .convert t u x => match undOf Γ t with
    | some (.int _) => match undOf Γ u with
      | some (.int k) => getK fr x fun s => match s with
        | .v (.int _ m) => K (.v (.int k (k.wrap m)))
        | _ => raw
      | _ => raw
    | _ => raw
  | .indexAddr t x ix => match undOf Γ t with
    | some (.slice elem) => match sizOf Γ elem with
      | none => False
      | some sz => getK fr x fun s => getK fr ix fun si => match s with
        | .v (.slice base len _) => match si with
          | .v (.int _ i) => VCidx base len i fun b off => K (.v (.pointer (some ⟨b, off + i.toNat * sz, none⟩)))
          | _ => raw
        | _ => raw
    | _ => raw
  | .index t x ix => match undOf Γ t with
    | some .string => getK fr x fun s => getK fr ix fun si => match s with
        | .v (.string bs) => match si with
          | .v (.int _ i) => VC (0 ≤ i ∧ i < bs.size) (K (.v (.int .u8 ((bs[i.toNat]?).getD 0).toNat)))
          | _ => raw
        | _ => raw
    | _ => raw
  | .slice t x lo hi none => match undOf Γ t with
    | some .string => getK fr x fun s => match s with
      | .v (.string bs) => exBounds fr bs.size bs.size lo hi (fun l h => K (.v (.string (bs.extract l h)))) raw
      | _ => raw
    | some (.slice elem) => match sizOf Γ elem with
      | none => False
      | some sz => getK fr x fun s => match s with
        | .v (.slice a len cap) => exBounds fr len cap lo hi (fun l h => K (.v (.slice (subBase cap l a sz) (h - l) (cap - l)))) raw
        | _ => raw
    | _ => raw
  | .slice t x lo (some hi) (some mx) => match undOf Γ t with
    | some (.slice elem) => match sizOf Γ elem with
      | none => False
      | some sz => getK fr x fun s => match s with
        | .v (.slice a _ cap) => exBounds3 fr cap lo hi mx (fun l h m => K (.v (.slice (subBase m l a sz) (h - l) (m - l)))) raw
        | _ => raw
    | _ => raw
  | .call ⟨callee, ⟨args⟩, ⟨tys⟩⟩ => match callee with
    | .builtin .len => match args with
      | [x] => match tys with
        | [t] => match undOf Γ t with
          | some .string => getK fr x fun s => match s with
            | .v (.string bs) => K (.v (.int .i64 bs.size))
            | _ => raw
          | some (.slice _) => getK fr x fun s => match s with
            | .v (.slice _ m _) => K (.v (.int .i64 m))
            | _ => raw
          | _ => raw
        | _ => False
      | _ => False
    | .builtin .max => match args with
      | [x, y] => getK fr x fun s => getK fr y fun s' => match s with
        | .v (.int k i) => match s' with
          | .v (.int _ j) => K (.v (.int k (if j > i then j else i)))
          | _ => raw
        | _ => raw
      | _ => raw
    | .builtin .min => match args with
      | [x, y] => getK fr x fun s => getK fr y fun s' => match s with
        | .v (.int k i) => match s' with
          | .v (.int _ j) => K (.v (.int k (if j < i then j else i)))
          | _ => raw
        | _ => raw
      | _ => raw
    | .builtin .cap => match args with
      | [x] => match tys with
        | [t] => match undOf Γ t with
          | some (.slice _) => getK fr x fun s => match s with
            | .v (.slice _ _ c) => K (.v (.int .i64 c))
            | _ => raw
          | _ => raw
        | _ => False
      | _ => False
    | _ => raw
  | _ => raw
def exOp (o : Oper) (fr : Fr) (bl : List Blk) (R : List Hp) (K : St → Prop) : Prop :=
 match o with
 | ⟨dst, op, _, _, _, _⟩ =>
 match op with
 | .box t x => getK fr x fun s => cellsK bl s fun cs => VCnew fun b => match pushBlk bl ⟨b, cs, t⟩ with
  | (bl', h) => putK n fr dst (.p h 0) fun fr => K ⟨fr, bl', R⟩
 | .alloc t => match tyOf Γ t with
  | none => False
  | some ti => match ti with
   | ⟨_, _, _, z⟩ => cellsK [] (.v z) fun cs => VCnew fun b => match pushBlk bl ⟨b, cs, t⟩ with
    | (bl', h) => putK n fr dst (.p h 0) fun fr => K ⟨fr, bl', R⟩
 | .store t x y => match tyOf Γ t with
  | none => False
  | some ti => match dst with
   | some _ => False
   | none => getK fr x fun s => getK fr y fun s' => exStore ti s s' bl R (fun bl R => K ⟨fr, bl, R⟩) (VCraw P E n o ⟨fr, bl, R⟩ K)
 | .buildSlice t len ⟨parts⟩ => match undOf Γ t with
  | some (.slice e) => match tyOf Γ e with
   | none => False
   | some ti => match ti with
    | ⟨_, sz, _, z⟩ => match Nat.ble (len * sz) 16777216 with
     | false => False
     | true => cellsK [] (.v z) fun zc => match lenIs zc sz with
      | false => False
      | true => exBuildS sz fr bl (zeros len zc) parts fun cs => VCnew fun b => putK n fr dst (.v (.slice (some ⟨b, 0, none⟩) len len)) fun fr => K ⟨fr, bl, [(b, Obj.cells ⟨cs⟩ e)] :: R⟩
  | _ => VCraw P E n o ⟨fr, bl, R⟩ K
 | .makeSlice t l c => match undOf Γ t with
  | some (.slice e) => match tyOf Γ e with
   | none => False
   | some ti => match ti with
    | ⟨_, sz, by_, z⟩ => cellsK [] (.v z) fun zc => match lenIs zc sz with
     | false => False
     | true => getK fr l fun sl => getK fr c fun sc => match sl with
      | .v (.int _ m) => match sc with
       | .v (.int _ m') => VCmake m m' by_ fun b => putK n fr dst (.v (.slice (some ⟨b, 0, none⟩) m.toNat m'.toNat)) fun fr => K ⟨fr, bl, [(b, Obj.cells ⟨zeros m'.toNat zc⟩ e)] :: R⟩
       | _ => VCraw P E n o ⟨fr, bl, R⟩ K
      | _ => VCraw P E n o ⟨fr, bl, R⟩ K
  | _ => VCraw P E n o ⟨fr, bl, R⟩ K
 | .call ⟨.value (.func f), ⟨args⟩, _⟩ => getsK fr bl args fun vs => VCcall P E f vs ⟨[], bl, R⟩ fun v bl R => putK n fr dst (.v v) fun fr => K ⟨fr, bl, R⟩
 | .call ⟨.value (.tmp t), ⟨args⟩, _⟩ => getK fr (.tmp t) fun s => match s with
  | .v (.func (.func f) ⟨fs⟩ ⟨cs⟩) => getsK fr bl args fun vs => VCcall P E f (fs ++ vs ++ cs) ⟨[], bl, R⟩ fun v bl R => putK n fr dst (.v v) fun fr => K ⟨fr, bl, R⟩
  | _ => VCraw P E n o ⟨fr, bl, R⟩ K
 | op => exP Γ op fr bl R (fun s => putK n fr dst s fun fr => K ⟨fr, bl, R⟩) (VCraw P E n o ⟨fr, bl, R⟩ K)
def guardSlotL : List Oper → Nat → Option Nat
 | [], _ => none
 | o :: _, 0 => o.dst
 | _ :: r, i + 1 => guardSlotL r i
def exOps (ops : List Oper) : List Oper → St → (St → Prop) → Prop
 | [], st, K => K st
 | o :: rest, st, K => match st with
  | ⟨fr, bl, R⟩ => match o.guard with
   | none => exOp P E Γ n o fr bl R fun st => exOps ops rest st K
   | some (j, want) => match guardSlotL ops j with
    | none => False
    | some d => match look fr d with
     | some (.b t) => match decide (t = want) with
      | true => exOp P E Γ n o fr bl R fun st => exOps ops rest st K
      | false => putK n fr o.dst (.v undef) fun fr => exOps ops rest ⟨fr, bl, R⟩ K
     | some (.v (.bool t)) => VCsplit t
       (match want with
        | true => exOp P E Γ n o ((d, .b true) :: fr) bl R fun st => exOps ops rest st K
        | false => putK n ((d, .b true) :: fr) o.dst (.v undef) fun fr => exOps ops rest ⟨fr, bl, R⟩ K)
       (match want with
        | true => putK n ((d, .b false) :: fr) o.dst (.v undef) fun fr => exOps ops rest ⟨fr, bl, R⟩ K
        | false => exOp P E Γ n o ((d, .b false) :: fr) bl R fun st => exOps ops rest st K)
     | some (.v (.tuple ⟨[]⟩)) => putK n fr o.dst (.v undef) fun fr => exOps ops rest ⟨fr, bl, R⟩ K
     | _ => False
def thenQ (next : St → Prop) (Q : Exit → St → Prop) (e : Exit) (st : St) : Prop :=
 match e with
 | .normal => next st
 | e => Q e st
def blockQ (id : Nat) (Q : Exit → St → Prop) (e : Exit) (st : St) : Prop :=
 match e with
 | .exit id' => match Nat.beq id' id with
  | true => Q .normal st
  | false => Q (.exit id') st
 | e => Q e st
def know (fr : Fr) (c : Operand) (t : Bool) : Fr :=
 match c with
 | .tmp d => (d, .b t) :: fr
 | _ => fr
def exC : Code → St → (Exit → St → Prop) → Prop
 | .skip, st, Q => Q .normal st
 | .region id ops draw, st, Q => match draw with
  | false => match ops with
   | ⟨l⟩ => exOps P E Γ n l l st (Q .normal)
  | true => VCdraw P E n id ops st (Q .normal)
 | .seq a b, st, Q => exC a st (thenQ (fun st => exC b st Q) Q)
 | .cond c a b, st, Q => match st with
  | ⟨fr, bl, R⟩ => getK fr c fun s => match s with
   | .b true => exC a ⟨fr, bl, R⟩ Q
   | .b false => exC b ⟨fr, bl, R⟩ Q
   | .v (.bool t) => VCsplit t (exC a ⟨know fr c true, bl, R⟩ Q) (exC b ⟨know fr c false, bl, R⟩ Q)
   | _ => False
 | .block id b, st, Q => exC b st (blockQ id Q)
 | .loop b, st, Q => VCloop P E n b st Q
 | .exit id, st, Q => Q (.exit id) st
 | .ret, st, Q => Q .ret st
 | c, st, Q => VCcode P E n c st Q
end
end Go.SX
namespace Go.Proofs.YtcnclhjhnjpeiaaGreatDoor
open Go.SX Go.Proofs
open Tryz
section
def ty3 : TI := ⟨.int .i64, 1, 8, .int .i64 0⟩
theorem ty3_ok : ty3.ok prog 3 := ⟨underlying3, by kernel_rfl⟩
def ty4 : TI := ⟨.bool, 1, 1, .bool false⟩
theorem ty4_ok : ty4.ok prog 4 := ⟨underlying4, by kernel_rfl⟩
def ty9 : TI := ⟨.string, 1, 16, .string .empty⟩
theorem ty9_ok : ty9.ok prog 9 := ⟨underlying9, by kernel_rfl⟩
def ty5 : TI := ⟨.int .u8, 1, 1, .int .u8 0⟩
theorem ty5_ok : ty5.ok prog 5 := ⟨underlying5, by kernel_rfl⟩
def ty28 : TI := ⟨.slice 3, 1, 24, .slice none 0 0⟩
theorem ty28_ok : ty28.ok prog 28 := ⟨underlying28, by kernel_rfl⟩
def ty2 : TI := ⟨.int .i64, 1, 8, .int .i64 0⟩
theorem ty2_ok : ty2.ok prog 2 := ⟨underlying2, by kernel_rfl⟩
def ty12 : TI := ⟨.int .u64, 1, 8, .int .u64 0⟩
theorem ty12_ok : ty12.ok prog 12 := ⟨underlying12, by kernel_rfl⟩
def ty13 : TI := ⟨.struct [(0, 9), (1, 12)], 2, 24, .agg #[.string .empty, .int .u64 0]⟩
theorem ty13_ok : ty13.ok prog 13 := ⟨⟨_, underlying13, by kernel_rfl⟩, by kernel_rfl⟩
def ty21 : TI := ⟨.int .i32, 1, 4, .int .i32 0⟩
theorem ty21_ok : ty21.ok prog 21 := ⟨underlying21, by kernel_rfl⟩
def ty22 : TI := ⟨.slice 9, 1, 24, .slice none 0 0⟩
theorem ty22_ok : ty22.ok prog 22 := ⟨underlying22, by kernel_rfl⟩
def ty23 : TI := ⟨.slice 149, 1, 24, .slice none 0 0⟩
theorem ty23_ok : ty23.ok prog 23 := ⟨underlying23, by kernel_rfl⟩
def ty24 : TI := ⟨.slice 152, 1, 24, .slice none 0 0⟩
theorem ty24_ok : ty24.ok prog 24 := ⟨underlying24, by kernel_rfl⟩
def ty25 : TI := ⟨.struct [(0, 4), (1, 22), (2, 23), (3, 24)], 4, 80, .agg #[.bool false, .slice none 0 0, .slice none 0 0, .slice none 0 0]⟩
theorem ty25_ok : ty25.ok prog 25 := ⟨⟨_, underlying25, by kernel_rfl⟩, by kernel_rfl⟩
def ty26 : TI := ⟨.struct [(0, 4), (1, 22), (2, 23), (3, 24)], 4, 80, .agg #[.bool false, .slice none 0 0, .slice none 0 0, .slice none 0 0]⟩
theorem ty26_ok : ty26.ok prog 26 := ⟨⟨_, underlying26, by kernel_rfl⟩, by kernel_rfl⟩
def ty27 : TI := ⟨.slice 129, 1, 24, .slice none 0 0⟩
theorem ty27_ok : ty27.ok prog 27 := ⟨underlying27, by kernel_rfl⟩
def ty29 : TI := ⟨.slice 63, 1, 24, .slice none 0 0⟩
theorem ty29_ok : ty29.ok prog 29 := ⟨underlying29, by kernel_rfl⟩
def ty30 : TI := ⟨.struct [(0, 26), (4, 27), (5, 22), (6, 28), (7, 29)], 8, 176, .agg #[.bool false, .slice none 0 0, .slice none 0 0, .slice none 0 0, .slice none 0 0, .slice none 0 0, .slice none 0 0, .slice none 0 0]⟩
theorem ty30_ok : ty30.ok prog 30 := ⟨⟨_, underlying30, by kernel_rfl⟩, by kernel_rfl⟩
def ty31 : TI := ⟨.struct [(0, 26), (4, 27), (5, 22), (6, 28), (7, 29)], 8, 176, .agg #[.bool false, .slice none 0 0, .slice none 0 0, .slice none 0 0, .slice none 0 0, .slice none 0 0, .slice none 0 0, .slice none 0 0]⟩
theorem ty31_ok : ty31.ok prog 31 := ⟨⟨_, underlying31, by kernel_rfl⟩, by kernel_rfl⟩
def ty34 : TI := ⟨.slice 154, 1, 24, .slice none 0 0⟩
theorem ty34_ok : ty34.ok prog 34 := ⟨underlying34, by kernel_rfl⟩
def ty35 : TI := ⟨.slice 157, 1, 24, .slice none 0 0⟩
theorem ty35_ok : ty35.ok prog 35 := ⟨underlying35, by kernel_rfl⟩
def ty36 : TI := ⟨.struct [(0, 4), (1, 22), (2, 34), (3, 35)], 4, 80, .agg #[.bool false, .slice none 0 0, .slice none 0 0, .slice none 0 0]⟩
theorem ty36_ok : ty36.ok prog 36 := ⟨⟨_, underlying36, by kernel_rfl⟩, by kernel_rfl⟩
def ty37 : TI := ⟨.struct [(0, 4), (1, 22), (2, 34), (3, 35)], 4, 80, .agg #[.bool false, .slice none 0 0, .slice none 0 0, .slice none 0 0]⟩
theorem ty37_ok : ty37.ok prog 37 := ⟨⟨_, underlying37, by kernel_rfl⟩, by kernel_rfl⟩
def ty38 : TI := ⟨.slice 144, 1, 24, .slice none 0 0⟩
theorem ty38_ok : ty38.ok prog 38 := ⟨underlying38, by kernel_rfl⟩
def ty39 : TI := ⟨.slice 49, 1, 24, .slice none 0 0⟩
theorem ty39_ok : ty39.ok prog 39 := ⟨underlying39, by kernel_rfl⟩
def ty40 : TI := ⟨.struct [(0, 37), (4, 38), (5, 22), (6, 28), (7, 39)], 8, 176, .agg #[.bool false, .slice none 0 0, .slice none 0 0, .slice none 0 0, .slice none 0 0, .slice none 0 0, .slice none 0 0, .slice none 0 0]⟩
theorem ty40_ok : ty40.ok prog 40 := ⟨⟨_, underlying40, by kernel_rfl⟩, by kernel_rfl⟩
def ty41 : TI := ⟨.struct [(0, 37), (4, 38), (5, 22), (6, 28), (7, 39)], 8, 176, .agg #[.bool false, .slice none 0 0, .slice none 0 0, .slice none 0 0, .slice none 0 0, .slice none 0 0, .slice none 0 0, .slice none 0 0]⟩
theorem ty41_ok : ty41.ok prog 41 := ⟨⟨_, underlying41, by kernel_rfl⟩, by kernel_rfl⟩
def ty46 : TI := ⟨.slice 171, 1, 24, .slice none 0 0⟩
theorem ty46_ok : ty46.ok prog 46 := ⟨underlying46, by kernel_rfl⟩
def ty47 : TI := ⟨.slice 134, 1, 24, .slice none 0 0⟩
theorem ty47_ok : ty47.ok prog 47 := ⟨underlying47, by kernel_rfl⟩
def ty48 : TI := ⟨.struct [(0, 47)], 1, 24, .agg #[.slice none 0 0]⟩
theorem ty48_ok : ty48.ok prog 48 := ⟨⟨_, underlying48, by kernel_rfl⟩, by kernel_rfl⟩
def ty49 : TI := ⟨.struct [(0, 47)], 1, 24, .agg #[.slice none 0 0]⟩
theorem ty49_ok : ty49.ok prog 49 := ⟨⟨_, underlying49, by kernel_rfl⟩, by kernel_rfl⟩
def ty50 : TI := ⟨.struct [(0, 4), (1, 37), (5, 28), (6, 3), (7, 46), (8, 4), (9, 49)], 10, 176, .agg #[.bool false, .bool false, .slice none 0 0, .slice none 0 0, .slice none 0 0, .slice none 0 0, .int .i64 0, .slice none 0 0, .bool false, .slice none 0 0]⟩
theorem ty50_ok : ty50.ok prog 50 := ⟨⟨_, underlying50, by kernel_rfl⟩, by kernel_rfl⟩
def ty51 : TI := ⟨.struct [(0, 4), (1, 37), (5, 28), (6, 3), (7, 46), (8, 4), (9, 49)], 10, 176, .agg #[.bool false, .bool false, .slice none 0 0, .slice none 0 0, .slice none 0 0, .slice none 0 0, .int .i64 0, .slice none 0 0, .bool false, .slice none 0 0]⟩
theorem ty51_ok : ty51.ok prog 51 := ⟨⟨_, underlying51, by kernel_rfl⟩, by kernel_rfl⟩
def ty60 : TI := ⟨.slice 178, 1, 24, .slice none 0 0⟩
theorem ty60_ok : ty60.ok prog 60 := ⟨underlying60, by kernel_rfl⟩
def ty61 : TI := ⟨.slice 221, 1, 24, .slice none 0 0⟩
theorem ty61_ok : ty61.ok prog 61 := ⟨underlying61, by kernel_rfl⟩
def ty62 : TI := ⟨.struct [(0, 61)], 1, 24, .agg #[.slice none 0 0]⟩
theorem ty62_ok : ty62.ok prog 62 := ⟨⟨_, underlying62, by kernel_rfl⟩, by kernel_rfl⟩
def ty63 : TI := ⟨.struct [(0, 61)], 1, 24, .agg #[.slice none 0 0]⟩
theorem ty63_ok : ty63.ok prog 63 := ⟨⟨_, underlying63, by kernel_rfl⟩, by kernel_rfl⟩
def ty64 : TI := ⟨.struct [(0, 4), (1, 26), (5, 28), (6, 3), (7, 60), (8, 4), (9, 63)], 10, 176, .agg #[.bool false, .bool false, .slice none 0 0, .slice none 0 0, .slice none 0 0, .slice none 0 0, .int .i64 0, .slice none 0 0, .bool false, .slice none 0 0]⟩
theorem ty64_ok : ty64.ok prog 64 := ⟨⟨_, underlying64, by kernel_rfl⟩, by kernel_rfl⟩
def ty65 : TI := ⟨.struct [(0, 4), (1, 26), (5, 28), (6, 3), (7, 60), (8, 4), (9, 63)], 10, 176, .agg #[.bool false, .bool false, .slice none 0 0, .slice none 0 0, .slice none 0 0, .slice none 0 0, .int .i64 0, .slice none 0 0, .bool false, .slice none 0 0]⟩
theorem ty65_ok : ty65.ok prog 65 := ⟨⟨_, underlying65, by kernel_rfl⟩, by kernel_rfl⟩
def ty67 : TI := ⟨.slice 112, 1, 24, .slice none 0 0⟩
theorem ty67_ok : ty67.ok prog 67 := ⟨underlying67, by kernel_rfl⟩
def ty108 : TI := ⟨.slice 184, 1, 24, .slice none 0 0⟩
theorem ty108_ok : ty108.ok prog 108 := ⟨underlying108, by kernel_rfl⟩
def ty109 : TI := ⟨.struct [(0, 3), (1, 3), (2, 3), (3, 4), (4, 108), (5, 9)], 6, 72, .agg #[.int .i64 0, .int .i64 0, .int .i64 0, .bool false, .slice none 0 0, .string .empty]⟩
theorem ty109_ok : ty109.ok prog 109 := ⟨⟨_, underlying109, by kernel_rfl⟩, by kernel_rfl⟩
def ty110 : TI := ⟨.struct [(0, 3), (1, 3), (2, 3), (3, 4), (4, 108), (5, 9)], 6, 72, .agg #[.int .i64 0, .int .i64 0, .int .i64 0, .bool false, .slice none 0 0, .string .empty]⟩
theorem ty110_ok : ty110.ok prog 110 := ⟨⟨_, underlying110, by kernel_rfl⟩, by kernel_rfl⟩
def ty111 : TI := ⟨.struct [(0, 3), (1, 110)], 7, 80, .agg #[.int .i64 0, .int .i64 0, .int .i64 0, .int .i64 0, .bool false, .slice none 0 0, .string .empty]⟩
theorem ty111_ok : ty111.ok prog 111 := ⟨⟨_, underlying111, by kernel_rfl⟩, by kernel_rfl⟩
def ty112 : TI := ⟨.struct [(0, 3), (1, 110)], 7, 80, .agg #[.int .i64 0, .int .i64 0, .int .i64 0, .int .i64 0, .bool false, .slice none 0 0, .string .empty]⟩
theorem ty112_ok : ty112.ok prog 112 := ⟨⟨_, underlying112, by kernel_rfl⟩, by kernel_rfl⟩
def ty118 : TI := ⟨.slice 261, 1, 24, .slice none 0 0⟩
theorem ty118_ok : ty118.ok prog 118 := ⟨underlying118, by kernel_rfl⟩
def ty119 : TI := ⟨.struct [(0, 118)], 1, 24, .agg #[.slice none 0 0]⟩
theorem ty119_ok : ty119.ok prog 119 := ⟨⟨_, underlying119, by kernel_rfl⟩, by kernel_rfl⟩
def ty120 : TI := ⟨.struct [(0, 118)], 1, 24, .agg #[.slice none 0 0]⟩
theorem ty120_ok : ty120.ok prog 120 := ⟨⟨_, underlying120, by kernel_rfl⟩, by kernel_rfl⟩
def ty121 : TI := ⟨.slice 227, 1, 24, .slice none 0 0⟩
theorem ty121_ok : ty121.ok prog 121 := ⟨underlying121, by kernel_rfl⟩
def ty122 : TI := ⟨.slice 270, 1, 24, .slice none 0 0⟩
theorem ty122_ok : ty122.ok prog 122 := ⟨underlying122, by kernel_rfl⟩
def ty123 : TI := ⟨.struct [(0, 26), (4, 28), (5, 3), (6, 3), (7, 60)], 8, 144, .agg #[.bool false, .slice none 0 0, .slice none 0 0, .slice none 0 0, .slice none 0 0, .int .i64 0, .int .i64 0, .slice none 0 0]⟩
theorem ty123_ok : ty123.ok prog 123 := ⟨⟨_, underlying123, by kernel_rfl⟩, by kernel_rfl⟩
def ty124 : TI := ⟨.struct [(0, 26), (4, 28), (5, 3), (6, 3), (7, 60)], 8, 144, .agg #[.bool false, .slice none 0 0, .slice none 0 0, .slice none 0 0, .slice none 0 0, .int .i64 0, .int .i64 0, .slice none 0 0]⟩
theorem ty124_ok : ty124.ok prog 124 := ⟨⟨_, underlying124, by kernel_rfl⟩, by kernel_rfl⟩
def ty125 : TI := ⟨.slice 266, 1, 24, .slice none 0 0⟩
theorem ty125_ok : ty125.ok prog 125 := ⟨underlying125, by kernel_rfl⟩
def ty126 : TI := ⟨.struct [(0, 4), (1, 26), (5, 28), (6, 3), (7, 122), (8, 3), (9, 4), (10, 4), (11, 3), (12, 4), (13, 4), (14, 124), (22, 4), (23, 125)], 24, 352, .agg #[.bool false, .bool false, .slice none 0 0, .slice none 0 0, .slice none 0 0, .slice none 0 0, .int .i64 0, .slice none 0 0, .int .i64 0, .bool false, .bool false, .int .i64 0, .bool false, .bool false, .bool false, .slice none 0 0, .slice none 0 0, .slice none 0 0, .slice none 0 0, .int .i64 0, .int .i64 0, .slice none 0 0, .bool false, .slice none 0 0]⟩
theorem ty126_ok : ty126.ok prog 126 := ⟨⟨_, underlying126, by kernel_rfl⟩, by kernel_rfl⟩
def ty127 : TI := ⟨.struct [(0, 4), (1, 26), (5, 28), (6, 3), (7, 122), (8, 3), (9, 4), (10, 4), (11, 3), (12, 4), (13, 4), (14, 124), (22, 4), (23, 125)], 24, 352, .agg #[.bool false, .bool false, .slice none 0 0, .slice none 0 0, .slice none 0 0, .slice none 0 0, .int .i64 0, .slice none 0 0, .int .i64 0, .bool false, .bool false, .int .i64 0, .bool false, .bool false, .bool false, .slice none 0 0, .slice none 0 0, .slice none 0 0, .slice none 0 0, .int .i64 0, .int .i64 0, .slice none 0 0, .bool false, .slice none 0 0]⟩
theorem ty127_ok : ty127.ok prog 127 := ⟨⟨_, underlying127, by kernel_rfl⟩, by kernel_rfl⟩
def ty128 : TI := ⟨.struct [(0, 3), (1, 4), (2, 120), (3, 3), (4, 4), (5, 121), (6, 127), (30, 65)], 40, 608, .agg #[.int .i64 0, .bool false, .slice none 0 0, .int .i64 0, .bool false, .slice none 0 0, .bool false, .bool false, .slice none 0 0, .slice none 0 0, .slice none 0 0, .slice none 0 0, .int .i64 0, .slice none 0 0, .int .i64 0, .bool false, .bool false, .int .i64 0, .bool false, .bool false, .bool false, .slice none 0 0, .slice none 0 0, .slice none 0 0, .slice none 0 0, .int .i64 0, .int .i64 0, .slice none 0 0, .bool false, .slice none 0 0, .bool false, .bool false, .slice none 0 0, .slice none 0 0, .slice none 0 0, .slice none 0 0, .int .i64 0, .slice none 0 0, .bool false, .slice none 0 0]⟩
theorem ty128_ok : ty128.ok prog 128 := ⟨⟨_, underlying128, by kernel_rfl⟩, by kernel_rfl⟩
def ty129 : TI := ⟨.struct [(0, 3), (1, 4), (2, 120), (3, 3), (4, 4), (5, 121), (6, 127), (30, 65)], 40, 608, .agg #[.int .i64 0, .bool false, .slice none 0 0, .int .i64 0, .bool false, .slice none 0 0, .bool false, .bool false, .slice none 0 0, .slice none 0 0, .slice none 0 0, .slice none 0 0, .int .i64 0, .slice none 0 0, .int .i64 0, .bool false, .bool false, .int .i64 0, .bool false, .bool false, .bool false, .slice none 0 0, .slice none 0 0, .slice none 0 0, .slice none 0 0, .int .i64 0, .int .i64 0, .slice none 0 0, .bool false, .slice none 0 0, .bool false, .bool false, .slice none 0 0, .slice none 0 0, .slice none 0 0, .slice none 0 0, .int .i64 0, .slice none 0 0, .bool false, .slice none 0 0]⟩
theorem ty129_ok : ty129.ok prog 129 := ⟨⟨_, underlying129, by kernel_rfl⟩, by kernel_rfl⟩
def ty131 : TI := ⟨.slice 5, 1, 24, .slice none 0 0⟩
theorem ty131_ok : ty131.ok prog 131 := ⟨underlying131, by kernel_rfl⟩
def ty133 : TI := ⟨.struct [(0, 28), (1, 3)], 2, 32, .agg #[.slice none 0 0, .int .i64 0]⟩
theorem ty133_ok : ty133.ok prog 133 := ⟨⟨_, underlying133, by kernel_rfl⟩, by kernel_rfl⟩
def ty134 : TI := ⟨.struct [(0, 28), (1, 3)], 2, 32, .agg #[.slice none 0 0, .int .i64 0]⟩
theorem ty134_ok : ty134.ok prog 134 := ⟨⟨_, underlying134, by kernel_rfl⟩, by kernel_rfl⟩
def ty135 : TI := ⟨.slice 267, 1, 24, .slice none 0 0⟩
theorem ty135_ok : ty135.ok prog 135 := ⟨underlying135, by kernel_rfl⟩
def ty136 : TI := ⟨.struct [(0, 135)], 1, 24, .agg #[.slice none 0 0]⟩
theorem ty136_ok : ty136.ok prog 136 := ⟨⟨_, underlying136, by kernel_rfl⟩, by kernel_rfl⟩
def ty137 : TI := ⟨.struct [(0, 135)], 1, 24, .agg #[.slice none 0 0]⟩
theorem ty137_ok : ty137.ok prog 137 := ⟨⟨_, underlying137, by kernel_rfl⟩, by kernel_rfl⟩
def ty138 : TI := ⟨.slice 232, 1, 24, .slice none 0 0⟩
theorem ty138_ok : ty138.ok prog 138 := ⟨underlying138, by kernel_rfl⟩
def ty139 : TI := ⟨.struct [(0, 37), (4, 28), (5, 3), (6, 3), (7, 46)], 8, 144, .agg #[.bool false, .slice none 0 0, .slice none 0 0, .slice none 0 0, .slice none 0 0, .int .i64 0, .int .i64 0, .slice none 0 0]⟩
theorem ty139_ok : ty139.ok prog 139 := ⟨⟨_, underlying139, by kernel_rfl⟩, by kernel_rfl⟩
def ty140 : TI := ⟨.struct [(0, 37), (4, 28), (5, 3), (6, 3), (7, 46)], 8, 144, .agg #[.bool false, .slice none 0 0, .slice none 0 0, .slice none 0 0, .slice none 0 0, .int .i64 0, .int .i64 0, .slice none 0 0]⟩
theorem ty140_ok : ty140.ok prog 140 := ⟨⟨_, underlying140, by kernel_rfl⟩, by kernel_rfl⟩
def ty141 : TI := ⟨.struct [(0, 4), (1, 37), (5, 28), (6, 3), (7, 108), (8, 3), (9, 4), (10, 4), (11, 3), (12, 4), (13, 4), (14, 140), (22, 4), (23, 67)], 24, 352, .agg #[.bool false, .bool false, .slice none 0 0, .slice none 0 0, .slice none 0 0, .slice none 0 0, .int .i64 0, .slice none 0 0, .int .i64 0, .bool false, .bool false, .int .i64 0, .bool false, .bool false, .bool false, .slice none 0 0, .slice none 0 0, .slice none 0 0, .slice none 0 0, .int .i64 0, .int .i64 0, .slice none 0 0, .bool false, .slice none 0 0]⟩
theorem ty141_ok : ty141.ok prog 141 := ⟨⟨_, underlying141, by kernel_rfl⟩, by kernel_rfl⟩
def ty142 : TI := ⟨.struct [(0, 4), (1, 37), (5, 28), (6, 3), (7, 108), (8, 3), (9, 4), (10, 4), (11, 3), (12, 4), (13, 4), (14, 140), (22, 4), (23, 67)], 24, 352, .agg #[.bool false, .bool false, .slice none 0 0, .slice none 0 0, .slice none 0 0, .slice none 0 0, .int .i64 0, .slice none 0 0, .int .i64 0, .bool false, .bool false, .int .i64 0, .bool false, .bool false, .bool false, .slice none 0 0, .slice none 0 0, .slice none 0 0, .slice none 0 0, .int .i64 0, .int .i64 0, .slice none 0 0, .bool false, .slice none 0 0]⟩
theorem ty142_ok : ty142.ok prog 142 := ⟨⟨_, underlying142, by kernel_rfl⟩, by kernel_rfl⟩
def ty143 : TI := ⟨.struct [(0, 3), (1, 4), (2, 137), (3, 3), (4, 4), (5, 138), (6, 142), (30, 51)], 40, 608, .agg #[.int .i64 0, .bool false, .slice none 0 0, .int .i64 0, .bool false, .slice none 0 0, .bool false, .bool false, .slice none 0 0, .slice none 0 0, .slice none 0 0, .slice none 0 0, .int .i64 0, .slice none 0 0, .int .i64 0, .bool false, .bool false, .int .i64 0, .bool false, .bool false, .bool false, .slice none 0 0, .slice none 0 0, .slice none 0 0, .slice none 0 0, .int .i64 0, .int .i64 0, .slice none 0 0, .bool false, .slice none 0 0, .bool false, .bool false, .slice none 0 0, .slice none 0 0, .slice none 0 0, .slice none 0 0, .int .i64 0, .slice none 0 0, .bool false, .slice none 0 0]⟩
theorem ty143_ok : ty143.ok prog 143 := ⟨⟨_, underlying143, by kernel_rfl⟩, by kernel_rfl⟩
def ty144 : TI := ⟨.struct [(0, 3), (1, 4), (2, 137), (3, 3), (4, 4), (5, 138), (6, 142), (30, 51)], 40, 608, .agg #[.int .i64 0, .bool false, .slice none 0 0, .int .i64 0, .bool false, .slice none 0 0, .bool false, .bool false, .slice none 0 0, .slice none 0 0, .slice none 0 0, .slice none 0 0, .int .i64 0, .slice none 0 0, .int .i64 0, .bool false, .bool false, .int .i64 0, .bool false, .bool false, .bool false, .slice none 0 0, .slice none 0 0, .slice none 0 0, .slice none 0 0, .int .i64 0, .int .i64 0, .slice none 0 0, .bool false, .slice none 0 0, .bool false, .bool false, .slice none 0 0, .slice none 0 0, .slice none 0 0, .slice none 0 0, .int .i64 0, .slice none 0 0, .bool false, .slice none 0 0]⟩
theorem ty144_ok : ty144.ok prog 144 := ⟨⟨_, underlying144, by kernel_rfl⟩, by kernel_rfl⟩
def ty148 : TI := ⟨.struct [(0, 9), (1, 9), (2, 9)], 3, 48, .agg #[.string .empty, .string .empty, .string .empty]⟩
theorem ty148_ok : ty148.ok prog 148 := ⟨⟨_, underlying148, by kernel_rfl⟩, by kernel_rfl⟩
def ty149 : TI := ⟨.struct [(0, 9), (1, 9), (2, 9)], 3, 48, .agg #[.string .empty, .string .empty, .string .empty]⟩
theorem ty149_ok : ty149.ok prog 149 := ⟨⟨_, underlying149, by kernel_rfl⟩, by kernel_rfl⟩
def ty151 : TI := ⟨.struct [(0, 9), (1, 3), (2, 9), (3, 3)], 4, 48, .agg #[.string .empty, .int .i64 0, .string .empty, .int .i64 0]⟩
theorem ty151_ok : ty151.ok prog 151 := ⟨⟨_, underlying151, by kernel_rfl⟩, by kernel_rfl⟩
def ty152 : TI := ⟨.struct [(0, 9), (1, 3), (2, 9), (3, 3)], 4, 48, .agg #[.string .empty, .int .i64 0, .string .empty, .int .i64 0]⟩
theorem ty152_ok : ty152.ok prog 152 := ⟨⟨_, underlying152, by kernel_rfl⟩, by kernel_rfl⟩
def ty154 : TI := ⟨.struct [(0, 9), (1, 9), (2, 9)], 3, 48, .agg #[.string .empty, .string .empty, .string .empty]⟩
theorem ty154_ok : ty154.ok prog 154 := ⟨⟨_, underlying154, by kernel_rfl⟩, by kernel_rfl⟩
def ty157 : TI := ⟨.struct [(0, 9), (1, 3), (2, 9), (3, 3)], 4, 48, .agg #[.string .empty, .int .i64 0, .string .empty, .int .i64 0]⟩
theorem ty157_ok : ty157.ok prog 157 := ⟨⟨_, underlying157, by kernel_rfl⟩, by kernel_rfl⟩
def ty170 : TI := ⟨.struct [(0, 3), (1, 3), (2, 49)], 3, 40, .agg #[.int .i64 0, .int .i64 0, .slice none 0 0]⟩
theorem ty170_ok : ty170.ok prog 170 := ⟨⟨_, underlying170, by kernel_rfl⟩, by kernel_rfl⟩
def ty171 : TI := ⟨.struct [(0, 3), (1, 3), (2, 49)], 3, 40, .agg #[.int .i64 0, .int .i64 0, .slice none 0 0]⟩
theorem ty171_ok : ty171.ok prog 171 := ⟨⟨_, underlying171, by kernel_rfl⟩, by kernel_rfl⟩
def ty177 : TI := ⟨.struct [(0, 3), (1, 3), (2, 63)], 3, 40, .agg #[.int .i64 0, .int .i64 0, .slice none 0 0]⟩
theorem ty177_ok : ty177.ok prog 177 := ⟨⟨_, underlying177, by kernel_rfl⟩, by kernel_rfl⟩
def ty178 : TI := ⟨.struct [(0, 3), (1, 3), (2, 63)], 3, 40, .agg #[.int .i64 0, .int .i64 0, .slice none 0 0]⟩
theorem ty178_ok : ty178.ok prog 178 := ⟨⟨_, underlying178, by kernel_rfl⟩, by kernel_rfl⟩
def ty183 : TI := ⟨.struct [(0, 3), (1, 3), (2, 3), (3, 3)], 4, 32, .agg #[.int .i64 0, .int .i64 0, .int .i64 0, .int .i64 0]⟩
theorem ty183_ok : ty183.ok prog 183 := ⟨⟨_, underlying183, by kernel_rfl⟩, by kernel_rfl⟩
def ty184 : TI := ⟨.struct [(0, 3), (1, 3), (2, 3), (3, 3)], 4, 32, .agg #[.int .i64 0, .int .i64 0, .int .i64 0, .int .i64 0]⟩
theorem ty184_ok : ty184.ok prog 184 := ⟨⟨_, underlying184, by kernel_rfl⟩, by kernel_rfl⟩
def ty192 : TI := ⟨.pointer 194, 1, 8, .pointer none⟩
theorem ty192_ok : ty192.ok prog 192 := ⟨underlying192, by kernel_rfl⟩
def ty193 : TI := ⟨.struct [(0, 192), (1, 131)], 2, 32, .agg #[.pointer none, .slice none 0 0]⟩
theorem ty193_ok : ty193.ok prog 193 := ⟨⟨_, underlying193, by kernel_rfl⟩, by kernel_rfl⟩
def ty194 : TI := ⟨.struct [(0, 192), (1, 131)], 2, 32, .agg #[.pointer none, .slice none 0 0]⟩
theorem ty194_ok : ty194.ok prog 194 := ⟨⟨_, underlying194, by kernel_rfl⟩, by kernel_rfl⟩
def ty203 : TI := ⟨.slice 279, 1, 24, .slice none 0 0⟩
theorem ty203_ok : ty203.ok prog 203 := ⟨underlying203, by kernel_rfl⟩
def ty204 : TI := ⟨.struct [(0, 203)], 1, 24, .agg #[.slice none 0 0]⟩
theorem ty204_ok : ty204.ok prog 204 := ⟨⟨_, underlying204, by kernel_rfl⟩, by kernel_rfl⟩
def ty205 : TI := ⟨.struct [(0, 203)], 1, 24, .agg #[.slice none 0 0]⟩
theorem ty205_ok : ty205.ok prog 205 := ⟨⟨_, underlying205, by kernel_rfl⟩, by kernel_rfl⟩
def ty209 : TI := ⟨.slice 282, 1, 24, .slice none 0 0⟩
theorem ty209_ok : ty209.ok prog 209 := ⟨underlying209, by kernel_rfl⟩
def ty210 : TI := ⟨.slice 4, 1, 24, .slice none 0 0⟩
theorem ty210_ok : ty210.ok prog 210 := ⟨underlying210, by kernel_rfl⟩
def ty211 : TI := ⟨.struct [(0, 3), (1, 209), (2, 210)], 3, 56, .agg #[.int .i64 0, .slice none 0 0, .slice none 0 0]⟩
theorem ty211_ok : ty211.ok prog 211 := ⟨⟨_, underlying211, by kernel_rfl⟩, by kernel_rfl⟩
def ty212 : TI := ⟨.struct [(0, 3), (1, 209), (2, 210)], 3, 56, .agg #[.int .i64 0, .slice none 0 0, .slice none 0 0]⟩
theorem ty212_ok : ty212.ok prog 212 := ⟨⟨_, underlying212, by kernel_rfl⟩, by kernel_rfl⟩
def ty221 : TI := ⟨.struct [(0, 28), (1, 3)], 2, 32, .agg #[.slice none 0 0, .int .i64 0]⟩
theorem ty221_ok : ty221.ok prog 221 := ⟨⟨_, underlying221, by kernel_rfl⟩, by kernel_rfl⟩
def ty226 : TI := ⟨.struct [(0, 22), (1, 3), (2, 3)], 3, 40, .agg #[.slice none 0 0, .int .i64 0, .int .i64 0]⟩
theorem ty226_ok : ty226.ok prog 226 := ⟨⟨_, underlying226, by kernel_rfl⟩, by kernel_rfl⟩
def ty227 : TI := ⟨.struct [(0, 22), (1, 3), (2, 3)], 3, 40, .agg #[.slice none 0 0, .int .i64 0, .int .i64 0]⟩
theorem ty227_ok : ty227.ok prog 227 := ⟨⟨_, underlying227, by kernel_rfl⟩, by kernel_rfl⟩
def ty232 : TI := ⟨.struct [(0, 22), (1, 3), (2, 3)], 3, 40, .agg #[.slice none 0 0, .int .i64 0, .int .i64 0]⟩
theorem ty232_ok : ty232.ok prog 232 := ⟨⟨_, underlying232, by kernel_rfl⟩, by kernel_rfl⟩
def ty238 : TI := ⟨.pointer 5, 1, 8, .pointer none⟩
theorem ty238_ok : ty238.ok prog 238 := ⟨underlying238, by kernel_rfl⟩
def ty242 : TI := ⟨.pointer 244, 1, 8, .pointer none⟩
theorem ty242_ok : ty242.ok prog 242 := ⟨underlying242, by kernel_rfl⟩
def ty243 : TI := ⟨.struct [(0, 9), (1, 3), (2, 4), (3, 203)], 4, 56, .agg #[.string .empty, .int .i64 0, .bool false, .slice none 0 0]⟩
theorem ty243_ok : ty243.ok prog 243 := ⟨⟨_, underlying243, by kernel_rfl⟩, by kernel_rfl⟩
def ty244 : TI := ⟨.struct [(0, 9), (1, 3), (2, 4), (3, 203)], 4, 56, .agg #[.string .empty, .int .i64 0, .bool false, .slice none 0 0]⟩
theorem ty244_ok : ty244.ok prog 244 := ⟨⟨_, underlying244, by kernel_rfl⟩, by kernel_rfl⟩
def ty247 : TI := ⟨.pointer 249, 1, 8, .pointer none⟩
theorem ty247_ok : ty247.ok prog 247 := ⟨underlying247, by kernel_rfl⟩
def ty248 : TI := ⟨.struct [(0, 205), (1, 131), (2, 209), (3, 4)], 4, 80, .agg #[.slice none 0 0, .slice none 0 0, .slice none 0 0, .bool false]⟩
theorem ty248_ok : ty248.ok prog 248 := ⟨⟨_, underlying248, by kernel_rfl⟩, by kernel_rfl⟩
def ty249 : TI := ⟨.struct [(0, 205), (1, 131), (2, 209), (3, 4)], 4, 80, .agg #[.slice none 0 0, .slice none 0 0, .slice none 0 0, .bool false]⟩
theorem ty249_ok : ty249.ok prog 249 := ⟨⟨_, underlying249, by kernel_rfl⟩, by kernel_rfl⟩
def ty250 : TI := ⟨.struct [(0, 28), (1, 28), (2, 4)], 3, 56, .agg #[.slice none 0 0, .slice none 0 0, .bool false]⟩
theorem ty250_ok : ty250.ok prog 250 := ⟨⟨_, underlying250, by kernel_rfl⟩, by kernel_rfl⟩
def ty251 : TI := ⟨.struct [(0, 28), (1, 28), (2, 4)], 3, 56, .agg #[.slice none 0 0, .slice none 0 0, .bool false]⟩
theorem ty251_ok : ty251.ok prog 251 := ⟨⟨_, underlying251, by kernel_rfl⟩, by kernel_rfl⟩
def ty260 : TI := ⟨.struct [(0, 9), (1, 9), (2, 3)], 3, 40, .agg #[.string .empty, .string .empty, .int .i64 0]⟩
theorem ty260_ok : ty260.ok prog 260 := ⟨⟨_, underlying260, by kernel_rfl⟩, by kernel_rfl⟩
def ty261 : TI := ⟨.struct [(0, 9), (1, 9), (2, 3)], 3, 40, .agg #[.string .empty, .string .empty, .int .i64 0]⟩
theorem ty261_ok : ty261.ok prog 261 := ⟨⟨_, underlying261, by kernel_rfl⟩, by kernel_rfl⟩
def ty263 : TI := ⟨.struct [(0, 3), (1, 3), (2, 3), (3, 4), (4, 122), (5, 9)], 6, 72, .agg #[.int .i64 0, .int .i64 0, .int .i64 0, .bool false, .slice none 0 0, .string .empty]⟩
theorem ty263_ok : ty263.ok prog 263 := ⟨⟨_, underlying263, by kernel_rfl⟩, by kernel_rfl⟩
def ty264 : TI := ⟨.struct [(0, 3), (1, 3), (2, 3), (3, 4), (4, 122), (5, 9)], 6, 72, .agg #[.int .i64 0, .int .i64 0, .int .i64 0, .bool false, .slice none 0 0, .string .empty]⟩
theorem ty264_ok : ty264.ok prog 264 := ⟨⟨_, underlying264, by kernel_rfl⟩, by kernel_rfl⟩
def ty265 : TI := ⟨.struct [(0, 3), (1, 264)], 7, 80, .agg #[.int .i64 0, .int .i64 0, .int .i64 0, .int .i64 0, .bool false, .slice none 0 0, .string .empty]⟩
theorem ty265_ok : ty265.ok prog 265 := ⟨⟨_, underlying265, by kernel_rfl⟩, by kernel_rfl⟩
def ty266 : TI := ⟨.struct [(0, 3), (1, 264)], 7, 80, .agg #[.int .i64 0, .int .i64 0, .int .i64 0, .int .i64 0, .bool false, .slice none 0 0, .string .empty]⟩
theorem ty266_ok : ty266.ok prog 266 := ⟨⟨_, underlying266, by kernel_rfl⟩, by kernel_rfl⟩
def ty267 : TI := ⟨.struct [(0, 9), (1, 9), (2, 3)], 3, 40, .agg #[.string .empty, .string .empty, .int .i64 0]⟩
theorem ty267_ok : ty267.ok prog 267 := ⟨⟨_, underlying267, by kernel_rfl⟩, by kernel_rfl⟩
def ty270 : TI := ⟨.struct [(0, 3), (1, 3), (2, 3), (3, 3)], 4, 32, .agg #[.int .i64 0, .int .i64 0, .int .i64 0, .int .i64 0]⟩
theorem ty270_ok : ty270.ok prog 270 := ⟨⟨_, underlying270, by kernel_rfl⟩, by kernel_rfl⟩
def ty278 : TI := ⟨.struct [(0, 3), (1, 5), (2, 28)], 3, 40, .agg #[.int .i64 0, .int .u8 0, .slice none 0 0]⟩
theorem ty278_ok : ty278.ok prog 278 := ⟨⟨_, underlying278, by kernel_rfl⟩, by kernel_rfl⟩
def ty279 : TI := ⟨.struct [(0, 3), (1, 5), (2, 28)], 3, 40, .agg #[.int .i64 0, .int .u8 0, .slice none 0 0]⟩
theorem ty279_ok : ty279.ok prog 279 := ⟨⟨_, underlying279, by kernel_rfl⟩, by kernel_rfl⟩
def ty281 : TI := ⟨.struct [(0, 3), (1, 5), (2, 3)], 3, 24, .agg #[.int .i64 0, .int .u8 0, .int .i64 0]⟩
theorem ty281_ok : ty281.ok prog 281 := ⟨⟨_, underlying281, by kernel_rfl⟩, by kernel_rfl⟩
def ty282 : TI := ⟨.struct [(0, 3), (1, 5), (2, 3)], 3, 24, .agg #[.int .i64 0, .int .u8 0, .int .i64 0]⟩
theorem ty282_ok : ty282.ok prog 282 := ⟨⟨_, underlying282, by kernel_rfl⟩, by kernel_rfl⟩
def ty287 : TI := ⟨.int .u64, 1, 8, .int .u64 0⟩
theorem ty287_ok : ty287.ok prog 287 := ⟨underlying287, by kernel_rfl⟩
def ty293 : TI := ⟨.struct [(0, 9), (1, 3), (2, 205)], 3, 48, .agg #[.string .empty, .int .i64 0, .slice none 0 0]⟩
theorem ty293_ok : ty293.ok prog 293 := ⟨⟨_, underlying293, by kernel_rfl⟩, by kernel_rfl⟩
def ty294 : TI := ⟨.struct [(0, 9), (1, 3), (2, 205)], 3, 48, .agg #[.string .empty, .int .i64 0, .slice none 0 0]⟩
theorem ty294_ok : ty294.ok prog 294 := ⟨⟨_, underlying294, by kernel_rfl⟩, by kernel_rfl⟩
def ty298 : TI := ⟨.slice 301, 1, 24, .slice none 0 0⟩
theorem ty298_ok : ty298.ok prog 298 := ⟨underlying298, by kernel_rfl⟩
def ty299 : TI := ⟨.struct [(0, 205), (1, 131), (2, 298)], 3, 72, .agg #[.slice none 0 0, .slice none 0 0, .slice none 0 0]⟩
theorem ty299_ok : ty299.ok prog 299 := ⟨⟨_, underlying299, by kernel_rfl⟩, by kernel_rfl⟩
def ty300 : TI := ⟨.struct [(0, 205), (1, 131), (2, 298)], 3, 72, .agg #[.slice none 0 0, .slice none 0 0, .slice none 0 0]⟩
theorem ty300_ok : ty300.ok prog 300 := ⟨⟨_, underlying300, by kernel_rfl⟩, by kernel_rfl⟩
def ty301 : TI := ⟨.int .u32, 1, 4, .int .u32 0⟩
theorem ty301_ok : ty301.ok prog 301 := ⟨underlying301, by kernel_rfl⟩
def ty302 : TI := ⟨.struct [(0, 301), (1, 301), (2, 4)], 3, 12, .agg #[.int .u32 0, .int .u32 0, .bool false]⟩
theorem ty302_ok : ty302.ok prog 302 := ⟨⟨_, underlying302, by kernel_rfl⟩, by kernel_rfl⟩
def ty303 : TI := ⟨.struct [(0, 301), (1, 301), (2, 4)], 3, 12, .agg #[.int .u32 0, .int .u32 0, .bool false]⟩
theorem ty303_ok : ty303.ok prog 303 := ⟨⟨_, underlying303, by kernel_rfl⟩, by kernel_rfl⟩
def ty307 : TI := ⟨.int .u64, 1, 8, .int .u64 0⟩
theorem ty307_ok : ty307.ok prog 307 := ⟨underlying307, by kernel_rfl⟩
def ty316 : TI := ⟨.pointer 294, 1, 8, .pointer none⟩
theorem ty316_ok : ty316.ok prog 316 := ⟨underlying316, by kernel_rfl⟩
def ty320 : TI := ⟨.pointer 300, 1, 8, .pointer none⟩
theorem ty320_ok : ty320.ok prog 320 := ⟨underlying320, by kernel_rfl⟩
def ty326 : TI := ⟨.int .i64, 1, 8, .int .i64 0⟩
theorem ty326_ok : ty326.ok prog 326 := ⟨underlying326, by kernel_rfl⟩
def ty334 : TI := ⟨.int .u64, 1, 8, .int .u64 0⟩
theorem ty334_ok : ty334.ok prog 334 := ⟨underlying334, by kernel_rfl⟩
def ty338 : TI := ⟨.pointer 3, 1, 8, .pointer none⟩
theorem ty338_ok : ty338.ok prog 338 := ⟨underlying338, by kernel_rfl⟩
def ty340 : TI := ⟨.pointer 334, 1, 8, .pointer none⟩
theorem ty340_ok : ty340.ok prog 340 := ⟨underlying340, by kernel_rfl⟩
def G : Ty := [(3, ty3), (4, ty4), (9, ty9), (5, ty5), (28, ty28), (2, ty2), (12, ty12), (13, ty13), (21, ty21), (22, ty22), (23, ty23), (24, ty24), (25, ty25), (26, ty26), (27, ty27), (29, ty29), (30, ty30), (31, ty31), (34, ty34), (35, ty35), (36, ty36), (37, ty37), (38, ty38), (39, ty39), (40, ty40), (41, ty41), (46, ty46), (47, ty47), (48, ty48), (49, ty49), (50, ty50), (51, ty51), (60, ty60), (61, ty61), (62, ty62), (63, ty63), (64, ty64), (65, ty65), (67, ty67), (108, ty108), (109, ty109), (110, ty110), (111, ty111), (112, ty112), (118, ty118), (119, ty119), (120, ty120), (121, ty121), (122, ty122), (123, ty123), (124, ty124), (125, ty125), (126, ty126), (127, ty127), (128, ty128), (129, ty129), (131, ty131), (133, ty133), (134, ty134), (135, ty135), (136, ty136), (137, ty137), (138, ty138), (139, ty139), (140, ty140), (141, ty141), (142, ty142), (143, ty143), (144, ty144), (148, ty148), (149, ty149), (151, ty151), (152, ty152), (154, ty154), (157, ty157), (170, ty170), (171, ty171), (177, ty177), (178, ty178), (183, ty183), (184, ty184), (192, ty192), (193, ty193), (194, ty194), (203, ty203), (204, ty204), (205, ty205), (209, ty209), (210, ty210), (211, ty211), (212, ty212), (221, ty221), (226, ty226), (227, ty227), (232, ty232), (238, ty238), (242, ty242), (243, ty243), (244, ty244), (247, ty247), (248, ty248), (249, ty249), (250, ty250), (251, ty251), (260, ty260), (261, ty261), (263, ty263), (264, ty264), (265, ty265), (266, ty266), (267, ty267), (270, ty270), (278, ty278), (279, ty279), (281, ty281), (282, ty282), (287, ty287), (293, ty293), (294, ty294), (298, ty298), (299, ty299), (300, ty300), (301, ty301), (302, ty302), (303, ty303), (307, ty307), (316, ty316), (320, ty320), (326, ty326), (334, ty334), (338, ty338), (340, ty340)]
theorem G_ok : TyOk prog G :=
 .cons ty3_ok (.cons ty4_ok (.cons ty9_ok (.cons ty5_ok (.cons ty28_ok (.cons ty2_ok (.cons ty12_ok (.cons ty13_ok (.cons ty21_ok (.cons ty22_ok (.cons ty23_ok (.cons ty24_ok (.cons ty25_ok (.cons ty26_ok (.cons ty27_ok (.cons ty29_ok (.cons ty30_ok (.cons ty31_ok (.cons ty34_ok (.cons ty35_ok (.cons ty36_ok (.cons ty37_ok (.cons ty38_ok (.cons ty39_ok (.cons ty40_ok (.cons ty41_ok (.cons ty46_ok (.cons ty47_ok (.cons ty48_ok (.cons ty49_ok (.cons ty50_ok (.cons ty51_ok (.cons ty60_ok (.cons ty61_ok (.cons ty62_ok (.cons ty63_ok (.cons ty64_ok (.cons ty65_ok (.cons ty67_ok (.cons ty108_ok (.cons ty109_ok (.cons ty110_ok (.cons ty111_ok (.cons ty112_ok (.cons ty118_ok (.cons ty119_ok (.cons ty120_ok (.cons ty121_ok (.cons ty122_ok (.cons ty123_ok (.cons ty124_ok (.cons ty125_ok (.cons ty126_ok (.cons ty127_ok (.cons ty128_ok (.cons ty129_ok (.cons ty131_ok (.cons ty133_ok (.cons ty134_ok (.cons ty135_ok (.cons ty136_ok (.cons ty137_ok (.cons ty138_ok (.cons ty139_ok (.cons ty140_ok (.cons ty141_ok (.cons ty142_ok (.cons ty143_ok (.cons ty144_ok (.cons ty148_ok (.cons ty149_ok (.cons ty151_ok (.cons ty152_ok (.cons ty154_ok (.cons ty157_ok (.cons ty170_ok (.cons ty171_ok (.cons ty177_ok (.cons ty178_ok (.cons ty183_ok (.cons ty184_ok (.cons ty192_ok (.cons ty193_ok (.cons ty194_ok (.cons ty203_ok (.cons ty204_ok (.cons ty205_ok (.cons ty209_ok (.cons ty210_ok (.cons ty211_ok (.cons ty212_ok (.cons ty221_ok (.cons ty226_ok (.cons ty227_ok (.cons ty232_ok (.cons ty238_ok (.cons ty242_ok (.cons ty243_ok (.cons ty244_ok (.cons ty247_ok (.cons ty248_ok (.cons ty249_ok (.cons ty250_ok (.cons ty251_ok (.cons ty260_ok (.cons ty261_ok (.cons ty263_ok (.cons ty264_ok (.cons ty265_ok (.cons ty266_ok (.cons ty267_ok (.cons ty270_ok (.cons ty278_ok (.cons ty279_ok (.cons ty281_ok (.cons ty282_ok (.cons ty287_ok (.cons ty293_ok (.cons ty294_ok (.cons ty298_ok (.cons ty299_ok (.cons ty300_ok (.cons ty301_ok (.cons ty302_ok (.cons ty303_ok (.cons ty307_ok (.cons ty316_ok (.cons ty320_ok (.cons ty326_ok (.cons ty334_ok (.cons ty338_ok (.cons ty340_ok (.nil))))))))))))))))))))))))))))))))))))))))))))))))))))))))))))))))))))))))))))))))))))))))))))))))))))))))))))))))))))))))))))))))))))
end
end Go.Proofs.YtcnclhjhnjpeiaaGreatDoor
namespace Go.SX
theorem Sat.perm {E : World} {H H' : Hp} {w : World} (h : Sat E H w) (hp : H.Perm H') : Sat E H' w :=
 ⟨h.os, h.out, h.tape, fun b o hm => h.mem b o (hp.symm.mem_iff.1 hm), ((hp.map _).nodup_iff).1 h.nodup, h.dr⟩
theorem Sat.lt {E : World} {H : Hp} {w : World} (h : Sat E H w) {b : Nat} {o : Obj} (hm : (b, o) ∈ H) : b < w.heap.size := by
 have := h.mem b o hm
 rcases Nat.lt_or_ge b w.heap.size with h1 | h1
 ·exact h1
 rw [Array.getElem?_eq_none h1] at this; cases this
theorem Sat.drop {E : World} {A B : Hp} {w : World} (h : Sat E (A ++ B) w) : Sat E A w :=
 ⟨h.os, h.out, h.tape, fun b o hm => h.mem b o (List.mem_append_left _ hm), by
  have := h.nodup; rw [List.map_append, List.nodup_append] at this; exact this.1, h.dr⟩
theorem Sat.push {E : World} {H : Hp} {w : World} (h : Sat E H w) (o : Obj) : Sat E ((w.heap.size, o) :: H) (w.alloc o) := by
 refine ⟨h.os, h.out, h.tape, fun b o' hm => ?_, ?_, h.dr⟩
 ·rcases List.mem_cons.1 hm with he | he
  ·cases he; show (w.heap.push o)[w.heap.size]? = some o; simp
  have hl := h.lt he
  have := h.mem b o' he
  show (w.heap.push o)[b]? = some o'
  rw [Array.getElem?_push_lt hl]
  rwa [Array.getElem?_eq_getElem hl] at this
 rw [List.map_cons, List.nodup_cons]
 refine ⟨fun hm => ?_, h.nodup⟩
 obtain ⟨⟨b, o'⟩, h1, h2⟩ := List.mem_map.1 hm
 have hl := h.lt h1
 have h3 : b = w.heap.size := h2
 omega
theorem Sat.upd {E : World} {A B : Hp} {b : Nat} {o o' : Obj} {w w' : World} (h : Sat E (A ++ (b, o) :: B) w)
  (ho : w'.os = w.os) (hu : w'.output = w.output) (ht : w'.tape = w.tape) (hb : w'.heap[b]? = some o') (hn : ∀ i, i ≠ b → w'.heap[i]? = w.heap[i]?) (hd : w.drawn ≤ w'.drawn := by exact Nat.le_refl _) : Sat E (A ++ (b, o') :: B) w' := by
 have hnd := h.nodup
 rw [List.map_append, List.map_cons] at hnd
 have hp : (b :: (A.map (·.1) ++ B.map (·.1))).Nodup := ((List.perm_middle).nodup_iff).1 hnd
 have hne : ∀ i x, (i, x) ∈ A ++ B → i ≠ b := fun i x hm hib => by
  rw [List.nodup_cons] at hp
  refine hp.1 ?_
  rw [← List.map_append]
  exact List.mem_map.2 ⟨(i, x), hm, hib⟩
 refine ⟨ho.trans h.os, hu.trans h.out, ht.trans h.tape, fun i x hm => ?_, ?_, Nat.le_trans h.dr hd⟩
 ·rcases List.mem_append.1 hm with hm | hm
  ·rw [hn i (hne i x (List.mem_append_left _ hm))]; exact h.mem i x (List.mem_append_left _ hm)
  rcases List.mem_cons.1 hm with he | hm
  ·cases he; exact hb
  rw [hn i (hne i x (List.mem_append_right _ hm))]; exact h.mem i x (List.mem_append_right _ (List.mem_cons_of_mem _ hm))
 rw [List.map_append, List.map_cons]; exact hnd
theorem Sat.cell {E : World} {H : Hp} {w : World} (h : Sat E H w) {b : Nat} {cs : Array Value} {T : TypeId} {fz : Nat × Nat} (hm : (b, Obj.cells cs T fz) ∈ H) (o : Nat) :
  w.cell? ⟨b, o, none⟩ = cs[o]? := by
 simp [World.cell?, h.mem _ _ hm]
theorem addr_add (b o i : Nat) : (⟨b, o, none⟩ : Addr).add i = ⟨b, o + i, none⟩ := by
 unfold Addr.add
 split
 ·rename_i h; subst h; rfl
 rfl
theorem run_loadCells_rd {P : Program} {E : World} {H : Hp} {w : World} (h : Sat E H w) {b o n : Nat} {l : List Value} (hr : RdCells H b o n l) :
  (loadCells ⟨b, o, none⟩ n).run P w = .ok ⟨l⟩ w := by
 obtain ⟨hl, cs, T, fz, hm, hc⟩ := hr
 subst hl
 exact run_loadCells_list w ⟨b, o, none⟩ l fun j v hj => by
  rw [addr_add, h.cell hm, hc j (by rcases Nat.lt_or_ge j l.length with h1 | h1; exact h1; rw [List.getElem?_eq_none h1] at hj; cases hj)]
  exact hj
theorem undOf_ok {P : Program} {Γ : Ty} (hΓ : TyOk P Γ) {t : Nat} {d : UD} (h : undOf Γ t = some d) : d.ok P t := by
 unfold undOf at h
 split at h
 ·rename_i ti ht; cases h; exact (hΓ _ _ ht).1
 cases h
theorem ty_size {P : Program} {Γ : Ty} (hΓ : TyOk P Γ) {t : Nat} {ti : TI} (h : tyOf Γ t = some ti) (w : World) : (sizeOf t).run P w = .ok ti.size w := by
 obtain ⟨_, h2⟩ := hΓ _ _ h
 cases hi : P.info? t with
 | none => rw [hi] at h2; cases h2
 | some i =>
  rw [hi] at h2
  simp only [Option.map_some, Option.some.injEq, Prod.mk.injEq] at h2
  simp [sizeOf, typeInfo, hi, h2.1]
theorem siz_size {P : Program} {Γ : Ty} (hΓ : TyOk P Γ) {t : Nat} {k : Nat} (h : sizOf Γ t = some k) (w : World) : (sizeOf t).run P w = .ok k w := by
 unfold sizOf at h
 split at h
 ·rename_i ti ht; cases h; exact ty_size hΓ ht w
 cases h
theorem ty_zero {P : Program} {Γ : Ty} (hΓ : TyOk P Γ) {t : Nat} {ti : TI} (h : tyOf Γ t = some ti) (w : World) : (zeroValue t).run P w = .ok ti.zero w := by
 obtain ⟨_, h2⟩ := hΓ _ _ h
 cases hi : P.info? t with
 | none => rw [hi] at h2; cases h2
 | some i =>
  rw [hi] at h2
  simp only [Option.map_some, Option.some.injEq, Prod.mk.injEq] at h2
  simp [zeroValue, typeInfo, hi, h2.2.2]
theorem ty_bytes {P : Program} {Γ : Ty} (hΓ : TyOk P Γ) {t : Nat} {ti : TI} (h : tyOf Γ t = some ti) : ∃ i, P.info? t = some i ∧ i.bytes = ti.bytes ∧ i.size = ti.size ∧ i.zero = some ti.zero := by
 obtain ⟨_, h2⟩ := hΓ _ _ h
 cases hi : P.info? t with
 | none => rw [hi] at h2; cases h2
 | some i =>
  rw [hi] at h2
  simp only [Option.map_some, Option.some.injEq, Prod.mk.injEq] at h2
  exact ⟨i, rfl, h2.2.1, h2.1, h2.2.2⟩
theorem ty_agg {P : Program} {Γ : Ty} (hΓ : TyOk P Γ) {t : Nat} {ti : TI} (h : tyOf Γ t = some ti) (w : World) : (isAgg t).run P w = .ok ti.agg w := by
 obtain ⟨h1, _⟩ := hΓ _ _ h
 unfold isAgg TI.agg
 obtain ⟨u, s1, b1, z1⟩ := ti
 cases u <;> simp only [UD.ok] at h1
 case struct fl =>
  obtain ⟨fs, h1, _⟩ := h1
  simp only [Sem.run_bind, run_underlying h1, Result.andThen_ok]; rfl
 case func =>
  obtain ⟨a, b, c, h1⟩ := h1
  simp only [Sem.run_bind, run_underlying h1, Result.andThen_ok]; rfl
 all_goals (simp only [Sem.run_bind, run_underlying h1, Result.andThen_ok]; rfl)
theorem run_loadVar_rd {P : Program} {E : World} {Γ : Ty} (hΓ : TyOk P Γ) {H : Hp} {w : World} (h : Sat E H w) {b o t : Nat} {ti : TI} (ht : tyOf Γ t = some ti) :
  (∀ l, ti.agg = true → RdCells H b o ti.size l → (loadVar t ⟨b, o, none⟩).run P w = .ok (.agg ⟨l⟩) w) ∧
  (∀ c, ti.agg = false → RdCells H b o 1 [c] → (loadVar t ⟨b, o, none⟩).run P w = .ok c w) := by
 refine ⟨fun l ha hr => ?_, fun c ha hr => ?_⟩
 ·unfold loadVar
  simp [ty_agg hΓ ht, ha, ty_size hΓ ht, run_loadCells_rd h hr]
 unfold loadVar
 obtain ⟨_, cs, T, fz, hm, hc⟩ := hr
 have := hc 0 (by omega)
 simp only [Nat.add_zero, List.getElem?_cons_zero] at this
 simp [ty_agg hΓ ht, ha, h.cell hm, this]
theorem allOne_ok : ∀ l, allOne l = true → ∀ v ∈ l, v.oneCell' = true
 | [], _, v, hv => by cases hv
 | x :: r, h, v, hv => by
  have key : x.oneCell' = true ∧ allOne r = true := by
   cases x <;> simp_all [allOne, Value.oneCell']
  rcases List.mem_cons.1 hv with rfl | hv
  ·exact key.1
  exact allOne_ok r key.2 v hv
theorem setAt_eq (l : List Value) : ∀ (cs : List Value) (o : Nat), o + l.length ≤ cs.length → setAt cs o l = cs.take o ++ l ++ cs.drop (o + l.length) := by
 induction l with
 | nil => intro cs o h; simp [setAt]
 | cons x r ih =>
  intro cs o h
  simp only [List.length_cons] at h
  rw [setAt, ih (cs.set o x) (o + 1) (by simp; omega)]
  apply List.ext_getElem?
  intro i
  simp only [List.getElem?_append, List.length_append, List.length_take, List.length_set, List.length_cons, List.getElem?_take, List.getElem?_drop, List.getElem?_set]
  by_cases h1 : i < o
  ·simp [h1, show i < min (o+1) cs.length + r.length by omega, show i < min (o+1) cs.length by omega, show i < min o cs.length + (r.length + 1) by omega, show i < min o cs.length by omega, show i < o + 1 by omega, show ¬ o = i by omega]
  by_cases h2 : i = o
  ·subst h2
   simp [show i < min (i+1) cs.length + r.length by omega, show i < min (i+1) cs.length by omega, show i < min i cs.length + (r.length + 1) by omega, show ¬ i < min i cs.length by omega, show i - min i cs.length = 0 by omega, show i < cs.length by omega]
  by_cases h3 : i < o + 1 + r.length
  ·simp [show i < min (o+1) cs.length + r.length by omega, show ¬ i < min (o+1) cs.length by omega, show i < min o cs.length + (r.length + 1) by omega, show ¬ i < min o cs.length by omega, show i - min o cs.length = (i - min (o+1) cs.length) + 1 by omega]
  simp only [show ¬ i < min (o+1) cs.length + r.length by omega, show ¬ i < min o cs.length + (r.length + 1) by omega, if_false]
  rw [show o + 1 + r.length + (i - (min (o + 1) cs.length + r.length)) = o + (r.length + 1) + (i - (min o cs.length + (r.length + 1))) by omega]
  rw [if_neg (by omega)]
theorem run_storeCells_wr {P : Program} {E : World} {A B : Hp} {w : World} {b o : Nat} {cs : Array Value} {T : TypeId} {l : List Value} (h : Sat E (A ++ (b, Obj.cells cs T) :: B) w)
  (hl : o + l.length ≤ cs.size) (h1 : allOne l = true) :
  ∃ w', (storeCells ⟨b, o, none⟩ l).run P w = .ok () w' ∧ Sat E (A ++ (b, Obj.cells ⟨setAt cs.toList o l⟩ T) :: B) w' := by
 have hg := h.mem b _ (List.mem_append_right _ (List.mem_cons_self ..))
 have hs := run_storeCells_at (P := P) b o T l 0 cs w hg (by simpa using hl) (allOne_ok l h1)
 refine ⟨_, hs, ?_⟩
 refine h.upd rfl rfl rfl ?_ fun i hi => setRow_other w b i _ hi
 rw [setRow_heap w b cs _ T _ hg]
 simp only [Nat.add_zero]
 rw [setAt_eq l cs.toList o (by simpa using hl)]
theorem run_storeCell_frz {P : Program} {E : World} {A B : Hp} {w : World} {b o lo hi : Nat} {cs : Array Value} {T : TypeId} {v : Value} (h : Sat E (A ++ (b, Obj.cells cs T (lo, hi)) :: B) w)
  (hl : o < cs.size) (hf : o < lo) (h1 : allOne [v] = true) :
  ∃ w', (storeCells ⟨b, o, none⟩ [v]).run P w = .ok () w' ∧ Sat E (A ++ (b, Obj.cells ⟨cs.toList.set o v⟩ T (lo, hi)) :: B) w' := by
 have hg := h.mem b _ (List.mem_append_right _ (List.mem_cons_self ..))
 have hcell : w.cell? ⟨b, o, none⟩ = some cs[o] := by simp [World.cell?, hg, hl]
 have hfro : w.frozen? ⟨b, o, none⟩ = false := by simp [World.frozen?, hg]; omega
 have hst : (storeCells ⟨b, o, none⟩ [v]).run P w = .ok () (w.setCell ⟨b, o, none⟩ v) := by
  unfold storeCells
  rw [addr_add, Nat.add_zero]
  rw [Sem.run_bind, run_store P w _ v _ (allOne_ok [v] h1 v (by simp)), hcell]
  simp only [hfro]
  rfl
 refine ⟨_, hst, ?_⟩
 refine Sat.upd h rfl rfl rfl ?_ ?_
 ·show (w.heap.modify b _)[b]? = _
  rw [Array.getElem?_modify, if_pos rfl, hg]
  simp only [Option.map_some]
  congr 2
  apply Array.ext'
  simp
 intro i hi
 show (w.heap.modify b _)[i]? = _
 rw [Array.getElem?_modify, if_neg (Ne.symm hi)]
end Go.SX
namespace Go.SX
section
variable {P : Program} {E : World} {Γ : Ty} {n : Nat} {fr : Fr} {bl : List Blk} {R : List Hp} {a : Act} {w : World}
theorem den_const (c : Value) (bl : List Blk) : (constSV c).den bl = c ∧ (constSV c).ok bl := by
 unfold constSV
 split <;> exact ⟨rfl, trivial⟩
theorem getK_sound (hr : Rel E n ⟨fr, bl, R⟩ a w) {x : Operand} {K : SV → Prop} (h : getK fr x K) : ∃ s, a.eval x = s.den bl ∧ s.ok bl ∧ K s := by
 unfold getK at h
 split at h
 ·rename_i t
  split at h
  ·rename_i s hs
   obtain ⟨h1, h2⟩ := hr.val _ _ hs
   refine ⟨s, ?_, h2, h⟩
   show a.tmps.getD t undef = _
   rw [Array.getD_eq_getD_getElem?, h1]; rfl
  exact h.elim
 ·exact ⟨_, (den_const _ _).1.symm, (den_const _ _).2, h⟩
 ·exact ⟨.v _, rfl, trivial, h⟩
 exact ⟨.v _, rfl, trivial, h⟩
theorem getK_uni {x : Operand} {K : SV → Prop} (h : getK fr x K) : ∃ s, K s ∧ ∀ a w, Rel E n ⟨fr, bl, R⟩ a w → a.eval x = s.den bl ∧ s.ok bl := by
 unfold getK at h
 split at h
 ·rename_i t
  split at h
  ·rename_i s hs
   refine ⟨s, h, fun a w hr => ?_⟩
   obtain ⟨h1, h2⟩ := hr.val _ _ hs
   refine ⟨?_, h2⟩
   show a.tmps.getD t undef = _
   rw [Array.getD_eq_getD_getElem?, h1]; rfl
  exact h.elim
 ·exact ⟨_, h, fun a w _ => ⟨(den_const _ _).1.symm, (den_const _ _).2⟩⟩
 ·exact ⟨.v _, h, fun a w _ => ⟨rfl, trivial⟩⟩
 exact ⟨.v _, h, fun a w _ => ⟨rfl, trivial⟩⟩
theorem putK_sound (hr : Rel E n ⟨fr, bl, R⟩ a w) {dst : Option Nat} {s : SV} (hs : s.ok bl) {K : Fr → Prop} (h : putK n fr dst s K) :
  ∃ fr', K fr' ∧ Rel E n ⟨fr', bl, R⟩ (a.put dst (s.den bl)) w := by
 unfold putK at h
 split at h
 ·exact ⟨fr, h, hr⟩
 rename_i d
 split at h
 ·rename_i hd
  refine ⟨_, h, ?_, hr.defers, ?_, hr.sat⟩
  ·simp only [Act.put, Array.size_setIfInBounds]; exact hr.size
  intro k sv hk
  have hd' : d < a.tmps.size := by rw [hr.size]; exact of_decide_eq_true (by simpa using hd)
  simp only [look] at hk
  simp only [Act.put]
  split at hk
  ·rename_i hb
   have := Nat.eq_of_beq_eq_true hb
   subst this
   cases hk
   exact ⟨by simp [hd'], hs⟩
  rename_i hb
  have hne : d ≠ k := fun e => by subst e; simp at hb
  rw [Array.getElem?_setIfInBounds_ne hne]
  exact hr.val _ _ hk
 exact h.elim
theorem cellsK_sound {s : SV} {K : List Value → Prop} (h : cellsK bl s K) : K (s.den bl).cells.toList := by
 unfold cellsK at h
 split at h
 ·exact h
 ·rename_i x hx
  have : x.cells = #[x] := by
   unfold Value.cells
   split
   ·rename_i cs; exact (hx cs.toList rfl).elim
   rfl
  simp only [SV.den, this]; exact h
 ·exact h
 exact h
theorem cellsK_nil {x : Value} {K : List Value → Prop} (h : cellsK [] (.v x) K) : K x.cells.toList := cellsK_sound (bl := []) h
theorem denK_sound {s : SV} {K : Value → Prop} (h : denK bl s K) : K (s.den bl) := by
 unfold denK at h
 split at h <;> exact h
theorem getsK_sound (hr : Rel E n ⟨fr, bl, R⟩ a w) : ∀ {l : List Operand} {K : List Value → Prop}, getsK fr bl l K → K (l.map a.eval)
 | [], _, h => h
 | x :: r, K, h => by
  obtain ⟨s, h1, _, h2⟩ := getK_sound hr h
  have h3 := denK_sound h2
  have h4 := getsK_sound hr h3
  simp only [List.map_cons, h1]
  exact h4
theorem getsK_uni : ∀ {l : List Operand} {K : List Value → Prop}, getsK fr bl l K → ∃ vs, K vs ∧ ∀ a w, Rel E n ⟨fr, bl, R⟩ a w → l.map a.eval = vs
 | [], _, h => ⟨[], h, fun _ _ _ => rfl⟩
 | x :: r, K, h => by
  obtain ⟨s, h1, h2⟩ := getK_uni (E := E) (n := n) (bl := bl) (R := R) h
  obtain ⟨vs, h3, h4⟩ := getsK_uni (denK_sound h1)
  exact ⟨_, h3, fun a w hr => by rw [List.map_cons, (h2 a w hr).1, h4 a w hr]⟩
theorem pushBlk_eq (x : Blk) : ∀ bl, pushBlk bl x = (bl ++ [x], bl.length)
 | [] => rfl
 | b :: r => by simp [pushBlk, pushBlk_eq x r]
theorem idOf_append (B : List Blk) : ∀ (A : List Blk) (h : Nat), h < A.length → idOf (A ++ B) h = idOf A h
 | [], h, hl => by simp at hl
 | b :: r, 0, _ => rfl
 | b :: r, h + 1, hl => by simp only [List.cons_append, idOf]; exact idOf_append B r h (by simpa using hl)
theorem idOf_at (B : List Blk) (b : Blk) : ∀ (A : List Blk), idOf (A ++ b :: B) A.length = b.id
 | [] => rfl
 | _ :: r => by simp only [List.cons_append, List.length_cons, idOf]; exact idOf_at B b r
theorem idOf_map : ∀ (A B : List Blk), A.map Blk.id = B.map Blk.id → ∀ h, idOf A h = idOf B h
 | [], [], _, _ => rfl
 | [], _ :: _, e, _ => by simp at e
 | _ :: _, [], e, _ => by simp at e
 | b :: r, b' :: r', e, 0 => by simp at e; exact e.1
 | b :: r, b' :: r', e, h + 1 => by simp at e; exact idOf_map r r' e.2 h
theorem den_push {s : SV} (hs : s.ok bl) (x : Blk) : s.den (bl ++ [x]) = s.den bl ∧ s.ok (bl ++ [x]) := by
 cases s with
 | v y => exact ⟨rfl, trivial⟩
 | b t => exact ⟨rfl, trivial⟩
 | p h off =>
  have hs' : h < bl.length := hs
  refine ⟨?_, ?_⟩
  ·simp only [SV.den, idOf_append [x] bl h hs']
  show h < (bl ++ [x]).length
  simp; omega
theorem den_ids {s : SV} {bl' : List Blk} (he : bl'.map Blk.id = bl.map Blk.id) (hs : s.ok bl) : s.den bl' = s.den bl ∧ s.ok bl' := by
 cases s with
 | v y => exact ⟨rfl, trivial⟩
 | b t => exact ⟨rfl, trivial⟩
 | p h off =>
  refine ⟨?_, ?_⟩
  ·simp only [SV.den, idOf_map _ _ he h]
  show h < bl'.length
  have : bl'.length = bl.length := by simpa using congrArg List.length he
  rw [this]; exact hs
theorem Rel.push (hr : Rel E n ⟨fr, bl, R⟩ a w) (cs : List Value) (t : TypeId) : Rel E n ⟨fr, bl ++ [⟨w.heap.size, cs, t⟩], R⟩ a (w.alloc (.cells ⟨cs⟩ t)) := by
 refine ⟨hr.size, hr.defers, fun k sv hk => ?_, ?_⟩
 ·obtain ⟨h1, h2⟩ := hr.val k sv hk
  obtain ⟨h3, h4⟩ := den_push h2 ⟨w.heap.size, cs, t⟩
  exact ⟨by simp only; rw [h3]; exact h1, h4⟩
 refine (hr.sat.push (.cells ⟨cs⟩ t)).perm ?_
 simp only [St.hall, List.map_append, List.map_cons, List.map_nil, List.append_assoc, Blk.ent]
 exact (List.perm_middle).symm
theorem Rel.ids (hr : Rel E n ⟨fr, bl, R⟩ a w) {bl' : List Blk} {R' : List Hp} {w' : World} (he : bl'.map Blk.id = bl.map Blk.id) (hs : Sat E (St.hall ⟨[], bl', R'⟩) w') :
  Rel E n ⟨fr, bl', R'⟩ a w' := by
 refine ⟨hr.size, hr.defers, fun k sv hk => ?_, hs⟩
 obtain ⟨h1, h2⟩ := hr.val k sv hk
 obtain ⟨h3, h4⟩ := den_ids he h2
 exact ⟨by simp only; rw [h3]; exact h1, h4⟩
theorem nthBlk_spec : ∀ {bl : List Blk} {h : Nat} {b : Blk}, nthBlk bl h = some b → ∃ A B, bl = A ++ b :: B ∧ A.length = h
 | [], _, _, e => by simp [nthBlk] at e
 | x :: r, 0, b, e => by simp [nthBlk] at e; subst e; exact ⟨[], r, rfl, rfl⟩
 | x :: r, h + 1, b, e => by
  obtain ⟨A, B, h1, h2⟩ := nthBlk_spec (bl := r) (h := h) e
  exact ⟨x :: A, B, by rw [h1]; rfl, by simp [h2]⟩
theorem setBlk_spec (b : Blk) (B : List Blk) (cs : List Value) : ∀ (A : List Blk) (bl' : List Blk), setBlk (A ++ b :: B) A.length cs = some bl' → bl' = A ++ ⟨b.id, cs, b.ty⟩ :: B
 | [], bl', e => by cases b; simp [setBlk] at e; exact e.symm
 | x :: A, bl', e => by
  simp only [List.cons_append, List.length_cons, setBlk] at e
  split at e
  ·rename_i r' hr'
   cases e
   rw [setBlk_spec b B cs A r' hr']; rfl
  cases e
theorem takeAt_spec : ∀ {cs : List Value} {off m : Nat} {l : List Value}, takeAt cs off m = some l → l.length = m ∧ ∀ i, i < m → cs[off + i]? = l[i]?
 | cs, 0, 0, l, e => by cases cs <;> simp [takeAt] at e <;> subst e <;> exact ⟨rfl, fun i hi => by omega⟩
 | [], 0, m + 1, l, e => by simp [takeAt] at e
 | c :: r, 0, m + 1, l, e => by
  simp only [takeAt] at e
  split at e
  ·rename_i l' hl'
   cases e
   obtain ⟨h1, h2⟩ := takeAt_spec hl'
   refine ⟨by simp [h1], fun i hi => ?_⟩
   cases i with
   | zero => simp
   | succ i =>
    have := h2 i (by omega)
    simp only [Nat.zero_add] at this ⊢
    simpa using this
  cases e
 | [], off + 1, m, l, e => by cases m <;> simp [takeAt] at e
 | c :: r, off + 1, m, l, e => by
  have e' : takeAt r off m = some l := by cases m <;> simpa [takeAt] using e
  obtain ⟨h1, h2⟩ := takeAt_spec e'
  refine ⟨h1, fun i hi => ?_⟩
  have := h2 i hi
  rw [show off + 1 + i = (off + i) + 1 by omega, List.getElem?_cons_succ]
  exact this
theorem setAt_cons (c : Value) : ∀ (l : List Value) (r : List Value) (off : Nat), setAt (c :: r) (off + 1) l = c :: setAt r off l
 | [], _, _ => rfl
 | x :: l, r, off => by simp only [setAt, List.set_cons_succ]; exact setAt_cons c l _ _
theorem layAt_spec : ∀ {cs : List Value} {off : Nat} {l cs' : List Value}, layAt cs off l = some cs' → off + l.length ≤ cs.length ∧ cs' = setAt cs off l
 | cs, 0, [], cs', e => by cases cs <;> simp [layAt] at e <;> subst e <;> simp [setAt]
 | [], 0, x :: l, cs', e => by simp [layAt] at e
 | c :: r, 0, x :: l, cs', e => by
  simp only [layAt] at e
  split at e
  ·rename_i r' hr'
   cases e
   obtain ⟨h1, h2⟩ := layAt_spec hr'
   refine ⟨by simp at h1 ⊢; omega, ?_⟩
   simp only [setAt, List.set_cons_zero]
   rw [setAt_cons, ← h2]
  cases e
 | [], off + 1, l, cs', e => by cases l <;> simp [layAt] at e
 | c :: r, off + 1, l, cs', e => by
  have e' : ∃ r', layAt r off l = some r' ∧ cs' = c :: r' := by
   cases l <;>
   ·simp only [layAt] at e
    split at e
    ·rename_i r' hr'
     cases e; exact ⟨r', hr', rfl⟩
    cases e
  obtain ⟨r', hr', rfl⟩ := e'
  obtain ⟨h1, h2⟩ := layAt_spec hr'
  refine ⟨by simp at h1 ⊢; omega, ?_⟩
  rw [setAt_cons, ← h2]
theorem lenIs_spec : ∀ {l : List Value} {m : Nat}, lenIs l m = true → l.length = m
 | [], 0, _ => rfl
 | [], m + 1, h => by simp [lenIs] at h
 | _ :: r, 0, h => by simp [lenIs] at h
 | _ :: r, m + 1, h => by simp only [lenIs] at h; simp [lenIs_spec h]
abbrev Lands (E : World) (n : Nat) (K : St → Prop) (a : Act) (w : World) : Prop := ∃ st, Rel E n st a w ∧ K st
theorem wp_value {o : Oper} {v : Value} {w' : World} {s : SV} {K : St → Prop} {Q : Exit → Act → World → Prop}
  (hrun : (execOp a.eval o).run P w = .ok (.value v) w') (hr : Rel E n ⟨fr, bl, R⟩ a w') (hv : v = s.den bl) (hs : s.ok bl)
  (h : putK n fr o.dst s fun fr => K ⟨fr, bl, R⟩) : o.wp P a w (Lands E n K) Q := by
 unfold Oper.wp
 rw [hrun, Oper.upon_value, hv]
 obtain ⟨fr', h1, h2⟩ := putK_sound hr hs h
 exact ⟨_, h2, h1⟩
theorem wp_none {o : Oper} {w' : World} {st : St} {K : St → Prop} {Q : Exit → Act → World → Prop}
  (hrun : (execOp a.eval o).run P w = .ok .skip w') (hd : o.dst = none) (hr : Rel E n st a w') (h : K st) : o.wp P a w (Lands E n K) Q := by
 unfold Oper.wp
 rw [hrun, Oper.upon_skip, hd]
 exact ⟨_, hr, h⟩
end
end Go.SX
namespace Go.SX
section
variable {P : Program} {E : World} {Γ : Ty} {n : Nat}
theorem VCraw.use {o : Oper} {st : St} {K : St → Prop} {a : Act} {w : World} {Q : Exit → Act → World → Prop} (h : VCraw P E n o st K) (hr : Rel E n st a w) :
  o.wp P a w (Lands E n K) Q := by
 obtain ⟨h⟩ := h
 exact h a w hr Q
abbrev Gives (P : Program) (bl : List Blk) (c : Sem Value) (s : SV) : Prop := s.ok bl ∧ ∀ w, c.run P w = .ok (s.den bl) w
theorem exIntCmp_sound {op : BinOp} {x y : Int} {K : SV → Prop} {raw : Prop} (bl : List Blk) (h : exIntCmp op x y K raw) :
  raw ∨ ∃ s, K s ∧ Gives P bl (Op.intCmp op x y) s := by
 unfold exIntCmp at h
 split at h
 all_goals first
  | exact .inl h
  | exact .inr ⟨_, h, trivial, fun w => rfl⟩
theorem exInt_sound {op : BinOp} {k : IntKind} {x y : Int} {xt : TypeId} {K : SV → Prop} {raw : Prop} (bl : List Blk) (hs : isShift op = false) (h : exInt op k x y K raw) :
  raw ∨ ∃ s, K s ∧ Gives P bl (binOp op xt (.int k x) (.int k y)) s := by
 unfold exInt at h
 split at h
 case h_4 =>
  obtain ⟨h1, h2⟩ := h
  exact .inr ⟨_, h2, trivial, fun w => by simp [binOp, Op.intDiv, h1, SV.den]⟩
 case h_5 =>
  obtain ⟨h1, h2⟩ := h
  exact .inr ⟨_, h2, trivial, fun w => by simp [binOp, Op.intDiv, h1, SV.den]⟩
 case h_12 =>
  rename_i h1 h2 h3 h4 h5 h6 h7 h8 h9 h10 h11
  rcases exIntCmp_sound (P := P) bl h with h | ⟨s, h12, h13, h14⟩
  ·exact .inl h
  refine .inr ⟨s, h12, h13, fun w => ?_⟩
  rw [← h14 w]
  cases op <;> simp_all [binOp]
 all_goals first
  | exact .inl h
  | exact .inr ⟨_, h, trivial, fun w => by simp [binOp, Op.intArith, Op.intBits, SV.den]⟩
theorem exShift_sound {op : BinOp} {k k' : IntKind} {x y : Int} {xt : TypeId} {K : SV → Prop} {raw : Prop} (bl : List Blk) (h : exShift op k x y K raw) :
  raw ∨ ∃ s, K s ∧ Gives P bl (binOp op xt (.int k x) (.int k' y)) s := by
 unfold exShift at h
 split at h
 ·obtain ⟨h1, h2⟩ := h
  exact .inr ⟨_, h2, trivial, fun w => by simp [binOp, Op.shift, SV.den, show ¬ y < 0 by omega]⟩
 ·obtain ⟨h1, h2⟩ := h
  exact .inr ⟨_, h2, trivial, fun w => by simp [binOp, Op.shift, SV.den, show ¬ y < 0 by omega]⟩
 exact .inl h
theorem exStr_sound {op : BinOp} {x y : ByteArray} {xt : TypeId} {K : SV → Prop} {raw : Prop} (bl : List Blk) (h : exStr op x y K raw) :
  raw ∨ ∃ s, K s ∧ Gives P bl (binOp op xt (.string x) (.string y)) s := by
 unfold exStr at h
 split at h
 ·obtain ⟨h1, h2⟩ := h
  refine .inr ⟨_, h2, trivial, fun w => ?_⟩
  simp only [binOp, Op.stringOp, SV.den]
  rw [if_neg (by omega)]; rfl
 all_goals first
  | exact .inl h
  | exact .inr ⟨_, h, trivial, fun w => by simp [binOp, Op.stringOp, SV.den]⟩
theorem run_equal_bool {xt : TypeId} (hu : P.underlying xt = some .bool) (x y : Bool) (w : World) : (Op.equal xt (.bool x) (.bool y)).run P w = .ok (x == y) w := by
 show (Op.equalIn (9999 + 1) xt (.bool x) (.bool y)).run P w = _
 rw [Op.equalIn]
 simp only [Sem.run_bind, run_underlying hu, Result.andThen_ok]
 rfl
theorem exBool_sound {op : BinOp} {x y : Bool} {xt : TypeId} {K : SV → Prop} {raw : Prop} (bl : List Blk) (hu : P.underlying xt = some .bool) (h : exBool op x y K raw) :
  raw ∨ ∃ s, K s ∧ Gives P bl (binOp op xt (.bool x) (.bool y)) s := by
 unfold exBool at h
 split at h
 ·refine .inr ⟨_, h, trivial, fun w => ?_⟩
  simp only [binOp, Sem.run_bind, run_equal_bool hu, Result.andThen_ok]; rfl
 ·refine .inr ⟨_, h, trivial, fun w => ?_⟩
  simp only [binOp, Sem.run_bind, run_equal_bool hu, Result.andThen_ok]; rfl
 exact .inl h
theorem run_equal_nil {xt : TypeId} {u : TypeDesc} (hu : P.underlying xt = some u) {x y : Value} {t : Bool} (w : World)
  (h : ((∃ e a m c m' c', u = .slice e ∧ x = .slice a m c ∧ y = .slice none m' c' ∧ t = a.isNone) ∨ (∃ e a, u = .pointer e ∧ x = .pointer a ∧ y = .pointer none ∧ t = a.isNone) ∨ (∃ k e a, u = .map k e ∧ x = .map a ∧ y = .map none ∧ t = a.isNone))) :
  (Op.equal xt x y).run P w = .ok t w := by
 show (Op.equalIn (9999 + 1) xt x y).run P w = _
 rw [Op.equalIn]
 simp only [Sem.run_bind, run_underlying hu, Result.andThen_ok]
 rcases h with ⟨e, a, m, c, m', c', rfl, rfl, rfl, rfl⟩ | ⟨e, a, rfl, rfl, rfl, rfl⟩ | ⟨k, e, a, rfl, rfl, rfl, rfl⟩ <;> cases a <;> rfl
theorem exNil_sound {op : BinOp} {t : Bool} {xt : TypeId} {x y : Value} {K : SV → Prop} {raw : Prop} (bl : List Blk) (he : ∀ w, (Op.equal xt x y).run P w = .ok t w) (hg : ∀ op w x' y', (eqGuard op xt x' y' x y).run P w = .ok () w)
  (hb1 : binOp .eql xt x y = do pure (.bool (← Op.equal xt x y))) (hb2 : binOp .neq xt x y = do pure (.bool (!(← Op.equal xt x y)))) (h : exNil op t K raw) :
  raw ∨ ∃ s, K s ∧ ∀ x' y', Gives P bl (do eqGuard op xt x' y' x y; binOp op xt x y) s := by
 unfold exNil at h
 split at h
 ·refine .inr ⟨_, h, fun x' y' => ⟨trivial, fun w => ?_⟩⟩
  simp only [Sem.run_bind, hg, Result.andThen_ok, hb1, he]; rfl
 ·refine .inr ⟨_, h, fun x' y' => ⟨trivial, fun w => ?_⟩⟩
  simp only [Sem.run_bind, hg, Result.andThen_ok, hb2, he]; rfl
 exact .inl h
theorem asB_den {s : SV} {t : Bool} (h : asB s = some t) (bl : List Blk) : s.den bl = .bool t := by
 unfold asB at h
 split at h
 ·cases h; rfl
 ·cases h; rfl
 cases h
theorem exBin_sound {op : BinOp} {xt : TypeId} {sx sy : SV} {K : SV → Prop} {raw : Prop} (hΓ : TyOk P Γ) (bl : List Blk) (h : exBin Γ op xt sx sy K raw) :
  raw ∨ ∃ s, K s ∧ ∀ x y, Gives P bl (do eqGuard op xt x y (sx.den bl) (sy.den bl); binOp op xt (sx.den bl) (sy.den bl)) s := by
 unfold exBin at h
 split at h
 ·rename_i k x
  split at h
  ·rename_i k' y
   have key : raw ∨ ∃ s, K s ∧ Gives P bl (binOp op xt (.int k x) (.int k' y)) s := by
    split at h
    ·exact exShift_sound bl h
    rename_i hsh
    split at h
    ·rename_i hk
     have := of_decide_eq_true hk
     subst this
     exact exInt_sound bl hsh h
    exact .inl h
   rcases key with h | ⟨s, h1, h2, h3⟩
   ·exact .inl h
   refine .inr ⟨s, h1, fun x' y' => ⟨h2, fun w => ?_⟩⟩
   have := h3 w
   generalize s.den bl = r at this ⊢
   simp only [SV.den, eqGuard]
   split <;> simp [this]
  exact .inl h
 ·rename_i x
  split at h
  ·rename_i y
   rcases exStr_sound (P := P) (xt := xt) bl h with h | ⟨s, h1, h2, h3⟩
   ·exact .inl h
   refine .inr ⟨s, h1, fun x' y' => ⟨h2, fun w => ?_⟩⟩
   have := h3 w
   generalize s.den bl = r at this ⊢
   simp only [SV.den, eqGuard]
   split <;> simp [this]
  exact .inl h
 ·split at h
  ·split at h
   ·rename_i hu
    exact exNil_sound bl (fun w => run_equal_nil (undOf_ok hΓ hu) w (.inr (.inl ⟨_, _, rfl, rfl, rfl, rfl⟩))) (fun op w _ _ => by cases op <;> rfl) rfl rfl h
   exact .inl h
  exact .inl h
 ·split at h
  ·split at h
   ·rename_i hu
    exact exNil_sound bl (fun w => run_equal_nil (undOf_ok hΓ hu) w (.inl ⟨_, _, _, _, _, _, rfl, rfl, rfl, rfl⟩)) (fun op w _ _ => by cases op <;> rfl) rfl rfl h
   exact .inl h
  exact .inl h
 ·split at h
  ·split at h
   ·rename_i hu
    exact exNil_sound bl (fun w => run_equal_nil (undOf_ok hΓ hu) w (.inr (.inl ⟨_, _, rfl, rfl, rfl, rfl⟩))) (fun op w _ _ => by cases op <;> rfl) rfl rfl h
   exact .inl h
  exact .inl h
 ·split at h
  ·split at h
   ·rename_i hu
    exact exNil_sound bl (fun w => run_equal_nil (undOf_ok hΓ hu) w (.inr (.inr ⟨_, _, _, rfl, rfl, rfl, rfl⟩))) (fun op w _ _ => by cases op <;> rfl) rfl rfl h
   exact .inl h
  exact .inl h
 split at h
 ·exact .inl h
 rename_i x hx
 split at h
 ·exact .inl h
 rename_i y hy
 split at h
 ·rename_i hu
  rcases exBool_sound (P := P) (xt := xt) bl (undOf_ok hΓ hu) h with h | ⟨s, h1, h2, h3⟩
  ·exact .inl h
  refine .inr ⟨s, h1, fun x' y' => ⟨h2, fun w => ?_⟩⟩
  have := h3 w
  generalize s.den bl = r at this ⊢
  rw [asB_den hx, asB_den hy]
  simp only [eqGuard]
  split <;> simp [this]
 exact .inl h
theorem exUn_sound {op : UnOp} {sx : SV} {K : SV → Prop} {raw : Prop} (bl : List Blk) (h : exUn op sx K raw) :
  raw ∨ ∃ s, K s ∧ Gives P bl (Op.unary op (sx.den bl)) s := by
 unfold exUn at h
 split at h
 ·split at h
  ·exact .inr ⟨_, h, trivial, fun w => by simp [Op.unary, Op.intArith, SV.den]⟩
  exact .inl h
 ·split at h
  ·exact .inr ⟨_, h, trivial, fun w => by simp [Op.unary, SV.den]⟩
  ·exact .inr ⟨_, h, trivial, fun w => by simp [Op.unary, SV.den]⟩
  ·exact .inr ⟨_, h, trivial, fun w => by simp [Op.unary, SV.den]⟩
  exact .inl h
 exact .inl h
theorem exLo_sound {fr : Fr} {bl : List Blk} {R : List Hp} {lo : Option Operand} {h : Nat} {K : Nat → Prop} {raw : Prop}
  (hh : exLo fr lo h K raw) : raw ∨ ∃ l, K l ∧ ∀ a w, Rel E n ⟨fr, bl, R⟩ a w → (∀ code, (match lo.map a.eval with
   | some v => Instr.sliceBound v h code
   | none => pure 0).run P w = .ok l w) := by
 unfold exLo at hh
 split at hh
 ·exact .inr ⟨0, hh, fun a w _ code => rfl⟩
 obtain ⟨s, h2, h1⟩ := getK_uni (E := E) (n := n) (bl := bl) (R := R) hh
 split at h2
 ·obtain ⟨h3, h4⟩ := h2
  refine .inr ⟨_, h4, fun a w hr code => ?_⟩
  simp [(h1 a w hr).1, SV.den, Instr.sliceBound, asIntOf, h3]
 exact .inl h2
end
end Go.SX
namespace Go.SX
section
variable {P : Program} {E : World} {Γ : Ty} {n : Nat}
theorem exBounds_sound {fr : Fr} {bl : List Blk} {R : List Hp} {lo hi : Option Operand} {len cap : Nat} {K : Nat → Nat → Prop} {raw : Prop} (isSlice : Bool)
  (hh : exBounds fr len cap lo hi K raw) : raw ∨ ∃ l h, K l h ∧ ∀ a w, Rel E n ⟨fr, bl, R⟩ a w → (Instr.sliceBounds isSlice len cap (lo.map a.eval) (hi.map a.eval) none).run P w = .ok (l, h, cap) w := by
 unfold exBounds at hh
 split at hh
 ·rcases exLo_sound (P := P) (E := E) (n := n) (bl := bl) (R := R) hh with h | ⟨l, h1, h3⟩
  ·exact .inl h
  refine .inr ⟨l, len, h1, fun a w hr => ?_⟩
  have h4 := h3 a w hr .sliceB
  simp only [Instr.sliceBounds, Option.map_none, Sem.run_bind, Sem.run_pure, Result.andThen_ok, Option.isSome_none]
  rw [show (if (false = true) then BoundsCode.slice3C else BoundsCode.sliceB) = .sliceB from rfl]
  cases lo with
  | none => simp only [Option.map_none] at h4 ⊢; simp; simp at h4; exact h4
  | some x => simp only [Option.map_some] at h4 ⊢; simp [h4]
 rename_i x
 obtain ⟨s, h2, h1⟩ := getK_uni (E := E) (n := n) (bl := bl) (R := R) hh
 split at h2
 ·obtain ⟨h3, h4⟩ := h2
  rcases exLo_sound (P := P) (E := E) (n := n) (bl := bl) (R := R) h4 with h | ⟨l, h5, h6⟩
  ·exact .inl h
  refine .inr ⟨l, _, h5, fun a w hr => ?_⟩
  have h7 := h6 a w hr .sliceB
  have h8 : ∀ code, (Instr.sliceBound (a.eval x) cap code).run P w = .ok _ w := fun code => by
   simp only [(h1 a w hr).1, SV.den, Instr.sliceBound, asIntOf, Sem.run_bind, Sem.run_pure, Result.andThen_ok]
   rw [if_pos h3]; rfl
  simp only [Instr.sliceBounds, Option.map_some, Sem.run_bind, Sem.run_pure, Result.andThen_ok, Option.isSome_none, h8]
  cases lo with
  | none => simp only [Option.map_none] at h7 ⊢; simp; simp at h7; exact h7
  | some x => simp only [Option.map_some] at h7 ⊢; simp [h7]
 exact .inl h2
theorem exBounds3_sound {fr : Fr} {bl : List Blk} {R : List Hp} {lo : Option Operand} {hi mx : Operand} {len cap : Nat} {K : Nat → Nat → Nat → Prop} {raw : Prop}
  (hh : exBounds3 fr cap lo hi mx K raw) : raw ∨ ∃ l h m, K l h m ∧ ∀ a w, Rel E n ⟨fr, bl, R⟩ a w → (Instr.sliceBounds true len cap (lo.map a.eval) (some (a.eval hi)) (some (a.eval mx))).run P w = .ok (l, h, m) w := by
 unfold exBounds3 at hh
 obtain ⟨sm, h2, h1⟩ := getK_uni (E := E) (n := n) (bl := bl) (R := R) hh
 split at h2
 ·obtain ⟨h3, h4⟩ := h2
  obtain ⟨s, h5, h6⟩ := getK_uni (E := E) (n := n) (bl := bl) (R := R) h4
  split at h5
  ·obtain ⟨h7, h8⟩ := h5
   rcases exLo_sound (P := P) (E := E) (n := n) (bl := bl) (R := R) h8 with h | ⟨l, h9, h10⟩
   ·exact .inl h
   refine .inr ⟨l, _, _, h9, fun a w hr => ?_⟩
   have g1 : ∀ code, (Instr.sliceBound (a.eval mx) cap code).run P w = .ok _ w := fun code => by
    simp only [(h1 a w hr).1, SV.den, Instr.sliceBound, asIntOf, Sem.run_bind, Sem.run_pure, Result.andThen_ok]
    rw [if_pos h3]; rfl
   have g2 : ∀ code, (Instr.sliceBound (a.eval hi) _ code).run P w = .ok _ w := fun code => by
    simp only [(h6 a w hr).1, SV.den, Instr.sliceBound, asIntOf, Sem.run_bind, Sem.run_pure, Result.andThen_ok]
    rw [if_pos h7]; rfl
   have g3 := h10 a w hr .slice3C
   simp only [Instr.sliceBounds, Sem.run_bind, Result.andThen_ok, Option.isSome_some, g1, g2]
   cases lo with
   | none => simp only [Option.map_none] at g3 ⊢; simp; simp at g3; exact g3
   | some x => simp only [Option.map_some] at g3 ⊢; simp [g3]
  exact .inl h5
 exact .inl h2
theorem nthF_eq : ∀ (l : List (Nat × TypeId)) (i : Nat), nthF l i = l[i]?
 | [], _ => by simp [nthF]
 | _ :: _, 0 => rfl
 | _ :: r, i + 1 => by simp only [nthF, List.getElem?_cons_succ]; exact nthF_eq r i
theorem nthV_eq : ∀ (l : List Value) (i : Nat), nthV l i = l[i]?
 | [], _ => by simp [nthV]
 | _ :: _, 0 => rfl
 | _ :: r, i + 1 => by simp only [nthV, List.getElem?_cons_succ]; exact nthV_eq r i
theorem zipIdx_set (l : List Value) : ∀ (cs : Array Value) (off j : Nat), (l.zipIdx j).foldl (fun cs (p : Value × Nat) => cs.setIfInBounds (off + p.2) p.1) cs = ⟨setAt cs.toList (off + j) l⟩ := by
 induction l with
 | nil => intro cs off j; simp [setAt]
 | cons x r ih =>
  intro cs off j
  simp only [List.zipIdx_cons, List.foldl_cons]
  rw [ih]
  simp only [setAt, Array.toList_setIfInBounds, Nat.add_assoc]
theorem fill_step (place : Nat → Option (Nat × Nat)) (cells : Array Value) (i : Nat) (v : Value) (rest : List (Nat × Value)) (off size : Nat) (h : place i = some (off, size)) (h1 : v.cells.toList.length = size)
  (h2 : off + v.cells.toList.length ≤ cells.toList.length) :
  Instr.fill place cells ((i, v) :: rest) = Instr.fill place ⟨setAt cells.toList off v.cells.toList⟩ rest := by
 have e1 : v.cells.size = size := by simpa using h1
 have e2 : ¬ (off + v.cells.size > cells.size) := by simp at h2; omega
 have e3 : v.cells.zipIdx.foldl (fun cs (p : Value × Nat) => cs.setIfInBounds (off + p.2) p.1) cells = ⟨setAt cells.toList off v.cells.toList⟩ := by
  have := zipIdx_set v.cells.toList cells off 0
  simp only [Nat.add_zero] at this
  rw [← this, ← Array.foldl_toList, Array.toList_zipIdx]
 rw [← e3]
 simp only [Instr.fill, h]
 rw [if_neg (by simp only [e1] at e2 ⊢; simp; omega)]
theorem exBuild_sound {fs : List (Nat × TypeId)} {fr : Fr} {bl : List Blk} {R : List Hp} {place : Nat → Option (Nat × Nat)}
  (hp : ∀ (i off ft : Nat) (ti : TI), fs[i]? = some (off, ft) → tyOf Γ ft = some ti → place i = some (off, ti.size)) :
  ∀ (parts : List (Nat × Operand)) (cs : List Value) (K : List Value → Prop), exBuild Γ fs fr bl cs parts K →
   ∃ cs', K cs' ∧ ∀ a w, Rel E n ⟨fr, bl, R⟩ a w → Instr.fill place ⟨cs⟩ (parts.map fun p => (p.1, a.eval p.2)) = some ⟨cs'⟩
 | [], cs, K, h => ⟨cs, h, fun _ _ _ => rfl⟩
 | (i, x) :: r, cs, K, h => by
  unfold exBuild at h
  split at h
  ·exact h.elim
  rename_i off ft hf
  split at h
  ·exact h.elim
  rename_i ti ht
  obtain ⟨s, h2, h1⟩ := getK_uni (E := E) (n := n) (bl := bl) (R := R) h
  have h3 := cellsK_sound h2
  split at h3
  ·exact h3.elim
  rename_i hl
  split at h3
  ·exact h3.elim
  rename_i cs' hc
  obtain ⟨h4, h5⟩ := layAt_spec hc
  obtain ⟨cs2, h6, h7⟩ := exBuild_sound hp r cs' K h3
  refine ⟨cs2, h6, fun a w hr => ?_⟩
  have h1' := (h1 a w hr).1
  rw [List.map_cons]
  simp only
  rw [fill_step place ⟨cs⟩ i (a.eval x) _ off ti.size (hp i off ft ti (by rw [← nthF_eq]; exact hf) ht) (by rw [h1']; exact lenIs_spec hl) (by rw [h1']; exact h4)]
  rw [h1', ← h5]
  exact h7 a w hr
end
end Go.SX
namespace Go.SX
section
variable {P : Program} {E : World} {Γ : Ty} {n : Nat}
theorem run_mapM_list {α β : Type} (f : α → Sem β) (g : α → β) (w : World) : ∀ (l : List α), (∀ x ∈ l, (f x).run P w = .ok (g x) w) → (l.mapM f).run P w = .ok (l.map g) w
 | [], _ => rfl
 | x :: r, h => by
  simp only [List.mapM_cons, Sem.run_bind, h x (by simp), Result.andThen_ok, run_mapM_list f g w r (fun y hy => h y (by simp [hy])), Sem.run_pure, List.map_cons]
theorem run_mapM_array {α β : Type} (f : α → Sem β) (g : α → β) (w : World) (l : Array α) (h : ∀ x ∈ l.toList, (f x).run P w = .ok (g x) w) : (l.mapM f).run P w = .ok (l.map g) w := by
 rw [Array.mapM_eq_mapM_toList, Sem.run_map, run_mapM_list f g w l.toList h, Result.andThen_ok]
 congr 1
 apply Array.ext'
 simp
theorem fldsOk_spec : ∀ {fs : List (Nat × TypeId)}, fldsOk Γ fs = true → ∀ f ∈ fs, ∃ k, sizOf Γ f.2 = some k
 | [], _, f, hf => by cases hf
 | (_, t) :: r, h, f, hf => by
  unfold fldsOk at h
  split at h
  ·rename_i k hk
   rcases List.mem_cons.1 hf with rfl | hf
   ·exact ⟨k, hk⟩
   exact fldsOk_spec h f hf
  cases h
theorem run_build (hΓ : TyOk P Γ) {t : TypeId} {fl : List (Nat × TypeId)} {sz by_ : Nat} {z : Value} (ht : tyOf Γ t = some ⟨.struct fl, sz, by_, z⟩) (hf : fldsOk Γ fl = true)
  {fr : Fr} {bl : List Blk} {R : List Hp} {parts : List (Nat × Operand)} {K : List Value → Prop}
  (h : exBuild Γ fl fr bl z.cells.toList parts K) : ∃ cs, K cs ∧ ∀ a w, Rel E n ⟨fr, bl, R⟩ a w → (Instr.build t ((⟨parts⟩ : Array (Nat × Operand)).map fun p => (p.1, a.eval p.2))).run P w = .ok (.agg ⟨cs⟩) w := by
 obtain ⟨⟨fs, hu, hfl⟩, _⟩ := hΓ _ _ ht
 obtain ⟨cs, h1, h2⟩ := exBuild_sound (E := E) (n := n) (R := R) (place := fun i => (fs.map fun f => (f.offset, (sizOf Γ f.type).getD 0))[i]?) (fun i off ft ti hfi hti => by
  rw [← hfl] at hfi
  simp only [List.getElem?_map, Option.map_eq_some_iff] at hfi
  obtain ⟨f, hf1, hf2⟩ := hfi
  cases hf2
  have : fs[i]? = some f := by simpa using hf1
  simp [this, sizOf, hti]) parts z.cells.toList K h
 refine ⟨cs, h1, fun a w hr => ?_⟩
 have hm : (fs.mapM fun f => (do pure (f.offset, ← sizeOf f.type) : Sem (Nat × Nat))).run P w = .ok (fs.map fun f => (f.offset, (sizOf Γ f.type).getD 0)) w :=
  run_mapM_array _ _ w _ fun f hfm => by
   obtain ⟨k, hk⟩ := fldsOk_spec hf (f.offset, f.type) (by rw [← hfl]; exact List.mem_map.2 ⟨f, hfm, rfl⟩)
   simp only at hk
   simp [siz_size hΓ hk, hk]
 unfold Instr.build
 simp only [Sem.run_bind, ty_zero hΓ ht, Result.andThen_ok, run_underlying hu, hm]
 have h3 : ((⟨parts⟩ : Array (Nat × Operand)).map fun p => (p.1, a.eval p.2)).toList = parts.map fun p => (p.1, a.eval p.2) := by simp
 rw [h3]
 have h4 : (⟨z.cells.toList⟩ : Array Value) = z.cells := rfl
 have h2' := h2 a w hr
 rw [h4] at h2'
 rw [h2']
 rfl
theorem fld_of {fs : Array Field} {fl : List (Nat × TypeId)} (hfl : fs.toList.map (fun f => (f.offset, f.type)) = fl) {f off ft : Nat} (hf : nthF fl f = some (off, ft)) :
  ∃ fd, fs[f]? = some fd ∧ fd.offset = off ∧ fd.type = ft := by
 rw [nthF_eq, ← hfl] at hf
 simp only [List.getElem?_map, Option.map_eq_some_iff] at hf
 obtain ⟨fd, h1, h2⟩ := hf
 cases h2
 exact ⟨fd, by simpa using h1, rfl, rfl⟩
theorem run_fieldAt (hΓ : TyOk P Γ) {t ft : TypeId} {fl : List (Nat × TypeId)} {f off k : Nat} {x : Value} {b o : Nat} {w : World}
  (hu : undOf Γ t = some (.struct fl)) (hf : nthF fl f = some (off, ft)) (hs : sizOf Γ ft = some (k + 1)) (hx : x = .pointer (some ⟨b, o, none⟩)) :
  (Instr.fieldAt t x f).run P w = .ok (.pointer (some ⟨b, o + off, none⟩)) w := by
 unfold Instr.fieldAt
 obtain ⟨fs, hu', hfl⟩ := undOf_ok hΓ hu
 obtain ⟨fd, h1, h2, h3⟩ := fld_of hfl hf
 subst h2 h3
 simp only [Sem.run_bind, run_underlying hu', Result.andThen_ok, h1]
 subst hx
 simp only [Instr.sureAddr, Sem.run_bind, Sem.run_pure, Result.andThen_ok, fieldPlace, siz_size hΓ hs]
 simp [addr_add]
theorem run_part (hΓ : TyOk P Γ) {ft : TypeId} {ti : TI} (ht : tyOf Γ ft = some ti) {cs : List Value} {off : Nat} {w : World} :
  (∀ l, ti.agg = true → takeAt cs off ti.size = some l → (part ft ⟨cs⟩ off).run P w = .ok (.agg ⟨l⟩) w) ∧
  (∀ c, ti.agg = false → takeAt cs off 1 = some [c] → (part ft ⟨cs⟩ off).run P w = .ok c w) := by
 refine ⟨fun l ha hl => ?_, fun c ha hl => ?_⟩
 ·obtain ⟨h1, h2⟩ := takeAt_spec hl
  unfold part
  simp only [Sem.run_bind, ty_agg hΓ ht, Result.andThen_ok, ha, if_true, ty_size hΓ ht, Sem.run_pure]
  congr 2
  apply Array.ext'
  apply List.ext_getElem?
  intro i
  simp only [Array.toList_extract, List.extract_eq_take_drop, List.getElem?_take, List.getElem?_drop]
  by_cases hi : i < ti.size
  ·rw [if_pos (by omega)]; exact h2 i hi
  rw [if_neg (by omega), List.getElem?_eq_none (by omega)]
 obtain ⟨h1, h2⟩ := takeAt_spec hl
 have := h2 0 (by omega)
 simp only [Nat.add_zero, List.getElem?_cons_zero] at this
 unfold part
 simp only [Sem.run_bind, ty_agg hΓ ht, Result.andThen_ok, ha, Bool.false_eq_true, if_false]
 have h3 : (⟨cs⟩ : Array Value)[off]? = some c := by simpa using this
 rw [h3]; rfl
theorem run_field (hΓ : TyOk P Γ) {t ft : TypeId} {fl : List (Nat × TypeId)} {f off : Nat} {cs : List Value} {w : World}
  (hu : undOf Γ t = some (.struct fl)) (hf : nthF fl f = some (off, ft)) :
  (Instr.field t (.agg ⟨cs⟩) f).run P w = (part ft ⟨cs⟩ off).run P w := by
 unfold Instr.field
 obtain ⟨fs, hu', hfl⟩ := undOf_ok hΓ hu
 obtain ⟨fd, h1, h2, h3⟩ := fld_of hfl hf
 subst h2 h3
 simp only [Sem.run_bind, run_underlying hu', Result.andThen_ok, h1, asAgg, Sem.run_pure]
theorem Rel.load {bl : List Blk} {fr : Fr} {R : List Hp} {a : Act} {w : World} (hr : Rel E n ⟨fr, bl, R⟩ a w) {h : Nat} {b : Blk} (hb : nthBlk bl h = some b) {off m : Nat} {l : List Value} (hl : takeAt b.cs off m = some l) :
  RdCells (St.hall ⟨fr, bl, R⟩) (idOf bl h) off m l := by
 obtain ⟨A, B, h1, h2⟩ := nthBlk_spec hb
 obtain ⟨h3, h4⟩ := takeAt_spec hl
 refine ⟨h3, ⟨b.cs⟩, b.ty, (0, 0), ?_, fun i hi => by rw [← h4 i hi]; simp⟩
 subst h1 h2
 rw [idOf_at]
 unfold St.hall
 simp [Blk.ent]
theorem Rel.store {bl : List Blk} {fr : Fr} {R : List Hp} {a : Act} {w : World} (hr : Rel E n ⟨fr, bl, R⟩ a w) {h : Nat} {b : Blk} (hb : nthBlk bl h = some b) {off : Nat} {l cs : List Value} (hl : layAt b.cs off l = some cs)
  (h1 : allOne l = true) {bl' : List Blk} (hs : setBlk bl h cs = some bl') :
  ∃ w', (storeCells ⟨idOf bl h, off, none⟩ l).run P w = .ok () w' ∧ Rel E n ⟨fr, bl', R⟩ a w' := by
 obtain ⟨A, B, e1, e2⟩ := nthBlk_spec hb
 obtain ⟨h3, h4⟩ := layAt_spec hl
 subst e1 e2
 have e3 := setBlk_spec b B cs A bl' hs
 subst e3
 have hsat := hr.sat
 simp only [St.hall, List.map_append, List.map_cons, List.append_assoc, List.cons_append, Blk.ent] at hsat
 obtain ⟨w', h5, h6⟩ := run_storeCells_wr (P := P) hsat (o := off) (l := l) (by simpa using h3) h1
 refine ⟨w', by rw [idOf_at]; exact h5, hr.ids (by simp) ?_⟩
 simp only [St.hall, List.map_append, List.map_cons, List.append_assoc, List.cons_append, Blk.ent]
 rw [h4]
 exact h6
theorem Rel.repart {bl : List Blk} {fr : Fr} {R R' : List Hp} {a : Act} {w : World} (hr : Rel E n ⟨fr, bl, R⟩ a w) (h : RLe R R') : Rel E n ⟨fr, bl, R'⟩ a w := by
 obtain ⟨L, hL⟩ := h
 refine hr.ids rfl ?_
 have h1 := hr.sat
 have h2 : (St.hall ⟨fr, bl, R⟩).Perm (St.hall ⟨fr, bl, R'⟩ ++ L) := by
  simp only [St.hall, List.append_assoc]
  exact hL.append_left _
 exact (h1.perm h2).drop
theorem Rel.storeR {bl : List Blk} {fr : Fr} {R R' : List Hp} {a : Act} {w : World} (hr : Rel E n ⟨fr, bl, R⟩ a w) {b off : Nat} {l : List Value} (hw : WrCells R b off l R') (h1 : allOne l = true) :
  ∃ w', (storeCells ⟨b, off, none⟩ l).run P w = .ok () w' ∧ Rel E n ⟨fr, bl, R'⟩ a w' := by
 obtain ⟨pre, post, A1, A2, cs, T, e1, h2, e3⟩ := hw
 subst e1 e3
 have hsat := hr.sat
 simp only [St.hall, List.flatten_append, List.flatten_cons, List.append_assoc, List.cons_append] at hsat
 rw [← List.append_assoc, ← List.append_assoc] at hsat
 obtain ⟨w', h5, h6⟩ := run_storeCells_wr (P := P) hsat (o := off) (l := l) h2 h1
 refine ⟨w', h5, hr.ids rfl ?_⟩
 simp only [St.hall, List.flatten_append, List.flatten_cons, List.append_assoc, List.cons_append]
 rw [← List.append_assoc, ← List.append_assoc]
 exact h6
theorem Rel.storeF {bl : List Blk} {fr : Fr} {R R' : List Hp} {a : Act} {w : World} (hr : Rel E n ⟨fr, bl, R⟩ a w) {b off : Nat} {l : List Value} (hw : WrCellF R b off l R') (h1 : allOne l = true) :
  ∃ w', (storeCells ⟨b, off, none⟩ l).run P w = .ok () w' ∧ Rel E n ⟨fr, bl, R'⟩ a w' := by
 obtain ⟨pre, post, A1, A2, cs, T, lo, hi, v, rfl, e1, h2, h2', e3⟩ := hw
 subst e1 e3
 have hsat := hr.sat
 simp only [St.hall, List.flatten_append, List.flatten_cons, List.append_assoc, List.cons_append] at hsat
 rw [← List.append_assoc, ← List.append_assoc] at hsat
 obtain ⟨w', h5, h6⟩ := run_storeCell_frz (P := P) hsat (o := off) (v := v) h2 h2' h1
 refine ⟨w', h5, hr.ids rfl ?_⟩
 simp only [St.hall, List.flatten_append, List.flatten_cons, List.append_assoc, List.cons_append]
 rw [← List.append_assoc, ← List.append_assoc]
 exact h6
theorem run_storeVar_of (hΓ : TyOk P Γ) {t : TypeId} {ti : TI} (ht : tyOf Γ t = some ti) {a : Addr} {v : Value} {w : World} (hl : lenIs v.cells.toList ti.size = true) :
  (storeVar t a v).run P w = (storeCells a v.cells.toList).run P w := by
 unfold storeVar
 have := lenIs_spec hl
 simp only [Sem.run_bind, ty_size hΓ ht, Result.andThen_ok]
 rw [if_neg (by simp at this; simp [this])]
theorem zeros_length (z : List Value) : ∀ n, (zeros n z).length = n * z.length
 | 0 => by simp [zeros]
 | n + 1 => by simp only [zeros, List.length_append, zeros_length z n]; rw [Nat.succ_mul]; omega
theorem zeros_get (z : List Value) : ∀ n i, i < n * z.length → (zeros n z)[i]? = z[i % z.length]?
 | 0, i, h => by simp at h
 | n + 1, i, h => by
  simp only [zeros]
  by_cases hi : i < z.length
  ·rw [List.getElem?_append_left hi, Nat.mod_eq_of_lt hi]
  rw [List.getElem?_append_right (by omega), zeros_get z n (i - z.length) (by rw [Nat.succ_mul] at h; omega)]
  rw [← Nat.mod_eq_sub_mod (by omega)]
theorem range_zeros (z : Array Value) (sz n : Nat) (hz : z.size = sz) : ((Array.range (n * sz)).map (z[· % z.size]!)) = ⟨zeros n z.toList⟩ := by
 apply Array.ext'
 apply List.ext_getElem?
 intro i
 simp only [Array.toList_map, Array.toList_range, List.getElem?_map]
 by_cases hi : i < n * sz
 ·have hp : 0 < z.size := by
   rcases Nat.eq_zero_or_pos z.size with h0 | h0
   ·rw [hz] at h0; rw [h0] at hi; omega
   exact h0
  have hm : i % z.size < z.size := Nat.mod_lt _ hp
  rw [List.getElem?_range hi, zeros_get z.toList n i (by simpa [hz] using hi)]
  simp only [Option.map_some, Array.length_toList]
  rw [getElem!_pos z _ hm]
  simp [hm]
 rw [List.getElem?_eq_none (by simp; omega), List.getElem?_eq_none (by rw [zeros_length]; simp [hz]; omega)]; rfl
theorem Rel.pushR {fr : Fr} {bl : List Blk} {R : List Hp} {a : Act} {w : World} (hr : Rel E n ⟨fr, bl, R⟩ a w) (o : Obj) : Rel E n ⟨fr, bl, [(w.heap.size, o)] :: R⟩ a (w.alloc o) := by
 refine hr.ids rfl ((hr.sat.push o).perm ?_)
 simp only [St.hall, List.flatten_cons, List.cons_append, List.nil_append]
 exact List.perm_middle.symm
theorem wrap_small {m : Int} (h0 : 0 ≤ m) (h1 : m ≤ 281474976710656) : IntKind.i64.wrap m = m := by
 simp only [IntKind.wrap, IntKind.bits, IntKind.signed]
 have e : m % (2 ^ 64 : Int) = m := by omega
 simp only [e]
 rw [if_neg (by simp; omega)]
theorem run_makeSlice (hΓ : TyOk P Γ) {t e : TypeId} {ti : TI} (hu : P.underlying t = some (.slice e)) (ht : tyOf Γ e = some ti) (hz : ti.zero.cells.toList.length = ti.size) {k k' : IntKind} {m c : Int} {w : World}
  (h0 : 0 ≤ m) (h1 : m ≤ c) (h2 : c ≤ 281474976710656) (h3 : ti.bytes * c ≤ 281474976710656) :
  (Instr.makeSlice t (.int k m) (.int k' c)).run P w = .ok (.slice (some ⟨w.heap.size, 0, none⟩) m.toNat c.toNat) (w.alloc (.cells ⟨zeros c.toNat ti.zero.cells.toList⟩ e)) := by
 obtain ⟨i, hi, hb, _, _⟩ := ty_bytes hΓ ht
 have em := wrap_small h0 (by omega : m ≤ 281474976710656)
 have ec := wrap_small (by omega : 0 ≤ c) h2
 unfold Instr.makeSlice
 simp only [Sem.run_bind, run_underlying hu, Result.andThen_ok, asInt, asIntOf, Sem.run_pure, typeInfo, run_program, hi, hb, em, ec]
 have hc : ¬ ((decide (c < 0) || decide ((ti.bytes : Int) * c > 2 ^ 48)) = true ∨ m < 0 ∨ m > c) := by
  simp only [Bool.or_eq_true, decide_eq_true_eq]
  omega
 have hc' : ((decide (c < 0) || decide ((ti.bytes : Int) * c > 2 ^ 48)) || decide (m < 0) || decide (m > c)) = false := by
  simp only [Bool.or_eq_false_iff, decide_eq_false_iff_not]
  omega
 have hz' : ti.zero.cells.size = ti.size := by simpa using hz
 have hcells : (((Array.range (c.toNat * ti.size)).map (ti.zero.cells[· % ti.zero.cells.size]!)) : Array Value) = ⟨zeros c.toNat ti.zero.cells.toList⟩ := range_zeros _ _ _ hz'
 rw [if_neg (by simpa using hc')]
 simp only [Sem.run_bind, ty_size hΓ ht, Result.andThen_ok, run_askRoom]
 by_cases hn : c.toNat * ti.size = 0
 ·rw [if_pos hn]
  simp only [Sem.run_pure, Result.andThen_ok, newRow, Sem.run_bind, run_newObj]
  have e0 : (⟨zeros c.toNat ti.zero.cells.toList⟩ : Array Value) = #[] := by
   have := zeros_length ti.zero.cells.toList c.toNat
   rw [hz, hn] at this
   rw [List.length_eq_zero_iff.1 this]
  have e1 : ((Array.range 0).map ((#[] : Array Value)[· % (#[] : Array Value).size]!)) = #[] := by simp
  rw [hn, e0, e1]
  rfl
 rw [if_neg hn]
 simp only [Sem.run_bind, ty_zero hΓ ht, Result.andThen_ok, Sem.run_pure, newRow, run_newObj, hcells]
 rfl
theorem exBuildS_sound {sz : Nat} {fr : Fr} {bl : List Blk} {R : List Hp} {a : Act} {w : World} (hr : Rel E n ⟨fr, bl, R⟩ a w) :
  ∀ (parts : List (Nat × Operand)) (cs : List Value) (K : List Value → Prop), exBuildS sz fr bl cs parts K →
   ∃ cs', K cs' ∧ Instr.fill (fun i => some (i * sz, sz)) ⟨cs⟩ (parts.map fun p => (p.1, a.eval p.2)) = some ⟨cs'⟩
 | [], cs, K, h => ⟨cs, h, rfl⟩
 | (i, x) :: r, cs, K, h => by
  unfold exBuildS at h
  obtain ⟨s, h1, _, h2⟩ := getK_sound hr h
  have h3 := cellsK_sound h2
  split at h3
  ·exact h3.elim
  rename_i hl
  split at h3
  ·exact h3.elim
  rename_i cs' hc
  obtain ⟨h4, h5⟩ := layAt_spec hc
  obtain ⟨cs2, h6, h7⟩ := exBuildS_sound hr r cs' K h3
  refine ⟨cs2, h6, ?_⟩
  rw [List.map_cons]
  simp only
  rw [fill_step (fun i => some (i * sz, sz)) ⟨cs⟩ i (a.eval x) _ (i * sz) sz rfl (by rw [h1]; exact lenIs_spec hl) (by rw [h1]; exact h4)]
  rw [h1, ← h5]
  exact h7
theorem run_buildSlice (hΓ : TyOk P Γ) {t e : TypeId} {ti : TI} (hu : P.underlying t = some (.slice e)) (ht : tyOf Γ e = some ti) (hz : ti.zero.cells.toList.length = ti.size) {len : Nat} (hl : len * ti.size ≤ 16777216)
  {parts : List (Nat × Value)} {cs : List Value} (hf : Instr.fill (fun i => some (i * ti.size, ti.size)) ⟨zeros len ti.zero.cells.toList⟩ parts = some ⟨cs⟩) {w : World} :
  (Instr.buildSlice t len ⟨parts⟩).run P w = .ok (.slice (some ⟨w.heap.size, 0, none⟩) len len) (w.alloc (.cells ⟨cs⟩ e)) := by
 unfold Instr.buildSlice
 simp only [Sem.run_bind, run_underlying hu, Result.andThen_ok, ty_size hΓ ht]
 rw [if_neg (by omega)]
 have hz' : ti.zero.cells.size = ti.size := by simpa using hz
 have hcells : (((Array.range (len * ti.size)).map (ti.zero.cells[· % ti.zero.cells.size]!)) : Array Value) = ⟨zeros len ti.zero.cells.toList⟩ := range_zeros _ _ _ hz'
 by_cases hn : len * ti.size = 0
 ·rw [if_pos hn]
  simp only [Sem.run_bind, Sem.run_pure, Result.andThen_ok]
  have e0 : (⟨zeros len ti.zero.cells.toList⟩ : Array Value) = #[] := by
   have := zeros_length ti.zero.cells.toList len
   rw [hz, hn] at this
   rw [List.length_eq_zero_iff.1 this]
  rw [e0] at hf
  rw [hn]
  have e1 : ((Array.range 0).map ((#[] : Array Value)[· % (#[] : Array Value).size]!)) = #[] := by simp
  rw [e1, hf]
  simp only [newRow, Sem.run_bind, run_newObj, Result.andThen_ok, Sem.run_pure]
  rfl
 rw [if_neg hn]
 simp only [Sem.run_bind, ty_zero hΓ ht, Result.andThen_ok, Sem.run_pure, hcells, hf, newRow, run_newObj]
 rfl
end
end Go.SX
namespace Go.SX
section
variable {P : Program} {E : World} {Γ : Ty} {n : Nat}
theorem run_len_str {t ty : TypeId} (h : P.underlying t = some .string) (s : ByteArray) (w : World) : (Builtin.len_ #[t] ty #[.string s]).run P w = .ok (goInt s.size) w := by
 simp [Builtin.len_, run_underlying h]
theorem run_len_sl {t ty e : TypeId} (h : P.underlying t = some (.slice e)) (a : Option Addr) (m c : Nat) (w : World) : (Builtin.len_ #[t] ty #[.slice a m c]).run P w = .ok (goInt m) w := by
 simp [Builtin.len_, run_underlying h]
theorem run_cap_sl {t ty e : TypeId} (h : P.underlying t = some (.slice e)) (a : Option Addr) (m c : Nat) (w : World) :
  (Builtin.cap_ #[t] ty #[.slice a m c]).run P w = .ok (goInt c) w := by
 simp [Builtin.cap_, run_underlying h]
theorem run_callFunc {f : FuncId} {fn : Func} (hf : P.funcs[f]? = some fn) (hn : fn.name ≠ "runtime.NumGoroutine") (hb : fn.body.isSome = true) (args : Array Value) (w : World) :
  (callFunc f args).run P w = .ok (.enter f args) w := by
 unfold callFunc
 have h1 : (fn.name == "runtime.NumGoroutine") = false := by simpa using hn
 have h2 : fn.body.isNone = false := by cases h : fn.body <;> simp_all
 simp only [Sem.run_bind, run_program, Result.andThen_ok, hf, h1, h2, Bool.false_eq_true, if_false, Sem.run_pure]
abbrev Yv (P : Program) (E : World) (n : Nat) (fr : Fr) (bl : List Blk) (R : List Hp) (op : Op) (s : SV) : Prop :=
 ∀ a w, Rel E n ⟨fr, bl, R⟩ a w → s.ok bl ∧ ∀ dst ty pos after guard, (execOp a.eval ⟨dst, op, ty, pos, after, guard⟩).run P w = .ok (.value (s.den bl)) w
set_option maxHeartbeats 1000000 in
theorem exP_sound (hΓ : TyOk P Γ) {op : Op} {fr : Fr} {bl : List Blk} {R : List Hp} {K : SV → Prop} {raw : Prop} (h : exP Γ op fr bl R K raw) :
  raw ∨ ∃ s, K s ∧ Yv P E n fr bl R op s := by
 cases op with
 | move x =>
  obtain ⟨s, h1, h2⟩ := getK_uni (E := E) (n := n) (bl := bl) (R := R) h
  refine .inr ⟨s, h1, fun a w hr => ⟨(h2 a w hr).2, fun dst ty pos after guard => ?_⟩⟩
  rw [← (h2 a w hr).1]; rfl
 | assign x =>
  obtain ⟨s, h1, h2⟩ := getK_uni (E := E) (n := n) (bl := bl) (R := R) h
  refine .inr ⟨s, h1, fun a w hr => ⟨(h2 a w hr).2, fun dst ty pos after guard => ?_⟩⟩
  rw [← (h2 a w hr).1]; rfl
 | makeFunc fn first captured =>
  cases fn with
  | func f =>
   obtain ⟨first⟩ := first
   obtain ⟨captured⟩ := captured
   obtain ⟨vs, h1, h2⟩ := getsK_uni (E := E) (n := n) (R := R) h
   obtain ⟨us, h3, h4⟩ := getsK_uni (E := E) (n := n) (R := R) h1
   refine .inr ⟨_, h3, fun a w hr => ⟨trivial, fun dst ty pos after guard => ?_⟩⟩
   have e1 : (⟨first⟩ : Array Operand).map a.eval = ⟨vs⟩ := by apply Array.ext'; simpa using h2 a w hr
   have e2 : (⟨captured⟩ : Array Operand).map a.eval = ⟨us⟩ := by apply Array.ext'; simpa using h4 a w hr
   simp only [execOp, Instr.makeFunc, e1, e2, Sem.run_bind, Sem.run_pure, Result.andThen_ok, SV.den]
  | _ => exact .inl h
 | nilCheck x =>
  obtain ⟨s, h1, h2⟩ := getK_uni (E := E) (n := n) (bl := bl) (R := R) h
  split at h1
  ·refine .inr ⟨_, h1, fun a w hr => ⟨(h2 a w hr).2, fun dst ty pos after guard => ?_⟩⟩
   simp only [execOp, (h2 a w hr).1, SV.den, Sem.run_pure]
  ·refine .inr ⟨_, h1, fun a w hr => ⟨(h2 a w hr).2, fun dst ty pos after guard => ?_⟩⟩
   simp only [execOp, (h2 a w hr).1, SV.den, Sem.run_pure]
  ·refine .inr ⟨_, h1, fun a w hr => ⟨(h2 a w hr).2, fun dst ty pos after guard => ?_⟩⟩
   simp only [execOp, (h2 a w hr).1, SV.den, Sem.run_pure]
  exact .inl h1
 | pick c x y =>
  obtain ⟨s, h3, h1⟩ := getK_uni (E := E) (n := n) (bl := bl) (R := R) h
  have hpick : ∀ (t : Bool) (z : Operand), z = (if t then x else y) → (∀ a w, Rel E n ⟨fr, bl, R⟩ a w → a.eval c = .bool t) → getK fr z K → ∃ s, K s ∧ Yv P E n fr bl R (.pick c x y) s := by
   intro t z hz ht hk
   obtain ⟨s2, h4, h5⟩ := getK_uni (E := E) (n := n) (bl := bl) (R := R) hk
   refine ⟨s2, h4, fun a w hr => ⟨(h5 a w hr).2, fun dst ty pos after guard => ?_⟩⟩
   rw [← (h5 a w hr).1]
   subst hz
   simp only [execOp, ht a w hr, asBool, Sem.run_bind, Sem.run_pure, Result.andThen_ok]
   cases t <;> rfl
  split at h3
  ·exact .inr (hpick true x rfl (fun a w hr => (h1 a w hr).1) h3)
  ·exact .inr (hpick false y rfl (fun a w hr => (h1 a w hr).1) h3)
  ·rename_i t
   obtain ⟨ht, hf⟩ := h3
   cases t with
   | true => exact .inr (hpick true x rfl (fun a w hr => (h1 a w hr).1) (ht rfl))
   | false => exact .inr (hpick false y rfl (fun a w hr => (h1 a w hr).1) (hf rfl))
  exact .inl h3
 | binOp op xt x y yt =>
  obtain ⟨sx, h3, h1⟩ := getK_uni (E := E) (n := n) (bl := bl) (R := R) h
  obtain ⟨sy, h6, h4⟩ := getK_uni (E := E) (n := n) (bl := bl) (R := R) h3
  rcases exBin_sound (P := P) hΓ bl h6 with h7 | ⟨s, h8, h9⟩
  ·exact .inl h7
  obtain ⟨h10, h11⟩ := h9 x y
  refine .inr ⟨s, h8, fun a w hr => ⟨h10, fun dst ty pos after guard => ?_⟩⟩
  have := h11 w
  rw [← (h1 a w hr).1, ← (h4 a w hr).1] at this
  simp only [execOp, Sem.run_bind, Sem.run_pure] at this ⊢
  rw [this]; rfl
 | unOp op t x =>
  obtain ⟨sx, h3, h1⟩ := getK_uni (E := E) (n := n) (bl := bl) (R := R) h
  rcases exUn_sound (P := P) bl h3 with h7 | ⟨s, h8, h9, h10⟩
  ·exact .inl h7
  refine .inr ⟨s, h8, fun a w hr => ⟨h9, fun dst ty pos after guard => ?_⟩⟩
  have := h10 w
  rw [← (h1 a w hr).1] at this
  simp only [execOp, Sem.run_bind, Sem.run_pure] at this ⊢
  rw [this]; rfl
 | load t x =>
  simp only [exP] at h
  split at h
  ·exact h.elim
  rename_i ti ht
  obtain ⟨s, h3, h1⟩ := getK_uni (E := E) (n := n) (bl := bl) (R := R) h
  have hex : ∀ (a : Act) (w : World) (b o : Nat) (v : Value), a.eval x = .pointer (some ⟨b, o, none⟩) → (loadVar t ⟨b, o, none⟩).run P w = .ok v w →
    ∀ dst ty pos after guard, (execOp a.eval ⟨dst, .load t x, ty, pos, after, guard⟩).run P w = .ok (.value v) w := by
   intro a w b o v e1 e2 dst ty pos after guard
   simp only [execOp, Instr.loadAt, e1, Instr.sureAddr, Sem.run_bind, Sem.run_pure, Result.andThen_ok, e2]
  have hlv := fun (a : Act) (w : World) (hr : Rel E n ⟨fr, bl, R⟩ a w) b o => run_loadVar_rd (P := P) (b := b) (o := o) hΓ hr.sat ht
  unfold exLoad at h3
  split at h3
  ·rename_i hh off
   split at h3
   ·exact h3.elim
   rename_i b hb
   obtain ⟨bi, cs, bt⟩ := b
   simp only at h3
   split at h3
   ·rename_i hag
    split at h3
    ·exact h3.elim
    rename_i l hl
    exact .inr ⟨.v (.agg ⟨l⟩), h3, fun a w hr => ⟨trivial, hex a w _ _ _ (h1 a w hr).1 ((hlv a w hr _ _).1 l hag (hr.load hb hl))⟩⟩
   rename_i hag
   split at h3
   ·rename_i c hl
    exact .inr ⟨.v c, h3, fun a w hr => ⟨trivial, hex a w _ _ _ (h1 a w hr).1 ((hlv a w hr _ _).2 c hag (hr.load hb hl))⟩⟩
   exact h3.elim
  ·rename_i b o
   split at h3
   ·rename_i hag
    obtain ⟨l, h4, h5⟩ := h3
    have h4' : RdCells (St.hall ⟨fr, bl, R⟩) b o ti.size l := h4
    exact .inr ⟨.v (.agg ⟨l⟩), h5, fun a w hr => ⟨trivial, hex a w _ _ _ (h1 a w hr).1 ((hlv a w hr _ _).1 l hag h4')⟩⟩
   rename_i hag
   obtain ⟨l, h4, h5⟩ := h3
   split at h5
   ·rename_i c
    have h4' : RdCells (St.hall ⟨fr, bl, R⟩) b o 1 [c] := h4
    exact .inr ⟨.v c, h5, fun a w hr => ⟨trivial, hex a w _ _ _ (h1 a w hr).1 ((hlv a w hr _ _).2 c hag h4')⟩⟩
   exact h5.elim
  exact .inl h3
 | fieldAddr t x f =>
  simp only [exP] at h
  split at h
  ·rename_i fs hu
   split at h
   ·exact h.elim
   rename_i fd hfd
   obtain ⟨off, ft⟩ := fd
   simp only at h
   split at h
   ·exact h.elim
   ·exact h.elim
   rename_i k hk
   obtain ⟨s, h3, h1⟩ := getK_uni (E := E) (n := n) (bl := bl) (R := R) h
   have hex : ∀ (a : Act) (w : World) (b o : Nat), a.eval x = .pointer (some ⟨b, o, none⟩) → ∀ dst ty pos after guard, (execOp a.eval ⟨dst, .fieldAddr t x f, ty, pos, after, guard⟩).run P w = .ok (.value (.pointer (some ⟨b, o + off, none⟩))) w := by
    intro a w b o e1 dst ty pos after guard
    simp only [execOp, Sem.run_bind, run_fieldAt hΓ hu hfd hk e1, Result.andThen_ok, Sem.run_pure]
   split at h3
   ·exact .inr ⟨.p _ _, h3, fun a w hr => ⟨(h1 a w hr).2, hex a w _ _ (h1 a w hr).1⟩⟩
   ·exact .inr ⟨.v _, h3, fun a w hr => ⟨trivial, hex a w _ _ (h1 a w hr).1⟩⟩
   exact .inl h3
  exact h.elim
 | build t parts =>
  obtain ⟨parts⟩ := parts
  simp only [exP] at h
  split at h
  ·exact h.elim
  rename_i ti ht
  obtain ⟨u, sz, by_, z⟩ := ti
  simp only at h
  split at h
  ·rename_i fs
   split at h
   ·exact h.elim
   rename_i hfo
   have h4 := cellsK_nil h
   obtain ⟨cs, h5, h6⟩ := run_build (P := P) (E := E) (n := n) (R := R) hΓ ht hfo h4
   refine .inr ⟨.v (.agg ⟨cs⟩), h5, fun a w hr => ⟨trivial, fun dst ty pos after guard => ?_⟩⟩
   simp only [execOp, Sem.run_bind]
   rw [h6 a w hr]; rfl
  exact .inl h
 | extract x i =>
  obtain ⟨s, h3, h1⟩ := getK_uni (E := E) (n := n) (bl := bl) (R := R) h
  split at h3
  ·rename_i vs
   split at h3
   ·rename_i v hv
    refine .inr ⟨.v v, h3, fun a w hr => ⟨trivial, fun dst ty pos after guard => ?_⟩⟩
    rw [nthV_eq] at hv
    have hv' : (⟨vs⟩ : Array Value)[i]? = some v := by simpa using hv
    simp only [execOp, (h1 a w hr).1, SV.den, Instr.extract, hv', Sem.run_bind, Sem.run_pure, Result.andThen_ok]
   exact h3.elim
  exact .inl h3
 | field t x f =>
  simp only [exP] at h
  split at h
  ·rename_i fs hu
   split at h
   ·exact h.elim
   rename_i fd hfd
   obtain ⟨off, ft⟩ := fd
   simp only at h
   split at h
   ·exact h.elim
   rename_i ti ht
   obtain ⟨s, h3, h1⟩ := getK_uni (E := E) (n := n) (bl := bl) (R := R) h
   split at h3
   ·rename_i cs
    have hp := fun w => run_part (P := P) (cs := cs) (off := off) (w := w) hΓ ht
    have hex : ∀ (a : Act) (w : World) v, a.eval x = .agg ⟨cs⟩ → (part ft ⟨cs⟩ off).run P w = .ok v w → ∀ dst ty pos after guard, (execOp a.eval ⟨dst, .field t x f, ty, pos, after, guard⟩).run P w = .ok (.value v) w := by
     intro a w v e0 e dst ty pos after guard
     simp only [execOp, e0, Sem.run_bind, run_field hΓ hu hfd, e, Result.andThen_ok, Sem.run_pure]
    split at h3
    ·rename_i hag
     split at h3
     ·rename_i l hl
      exact .inr ⟨.v (.agg ⟨l⟩), h3, fun a w hr => ⟨trivial, hex a w _ (h1 a w hr).1 ((hp w).1 l hag hl)⟩⟩
     exact h3.elim
    rename_i hag
    split at h3
    ·rename_i c hl
     exact .inr ⟨.v c, h3, fun a w hr => ⟨trivial, hex a w _ (h1 a w hr).1 ((hp w).2 c hag hl)⟩⟩
    exact h3.elim
   exact .inl h3
  exact h.elim
 | convert t u x =>
  simp only [exP] at h
  split at h
  ·rename_i k1 hu1
   split at h
   ·rename_i k hu2
    obtain ⟨s, h3, h1⟩ := getK_uni (E := E) (n := n) (bl := bl) (R := R) h
    split at h3
    ·refine .inr ⟨.v _, h3, fun a w hr => ⟨trivial, fun dst ty pos after guard => ?_⟩⟩
     simp only [execOp, (h1 a w hr).1, SV.den, convert, Conv.intToInt, Sem.run_bind, run_underlying (undOf_ok hΓ hu1), run_underlying (undOf_ok hΓ hu2), Result.andThen_ok, Sem.run_pure]
    exact .inl h3
   exact .inl h
  exact .inl h
 | indexAddr t x ix =>
  simp only [exP] at h
  split at h
  ·rename_i elem hu
   split at h
   ·exact h.elim
   rename_i sz hsz
   obtain ⟨s, h3, h1⟩ := getK_uni (E := E) (n := n) (bl := bl) (R := R) h
   obtain ⟨si, h6, h4⟩ := getK_uni (E := E) (n := n) (bl := bl) (R := R) h3
   split at h6
   ·split at h6
    ·obtain ⟨b, o, h7, h8, h9, h10⟩ := h6
     refine .inr ⟨.v _, h10, fun a w hr => ⟨trivial, fun dst ty pos after guard => ?_⟩⟩
     simp only [execOp, (h1 a w hr).1, (h4 a w hr).1, SV.den, Instr.indexAt, asIntOf, Sem.run_bind, Sem.run_pure, Result.andThen_ok, run_underlying (undOf_ok hΓ hu), h7]
     rw [if_pos ⟨h8, h9⟩]
     simp only [Sem.run_bind, siz_size hΓ hsz, Result.andThen_ok, Sem.run_pure, addr_add]
    exact .inl h6
   exact .inl h6
  exact .inl h
 | index t x ix =>
  simp only [exP] at h
  split at h
  ·rename_i hu
   obtain ⟨s, h3, h1⟩ := getK_uni (E := E) (n := n) (bl := bl) (R := R) h
   obtain ⟨si, h6, h4⟩ := getK_uni (E := E) (n := n) (bl := bl) (R := R) h3
   split at h6
   ·rename_i bs
    split at h6
    ·rename_i k i
     obtain ⟨⟨h8, h9⟩, h10⟩ := h6
     refine .inr ⟨.v _, h10, fun a w hr => ⟨trivial, fun dst ty pos after guard => ?_⟩⟩
     have hi : i.toNat < bs.size := by omega
     simp only [execOp, (h1 a w hr).1, (h4 a w hr).1, SV.den, Instr.index, asIntOf, Sem.run_bind, Sem.run_pure, Result.andThen_ok, run_underlying (undOf_ok hΓ hu)]
     rw [if_pos h8]
     simp [hi]
    exact .inl h6
   exact .inl h6
  exact .inl h
 | slice t x lo hi mx =>
  cases mx with
  | some mx =>
   cases hi with
   | none => exact .inl h
   | some hi =>
    simp only [exP] at h
    split at h
    ·rename_i elem hu
     split at h
     ·exact h.elim
     rename_i sz hsz
     obtain ⟨s, h3, h1⟩ := getK_uni (E := E) (n := n) (bl := bl) (R := R) h
     split at h3
     ·rename_i a0 len0 cap0
      rcases exBounds3_sound (P := P) (E := E) (n := n) (bl := bl) (R := R) (len := len0) h3 with h4 | ⟨l, hh, m, h5, h6⟩
      ·exact .inl h4
      refine .inr ⟨.v _, h5, fun a w hr => ⟨trivial, fun dst ty pos after guard => ?_⟩⟩
      simp only [execOp, (h1 a w hr).1, SV.den, Instr.sliceAt, Instr.slice, Sem.run_bind, run_underlying (undOf_ok hΓ hu), Result.andThen_ok, Option.map_some, Sem.run_pure, h6 a w hr, siz_size hΓ hsz, subBase_eq]
     exact .inl h3
    exact .inl h
  | none =>
  simp only [exP] at h
  split at h
  ·rename_i hu
   obtain ⟨s, h3, h1⟩ := getK_uni (E := E) (n := n) (bl := bl) (R := R) h
   split at h3
   ·rename_i bs
    rcases exBounds_sound (P := P) (E := E) (n := n) (bl := bl) (R := R) false h3 with h4 | ⟨l, hh, h5, h6⟩
    ·exact .inl h4
    refine .inr ⟨.v _, h5, fun a w hr => ⟨trivial, fun dst ty pos after guard => ?_⟩⟩
    simp only [execOp, (h1 a w hr).1, SV.den, Instr.sliceAt, Instr.slice, Sem.run_bind, run_underlying (undOf_ok hΓ hu), Result.andThen_ok, Option.map_none, Option.isSome_none, Bool.false_eq_true, if_false, Sem.run_pure, h6 a w hr]
   exact .inl h3
  ·rename_i elem hu
   split at h
   ·exact h.elim
   rename_i sz hsz
   obtain ⟨s, h3, h1⟩ := getK_uni (E := E) (n := n) (bl := bl) (R := R) h
   split at h3
   ·rcases exBounds_sound (P := P) (E := E) (n := n) (bl := bl) (R := R) true h3 with h4 | ⟨l, hh, h5, h6⟩
    ·exact .inl h4
    refine .inr ⟨.v _, h5, fun a w hr => ⟨trivial, fun dst ty pos after guard => ?_⟩⟩
    simp only [execOp, (h1 a w hr).1, SV.den, Instr.sliceAt, Instr.slice, Sem.run_bind, run_underlying (undOf_ok hΓ hu), Result.andThen_ok, Option.map_none, Sem.run_pure, h6 a w hr, siz_size hΓ hsz, subBase_eq]
   exact .inl h3
  exact .inl h
 | call c =>
  obtain ⟨callee, ⟨args⟩, ⟨tys⟩⟩ := c
  simp only [exP] at h
  split at h
  ·split at h
   ·rename_i x
    split at h
    ·rename_i t
     split at h
     ·rename_i hu
      obtain ⟨s, h3, h1⟩ := getK_uni (E := E) (n := n) (bl := bl) (R := R) h
      split at h3
      ·rename_i bs
       refine .inr ⟨.v _, h3, fun a w hr => ⟨trivial, fun dst ty pos after guard => ?_⟩⟩
       have := run_len_str (ty := ty) (undOf_ok hΓ hu) bs w
       simp only [execOp, resolve, invoke, builtin, Sem.run_bind, Sem.run_pure, Result.andThen_ok]
       rw [show (⟨[x]⟩ : Array Operand).map a.eval = #[a.eval x] from by apply Array.ext'; simp, (h1 a w hr).1]
       simp only [SV.den]
       rw [show (⟨[t]⟩ : Array TypeId) = #[t] from rfl, this]; rfl
      exact .inl h3
     ·rename_i el hu
      obtain ⟨s, h3, h1⟩ := getK_uni (E := E) (n := n) (bl := bl) (R := R) h
      split at h3
      ·rename_i aa m cc
       refine .inr ⟨.v _, h3, fun a w hr => ⟨trivial, fun dst ty pos after guard => ?_⟩⟩
       have := run_len_sl (ty := ty) (undOf_ok hΓ hu) aa m cc w
       simp only [execOp, resolve, invoke, builtin, Sem.run_bind, Sem.run_pure, Result.andThen_ok]
       rw [show (⟨[x]⟩ : Array Operand).map a.eval = #[a.eval x] from by apply Array.ext'; simp, (h1 a w hr).1]
       simp only [SV.den]
       rw [show (⟨[t]⟩ : Array TypeId) = #[t] from rfl, this]; rfl
      exact .inl h3
     exact .inl h
    exact h.elim
   exact h.elim
  ·split at h
   ·rename_i x y
    obtain ⟨s, h3, h1⟩ := getK_uni (E := E) (n := n) (bl := bl) (R := R) h
    obtain ⟨s', h4, h2⟩ := getK_uni (E := E) (n := n) (bl := bl) (R := R) h3
    split at h4
    ·split at h4
     ·refine .inr ⟨.v _, h4, fun a w hr => ⟨trivial, fun dst ty pos after guard => ?_⟩⟩
      simp only [execOp, resolve, invoke, builtin, Sem.run_bind, Sem.run_pure, Result.andThen_ok]
      rw [show (⟨[x, y]⟩ : Array Operand).map a.eval = #[a.eval x, a.eval y] from by apply Array.ext'; simp, (h1 a w hr).1, (h2 a w hr).1]
      rfl
     exact .inl h4
    exact .inl h4
   exact .inl h
  ·split at h
   ·rename_i x y
    obtain ⟨s, h3, h1⟩ := getK_uni (E := E) (n := n) (bl := bl) (R := R) h
    obtain ⟨s', h4, h2⟩ := getK_uni (E := E) (n := n) (bl := bl) (R := R) h3
    split at h4
    ·split at h4
     ·refine .inr ⟨.v _, h4, fun a w hr => ⟨trivial, fun dst ty pos after guard => ?_⟩⟩
      simp only [execOp, resolve, invoke, builtin, Sem.run_bind, Sem.run_pure, Result.andThen_ok]
      rw [show (⟨[x, y]⟩ : Array Operand).map a.eval = #[a.eval x, a.eval y] from by apply Array.ext'; simp, (h1 a w hr).1, (h2 a w hr).1]
      rfl
     exact .inl h4
    exact .inl h4
   exact .inl h
  ·split at h
   ·rename_i x
    split at h
    ·rename_i t
     split at h
     ·rename_i el hu
      obtain ⟨s, h3, h1⟩ := getK_uni (E := E) (n := n) (bl := bl) (R := R) h
      split at h3
      ·rename_i aa m cc
       refine .inr ⟨.v _, h3, fun a w hr => ⟨trivial, fun dst ty pos after guard => ?_⟩⟩
       have := run_cap_sl (ty := ty) (undOf_ok hΓ hu) aa m cc w
       simp only [execOp, resolve, invoke, builtin, Sem.run_bind, Sem.run_pure, Result.andThen_ok]
       rw [show (⟨[x]⟩ : Array Operand).map a.eval = #[a.eval x] from by apply Array.ext'; simp, (h1 a w hr).1]
       simp only [SV.den]
       rw [show (⟨[t]⟩ : Array TypeId) = #[t] from rfl, this]; rfl
      exact .inl h3
     exact .inl h
    exact h.elim
   exact h.elim
  exact .inl h
 | _ => exact .inl h
set_option maxHeartbeats 1000000 in
theorem exOp_sound (hΓ : TyOk P Γ) {o : Oper} {fr : Fr} {bl : List Blk} {R : List Hp} {K : St → Prop} {a : Act} {w : World} (h : exOp P E Γ n o fr bl R K) (hr : Rel E n ⟨fr, bl, R⟩ a w)
  {Q : Exit → Act → World → Prop} : o.wp P a w (Lands E n K) Q := by
 obtain ⟨dst, op, ty, pos, after, guard⟩ := o
 have raw : ∀ {o : Oper}, VCraw P E n o ⟨fr, bl, R⟩ K → o.wp P a w (Lands E n K) Q := fun h => h.use hr
 have pure_ : exP Γ op fr bl R (fun s => putK n fr dst s fun fr => K ⟨fr, bl, R⟩) (VCraw P E n ⟨dst, op, ty, pos, after, guard⟩ ⟨fr, bl, R⟩ K) → Oper.wp P ⟨dst, op, ty, pos, after, guard⟩ a w (Lands E n K) Q := by
  intro h
  rcases exP_sound (P := P) (E := E) (n := n) hΓ h with h1 | ⟨s, h1, h2⟩
  ·exact raw h1
  exact wp_value ((h2 a w hr).2 dst ty pos after guard) hr rfl (h2 a w hr).1 h1
 cases op with
 | box t x =>
  obtain ⟨s, h1, h2, h3⟩ := getK_sound hr h
  have h4 := cellsK_sound h3
  obtain ⟨h4⟩ := h4
  have h5 := h4 w.heap.size
  rw [pushBlk_eq] at h5
  have h6 := hr.push (s.den bl).cells.toList t
  refine wp_value (s := .p bl.length 0) (v := .pointer (some ⟨w.heap.size, 0, none⟩)) ?_ h6 ?_ ?_ h5
  ·simp only [execOp, Instr.box, newVar, newRow, Sem.run_bind, run_newObj, Result.andThen_ok, Sem.run_pure, h1]; rfl
  ·simp only [SV.den]; rw [idOf_at]
  show bl.length < (bl ++ [_]).length
  simp
 | alloc t =>
  simp only [exOp] at h
  split at h
  ·exact h.elim
  rename_i ti ht
  obtain ⟨u, sz, by_, z⟩ := ti
  have h4 := cellsK_nil h
  obtain ⟨h4⟩ := h4
  have h5 := h4 w.heap.size
  rw [pushBlk_eq] at h5
  have h6 := hr.push z.cells.toList t
  refine wp_value (s := .p bl.length 0) (v := .pointer (some ⟨w.heap.size, 0, none⟩)) ?_ h6 ?_ ?_ h5
  ·simp only [execOp, Instr.alloc, newVar, newRow, Sem.run_bind, run_newObj, Result.andThen_ok, Sem.run_pure, ty_zero hΓ ht]; rfl
  ·simp only [SV.den]; rw [idOf_at]
  show bl.length < (bl ++ [_]).length
  simp
 | store t x y =>
  simp only [exOp] at h
  split at h
  ·exact h.elim
  rename_i ti ht
  split at h
  ·exact h.elim
  obtain ⟨s, h1, h2, h3⟩ := getK_sound hr h
  obtain ⟨s', h4, h5, h6⟩ := getK_sound hr h3
  unfold exStore at h6
  have h7 := cellsK_sound h6
  have hex : ∀ (b o : Nat) (w' : World), a.eval x = .pointer (some ⟨b, o, none⟩) → lenIs (s'.den bl).cells.toList ti.size = true → (storeCells ⟨b, o, none⟩ (s'.den bl).cells.toList).run P w = .ok () w' →
    (execOp a.eval ⟨none, .store t x y, ty, pos, after, guard⟩).run P w = .ok .skip w' := by
   intro b o w' e1 e3 e2
   simp only [execOp, Instr.storeAt, e1, Instr.sureAddr, Sem.run_bind, Sem.run_pure, Result.andThen_ok]
   rw [h4, run_storeVar_of hΓ ht e3, e2]; rfl
  split at h7
  ·exact raw h7
  rename_i hlen
  split at h7
  ·exact raw h7
  rename_i hone
  split at h7
  ·rename_i hh off
   split at h7
   ·exact h7.elim
   rename_i b hb
   obtain ⟨bi, cs, bt⟩ := b
   simp only at h7
   split at h7
   ·exact h7.elim
   rename_i cs' hcs
   split at h7
   ·exact h7.elim
   rename_i bl' hbl
   obtain ⟨w', h8, h9⟩ := hr.store (P := P) hb hcs hone hbl
   exact wp_none (hex _ _ _ h1 hlen h8) rfl h9 h7
  ·rename_i b o
   rcases h7 with ⟨R0, R1, R', h8a, h8, h8b, h9⟩ | ⟨R0, R1, R', h8a, h8, h8b, h9⟩
   ·obtain ⟨w', h10, h11⟩ := (hr.repart h8a).storeR (P := P) h8 hone
    exact wp_none (hex _ _ _ h1 hlen h10) rfl (h11.repart h8b) h9
   obtain ⟨w', h10, h11⟩ := (hr.repart h8a).storeF (P := P) h8 hone
   exact wp_none (hex _ _ _ h1 hlen h10) rfl (h11.repart h8b) h9
  exact raw h7
 | buildSlice t len parts =>
  obtain ⟨parts⟩ := parts
  simp only [exOp] at h
  split at h
  ·rename_i e hu
   split at h
   ·exact h.elim
   rename_i ti ht
   obtain ⟨u, sz, by_, z⟩ := ti
   simp only at h
   split at h
   ·exact h.elim
   rename_i hle
   have h4 := cellsK_nil h
   split at h4
   ·exact h4.elim
   rename_i hzl
   obtain ⟨cs, h5, h6⟩ := exBuildS_sound hr _ _ _ h4
   obtain ⟨h5⟩ := h5
   have hrun := run_buildSlice (P := P) (w := w) hΓ (undOf_ok hΓ hu) ht (lenIs_spec hzl) (Nat.le_of_ble_eq_true hle) h6
   refine wp_value (s := .v _) (v := .slice (some ⟨w.heap.size, 0, none⟩) len len) ?_ (hr.pushR (.cells ⟨cs⟩ e)) rfl trivial (h5 w.heap.size)
   simp only [execOp, Sem.run_bind]
   have e1 : (⟨parts⟩ : Array (Nat × Operand)).map (fun x => (x.1, a.eval x.2)) = ⟨parts.map fun p => (p.1, a.eval p.2)⟩ := by apply Array.ext'; simp
   rw [e1, hrun]; rfl
  exact raw h
 | makeSlice t l c =>
  simp only [exOp] at h
  split at h
  ·rename_i e hu
   split at h
   ·exact h.elim
   rename_i ti ht
   obtain ⟨u, sz, by_, z⟩ := ti
   simp only at h
   have h4 := cellsK_nil h
   split at h4
   ·exact h4.elim
   rename_i hzl
   obtain ⟨sl, h5, h6, h7⟩ := getK_sound hr h4
   obtain ⟨sc, h8, h9, h10⟩ := getK_sound hr h7
   split at h10
   ·split at h10
    ·obtain ⟨g0, g1, g2, g3, g4⟩ := h10
     have hrun := fun k k' => run_makeSlice (P := P) (w := w) (k := k) (k' := k') hΓ (undOf_ok hΓ hu) ht (lenIs_spec hzl) g0 g1 g2 g3
     refine wp_value (s := .v _) ?_ (hr.pushR _) rfl trivial (g4 w.heap.size)
     simp only [execOp, Sem.run_bind, h5, h8, SV.den]
     rw [hrun]; rfl
    exact raw h10
   exact raw h10
  exact raw h
 | call c =>
  obtain ⟨callee, ⟨args⟩, ⟨tys⟩⟩ := c
  cases callee with
  | value v =>
   cases v with
   | func f =>
    have h1 := getsK_sound hr h
    rcases h1 with ⟨⟨fn, hf, hn, hb⟩, h2⟩ | h2
    case ext =>
     obtain ⟨v, w', bl', R', h3, h4, h5, h6⟩ := h2 w hr.sat
     refine wp_value (s := .v v) (v := v) ?_ (hr.ids h5 h4) rfl trivial h6
     rw [execOp_call_go, ← h3]
     congr 2
     apply Array.ext'
     simp
    have h3 := h2 w hr.sat
    unfold Oper.wp
    have hrun : (execOp a.eval ⟨dst, .call ⟨.value (.func f), ⟨args⟩, ⟨tys⟩⟩, ty, pos, after, guard⟩).run P w = .ok (.enter f ⟨args.map a.eval⟩) w := by
     rw [execOp_call_go, run_callFunc hf hn hb]
     congr 2
     apply Array.ext'
     simp
    rw [hrun, Oper.upon_enter]
    refine h3.mono ?_
    rintro e w' ⟨v, bl', R', rfl, h4, h5, h6⟩
    simp only
    have h7 := hr.ids h5 h4
    obtain ⟨fr', h8, h9⟩ := putK_sound (s := .v v) h7 trivial h6
    exact ⟨_, h9, h8⟩
   | tmp t =>
    simp only [exOp] at h
    obtain ⟨s, h0, _, h⟩ := getK_sound hr h
    split at h
    ·rename_i f fs cs _
     have h1 := getsK_sound hr h
     rcases h1 with ⟨⟨fn, hf, hn, hb⟩, h2⟩ | h2
     case ext =>
      obtain ⟨v, w', bl', R', h3, h4, h5, h6⟩ := h2 w hr.sat
      refine wp_value (s := .v v) (v := v) ?_ (hr.ids h5 h4) rfl trivial h6
      simp only [execOp, resolve, h0, SV.den, Deferred.ofValue, Sem.run_bind, Sem.run_pure, Result.andThen_ok, invoke]
      rw [← h3]
      congr 2
      apply Array.ext'
      simp
     have h3 := h2 w hr.sat
     unfold Oper.wp
     have hrun : (execOp a.eval ⟨dst, .call ⟨.value (.tmp t), ⟨args⟩, ⟨tys⟩⟩, ty, pos, after, guard⟩).run P w = .ok (.enter f ⟨fs ++ args.map a.eval ++ cs⟩) w := by
      simp only [execOp, resolve, h0, SV.den, Deferred.ofValue, Sem.run_bind, Sem.run_pure, Result.andThen_ok, invoke]
      rw [run_callFunc hf hn hb]
      congr 2
      apply Array.ext'
      simp
     rw [hrun, Oper.upon_enter]
     refine h3.mono ?_
     rintro e w' ⟨v, bl', R', rfl, h4, h5, h6⟩
     simp only
     have h7 := hr.ids h5 h4
     obtain ⟨fr', h8, h9⟩ := putK_sound (s := .v v) h7 trivial h6
     exact ⟨_, h9, h8⟩
    exact raw h
   | _ => exact pure_ h
  | _ => exact pure_ h
 | _ => exact pure_ h
theorem guardSlotL_eq : ∀ (l : List Oper) (j : Nat), guardSlotL l j = (l[j]?).bind (·.dst)
 | [], _ => by simp [guardSlotL]
 | _ :: _, 0 => rfl
 | _ :: r, j + 1 => by simp only [guardSlotL, List.getElem?_cons_succ]; exact guardSlotL_eq r j
theorem yielded_eq {l : List Oper} {j d : Nat} (h : guardSlotL l j = some d) {tmps : Array Value} {t : Bool} (ht : tmps[d]? = some (.bool t)) : yielded ⟨l⟩ tmps j = some t := by
 unfold yielded
 rw [guardSlotL_eq] at h
 have : (((⟨l⟩ : Array Oper)[j]?).bind (·.dst)).bind (tmps[·]?) = some (.bool t) := by
  rw [show (⟨l⟩ : Array Oper)[j]? = l[j]? by simp, h]
  exact ht
 rw [this]
theorem yielded_un {l : List Oper} {j d : Nat} (h : guardSlotL l j = some d) {tmps : Array Value} (ht : tmps[d]? = some (.tuple ⟨[]⟩)) : yielded ⟨l⟩ tmps j = none := by
 unfold yielded
 rw [guardSlotL_eq] at h
 have : (((⟨l⟩ : Array Oper)[j]?).bind (·.dst)).bind (tmps[·]?) = some (.tuple ⟨[]⟩) := by
  rw [show (⟨l⟩ : Array Oper)[j]? = l[j]? by simp, h]
  exact ht
 rw [this]
theorem Rel.know {fr : Fr} {bl : List Blk} {R : List Hp} {a : Act} {w : World} (hr : Rel E n ⟨fr, bl, R⟩ a w) {d : Nat} {t : Bool} (h : look fr d = some (.v (.bool t))) :
  Rel E n ⟨(d, .b t) :: fr, bl, R⟩ a w := by
 refine ⟨hr.size, hr.defers, fun k sv hk => ?_, hr.sat⟩
 simp only [look] at hk
 split at hk
 ·rename_i hb
  have := Nat.eq_of_beq_eq_true hb
  subst this
  cases hk
  exact ⟨(hr.val _ _ h).1, trivial⟩
 exact hr.val _ _ hk
theorem wpList_do {ops : Array Oper} {Q : Exit → Act → World → Prop} {a : Act} {w : World} {rest : List Oper} {o : Oper} (hw : Region.wanted o (yielded ops a.tmps) = true)
  (h : o.wp P a w (wpList P ops Q rest) Q) : wpList P ops Q (o :: rest) a w := by
 unfold wpList
 rw [if_pos hw]; exact .inl h
theorem wpList_not {ops : Array Oper} {Q : Exit → Act → World → Prop} {a : Act} {w : World} {rest : List Oper} {o : Oper} (hw : Region.wanted o (yielded ops a.tmps) = false)
  (h : wpList P ops Q rest (a.put o.dst undef) w) : wpList P ops Q (o :: rest) a w := by
 unfold wpList
 rw [if_neg (by simp [hw])]; exact h
theorem Oper.wp_next {o : Oper} {a : Act} {w : World} {K K' : Act → World → Prop} {Q : Exit → Act → World → Prop} (h : o.wp P a w K Q) (hK : ∀ a w, K a w → K' a w) : o.wp P a w K' Q := by
 unfold Oper.wp Oper.upon at *
 split at h
 ·exact hK _ _ h
 ·exact hK _ _ h
 ·exact hK _ _ h
 ·refine h.mono ?_
  intro e w' he
  cases e with
  | returned v => exact hK _ _ he
  | panicked c => exact he
  | outgrown => exact he
 ·refine h.mono ?_
  intro v w' he
  exact hK _ _ he
 ·exact h
 exact h.elim
theorem exOps_sound (hΓ : TyOk P Γ) {ops : List Oper} {Q : Exit → Act → World → Prop} : ∀ (l : List Oper) (st : St) (K : St → Prop) (a : Act) (w : World),
  exOps P E Γ n ops l st K → Rel E n st a w → (∀ st a w, Rel E n st a w → K st → Q .normal a w) → wpList P ⟨ops⟩ Q l a w
 | [], st, K, a, w, h, hr, hQ => hQ st a w hr h
 | o :: rest, ⟨fr, bl, R⟩, K, a, w, h, hr, hQ => by
  have key : ∀ fr, Rel E n ⟨fr, bl, R⟩ a w → Region.wanted o (yielded ⟨ops⟩ a.tmps) = true → (exOp P E Γ n o fr bl R fun st => exOps P E Γ n ops rest st K) → wpList P ⟨ops⟩ Q (o :: rest) a w := by
   intro fr hr hw h
   refine wpList_do hw (Oper.wp_next (exOp_sound hΓ h hr) ?_)
   rintro a' w' ⟨st', h1, h2⟩
   exact exOps_sound hΓ rest st' K a' w' h2 h1 hQ
  have skip : ∀ fr, Rel E n ⟨fr, bl, R⟩ a w → Region.wanted o (yielded ⟨ops⟩ a.tmps) = false → (putK n fr o.dst (.v undef) fun fr => exOps P E Γ n ops rest ⟨fr, bl, R⟩ K) → wpList P ⟨ops⟩ Q (o :: rest) a w := by
   intro fr hr hw h
   obtain ⟨fr', h1, h2⟩ := putK_sound (s := .v undef) hr trivial h
   exact wpList_not hw (exOps_sound hΓ rest _ K _ w h1 h2 hQ)
  simp only [exOps] at h
  split at h
  ·rename_i hg
   exact key fr hr (by simp [Region.wanted, hg]) h
  rename_i j want hg
  split at h
  ·exact h.elim
  rename_i d hd
  have hy : ∀ t : Bool, a.tmps[d]? = some (.bool t) → ∀ b : Bool, decide (t = want) = b → Region.wanted o (yielded ⟨ops⟩ a.tmps) = b := by
   intro t ht b hb
   simp only [Region.wanted, hg, yielded_eq hd ht]
   rw [← hb]
   cases t <;> cases want <;> rfl
  split at h
  ·rename_i t ht
   have h1 := (hr.val _ _ ht).1
   split at h
   ·rename_i hb
    exact key fr hr (hy t h1 _ hb) h
   rename_i hb
   exact skip fr hr (hy t h1 _ hb) h
  ·rename_i t ht
   have h1 := (hr.val _ _ ht).1
   obtain ⟨htr, hfa⟩ := h
   have h2 := hr.know ht
   cases t with
   | true =>
    have h3 := htr rfl
    cases want with
    | true => exact key _ h2 (hy true h1 _ rfl) h3
    | false => exact skip _ h2 (hy true h1 _ rfl) h3
   | false =>
    have h3 := hfa rfl
    cases want with
    | true => exact skip _ h2 (hy false h1 _ rfl) h3
    | false => exact key _ h2 (hy false h1 _ rfl) h3
  ·rename_i ht
   have h1 := (hr.val _ _ ht).1
   refine skip fr hr ?_ h
   simp only [Region.wanted, hg, yielded_un hd h1]
   cases want <;> rfl
  exact h.elim
theorem getK_tmp {fr : Fr} {d : Nat} {K : SV → Prop} (h : getK fr (.tmp d) K) : ∃ s, look fr d = some s := by
 simp only [getK] at h
 split at h
 ·rename_i s hs; exact ⟨s, hs⟩
 exact h.elim
theorem exC_sound (hΓ : TyOk P Γ) : ∀ (c : Code) (st : St) (Q : Exit → St → Prop) (a : Act) (w : World), exC P E Γ n c st Q → Rel E n st a w → c.wp P (lift E n Q) a w
 | .skip, st, Q, a, w, h, hr => wp_skip ⟨st, hr, h⟩
 | .region id ops draw, st, Q, a, w, h, hr => by
  cases draw with
  | false =>
   obtain ⟨l⟩ := ops
   exact wp_region_list (exOps_sound hΓ l st _ a w h hr fun st a w h1 h2 => ⟨st, h1, h2⟩)
  | true =>
   obtain ⟨h⟩ := h
   exact h a w hr Q fun st h => h
 | .seq x y, st, Q, a, w, h, hr => by
  refine wp_seq (wp_mono (exC_sound hΓ x st _ a w h hr) ?_)
  rintro e a' w' ⟨st', h1, h2⟩
  cases e with
  | normal => exact exC_sound hΓ y st' Q a' w' h2 h1
  | _ => exact ⟨st', h1, h2⟩
 | .cond c x y, ⟨fr, bl, R⟩, Q, a, w, h, hr => by
  have h' : getK fr c fun s => match s with
   | .b true => exC P E Γ n x ⟨fr, bl, R⟩ Q
   | .b false => exC P E Γ n y ⟨fr, bl, R⟩ Q
   | .v (.bool t) => VCsplit t (exC P E Γ n x ⟨know fr c true, bl, R⟩ Q) (exC P E Γ n y ⟨know fr c false, bl, R⟩ Q)
   | _ => False := h
  obtain ⟨s, h1, h2, h3⟩ := getK_sound hr h'
  split at h3
  ·exact wp_cond_true h1 (exC_sound hΓ x _ Q a w h3 hr)
  ·exact wp_cond_false h1 (exC_sound hΓ y _ Q a w h3 hr)
  ·rename_i t
   obtain ⟨ht, hf⟩ := h3
   have hk : ∀ b, t = b → Rel E n ⟨know fr c b, bl, R⟩ a w := by
    intro b hb
    subst hb
    unfold know
    split
    ·rename_i d
     refine ⟨hr.size, hr.defers, fun k sv hk => ?_, hr.sat⟩
     simp only [look] at hk
     split at hk
     ·rename_i hbq
      have := Nat.eq_of_beq_eq_true hbq
      subst this
      cases hk
      obtain ⟨s', hl⟩ := getK_tmp h'
      have h5 := (hr.val _ _ hl).1
      refine ⟨?_, trivial⟩
      have h8 : a.eval (.tmp d) = s'.den bl := by
       show a.tmps.getD d undef = _
       rw [Array.getD_eq_getD_getElem?, h5]; rfl
      rw [h8] at h1
      rw [h5, h1]; rfl
     exact hr.val _ _ hk
    exact hr
   exact wp_cond_split h1 (fun e => exC_sound hΓ x _ Q a w (ht e) (hk true e)) (fun e => exC_sound hΓ y _ Q a w (hf e) (hk false e))
  exact h3.elim
 | .block id b, st, Q, a, w, h, hr => by
  refine wp_block (wp_mono (exC_sound hΓ b st _ a w h hr) ?_)
  rintro e a' w' ⟨st', h1, h2⟩
  cases e with
  | exit id' =>
   simp only [Exit.inBlock]
   simp only [blockQ] at h2
   split at h2
   ·rename_i hb
    rw [if_pos (Nat.eq_of_beq_eq_true hb)]
    exact ⟨st', h1, h2⟩
   rename_i hb
   rw [if_neg (fun e => by subst e; simp at hb)]
   exact ⟨st', h1, h2⟩
  | _ => exact ⟨st', h1, h2⟩
 | .loop b, st, Q, a, w, h, hr => by
  obtain ⟨h⟩ := h
  exact h a w hr
 | .exit id, st, Q, a, w, h, hr => wp_exit ⟨st, hr, h⟩
 | .ret, st, Q, a, w, h, hr => wp_ret ⟨st, hr, h⟩
 | .rangeFunc _ _ _ _, st, Q, a, w, h, hr => by obtain ⟨h⟩ := h; exact h a w hr
 | .scope _, st, Q, a, w, h, hr => by obtain ⟨h⟩ := h; exact h a w hr
 | .label _, st, Q, a, w, h, hr => by obtain ⟨h⟩ := h; exact h a w hr
 | .goto _, st, Q, a, w, h, hr => by obtain ⟨h⟩ := h; exact h a w hr
 | .refuse _, st, Q, a, w, h, hr => by obtain ⟨h⟩ := h; exact h a w hr
end
end Go.SX
namespace Go.SX
section
variable {P : Program} {E : World} {Γ : Ty} {n : Nat}
def FrLe (bl' bl : List Blk) (fr' : Fr) : Fr → Prop
 | [] => True
 | (k, s) :: r => (∃ s', look fr' k = some s' ∧ s'.den bl' = s.den bl ∧ (s.ok bl)) ∧ FrLe bl' bl fr' r
def BlLe : List Blk → List Blk → Prop
 | _, [] => True
 | b' :: r', b :: r => b'.ent = b.ent ∧ BlLe r' r
 | [], _ :: _ => False
theorem RLe.refl (R : List Hp) : RLe R R := ⟨[], by simp⟩
theorem RLe.perm {R' R : List Hp} (h : R'.Perm R) : RLe R' R := ⟨[], by simpa using h.flatten⟩
theorem RLe.sub {R' R : List Hp} (h : R.Sublist R') : RLe R' R := by
 induction h with
 | slnil => exact .refl _
 | cons a h ih =>
  obtain ⟨L, hL⟩ := ih
  refine ⟨a ++ L, ?_⟩
  simp only [List.flatten_cons]
  refine (hL.append_left a).trans ?_
  rw [← List.append_assoc, ← List.append_assoc]
  exact List.Perm.append_right L List.perm_append_comm
 | cons_cons a h ih =>
  obtain ⟨L, hL⟩ := ih
  refine ⟨L, ?_⟩
  simp only [List.flatten_cons, List.append_assoc]
  exact hL.append_left a
theorem RLe.trans {A B C : List Hp} (h : RLe A B) (h' : RLe B C) : RLe A C := by
 obtain ⟨L, hL⟩ := h
 obtain ⟨M, hM⟩ := h'
 exact ⟨M ++ L, hL.trans (by rw [← List.append_assoc]; exact hM.append_right L)⟩
def Weak (st' st : St) : Prop := FrLe st'.bl st.bl st'.fr st.fr ∧ BlLe st'.bl st.bl ∧ RLe st'.R st.R
theorem BlLe.split : ∀ {bl' bl : List Blk}, BlLe bl' bl → ∃ B, bl'.map Blk.ent = bl.map Blk.ent ++ B
 | bl', [], _ => ⟨bl'.map Blk.ent, by simp⟩
 | b' :: r', b :: r, h => by
  obtain ⟨B, hB⟩ := BlLe.split h.2
  exact ⟨B, by simp [h.1, hB]⟩
 | [], _ :: _, h => h.elim
theorem Weak.rel {st' st : St} (h : Weak st' st) {a : Act} {w : World} (hr : Rel E n st' a w) : Rel E n st a w := by
 obtain ⟨h1, h2, h3⟩ := h
 refine ⟨hr.size, hr.defers, ?_, ?_⟩
 ·have key : ∀ fr : Fr, FrLe st'.bl st.bl st'.fr fr → ∀ k sv, look fr k = some sv → a.tmps[k]? = some (sv.den st.bl) ∧ sv.ok st.bl := by
   intro fr
   induction fr with
   | nil => intro _ k sv hk; simp [look] at hk
   | cons p r ih =>
    obtain ⟨k', s⟩ := p
    intro hle k sv hk
    obtain ⟨⟨s', e1, e2, e3⟩, hle⟩ := hle
    simp only [look] at hk
    split at hk
    ·rename_i hb
     have := Nat.eq_of_beq_eq_true hb
     subst this
     cases hk
     exact ⟨by rw [← e2]; exact (hr.val _ _ e1).1, e3⟩
    exact ih hle k sv hk
  exact key st.fr h1
 obtain ⟨B, hB⟩ := BlLe.split h2
 obtain ⟨L, hL⟩ := h3
 have : st'.hall.Perm (st.hall ++ (B ++ L)) := by
  unfold St.hall
  rw [hB]
  refine ((hL.append_left _).trans ?_)
  simp only [List.append_assoc]
  refine List.Perm.append_left _ ?_
  rw [← List.append_assoc, ← List.append_assoc]
  exact List.Perm.append_right L List.perm_append_comm
 exact (hr.sat.perm this).drop
theorem loop_intro {α : Type} {body : Code} {st : St} {Q : Exit → St → Prop} (hΓ : TyOk P Γ) (Inv : α → St) (μ : α → Nat) (I : α → Prop) (x0 : α) (hi : I x0) (h0 : Weak st (Inv x0))
  (hr : ∀ x, I x → exC P E Γ n body (Inv x) (thenQ (fun st' => ∃ x', I x' ∧ μ x' < μ x ∧ Weak st' (Inv x')) Q)) : VCloop P E n body st Q := by
 refine ⟨fun a w hrel => ?_⟩
 refine wp_loop_ghost (fun k a w => ∃ x, I x ∧ μ x = k ∧ Rel E n (Inv x) a w) (μ x0) ⟨x0, hi, rfl, h0.rel hrel⟩ ?_
 rintro k a w ⟨x, hx, rfl, hrx⟩
 refine wp_mono (exC_sound hΓ body _ _ a w (hr x hx) hrx) ?_
 rintro e a' w' ⟨st', h1, h2⟩
 cases e with
 | normal =>
  obtain ⟨x', h3, h4, h5⟩ := h2
  exact ⟨μ x', h4, x', h3, rfl, h5.rel h1⟩
 | _ => exact ⟨st', h1, h2⟩
/- results -/
def resOneK (Γ : Ty) (fr : Fr) (bl : List Blk) (r : ResultVar) (K : Value → Prop) : Prop :=
 match r with
 | .tmp t => match look fr t with
  | some s => denK bl s K
  | none => False
 | .cell s t => match tyOf Γ t with
  | none => False
  | some ti => match look fr s with
   | some s => exLoad ti s bl [] (fun s => denK bl s K) False
   | none => False
def resK (Γ : Ty) (fr : Fr) (bl : List Blk) : List ResultVar → (List Value → Prop) → Prop
 | [], K => K []
 | r :: rs, K => resOneK Γ fr bl r fun v => resK Γ fr bl rs fun vs => K (v :: vs)
def oneOr : List Value → Value
 | [v] => v
 | vs => .tuple ⟨vs⟩
def oneOrK (vs : List Value) (K : Value → Prop) : Prop :=
 match vs with
 | [v] => K v
 | vs => K (.tuple ⟨vs⟩)
theorem oneOrK_sound {vs : List Value} {K : Value → Prop} (h : oneOrK vs K) : K (oneOr vs) := by
 match vs, h with
 | [], h => exact h
 | [v], h => exact h
 | _ :: _ :: _, h => exact h
def retQ (Γ : Ty) (rs : Array ResultVar) (post : Value → List Blk → List Hp → Prop) (e : Exit) (st : St) : Prop :=
 match e with
 | .ret => match st with
  | ⟨fr, bl, R⟩ => match rs with
   | ⟨l⟩ => resK Γ fr bl l fun vs => oneOrK vs fun v => post v bl R
 | .normal => match st with
  | ⟨fr, bl, R⟩ => match rs with
   | ⟨l⟩ => resK Γ fr bl l fun vs => oneOrK vs fun v => post v bl R
 | _ => False
def semOne (tmps : Array Value) (r : ResultVar) : Sem Value :=
 match r with
 | .tmp t => pure (tmps.getD t undef)
 | .cell s t => do loadVar t (← asAddr (tmps.getD s undef))
theorem resOneK_sound (hΓ : TyOk P Γ) {fr : Fr} {bl : List Blk} {R : List Hp} {a : Act} {w : World} (hr : Rel E n ⟨fr, bl, R⟩ a w) {r : ResultVar} {K : Value → Prop} (h : resOneK Γ fr bl r K) :
  ∃ v, K v ∧ (semOne a.tmps r).run P w = .ok v w := by
 cases r with
 | tmp t =>
  simp only [resOneK] at h
  split at h
  ·rename_i s hs
   refine ⟨_, denK_sound h, ?_⟩
   simp only [semOne, Sem.run_pure]
   rw [Array.getD_eq_getD_getElem?, (hr.val _ _ hs).1]; rfl
  exact h.elim
 | cell slot t =>
  simp only [resOneK] at h
  split at h
  ·exact h.elim
  rename_i ti ht
  split at h
  ·rename_i s hs
   have h1 := (hr.val _ _ hs).1
   have h2 : a.tmps.getD slot undef = s.den bl := by rw [Array.getD_eq_getD_getElem?, h1]; rfl
   have hlv := fun b o => run_loadVar_rd (P := P) (b := b) (o := o) hΓ hr.sat ht
   simp only [semOne]
   rw [h2]
   unfold exLoad at h
   split at h
   ·rename_i hh off
    split at h
    ·exact h.elim
    rename_i b hb
    obtain ⟨bi, cs, bt⟩ := b
    simp only at h
    split at h
    ·rename_i hag
     split at h
     ·exact h.elim
     rename_i l hl
     refine ⟨_, denK_sound h, ?_⟩
     simp only [SV.den, asAddr, Sem.run_bind, Sem.run_pure, Result.andThen_ok]
     exact (hlv _ _).1 l hag (hr.load hb hl)
    rename_i hag
    split at h
    ·rename_i c hl
     refine ⟨_, denK_sound h, ?_⟩
     simp only [SV.den, asAddr, Sem.run_bind, Sem.run_pure, Result.andThen_ok]
     exact (hlv _ _).2 c hag (hr.load hb hl)
    exact h.elim
   ·rename_i b o
    have mem : ∀ {m l}, RdCells (St.hall ⟨[], bl, []⟩) b o m l → RdCells (St.hall ⟨fr, bl, R⟩) b o m l := by
     rintro m l ⟨e1, cs, T, fz, hm, hc⟩
     refine ⟨e1, cs, T, fz, ?_, hc⟩
     unfold St.hall at hm ⊢
     simp only [List.flatten_nil, List.append_nil] at hm
     exact List.mem_append_left _ hm
    split at h
    ·rename_i hag
     obtain ⟨l, h4, h5⟩ := h
     refine ⟨_, denK_sound h5, ?_⟩
     simp only [SV.den, asAddr, Sem.run_bind, Sem.run_pure, Result.andThen_ok]
     exact (hlv _ _).1 l hag (mem h4)
    rename_i hag
    obtain ⟨l, h4, h5⟩ := h
    split at h5
    ·rename_i c
     refine ⟨_, denK_sound h5, ?_⟩
     simp only [SV.den, asAddr, Sem.run_bind, Sem.run_pure, Result.andThen_ok]
     exact (hlv _ _).2 c hag (mem h4)
    exact h5.elim
   exact h.elim
  exact h.elim
theorem resK_sound (hΓ : TyOk P Γ) {fr : Fr} {bl : List Blk} {R : List Hp} {a : Act} {w : World} (hr : Rel E n ⟨fr, bl, R⟩ a w) : ∀ {rs : List ResultVar} {K : List Value → Prop}, resK Γ fr bl rs K →
  ∃ vs, K vs ∧ (rs.mapM (semOne a.tmps)).run P w = .ok vs w
 | [], K, h => ⟨[], h, rfl⟩
 | r :: rs, K, h => by
  obtain ⟨v, h1, h2⟩ := resOneK_sound (P := P) hΓ hr h
  obtain ⟨vs, h3, h4⟩ := resK_sound hΓ hr h1
  refine ⟨v :: vs, h3, ?_⟩
  rw [List.mapM_cons, Sem.run_bind, h2, Result.andThen_ok, Sem.run_bind, h4, Result.andThen_ok]; rfl
theorem run_results {fn : Func} {rs : List ResultVar} (hrs : fn.results = ⟨rs⟩) {tmps : Array Value} {vs : List Value} {w : World}
  (h : (rs.mapM (semOne tmps)).run P w = .ok vs w) : (results fn tmps).run P w = .ok (oneOr vs) w := by
 have e : results fn tmps = (do
   let vs ← (⟨rs⟩ : Array ResultVar).mapM (semOne tmps)
   pure (if h : vs.size = 1 then vs[0] else .tuple vs)) := by
  unfold results
  rw [hrs]
  congr 1
 rw [e]
 simp only [Sem.run_bind]
 rw [Array.mapM_eq_mapM_toList, Sem.run_map, h, Result.andThen_ok, Result.andThen_ok, Sem.run_pure]
 congr 1
 split
 ·rename_i h1
  match vs, h1 with
  | [v], _ => rfl
 rename_i h1
 match vs, h1 with
 | [], _ => rfl
 | [v], h1 => simp at h1
 | _ :: _ :: _, _ => rfl
def initFr : Nat → List Value → Fr
 | _, [] => []
 | k, v :: r => (k, .v v) :: initFr (k + 1) r
theorem look_initFr : ∀ (l : List Value) (k j : Nat) (s : SV), look (initFr k l) j = some s → k ≤ j ∧ ∃ v, s = .v v ∧ l[j - k]? = some v
 | [], k, j, s, h => by simp [initFr, look] at h
 | v :: r, k, j, s, h => by
  simp only [initFr, look] at h
  split at h
  ·rename_i hb
   have := Nat.eq_of_beq_eq_true hb
   subst this
   cases h
   exact ⟨Nat.le_refl _, v, rfl, by simp⟩
  obtain ⟨h1, v', h2, h3⟩ := look_initFr r (k + 1) j s h
  refine ⟨by omega, v', h2, ?_⟩
  rw [show j - k = (j - (k + 1)) + 1 by omega, List.getElem?_cons_succ]; exact h3
def exBody (P : Program) (E : World) (Γ : Ty) (fn : Func) (st : St) (Q : Exit → St → Prop) : Prop :=
 match fn with
 | ⟨_, _, _, _, _, _, n, _, some c, _, _, _, _, _, _, _⟩ => exC P E Γ n c st Q
 | _ => False
def exFn (P : Program) (E : World) (Γ : Ty) (fn : Func) (args : List Value) (R : List Hp) (post : Value → List Blk → List Hp → Prop) : Prop :=
 exBody P E Γ fn ⟨initFr 0 args, [], R⟩ (retQ Γ fn.results post)
theorem exFn_sound (hΓ : TyOk P Γ) {f : FuncId} {fn : Func} (hf : P.funcs[f]? = some fn) {args : List Value} (ha : Nat.ble args.length fn.ntmps = true) {R : List Hp} {post : Value → List Blk → List Hp → Prop}
  (h : exFn P E Γ fn args R post) {w : World} (hs : Sat E R.flatten w) :
  Calls P f ⟨args⟩ w fun e w' => ∃ v bl R', e = .returned v ∧ Sat E (St.hall ⟨[], bl, R'⟩) w' ∧ post v bl R' := by
 unfold exFn exBody at h
 split at h
 ·rename_i nm og tg ps rt nf n rs c nr ou fi el ln mt tn
  refine calls_of_wp hf rfl ?_
  have ha' : args.length ≤ n := Nat.le_of_ble_eq_true ha
  have hr : Rel E n ⟨initFr 0 args, [], R⟩ { tmps := (⟨args⟩ : Array Value) ++ Array.replicate (n - (⟨args⟩ : Array Value).size) undef, defers := [] } w := by
   refine ⟨?_, rfl, ?_, by simpa [St.hall] using hs⟩
   ·simp; omega
   intro k sv hk
   obtain ⟨_, v, h2, h3⟩ := look_initFr args 0 k sv hk
   subst h2
   refine ⟨?_, trivial⟩
   simp only [SV.den]
   simp only [Nat.sub_zero] at h3
   have hlt : k < args.length := by
    rcases Nat.lt_or_ge k args.length with h4 | h4
    ·exact h4
    rw [List.getElem?_eq_none h4] at h3; cases h3
   rw [Array.getElem?_append_left (by simpa using hlt)]
   simpa using h3
  refine wp_mono (exC_sound hΓ c _ _ _ _ h hr) ?_
  rintro e a' w' ⟨⟨fr', bl', R'⟩, h1, h2⟩
  obtain ⟨rs⟩ := rs
  cases e with
  | normal =>
   obtain ⟨vs, h3, h4⟩ := resK_sound (P := P) hΓ h1 h2
   exact ⟨h1.defers, _, run_results rfl h4, _, bl', R', rfl, h1.sat, oneOrK_sound h3⟩
  | ret =>
   obtain ⟨vs, h3, h4⟩ := resK_sound (P := P) hΓ h1 h2
   exact ⟨h1.defers, _, run_results rfl h4, _, bl', R', rfl, h1.sat, oneOrK_sound h3⟩
  | _ => exact h2.elim
 exact h.elim
def Ct (P : Program) (f : FuncId) (args : List Value) (A0 : Hp) (pre : Hp → Prop) (post : Value → Hp → Prop) : Prop :=
 (∃ fn, P.funcs[f]? = some fn ∧ fn.name ≠ "runtime.NumGoroutine" ∧ fn.body.isSome = true) ∧
 ∀ E H w, Sat E (A0 ++ H) w → pre (A0 ++ H) → Calls P f ⟨args⟩ w fun e w' => ∃ v A, e = .returned v ∧ post v A ∧ Sat E (A ++ H) w'
theorem Ct.intro (hΓ : TyOk P Γ) {f : FuncId} {fn : Func} (hf : P.funcs[f]? = some fn) (hn : decide (fn.name = "runtime.NumGoroutine") = false) (hb : fn.body.isSome = true) {args : List Value} (ha : Nat.ble args.length fn.ntmps = true) {A0 : Hp} {pre : Hp → Prop} {post : Value → Hp → Prop}
  (h : ∀ E H, pre (A0 ++ H) → exFn P E Γ fn args [A0, H] fun v bl R => ∃ A, post v A ∧ RLe (bl.map Blk.ent :: R) [A, H]) : Ct P f args A0 pre post := by
 refine ⟨⟨fn, hf, of_decide_eq_false hn, hb⟩, fun E H w hs hp => ?_⟩
 refine (exFn_sound hΓ hf ha (h E H hp) (by simpa using hs)).mono ?_
 rintro e w' ⟨v, bl, R', h1, h2, A, h3, L, h4⟩
 refine ⟨v, A, h1, h3, ?_⟩
 have : (St.hall ⟨[], bl, R'⟩).Perm ((A ++ H) ++ L) := by simpa [St.hall] using h4
 exact (h2.perm this).drop
theorem call_new {f : FuncId} {args : List Value} {bl : List Blk} {R : List Hp} {pre : Hp → Prop} {post : Value → Hp → Prop} {K : Value → List Blk → List Hp → Prop} (hc : Ct P f args [] pre post)
  (hp : pre (St.hall ⟨[], bl, R⟩)) (hk : ∀ v A, post v A → K v bl (A :: R)) : VCcall P E f args ⟨[], bl, R⟩ K := by
 refine .intro hc.1 (fun w hs => (hc.2 E _ w (by simpa using hs) (by simpa using hp)).mono ?_)
 rintro e w' ⟨v, A, h1, h2, h3⟩
 refine ⟨v, bl, A :: R, h1, h3.perm ?_, rfl, hk v A h2⟩
 simp only [St.hall, List.flatten_cons]
 rw [← List.append_assoc, ← List.append_assoc]
 exact List.Perm.append_right _ List.perm_append_comm
theorem call_val {f : FuncId} {args : List Value} {bl : List Blk} {R : List Hp} {pre : Hp → Prop} {post : Value → Prop} {K : Value → List Blk → List Hp → Prop} (hc : Ct P f args [] pre (fun v A => post v ∧ A = []))
  (hp : pre (St.hall ⟨[], bl, R⟩)) (hk : ∀ v, post v → K v bl R) : VCcall P E f args ⟨[], bl, R⟩ K := by
 refine .intro hc.1 (fun w hs => (hc.2 E _ w (by simpa using hs) (by simpa using hp)).mono ?_)
 rintro e w' ⟨v, A, h1, ⟨h2, rfl⟩, h3⟩
 exact ⟨v, bl, R, h1, by simpa using h3, rfl, hk v h2⟩
end
end Go.SX
namespace Go.SX
open Go.RowKit Go.WideShapes Go.ChangeShapes
structure Rp (α : Type) where
 size : Nat
 rd : Hp → List Value → α → Prop
 mono : ∀ {H H' : Hp} {l : List Value} {x : α}, (∀ p ∈ H, p ∈ H') → rd H l x → rd H' l x
 len : ∀ {H : Hp} {l : List Value} {x : α}, rd H l x → l.length = size
theorem RdCells.mono {H H' : Hp} {b o n : Nat} {l : List Value} (hh : ∀ p ∈ H, p ∈ H') (h : RdCells H b o n l) : RdCells H' b o n l := by
 obtain ⟨h1, cs, T, fz, h2, h3⟩ := h
 exact ⟨h1, cs, T, fz, hh _ h2, h3⟩
def okI (x : Int) : Prop := -9223372036854775808 ≤ x ∧ x ≤ 9223372036854775807
def rpInt : Rp Int where
 size := 1
 rd _ l x := l = [.int .i64 x] ∧ okI x
 mono _ h := h
 len h := by rw [h.1]; rfl
def rpBool : Rp Bool where
 size := 1
 rd _ l x := l = [.bool x]
 mono _ h := h
 len h := by rw [h]; rfl
def rpStr : Rp ByteArray where
 size := 1
 rd _ l x := l = [.string x] ∧ x.size ≤ 9223372036854775807
 mono _ h := h
 len h := by rw [h.1]; rfl
def rpSl {α : Type} (r : Rp α) : Rp (List α) where
 size := 1
 rd H l xs := ∃ base cap, l = [.slice base xs.length cap] ∧ (xs.length ≤ cap ∧ xs.length ≤ 9223372036854775807) ∧
  ∀ i (h : i < xs.length), ∃ b o l', base = some ⟨b, o, none⟩ ∧ RdCells H b (o + i * r.size) r.size l' ∧ r.rd H l' xs[i]
 mono hh h := by
  obtain ⟨base, cap, h1, h2, h3⟩ := h
  refine ⟨base, cap, h1, h2, fun i hi => ?_⟩
  obtain ⟨b, o, l', h4, h5, h6⟩ := h3 i hi
  exact ⟨b, o, l', h4, h5.mono hh, r.mono hh h6⟩
 len h := by obtain ⟨_, _, h1, _⟩ := h; rw [h1]; rfl
def Cov (w : World) (H : Hp) : Prop := ∀ b c t fz, w.heap[b]? = some (.cells c t fz) → (b, Obj.cells c t fz) ∈ H
def Opens {α : Type} (P : Program) (r : Rp α) (T : TypeId) : Prop :=
 ∀ {H' : Type} (enc : TypeId × Value → H') (w : World) (H : Hp) (sp : Nat → Bool) (hd : Bool) (fuel : Nat) (cs : List Value) (d : DataW H') (ps : List MemPlace), Cov w H →
  DataW.trod enc P w 0 sp hd fuel T cs = some (d, ps) → ∃ x, r.rd H cs x
section
variable {P : Program} {Γ : Ty}
theorem opens_int {T : TypeId} (h : P.underlying T = some (.int .i64)) : Opens P rpInt T := by
 intro H' enc w H sp hd fuel cs d ps _ ht
 obtain ⟨n, e1, _, hw⟩ := DataW.trod_int h ht
 exact ⟨n, e1, by simpa [Lit.wf, IntKind.min, IntKind.max, IntKind.signed, IntKind.bits, okI] using hw⟩
theorem opens_bool {T : TypeId} (h : P.underlying T = some .bool) : Opens P rpBool T := by
 intro H' enc w H sp hd fuel cs d ps _ ht
 obtain ⟨n, e1, _⟩ := DataW.trod_bool h ht
 exact ⟨n, e1⟩
theorem opens_str {T : TypeId} (h : P.underlying T = some .string) : Opens P rpStr T := by
 intro H' enc w H sp hd fuel cs d ps _ ht
 obtain ⟨s, e1, _, hw⟩ := DataW.trod_string h ht
 exact ⟨s, e1, hw⟩
theorem mapM_some {α β : Type} {f : α → Option β} : ∀ {l : List α} {r : List β}, l.mapM f = some r → r.length = l.length ∧ ∀ i (h : i < l.length), f l[i] = r[i]?
 | [], r, h => by simp at h; subst h; exact ⟨rfl, fun i hi => by simp at hi⟩
 | x :: xs, r, h => by
  rw [List.mapM_cons] at h
  cases hx : f x with
  | none => rw [hx] at h; cases h
  | some y =>
   rw [hx] at h
   cases hxs : xs.mapM f with
   | none => simp [hxs] at h
   | some ys =>
    simp [hxs] at h
    subst h
    obtain ⟨h1, h2⟩ := mapM_some hxs
    refine ⟨by simp [h1], fun i hi => ?_⟩
    cases i with
    | zero => simp [hx]
    | succ i => simp only [List.getElem_cons_succ, List.getElem?_cons_succ]; exact h2 i (by simpa using hi)
theorem rd_of_cells {w : World} {H : Hp} (hc : Cov w H) {a : Addr} {n : Nat} {l : List Value} (h : w.cells? 0 a n = some l) (hn : 0 < n) : a = ⟨a.block, a.off, none⟩ ∧ RdCells H a.block a.off n l := by
 unfold World.cells? at h
 rw [if_pos (Nat.zero_le _)] at h
 obtain ⟨h1, h2⟩ := mapM_some h
 simp only [List.length_range] at h1 h2
 have h0 := h2 0 hn
 simp only [List.getElem_range] at h0
 have hl0 : l[0]? ≠ none := by rw [List.getElem?_eq_getElem (by omega)]; simp
 have hsp : a.spot = none := by
  cases hs : a.spot with
  | none => rfl
  | some x =>
   exfalso
   apply hl0
   rw [← h0]
   unfold Addr.add World.cell?
   simp only [if_true]
   split
   ·simp [hs]
   rfl
 have ha : a = ⟨a.block, a.off, none⟩ := by cases a; simp_all
 refine ⟨ha, h1, ?_⟩
 have hc0 : w.cell? ⟨a.block, a.off, none⟩ ≠ none := by
  rw [← ha]
  have e : a.add 0 = a := by unfold Addr.add; simp
  rw [e] at h0
  rw [h0]; exact hl0
 unfold World.cell? at hc0
 simp only at hc0
 split at hc0
 ·rename_i cs T fz hb
  refine ⟨cs, T, fz, hc _ _ _ _ hb, fun i hi => ?_⟩
  have := h2 i (by omega)
  simp only [List.getElem_range] at this
  rw [← this, ha, addr_add]
  simp [World.cell?, hb]
 exact (hc0 rfl).elim
theorem opens_sl {α : Type} {r : Rp α} {T e : TypeId} (h : P.underlying T = some (.slice e)) (hs : P.cellsOf e = r.size) (hp : 0 < r.size) (ho : Opens P r e) : Opens P (rpSl r) T := by
 intro H' enc w H sp hd fuel cs d ps hc ht
 rcases DataW.trod_slice h ht with ⟨e1, _⟩ | ⟨a, len, cap, elems, rest, n, _, e1, _, _, h2, h3, h4, h5, _, _⟩
 ·exact ⟨[], none, 0, e1, ⟨by simp, by simp⟩, fun i hi => by simp at hi⟩
 have key : ∀ i, i < len → ∃ x b o l', a = ⟨b, o, none⟩ ∧ RdCells H b (o + i * r.size) r.size l' ∧ r.rd H l' x := by
  intro i hi
  have h6 := h5 i hi
  rw [List.getElem?_eq_getElem (by omega), Option.bind_eq_some_iff] at h6
  obtain ⟨l', h7, h8⟩ := h6
  rw [hs] at h7
  obtain ⟨ha, h9⟩ := rd_of_cells hc h7 hp
  obtain ⟨x, hx⟩ := ho enc w H sp hd n l' _ _ hc h8
  obtain ⟨b, o, s⟩ := a
  have hsp : s = none := by
   unfold Addr.add at ha
   split at ha
   ·cases ha; rfl
   rename_i hne
   by_cases hs0 : s = none
   ·exact hs0
   exfalso
   have hcell : w.cells? 0 ⟨b, o, s⟩ r.size ≠ none := by
    have h60 := h5 0 (by omega)
    rw [List.getElem?_eq_getElem (by omega), Option.bind_eq_some_iff] at h60
    obtain ⟨l0, h70, _⟩ := h60
    rw [hs] at h70
    have e0 : (⟨b, o, s⟩ : Addr).add (0 * r.size) = ⟨b, o, s⟩ := by simp [Addr.add]
    rw [e0] at h70
    rw [h70]; simp
   cases hcc : w.cells? 0 ⟨b, o, s⟩ r.size with
   | none => exact hcell hcc
   | some l0 =>
    obtain ⟨ha0, _⟩ := rd_of_cells hc hcc hp
    cases ha0
    exact hs0 rfl
  subst hsp
  refine ⟨x, b, o, l', rfl, ?_, hx⟩
  rw [addr_add] at h9
  exact h9
 have hex : ∃ xs : List α, xs.length = len ∧ ∀ i (hi : i < xs.length), ∃ b o l', a = ⟨b, o, none⟩ ∧ RdCells H b (o + i * r.size) r.size l' ∧ r.rd H l' xs[i] := by
  clear h5 h4 e1 h2
  have : ∀ m, m ≤ len → ∃ xs : List α, xs.length = m ∧ ∀ i (hi : i < xs.length), ∃ b o l', a = ⟨b, o, none⟩ ∧ RdCells H b (o + i * r.size) r.size l' ∧ r.rd H l' xs[i] := by
   intro m
   induction m with
   | zero => intro _; exact ⟨[], rfl, fun i hi => by simp at hi⟩
   | succ m ih =>
    intro hm
    obtain ⟨xs, hx1, hx2⟩ := ih (by omega)
    obtain ⟨x, hx3⟩ := key m (by omega)
    refine ⟨xs ++ [x], by simp [hx1], fun i hi => ?_⟩
    by_cases him : i < xs.length
    ·rw [List.getElem_append_left him]; exact hx2 i him
    have : i = m := by simp at hi; omega
    subst this
    obtain ⟨b, o, l', g1, g2, g3⟩ := hx3
    refine ⟨b, o, l', g1, g2, ?_⟩
    rw [List.getElem_append_right (by omega)]
    simpa [hx1] using g3
  exact this len (Nat.le_refl _)
 obtain ⟨xs, hx1, hx2⟩ := hex
 refine ⟨xs, some a, cap, by rw [e1, hx1], by rw [hx1]; unfold maxLen at h3; omega, fun i hi => ?_⟩
 obtain ⟨b, o, l', g1, g2, g3⟩ := hx2 i hi
 exact ⟨b, o, l', by rw [g1], g2, g3⟩
theorem trod_fields {fl : List (Nat × TypeId)} {T : TypeId} (h : UD.ok P T (.struct fl)) {H' : Type} {enc : TypeId × Value → H'} {w : World} {sp : Nat → Bool} {hd : Bool} {fuel : Nat} {cs : List Value} {x : DataW H' × List MemPlace}
  (ht : DataW.trod enc P w 0 sp hd fuel T cs = some x) : cs.length = P.cellsOf T ∧ ∀ (i off ft : Nat), fl[i]? = some (off, ft) → ∃ n y, DataW.trod enc P w 0 sp hd n ft ((cs.drop off).take (P.cellsOf ft)) = some y := by
 obtain ⟨fs, hu, hfl⟩ := h
 obtain ⟨xs, n, _, _, h1, h2, h3⟩ := DataW.trod_struct hu ht
 refine ⟨h1, fun i off ft hi => ?_⟩
 rw [← hfl] at hi
 simp only [List.getElem?_map, Option.map_eq_some_iff] at hi
 obtain ⟨f, hf1, hf2⟩ := hi
 cases hf2
 have hf : fs[i]? = some f := by simpa using hf1
 have hlt : i < xs.length := by rw [h2]; exact (Array.getElem?_eq_some_iff.1 hf).1
 exact ⟨n, xs[i], by rw [h3 i f hf, List.getElem?_eq_getElem hlt]⟩
/- all blocks of a world -/
def allOf (w : World) : Hp := (List.range w.heap.size).filterMap fun b => (w.heap[b]?).map fun o => (b, o)
theorem mem_allOf {w : World} {b : Nat} {o : Obj} : (b, o) ∈ allOf w ↔ w.heap[b]? = some o := by
 unfold allOf
 simp only [List.mem_filterMap, List.mem_range, Option.map_eq_some_iff, Prod.mk.injEq]
 constructor
 ·rintro ⟨b', _, o', h1, rfl, rfl⟩; exact h1
 intro h
 exact ⟨b, (Array.getElem?_eq_some_iff.1 h).1, o, h, rfl, rfl⟩
theorem nodup_allOf (w : World) : ((allOf w).map (·.1)).Nodup := by
 have : (allOf w).map (·.1) = List.range w.heap.size := by
  unfold allOf
  rw [List.map_filterMap]
  have : ∀ l : List Nat, (∀ b ∈ l, b < w.heap.size) → l.filterMap (fun b => Option.map (·.1) ((w.heap[b]?).map fun o => (b, o))) = l := by
   intro l
   induction l with
   | nil => intro _; rfl
   | cons b r ih =>
    intro hb
    have h0 : b < w.heap.size := hb b (by simp)
    rw [List.filterMap_cons]
    simp only [Array.getElem?_eq_getElem h0, Option.map_some]
    rw [ih (fun c hc => hb c (by simp [hc]))]
  exact this _ (fun b hb => by simpa using hb)
 rw [this]
 exact List.nodup_range
theorem sat_allOf (w : World) : Sat w (allOf w) w := ⟨rfl, rfl, rfl, fun _ _ h => mem_allOf.1 h, nodup_allOf w, Nat.le_refl _⟩
theorem cov_allOf (w : World) : Cov w (allOf w) := fun _ _ _ _ h => mem_allOf.2 h
theorem below_of_sat {W W' : World} {A : Hp} (h : Sat W (A ++ allOf W) W') : Below W.heap.size W W' := by
 have hb : ∀ k, k < W.heap.size → W'.heap[k]? = W.heap[k]? := by
  intro k hk
  have h1 : W.heap[k]? = some W.heap[k] := Array.getElem?_eq_getElem hk
  rw [h1]
  exact h.mem _ _ (List.mem_append_right _ (mem_allOf.2 h1))
 refine ⟨h.os, h.tape, h.out, ?_, hb⟩
 rcases Nat.lt_or_ge W'.heap.size W.heap.size with hlt | hge
 ·exfalso
  have := hb W'.heap.size hlt
  rw [Array.getElem?_eq_none (Nat.le_refl _), Array.getElem?_eq_getElem hlt] at this
  cases this
 exact hge
theorem trodAll_stays {H' : Type} {enc : TypeId × Value → H'} (hl : laidOutB P = true) {W W' : World} {sp' : Nat → Bool} : ∀ {ts : List TypeId} {vs : List Value} {ds : List (DataW H')} {ps : List MemPlace},
  ts.all (fun t => P.readableRec t && decide (t < P.types.size)) = true → DataW.TrodAll enc P W 0 (fun _ => true) true ts vs ds ps → (∀ p ∈ ps, W.sameAt W' p) → (∀ p ∈ ps, sp' p.block = true) → DataW.TrodAll enc P W' 0 sp' true ts vs ds ps
 | [], [], [], _, _, h, _, _ => h
 | t :: ts, _ :: _, _ :: _, _, hr, ⟨p, q, h1, h2, e⟩, hs, hsp => by
  simp only [List.all_cons, Bool.and_eq_true, decide_eq_true_eq] at hr
  subst e
  exact ⟨p, q, WideElems.Trod_stays hl hr.1.1 hr.1.2 h1 (fun x hx => hs x (List.mem_append_left _ hx)) (fun x hx => hsp x (List.mem_append_left _ hx)),
   trodAll_stays hl (by simpa using hr.2) h2 (fun x hx => hs x (List.mem_append_right _ hx)) (fun x hx => hsp x (List.mem_append_right _ hx)), rfl⟩
theorem law_of_ct {H' : Type} {enc : TypeId × Value → H'} {f : FuncId} {fn : Func} {s : ChangeSpec} {Tb : TypeId} (hl : laidOutB P = true)
  (hp : fn.params.toList.all (fun t => P.readableRec t && decide (t < P.types.size)) = true) (hres : fn.resultTypes = #[Tb]) (hTb : P.underlying Tb = some .bool)
  (hvars : s.vars = []) {W : World} {args : Array Value} {ds gs : List (DataW H')} {before : List MemPlace}
  (hspec : s.fn H' (ds ++ gs) = { results := [.lit (.bool true)], args := ds ++ gs, vars := [] })
  (hW : DataW.Whole enc P fn.params.toList s.vars false W args.toList ds gs before)
  {pre : Hp → Prop} (hpre : pre (allOf W)) (hct : Ct P f args.toList [] pre (fun v A => v = .bool true ∧ A = [])) :
  Calls P f args W fun e W' => ∃ v, e = .returned v ∧ s.post enc P fn false true false false W args v W' := by
 have hc := hct.2 W (allOf W) W (by simpa using sat_allOf W) (by simpa using hpre)
 refine Calls.mono hc ?_
 rintro e W' ⟨v, A, rfl, ⟨rfl, rfl⟩, hs⟩
 refine ⟨_, rfl, ?_⟩
 have hb := below_of_sat hs
 have hlt : ∀ p ∈ before, p.block < W.heap.size := fun p hp => hW.lt p hp
 have hWc := hW
 obtain ⟨p, q, hA, hV, rfl, hz, hn⟩ := hWc
 rw [hvars] at hV
 have hgs : gs = [] ∧ q = [] := by
  cases gs with
  | nil => exact ⟨rfl, hV⟩
  | cons _ _ => exact hV.elim
 obtain ⟨rfl, rfl⟩ := hgs
 have hsame : ∀ x ∈ p, W.sameAt W' x := fun x hx => hb.same (hlt x (List.mem_append_left _ hx))
 have hargs : ∀ sp : Nat → Bool, (∀ x ∈ p, sp x.block = true) → DataW.TrodAll enc P W' 0 sp true fn.params.toList args.toList ds p := fun sp hsp => trodAll_stays hl hp hA hsame hsp
 have hresT : ∀ (b : Nat) (sp : Nat → Bool) (hd : Bool), DataW.TrodAll enc P W' b sp hd fn.resultTypes.toList ((Value.bool true).resultList fn.resultTypes.size) [.lit (.bool true)] [] := by
  intro b sp hd
  rw [hres]
  exact ⟨[], [], shut_bool hTb true, rfl, rfl⟩
 rw [List.append_nil] at hspec
 refine ⟨ds, [], p ++ [], [], p, [], hW, ?_, ?_, ?_, World.keptBut_mono (fun x hx => ⟨hx, ?_⟩) (hb.frame (· ∈ p ++ [])), fun h => by cases h⟩
 ·rw [List.append_nil, hspec]; exact hresT _ _ _
 ·rw [List.append_nil, hspec]; exact hargs _ (fun x hx => by simpa using hlt x (List.mem_append_left _ hx))
 ·rw [List.append_nil, hspec, hvars]; rfl
 simpa using hx
def rdV {α : Type} (agg : Bool) (r : Rp α) (H : Hp) (v : Value) (x : α) : Prop :=
 match agg with
 | true => ∃ l, v = .agg ⟨l⟩ ∧ r.rd H l x
 | false => r.rd H [v] x
theorem rdV_of {α : Type} {r : Rp α} {Γ : Ty} (hΓ : TyOk P Γ) {T : TypeId} {ti : TI} (ht : tyOf Γ T = some ti) (hk : ∀ a b, ti.und ≠ .map a b) (hk2 : ti.und ≠ .func) (hk3 : ∀ e, ti.und ≠ .pointer e) (ho : Opens P r T) {H' : Type} {enc : TypeId × Value → H'} {w : World} {H : Hp} (hc : Cov w H)
  {sp : Nat → Bool} {hd : Bool} {v : Value} {d : DataW H'} {ps : List MemPlace} {rr : Reach} {b0 : Nat} (hv : Value.okWide P w rr b0 T v) (h : DataW.Trod enc P w 0 sp hd T v d ps) : ∃ x, rdV ti.agg r H v x := by
 obtain ⟨fuel, hf⟩ := h
 obtain ⟨x, hx⟩ := ho enc w H sp hd fuel _ _ _ hc hf
 refine ⟨x, ?_⟩
 have hu := (hΓ _ _ ht).1
 obtain ⟨u, s1, b1, z1⟩ := ti
 cases u <;> simp only [UD.ok, TI.agg] at hu ⊢
 case bool => obtain ⟨b, rfl⟩ := okWide_bool hu hv; exact hx
 case int => obtain ⟨b, rfl⟩ := okWide_int hu hv; exact hx
 case string => obtain ⟨b, rfl⟩ := okWide_string hu hv; exact hx
 case slice => obtain ⟨b, _, _, rfl⟩ := okWide_slice hu hv; exact hx
 case struct =>
  obtain ⟨fs, hu, _⟩ := hu
  obtain ⟨cs, rfl, _⟩ := okWide_struct hu hv
  exact ⟨cs.toList, rfl, hx⟩
 case pointer => exact (hk3 _ rfl).elim
 case map => exact (hk _ _ rfl).elim
 case func => exact (hk2 rfl).elim
end
end Go.SX
namespace Go.SX
structure Fl (α : Type) where
 size : Nat
 enc : α → List Value
 wf : α → Prop
 len : ∀ x, (enc x).length = size
 one : ∀ x, allOne (enc x) = true
 pos : 0 < size
def Fl.rp {α : Type} (f : Fl α) : Rp α where
 size := f.size
 rd _ l x := l = f.enc x ∧ f.wf x
 mono _ h := h
 len h := by rw [h.1]; exact f.len _
def flInt : Fl Int := ⟨1, fun x => [.int .i64 x], okI, fun _ => rfl, fun _ => rfl, by omega⟩
def flBool : Fl Bool := ⟨1, fun x => [.bool x], fun _ => True, fun _ => rfl, fun _ => rfl, by omega⟩
def flByte : Fl UInt8 := ⟨1, fun x => [.int .u8 x.toNat], fun _ => True, fun _ => rfl, fun _ => rfl, by omega⟩
def flStr : Fl ByteArray := ⟨1, fun x => [.string x], fun x => x.size ≤ 9223372036854775807, fun _ => rfl, fun _ => rfl, by omega⟩
section
variable {α : Type} (f : Fl α)
theorem flat_length : ∀ xs : List α, (xs.flatMap f.enc).length = xs.length * f.size
 | [] => by simp
 | x :: r => by simp only [List.flatMap_cons, List.length_append, f.len, flat_length r, List.length_cons]; rw [Nat.succ_mul]; omega
theorem flat_get : ∀ (xs : List α) (i k : Nat) (hi : i < xs.length), k < f.size → (xs.flatMap f.enc)[i * f.size + k]? = (f.enc xs[i])[k]?
 | [], i, k, hi, _ => by simp at hi
 | x :: r, 0, k, _, hk => by
  simp only [List.flatMap_cons, Nat.zero_mul, Nat.zero_add, List.getElem_cons_zero]
  rw [List.getElem?_append_left (by rw [f.len]; exact hk)]
 | x :: r, i + 1, k, hi, hk => by
  simp only [List.flatMap_cons, List.getElem_cons_succ]
  rw [List.getElem?_append_right (by rw [f.len, Nat.succ_mul]; omega), f.len]
  rw [show (i + 1) * f.size + k - f.size = i * f.size + k by rw [Nat.succ_mul]; omega]
  exact flat_get r i k (by simpa using hi) hk
theorem flat_set (xs : List α) (i : Nat) (y : α) (sp : List Value) (hi : i < xs.length) : setAt (xs.flatMap f.enc ++ sp) (i * f.size) (f.enc y) = (xs.set i y).flatMap f.enc ++ sp := by
 have hl := flat_length f xs
 have hb : i * f.size + f.size ≤ xs.length * f.size := by
  have := Nat.mul_le_mul_right f.size (show i + 1 ≤ xs.length by omega)
  rw [Nat.succ_mul] at this; exact this
 rw [setAt_eq _ _ _ (by rw [List.length_append, hl, f.len]; omega), f.len]
 apply List.ext_getElem?
 intro j
 have hl2 := flat_length f (xs.set i y)
 rw [List.length_set] at hl2
 by_cases hj : j < xs.length * f.size
 ·rw [List.getElem?_append_left (l₁ := (xs.set i y).flatMap f.enc) (by omega)]
  have hp := f.pos
  have hq : j / f.size < xs.length := (Nat.div_lt_iff_lt_mul hp).2 hj
  have hm : j % f.size < f.size := Nat.mod_lt _ hp
  have hjj : j = (j / f.size) * f.size + j % f.size := by rw [Nat.mul_comm]; exact (Nat.div_add_mod j f.size).symm
  have hr : ((xs.set i y).flatMap f.enc)[j]? = (f.enc ((xs.set i y)[j / f.size]'(by simpa using hq)))[j % f.size]? := by
   have := flat_get f (xs.set i y) (j / f.size) (j % f.size) (by simpa using hq) hm
   rw [← hjj] at this; exact this
  have ho : (xs.flatMap f.enc)[j]? = (f.enc xs[j / f.size])[j % f.size]? := by
   have := flat_get f xs (j / f.size) (j % f.size) hq hm
   rw [← hjj] at this; exact this
  rw [hr]
  by_cases h1 : j < i * f.size
  ·have hne : j / f.size ≠ i := by
    intro e
    have : i * f.size ≤ j := by rw [← e]; exact Nat.div_mul_le_self _ _
    omega
   rw [List.append_assoc, List.getElem?_append_left (by rw [List.length_take, List.length_append]; omega), List.getElem?_take, if_pos h1, List.getElem?_append_left (by omega), ho]
   rw [List.getElem_set_ne (by omega)]
  by_cases h2 : j < i * f.size + f.size
  ·have he : j / f.size = i := by
    apply Nat.div_eq_of_lt_le
    ·omega
    rw [Nat.succ_mul]; omega
   have hjm : j % f.size = j - i * f.size := by
    have : (j / f.size) * f.size + j % f.size = j := by rw [Nat.mul_comm]; exact Nat.div_add_mod j f.size
    rw [he] at this; omega
   rw [List.append_assoc, List.getElem?_append_right (by rw [List.length_take, List.length_append]; omega)]
   rw [List.getElem?_append_left (by rw [List.length_take, List.length_append, f.len]; omega)]
   have e2 : j - (List.take (i * f.size) (xs.flatMap f.enc ++ sp)).length = j % f.size := by
    rw [List.length_take, List.length_append, hl, hjm]; omega
   rw [e2]
   congr 2
   subst he
   simp
  have hne : j / f.size ≠ i := by
   intro e
   have h3 : (j / f.size) * f.size + j % f.size = j := by rw [Nat.mul_comm]; exact Nat.div_add_mod j f.size
   rw [e] at h3; omega
  rw [List.append_assoc, List.getElem?_append_right (by rw [List.length_take, List.length_append]; omega)]
  rw [List.getElem?_append_right (by rw [List.length_take, List.length_append, f.len]; omega)]
  rw [List.getElem?_drop, List.length_take, List.length_append, f.len, hl]
  rw [show i * f.size + f.size + (j - min (i * f.size) (xs.length * f.size + sp.length) - f.size) = j by omega]
  rw [List.getElem?_append_left (by omega), ho, List.getElem_set_ne (by omega)]
 rw [List.getElem?_append_right (l₁ := (xs.set i y).flatMap f.enc) (by omega), hl2]
 rw [List.append_assoc, List.getElem?_append_right (by rw [List.length_take, List.length_append]; omega)]
 rw [List.getElem?_append_right (by rw [List.length_take, List.length_append, f.len]; omega)]
 rw [List.getElem?_drop, List.length_take, List.length_append, f.len, hl]
 rw [show i * f.size + f.size + (j - min (i * f.size) (xs.length * f.size + sp.length) - f.size) = j by omega]
 rw [List.getElem?_append_right (by omega), hl]
def Ow (T : TypeId) (v : Value) (xs : List α) (A : Hp) : Prop :=
 (∀ x ∈ xs, f.wf x) ∧ xs.length ≤ 9223372036854775807 ∧ ∃ base cap, v = .slice base xs.length cap ∧
  ((cap = 0 ∧ xs = [] ∧ A = []) ∨ ∃ b sp, base = some ⟨b, 0, none⟩ ∧ A = [(b, Obj.cells ⟨xs.flatMap f.enc ++ sp⟩ T)] ∧ xs.length ≤ cap ∧ (cap - xs.length) * f.size ≤ sp.length)
variable {f}
theorem Ow.nil (T : TypeId) (base : Option Addr) : Ow f T (.slice base 0 0) [] [] :=
 ⟨(fun _ h => by cases h), by simp, base, 0, rfl, .inl ⟨rfl, rfl, rfl⟩⟩
theorem Ow.rd {T : TypeId} {v : Value} {xs : List α} {A : Hp} (h : Ow f T v xs A) : (rpSl f.rp).rd A [v] xs := by
 obtain ⟨hw, hl, base, cap, rfl, h1⟩ := h
 refine ⟨base, cap, rfl, ⟨by rcases h1 with ⟨_, rfl, _⟩ | ⟨_, _, _, _, h1, _⟩ <;> simp_all, hl⟩, fun i hi => ?_⟩
 rcases h1 with ⟨_, rfl, _⟩ | ⟨b, sp, rfl, rfl, _, _⟩
 ·simp at hi
 refine ⟨b, 0, f.enc xs[i], rfl, ⟨f.len _, _, T, (0, 0), List.mem_singleton.2 rfl, fun k hk => ?_⟩, rfl, hw _ (List.getElem_mem _)⟩
 simp only [Nat.zero_add]
 have hk' : k < f.size := hk
 have hlen := flat_length f xs
 have hb : i * f.size + f.size ≤ xs.length * f.size := by
  have := Nat.mul_le_mul_right f.size (show i + 1 ≤ xs.length by omega)
  rw [Nat.succ_mul] at this; exact this
 have e : (⟨xs.flatMap f.enc ++ sp⟩ : Array Value)[i * f.size + k]? = (xs.flatMap f.enc ++ sp)[i * f.size + k]? := List.getElem?_toArray
 refine e.trans ?_
 rw [List.getElem?_append_left (by omega)]
 exact flat_get f xs i k hi hk'
theorem rd_row {H : Hp} {base : Option Addr} {m cap : Nat} {ys : List α} (h : (rpSl f.rp).rd H [.slice base m cap] ys) {P : Program} {E : World} {w : World} (hs : Sat E H w) :
  m = ys.length ∧ (Builtin.firstCells f.size m (.slice base m cap)).run P w = .ok ⟨ys.flatMap f.enc⟩ w := by
 obtain ⟨base', cap', h1, h2, h3⟩ := h
 cases h1
 refine ⟨rfl, ?_⟩
 cases base with
 | none =>
  cases ys with
  | nil => rfl
  | cons y r => obtain ⟨_, _, _, h4, _⟩ := h3 0 (by simp); cases h4
 | some a =>
  simp only [Builtin.firstCells]
  rw [← flat_length f ys]
  cases ys with
  | nil => rfl
  | cons y r =>
   obtain ⟨b, o, _, h4, _⟩ := h3 0 (by simp)
   cases h4
   refine run_loadCells_list w ⟨b, o, none⟩ _ fun j v hj => ?_
   have hlt : j < (y :: r).length * f.size := by
    rw [← flat_length f]
    rcases Nat.lt_or_ge j ((y :: r).flatMap f.enc).length with h5 | h5
    ·exact h5
    rw [List.getElem?_eq_none h5] at hj; cases hj
   have hq : j / f.size < (y :: r).length := (Nat.div_lt_iff_lt_mul f.pos).2 hlt
   have hm : j % f.size < f.size := Nat.mod_lt _ f.pos
   have hjj : (j / f.size) * f.size + j % f.size = j := by rw [Nat.mul_comm]; exact Nat.div_add_mod j f.size
   obtain ⟨b', o', l', h6, ⟨h7, cs, T, fz, h8, h9⟩, h10, _⟩ := h3 (j / f.size) hq
   cases h6
   have h11 := flat_get f (y :: r) (j / f.size) (j % f.size) hq hm
   rw [hjj, hj] at h11
   rw [addr_add, hs.cell h8]
   have h12 := h9 (j % f.size) hm
   have h10' : l' = f.enc ((y :: r)[j / f.size]) := h10
   rw [h10', ← h11] at h12
   rw [← h12]
   congr 1
   show o + j = o + j / f.size * f.size + j % f.size
   omega
def nthR : List Hp → Nat → Option Hp
 | [], _ => none
 | A :: _, 0 => some A
 | _ :: r, i + 1 => nthR r i
def setR : List Hp → Nat → Hp → List Hp
 | [], _, _ => []
 | _ :: r, 0, A => A :: r
 | B :: r, i + 1, A => B :: setR r i A
theorem nthR_split : ∀ {R : List Hp} {i : Nat} {A : Hp}, nthR R i = some A → ∃ pre post, R = pre ++ A :: post ∧ ∀ A', setR R i A' = pre ++ A' :: post
 | [], _, _, h => by simp [nthR] at h
 | A :: r, 0, _, h => by cases h; exact ⟨[], r, rfl, fun _ => rfl⟩
 | B :: r, i + 1, A, h => by
  obtain ⟨pre, post, h1, h2⟩ := nthR_split (R := r) (i := i) h
  exact ⟨B :: pre, post, by rw [h1]; rfl, fun A' => by simp only [setR, h2]; rfl⟩
theorem idx_rd {r : Rp α} {H : Hp} {base : Option Addr} {m cap : Nat} {xs : List α} {i : Int} {F : Nat → Nat → Prop} (h : (rpSl r).rd H [.slice base m cap] xs) (h0 : 0 ≤ i) (h1 : i < xs.length)
  (k : ∀ b o, base = some ⟨b, o, none⟩ → F b o) : VCidx base m i F := by
 obtain ⟨base', cap', e, _, h3⟩ := h
 cases e
 obtain ⟨b, o, _, h4, _⟩ := h3 i.toNat (by omega)
 exact .intro b o h4 h0 h1 (k b o h4)
theorem Ow.take {T : TypeId} {A : Hp} {base : Option Addr} {m cap i : Nat} {xs : List α} (h : Ow f T (.slice base m cap) xs A) (hi : i ≤ xs.length) : Ow f T (.slice base i cap) (xs.take i) A := by
 obtain ⟨hw, hl, base', cap', e, h2⟩ := h
 cases e
 have hlen : (xs.take i).length = i := by rw [List.length_take]; omega
 refine ⟨fun x hx => hw x (List.mem_of_mem_take hx), by omega, base, cap, by rw [hlen], ?_⟩
 rcases h2 with ⟨rfl, rfl, rfl⟩ | ⟨b, sp, rfl, rfl, h3, h4⟩
 ·exact .inl ⟨rfl, by simp, rfl⟩
 refine .inr ⟨b, (xs.drop i).flatMap f.enc ++ sp, rfl, ?_, by omega, ?_⟩
 ·rw [← List.append_assoc, ← List.flatMap_append, List.take_append_drop]
 rw [List.length_append, flat_length, List.length_drop, hlen]
 have e5 : (cap - i) * f.size = (xs.length - i) * f.size + (cap - xs.length) * f.size := by rw [← Nat.add_mul]; congr 1; omega
 omega
theorem rd_sub {r : Rp α} {H : Hp} {base : Option Addr} {m cap l h : Nat} {xs : List α} (hx : (rpSl r).rd H [.slice base m cap] xs) (h1 : l ≤ h) (h2 : h ≤ xs.length) (hm : h - l ≤ cap - l := by omega) :
  (rpSl r).rd H [.slice (subBase cap l base r.size) (h - l) (cap - l)] ((xs.take h).drop l) := by
 rw [subBase_eq]
 obtain ⟨base', cap', e, ⟨h3, h4⟩, h5⟩ := hx
 cases e
 have hlen : ((xs.take h).drop l).length = h - l := by rw [List.length_drop, List.length_take]; omega
 refine ⟨_, _, by rw [hlen], ⟨by omega, by omega⟩, fun i hi => ?_⟩
 rw [hlen] at hi
 obtain ⟨b, o, l', h6, h7, h8⟩ := h5 (l + i) (by omega)
 subst h6
 refine ⟨b, o + l * r.size, l', ?_, ?_, ?_⟩
 ·rw [if_neg (by omega)]; simp [addr_add]
 ·rw [Nat.add_mul, ← Nat.add_assoc] at h7; exact h7
 rw [List.getElem_drop, List.getElem_take]; exact h8
theorem Ow.make {T : TypeId} {z : α} {b n c : Nat} (hz : f.wf z) (hn : n ≤ c) (hc : c ≤ 281474976710656) : Ow f T (.slice (some ⟨b, 0, none⟩) n c) (List.replicate n z) [(b, Obj.cells ⟨zeros c (f.enc z)⟩ T)] := by
 have hsplit : ∀ c, n ≤ c → zeros c (f.enc z) = (List.replicate n z).flatMap f.enc ++ zeros (c - n) (f.enc z) := by
  induction n with
  | zero => intro c _; simp
  | succ n ih =>
   intro c hc
   obtain ⟨c', rfl⟩ : ∃ c', c = c' + 1 := ⟨c - 1, by omega⟩
   rw [zeros, ih (by omega) c' (by omega), List.replicate_succ, List.flatMap_cons, List.append_assoc]
   rw [show c' + 1 - (n + 1) = c' - n by omega]
 refine ⟨fun x hx => by rw [List.eq_of_mem_replicate hx]; exact hz, by simp; omega, some ⟨b, 0, none⟩, c, by simp, .inr ⟨b, zeros (c - n) (f.enc z), rfl, by rw [hsplit c hn], by simpa using hn, by simp [zeros_length, f.len]⟩⟩
theorem Ow.lit {T : TypeId} {b : Nat} {xs : List α} (hw : ∀ x ∈ xs, f.wf x) (hl : xs.length ≤ 9223372036854775807) : Ow f T (.slice (some ⟨b, 0, none⟩) xs.length xs.length) xs [(b, Obj.cells ⟨xs.flatMap f.enc⟩ T)] :=
 ⟨hw, hl, _, _, rfl, .inr ⟨b, [], rfl, by simp, Nat.le_refl _, by simp⟩⟩
end
section
variable {P : Program}
theorem opens_fi {T : TypeId} (h : P.underlying T = some (.int .i64)) : Opens P flInt.rp T := fun enc w H sp hd fuel cs d ps hc ht => opens_int h enc w H sp hd fuel cs d ps hc ht
theorem opens_fb {T : TypeId} (h : P.underlying T = some .bool) : Opens P flBool.rp T := by
 intro H' enc w H sp hd fuel cs d ps hc ht
 obtain ⟨x, h⟩ := opens_bool h enc w H sp hd fuel cs d ps hc ht
 exact ⟨x, h, trivial⟩
theorem opens_fs {T : TypeId} (h : P.underlying T = some .string) : Opens P flStr.rp T := fun enc w H sp hd fuel cs d ps hc ht => opens_str h enc w H sp hd fuel cs d ps hc ht
end
end Go.SX
namespace Go.SX
theorem growBy_le (m : Nat) : ∀ (r c : Nat), 256 ≤ c → c < m → Builtin.growBy m r c ≤ 2 * m
 | 0, c, _, h => by simp only [Builtin.growBy]; omega
 | r + 1, c, h0, h => by
  simp only [Builtin.growBy]
  rw [if_neg (by omega)]
  by_cases h1 : c + (c + 768) / 4 < m
  ·exact growBy_le m r _ (by omega) h1
  cases r with
  | zero => simp only [Builtin.growBy]; omega
  | succ r => simp only [Builtin.growBy]; rw [if_pos (by omega)]; omega
theorem nextcap_le (m c : Nat) (h : c < m) : Builtin.nextslicecap m c ≤ 2 * m := by
 unfold Builtin.nextslicecap
 split
 ·omega
 split
 ·omega
 exact growBy_le m 4 c (by omega) h
section
variable {P : Program} {E : World} {Γ : Ty} {n : Nat} {α : Type} {f : Fl α}
theorem zeroCells_eq (z : Array Value) (k : Nat) : Builtin.zeroCells z k = ⟨zeros k z.toList⟩ := by
 unfold Builtin.zeroCells
 exact range_zeros z z.size k rfl
theorem run_append (hΓ : TyOk P Γ) {sT xT e e2 ty : TypeId} {ti : TI} (hsT : P.underlying sT = some (.slice e)) (hxT : P.underlying xT = some (.slice e2)) (ht : tyOf Γ e = some ti) (hsz : ti.size = f.size)
  (hz : ti.zero.cells.toList.length = f.size)
  {A B : Hp} {w : World} {base xb : Option Addr} {m cap mx xc : Nat} {xs ys : List α} (hs : Sat E (A ++ B) w) (ho : Ow f e (.slice base m cap) xs A) (hx : (rpSl f.rp).rd (A ++ B) [.slice xb mx xc] ys)
  (hy : ∀ y ∈ ys, f.wf y) (hlen : xs.length + ys.length ≤ 9223372036854775807) (hbd : (xs.length + ys.length) * ti.bytes ≤ 140737488355328) :
  ∃ base' cap' A' w', (Builtin.append_ #[sT, xT] ty #[.slice base m cap, .slice xb mx xc]).run P w = .ok (.slice base' (xs.length + ys.length) cap') w' ∧ (Ow f e (.slice base' (xs.length + ys.length) cap') (xs ++ ys) A' ∧ (xs.length + ys.length ≤ cap → base' = base ∧ cap' = cap)) ∧ Sat E (A' ++ B) w' := by
 obtain ⟨hw, hl, base0, cap0, e0, h2⟩ := ho
 cases e0
 have hrow := rd_row (f := f) hx (P := P) hs
 obtain ⟨hmx, hrow⟩ := hrow
 have hwf : ∀ x ∈ xs ++ ys, f.wf x := fun x hx => (List.mem_append.1 hx).elim (hw x) (hy x)
 have hlen' : (xs ++ ys).length ≤ 9223372036854775807 := by rw [List.length_append]; exact hlen
 unfold Builtin.append_
 simp only [List.getElem?_toArray, List.getElem?_cons_zero, List.getElem?_cons_succ, Sem.run_bind, run_underlying hsT, run_underlying hxT, Result.andThen_ok, ty_size hΓ ht, hsz, Sem.run_pure, Builtin.lenOf, Bool.false_eq_true, if_false, Bool.not_false, if_true]
 subst hmx
 by_cases hfit : xs.length + ys.length ≤ cap
 ·rw [if_pos hfit]
  simp only [Sem.run_bind, hrow, Result.andThen_ok]
  rcases h2 with ⟨rfl, rfl, rfl⟩ | ⟨b, sp, rfl, rfl, h3, h4⟩
  ·have hys : ys = [] := by cases ys with
    | nil => rfl
    | cons _ _ => simp at hfit
   subst hys
   refine ⟨base, 0, [], w, ?_, ⟨Ow.nil e base, fun _ => ⟨rfl, rfl⟩⟩, hs⟩
   cases base with
   | none => rfl
   | some a => rfl
  have hsl : ys.length * f.size ≤ sp.length := by
   exact Nat.le_trans (Nat.mul_le_mul_right _ (by omega)) h4
  have hfl := flat_length f xs
  have hfly := flat_length f ys
  obtain ⟨w', h5, h6⟩ := run_storeCells_wr (P := P) (A := []) (o := xs.length * f.size) (l := ys.flatMap f.enc) hs (by
   show xs.length * f.size + (ys.flatMap f.enc).length ≤ (xs.flatMap f.enc ++ sp).length
   rw [List.length_append]; omega) (by
    have : ∀ l : List α, allOne (l.flatMap f.enc) = true := by
     intro l
     induction l with
     | nil => rfl
     | cons x r ih =>
      rw [List.flatMap_cons]
      have h1 := f.one x
      revert h1
      generalize f.enc x = c
      intro h1
      induction c with
      | nil => exact ih
      | cons v c ihc => cases v <;> simp_all [allOne]
    exact this ys)
  refine ⟨some ⟨b, 0, none⟩, cap, [(b, Obj.cells ⟨setAt (xs.flatMap f.enc ++ sp) (xs.length * f.size) (ys.flatMap f.enc)⟩ e)], w', ?_, ?_, h6⟩
  ·simp only [addr_add, Nat.zero_add, h5, Sem.run_bind, Result.andThen_ok, Sem.run_pure]
  refine ⟨?_, fun _ => ⟨rfl, rfl⟩⟩
  refine ⟨hwf, hlen', some ⟨b, 0, none⟩, cap, by rw [List.length_append], .inr ⟨b, sp.drop (ys.length * f.size), rfl, ?_, by rw [List.length_append]; exact hfit, ?_⟩⟩
  ·show [(b, Obj.cells ⟨setAt (xs.flatMap f.enc ++ sp) (xs.length * f.size) (ys.flatMap f.enc)⟩ e)] = _
   have key : setAt (xs.flatMap f.enc ++ sp) (xs.length * f.size) (ys.flatMap f.enc) = xs.flatMap f.enc ++ ys.flatMap f.enc ++ sp.drop (ys.length * f.size) := by
    rw [setAt_eq _ _ _ (by rw [List.length_append]; omega), ← hfl, List.take_left, hfl, hfly, List.drop_append, List.drop_eq_nil_of_le (by omega), List.nil_append, hfl]
    rw [show xs.length * f.size + ys.length * f.size - xs.length * f.size = ys.length * f.size by omega]
   rw [key, List.flatMap_append]
  rw [List.length_drop, List.length_append]
  have e9 : (cap - (xs.length + ys.length)) * f.size = (cap - xs.length) * f.size - ys.length * f.size := by rw [← Nat.sub_mul]; congr 1; omega
  omega
 rw [if_neg hfit]
 obtain ⟨i, hi, hib, _, _⟩ := ty_bytes hΓ ht
 have hcap : Builtin.nextslicecap (xs.length + ys.length) cap * ti.bytes ≤ 281474976710656 := by
  have h7 := nextcap_le (xs.length + ys.length) cap (by omega)
  have h8 := Nat.mul_le_mul_right ti.bytes h7
  rw [Nat.mul_assoc] at h8
  omega
 have hold : (Builtin.firstCells f.size xs.length (.slice base xs.length cap)).run P w = .ok ⟨xs.flatMap f.enc⟩ w := by
  have h9 : (rpSl f.rp).rd A [.slice base xs.length cap] xs := Ow.rd ⟨hw, hl, base, cap, rfl, h2⟩
  exact (rd_row (f := f) h9 (P := P) hs.drop).2
 have hdrew : ∀ {H : Hp}, Sat E H w → Sat E H { w with drawn := w.drawn + 1 } := fun h => ⟨h.os, h.out, h.tape, h.mem, h.nodup, Nat.le_trans h.dr (Nat.le_succ _)⟩
 have hold' : (Builtin.firstCells f.size xs.length (.slice base xs.length cap)).run P { w with drawn := w.drawn + 1 } = .ok ⟨xs.flatMap f.enc⟩ { w with drawn := w.drawn + 1 } := by
  have h9 : (rpSl f.rp).rd A [.slice base xs.length cap] xs := Ow.rd ⟨hw, hl, base, cap, rfl, h2⟩
  exact (rd_row (f := f) h9 (P := P) (hdrew hs).drop).2
 have hrow' : (Builtin.firstCells f.size ys.length (.slice xb ys.length xc)).run P { w with drawn := w.drawn + 1 } = .ok ⟨ys.flatMap f.enc⟩ { w with drawn := w.drawn + 1 } := (rd_row (f := f) hx (P := P) (hdrew hs)).2
 have hmax : IntKind.i64.max = 9223372036854775807 := rfl
 simp only [Sem.run_bind, typeInfo, run_program, Result.andThen_ok, hi, Sem.run_pure]
 rw [if_neg (by
  rw [hmax]
  rintro ⟨h10, _⟩
  omega)]
 have hif : ¬ (Builtin.nextslicecap (xs.length + ys.length) cap * ti.bytes > 2 ^ 48) := by omega
 simp only [Sem.run_bind, run_program, Result.andThen_ok, hi, Sem.run_pure, hib]
 rw [if_neg hif]
 simp only [Sem.run_bind, run_choose, Question.forced, Bool.false_eq_true, if_false, Result.andThen_ok, run_askRoom, hold', hrow', ty_zero hΓ ht, Sem.run_pure, newRow, run_newObj, run_program, hi]
 have hq : xs.length + ys.length ≤ (Question.appendCap (xs.length + ys.length) cap e).cut (w.tape w.drawn (.appendCap (xs.length + ys.length) cap e)) := by
  simp only [Question.cut]; omega
 generalize (Question.appendCap (xs.length + ys.length) cap e).cut (w.tape w.drawn (.appendCap (xs.length + ys.length) cap e)) = c at hq
 rw [zeroCells_eq]
 refine ⟨some ⟨w.heap.size, 0, none⟩, c, [(w.heap.size, Obj.cells ⟨(xs ++ ys).flatMap f.enc ++ zeros (c - (xs.length + ys.length)) ti.zero.cells.toList⟩ e)], _, rfl, ?_, ?_⟩
 ·refine ⟨?_, fun h => absurd h hfit⟩
  refine ⟨hwf, hlen', some ⟨w.heap.size, 0, none⟩, c, by rw [List.length_append], .inr ⟨w.heap.size, _, rfl, rfl, by rw [List.length_append]; exact hq, ?_⟩⟩
  rw [zeros_length, hz, List.length_append]
  exact Nat.le_refl _
 have h11 := (hdrew hs).push (Obj.cells ⟨(xs ++ ys).flatMap f.enc ++ zeros (c - (xs.length + ys.length)) ti.zero.cells.toList⟩ e)
 have h12 : Sat E ((w.heap.size, Obj.cells ⟨(xs ++ ys).flatMap f.enc ++ zeros (c - (xs.length + ys.length)) ti.zero.cells.toList⟩ e) :: B ++ A) (World.alloc { w with drawn := w.drawn + 1 } (Obj.cells ⟨(xs ++ ys).flatMap f.enc ++ zeros (c - (xs.length + ys.length)) ti.zero.cells.toList⟩ e)) := by
  refine h11.perm ?_
  simp only [List.cons_append]
  exact List.Perm.cons _ List.perm_append_comm
 have h13 := h12.drop
 have e1 : ((⟨xs.flatMap f.enc⟩ : Array Value) ++ (⟨ys.flatMap f.enc⟩ : Array Value) ++ (⟨zeros (c - (xs.length + ys.length)) ti.zero.cells.toList⟩ : Array Value)) = ⟨(xs ++ ys).flatMap f.enc ++ zeros (c - (xs.length + ys.length)) ti.zero.cells.toList⟩ := by
  apply Array.ext'
  simp
 rw [e1]
 exact h13
theorem append_ow (hΓ : TyOk P Γ) {dst : Option Nat} {s x : Operand} {sT xT e e2 ty : TypeId} {pos : String} {after : Array Edge} {guard : Option (Nat × Bool)} {fr : Fr} {bl : List Blk} {R : List Hp} {K : St → Prop} {ti : TI}
  (i : Nat) {A : Hp} {base xb : Option Addr} {m cap mx xc : Nat} {xs ys : List α} (hi : nthR R i = some A) (ho : Ow f e (.slice base m cap) xs A)
  (hx : (rpSl f.rp).rd (St.hall ⟨[], bl, R⟩) [.slice xb mx xc] ys) (hy : ∀ y ∈ ys, f.wf y)
  (hs1 : getK fr s fun sv => sv = .v (.slice base m cap)) (hx1 : getK fr x fun sv => sv = .v (.slice xb mx xc))
  (hsT : undOf Γ sT = some (.slice e)) (hxT : undOf Γ xT = some (.slice e2)) (ht : tyOf Γ e = some ti) (hsz : ti.size = f.size) (hz : lenIs ti.zero.cells.toList f.size = true)
  (hby : Nat.ble ti.bytes 65536 = true) (hlen : xs.length + ys.length ≤ 1073741824)
  (hk : ∀ base' cap' A', Ow f e (.slice base' (xs.length + ys.length) cap') (xs ++ ys) A' → (xs.length + ys.length ≤ cap → base' = base ∧ cap' = cap) → putK n fr dst (.v (.slice base' (xs.length + ys.length) cap')) fun fr => K ⟨fr, bl, setR R i A'⟩) :
  VCraw P E n ⟨dst, .call ⟨.builtin .append, #[s, x], #[sT, xT]⟩, ty, pos, after, guard⟩ ⟨fr, bl, R⟩ K := by
 have hbd : (xs.length + ys.length) * ti.bytes ≤ 140737488355328 := by
  have h1 := Nat.le_of_ble_eq_true hby
  have h2 := Nat.mul_le_mul hlen h1
  omega
 refine ⟨fun a w hr Q => ?_⟩
 obtain ⟨sv, g1, _, rfl⟩ := getK_sound hr hs1
 obtain ⟨xv, g2, _, rfl⟩ := getK_sound hr hx1
 obtain ⟨pre, post, e1, e2'⟩ := nthR_split hi
 have perm : ∀ C : Hp, (St.hall ⟨[], bl, pre ++ C :: post⟩).Perm (C ++ St.hall ⟨[], bl, pre ++ post⟩) := by
  intro C
  simp only [St.hall, List.flatten_append, List.flatten_cons]
  have := List.perm_append_comm (l₁ := List.map Blk.ent bl ++ pre.flatten) (l₂ := C)
  have := this.append_right post.flatten
  simpa only [List.append_assoc] using this
 subst e1
 have hsat : Sat E (A ++ St.hall ⟨[], bl, pre ++ post⟩) w := hr.sat.perm (perm A)
 have hx' := (rpSl f.rp).mono (H' := A ++ St.hall ⟨[], bl, pre ++ post⟩) (fun p hp => (perm A).mem_iff.1 hp) hx
 obtain ⟨base', cap', A', w', h1, h2, h3⟩ := run_append (ty := ty) hΓ (undOf_ok hΓ hsT) (undOf_ok hΓ hxT) ht hsz (lenIs_spec hz) hsat ho hx' hy (by omega) hbd
 have hr' : Rel E n ⟨fr, bl, setR (pre ++ A :: post) i A'⟩ a w' := by
  rw [e2']
  exact hr.ids rfl (h3.perm (perm A').symm)
 refine wp_value (s := .v _) (v := .slice base' (xs.length + ys.length) cap') ?_ hr' rfl trivial (hk base' cap' A' h2.1 h2.2)
 simp only [execOp, resolve, invoke, builtin, Sem.run_bind, Sem.run_pure, Result.andThen_ok]
 rw [show (#[s, x] : Array Operand).map a.eval = #[a.eval s, a.eval x] from by simp, g1, g2]
 simp only [SV.den]
 rw [h1]; rfl
theorem allOne_append : ∀ (x y : List Value), allOne x = true → allOne y = true → allOne (x ++ y) = true
 | [], _, _, h => h
 | v :: r, y, h, h' => by
  have ih := allOne_append r y
  cases v <;> simp_all [allOne]
theorem Ct.intro0 (hΓ : TyOk P Γ) {f : FuncId} {fn : Func} (hf : P.funcs[f]? = some fn) (hn : decide (fn.name = "runtime.NumGoroutine") = false) (hb : fn.body.isSome = true) {args : List Value} (ha : Nat.ble args.length fn.ntmps = true) {pre : Hp → Prop} {post : Value → Hp → Prop}
  (h : ∀ E H, pre H → exFn P E Γ fn args [H] fun v bl R => ∃ A, post v A ∧ RLe (bl.map Blk.ent :: R) [A, H]) : Ct P f args [] pre post := by
 refine ⟨⟨fn, hf, of_decide_eq_false hn, hb⟩, fun E H w hs hp => ?_⟩
 refine (exFn_sound hΓ hf ha (h E H (by simpa using hp)) (by simpa using hs)).mono ?_
 rintro e w' ⟨v, bl, R', h1, h2, A, h3, L, h4⟩
 refine ⟨v, A, h1, h3, ?_⟩
 have : (St.hall ⟨[], bl, R'⟩).Perm ((A ++ H) ++ L) := by simpa [St.hall] using h4
 exact (h2.perm this).drop
def initFrS : Nat → List SV → Fr
 | _, [] => []
 | k, s :: r => (k, s) :: initFrS (k + 1) r
theorem look_initFrS : ∀ (l : List SV) (k j : Nat) (s : SV), look (initFrS k l) j = some s → k ≤ j ∧ l[j - k]? = some s
 | [], k, j, s, h => by simp [initFrS, look] at h
 | v :: r, k, j, s, h => by
  simp only [initFrS, look] at h
  split at h
  ·rename_i hb
   have := Nat.eq_of_beq_eq_true hb
   subst this
   cases h
   exact ⟨Nat.le_refl _, by simp⟩
  obtain ⟨h1, h3⟩ := look_initFrS r (k + 1) j s h
  refine ⟨by omega, ?_⟩
  rw [show j - k = (j - (k + 1)) + 1 by omega, List.getElem?_cons_succ]; exact h3
def exFnS (P : Program) (E : World) (Γ : Ty) (fn : Func) (svs : List SV) (bl : List Blk) (R : List Hp) (post : Value → List Blk → List Hp → Prop) : Prop :=
 exBody P E Γ fn ⟨initFrS 0 svs, bl, R⟩ (retQ Γ fn.results post)
theorem exFnS_sound (hΓ : TyOk P Γ) {f : FuncId} {fn : Func} (hf : P.funcs[f]? = some fn) {svs : List SV} {bl : List Blk} (ha : Nat.ble svs.length fn.ntmps = true) (hok : ∀ s ∈ svs, s.ok bl) {R : List Hp} {post : Value → List Blk → List Hp → Prop}
  (h : exFnS P E Γ fn svs bl R post) {w : World} (hs : Sat E (St.hall ⟨[], bl, R⟩) w) :
  Calls P f ⟨svs.map (SV.den bl)⟩ w fun e w' => ∃ v bl R', e = .returned v ∧ Sat E (St.hall ⟨[], bl, R'⟩) w' ∧ post v bl R' := by
 unfold exFnS exBody at h
 split at h
 ·rename_i nm og tg ps rt nf n rs c nr ou fi el ln mt tn
  refine calls_of_wp hf rfl ?_
  have ha' : svs.length ≤ n := Nat.le_of_ble_eq_true ha
  have hr : Rel E n ⟨initFrS 0 svs, bl, R⟩ { tmps := (⟨svs.map (SV.den bl)⟩ : Array Value) ++ Array.replicate (n - (⟨svs.map (SV.den bl)⟩ : Array Value).size) undef, defers := [] } w := by
   refine ⟨?_, rfl, ?_, hs⟩
   ·simp; omega
   intro k sv hk
   obtain ⟨_, h3⟩ := look_initFrS svs 0 k sv hk
   simp only [Nat.sub_zero] at h3
   have hlt : k < svs.length := by
    rcases Nat.lt_or_ge k svs.length with h4 | h4
    ·exact h4
    rw [List.getElem?_eq_none h4] at h3; cases h3
   refine ⟨?_, hok sv (List.mem_of_getElem? h3)⟩
   rw [Array.getElem?_append_left (by simpa using hlt)]
   simp [h3]
  refine wp_mono (exC_sound hΓ c _ _ _ _ h hr) ?_
  rintro e a' w' ⟨⟨fr', bl', R'⟩, h1, h2⟩
  obtain ⟨rs⟩ := rs
  cases e with
  | normal =>
   obtain ⟨vs, h3, h4⟩ := resK_sound (P := P) hΓ h1 h2
   exact ⟨h1.defers, _, run_results rfl h4, _, bl', R', rfl, h1.sat, oneOrK_sound h3⟩
  | ret =>
   obtain ⟨vs, h3, h4⟩ := resK_sound (P := P) hΓ h1 h2
   exact ⟨h1.defers, _, run_results rfl h4, _, bl', R', rfl, h1.sat, oneOrK_sound h3⟩
  | _ => exact h2.elim
 exact h.elim
theorem Ct.introB (hΓ : TyOk P Γ) {f : FuncId} {fn : Func} (svs : List SV) (bl : List Blk) (L : List Hp) (hf : P.funcs[f]? = some fn) (hn : decide (fn.name = "runtime.NumGoroutine") = false) (hb : fn.body.isSome = true) {args : List Value} (ha : Nat.ble svs.length fn.ntmps = true)
  (hargs : svs.map (SV.den bl) = args) (hok : ∀ s ∈ svs, s.ok bl) {A0 : Hp} {pre : Hp → Prop} {post : Value → Hp → Prop}
  (hL : bl.map Blk.ent ++ L.flatten = A0) (h : ∀ E H, pre (A0 ++ H) → exFnS P E Γ fn svs bl (L ++ [H]) fun v bl R => ∃ A, post v A ∧ RLe (bl.map Blk.ent :: R) [A, H]) : Ct P f args A0 pre post := by
 refine ⟨⟨fn, hf, of_decide_eq_false hn, hb⟩, fun E H w hs hp => ?_⟩
 subst hargs
 refine (exFnS_sound hΓ hf ha hok (h E H hp) (by simpa [St.hall, ← hL] using hs)).mono ?_
 rintro e w' ⟨v, bl, R', h1, h2, A, h3, L, h4⟩
 refine ⟨v, A, h1, h3, ?_⟩
 have : (St.hall ⟨[], bl, R'⟩).Perm ((A ++ H) ++ L) := by simpa [St.hall] using h4
 exact (h2.perm this).drop
theorem wrap_ok {x : Int} (h : okI x) : IntKind.i64.wrap x = x := by
 unfold okI at h
 simp only [IntKind.wrap, IntKind.bits, IntKind.signed]
 by_cases h0 : 0 ≤ x
 ·have e : x % (2 ^ 64 : Int) = x := by omega
  simp only [e]
  rw [if_neg (by simp; omega)]
 have e : x % (2 ^ 64 : Int) = x + 2 ^ 64 := by omega
 simp only [e]
 rw [if_pos (by simp; omega)]
 omega
theorem inc_eq (k : Nat) (h : k < 9223372036854775807) : Value.int .i64 (IntKind.i64.wrap ((k : Int) + 1)) = Value.int .i64 ((k + 1 : Nat) : Int) := by
 rw [wrap_ok (by unfold okI; omega)]; rfl
theorem RLe.tl {A : Hp} {R : List Hp} : RLe (A :: R) R := .sub (List.sublist_cons_self ..)
open Classical in
theorem RLe.cnt {R' R : List Hp} (h : ∀ a, R'.flatten.count a = R.flatten.count a) : RLe R' R := ⟨[], by rw [List.append_nil]; exact List.perm_iff_count.2 h⟩
theorem count_le_perm {α : Type} [BEq α] [LawfulBEq α] : ∀ (a b : List α), (∀ x, a.count x ≤ b.count x) → ∃ L, b.Perm (a ++ L)
 | [], b, _ => ⟨b, by simp⟩
 | x :: t, b, h => by
  have hx : x ∈ b := List.count_pos_iff.1 (Nat.lt_of_lt_of_le (by simp) (h x))
  have hp := List.perm_cons_erase hx
  obtain ⟨L, hL⟩ := count_le_perm t (b.erase x) (fun y => by
   have h1 := h y
   have h2 := hp.count_eq y
   rw [List.count_cons] at h1 h2
   omega)
  exact ⟨L, hp.trans (by simpa using hL)⟩
open Classical in
theorem RLe.le {R' R : List Hp} (h : ∀ a, R.flatten.count a ≤ R'.flatten.count a) : RLe R' R := count_le_perm _ _ h
open Classical in
theorem perm_cnt {A B : Hp} (h : ∀ a, A.count a = B.count a) : A.Perm B := List.perm_iff_count.2 h
theorem RLe.mem {R : List Hp} {H : Hp} (h : H ∈ R) : RLe R [[], H] := by
 obtain ⟨s, t, rfl⟩ := List.append_of_mem h
 refine ⟨s.flatten ++ t.flatten, ?_⟩
 simp only [List.flatten_append, List.flatten_cons, List.flatten_nil, List.nil_append, List.append_nil]
 rw [← List.append_assoc, ← List.append_assoc]
 exact List.perm_append_comm.append_right _
theorem keep_new {fr fr' : Fr} {bl : List Blk} {A : Hp} {R : List Hp} : ∀ p ∈ St.hall ⟨fr, bl, R⟩, p ∈ St.hall ⟨fr', bl, A :: R⟩ := by
 intro p hp
 simp only [St.hall, List.flatten_cons, List.mem_append] at hp ⊢
 rcases hp with h | h
 ·exact .inl h
 exact .inr (.inr h)
theorem mem_at {st : St} (i : Nat) {A : Hp} (h : nthR st.R i = some A) : ∀ p ∈ A, p ∈ st.hall := by
 intro p hp
 obtain ⟨pre, post, e, _⟩ := nthR_split h
 unfold St.hall
 rw [e]
 simp [hp]
end
end Go.SX
namespace Go.SX
inductive OT where
 | nil
 | q (i : Nat) (t : OT)
 | f (i : Nat) (t : OT)
 | tl (i : Nat) (t : OT)
 | alt (i : Nat) (t rest : OT)
 | hd (r : OT)
 | qb (i : Nat) (t : OT)
def isPure : Op → Bool
 | .move _ => true
 | .assign _ => true
 | .nilCheck _ => true
 | .pick .. => true
 | .binOp .. => true
 | .unOp .. => true
 | .load .. => true
 | .fieldAddr .. => true
 | .build .. => true
 | .extract .. => true
 | .field .. => true
 | .convert .. => true
 | .indexAddr .. => true
 | .index .. => true
 | .slice .. => true
 | .call ⟨.builtin .len, _, _⟩ => true
 | _ => false
def isPureF : Op → Bool
 | .convert .. => false
 | o => isPure o
def behind (ops : Array Oper) (i : Nat) : List Nat :=
 (List.range ops.size).foldl (fun B k => match ops[k]? with
  | some o => if (o.after.any fun e => Region.binds .any e && (e.on == i || B.contains e.on)) then k :: B else B
  | none => B) []
def behindOk (ops : Array Oper) (i : Nat) (L : Array Bool) (B : List Nat) : Bool :=
 B.all fun k => !L.getD k true && match ops[k]? with
  | some o => o.after.any fun e => Region.binds .any e && (e.on == i || B.contains e.on)
  | none => false
def isAddr : Op → Bool
 | .move _ => true
 | .assign _ => true
 | .nilCheck _ => true
 | .fieldAddr .. => true
 | .extract .. => true
 | .binOp .. => true
 | .unOp .. => true
 | _ => false
def waitsOn (ops : Array Oper) (t0 : Option Nat) (i : Nat) (L : Array Bool) : Bool :=
 match t0 with
 | none => true
 | some t => (behind ops i).contains t && behindOk ops i L (behind ops i)
theorem behindOk_spec {ops : Array Oper} {i : Nat} {L : Array Bool} {B : List Nat} (h : behindOk ops i L B = true) :
  ∀ k ∈ B, L.getD k true = false ∧ ∃ o, ops[k]? = some o ∧ ∃ e ∈ o.after, Region.binds .any e = true ∧ (e.on = i ∨ e.on ∈ B) := by
 intro k hk
 have h1 := List.all_eq_true.1 h k hk
 simp only [Bool.and_eq_true, Bool.not_eq_true'] at h1
 refine ⟨h1.1, ?_⟩
 have h2 := h1.2
 split at h2
 ·rename_i o ho
  rw [Array.any_eq_true] at h2
  obtain ⟨j, hj, h2⟩ := h2
  simp only [Bool.and_eq_true, Bool.or_eq_true, beq_iff_eq, List.contains_iff_mem] at h2
  exact ⟨o, ho, _, Array.getElem_mem hj, h2.1, h2.2⟩
 cases h2
def altIdx : OT → List Nat
 | .alt i _ rest => i :: altIdx rest
 | _ => []
mutual
def otOk (ops : Array Oper) (t0 : Option Nat) : OT → Array Bool → Bool → Bool
 | .nil, L, _ => (Region.ready .any ops L).isEmpty
 | .q i t, L, tail => Region.free .any ops L i && (Region.ready .any ops L).contains i && !tail &&
   (match ops[i]? with | some o => isPure o.op && (isAddr o.op || waitsOn ops t0 i L) | none => false) && (t0 != some i) && otOk ops t0 t (L.setIfInBounds i true) tail
 | .qb i t, L, tail => Region.free .any ops L i && (Region.ready .any ops L).contains i && !tail &&
   (match ops[i]? with | some o => isPure o.op && waitsOn ops t0 i L | none => false) && (t0 != some i) && otOk ops t0 t (L.setIfInBounds i true) tail
 | .f i t, L, tail => (Region.ready .any ops L == [i]) && (t0 != some i || tail) && otOk ops t0 t (L.setIfInBounds i true) tail
 | .tl i t, L, _ => (Region.ready .any ops L == [i]) && (t0 == some i) && otOk ops t0 t (L.setIfInBounds i true) true
 | .alt _ _ _, _, _ => false
 | .hd r, L, tail => !tail && (Region.ready .any ops L == altIdx r) && !(altIdx r).isEmpty && otOkC ops t0 r L
def otOkC (ops : Array Oper) (t0 : Option Nat) : OT → Array Bool → Bool
 | .alt i t rest, L => (t0 != some i) && otOk ops t0 t (L.setIfInBounds i true) false && otOkC ops t0 rest L
 | _, _ => true
end
def nthO : List Oper → Nat → Option Oper
 | [], _ => none
 | b :: _, 0 => some b
 | _ :: r, i + 1 => nthO r i
section
variable (P : Program) (E : World) (Γ : Ty) (n : Nat)
def guardK (ops : List Oper) (g : Option (Nat × Bool)) (fr : Fr) (run skip : Fr → Prop) : Prop :=
 match g with
 | none => run fr
 | some (j, want) => match guardSlotL ops j with
  | none => False
  | some d => match look fr d with
   | some (.b b) => match decide (b = want) with
    | true => run fr
    | false => skip fr
   | some (.v (.bool b)) => VCsplit b (match want with
     | true => run ((d, .b true) :: fr)
     | false => skip ((d, .b true) :: fr)) (match want with
     | true => skip ((d, .b false) :: fr)
     | false => run ((d, .b false) :: fr))
   | some (.v (.tuple ⟨[]⟩)) => skip fr
   | _ => False
def mmq : Bool → List Blk → List Hp → Option Hp → Option Hp
 | true, _, _, mm => mm
 | false, bl, R, _ => some (St.mk [] bl R).hall
def keepK (tail : Bool) (mm : Option Hp) (st : St) (next : Prop) : Prop :=
 match tail with
 | true => next
 | false => match mm with
  | none => next
  | some q => VC (∀ p ∈ q, p ∈ st.hall) next
def mmSub (mm : Option Hp) (h : Hp) (next : Prop) : Prop :=
 match mm with
 | none => next
 | some q => VC (∀ p ∈ q, p ∈ h) next
mutual
/- tail: all reading is done; mm: something was read from the memory ahead of its turn -/
def exOrd (ops : List Oper) : OT → Bool → Option Hp → St → (St → Prop) → Prop
 | .nil, _, _, st, K => K st
 | .q i t, tail, mm, st, K => match st with
  | ⟨fr, bl, R⟩ => match nthO ops i with
   | none => False
   | some o => guardK ops o.guard fr (fun fr => exP Γ o.op fr bl R (fun s => putK n fr o.dst s fun fr => exOrd ops t tail (mmq (isAddr o.op) bl R mm) ⟨fr, bl, R⟩ K) False)
    (fun fr => putK n fr o.dst (.v undef) fun fr => exOrd ops t tail (mmq (isAddr o.op) bl R mm) ⟨fr, bl, R⟩ K)
 | .qb i t, tail, mm, st, K => match st with
  | ⟨fr, bl, R⟩ => match nthO ops i with
   | none => False
   | some o => mmSub mm (bl.map Blk.ent) (guardK ops o.guard fr (fun fr => exP Γ o.op fr bl [] (fun s => putK n fr o.dst s fun fr => exOrd ops t tail (some (bl.map Blk.ent)) ⟨fr, bl, R⟩ K) False)
    (fun fr => putK n fr o.dst (.v undef) fun fr => exOrd ops t tail (some (bl.map Blk.ent)) ⟨fr, bl, R⟩ K))
 | .f i t, tail, mm, st, K => match st with
  | ⟨fr, bl, R⟩ => match nthO ops i with
   | none => False
   | some o => guardK ops o.guard fr (fun fr => match isPureF o.op with
     | true => exP Γ o.op fr bl R (fun s => putK n fr o.dst s fun fr => exOrd ops t tail mm ⟨fr, bl, R⟩ K) False
     | false => exOp P E Γ n o fr bl R fun st => keepK tail mm st (exOrd ops t tail mm st K))
    (fun fr => putK n fr o.dst (.v undef) fun fr => exOrd ops t tail mm ⟨fr, bl, R⟩ K)
 | .tl i t, _, mm, st, K => match st with
  | ⟨fr, bl, R⟩ => match nthO ops i with
   | none => False
   | some o => guardK ops o.guard fr (fun fr => exOp P E Γ n o fr bl R fun st => exOrd ops t true mm st K)
    (fun fr => putK n fr o.dst (.v undef) fun fr => exOrd ops t true mm ⟨fr, bl, R⟩ K)
 | .hd r, _, mm, st, K => exOrdC ops r mm st K
 | .alt _ _ _, _, _, _, _ => False
def exOrdC (ops : List Oper) : OT → Option Hp → St → (St → Prop) → Prop
 | .alt i t rest, mm, st, K => VC (match st with
  | ⟨fr, bl, R⟩ => match nthO ops i with
   | none => False
   | some o => guardK ops o.guard fr (fun fr => exOp P E Γ n o fr bl R fun st => keepK false mm st (exOrd ops t false mm st K))
    (fun fr => putK n fr o.dst (.v undef) fun fr => exOrd ops t false mm ⟨fr, bl, R⟩ K)) (exOrdC ops rest mm st K)
 | _, _, _, _ => True
end
end
/- soundness -/
section
variable {P : Program} {E : World} {Γ : Ty} {n : Nat}
def SS (t0 : Option Nat) (C : World → Prop) (L : Array Bool) (w : World) : Prop :=
 (match t0 with
  | some t => L.getD t true = true
  | none => False) ∨ C w
def wpAnyG (P : Program) (ops : Array Oper) (Q : Exit → Act → World → Prop) (t0 : Option Nat) (C : World → Prop) : Nat → Array Bool → Act → World → Prop
 | 0, L, a, w => Region.ready .any ops L = [] ∧ Q .normal a w
 | fuel + 1, L, a, w => (Region.ready .any ops L = [] → Q .normal a w) ∧
  ∀ i ∈ Region.ready .any ops L, wpOp P ops Q i (fun a' w' => SS t0 C (L.setIfInBounds i true) w' ∧ wpAnyG P ops Q t0 C fuel (L.setIfInBounds i true) a' w') a w
variable {ops : Array Oper} {Q : Exit → Act → World → Prop} {t0 : Option Nat}
theorem wpAny_of_G {C : World → Prop} : ∀ (fuel : Nat) (L : Array Bool) (a : Act) (w : World), wpAnyG P ops Q t0 C fuel L a w → wpAny P .any ops Q fuel L a w
 | 0, _, _, _, h => h
 | fuel + 1, _, _, _, h => ⟨h.1, fun i hi => wpOp_mono (fun a' w' h' => wpAny_of_G fuel _ a' w' h'.2) (h.2 i hi)⟩
theorem wpAnyG_first {C D : World → Prop} {i : Nat} {oi : Oper} {v : Value} (hi : ops[i]? = some oi) (hsel : ∀ (j : Nat) (o : Oper) cs b, ops[j]? = some o → o.op ≠ .select cs b)
  (hQ : ∀ c a w, Q (.panic c) (a.put oi.dst v) w → Q (.panic c) a w) (B : List Nat) (ht0 : ∀ t, t0 = some t → t ≠ i) (hDB : (∀ w, D w) ∨ ∀ t, t0 = some t → t ∈ B)
  (hB : ∀ k ∈ B, ∃ o, ops[k]? = some o ∧ ∃ e ∈ o.after, Region.binds .any e = true ∧ (e.on = i ∨ e.on ∈ B)) :
  ∀ (fuel : Nat) (L : Array Bool) (a : Act) (w : World),
   (∀ j oj, ops[j]? = some oj → j ≠ i → L.getD j true = false → (∀ e ∈ oj.after, Region.binds .any e = true → e.on ≠ i) → oi.apart ops oj = true) →
   (∀ k ∈ B, L.getD k true = false) →
   i ∈ Region.ready .any ops L → YieldsIf P ops D oi v a → D w → SS t0 C (L.setIfInBounds i true) w →
   wpAnyG P ops Q t0 (fun w => C w ∧ D w) fuel (L.setIfInBounds i true) (a.put oi.dst v) w → wpAnyG P ops Q t0 C (fuel + 1) L a w := by
 have weak : ∀ (fuel : Nat) (L : Array Bool) (a : Act) (w : World), wpAnyG P ops Q t0 (fun w => C w ∧ D w) fuel L a w → wpAnyG P ops Q t0 C fuel L a w := by
  intro fuel
  induction fuel with
  | zero => intro L a w h; exact h
  | succ fuel ih =>
   intro L a w h
   refine ⟨h.1, fun j hj => wpOp_mono (fun a' w' h' => ⟨?_, ih _ _ _ h'.2⟩) (h.2 j hj)⟩
   rcases h'.1 with h1 | h1
   ·exact .inl h1
   exact .inr h1.1
 have unset : ∀ (L : Array Bool) (w : World) (C' : World → Prop), SS t0 C' (L.setIfInBounds i true) w → SS t0 C' L w := by
  intro L w C' h
  unfold SS at h ⊢
  cases ht : t0 with
  | none => rw [ht] at h; simpa using h
  | some t =>
   rw [ht] at h
   rcases h with h | h
   ·refine .inl ?_
    simp only at h ⊢
    rw [getD_set_ne true (fun e => (ht0 t ht) e.symm)] at h
    exact h
   exact .inr h
 intro fuel
 induction fuel with
 | zero =>
  intro L a w _ _ hr hy hD hS H
  refine ⟨fun h => (by rw [h] at hr; cases hr), fun j hj => ?_⟩
  by_cases hji : j = i
  ·subst hji; exact hy.wpOp hi hD ⟨hS, weak _ _ _ _ H⟩
  have := ready_mono hj hji
  rw [H.1] at this
  cases this
 | succ fuel ih =>
  intro L a w hfree htl hr hy hD hS H
  refine ⟨fun h => (by rw [h] at hr; cases hr), fun j hj => ?_⟩
  by_cases hji : j = i
  ·subst hji; exact hy.wpOp hi hD ⟨hS, weak _ _ _ _ H⟩
  have h1 := H.2 j (ready_mono hj hji)
  obtain ⟨hjun, oj, hoj, hall⟩ := mem_ready.1 hj
  have hiL := (mem_ready.1 hr).1
  have hnot : ∀ e ∈ oj.after, Region.binds .any e = true → e.on ≠ i := fun e he hb heq => by
   have h1 := hall e he hb
   rw [heq] at h1
   rcases Nat.lt_or_ge i L.size with h' | h'
   ·simp [h'] at hiL h1; rw [hiL] at h1; cases h1
   simp [Array.getElem?_eq_none h'] at h1
  have h2 := wpOp_putIf hoj (hfree j oj hoj hji hjun hnot) (fun cs b => hsel i oi cs b hi) (fun cs b => hsel j oj cs b hoj) hQ hy h1
  have hfree' : ∀ k ok, ops[k]? = some ok → k ≠ i → (L.setIfInBounds j true).getD k true = false →
    (∀ e ∈ ok.after, Region.binds .any e = true → e.on ≠ i) → oi.apart ops ok = true := fun k ok hk hki hun hno => by
   refine hfree k ok hk hki ?_ hno
   by_cases hjk : j = k
   ·subst hjk; exact hjun
   rw [getD_set_ne true hjk] at hun; exact hun
  have htl' : ∀ k ∈ B, (L.setIfInBounds j true).getD k true = false := by
   intro k hk
   by_cases hjk : j = k
   ·subst hjk
    obtain ⟨o, ho, e, he, hb, heq⟩ := hB j hk
    rw [hoj] at ho; cases ho
    rcases heq with heq | heq
    ·exact absurd heq (hnot e he hb)
    exfalso
    have h5 := htl _ heq
    have h6 := hall e he hb
    rcases Nat.lt_or_ge e.on L.size with h' | h'
    ·simp [h'] at h5 h6; rw [h5] at h6; cases h6
    simp [Array.getElem?_eq_none h'] at h5
   rw [getD_set_ne true hjk]; exact htl k hk
  refine wpOp_mono (fun a' w' h3 => ?_) h2
  obtain ⟨hy', hS', hG⟩ := h3
  rw [Array.setIfInBounds_comm _ _ (Ne.symm hji)] at hS' hG
  have hSj : SS t0 (fun w => C w ∧ D w) (L.setIfInBounds j true) w' := unset _ _ _ hS'
  have hDw : D w' := by
   rcases hDB with hDB | hDB
   ·exact hDB w'
   rcases hSj with h5 | h5
   ·cases ht : t0 with
    | none => rw [ht] at h5; exact h5.elim
    | some t =>
     rw [ht] at h5
     have h6 := htl' t (hDB t ht)
     simp only at h5; rw [h6] at h5; cases h5
   exact h5.2
  have wk : ∀ L, SS t0 (fun w => C w ∧ D w) L w' → SS t0 C L w' := fun L h => h.imp id And.left
  exact ⟨wk _ hSj, ih (L.setIfInBounds j true) a' w' hfree' htl' (ready_mono hr (Ne.symm hji)) hy' hDw (wk _ hS') hG⟩
theorem nthO_eq : ∀ (l : List Oper) (i : Nat), nthO l i = l[i]?
 | [], _ => by simp [nthO]
 | _ :: _, 0 => rfl
 | _ :: r, i + 1 => by simp only [nthO, List.getElem?_cons_succ]; exact nthO_eq r i
theorem guardK_sound {l : List Oper} {o : Oper} {fr : Fr} {bl : List Blk} {R : List Hp} {a : Act} {w : World} {run skip : Fr → Prop} (h : guardK l o.guard fr run skip) (hr : Rel E n ⟨fr, bl, R⟩ a w) :
  ∃ fr', Rel E n ⟨fr', bl, R⟩ a w ∧ ((Region.wanted o (yielded ⟨l⟩ a.tmps) = true ∧ run fr') ∨ (Region.wanted o (yielded ⟨l⟩ a.tmps) = false ∧ skip fr')) := by
 unfold guardK at h
 split at h
 ·rename_i hg
  exact ⟨fr, hr, .inl ⟨by simp [Region.wanted, hg], h⟩⟩
 rename_i j want hg
 split at h
 ·exact h.elim
 rename_i d hd
 have hy : ∀ t : Bool, a.tmps[d]? = some (.bool t) → ∀ b : Bool, decide (t = want) = b → Region.wanted o (yielded ⟨l⟩ a.tmps) = b := by
  intro t ht b hb
  simp only [Region.wanted, hg, yielded_eq hd ht]
  rw [← hb]
  cases t <;> cases want <;> rfl
 split at h
 ·rename_i t ht
  have h1 := (hr.val _ _ ht).1
  split at h
  ·rename_i hb; exact ⟨fr, hr, .inl ⟨hy t h1 _ hb, h⟩⟩
  rename_i hb; exact ⟨fr, hr, .inr ⟨hy t h1 _ hb, h⟩⟩
 ·rename_i t ht
  have h1 := (hr.val _ _ ht).1
  obtain ⟨htr, hfa⟩ := h
  have h2 := hr.know ht
  cases t with
  | true =>
   have h3 := htr rfl
   cases want with
   | true => exact ⟨_, h2, .inl ⟨hy true h1 _ rfl, h3⟩⟩
   | false => exact ⟨_, h2, .inr ⟨hy true h1 _ rfl, h3⟩⟩
  | false =>
   have h3 := hfa rfl
   cases want with
   | true => exact ⟨_, h2, .inr ⟨hy false h1 _ rfl, h3⟩⟩
   | false => exact ⟨_, h2, .inl ⟨hy false h1 _ rfl, h3⟩⟩
 ·rename_i ht
  have h1 := (hr.val _ _ ht).1
  refine ⟨fr, hr, .inr ⟨?_, h⟩⟩
  simp only [Region.wanted, hg, yielded_un hd h1]
  cases want <;> rfl
 exact h.elim
def otDepth : OT → Nat
 | .nil => 0
 | .q _ t => otDepth t + 1
 | .qb _ t => otDepth t + 1
 | .f _ t => otDepth t + 1
 | .tl _ t => otDepth t + 1
 | .alt _ t rest => max (otDepth t + 1) (otDepth rest)
 | .hd r => otDepth r
theorem Sat.sub {H H' : Hp} {w : World} (h : Sat E H' w) (hs : ∀ p ∈ H, p ∈ H') (hn : (H.map (·.1)).Nodup) : Sat E H w :=
 ⟨h.os, h.out, h.tape, fun b o hm => h.mem b o (hs _ hm), hn, h.dr⟩
def mmSat (E : World) : Option Hp → World → Prop
 | none, _ => True
 | some q, w => Sat E q w
def mmIn : Option Hp → Hp → Prop
 | none, _ => True
 | some q, h => (q.map (·.1)).Nodup ∧ ∀ p ∈ q, p ∈ h
theorem mmIn.sat {mm : Option Hp} {H : Hp} {w : World} (h : mmIn mm H) (hs : Sat E H w) : mmSat E mm w := by
 cases mm with
 | none => trivial
 | some q => exact hs.sub h.2 h.1
theorem wpOp_of {l : List Oper} {i : Nat} {o : Oper} (ho : nthO l i = some o) {K : Act → World → Prop} {a : Act} {w : World}
  (h1 : Region.wanted o (yielded ⟨l⟩ a.tmps) = true → o.wp P a w K Q) (h2 : Region.wanted o (yielded ⟨l⟩ a.tmps) = false → K (a.put o.dst undef) w) : wpOp P ⟨l⟩ Q i K a w := by
 unfold wpOp
 have : (⟨l⟩ : Array Oper)[i]? = some o := by rw [← ho, nthO_eq]; simp
 rw [this]
 simp only
 cases hw : Region.wanted o (yielded ⟨l⟩ a.tmps) with
 | true => simp only [if_true]; exact .inl (h1 hw)
 | false => simp only [Bool.false_eq_true, if_false]; exact h2 hw
theorem chain_get {l : List Oper} : ∀ (r : OT) (mm : Option Hp) (L : Array Bool) (st : St) (K : St → Prop) (j : Nat), j ∈ altIdx r → otOkC ⟨l⟩ t0 r L = true → exOrdC P E Γ n l r mm st K →
  ∃ t, otDepth t < otDepth r ∧ t0 ≠ some j ∧ otOk ⟨l⟩ t0 t (L.setIfInBounds j true) false = true ∧ (match st with
  | ⟨fr, bl, R⟩ => match nthO l j with
   | none => False
   | some o => guardK l o.guard fr (fun fr => exOp P E Γ n o fr bl R fun st => keepK false mm st (exOrd P E Γ n l t false mm st K))
    (fun fr => putK n fr o.dst (.v undef) fun fr => exOrd P E Γ n l t false mm ⟨fr, bl, R⟩ K))
 | .alt i t rest, mm, L, st, K, j, hj, hok, h => by
  simp only [altIdx, List.mem_cons] at hj
  simp only [otOkC, Bool.and_eq_true, bne_iff_ne, ne_eq] at hok
  simp only [exOrdC] at h
  obtain ⟨h1, h2⟩ := h
  by_cases hji : j = i
  ·subst hji
   exact ⟨t, by simp only [otDepth]; omega, hok.1.1, hok.1.2, h1⟩
  obtain ⟨t', h3, h4⟩ := chain_get rest mm L st K j (hj.resolve_left hji) hok.2 h2
  exact ⟨t', by simp only [otDepth]; omega, h4⟩
 | .nil, _, _, _, _, _, hj, _, _ => by cases hj
 | .q _ _, _, _, _, _, _, hj, _, _ => by cases hj
 | .qb _ _, _, _, _, _, _, hj, _, _ => by cases hj
 | .f _ _, _, _, _, _, _, hj, _, _ => by cases hj
 | .tl _ _, _, _, _, _, _, hj, _, _ => by cases hj
 | .hd _, _, _, _, _, _, hj, _, _ => by cases hj
theorem exP_free (hΓ : TyOk P Γ) {op : Op} {fr : Fr} {bl : List Blk} {R : List Hp} {K : SV → Prop} (hop : isAddr op = true) (h : exP Γ op fr bl R K False) :
  ∃ s, K s ∧ ∀ a w, Rel E n ⟨fr, bl, R⟩ a w → s.ok bl ∧ ∀ w' dst ty pos after guard, (execOp a.eval ⟨dst, op, ty, pos, after, guard⟩).run P w' = .ok (.value (s.den bl)) w' := by
 cases op <;> try (cases hop; done)
 case move x =>
  obtain ⟨s, h1, h2⟩ := getK_uni (E := E) (n := n) (bl := bl) (R := R) h
  refine ⟨s, h1, fun a w hr => ⟨(h2 a w hr).2, fun w' dst ty pos after guard => ?_⟩⟩
  rw [← (h2 a w hr).1]; rfl
 case assign x =>
  obtain ⟨s, h1, h2⟩ := getK_uni (E := E) (n := n) (bl := bl) (R := R) h
  refine ⟨s, h1, fun a w hr => ⟨(h2 a w hr).2, fun w' dst ty pos after guard => ?_⟩⟩
  rw [← (h2 a w hr).1]; rfl
 case nilCheck x =>
  obtain ⟨s, h1, h2⟩ := getK_uni (E := E) (n := n) (bl := bl) (R := R) h
  split at h1
  ·refine ⟨_, h1, fun a w hr => ⟨(h2 a w hr).2, fun w' dst ty pos after guard => ?_⟩⟩
   simp only [execOp, (h2 a w hr).1, SV.den, Sem.run_pure]
  ·refine ⟨_, h1, fun a w hr => ⟨(h2 a w hr).2, fun w' dst ty pos after guard => ?_⟩⟩
   simp only [execOp, (h2 a w hr).1, SV.den, Sem.run_pure]
  ·refine ⟨_, h1, fun a w hr => ⟨(h2 a w hr).2, fun w' dst ty pos after guard => ?_⟩⟩
   simp only [execOp, (h2 a w hr).1, SV.den, Sem.run_pure]
  exact h1.elim
 case extract x i =>
  obtain ⟨s, h3, h1⟩ := getK_uni (E := E) (n := n) (bl := bl) (R := R) h
  split at h3
  ·rename_i vs
   split at h3
   ·rename_i v hv
    refine ⟨.v v, h3, fun a w hr => ⟨trivial, fun w' dst ty pos after guard => ?_⟩⟩
    rw [nthV_eq] at hv
    have hv' : (⟨vs⟩ : Array Value)[i]? = some v := by simpa using hv
    simp only [execOp, (h1 a w hr).1, SV.den, Instr.extract, hv', Sem.run_bind, Sem.run_pure, Result.andThen_ok]
   exact h3.elim
  exact h3.elim
 case binOp op xt x y yt =>
  obtain ⟨sx, h3, h1⟩ := getK_uni (E := E) (n := n) (bl := bl) (R := R) h
  obtain ⟨sy, h6, h4⟩ := getK_uni (E := E) (n := n) (bl := bl) (R := R) h3
  rcases exBin_sound (P := P) hΓ bl h6 with h7 | ⟨s, h8, h9⟩
  ·exact h7.elim
  obtain ⟨h10, h11⟩ := h9 x y
  refine ⟨s, h8, fun a w hr => ⟨h10, fun w' dst ty pos after guard => ?_⟩⟩
  have := h11 w'
  rw [← (h1 a w hr).1, ← (h4 a w hr).1] at this
  simp only [execOp, Sem.run_bind, Sem.run_pure] at this ⊢
  rw [this]; rfl
 case unOp op t x =>
  obtain ⟨sx, h3, h1⟩ := getK_uni (E := E) (n := n) (bl := bl) (R := R) h
  rcases exUn_sound (P := P) bl h3 with h7 | ⟨s, h8, h9, h10⟩
  ·exact h7.elim
  refine ⟨s, h8, fun a w hr => ⟨h9, fun w' dst ty pos after guard => ?_⟩⟩
  have := h10 w'
  rw [← (h1 a w hr).1] at this
  simp only [execOp, Sem.run_bind, Sem.run_pure] at this ⊢
  rw [this]; rfl
 case fieldAddr t x f =>
  simp only [exP] at h
  split at h
  ·rename_i fs hu
   split at h
   ·exact h.elim
   rename_i fd hfd
   obtain ⟨off, ft⟩ := fd
   simp only at h
   split at h
   ·exact h.elim
   ·exact h.elim
   rename_i k hk
   obtain ⟨s, h3, h1⟩ := getK_uni (E := E) (n := n) (bl := bl) (R := R) h
   have hex : ∀ (a : Act) (w : World) (b o : Nat), a.eval x = .pointer (some ⟨b, o, none⟩) → ∀ dst ty pos after guard, (execOp a.eval ⟨dst, .fieldAddr t x f, ty, pos, after, guard⟩).run P w = .ok (.value (.pointer (some ⟨b, o + off, none⟩))) w := by
    intro a w b o e1 dst ty pos after guard
    simp only [execOp, Sem.run_bind, run_fieldAt hΓ hu hfd hk e1, Result.andThen_ok, Sem.run_pure]
   split at h3
   ·exact ⟨.p _ _, h3, fun a w hr => ⟨(h1 a w hr).2, fun w' => hex a w' _ _ (h1 a w hr).1⟩⟩
   ·exact ⟨.v _, h3, fun a w hr => ⟨trivial, fun w' => hex a w' _ _ (h1 a w hr).1⟩⟩
   exact h3.elim
  exact h.elim
set_option maxHeartbeats 1000000 in
theorem exOrd_sound (hΓ : TyOk P Γ) {l : List Oper} (hsel : Region.noSelect ⟨l⟩ = true) (hQ : ∀ c a w, ¬ Q (.panic c) a w) : ∀ (fuel : Nat) (ot : OT) (tail : Bool) (mm : Option Hp) (st : St) (K : St → Prop) (L : Array Bool) (a : Act) (w : World) (C : World → Prop),
  otOk ⟨l⟩ t0 ot L tail = true → otDepth ot ≤ fuel → exOrd P E Γ n l ot tail mm st K → Rel E n st a w → (tail = true → ∃ t, t0 = some t ∧ L.getD t true = true) → (tail = false → ∀ t, t0 = some t → L.getD t true = false) →
  (tail = false → ∀ w, mmSat E mm w → C w) → (tail = false → mmIn mm st.hall) → (∀ st a w, Rel E n st a w → K st → Q .normal a w) → wpAnyG P ⟨l⟩ Q t0 C fuel L a w := by
 intro fuel
 induction fuel with
 | zero =>
  intro ot tail mm st K L a w C hok hd h hr _ _ _ _ hK
  cases ot <;> simp only [otDepth, Nat.le_zero_eq, Nat.add_eq_zero_iff] at hd
  case nil => exact ⟨by simpa [otOk] using hok, hK st a w hr h⟩
  case hd r =>
   simp only [otOk, Bool.and_eq_true, Bool.not_eq_true', beq_iff_eq] at hok
   cases r <;> simp [altIdx] at hok
   simp only [otDepth] at hd; omega
  all_goals omega
 | succ fuel ih =>
 have setT : ∀ (L : Array Bool) (j : Nat), (L.setIfInBounds j true).getD j true = true := by
  intro L j
  rw [Array.getD_eq_getD_getElem?, Array.getElem?_setIfInBounds]
  simp only [if_true]
  split <;> rfl
 intro ot tail mm st K L a w C hok hd h hr htl htl2 hC hM hK
 cases ot with
 | nil =>
  have hready : Region.ready .any ⟨l⟩ L = [] := by simpa [otOk] using hok
  exact ⟨fun _ => hK st a w hr h, fun i hi => by rw [hready] at hi; cases hi⟩
 | q i t =>
  obtain ⟨fr, bl, R⟩ := st
  simp only [otOk, Bool.and_eq_true, Bool.not_eq_true', bne_iff_ne, ne_eq] at hok
  obtain ⟨⟨⟨⟨⟨hfree, hready⟩, htail⟩, hpure⟩, hne⟩, hok⟩ := hok
  subst htail
  simp only [exOrd] at h
  split at h
  ·exact h.elim
  rename_i o ho
  have ho' : (⟨l⟩ : Array Oper)[i]? = some o := by rw [← (by rw [nthO_eq]; simp : nthO l i = (⟨l⟩ : Array Oper)[i]?)]; exact ho
  rw [ho'] at hpure
  simp only [Bool.and_eq_true] at hpure
  obtain ⟨fr', hr', hg⟩ := guardK_sound h hr
  by_cases hfreeOp : isAddr o.op = true
  ·have hD : ∃ v fr'', YieldsIf P ⟨l⟩ (fun _ => True) o v a ∧ Rel E n ⟨fr'', bl, R⟩ (a.put o.dst v) w ∧ exOrd P E Γ n l t false (mmq (isAddr o.op) bl R mm) ⟨fr'', bl, R⟩ K := by
    rcases hg with ⟨hw, hrun⟩ | ⟨hw, hskip⟩
    ·obtain ⟨s, h1, h2⟩ := exP_free (P := P) (E := E) (n := n) hΓ hfreeOp hrun
     obtain ⟨fr'', h3, h4⟩ := putK_sound hr' (h2 a w hr').1 h1
     exact ⟨s.den bl, fr'', .inl ⟨hw, fun w' _ => (h2 a w hr').2 w' o.dst o.type o.pos o.after o.guard⟩, h4, h3⟩
    obtain ⟨fr'', h3, h4⟩ := putK_sound (s := .v undef) hr' trivial hskip
    exact ⟨undef, fr'', .inr ⟨hw, rfl⟩, h4, h3⟩
   obtain ⟨v, fr'', hy, hr'', hrest⟩ := hD
   have hLt : ∀ t', t0 = some t' → (L.setIfInBounds i true).getD t' true = false := fun t' ht' => by
    rw [getD_set_ne true (fun e => hne (by rw [ht', e]))]; exact htl2 rfl t' ht'
   refine wpAnyG_first ho' (Region.noSelect_spec hsel) (fun c a w hc => (hQ _ _ _ hc).elim) [] (fun t' ht' e => hne (by rw [ht', e])) (.inl fun _ => trivial) (fun _ h => by cases h) fuel L a w (Region.free_spec ho' hfree) (fun _ h => by cases h) (by simpa using hready) hy trivial ?_ ?_
   ·exact .inr (hC rfl w ((hM rfl).sat hr.sat))
   exact ih t false _ ⟨fr'', bl, R⟩ K _ _ w _ hok (by simp only [otDepth] at hd; omega) hrest hr'' (fun h => by cases h) (fun _ => hLt) (fun _ w' hw' => ⟨hC rfl w' (by rw [hfreeOp] at hw'; exact hw'), trivial⟩) (fun _ => by rw [hfreeOp]; exact hM rfl) hK
  have hwt : waitsOn ⟨l⟩ t0 i L = true := by simpa [hfreeOp] using hpure.2
  have hmm : mmq (isAddr o.op) bl R mm = some (St.mk fr bl R).hall := by rw [show isAddr o.op = false by simpa using hfreeOp]; rfl
  have hD : ∃ v fr'', YieldsIf P ⟨l⟩ (fun w => Sat E (St.hall ⟨fr, bl, R⟩) w) o v a ∧ Rel E n ⟨fr'', bl, R⟩ (a.put o.dst v) w ∧ exOrd P E Γ n l t false (mmq (isAddr o.op) bl R mm) ⟨fr'', bl, R⟩ K := by
   rcases hg with ⟨hw, hrun⟩ | ⟨hw, hskip⟩
   ·rcases exP_sound (P := P) (E := E) (n := n) hΓ hrun with h1 | ⟨s, h1, h2⟩
    ·exact h1.elim
    obtain ⟨fr'', h3, h4⟩ := putK_sound hr' (h2 a w hr').1 h1
    refine ⟨s.den bl, fr'', .inl ⟨hw, fun w' hw' => ?_⟩, h4, h3⟩
    have hr2 : Rel E n ⟨fr', bl, R⟩ a w' := ⟨hr'.size, hr'.defers, hr'.val, hw'⟩
    exact (h2 a w' hr2).2 o.dst o.type o.pos o.after o.guard
   obtain ⟨fr'', h3, h4⟩ := putK_sound (s := .v undef) hr' trivial hskip
   exact ⟨undef, fr'', .inr ⟨hw, rfl⟩, h4, h3⟩
  obtain ⟨v, fr'', hy, hr'', hrest⟩ := hD
  have hLt : ∀ t', t0 = some t' → (L.setIfInBounds i true).getD t' true = false := fun t' ht' => by
   rw [getD_set_ne true (fun e => hne (by rw [ht', e]))]; exact htl2 rfl t' ht'
  have hbb : ∃ B : List Nat, (∀ t, t0 = some t → t ≠ i ∧ t ∈ B) ∧ ∀ k ∈ B, L.getD k true = false ∧ ∃ o, (⟨l⟩ : Array Oper)[k]? = some o ∧ ∃ e ∈ o.after, Region.binds .any e = true ∧ (e.on = i ∨ e.on ∈ B) := by
   unfold waitsOn at hwt
   cases ht : t0 with
   | none => exact ⟨[], (fun _ h => by cases h), (fun _ h => by cases h)⟩
   | some t' =>
    rw [ht] at hwt
    simp only [Bool.and_eq_true, List.contains_iff_mem] at hwt
    exact ⟨_, fun t'' e => by cases e; exact ⟨fun e => hne (by rw [ht, e]), hwt.1⟩, behindOk_spec hwt.2⟩
  obtain ⟨B, hb1, hb2⟩ := hbb
  refine wpAnyG_first ho' (Region.noSelect_spec hsel) (fun c a w hc => (hQ _ _ _ hc).elim) B (fun t' ht' => (hb1 t' ht').1) (.inr fun t' ht' => (hb1 t' ht').2) (fun k hk => (hb2 k hk).2) fuel L a w (Region.free_spec ho' hfree) (fun k hk => (hb2 k hk).1) (by simpa using hready) hy hr.sat ?_ ?_
  ·exact .inr (hC rfl w ((hM rfl).sat hr.sat))
  exact ih t false _ ⟨fr'', bl, R⟩ K _ _ w _ hok (by simp only [otDepth] at hd; omega) hrest hr'' (fun h => by cases h) (fun _ => hLt) (fun _ w' hw' => by rw [hmm] at hw'; exact ⟨hC rfl w' ((hM rfl).sat hw'), hw'⟩) (fun _ => by rw [hmm]; exact ⟨hr.sat.nodup, fun _ h => h⟩) hK
 | qb i t =>
  obtain ⟨fr, bl, R⟩ := st
  simp only [otOk, Bool.and_eq_true, Bool.not_eq_true', bne_iff_ne, ne_eq] at hok
  obtain ⟨⟨⟨⟨⟨hfree, hready⟩, htail⟩, hpure⟩, hne⟩, hok⟩ := hok
  subst htail
  simp only [exOrd] at h
  split at h
  ·exact h.elim
  rename_i o ho
  have ho' : (⟨l⟩ : Array Oper)[i]? = some o := by rw [← (by rw [nthO_eq]; simp : nthO l i = (⟨l⟩ : Array Oper)[i]?)]; exact ho
  rw [ho'] at hpure
  simp only [Bool.and_eq_true] at hpure
  have hnd : ((bl.map Blk.ent).map (·.1)).Nodup := by
   have := hr.sat.nodup
   simp only [St.hall, List.map_append] at this
   rw [List.nodup_append] at this
   exact this.1
  have hsub : ∀ p ∈ bl.map Blk.ent, p ∈ (St.mk fr bl R).hall := fun p hp => List.mem_append_left _ hp
  have hmm : (∀ w', Sat E (bl.map Blk.ent) w' → mmSat E mm w') ∧ guardK l o.guard fr (fun fr => exP Γ o.op fr bl [] (fun s => putK n fr o.dst s fun fr => exOrd P E Γ n l t false (some (bl.map Blk.ent)) ⟨fr, bl, R⟩ K) False) (fun fr => putK n fr o.dst (.v undef) fun fr => exOrd P E Γ n l t false (some (bl.map Blk.ent)) ⟨fr, bl, R⟩ K) := by
   cases hm : mm with
   | none => rw [hm] at h; exact ⟨fun _ _ => trivial, h⟩
   | some q =>
    rw [hm] at h
    obtain ⟨h3, h4⟩ := h
    have hM' := hM rfl
    rw [hm] at hM'
    exact ⟨fun w' hw' => hw'.sub h3 hM'.1, h4⟩
  obtain ⟨hms, h⟩ := hmm
  obtain ⟨fr', hr', hg⟩ := guardK_sound h hr
  have hs0 : Sat E (bl.map Blk.ent) w := hr.sat.sub hsub hnd
  have eh : ∀ fr, (St.mk fr bl []).hall = bl.map Blk.ent := fun fr => by simp [St.hall]
  have hD : ∃ v fr'', YieldsIf P ⟨l⟩ (fun w => Sat E (bl.map Blk.ent) w) o v a ∧ Rel E n ⟨fr'', bl, R⟩ (a.put o.dst v) w ∧ exOrd P E Γ n l t false (some (bl.map Blk.ent)) ⟨fr'', bl, R⟩ K := by
   rcases hg with ⟨hw, hrun⟩ | ⟨hw, hskip⟩
   ·rcases exP_sound (P := P) (E := E) (n := n) hΓ hrun with h1 | ⟨s, h1, h2⟩
    ·exact h1.elim
    have hr0 : Rel E n ⟨fr', bl, []⟩ a w := ⟨hr'.size, hr'.defers, hr'.val, by rw [eh]; exact hs0⟩
    obtain ⟨fr'', h3, h4⟩ := putK_sound hr' (h2 a w hr0).1 h1
    refine ⟨s.den bl, fr'', .inl ⟨hw, fun w' hw' => ?_⟩, h4, h3⟩
    have hr2 : Rel E n ⟨fr', bl, []⟩ a w' := ⟨hr'.size, hr'.defers, hr'.val, by rw [eh]; exact hw'⟩
    exact (h2 a w' hr2).2 o.dst o.type o.pos o.after o.guard
   obtain ⟨fr'', h3, h4⟩ := putK_sound (s := .v undef) hr' trivial hskip
   exact ⟨undef, fr'', .inr ⟨hw, rfl⟩, h4, h3⟩
  obtain ⟨v, fr'', hy, hr'', hrest⟩ := hD
  have hLt : ∀ t', t0 = some t' → (L.setIfInBounds i true).getD t' true = false := fun t' ht' => by
   rw [getD_set_ne true (fun e => hne (by rw [ht', e]))]; exact htl2 rfl t' ht'
  have hbb : ∃ B : List Nat, (∀ t, t0 = some t → t ≠ i ∧ t ∈ B) ∧ ∀ k ∈ B, L.getD k true = false ∧ ∃ o, (⟨l⟩ : Array Oper)[k]? = some o ∧ ∃ e ∈ o.after, Region.binds .any e = true ∧ (e.on = i ∨ e.on ∈ B) := by
   have hwt := hpure.2
   unfold waitsOn at hwt
   cases ht : t0 with
   | none => exact ⟨[], (fun _ h => by cases h), (fun _ h => by cases h)⟩
   | some t' =>
    rw [ht] at hwt
    simp only [Bool.and_eq_true, List.contains_iff_mem] at hwt
    exact ⟨_, fun t'' e => by cases e; exact ⟨fun e => hne (by rw [ht, e]), hwt.1⟩, behindOk_spec hwt.2⟩
  obtain ⟨B, hb1, hb2⟩ := hbb
  refine wpAnyG_first ho' (Region.noSelect_spec hsel) (fun c a w hc => (hQ _ _ _ hc).elim) B (fun t' ht' => (hb1 t' ht').1) (.inr fun t' ht' => (hb1 t' ht').2) (fun k hk => (hb2 k hk).2) fuel L a w (Region.free_spec ho' hfree) (fun k hk => (hb2 k hk).1) (by simpa using hready) hy hs0 ?_ ?_
  ·exact .inr (hC rfl w ((hM rfl).sat hr.sat))
  exact ih t false _ ⟨fr'', bl, R⟩ K _ _ w _ hok (by simp only [otDepth] at hd; omega) hrest hr'' (fun h => by cases h) (fun _ => hLt) (fun _ w' hw' => ⟨hC rfl w' (hms w' hw'), hw'⟩) (fun _ => ⟨hnd, hsub⟩) hK
 | f i t =>
  obtain ⟨fr, bl, R⟩ := st
  simp only [otOk, Bool.and_eq_true, beq_iff_eq, Bool.or_eq_true, bne_iff_ne, ne_eq] at hok
  obtain ⟨⟨hready, hne⟩, hok⟩ := hok
  simp only [exOrd] at h
  split at h
  ·exact h.elim
  rename_i o ho
  refine ⟨(fun h0 => by rw [hready] at h0; cases h0), fun j hj => ?_⟩
  rw [hready] at hj
  obtain rfl : j = i := by simpa using hj
  obtain ⟨fr', hr', hg⟩ := guardK_sound h hr
  have hLt : tail = true → ∃ t', t0 = some t' ∧ (L.setIfInBounds j true).getD t' true = true := fun ht => by
   obtain ⟨t', h1, h2⟩ := htl ht
   refine ⟨t', h1, ?_⟩
   by_cases hjt : j = t'
   ·subst hjt; exact setT L j
   rw [getD_set_ne true hjt]; exact h2
  have hLf : tail = false → ∀ t', t0 = some t' → (L.setIfInBounds j true).getD t' true = false := fun ht t' ht' => by
   have hnj : j ≠ t' := fun e => by
    rcases hne with h1 | h1
    ·exact h1 (by rw [ht', e])
    rw [ht] at h1; cases h1
   rw [getD_set_ne true hnj]; exact htl2 ht t' ht'
  have fin : ∀ st' a' w', Rel E n st' a' w' → (tail = false → mmIn mm st'.hall) → exOrd P E Γ n l t tail mm st' K → SS t0 C (L.setIfInBounds j true) w' ∧ wpAnyG P ⟨l⟩ Q t0 C fuel (L.setIfInBounds j true) a' w' := by
   intro st' a' w' h1 h2 h3
   refine ⟨?_, ih t tail mm st' K _ a' w' C hok (by simp only [otDepth] at hd; omega) h3 h1 hLt hLf hC h2 hK⟩
   cases tail with
   | true =>
    obtain ⟨t', h4, h5⟩ := hLt rfl
    left; rw [h4]; exact h5
   | false => exact .inr (hC rfl w' ((h2 rfl).sat h1.sat))
  refine wpOp_of ho (fun hw => ?_) (fun hw => ?_)
  ·rcases hg with ⟨_, hrun⟩ | ⟨hw', _⟩
   ·split at hrun
    ·rcases exP_sound (P := P) (E := E) (n := n) hΓ hrun with h1 | ⟨s, h1, h2⟩
     ·exact h1.elim
     refine Oper.wp_next (wp_value (K := fun st => st.bl = bl ∧ st.R = R ∧ exOrd P E Γ n l t tail mm st K) ((h2 a w hr').2 o.dst o.type o.pos o.after o.guard) hr' rfl (h2 a w hr').1 ?_) ?_
     ·unfold putK at h1 ⊢
      split at h1
      ·exact ⟨rfl, rfl, h1⟩
      split at h1
      ·exact ⟨rfl, rfl, h1⟩
      exact h1.elim
     rintro a' w' ⟨⟨fr2, bl2, R2⟩, h3, h4, h5, h6⟩
     simp only at h4 h5
     subst h4 h5
     exact fin _ a' w' h3 (fun ht => hM ht) h6
    refine Oper.wp_next (exOp_sound hΓ hrun hr') ?_
    rintro a' w' ⟨st', h1, h2⟩
    cases ht : tail with
    | true =>
     rw [ht] at h2
     exact fin st' a' w' h1 (fun h0 => by rw [ht] at h0; cases h0) (by rw [ht]; exact h2)
    | false =>
     rw [ht] at h2
     cases hm : mm with
     | none =>
      rw [hm] at h2
      exact fin st' a' w' h1 (fun _ => by rw [hm]; trivial) (by rw [ht, hm]; exact h2)
     | some q =>
      rw [hm] at h2
      obtain ⟨h3, h4⟩ := h2
      have hM' := hM ht
      rw [hm] at hM'
      exact fin st' a' w' h1 (fun _ => by rw [hm]; exact ⟨hM'.1, h3⟩) (by rw [ht, hm]; exact h4)
   rw [hw] at hw'; cases hw'
  rcases hg with ⟨hw', _⟩ | ⟨_, hskip⟩
  ·rw [hw] at hw'; cases hw'
  obtain ⟨fr'', h3, h4⟩ := putK_sound (s := .v undef) hr' trivial hskip
  exact fin ⟨fr'', bl, R⟩ _ w h4 (fun ht => hM ht) h3
 | tl i t =>
  obtain ⟨fr, bl, R⟩ := st
  simp only [otOk, Bool.and_eq_true, beq_iff_eq] at hok
  obtain ⟨⟨hready, ht0⟩, hok⟩ := hok
  simp only [exOrd] at h
  split at h
  ·exact h.elim
  rename_i o ho
  refine ⟨(fun h0 => by rw [hready] at h0; cases h0), fun j hj => ?_⟩
  rw [hready] at hj
  obtain rfl : j = i := by simpa using hj
  obtain ⟨fr', hr', hg⟩ := guardK_sound h hr
  have fin : ∀ st' a' w', Rel E n st' a' w' → exOrd P E Γ n l t true mm st' K → SS t0 C (L.setIfInBounds j true) w' ∧ wpAnyG P ⟨l⟩ Q t0 C fuel (L.setIfInBounds j true) a' w' := by
   intro st' a' w' h1 h3
   refine ⟨?_, ih t true mm st' K _ a' w' C hok (by simp only [otDepth] at hd; omega) h3 h1 (fun _ => ⟨j, ht0, setT L j⟩) (fun h => by cases h) (fun h => by cases h) (fun h => by cases h) hK⟩
   left; rw [ht0]; exact setT L j
  refine wpOp_of ho (fun hw => ?_) (fun hw => ?_)
  ·rcases hg with ⟨_, hrun⟩ | ⟨hw', _⟩
   ·refine Oper.wp_next (exOp_sound hΓ hrun hr') ?_
    rintro a' w' ⟨st', h1, h2⟩
    exact fin st' a' w' h1 h2
   rw [hw] at hw'; cases hw'
  rcases hg with ⟨hw', _⟩ | ⟨_, hskip⟩
  ·rw [hw] at hw'; cases hw'
  obtain ⟨fr'', h3, h4⟩ := putK_sound (s := .v undef) hr' trivial hskip
  exact fin ⟨fr'', bl, R⟩ _ w h4 h3
 | alt i t rest => simp [otOk] at hok
 | hd r =>
  obtain ⟨fr, bl, R⟩ := st
  simp only [otOk, Bool.and_eq_true, Bool.not_eq_true', beq_iff_eq] at hok
  obtain ⟨⟨⟨htail, hready⟩, hne⟩, hok⟩ := hok
  subst htail
  simp only [exOrd] at h
  refine ⟨fun h0 => (by rw [hready] at h0; rw [h0] at hne; cases hne), fun j hj => ?_⟩
  rw [hready] at hj
  obtain ⟨t, h1, hjn, h2, h3⟩ := chain_get r mm L _ K j hj hok h
  simp only at h3
  split at h3
  ·exact h3.elim
  rename_i o ho
  obtain ⟨fr', hr', hg⟩ := guardK_sound h3 hr
  have hLf : ∀ t', t0 = some t' → (L.setIfInBounds j true).getD t' true = false := fun t' ht' => by
   rw [getD_set_ne true (fun e => hjn (by rw [ht', e]))]; exact htl2 rfl t' ht'
  have fin : ∀ st' a' w', Rel E n st' a' w' → mmIn mm st'.hall → exOrd P E Γ n l t false mm st' K → SS t0 C (L.setIfInBounds j true) w' ∧ wpAnyG P ⟨l⟩ Q t0 C fuel (L.setIfInBounds j true) a' w' := by
   intro st' a' w' h4 h5 h6
   exact ⟨.inr (hC rfl w' (h5.sat h4.sat)), ih t false mm st' K _ a' w' C h2 (by simp only [otDepth] at hd; omega) h6 h4 (fun h => by cases h) (fun _ => hLf) hC (fun _ => h5) hK⟩
  refine wpOp_of ho (fun hw => ?_) (fun hw => ?_)
  ·rcases hg with ⟨_, hrun⟩ | ⟨hw', _⟩
   ·refine Oper.wp_next (exOp_sound hΓ hrun hr') ?_
    rintro a' w' ⟨st', h4, h5⟩
    cases hm : mm with
    | none =>
     rw [hm] at h5
     exact fin st' a' w' h4 (by rw [hm]; trivial) (by rw [hm]; exact h5)
    | some q =>
     rw [hm] at h5
     obtain ⟨h6, h7⟩ := h5
     have hM' := hM rfl
     rw [hm] at hM'
     exact fin st' a' w' h4 (by rw [hm]; exact ⟨hM'.1, h6⟩) (by rw [hm]; exact h7)
   rw [hw] at hw'; cases hw'
  rcases hg with ⟨hw', _⟩ | ⟨_, hskip⟩
  ·rw [hw] at hw'; cases hw'
  obtain ⟨fr'', h4, h5⟩ := putK_sound (s := .v undef) hr' trivial hskip
  exact fin ⟨fr'', bl, R⟩ _ w h5 (hM rfl) h4
def noPanic (Q : Exit → Act → World → Prop) (e : Exit) (a : Act) (w : World) : Prop :=
 match e with
 | .panic _ => False
 | e => Q e a w
theorem draw (hΓ : TyOk P Γ) (hm : P.follows .mixedOrders = true) {id : Nat} {l : List Oper} {st : St} {K : St → Prop} (t0 : Option Nat) (ot : OT)
  (hck : (Region.noSelect ⟨l⟩ && otOk ⟨l⟩ t0 ot (Array.replicate l.length false) false && Nat.ble (otDepth ot) l.length && (match t0 with | some t => Nat.blt t l.length | none => true)) = true)
  (h : exOrd P E Γ n l ot false none st K) : VCdraw P E n id ⟨l⟩ st K := by
 simp only [Bool.and_eq_true] at hck
 obtain ⟨⟨⟨hsel, hok⟩, hd⟩, ht⟩ := hck
 refine ⟨fun a w hr Q hK => ?_⟩
 have hr' : Rel E n st a { w with drawn := w.drawn + 1 } := ⟨hr.size, hr.defers, hr.val, ⟨hr.sat.os, hr.sat.out, hr.sat.tape, hr.sat.mem, hr.sat.nodup, Nat.le_trans hr.sat.dr (Nat.le_succ _)⟩⟩
 have := wp_region_any (P := P) (Q := noPanic (lift E n Q)) (id := id) (a := a) (w := w) hm (wpAny_of_G l.length _ _ _ (exOrd_sound (t0 := t0) (Q := noPanic (lift E n Q)) hΓ hsel (fun c a w h => h) l.length ot false none st K (Array.replicate l.length false) a _ (fun _ => True) hok (Nat.le_of_ble_eq_true hd) h hr'
  (fun h => by cases h) (fun _ t ht' => by
   rw [ht'] at ht
   have hlt : t < l.length := by simpa using ht
   simp [Array.getD_eq_getD_getElem?, hlt]) (fun _ _ _ => trivial) (fun _ => trivial) (fun st a w h1 h2 => ⟨st, h1, hK st h2⟩)))
 refine wp_mono this ?_
 intro e a' w' he
 cases e <;> first | exact he | exact he.elim
theorem draw_join {α : Type} {id : Nat} {opsA : Array Oper} {st : St} {K : St → Prop} (J : α → St) (I : α → Prop)
  (h1 : VCdraw P E n id opsA st (fun st' => ∃ z, I z ∧ Weak st' (J z))) (h2 : ∀ z, I z → K (J z)) : VCdraw P E n id opsA st K := by
 obtain ⟨h1⟩ := h1
 refine ⟨fun a w hr Q hK => ?_⟩
 refine wp_mono (h1 a w hr (fun e st => e = .normal ∧ ∃ z, I z ∧ Weak st (J z)) (fun st hst => ⟨rfl, hst⟩)) ?_
 rintro e a' w' ⟨st', h3, rfl, z, h4, h5⟩
 exact ⟨J z, h5.rel h3, hK _ (h2 z h4)⟩
end
end Go.SX
namespace Go.SX
section
variable {P : Program} {E : World} {Γ : Ty} {n : Nat} {α : Type}
theorem load_part {r : Rp α} (z : α) {H H' : Hp} {base : Option Addr} {m cap : Nat} {xs : List α} {i : Int} {b o off c : Nat} {F : List Value → Prop} (d : Nat)
  (h : (rpSl r).rd H [.slice base m cap] xs) (h0 : 0 ≤ i) (h1 : i < xs.length) (hb : base = some ⟨b, o, none⟩) (hoff : off = o + i.toNat * r.size + d) (hd : d + c ≤ r.size)
  (sub : ∀ p ∈ H, p ∈ H') (k : ∀ l, r.rd H l (xs[i.toNat]?.getD z) → F ((l.drop d).take c)) : VCload H' b off c F := by
 obtain ⟨base', cap', e, _, h3⟩ := h
 cases e
 obtain ⟨b', o', l, h4, h5, h6⟩ := h3 i.toNat (by omega)
 rw [hb] at h4; cases h4
 obtain ⟨g1, cs, T, fz, g2, g3⟩ := h5
 refine .intro ((l.drop d).take c) ⟨by rw [List.length_take, List.length_drop]; omega, cs, T, fz, sub _ g2, fun j hj => ?_⟩ (k l (by rw [List.getElem?_eq_getElem (by omega)]; exact h6))
 have := g3 (d + j) (by omega)
 rw [hoff, Nat.add_assoc (o + i.toNat * r.size) d j, this, List.getElem?_take, if_pos hj, List.getElem?_drop]
theorem load_all {r : Rp α} (z : α) {H H' : Hp} {base : Option Addr} {m cap : Nat} {xs : List α} {i : Int} {b o off : Nat} {F : List Value → Prop}
  (h : (rpSl r).rd H [.slice base m cap] xs) (h0 : 0 ≤ i) (h1 : i < xs.length) (hb : base = some ⟨b, o, none⟩) (hoff : off = o + i.toNat * r.size)
  (sub : ∀ p ∈ H, p ∈ H') (k : ∀ l, r.rd H l (xs[i.toNat]?.getD z) → F l) : VCload H' b off r.size F := by
 refine load_part z 0 h h0 h1 hb (by omega) (by omega) sub fun l hl => ?_
 have := r.len hl
 rw [List.drop_zero, ← this, List.take_length]
 exact k l hl
theorem load_allN {r : Rp α} (z : α) (k : Nat) {H H' : Hp} {base : Option Addr} {m cap : Nat} {xs : List α} {i : Int} {b o off : Nat} {F : List Value → Prop} (hk : i = (k : Int))
  (h : (rpSl r).rd H [.slice base m cap] xs) (h0 : 0 ≤ i) (h1 : i < xs.length) (hb : base = some ⟨b, o, none⟩) (hoff : off = o + i.toNat * r.size)
  (sub : ∀ p ∈ H, p ∈ H') (c : ∀ l, r.rd H l (xs[k]?.getD z) → F l) : VCload H' b off r.size F := by
 subst hk; exact load_all z h h0 h1 hb hoff sub c
theorem load_partN {r : Rp α} (z : α) (k : Nat) {H H' : Hp} {base : Option Addr} {m cap : Nat} {xs : List α} {i : Int} {b o off c : Nat} {F : List Value → Prop} (d : Nat) (hk : i = (k : Int))
  (h : (rpSl r).rd H [.slice base m cap] xs) (h0 : 0 ≤ i) (h1 : i < xs.length) (hb : base = some ⟨b, o, none⟩) (hoff : off = o + i.toNat * r.size + d) (hd : d + c ≤ r.size)
  (sub : ∀ p ∈ H, p ∈ H') (f : ∀ l, r.rd H l (xs[k]?.getD z) → F ((l.drop d).take c)) : VCload H' b off c F := by
 subst hk; exact load_part z d h h0 h1 hb hoff hd sub f
def dropK (ws : List Nat) : Fr → Fr
 | [] => []
 | (k, s) :: r => match ws.elem k with
  | true => dropK ws r
  | false => (k, s) :: dropK (k :: ws) r
theorem loop_mod {body : Code} {fr : Fr} {bl : List Blk} {R : List Hp} {Q : Exit → St → Prop} (hΓ : TyOk P Γ) (ws : List Nat) (mods : α → Fr) (bls : α → List Blk) (Rs : α → List Hp) (μ : α → Nat) (I : α → Prop)
  (x0 : α) (h0 : FrLe bl (bls x0) fr (mods x0 ++ dropK ws fr)) (h1 : BlLe bl (bls x0)) (hi : I x0) (h2 : RLe R (Rs x0))
  (hr : ∀ x, I x → exC P E Γ n body ⟨mods x ++ dropK ws fr, bls x, Rs x⟩ (thenQ (fun st' => ∃ x', I x' ∧ μ x' < μ x ∧ Weak st' ⟨mods x' ++ dropK ws fr, bls x', Rs x'⟩) Q)) : VCloop P E n body ⟨fr, bl, R⟩ Q :=
 loop_intro hΓ (fun x => ⟨mods x ++ dropK ws fr, bls x, Rs x⟩) μ I x0 hi ⟨h0, h1, h2⟩ hr
theorem loop_stepI {st' : St} {I : α → Prop} {μ : α → Nat} {J : α → St} {m0 : Nat} (x : α) (h1 : FrLe st'.bl (J x).bl st'.fr (J x).fr) (h2 : BlLe st'.bl (J x).bl) (h4 : I x) (h3 : RLe st'.R (J x).R) (h5 : μ x < m0) :
  ∃ x', I x' ∧ μ x' < m0 ∧ Weak st' (J x') := ⟨x, h4, h5, h1, h2, h3⟩
theorem RLe.any {R' R : List Hp} (h : R' = R) : RLe R' R := h ▸ .refl _
end
end Go.SX
