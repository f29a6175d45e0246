/-
  A symbolic executor for the model's code, over a frame kept as a list of known slots, known small blocks, and a list of heaplets. Plain Lean over any program. Conditions: none.
-/
import Derived.Tactics
import Derived.Laws.Sem
import Derived.Laws.World
namespace Go.SX

/-- What a slot holds: a plain value, a pointer into known block number h at cell off, a known bool. -/
inductive SV where
  | v (x : Value)
  | p (h off : Nat)
  | b (t : Bool)

/-- A known block: its number in the heap, its cells, its element type. -/
structure Blk where
  id : Nat
  cs : List Value
  ty : TypeId

abbrev Hp := List (Nat × Obj)

structure St where
  fr : List (Nat × SV)
  bl : List Blk
  R : List Hp

def Blk.ent (b : Blk) : Nat × Obj := (b.id, .cells ⟨b.cs⟩ b.ty)
def St.hall (st : St) : Hp := st.bl.map Blk.ent ++ st.R.flatten

def idOf : List Blk → Nat → Nat
  | [], _ => 0
  | b :: _, 0 => b.id
  | _ :: r, n + 1 => idOf r n

def SV.den (bl : List Blk) : SV → Value
  | .v x => x
  | .p h off => .pointer (some ⟨idOf bl h, off, none⟩)
  | .b t => .bool t

def SV.ok (bl : List Blk) : SV → Prop
  | .p h _ => h < bl.length
  | _ => True

def look : List (Nat × SV) → Nat → Option SV
  | [], _ => none
  | (k', s) :: r, k => match Nat.beq k' k with
    | true => some s
    | false => look r k

structure Sat (E : World) (H : Hp) (w : World) : Prop where
  os : w.os = E.os
  out : w.output = E.output
  tape : w.tape = E.tape
  mem : ∀ b o, (b, o) ∈ H → w.heap[b]? = some o
  nodup : (H.map (·.1)).Nodup
  dr : E.drawn ≤ w.drawn

structure Rel (E : World) (n : Nat) (st : St) (a : Act) (w : World) : Prop where
  size : a.tmps.size = n
  defers : a.defers = []
  val : ∀ k sv, look st.fr k = some sv → a.tmps[k]? = some (sv.den st.bl) ∧ sv.ok st.bl
  sat : Sat E st.hall w

/-- What a type is underneath; of a struct: each field's offset and type. -/
inductive UD where
  | bool
  | int (k : IntKind)
  | string
  | slice (e : TypeId)
  | struct (fl : List (Nat × TypeId))
  | pointer (e : TypeId)
  | map (k e : TypeId)
  | func

/-- What is known of a type. -/
structure TI where
  und : UD
  size : Nat
  bytes : Nat
  zero : Value

def TI.agg (t : TI) : Bool := match t.und with
  | .struct _ => true
  | _ => false

abbrev Ty := List (Nat × TI)
def tyOf : Ty → Nat → Option TI
  | [], _ => none
  | (k', s) :: r, k => match Nat.beq k' k with
    | true => some s
    | false => tyOf r k

def undOf (Γ : Ty) (t : Nat) : Option UD := match tyOf Γ t with
  | some ti => some ti.und
  | none => none
def sizOf (Γ : Ty) (t : Nat) : Option Nat := match tyOf Γ t with
  | some ti => some ti.size
  | none => none

def UD.ok (P : Program) (t : TypeId) : UD → Prop
  | .bool => P.underlying t = some .bool
  | .int k => P.underlying t = some (.int k)
  | .string => P.underlying t = some .string
  | .slice e => P.underlying t = some (.slice e)
  | .struct fl => ∃ fs, P.underlying t = some (.struct fs) ∧ fs.toList.map (fun f => (f.offset, f.type)) = fl
  | .pointer e => P.underlying t = some (.pointer e)
  | .map k e => P.underlying t = some (.map k e)
  | .func => ∃ a b c, P.underlying t = some (.func a b c)
def TI.ok (P : Program) (t : TypeId) (ti : TI) : Prop :=
  ti.und.ok P t ∧ (P.info? t).map (fun i => (i.size, i.bytes, i.zero)) = some (ti.size, ti.bytes, some ti.zero)
def TyOk (P : Program) (Γ : Ty) : Prop := ∀ t ti, tyOf Γ t = some ti → ti.ok P t

theorem TyOk.nil {P : Program} : TyOk P [] := fun _ _ h => by simp [tyOf] at h
theorem TyOk.cons {P : Program} {t : Nat} {ti : TI} {Γ : Ty} (h : ti.ok P t) (hr : TyOk P Γ) : TyOk P ((t, ti) :: Γ) := by
  intro t' ti' h'
  unfold tyOf at h'
  split at h'
  · rename_i hb
    cases h'
    have := Nat.eq_of_beq_eq_true hb
    subst this; exact h
  · exact hr _ _ h'

/- The questions that the executor leaves. Each is an inductive proposition, so that unfolding stops at it. -/
inductive VC (side next : Prop) : Prop where
  | intro : side → next → VC side next
inductive VCsplit (t : Bool) (A B : Prop) : Prop where
  | intro : (t = true → A) → (t = false → B) → VCsplit t A B
inductive VCnew (f : Nat → Prop) : Prop where
  | intro : (∀ b, f b) → VCnew f
/-- an index into a slice: the base's address, and that the index is in range -/
inductive VCidx (base : Option Addr) (n : Nat) (i : Int) (f : Nat → Nat → Prop) : Prop where
  | intro (b o : Nat) : base = some ⟨b, o, none⟩ → 0 ≤ i → i < n → f b o → VCidx base n i f

def RdCells (H : Hp) (b o n : Nat) (l : List Value) : Prop :=
  l.length = n ∧ ∃ cs T fz, (b, Obj.cells cs T fz) ∈ H ∧ ∀ i, i < n → cs[o + i]? = l[i]?

inductive VCload (H : Hp) (b o n : Nat) (f : List Value → Prop) : Prop where
  | intro (l : List Value) : RdCells H b o n l → f l → VCload H b o n f

def setAt : List Value → Nat → List Value → List Value
  | cs, _, [] => cs
  | cs, o, x :: r => setAt (cs.set o x) (o + 1) r

/-- the heaplets after a store of l at (b, o) -/
def WrCells (R : List Hp) (b o : Nat) (l : List Value) (R' : List Hp) : Prop :=
  ∃ pre post A1 A2 cs T, R = pre ++ (A1 ++ (b, Obj.cells cs T) :: A2) :: post ∧ o + l.length ≤ cs.size ∧
    R' = pre ++ (A1 ++ (b, Obj.cells ⟨setAt cs.toList o l⟩ T) :: A2) :: post

/-- heaplets may be parted, joined, put in another order, and left away -/
def RLe (R' R : List Hp) : Prop := ∃ L, R'.flatten.Perm (R.flatten ++ L)

/-- the heaplets after a store of one cell at (b, o), in a block part of which is frozen -/
def WrCellF (R : List Hp) (b o : Nat) (l : List Value) (R' : List Hp) : Prop :=
  ∃ pre post A1 A2 cs T lo hi v, l = [v] ∧ R = pre ++ (A1 ++ (b, Obj.cells cs T (lo, hi)) :: A2) :: post ∧ o < cs.size ∧ o < lo ∧
    R' = pre ++ (A1 ++ (b, Obj.cells ⟨cs.toList.set o v⟩ T (lo, hi)) :: A2) :: post

inductive VCstore (R : List Hp) (b o : Nat) (l : List Value) (f : List Hp → Prop) : Prop where
  | part (R0 R1 R' : List Hp) : RLe R R0 → WrCells R0 b o l R1 → RLe R1 R' → f R' → VCstore R b o l f
  | frz (R0 R1 R' : List Hp) : RLe R R0 → WrCellF R0 b o l R1 → RLe R1 R' → f R' → VCstore R b o l f
theorem VCstore.intro {R : List Hp} {b o : Nat} {l : List Value} {f : List Hp → Prop} (R' : List Hp) (h : WrCells R b o l R') (k : f R') : VCstore R b o l f :=
  .part R R' R' ⟨[], by simp⟩ h ⟨[], by simp⟩ k

/-- make: the length, the capacity, an element's bytes -/
inductive VCmake (m c : Int) (bytes : Nat) (f : Nat → Prop) : Prop where
  | intro : 0 ≤ m → m ≤ c → c ≤ 281474976710656 → bytes * c ≤ 281474976710656 → (∀ b, f b) → VCmake m c bytes f

/-- n times the cells z -/
def zeros : Nat → List Value → List Value
  | 0, _ => []
  | n + 1, z => z ++ zeros n z

def lift (E : World) (n : Nat) (Q : Exit → St → Prop) (e : Exit) (a : Act) (w : World) : Prop := ∃ st, Rel E n st a w ∧ Q e st

/-- an operation that the executor does not carry out by itself -/
inductive VCraw (P : Program) (E : World) (n : Nat) (o : Oper) (st : St) (K : St → Prop) : Prop where
  | intro : (∀ a w, Rel E n st a w → ∀ Q, o.wp P a w (fun a' w' => ∃ st', Rel E n st' a' w' ∧ K st') Q) → VCraw P E n o st K
inductive VCcall (P : Program) (E : World) (f : FuncId) (args : List Value) (st : St) (K : Value → List Blk → List Hp → Prop) : Prop where
  | intro : (∃ fn, P.funcs[f]? = some fn ∧ fn.name ≠ "runtime.NumGoroutine" ∧ fn.body.isSome = true) →
      (∀ w, Sat E st.hall w → Calls P f ⟨args⟩ w (fun e w' => ∃ v bl R, e = .returned v ∧ Sat E (St.mk [] bl R).hall w' ∧ bl.map Blk.id = st.bl.map Blk.id ∧ K v bl R)) →
      VCcall P E f args st K
  | ext : (∀ w, Sat E st.hall w → ∃ v w' bl R, (callFunc f ⟨args⟩).run P w = .ok (.value v) w' ∧ Sat E (St.mk [] bl R).hall w' ∧ bl.map Blk.id = st.bl.map Blk.id ∧ K v bl R) →
      VCcall P E f args st K
inductive VCloop (P : Program) (E : World) (n : Nat) (body : Code) (st : St) (Q : Exit → St → Prop) : Prop where
  | intro : (∀ a w, Rel E n st a w → (Code.loop body).wp P (lift E n Q) a w) → VCloop P E n body st Q
inductive VCdraw (P : Program) (E : World) (n id : Nat) (ops : Array Oper) (st : St) (K : St → Prop) : Prop where
  | intro : (∀ a w, Rel E n st a w → ∀ Q : Exit → St → Prop, (∀ st, K st → Q .normal st) → (Code.region id ops true).wp P (lift E n Q) a w) → VCdraw P E n id ops st K
inductive VCcode (P : Program) (E : World) (n : Nat) (c : Code) (st : St) (Q : Exit → St → Prop) : Prop where
  | intro : (∀ a w, Rel E n st a w → c.wp P (lift E n Q) a w) → VCcode P E n c st Q

def constSV : Value → SV
  | .bool true => .b true
  | .bool false => .b false
  | x => .v x

abbrev Fr := List (Nat × SV)

/-- the cells of a slot's content -/
def cellsK (bl : List Blk) (s : SV) (K : List Value → Prop) : Prop :=
  match s with
  | .v (.agg ⟨cs⟩) => K cs
  | .v x => K [x]
  | .b t => K [.bool t]
  | .p h off => K [.pointer (some ⟨idOf bl h, off, none⟩)]

def pushBlk : List Blk → Blk → List Blk × Nat
  | [], x => ([x], 0)
  | b :: r, x => match pushBlk r x with
    | (r', h) => (b :: r', h + 1)

section
variable (P : Program) (E : World) (Γ : Ty) (n : Nat)

def getK (fr : Fr) (x : Operand) (K : SV → Prop) : Prop :=
  match x with
  | .tmp t => match look fr t with
    | some s => K s
    | none => False
  | .const c => K (constSV c)
  | .global g => K (.v (.pointer (some ⟨g, 0, none⟩)))
  | .func f => K (.v (.func (.func f) #[] #[]))

def putK (fr : Fr) (dst : Option Nat) (s : SV) (K : Fr → Prop) : Prop :=
  match dst with
  | none => K fr
  | some d => match Nat.blt d n with
    | true => K ((d, s) :: fr)
    | false => False

def denK (bl : List Blk) (s : SV) (K : Value → Prop) : Prop :=
  match s with
  | .v x => K x
  | .b t => K (.bool t)
  | .p h off => K (.pointer (some ⟨idOf bl h, off, none⟩))

def getsK (fr : Fr) (bl : List Blk) : List Operand → (List Value → Prop) → Prop
  | [], K => K []
  | x :: r, K => getK fr x fun s => denK bl s fun v => getsK fr bl r fun l => K (v :: l)

def asB : SV → Option Bool
  | .b t => some t
  | .v (.bool t) => some t
  | _ => none

def exIntCmp (op : BinOp) (x y : Int) (K : SV → Prop) (raw : Prop) : Prop :=
  match op with
  | .eql => K (.v (.bool (x == y)))
  | .neq => K (.v (.bool (x != y)))
  | .lss => K (.v (.bool (x < y)))
  | .leq => K (.v (.bool (x ≤ y)))
  | .gtr => K (.v (.bool (x > y)))
  | .geq => K (.v (.bool (x ≥ y)))
  | _ => raw

def exInt (op : BinOp) (k : IntKind) (x y : Int) (K : SV → Prop) (raw : Prop) : Prop :=
  match op with
  | .add => K (.v (.int k (k.wrap (x + y))))
  | .sub => K (.v (.int k (k.wrap (x - y))))
  | .mul => K (.v (.int k (k.wrap (x * y))))
  | .quo => VC (y ≠ 0) (K (.v (.int k (k.wrap (x.tdiv y)))))
  | .rem => VC (y ≠ 0) (K (.v (.int k (x.tmod y))))
  | .and => K (.v (.int k (k.wrap (BitVec.ofInt k.bits x &&& BitVec.ofInt k.bits y).toNat)))
  | .or => K (.v (.int k (k.wrap (BitVec.ofInt k.bits x ||| BitVec.ofInt k.bits y).toNat)))
  | .xor => K (.v (.int k (k.wrap (BitVec.ofInt k.bits x ^^^ BitVec.ofInt k.bits y).toNat)))
  | .andNot => K (.v (.int k (k.wrap (BitVec.ofInt k.bits x &&& ~~~ BitVec.ofInt k.bits y).toNat)))
  | .shl => raw
  | .shr => raw
  | op => exIntCmp op x y K raw

def exShift (op : BinOp) (k : IntKind) (x y : Int) (K : SV → Prop) (raw : Prop) : Prop :=
  match op with
  | .shl => VC (0 ≤ y) (K (.v (.int k (k.wrap (x * 2 ^ (min y.toNat k.bits))))))
  | .shr => VC (0 ≤ y) (K (.v (.int k (x.fdiv (2 ^ (min y.toNat k.bits))))))
  | _ => raw

def exStr (op : BinOp) (x y : ByteArray) (K : SV → Prop) (raw : Prop) : Prop :=
  match op with
  | .add => VC (((x.size + y.size : Nat) : Int) ≤ IntKind.i64.max) (K (.v (.string (x ++ y))))
  | .eql => K (.v (.bool (x.toList == y.toList)))
  | .neq => K (.v (.bool !(x.toList == y.toList)))
  | .lss => K (.v (.bool (Op.bytesLess x.toList y.toList)))
  | .leq => K (.v (.bool (Op.bytesLess x.toList y.toList || x.toList == y.toList)))
  | .gtr => K (.v (.bool !(Op.bytesLess x.toList y.toList || x.toList == y.toList)))
  | .geq => K (.v (.bool !(Op.bytesLess x.toList y.toList)))
  | _ => raw

def exBool (op : BinOp) (x y : Bool) (K : SV → Prop) (raw : Prop) : Prop :=
  match op with
  | .eql => K (.v (.bool (x == y)))
  | .neq => K (.v (.bool !(x == y)))
  | _ => raw

/-- a comparison with nil; t: it is nil -/
def exNil (op : BinOp) (t : Bool) (K : SV → Prop) (raw : Prop) : Prop :=
  match op with
  | .eql => K (.v (.bool t))
  | .neq => K (.v (.bool !t))
  | _ => raw

def isShift : BinOp → Bool
  | .shl => true
  | .shr => true
  | _ => false

/-- a binary operation on two slots' contents; xt: the operands' type -/
def exBin (op : BinOp) (xt : TypeId) (sx sy : SV) (K : SV → Prop) (raw : Prop) : Prop :=
  match sx with
  | .v (.int k x) => match sy with
    | .v (.int k' y) => match isShift op with
      | true => exShift op k x y K raw
      | false => match decide (k = k') with
        | true => exInt op k x y K raw
        | false => raw
    | _ => raw
  | .v (.string x) => match sy with
    | .v (.string y) => exStr op x y K raw
    | _ => raw
  | .p _ _ => match sy with
    | .v (.pointer none) => match undOf Γ xt with
      | some (.pointer _) => exNil op false K raw
      | _ => raw
    | _ => raw
  | .v (.slice a _ _) => match sy with
    | .v (.slice none _ _) => match undOf Γ xt with
      | some (.slice _) => exNil op a.isNone K raw
      | _ => raw
    | _ => raw
  | .v (.pointer a) => match sy with
    | .v (.pointer none) => match undOf Γ xt with
      | some (.pointer _) => exNil op a.isNone K raw
      | _ => raw
    | _ => raw
  | .v (.map a) => match sy with
    | .v (.map none) => match undOf Γ xt with
      | some (.map _ _) => exNil op a.isNone K raw
      | _ => raw
    | _ => raw
  | sx => match asB sx with
    | none => raw
    | some x => match asB sy with
      | none => raw
      | some y => match undOf Γ xt with
        | some .bool => exBool op x y K raw
        | _ => raw

def exUn (op : UnOp) (sx : SV) (K : SV → Prop) (raw : Prop) : Prop :=
  match op with
  | .neg => match sx with
    | .v (.int k x) => K (.v (.int k (k.wrap (0 - x))))
    | _ => raw
  | .not => match sx with
    | .b true => K (.b false)
    | .b false => K (.b true)
    | .v (.bool t) => K (.v (.bool !t))
    | _ => raw
  | _ => raw

def nthBlk : List Blk → Nat → Option Blk
  | [], _ => none
  | b :: _, 0 => some b
  | _ :: r, i + 1 => nthBlk r i

/-- the blocks with block h's cells replaced -/
def setBlk : List Blk → Nat → List Value → Option (List Blk)
  | [], _, _ => none
  | ⟨i, _, t⟩ :: r, 0, cs => some (⟨i, cs, t⟩ :: r)
  | b :: r, i + 1, cs => match setBlk r i cs with
    | some r' => some (b :: r')
    | none => none

/-- m cells from off on -/
def takeAt : List Value → Nat → Nat → Option (List Value)
  | _, 0, 0 => some []
  | c :: r, 0, m + 1 => match takeAt r 0 m with
    | some l => some (c :: l)
    | none => none
  | _ :: r, off + 1, m => takeAt r off m
  | [], _, _ => none

/-- the cells with l laid over them from off on -/
def layAt : List Value → Nat → List Value → Option (List Value)
  | cs, 0, [] => some cs
  | _ :: r, 0, x :: l => match layAt r 0 l with
    | some r' => some (x :: r')
    | none => none
  | c :: r, off + 1, l => match layAt r off l with
    | some r' => some (c :: r')
    | none => none
  | [], _, _ => none

def lenIs : List Value → Nat → Bool
  | [], 0 => true
  | _ :: r, n + 1 => lenIs r n
  | _, _ => false

def allOne : List Value → Bool
  | [] => true
  | .agg _ :: _ => false
  | .tuple _ :: _ => false
  | _ :: r => allOne r

def exLoad (ti : TI) (s : SV) (bl : List Blk) (R : List Hp) (K : SV → Prop) (raw : Prop) : Prop :=
  match s with
  | .p h off => match nthBlk bl h with
    | none => False
    | some b => match b with
      | ⟨_, cs, _⟩ => match ti.agg with
        | true => match takeAt cs off ti.size with
          | none => False
          | some l => K (.v (.agg ⟨l⟩))
        | false => match takeAt cs off 1 with
          | some [c] => K (.v c)
          | _ => False
  | .v (.pointer (some ⟨b, o, none⟩)) => match ti.agg with
    | true => VCload (St.mk [] bl R).hall b o ti.size fun l => K (.v (.agg ⟨l⟩))
    | false => VCload (St.mk [] bl R).hall b o 1 fun l => match l with
      | [c] => K (.v c)
      | _ => False
  | _ => raw

def exStore (ti : TI) (s x : SV) (bl : List Blk) (R : List Hp) (K : List Blk → List Hp → Prop) (raw : Prop) : Prop :=
  cellsK bl x fun xs => match lenIs xs ti.size with
  | false => raw
  | true => match allOne xs with
   | false => raw
   | true => match s with
    | .p h off => match nthBlk bl h with
      | none => False
      | some b => match b with
        | ⟨_, cs, _⟩ => match layAt cs off xs with
          | none => False
          | some cs => match setBlk bl h cs with
            | none => False
            | some bl => K bl R
    | .v (.pointer (some ⟨b, o, none⟩)) => VCstore R b o xs fun R' => K bl R'
    | _ => raw

def nthF : List (Nat × TypeId) → Nat → Option (Nat × TypeId)
  | [], _ => none
  | b :: _, 0 => some b
  | _ :: r, i + 1 => nthF r i
def nthV : List Value → Nat → Option Value
  | [], _ => none
  | b :: _, 0 => some b
  | _ :: r, i + 1 => nthV r i

def fldsOk (Γ : Ty) : List (Nat × TypeId) → Bool
  | [] => true
  | (_, t) :: r => match sizOf Γ t with
    | some _ => fldsOk Γ r
    | none => false

/-- the parts of a struct literal, laid into the cells -/
def exBuild (fs : List (Nat × TypeId)) (fr : Fr) (bl : List Blk) : List Value → List (Nat × Operand) → (List Value → Prop) → Prop
  | cs, [], K => K cs
  | cs, (i, x) :: r, K => match nthF fs i with
    | none => False
    | some (off, ft) => match tyOf Γ ft with
      | none => False
      | some ti => getK fr x fun s => cellsK bl s fun xs => match lenIs xs ti.size with
        | false => False
        | true => match layAt cs off xs with
          | none => False
          | some cs' => exBuild fs fr bl cs' r K

/-- the parts of a slice literal -/
def exBuildS (sz : Nat) (fr : Fr) (bl : List Blk) : List Value → List (Nat × Operand) → (List Value → Prop) → Prop
  | cs, [], K => K cs
  | cs, (i, x) :: r, K => getK fr x fun s => cellsK bl s fun xs => match lenIs xs sz with
    | false => False
    | true => match layAt cs (i * sz) xs with
      | none => False
      | some cs' => exBuildS sz fr bl cs' r K

/-- the bounds of a slicing: low, high and the capacity (of a string: its length) -/
def exLo (fr : Fr) (lo : Option Operand) (h : Nat) (K : Nat → Prop) (raw : Prop) : Prop :=
  match lo with
  | none => K 0
  | some x => getK fr x fun s => match s with
    | .v (.int _ l) => VC (0 ≤ l ∧ l ≤ h) (K l.toNat)
    | _ => raw
def exBounds (fr : Fr) (len cap : Nat) (lo hi : Option Operand) (K : Nat → Nat → Prop) (raw : Prop) : Prop :=
  match hi with
  | none => exLo fr lo len (fun l => K l len) raw
  | some x => getK fr x fun s => match s with
    | .v (.int _ h) => VC (0 ≤ h ∧ h ≤ cap) (exLo fr lo h.toNat (fun l => K l h.toNat) raw)
    | _ => raw

/-- where a part of a slice begins -/
def subBase (cap l : Nat) (a : Option Addr) (sz : Nat) : Option Addr :=
  match l with
  | 0 => a
  | l + 1 => if cap = l + 1 then a else a.map (·.add ((l + 1) * sz))
theorem subBase_eq (cap l : Nat) (a : Option Addr) (sz : Nat) : subBase cap l a sz = (if cap = l then a else a.map (·.add (l * sz))) := by
  cases l with
  | zero => cases a <;> simp [subBase, Addr.add]
  | succ l => rfl
def exBounds3 (fr : Fr) (cap : Nat) (lo : Option Operand) (hi mx : Operand) (K : Nat → Nat → Nat → Prop) (raw : Prop) : Prop :=
  getK fr mx fun sm => match sm with
    | .v (.int _ m) => VC (0 ≤ m ∧ m ≤ cap) (getK fr hi fun s => match s with
      | .v (.int _ h) => VC (0 ≤ h ∧ h ≤ m.toNat) (exLo fr lo h.toNat (fun l => K l h.toNat m.toNat) raw)
      | _ => raw)
    | _ => raw

/-- an operation that writes nothing: what it yields -/
def exP (op : Op) (fr : Fr) (bl : List Blk) (R : List Hp) (K : SV → Prop) (raw : Prop) : Prop :=
  match op with
  | .move x => getK fr x K
  | .assign x => getK fr x K
  | .nilCheck x => getK fr x fun s => match s with
    | .p h o => K (.p h o)
    | .v (.pointer (some a)) => K (.v (.pointer (some a)))
    | .v (.func (.func f) fs cs) => K (.v (.func (.func f) fs cs))
    | _ => raw
  | .makeFunc (.func f) ⟨first⟩ ⟨caps⟩ => getsK fr bl first fun a => getsK fr bl caps fun b => K (.v (.func (.func f) ⟨a⟩ ⟨b⟩))
  | .pick c a b => getK fr c fun s => match s with
    | .b true => getK fr a K
    | .b false => getK fr b K
    | .v (.bool t) => VCsplit t (getK fr a K) (getK fr b K)
    | _ => raw
  | .binOp op xt x y _ => getK fr x fun sx => getK fr y fun sy => exBin Γ op xt sx sy K raw
  | .unOp op _ x => getK fr x fun sx => exUn op sx K raw
  | .load t x => match tyOf Γ t with
    | none => False
    | some ti => getK fr x fun s => exLoad ti s bl R K raw
  | .fieldAddr t x f => match undOf Γ t with
    | some (.struct fs) => match nthF fs f with
      | none => False
      | some fd => match fd with
        | (off, ft) => match sizOf Γ ft with
          | none => False
          | some 0 => False
          | some (_ + 1) => getK fr x fun s => match s with
            | .p h o => K (.p h (o + off))
            | .v (.pointer (some ⟨b, o, none⟩)) => K (.v (.pointer (some ⟨b, o + off, none⟩)))
            | _ => raw
    | _ => False
  | .build t ⟨parts⟩ => match tyOf Γ t with
    | none => False
    | some ti => match ti with
      | ⟨und, _, _, z⟩ => match und with
        | .struct fs => match fldsOk Γ fs with
         | false => False
         | true => cellsK [] (.v z) fun cs => exBuild Γ fs fr bl cs parts fun cs => K (.v (.agg ⟨cs⟩))
        | _ => raw
  | .extract x i => getK fr x fun s => match s with
    | .v (.tuple ⟨vs⟩) => match nthV vs i with
      | some v => K (.v v)
      | none => False
    | _ => raw
  | .field t x f => match undOf Γ t with
    | some (.struct fs) => match nthF fs f with
      | none => False
      | some fd => match fd with
        | (off, ft) => match tyOf Γ ft with
          | none => False
          | some ti => getK fr x fun s => match s with
            | .v (.agg ⟨cs⟩) => match ti.agg with
              | true => match takeAt cs off ti.size with
                | some l => K (.v (.agg ⟨l⟩))
                | none => False
              | false => match takeAt cs off 1 with
                | some [c] => K (.v c)
                | _ => False
            | _ => raw
    | _ => False
  | .convert t u x => match undOf Γ t with
    | some (.int _) => match undOf Γ u with
      | some (.int k) => getK fr x fun s => match s with
        | .v (.int _ m) => K (.v (.int k (k.wrap m)))
        | _ => raw
      | _ => raw
    | _ => raw
  | .indexAddr t x ix => match undOf Γ t with
    | some (.slice elem) => match sizOf Γ elem with
      | none => False
      | some sz => getK fr x fun s => getK fr ix fun si => match s with
        | .v (.slice base len _) => match si with
          | .v (.int _ i) => VCidx base len i fun b off => K (.v (.pointer (some ⟨b, off + i.toNat * sz, none⟩)))
          | _ => raw
        | _ => raw
    | _ => raw
  | .index t x ix => match undOf Γ t with
    | some .string => getK fr x fun s => getK fr ix fun si => match s with
        | .v (.string bs) => match si with
          | .v (.int _ i) => VC (0 ≤ i ∧ i < bs.size) (K (.v (.int .u8 ((bs[i.toNat]?).getD 0).toNat)))
          | _ => raw
        | _ => raw
    | _ => raw
  | .slice t x lo hi none => match undOf Γ t with
    | some .string => getK fr x fun s => match s with
      | .v (.string bs) => exBounds fr bs.size bs.size lo hi (fun l h => K (.v (.string (bs.extract l h)))) raw
      | _ => raw
    | some (.slice elem) => match sizOf Γ elem with
      | none => False
      | some sz => getK fr x fun s => match s with
        | .v (.slice a len cap) => exBounds fr len cap lo hi (fun l h => K (.v (.slice (subBase cap l a sz) (h - l) (cap - l)))) raw
        | _ => raw
    | _ => raw
  | .slice t x lo (some hi) (some mx) => match undOf Γ t with
    | some (.slice elem) => match sizOf Γ elem with
      | none => False
      | some sz => getK fr x fun s => match s with
        | .v (.slice a _ cap) => exBounds3 fr cap lo hi mx (fun l h m => K (.v (.slice (subBase m l a sz) (h - l) (m - l)))) raw
        | _ => raw
    | _ => raw
  | .call ⟨callee, ⟨args⟩, ⟨tys⟩⟩ => match callee with
    | .builtin .len => match args with
      | [x] => match tys with
        | [t] => match undOf Γ t with
          | some .string => getK fr x fun s => match s with
            | .v (.string bs) => K (.v (.int .i64 bs.size))
            | _ => raw
          | some (.slice _) => getK fr x fun s => match s with
            | .v (.slice _ m _) => K (.v (.int .i64 m))
            | _ => raw
          | _ => raw
        | _ => False
      | _ => False
    | .builtin .max => match args with
      | [x, y] => getK fr x fun s => getK fr y fun s' => match s with
        | .v (.int k i) => match s' with
          | .v (.int _ j) => K (.v (.int k (if j > i then j else i)))
          | _ => raw
        | _ => raw
      | _ => raw
    | .builtin .min => match args with
      | [x, y] => getK fr x fun s => getK fr y fun s' => match s with
        | .v (.int k i) => match s' with
          | .v (.int _ j) => K (.v (.int k (if j < i then j else i)))
          | _ => raw
        | _ => raw
      | _ => raw
    | .builtin .cap => match args with
      | [x] => match tys with
        | [t] => match undOf Γ t with
          | some (.slice _) => getK fr x fun s => match s with
            | .v (.slice _ _ c) => K (.v (.int .i64 c))
            | _ => raw
          | _ => raw
        | _ => False
      | _ => False
    | _ => raw
  | _ => raw

def exOp (o : Oper) (fr : Fr) (bl : List Blk) (R : List Hp) (K : St → Prop) : Prop :=
  match o with
  | ⟨dst, op, _, _, _, _⟩ =>
  match op with
  | .box t x => getK fr x fun s => cellsK bl s fun cs => VCnew fun b => match pushBlk bl ⟨b, cs, t⟩ with
    | (bl', h) => putK n fr dst (.p h 0) fun fr => K ⟨fr, bl', R⟩
  | .alloc t => match tyOf Γ t with
    | none => False
    | some ti => match ti with
      | ⟨_, _, _, z⟩ => cellsK [] (.v z) fun cs => VCnew fun b => match pushBlk bl ⟨b, cs, t⟩ with
        | (bl', h) => putK n fr dst (.p h 0) fun fr => K ⟨fr, bl', R⟩
  | .store t x y => match tyOf Γ t with
    | none => False
    | some ti => match dst with
      | some _ => False
      | none => getK fr x fun s => getK fr y fun s' => exStore ti s s' bl R (fun bl R => K ⟨fr, bl, R⟩) (VCraw P E n o ⟨fr, bl, R⟩ K)
  | .buildSlice t len ⟨parts⟩ => match undOf Γ t with
    | some (.slice e) => match tyOf Γ e with
      | none => False
      | some ti => match ti with
        | ⟨_, sz, _, z⟩ => match Nat.ble (len * sz) 16777216 with
          | false => False
          | true => cellsK [] (.v z) fun zc => match lenIs zc sz with
            | false => False
            | true => exBuildS sz fr bl (zeros len zc) parts fun cs => VCnew fun b => putK n fr dst (.v (.slice (some ⟨b, 0, none⟩) len len)) fun fr => K ⟨fr, bl, [(b, Obj.cells ⟨cs⟩ e)] :: R⟩
    | _ => VCraw P E n o ⟨fr, bl, R⟩ K
  | .makeSlice t l c => match undOf Γ t with
    | some (.slice e) => match tyOf Γ e with
      | none => False
      | some ti => match ti with
        | ⟨_, sz, by_, z⟩ => cellsK [] (.v z) fun zc => match lenIs zc sz with
          | false => False
          | true => getK fr l fun sl => getK fr c fun sc => match sl with
            | .v (.int _ m) => match sc with
              | .v (.int _ m') => VCmake m m' by_ fun b => putK n fr dst (.v (.slice (some ⟨b, 0, none⟩) m.toNat m'.toNat)) fun fr => K ⟨fr, bl, [(b, Obj.cells ⟨zeros m'.toNat zc⟩ e)] :: R⟩
              | _ => VCraw P E n o ⟨fr, bl, R⟩ K
            | _ => VCraw P E n o ⟨fr, bl, R⟩ K
    | _ => VCraw P E n o ⟨fr, bl, R⟩ K
  | .call ⟨.value (.func f), ⟨args⟩, _⟩ => getsK fr bl args fun vs => VCcall P E f vs ⟨[], bl, R⟩ fun v bl R => putK n fr dst (.v v) fun fr => K ⟨fr, bl, R⟩
  | .call ⟨.value (.tmp t), ⟨args⟩, _⟩ => getK fr (.tmp t) fun s => match s with
    | .v (.func (.func f) ⟨fs⟩ ⟨cs⟩) => getsK fr bl args fun vs => VCcall P E f (fs ++ vs ++ cs) ⟨[], bl, R⟩ fun v bl R => putK n fr dst (.v v) fun fr => K ⟨fr, bl, R⟩
    | _ => VCraw P E n o ⟨fr, bl, R⟩ K
  | op => exP Γ op fr bl R (fun s => putK n fr dst s fun fr => K ⟨fr, bl, R⟩) (VCraw P E n o ⟨fr, bl, R⟩ K)

/-- the slot of the operation that a guard names -/
def guardSlot (ops : Array Oper) (j : Nat) : Option Nat := (ops[j]?).bind (·.dst)
def guardSlotL : List Oper → Nat → Option Nat
  | [], _ => none
  | o :: _, 0 => o.dst
  | _ :: r, i + 1 => guardSlotL r i

/-- ops: the whole region -/
def exOps (ops : List Oper) : List Oper → St → (St → Prop) → Prop
  | [], st, K => K st
  | o :: rest, st, K => match st with
    | ⟨fr, bl, R⟩ => match o.guard with
      | none => exOp P E Γ n o fr bl R fun st => exOps ops rest st K
      | some (j, want) => match guardSlotL ops j with
        | none => False
        | some d => match look fr d with
          | some (.b t) => match decide (t = want) with
            | true => exOp P E Γ n o fr bl R fun st => exOps ops rest st K
            | false => putK n fr o.dst (.v undef) fun fr => exOps ops rest ⟨fr, bl, R⟩ K
          | some (.v (.bool t)) => VCsplit t
              (match want with
                | true => exOp P E Γ n o ((d, .b true) :: fr) bl R fun st => exOps ops rest st K
                | false => putK n ((d, .b true) :: fr) o.dst (.v undef) fun fr => exOps ops rest ⟨fr, bl, R⟩ K)
              (match want with
                | true => putK n ((d, .b false) :: fr) o.dst (.v undef) fun fr => exOps ops rest ⟨fr, bl, R⟩ K
                | false => exOp P E Γ n o ((d, .b false) :: fr) bl R fun st => exOps ops rest st K)
          | some (.v (.tuple ⟨[]⟩)) => putK n fr o.dst (.v undef) fun fr => exOps ops rest ⟨fr, bl, R⟩ K
          | _ => False

def thenQ (next : St → Prop) (Q : Exit → St → Prop) (e : Exit) (st : St) : Prop :=
  match e with
  | .normal => next st
  | e => Q e st
def blockQ (id : Nat) (Q : Exit → St → Prop) (e : Exit) (st : St) : Prop :=
  match e with
  | .exit id' => match Nat.beq id' id with
    | true => Q .normal st
    | false => Q (.exit id') st
  | e => Q e st

/-- the frame with the slot of a test known -/
def know (fr : Fr) (c : Operand) (t : Bool) : Fr :=
  match c with
  | .tmp d => (d, .b t) :: fr
  | _ => fr

def exC : Code → St → (Exit → St → Prop) → Prop
  | .skip, st, Q => Q .normal st
  | .region id ops draw, st, Q => match draw with
    | false => match ops with
      | ⟨l⟩ => exOps P E Γ n l l st (Q .normal)
    | true => VCdraw P E n id ops st (Q .normal)
  | .seq a b, st, Q => exC a st (thenQ (fun st => exC b st Q) Q)
  | .cond c a b, st, Q => match st with
    | ⟨fr, bl, R⟩ => getK fr c fun s => match s with
      | .b true => exC a ⟨fr, bl, R⟩ Q
      | .b false => exC b ⟨fr, bl, R⟩ Q
      | .v (.bool t) => VCsplit t (exC a ⟨know fr c true, bl, R⟩ Q) (exC b ⟨know fr c false, bl, R⟩ Q)
      | _ => False
  | .block id b, st, Q => exC b st (blockQ id Q)
  | .loop b, st, Q => VCloop P E n b st Q
  | .exit id, st, Q => Q (.exit id) st
  | .ret, st, Q => Q .ret st
  | c, st, Q => VCcode P E n c st Q

end
end Go.SX
