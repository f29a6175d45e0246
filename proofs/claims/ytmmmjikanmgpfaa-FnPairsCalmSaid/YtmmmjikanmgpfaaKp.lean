/-
  What holds of a pair of links, whatever the net does; calm rounds. Plain. Conditions: none.
-/
import Derived.Test.YtmmmjikanmgpfaaKe
namespace Go.Proofs.Ytmmmjikanmgpfaa
open Go.SX Go.Proofs
set_option maxHeartbeats 1000000
set_option linter.unusedSectionVars false

/-! pairs; pt: a packet's text, rp: the packet of a text -/
section
variable (pt : Packet → ByteArray) (rp : ByteArray → Option Packet)
def endOf (p : Pair) (i : Nat) : Link := (p.ends[i]?).getD default
def heardOf (p : Pair) (i : Nat) : List ByteArray := (p.heard[i]?).getD []
def netAdd (net : List ByteArray) (x : Packet) : List ByteArray := if packOk x = true ∧ net.length < 200 then net ++ [pt x] else net
def tickP (p : Pair) (s : Nat) : Pair := { p with net := (linkPacks (endOf p s) 1 s (1 - (s : Int))).foldl (netAdd pt) p.net }
def deliver (p : Pair) (x : Packet) : Pair :=
  { p with ends := p.ends.set x.to.toNat (linkTake (endOf p x.to.toNat) x).1, heard := if (linkTake (endOf p x.to.toNat) x).2.size = 0 then p.heard else p.heard.set x.to.toNat (heardOf p x.to.toNat ++ [(linkTake (endOf p x.to.toNat) x).2]) }
def hear (p : Pair) (t : ByteArray) : Pair := match rp t with
  | none => p
  | some x => if x.to < 2 then deliver p x else p
end
/-- what holds of a pair whatever the net does -/
structure Inv (rp : ByteArray → Option Packet) (p : Pair) : Prop where
  two : p.ends.length = 2
  two' : p.heard.length = 2
  netLen : p.net.length ≤ 200
  ok : ∀ i, i < 2 → linkOk (endOf p i) = true
  heardIs : ∀ i, i < 2 → heardOf p i = (endOf p (1 - i)).sent.take (endOf p i).took.toNat
  tookLe : ∀ i, i < 2 → (endOf p i).took ≤ (endOf p (1 - i)).sent.length
  ackLe : ∀ i, i < 2 → (endOf p (1 - i)).acked ≤ (endOf p i).took
  netOk : ∀ t ∈ p.net, ∀ x, rp t = some x → x.to < 2 ∧ x.ack ≤ (endOf p (1 - x.to.toNat)).took ∧ (x.seq = 0 ∨ (1 ≤ x.seq ∧ x.seq ≤ (endOf p (1 - x.to.toNat)).sent.length ∧ x.body = ((endOf p (1 - x.to.toNat)).sent[x.seq.toNat - 1]?).getD .empty))
theorem endOf_set {p : Pair} {i j : Nat} {l : Link} {h : List (List ByteArray)} {n : List ByteArray} (hp : p.ends.length = 2) (hi : i < 2) : endOf { p with ends := p.ends.set i l, heard := h, net := n } j = if i = j then l else endOf p j := by
  unfold endOf; dsimp only
  rw [List.getElem?_set]
  split
  · rw [if_pos (by omega)]; rfl
  · rfl
/-- what a delivery does to the ends -/
theorem deliver_end {p : Pair} {x : Packet} (hp : p.ends.length = 2) (hx : x.to.toNat < 2) (j : Nat) : endOf (deliver p x) j = if x.to.toNat = j then (linkTake (endOf p x.to.toNat) x).1 else endOf p j := endOf_set hp hx
theorem take_le {l : Link} {x : Packet} : l.took ≤ (linkTake l x).1.took ∧ l.acked ≤ (linkTake l x).1.acked ∧ (linkTake l x).1.sent = l.sent := by
  unfold linkTake
  split
  · dsimp only
    refine ⟨?_, ?_, rfl⟩
    · split <;> omega
    · split <;> omega
  · exact ⟨Int.le_refl _, Int.le_refl _, rfl⟩
theorem heard_set {p : Pair} {i j : Nat} {h : List ByteArray} {e : List Link} {n : List ByteArray} (hp : p.heard.length = 2) (hi : i < 2) : heardOf { p with ends := e, heard := p.heard.set i h, net := n } j = if i = j then h else heardOf p j := by
  unfold heardOf; dsimp only
  rw [List.getElem?_set]
  split
  · rw [if_pos (by omega)]; rfl
  · rfl
theorem take_next {α : Type} (xs : List α) (k : Nat) (z : α) (h : k < xs.length) : xs.take k ++ [(xs[k]?).getD z] = xs.take (k + 1) := by
  rw [List.getElem?_eq_getElem h]; exact List.take_append_getElem h
theorem deliver_heard {p : Pair} {x : Packet} (hp : p.heard.length = 2) (hx : x.to.toNat < 2) (j : Nat) : heardOf (deliver p x) j = if (linkTake (endOf p x.to.toNat) x).2.size = 0 then heardOf p j else if x.to.toNat = j then heardOf p x.to.toNat ++ [(linkTake (endOf p x.to.toNat) x).2] else heardOf p j := by
  unfold deliver
  split
  · rfl
  · exact heard_set hp hx
/-- a packet that the other end may have sent -/
def Fits (p : Pair) (x : Packet) : Prop := x.to < 2 ∧ x.ack ≤ (endOf p (1 - x.to.toNat)).took ∧ (x.seq = 0 ∨ (1 ≤ x.seq ∧ x.seq ≤ (endOf p (1 - x.to.toNat)).sent.length ∧ x.body = ((endOf p (1 - x.to.toNat)).sent[x.seq.toNat - 1]?).getD .empty))
theorem deliver_inv {rp : ByteArray → Option Packet} {p : Pair} {x : Packet} (hI : Inv rp p) (hx : packOk x = true) (hf : Fits p x) : Inv rp (deliver p x) := by
  have hx2 := packOk_iff.1 hx
  obtain ⟨hto, hack, hseq⟩ := hf
  have hi : x.to.toNat < 2 := by omega
  have ht := take_le (l := endOf p x.to.toNat) (x := x)
  have he := deliver_end hI.two hi
  have hok := hI.ok _ hi
  have hok2 := linkOk_iff.1 hok
  have hT := hI.tookLe _ hi
  have hH := hI.heardIs _ hi
  have hA : (endOf p x.to.toNat).acked ≤ (endOf p (1 - x.to.toNat)).took := by
    have := hI.ackLe (1 - x.to.toNat) (by omega)
    rwa [show 1 - (1 - x.to.toNat) = x.to.toNat by omega] at this
  have hS : ∀ j, (endOf (deliver p x) j).sent = (endOf p j).sent := fun j => by
    rw [he]; split
    · rename_i e; rw [ht.2.2, e]
    · rfl
  have hK : ∀ j, (endOf p j).took ≤ (endOf (deliver p x) j).took := fun j => by
    rw [he]; split
    · rename_i e; rw [← e]; exact ht.1
    · exact Int.le_refl _
  -- what is taken
  have hr : linkTake (endOf p x.to.toNat) x = (⟨(endOf p x.to.toNat).sent, if (endOf p x.to.toNat).acked < x.ack ∧ x.ack ≤ (endOf p x.to.toNat).sent.length then x.ack else (endOf p x.to.toNat).acked, if x.seq = (endOf p x.to.toNat).took + 1 then x.seq else (endOf p x.to.toNat).took⟩, if x.seq = (endOf p x.to.toNat).took + 1 then x.body else .empty) := by
    unfold linkTake; rw [hok, hx]; rfl
  have hb : x.seq = (endOf p x.to.toNat).took + 1 → x.body.size ≠ 0 ∧ x.seq ≤ (endOf p (1 - x.to.toNat)).sent.length ∧ x.body = ((endOf p (1 - x.to.toNat)).sent[(endOf p x.to.toNat).took.toNat]?).getD .empty := by
    intro e
    have h0 : ¬ x.seq = 0 := by omega
    have h1 := hx2.2.2.2.2.2.2.2.2.2.2.2
    rw [if_neg h0] at h1
    rcases hseq with h2 | ⟨_, h2, h3⟩
    · exact absurd h2 h0
    · refine ⟨?_, h2, ?_⟩
      · unfold bodyOk at h1; simp at h1; omega
      · rw [h3, show x.seq.toNat - 1 = (endOf p x.to.toNat).took.toNat by omega]
  have hTook : (endOf (deliver p x) x.to.toNat).took = if x.seq = (endOf p x.to.toNat).took + 1 then x.seq else (endOf p x.to.toNat).took := by
    rw [he, if_pos rfl, hr]
  constructor
  · show (p.ends.set _ _).length = 2
    rw [List.length_set]; exact hI.two
  · show (if _ then p.heard else p.heard.set _ _).length = 2
    split
    · exact hI.two'
    · rw [List.length_set]; exact hI.two'
  · exact hI.netLen
  · intro j hj
    rw [he]; split
    · rw [linkOk_iff, hr]
      dsimp only
      refine ⟨hok2.1, ?_, ?_, ?_, ?_, hok2.2.2.2.2.2⟩
      · split <;> omega
      · split <;> omega
      · split <;> omega
      · split <;> omega
    · exact hI.ok j hj
  · intro j hj
    rw [hS]
    by_cases hji : x.to.toNat = j
    · subst hji
      rw [hTook]
      by_cases e : x.seq = (endOf p x.to.toNat).took + 1
      · have hb := hb e
        have e2 : heardOf (deliver p x) x.to.toNat = heardOf p x.to.toNat ++ [x.body] := by
          rw [deliver_heard hI.two' hi, hr]
          dsimp only
          rw [if_pos e, if_neg hb.1, if_pos rfl]
        rw [e2, if_pos e, hH, hb.2.2, show x.seq.toNat = (endOf p x.to.toNat).took.toNat + 1 by omega]
        exact take_next _ _ _ (by omega)
      · rw [if_neg e, ← hH, deliver_heard hI.two' hi, hr]
        dsimp only
        rw [if_neg e, if_pos rfl, if_pos (show ByteArray.empty.size = 0 from rfl)]
    · have e2 : heardOf (deliver p x) j = heardOf p j := by
        rw [deliver_heard hI.two' hi, if_neg hji, ite_self]
      rw [e2, hI.heardIs j hj, he, if_neg hji]
  · intro j hj
    rw [hS]
    by_cases hji : x.to.toNat = j
    · subst hji
      rw [hTook]; split
      · exact (hb ‹_›).2.1
      · exact hT
    · rw [he, if_neg hji]; exact hI.tookLe j hj
  · intro j hj
    have h1 := hI.ackLe j hj
    have h2 := hK j
    by_cases hji : x.to.toNat = 1 - j
    · rw [he, if_pos hji, hr]
      dsimp only
      have h3 : endOf p x.to.toNat = endOf p (1 - j) := by rw [hji]
      rw [show 1 - x.to.toNat = j by omega] at hack
      rw [h3]
      split <;> omega
    · rw [he, if_neg hji]; omega
  · intro t ht x' hx'
    obtain ⟨h1, h2, h3⟩ := hI.netOk t ht x' hx'
    have := hK (1 - x'.to.toNat)
    exact ⟨h1, by omega, by rw [hS]; exact h3⟩
/-! the net -/
theorem Inv.net {rp : ByteArray → Option Packet} {p : Pair} (hI : Inv rp p) (net : List ByteArray) (h1 : net.length ≤ 200) (h2 : ∀ t ∈ net, ∀ x, rp t = some x → Fits p x) : Inv rp { p with net := net } :=
  ⟨hI.two, hI.two', h1, hI.ok, hI.heardIs, hI.tookLe, hI.ackLe, h2⟩
theorem Inv.codes {rp : ByteArray → Option Packet} {p : Pair} (hI : Inv rp p) (c : List Int) : Inv rp { p with codes := c } :=
  ⟨hI.two, hI.two', hI.netLen, hI.ok, hI.heardIs, hI.tookLe, hI.ackLe, hI.netOk⟩
theorem packs_fit {p : Pair} {s : Nat} (hs : s < 2) (hok : linkOk (endOf p s) = true) {x : Packet} (hx : x ∈ linkPacks (endOf p s) 1 s (1 - (s : Int))) : packOk x = true ∧ Fits p x := by
  unfold linkPacks at hx
  split at hx
  · rename_i h
    rw [Bool.and_eq_true] at h
    refine ⟨List.all_eq_true.1 h.2 x hx, ?_⟩
    have h2 := linkOk_iff.1 hok
    unfold packs at hx
    split at hx
    · rw [List.mem_map] at hx
      obtain ⟨i, hi, rfl⟩ := hx
      rw [List.mem_range] at hi
      have e : 1 - (1 - (s : Int)).toNat = s := by omega
      refine ⟨by show (1 - (s : Int)) < 2; omega, ?_, .inr ⟨?_, ?_, ?_⟩⟩
      · show (endOf p s).took ≤ (endOf p (1 - (1 - (s : Int)).toNat)).took
        rw [e]; exact Int.le_refl _
      · show 1 ≤ (((endOf p s).acked.toNat + i : Nat) : Int) + 1
        omega
      · show (((endOf p s).acked.toNat + i : Nat) : Int) + 1 ≤ _
        show _ ≤ (((endOf p (1 - (1 - (s : Int)).toNat)).sent.length : Nat) : Int)
        rw [e]; omega
      · show ((endOf p s).sent[(endOf p s).acked.toNat + i]?).getD .empty = ((endOf p (1 - (1 - (s : Int)).toNat)).sent[((((endOf p s).acked.toNat + i : Nat) : Int) + 1).toNat - 1]?).getD .empty
        rw [e, show ((((endOf p s).acked.toNat + i : Nat) : Int) + 1).toNat - 1 = (endOf p s).acked.toNat + i by omega]
    · split at hx
      · rw [List.mem_singleton] at hx
        subst hx
        have e : 1 - (1 - (s : Int)).toNat = s := by omega
        refine ⟨by show (1 - (s : Int)) < 2; omega, ?_, .inl rfl⟩
        show (endOf p s).took ≤ (endOf p (1 - (1 - (s : Int)).toNat)).took
        rw [e]; exact Int.le_refl _
      · cases hx
  · cases hx
theorem Inv.add {pt : Packet → ByteArray} {rp : ByteArray → Option Packet} (hpt : ∀ x, packOk x = true → rp (pt x) = some x) {p : Pair} (hI : Inv rp p) : ∀ (L : List Packet), (∀ x ∈ L, packOk x = true ∧ Fits p x) → Inv rp { p with net := L.foldl (netAdd pt) p.net } := by
  intro L
  suffices h : ∀ net, net.length ≤ 200 → (∀ t ∈ net, ∀ x, rp t = some x → Fits p x) → (∀ x ∈ L, packOk x = true ∧ Fits p x) → (L.foldl (netAdd pt) net).length ≤ 200 ∧ ∀ t ∈ L.foldl (netAdd pt) net, ∀ x, rp t = some x → Fits p x by
    intro hL
    obtain ⟨h1, h2⟩ := h p.net hI.netLen hI.netOk hL
    exact hI.net _ h1 h2
  induction L with
  | nil => intro net h1 h2 _; exact ⟨h1, h2⟩
  | cons y L ih =>
    intro net h1 h2 hL
    have hy := hL y (by simp)
    refine ih (netAdd pt net y) ?_ ?_ fun x hx => hL x (by simp [hx])
    · unfold netAdd; split
      · rw [List.length_append, List.length_singleton]; omega
      · exact h1
    · unfold netAdd; split
      · intro t ht x hx
        rw [List.mem_append, List.mem_singleton] at ht
        rcases ht with ht | rfl
        · exact h2 t ht x hx
        · rw [hpt y hy.1] at hx; cases hx; exact hy.2
      · exact h2
theorem tick_inv {pt : Packet → ByteArray} {rp : ByteArray → Option Packet} (hpt : ∀ x, packOk x = true → rp (pt x) = some x) {p : Pair} (hI : Inv rp p) {s : Nat} (hs : s < 2) : Inv rp (tickP pt p s) :=
  hI.add hpt _ fun _ hx => packs_fit hs (hI.ok s hs) hx
theorem hear_inv {rp : ByteArray → Option Packet} (hrp : ∀ t x, rp t = some x → packOk x = true) {p : Pair} (hI : Inv rp p) {t : ByteArray} (ht : ∀ x, rp t = some x → Fits p x) : Inv rp (hear rp p t) := by
  unfold hear
  split
  · exact hI
  · rename_i x hx
    have hf := ht x hx
    rw [if_pos hf.1]
    exact deliver_inv hI (hrp t x hx) hf
/-- a text more to be sent -/
def putP (p : Pair) (s : Nat) (t : ByteArray) : Pair := { p with ends := p.ends.set s ⟨(endOf p s).sent ++ [t], (endOf p s).acked, (endOf p s).took⟩ }
theorem put_inv {rp : ByteArray → Option Packet} {p : Pair} (hI : Inv rp p) {s : Nat} (hs : s < 2) {t : ByteArray} (ht : bodyOk t = true) (hl : (endOf p s).sent.length < 200) : Inv rp (putP p s t) := by
  have he : ∀ j, endOf (putP p s t) j = if s = j then ⟨(endOf p s).sent ++ [t], (endOf p s).acked, (endOf p s).took⟩ else endOf p j := fun j => endOf_set hI.two hs
  have hS : ∀ j, ∃ m, (endOf (putP p s t) j).sent = (endOf p j).sent ++ m := fun j => by
    rw [he]; split
    · rename_i e; rw [← e]; exact ⟨[t], rfl⟩
    · exact ⟨[], (List.append_nil _).symm⟩
  have hT : ∀ j, (endOf (putP p s t) j).took = (endOf p j).took := fun j => by
    rw [he]; split
    · rename_i e; rw [← e]
    · rfl
  have hA : ∀ j, (endOf (putP p s t) j).acked = (endOf p j).acked := fun j => by
    rw [he]; split
    · rename_i e; rw [← e]
    · rfl
  have hL : ∀ j, (endOf p j).sent.length ≤ (endOf (putP p s t) j).sent.length := fun j => by
    obtain ⟨m, hm⟩ := hS j
    rw [hm, List.length_append]; omega
  constructor
  · show (p.ends.set _ _).length = 2
    rw [List.length_set]; exact hI.two
  · exact hI.two'
  · exact hI.netLen
  · intro j hj
    rw [he]; split
    · have h := linkOk_iff.1 (hI.ok s hs)
      rw [linkOk_iff]
      simp only [List.length_append, List.length_singleton, List.mem_append, List.mem_singleton]
      refine ⟨by omega, by omega, by omega, by omega, by omega, ?_⟩
      rintro z (hz | rfl)
      · exact h.2.2.2.2.2 z hz
      · exact ht
    · exact hI.ok j hj
  · intro j hj
    obtain ⟨m, hm⟩ := hS (1 - j)
    have h1 := hI.tookLe j hj
    show heardOf p j = _
    rw [hm, hT, hI.heardIs j hj, List.take_append_of_le_length (by omega)]
  · intro j hj
    have := hI.tookLe j hj
    have := hL (1 - j)
    rw [hT]; omega
  · intro j hj
    rw [hA, hT]; exact hI.ackLe j hj
  · intro t' ht' x hx
    obtain ⟨h1, h2, h3⟩ := hI.netOk t' ht' x hx
    refine ⟨h1, by rw [hT]; exact h2, ?_⟩
    rcases h3 with h3 | ⟨h0, h3, h4⟩
    · exact .inl h3
    · have := hL (1 - x.to.toNat)
      refine .inr ⟨h0, by omega, ?_⟩
      obtain ⟨m, hm⟩ := hS (1 - x.to.toNat)
      rw [hm, h4, List.getElem?_append_left (by omega)]

/-! calm rounds -/
def drain (rp : ByteArray → Option Packet) (L : List ByteArray) (p : Pair) : Pair := L.foldl (hear rp) p
structure Grow (p q : Pair) : Prop where
  sent : ∀ j, (endOf q j).sent = (endOf p j).sent
  took : ∀ j, (endOf p j).took ≤ (endOf q j).took
  acked : ∀ j, (endOf p j).acked ≤ (endOf q j).acked
theorem Grow.refl (p : Pair) : Grow p p := ⟨fun _ => rfl, fun _ => Int.le_refl _, fun _ => Int.le_refl _⟩
theorem Grow.trans {p q r : Pair} (h : Grow p q) (h2 : Grow q r) : Grow p r :=
  ⟨fun j => (h2.sent j).trans (h.sent j), fun j => Int.le_trans (h.took j) (h2.took j), fun j => Int.le_trans (h.acked j) (h2.acked j)⟩
theorem deliver_grow {p : Pair} {x : Packet} (hp : p.ends.length = 2) (hx : x.to.toNat < 2) : Grow p (deliver p x) := by
  have ht := take_le (l := endOf p x.to.toNat) (x := x)
  have he := deliver_end hp hx
  refine ⟨fun j => ?_, fun j => ?_, fun j => ?_⟩ <;> rw [he] <;> split
  · rename_i e; rw [← e]; exact ht.2.2
  · rfl
  · rename_i e; rw [← e]; exact ht.1
  · exact Int.le_refl _
  · rename_i e; rw [← e]; exact ht.2.1
  · exact Int.le_refl _
theorem Fits.grow {p q : Pair} {x : Packet} (h : Fits p x) (hg : Grow p q) : Fits q x := by
  obtain ⟨h1, h2, h3⟩ := h
  have := hg.took (1 - x.to.toNat)
  refine ⟨h1, by omega, ?_⟩
  rw [hg.sent]; exact h3
theorem hear_none {rp : ByteArray → Option Packet} {p : Pair} {t : ByteArray} (h : rp t = none) : hear rp p t = p := by unfold hear; rw [h]
theorem hear_some {rp : ByteArray → Option Packet} {p : Pair} {t : ByteArray} {x : Packet} (h : rp t = some x) (h2 : x.to < 2) : hear rp p t = deliver p x := by unfold hear; rw [h]; exact if_pos h2
/-- a text heard: what holds goes on to hold, and everything grows -/
theorem hear_step {rp : ByteArray → Option Packet} (hrp : ∀ t x, rp t = some x → packOk x = true) {p : Pair} {t : ByteArray} {L : List ByteArray} (hI : Inv rp { p with net := t :: L }) : Inv rp { hear rp p t with net := L } ∧ Grow p (hear rp p t) := by
  have hF := hI.netOk t (by simp)
  have hI2 : Inv rp { p with net := L } := hI.net L (by have := hI.netLen; simp at this; omega) fun t ht x hx => hI.netOk t (by simp [ht]) x hx
  cases h : rp t with
  | none => rw [hear_none h]; exact ⟨hI2, .refl p⟩
  | some x =>
    have hf := hF x h
    have hto := packOk_iff.1 (hrp t x h)
    rw [hear_some h hf.1]
    exact ⟨deliver_inv hI2 (hrp t x h) hf, deliver_grow hI.two (by have := hf.1; omega)⟩
theorem drain_step {rp : ByteArray → Option Packet} (hrp : ∀ t x, rp t = some x → packOk x = true) : ∀ (L M : List ByteArray) {p : Pair}, Inv rp { p with net := L ++ M } → Inv rp { drain rp L p with net := M } ∧ Grow p (drain rp L p)
  | [], M, p, h => ⟨h, .refl p⟩
  | t :: L, M, p, h => by
    obtain ⟨h1, h2⟩ := hear_step hrp h
    obtain ⟨h3, h4⟩ := drain_step hrp L M h1
    exact ⟨h3, h2.trans h4⟩
/-- what is acknowledged when a packet has been heard -/
theorem hear_ack {rp : ByteArray → Option Packet} (hrp : ∀ t x, rp t = some x → packOk x = true) {p : Pair} {t : ByteArray} {L : List ByteArray} (hI : Inv rp { p with net := t :: L }) {x : Packet} (hx : rp t = some x) : x.ack ≤ (endOf (hear rp p t) x.to.toNat).acked ∧ (∀ a : Int, x.seq = a + 1 → a ≤ (endOf p x.to.toNat).took → a + 1 ≤ (endOf (hear rp p t) x.to.toNat).took) := by
  have hf := hI.netOk t (by simp) x hx
  have hto := packOk_iff.1 (hrp t x hx)
  have hi : x.to.toNat < 2 := by have := hf.1; omega
  have hT := hI.tookLe (1 - x.to.toNat) (by omega)
  rw [show 1 - (1 - x.to.toNat) = x.to.toNat by omega] at hT
  have hA : x.ack ≤ (endOf p (1 - x.to.toNat)).took := hf.2.1
  have hT : (endOf p (1 - x.to.toNat)).took ≤ (endOf p x.to.toNat).sent.length := hT
  have hok : linkOk (endOf p x.to.toNat) = true := hI.ok _ hi
  have h2e : p.ends.length = 2 := hI.two
  rw [hear_some hx hf.1, deliver_end h2e hi, if_pos rfl]
  unfold linkTake
  rw [hok, hrp t x hx]
  refine ⟨?_, fun a h1 h2 => ?_⟩
  · show x.ack ≤ if _ then _ else _
    split <;> omega
  · show a + 1 ≤ if _ then _ else _
    split <;> omega
/-- an acknowledgement on the net arrives -/
theorem drain_ack {rp : ByteArray → Option Packet} (hrp : ∀ t x, rp t = some x → packOk x = true) {t : ByteArray} {x : Packet} (hx : rp t = some x) : ∀ (L : List ByteArray) {p : Pair}, t ∈ L → Inv rp { p with net := L } → x.ack ≤ (endOf (drain rp L p) x.to.toNat).acked
  | [], _, h, _ => by cases h
  | u :: L, p, h, hI => by
    have h1 := hear_step hrp hI
    rcases List.mem_cons.1 h with rfl | h2
    · have h3 := (hear_ack hrp hI hx).1
      have h4 := (drain_step hrp L [] (p := hear rp p t) (by rw [List.append_nil]; exact h1.1)).2.acked x.to.toNat
      exact Int.le_trans h3 h4
    · exact drain_ack hrp hx L (p := hear rp p u) h2 h1.1
/-- texts on the net in a row are taken in a row -/
theorem drain_seq {pt : Packet → ByteArray} {rp : ByteArray → Option Packet} (hrp : ∀ t x, rp t = some x → packOk x = true) {i : Nat} : ∀ {xs : List Packet} {L : List ByteArray}, (xs.map pt).Sublist L → ∀ {p : Pair} {a : Int}, Inv rp { p with net := L } → (∀ x ∈ xs, rp (pt x) = some x ∧ x.to.toNat = i) → (∀ (k : Nat) (x : Packet), xs[k]? = some x → x.seq = a + k + 1) → a ≤ (endOf p i).took → a + xs.length ≤ (endOf (drain rp L p) i).took := by
  intro xs L h
  generalize e : xs.map pt = ys at h
  induction h generalizing xs with
  | slnil =>
    intro p a _ _ _ ha
    cases xs with
    | nil => show a + ((0 : Nat) : Int) ≤ (endOf p i).took; omega
    | cons _ _ => cases e
  | cons u _ ih =>
    intro p a hI h1 h2 ha
    have h3 := hear_step hrp hI
    have := h3.2.took i
    exact ih e (p := hear rp p u) h3.1 h1 h2 (by omega)
  | cons_cons u _ ih =>
    intro p a hI h1 h2 ha
    cases xs with
    | nil => cases e
    | cons x xs =>
      rw [List.map_cons, List.cons.injEq] at e
      obtain ⟨rfl, e⟩ := e
      have h3 := hear_step hrp hI
      have hx := h1 x (by simp)
      have h4 := (hear_ack hrp hI hx.1).2 a (by have := h2 0 x rfl; simpa using this) (by rw [hx.2]; exact ha)
      rw [hx.2] at h4
      have h5 := ih e (p := hear rp p (pt x)) (a := a + 1) h3.1 (fun y hy => h1 y (by simp [hy])) (fun k y hk => by have := h2 (k + 1) y (by simpa using hk); push_cast at this; omega) h4
      rw [List.length_cons]; push_cast
      show a + (xs.length + 1) ≤ (endOf (drain rp _ (hear rp p (pt x))) i).took
      omega
/-! a round -/
theorem all_packs {l : Link} {s : Nat} (hs : s < 2) (h : linkOk l = true) : (packs l 1 s (1 - (s : Int))).all packOk = true := by
  have h2 := linkOk_iff.1 h
  rw [List.all_eq_true]
  intro x hx
  unfold packs at hx
  split at hx
  · rw [List.mem_map] at hx
    obtain ⟨i, hi, rfl⟩ := hx
    rw [List.mem_range] at hi
    rw [packOk_iff]
    unfold packAt
    dsimp only
    refine ⟨by omega, by omega, by omega, by omega, by omega, by omega, by omega, by omega, by omega, by omega, by omega, ?_⟩
    rw [if_neg (by omega)]
    have h3 : l.acked.toNat + i < l.sent.length := by omega
    rw [List.getElem?_eq_getElem h3]
    exact h2.2.2.2.2.2 _ (List.getElem_mem h3)
  · split at hx
    · rw [List.mem_singleton] at hx
      subst hx
      rw [packOk_iff]
      dsimp only
      refine ⟨by omega, by omega, by omega, by omega, by omega, by omega, by omega, by omega, by omega, by omega, by omega, ?_⟩
      rw [if_pos rfl]; rfl
    · cases hx
theorem linkPacks_eq {l : Link} {s : Nat} (hs : s < 2) (h : linkOk l = true) : linkPacks l 1 s (1 - (s : Int)) = packs l 1 s (1 - (s : Int)) := by
  unfold linkPacks; rw [h, all_packs hs h]; rfl
theorem add_room {pt : Packet → ByteArray} : ∀ (L : List Packet) (net : List ByteArray), (∀ x ∈ L, packOk x = true) → net.length + L.length ≤ 200 → L.foldl (netAdd pt) net = net ++ L.map pt
  | [], net, _, _ => by simp
  | x :: L, net, h, hl => by
    rw [List.length_cons] at hl
    have e : netAdd pt net x = net ++ [pt x] := by unfold netAdd; rw [if_pos ⟨h x (by simp), by omega⟩]
    rw [List.foldl_cons, e, add_room L _ (fun y hy => h y (by simp [hy])) (by rw [List.length_append, List.length_singleton]; omega), List.map_cons, List.append_assoc, List.singleton_append]
def roundP (pt : Packet → ByteArray) (rp : ByteArray → Option Packet) (p : Pair) : Pair :=
  { drain rp (tickP pt (tickP pt p 0) 1).net p with net := [] }
section
variable {pt : Packet → ByteArray} {rp : ByteArray → Option Packet} (hpt : ∀ x, packOk x = true → rp (pt x) = some x) (hrp : ∀ t x, rp t = some x → packOk x = true)
include hpt hrp
theorem round_inv {p : Pair} (hI : Inv rp p) : Inv rp (roundP pt rp p) ∧ Grow p (roundP pt rp p) := by
  have h1 := tick_inv hpt (tick_inv hpt hI (s := 0) (by omega)) (s := 1) (by omega)
  have h2 := drain_step hrp (tickP pt (tickP pt p 0) 1).net [] (p := p) (by rw [List.append_nil]; exact h1)
  exact ⟨h2.1, h2.2.sent, h2.2.took, h2.2.acked⟩
/-- the net of a round that has room -/
theorem round_net {p : Pair} (hI : Inv rp p) (hr : p.net.length ≤ 194) : (tickP pt (tickP pt p 0) 1).net = p.net ++ (packs (endOf p 0) 1 0 1).map pt ++ (packs (endOf p 1) 1 1 0).map pt := by
  have e0 : linkPacks (endOf p 0) 1 ((0 : Nat) : Int) (1 - ((0 : Nat) : Int)) = packs (endOf p 0) 1 0 1 := linkPacks_eq (by omega) (hI.ok 0 (by omega))
  have e1 : linkPacks (endOf p 1) 1 ((1 : Nat) : Int) (1 - ((1 : Nat) : Int)) = packs (endOf p 1) 1 1 0 := linkPacks_eq (by omega) (hI.ok 1 (by omega))
  have l0 := packs_len (endOf p 0) 1 0 1
  have l1 := packs_len (endOf p 1) 1 1 0
  have a0 : (tickP pt p 0).net = p.net ++ (packs (endOf p 0) 1 0 1).map pt := by
    show (linkPacks (endOf p 0) 1 ((0 : Nat) : Int) (1 - ((0 : Nat) : Int))).foldl (netAdd pt) p.net = _
    rw [e0]
    exact add_room _ _ (List.all_eq_true.1 (all_packs (s := 0) (by omega) (hI.ok 0 (by omega)))) (by omega)
  show (linkPacks (endOf p 1) 1 ((1 : Nat) : Int) (1 - ((1 : Nat) : Int))).foldl (netAdd pt) (tickP pt p 0).net = _
  rw [e1, a0]
  exact add_room _ _ (List.all_eq_true.1 (all_packs (s := 1) (by omega) (hI.ok 1 (by omega)))) (by rw [List.length_append, List.length_map]; omega)
theorem round_sub {p : Pair} (hI : Inv rp p) (hr : p.net.length ≤ 194) {s : Nat} (hs : s < 2) : ((packs (endOf p s) 1 s (1 - (s : Int))).map pt).Sublist (tickP pt (tickP pt p 0) 1).net := by
  rw [round_net hpt hrp hI hr]
  rcases (by omega : s = 0 ∨ s = 1) with rfl | rfl
  · exact (List.sublist_append_right _ _).trans (List.sublist_append_left _ _)
  · exact List.sublist_append_right _ _
/-- what a round with room does: side s's packets are taken, and what s has taken is acknowledged -/
theorem round_go {p : Pair} (hI : Inv rp p) (hr : p.net.length ≤ 194) {s : Nat} (hs : s < 2) :
    min ((endOf p s).sent.length : Int) ((endOf p s).acked + 3) ≤ (endOf (roundP pt rp p) (1 - s)).took ∧ (endOf p s).took ≤ (endOf (roundP pt rp p) (1 - s)).acked := by
  have h1 := tick_inv hpt (tick_inv hpt hI (s := 0) (by omega)) (s := 1) (by omega)
  have hsub := round_sub hpt hrp hI hr hs
  have hok := hI.ok s hs
  have hok2 := linkOk_iff.1 hok
  have hall := List.all_eq_true.1 (all_packs (s := s) hs hok)
  have hg := (round_inv hpt hrp hI).2
  have hal : (endOf p s).acked ≤ (endOf p (1 - s)).took := by
    have := hI.ackLe (1 - s) (by omega)
    rwa [show 1 - (1 - s) = s by omega] at this
  have hE : ∀ j, endOf (roundP pt rp p) j = endOf (drain rp (tickP pt (tickP pt p 0) 1).net p) j := fun _ => rfl
  have hI' : Inv rp { p with net := (tickP pt (tickP pt p 0) 1).net } := h1
  constructor
  · by_cases h2 : (endOf p s).acked < (endOf p s).sent.length
    · have h3 : packs (endOf p s) 1 s (1 - (s : Int)) = (List.range (min 3 ((endOf p s).sent.length - (endOf p s).acked.toNat))).map fun i => packAt (endOf p s) 1 s (1 - (s : Int)) ((endOf p s).acked.toNat + i) := by unfold packs; rw [if_pos h2]
      have h4 := drain_seq hrp (i := 1 - s) hsub (p := p) (a := (endOf p s).acked) hI' (fun x hx => ⟨hpt x (hall x hx), by
        rw [h3, List.mem_map] at hx
        obtain ⟨i, _, rfl⟩ := hx
        show (1 - (s : Int)).toNat = 1 - s
        omega⟩) (fun k x hk => by
        rw [h3, List.getElem?_map] at hk
        cases hr : (List.range (min 3 ((endOf p s).sent.length - (endOf p s).acked.toNat)))[k]? with
        | none => rw [hr] at hk; cases hk
        | some i =>
          rw [hr] at hk
          obtain ⟨hk2, e⟩ := List.getElem?_eq_some_iff.1 hr
          rw [List.getElem_range] at e
          subst e
          cases hk
          show (((endOf p s).acked.toNat + k : Nat) : Int) + 1 = (endOf p s).acked + k + 1
          omega) hal
      rw [h3, List.length_map, List.length_range] at h4
      rw [hE]
      omega
    · have := hg.took (1 - s)
      omega
  · by_cases h2 : (endOf p s).took = 0
    · have h3 := linkOk_iff.1 (hI.ok (1 - s) (by omega))
      have := hg.acked (1 - s)
      omega
    · have h3 : ∃ x, x ∈ packs (endOf p s) 1 s (1 - (s : Int)) ∧ x.ack = (endOf p s).took ∧ x.to.toNat = 1 - s := by
        unfold packs
        split
        · refine ⟨packAt (endOf p s) 1 s (1 - (s : Int)) ((endOf p s).acked.toNat + 0), List.mem_map.2 ⟨0, List.mem_range.2 (by omega), rfl⟩, rfl, ?_⟩
          show (1 - (s : Int)).toNat = 1 - s
          omega
        · rw [if_pos (by omega)]
          refine ⟨_, List.mem_singleton.2 rfl, rfl, ?_⟩
          show (1 - (s : Int)).toNat = 1 - s
          omega
      obtain ⟨x, hx, hxa, hxt⟩ := h3
      have h4 := drain_ack hrp (hpt x (hall x hx)) (tickP pt (tickP pt p 0) 1).net (p := p) (hsub.subset (List.mem_map.2 ⟨x, hx, rfl⟩)) hI'
      rw [hxa, hxt] at h4
      exact h4
/-- two rounds bring each side's acknowledgements on by three -/
theorem round_two {p : Pair} (hI : Inv rp p) (hr : p.net.length ≤ 194) {s : Nat} (hs : s < 2) : min ((endOf p s).sent.length : Int) ((endOf p s).acked + 3) ≤ (endOf (roundP pt rp (roundP pt rp p)) s).acked := by
  have h1 := round_inv hpt hrp hI
  have h2 := (round_go hpt hrp h1.1 (by show ([] : List ByteArray).length ≤ 194; simp) (s := 1 - s) (by omega)).2
  rw [show 1 - (1 - s) = s by omega] at h2
  exact Int.le_trans (round_go hpt hrp hI hr hs).1 h2
def rounds (pt : Packet → ByteArray) (rp : ByteArray → Option Packet) : Nat → Pair → Pair
  | 0, p => p
  | n + 1, p => rounds pt rp n (roundP pt rp p)
theorem rounds_inv : ∀ (n : Nat) {p : Pair}, Inv rp p → Inv rp (rounds pt rp n p) ∧ Grow p (rounds pt rp n p)
  | 0, p, h => ⟨h, .refl p⟩
  | n + 1, p, h => by
    have h1 := round_inv hpt hrp h
    have h2 := rounds_inv n h1.1
    exact ⟨h2.1, h1.2.trans h2.2⟩
theorem rounds_far : ∀ (n : Nat) {p : Pair} {s : Nat} (k : Int), Inv rp p → p.net.length ≤ 194 → s < 2 → min ((endOf p s).sent.length : Int) k ≤ (endOf p s).acked → min ((endOf p s).sent.length : Int) (k + 3 * n) ≤ (endOf (rounds pt rp (2 * n) p) s).acked
  | 0, p, s, k, hI, hr, hs, h => by
    show _ ≤ (endOf p s).acked
    omega
  | n + 1, p, s, k, hI, hr, hs, h => by
    have h1 := round_inv hpt hrp hI
    have h2 := round_inv hpt hrp h1.1
    have h3 := round_two hpt hrp hI hr hs
    have h4 := rounds_far n (p := roundP pt rp (roundP pt rp p)) (s := s) (k + 3) h2.1 (by show ([] : List ByteArray).length ≤ 194; simp) hs (by
      rw [h2.2.sent, h1.2.sent]; omega)
    rw [h2.2.sent, h1.2.sent] at h4
    show _ ≤ (endOf (rounds pt rp (2 * n) (roundP pt rp (roundP pt rp p))) s).acked
    omega
/-- sixty calm rounds bring all, if at most 87 texts were sent a side -/
theorem calm_all {p : Pair} (hI : Inv rp p) {s : Nat} (hs : s < 2) (hl : (endOf p s).sent.length ≤ 87) : (endOf (rounds pt rp 60 p) s).acked = (endOf p s).sent.length ∧ (endOf (rounds pt rp 60 p) s).sent = (endOf p s).sent ∧ heardOf (rounds pt rp 60 p) (1 - s) = (endOf p s).sent := by
  have h1 := round_inv hpt hrp hI
  have h2 := rounds_inv hpt hrp 60 hI
  have h0 : 0 ≤ (endOf (roundP pt rp p) s).acked := (linkOk_iff.1 (h1.1.ok s hs)).2.1
  have h3 := rounds_far hpt hrp 29 (p := roundP pt rp p) (s := s) 0 h1.1 (by show ([] : List ByteArray).length ≤ 194; simp) hs (by omega)
  have h4 := rounds_inv hpt hrp 58 (p := roundP pt rp p) h1.1
  have h5 := round_inv hpt hrp h4.1
  have e : ∀ n (q : Pair), rounds pt rp (n + 1) q = roundP pt rp (rounds pt rp n q) := by
    intro n
    induction n with
    | zero => intro q; rfl
    | succ n ih => intro q; exact ih (roundP pt rp q)
  have e60 : rounds pt rp 60 p = roundP pt rp (rounds pt rp 58 (roundP pt rp p)) := e 58 (roundP pt rp p)
  have h6 := h5.2.acked s
  rw [h1.2.sent] at h3
  have h7 : (endOf (rounds pt rp 60 p) s).sent = (endOf p s).sent := h2.2.sent s
  have h8 := (linkOk_iff.1 (h2.1.ok s hs)).2.2.1
  have h9 := h2.1.ackLe (1 - s) (by omega)
  have h10 := h2.1.tookLe (1 - s) (by omega)
  have h11 := h2.1.heardIs (1 - s) (by omega)
  rw [show 1 - (1 - s) = s by omega] at h9 h10 h11
  rw [h7] at h8 h10 h11
  rw [e60] at h8 h9 h10 h11 ⊢
  have ha : (endOf (roundP pt rp (rounds pt rp 58 (roundP pt rp p))) s).acked = (endOf p s).sent.length := by
    show _ = ((endOf p s).sent.length : Int)
    have h3' : min ((endOf p s).sent.length : Int) (0 + 3 * (29 : Nat)) ≤ (endOf (rounds pt rp 58 (roundP pt rp p)) s).acked := h3
    omega
  refine ⟨ha, by rw [← e60]; exact h7, ?_⟩
  rw [h11, List.take_of_length_le (by omega)]
end
/-! runs -/
def pushOk (x : Push) : Bool :=
  decide (1 ≤ x.kind) && (decide (x.kind ≤ 6) && (decide (0 ≤ x.side) && (decide (x.side ≤ 1) && (decide (0 ≤ x.at') && (if x.kind = 1 then decide (1 ≤ x.text.size) && decide (x.text.size ≤ 40) else decide (x.text.size = 0))))))
theorem pushOk_side {x : Push} (h : pushOk x = true) : 0 ≤ x.side ∧ x.side ≤ 1 ∧ 0 ≤ x.at' := by
  unfold pushOk at h; simp only [Bool.and_eq_true, decide_eq_true_iff] at h; omega
theorem pushOk_text {x : Push} (h : pushOk x = true) (h1 : x.kind = 1) : 1 ≤ x.text.size ∧ x.text.size ≤ 40 := by
  unfold pushOk at h; simp only [Bool.and_eq_true, decide_eq_true_iff] at h
  have := h.2.2.2.2.2
  rw [if_pos h1] at this
  simpa using this
section
variable (pt : Packet → ByteArray) (rp : ByteArray → Option Packet) (flip : ByteArray → Nat → ByteArray)
def spotOf (p : Pair) (x : Push) : Nat := x.at'.toNat % p.net.length
def textOf (p : Pair) (x : Push) : ByteArray := (p.net[spotOf p x]?).getD .empty
def pushP (p : Pair) (x : Push) : Pair × Bool :=
  if x.kind = 1 then (if linkOk (endOf p x.side.toNat) = true ∧ (endOf p x.side.toNat).sent.length < 200 ∧ bodyOk x.text = true then (putP p x.side.toNat x.text, true) else (p, false))
  else if x.kind = 2 then (tickP pt p x.side.toNat, decide (p.net.length < (tickP pt p x.side.toNat).net.length))
  else if p.net.length = 0 then (p, false)
  else if x.kind = 3 then (hear rp { p with net := p.net.eraseIdx (spotOf p x) } (textOf p x), (rp (textOf p x)).isSome)
  else if x.kind = 4 then ({ p with net := p.net.eraseIdx (spotOf p x) }, true)
  else if x.kind = 5 then (if p.net.length < 200 then ({ p with net := p.net ++ [textOf p x] }, true) else (p, false))
  else (if (rp (textOf p x)).isSome = true then ({ p with net := p.net.set (spotOf p x) (flip (textOf p x) x.at'.toNat) }, true) else (p, false))
def pushC (p : Pair) (x : Push) : Pair := { (pushP pt rp flip p x).1 with codes := (pushP pt rp flip p x).1.codes ++ [if (pushP pt rp flip p x).2 then 0 else 1] }
def pair0 : Pair := ⟨[⟨[], 0, 0⟩, ⟨[], 0, 0⟩], [], [[], []], []⟩
def runP (list : List Push) : Pair := list.foldl (pushC pt rp flip) pair0
end
theorem inv0 (rp : ByteArray → Option Packet) : Inv rp pair0 := by
  refine ⟨rfl, rfl, by decide, ?_, ?_, ?_, ?_, fun t ht => by cases ht⟩ <;> intro i hi <;> rcases (by omega : i = 0 ∨ i = 1) with rfl | rfl
  · rfl
  · rfl
  · rfl
  · rfl
  · decide
  · decide
  · decide
  · decide
theorem textOf_mem {p : Pair} {x : Push} (h : ¬ p.net.length = 0) : textOf p x ∈ p.net := by
  have h1 : spotOf p x < p.net.length := Nat.mod_lt _ (by omega)
  unfold textOf
  rw [List.getElem?_eq_getElem h1]
  exact List.getElem_mem h1
theorem push_inv {pt : Packet → ByteArray} {rp : ByteArray → Option Packet} {flip : ByteArray → Nat → ByteArray} (hpt : ∀ x, packOk x = true → rp (pt x) = some x) (hrp : ∀ t x, rp t = some x → packOk x = true)
    (hfl : ∀ t i, (rp t).isSome = true → rp (flip t i) = none) {p : Pair} (hI : Inv rp p) {x : Push} (hx : pushOk x = true) :
    Inv rp (pushP pt rp flip p x).1 ∧ ∀ j, (endOf (pushP pt rp flip p x).1 j).sent.length ≤ (endOf p j).sent.length + 1 := by
  have hs := pushOk_side hx
  have hs2 : x.side.toNat < 2 := by omega
  unfold pushP
  split
  · split
    · rename_i h
      refine ⟨put_inv hI hs2 h.2.2 h.2.1, fun j => ?_⟩
      show (endOf (putP p x.side.toNat x.text) j).sent.length ≤ _
      have he : endOf (putP p x.side.toNat x.text) j = _ := endOf_set hI.two hs2
      rw [he]; split
      · rename_i e; rw [← e]; simp
      · omega
    · exact ⟨hI, fun j => by show (endOf p j).sent.length ≤ _; omega⟩
  · split
    · exact ⟨tick_inv hpt hI hs2, fun j => by show (endOf p j).sent.length ≤ _; omega⟩
    · split
      · exact ⟨hI, fun j => by show (endOf p j).sent.length ≤ _; omega⟩
      · rename_i hn
        have hm := textOf_mem (x := x) hn
        have hE : Inv rp { p with net := p.net.eraseIdx (spotOf p x) } := hI.net _ (Nat.le_trans (List.length_eraseIdx_le ..) hI.netLen) fun t ht => hI.netOk t (List.mem_of_mem_eraseIdx ht)
        split
        · have h1 := hear_inv hrp hE (t := textOf p x) fun y hy => hI.netOk _ hm y hy
          refine ⟨h1, fun j => ?_⟩
          have h2 : Grow { p with net := p.net.eraseIdx (spotOf p x) } (hear rp { p with net := p.net.eraseIdx (spotOf p x) } (textOf p x)) := by
            cases h : rp (textOf p x) with
            | none => rw [hear_none h]; exact .refl _
            | some y =>
              have hf := hI.netOk _ hm y h
              have := packOk_iff.1 (hrp _ y h)
              rw [hear_some h hf.1]
              exact deliver_grow hI.two (by have := hf.1; omega)
          show (endOf (hear rp _ (textOf p x)) j).sent.length ≤ _
          rw [h2.sent]
          show (endOf p j).sent.length ≤ _
          omega
        · split
          · exact ⟨hE, fun j => by show (endOf p j).sent.length ≤ _; omega⟩
          · split
            · split
              · refine ⟨hI.net _ (by rw [List.length_append, List.length_singleton]; omega) fun t ht => ?_, fun j => by show (endOf p j).sent.length ≤ _; omega⟩
                rw [List.mem_append, List.mem_singleton] at ht
                rcases ht with ht | rfl
                · exact hI.netOk t ht
                · exact hI.netOk _ hm
              · exact ⟨hI, fun j => by show (endOf p j).sent.length ≤ _; omega⟩
            · split
              · rename_i h
                refine ⟨hI.net _ (by rw [List.length_set]; exact hI.netLen) fun t ht => ?_, fun j => by show (endOf p j).sent.length ≤ _; omega⟩
                rcases List.mem_or_eq_of_mem_set ht with ht | rfl
                · exact hI.netOk t ht
                · intro y hy; rw [hfl _ _ h] at hy; cases hy
              · exact ⟨hI, fun j => by show (endOf p j).sent.length ≤ _; omega⟩
theorem run_inv {pt : Packet → ByteArray} {rp : ByteArray → Option Packet} {flip : ByteArray → Nat → ByteArray} (hpt : ∀ x, packOk x = true → rp (pt x) = some x) (hrp : ∀ t x, rp t = some x → packOk x = true)
    (hfl : ∀ t i, (rp t).isSome = true → rp (flip t i) = none) (list : List Push) (hl : ∀ x ∈ list, pushOk x = true) :
    Inv rp (runP pt rp flip list) ∧ ∀ j, (endOf (runP pt rp flip list) j).sent.length ≤ list.length := by
  suffices h : ∀ (list : List Push) (p : Pair) (n : Nat), (∀ x ∈ list, pushOk x = true) → Inv rp p → (∀ j, (endOf p j).sent.length ≤ n) → Inv rp (list.foldl (pushC pt rp flip) p) ∧ ∀ j, (endOf (list.foldl (pushC pt rp flip) p) j).sent.length ≤ n + list.length by
    have := h list pair0 0 hl (inv0 rp) (fun j => by
      rcases (by omega : j = 0 ∨ j = 1 ∨ 2 ≤ j) with rfl | rfl | hj
      · decide
      · decide
      · unfold endOf pair0
        rw [List.getElem?_eq_none (by simpa using hj)]
        show ([] : List ByteArray).length ≤ 0
        simp)
    rw [Nat.zero_add] at this
    exact this
  intro list
  induction list with
  | nil => intro p n _ hI h; exact ⟨hI, h⟩
  | cons x list ih =>
    intro p n hl hI h
    obtain ⟨h1, h2⟩ := push_inv hpt hrp hfl hI (hl x (by simp))
    have h3 := ih (pushC pt rp flip p x) (n + 1) (fun y hy => hl y (by simp [hy])) (h1.codes _) (fun j => by
      have := h2 j
      have := h j
      show (endOf (pushP pt rp flip p x).1 j).sent.length ≤ _
      omega)
    rw [List.length_cons]
    refine ⟨h3.1, fun j => ?_⟩
    have := h3.2 j
    show (endOf (list.foldl (pushC pt rp flip) (pushC pt rp flip p x)) j).sent.length ≤ _
    omega

end Go.Proofs.Ytmmmjikanmgpfaa
