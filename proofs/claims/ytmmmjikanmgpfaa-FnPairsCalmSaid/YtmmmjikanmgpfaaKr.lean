/-
  Packets that are written are read; a changed byte is seen. Plain. Conditions: none.
-/
import Derived.Test.YtmmmjikanmgpfaaKf
import Derived.Test.YtmmmjikanmgpfaaIw
namespace Go.Proofs.Ytmmmjikanmgpfaa
open Go.SX Go.Proofs
set_option maxHeartbeats 1000000

theorem varT_nat {n : Int} (h : 0 ≤ n) : varT n = varT (n.toNat : Nat) := by rw [Int.toNat_of_nonneg h]
theorem by_var' (n : Int) : by' (varText n) = varT n := by unfold varText; rw [by_tx]
theorem readPack_text {p : Packet} (h : packOk p = true) : readPack (packText p) = some p := by
  have h2 := packOk_iff.1 h
  have hsz := packBody_size h
  obtain ⟨e, f, t, s, a, body⟩ := p
  dsimp only at h2
  have hb : by' (packBody ⟨e, f, t, s, a, body⟩) = varT e ++ (UInt8.ofNat f.toNat :: UInt8.ofNat t.toNat :: (varT s ++ (varT a ++ by' body))) := by
    unfold packBody
    simp only [by_app, by_var', by_tx, List.append_assoc, List.cons_append, List.nil_append]
  have ho : openX (packText ⟨e, f, t, s, a, body⟩) = some (packBody ⟨e, f, t, s, a, body⟩) := open_seal hsz
  generalize packBody ⟨e, f, t, s, a, body⟩ = T at hb ho
  have d1 : (by' T).drop (varT e).length = UInt8.ofNat f.toNat :: UInt8.ofNat t.toNat :: (varT s ++ (varT a ++ by' body)) := by rw [hb, List.drop_left]
  have e1 : readVar T 0 = (e.toNat, (varT e).length, true) := by
    have := readVar_enc (t := T) (p := 0) (m := e.toNat) (rest := UInt8.ofNat f.toNat :: UInt8.ofNat t.toNat :: (varT s ++ (varT a ++ by' body))) (by rw [List.drop_zero, hb, ← varT_nat (by omega)]) (by omega)
    rw [this, ← varT_nat (by omega)]; simp
  obtain ⟨h3, h4, d2⟩ := byteAt_drop d1
  obtain ⟨h5, h6, d3⟩ := byteAt_drop d2
  have e2 : readVar T ((varT e).length + 2) = (s.toNat, (varT e).length + 2 + (varT s).length, true) := by
    have := readVar_enc (t := T) (p := (varT e).length + 2) (m := s.toNat) (rest := varT a ++ by' body) (by rw [show (varT e).length + 2 = (varT e).length + 1 + 1 by omega, d3, ← varT_nat (by omega)]) (by omega)
    rw [this, ← varT_nat (by omega)]
  have d4 : (by' T).drop ((varT e).length + 2 + (varT s).length) = varT a ++ by' body := by
    rw [← List.drop_drop, show (varT e).length + 2 = (varT e).length + 1 + 1 by omega, d3, List.drop_left]
  have e3 : readVar T ((varT e).length + 2 + (varT s).length) = (a.toNat, (varT e).length + 2 + (varT s).length + (varT a).length, true) := by
    have := readVar_enc (t := T) (p := (varT e).length + 2 + (varT s).length) (m := a.toNat) (rest := by' body) (by rw [d4, ← varT_nat (by omega)]) (by omega)
    rw [this, ← varT_nat (by omega)]
  have d5 : (by' T).drop ((varT e).length + 2 + (varT s).length + (varT a).length) = by' body := by rw [← List.drop_drop, d4, List.drop_left]
  have e4 : T.extract ((varT e).length + 2 + (varT s).length + (varT a).length) T.size = body := by
    rw [← by_inj, by_extract, d5, List.take_of_length_le]
    rw [← d5, List.length_drop, by_size]; omega
  have k1 : pk1 T = (e.toNat, ((varT e).length, false)) := by
    unfold pk1; rw [scNum_yes (s := (0, false)) (by rw [e1]) rfl, e1]
  have k2 : pk2 T = (UInt8.ofNat f.toNat, ((varT e).length + 1, false)) := by
    unfold pk2; rw [k1, scByte_yes (s := ((varT e).length, false)) h3 rfl, h4]
  have k3 : pk3 T = (UInt8.ofNat t.toNat, ((varT e).length + 2, false)) := by
    unfold pk3; rw [k2, scByte_yes (s := ((varT e).length + 1, false)) h5 rfl, h6]
  have k4 : pk4 T = (s.toNat, ((varT e).length + 2 + (varT s).length, false)) := by
    unfold pk4; rw [k3, scNum_yes (s := ((varT e).length + 2, false)) (by rw [e2]) rfl, e2]
  have k5 : pk5 T = (a.toNat, ((varT e).length + 2 + (varT s).length + (varT a).length, false)) := by
    unfold pk5; rw [k4, scNum_yes (s := ((varT e).length + 2 + (varT s).length, false)) (by rw [e3]) rfl, e3]
  have kB : pkB T = body := by unfold pkB; rw [k5]; exact e4
  have kF : pkF T = ⟨e, f, t, s, a, body⟩ := by
    unfold pkF
    rw [kB, k1, k2, k3, k4, k5]
    dsimp only
    rw [UInt8.toNat_ofNat', UInt8.toNat_ofNat']
    congr 1 <;> omega
  have := (readPack_some ho (by rw [k5]) (by rw [kF]; exact h)).1
  rw [this, kF]

/-! a byte changed -/
def flipT (t : ByteArray) (i : Nat) : ByteArray := tx ((by' t).set (i % t.size) (byteAt t (i % t.size) ^^^ 1))
theorem xor_one_ne (b : UInt8) : b ^^^ 1 ≠ b := by
  intro h
  have h2 : b ^^^ (b ^^^ 1) = b ^^^ b := congrArg (fun z => b ^^^ z) h
  rw [← UInt8.xor_assoc, UInt8.xor_self, UInt8.zero_xor] at h2
  exact absurd h2 (by decide)
theorem four_inj {x y : Int} (hx : 0 ≤ x ∧ x < 4294967296) (hy : 0 ≤ y ∧ y < 4294967296) (h : fourL x = fourL y) : x = y := by
  unfold fourL at h
  simp only [List.cons.injEq, and_true] at h
  obtain ⟨h1, h2, h3, h4⟩ := h
  have q (a b : Int) (ha : 0 ≤ a ∧ a < 256) (hb : 0 ≤ b ∧ b < 256) (h : UInt8.ofNat a.toNat = UInt8.ofNat b.toNat) : a = b := by
    have := congrArg UInt8.toNat h
    rw [UInt8.toNat_ofNat', UInt8.toNat_ofNat'] at this
    omega
  have := q _ _ (by omega) (by omega) h1
  have := q _ _ (by omega) (by omega) h2
  have := q _ _ (by omega) (by omega) h3
  have := q _ _ (by omega) (by omega) h4
  omega
theorem set_ne_self {l : List UInt8} {j : Nat} {b : UInt8} (hj : j < l.length) (h : b ≠ l[j]) : l.set j b ≠ l := by
  intro e
  have := List.getElem_set_self (l := l) (i := j) (a := b) (by rw [List.length_set]; exact hj)
  simp only [e] at this
  exact h this.symm
theorem sum_flip {s s' : ByteArray} {p q : List UInt8} {a b : UInt8} (h1 : by' s = p ++ a :: q) (h2 : by' s' = p ++ b :: q) (h : a ≠ b) : sumOf s ≠ sumOf s' := by
  unfold sumOf
  rw [h1, h2]
  exact sum_diff ⟨by omega, by omega⟩ p q h
theorem open_flip {t : ByteArray} {i : Nat} (h : (openX t).isSome = true) : openX (flipT t i) = none := by
  obtain ⟨s, hs⟩ := Option.isSome_iff_exists.1 h
  obtain ⟨h1, h2, h3⟩ := seal_open hs
  cases h4 : openX (flipT t i) with
  | none => rfl
  | some s' =>
    exfalso
    obtain ⟨g1, g2, g3⟩ := seal_open h4
    have hbl : (by' t).length = t.size := by_size t
    have hj : i % t.size < t.size := Nat.mod_lt _ (by omega)
    have eF : by' (flipT t i) = (by' t).set (i % t.size) (byteAt t (i % t.size) ^^^ 1) := by unfold flipT; rw [by_tx]
    generalize i % t.size = j at *
    have hba : byteAt t j = (by' t)[j]'(by omega) := by
      unfold byteAt; rw [by_get, List.getElem?_eq_getElem (by omega)]; rfl
    have hT : by' t = by' s ++ fourL (sumOf s) := by rw [h1]; unfold sealT four; rw [by_app, by_tx]
    have hF : by' (flipT t i) = by' s' ++ fourL (sumOf s') := by rw [g1]; unfold sealT four; rw [by_app, by_tx]
    rw [eF] at hF
    have hsz : (by' s').length = (by' s).length := by
      have := congrArg List.length hF
      rw [List.length_set, hT, List.length_append, List.length_append] at this
      have e4 : (fourL (sumOf s)).length = 4 := rfl
      have e5 : (fourL (sumOf s')).length = 4 := rfl
      omega
    have hne : byteAt t j ^^^ 1 ≠ byteAt t j := xor_one_ne _
    generalize byteAt t j ^^^ 1 = b' at *
    have hTs : (by' t).set j b' = (by' s ++ fourL (sumOf s)).set j b' := by rw [hT]
    rw [hTs] at hF
    rcases Nat.lt_or_ge j (by' s).length with hjs | hjs
    · rw [List.set_append_left _ _ hjs] at hF
      obtain ⟨f1, f2⟩ := List.append_inj hF (by rw [List.length_set]; exact hsz.symm)
      have f3 := four_inj (sumOf_rng s) (sumOf_rng s') f2
      have ha : byteAt t j = (by' s)[j] := by
        rw [hba]
        have : (by' t)[j]? = (by' s)[j]? := by rw [hT, List.getElem?_append_left hjs]
        rw [List.getElem?_eq_getElem (by omega), List.getElem?_eq_getElem hjs] at this
        exact Option.some.inj this
      have c1 : by' s = (by' s).take j ++ (by' s)[j] :: (by' s).drop (j + 1) := by
        rw [← List.drop_eq_getElem_cons hjs, List.take_append_drop]
      have c2 : by' s' = (by' s).take j ++ b' :: (by' s).drop (j + 1) := by
        rw [← f1, List.set_eq_take_append_cons_drop, if_pos hjs]
      exact sum_flip c1 c2 (by rw [← ha]; exact fun e => hne e.symm) f3
    · rw [List.set_append_right _ _ hjs] at hF
      obtain ⟨f1, f2⟩ := List.append_inj hF hsz.symm
      have f3 : s = s' := by_inj.1 f1
      subst f3
      have hlt : j - (by' s).length < (fourL (sumOf s)).length := by
        have e4 : (fourL (sumOf s)).length = 4 := rfl
        have := congrArg List.length hT
        rw [List.length_append] at this
        omega
      refine set_ne_self hlt ?_ f2
      intro e
      apply hne
      rw [e, hba]
      have : (by' t)[j]? = (fourL (sumOf s))[j - (by' s).length]? := by rw [hT, List.getElem?_append_right hjs]
      rw [List.getElem?_eq_getElem (by omega), List.getElem?_eq_getElem hlt] at this
      exact (Option.some.inj this).symm
theorem readPack_flip {t : ByteArray} {i : Nat} (h : (readPack t).isSome = true) : readPack (flipT t i) = none := by
  have h2 : (openX t).isSome = true := by
    unfold readPack at h
    split at h
    · cases h
    · rename_i x e; rw [e]; rfl
  unfold readPack
  rw [open_flip h2]

end Go.Proofs.Ytmmmjikanmgpfaa
