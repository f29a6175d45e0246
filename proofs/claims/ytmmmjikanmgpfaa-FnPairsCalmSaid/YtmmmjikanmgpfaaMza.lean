/-
  Texts deleted from a slice, a packet with a byte changed.
  The acts of a pair: texts put on the net.
  The acts of a pair: a text carried.
  The acts of a pair: a text carried, on the reference's side.
  The acts of a pair: what one act makes of it. Plain.
  One act of a pair.
  One act of a pair, on the reference's side.
  One act of a pair, on the reference's side: the whole.
  A run of a pair, on the program's side.
  A copy of a pair.
  The sizes of a run of a pair. Plain.
  A run of a pair, on the reference's side.
  Conditions: none.
-/
import Derived.Test.YtmmmjikanmgpfaaKr
import Derived.Test.YtmmmjikanmgpfaaKg
import Derived.Test.YtmmmjikanmgpfaaSxI
import Derived.Test.YtmmmjikanmgpfaaSxM
import Derived.Test.YtmmmjikanmgpfaaKp
namespace Go.Proofs.Ytmmmjikanmgpfaa
open Go.SX Go.Proofs
set_option linter.unusedSimpArgs false
set_option linter.unusedVariables false
set_option maxHeartbeats 4000000
attribute [local irreducible] IntKind.wrap

--@ct slices.Delete[[]string,string] raw refine callR_at &1 rfl (deleteS_ct _ _ _ _ _ _ _ ~1 ?_ ?_ ?_) trivial ?_ | | rintro _ A# ⟨rfl, o#⟩
theorem rd_wf {α : Type} {f : Fl α} {H : Hp} {v : Value} {xs : List α} (h : (rpSl f.rp).rd H [v] xs) : ∀ x ∈ xs, f.wf x := by
  obtain ⟨base, cap, e, _, h3⟩ := h
  intro x hx
  obtain ⟨i, hi, rfl⟩ := List.mem_iff_getElem.1 hx
  obtain ⟨b, o, l', _, _, h6⟩ := h3 i hi
  exact h6.2
theorem deleteS_raw (base : Option Addr) (m cap : Nat) (xs : List ByteArray) (A : Hp) (i j : Int) (hj : j = i + 1) (ho : Ow flStr 9 (.slice base m cap) xs A) (h0 : 0 ≤ i) (h1 : i < m) (hm : m ≤ 1000000) :
    CtR Try.prog 62 [.slice base m cap, .int .i64 i, .int .i64 j] A (fun _ => True)
      (fun v A => v = .slice base (m - 1) cap ∧ Ow flStr 9 (.slice base (m - 1) cap) (xs.take i.toNat ++ xs.drop (i.toNat + 1)) A) := by
  subst hj
  obtain ⟨k, rfl⟩ : ∃ k : Nat, i = k := ⟨i.toNat, by omega⟩
  refine CtR.intro G_ok [A] Try.func62 rfl rfl rfl (by simp) fun E H _ => ?_
  have hlen := (rd_len ho.rd).1
  have hcap := rd_cap ho.rd
  subst hlen
  refine VC.intro (by omega) ?_
  refine VC.intro (by omega) ?_
  refine VC.intro (by omega) ?_
  refine VCsplit.intro (fun h => ?_) (fun h => ?_)
  · simp at h; omega
  refine draw G_ok mixed (some 6) (.q 0 (.q 1 (.q 2 (.q 3 (.q 4 (.q 5 (.tl 6 (.f 7 (.nil))))))))) (by decide +kernel) ?_
  refine VC.intro (by omega) ?_
  refine VC.intro (by omega) ?_
  refine append_ow (f := flStr) G_ok 0 rfl (ho.take (i := k) (by omega)) (rd_sub (r := flStr.rp) (l := k + 1) (h := xs.length) ((rpSl _).mono (mem_at 0 rfl) ho.rd) (by omega) (by omega)) (fun y hy => rd_wf ho.rd y (List.mem_of_mem_take (List.mem_of_mem_drop hy))) rfl rfl rfl rfl rfl rfl rfl rfl (by simp; omega) ?_
  intro base' cap' A' ho' hfit
  obtain ⟨rfl, rfl⟩ := hfit (by simp; omega)
  refine VC.intro (by simp; omega) ?_
  refine VC.intro (by simp; omega) ?_
  refine clear_ow G_ok 0 rfl ho' (l := (List.take k xs).length + (List.drop (k + 1) (List.take xs.length xs)).length) (h := xs.length) rfl (by omega) (by simp; omega) (by omega) rfl rfl rfl rfl ?_
  intro A'' ho''
  refine ⟨A'', ⟨?_, ?_⟩, RLe.tl⟩
  · congr 1; simp; omega
  · have e : (List.take k xs).length + (List.drop (k + 1) (List.take xs.length xs)).length = xs.length - 1 := by simp; omega
    rw [e] at ho''
    simpa using ho''
--@ct slices.Delete[[]string,string] raw refine callR_at &1 rfl (deleteS_ct _ _ _ _ _ _ _ ~1 ?_ ?_ ?_ ?_) trivial ?_ | | rintro _ A# ⟨rfl, o#⟩
theorem deleteS_ct (base : Option Addr) (cap : Nat) (xs : List ByteArray) (A : Hp) (i j : Int) (k : Nat) (ho : (gSl 9 gS).ow [.slice base xs.length cap] xs A) (hi : i = k) (hj : j = k + 1) (hk : k < xs.length) (hm : xs.length ≤ 1000000) :
    CtR Try.prog 62 [.slice base xs.length cap, .int .i64 i, .int .i64 j] A (fun _ => True)
      (fun v A => v = .slice base (xs.eraseIdx k).length cap ∧ (gSl 9 gS).ow [.slice base (xs.eraseIdx k).length cap] (xs.eraseIdx k) A) := by
  subst hi hj
  have h := deleteS_raw base xs.length cap xs A k (k + 1) rfl (fl_ow ho) (Int.natCast_nonneg k) (by omega) hm
  have e1 : xs.take ((k : Nat) : Int).toNat ++ xs.drop (((k : Nat) : Int).toNat + 1) = xs.eraseIdx k := by rw [Int.toNat_natCast, List.eraseIdx_eq_take_drop_succ]
  have e2 : (xs.eraseIdx k).length = xs.length - 1 := List.length_eraseIdx_of_lt hk
  rw [e1] at h
  rw [e2]
  exact ⟨h.1, fun E H w hs hp => (h.2 E H w hs hp).mono fun _ _ ⟨v, A, h1, ⟨h2, h3⟩, h4⟩ => ⟨v, A, h1, ⟨h2, ow_fl h3⟩, h4⟩⟩

/-! a packet with a byte changed -/
def spoilT (t : ByteArray) (i : Nat) : ByteArray := if (readPack t).isSome = true then flipT t i else t
--@ct impl.spoiled val spoiled_ct _ _ ?_ ?_
theorem xor_u8 (b : UInt8) : UInt8.ofNat (IntKind.u8.wrap (((BitVec.ofInt IntKind.u8.bits ((b.toNat : Nat) : Int) ^^^ BitVec.ofInt IntKind.u8.bits 1).toNat : Nat) : Int)).toNat = b ^^^ 1 ∧ 0 ≤ IntKind.u8.wrap (((BitVec.ofInt IntKind.u8.bits ((b.toNat : Nat) : Int) ^^^ BitVec.ofInt IntKind.u8.bits 1).toNat : Nat) : Int) ∧ IntKind.u8.wrap (((BitVec.ofInt IntKind.u8.bits ((b.toNat : Nat) : Int) ^^^ BitVec.ofInt IntKind.u8.bits 1).toNat : Nat) : Int) < 256 := by
  have h1 : (BitVec.ofInt IntKind.u8.bits ((b.toNat : Nat) : Int) ^^^ BitVec.ofInt IntKind.u8.bits 1).toNat = b.toNat ^^^ 1 := by
    show (BitVec.ofInt 8 ((b.toNat : Nat) : Int) ^^^ BitVec.ofInt 8 ((1 : Nat) : Int)).toNat = _
    rw [show BitVec.ofInt 8 ((b.toNat : Nat) : Int) = BitVec.ofNat 8 b.toNat by simp, show BitVec.ofInt 8 ((1 : Nat) : Int) = BitVec.ofNat 8 1 by simp, BitVec.toNat_xor, BitVec.toNat_ofNat, BitVec.toNat_ofNat, Nat.mod_eq_of_lt (show b.toNat < 2 ^ 8 from b.toNat_lt)]
  have h2 := Nat.xor_lt_two_pow (n := 8) (show b.toNat < 2 ^ 8 from b.toNat_lt) (show 1 < 2 ^ 8 by decide)
  rw [h1, u8_wrap]
  have h3 : (((b.toNat ^^^ 1 : Nat) : Int) % 256) = ((b.toNat ^^^ 1 : Nat) : Int) := by omega
  rw [h3]
  refine ⟨?_, by omega, by omega⟩
  rw [Int.toNat_natCast]
  apply UInt8.toNat_inj.1
  rw [UInt8.toNat_ofNat', UInt8.toNat_xor]
  show (b.toNat ^^^ 1) % 256 = b.toNat ^^^ 1
  omega
theorem tmod_nat {a : Int} {n : Nat} (ha : 0 ≤ a) : a.tmod (n : Int) = ((a.toNat % n : Nat) : Int) := by
  obtain ⟨k, rfl⟩ : ∃ k : Nat, a = k := ⟨a.toNat, by omega⟩
  rw [Int.toNat_natCast]; rfl
theorem spoilT_no {t : ByteArray} {i : Nat} (h : (readPack t).isSome = false) : spoilT t i = t := by unfold spoilT; rw [h]; rfl
theorem spoilT_yes {t : ByteArray} {i : Nat} (h : (readPack t).isSome = true) : spoilT t i = flipT t i := by unfold spoilT; rw [h]; rfl
theorem readPack_pos {t : ByteArray} (h : (readPack t).isSome = true) : 0 < t.size := by
  have h2 : (openX t).isSome = true := by
    unfold readPack at h
    split at h
    · cases h
    · rename_i x e; rw [e]; rfl
  obtain ⟨s, hs⟩ := Option.isSome_iff_exists.1 h2
  have := seal_open hs
  omega
theorem flip_eq (t : ByteArray) (i : Nat) (h : 0 < t.size) : (⟨((t.data.toList).set (i % t.size) (UInt8.ofNat (IntKind.u8.wrap (((BitVec.ofInt IntKind.u8.bits (((t.data.toList[i % t.size]?.getD default).toNat : Nat) : Int) ^^^ BitVec.ofInt IntKind.u8.bits 1).toNat : Nat) : Int)).toNat)).toArray⟩ : ByteArray) = flipT t i := by
  rw [(xor_u8 _).1]
  unfold flipT tx byteAt
  rw [by_get]; rfl
theorem spoiled_ct (t : ByteArray) (a : Int) (ht : t.size ≤ 1000000) (ha : 0 ≤ a) : Ct Try.prog 63 [.string t, .int .i64 a] [] (fun _ => True) (fun v A => v = .tuple #[.string (spoilT t a.toNat), .bool (readPack t).isSome] ∧ A = []) := by
  refine Ct.intro0 G_ok Try.func63 rfl rfl rfl fun E H hp => ?_
  have hlen : t.data.toList.length = t.size := by_size t
  have hmod := tmod_nat (n := t.size) ha
  refine call_val (implReadPacket_ct _ ?_) trivial ?_
  · omega
  rintro _ rfl
  refine VCnew.intro fun x1 => ?_
  refine VCsplit.intro (fun q2 => ?_) (fun q2 => ?_)
  ·
    simp at q2
    (have hz : (readPack t).isSome = false := (by simp_all); rw [spoilT_no hz, hz]; exact ⟨[], ⟨rfl, rfl⟩, (.le fun a => by (try simp only [setR, List.cons_append, List.nil_append]); simp [List.count_cons, Blk.ent, idOf]; try omega)⟩)
  ·
    simp at q2
    have hpos := readPack_pos ‹(readPack t).isSome = true›
    have hml := Nat.mod_lt a.toNat hpos
    refine conv_sb G_ok _ rfl rfl rfl rfl (by omega) fun bS cS AS hS => ?_
    have rS : (gSl 5 gY).rd AS [.slice (some ⟨bS, 0, none⟩) t.size cS] t.data.toList := by (have := hS.rd; rwa [hlen] at this)
    refine VC.intro ?_ ?_
    · omega
    refine idx_rd rS ?_ ?_ fun b3 o3 hb3 => ?_
    · omega
    · omega
    refine load_all 0 rS ?_ ?_ hb3 rfl (mem_at 0 rfl) fun l4 hl4 => ?_
    · omega
    · omega
    obtain ⟨rfl, hw4⟩ := hl4
    refine idx_rd rS ?_ ?_ fun b5 o5 hb5 => ?_
    · omega
    · omega
    refine hS.store [H] ⟨[], by simp⟩ (by assumption) (a.toNat % t.size) (by omega) hmod rfl (xor_u8 _).2 fun A2 hS2 => ?_
    have rS2 := hS2.rd
    rw [List.length_set, hlen] at rS2
    refine conv_bs G_ok (t.data.toList.set (a.toNat % t.size) (UInt8.ofNat (IntKind.u8.wrap (↑(BitVec.ofInt IntKind.u8.bits (↑(t.data.toList[(a.tmod (↑t.size : Int)).toNat]?.getD (0 : UInt8)).toNat : Int) ^^^ BitVec.ofInt IntKind.u8.bits (1 : Int)).toNat : Int)).toNat)) rfl (Rp.mono _ (mem_at 0 rfl) rS2) rfl rfl rfl ?_
    (have hz : (readPack t).isSome = true := (by assumption); have e9 : (a.tmod (t.size : Int)).toNat = a.toNat % t.size := (by rw [hmod, Int.toNat_natCast]); rw [e9, spoilT_yes hz, hz, ← flip_eq t a.toNat hpos]; exact ⟨[], ⟨rfl, rfl⟩, (.le fun a => by (try simp only [setR, List.cons_append, List.nil_append]); simp [List.count_cons, Blk.ent, idOf]; try omega)⟩)

end Go.Proofs.Ytmmmjikanmgpfaa

namespace Go.Proofs.Ytmmmjikanmgpfaa
open Go.SX Go.Proofs
set_option linter.unusedSimpArgs false
set_option linter.unusedVariables false
set_option maxHeartbeats 4000000
attribute [local irreducible] IntKind.wrap

/-- the net with a link's packets put on it -/
def netK (l : List Packet) (net : List ByteArray) (k : Nat) : List ByteArray := (l.take k).foldl (netAdd packText) net
theorem netK_next {l : List Packet} {net : List ByteArray} {k : Nat} (h : k < l.length) : netK l net (k + 1) = netAdd packText (netK l net k) (l[k]?.getD default) := by
  unfold netK
  rw [← List.take_append_getElem h, List.foldl_append, List.getElem?_eq_getElem h]; rfl
theorem netAdd_yes {net : List ByteArray} {x : Packet} (h : packOk x = true) (h2 : net.length < 200) : netAdd packText net x = net ++ [ptR x] := by unfold netAdd; rw [if_pos ⟨h, h2⟩, ptR_yes h]
theorem netAdd_no {net : List ByteArray} {x : Packet} (h : ¬ (packOk x = true ∧ net.length < 200)) : netAdd packText net x = net := by unfold netAdd; rw [if_neg h]
theorem netAdd_len {net : List ByteArray} (x : Packet) (h : net.length ≤ 200) : net.length ≤ (netAdd packText net x).length ∧ (netAdd packText net x).length ≤ 200 := by
  unfold netAdd
  split
  · rename_i h3; have h2 := h3.2; rw [List.length_append, List.length_singleton]; omega
  · omega
theorem netK_len (l : List Packet) {net : List ByteArray} (hn : net.length ≤ 200) : ∀ k, net.length ≤ (netK l net k).length ∧ (netK l net k).length ≤ 200
  | 0 => by show net.length ≤ net.length ∧ net.length ≤ 200; omega
  | k + 1 => by
    have ih := netK_len l hn k
    rcases Nat.lt_or_ge k l.length with h | h
    · rw [netK_next h]
      have := netAdd_len (l[k]?.getD default) ih.2
      omega
    · have e : netK l net (k + 1) = netK l net k := by unfold netK; rw [List.take_of_length_le h, List.take_of_length_le (by omega)]
      rw [e]; exact ih
theorem netK_zero (l : List Packet) (net : List ByteArray) : netK l net 0 = net := rfl
theorem linkPacks_len (l : Link) (e f t : Int) : (linkPacks l e f t).length ≤ 3 := by
  unfold linkPacks
  split
  · exact packs_len l e f t
  · exact Nat.zero_le _
def tickN (ends : List Link) (net : List ByteArray) (s : Nat) : List ByteArray :=
  if s < ends.length then netK (linkPacks (ends[s]?.getD default) 1 s (1 - (s : Int))) net (linkPacks (ends[s]?.getD default) 1 s (1 - (s : Int))).length else net
theorem tickN_out {ends : List Link} {net : List ByteArray} {s : Nat} (h : ¬ s < ends.length) : tickN ends net s = net := by unfold tickN; rw [if_neg h]
theorem tickN_in {ends : List Link} {net : List ByteArray} {s : Nat} (h : s < ends.length) : tickN ends net s = netK (linkPacks (ends[s]?.getD default) 1 s (1 - (s : Int))) net (linkPacks (ends[s]?.getD default) 1 s (1 - (s : Int))).length := by unfold tickN; rw [if_pos h]

--@ct (*impl.Pair).tick blk1s implTick_ct _ _ _ _ _ _ _ _ _ _ _ _ !o ?_ ?_ ?_ ?_ | %c0 | rintro _ A# ⟨bn#, cn#, An#, rfl, rfl, on#⟩ ;; refine ⟨_, _, [An#], rfl, perm1, ?_⟩
theorem implTick_ct (q : Nat) (side : Int) (s : Nat) (ends : List Link) (net : List ByteArray) (be bn : Option Addr) (ce cn : Nat) (v2 v3 : Value) (AN : Hp) (hN : (gSl 9 gS).ow [.slice bn net.length cn] net AN) (hs : side = s) (hs2 : s < 2) (hsz : ∀ i, i < ends.length → gLink.sz (ends[i]?.getD default) ≤ 1048576) (hnl : net.length ≤ 200) :
    CtR Try.prog 38 [.pointer (some ⟨q, 0, none⟩), .int .i64 side] ((q, Obj.cells ⟨[.slice be ends.length ce, .slice bn net.length cn, v2, v3]⟩ 31) :: AN) (fun H => (gSl 45 gLink).rd H [.slice be ends.length ce] ends)
      (fun v D => ∃ bn cn AN, v = .bool (decide (net.length < (tickN ends net s).length)) ∧ D = (q, Obj.cells ⟨[.slice be ends.length ce, .slice bn (tickN ends net s).length cn, v2, v3]⟩ 31) :: AN ∧ (gSl 9 gS).ow [.slice bn (tickN ends net s).length cn] (tickN ends net s) AN) := by
  subst hs
  refine CtR.introB G_ok [.p 0 0, .v (.int .i64 (s : Int))] [⟨q, [.slice be ends.length ce, .slice bn net.length cn, v2, v3], 31⟩] [AN] Try.func38 rfl rfl rfl rfl (by simp [SV.ok]) (by simp [Blk.ent]) fun E H hp => ?_
  obtain ⟨_, hcl, hl⟩ := sl_len hp
  refine VCsplit.intro (fun q0 => ?_) (fun q0 => ?_)
  ·
    simp at q0
    (rw [tickN_out (by omega)]; exact ⟨_, ⟨_, _, _, by simp, rfl, hN⟩, (.le fun a => by (try simp only [setR, List.cons_append, List.nil_append]); simp [List.count_cons, Blk.ent, idOf]; try omega)⟩)
  ·
    simp at q0
    have hin : s < ends.length := by omega
    have hz9 := hsz s hin
    have hlp := linkPacks_len (ends[s]?.getD default) 1 s (1 - (s : Int))
    have hw1 : IntKind.i64.wrap (1 - (s : Int)) = 1 - (s : Int) := wrap_of (by omega) (by omega)
    refine idx_rd hp ?_ ?_ fun b1 o1 hb1 => ?_
    · omega
    · omega
    refine load_allN default (s) rfl hp ?_ ?_ hb1 rfl (mem_at 1 rfl) fun l2 hl2 => ?_
    · omega
    · omega
    obtain ⟨b0x2, c0x2, rfl, h0x2, w1x2, w2x2⟩ := gLink_rd.1 hl2
    refine call_new (implLinkPackets_ct _ (ends[s]?.getD default) _ _ _ ?_ ?_ ?_ ?_) (Rp.mono _ (mem_at 1 rfl) hl2) ?_
    · trivial
    · trivial
    · unfold okI; omega
    · exact okI_wrap _
    rintro v3 A3 o3
    obtain ⟨b3, c3, rfl, o3⟩ := o3
    simp only [hw1] at o3 ⊢
    apply loop_mod (α := (Nat) × (Hp) × (Option Addr) × (Nat)) G_ok [35, 36, 37, 7, 39, 40, 38, 41, 42, 8, 9, 43, 44, 45, 46, 47, 48, 49, 50, 51, 52, 53, 54, 55, 56, 57, 58, 59, 60, 61, 62, 34] (fun z => [(34, .v (.int .i64 z.1))]) (fun z => [⟨q, [Value.slice be ends.length ce, .slice z.2.2.1 (netK (linkPacks (ends[s]?.getD default) 1 s (1 - (s : Int))) net z.1).length z.2.2.2, v2, v3], (31 : TypeId)⟩]) (fun z => [z.2.1, A3, H]) (fun z => (linkPacks (ends[s]?.getD default) 1 s (1 - (s : Int))).length - z.1) (fun z => z.1 ≤ (linkPacks (ends[s]?.getD default) 1 s (1 - (s : Int))).length ∧ (gSl 9 gS).ow [.slice z.2.2.1 (netK (linkPacks (ends[s]?.getD default) 1 s (1 - (s : Int))) net z.1).length z.2.2.2] (netK (linkPacks (ends[s]?.getD default) 1 s (1 - (s : Int))) net z.1) z.2.1) ((0, AN, bn, cn))
    · repeat' (first | exact trivial | refine ⟨⟨_, rfl, by first | rfl | exact inc_eq _ (by omega) | (refine sl_eq ?_; simp; done), by first | exact trivial | simp [SV.ok]⟩, ?_⟩)
    · exact ⟨rfl, trivial⟩
    · try dsimp only
      exact ⟨Nat.zero_le _, hN⟩
    · exact .le fun a => by (try simp only [setR, List.cons_append, List.nil_append]); simp only [List.flatten_append, List.flatten_cons, List.flatten_nil, List.count_append, List.count_nil, List.append_nil, List.nil_append]; omega
    rintro ⟨k, N, bn2, cn2⟩ hI
    obtain ⟨hk, oN⟩ : k ≤ (linkPacks (ends[s]?.getD default) 1 s (1 - (s : Int))).length ∧ (gSl 9 gS).ow [.slice bn2 (netK (linkPacks (ends[s]?.getD default) 1 s (1 - (s : Int))) net k).length cn2] (netK (linkPacks (ends[s]?.getD default) 1 s (1 - (s : Int))) net k) N := hI
    try dsimp only
    refine VCsplit.intro (fun q4 => ?_) (fun q4 => ?_)
    ·
      simp at q4
      have hnx := netK_next (l := (linkPacks (ends[s]?.getD default) 1 s (1 - (s : Int)))) (net := net) (k := k) (by omega)
      have hnk := netK_len (linkPacks (ends[s]?.getD default) 1 s (1 - (s : Int))) hnl k
      have hps := ptR_size ((linkPacks (ends[s]?.getD default) 1 s (1 - (s : Int)))[k]?.getD default)
      refine idx_rd (Gt.owrd _ o3) ?_ ?_ fun b5 o5 hb5 => ?_
      · omega
      · omega
      refine load_allN default (k) rfl (Gt.owrd _ o3) ?_ ?_ hb5 rfl (mem_at 1 rfl) fun l6 hl6 => ?_
      · omega
      · omega
      obtain ⟨rfl, w0x6, w1x6, w2x6, w3x6, w4x6, w5x6⟩ := gPacket_rd.1 hl6
      refine VCnew.intro fun x7 => ?_
      refine call_val (implPacketText_ct _ ((linkPacks (ends[s]?.getD default) (1 : Int) (↑s : Int) ((1 : Int) - (↑s : Int)))[k]?.getD default)) (Rp.mono _ (mem_at 1 rfl) hl6) ?_
      rintro _ rfl
      refine VCsplit.intro (fun q9 => ?_) (fun q9 => ?_)
      ·
        refine VCsplit.intro (fun q10 => ?_) (fun q10 => ?_)
        ·
          simp at q10
          refine VCnew.intro fun x11 => ?_
          refine gappend1 (g := gS) (T := (9 : TypeId)) G_ok N [] [A3, H] ?_ oN (gS_ow ?_) (List.mem_of_getElem? (i := 0) rfl) rfl rfl rfl rfl rfl rfl rfl rfl ?_ fun b12 c12 A12 o12 => ?_
          · exact .tl
          · omega
          · omega
          apply loop_stepA (k + 1, _, _, _)
          · exact .refl _
          · repeat' (first | exact trivial | refine ⟨⟨_, rfl, by first | rfl | exact inc_eq _ (by omega) | (refine sl_eq ?_; simp; done), by first | exact trivial | simp [SV.ok]⟩, ?_⟩)
          · ((rw [hnx, netAdd_yes ‹_› (by omega)]); repeat' (first | exact trivial | refine ⟨by first | rfl | simp [Blk.ent], ?_⟩))
          · try dsimp only
            (rw [hnx, netAdd_yes ‹_› (by omega)]; exact ⟨by omega, by assumption⟩)
          · try dsimp only
            omega
        ·
          simp at q10
          apply loop_stepA (k + 1, _, _, _)
          · exact .refl _
          · repeat' (first | exact trivial | refine ⟨⟨_, rfl, by first | rfl | exact inc_eq _ (by omega) | (refine sl_eq ?_; simp; done), by first | exact trivial | simp [SV.ok]⟩, ?_⟩)
          · ((rw [hnx, netAdd_no (fun h9 => by have := h9.2; omega)]); repeat' (first | exact trivial | refine ⟨by first | rfl | simp [Blk.ent], ?_⟩))
          · try dsimp only
            (rw [hnx, netAdd_no (fun h9 => by have := h9.2; omega)]; exact ⟨by omega, oN⟩)
          · try dsimp only
            omega
      ·
        apply loop_stepA (k + 1, _, _, _)
        · exact .refl _
        · repeat' (first | exact trivial | refine ⟨⟨_, rfl, by first | rfl | exact inc_eq _ (by omega) | (refine sl_eq ?_; simp; done), by first | exact trivial | simp [SV.ok]⟩, ?_⟩)
        · ((rw [hnx, netAdd_no (by simp_all)]); repeat' (first | exact trivial | refine ⟨by first | rfl | simp [Blk.ent], ?_⟩))
        · try dsimp only
          (rw [hnx, netAdd_no (by simp_all)]; exact ⟨by omega, oN⟩)
        · try dsimp only
          omega
    ·
      simp at q4
      have hnk := netK_len (linkPacks (ends[s]?.getD default) 1 s (1 - (s : Int))) hnl k
      (have hke : k = (linkPacks (ends[s]?.getD default) 1 s (1 - (s : Int))).length := (by omega); subst hke; rw [tickN_in hin]; exact ⟨_, ⟨_, _, _, congrArg Value.bool (decide_eq_decide.2 (by omega)), rfl, oN⟩, (.le fun a => by (try simp only [setR, List.cons_append, List.nil_append]); simp [List.count_cons, Blk.ent, idOf]; try omega)⟩)

--@ct spec.l19Net blk1s l19Net_ct _ _ _ _ _ _ _ _ _ _ _ _ _ !o ?_ | %2 | rintro _ A# ⟨bn#, cn#, An#, rfl, rfl, on#⟩ ;; refine ⟨_, _, [An#], rfl, perm1, ?_⟩
theorem l19Net_ct (q : Nat) (bl : Option Addr) (cl : Nat) (ps : List Packet) (net : List ByteArray) (bn : Option Addr) (cn : Nat) (v0 v2 v3 : Value) (AN : Hp) (hN : (gSl 9 gS).ow [.slice bn net.length cn] net AN) (hnl : net.length ≤ 200) :
    CtR Try.prog 41 [.pointer (some ⟨q, 0, none⟩), .slice bl ps.length cl] ((q, Obj.cells ⟨[v0, .slice bn net.length cn, v2, v3]⟩ 31) :: AN) (fun H => (gSl 89 gPacket).rd H [.slice bl ps.length cl] ps)
      (fun v D => ∃ bn cn AN, v = .bool (decide (net.length < (netK ps net ps.length).length)) ∧ D = (q, Obj.cells ⟨[v0, .slice bn (netK ps net ps.length).length cn, v2, v3]⟩ 31) :: AN ∧ (gSl 9 gS).ow [.slice bn (netK ps net ps.length).length cn] (netK ps net ps.length) AN) := by
  refine CtR.introB G_ok [.p 0 0, .v (.slice bl ps.length cl)] [⟨q, [v0, .slice bn net.length cn, v2, v3], 31⟩] [AN] Try.func41 rfl rfl rfl rfl (by simp [SV.ok]) (by simp [Blk.ent]) fun E H hp => ?_
  obtain ⟨_, hcl, hl⟩ := sl_len hp
  apply loop_mod (α := (Nat) × (Hp) × (Option Addr) × (Nat)) G_ok [9, 10, 11, 12, 16, 17, 18, 19, 20, 15, 21, 22, 7, 8, 23, 24, 25, 26, 27, 28, 29, 30, 31, 32, 33, 34, 35, 36, 37, 38, 39, 40, 41, 5, 13, 14, 6] (fun z => [(6, .v (.int .i64 z.1)), (5, .v (.bool (decide (net.length < (netK ps net z.1).length))))]) (fun z => [⟨q, [v0, .slice z.2.2.1 (netK ps net z.1).length z.2.2.2, v2, v3], (31 : TypeId)⟩]) (fun z => [z.2.1, H]) (fun z => ps.length - z.1) (fun z => z.1 ≤ ps.length ∧ (gSl 9 gS).ow [.slice z.2.2.1 (netK ps net z.1).length z.2.2.2] (netK ps net z.1) z.2.1) ((0, AN, bn, cn))
  · repeat' (first | exact trivial | refine ⟨⟨_, rfl, by first | rfl | exact inc_eq _ (by omega) | (refine sl_eq ?_; simp; done) | exact congrArg Value.bool (decide_eq_false (Nat.lt_irrefl net.length)).symm | exact congrArg Value.bool (decide_eq_true (by rw [hnx, netAdd_yes ‹_› (by omega), List.length_append, List.length_singleton]; omega)).symm | (have e8 : netK ps net (k + 1) = netK ps net k := (by rw [hnx, netAdd_no (fun h9 => by (have h10 := h9.2; omega))]); exact congrArg (fun z => Value.bool (decide (net.length < List.length z))) e8.symm) | (have e8 : netK ps net (k + 1) = netK ps net k := (by rw [hnx, netAdd_no (by simp_all)]); exact congrArg (fun z => Value.bool (decide (net.length < List.length z))) e8.symm), by first | exact trivial | simp [SV.ok]⟩, ?_⟩)
  · exact ⟨rfl, trivial⟩
  · try dsimp only
    exact ⟨Nat.zero_le _, hN⟩
  · exact .refl _
  rintro ⟨k, N, bn2, cn2⟩ hI
  obtain ⟨hk, oN⟩ : k ≤ ps.length ∧ (gSl 9 gS).ow [.slice bn2 (netK ps net k).length cn2] (netK ps net k) N := hI
  try dsimp only
  refine VCsplit.intro (fun q0 => ?_) (fun q0 => ?_)
  ·
    simp at q0
    have hnx := netK_next (l := ps) (net := net) (k := k) (by omega)
    have hnk := netK_len ps hnl k
    have hps := ptR_size (ps[k]?.getD default)
    refine idx_rd hp ?_ ?_ fun b1 o1 hb1 => ?_
    · omega
    · omega
    refine load_allN default (k) rfl hp ?_ ?_ hb1 rfl (mem_at 1 rfl) fun l2 hl2 => ?_
    · omega
    · omega
    obtain ⟨rfl, w0x2, w1x2, w2x2, w3x2, w4x2, w5x2⟩ := gPacket_rd.1 hl2
    refine call_val (specPacketText_ct _ (ps[k]?.getD default)) (Rp.mono _ (mem_at 1 rfl) hl2) ?_
    rintro _ rfl
    refine VCsplit.intro (fun q4 => ?_) (fun q4 => ?_)
    ·
      refine VCsplit.intro (fun q5 => ?_) (fun q5 => ?_)
      ·
        simp at q5
        refine VCnew.intro fun x6 => ?_
        refine gappend1 (g := gS) (T := (9 : TypeId)) G_ok N [] [H] ?_ oN (gS_ow ?_) (List.mem_of_getElem? (i := 0) rfl) rfl rfl rfl rfl rfl rfl rfl rfl ?_ fun b7 c7 A7 o7 => ?_
        · exact .tl
        · omega
        · omega
        apply loop_stepA (k + 1, _, _, _)
        · exact .refl _
        · repeat' (first | exact trivial | refine ⟨⟨_, rfl, by first | rfl | exact inc_eq _ (by omega) | (refine sl_eq ?_; simp; done) | exact congrArg Value.bool (decide_eq_false (Nat.lt_irrefl net.length)).symm | exact congrArg Value.bool (decide_eq_true (by rw [hnx, netAdd_yes ‹_› (by omega), List.length_append, List.length_singleton]; omega)).symm | (have e8 : netK ps net (k + 1) = netK ps net k := (by rw [hnx, netAdd_no (fun h9 => by (have h10 := h9.2; omega))]); exact congrArg (fun z => Value.bool (decide (net.length < List.length z))) e8.symm) | (have e8 : netK ps net (k + 1) = netK ps net k := (by rw [hnx, netAdd_no (by simp_all)]); exact congrArg (fun z => Value.bool (decide (net.length < List.length z))) e8.symm), by first | exact trivial | simp [SV.ok]⟩, ?_⟩)
        · ((rw [hnx, netAdd_yes ‹_› (by omega)]); repeat' (first | exact trivial | refine ⟨by first | rfl | simp [Blk.ent], ?_⟩))
        · try dsimp only
          (rw [hnx, netAdd_yes ‹_› (by omega)]; exact ⟨by omega, by assumption⟩)
        · try dsimp only
          omega
      ·
        simp at q5
        apply loop_stepA (k + 1, _, _, _)
        · exact .refl _
        · repeat' (first | exact trivial | refine ⟨⟨_, rfl, by first | rfl | exact inc_eq _ (by omega) | (refine sl_eq ?_; simp; done) | exact congrArg Value.bool (decide_eq_false (Nat.lt_irrefl net.length)).symm | exact congrArg Value.bool (decide_eq_true (by rw [hnx, netAdd_yes ‹_› (by omega), List.length_append, List.length_singleton]; omega)).symm | (have e8 : netK ps net (k + 1) = netK ps net k := (by rw [hnx, netAdd_no (fun h9 => by (have h10 := h9.2; omega))]); exact congrArg (fun z => Value.bool (decide (net.length < List.length z))) e8.symm) | (have e8 : netK ps net (k + 1) = netK ps net k := (by rw [hnx, netAdd_no (by simp_all)]); exact congrArg (fun z => Value.bool (decide (net.length < List.length z))) e8.symm), by first | exact trivial | simp [SV.ok]⟩, ?_⟩)
        · ((rw [hnx, netAdd_no (fun h9 => by have := h9.2; omega)]); repeat' (first | exact trivial | refine ⟨by first | rfl | simp [Blk.ent], ?_⟩))
        · try dsimp only
          (rw [hnx, netAdd_no (fun h9 => by have := h9.2; omega)]; exact ⟨by omega, oN⟩)
        · try dsimp only
          omega
    ·
      apply loop_stepA (k + 1, _, _, _)
      · exact .refl _
      · repeat' (first | exact trivial | refine ⟨⟨_, rfl, by first | rfl | exact inc_eq _ (by omega) | (refine sl_eq ?_; simp; done) | exact congrArg Value.bool (decide_eq_false (Nat.lt_irrefl net.length)).symm | exact congrArg Value.bool (decide_eq_true (by rw [hnx, netAdd_yes ‹_› (by omega), List.length_append, List.length_singleton]; omega)).symm | (have e8 : netK ps net (k + 1) = netK ps net k := (by rw [hnx, netAdd_no (fun h9 => by (have h10 := h9.2; omega))]); exact congrArg (fun z => Value.bool (decide (net.length < List.length z))) e8.symm) | (have e8 : netK ps net (k + 1) = netK ps net k := (by rw [hnx, netAdd_no (by simp_all)]); exact congrArg (fun z => Value.bool (decide (net.length < List.length z))) e8.symm), by first | exact trivial | simp [SV.ok]⟩, ?_⟩)
      · ((rw [hnx, netAdd_no (by simp_all)]); repeat' (first | exact trivial | refine ⟨by first | rfl | simp [Blk.ent], ?_⟩))
      · try dsimp only
        (rw [hnx, netAdd_no (by simp_all)]; exact ⟨by omega, oN⟩)
      · try dsimp only
        omega
  ·
    simp at q0
    have hnk := netK_len ps hnl k
    (have hke : k = ps.length := (by omega); subst hke; exact ⟨_, ⟨_, _, _, rfl, rfl, oN⟩, (.le fun a => by (try simp only [setR, List.cons_append, List.nil_append]); simp [List.count_cons, Blk.ent, idOf]; try omega)⟩)

end Go.Proofs.Ytmmmjikanmgpfaa

namespace Go.Proofs.Ytmmmjikanmgpfaa
open Go.SX Go.Proofs
set_option linter.unusedSimpArgs false
set_option linter.unusedVariables false
set_option maxHeartbeats 4000000
attribute [local irreducible] IntKind.wrap

def inEnds (ends : List Link) (heard : List (List ByteArray)) (x : Packet) : Prop := x.to.toNat < ends.length ∧ x.to.toNat < heard.length
instance (ends : List Link) (heard : List (List ByteArray)) (x : Packet) : Decidable (inEnds ends heard x) := by unfold inEnds; exact inferInstance
def earE (ends : List Link) (heard : List (List ByteArray)) : Option Packet → List Link
  | none => ends
  | some x => if inEnds ends heard x then ends.set x.to.toNat (linkTake (ends[x.to.toNat]?.getD default) x).1 else ends
def earH (ends : List Link) (heard : List (List ByteArray)) : Option Packet → List (List ByteArray)
  | none => heard
  | some x => if inEnds ends heard x then (if (linkTake (ends[x.to.toNat]?.getD default) x).2.size = 0 then heard else heard.set x.to.toNat (heard[x.to.toNat]?.getD default ++ [(linkTake (ends[x.to.toNat]?.getD default) x).2])) else heard
theorem ear_none {ends : List Link} {heard : List (List ByteArray)} {t : ByteArray} (h : readPack t = none) : earE ends heard (readPack t) = ends ∧ earH ends heard (readPack t) = heard := by rw [h]; exact ⟨rfl, rfl⟩
theorem ear_out {ends : List Link} {heard : List (List ByteArray)} {t : ByteArray} (h : ¬ ((rkR t).to.toNat < ends.length ∧ (rkR t).to.toNat < heard.length)) : earE ends heard (readPack t) = ends ∧ earH ends heard (readPack t) = heard := by
  cases e : readPack t with
  | none => exact ⟨rfl, rfl⟩
  | some x =>
    rw [(rk_some e).1] at h
    exact ⟨if_neg h, if_neg h⟩
theorem rk_is {t : ByteArray} (h : (readPack t).isSome = true) : readPack t = some (rkR t) := by
  obtain ⟨x, hx⟩ := Option.isSome_iff_exists.1 h
  rw [(rk_some hx).1]; exact hx
theorem ear_in {ends : List Link} {heard : List (List ByteArray)} {t : ByteArray} (h0 : (readPack t).isSome = true) (h1 : (rkR t).to.toNat < ends.length) (h2 : (rkR t).to.toNat < heard.length) :
    earE ends heard (readPack t) = ends.set (rkR t).to.toNat (linkTake (ends[(rkR t).to.toNat]?.getD default) (rkR t)).1 ∧ earH ends heard (readPack t) = (if (linkTake (ends[(rkR t).to.toNat]?.getD default) (rkR t)).2.size = 0 then heard else heard.set (rkR t).to.toNat (heard[(rkR t).to.toNat]?.getD default ++ [(linkTake (ends[(rkR t).to.toNat]?.getD default) (rkR t)).2])) := by
  rw [rk_is h0]; exact ⟨if_pos ⟨h1, h2⟩, if_pos ⟨h1, h2⟩⟩
theorem rk_to (t : ByteArray) : 0 ≤ (rkR t).to ∧ (rkR t).to ≤ 8 := by
  cases e : readPack t with
  | none => rw [(rk_none e).1]; exact ⟨Int.le_refl _, by show (0 : Int) ≤ 8; omega⟩
  | some x => rw [(rk_some e).1]; have := packOk_iff.1 (readPack_ok e); omega

theorem toL_nil {s : ByteArray} : s.toList = [] ↔ s.size = 0 := by
  have h := @size0 s
  have e : (ByteArray.mk #[]).toList = [] := by simp
  rw [e, Bool.eq_iff_iff, beq_iff_eq, decide_eq_true_iff] at h
  exact h
theorem take_body_size (l : Link) (p : Packet) : (linkTake l p).2.size ≤ 6000 := by
  unfold linkTake
  split
  · rename_i h
    rw [Bool.and_eq_true] at h
    dsimp only
    split
    · exact packOk_body h.2
    · exact Nat.zero_le _
  · exact Nat.zero_le _
--@ct (*impl.Pair).carry blk0s+c1+c2 implCarry_ct _ _ _ _ _ _ _ _ _ _ _ _ _ _ _ _ !o !c1o !c2o (Int.toNat_of_nonneg ?_).symm ?_ ?_ ?_ ?_ ?_ |  | rintro _ A# ⟨cn#, AE#, AN#, AH#, rfl, rfl, oE#, oN#, oH#⟩ ;; refine ⟨_, _, [AE#, AN#, AH#], rfl, perm3', ?_⟩
theorem perm3' {e : Nat × Obj} {A B C : Hp} : (e :: (A ++ B ++ C)).Perm (e :: [A, B, C].flatten) := by simp
theorem implCarry_ct (q : Nat) (at' : Int) (k : Nat) (ends : List Link) (net : List ByteArray) (heard : List (List ByteArray)) (be bn bh : Option Addr) (ce cn ch : Nat) (v3 : Value) (AE AN AH : Hp)
    (hE : (gSl 45 gLink).ow [.slice be ends.length ce] ends AE) (hN : (gSl 9 gS).ow [.slice bn net.length cn] net AN) (hH : (gSl 27 (gSl 9 gS)).ow [.slice bh heard.length ch] heard AH)
    (hk : at' = k) (hk2 : k < net.length) (hnl : net.length ≤ 200) (hns : ∀ t ∈ net, t.size ≤ 20004) (hes : ∀ i, i < ends.length → gLink.sz (ends[i]?.getD default) ≤ 1048576) (hhs : ∀ i, i < heard.length → (heard[i]?.getD default).length ≤ 1000000) :
    CtR Try.prog 39 [.pointer (some ⟨q, 0, none⟩), .int .i64 at'] ((q, Obj.cells ⟨[.slice be ends.length ce, .slice bn net.length cn, .slice bh heard.length ch, v3]⟩ 31) :: (AE ++ AN ++ AH)) (fun _ => True)
      (fun v D => ∃ cn AE AN AH, v = .bool (readPack (net[k]?.getD .empty)).isSome ∧ D = (q, Obj.cells ⟨[.slice be (earE ends heard (readPack (net[k]?.getD .empty))).length ce, .slice bn (net.eraseIdx k).length cn, .slice bh (earH ends heard (readPack (net[k]?.getD .empty))).length ch, v3]⟩ 31) :: (AE ++ AN ++ AH) ∧
        (gSl 45 gLink).ow [.slice be (earE ends heard (readPack (net[k]?.getD .empty))).length ce] (earE ends heard (readPack (net[k]?.getD .empty))) AE ∧ (gSl 9 gS).ow [.slice bn (net.eraseIdx k).length cn] (net.eraseIdx k) AN ∧
        (gSl 27 (gSl 9 gS)).ow [.slice bh (earH ends heard (readPack (net[k]?.getD .empty))).length ch] (earH ends heard (readPack (net[k]?.getD .empty))) AH) := by
  subst hk
  refine CtR.introB G_ok [.p 0 0, .v (.int .i64 (k : Int))] [⟨q, [.slice be ends.length ce, .slice bn net.length cn, .slice bh heard.length ch, v3], 31⟩] [AE, AN, AH] Try.func39 rfl rfl rfl rfl (by simp [SV.ok]) (by simp [Blk.ent]) fun E H hp => ?_
  have hts : (net[k]?.getD ByteArray.empty).size ≤ 20004 := hns _ (by rw [List.getElem?_eq_getElem hk2]; exact List.getElem_mem hk2)
  have hto := rk_to (net[k]?.getD .empty)
  refine idx_rd (Gt.owrd _ hN) ?_ ?_ fun b0 o0 hb0 => ?_
  · omega
  · omega
  refine load_allN ByteArray.empty (k) rfl (Gt.owrd _ hN) ?_ ?_ hb0 rfl (mem_at 1 rfl) fun l1 hl1 => ?_
  · omega
  · omega
  obtain ⟨rfl, hw1⟩ := hl1; simp only [flStr, flInt, okI] at hw1
  refine callR_at 1 rfl (deleteS_ct _ _ _ _ _ _ k hN rfl ?_ ?_ ?_) trivial ?_
  · exact wrap_of (by omega) (by omega)
  · trivial
  · omega
  rintro _ A2 ⟨rfl, o2⟩
  refine call_val (implReadPacket_ct _ ?_) trivial ?_
  · omega
  rintro _ rfl
  refine VCnew.intro fun x4 => ?_
  refine draw G_ok mixed none (.q 0 (.q 1 (.q 2 (.q 3 (.q 4 (.q 5 (.q 6 (.q 7 (.q 8 (.q 9 (.q 10 (.q 11 (.q 12 (.q 13 (.q 14 (.q 15 (.q 16 (.q 17 (.q 18 (.q 19 (.q 20 (.q 21 (.nil))))))))))))))))))))))) (by decide +kernel) ?_
  refine VCsplit.intro (fun q5 => ?_) (fun q5 => ?_)
  ·
    simp at q5
    (obtain ⟨e1, e2⟩ := ear_none (ends := ends) (heard := heard) (t := net[k]?.getD .empty) (by simp_all); have e3 : (readPack (net[k]?.getD .empty)).isSome = false := (by simp_all); rw [e1, e2, e3]; exact ⟨_, ⟨_, _, _, _, rfl, rfl, hE, by assumption, hH⟩, (.le fun a => by (try simp only [setR, List.cons_append, List.nil_append]); simp [List.count_cons, Blk.ent, idOf]; try omega)⟩)
  ·
    simp at q5
    refine VCsplit.intro (fun q6 => ?_) (fun q6 => ?_)
    ·
      simp at q6
      (obtain ⟨e1, e2⟩ := ear_out (ends := ends) (heard := heard) (t := net[k]?.getD .empty) (by omega); have e3 : (readPack (net[k]?.getD .empty)).isSome = true := (by simp_all); rw [e1, e2, e3]; exact ⟨_, ⟨_, _, _, _, rfl, rfl, hE, by assumption, hH⟩, (.le fun a => by (try simp only [setR, List.cons_append, List.nil_append]); simp [List.count_cons, Blk.ent, idOf]; try omega)⟩)
    ·
      simp at q6
      refine VCsplit.intro (fun q7 => ?_) (fun q7 => ?_)
      ·
        simp at q7
        (obtain ⟨e1, e2⟩ := ear_out (ends := ends) (heard := heard) (t := net[k]?.getD .empty) (by omega); have e3 : (readPack (net[k]?.getD .empty)).isSome = true := (by simp_all); rw [e1, e2, e3]; exact ⟨_, ⟨_, _, _, _, rfl, rfl, hE, by assumption, hH⟩, (.le fun a => by (try simp only [setR, List.cons_append, List.nil_append]); simp [List.count_cons, Blk.ent, idOf]; try omega)⟩)
      ·
        simp at q7
        refine draw G_ok mixed (some 20) (.q 0 (.q 1 (.q 2 (.q 3 (.q 4 (.q 5 (.q 6 (.q 7 (.q 8 (.q 9 (.q 10 (.q 11 (.q 12 (.q 13 (.q 14 (.f 15 (.q 16 (.q 17 (.q 18 (.q 19 (.tl 20 (.f 21 (.nil))))))))))))))))))))))) (by decide +kernel) ?_
        refine idx_rd (Gt.owrd _ hE) ?_ ?_ fun b8 o8 hb8 => ?_
        · omega
        · trivial
        refine load_all default (Gt.owrd _ hE) ?_ ?_ hb8 rfl (mem_at 0 rfl) fun l9 hl9 => ?_
        · omega
        · trivial
        obtain ⟨b0x9, c0x9, rfl, h0x9, w1x9, w2x9⟩ := gLink_rd.1 hl9
        refine call_new (implLinkTake_ct _ (ends[(rkR (net[k]?.getD ByteArray.empty)).to.toNat]?.getD default) _ (rkR (net[k]?.getD .empty)) ?_) ⟨(Rp.mono _ (mem_at 0 rfl) hl9), rk_rd _⟩ ?_
        · simp_all
        rintro v10 A10 o10
        obtain ⟨l10, rfl, o10⟩ := o10
        have r10 := Gt.owrd _ o10
        obtain ⟨b0x10, c0x10, rfl, h0x10, w1x10, w2x10⟩ := gLink_rd.1 r10
        refine VC.intro ?_ ?_
        · exact keep_new
        refine idx_rd (Gt.owrd _ hE) ?_ ?_ fun b11 o11 hb11 => ?_
        · omega
        · trivial
        refine gstore1N (Int.toNat ((rkR (net[k]?.getD ByteArray.empty)).to)) (AE) (A10) [A2, AH, H] (.le fun a => by (try simp only [setR, List.cons_append, List.nil_append]); simp only [List.flatten_append, List.flatten_cons, List.flatten_nil, List.count_append, List.count_nil, List.append_nil, List.nil_append]; omega) (Int.toNat_of_nonneg ?_).symm hE ?_ ?_ hb11 rfl _ o10 fun A12 o12 => ?_
        · omega
        · omega
        · trivial
        refine VCsplit.intro (fun q13 => ?_) (fun q13 => ?_)
        ·
          simp at q13
          obtain ⟨lH, AfH, ArH, hpH, howH, hhH⟩ := hole_of [] (rkR (net[k]?.getD .empty)).to.toNat hH (by omega)
          obtain ⟨bq, cq, rfl, -⟩ := sl_rd (Gt.owrd _ howH)
          refine draw G_ok mixed none (.q 0 (.q 1 (.q 2 (.qb 3 (.q 4 (.qb 5 (.q 6 (.q 7 (.q 8 (.qb 9 (.q 10 (.qb 11 (.qb 12 (.q 14 (.hd (.alt 13 (.f 15 (.f 16 (.f 17 (.f 18 .nil)))) (.alt 15 (.f 13 (.f 16 (.f 17 (.f 18 .nil)))) .nil))))))))))))))))) (by decide +kernel) ?_
          refine VC.intro ?_ ?_
          · exact fun _ h => h
          refine VC.intro ?_ ?_
          · exact fun _ h => h
          refine VC.intro ?_ ?_
          · exact fun _ h => h
          refine VC.intro ?_ ?_
          · exact fun _ h => h
          refine idx_rd (Gt.owrd _ hH) ?_ ?_ fun b14 o14 hb14 => ?_
          · omega
          · trivial
          refine VC.intro ?_ ?_
          ·
            refine hole_load hhH (Int.toNat_of_nonneg hto.1).symm (by assumption) rfl rfl (by first | exact fun p hp => mem_at 2 rfl p (hpH.mem_iff.2 (List.mem_append_right _ hp)) | exact fun p hp => mem_at 3 rfl p (hpH.mem_iff.2 (List.mem_append_right _ hp))) ?_
            refine VC.intro ?_ ?_
            · exact fun p hp => List.mem_append_left _ hp
            refine VCnew.intro fun x15 => ?_
            refine VC.intro ?_ ?_
            · exact fun p hp => List.mem_append_left _ hp
            refine gappend1 (g := gS) (T := 9) G_ok AfH [] [A12, A2, ArH, H] (rle_hole hpH) howH (gS_ow ?_) (List.mem_of_getElem? (i := 0) rfl) rfl rfl rfl rfl rfl rfl rfl rfl ?_ fun bZ cZ AZ oZ => ?_
            · exact Nat.le_trans (take_body_size _ _) (by decide)
            · grind
            refine VC.intro ?_ ?_
            · exact fun p hp => List.mem_append_left _ hp
            refine idx_rd (Gt.owrd _ hH) ?_ ?_ fun b16 o16 hb16 => ?_
            · omega
            · trivial
            refine hole_store AZ [A12, A2, H] hhH (.le fun a => by (try simp only [setR, List.cons_append, List.nil_append]); simp only [List.flatten_append, List.flatten_cons, List.flatten_nil, List.count_append, List.count_nil, List.append_nil, List.nil_append]; omega) (Int.toNat_of_nonneg hto.1).symm (by assumption) rfl _ oZ fun AW oW => ?_
            refine VC.intro ?_ ?_
            · exact fun p hp => List.mem_append_left _ hp
            (obtain ⟨e1, e2⟩ := ear_in (ends := ends) (heard := heard) (t := (net[k]?.getD .empty)) (by assumption) (by omega) (by omega); have e3 : (readPack (net[k]?.getD .empty)).isSome = true := (by assumption); rw [e1, e2, if_neg (mt toL_nil.2 (by assumption)), List.length_set, List.length_set, e3]; exact ⟨_, ⟨_, _, _, _, rfl, rfl, by assumption, by assumption, oW⟩, (.le fun a => by (try simp only [setR, List.cons_append, List.nil_append]); simp [List.count_cons, Blk.ent, idOf]; try omega)⟩)
          ·
            refine VC.intro ?_ ?_
            ·
              refine VCnew.intro fun x17 => ?_
              refine VC.intro ?_ ?_
              · exact fun p hp => List.mem_append_left _ hp
              refine hole_load hhH (Int.toNat_of_nonneg hto.1).symm (by assumption) rfl rfl (by first | exact fun p hp => mem_at 2 rfl p (hpH.mem_iff.2 (List.mem_append_right _ hp)) | exact fun p hp => mem_at 3 rfl p (hpH.mem_iff.2 (List.mem_append_right _ hp))) ?_
              refine gappend1 (g := gS) (T := 9) G_ok AfH [] [A12, A2, ArH, H] (rle_hole hpH) howH (gS_ow ?_) (List.mem_of_getElem? (i := 0) rfl) rfl rfl rfl rfl rfl rfl rfl rfl ?_ fun bZ cZ AZ oZ => ?_
              · exact Nat.le_trans (take_body_size _ _) (by decide)
              · grind
              refine VC.intro ?_ ?_
              · exact fun p hp => List.mem_append_left _ hp
              refine idx_rd (Gt.owrd _ hH) ?_ ?_ fun b18 o18 hb18 => ?_
              · omega
              · trivial
              refine hole_store AZ [A12, A2, H] hhH (.le fun a => by (try simp only [setR, List.cons_append, List.nil_append]); simp only [List.flatten_append, List.flatten_cons, List.flatten_nil, List.count_append, List.count_nil, List.append_nil, List.nil_append]; omega) (Int.toNat_of_nonneg hto.1).symm (by assumption) rfl _ oZ fun AW oW => ?_
              refine VC.intro ?_ ?_
              · exact fun p hp => List.mem_append_left _ hp
              (obtain ⟨e1, e2⟩ := ear_in (ends := ends) (heard := heard) (t := (net[k]?.getD .empty)) (by assumption) (by omega) (by omega); have e3 : (readPack (net[k]?.getD .empty)).isSome = true := (by assumption); rw [e1, e2, if_neg (mt toL_nil.2 (by assumption)), List.length_set, List.length_set, e3]; exact ⟨_, ⟨_, _, _, _, rfl, rfl, by assumption, by assumption, oW⟩, (.le fun a => by (try simp only [setR, List.cons_append, List.nil_append]); simp [List.count_cons, Blk.ent, idOf]; try omega)⟩)
            ·
              exact trivial
        ·
          simp at q13
          (obtain ⟨e1, e2⟩ := ear_in (ends := ends) (heard := heard) (t := (net[k]?.getD .empty)) (by assumption) (by omega) (by omega); have e3 : (readPack (net[k]?.getD .empty)).isSome = true := (by assumption); rw [e1, e2, if_pos (toL_nil.1 (by assumption)), List.length_set, e3]; exact ⟨_, ⟨_, _, _, _, rfl, rfl, by assumption, by assumption, hH⟩, (.le fun a => by (try simp only [setR, List.cons_append, List.nil_append]); simp [List.count_cons, Blk.ent, idOf]; try omega)⟩)

end Go.Proofs.Ytmmmjikanmgpfaa

namespace Go.Proofs.Ytmmmjikanmgpfaa
open Go.SX Go.Proofs
set_option linter.unusedSimpArgs false
set_option linter.unusedVariables false
set_option maxHeartbeats 4000000
attribute [local irreducible] IntKind.wrap

def carB (ends : List Link) (heard : List (List ByteArray)) : Option Packet → Bool
  | none => false
  | some x => decide (inEnds ends heard x)
theorem carB_none {ends : List Link} {heard : List (List ByteArray)} {t : ByteArray} (h : (readPack t).isSome = false) : carB ends heard (readPack t) = false := by
  cases e : readPack t with
  | none => rfl
  | some x => rw [e] at h; cases h
theorem carB_out {ends : List Link} {heard : List (List ByteArray)} {t : ByteArray} (h : ¬ ((rkR t).to.toNat < ends.length ∧ (rkR t).to.toNat < heard.length)) : carB ends heard (readPack t) = false := by
  cases e : readPack t with
  | none => rfl
  | some x =>
    rw [(rk_some e).1] at h
    exact decide_eq_false h
theorem carB_in {ends : List Link} {heard : List (List ByteArray)} {t : ByteArray} (h0 : (readPack t).isSome = true) (h1 : (rkR t).to.toNat < ends.length) (h2 : (rkR t).to.toNat < heard.length) : carB ends heard (readPack t) = true := by
  rw [rk_is h0]; exact decide_eq_true ⟨h1, h2⟩
theorem ear_none2 {ends : List Link} {heard : List (List ByteArray)} {t : ByteArray} (h : (readPack t).isSome = false) : earE ends heard (readPack t) = ends ∧ earH ends heard (readPack t) = heard := by
  cases e : readPack t with
  | none => exact ⟨rfl, rfl⟩
  | some x => rw [e] at h; cases h
open Classical in
theorem rle_hole2 {X A1 A Af Ar H : Hp} (h : A.Perm (Af ++ Ar)) : RLe (X :: A1 :: A :: [H]) (Af :: [] :: [A1, Ar, H]) := .le fun a => by
  have := h.count_eq a
  simp only [List.count_append] at this
  simp only [List.flatten_cons, List.flatten_nil, List.count_append, List.count_nil, List.append_nil, List.nil_append]
  omega
--@ct spec.l19Carry blk0s+c2 l19Carry_ct _ _ _ _ _ _ _ _ _ _ _ _ !o !c2o ?_ ?_ ?_ ?_ |  | rintro _ A# ⟨AE#, AH#, rfl, rfl, oE#, oH#⟩ ;; refine ⟨_, _, [AE#, AH#], rfl, perm2', ?_⟩
theorem perm2' {e : Nat × Obj} {A B : Hp} : (e :: (A ++ B)).Perm (e :: [A, B].flatten) := by simp
theorem l19Carry_ct (q : Nat) (t : ByteArray) (ends : List Link) (heard : List (List ByteArray)) (be bh : Option Addr) (ce ch : Nat) (v1 v3 : Value) (AE AH : Hp)
    (hE : (gSl 45 gLink).ow [.slice be ends.length ce] ends AE) (hH : (gSl 27 (gSl 9 gS)).ow [.slice bh heard.length ch] heard AH)
    (hts : t.size ≤ 20004) (hel : ends.length ≤ 2) (hes : ∀ i, i < ends.length → gLink.sz (ends[i]?.getD default) ≤ 1048576) (hhs : ∀ i, i < heard.length → (heard[i]?.getD default).length ≤ 1000000) :
    CtR Try.prog 43 [.pointer (some ⟨q, 0, none⟩), .string t] ((q, Obj.cells ⟨[.slice be ends.length ce, v1, .slice bh heard.length ch, v3]⟩ 31) :: (AE ++ AH)) (fun _ => True)
      (fun v D => ∃ AE AH, v = .bool (carB ends heard (readPack t)) ∧ D = (q, Obj.cells ⟨[.slice be (earE ends heard (readPack t)).length ce, v1, .slice bh (earH ends heard (readPack t)).length ch, v3]⟩ 31) :: (AE ++ AH) ∧
        (gSl 45 gLink).ow [.slice be (earE ends heard (readPack t)).length ce] (earE ends heard (readPack t)) AE ∧
        (gSl 27 (gSl 9 gS)).ow [.slice bh (earH ends heard (readPack t)).length ch] (earH ends heard (readPack t)) AH) := by
  refine CtR.introB G_ok [.p 0 0, .v (.string t)] [⟨q, [.slice be ends.length ce, v1, .slice bh heard.length ch, v3], 31⟩] [AE, AH] Try.func43 rfl rfl rfl rfl (by simp [SV.ok]) (by simp [Blk.ent]) fun E H hp => ?_
  have hto := rk_to t
  refine call_val (specReadPacket_ct _ ?_) trivial ?_
  · omega
  rintro _ rfl
  refine VCnew.intro fun x1 => ?_
  refine draw G_ok mixed none (.q 0 (.q 1 (.q 2 (.q 3 (.q 4 (.f 5 (.q 6 (.q 7 (.q 8 (.q 9 (.q 10 (.q 11 (.q 12 (.q 13 (.q 14 (.q 15 (.q 16 (.q 17 (.q 18 (.q 19 (.q 20 (.q 21 (.q 22 (.q 23 (.q 24 (.q 25 (.q 26 (.q 27 (.nil))))))))))))))))))))))))))))) (by decide +kernel) ?_
  refine VCsplit.intro (fun q2 => ?_) (fun q2 => ?_)
  ·
    simp at q2
    (have e3 : (readPack t).isSome = false := (by simp_all); obtain ⟨e1, e2⟩ := ear_none2 (ends := ends) (heard := heard) e3; rw [e1, e2, carB_none e3]; exact ⟨_, ⟨_, _, rfl, rfl, hE, hH⟩, (.le fun a => by (try simp only [setR, List.cons_append, List.nil_append]); simp [List.count_cons, Blk.ent, idOf]; try omega)⟩)
  ·
    simp at q2
    refine call_val (l01In_ct _ _ _) trivial ?_
    rintro _ rfl
    refine VC.intro ?_ ?_
    · exact fun _ h => h
    refine VCsplit.intro (fun q4 => ?_) (fun q4 => ?_)
    ·
      simp at q4
      have iq4 := mt inR_iff.2 (Bool.eq_false_iff.1 q4)
      (obtain ⟨e1, e2⟩ := ear_out (ends := ends) (heard := heard) (t := t) (by omega); rw [e1, e2, carB_out (by omega)]; exact ⟨_, ⟨_, _, rfl, rfl, hE, hH⟩, (.le fun a => by (try simp only [setR, List.cons_append, List.nil_append]); simp [List.count_cons, Blk.ent, idOf]; try omega)⟩)
    ·
      simp at q4
      have iq4 := inR_iff.1 q4
      refine VCsplit.intro (fun q5 => ?_) (fun q5 => ?_)
      ·
        simp at q5
        (obtain ⟨e1, e2⟩ := ear_out (ends := ends) (heard := heard) (t := t) (by omega); rw [e1, e2, carB_out (by omega)]; exact ⟨_, ⟨_, _, rfl, rfl, hE, hH⟩, (.le fun a => by (try simp only [setR, List.cons_append, List.nil_append]); simp [List.count_cons, Blk.ent, idOf]; try omega)⟩)
      ·
        simp at q5
        refine VCsplit.intro (fun q6 => ?_) (fun q6 => ?_)
        ·
          simp at q6
          (obtain ⟨e1, e2⟩ := ear_out (ends := ends) (heard := heard) (t := t) (by omega); rw [e1, e2, carB_out (by omega)]; exact ⟨_, ⟨_, _, rfl, rfl, hE, hH⟩, (.le fun a => by (try simp only [setR, List.cons_append, List.nil_append]); simp [List.count_cons, Blk.ent, idOf]; try omega)⟩)
        ·
          simp at q6
          refine draw G_ok mixed (some 14) (.q 0 (.q 1 (.q 2 (.q 3 (.q 4 (.q 5 (.q 6 (.q 7 (.q 8 (.hd (.alt 9 (.q 10 (.q 11 (.q 12 (.f 13 (.tl 14 (.f 15 (.nil))))))) (.alt 13 (.f 9 (.q 10 (.q 11 (.q 12 (.tl 14 (.f 15 (.nil))))))) (.nil))))))))))))) (by decide +kernel) ?_
          refine idx_rd (Gt.owrd _ hE) ?_ ?_ fun b7 o7 hb7 => ?_
          · omega
          · trivial
          refine load_all default (Gt.owrd _ hE) ?_ ?_ hb7 rfl (mem_at 0 rfl) fun l8 hl8 => ?_
          · omega
          · trivial
          obtain ⟨b0x8, c0x8, rfl, h0x8, w1x8, w2x8⟩ := gLink_rd.1 hl8
          refine VC.intro ?_ ?_
          ·
            refine call_new (specLinkTake_ct _ (ends[(rkR t).to.toNat]?.getD default) _ (rkR t) ?_) ⟨(Rp.mono _ (mem_at 0 rfl) hl8), rk_rd _⟩ ?_
            · simp_all
            rintro v9 A9 o9
            obtain ⟨l9, rfl, o9⟩ := o9
            have r9 := Gt.owrd _ o9
            obtain ⟨b0x9, c0x9, rfl, h0x9, w1x9, w2x9⟩ := gLink_rd.1 r9
            refine VC.intro ?_ ?_
            · exact keep_new
            refine VCnew.intro fun x10 => ?_
            refine VC.intro ?_ ?_
            · exact keep_sub (by simp) (by simp)
            refine draw G_ok mixed (some 8) (.q 0 (.q 1 (.q 2 (.q 3 (.q 4 (.q 5 (.q 6 (.q 7 (.tl 8 (.nil)))))))))) (by decide +kernel) ?_
            refine idx_rd (Gt.owrd _ hE) ?_ ?_ fun b11 o11 hb11 => ?_
            · omega
            · trivial
            refine gstore1N (Int.toNat ((rkR t).to)) (AE) (A9) [AH, H] (.le fun a => by (try simp only [setR, List.cons_append, List.nil_append]); simp only [List.flatten_append, List.flatten_cons, List.flatten_nil, List.count_append, List.count_nil, List.append_nil, List.nil_append]; omega) (Int.toNat_of_nonneg ?_).symm hE ?_ ?_ hb11 rfl _ o9 fun A12 o12 => ?_
            · omega
            · omega
            · trivial
            refine VCsplit.intro (fun q13 => ?_) (fun q13 => ?_)
            ·
              simp at q13
              obtain ⟨lH, AfH, ArH, hpH, howH, hhH⟩ := hole_of [] (rkR t).to.toNat hH (by omega)
              obtain ⟨bq, cq, rfl, -⟩ := sl_rd (Gt.owrd _ howH)
              refine draw G_ok mixed none (.q 0 (.q 1 (.q 2 (.qb 3 (.q 4 (.qb 5 (.q 6 (.q 7 (.q 8 (.qb 9 (.q 10 (.qb 11 (.qb 12 (.q 14 (.hd (.alt 13 (.f 15 (.f 16 (.f 17 (.f 18 .nil)))) (.alt 15 (.f 13 (.f 16 (.f 17 (.f 18 .nil)))) .nil))))))))))))))))) (by decide +kernel) ?_
              refine VC.intro ?_ ?_
              · exact fun _ h => h
              refine VC.intro ?_ ?_
              · exact fun _ h => h
              refine VC.intro ?_ ?_
              · exact fun _ h => h
              refine VC.intro ?_ ?_
              · exact fun _ h => h
              refine idx_rd (Gt.owrd _ hH) ?_ ?_ fun b14 o14 hb14 => ?_
              · omega
              · trivial
              refine VC.intro ?_ ?_
              ·
                refine hole_load hhH (Int.toNat_of_nonneg hto.1).symm (by assumption) rfl rfl (by first | exact fun p hp => mem_at 1 rfl p (hpH.mem_iff.2 (List.mem_append_right _ hp)) | exact fun p hp => mem_at 2 rfl p (hpH.mem_iff.2 (List.mem_append_right _ hp))) ?_
                refine VC.intro ?_ ?_
                · exact fun p hp => List.mem_append_left _ hp
                refine VCnew.intro fun x15 => ?_
                refine VC.intro ?_ ?_
                · exact fun p hp => List.mem_append_left _ hp
                refine gappend1 (g := gS) (T := 9) G_ok AfH [] [A12, ArH, H] (rle_hole2 hpH) howH (gS_ow ?_) (List.mem_of_getElem? (i := 0) rfl) rfl rfl rfl rfl rfl rfl rfl rfl ?_ fun bZ cZ AZ oZ => ?_
                · exact Nat.le_trans (take_body_size _ _) (by decide)
                · grind
                refine VC.intro ?_ ?_
                · exact fun p hp => List.mem_append_left _ hp
                refine idx_rd (Gt.owrd _ hH) ?_ ?_ fun b16 o16 hb16 => ?_
                · omega
                · trivial
                refine hole_store AZ [A12, H] hhH (.le fun a => by (try simp only [setR, List.cons_append, List.nil_append]); simp only [List.flatten_append, List.flatten_cons, List.flatten_nil, List.count_append, List.count_nil, List.append_nil, List.nil_append]; omega) (Int.toNat_of_nonneg hto.1).symm (by assumption) rfl _ oZ fun AW oW => ?_
                refine VC.intro ?_ ?_
                · exact fun p hp => List.mem_append_left _ hp
                (obtain ⟨e1, e2⟩ := ear_in (ends := ends) (heard := heard) (t := t) (by assumption) (by omega) (by omega); rw [e1, e2, if_neg (mt toL_nil.2 (by assumption)), List.length_set, List.length_set, carB_in (by assumption) (by omega) (by omega)]; exact ⟨_, ⟨_, _, rfl, rfl, by assumption, oW⟩, (.le fun a => by (try simp only [setR, List.cons_append, List.nil_append]); simp [List.count_cons, Blk.ent, idOf]; try omega)⟩)
              ·
                refine VC.intro ?_ ?_
                ·
                  refine VCnew.intro fun x17 => ?_
                  refine VC.intro ?_ ?_
                  · exact fun p hp => List.mem_append_left _ hp
                  refine hole_load hhH (Int.toNat_of_nonneg hto.1).symm (by assumption) rfl rfl (by first | exact fun p hp => mem_at 1 rfl p (hpH.mem_iff.2 (List.mem_append_right _ hp)) | exact fun p hp => mem_at 2 rfl p (hpH.mem_iff.2 (List.mem_append_right _ hp))) ?_
                  refine gappend1 (g := gS) (T := 9) G_ok AfH [] [A12, ArH, H] (rle_hole2 hpH) howH (gS_ow ?_) (List.mem_of_getElem? (i := 0) rfl) rfl rfl rfl rfl rfl rfl rfl rfl ?_ fun bZ cZ AZ oZ => ?_
                  · exact Nat.le_trans (take_body_size _ _) (by decide)
                  · grind
                  refine VC.intro ?_ ?_
                  · exact fun p hp => List.mem_append_left _ hp
                  refine idx_rd (Gt.owrd _ hH) ?_ ?_ fun b18 o18 hb18 => ?_
                  · omega
                  · trivial
                  refine hole_store AZ [A12, H] hhH (.le fun a => by (try simp only [setR, List.cons_append, List.nil_append]); simp only [List.flatten_append, List.flatten_cons, List.flatten_nil, List.count_append, List.count_nil, List.append_nil, List.nil_append]; omega) (Int.toNat_of_nonneg hto.1).symm (by assumption) rfl _ oZ fun AW oW => ?_
                  refine VC.intro ?_ ?_
                  · exact fun p hp => List.mem_append_left _ hp
                  (obtain ⟨e1, e2⟩ := ear_in (ends := ends) (heard := heard) (t := t) (by assumption) (by omega) (by omega); rw [e1, e2, if_neg (mt toL_nil.2 (by assumption)), List.length_set, List.length_set, carB_in (by assumption) (by omega) (by omega)]; exact ⟨_, ⟨_, _, rfl, rfl, by assumption, oW⟩, (.le fun a => by (try simp only [setR, List.cons_append, List.nil_append]); simp [List.count_cons, Blk.ent, idOf]; try omega)⟩)
                ·
                  exact trivial
            ·
              simp at q13
              (obtain ⟨e1, e2⟩ := ear_in (ends := ends) (heard := heard) (t := t) (by assumption) (by omega) (by omega); rw [e1, e2, if_pos (toL_nil.1 (by assumption)), List.length_set, carB_in (by assumption) (by omega) (by omega)]; exact ⟨_, ⟨_, _, rfl, rfl, by assumption, hH⟩, (.le fun a => by (try simp only [setR, List.cons_append, List.nil_append]); simp [List.count_cons, Blk.ent, idOf]; try omega)⟩)
          ·
            refine VC.intro ?_ ?_
            ·
              refine VCnew.intro fun x19 => ?_
              refine VC.intro ?_ ?_
              · exact keep_sub (by simp) (by simp)
              refine call_new (specLinkTake_ct _ (ends[(rkR t).to.toNat]?.getD default) _ (rkR t) ?_) ⟨(Rp.mono _ (mem_at 0 rfl) hl8), rk_rd _⟩ ?_
              · simp_all
              rintro v20 A20 o20
              obtain ⟨l20, rfl, o20⟩ := o20
              have r20 := Gt.owrd _ o20
              obtain ⟨b0x20, c0x20, rfl, h0x20, w1x20, w2x20⟩ := gLink_rd.1 r20
              refine VC.intro ?_ ?_
              · exact keep_sub (by simp) (by simp)
              refine draw G_ok mixed (some 8) (.q 0 (.q 1 (.q 2 (.q 3 (.q 4 (.q 5 (.q 6 (.q 7 (.tl 8 (.nil)))))))))) (by decide +kernel) ?_
              refine idx_rd (Gt.owrd _ hE) ?_ ?_ fun b21 o21 hb21 => ?_
              · omega
              · trivial
              refine gstore1N (Int.toNat ((rkR t).to)) (AE) (A20) [AH, H] (.le fun a => by (try simp only [setR, List.cons_append, List.nil_append]); simp only [List.flatten_append, List.flatten_cons, List.flatten_nil, List.count_append, List.count_nil, List.append_nil, List.nil_append]; omega) (Int.toNat_of_nonneg ?_).symm hE ?_ ?_ hb21 rfl _ o20 fun A22 o22 => ?_
              · omega
              · omega
              · trivial
              refine VCsplit.intro (fun q23 => ?_) (fun q23 => ?_)
              ·
                simp at q23
                obtain ⟨lH, AfH, ArH, hpH, howH, hhH⟩ := hole_of [] (rkR t).to.toNat hH (by omega)
                obtain ⟨bq, cq, rfl, -⟩ := sl_rd (Gt.owrd _ howH)
                refine draw G_ok mixed none (.q 0 (.q 1 (.q 2 (.qb 3 (.q 4 (.qb 5 (.q 6 (.q 7 (.q 8 (.qb 9 (.q 10 (.qb 11 (.qb 12 (.q 14 (.hd (.alt 13 (.f 15 (.f 16 (.f 17 (.f 18 .nil)))) (.alt 15 (.f 13 (.f 16 (.f 17 (.f 18 .nil)))) .nil))))))))))))))))) (by decide +kernel) ?_
                refine VC.intro ?_ ?_
                · exact fun _ h => h
                refine VC.intro ?_ ?_
                · exact fun _ h => h
                refine VC.intro ?_ ?_
                · exact fun _ h => h
                refine VC.intro ?_ ?_
                · exact fun _ h => h
                refine idx_rd (Gt.owrd _ hH) ?_ ?_ fun b24 o24 hb24 => ?_
                · omega
                · trivial
                refine VC.intro ?_ ?_
                ·
                  refine hole_load hhH (Int.toNat_of_nonneg hto.1).symm (by assumption) rfl rfl (by first | exact fun p hp => mem_at 1 rfl p (hpH.mem_iff.2 (List.mem_append_right _ hp)) | exact fun p hp => mem_at 2 rfl p (hpH.mem_iff.2 (List.mem_append_right _ hp))) ?_
                  refine VC.intro ?_ ?_
                  · exact fun p hp => List.mem_append_left _ hp
                  refine VCnew.intro fun x25 => ?_
                  refine VC.intro ?_ ?_
                  · exact fun p hp => List.mem_append_left _ hp
                  refine gappend1 (g := gS) (T := 9) G_ok AfH [] [A22, ArH, H] (rle_hole2 hpH) howH (gS_ow ?_) (List.mem_of_getElem? (i := 0) rfl) rfl rfl rfl rfl rfl rfl rfl rfl ?_ fun bZ cZ AZ oZ => ?_
                  · exact Nat.le_trans (take_body_size _ _) (by decide)
                  · grind
                  refine VC.intro ?_ ?_
                  · exact fun p hp => List.mem_append_left _ hp
                  refine idx_rd (Gt.owrd _ hH) ?_ ?_ fun b26 o26 hb26 => ?_
                  · omega
                  · trivial
                  refine hole_store AZ [A22, H] hhH (.le fun a => by (try simp only [setR, List.cons_append, List.nil_append]); simp only [List.flatten_append, List.flatten_cons, List.flatten_nil, List.count_append, List.count_nil, List.append_nil, List.nil_append]; omega) (Int.toNat_of_nonneg hto.1).symm (by assumption) rfl _ oZ fun AW oW => ?_
                  refine VC.intro ?_ ?_
                  · exact fun p hp => List.mem_append_left _ hp
                  (obtain ⟨e1, e2⟩ := ear_in (ends := ends) (heard := heard) (t := t) (by assumption) (by omega) (by omega); rw [e1, e2, if_neg (mt toL_nil.2 (by assumption)), List.length_set, List.length_set, carB_in (by assumption) (by omega) (by omega)]; exact ⟨_, ⟨_, _, rfl, rfl, by assumption, oW⟩, (.le fun a => by (try simp only [setR, List.cons_append, List.nil_append]); simp [List.count_cons, Blk.ent, idOf]; try omega)⟩)
                ·
                  refine VC.intro ?_ ?_
                  ·
                    refine VCnew.intro fun x27 => ?_
                    refine VC.intro ?_ ?_
                    · exact fun p hp => List.mem_append_left _ hp
                    refine hole_load hhH (Int.toNat_of_nonneg hto.1).symm (by assumption) rfl rfl (by first | exact fun p hp => mem_at 1 rfl p (hpH.mem_iff.2 (List.mem_append_right _ hp)) | exact fun p hp => mem_at 2 rfl p (hpH.mem_iff.2 (List.mem_append_right _ hp))) ?_
                    refine gappend1 (g := gS) (T := 9) G_ok AfH [] [A22, ArH, H] (rle_hole2 hpH) howH (gS_ow ?_) (List.mem_of_getElem? (i := 0) rfl) rfl rfl rfl rfl rfl rfl rfl rfl ?_ fun bZ cZ AZ oZ => ?_
                    · exact Nat.le_trans (take_body_size _ _) (by decide)
                    · grind
                    refine VC.intro ?_ ?_
                    · exact fun p hp => List.mem_append_left _ hp
                    refine idx_rd (Gt.owrd _ hH) ?_ ?_ fun b28 o28 hb28 => ?_
                    · omega
                    · trivial
                    refine hole_store AZ [A22, H] hhH (.le fun a => by (try simp only [setR, List.cons_append, List.nil_append]); simp only [List.flatten_append, List.flatten_cons, List.flatten_nil, List.count_append, List.count_nil, List.append_nil, List.nil_append]; omega) (Int.toNat_of_nonneg hto.1).symm (by assumption) rfl _ oZ fun AW oW => ?_
                    refine VC.intro ?_ ?_
                    · exact fun p hp => List.mem_append_left _ hp
                    (obtain ⟨e1, e2⟩ := ear_in (ends := ends) (heard := heard) (t := t) (by assumption) (by omega) (by omega); rw [e1, e2, if_neg (mt toL_nil.2 (by assumption)), List.length_set, List.length_set, carB_in (by assumption) (by omega) (by omega)]; exact ⟨_, ⟨_, _, rfl, rfl, by assumption, oW⟩, (.le fun a => by (try simp only [setR, List.cons_append, List.nil_append]); simp [List.count_cons, Blk.ent, idOf]; try omega)⟩)
                  ·
                    exact trivial
              ·
                simp at q23
                (obtain ⟨e1, e2⟩ := ear_in (ends := ends) (heard := heard) (t := t) (by assumption) (by omega) (by omega); rw [e1, e2, if_pos (toL_nil.1 (by assumption)), List.length_set, carB_in (by assumption) (by omega) (by omega)]; exact ⟨_, ⟨_, _, rfl, rfl, by assumption, hH⟩, (.le fun a => by (try simp only [setR, List.cons_append, List.nil_append]); simp [List.count_cons, Blk.ent, idOf]; try omega)⟩)
            ·
              exact trivial

end Go.Proofs.Ytmmmjikanmgpfaa

namespace Go.Proofs.Ytmmmjikanmgpfaa
open Go.SX Go.Proofs
set_option maxHeartbeats 1000000

abbrev pushM (p : Pair) (x : Push) : Pair × Bool := pushP packText readPack flipT p x
/-- what holds of a pair throughout a run -/
def PairInv (p : Pair) : Prop := Inv readPack p ∧ (∀ t ∈ p.net, t.size ≤ 20004) ∧ ∀ l ∈ p.ends, ∀ s ∈ l.sent, s.size ≤ 40
theorem szL_gS : ∀ xs : List ByteArray, (∀ s ∈ xs, s.size ≤ 40) → szL gS xs ≤ 41 * xs.length
  | [], _ => Nat.le_refl _
  | x :: r, h => by
    have h1 : gS.sz x = x.size := rfl
    have h2 := h x (List.mem_cons_self ..)
    have h3 := szL_gS r (fun s hs => h s (List.mem_cons_of_mem _ hs))
    simp only [szL, h1, List.length_cons]; omega
theorem pi_sz {p : Pair} (h : PairInv p) : ∀ i, i < p.ends.length → gLink.sz (p.ends[i]?.getD default) ≤ 1048576 := fun i hi => by
  have h1 := linkOk_iff.1 (h.1.ok i (by have := h.1.two; omega))
  have h2 : gLink.sz (p.ends[i]?.getD default) = szL gS (p.ends[i]?.getD default).sent + (0 + 0) := gLink_sz _
  have hm : p.ends[i]?.getD default ∈ p.ends := by rw [List.getElem?_eq_getElem hi]; exact List.getElem_mem hi
  have h4 := szL_gS _ (h.2.2 _ hm)
  have h3 : (p.ends[i]?.getD default).sent.length ≤ 200 := h1.1
  omega
theorem pi_heard {p : Pair} (h : PairInv p) : ∀ i, i < p.heard.length → (p.heard[i]?.getD default).length ≤ 1000000 := fun i hi => by
  have h0 : i < 2 := by have := h.1.two'; omega
  have h1 : (p.heard[i]?.getD default) = _ := h.1.heardIs i h0
  have h2 := linkOk_iff.1 (h.1.ok (1 - i) (by omega))
  rw [h1, List.length_take]
  omega
theorem push_put {p : Pair} {x : Push} (hk : x.kind = 1) : pushM p x = ({ p with ends := p.ends.set x.side.toNat (linkPut (p.ends[x.side.toNat]?.getD default) x.text).1 }, (linkPut (p.ends[x.side.toNat]?.getD default) x.text).2) := by
  unfold pushM pushP
  rw [if_pos hk]
  split
  · rename_i h
    have e : linkPut (p.ends[x.side.toNat]?.getD default) x.text = _ := linkPut_yes h.1 h.2.1 h.2.2
    rw [e]; rfl
  · rename_i h
    have e : linkPut (p.ends[x.side.toNat]?.getD default) x.text = _ := linkPut_no h
    rw [e]
    dsimp only
    have e2 : p.ends.set x.side.toNat (p.ends[x.side.toNat]?.getD default) = p.ends := by
      rcases Nat.lt_or_ge x.side.toNat p.ends.length with h2 | h2
      · rw [List.getElem?_eq_getElem h2, Option.getD_some, List.set_getElem_self]
      · rw [List.set_eq_of_length_le h2]
    rw [e2]
theorem push_tick {p : Pair} {x : Push} (hk : x.kind = 2) (hs : x.side.toNat < p.ends.length) : pushM p x = ({ p with net := tickN p.ends p.net x.side.toNat }, decide (p.net.length < (tickN p.ends p.net x.side.toNat).length)) := by
  have e : (tickP packText p x.side.toNat) = { p with net := tickN p.ends p.net x.side.toNat } := by
    unfold tickP tickN netK
    rw [if_pos hs, List.take_length]; rfl
  unfold pushM pushP
  rw [if_neg (by omega), if_pos hk, e]
theorem push_none {p : Pair} {x : Push} (hk : ¬ x.kind = 1) (hk2 : ¬ x.kind = 2) (hn : p.net.length = 0) : pushM p x = (p, false) := by
  unfold pushM pushP
  rw [if_neg hk, if_neg hk2, if_pos hn]
theorem hear_ear {p : Pair} (hI : PairInv p) {k : Nat} (hk : k < p.net.length) (n : List ByteArray) : hear readPack { p with net := n } (p.net[k]?.getD .empty) = { p with net := n, ends := earE p.ends p.heard (readPack (p.net[k]?.getD .empty)), heard := earH p.ends p.heard (readPack (p.net[k]?.getD .empty)) } ∧
    carB p.ends p.heard (readPack (p.net[k]?.getD .empty)) = (readPack (p.net[k]?.getD .empty)).isSome := by
  have hm : p.net[k]?.getD .empty ∈ p.net := by rw [List.getElem?_eq_getElem hk]; exact List.getElem_mem hk
  cases e : readPack (p.net[k]?.getD .empty) with
  | none => rw [hear_none e]; exact ⟨rfl, rfl⟩
  | some x =>
    have h1 := (hI.1.netOk _ hm x e).1
    have h2 := packOk_iff.1 (readPack_ok e)
    have h3 := hI.1.two
    have h4 := hI.1.two'
    have hin : inEnds p.ends p.heard x := ⟨by omega, by omega⟩
    rw [hear_some e h1]
    refine ⟨?_, decide_eq_true hin⟩
    unfold earE earH
    dsimp only
    rw [if_pos hin, if_pos hin]; rfl
theorem push_carry {p : Pair} (hI : PairInv p) {x : Push} (hk : x.kind = 3) (hn : ¬ p.net.length = 0) : pushM p x = ({ p with net := p.net.eraseIdx (x.at'.toNat % p.net.length), ends := earE p.ends p.heard (readPack (p.net[x.at'.toNat % p.net.length]?.getD .empty)), heard := earH p.ends p.heard (readPack (p.net[x.at'.toNat % p.net.length]?.getD .empty)) }, (readPack (p.net[x.at'.toNat % p.net.length]?.getD .empty)).isSome) := by
  unfold pushM pushP
  rw [if_neg (by omega), if_neg (by omega), if_neg hn, if_pos hk]
  have hlt : x.at'.toNat % p.net.length < p.net.length := Nat.mod_lt _ (by omega)
  have h := (hear_ear hI hlt (p.net.eraseIdx (x.at'.toNat % p.net.length))).1
  have e : textOf p x = p.net[x.at'.toNat % p.net.length]?.getD .empty := rfl
  have e2 : spotOf p x = x.at'.toNat % p.net.length := rfl
  rw [e, e2, h]
theorem push_lose {p : Pair} {x : Push} (hk : x.kind = 4) (hn : ¬ p.net.length = 0) : pushM p x = ({ p with net := p.net.eraseIdx (x.at'.toNat % p.net.length) }, true) := by
  unfold pushM pushP
  rw [if_neg (by omega), if_neg (by omega), if_neg hn, if_neg (by omega), if_pos hk]; rfl
theorem push_twice {p : Pair} {x : Push} (hk : x.kind = 5) (hn : ¬ p.net.length = 0) (h : p.net.length < 200) : pushM p x = ({ p with net := p.net ++ [p.net[x.at'.toNat % p.net.length]?.getD .empty] }, true) := by
  unfold pushM pushP
  rw [if_neg (by omega), if_neg (by omega), if_neg hn, if_neg (by omega), if_neg (by omega), if_pos hk, if_pos h]; rfl
theorem push_full {p : Pair} {x : Push} (hk : x.kind = 5) (hn : ¬ p.net.length = 0) (h : ¬ p.net.length < 200) : pushM p x = (p, false) := by
  unfold pushM pushP
  rw [if_neg (by omega), if_neg (by omega), if_neg hn, if_neg (by omega), if_neg (by omega), if_pos hk, if_neg h]
theorem push_spoil {p : Pair} {x : Push} (hk : x.kind = 6) (hn : ¬ p.net.length = 0) : pushM p x = ({ p with net := p.net.set (x.at'.toNat % p.net.length) (spoilT (p.net[x.at'.toNat % p.net.length]?.getD .empty) x.at'.toNat) }, (readPack (p.net[x.at'.toNat % p.net.length]?.getD .empty)).isSome) := by
  have hlt : x.at'.toNat % p.net.length < p.net.length := Nat.mod_lt _ (by omega)
  unfold pushM pushP
  rw [if_neg (by omega), if_neg (by omega), if_neg hn, if_neg (by omega), if_neg (by omega), if_neg (by omega)]
  have e : textOf p x = p.net[x.at'.toNat % p.net.length]?.getD .empty := rfl
  have e2 : spotOf p x = x.at'.toNat % p.net.length := rfl
  rw [e, e2]
  cases h : (readPack (p.net[x.at'.toNat % p.net.length]?.getD .empty)).isSome with
  | true => rw [if_pos rfl, spoilT_yes h]
  | false =>
    rw [if_neg (by decide), spoilT_no h]
    have e3 : p.net.set (x.at'.toNat % p.net.length) (p.net[x.at'.toNat % p.net.length]?.getD .empty) = p.net := by
      rw [List.getElem?_eq_getElem hlt, Option.getD_some, List.set_getElem_self]
    rw [e3]
theorem flip_size (t : ByteArray) (i : Nat) : (flipT t i).size = t.size := by
  rw [← by_size, ← by_size t]; unfold flipT; rw [by_tx, List.length_set]
theorem spoil_size (t : ByteArray) (i : Nat) : (spoilT t i).size = t.size := by
  unfold spoilT
  split
  · exact flip_size t i
  · rfl
theorem net_sz_tick {ends : List Link} {net : List ByteArray} (h : ∀ t ∈ net, t.size ≤ 20004) (s : Nat) : ∀ t ∈ tickN ends net s, t.size ≤ 20004 := by
  have hk : ∀ (l : List Packet) (net : List ByteArray), (∀ t ∈ net, t.size ≤ 20004) → ∀ t ∈ l.foldl (netAdd packText) net, t.size ≤ 20004 := by
    intro l
    induction l with
    | nil => intro net h; exact h
    | cons x l ih =>
      intro net h
      refine ih _ ?_
      unfold netAdd
      split
      · rename_i h2
        intro t ht
        rcases List.mem_append.1 ht with ht | ht
        · exact h t ht
        · rw [List.mem_singleton.1 ht]; exact packText_size h2.1
      · exact h
  unfold tickN
  split
  · exact hk _ _ h
  · exact h
theorem take_sent (l : Link) (x : Packet) : (linkTake l x).1.sent = l.sent := take_le.2.2
theorem ear_sent {ends : List Link} {heard : List (List ByteArray)} (h : ∀ l ∈ ends, ∀ s ∈ l.sent, s.size ≤ 40) (o : Option Packet) : ∀ l ∈ earE ends heard o, ∀ s ∈ l.sent, s.size ≤ 40 := by
  cases o with
  | none => exact h
  | some x =>
    unfold earE
    dsimp only
    split
    · rename_i hin
      intro l hl
      rcases List.mem_or_eq_of_mem_set hl with hl | rfl
      · exact h l hl
      · rw [take_sent, List.getElem?_eq_getElem hin.1]
        exact h _ (List.getElem_mem hin.1)
    · exact h
theorem push_pi {p : Pair} (hI : PairInv p) {x : Push} (hx : pushOk x = true) : PairInv (pushM p x).1 := by
  have hs := pushOk_side hx
  have h2 := hI.1.two
  have hkk : 1 ≤ x.kind ∧ x.kind ≤ 6 := by
    unfold pushOk at hx
    simp only [Bool.and_eq_true, decide_eq_true_iff] at hx
    exact ⟨hx.1, hx.2.1⟩
  refine ⟨(push_inv (fun x hx => readPack_text hx) (fun t x h => readPack_ok h) (fun t i h => readPack_flip h) hI.1 hx).1, ?_⟩
  by_cases k1 : x.kind = 1
  · rw [push_put k1]
    refine ⟨hI.2.1, fun l hl => ?_⟩
    have hsl : x.side.toNat < p.ends.length := by omega
    have hm : p.ends[x.side.toNat]?.getD default ∈ p.ends := by rw [List.getElem?_eq_getElem hsl]; exact List.getElem_mem hsl
    rcases List.mem_or_eq_of_mem_set hl with hl | rfl
    · exact hI.2.2 l hl
    · unfold linkPut
      split
      · intro s hs2
        rcases List.mem_append.1 hs2 with hs2 | hs2
        · exact hI.2.2 _ hm s hs2
        · rw [List.mem_singleton.1 hs2]; exact (pushOk_text hx k1).2
      · exact hI.2.2 _ hm
  by_cases k2 : x.kind = 2
  · rw [push_tick k2 (by omega)]; exact ⟨net_sz_tick hI.2.1 _, hI.2.2⟩
  by_cases hn : p.net.length = 0
  · rw [push_none k1 k2 hn]; exact hI.2
  have hlt : x.at'.toNat % p.net.length < p.net.length := Nat.mod_lt _ (by omega)
  have hm : p.net[x.at'.toNat % p.net.length]?.getD .empty ∈ p.net := by rw [List.getElem?_eq_getElem hlt]; exact List.getElem_mem hlt
  by_cases k3 : x.kind = 3
  · rw [push_carry hI k3 hn]; exact ⟨fun t ht => hI.2.1 t (List.mem_of_mem_eraseIdx ht), ear_sent hI.2.2 _⟩
  by_cases k4 : x.kind = 4
  · rw [push_lose k4 hn]; exact ⟨fun t ht => hI.2.1 t (List.mem_of_mem_eraseIdx ht), hI.2.2⟩
  by_cases k5 : x.kind = 5
  · by_cases hf : p.net.length < 200
    · rw [push_twice k5 hn hf]
      refine ⟨fun t ht => ?_, hI.2.2⟩
      rcases List.mem_append.1 ht with ht | ht
      · exact hI.2.1 t ht
      · rw [List.mem_singleton.1 ht]; exact hI.2.1 _ hm
    · rw [push_full k5 hn hf]; exact hI.2
  · rw [push_spoil (by omega) hn]
    refine ⟨fun t ht => ?_, hI.2.2⟩
    rcases List.mem_or_eq_of_mem_set ht with ht | ht
    · exact hI.2.1 t ht
    · rw [ht, spoil_size]; exact hI.2.1 _ hm
theorem pi_zero : PairInv pair0 := ⟨inv0 readPack, (fun t ht => by cases ht), fun l hl => by
  rcases List.mem_cons.1 hl with rfl | hl
  · exact fun s hs => by cases hs
  · rw [List.mem_singleton.1 hl]; exact fun s hs => by cases hs⟩

end Go.Proofs.Ytmmmjikanmgpfaa

namespace Go.Proofs.Ytmmmjikanmgpfaa
open Go.SX Go.Proofs
set_option linter.unusedSimpArgs false
set_option linter.unusedVariables false
set_option maxHeartbeats 4000000
attribute [local irreducible] IntKind.wrap

--@ct impl.PushOk val implPushOk_ct _ $1 | %1
theorem pushOk_no {x : Push} (h : pushOk x = true → False) : pushOk x = false := by
  cases e : pushOk x with
  | false => rfl
  | true => exact (h e).elim
theorem pushOk_iff {x : Push} : pushOk x = true ↔ 1 ≤ x.kind ∧ x.kind ≤ 6 ∧ 0 ≤ x.side ∧ x.side ≤ 1 ∧ 0 ≤ x.at' ∧ ((x.kind = 1 ∧ 1 ≤ x.text.size ∧ x.text.size ≤ 40) ∨ (¬ x.kind = 1 ∧ x.text.size = 0)) := by
  unfold pushOk
  simp only [Bool.and_eq_true, decide_eq_true_iff]
  constructor
  · rintro ⟨h1, h2, h3, h4, h5, h6⟩
    refine ⟨h1, h2, h3, h4, h5, ?_⟩
    split at h6
    · rename_i hk; exact .inl ⟨hk, by simpa using h6⟩
    · rename_i hk; exact .inr ⟨hk, by simpa using h6⟩
  · rintro ⟨h1, h2, h3, h4, h5, h6⟩
    refine ⟨h1, h2, h3, h4, h5, ?_⟩
    rcases h6 with ⟨hk, h6⟩ | ⟨hk, h6⟩
    · rw [if_pos hk]; simpa using h6
    · rw [if_neg hk]; simpa using h6
theorem pushOk_text0 {x : Push} (h1 : 1 ≤ x.kind ∧ x.kind ≤ 6) (h2 : 0 ≤ x.side ∧ x.side ≤ 1) (h3 : 0 ≤ x.at') (h4 : ¬ x.kind = 1) : pushOk x = decide (x.text.size = 0) := by
  rw [Bool.eq_iff_iff, pushOk_iff, decide_eq_true_iff]; omega
theorem pushOk_text1 {x : Push} (h1 : 1 ≤ x.kind ∧ x.kind ≤ 6) (h2 : 0 ≤ x.side ∧ x.side ≤ 1) (h3 : 0 ≤ x.at') (h4 : x.kind = 1) : pushOk x = inR 1 40 x.text.size := by
  rw [Bool.eq_iff_iff, pushOk_iff, inR_iff]; omega
--@ct spec.PushOk val specPushOk_ct _ $1 | %1
theorem implPushOk_ct (l : List Value) (x : Push) : Ct Try.prog 14 [.agg ⟨l⟩] [] (fun H => gPush.rd H l x) (fun v A => v = .bool (pushOk x) ∧ A = []) := by
  refine Ct.intro0 G_ok Try.func14 rfl rfl rfl fun E H hp => ?_
  obtain ⟨rfl, w0p, w1p, w2p, w3p⟩ := gPush_rd.1 hp
  refine VCnew.intro fun x0 => ?_
  refine VCsplit.intro (fun q1 => ?_) (fun q1 => ?_)
  ·
    simp at q1
    exact ⟨[], ⟨by rw [pushOk_no fun h => by (have h9 := pushOk_iff.1 h; omega)], rfl⟩, (.le fun a => by (try simp only [setR, List.cons_append, List.nil_append]); simp [List.count_cons, Blk.ent, idOf]; try omega)⟩
  ·
    simp at q1
    refine VCsplit.intro (fun q2 => ?_) (fun q2 => ?_)
    ·
      simp at q2
      exact ⟨[], ⟨by rw [pushOk_no fun h => by (have h9 := pushOk_iff.1 h; omega)], rfl⟩, (.le fun a => by (try simp only [setR, List.cons_append, List.nil_append]); simp [List.count_cons, Blk.ent, idOf]; try omega)⟩
    ·
      simp at q2
      refine VCsplit.intro (fun q3 => ?_) (fun q3 => ?_)
      ·
        simp at q3
        exact ⟨[], ⟨by rw [pushOk_no fun h => by (have h9 := pushOk_iff.1 h; omega)], rfl⟩, (.le fun a => by (try simp only [setR, List.cons_append, List.nil_append]); simp [List.count_cons, Blk.ent, idOf]; try omega)⟩
      ·
        simp at q3
        refine VCsplit.intro (fun q4 => ?_) (fun q4 => ?_)
        ·
          simp at q4
          exact ⟨[], ⟨by rw [pushOk_no fun h => by (have h9 := pushOk_iff.1 h; omega)], rfl⟩, (.le fun a => by (try simp only [setR, List.cons_append, List.nil_append]); simp [List.count_cons, Blk.ent, idOf]; try omega)⟩
        ·
          simp at q4
          refine VCsplit.intro (fun q5 => ?_) (fun q5 => ?_)
          ·
            simp at q5
            exact ⟨[], ⟨by rw [pushOk_no fun h => by (have h9 := pushOk_iff.1 h; omega)], rfl⟩, (.le fun a => by (try simp only [setR, List.cons_append, List.nil_append]); simp [List.count_cons, Blk.ent, idOf]; try omega)⟩
          ·
            simp at q5
            refine VCsplit.intro (fun q6 => ?_) (fun q6 => ?_)
            ·
              simp at q6
              refine VCsplit.intro (fun q7 => ?_) (fun q7 => ?_)
              ·
                simp at q7
                exact ⟨[], ⟨by rw [pushOk_text1 (by omega) (by omega) (by omega) (by omega)]; unfold inR; first | rw [decide_eq_true (by omega : (1 : Int) ≤ (x.text.size : Int)), Bool.true_and] | rw [decide_eq_false (by omega : ¬ (1 : Int) ≤ (x.text.size : Int)), Bool.false_and], rfl⟩, (.le fun a => by (try simp only [setR, List.cons_append, List.nil_append]); simp [List.count_cons, Blk.ent, idOf]; try omega)⟩
              ·
                simp at q7
                exact ⟨[], ⟨by rw [pushOk_text1 (by omega) (by omega) (by omega) (by omega)]; unfold inR; first | rw [decide_eq_true (by omega : (1 : Int) ≤ (x.text.size : Int)), Bool.true_and] | rw [decide_eq_false (by omega : ¬ (1 : Int) ≤ (x.text.size : Int)), Bool.false_and], rfl⟩, (.le fun a => by (try simp only [setR, List.cons_append, List.nil_append]); simp [List.count_cons, Blk.ent, idOf]; try omega)⟩
            ·
              simp at q6
              exact ⟨[], ⟨by rw [pushOk_text0 (by omega) (by omega) (by omega) (by omega)]; exact congrArg Value.bool size0, rfl⟩, (.le fun a => by (try simp only [setR, List.cons_append, List.nil_append]); simp [List.count_cons, Blk.ent, idOf]; try omega)⟩

theorem specPushOk_ct (l : List Value) (x : Push) : Ct Try.prog 31 [.agg ⟨l⟩] [] (fun H => gPush.rd H l x) (fun v A => v = .bool (pushOk x) ∧ A = []) := by
  refine Ct.intro0 G_ok Try.func31 rfl rfl rfl fun E H hp => ?_
  obtain ⟨rfl, w0p, w1p, w2p, w3p⟩ := gPush_rd.1 hp
  refine VCnew.intro fun x0 => ?_
  refine call_val (l01In_ct _ _ _) trivial ?_
  rintro _ rfl
  refine VCsplit.intro (fun q2 => ?_) (fun q2 => ?_)
  ·
    simp at q2
    have iq2 := mt inR_iff.2 (Bool.eq_false_iff.1 q2)
    exact ⟨[], ⟨by rw [pushOk_no fun h => by (have h9 := pushOk_iff.1 h; omega)], rfl⟩, (.le fun a => by (try simp only [setR, List.cons_append, List.nil_append]); simp [List.count_cons, Blk.ent, idOf]; try omega)⟩
  ·
    simp at q2
    have iq2 := inR_iff.1 q2
    refine call_val (l01In_ct _ _ _) trivial ?_
    rintro _ rfl
    refine VCsplit.intro (fun q4 => ?_) (fun q4 => ?_)
    ·
      simp at q4
      have iq4 := mt inR_iff.2 (Bool.eq_false_iff.1 q4)
      exact ⟨[], ⟨by rw [pushOk_no fun h => by (have h9 := pushOk_iff.1 h; omega)], rfl⟩, (.le fun a => by (try simp only [setR, List.cons_append, List.nil_append]); simp [List.count_cons, Blk.ent, idOf]; try omega)⟩
    ·
      simp at q4
      have iq4 := inR_iff.1 q4
      refine VCsplit.intro (fun q5 => ?_) (fun q5 => ?_)
      ·
        simp at q5
        exact ⟨[], ⟨by rw [pushOk_no fun h => by (have h9 := pushOk_iff.1 h; omega)], rfl⟩, (.le fun a => by (try simp only [setR, List.cons_append, List.nil_append]); simp [List.count_cons, Blk.ent, idOf]; try omega)⟩
      ·
        simp at q5
        refine VCsplit.intro (fun q6 => ?_) (fun q6 => ?_)
        ·
          simp at q6
          refine call_val (l01In_ct _ _ _) trivial ?_
          rintro _ rfl
          exact ⟨[], ⟨by rw [pushOk_text1 (by omega) (by omega) (by omega) (by omega)], rfl⟩, (.le fun a => by (try simp only [setR, List.cons_append, List.nil_append]); simp [List.count_cons, Blk.ent, idOf]; try omega)⟩
        ·
          simp at q6
          exact ⟨[], ⟨by rw [pushOk_text0 (by omega) (by omega) (by omega) (by omega)]; exact congrArg Value.bool size0, rfl⟩, (.le fun a => by (try simp only [setR, List.cons_append, List.nil_append]); simp [List.count_cons, Blk.ent, idOf]; try omega)⟩

--@ct (*impl.Pair).push blk0s+c1+c2 implPush_ct _ _ _ $2 _ _ _ _ _ _ _ _ _ _ !o !c1o !c2o ?_ ?_ | %2 | rintro _ A# ⟨be#, ce#, bn#, cn#, bh#, ch#, AE#, AN#, AH#, rfl, rfl, oE#, oN#, oH#⟩ ;; refine ⟨_, _, [AE#, AN#, AH#], rfl, perm3', ?_⟩
theorem implPush_ct (q : Nat) (l2 : List Value) (p : Pair) (x : Push) (be bn bh : Option Addr) (ce cn ch : Nat) (v3 : Value) (AE AN AH : Hp)
    (hE : (gSl 45 gLink).ow [.slice be p.ends.length ce] p.ends AE) (hN : (gSl 9 gS).ow [.slice bn p.net.length cn] p.net AN) (hH : (gSl 27 (gSl 9 gS)).ow [.slice bh p.heard.length ch] p.heard AH)
    (hI : PairInv p) (hx : pushOk x = true) :
    CtR Try.prog 30 [.pointer (some ⟨q, 0, none⟩), .agg ⟨l2⟩] ((q, Obj.cells ⟨[.slice be p.ends.length ce, .slice bn p.net.length cn, .slice bh p.heard.length ch, v3]⟩ 31) :: (AE ++ AN ++ AH)) (fun H => gPush.rd H l2 x)
      (fun v D => ∃ be ce bn cn bh ch AE AN AH, v = .bool (pushM p x).2 ∧ D = (q, Obj.cells ⟨[.slice be (pushM p x).1.ends.length ce, .slice bn (pushM p x).1.net.length cn, .slice bh (pushM p x).1.heard.length ch, v3]⟩ 31) :: (AE ++ AN ++ AH) ∧
        (gSl 45 gLink).ow [.slice be (pushM p x).1.ends.length ce] (pushM p x).1.ends AE ∧ (gSl 9 gS).ow [.slice bn (pushM p x).1.net.length cn] (pushM p x).1.net AN ∧
        (gSl 27 (gSl 9 gS)).ow [.slice bh (pushM p x).1.heard.length ch] (pushM p x).1.heard AH) := by
  refine CtR.introB G_ok [.p 0 0, .v (.agg ⟨l2⟩)] [⟨q, [.slice be p.ends.length ce, .slice bn p.net.length cn, .slice bh p.heard.length ch, v3], 31⟩] [AE, AN, AH] Try.func30 rfl rfl rfl rfl (by simp [SV.ok]) (by simp [Blk.ent]) fun E H hp => ?_
  obtain ⟨rfl, w0x, w1x, w2x, w3x⟩ := gPush_rd.1 hp
  have hxi := pushOk_iff.1 hx
  have h2e := hI.1.two
  have h2h := hI.1.two'
  have hnl := hI.1.netLen
  have hes := pi_sz hI
  have hhs := pi_heard hI
  have hns := hI.2.1
  have hsl : x.side.toNat < p.ends.length := by omega
  refine VCnew.intro fun x0 => ?_
  refine VCsplit.intro (fun q1 => ?_) (fun q1 => ?_)
  ·
    simp at q1
    refine draw G_ok mixed (some 21) (.q 0 (.q 1 (.q 2 (.q 3 (.q 4 (.q 5 (.q 6 (.q 7 (.q 8 (.q 9 (.q 10 (.q 11 (.q 12 (.q 13 (.q 14 (.q 15 (.f 16 (.q 17 (.q 18 (.q 19 (.q 20 (.tl 21 (.f 22 (.nil)))))))))))))))))))))))) (by decide +kernel) ?_
    refine idx_rd (Gt.owrd _ hE) ?_ ?_ fun b2 o2 hb2 => ?_
    · omega
    · omega
    refine load_all default (Gt.owrd _ hE) ?_ ?_ hb2 rfl (mem_at 0 rfl) fun l3 hl3 => ?_
    · omega
    · omega
    obtain ⟨b0x3, c0x3, rfl, h0x3, w1x3, w2x3⟩ := gLink_rd.1 hl3
    refine call_new (implLinkPut_ct _ (p.ends[x.side.toNat]?.getD default) _ ?_ ?_) (Rp.mono _ (mem_at 0 rfl) hl3) ?_
    · simp_all
    · trivial
    rintro v4 A4 o4
    obtain ⟨l4, rfl, o4⟩ := o4
    have r4 := Gt.owrd _ o4
    obtain ⟨b0x4, c0x4, rfl, h0x4, w1x4, w2x4⟩ := gLink_rd.1 r4
    refine VC.intro ?_ ?_
    · exact keep_new
    refine idx_rd (Gt.owrd _ hE) ?_ ?_ fun b5 o5 hb5 => ?_
    · omega
    · omega
    refine gstore1N (Int.toNat (x.side)) (AE) (A4) [AN, AH, H] (.le fun a => by (try simp only [setR, List.cons_append, List.nil_append]); simp only [List.flatten_append, List.flatten_cons, List.flatten_nil, List.count_append, List.count_nil, List.append_nil, List.nil_append]; omega) (Int.toNat_of_nonneg ?_).symm hE ?_ ?_ hb5 rfl _ o4 fun A6 o6 => ?_
    · omega
    · omega
    · omega
    (rw [push_put ‹x.kind = 1›]; dsimp only; rw [List.length_set]; exact ⟨_, ⟨_, _, _, _, _, _, _, _, _, rfl, rfl, by assumption, hN, hH⟩, (.le fun a => by (try simp only [setR, List.cons_append, List.nil_append]); simp [List.count_cons, Blk.ent, idOf]; try omega)⟩)
  ·
    simp at q1
    refine VCsplit.intro (fun q7 => ?_) (fun q7 => ?_)
    ·
      simp at q7
      refine callR_blk 0 (AN) [AE, AH, H] rfl ?_ (implTick_ct _ _ _ _ _ _ _ _ _ _ _ _ hN (Int.toNat_of_nonneg ?_).symm ?_ ?_ ?_) (Rp.mono _ (mem_at 0 rfl) (Gt.owrd _ hE)) ?_
      · exact .le fun a => by (try simp only [setR, List.cons_append, List.nil_append]); simp only [List.flatten_append, List.flatten_cons, List.flatten_nil, List.count_append, List.count_nil, List.append_nil, List.nil_append]; omega
      · omega
      · omega
      · trivial
      · trivial
      rintro _ A8 ⟨bn8, cn8, An8, rfl, rfl, on8⟩
      refine ⟨_, _, [An8], rfl, perm1, ?_⟩
      (rw [push_tick ‹x.kind = 2› hsl]; exact ⟨_, ⟨_, _, _, _, _, _, _, _, _, rfl, rfl, hE, by assumption, hH⟩, (.le fun a => by (try simp only [setR, List.cons_append, List.nil_append]); simp [List.count_cons, Blk.ent, idOf]; try omega)⟩)
    ·
      simp at q7
      refine VCsplit.intro (fun q9 => ?_) (fun q9 => ?_)
      ·
        simp at q9
        (rw [push_none (by omega) (by omega) (by first | assumption | simp_all)]; exact ⟨_, ⟨_, _, _, _, _, _, _, _, _, rfl, rfl, hE, hN, hH⟩, (.le fun a => by (try simp only [setR, List.cons_append, List.nil_append]); simp [List.count_cons, Blk.ent, idOf]; try omega)⟩)
      ·
        simp at q9
        have hn0 : ¬ p.net.length = 0 := (by first | assumption | omega | (intro h8; simp_all))
        have hmod := tmod_nat (a := x.at') (n := p.net.length) (by omega)
        have hlt : x.at'.toNat % p.net.length < p.net.length := Nat.mod_lt _ (by omega)
        have e9 : (x.at'.tmod (p.net.length : Int)).toNat = x.at'.toNat % p.net.length := (by rw [hmod, Int.toNat_natCast])
        have hts : (p.net[(x.at'.tmod (p.net.length : Int)).toNat]?.getD ByteArray.empty).size ≤ 20004 := (by rw [e9]; exact hns _ (by rw [List.getElem?_eq_getElem hlt]; exact List.getElem_mem hlt))
        refine draw G_ok mixed none (.q 0 (.q 1 (.q 2 (.q 3 (.q 4 (.q 5 (.q 6 (.q 7 (.q 8 (.nil)))))))))) (by decide +kernel) ?_
        refine VC.intro ?_ ?_
        · omega
        refine VCsplit.intro (fun q10 => ?_) (fun q10 => ?_)
        ·
          simp at q10
          refine callR_blk 0 (AE ++ AN ++ AH) [H] rfl ?_ (implCarry_ct _ _ _ _ _ _ _ _ _ _ _ _ _ _ _ _ hE hN hH (Int.toNat_of_nonneg ?_).symm ?_ ?_ ?_ ?_ ?_) trivial ?_
          · exact .le fun a => by (try simp only [setR, List.cons_append, List.nil_append]); simp only [List.flatten_append, List.flatten_cons, List.flatten_nil, List.count_append, List.count_nil, List.append_nil, List.nil_append]; omega
          · omega
          · omega
          · trivial
          · trivial
          · trivial
          · trivial
          rintro _ A11 ⟨cn11, AE11, AN11, AH11, rfl, rfl, oE11, oN11, oH11⟩
          refine ⟨_, _, [AE11, AN11, AH11], rfl, perm3', ?_⟩
          (rw [push_carry hI ‹x.kind = 3› hn0, ← e9]; exact ⟨_, ⟨_, _, _, _, _, _, _, _, _, rfl, rfl, by assumption, by assumption, by assumption⟩, (.le fun a => by (try simp only [setR, List.cons_append, List.nil_append]); simp [List.count_cons, Blk.ent, idOf]; try omega)⟩)
        ·
          simp at q10
          refine VCsplit.intro (fun q12 => ?_) (fun q12 => ?_)
          ·
            simp at q12
            refine callR_at 1 rfl (deleteS_ct _ _ _ _ _ _ (x.at'.toNat % p.net.length) hN hmod ?_ ?_ ?_) trivial ?_
            · (simp (disch := omega) only [wrap_of]; omega)
            · trivial
            · omega
            rintro _ A13 ⟨rfl, o13⟩
            (rw [push_lose ‹x.kind = 4› hn0]; exact ⟨_, ⟨_, _, _, _, _, _, _, _, _, rfl, rfl, hE, by assumption, hH⟩, (.le fun a => by (try simp only [setR, List.cons_append, List.nil_append]); simp [List.count_cons, Blk.ent, idOf]; try omega)⟩)
          ·
            simp at q12
            refine VCsplit.intro (fun q14 => ?_) (fun q14 => ?_)
            ·
              simp at q14
              refine VCsplit.intro (fun q15 => ?_) (fun q15 => ?_)
              ·
                simp at q15
                (rw [push_full ‹x.kind = 5› hn0 (by omega)]; exact ⟨_, ⟨_, _, _, _, _, _, _, _, _, rfl, rfl, hE, hN, hH⟩, (.le fun a => by (try simp only [setR, List.cons_append, List.nil_append]); simp [List.count_cons, Blk.ent, idOf]; try omega)⟩)
              ·
                simp at q15
                refine draw G_ok mixed (some 13) (.q 0 (.q 1 (.q 2 (.q 3 (.q 4 (.q 5 (.q 6 (.q 7 (.q 8 (.q 9 (.q 10 (.q 11 (.f 12 (.tl 13 (.f 14 (.f 15 (.f 16 (.nil)))))))))))))))))) (by decide +kernel) ?_
                refine idx_rd (Gt.owrd _ hN) ?_ ?_ fun b16 o16 hb16 => ?_
                · omega
                · omega
                refine load_all ByteArray.empty (Gt.owrd _ hN) ?_ ?_ hb16 rfl (mem_at 1 rfl) fun l17 hl17 => ?_
                · omega
                · omega
                obtain ⟨rfl, hw17⟩ := hl17; simp only [flStr, flInt, okI] at hw17
                refine VCnew.intro fun x18 => ?_
                refine VC.intro ?_ ?_
                · exact keep_new
                refine gappend1 (g := gS) (T := (9 : TypeId)) G_ok AN [] [AE, AH, H] ?_ hN (gS_ow ?_) (List.mem_of_getElem? (i := 0) rfl) rfl rfl rfl rfl rfl rfl rfl rfl ?_ fun b19 c19 A19 o19 => ?_
                · exact .le fun a => by (try simp only [setR, List.cons_append, List.nil_append]); simp only [List.flatten_append, List.flatten_cons, List.flatten_nil, List.count_append, List.count_nil, List.append_nil, List.nil_append]; omega
                · assumption
                · omega
                (rw [push_twice ‹x.kind = 5› hn0 (by omega), ← e9]; exact ⟨_, ⟨_, _, _, _, _, _, _, _, _, rfl, rfl, hE, by assumption, hH⟩, (.le fun a => by (try simp only [setR, List.cons_append, List.nil_append]); simp [List.count_cons, Blk.ent, idOf]; try omega)⟩)
            ·
              simp at q14
              refine VCsplit.intro (fun q20 => ?_) (fun q20 => ?_)
              ·
                simp at q20
                refine draw G_ok mixed (some 19) (.q 0 (.q 1 (.q 2 (.q 3 (.q 4 (.q 5 (.q 6 (.q 7 (.q 8 (.q 9 (.q 10 (.q 11 (.q 12 (.q 13 (.f 14 (.q 15 (.q 16 (.q 17 (.q 18 (.tl 19 (.f 20 (.nil)))))))))))))))))))))) (by decide +kernel) ?_
                refine idx_rd (Gt.owrd _ hN) ?_ ?_ fun b21 o21 hb21 => ?_
                · omega
                · omega
                refine load_all ByteArray.empty (Gt.owrd _ hN) ?_ ?_ hb21 rfl (mem_at 1 rfl) fun l22 hl22 => ?_
                · omega
                · omega
                obtain ⟨rfl, hw22⟩ := hl22; simp only [flStr, flInt, okI] at hw22
                refine call_val (spoiled_ct _ _ ?_ ?_) trivial ?_
                · omega
                · omega
                rintro _ rfl
                refine VC.intro ?_ ?_
                · exact fun _ h => h
                refine idx_rd (Gt.owrd _ hN) ?_ ?_ fun b24 o24 hb24 => ?_
                · omega
                · omega
                refine gstoreN (Fld.id _) ByteArray.empty (Int.toNat (x.at'.tmod (↑p.net.length : Int))) 1 rfl (Int.toNat_of_nonneg ?_).symm hN ?_ ?_ hb24 rfl fl_pl _ (gS_ow ?_) fun A25 o25 => ?_
                · omega
                · omega
                · omega
                · (rw [spoil_size]; omega)
                (rw [push_spoil (by omega) hn0, ← e9]; dsimp only; rw [List.length_set]; exact ⟨_, ⟨_, _, _, _, _, _, _, _, _, rfl, rfl, hE, by assumption, hH⟩, (.le fun a => by (try simp only [setR, List.cons_append, List.nil_append]); simp [List.count_cons, Blk.ent, idOf]; try omega)⟩)
              ·
                simp at q20
                exfalso; omega

end Go.Proofs.Ytmmmjikanmgpfaa

namespace Go.Proofs.Ytmmmjikanmgpfaa
open Go.SX Go.Proofs
set_option linter.unusedSimpArgs false
set_option linter.unusedVariables false
set_option maxHeartbeats 4000000
attribute [local irreducible] IntKind.wrap

theorem rle_nil (R : List Hp) : RLe R ([] :: R) := ⟨[], by simp⟩
theorem cut_eq {α : Type} (xs : List α) {a b k : Nat} (hb : b = k + 1) (ha : a = k) : [] ++ List.drop 0 (List.take a xs) ++ List.drop b (List.take xs.length xs) = xs.eraseIdx a := by
  subst ha hb
  rw [List.take_length, List.eraseIdx_eq_take_drop_succ]; rfl
theorem set_same (xs : List ByteArray) (k : Nat) (h : k < xs.length) : xs.set k (xs[k]?.getD ByteArray.empty) = xs := by
  rw [List.getElem?_eq_getElem h, Option.getD_some, List.set_getElem_self]

--@ct spec.l19Way blk0s+c1+c2 l19Way_ct _ _ _ $2 _ _ _ _ _ _ _ _ _ _ !o !c1o !c2o ?_ ?_ ?_ | %2 | rintro _ A# ⟨be#, ce#, bn#, cn#, bh#, ch#, AE#, AN#, AH#, rfl, rfl, oE#, oN#, oH#⟩ ;; refine ⟨_, _, [AE#, AN#, AH#], rfl, perm3', ?_⟩
theorem l19Way_ct (q : Nat) (l2 : List Value) (p : Pair) (x : Push) (be bn bh : Option Addr) (ce cn ch : Nat) (v3 : Value) (AE AN AH : Hp)
    (hE : (gSl 45 gLink).ow [.slice be p.ends.length ce] p.ends AE) (hN : (gSl 9 gS).ow [.slice bn p.net.length cn] p.net AN) (hH : (gSl 27 (gSl 9 gS)).ow [.slice bh p.heard.length ch] p.heard AH)
    (hI : PairInv p) (hx : pushOk x = true) (hk3 : 3 ≤ x.kind) :
    CtR Try.prog 66 [.pointer (some ⟨q, 0, none⟩), .agg ⟨l2⟩] ((q, Obj.cells ⟨[.slice be p.ends.length ce, .slice bn p.net.length cn, .slice bh p.heard.length ch, v3]⟩ 31) :: (AE ++ AN ++ AH)) (fun H => gPush.rd H l2 x)
      (fun v D => ∃ be ce bn cn bh ch AE AN AH, v = .bool (pushM p x).2 ∧ D = (q, Obj.cells ⟨[.slice be (pushM p x).1.ends.length ce, .slice bn (pushM p x).1.net.length cn, .slice bh (pushM p x).1.heard.length ch, v3]⟩ 31) :: (AE ++ AN ++ AH) ∧
        (gSl 45 gLink).ow [.slice be (pushM p x).1.ends.length ce] (pushM p x).1.ends AE ∧ (gSl 9 gS).ow [.slice bn (pushM p x).1.net.length cn] (pushM p x).1.net AN ∧
        (gSl 27 (gSl 9 gS)).ow [.slice bh (pushM p x).1.heard.length ch] (pushM p x).1.heard AH) := by
  refine CtR.introB G_ok [.p 0 0, .v (.agg ⟨l2⟩)] [⟨q, [.slice be p.ends.length ce, .slice bn p.net.length cn, .slice bh p.heard.length ch, v3], 31⟩] [AE, AN, AH] Try.func66 rfl rfl rfl rfl (by simp [SV.ok]) (by simp [Blk.ent]) fun E H hp => ?_
  obtain ⟨rfl, w0x, w1x, w2x, w3x⟩ := gPush_rd.1 hp
  have hxi := pushOk_iff.1 hx
  have h2e := hI.1.two
  have h2h := hI.1.two'
  have hnl := hI.1.netLen
  have hes := pi_sz hI
  have hhs := pi_heard hI
  have hns := hI.2.1
  have hsl : x.side.toNat < p.ends.length := by omega
  refine VCnew.intro fun x0 => ?_
  refine VCsplit.intro (fun q1 => ?_) (fun q1 => ?_)
  ·
    simp at q1
    (rw [push_none (by omega) (by omega) (by first | assumption | simp_all)]; exact ⟨_, ⟨_, _, _, _, _, _, _, _, _, rfl, rfl, hE, hN, hH⟩, (.le fun a => by (try simp only [setR, List.cons_append, List.nil_append]); simp [List.count_cons, Blk.ent, idOf]; try omega)⟩)
  ·
    simp at q1
    have hn0 : ¬ p.net.length = 0 := (by first | assumption | omega | (intro h8; simp_all))
    have hcn := (sl_len (Gt.owrd _ hN)).2.1
    have hmod := tmod_nat (a := x.at') (n := p.net.length) (by omega)
    have hlt : x.at'.toNat % p.net.length < p.net.length := Nat.mod_lt _ (by omega)
    have e9 : (x.at'.tmod (p.net.length : Int)).toNat = x.at'.toNat % p.net.length := (by rw [hmod, Int.toNat_natCast])
    have hts : (p.net[(x.at'.tmod (p.net.length : Int)).toNat]?.getD ByteArray.empty).size ≤ 20004 := (by rw [e9]; exact hns _ (by rw [List.getElem?_eq_getElem hlt]; exact List.getElem_mem hlt))
    have hw1 : (IntKind.i64.wrap (x.at'.tmod (p.net.length : Int) + 1)).toNat = x.at'.toNat % p.net.length + 1 := (by rw [hmod, wrap_of (by omega) (by omega)]; omega)
    refine draw G_ok mixed none (.q 0 (.q 1 (.q 2 (.q 3 (.q 4 (.q 5 (.q 6 (.q 7 (.q 8 (.nil)))))))))) (by decide +kernel) ?_
    refine VC.intro ?_ ?_
    · omega
    refine idx_rd (Gt.owrd _ hN) ?_ ?_ fun b2 o2 hb2 => ?_
    · omega
    · omega
    refine load_all ByteArray.empty (Gt.owrd _ hN) ?_ ?_ hb2 rfl (mem_at 1 rfl) fun l3 hl3 => ?_
    · omega
    · omega
    obtain ⟨rfl, hw3⟩ := hl3; simp only [flStr, flInt, okI] at hw3
    refine VCsplit.intro (fun q4 => ?_) (fun q4 => ?_)
    ·
      simp at q4
      refine VCsplit.intro (fun q5 => ?_) (fun q5 => ?_)
      ·
        simp at q5
        (rw [push_full (by omega) hn0 (by omega)]; exact ⟨_, ⟨_, _, _, _, _, _, _, _, _, rfl, rfl, hE, hN, hH⟩, (.le fun a => by (try simp only [setR, List.cons_append, List.nil_append]); simp [List.count_cons, Blk.ent, idOf]; try omega)⟩)
      ·
        simp at q5
        refine VCnew.intro fun x6 => ?_
        refine gappend1 (g := gS) (T := (9 : TypeId)) G_ok AN [] [AE, AH, H] ?_ hN (gS_ow ?_) (List.mem_of_getElem? (i := 0) rfl) rfl rfl rfl rfl rfl rfl rfl rfl ?_ fun b7 c7 A7 o7 => ?_
        · exact .le fun a => by (try simp only [setR, List.cons_append, List.nil_append]); simp only [List.flatten_append, List.flatten_cons, List.flatten_nil, List.count_append, List.count_nil, List.append_nil, List.nil_append]; omega
        · assumption
        · omega
        (rw [push_twice (by omega) hn0 (by omega), ← e9]; exact ⟨_, ⟨_, _, _, _, _, _, _, _, _, rfl, rfl, hE, by assumption, hH⟩, (.le fun a => by (try simp only [setR, List.cons_append, List.nil_append]); simp [List.count_cons, Blk.ent, idOf]; try omega)⟩)
    ·
      simp at q4
      refine VCsplit.intro (fun q8 => ?_) (fun q8 => ?_)
      ·
        simp at q8
        refine call_val (specReadPacket_ct _ ?_) trivial ?_
        · omega
        rintro _ rfl
        refine VCnew.intro fun x10 => ?_
        refine VCsplit.intro (fun q11 => ?_) (fun q11 => ?_)
        ·
          simp at q11
          (have hz : (readPack (p.net[(x.at'.tmod (p.net.length : Int)).toNat]?.getD ByteArray.empty)).isSome = false := (by simp_all); rw [push_spoil (by omega) hn0, ← e9]; dsimp only; rw [spoilT_no hz, set_same _ _ (by omega), hz]; exact ⟨_, ⟨_, _, _, _, _, _, _, _, _, rfl, rfl, hE, hN, hH⟩, (.le fun a => by (try simp only [setR, List.cons_append, List.nil_append]); simp [List.count_cons, Blk.ent, idOf]; try omega)⟩)
        ·
          simp at q11
          have hpos := readPack_pos ‹(readPack (p.net[(x.at'.tmod (p.net.length : Int)).toNat]?.getD ByteArray.empty)).isSome = true›
          have hml := Nat.mod_lt x.at'.toNat hpos
          have hmod2 := tmod_nat (a := x.at') (n := (p.net[(x.at'.tmod (p.net.length : Int)).toNat]?.getD ByteArray.empty).size) (by omega)
          have hlen2 : (p.net[(x.at'.tmod (p.net.length : Int)).toNat]?.getD ByteArray.empty).data.toList.length = (p.net[(x.at'.tmod (p.net.length : Int)).toNat]?.getD ByteArray.empty).size := (by_size _)
          have e8 : (x.at'.tmod ((p.net[(x.at'.tmod (p.net.length : Int)).toNat]?.getD ByteArray.empty).size : Int)).toNat = x.at'.toNat % (p.net[(x.at'.tmod (p.net.length : Int)).toNat]?.getD ByteArray.empty).size := (by rw [hmod2, Int.toNat_natCast])
          refine conv_sb G_ok _ rfl rfl rfl rfl (by omega) fun bS cS AS hS => ?_
          have rS : (gSl 5 gY).rd AS [.slice (some ⟨bS, 0, none⟩) (p.net[(x.at'.tmod (p.net.length : Int)).toNat]?.getD ByteArray.empty).size cS] (p.net[(x.at'.tmod (p.net.length : Int)).toNat]?.getD ByteArray.empty).data.toList := by (have := hS.rd; rwa [hlen2] at this)
          refine draw G_ok mixed (some 16) (.q 0 (.q 1 (.q 2 (.q 3 (.q 4 (.q 5 (.q 6 (.q 7 (.q 8 (.q 9 (.q 10 (.q 11 (.q 12 (.q 13 (.q 14 (.q 15 (.tl 16 (.nil)))))))))))))))))) (by decide +kernel) ?_
          refine VC.intro ?_ ?_
          · omega
          refine VC.intro ?_ ?_
          · omega
          refine idx_rd rS ?_ ?_ fun b12 o12 hb12 => ?_
          · omega
          · omega
          refine load_all 0 rS ?_ ?_ hb12 rfl (mem_at 0 rfl) fun l13 hl13 => ?_
          · omega
          · omega
          obtain ⟨rfl, hw13⟩ := hl13
          refine idx_rd rS ?_ ?_ fun b14 o14 hb14 => ?_
          · omega
          · omega
          refine hS.store _ (.refl _) (by assumption) (x.at'.tmod ((p.net[(x.at'.tmod (p.net.length : Int)).toNat]?.getD ByteArray.empty).size : Int)).toNat (by rw [e8]; omega) (by rw [e8]; exact hmod2) rfl (xor_u8 _).2 fun A2 hS2 => ?_
          have rS2 := hS2.rd
          rw [List.length_set, hlen2] at rS2
          refine draw G_ok mixed (some 8) (.q 0 (.q 1 (.q 2 (.q 3 (.q 4 (.q 5 (.f 6 (.q 7 (.tl 8 (.nil)))))))))) (by decide +kernel) ?_
          refine conv_bs G_ok ((p.net[(x.at'.tmod (↑p.net.length : Int)).toNat]?.getD ByteArray.empty).data.toList.set (x.at'.tmod (↑(p.net[(x.at'.tmod (↑p.net.length : Int)).toNat]?.getD ByteArray.empty).size : Int)).toNat (UInt8.ofNat (IntKind.u8.wrap (↑(BitVec.ofInt IntKind.u8.bits (↑((p.net[(x.at'.tmod (↑p.net.length : Int)).toNat]?.getD ByteArray.empty).data.toList[(x.at'.tmod (↑(p.net[(x.at'.tmod (↑p.net.length : Int)).toNat]?.getD ByteArray.empty).size : Int)).toNat]?.getD (0 : UInt8)).toNat : Int) ^^^ BitVec.ofInt IntKind.u8.bits (1 : Int)).toNat : Int)).toNat)) rfl (Rp.mono _ (mem_at 0 rfl) rS2) rfl rfl rfl ?_
          refine VC.intro ?_ ?_
          · exact fun _ h => h
          refine idx_rd (Gt.owrd _ hN) ?_ ?_ fun b15 o15 hb15 => ?_
          · omega
          · omega
          refine gstoreN (Fld.id _) ByteArray.empty (Int.toNat (x.at'.tmod (↑p.net.length : Int))) 2 rfl (Int.toNat_of_nonneg ?_).symm hN ?_ ?_ hb15 rfl fl_pl _ (gS_ow ?_) fun A16 o16 => ?_
          · omega
          · omega
          · omega
          · (show (List.toArray _).size ≤ _; rw [List.size_toArray, List.length_set]; omega)
          (have hz : (readPack (p.net[(x.at'.tmod (p.net.length : Int)).toNat]?.getD ByteArray.empty)).isSome = true := (by assumption); rw [push_spoil (by omega) hn0, ← e9]; dsimp only; rw [List.length_set, spoilT_yes hz, hz, ← flip_eq _ x.at'.toNat hpos, ← e8]; exact ⟨_, ⟨_, _, _, _, _, _, _, _, _, rfl, rfl, hE, by assumption, hH⟩, (.le fun a => by (try simp only [setR, List.cons_append, List.nil_append]); simp [List.count_cons, Blk.ent, idOf]; try omega)⟩)
      ·
        simp at q8
        refine draw G_ok mixed (some 16) (.q 0 (.q 2 (.q 3 (.q 4 (.q 5 (.q 6 (.q 7 (.q 9 (.q 10 (.q 11 (.q 12 (.q 13 (.q 14 (.q 15 (.f 1 (.f 8 (.tl 16 (.f 17 (.f 18 (.f 19 (.nil))))))))))))))))))))) (by decide +kernel) ?_
        refine VC.intro ?_ ?_
        · omega
        refine VC.intro ?_ ?_
        · (simp (disch := omega) only [wrap_of]; omega)
        refine VCnew.intro fun x17 => ?_
        refine VC.intro ?_ ?_
        · exact keep_new
        refine append_allN (g := gS) (T := 9) G_ok fl_plain [] _ 2 (rle_nil _) (sl_nil _ _ _) rfl (rd_sub (r := gS.toRp) (l := 0) (h := (x.at'.tmod (p.net.length : Int)).toNat) (Gt.owrd _ hN) (Nat.zero_le _) (by rw [e9]; omega) (by rw [e9]; omega)) rfl rfl rfl rfl rfl rfl rfl rfl (by simp; omega) fun bQ cQ AQ oQ => ?_
        refine VC.intro ?_ ?_
        · exact keep_sub (by simp) (by simp)
        refine append_allN (g := gS) (T := 9) G_ok fl_plain AQ _ 2 (.refl _) oQ rfl (rd_sub (r := gS.toRp) (l := (IntKind.i64.wrap (x.at'.tmod (p.net.length : Int) + 1)).toNat) (h := p.net.length) (Gt.owrd _ hN) (by omega) (by omega) (by omega)) rfl rfl rfl rfl rfl rfl rfl rfl (by simp; omega) fun bV cV AV oV => ?_
        have eL := cut_eq p.net hw1 e9
        rw [eL] at oV ⊢
        refine VCsplit.intro (fun q18 => ?_) (fun q18 => ?_)
        ·
          simp at q18
          refine callR_blk 0 (AE ++ AH) [AV, [(x17, Obj.cells { toList := zeros (0 : Nat) [Value.string ByteArray.empty] } (9 : TypeId))], AN, H] rfl ?_ (l19Carry_ct _ _ _ _ _ _ _ _ _ _ _ _ hE hH ?_ ?_ ?_ ?_) trivial ?_
          · exact .le fun a => by (try simp only [setR, List.cons_append, List.nil_append]); simp only [List.flatten_append, List.flatten_cons, List.flatten_nil, List.count_append, List.count_nil, List.append_nil, List.nil_append]; omega
          · trivial
          · omega
          · trivial
          · trivial
          rintro _ A19 ⟨AE19, AH19, rfl, rfl, oE19, oH19⟩
          refine ⟨_, _, [AE19, AH19], rfl, perm2', ?_⟩
          (rw [push_carry hI (by omega) hn0, ← (hear_ear hI hlt []).2, ← e9]; exact ⟨_, ⟨_, _, _, _, _, _, _, _, _, rfl, rfl, by assumption, oV, by assumption⟩, (.le fun a => by (try simp only [setR, List.cons_append, List.nil_append]); simp [List.count_cons, Blk.ent, idOf]; try omega)⟩)
        ·
          simp at q18
          (rw [push_lose (by omega) hn0, ← e9]; exact ⟨_, ⟨_, _, _, _, _, _, _, _, _, rfl, rfl, hE, oV, hH⟩, (.le fun a => by (try simp only [setR, List.cons_append, List.nil_append]); simp [List.count_cons, Blk.ent, idOf]; try omega)⟩)

end Go.Proofs.Ytmmmjikanmgpfaa

namespace Go.Proofs.Ytmmmjikanmgpfaa
open Go.SX Go.Proofs
set_option linter.unusedSimpArgs false
set_option linter.unusedVariables false
set_option maxHeartbeats 4000000
attribute [local irreducible] IntKind.wrap

--@ct spec.l19Do blk0s+c1+c2 l19Do_ct _ _ _ $2 _ _ _ _ _ _ _ _ _ _ !o !c1o !c2o ?_ ?_ | %2 | rintro _ A# ⟨be#, ce#, bn#, cn#, bh#, ch#, AE#, AN#, AH#, rfl, rfl, oE#, oN#, oH#⟩ ;; refine ⟨_, _, [AE#, AN#, AH#], rfl, perm3', ?_⟩
theorem l19Do_ct (q : Nat) (l2 : List Value) (p : Pair) (x : Push) (be bn bh : Option Addr) (ce cn ch : Nat) (v3 : Value) (AE AN AH : Hp)
    (hE : (gSl 45 gLink).ow [.slice be p.ends.length ce] p.ends AE) (hN : (gSl 9 gS).ow [.slice bn p.net.length cn] p.net AN) (hH : (gSl 27 (gSl 9 gS)).ow [.slice bh p.heard.length ch] p.heard AH)
    (hI : PairInv p) (hx : pushOk x = true) :
    CtR Try.prog 32 [.pointer (some ⟨q, 0, none⟩), .agg ⟨l2⟩] ((q, Obj.cells ⟨[.slice be p.ends.length ce, .slice bn p.net.length cn, .slice bh p.heard.length ch, v3]⟩ 31) :: (AE ++ AN ++ AH)) (fun H => gPush.rd H l2 x)
      (fun v D => ∃ be ce bn cn bh ch AE AN AH, v = .bool (pushM p x).2 ∧ D = (q, Obj.cells ⟨[.slice be (pushM p x).1.ends.length ce, .slice bn (pushM p x).1.net.length cn, .slice bh (pushM p x).1.heard.length ch, v3]⟩ 31) :: (AE ++ AN ++ AH) ∧
        (gSl 45 gLink).ow [.slice be (pushM p x).1.ends.length ce] (pushM p x).1.ends AE ∧ (gSl 9 gS).ow [.slice bn (pushM p x).1.net.length cn] (pushM p x).1.net AN ∧
        (gSl 27 (gSl 9 gS)).ow [.slice bh (pushM p x).1.heard.length ch] (pushM p x).1.heard AH) := by
  refine CtR.introB G_ok [.p 0 0, .v (.agg ⟨l2⟩)] [⟨q, [.slice be p.ends.length ce, .slice bn p.net.length cn, .slice bh p.heard.length ch, v3], 31⟩] [AE, AN, AH] Try.func32 rfl rfl rfl rfl (by simp [SV.ok]) (by simp [Blk.ent]) fun E H hp => ?_
  obtain ⟨rfl, w0x, w1x, w2x, w3x⟩ := gPush_rd.1 hp
  have hxi := pushOk_iff.1 hx
  have h2e := hI.1.two
  have hnl := hI.1.netLen
  have hsl : x.side.toNat < p.ends.length := by omega
  have hz9 := pi_sz hI x.side.toNat hsl
  have hss : ((x.side.toNat : Nat) : Int) = x.side := by omega
  have hw1 : IntKind.i64.wrap (1 - x.side) = 1 - x.side := wrap_of (by omega) (by omega)
  have e7 : linkPacks (p.ends[x.side.toNat]?.getD default) 1 (x.side.toNat : Int) (1 - ((x.side.toNat : Nat) : Int)) = linkPacks (p.ends[x.side.toNat]?.getD default) 1 x.side (IntKind.i64.wrap (1 - x.side)) := by rw [hss, hw1]
  refine VCnew.intro fun x0 => ?_
  refine VCsplit.intro (fun q1 => ?_) (fun q1 => ?_)
  ·
    simp at q1
    refine draw G_ok mixed (some 15) (.q 0 (.q 1 (.q 2 (.q 3 (.q 4 (.q 5 (.q 6 (.q 7 (.q 8 (.q 9 (.hd (.alt 10 (.q 11 (.q 12 (.q 13 (.f 14 (.tl 15 (.f 16 (.nil))))))) (.alt 14 (.f 10 (.q 11 (.q 12 (.q 13 (.tl 15 (.f 16 (.nil))))))) (.nil)))))))))))))) (by decide +kernel) ?_
    refine idx_rd (Gt.owrd _ hE) ?_ ?_ fun b2 o2 hb2 => ?_
    · omega
    · omega
    refine load_all default (Gt.owrd _ hE) ?_ ?_ hb2 rfl (mem_at 0 rfl) fun l3 hl3 => ?_
    · omega
    · omega
    obtain ⟨b0x3, c0x3, rfl, h0x3, w1x3, w2x3⟩ := gLink_rd.1 hl3
    refine VC.intro ?_ ?_
    ·
      refine call_new (specLinkPut_ct _ (p.ends[x.side.toNat]?.getD default) _ ?_ ?_) (Rp.mono _ (mem_at 0 rfl) hl3) ?_
      · trivial
      · trivial
      rintro v4 A4 o4
      obtain ⟨l4, rfl, o4⟩ := o4
      have r4 := Gt.owrd _ o4
      obtain ⟨b0x4, c0x4, rfl, h0x4, w1x4, w2x4⟩ := gLink_rd.1 r4
      refine VC.intro ?_ ?_
      · exact keep_new
      refine VCnew.intro fun x5 => ?_
      refine VC.intro ?_ ?_
      · exact keep_sub (by simp) (by simp)
      refine draw G_ok mixed (some 8) (.q 0 (.q 1 (.q 2 (.q 3 (.q 4 (.q 5 (.q 6 (.q 7 (.tl 8 (.nil)))))))))) (by decide +kernel) ?_
      refine idx_rd (Gt.owrd _ hE) ?_ ?_ fun b6 o6 hb6 => ?_
      · omega
      · omega
      refine gstore1N (Int.toNat (x.side)) (AE) (A4) [AN, AH, H] (.le fun a => by (try simp only [setR, List.cons_append, List.nil_append]); simp only [List.flatten_append, List.flatten_cons, List.flatten_nil, List.count_append, List.count_nil, List.append_nil, List.nil_append]; omega) (Int.toNat_of_nonneg ?_).symm hE ?_ ?_ hb6 rfl _ o4 fun A7 o7 => ?_
      · omega
      · omega
      · omega
      (rw [push_put ‹x.kind = 1›]; dsimp only; rw [List.length_set]; exact ⟨_, ⟨_, _, _, _, _, _, _, _, _, rfl, rfl, by assumption, hN, hH⟩, (.le fun a => by (try simp only [setR, List.cons_append, List.nil_append]); simp [List.count_cons, Blk.ent, idOf]; try omega)⟩)
    ·
      refine VC.intro ?_ ?_
      ·
        refine VCnew.intro fun x8 => ?_
        refine VC.intro ?_ ?_
        · exact keep_sub (by simp) (by simp)
        refine call_new (specLinkPut_ct _ (p.ends[x.side.toNat]?.getD default) _ ?_ ?_) (Rp.mono _ (mem_at 0 rfl) hl3) ?_
        · trivial
        · trivial
        rintro v9 A9 o9
        obtain ⟨l9, rfl, o9⟩ := o9
        have r9 := Gt.owrd _ o9
        obtain ⟨b0x9, c0x9, rfl, h0x9, w1x9, w2x9⟩ := gLink_rd.1 r9
        refine VC.intro ?_ ?_
        · exact keep_sub (by simp) (by simp)
        refine draw G_ok mixed (some 8) (.q 0 (.q 1 (.q 2 (.q 3 (.q 4 (.q 5 (.q 6 (.q 7 (.tl 8 (.nil)))))))))) (by decide +kernel) ?_
        refine idx_rd (Gt.owrd _ hE) ?_ ?_ fun b10 o10 hb10 => ?_
        · omega
        · omega
        refine gstore1N (Int.toNat (x.side)) (AE) (A9) [AN, AH, H] (.le fun a => by (try simp only [setR, List.cons_append, List.nil_append]); simp only [List.flatten_append, List.flatten_cons, List.flatten_nil, List.count_append, List.count_nil, List.append_nil, List.nil_append]; omega) (Int.toNat_of_nonneg ?_).symm hE ?_ ?_ hb10 rfl _ o9 fun A11 o11 => ?_
        · omega
        · omega
        · omega
        (rw [push_put ‹x.kind = 1›]; dsimp only; rw [List.length_set]; exact ⟨_, ⟨_, _, _, _, _, _, _, _, _, rfl, rfl, by assumption, hN, hH⟩, (.le fun a => by (try simp only [setR, List.cons_append, List.nil_append]); simp [List.count_cons, Blk.ent, idOf]; try omega)⟩)
      ·
        exact trivial
  ·
    simp at q1
    refine VCsplit.intro (fun q12 => ?_) (fun q12 => ?_)
    ·
      simp at q12
      refine draw G_ok mixed (some 15) (.q 0 (.q 1 (.q 2 (.q 3 (.q 4 (.q 5 (.q 6 (.q 7 (.q 8 (.q 9 (.q 10 (.q 11 (.q 12 (.q 13 (.f 14 (.tl 15 (.f 16 (.nil)))))))))))))))))) (by decide +kernel) ?_
      refine idx_rd (Gt.owrd _ hE) ?_ ?_ fun b13 o13 hb13 => ?_
      · omega
      · omega
      refine load_all default (Gt.owrd _ hE) ?_ ?_ hb13 rfl (mem_at 0 rfl) fun l14 hl14 => ?_
      · omega
      · omega
      obtain ⟨b0x14, c0x14, rfl, h0x14, w1x14, w2x14⟩ := gLink_rd.1 hl14
      refine call_new (specLinkPackets_ct _ (p.ends[x.side.toNat]?.getD default) _ _ _ ?_ ?_ ?_ ?_) (Rp.mono _ (mem_at 0 rfl) hl14) ?_
      · trivial
      · trivial
      · trivial
      · exact okI_wrap _
      rintro v15 A15 o15
      obtain ⟨b15, c15, rfl, o15⟩ := o15
      refine VC.intro ?_ ?_
      · exact keep_new
      refine callR_blk 0 (AN) [A15, AE, AH, H] rfl ?_ (l19Net_ct _ _ _ _ _ _ _ _ _ _ _ hN ?_) (Rp.mono _ (mem_at 0 rfl) (Gt.owrd _ o15)) ?_
      · exact .le fun a => by (try simp only [setR, List.cons_append, List.nil_append]); simp only [List.flatten_append, List.flatten_cons, List.flatten_nil, List.count_append, List.count_nil, List.append_nil, List.nil_append]; omega
      · trivial
      rintro _ A16 ⟨bn16, cn16, An16, rfl, rfl, on16⟩
      refine ⟨_, _, [An16], rfl, perm1, ?_⟩
      (rw [push_tick ‹x.kind = 2› hsl, tickN_in hsl, e7]; exact ⟨_, ⟨_, _, _, _, _, _, _, _, _, rfl, rfl, hE, by assumption, hH⟩, (.le fun a => by (try simp only [setR, List.cons_append, List.nil_append]); simp [List.count_cons, Blk.ent, idOf]; try omega)⟩)
    ·
      simp at q12
      refine callR_blk 0 (AE ++ AN ++ AH) [H] rfl ?_ (l19Way_ct _ _ _ (x) _ _ _ _ _ _ _ _ _ _ hE hN hH ?_ ?_ ?_) (Rp.mono _ (mem_at 0 rfl) hp) ?_
      · exact .le fun a => by (try simp only [setR, List.cons_append, List.nil_append]); simp only [List.flatten_append, List.flatten_cons, List.flatten_nil, List.count_append, List.count_nil, List.append_nil, List.nil_append]; omega
      · trivial
      · trivial
      · omega
      rintro _ A17 ⟨be17, ce17, bn17, cn17, bh17, ch17, AE17, AN17, AH17, rfl, rfl, oE17, oN17, oH17⟩
      refine ⟨_, _, [AE17, AN17, AH17], rfl, perm3', ?_⟩
      exact ⟨_, ⟨_, _, _, _, _, _, _, _, _, rfl, rfl, by assumption, by assumption, by assumption⟩, (.le fun a => by (try simp only [setR, List.cons_append, List.nil_append]); simp [List.count_cons, Blk.ent, idOf]; try omega)⟩

end Go.Proofs.Ytmmmjikanmgpfaa

namespace Go.Proofs.Ytmmmjikanmgpfaa
open Go.SX Go.Proofs
set_option linter.unusedSimpArgs false
set_option linter.unusedVariables false
set_option maxHeartbeats 4000000
attribute [local irreducible] IntKind.wrap

abbrev stepC (p : Pair) (x : Push) : Pair := pushC packText readPack flipT p x
def runK (xs : List Push) (k : Nat) : Pair := (xs.take k).foldl stepC pair0
theorem runK_succ {xs : List Push} {k : Nat} (h : k < xs.length) : runK xs (k + 1) = stepC (runK xs k) (xs[k]?.getD default) := by
  unfold runK
  rw [List.take_add_one, List.foldl_append, List.getElem?_eq_getElem h]; rfl
theorem runK_all (xs : List Push) : runK xs xs.length = xs.foldl stepC pair0 := by unfold runK; rw [List.take_length]
theorem pi_codes {p : Pair} (h : PairInv p) (c : List Int) : PairInv { p with codes := c } := ⟨h.1.codes c, h.2⟩
theorem step_pi {p : Pair} (h : PairInv p) {x : Push} (hx : pushOk x = true) : PairInv (stepC p x) := pi_codes (push_pi h hx) _
def okK (xs : List Push) (k : Nat) : Prop := ∀ i, i < k → pushOk (xs[i]?.getD default) = true
theorem runK_pi {xs : List Push} (h : okK xs xs.length) : ∀ k, k ≤ xs.length → PairInv (runK xs k)
  | 0, _ => pi_zero
  | k + 1, hk => by rw [runK_succ (by omega)]; exact step_pi (runK_pi h k (by omega)) (h k (by omega))
theorem pushM_codes (p : Pair) (x : Push) : (pushM p x).1.codes = p.codes := by
  have hd : ∀ (p : Pair) (y : Packet), (deliver p y).codes = p.codes := fun p y => by unfold deliver; rfl
  have hh : ∀ (p : Pair) (t : ByteArray), (hear readPack p t).codes = p.codes := fun p t => by
    cases e : readPack t with
    | none => rw [hear_none e]
    | some y =>
      unfold hear
      rw [e]
      dsimp only
      first | (split <;> first | rfl | exact hd _ _) | exact hd _ _
  unfold pushM pushP
  split
  · split <;> rfl
  · split
    · rfl
    · split
      · rfl
      · split
        · rw [hh]
        · split
          · rfl
          · split
            · split <;> rfl
            · split <;> rfl
theorem step_codes (p : Pair) (x : Push) : (stepC p x).codes = p.codes ++ [if (pushM p x).2 then 0 else 1] := by
  show (pushM p x).1.codes ++ _ = _
  rw [pushM_codes]
theorem runK_codes {xs : List Push} : ∀ k, k ≤ xs.length → (runK xs k).codes.length = k
  | 0, _ => rfl
  | k + 1, hk => by rw [runK_succ (by omega), step_codes, List.length_append, runK_codes k (by omega)]; rfl
theorem runK_ends {xs : List Push} {k : Nat} (h : k < xs.length) : (runK xs (k + 1)).ends = (pushM (runK xs k) (xs[k]?.getD default)).1.ends := by rw [runK_succ h]; rfl
theorem runK_net {xs : List Push} {k : Nat} (h : k < xs.length) : (runK xs (k + 1)).net = (pushM (runK xs k) (xs[k]?.getD default)).1.net := by rw [runK_succ h]; rfl
theorem runK_heard {xs : List Push} {k : Nat} (h : k < xs.length) : (runK xs (k + 1)).heard = (pushM (runK xs k) (xs[k]?.getD default)).1.heard := by rw [runK_succ h]; rfl
theorem runK_codesT {xs : List Push} {k : Nat} (h : k < xs.length) (e : (pushM (runK xs k) (xs[k]?.getD default)).2 = true) : (runK xs (k + 1)).codes = (runK xs k).codes ++ [0] := by rw [runK_succ h, step_codes, if_pos e]
theorem runK_codesF {xs : List Push} {k : Nat} (h : k < xs.length) (e : (pushM (runK xs k) (xs[k]?.getD default)).2 = false) : (runK xs (k + 1)).codes = (runK xs k).codes ++ [1] := by rw [runK_succ h, step_codes, e]; rfl
instance (xs : List Push) : ∀ k, Decidable (okK xs k)
  | 0 => .isTrue fun i hi => by omega
  | k + 1 => match instDecidableOkK xs k, (inferInstance : Decidable (pushOk (xs[k]?.getD default) = true)) with
    | .isTrue h, .isTrue h2 => .isTrue fun i hi => by
        rcases Nat.lt_succ_iff_lt_or_eq.1 hi with h3 | rfl
        · exact h i h3
        · exact h2
    | .isFalse h, _ => .isFalse fun h2 => h fun i hi => h2 i (by omega)
    | _, .isFalse h => .isFalse fun h2 => h (h2 k (by omega))
def runOk (xs : List Push) : Bool := decide (xs.length ≤ 90 ∧ okK xs xs.length)
def runR (xs : List Push) : Pair := if runOk xs = true then runK xs xs.length else zPair
theorem runOk_no {xs : List Push} (h : ¬ (xs.length ≤ 90 ∧ okK xs xs.length)) : runOk xs = false ∧ runR xs = zPair := by
  have e : runOk xs = false := decide_eq_false h
  exact ⟨e, by unfold runR; rw [e]; rfl⟩
theorem runOk_yes {xs : List Push} (h : xs.length ≤ 90) (h2 : okK xs xs.length) : runOk xs = true ∧ runR xs = runK xs xs.length := by
  have e : runOk xs = true := decide_eq_true ⟨h, h2⟩
  exact ⟨e, by unfold runR; rw [e]; rfl⟩
theorem okK_next {xs : List Push} {k : Nat} (h : okK xs k) (h2 : pushOk (xs[k]?.getD default) = true) : okK xs (k + 1) := fun i hi => by
  rcases Nat.lt_succ_iff_lt_or_eq.1 hi with h3 | rfl
  · exact h i h3
  · exact h2

--@ct impl.RunPair new implRunPair_ct _ _ $1 | %1 | obtain ⟨l#, rfl, o#⟩ := o#
theorem implRunPair_ct (b : Option Addr) (c : Nat) (xs : List Push) :
    Ct Try.prog 8 [.slice b xs.length c] [] (fun H => (gSl 35 gPush).rd H [.slice b xs.length c] xs) (fun v A => ∃ l, v = .tuple #[.agg ⟨l⟩, .bool (runOk xs)] ∧ gPair.ow l (runR xs) A) := by
  refine Ct.intro0 G_ok Try.func8 rfl rfl rfl fun E H hp => ?_
  obtain ⟨_, hcl, hl⟩ := sl_len hp
  refine VCnew.intro fun x0 => ?_
  refine VCsplit.intro (fun q1 => ?_) (fun q1 => ?_)
  ·
    simp at q1
    (obtain ⟨e1, e2⟩ := runOk_no (xs := xs) (fun h => by omega); rw [e1, e2]; exact ⟨_, ⟨_, rfl, zPair_ow⟩, (.le fun a => by (try simp only [setR, List.cons_append, List.nil_append]); simp [List.count_cons, Blk.ent, idOf]; try omega)⟩)
  ·
    simp at q1
    apply loop_mod (α := (Nat)) G_ok [17, 18, 19, 5, 20, 21, 22, 23, 3, 24, 16] (fun z => [(16, .v (.int .i64 z))]) (fun z => [{ id := x0, cs := [Value.slice none (0 : Nat) (0 : Nat), Value.slice none (0 : Nat) (0 : Nat), Value.slice none (0 : Nat) (0 : Nat), Value.slice none (0 : Nat) (0 : Nat)], ty := (31 : Nat) }]) (fun z => [H]) (fun z => xs.length - z) (fun z => z ≤ xs.length ∧ okK xs z) ((0))
    · repeat' (first | exact trivial | refine ⟨⟨_, rfl, by first | rfl | exact inc_eq _ (by omega) | (refine sl_eq ?_; simp; done), by first | exact trivial | simp [SV.ok]⟩, ?_⟩)
    · exact ⟨rfl, trivial⟩
    · exact ⟨Nat.zero_le _, fun i hi => by omega⟩
    · exact .refl _
    rintro k hI
    obtain ⟨hk, hok⟩ : k ≤ xs.length ∧ okK xs k := hI
    try dsimp only
    refine VCsplit.intro (fun q2 => ?_) (fun q2 => ?_)
    ·
      simp at q2
      refine idx_rd hp ?_ ?_ fun b3 o3 hb3 => ?_
      · omega
      · omega
      refine load_allN default (k) rfl hp ?_ ?_ hb3 rfl (mem_at 0 rfl) fun l4 hl4 => ?_
      · omega
      · omega
      obtain ⟨rfl, w0x4, w1x4, w2x4, w3x4⟩ := gPush_rd.1 hl4
      refine VCnew.intro fun x5 => ?_
      refine call_val (implPushOk_ct _ (xs[k]?.getD default)) (Rp.mono _ (mem_at 0 rfl) hl4) ?_
      rintro _ rfl
      refine VCsplit.intro (fun q7 => ?_) (fun q7 => ?_)
      ·
        simp at q7
        (obtain ⟨e1, e2⟩ := runOk_no (xs := xs) (fun h => by (have := h.2 k (by omega); simp_all)); rw [e1, e2]; exact ⟨_, ⟨_, rfl, zPair_ow⟩, (.le fun a => by (try simp only [setR, List.cons_append, List.nil_append]); simp [List.count_cons, Blk.ent, idOf]; try omega)⟩)
      ·
        simp at q7
        apply loop_stepA (k + 1)
        · exact .refl _
        · repeat' (first | exact trivial | refine ⟨⟨_, rfl, by first | rfl | exact inc_eq _ (by omega) | (refine sl_eq ?_; simp; done), by first | exact trivial | simp [SV.ok]⟩, ?_⟩)
        · exact ⟨rfl, trivial⟩
        · exact ⟨by omega, okK_next hok (by assumption)⟩
        · omega
    ·
      simp at q2
      refine draw_joinK (α := (Nat) × (Nat) × (Nat)) [25, 26, 27, 6] (fun z => [(6, .p 1 0)]) (fun z => [⟨x0, [.slice none 0 0, .slice none 0 0, .slice none 0 0, .slice none 0 0], 31⟩, ⟨z.2.2, [.slice (some ⟨z.1, 0, none⟩) 2 2, .slice none 0 0, .slice (some ⟨z.2.1, 0, none⟩) 2 2, .slice none 0 0], 31⟩]) (fun z => [[(z.1, Obj.cells ⟨zeros 2 [.slice none 0 0, .int .i64 0, .int .i64 0]⟩ 45)], [(z.2.1, Obj.cells ⟨zeros 2 [.slice none 0 0]⟩ 27)], H]) (fun z => True) ?_ ?_
      ·
        refine draw G_ok mixed (some 4) (.hd (.alt 0 (.hd (.alt 1 (.q 2 (.f 3 (.tl 4 (.nil)))) (.alt 3 (.f 1 (.q 2 (.tl 4 (.nil)))) (.nil)))) (.alt 1 (.hd (.alt 0 (.q 2 (.f 3 (.tl 4 (.nil)))) (.alt 3 (.f 0 (.q 2 (.tl 4 (.nil)))) (.nil)))) (.alt 3 (.hd (.alt 0 (.f 1 (.q 2 (.tl 4 (.nil)))) (.alt 1 (.f 0 (.q 2 (.tl 4 (.nil)))) (.nil)))) (.nil))))) (by decide +kernel) ?_
        refine VC.intro ?_ ?_
        ·
          refine VCmake.intro ?_ ?_ ?_ ?_ fun x8 => ?_
          · trivial
          · trivial
          · trivial
          · trivial
          refine VC.intro ?_ ?_
          ·
            refine VCmake.intro ?_ ?_ ?_ ?_ fun x9 => ?_
            · trivial
            · trivial
            · trivial
            · trivial
            refine VCnew.intro fun x10 => ?_
            refine VC.intro ?_ ?_
            · exact keep_sub (by simp) (by simp)
            apply join_stepI (_, _, _)
            · repeat' (first | exact trivial | refine ⟨⟨_, rfl, by first | rfl | exact inc_eq _ (by omega) | (refine sl_eq ?_; simp; done), by first | exact trivial | simp [SV.ok]⟩, ?_⟩)
            · exact ⟨rfl, rfl, trivial⟩
            · exact trivial
            · exact .le fun a => by simp [List.count_cons, Blk.ent, St.hall, setR]; omega
          ·
            refine VC.intro ?_ ?_
            ·
              refine VCnew.intro fun x11 => ?_
              refine VCmake.intro ?_ ?_ ?_ ?_ fun x12 => ?_
              · trivial
              · trivial
              · trivial
              · trivial
              apply join_stepI (_, _, _)
              · repeat' (first | exact trivial | refine ⟨⟨_, rfl, by first | rfl | exact inc_eq _ (by omega) | (refine sl_eq ?_; simp; done), by first | exact trivial | simp [SV.ok]⟩, ?_⟩)
              · exact ⟨rfl, rfl, trivial⟩
              · exact trivial
              · exact .le fun a => by simp [List.count_cons, Blk.ent, St.hall, setR]; omega
            ·
              exact trivial
        ·
          refine VC.intro ?_ ?_
          ·
            refine VCmake.intro ?_ ?_ ?_ ?_ fun x13 => ?_
            · trivial
            · trivial
            · trivial
            · trivial
            refine VC.intro ?_ ?_
            ·
              refine VCmake.intro ?_ ?_ ?_ ?_ fun x14 => ?_
              · trivial
              · trivial
              · trivial
              · trivial
              refine VCnew.intro fun x15 => ?_
              refine VC.intro ?_ ?_
              · exact keep_sub (by simp) (by simp)
              apply join_stepA (_, _, _)
              · exact .refl _
              · repeat' (first | exact trivial | refine ⟨⟨_, rfl, by first | rfl | exact inc_eq _ (by omega) | (refine sl_eq ?_; simp; done), by first | exact trivial | simp [SV.ok]⟩, ?_⟩)
              · exact ⟨rfl, rfl, trivial⟩
              · exact trivial
            ·
              refine VC.intro ?_ ?_
              ·
                refine VCnew.intro fun x16 => ?_
                refine VCmake.intro ?_ ?_ ?_ ?_ fun x17 => ?_
                · trivial
                · trivial
                · trivial
                · trivial
                apply join_stepA (_, _, _)
                · exact .refl _
                · repeat' (first | exact trivial | refine ⟨⟨_, rfl, by first | rfl | exact inc_eq _ (by omega) | (refine sl_eq ?_; simp; done), by first | exact trivial | simp [SV.ok]⟩, ?_⟩)
                · exact ⟨rfl, rfl, trivial⟩
                · exact trivial
              ·
                exact trivial
          ·
            refine VC.intro ?_ ?_
            ·
              refine VCnew.intro fun x18 => ?_
              refine VC.intro ?_ ?_
              ·
                refine VCmake.intro ?_ ?_ ?_ ?_ fun x19 => ?_
                · trivial
                · trivial
                · trivial
                · trivial
                refine VCmake.intro ?_ ?_ ?_ ?_ fun x20 => ?_
                · trivial
                · trivial
                · trivial
                · trivial
                apply join_stepI (_, _, _)
                · repeat' (first | exact trivial | refine ⟨⟨_, rfl, by first | rfl | exact inc_eq _ (by omega) | (refine sl_eq ?_; simp; done), by first | exact trivial | simp [SV.ok]⟩, ?_⟩)
                · exact ⟨rfl, rfl, trivial⟩
                · exact trivial
                · exact .le fun a => by simp [List.count_cons, Blk.ent, St.hall, setR]; omega
              ·
                refine VC.intro ?_ ?_
                ·
                  refine VCmake.intro ?_ ?_ ?_ ?_ fun x21 => ?_
                  · trivial
                  · trivial
                  · trivial
                  · trivial
                  refine VCmake.intro ?_ ?_ ?_ ?_ fun x22 => ?_
                  · trivial
                  · trivial
                  · trivial
                  · trivial
                  apply join_stepA (_, _, _)
                  · exact .refl _
                  · repeat' (first | exact trivial | refine ⟨⟨_, rfl, by first | rfl | exact inc_eq _ (by omega) | (refine sl_eq ?_; simp; done), by first | exact trivial | simp [SV.ok]⟩, ?_⟩)
                  · exact ⟨rfl, rfl, trivial⟩
                  · exact trivial
                ·
                  exact trivial
            ·
              exact trivial
      rintro ⟨x1, x2, x3⟩ hI
      obtain _ : True := hI
      try dsimp only
      have oE0 : (gSl 45 gLink).ow [.slice (some ⟨x1, 0, none⟩) pair0.ends.length 2] pair0.ends _ := gmake (b := x1) (k := 2) (c := 2) zLink_ow (by decide) (by decide)
      have oH0 : (gSl 27 (gSl 9 gS)).ow [.slice (some ⟨x2, 0, none⟩) pair0.heard.length 2] pair0.heard _ := gmake (b := x2) (k := 2) (c := 2) (z := []) (sl_nil _ _ none) (by decide) (by decide)
      have hka : k = xs.length := (by omega)
      subst hka
      apply loop_mod (α := (Nat) × (Option Addr) × (Nat) × (Option Addr) × (Nat) × (Option Addr) × (Nat) × (Option Addr) × (Nat) × (Hp) × (Hp) × (Hp) × (Hp)) G_ok [31, 32, 33, 8, 9, 34, 35, 36, 37, 38, 39, 40, 41, 42, 43, 30] (fun z => [(30, .v (.int .i64 z.1))]) (fun z => [⟨x0, [.slice none 0 0, .slice none 0 0, .slice none 0 0, .slice none 0 0], 31⟩, ⟨x3, [.slice z.2.1 (runK xs z.1).ends.length z.2.2.1, .slice z.2.2.2.1 (runK xs z.1).net.length z.2.2.2.2.1, .slice z.2.2.2.2.2.1 (runK xs z.1).heard.length z.2.2.2.2.2.2.1, .slice z.2.2.2.2.2.2.2.1 (runK xs z.1).codes.length z.2.2.2.2.2.2.2.2.1], 31⟩]) (fun z => [z.2.2.2.2.2.2.2.2.2.2.2.2, z.2.2.2.2.2.2.2.2.2.1, z.2.2.2.2.2.2.2.2.2.2.1, z.2.2.2.2.2.2.2.2.2.2.2.1, H]) (fun z => xs.length - z.1) (fun z => z.1 ≤ xs.length ∧ (gSl 45 gLink).ow [.slice z.2.1 (runK xs z.1).ends.length z.2.2.1] (runK xs z.1).ends z.2.2.2.2.2.2.2.2.2.1 ∧ (gSl 9 gS).ow [.slice z.2.2.2.1 (runK xs z.1).net.length z.2.2.2.2.1] (runK xs z.1).net z.2.2.2.2.2.2.2.2.2.2.1 ∧ (gSl 27 (gSl 9 gS)).ow [.slice z.2.2.2.2.2.1 (runK xs z.1).heard.length z.2.2.2.2.2.2.1] (runK xs z.1).heard z.2.2.2.2.2.2.2.2.2.2.2.1 ∧ (gSl 3 gI).ow [.slice z.2.2.2.2.2.2.2.1 (runK xs z.1).codes.length z.2.2.2.2.2.2.2.2.1] (runK xs z.1).codes z.2.2.2.2.2.2.2.2.2.2.2.2) ((0, (some ⟨x1, 0, none⟩), 2, none, 0, (some ⟨x2, 0, none⟩), 2, none, 0, _, [], _, []))
      · repeat' (first | exact trivial | refine ⟨⟨_, rfl, by first | rfl | exact inc_eq _ (by omega) | (refine sl_eq ?_; simp; done), by first | exact trivial | simp [SV.ok]⟩, ?_⟩)
      · exact ⟨rfl, rfl, trivial⟩
      · try dsimp only
        exact ⟨Nat.zero_le _, oE0, sl_nil _ _ _, oH0, sl_nil _ _ _⟩
      · exact .refl _
      rintro ⟨k, be, ce, bn, cn, bh, ch, bc, cc, AE, AN, AH, AC⟩ hI
      obtain ⟨hk2, oE, oN, oH, oC⟩ : k ≤ xs.length ∧ (gSl 45 gLink).ow [.slice be (runK xs k).ends.length ce] (runK xs k).ends AE ∧ (gSl 9 gS).ow [.slice bn (runK xs k).net.length cn] (runK xs k).net AN ∧ (gSl 27 (gSl 9 gS)).ow [.slice bh (runK xs k).heard.length ch] (runK xs k).heard AH ∧ (gSl 3 gI).ow [.slice bc (runK xs k).codes.length cc] (runK xs k).codes AC := hI
      try dsimp only
      refine VCsplit.intro (fun q23 => ?_) (fun q23 => ?_)
      ·
        simp at q23
        have hpi := runK_pi hok k (by omega)
        have hpx := hok k (by omega)
        have hcl9 := runK_codes (xs := xs) k (by omega)
        have hk9 : k < xs.length := (by omega)
        refine idx_rd hp ?_ ?_ fun b24 o24 hb24 => ?_
        · omega
        · omega
        refine load_allN default (k) rfl hp ?_ ?_ hb24 rfl (mem_at 4 rfl) fun l25 hl25 => ?_
        · omega
        · omega
        obtain ⟨rfl, w0x25, w1x25, w2x25, w3x25⟩ := gPush_rd.1 hl25
        refine VCnew.intro fun x26 => ?_
        refine callR_blk 1 (AE ++ AN ++ AH) [AC, H] rfl ?_ (implPush_ct _ _ _ (xs[k]?.getD default) _ _ _ _ _ _ _ _ _ _ oE oN oH ?_ ?_) (Rp.mono _ (mem_at 1 rfl) hl25) ?_
        · exact .le fun a => by (try simp only [setR, List.cons_append, List.nil_append]); simp only [List.flatten_append, List.flatten_cons, List.flatten_nil, List.count_append, List.count_nil, List.append_nil, List.nil_append]; omega
        · trivial
        · trivial
        rintro _ A27 ⟨be27, ce27, bn27, cn27, bh27, ch27, AE27, AN27, AH27, rfl, rfl, oE27, oN27, oH27⟩
        refine ⟨_, _, [AE27, AN27, AH27], rfl, perm3', ?_⟩
        refine VCsplit.intro (fun q28 => ?_) (fun q28 => ?_)
        ·
          simp at q28
          refine VCnew.intro fun x29 => ?_
          refine gappend1 (g := gI) (T := (3 : TypeId)) G_ok AC [] [AE27, AN27, AH27, H] ?_ oC (gI_ow ?_) (List.mem_of_getElem? (i := 0) rfl) rfl rfl rfl rfl rfl rfl rfl rfl ?_ fun b30 c30 A30 o30 => ?_
          · exact .le fun a => by (try simp only [setR, List.cons_append, List.nil_append]); simp only [List.flatten_append, List.flatten_cons, List.flatten_nil, List.count_append, List.count_nil, List.append_nil, List.nil_append]; omega
          · trivial
          · omega
          apply loop_stepA (k + 1, _, _, _, _, _, _, _, _, _, _, _, _)
          · exact .refl _
          · repeat' (first | exact trivial | refine ⟨⟨_, rfl, by first | rfl | exact inc_eq _ (by omega) | (refine sl_eq ?_; simp; done), by first | exact trivial | simp [SV.ok]⟩, ?_⟩)
          · ((rw [runK_ends hk9, runK_net hk9, runK_heard hk9, runK_codesF hk9 (by assumption)]); repeat' (first | exact trivial | refine ⟨by first | rfl | simp [Blk.ent], ?_⟩))
          · try dsimp only
            (rw [runK_ends hk9, runK_net hk9, runK_heard hk9, runK_codesF hk9 (by assumption)]; exact ⟨by omega, by assumption, by assumption, by assumption, by assumption⟩)
          · try dsimp only
            omega
        ·
          simp at q28
          refine VCnew.intro fun x31 => ?_
          refine gappend1 (g := gI) (T := (3 : TypeId)) G_ok AC [] [AE27, AN27, AH27, H] ?_ oC (gI_ow ?_) (List.mem_of_getElem? (i := 0) rfl) rfl rfl rfl rfl rfl rfl rfl rfl ?_ fun b32 c32 A32 o32 => ?_
          · exact .le fun a => by (try simp only [setR, List.cons_append, List.nil_append]); simp only [List.flatten_append, List.flatten_cons, List.flatten_nil, List.count_append, List.count_nil, List.append_nil, List.nil_append]; omega
          · trivial
          · omega
          apply loop_stepA (k + 1, _, _, _, _, _, _, _, _, _, _, _, _)
          · exact .refl _
          · repeat' (first | exact trivial | refine ⟨⟨_, rfl, by first | rfl | exact inc_eq _ (by omega) | (refine sl_eq ?_; simp; done), by first | exact trivial | simp [SV.ok]⟩, ?_⟩)
          · ((rw [runK_ends hk9, runK_net hk9, runK_heard hk9, runK_codesT hk9 (by assumption)]); repeat' (first | exact trivial | refine ⟨by first | rfl | simp [Blk.ent], ?_⟩))
          · try dsimp only
            (rw [runK_ends hk9, runK_net hk9, runK_heard hk9, runK_codesT hk9 (by assumption)]; exact ⟨by omega, by assumption, by assumption, by assumption, by assumption⟩)
          · try dsimp only
            omega
      ·
        simp at q23
        (have hkk : k = xs.length := (by omega); subst hkk; obtain ⟨e1, e2⟩ := runOk_yes (xs := xs) (by omega) hok; rw [e1, e2]; exact ⟨_, ⟨_, rfl, gPair_ow.2 ⟨_, _, _, _, _, _, _, _, _, _, _, _, rfl, .refl _, oE, oN, oH, oC⟩⟩, (.le fun a => by (try simp only [setR, List.cons_append, List.nil_append]); simp [List.count_cons, Blk.ent, idOf]; try omega)⟩)

end Go.Proofs.Ytmmmjikanmgpfaa

namespace Go.Proofs.Ytmmmjikanmgpfaa
open Go.SX Go.Proofs
set_option linter.unusedSimpArgs false
set_option linter.unusedVariables false
set_option maxHeartbeats 4000000
attribute [local irreducible] IntKind.wrap

--@ct spec.l19Copy new s_l19Copy_ct _ $1 ?_ | %1 | obtain ⟨l#, rfl, o#⟩ := o#
theorem s_l19Copy_ct (l : List Value) (x : Pair) (hx : gPair.sz x ≤ 1048576) :
    Ct Try.prog 33 [.agg ⟨l⟩] [] (fun H => gPair.rd H l x) (fun v A => ∃ l, v = .agg ⟨l⟩ ∧ gPair.ow l x A) := by
  refine Ct.intro0 G_ok Try.func33 rfl rfl rfl fun E H hp => ?_
  obtain ⟨b0p, c0p, b1p, c1p, b2p, c2p, b3p, c3p, rfl, h0p, h1p, h2p, h3p⟩ := gPair_rd.1 hp
  have ez := gPair_sz x
  have n0 := len_szL gLink x.ends
  have n1 := len_szL gS x.net
  have n2 := len_szL (gSl 9 gS) x.heard
  have n3 := len_szL gI x.codes
  have hq := szL_eq gLink x.ends
  have hq2 := szL_eq (gSl 9 gS) x.heard
  refine VCnew.intro fun x0 => ?_
  refine VCnew.intro fun x1 => ?_
  refine draw_joinK (α := (Nat) × (Option Addr) × (Nat) × (Hp) × (Option Addr) × (Nat) × (Hp)) [6, 7, 8, 9, 10, 11, 12, 13, 14, 3] (fun z => [(3, .p 2 0)]) (fun z => [⟨x0, [.slice b0p x.ends.length c0p, .slice b1p x.net.length c1p, .slice b2p x.heard.length c2p, .slice b3p x.codes.length c3p], 31⟩, ⟨x1, [.slice none 0 0, .slice none 0 0, .slice none 0 0, .slice none 0 0], 31⟩, ⟨z.1, [.slice none 0 0, .slice z.2.1 x.net.length z.2.2.1, .slice none 0 0, .slice z.2.2.2.2.1 x.codes.length z.2.2.2.2.2.1], 31⟩]) (fun z => [z.2.2.2.1 ++ z.2.2.2.2.2.2, H]) (fun z => (gSl 9 gS).ow [.slice z.2.1 x.net.length z.2.2.1] x.net z.2.2.2.1 ∧ (gSl 3 gI).ow [.slice z.2.2.2.2.1 x.codes.length z.2.2.2.2.2.1] x.codes z.2.2.2.2.2.2) ?_ ?_
  ·
    refine draw G_ok mixed (some 10) (.q 1 (.q 2 (.q 5 (.q 6 (.hd (.alt 0 (.hd (.alt 3 (.hd (.alt 4 (.hd (.alt 7 (.q 8 (.f 9 (.tl 10 (.nil)))) (.alt 9 (.f 7 (.q 8 (.tl 10 (.nil)))) (.nil)))) (.alt 9 (.f 4 (.f 7 (.q 8 (.tl 10 (.nil))))) (.nil)))) (.alt 4 (.hd (.alt 3 (.hd (.alt 7 (.q 8 (.f 9 (.tl 10 (.nil)))) (.alt 9 (.f 7 (.q 8 (.tl 10 (.nil)))) (.nil)))) (.alt 9 (.f 3 (.f 7 (.q 8 (.tl 10 (.nil))))) (.nil)))) (.alt 9 (.hd (.alt 3 (.f 4 (.f 7 (.q 8 (.tl 10 (.nil))))) (.alt 4 (.f 3 (.f 7 (.q 8 (.tl 10 (.nil))))) (.nil)))) (.nil))))) (.alt 4 (.hd (.alt 0 (.hd (.alt 3 (.hd (.alt 7 (.q 8 (.f 9 (.tl 10 (.nil)))) (.alt 9 (.f 7 (.q 8 (.tl 10 (.nil)))) (.nil)))) (.alt 9 (.f 3 (.f 7 (.q 8 (.tl 10 (.nil))))) (.nil)))) (.alt 9 (.f 0 (.f 3 (.f 7 (.q 8 (.tl 10 (.nil)))))) (.nil)))) (.alt 9 (.hd (.alt 0 (.hd (.alt 3 (.f 4 (.f 7 (.q 8 (.tl 10 (.nil))))) (.alt 4 (.f 3 (.f 7 (.q 8 (.tl 10 (.nil))))) (.nil)))) (.alt 4 (.f 0 (.f 3 (.f 7 (.q 8 (.tl 10 (.nil)))))) (.nil)))) (.nil))))))))) (by decide +kernel) ?_
    refine VC.intro ?_ ?_
    ·
      refine VCnew.intro fun x2 => ?_
      refine VC.intro ?_ ?_
      · exact keep_new
      refine VC.intro ?_ ?_
      ·
        refine append_allN (g := gS) (T := (9 : TypeId)) G_ok (by repeat (first | exact fl_plain | apply plain_iso | apply plain_pair)) [] [[(x2, Obj.cells { toList := zeros (0 : Nat) [Value.string ByteArray.empty] } (9 : TypeId))], H] 1 ?_ (sl_nil _ _ _) rfl h1p rfl rfl rfl rfl rfl rfl rfl rfl ?_ fun b3 c3 A3 o3 => ?_
        · exact .refl _
        · simp; omega
        refine VC.intro ?_ ?_
        · exact keep_sub (by simp) (by simp)
        refine VC.intro ?_ ?_
        ·
          refine VCnew.intro fun x4 => ?_
          refine VC.intro ?_ ?_
          · exact keep_sub (by simp) (by simp)
          refine VC.intro ?_ ?_
          ·
            refine append_allN (g := gI) (T := (3 : TypeId)) G_ok (by repeat (first | exact fl_plain | apply plain_iso | apply plain_pair)) [] [[(x4, Obj.cells { toList := zeros (0 : Nat) [Value.int IntKind.i64 (0 : Int)] } (3 : TypeId))], A3, [(x2, Obj.cells { toList := zeros (0 : Nat) [Value.string ByteArray.empty] } (9 : TypeId))], H] 3 ?_ (sl_nil _ _ _) rfl h3p rfl rfl rfl rfl rfl rfl rfl rfl ?_ fun b5 c5 A5 o5 => ?_
            · exact .refl _
            · simp; omega
            refine VC.intro ?_ ?_
            · exact keep_sub (by simp) (by simp)
            refine VCnew.intro fun x6 => ?_
            refine VC.intro ?_ ?_
            · exact keep_sub (by simp) (by simp)
            apply join_stepI (_, _, _, _, _, _, _)
            · repeat' (first | exact trivial | refine ⟨⟨_, rfl, by first | rfl | exact inc_eq _ (by omega) | (refine sl_eq ?_; simp; done) | (refine sl_eq ?_; simp only [List.length_append, List.length_take, List.length_cons, List.length_nil]; omega), by first | exact trivial | simp [SV.ok]⟩, ?_⟩)
            · exact ⟨rfl, rfl, rfl, trivial⟩
            · try dsimp only
              exact ⟨by assumption, by assumption⟩
            · exact .le fun a => by (try simp only [setR, List.cons_append, List.nil_append]); simp only [List.flatten_append, List.flatten_cons, List.flatten_nil, List.count_append, List.count_nil, List.append_nil, List.nil_append]; omega
          ·
            refine VC.intro ?_ ?_
            ·
              refine VCnew.intro fun x7 => ?_
              refine VC.intro ?_ ?_
              · exact keep_sub (by simp) (by simp)
              refine append_allN (g := gI) (T := (3 : TypeId)) G_ok (by repeat (first | exact fl_plain | apply plain_iso | apply plain_pair)) [] [[(x4, Obj.cells { toList := zeros (0 : Nat) [Value.int IntKind.i64 (0 : Int)] } (3 : TypeId))], A3, [(x2, Obj.cells { toList := zeros (0 : Nat) [Value.string ByteArray.empty] } (9 : TypeId))], H] 3 ?_ (sl_nil _ _ _) rfl h3p rfl rfl rfl rfl rfl rfl rfl rfl ?_ fun b8 c8 A8 o8 => ?_
              · exact .refl _
              · simp; omega
              refine VC.intro ?_ ?_
              · exact keep_sub (by simp) (by simp)
              apply join_stepI (_, _, _, _, _, _, _)
              · repeat' (first | exact trivial | refine ⟨⟨_, rfl, by first | rfl | exact inc_eq _ (by omega) | (refine sl_eq ?_; simp; done) | (refine sl_eq ?_; simp only [List.length_append, List.length_take, List.length_cons, List.length_nil]; omega), by first | exact trivial | simp [SV.ok]⟩, ?_⟩)
              · exact ⟨rfl, rfl, rfl, trivial⟩
              · try dsimp only
                exact ⟨by assumption, by assumption⟩
              · exact .le fun a => by (try simp only [setR, List.cons_append, List.nil_append]); simp only [List.flatten_append, List.flatten_cons, List.flatten_nil, List.count_append, List.count_nil, List.append_nil, List.nil_append]; omega
            ·
              exact trivial
        ·
          refine VC.intro ?_ ?_
          ·
            refine VCnew.intro fun x9 => ?_
            refine VC.intro ?_ ?_
            · exact keep_sub (by simp) (by simp)
            refine VCnew.intro fun x10 => ?_
            refine VC.intro ?_ ?_
            · exact keep_sub (by simp) (by simp)
            refine append_allN (g := gI) (T := (3 : TypeId)) G_ok (by repeat (first | exact fl_plain | apply plain_iso | apply plain_pair)) [] [[(x10, Obj.cells { toList := zeros (0 : Nat) [Value.int IntKind.i64 (0 : Int)] } (3 : TypeId))], A3, [(x2, Obj.cells { toList := zeros (0 : Nat) [Value.string ByteArray.empty] } (9 : TypeId))], H] 3 ?_ (sl_nil _ _ _) rfl h3p rfl rfl rfl rfl rfl rfl rfl rfl ?_ fun b11 c11 A11 o11 => ?_
            · exact .refl _
            · simp; omega
            refine VC.intro ?_ ?_
            · exact keep_sub (by simp) (by simp)
            apply join_stepI (_, _, _, _, _, _, _)
            · repeat' (first | exact trivial | refine ⟨⟨_, rfl, by first | rfl | exact inc_eq _ (by omega) | (refine sl_eq ?_; simp; done) | (refine sl_eq ?_; simp only [List.length_append, List.length_take, List.length_cons, List.length_nil]; omega), by first | exact trivial | simp [SV.ok]⟩, ?_⟩)
            · exact ⟨rfl, rfl, rfl, trivial⟩
            · try dsimp only
              exact ⟨by assumption, by assumption⟩
            · exact .le fun a => by (try simp only [setR, List.cons_append, List.nil_append]); simp only [List.flatten_append, List.flatten_cons, List.flatten_nil, List.count_append, List.count_nil, List.append_nil, List.nil_append]; omega
          ·
            exact trivial
      ·
        refine VC.intro ?_ ?_
        ·
          refine VCnew.intro fun x12 => ?_
          refine VC.intro ?_ ?_
          · exact keep_sub (by simp) (by simp)
          refine VC.intro ?_ ?_
          ·
            refine append_allN (g := gS) (T := (9 : TypeId)) G_ok (by repeat (first | exact fl_plain | apply plain_iso | apply plain_pair)) [] [[(x12, Obj.cells { toList := zeros (0 : Nat) [Value.int IntKind.i64 (0 : Int)] } (3 : TypeId))], [(x2, Obj.cells { toList := zeros (0 : Nat) [Value.string ByteArray.empty] } (9 : TypeId))], H] 2 ?_ (sl_nil _ _ _) rfl h1p rfl rfl rfl rfl rfl rfl rfl rfl ?_ fun b13 c13 A13 o13 => ?_
            · exact .refl _
            · simp; omega
            refine VC.intro ?_ ?_
            · exact keep_sub (by simp) (by simp)
            refine VC.intro ?_ ?_
            ·
              refine append_allN (g := gI) (T := (3 : TypeId)) G_ok (by repeat (first | exact fl_plain | apply plain_iso | apply plain_pair)) [] [A13, [(x12, Obj.cells { toList := zeros (0 : Nat) [Value.int IntKind.i64 (0 : Int)] } (3 : TypeId))], [(x2, Obj.cells { toList := zeros (0 : Nat) [Value.string ByteArray.empty] } (9 : TypeId))], H] 3 ?_ (sl_nil _ _ _) rfl h3p rfl rfl rfl rfl rfl rfl rfl rfl ?_ fun b14 c14 A14 o14 => ?_
              · exact .refl _
              · simp; omega
              refine VC.intro ?_ ?_
              · exact keep_sub (by simp) (by simp)
              refine VCnew.intro fun x15 => ?_
              refine VC.intro ?_ ?_
              · exact keep_sub (by simp) (by simp)
              apply join_stepI (_, _, _, _, _, _, _)
              · repeat' (first | exact trivial | refine ⟨⟨_, rfl, by first | rfl | exact inc_eq _ (by omega) | (refine sl_eq ?_; simp; done) | (refine sl_eq ?_; simp only [List.length_append, List.length_take, List.length_cons, List.length_nil]; omega), by first | exact trivial | simp [SV.ok]⟩, ?_⟩)
              · exact ⟨rfl, rfl, rfl, trivial⟩
              · try dsimp only
                exact ⟨by assumption, by assumption⟩
              · exact .le fun a => by (try simp only [setR, List.cons_append, List.nil_append]); simp only [List.flatten_append, List.flatten_cons, List.flatten_nil, List.count_append, List.count_nil, List.append_nil, List.nil_append]; omega
            ·
              refine VC.intro ?_ ?_
              ·
                refine VCnew.intro fun x16 => ?_
                refine VC.intro ?_ ?_
                · exact keep_sub (by simp) (by simp)
                refine append_allN (g := gI) (T := (3 : TypeId)) G_ok (by repeat (first | exact fl_plain | apply plain_iso | apply plain_pair)) [] [A13, [(x12, Obj.cells { toList := zeros (0 : Nat) [Value.int IntKind.i64 (0 : Int)] } (3 : TypeId))], [(x2, Obj.cells { toList := zeros (0 : Nat) [Value.string ByteArray.empty] } (9 : TypeId))], H] 3 ?_ (sl_nil _ _ _) rfl h3p rfl rfl rfl rfl rfl rfl rfl rfl ?_ fun b17 c17 A17 o17 => ?_
                · exact .refl _
                · simp; omega
                refine VC.intro ?_ ?_
                · exact keep_sub (by simp) (by simp)
                apply join_stepI (_, _, _, _, _, _, _)
                · repeat' (first | exact trivial | refine ⟨⟨_, rfl, by first | rfl | exact inc_eq _ (by omega) | (refine sl_eq ?_; simp; done) | (refine sl_eq ?_; simp only [List.length_append, List.length_take, List.length_cons, List.length_nil]; omega), by first | exact trivial | simp [SV.ok]⟩, ?_⟩)
                · exact ⟨rfl, rfl, rfl, trivial⟩
                · try dsimp only
                  exact ⟨by assumption, by assumption⟩
                · exact .le fun a => by (try simp only [setR, List.cons_append, List.nil_append]); simp only [List.flatten_append, List.flatten_cons, List.flatten_nil, List.count_append, List.count_nil, List.append_nil, List.nil_append]; omega
              ·
                exact trivial
          ·
            refine VC.intro ?_ ?_
            ·
              refine VCnew.intro fun x18 => ?_
              refine VC.intro ?_ ?_
              · exact keep_sub (by simp) (by simp)
              refine append_allN (g := gS) (T := (9 : TypeId)) G_ok (by repeat (first | exact fl_plain | apply plain_iso | apply plain_pair)) [] [[(x12, Obj.cells { toList := zeros (0 : Nat) [Value.int IntKind.i64 (0 : Int)] } (3 : TypeId))], [(x2, Obj.cells { toList := zeros (0 : Nat) [Value.string ByteArray.empty] } (9 : TypeId))], H] 2 ?_ (sl_nil _ _ _) rfl h1p rfl rfl rfl rfl rfl rfl rfl rfl ?_ fun b19 c19 A19 o19 => ?_
              · exact .refl _
              · simp; omega
              refine VC.intro ?_ ?_
              · exact keep_sub (by simp) (by simp)
              refine append_allN (g := gI) (T := (3 : TypeId)) G_ok (by repeat (first | exact fl_plain | apply plain_iso | apply plain_pair)) [] [A19, [(x12, Obj.cells { toList := zeros (0 : Nat) [Value.int IntKind.i64 (0 : Int)] } (3 : TypeId))], [(x2, Obj.cells { toList := zeros (0 : Nat) [Value.string ByteArray.empty] } (9 : TypeId))], H] 3 ?_ (sl_nil _ _ _) rfl h3p rfl rfl rfl rfl rfl rfl rfl rfl ?_ fun b20 c20 A20 o20 => ?_
              · exact .refl _
              · simp; omega
              refine VC.intro ?_ ?_
              · exact keep_sub (by simp) (by simp)
              apply join_stepI (_, _, _, _, _, _, _)
              · repeat' (first | exact trivial | refine ⟨⟨_, rfl, by first | rfl | exact inc_eq _ (by omega) | (refine sl_eq ?_; simp; done) | (refine sl_eq ?_; simp only [List.length_append, List.length_take, List.length_cons, List.length_nil]; omega), by first | exact trivial | simp [SV.ok]⟩, ?_⟩)
              · exact ⟨rfl, rfl, rfl, trivial⟩
              · try dsimp only
                exact ⟨by assumption, by assumption⟩
              · exact .le fun a => by (try simp only [setR, List.cons_append, List.nil_append]); simp only [List.flatten_append, List.flatten_cons, List.flatten_nil, List.count_append, List.count_nil, List.append_nil, List.nil_append]; omega
            ·
              exact trivial
        ·
          refine VC.intro ?_ ?_
          ·
            refine VCnew.intro fun x21 => ?_
            refine VC.intro ?_ ?_
            · exact keep_sub (by simp) (by simp)
            refine VC.intro ?_ ?_
            ·
              refine append_allN (g := gS) (T := (9 : TypeId)) G_ok (by repeat (first | exact fl_plain | apply plain_iso | apply plain_pair)) [] [[(x2, Obj.cells { toList := zeros (0 : Nat) [Value.string ByteArray.empty] } (9 : TypeId))], H] 1 ?_ (sl_nil _ _ _) rfl h1p rfl rfl rfl rfl rfl rfl rfl rfl ?_ fun b22 c22 A22 o22 => ?_
              · exact .refl _
              · simp; omega
              refine VC.intro ?_ ?_
              · exact keep_sub (by simp) (by simp)
              refine VCnew.intro fun x23 => ?_
              refine VC.intro ?_ ?_
              · exact keep_sub (by simp) (by simp)
              refine append_allN (g := gI) (T := (3 : TypeId)) G_ok (by repeat (first | exact fl_plain | apply plain_iso | apply plain_pair)) [] [[(x23, Obj.cells { toList := zeros (0 : Nat) [Value.int IntKind.i64 (0 : Int)] } (3 : TypeId))], A22, [(x2, Obj.cells { toList := zeros (0 : Nat) [Value.string ByteArray.empty] } (9 : TypeId))], H] 3 ?_ (sl_nil _ _ _) rfl h3p rfl rfl rfl rfl rfl rfl rfl rfl ?_ fun b24 c24 A24 o24 => ?_
              · exact .refl _
              · simp; omega
              refine VC.intro ?_ ?_
              · exact keep_sub (by simp) (by simp)
              apply join_stepI (_, _, _, _, _, _, _)
              · repeat' (first | exact trivial | refine ⟨⟨_, rfl, by first | rfl | exact inc_eq _ (by omega) | (refine sl_eq ?_; simp; done) | (refine sl_eq ?_; simp only [List.length_append, List.length_take, List.length_cons, List.length_nil]; omega), by first | exact trivial | simp [SV.ok]⟩, ?_⟩)
              · exact ⟨rfl, rfl, rfl, trivial⟩
              · try dsimp only
                exact ⟨by assumption, by assumption⟩
              · exact .le fun a => by (try simp only [setR, List.cons_append, List.nil_append]); simp only [List.flatten_append, List.flatten_cons, List.flatten_nil, List.count_append, List.count_nil, List.append_nil, List.nil_append]; omega
            ·
              refine VC.intro ?_ ?_
              ·
                refine VCnew.intro fun x25 => ?_
                refine VC.intro ?_ ?_
                · exact keep_sub (by simp) (by simp)
                refine append_allN (g := gS) (T := (9 : TypeId)) G_ok (by repeat (first | exact fl_plain | apply plain_iso | apply plain_pair)) [] [[(x25, Obj.cells { toList := zeros (0 : Nat) [Value.int IntKind.i64 (0 : Int)] } (3 : TypeId))], [(x2, Obj.cells { toList := zeros (0 : Nat) [Value.string ByteArray.empty] } (9 : TypeId))], H] 2 ?_ (sl_nil _ _ _) rfl h1p rfl rfl rfl rfl rfl rfl rfl rfl ?_ fun b26 c26 A26 o26 => ?_
                · exact .refl _
                · simp; omega
                refine VC.intro ?_ ?_
                · exact keep_sub (by simp) (by simp)
                refine append_allN (g := gI) (T := (3 : TypeId)) G_ok (by repeat (first | exact fl_plain | apply plain_iso | apply plain_pair)) [] [A26, [(x25, Obj.cells { toList := zeros (0 : Nat) [Value.int IntKind.i64 (0 : Int)] } (3 : TypeId))], [(x2, Obj.cells { toList := zeros (0 : Nat) [Value.string ByteArray.empty] } (9 : TypeId))], H] 3 ?_ (sl_nil _ _ _) rfl h3p rfl rfl rfl rfl rfl rfl rfl rfl ?_ fun b27 c27 A27 o27 => ?_
                · exact .refl _
                · simp; omega
                refine VC.intro ?_ ?_
                · exact keep_sub (by simp) (by simp)
                apply join_stepI (_, _, _, _, _, _, _)
                · repeat' (first | exact trivial | refine ⟨⟨_, rfl, by first | rfl | exact inc_eq _ (by omega) | (refine sl_eq ?_; simp; done) | (refine sl_eq ?_; simp only [List.length_append, List.length_take, List.length_cons, List.length_nil]; omega), by first | exact trivial | simp [SV.ok]⟩, ?_⟩)
                · exact ⟨rfl, rfl, rfl, trivial⟩
                · try dsimp only
                  exact ⟨by assumption, by assumption⟩
                · exact .le fun a => by (try simp only [setR, List.cons_append, List.nil_append]); simp only [List.flatten_append, List.flatten_cons, List.flatten_nil, List.count_append, List.count_nil, List.append_nil, List.nil_append]; omega
              ·
                exact trivial
          ·
            exact trivial
    ·
      refine VC.intro ?_ ?_
      ·
        refine VCnew.intro fun x28 => ?_
        refine VC.intro ?_ ?_
        · exact keep_new
        refine VC.intro ?_ ?_
        ·
          refine VCnew.intro fun x29 => ?_
          refine VC.intro ?_ ?_
          · exact keep_sub (by simp) (by simp)
          refine VC.intro ?_ ?_
          ·
            refine append_allN (g := gS) (T := (9 : TypeId)) G_ok (by repeat (first | exact fl_plain | apply plain_iso | apply plain_pair)) [] [[(x29, Obj.cells { toList := zeros (0 : Nat) [Value.string ByteArray.empty] } (9 : TypeId))], [(x28, Obj.cells { toList := zeros (0 : Nat) [Value.int IntKind.i64 (0 : Int)] } (3 : TypeId))], H] 2 ?_ (sl_nil _ _ _) rfl h1p rfl rfl rfl rfl rfl rfl rfl rfl ?_ fun b30 c30 A30 o30 => ?_
            · exact .refl _
            · simp; omega
            refine VC.intro ?_ ?_
            · exact keep_sub (by simp) (by simp)
            refine VC.intro ?_ ?_
            ·
              refine append_allN (g := gI) (T := (3 : TypeId)) G_ok (by repeat (first | exact fl_plain | apply plain_iso | apply plain_pair)) [] [A30, [(x29, Obj.cells { toList := zeros (0 : Nat) [Value.string ByteArray.empty] } (9 : TypeId))], [(x28, Obj.cells { toList := zeros (0 : Nat) [Value.int IntKind.i64 (0 : Int)] } (3 : TypeId))], H] 3 ?_ (sl_nil _ _ _) rfl h3p rfl rfl rfl rfl rfl rfl rfl rfl ?_ fun b31 c31 A31 o31 => ?_
              · exact .refl _
              · simp; omega
              refine VC.intro ?_ ?_
              · exact keep_sub (by simp) (by simp)
              refine VCnew.intro fun x32 => ?_
              refine VC.intro ?_ ?_
              · exact keep_sub (by simp) (by simp)
              apply join_stepI (_, _, _, _, _, _, _)
              · repeat' (first | exact trivial | refine ⟨⟨_, rfl, by first | rfl | exact inc_eq _ (by omega) | (refine sl_eq ?_; simp; done) | (refine sl_eq ?_; simp only [List.length_append, List.length_take, List.length_cons, List.length_nil]; omega), by first | exact trivial | simp [SV.ok]⟩, ?_⟩)
              · exact ⟨rfl, rfl, rfl, trivial⟩
              · try dsimp only
                exact ⟨by assumption, by assumption⟩
              · exact .le fun a => by (try simp only [setR, List.cons_append, List.nil_append]); simp only [List.flatten_append, List.flatten_cons, List.flatten_nil, List.count_append, List.count_nil, List.append_nil, List.nil_append]; omega
            ·
              refine VC.intro ?_ ?_
              ·
                refine VCnew.intro fun x33 => ?_
                refine VC.intro ?_ ?_
                · exact keep_sub (by simp) (by simp)
                refine append_allN (g := gI) (T := (3 : TypeId)) G_ok (by repeat (first | exact fl_plain | apply plain_iso | apply plain_pair)) [] [A30, [(x29, Obj.cells { toList := zeros (0 : Nat) [Value.string ByteArray.empty] } (9 : TypeId))], [(x28, Obj.cells { toList := zeros (0 : Nat) [Value.int IntKind.i64 (0 : Int)] } (3 : TypeId))], H] 3 ?_ (sl_nil _ _ _) rfl h3p rfl rfl rfl rfl rfl rfl rfl rfl ?_ fun b34 c34 A34 o34 => ?_
                · exact .refl _
                · simp; omega
                refine VC.intro ?_ ?_
                · exact keep_sub (by simp) (by simp)
                apply join_stepI (_, _, _, _, _, _, _)
                · repeat' (first | exact trivial | refine ⟨⟨_, rfl, by first | rfl | exact inc_eq _ (by omega) | (refine sl_eq ?_; simp; done) | (refine sl_eq ?_; simp only [List.length_append, List.length_take, List.length_cons, List.length_nil]; omega), by first | exact trivial | simp [SV.ok]⟩, ?_⟩)
                · exact ⟨rfl, rfl, rfl, trivial⟩
                · try dsimp only
                  exact ⟨by assumption, by assumption⟩
                · exact .le fun a => by (try simp only [setR, List.cons_append, List.nil_append]); simp only [List.flatten_append, List.flatten_cons, List.flatten_nil, List.count_append, List.count_nil, List.append_nil, List.nil_append]; omega
              ·
                exact trivial
          ·
            refine VC.intro ?_ ?_
            ·
              refine VCnew.intro fun x35 => ?_
              refine VC.intro ?_ ?_
              · exact keep_sub (by simp) (by simp)
              refine append_allN (g := gS) (T := (9 : TypeId)) G_ok (by repeat (first | exact fl_plain | apply plain_iso | apply plain_pair)) [] [[(x29, Obj.cells { toList := zeros (0 : Nat) [Value.string ByteArray.empty] } (9 : TypeId))], [(x28, Obj.cells { toList := zeros (0 : Nat) [Value.int IntKind.i64 (0 : Int)] } (3 : TypeId))], H] 2 ?_ (sl_nil _ _ _) rfl h1p rfl rfl rfl rfl rfl rfl rfl rfl ?_ fun b36 c36 A36 o36 => ?_
              · exact .refl _
              · simp; omega
              refine VC.intro ?_ ?_
              · exact keep_sub (by simp) (by simp)
              refine append_allN (g := gI) (T := (3 : TypeId)) G_ok (by repeat (first | exact fl_plain | apply plain_iso | apply plain_pair)) [] [A36, [(x29, Obj.cells { toList := zeros (0 : Nat) [Value.string ByteArray.empty] } (9 : TypeId))], [(x28, Obj.cells { toList := zeros (0 : Nat) [Value.int IntKind.i64 (0 : Int)] } (3 : TypeId))], H] 3 ?_ (sl_nil _ _ _) rfl h3p rfl rfl rfl rfl rfl rfl rfl rfl ?_ fun b37 c37 A37 o37 => ?_
              · exact .refl _
              · simp; omega
              refine VC.intro ?_ ?_
              · exact keep_sub (by simp) (by simp)
              apply join_stepI (_, _, _, _, _, _, _)
              · repeat' (first | exact trivial | refine ⟨⟨_, rfl, by first | rfl | exact inc_eq _ (by omega) | (refine sl_eq ?_; simp; done) | (refine sl_eq ?_; simp only [List.length_append, List.length_take, List.length_cons, List.length_nil]; omega), by first | exact trivial | simp [SV.ok]⟩, ?_⟩)
              · exact ⟨rfl, rfl, rfl, trivial⟩
              · try dsimp only
                exact ⟨by assumption, by assumption⟩
              · exact .le fun a => by (try simp only [setR, List.cons_append, List.nil_append]); simp only [List.flatten_append, List.flatten_cons, List.flatten_nil, List.count_append, List.count_nil, List.append_nil, List.nil_append]; omega
            ·
              exact trivial
        ·
          refine VC.intro ?_ ?_
          ·
            refine VCnew.intro fun x38 => ?_
            refine VC.intro ?_ ?_
            · exact keep_sub (by simp) (by simp)
            refine VCnew.intro fun x39 => ?_
            refine VC.intro ?_ ?_
            · exact keep_sub (by simp) (by simp)
            refine append_allN (g := gS) (T := (9 : TypeId)) G_ok (by repeat (first | exact fl_plain | apply plain_iso | apply plain_pair)) [] [[(x39, Obj.cells { toList := zeros (0 : Nat) [Value.string ByteArray.empty] } (9 : TypeId))], [(x28, Obj.cells { toList := zeros (0 : Nat) [Value.int IntKind.i64 (0 : Int)] } (3 : TypeId))], H] 2 ?_ (sl_nil _ _ _) rfl h1p rfl rfl rfl rfl rfl rfl rfl rfl ?_ fun b40 c40 A40 o40 => ?_
            · exact .refl _
            · simp; omega
            refine VC.intro ?_ ?_
            · exact keep_sub (by simp) (by simp)
            refine append_allN (g := gI) (T := (3 : TypeId)) G_ok (by repeat (first | exact fl_plain | apply plain_iso | apply plain_pair)) [] [A40, [(x39, Obj.cells { toList := zeros (0 : Nat) [Value.string ByteArray.empty] } (9 : TypeId))], [(x28, Obj.cells { toList := zeros (0 : Nat) [Value.int IntKind.i64 (0 : Int)] } (3 : TypeId))], H] 3 ?_ (sl_nil _ _ _) rfl h3p rfl rfl rfl rfl rfl rfl rfl rfl ?_ fun b41 c41 A41 o41 => ?_
            · exact .refl _
            · simp; omega
            refine VC.intro ?_ ?_
            · exact keep_sub (by simp) (by simp)
            apply join_stepI (_, _, _, _, _, _, _)
            · repeat' (first | exact trivial | refine ⟨⟨_, rfl, by first | rfl | exact inc_eq _ (by omega) | (refine sl_eq ?_; simp; done) | (refine sl_eq ?_; simp only [List.length_append, List.length_take, List.length_cons, List.length_nil]; omega), by first | exact trivial | simp [SV.ok]⟩, ?_⟩)
            · exact ⟨rfl, rfl, rfl, trivial⟩
            · try dsimp only
              exact ⟨by assumption, by assumption⟩
            · exact .le fun a => by (try simp only [setR, List.cons_append, List.nil_append]); simp only [List.flatten_append, List.flatten_cons, List.flatten_nil, List.count_append, List.count_nil, List.append_nil, List.nil_append]; omega
          ·
            exact trivial
      ·
        refine VC.intro ?_ ?_
        ·
          refine VCnew.intro fun x42 => ?_
          refine VC.intro ?_ ?_
          · exact keep_sub (by simp) (by simp)
          refine VC.intro ?_ ?_
          ·
            refine VCnew.intro fun x43 => ?_
            refine VC.intro ?_ ?_
            · exact keep_sub (by simp) (by simp)
            refine VC.intro ?_ ?_
            ·
              refine append_allN (g := gS) (T := (9 : TypeId)) G_ok (by repeat (first | exact fl_plain | apply plain_iso | apply plain_pair)) [] [[(x43, Obj.cells { toList := zeros (0 : Nat) [Value.string ByteArray.empty] } (9 : TypeId))], H] 1 ?_ (sl_nil _ _ _) rfl h1p rfl rfl rfl rfl rfl rfl rfl rfl ?_ fun b44 c44 A44 o44 => ?_
              · exact .refl _
              · simp; omega
              refine VC.intro ?_ ?_
              · exact keep_sub (by simp) (by simp)
              refine VCnew.intro fun x45 => ?_
              refine VC.intro ?_ ?_
              · exact keep_sub (by simp) (by simp)
              refine append_allN (g := gI) (T := (3 : TypeId)) G_ok (by repeat (first | exact fl_plain | apply plain_iso | apply plain_pair)) [] [[(x45, Obj.cells { toList := zeros (0 : Nat) [Value.int IntKind.i64 (0 : Int)] } (3 : TypeId))], A44, [(x43, Obj.cells { toList := zeros (0 : Nat) [Value.string ByteArray.empty] } (9 : TypeId))], H] 3 ?_ (sl_nil _ _ _) rfl h3p rfl rfl rfl rfl rfl rfl rfl rfl ?_ fun b46 c46 A46 o46 => ?_
              · exact .refl _
              · simp; omega
              refine VC.intro ?_ ?_
              · exact keep_sub (by simp) (by simp)
              apply join_stepI (_, _, _, _, _, _, _)
              · repeat' (first | exact trivial | refine ⟨⟨_, rfl, by first | rfl | exact inc_eq _ (by omega) | (refine sl_eq ?_; simp; done) | (refine sl_eq ?_; simp only [List.length_append, List.length_take, List.length_cons, List.length_nil]; omega), by first | exact trivial | simp [SV.ok]⟩, ?_⟩)
              · exact ⟨rfl, rfl, rfl, trivial⟩
              · try dsimp only
                exact ⟨by assumption, by assumption⟩
              · exact .le fun a => by (try simp only [setR, List.cons_append, List.nil_append]); simp only [List.flatten_append, List.flatten_cons, List.flatten_nil, List.count_append, List.count_nil, List.append_nil, List.nil_append]; omega
            ·
              refine VC.intro ?_ ?_
              ·
                refine VCnew.intro fun x47 => ?_
                refine VC.intro ?_ ?_
                · exact keep_sub (by simp) (by simp)
                refine append_allN (g := gS) (T := (9 : TypeId)) G_ok (by repeat (first | exact fl_plain | apply plain_iso | apply plain_pair)) [] [[(x47, Obj.cells { toList := zeros (0 : Nat) [Value.int IntKind.i64 (0 : Int)] } (3 : TypeId))], [(x43, Obj.cells { toList := zeros (0 : Nat) [Value.string ByteArray.empty] } (9 : TypeId))], H] 2 ?_ (sl_nil _ _ _) rfl h1p rfl rfl rfl rfl rfl rfl rfl rfl ?_ fun b48 c48 A48 o48 => ?_
                · exact .refl _
                · simp; omega
                refine VC.intro ?_ ?_
                · exact keep_sub (by simp) (by simp)
                refine append_allN (g := gI) (T := (3 : TypeId)) G_ok (by repeat (first | exact fl_plain | apply plain_iso | apply plain_pair)) [] [A48, [(x47, Obj.cells { toList := zeros (0 : Nat) [Value.int IntKind.i64 (0 : Int)] } (3 : TypeId))], [(x43, Obj.cells { toList := zeros (0 : Nat) [Value.string ByteArray.empty] } (9 : TypeId))], H] 3 ?_ (sl_nil _ _ _) rfl h3p rfl rfl rfl rfl rfl rfl rfl rfl ?_ fun b49 c49 A49 o49 => ?_
                · exact .refl _
                · simp; omega
                refine VC.intro ?_ ?_
                · exact keep_sub (by simp) (by simp)
                apply join_stepI (_, _, _, _, _, _, _)
                · repeat' (first | exact trivial | refine ⟨⟨_, rfl, by first | rfl | exact inc_eq _ (by omega) | (refine sl_eq ?_; simp; done) | (refine sl_eq ?_; simp only [List.length_append, List.length_take, List.length_cons, List.length_nil]; omega), by first | exact trivial | simp [SV.ok]⟩, ?_⟩)
                · exact ⟨rfl, rfl, rfl, trivial⟩
                · try dsimp only
                  exact ⟨by assumption, by assumption⟩
                · exact .le fun a => by (try simp only [setR, List.cons_append, List.nil_append]); simp only [List.flatten_append, List.flatten_cons, List.flatten_nil, List.count_append, List.count_nil, List.append_nil, List.nil_append]; omega
              ·
                exact trivial
          ·
            refine VC.intro ?_ ?_
            ·
              refine VCnew.intro fun x50 => ?_
              refine VC.intro ?_ ?_
              · exact keep_sub (by simp) (by simp)
              refine VCnew.intro fun x51 => ?_
              refine VC.intro ?_ ?_
              · exact keep_sub (by simp) (by simp)
              refine append_allN (g := gS) (T := (9 : TypeId)) G_ok (by repeat (first | exact fl_plain | apply plain_iso | apply plain_pair)) [] [[(x51, Obj.cells { toList := zeros (0 : Nat) [Value.string ByteArray.empty] } (9 : TypeId))], [(x50, Obj.cells { toList := zeros (0 : Nat) [Value.int IntKind.i64 (0 : Int)] } (3 : TypeId))], H] 2 ?_ (sl_nil _ _ _) rfl h1p rfl rfl rfl rfl rfl rfl rfl rfl ?_ fun b52 c52 A52 o52 => ?_
              · exact .refl _
              · simp; omega
              refine VC.intro ?_ ?_
              · exact keep_sub (by simp) (by simp)
              refine append_allN (g := gI) (T := (3 : TypeId)) G_ok (by repeat (first | exact fl_plain | apply plain_iso | apply plain_pair)) [] [A52, [(x51, Obj.cells { toList := zeros (0 : Nat) [Value.string ByteArray.empty] } (9 : TypeId))], [(x50, Obj.cells { toList := zeros (0 : Nat) [Value.int IntKind.i64 (0 : Int)] } (3 : TypeId))], H] 3 ?_ (sl_nil _ _ _) rfl h3p rfl rfl rfl rfl rfl rfl rfl rfl ?_ fun b53 c53 A53 o53 => ?_
              · exact .refl _
              · simp; omega
              refine VC.intro ?_ ?_
              · exact keep_sub (by simp) (by simp)
              apply join_stepI (_, _, _, _, _, _, _)
              · repeat' (first | exact trivial | refine ⟨⟨_, rfl, by first | rfl | exact inc_eq _ (by omega) | (refine sl_eq ?_; simp; done) | (refine sl_eq ?_; simp only [List.length_append, List.length_take, List.length_cons, List.length_nil]; omega), by first | exact trivial | simp [SV.ok]⟩, ?_⟩)
              · exact ⟨rfl, rfl, rfl, trivial⟩
              · try dsimp only
                exact ⟨by assumption, by assumption⟩
              · exact .le fun a => by (try simp only [setR, List.cons_append, List.nil_append]); simp only [List.flatten_append, List.flatten_cons, List.flatten_nil, List.count_append, List.count_nil, List.append_nil, List.nil_append]; omega
            ·
              exact trivial
        ·
          exact trivial
  rintro ⟨y, bn, cn, AN, bc, cc, AC⟩ hI
  obtain ⟨oN, oC⟩ : (gSl 9 gS).ow [.slice bn x.net.length cn] x.net AN ∧ (gSl 3 gI).ow [.slice bc x.codes.length cc] x.codes AC := hI
  try dsimp only
  apply loop_mod (α := (Nat) × (Hp) × (Option Addr) × (Nat)) G_ok [15, 16, 17, 18, 19, 22, 23, 24, 25, 26, 27, 28, 29, 30, 31, 32, 20, 21, 4] (fun z => [(4, .v (.int .i64 z.1))]) (fun z => [⟨x0, [Value.slice b0p x.ends.length c0p, Value.slice b1p x.net.length c1p, Value.slice b2p x.heard.length c2p, Value.slice b3p x.codes.length c3p], (31 : TypeId)⟩, ⟨x1, [Value.slice none (0 : Nat) (0 : Nat), Value.slice none (0 : Nat) (0 : Nat), Value.slice none (0 : Nat) (0 : Nat), Value.slice none (0 : Nat) (0 : Nat)], (31 : TypeId)⟩, ⟨y, [.slice z.2.2.1 (x.ends.take z.1).length z.2.2.2, Value.slice bn x.net.length cn, Value.slice none (0 : Nat) (0 : Nat), Value.slice bc x.codes.length cc], (31 : TypeId)⟩]) (fun z => [z.2.1, AN ++ AC, H]) (fun z => x.ends.length - z.1) (fun z => z.1 ≤ x.ends.length ∧ (gSl 45 gLink).ow [.slice z.2.2.1 (x.ends.take z.1).length z.2.2.2] (x.ends.take z.1) z.2.1) ((0, [], none, 0))
  · repeat' (first | exact trivial | refine ⟨⟨_, rfl, by first | rfl | exact inc_eq _ (by omega) | (refine sl_eq ?_; simp; done) | (refine sl_eq ?_; simp only [List.length_append, List.length_take, List.length_cons, List.length_nil]; omega), by first | exact trivial | simp [SV.ok]⟩, ?_⟩)
  · exact ⟨rfl, rfl, rfl, trivial⟩
  · try dsimp only
    exact ⟨by omega, sl_nil _ _ _⟩
  · exact .refl _
  rintro ⟨k, A, lb, lc⟩ hI
  obtain ⟨hk, oA⟩ : k ≤ x.ends.length ∧ (gSl 45 gLink).ow [.slice lb (x.ends.take k).length lc] (x.ends.take k) A := hI
  try dsimp only
  refine VCsplit.intro (fun q54 => ?_) (fun q54 => ?_)
  ·
    simp at q54
    have hs := szE_step gLink x.ends k default (by omega)
    have hs2 := szE_le gLink x.ends (k + 1)
    have hs3 := gLink_sz (x.ends[k]?.getD default)
    refine draw G_ok mixed (some 9) (.q 0 (.q 1 (.q 2 (.q 3 (.q 4 (.q 5 (.q 6 (.f 7 (.f 8 (.tl 9 (.f 10 (.f 11 (.nil))))))))))))) (by decide +kernel) ?_
    refine idx_rd h0p ?_ ?_ fun b55 o55 hb55 => ?_
    · omega
    · omega
    refine load_allN default (k) rfl h0p ?_ ?_ hb55 rfl (mem_at 2 rfl) fun l56 hl56 => ?_
    · omega
    · omega
    obtain ⟨b0x56, c0x56, rfl, h0x56, w1x56, w2x56⟩ := gLink_rd.1 hl56
    refine call_new (s_l18Copy_ct _ (x.ends[k]?.getD default) ?_) (Rp.mono _ (mem_at 2 rfl) hl56) ?_
    · omega
    rintro v57 A57 o57
    obtain ⟨l57, rfl, o57⟩ := o57
    have r57 := Gt.owrd _ o57
    obtain ⟨b0x57, c0x57, rfl, h0x57, w1x57, w2x57⟩ := gLink_rd.1 r57
    refine VC.intro ?_ ?_
    · exact keep_new
    refine VCnew.intro fun x58 => ?_
    refine VC.intro ?_ ?_
    · exact keep_sub (by simp) (by simp)
    refine gappend1 (g := gLink) (T := (45 : TypeId)) G_ok A _ [AN ++ AC, H] ?_ oA (‹gLink.ow _ _ _›) (List.mem_of_getElem? (i := 0) rfl) rfl rfl rfl rfl rfl rfl rfl rfl ?_ fun b59 c59 A59 o59 => ?_
    · exact .le fun a => by (try simp only [setR, List.cons_append, List.nil_append]); simp only [List.flatten_append, List.flatten_cons, List.flatten_nil, List.count_append, List.count_nil, List.append_nil, List.nil_append]; omega
    · simp; omega
    apply loop_stepA (k + 1, _, _, _)
    · exact .refl _
    · repeat' (first | exact trivial | refine ⟨⟨_, rfl, by first | rfl | exact inc_eq _ (by omega) | (refine sl_eq ?_; simp; done) | (refine sl_eq ?_; simp only [List.length_append, List.length_take, List.length_cons, List.length_nil]; omega), by first | exact trivial | simp [SV.ok]⟩, ?_⟩)
    · ((rw [tk1 x.ends k default (by omega)]); repeat' (first | exact trivial | refine ⟨by first | rfl | simp [Blk.ent], ?_⟩))
    · try dsimp only
      exact ⟨by omega, by (rw [tk1 x.ends k default (by omega)]; assumption)⟩
    · try dsimp only
      omega
  ·
    simp at q54
    have hke : k = x.ends.length := by omega
    rw [hke, List.take_length] at oA ⊢
    apply loop_mod (α := (Nat) × (Hp) × (Option Addr) × (Nat)) G_ok [33, 34, 35, 36, 37, 40, 41, 42, 43, 44, 45, 46, 47, 48, 49, 50, 51, 38, 39, 5] (fun z => [(5, .v (.int .i64 z.1))]) (fun z => [⟨x0, [Value.slice b0p x.ends.length c0p, Value.slice b1p x.net.length c1p, Value.slice b2p x.heard.length c2p, Value.slice b3p x.codes.length c3p], (31 : TypeId)⟩, ⟨x1, [Value.slice none (0 : Nat) (0 : Nat), Value.slice none (0 : Nat) (0 : Nat), Value.slice none (0 : Nat) (0 : Nat), Value.slice none (0 : Nat) (0 : Nat)], (31 : TypeId)⟩, ⟨y, [Value.slice lb x.ends.length lc, Value.slice bn x.net.length cn, .slice z.2.2.1 (x.heard.take z.1).length z.2.2.2, Value.slice bc x.codes.length cc], (31 : TypeId)⟩]) (fun z => [z.2.1, A, AN ++ AC, H]) (fun z => x.heard.length - z.1) (fun z => z.1 ≤ x.heard.length ∧ (gSl 27 (gSl 9 gS)).ow [.slice z.2.2.1 (x.heard.take z.1).length z.2.2.2] (x.heard.take z.1) z.2.1) ((0, [], none, 0))
    · repeat' (first | exact trivial | refine ⟨⟨_, rfl, by first | rfl | exact inc_eq _ (by omega) | (refine sl_eq ?_; simp; done) | (refine sl_eq ?_; simp only [List.length_append, List.length_take, List.length_cons, List.length_nil]; omega), by first | exact trivial | simp [SV.ok]⟩, ?_⟩)
    · exact ⟨rfl, rfl, rfl, trivial⟩
    · try dsimp only
      exact ⟨by omega, sl_nil _ _ _⟩
    · exact .refl _
    rintro ⟨j, B, hb, hc⟩ hI
    obtain ⟨hj, oB⟩ : j ≤ x.heard.length ∧ (gSl 27 (gSl 9 gS)).ow [.slice hb (x.heard.take j).length hc] (x.heard.take j) B := hI
    try dsimp only
    refine VCsplit.intro (fun q60 => ?_) (fun q60 => ?_)
    ·
      simp at q60
      have hs := szE_step (gSl 9 gS) x.heard j default (by omega)
      have hs2 := szE_le (gSl 9 gS) x.heard (j + 1)
      have hs3 := len_szL gS (x.heard[j]?.getD default)
      have hs4 : (gSl 9 gS).sz (x.heard[j]?.getD default) = szL gS (x.heard[j]?.getD default) := rfl
      refine draw G_ok mixed (some 10) (.q 0 (.q 1 (.q 3 (.q 4 (.q 5 (.q 6 (.q 7 (.f 2 (.f 8 (.f 9 (.tl 10 (.f 11 (.f 12 (.nil)))))))))))))) (by decide +kernel) ?_
      refine idx_rd h2p ?_ ?_ fun b61 o61 hb61 => ?_
      · omega
      · omega
      refine load_allN [] (j) rfl h2p ?_ ?_ hb61 rfl (mem_at 3 rfl) fun l62 hl62 => ?_
      · omega
      · omega
      obtain ⟨u62, w62, rfl, hl62⟩ := sl_rd hl62
      refine VCnew.intro fun x63 => ?_
      refine VC.intro ?_ ?_
      · exact keep_new
      refine append_allN (g := gS) (T := (9 : TypeId)) G_ok (by repeat (first | exact fl_plain | apply plain_iso | apply plain_pair)) [] [[(x63, Obj.cells { toList := zeros (0 : Nat) [Value.string ByteArray.empty] } (9 : TypeId))], B, A, AN ++ AC, H] 4 ?_ (sl_nil _ _ _) rfl hl62 rfl rfl rfl rfl rfl rfl rfl rfl ?_ fun b64 c64 A64 o64 => ?_
      · exact .refl _
      · simp_all; omega
      refine VC.intro ?_ ?_
      · exact keep_sub (by simp) (by simp)
      refine VCnew.intro fun x65 => ?_
      refine VC.intro ?_ ?_
      · exact keep_sub (by simp) (by simp)
      refine gappend1 (g := (gSl 9 gS)) (T := (27 : TypeId)) G_ok B _ [[(x63, Obj.cells { toList := zeros (0 : Nat) [Value.string ByteArray.empty] } (9 : TypeId))], A, AN ++ AC, H] ?_ oB (‹(gSl _ gS).ow [.slice _ ([] ++ _).length _] _ _›) (List.mem_of_getElem? (i := 0) rfl) rfl rfl rfl rfl rfl rfl rfl rfl ?_ fun b66 c66 A66 o66 => ?_
      · exact .le fun a => by (try simp only [setR, List.cons_append, List.nil_append]); simp only [List.flatten_append, List.flatten_cons, List.flatten_nil, List.count_append, List.count_nil, List.append_nil, List.nil_append]; omega
      · simp; omega
      apply loop_stepA (j + 1, _, _, _)
      · exact .sub (by repeat (first | exact .slnil | apply List.Sublist.cons_cons | apply List.Sublist.cons))
      · repeat' (first | exact trivial | refine ⟨⟨_, rfl, by first | rfl | exact inc_eq _ (by omega) | (refine sl_eq ?_; simp; done) | (refine sl_eq ?_; simp only [List.length_append, List.length_take, List.length_cons, List.length_nil]; omega), by first | exact trivial | simp [SV.ok]⟩, ?_⟩)
      · ((rw [tk1 x.heard j default (by omega)]); repeat' (first | exact trivial | refine ⟨by first | rfl | simp [Blk.ent], ?_⟩))
      · try dsimp only
        exact ⟨by omega, by (rw [tk1 x.heard j default (by omega)]; assumption)⟩
      · try dsimp only
        omega
    ·
      simp at q60
      have hje : j = x.heard.length := by omega
      rw [hje, List.take_length] at oB ⊢
      exact ⟨_, ⟨_, rfl, gPair_ow.2 ⟨_, _, _, _, _, _, _, _, _, _, _, _, rfl, .refl _, by assumption, by assumption, by assumption, by assumption⟩⟩, (.le fun a => by (try simp only [setR, List.cons_append, List.nil_append]); simp only [List.flatten_append, List.flatten_cons, List.flatten_nil, List.count_append, List.count_nil, List.append_nil, List.nil_append]; omega)⟩

end Go.Proofs.Ytmmmjikanmgpfaa

namespace Go.Proofs.Ytmmmjikanmgpfaa
open Go.SX Go.Proofs
set_option maxHeartbeats 1000000

theorem packText_size40 {p : Packet} (h : p.body.size ≤ 40) : (packText p).size ≤ 200 := by
  have l1 := varText_size p.epoch
  have l2 := varText_size p.seq
  have l3 := varText_size p.ack
  unfold packText sealT packBody
  rw [ByteArray.size_append, ByteArray.size_append, ByteArray.size_append, ByteArray.size_append, ByteArray.size_append, tx2_size, four_size]
  omega
theorem packs_body {l : Link} (h : ∀ s ∈ l.sent, s.size ≤ 40) (e f t : Int) : ∀ x ∈ linkPacks l e f t, x.body.size ≤ 40 := by
  have hz : (ByteArray.empty).size ≤ 40 := by decide
  have hat : ∀ k, (packAt l e f t k).body.size ≤ 40 := by
    intro k
    show ((l.sent[k]?).getD .empty).size ≤ 40
    rcases Nat.lt_or_ge k l.sent.length with hk | hk
    · rw [List.getElem?_eq_getElem hk]; exact h _ (List.getElem_mem hk)
    · rw [List.getElem?_eq_none hk]; exact hz
  have hp : ∀ x ∈ packs l e f t, x.body.size ≤ 40 := by
    intro x hx
    unfold packs at hx
    split at hx
    · obtain ⟨i, _, rfl⟩ := List.mem_map.1 hx
      exact hat _
    · split at hx
      · rw [List.mem_singleton.1 hx]; exact hz
      · cases hx
  intro x hx
  unfold linkPacks at hx
  split at hx
  · exact hp x hx
  · cases hx
def NetS (p : Pair) : Prop := ∀ t ∈ p.net, t.size ≤ 200
theorem netS_tick {ends : List Link} {net : List ByteArray} (h : ∀ t ∈ net, t.size ≤ 200) (he : ∀ l ∈ ends, ∀ s ∈ l.sent, s.size ≤ 40) (s : Nat) : ∀ t ∈ tickN ends net s, t.size ≤ 200 := by
  have hk : ∀ (l : List Packet) (net : List ByteArray), (∀ x ∈ l, x.body.size ≤ 40) → (∀ t ∈ net, t.size ≤ 200) → ∀ t ∈ l.foldl (netAdd packText) net, t.size ≤ 200 := by
    intro l
    induction l with
    | nil => intro net _ h; exact h
    | cons x l ih =>
      intro net hb h
      refine ih _ (fun y hy => hb y (List.mem_cons_of_mem _ hy)) ?_
      unfold netAdd
      split
      · intro t ht
        rcases List.mem_append.1 ht with ht | ht
        · exact h t ht
        · rw [List.mem_singleton.1 ht]; exact packText_size40 (hb x (List.mem_cons_self ..))
      · exact h
  unfold tickN
  split
  · rename_i hs
    unfold netK
    rw [List.take_length]
    refine hk _ _ (packs_body (he _ ?_) _ _ _) h
    rw [List.getElem?_eq_getElem hs]; exact List.getElem_mem hs
  · exact h
theorem push_netS {p : Pair} (hI : PairInv p) (h : NetS p) {x : Push} (hx : pushOk x = true) : NetS (pushM p x).1 := by
  have hs := pushOk_side hx
  have h2 := hI.1.two
  by_cases k1 : x.kind = 1
  · rw [push_put k1]; exact h
  by_cases k2 : x.kind = 2
  · rw [push_tick k2 (by omega)]; exact netS_tick h hI.2.2 _
  by_cases hn : p.net.length = 0
  · rw [push_none k1 k2 hn]; exact h
  have hlt : x.at'.toNat % p.net.length < p.net.length := Nat.mod_lt _ (by omega)
  have hm : p.net[x.at'.toNat % p.net.length]?.getD .empty ∈ p.net := by rw [List.getElem?_eq_getElem hlt]; exact List.getElem_mem hlt
  by_cases k3 : x.kind = 3
  · rw [push_carry hI k3 hn]; exact fun t ht => h t (List.mem_of_mem_eraseIdx ht)
  by_cases k4 : x.kind = 4
  · rw [push_lose k4 hn]; exact fun t ht => h t (List.mem_of_mem_eraseIdx ht)
  by_cases k5 : x.kind = 5
  · by_cases hf : p.net.length < 200
    · rw [push_twice k5 hn hf]
      intro t ht
      rcases List.mem_append.1 ht with ht | ht
      · exact h t ht
      · rw [List.mem_singleton.1 ht]; exact h _ hm
    · rw [push_full k5 hn hf]; exact h
  · have hkk := (pushOk_iff.1 hx).2.1
    have hk1 := (pushOk_iff.1 hx).1
    rw [push_spoil (by omega) hn]
    intro t ht
    rcases List.mem_or_eq_of_mem_set ht with ht | ht
    · exact h t ht
    · rw [ht, spoil_size]; exact h _ hm
theorem runK_netS {xs : List Push} (h : okK xs xs.length) : ∀ k, k ≤ xs.length → NetS (runK xs k)
  | 0, _ => fun t ht => by cases ht
  | k + 1, hk => by rw [runK_succ (by omega)]; exact push_netS (runK_pi h k (by omega)) (runK_netS h k (by omega)) (h k (by omega))
theorem szL_le {α : Type} (g : Gt α) (B : Nat) : ∀ xs : List α, (∀ x ∈ xs, g.sz x ≤ B) → szL g xs ≤ (B + 1) * xs.length
  | [], _ => Nat.le_refl _
  | x :: r, h => by
    have h1 := h x (List.mem_cons_self ..)
    have h2 := szL_le g B r (fun y hy => h y (List.mem_cons_of_mem _ hy))
    simp only [szL, List.length_cons]
    rw [Nat.mul_succ]; omega
theorem pair_sz {p : Pair} (hI : PairInv p) (hn : NetS p) (hc : p.codes.length ≤ 90) : gPair.sz p ≤ 200000 := by
  rw [gPair_sz]
  have h2e := hI.1.two
  have h2h := hI.1.two'
  have hnl := hI.1.netLen
  have e1 : szL gLink p.ends ≤ (8300 + 1) * p.ends.length := szL_le gLink 8300 _ fun l hl => by
    obtain ⟨i, hi, rfl⟩ := List.mem_iff_getElem.1 hl
    have h1 := linkOk_iff.1 (hI.1.ok i (by omega))
    have e0 : (endOf p i) = p.ends[i] := by unfold endOf; rw [List.getElem?_eq_getElem hi]; rfl
    rw [e0] at h1
    have h3 : gLink.sz p.ends[i] = szL gS p.ends[i].sent + (0 + 0) := gLink_sz _
    have h4 := szL_gS _ (hI.2.2 _ hl)
    have h5 := h1.1
    omega
  have e2 : szL gS p.net ≤ (200 + 1) * p.net.length := szL_le gS 200 _ hn
  have e3 : szL (gSl 9 gS) p.heard ≤ (8300 + 1) * p.heard.length := szL_le _ 8300 _ fun l hl => by
    obtain ⟨i, hi, rfl⟩ := List.mem_iff_getElem.1 hl
    have hi2 : i < 2 := by omega
    have h1 : (p.heard[i]?.getD default) = _ := hI.1.heardIs i hi2
    rw [List.getElem?_eq_getElem hi, Option.getD_some] at h1
    show szL gS p.heard[i] ≤ 8300
    have h6 := linkOk_iff.1 (hI.1.ok (1 - i) (by omega))
    have h7 : ∀ s ∈ p.heard[i], s.size ≤ 40 := by
      intro s hs
      rw [h1] at hs
      refine hI.2.2 (endOf p (1 - i)) ?_ s (List.mem_of_mem_take hs)
      unfold endOf
      rw [List.getElem?_eq_getElem (by omega)]; exact List.getElem_mem _
    have h4 := szL_gS _ h7
    have h5 : p.heard[i].length ≤ 200 := by
      rw [h1, List.length_take]
      have := h6.1
      omega
    omega
  have e4 : szL gI p.codes ≤ (0 + 1) * p.codes.length := szL_le gI 0 _ fun _ _ => Nat.le_refl _
  omega
theorem runR_sz (xs : List Push) : gPair.sz (runR xs) ≤ 200000 := by
  unfold runR
  split
  · rename_i h
    have h' := of_decide_eq_true h
    refine pair_sz (runK_pi h'.2 _ (Nat.le_refl _)) (runK_netS h'.2 _ (Nat.le_refl _)) ?_
    rw [runK_codes _ (Nat.le_refl _)]; exact h'.1
  · decide

end Go.Proofs.Ytmmmjikanmgpfaa

namespace Go.Proofs.Ytmmmjikanmgpfaa
open Go.SX Go.Proofs
set_option linter.unusedSimpArgs false
set_option linter.unusedVariables false
set_option maxHeartbeats 4000000
attribute [local irreducible] IntKind.wrap

theorem gtwo {α : Type} {g : Gt α} {T : TypeId} {x y : α} {lx ly : List Value} {b : Nat} (hx : g.ow lx x []) (hy : g.ow ly y []) : (gSl T g).ow [.slice (some ⟨b, 0, none⟩) 2 2] [x, y] [(b, Obj.cells ⟨lx ++ ly⟩ T)] :=
  ⟨_, [⟨lx, raw_of (g.owrd hx)⟩, ⟨ly, raw_of (g.owrd hy)⟩], [(b, Obj.cells ⟨lx ++ ly⟩ T)], [[], []], rfl, ⟨fun _ _ => trivial, by simp, some ⟨b, 0, none⟩, 2, rfl, .inr ⟨b, [], rfl, by simp [flRaw], by simp, by simp [flRaw]⟩⟩, by simp, .cons hx (.cons hy .nil)⟩
theorem okK_step {xs : List Push} {k : Nat} {t : Bool} (ht : t = true ↔ (xs.length ≤ 90 ∧ okK xs k)) (h : t = true) : pushOk (xs[k]?.getD default) = true ↔ (xs.length ≤ 90 ∧ okK xs (k + 1)) :=
  ⟨fun h2 => ⟨(ht.1 h).1, okK_next (ht.1 h).2 h2⟩, fun h2 => h2.2 k (by omega)⟩
--@ct spec.RunPair new specRunPair_ct _ _ $1 | %1 | obtain ⟨l#, rfl, o#⟩ := o#
theorem specRunPair_ct (b : Option Addr) (c : Nat) (xs : List Push) :
    Ct Try.prog 9 [.slice b xs.length c] [] (fun H => (gSl 35 gPush).rd H [.slice b xs.length c] xs) (fun v A => ∃ l, v = .tuple #[.agg ⟨l⟩, .bool (runOk xs)] ∧ gPair.ow l (runR xs) A) := by
  refine Ct.intro0 G_ok Try.func9 rfl rfl rfl fun E H hp => ?_
  obtain ⟨_, hcl, hl⟩ := sl_len hp
  refine VCnew.intro fun x0 => ?_
  apply loop_mod (α := (Nat) × (Bool)) G_ok [12, 13, 14, 15, 16, 17, 18, 21, 22, 23, 24, 25, 4, 19, 20, 5] (fun z => [(5, .v (.int .i64 z.1)), (4, .v (.bool z.2))]) (fun z => [{ id := x0, cs := [Value.slice none (0 : Nat) (0 : Nat), Value.slice none (0 : Nat) (0 : Nat), Value.slice none (0 : Nat) (0 : Nat), Value.slice none (0 : Nat) (0 : Nat)], ty := (31 : Nat) }]) (fun z => [H]) (fun z => xs.length - z.1) (fun z => z.1 ≤ xs.length ∧ (z.2 = true ↔ (xs.length ≤ 90 ∧ okK xs z.1))) ((0, decide ((xs.length : Int) ≤ 90)))
  · repeat' (first | exact trivial | refine ⟨⟨_, rfl, by first | rfl | exact inc_eq _ (by omega) | (refine sl_eq ?_; simp; done), by first | exact trivial | simp [SV.ok]⟩, ?_⟩)
  · exact ⟨rfl, trivial⟩
  · try dsimp only
    exact ⟨Nat.zero_le _, by rw [decide_eq_true_iff]; exact ⟨fun h => ⟨by omega, fun i hi => by omega⟩, fun h => by omega⟩⟩
  · exact .refl _
  rintro ⟨k, t⟩ hI
  obtain ⟨hk, ht⟩ : k ≤ xs.length ∧ (t = true ↔ (xs.length ≤ 90 ∧ okK xs k)) := hI
  try dsimp only
  refine VCsplit.intro (fun q1 => ?_) (fun q1 => ?_)
  ·
    simp at q1
    refine VCsplit.intro (fun q2 => ?_) (fun q2 => ?_)
    ·
      refine idx_rd hp ?_ ?_ fun b3 o3 hb3 => ?_
      · omega
      · omega
      refine load_allN default (k) rfl hp ?_ ?_ hb3 rfl (mem_at 0 rfl) fun l4 hl4 => ?_
      · omega
      · omega
      obtain ⟨rfl, w0x4, w1x4, w2x4, w3x4⟩ := gPush_rd.1 hl4
      refine call_val (specPushOk_ct _ (xs[k]?.getD default)) (Rp.mono _ (mem_at 0 rfl) hl4) ?_
      rintro _ rfl
      apply loop_stepA (k + 1, _)
      · exact .refl _
      · repeat' (first | exact trivial | refine ⟨⟨_, rfl, by first | rfl | exact inc_eq _ (by omega) | (refine sl_eq ?_; simp; done), by first | exact trivial | simp [SV.ok]⟩, ?_⟩)
      · exact ⟨rfl, trivial⟩
      · try dsimp only
        exact ⟨by omega, okK_step ht (by assumption)⟩
      · try dsimp only
        omega
    ·
      refine VCsplit.intro (fun q6 => ?_) (fun q6 => ?_)
      ·
        simp at q6
        (have h9 : ¬ (xs.length ≤ 90 ∧ okK xs xs.length) := (fun h => by (have := ht.2 ⟨h.1, fun i hi => h.2 i (by omega)⟩; simp_all)); obtain ⟨e1, e2⟩ := runOk_no h9; rw [e1, e2]; exact ⟨_, ⟨_, rfl, zPair_ow⟩, (.le fun a => by (try simp only [setR, List.cons_append, List.nil_append]); simp [List.count_cons, Blk.ent, idOf]; try omega)⟩)
      ·
        simp at q6
        exact absurd (‹t = false›.symm.trans q6) (by decide)
  ·
    simp at q1
    refine VCsplit.intro (fun q7 => ?_) (fun q7 => ?_)
    ·
      simp at q7
      (have h9 : ¬ (xs.length ≤ 90 ∧ okK xs xs.length) := (fun h => by (have := ht.2 ⟨h.1, fun i hi => h.2 i (by omega)⟩; simp_all)); obtain ⟨e1, e2⟩ := runOk_no h9; rw [e1, e2]; exact ⟨_, ⟨_, rfl, zPair_ow⟩, (.le fun a => by (try simp only [setR, List.cons_append, List.nil_append]); simp [List.count_cons, Blk.ent, idOf]; try omega)⟩)
    ·
      simp at q7
      have hok9 := ht.1 (by assumption)
      have hka : k = xs.length := (by omega)
      subst hka
      have hok := hok9.2
      have oE0 : ∀ b, (gSl 45 gLink).ow [.slice (some ⟨b, 0, none⟩) pair0.ends.length 2] pair0.ends [(b, Obj.cells ⟨[.slice none 0 0, .int .i64 0, .int .i64 0, .slice none 0 0, .int .i64 0, .int .i64 0]⟩ 45)] := fun b => gtwo zLink_ow zLink_ow
      have oH0 : ∀ b b1 b2, (gSl 27 (gSl 9 gS)).ow [.slice (some ⟨b, 0, none⟩) pair0.heard.length 2] pair0.heard [(b, Obj.cells ⟨[.slice b1 0 0, .slice b2 0 0]⟩ 27)] := fun b b1 b2 => gtwo (sl_nil _ _ _) (sl_nil _ _ _)
      refine VCnew.intro fun x8 => ?_
      refine VCnew.intro fun x9 => ?_
      refine VCnew.intro fun x10 => ?_
      refine VCnew.intro fun x11 => ?_
      refine VCnew.intro fun x12 => ?_
      apply loop_mod (α := (Nat) × (Option Addr) × (Nat) × (Option Addr) × (Nat) × (Option Addr) × (Nat) × (Option Addr) × (Nat) × (Hp) × (Hp) × (Hp) × (Hp)) G_ok [36, 37, 38, 39, 8, 42, 43, 44, 45, 46, 47, 48, 49, 50, 51, 52, 40, 41, 7] (fun z => [(7, .v (.int .i64 z.1))]) (fun z => [⟨x0, [Value.slice none (0 : Nat) (0 : Nat), Value.slice none (0 : Nat) (0 : Nat), Value.slice none (0 : Nat) (0 : Nat), Value.slice none (0 : Nat) (0 : Nat)], (31 : Nat)⟩, ⟨x12, [.slice z.2.1 (runK xs z.1).ends.length z.2.2.1, .slice z.2.2.2.1 (runK xs z.1).net.length z.2.2.2.2.1, .slice z.2.2.2.2.2.1 (runK xs z.1).heard.length z.2.2.2.2.2.2.1, .slice z.2.2.2.2.2.2.2.1 (runK xs z.1).codes.length z.2.2.2.2.2.2.2.2.1], (31 : Nat)⟩]) (fun z => [z.2.2.2.2.2.2.2.2.2.2.2.2, z.2.2.2.2.2.2.2.2.2.1, z.2.2.2.2.2.2.2.2.2.2.1, z.2.2.2.2.2.2.2.2.2.2.2.1, H]) (fun z => xs.length - z.1) (fun z => z.1 ≤ xs.length ∧ (gSl 45 gLink).ow [.slice z.2.1 (runK xs z.1).ends.length z.2.2.1] (runK xs z.1).ends z.2.2.2.2.2.2.2.2.2.1 ∧ (gSl 9 gS).ow [.slice z.2.2.2.1 (runK xs z.1).net.length z.2.2.2.2.1] (runK xs z.1).net z.2.2.2.2.2.2.2.2.2.2.1 ∧ (gSl 27 (gSl 9 gS)).ow [.slice z.2.2.2.2.2.1 (runK xs z.1).heard.length z.2.2.2.2.2.2.1] (runK xs z.1).heard z.2.2.2.2.2.2.2.2.2.2.2.1 ∧ (gSl 3 gI).ow [.slice z.2.2.2.2.2.2.2.1 (runK xs z.1).codes.length z.2.2.2.2.2.2.2.2.1] (runK xs z.1).codes z.2.2.2.2.2.2.2.2.2.2.2.2) ((0, some ⟨x8, 0, none⟩, 2, none, 0, some ⟨x11, 0, none⟩, 2, none, 0, [(x8, Obj.cells ⟨[.slice none 0 0, .int .i64 0, .int .i64 0, .slice none 0 0, .int .i64 0, .int .i64 0]⟩ 45)], [], [(x11, Obj.cells ⟨[.slice (some ⟨x9, 0, none⟩) 0 0, .slice (some ⟨x10, 0, none⟩) 0 0]⟩ 27)], []))
      · repeat' (first | exact trivial | refine ⟨⟨_, rfl, by first | rfl | exact inc_eq _ (by omega) | (refine sl_eq ?_; simp; done), by first | exact trivial | simp [SV.ok]⟩, ?_⟩)
      · exact ⟨rfl, rfl, trivial⟩
      · try dsimp only
        exact ⟨Nat.zero_le _, oE0 _, sl_nil _ _ _, oH0 _ _ _, sl_nil _ _ _⟩
      · exact .le fun a => by simp [List.count_cons, List.count_append, Blk.ent, St.hall, setR, zeros, List.append]; omega
      rintro ⟨k, be, ce, bn, cn, bh, ch, bc, cc, AE, AN, AH, AC⟩ hI
      obtain ⟨hk2, oE, oN, oH, oC⟩ : k ≤ xs.length ∧ (gSl 45 gLink).ow [.slice be (runK xs k).ends.length ce] (runK xs k).ends AE ∧ (gSl 9 gS).ow [.slice bn (runK xs k).net.length cn] (runK xs k).net AN ∧ (gSl 27 (gSl 9 gS)).ow [.slice bh (runK xs k).heard.length ch] (runK xs k).heard AH ∧ (gSl 3 gI).ow [.slice bc (runK xs k).codes.length cc] (runK xs k).codes AC := hI
      try dsimp only
      refine VCsplit.intro (fun q13 => ?_) (fun q13 => ?_)
      ·
        simp at q13
        have hpi := runK_pi hok k (by omega)
        have hpx := hok k (by omega)
        have hcl9 := runK_codes (xs := xs) k (by omega)
        have hk9 : k < xs.length := (by omega)
        refine idx_rd hp ?_ ?_ fun b14 o14 hb14 => ?_
        · omega
        · omega
        refine load_allN default (k) rfl hp ?_ ?_ hb14 rfl (mem_at 4 rfl) fun l15 hl15 => ?_
        · omega
        · omega
        obtain ⟨rfl, w0x15, w1x15, w2x15, w3x15⟩ := gPush_rd.1 hl15
        refine callR_blk 1 (AE ++ AN ++ AH) [AC, H] rfl ?_ (l19Do_ct _ _ _ (xs[k]?.getD default) _ _ _ _ _ _ _ _ _ _ oE oN oH ?_ ?_) (Rp.mono _ (mem_at 1 rfl) hl15) ?_
        · exact .le fun a => by (try simp only [setR, List.cons_append, List.nil_append]); simp only [List.flatten_append, List.flatten_cons, List.flatten_nil, List.count_append, List.count_nil, List.append_nil, List.nil_append]; omega
        · trivial
        · trivial
        rintro _ A16 ⟨be16, ce16, bn16, cn16, bh16, ch16, AE16, AN16, AH16, rfl, rfl, oE16, oN16, oH16⟩
        refine ⟨_, _, [AE16, AN16, AH16], rfl, perm3', ?_⟩
        refine VCsplit.intro (fun q17 => ?_) (fun q17 => ?_)
        ·
          refine VCnew.intro fun x18 => ?_
          refine gappend1 (g := gI) (T := (3 : TypeId)) G_ok AC [] [AE16, AN16, AH16, H] ?_ oC (gI_ow ?_) (List.mem_of_getElem? (i := 0) rfl) rfl rfl rfl rfl rfl rfl rfl rfl ?_ fun b19 c19 A19 o19 => ?_
          · exact .le fun a => by (try simp only [setR, List.cons_append, List.nil_append]); simp only [List.flatten_append, List.flatten_cons, List.flatten_nil, List.count_append, List.count_nil, List.append_nil, List.nil_append]; omega
          · trivial
          · omega
          apply loop_stepA (k + 1, _, _, _, _, _, _, _, _, _, _, _, _)
          · exact .refl _
          · repeat' (first | exact trivial | refine ⟨⟨_, rfl, by first | rfl | exact inc_eq _ (by omega) | (refine sl_eq ?_; simp; done), by first | exact trivial | simp [SV.ok]⟩, ?_⟩)
          · ((rw [runK_ends hk9, runK_net hk9, runK_heard hk9, runK_codesT hk9 (by assumption)]); repeat' (first | exact trivial | refine ⟨by first | rfl | simp [Blk.ent], ?_⟩))
          · try dsimp only
            (rw [runK_ends hk9, runK_net hk9, runK_heard hk9, runK_codesT hk9 (by assumption)]; exact ⟨by omega, by assumption, by assumption, by assumption, by assumption⟩)
          · try dsimp only
            omega
        ·
          refine VCnew.intro fun x20 => ?_
          refine gappend1 (g := gI) (T := (3 : TypeId)) G_ok AC [] [AE16, AN16, AH16, H] ?_ oC (gI_ow ?_) (List.mem_of_getElem? (i := 0) rfl) rfl rfl rfl rfl rfl rfl rfl rfl ?_ fun b21 c21 A21 o21 => ?_
          · exact .le fun a => by (try simp only [setR, List.cons_append, List.nil_append]); simp only [List.flatten_append, List.flatten_cons, List.flatten_nil, List.count_append, List.count_nil, List.append_nil, List.nil_append]; omega
          · trivial
          · omega
          apply loop_stepA (k + 1, _, _, _, _, _, _, _, _, _, _, _, _)
          · exact .refl _
          · repeat' (first | exact trivial | refine ⟨⟨_, rfl, by first | rfl | exact inc_eq _ (by omega) | (refine sl_eq ?_; simp; done), by first | exact trivial | simp [SV.ok]⟩, ?_⟩)
          · ((rw [runK_ends hk9, runK_net hk9, runK_heard hk9, runK_codesF hk9 (by assumption)]); repeat' (first | exact trivial | refine ⟨by first | rfl | simp [Blk.ent], ?_⟩))
          · try dsimp only
            (rw [runK_ends hk9, runK_net hk9, runK_heard hk9, runK_codesF hk9 (by assumption)]; exact ⟨by omega, by assumption, by assumption, by assumption, by assumption⟩)
          · try dsimp only
            omega
      ·
        simp at q13
        have hkk : k = xs.length := (by omega)
        subst hkk
        have hz9 := runR_sz xs
        obtain ⟨e1, e2⟩ := runOk_yes (xs := xs) hok9.1 hok
        rw [e2] at hz9
        refine call_new (s_l19Copy_ct _ (runK xs xs.length) ?_) (gPair_rd.2 ⟨_, _, _, _, _, _, _, _, rfl, Rp.mono _ (mem_at 1 rfl) (Gt.owrd _ oE), Rp.mono _ (mem_at 2 rfl) (Gt.owrd _ oN), Rp.mono _ (mem_at 3 rfl) (Gt.owrd _ oH), Rp.mono _ (mem_at 0 rfl) (Gt.owrd _ oC)⟩) ?_
        · omega
        rintro v22 A22 o22
        obtain ⟨l22, rfl, o22⟩ := o22
        have r22 := Gt.owrd _ o22
        obtain ⟨pa22, pb22, pc22, pd22, pe22, pf22, pg22, ph22, rfl, ya22, yb22, yc22, yd22⟩ := gPair_rd.1 r22
        (rw [e1, e2]; exact ⟨_, ⟨_, rfl, by assumption⟩, (.le fun a => by (try simp only [setR, List.cons_append, List.nil_append]); simp [List.count_cons, Blk.ent, idOf]; try omega)⟩)

end Go.Proofs.Ytmmmjikanmgpfaa
