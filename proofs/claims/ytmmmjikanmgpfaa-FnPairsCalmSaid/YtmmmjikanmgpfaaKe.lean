/-
  What a link sends and takes, on both sides. Conditions: none.
-/
import Derived.Test.YtmmmjikanmgpfaaKd
namespace Go.Proofs.Ytmmmjikanmgpfaa
open Go.SX Go.Proofs
set_option linter.unusedSimpArgs false
set_option linter.unusedVariables false
set_option maxHeartbeats 4000000
attribute [local irreducible] IntKind.wrap

/-- the numbers of the packets that a link sends -/
def sendsN (l : Link) (k : Nat) : List Int := (List.range k).map fun (i : Nat) => l.acked + (i : Int) + 1
def sendsK (l : Link) : Nat := if 0 ≤ l.acked then min 3 (l.sent.length - l.acked.toNat) else 0
def sends (l : Link) : List Int := sendsN l (sendsK l)
theorem sendsN_len (l : Link) (k : Nat) : (sendsN l k).length = k := by unfold sendsN; simp
theorem sendsN_next (l : Link) (k : Nat) : sendsN l (k + 1) = sendsN l k ++ [l.acked + k + 1] := by unfold sendsN; rw [List.range_succ, List.map_append]; rfl
theorem sends_len (l : Link) : (sends l).length ≤ 3 := by unfold sends; rw [sendsN_len]; unfold sendsK; split <;> omega
theorem sends_at {l : Link} {k : Nat} (h : k < (sends l).length) : (sends l)[k]?.getD 0 = l.acked + k + 1 ∧ 0 ≤ l.acked ∧ l.acked + k < l.sent.length := by
  unfold sends at h ⊢
  rw [sendsN_len] at h
  have e : (sendsN l (sendsK l))[k]?.getD 0 = l.acked + k + 1 := by
    unfold sendsN
    rw [List.getElem?_map, List.getElem?_range h]; rfl
  refine ⟨e, ?_⟩
  unfold sendsK at h
  split at h <;> omega
theorem sends_fin {l : Link} {k : Nat} (h : sendsK l = k) : sends l = sendsN l k := by unfold sends; rw [h]
theorem sendsK_neg {l : Link} (h : ¬ 0 ≤ l.acked) : sendsK l = 0 := by unfold sendsK; rw [if_neg h]
theorem sendsK_pos {l : Link} (h : 0 ≤ l.acked) : sendsK l = min 3 (l.sent.length - l.acked.toNat) := by unfold sendsK; rw [if_pos h]
--@ct impl.LinkSends new implLinkSends_ct _ $1 ?_ | %1 | obtain ⟨b#, c#, rfl, o#⟩ := o#
--@ct spec.LinkSends new specLinkSends_ct _ $1 ?_ | %1 | obtain ⟨b#, c#, rfl, o#⟩ := o#
theorem implLinkSends_ct (l : List Value) (x : Link) (hx : gLink.sz x ≤ 1048576) : Ct Try.prog 87 [.agg ⟨l⟩] [] (fun H => gLink.rd H l x) (fun v A => ∃ b c, v = .slice b (sends x).length c ∧ (gSl 3 gI).ow [.slice b (sends x).length c] (sends x) A) := by
  refine Ct.intro0 G_ok Try.func87 rfl rfl rfl fun E H hp => ?_
  obtain ⟨b0p, c0p, rfl, h0p, w1p, w2p⟩ := gLink_rd.1 hp
  have hl := (rd_len h0p).2
  have hz := gLink_sz x
  have hls := len_szL gS x.sent
  have hk0 : ∀ k : Nat, (sendsN x k).length = k := sendsN_len x
  refine VCnew.intro fun x0 => ?_
  refine VCsplit.intro (fun q1 => ?_) (fun q1 => ?_)
  ·
    simp at q1
    (rw [sends_fin (sendsK_neg (by omega))]; exact ⟨[], ⟨none, 0, rfl, sl_nil _ _ _⟩, (.le fun a => by (try simp only [setR, List.cons_append, List.nil_append]); simp [List.count_cons, Blk.ent, idOf]; try omega)⟩)
  ·
    simp at q1
    apply loop_mod (α := (Nat) × (Hp) × (Option Addr) × (Nat)) G_ok [10, 11, 12, 13, 14, 15, 16, 17, 18, 19, 22, 23, 24, 25, 26, 3, 20, 21, 4] (fun z => [(4, .v (.int .i64 (x.acked + z.1))), (3, .v (.slice z.2.2.1 (sendsN x z.1).length z.2.2.2))]) (fun z => [{ id := x0, cs := [Value.slice b0p x.sent.length c0p, Value.int IntKind.i64 x.acked, Value.int IntKind.i64 x.took], ty := (45 : Nat) }]) (fun z => [z.2.1, H]) (fun z => 3 - z.1) (fun z => 0 ≤ x.acked ∧ z.1 ≤ sendsK x ∧ (gSl 3 gI).ow [.slice z.2.2.1 (sendsN x z.1).length z.2.2.2] (sendsN x z.1) z.2.1) ((0, [], none, 0))
    · repeat' (first | exact trivial | refine ⟨⟨_, rfl, by first | rfl | exact inc_eq _ (by omega) | (refine sl_eq ?_; simp; done) | exact congrArg (fun v => Value.int .i64 v) (Int.add_zero x.acked).symm | exact congrArg (fun v => Value.int .i64 v) (by rw [hwk]; omega) | (refine sl_eq ?_; rw [sendsN_next]; simp) | exact congrArg (fun v => SV.v (Value.int .i64 v)) (by rw [hwk]; omega), by first | exact trivial | simp [SV.ok]⟩, ?_⟩)
    · exact ⟨rfl, trivial⟩
    · try dsimp only
      exact ⟨by omega, Nat.zero_le _, sl_nil _ _ _⟩
    · exact .refl _
    rintro ⟨k, A, lb, lc⟩ hI
    obtain ⟨h0, hk, oA⟩ : 0 ≤ x.acked ∧ k ≤ sendsK x ∧ (gSl 3 gI).ow [.slice lb (sendsN x k).length lc] (sendsN x k) A := hI
    try dsimp only
    refine VCsplit.intro (fun q2 => ?_) (fun q2 => ?_)
    ·
      simp at q2
      have hkk0 := sendsN_len x k
      refine VCsplit.intro (fun q3 => ?_) (fun q3 => ?_)
      ·
        simp at q3
        have hwk : IntKind.i64.wrap (x.acked + k + 1) = x.acked + k + 1 := wrap_of (by omega) (by omega)
        refine VCnew.intro fun x4 => ?_
        refine gappend1 (g := gI) (T := (3 : TypeId)) G_ok A [] [H] ?_ oA (gI_ow ?_) (List.mem_of_getElem? (i := 0) rfl) rfl rfl rfl rfl rfl rfl rfl rfl ?_ fun b5 c5 A5 o5 => ?_
        · exact .tl
        · exact okI_wrap _
        · omega
        apply loop_stepA (k + 1, _, _, _)
        · exact .refl _
        · repeat' (first | exact trivial | refine ⟨⟨_, rfl, by first | rfl | exact inc_eq _ (by omega) | (refine sl_eq ?_; simp; done) | exact congrArg (fun v => Value.int .i64 v) (Int.add_zero x.acked).symm | exact congrArg (fun v => Value.int .i64 v) (by rw [hwk]; omega) | (refine sl_eq ?_; rw [sendsN_next]; simp) | exact congrArg (fun v => SV.v (Value.int .i64 v)) (by rw [hwk]; omega), by first | exact trivial | simp [SV.ok]⟩, ?_⟩)
        · exact ⟨rfl, trivial⟩
        · try dsimp only
          (rw [sendsN_next, ← hwk]; exact ⟨by omega, by rw [sendsK_pos (by omega)]; omega, by assumption⟩)
        · try dsimp only
          omega
      ·
        simp at q3
        (have hkk : sendsK x = k := (by rw [sendsK_pos (by omega)]; rw [sendsK_pos (by omega)] at hk; omega); rw [sends_fin hkk]; exact ⟨_, ⟨_, _, rfl, oA⟩, (.le fun a => by (try simp only [setR, List.cons_append, List.nil_append]); simp [List.count_cons, Blk.ent, idOf]; try omega)⟩)
    ·
      simp at q2
      have hkk0 := sendsN_len x k
      (have hkk : sendsK x = k := (by rw [sendsK_pos (by omega)]; rw [sendsK_pos (by omega)] at hk; omega); rw [sends_fin hkk]; exact ⟨_, ⟨_, _, rfl, oA⟩, (.le fun a => by (try simp only [setR, List.cons_append, List.nil_append]); simp [List.count_cons, Blk.ent, idOf]; try omega)⟩)
theorem specLinkSends_ct (l : List Value) (x : Link) (hx : gLink.sz x ≤ 1048576) : Ct Try.prog 78 [.agg ⟨l⟩] [] (fun H => gLink.rd H l x) (fun v A => ∃ b c, v = .slice b (sends x).length c ∧ (gSl 3 gI).ow [.slice b (sends x).length c] (sends x) A) := by
  refine Ct.intro0 G_ok Try.func78 rfl rfl rfl fun E H hp => ?_
  obtain ⟨b0p, c0p, rfl, h0p, w1p, w2p⟩ := gLink_rd.1 hp
  have hl := (rd_len h0p).2
  have hz := gLink_sz x
  have hls := len_szL gS x.sent
  have hsK : (0 ≤ x.acked ∧ sendsK x = min 3 (x.sent.length - x.acked.toNat)) ∨ (x.acked < 0 ∧ sendsK x = 0) := by
    by_cases h : 0 ≤ x.acked
    · exact .inl ⟨h, sendsK_pos h⟩
    · exact .inr ⟨by omega, sendsK_neg h⟩
  refine VCnew.intro fun x0 => ?_
  refine VCnew.intro fun x1 => ?_
  apply loop_mod (α := (Nat) × (Hp) × (Option Addr) × (Nat)) G_ok [8, 9, 10, 11, 12, 13, 14, 15, 16, 17, 18, 19, 20, 21, 24, 25, 26, 27, 28, 3, 22, 23, 4] (fun z => [(4, .v (.int .i64 (x.acked + z.1))), (3, .v (.slice z.2.2.1 (sendsN x z.1).length z.2.2.2))]) (fun z => [{ id := x0, cs := [Value.slice b0p x.sent.length c0p, Value.int IntKind.i64 x.acked, Value.int IntKind.i64 x.took], ty := (45 : Nat) }]) (fun z => [z.2.1, H]) (fun z => 3 - z.1) (fun z => z.1 ≤ sendsK x ∧ (gSl 3 gI).ow [.slice z.2.2.1 (sendsN x z.1).length z.2.2.2] (sendsN x z.1) z.2.1) ((0, [], _, 0))
  · repeat' (first | exact trivial | refine ⟨⟨_, rfl, by first | rfl | exact inc_eq _ (by omega) | (refine sl_eq ?_; simp; done) | exact congrArg (fun v => Value.int .i64 v) (Int.add_zero x.acked).symm | exact congrArg (fun v => Value.int .i64 v) (by rw [hwk]; omega) | (refine sl_eq ?_; rw [sendsN_next]; simp), by first | exact trivial | simp [SV.ok]⟩, ?_⟩)
  · exact ⟨rfl, trivial⟩
  · try dsimp only
    exact ⟨Nat.zero_le _, sl_nil _ _ _⟩
  · exact .tl
  rintro ⟨k, A, lb, lc⟩ hI
  obtain ⟨hk, oA⟩ : k ≤ sendsK x ∧ (gSl 3 gI).ow [.slice lb (sendsN x k).length lc] (sendsN x k) A := hI
  try dsimp only
  refine VCsplit.intro (fun q2 => ?_) (fun q2 => ?_)
  ·
    simp at q2
    refine VCsplit.intro (fun q3 => ?_) (fun q3 => ?_)
    ·
      simp at q3
      have hkk0 := sendsN_len x k
      refine VCsplit.intro (fun q4 => ?_) (fun q4 => ?_)
      ·
        simp at q4
        have hwk : IntKind.i64.wrap (x.acked + k + 1) = x.acked + k + 1 := wrap_of (by omega) (by omega)
        refine VCnew.intro fun x5 => ?_
        refine gappend1 (g := gI) (T := (3 : TypeId)) G_ok A [] [H] ?_ oA (gI_ow ?_) (List.mem_of_getElem? (i := 0) rfl) rfl rfl rfl rfl rfl rfl rfl rfl ?_ fun b6 c6 A6 o6 => ?_
        · exact .tl
        · exact okI_wrap _
        · omega
        apply loop_stepA (k + 1, _, _, _)
        · exact .refl _
        · repeat' (first | exact trivial | refine ⟨⟨_, rfl, by first | rfl | exact inc_eq _ (by omega) | (refine sl_eq ?_; simp; done) | exact congrArg (fun v => Value.int .i64 v) (Int.add_zero x.acked).symm | exact congrArg (fun v => Value.int .i64 v) (by rw [hwk]; omega) | (refine sl_eq ?_; rw [sendsN_next]; simp), by first | exact trivial | simp [SV.ok]⟩, ?_⟩)
        · exact ⟨rfl, trivial⟩
        · try dsimp only
          (rw [sendsN_next, ← hwk]; exact ⟨by omega, by assumption⟩)
        · try dsimp only
          omega
      ·
        simp at q4
        (have hkk9 := sendsN_len x k; rw [sends_fin (by omega : sendsK x = k)]; exact ⟨_, ⟨_, _, rfl, oA⟩, (.le fun a => by (try simp only [setR, List.cons_append, List.nil_append]); simp [List.count_cons, Blk.ent, idOf]; try omega)⟩)
    ·
      simp at q3
      (have hkk9 := sendsN_len x k; rw [sends_fin (by omega : sendsK x = k)]; exact ⟨_, ⟨_, _, rfl, oA⟩, (.le fun a => by (try simp only [setR, List.cons_append, List.nil_append]); simp [List.count_cons, Blk.ent, idOf]; try omega)⟩)
  ·
    simp at q2
    (have hkk9 := sendsN_len x k; rw [sends_fin (by omega : sendsK x = k)]; exact ⟨_, ⟨_, _, rfl, oA⟩, (.le fun a => by (try simp only [setR, List.cons_append, List.nil_append]); simp [List.count_cons, Blk.ent, idOf]; try omega)⟩)

def packAt (l : Link) (e f t : Int) (k : Nat) : Packet := ⟨e, f, t, (k : Int) + 1, l.took, (l.sent[k]?).getD .empty⟩
/-- the packets of a link that is right -/
def packs (l : Link) (e f t : Int) : List Packet :=
  if l.acked < l.sent.length then (List.range (min 3 (l.sent.length - l.acked.toNat))).map fun i => packAt l e f t (l.acked.toNat + i)
  else if 0 < l.took then [⟨e, f, t, 0, l.took, .empty⟩] else []
def linkPacks (l : Link) (e f t : Int) : List Packet := if linkOk l && (packs l e f t).all packOk then packs l e f t else []
def linkTake (l : Link) (p : Packet) : Link × ByteArray :=
  if linkOk l && packOk p then
    (⟨l.sent, if l.acked < p.ack ∧ p.ack ≤ l.sent.length then p.ack else l.acked, if p.seq = l.took + 1 then p.seq else l.took⟩, if p.seq = l.took + 1 then p.body else .empty)
  else (l, .empty)
/-- the first k packets -/
def packsK (l : Link) (e f t : Int) (k : Nat) : List Packet := (List.range k).map fun i => packAt l e f t (l.acked.toNat + i)
theorem packsK_len (l : Link) (e f t : Int) (k : Nat) : (packsK l e f t k).length = k := by unfold packsK; simp
theorem packsK_next (l : Link) (e f t : Int) (k : Nat) : packsK l e f t (k + 1) = packsK l e f t k ++ [packAt l e f t (l.acked.toNat + k)] := by unfold packsK; rw [List.range_succ, List.map_append]; rfl
theorem packs_some {l : Link} {e f t : Int} (h0 : 0 ≤ l.acked) (h : (sends l).length ≠ 0) : packs l e f t = packsK l e f t (sends l).length := by
  unfold sends at *
  rw [sendsN_len, sendsK_pos h0] at *
  unfold packs; rw [if_pos (by omega)]; rfl
theorem packs_ack {l : Link} {e f t : Int} (h0 : 0 ≤ l.acked) (h : (sends l).length = 0) (h2 : 0 < l.took) : packs l e f t = [⟨e, f, t, 0, l.took, .empty⟩] := by
  unfold sends at *
  rw [sendsN_len, sendsK_pos h0] at *
  unfold packs; rw [if_neg (by omega), if_pos h2]
theorem packs_nil {l : Link} {e f t : Int} (h0 : 0 ≤ l.acked) (h : (sends l).length = 0) (h2 : ¬ 0 < l.took) : packs l e f t = [] := by
  unfold sends at *
  rw [sendsN_len, sendsK_pos h0] at *
  unfold packs; rw [if_neg (by omega), if_neg h2]
theorem linkPacks_no {l : Link} {e f t : Int} (h : linkOk l = false) : linkPacks l e f t = [] := by unfold linkPacks; rw [h]; rfl
theorem linkPacks_bad {l : Link} {e f t : Int} {k : Nat} (hk : k < (packs l e f t).length) (h : packOk ((packs l e f t)[k]?.getD default) = false) : linkPacks l e f t = [] := by
  unfold linkPacks
  rw [if_neg]
  intro h2
  rw [Bool.and_eq_true, List.all_eq_true] at h2
  rw [List.getElem?_eq_getElem hk] at h
  have := h2.2 _ (List.getElem_mem hk)
  simp only [Option.getD_some] at h
  rw [h] at this; cases this
theorem linkPacks_yes {l : Link} {e f t : Int} (h : linkOk l = true) (h2 : ((packs l e f t).take (packs l e f t).length).all packOk = true) : linkPacks l e f t = packs l e f t := by
  rw [List.take_length] at h2
  unfold linkPacks; rw [h, h2]; rfl
theorem allP_step {p : Packet → Bool} {l : List Packet} {k : Nat} (h : k < l.length) (ha : (l.take k).all p = true) (hp : p (l[k]?.getD default) = true) : (l.take (k + 1)).all p = true := by
  rw [List.getElem?_eq_getElem h] at hp
  rw [← List.take_append_getElem h, List.all_append, ha]
  simpa using hp

theorem link_new {b : Option Addr} {c : Nat} {x : Link} {a k : Int} {A : Hp} (h : (gSl 9 gS).ow [.slice b x.sent.length c] x.sent A) (h1 : okI a) (h2 : okI k) : gLink.ow [.slice b x.sent.length c, .int .i64 a, .int .i64 k] ⟨x.sent, a, k⟩ A := gLink_ow.2 ⟨b, c, A, rfl, by simp, h, h1, h2⟩
theorem take_no {l : Link} {p : Packet} (h : ¬ (linkOk l = true ∧ packOk p = true)) : linkTake l p = (l, .empty) := by
  unfold linkTake; rw [if_neg]; rwa [Bool.and_eq_true]
theorem take_yes {l : Link} {p : Packet} (h : linkOk l = true) (h2 : packOk p = true) : linkTake l p = (⟨l.sent, if l.acked < p.ack ∧ p.ack ≤ l.sent.length then p.ack else l.acked, if p.seq = l.took + 1 then p.seq else l.took⟩, if p.seq = l.took + 1 then p.body else .empty) := by
  unfold linkTake; rw [h, h2]; rfl

theorem link_body {x : Link} (h : linkOk x = true) (k : Nat) : (x.sent[k]?.getD ByteArray.empty).size ≤ 6000 := by
  rcases Nat.lt_or_ge k x.sent.length with hk | hk
  · exact (bodyOk_iff.1 ((linkOk_iff.1 h).2.2.2.2.2 _ (at_mem hk))).2
  · rw [List.getElem?_eq_none hk]; exact Nat.zero_le _
theorem pack_at_own {x : Link} {e f t n : Int} {k : Nat} (hok : linkOk x = true) (he : okI e) (hf : okI f) (ht : okI t) (h : n = x.acked + k + 1) (hk : k < 4611686018427387904) :
    gPacket.ow [.int .i64 e, .int .i64 f, .int .i64 t, .int .i64 n, .int .i64 x.took, .string (x.sent[(IntKind.i64.wrap (n - 1)).toNat]?.getD ByteArray.empty)] (packAt x e f t (x.acked.toNat + k)) [] := by
  subst h
  have h1 := linkOk_iff.1 hok
  have hb := link_body hok (x.acked.toNat + k)
  · have e1 : (IntKind.i64.wrap (x.acked + k + 1 - 1)).toNat = x.acked.toNat + k := by rw [wrap_of (by omega) (by omega)]; omega
    rw [e1]
    have e2 : (packAt x e f t (x.acked.toNat + k)).seq = x.acked + k + 1 := by show ((x.acked.toNat + k : Nat) : Int) + 1 = _; omega
    rw [← e2]
    exact gPacket_ow.2 ⟨rfl, .refl _, he, hf, ht, by rw [e2]; unfold okI; omega, by show okI x.took; unfold okI; omega, by show (x.sent[x.acked.toNat + k]?.getD ByteArray.empty).size ≤ _; omega⟩
theorem pack_ack_own {e f t a : Int} (he : okI e) (hf : okI f) (ht : okI t) (ha : okI a) : gPacket.ow [.int .i64 e, .int .i64 f, .int .i64 t, .int .i64 0, .int .i64 a, .string ⟨#[]⟩] ⟨e, f, t, 0, a, .empty⟩ [] := gPacket_ow.2 ⟨rfl, .refl _, he, hf, ht, by unfold okI; dsimp only; omega, ha, Nat.zero_le _⟩
theorem packs_len (l : Link) (e f t : Int) : (packs l e f t).length ≤ 3 := by
  unfold packs
  split
  · rw [List.length_map, List.length_range]; omega
  · split <;> simp
--@ct impl.LinkPackets new implLinkPackets_ct _ $1 _ _ _ ?_ ?_ ?_ ?_ | %1 | obtain ⟨b#, c#, rfl, o#⟩ := o#
theorem implLinkPackets_ct (l : List Value) (x : Link) (e f t : Int) (hx : gLink.sz x ≤ 1048576) (he : okI e) (hf : okI f) (ht : okI t) : Ct Try.prog 71 [.agg ⟨l⟩, .int .i64 e, .int .i64 f, .int .i64 t] [] (fun H => gLink.rd H l x) (fun v A => ∃ b c, v = .slice b (linkPacks x e f t).length c ∧ (gSl 89 gPacket).ow [.slice b (linkPacks x e f t).length c] (linkPacks x e f t) A) := by
  refine Ct.intro0 G_ok Try.func71 rfl rfl rfl fun E H hp => ?_
  obtain ⟨b0p, c0p, rfl, h0p, w1p, w2p⟩ := gLink_rd.1 hp
  have hl := (rd_len h0p).2
  have hz := gLink_sz x
  have hls := len_szL gS x.sent
  have hsl := sends_len x
  refine VCnew.intro fun x0 => ?_
  refine call_val (implLinkOk_ct _ (x)) (Rp.mono _ (mem_at 0 rfl) hp) ?_
  rintro _ rfl
  refine VCsplit.intro (fun q2 => ?_) (fun q2 => ?_)
  ·
    simp at q2
    (rw [linkPacks_no ‹linkOk x = false›]; exact ⟨[], ⟨none, 0, rfl, sl_nil _ _ _⟩, (.le fun a => by (try simp only [setR, List.cons_append, List.nil_append]); simp [List.count_cons, Blk.ent, idOf]; try omega)⟩)
  ·
    simp at q2
    refine call_new (implLinkSends_ct _ (x) ?_) (Rp.mono _ (mem_at 0 rfl) hp) ?_
    · trivial
    rintro v3 A3 o3
    obtain ⟨b3, c3, rfl, o3⟩ := o3
    apply loop_mod (α := (Nat) × (Hp) × (Option Addr) × (Nat)) G_ok [21, 22, 23, 11, 24, 25, 26, 27, 28, 29, 30, 31, 32, 33, 34, 35, 36, 37, 38, 39, 9, 40, 20] (fun z => [(20, .v (.int .i64 z.1)), (9, .v (.slice z.2.2.1 (packsK x e f t z.1).length z.2.2.2))]) (fun z => [{ id := x0, cs := [Value.slice b0p x.sent.length c0p, Value.int IntKind.i64 x.acked, Value.int IntKind.i64 x.took], ty := (45 : Nat) }]) (fun z => [z.2.1, A3, H]) (fun z => (sends x).length - z.1) (fun z => z.1 ≤ (sends x).length ∧ (gSl 89 gPacket).ow [.slice z.2.2.1 (packsK x e f t z.1).length z.2.2.2] (packsK x e f t z.1) z.2.1) ((0, [], none, 0))
    · repeat' (first | exact trivial | refine ⟨⟨_, rfl, by first | rfl | exact inc_eq _ (by omega) | (refine sl_eq ?_; simp; done) | (refine sl_eq ?_; rw [packsK_next]), by first | exact trivial | simp [SV.ok]⟩, ?_⟩)
    · exact ⟨rfl, trivial⟩
    · try dsimp only
      exact ⟨Nat.zero_le _, sl_nil _ _ _⟩
    · exact .refl _
    rintro ⟨k, A, lb, lc⟩ hI
    obtain ⟨hk, oA⟩ : k ≤ (sends x).length ∧ (gSl 89 gPacket).ow [.slice lb (packsK x e f t k).length lc] (packsK x e f t k) A := hI
    try dsimp only
    refine VCsplit.intro (fun q4 => ?_) (fun q4 => ?_)
    ·
      simp at q4
      have hsa := sends_at (l := x) (by omega : k < (sends x).length)
      refine idx_rd (Gt.owrd _ o3) ?_ ?_ fun b5 o5 hb5 => ?_
      · omega
      · omega
      refine load_allN 0 (k) rfl (Gt.owrd _ o3) ?_ ?_ hb5 rfl (mem_at 1 rfl) fun l6 hl6 => ?_
      · omega
      · omega
      obtain ⟨rfl, hw6⟩ := hl6; simp only [flStr, flInt, okI] at hw6
      refine draw G_ok mixed (some 15) (.q 0 (.q 1 (.q 2 (.q 3 (.q 4 (.q 5 (.q 6 (.q 7 (.q 8 (.q 9 (.q 10 (.q 11 (.q 12 (.q 13 (.f 14 (.tl 15 (.f 16 (.nil)))))))))))))))))) (by decide +kernel) ?_
      refine idx_rd h0p ?_ ?_ fun b7 o7 hb7 => ?_
      · (simp (disch := omega) only [wrap_of]; omega)
      · (simp (disch := omega) only [wrap_of]; omega)
      refine load_all ByteArray.empty h0p ?_ ?_ hb7 rfl (mem_at 2 rfl) fun l8 hl8 => ?_
      · (simp (disch := omega) only [wrap_of]; omega)
      · (simp (disch := omega) only [wrap_of]; omega)
      obtain ⟨rfl, hw8⟩ := hl8; simp only [flStr, flInt, okI] at hw8
      refine VCnew.intro fun x9 => ?_
      refine VC.intro ?_ ?_
      · exact keep_new
      refine gappend1 (g := gPacket) (T := (89 : TypeId)) G_ok A _ [A3, H] ?_ oA (pack_at_own ‹linkOk x = true› he hf ht hsa.1 (by omega)) (List.mem_of_getElem? (i := 0) rfl) rfl rfl rfl rfl rfl rfl rfl rfl ?_ fun b10 c10 A10 o10 => ?_
      · exact .tl
      · (rw [packsK_len]; omega)
      apply loop_stepA (k + 1, _, _, _)
      · exact .refl _
      · repeat' (first | exact trivial | refine ⟨⟨_, rfl, by first | rfl | exact inc_eq _ (by omega) | (refine sl_eq ?_; simp; done) | (refine sl_eq ?_; rw [packsK_next]), by first | exact trivial | simp [SV.ok]⟩, ?_⟩)
      · exact ⟨rfl, trivial⟩
      · try dsimp only
        (rw [packsK_next]; exact ⟨by omega, by assumption⟩)
      · try dsimp only
        omega
    ·
      simp at q4
      obtain rfl : k = (sends x).length := by omega
      have hac := (linkOk_iff.1 ‹linkOk x = true›).2.1
      have hpl := packsK_len x e f t (sends x).length
      refine VCsplit.intro (fun q11 => ?_) (fun q11 => ?_)
      ·
        simp at q11
        refine VCsplit.intro (fun q12 => ?_) (fun q12 => ?_)
        ·
          simp at q12
          have hpk : packsK x e f t (sends x).length ++ [⟨e, f, t, 0, x.took, .empty⟩] = packs x e f t := by (rw [packs_ack hac (by have h8 := congrArg List.length ‹packsK x e f t (sends x).length = []›; rw [List.length_nil] at h8; omega) (by omega), ‹packsK x e f t (sends x).length = []›]; rfl)
          have hql := congrArg List.length hpk
          have hql2 := hql
          rw [List.length_append, List.length_singleton] at hql2
          refine VCnew.intro fun x13 => ?_
          refine gappend1 (g := gPacket) (T := (89 : TypeId)) G_ok A _ [A3, H] ?_ oA (pack_ack_own he hf ht w2p) (List.mem_of_getElem? (i := 0) rfl) rfl rfl rfl rfl rfl rfl rfl rfl ?_ fun b14 c14 A14 o14 => ?_
          · exact .tl
          · omega
          apply loop_mod (α := (Nat)) G_ok [61, 62, 63, 13, 64, 65, 66, 8, 67, 60] (fun z => [(60, .v (.int .i64 z))]) (fun z => [{ id := x0, cs := [Value.slice b0p x.sent.length c0p, Value.int IntKind.i64 x.acked, Value.int IntKind.i64 x.took], ty := (45 : Nat) }]) (fun z => [A14, A3, H]) (fun z => (packs x e f t).length - z) (fun z => z ≤ (packs x e f t).length ∧ ((packs x e f t).take z).all packOk = true) (0)
          · repeat' (first | exact trivial | refine ⟨⟨_, rfl, by first | rfl | exact inc_eq _ (by omega) | (refine sl_eq ?_; simp; done) | (refine sl_eq ?_; rw [packsK_next]), by first | exact trivial | simp [SV.ok]⟩, ?_⟩)
          · exact ⟨rfl, trivial⟩
          · exact ⟨Nat.zero_le _, rfl⟩
          · exact .refl _
          rintro j hI
          obtain ⟨hj, ha⟩ : j ≤ (packs x e f t).length ∧ ((packs x e f t).take j).all packOk = true := hI
          try dsimp only
          refine VCsplit.intro (fun q15 => ?_) (fun q15 => ?_)
          ·
            simp at q15
            refine idx_rd (Gt.owrd _ o14) ?_ ?_ fun b16 o16 hb16 => ?_
            · omega
            · omega
            refine load_allN default (j) rfl (Gt.owrd _ o14) ?_ ?_ hb16 rfl (mem_at 0 rfl) fun l17 hl17 => ?_
            · omega
            · omega
            obtain ⟨rfl, w0x17, w1x17, w2x17, w3x17, w4x17, w5x17⟩ := gPacket_rd.1 hl17
            refine VCnew.intro fun x18 => ?_
            refine call_val (implPacketOk_ct _ ((packsK x e f t (sends x).length ++ [{ epoch := e, from' := f, to := t, seq := (0 : Int), ack := x.took, body := ByteArray.empty }])[j]?.getD default)) (Rp.mono _ (mem_at 0 rfl) hl17) ?_
            rintro _ rfl
            refine VCsplit.intro (fun q20 => ?_) (fun q20 => ?_)
            ·
              simp at q20
              (have hq20 : packOk ((packs x e f t)[j]?.getD default) = false := by rw [← hpk]; exact q20)
              (rw [linkPacks_bad (k := j) (by omega) ‹packOk ((packs x e f t)[j]?.getD default) = false›]; exact ⟨[], ⟨none, 0, rfl, sl_nil _ _ _⟩, (.le fun a => by (try simp only [setR, List.cons_append, List.nil_append]); simp [List.count_cons, Blk.ent, idOf]; try omega)⟩)
            ·
              simp at q20
              (have hq20 : packOk ((packs x e f t)[j]?.getD default) = true := by rw [← hpk]; exact q20)
              apply loop_stepA (j + 1)
              · exact .refl _
              · repeat' (first | exact trivial | refine ⟨⟨_, rfl, by first | rfl | exact inc_eq _ (by omega) | (refine sl_eq ?_; simp; done) | (refine sl_eq ?_; rw [packsK_next]), by first | exact trivial | simp [SV.ok]⟩, ?_⟩)
              · exact ⟨rfl, trivial⟩
              · exact ⟨by omega, allP_step (by omega) ha ‹_›⟩
              · omega
          ·
            simp at q15
            (have hje : j = (packs x e f t).length := (by omega); subst hje; rw [linkPacks_yes ‹linkOk x = true› ha, ← hpk]; exact ⟨_, ⟨_, _, rfl, by assumption⟩, (.le fun a => by (try simp only [setR, List.cons_append, List.nil_append]); simp [List.count_cons, Blk.ent, idOf]; try omega)⟩)
        ·
          simp at q12
          have hpk : packsK x e f t (sends x).length = packs x e f t := by (rw [packs_nil hac (by have h8 := congrArg List.length ‹packsK x e f t (sends x).length = []›; rw [List.length_nil] at h8; omega) (by omega)]; exact ‹packsK x e f t (sends x).length = []›)
          have hql := congrArg List.length hpk
          apply loop_mod (α := (Nat)) G_ok [61, 62, 63, 13, 64, 65, 66, 8, 67, 60] (fun z => [(60, .v (.int .i64 z))]) (fun z => [{ id := x0, cs := [Value.slice b0p x.sent.length c0p, Value.int IntKind.i64 x.acked, Value.int IntKind.i64 x.took], ty := (45 : Nat) }]) (fun z => [A, A3, H]) (fun z => (packs x e f t).length - z) (fun z => z ≤ (packs x e f t).length ∧ ((packs x e f t).take z).all packOk = true) (0)
          · repeat' (first | exact trivial | refine ⟨⟨_, rfl, by first | rfl | exact inc_eq _ (by omega) | (refine sl_eq ?_; simp; done) | (refine sl_eq ?_; rw [packsK_next]), by first | exact trivial | simp [SV.ok]⟩, ?_⟩)
          · exact ⟨rfl, trivial⟩
          · exact ⟨Nat.zero_le _, rfl⟩
          · exact .refl _
          rintro j hI
          obtain ⟨hj, ha⟩ : j ≤ (packs x e f t).length ∧ ((packs x e f t).take j).all packOk = true := hI
          try dsimp only
          refine VCsplit.intro (fun q21 => ?_) (fun q21 => ?_)
          ·
            simp at q21
            refine idx_rd (Gt.owrd _ oA) ?_ ?_ fun b22 o22 hb22 => ?_
            · omega
            · omega
            refine load_allN default (j) rfl (Gt.owrd _ oA) ?_ ?_ hb22 rfl (mem_at 0 rfl) fun l23 hl23 => ?_
            · omega
            · omega
            obtain ⟨rfl, w0x23, w1x23, w2x23, w3x23, w4x23, w5x23⟩ := gPacket_rd.1 hl23
            refine VCnew.intro fun x24 => ?_
            refine call_val (implPacketOk_ct _ ((packsK x e f t (sends x).length)[j]?.getD default)) (Rp.mono _ (mem_at 0 rfl) hl23) ?_
            rintro _ rfl
            refine VCsplit.intro (fun q26 => ?_) (fun q26 => ?_)
            ·
              simp at q26
              (have hq26 : packOk ((packs x e f t)[j]?.getD default) = false := by rw [← hpk]; exact q26)
              (rw [linkPacks_bad (k := j) (by omega) ‹packOk ((packs x e f t)[j]?.getD default) = false›]; exact ⟨[], ⟨none, 0, rfl, sl_nil _ _ _⟩, (.le fun a => by (try simp only [setR, List.cons_append, List.nil_append]); simp [List.count_cons, Blk.ent, idOf]; try omega)⟩)
            ·
              simp at q26
              (have hq26 : packOk ((packs x e f t)[j]?.getD default) = true := by rw [← hpk]; exact q26)
              apply loop_stepA (j + 1)
              · exact .refl _
              · repeat' (first | exact trivial | refine ⟨⟨_, rfl, by first | rfl | exact inc_eq _ (by omega) | (refine sl_eq ?_; simp; done) | (refine sl_eq ?_; rw [packsK_next]), by first | exact trivial | simp [SV.ok]⟩, ?_⟩)
              · exact ⟨rfl, trivial⟩
              · exact ⟨by omega, allP_step (by omega) ha ‹_›⟩
              · omega
          ·
            simp at q21
            (have hje : j = (packs x e f t).length := (by omega); subst hje; rw [linkPacks_yes ‹linkOk x = true› ha, ← hpk]; exact ⟨_, ⟨_, _, rfl, by assumption⟩, (.le fun a => by (try simp only [setR, List.cons_append, List.nil_append]); simp [List.count_cons, Blk.ent, idOf]; try omega)⟩)
      ·
        simp at q11
        have hpk : packsK x e f t (sends x).length = packs x e f t := (packs_some hac (fun h8 => ‹¬ packsK x e f t (sends x).length = []› (List.length_eq_zero_iff.1 (by omega)))).symm
        have hql := congrArg List.length hpk
        apply loop_mod (α := (Nat)) G_ok [61, 62, 63, 13, 64, 65, 66, 8, 67, 60] (fun z => [(60, .v (.int .i64 z))]) (fun z => [{ id := x0, cs := [Value.slice b0p x.sent.length c0p, Value.int IntKind.i64 x.acked, Value.int IntKind.i64 x.took], ty := (45 : Nat) }]) (fun z => [A, A3, H]) (fun z => (packs x e f t).length - z) (fun z => z ≤ (packs x e f t).length ∧ ((packs x e f t).take z).all packOk = true) (0)
        · repeat' (first | exact trivial | refine ⟨⟨_, rfl, by first | rfl | exact inc_eq _ (by omega) | (refine sl_eq ?_; simp; done) | (refine sl_eq ?_; rw [packsK_next]), by first | exact trivial | simp [SV.ok]⟩, ?_⟩)
        · exact ⟨rfl, trivial⟩
        · exact ⟨Nat.zero_le _, rfl⟩
        · exact .refl _
        rintro j hI
        obtain ⟨hj, ha⟩ : j ≤ (packs x e f t).length ∧ ((packs x e f t).take j).all packOk = true := hI
        try dsimp only
        refine VCsplit.intro (fun q27 => ?_) (fun q27 => ?_)
        ·
          simp at q27
          refine idx_rd (Gt.owrd _ oA) ?_ ?_ fun b28 o28 hb28 => ?_
          · omega
          · omega
          refine load_allN default (j) rfl (Gt.owrd _ oA) ?_ ?_ hb28 rfl (mem_at 0 rfl) fun l29 hl29 => ?_
          · omega
          · omega
          obtain ⟨rfl, w0x29, w1x29, w2x29, w3x29, w4x29, w5x29⟩ := gPacket_rd.1 hl29
          refine VCnew.intro fun x30 => ?_
          refine call_val (implPacketOk_ct _ ((packsK x e f t (sends x).length)[j]?.getD default)) (Rp.mono _ (mem_at 0 rfl) hl29) ?_
          rintro _ rfl
          refine VCsplit.intro (fun q32 => ?_) (fun q32 => ?_)
          ·
            simp at q32
            (have hq32 : packOk ((packs x e f t)[j]?.getD default) = false := by rw [← hpk]; exact q32)
            (rw [linkPacks_bad (k := j) (by omega) ‹packOk ((packs x e f t)[j]?.getD default) = false›]; exact ⟨[], ⟨none, 0, rfl, sl_nil _ _ _⟩, (.le fun a => by (try simp only [setR, List.cons_append, List.nil_append]); simp [List.count_cons, Blk.ent, idOf]; try omega)⟩)
          ·
            simp at q32
            (have hq32 : packOk ((packs x e f t)[j]?.getD default) = true := by rw [← hpk]; exact q32)
            apply loop_stepA (j + 1)
            · exact .refl _
            · repeat' (first | exact trivial | refine ⟨⟨_, rfl, by first | rfl | exact inc_eq _ (by omega) | (refine sl_eq ?_; simp; done) | (refine sl_eq ?_; rw [packsK_next]), by first | exact trivial | simp [SV.ok]⟩, ?_⟩)
            · exact ⟨rfl, trivial⟩
            · exact ⟨by omega, allP_step (by omega) ha ‹_›⟩
            · omega
        ·
          simp at q27
          (have hje : j = (packs x e f t).length := (by omega); subst hje; rw [linkPacks_yes ‹linkOk x = true› ha, ← hpk]; exact ⟨_, ⟨_, _, rfl, by assumption⟩, (.le fun a => by (try simp only [setR, List.cons_append, List.nil_append]); simp [List.count_cons, Blk.ent, idOf]; try omega)⟩)

end Go.Proofs.Ytmmmjikanmgpfaa
