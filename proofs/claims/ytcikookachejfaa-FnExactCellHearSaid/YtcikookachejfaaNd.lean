/-
  What came put into its place, on both sides. Conditions: none.
-/
import Derived.Test.YtcikookachejfaaNc
namespace Go.Proofs.Ytcikookachejfaa
open Go.SX Go.Proofs
set_option linter.unusedSimpArgs false
set_option linter.unusedVariables false
set_option maxHeartbeats 4000000
attribute [local irreducible] IntKind.wrap

def cmpG (a b : Got) : Int := cmpL [a.from', a.atom] [b.from', b.atom]
theorem cmpG_zero {a b : Got} : cmpG a b = 0 ↔ a.from' = b.from' ∧ a.atom = b.atom := by
  unfold cmpG
  simp only [cmpL]
  split
  · omega
  · split
    · omega
    · split
      · omega
      · split <;> omega
theorem cmpG_neg {a b : Got} : cmpG a b < 0 ↔ a.from' < b.from' ∨ (a.from' = b.from' ∧ a.atom < b.atom) := by
  unfold cmpG
  simp only [cmpL]
  split
  · omega
  · split
    · omega
    · split
      · omega
      · split <;> omega
theorem cmpG_pos {a b : Got} : 0 < cmpG a b ↔ a.from' > b.from' ∨ (a.from' = b.from' ∧ a.atom > b.atom) := by
  unfold cmpG
  simp only [cmpL]
  split
  · omega
  · split
    · omega
    · split
      · omega
      · split <;> omega
--@ct impl.compareGots val compareGots_ct _ _ $1 $2 | ⟨%1, %2⟩
theorem compareGots_ct (l1 l2 : List Value) (a b : Got) :
    Ct Try.prog 175 [.agg ⟨l1⟩, .agg ⟨l2⟩] [] (fun H => gGot.rd H l1 a ∧ gGot.rd H l2 b) (fun v A => v = .int .i64 (cmpG a b) ∧ A = []) := by
  refine Ct.intro0 G_ok Try.func175 rfl rfl rfl fun E H hp => ?_
  obtain ⟨hp1, hp2⟩ := hp
  obtain ⟨l2p, rfl, w0p, w1p, h2p⟩ := gGot_rd.1 hp1
  obtain ⟨b0_2p, c0_2p, rfl, h0_2p⟩ := gBag_rd.1 h2p
  obtain ⟨l2q, rfl, w0q, w1q, h2q⟩ := gGot_rd.1 hp2
  obtain ⟨b0_2q, c0_2q, rfl, h0_2q⟩ := gBag_rd.1 h2q
  refine VCnew.intro fun x0 => ?_
  refine VCnew.intro fun x1 => ?_
  refine VCnew.intro fun x2 => ?_
  refine VCnew.intro fun x3 => ?_
  refine call_val (sCompare_ct _ _ _ _ _ _ ([a.from', a.atom]) ([b.from', b.atom])) ⟨(Rp.mono _ (mem_at 1 rfl) (Ow.rd (Ow.lit (f := flInt) (T := (3 : TypeId)) (b := x2) (xs := [a.from', a.atom]) (by first | (simp [flInt, okI]; done) | (simp only [List.forall_mem_cons]; simp_all [flInt, okI])) (by simp)))), (Rp.mono _ (mem_at 0 rfl) (Ow.rd (Ow.lit (f := flInt) (T := (3 : TypeId)) (b := x3) (xs := [b.from', b.atom]) (by first | (simp [flInt, okI]; done) | (simp only [List.forall_mem_cons]; simp_all [flInt, okI])) (by simp))))⟩ ?_
  rintro _ rfl
  try dsimp only
  exact ⟨[], ⟨rfl, rfl⟩, (.le fun a => by (try simp only [setR, List.cons_append, List.nil_append]); simp [List.count_cons, Blk.ent, idOf]; try omega)⟩

abbrev ZG := RawC gGot.size × Got
def lessG (x : Got) (y : Got) : Bool := decide (cmpG y x < 0)
def moreG (x : Got) (y : Got) : Bool := decide (0 < cmpG y x)
def pickZ (p : Got → Bool) (zs : List ZG) : List (RawC gGot.size) := (zs.filter fun z => p z.2).map (·.1)
theorem pickZ_yes {p : Got → Bool} {zs : List ZG} {k : Nat} {l : List Value} {hr : l.length = gGot.size ∧ allOne l = true} (hk : k < zs.length) (e : l = (zs[k]?.getD default).1.1) (hp : p (zs[k]?.getD default).2 = true) : pickZ p (zs.take (k + 1)) = pickZ p (zs.take k) ++ [⟨l, hr⟩] := by
  unfold pickZ
  rw [List.getElem?_eq_getElem hk] at hp e
  rw [← List.take_append_getElem hk, List.filter_append, List.map_append, List.filter_cons_of_pos (by simpa using hp)]
  congr 1
  simp only [List.filter_nil, List.map_cons, List.map_nil]
  congr 1
  exact Subtype.ext e.symm
theorem pickZ_no {p : Got → Bool} {zs : List ZG} {k : Nat} (hk : k < zs.length) (hp : p (zs[k]?.getD default).2 = false) : pickZ p (zs.take (k + 1)) = pickZ p (zs.take k) := by
  unfold pickZ
  rw [List.getElem?_eq_getElem hk] at hp
  simp only [Option.getD_some] at hp
  rw [← List.take_append_getElem hk, List.filter_append, List.map_append, List.filter_cons_of_neg (by simp [hp])]
  simp
theorem pickZ_len (p : Got → Bool) (zs : List ZG) : (pickZ p zs).length ≤ zs.length := by
  unfold pickZ; rw [List.length_map]; exact List.length_filter_le _ _
theorem pickZ_lenk (p : Got → Bool) (zs : List ZG) (k : Nat) : (pickZ p (zs.take k)).length ≤ k := Nat.le_trans (pickZ_len p _) (by rw [List.length_take]; omega)
def hasG (zs : List ZG) (x : Got) : Bool := zs.any fun z => decide (cmpG z.2 x = 0)
theorem hasG_yes {zs : List ZG} {x : Got} {k : Nat} (hk : k < zs.length) (h : cmpG (zs[k]?.getD default).2 x = 0) : hasG zs x = true := by
  unfold hasG
  rw [List.any_eq_true]
  rw [List.getElem?_eq_getElem hk] at h
  exact ⟨_, List.getElem_mem hk, by simpa using h⟩
theorem hasG_next {zs : List ZG} {x : Got} {k : Nat} (hk : k < zs.length) (h0 : hasG (zs.take k) x = false) (h : ¬ cmpG (zs[k]?.getD default).2 x = 0) : hasG (zs.take (k + 1)) x = false := by
  unfold hasG at *
  rw [List.getElem?_eq_getElem hk] at h
  rw [← List.take_append_getElem hk, List.any_append, h0]
  simpa using h
theorem raw_app {l : List Value} {x : Got} {H : Hp} (h : gGot.rd H l x) : gRG.ow l ⟨l, raw_of h⟩ [] := ⟨rfl, trivial, rfl⟩

theorem pickZ_len_yes {p : Got → Bool} {zs : List ZG} {k : Nat} (hk : k < zs.length) (hp : p (zs[k]?.getD default).2 = true) : (pickZ p (zs.take (k + 1))).length = (pickZ p (zs.take k)).length + 1 := by
  rw [pickZ_yes (hr := (zs[k]?.getD default).1.2) hk rfl hp]; simp
theorem pickZ_len_no {p : Got → Bool} {zs : List ZG} {k : Nat} (hk : k < zs.length) (hp : p (zs[k]?.getD default).2 = false) : (pickZ p (zs.take (k + 1))).length = (pickZ p (zs.take k)).length := by rw [pickZ_no hk hp]
def betR (zs : List ZG) (x : Got) (y : RawC gGot.size) : List (RawC gGot.size) := pickZ (lessG x) zs ++ ([y] ++ pickZ (moreG x) zs)
theorem betR_len (zs : List ZG) (x : Got) (y : RawC gGot.size) : (betR zs x y).length ≤ 2 * zs.length + 1 := by
  unfold betR
  have h1 := pickZ_len (lessG x) zs
  have h2 := pickZ_len (moreG x) zs
  simp only [List.length_append, List.length_cons, List.length_nil]; omega
theorem less_yes {y x : Got} (h : cmpG y x < 0) : lessG x y = true ∧ moreG x y = false := by unfold lessG moreG; rw [decide_eq_true h, decide_eq_false (by omega)]; exact ⟨rfl, rfl⟩
theorem less_no {y x : Got} (h : ¬ cmpG y x = 0) (h2 : 0 ≤ cmpG y x) : lessG x y = false ∧ moreG x y = true := by unfold lessG moreG; rw [decide_eq_false (by omega), decide_eq_true (by omega)]; exact ⟨rfl, rfl⟩

theorem betR_flat (zs : List ZG) (x : Got) (y : RawC gGot.size) : [pickZ (lessG x) zs, [y], pickZ (moreG x) zs].flatten = betR zs x y := by unfold betR; simp
theorem lit3_rd {H : Hp} {x13 x12 : Nat} {lb gb : Option Addr} {lc gc : Nat} {L1 L3 : List (RawC gGot.size)} {l : List Value} {hr : l.length = gGot.size ∧ allOne l = true} {T1 T2 : TypeId} (h13 : (x13, Obj.cells ⟨[.slice lb L1.length lc, .slice (some ⟨x12, 0, none⟩) 1 1, .slice gb L3.length gc]⟩ T1) ∈ H)
    (h1 : (gSl 142 gRG).rd H [.slice lb L1.length lc] L1) (h2 : (x12, Obj.cells ⟨l⟩ T2) ∈ H) (h3 : (gSl 142 gRG).rd H [.slice gb L3.length gc] L3) :
    (gSl 84 (gSl 142 gRG)).rd H [.slice (some ⟨x13, 0, none⟩) 3 3] [L1, [⟨l, hr⟩], L3] := by
  have h4 : (gSl 142 gRG).rd H [.slice (some ⟨x12, 0, none⟩) 1 1] [⟨l, hr⟩] := lit_rd (f := flRaw gGot.size gGot.pos) h2 rfl trivial
  refine ⟨some ⟨x13, 0, none⟩, 3, rfl, by simp, fun i hi => ?_⟩
  have hi3 : i < 3 := hi
  rcases i with _ | _ | _ | i
  · exact ⟨x13, 0, _, rfl, ⟨rfl, _, _, _, h13, fun j hj => by have h9 : j = 0 := Nat.lt_one_iff.1 hj; subst h9; rfl⟩, h1⟩
  · exact ⟨x13, 0, _, rfl, ⟨rfl, _, _, _, h13, fun j hj => by have h9 : j = 0 := Nat.lt_one_iff.1 hj; subst h9; rfl⟩, h4⟩
  · exact ⟨x13, 0, _, rfl, ⟨rfl, _, _, _, h13, fun j hj => by have h9 : j = 0 := Nat.lt_one_iff.1 hj; subst h9; rfl⟩, h3⟩
  · omega

theorem betweenRaw_ct (b : Option Addr) (m c : Nat) (zs : List ZG) (l : List Value) (x : Got) (hx : zs.length ≤ 1100000) (hr : l.length = gGot.size ∧ allOne l = true) :
    Ct Try.prog 111 [.slice b m c, .agg ⟨l⟩] [] (fun H => (rpSl (rpZip gGot)).rd H [.slice b m c] zs ∧ gGot.rd H l x)
      (fun v A => (hasG zs x = true ∧ v = .slice b m c ∧ A = []) ∨ (hasG zs x = false ∧ ∃ b' c', v = .slice b' (betR zs x ⟨l, hr⟩).length c' ∧ (gSl 142 gRG).ow [.slice b' (betR zs x ⟨l, hr⟩).length c'] (betR zs x ⟨l, hr⟩) A)) := by
  refine Ct.intro0 G_ok Try.func111 rfl rfl rfl fun E H hp => ?_
  obtain ⟨hp, hp2⟩ := hp
  obtain ⟨rfl, hl⟩ := rd_len hp
  have hcl := rd_cap hp
  obtain ⟨l2q, rfl, w0q, w1q, h2q⟩ := gGot_rd.1 hp2
  obtain ⟨b0_2q, c0_2q, rfl, h0_2q⟩ := gBag_rd.1 h2q
  refine VCnew.intro fun x0 => ?_
  apply loop_mod (α := (Nat) × (Hp) × (Option Addr) × (Nat) × (Hp) × (Option Addr) × (Nat)) G_ok [13, 14, 15, 8, 16, 17, 18, 9, 24, 25, 23, 26, 4, 28, 29, 27, 30, 31, 32, 33, 5, 19, 20, 21, 22, 6, 34, 12] (fun z => [(12, .v (.int .i64 z.1)), (6, .v (.slice z.2.2.2.2.2.1 (pickZ (moreG x) (zs.take z.1)).length z.2.2.2.2.2.2)), (5, .v (.slice z.2.2.1 (pickZ (lessG x) (zs.take z.1)).length z.2.2.2.1)), (4, .v (.slice none 0 0))]) (fun z => [{ id := x0, cs := [Value.int IntKind.i64 x.from', Value.int IntKind.i64 x.atom, Value.slice b0_2q x.bag.items.length c0_2q] ++ [], ty := (142 : Nat) }]) (fun z => [z.2.1, z.2.2.2.2.1, H]) (fun z => zs.length - z.1) (fun z => z.1 ≤ zs.length ∧ hasG (zs.take z.1) x = false ∧ (gSl 142 gRG).ow [.slice z.2.2.1 (pickZ (lessG x) (zs.take z.1)).length z.2.2.2.1] (pickZ (lessG x) (zs.take z.1)) z.2.1 ∧ (gSl 142 gRG).ow [.slice z.2.2.2.2.2.1 (pickZ (moreG x) (zs.take z.1)).length z.2.2.2.2.2.2] (pickZ (moreG x) (zs.take z.1)) z.2.2.2.2.1) ((0, [], none, 0, [], none, 0))
  · repeat' (first | exact trivial | refine ⟨⟨_, rfl, by first | rfl | exact inc_eq _ (by omega) | (refine sl_eq ?_; simp; done) | (refine sl_eq ?_; rw [pickZ_len_yes (by omega) (less_yes (by assumption)).1, List.length_append]; rfl) | (refine sl_eq ?_; rw [pickZ_len_yes (by omega) (less_no (by assumption) (by assumption)).2, List.length_append]; rfl) | (refine sl_eq ?_; rw [pickZ_len_no (by omega) (less_yes (by assumption)).2]) | (refine sl_eq ?_; rw [pickZ_len_no (by omega) (less_no (by assumption) (by assumption)).1]), by first | exact trivial | simp [SV.ok]⟩, ?_⟩)
  · exact ⟨rfl, trivial⟩
  · try dsimp only
    exact ⟨Nat.zero_le _, rfl, sl_nil _ _ _, sl_nil _ _ _⟩
  · exact .refl _
  rintro ⟨k, A, lb, lc, B, gb, gc⟩ hI
  obtain ⟨hk, hh, oA, oB⟩ : k ≤ zs.length ∧ hasG (zs.take k) x = false ∧ (gSl 142 gRG).ow [.slice lb (pickZ (lessG x) (zs.take k)).length lc] (pickZ (lessG x) (zs.take k)) A ∧ (gSl 142 gRG).ow [.slice gb (pickZ (moreG x) (zs.take k)).length gc] (pickZ (moreG x) (zs.take k)) B := hI
  try dsimp only
  refine VCsplit.intro (fun q1 => ?_) (fun q1 => ?_)
  ·
    simp at q1
    refine idx_rd hp ?_ ?_ fun b2 o2 hb2 => ?_
    · omega
    · omega
    refine load_allN default (k) rfl hp ?_ ?_ hb2 rfl (mem_at 2 rfl) fun l3 hl3 => ?_
    · omega
    · omega
    obtain ⟨e3, hl3⟩ := hl3
    obtain ⟨l2x3, rfl, w0x3, w1x3, h2x3⟩ := gGot_rd.1 hl3 ; obtain ⟨b0_2x3, c0_2x3, rfl, h0_2x3⟩ := gBag_rd.1 h2x3
    refine VCnew.intro fun x4 => ?_
    refine call_val (compareGots_ct _ _ ((zs[k]?.getD default).snd) (x)) ⟨(Rp.mono _ (mem_at 2 rfl) hl3), (Rp.mono _ (mem_at 2 rfl) hp2)⟩ ?_
    rintro _ rfl
    refine VCsplit.intro (fun q6 => ?_) (fun q6 => ?_)
    ·
      simp at q6
      exact ⟨[], .inl ⟨hasG_yes (by assumption) ‹_ = (0 : Int)›, rfl, rfl⟩, (.le fun a => by (try simp only [setR, List.cons_append, List.nil_append]); simp [List.count_cons, Blk.ent, idOf]; try omega)⟩
    ·
      simp at q6
      refine VCsplit.intro (fun q7 => ?_) (fun q7 => ?_)
      ·
        simp at q7
        refine VCnew.intro fun x8 => ?_
        refine gappend1 (g := gRG) (T := (142 : TypeId)) G_ok A [] [B, H] ?_ oA (raw_app ‹gGot.rd _ _ _›) (List.mem_of_getElem? (i := 0) rfl) rfl rfl rfl rfl rfl rfl rfl rfl ?_ fun b9 c9 A9 o9 => ?_
        · exact .tl
        · (have h1 := pickZ_lenk (lessG x) zs k; omega)
        apply loop_stepA (k + 1, _, _, _, _, _, _)
        · exact .refl _
        · repeat' (first | exact trivial | refine ⟨⟨_, rfl, by first | rfl | exact inc_eq _ (by omega) | (refine sl_eq ?_; simp; done) | (refine sl_eq ?_; rw [pickZ_len_yes (by omega) (less_yes (by assumption)).1, List.length_append]; rfl) | (refine sl_eq ?_; rw [pickZ_len_yes (by omega) (less_no (by assumption) (by assumption)).2, List.length_append]; rfl) | (refine sl_eq ?_; rw [pickZ_len_no (by omega) (less_yes (by assumption)).2]) | (refine sl_eq ?_; rw [pickZ_len_no (by omega) (less_no (by assumption) (by assumption)).1]), by first | exact trivial | simp [SV.ok]⟩, ?_⟩)
        · exact ⟨rfl, trivial⟩
        · try dsimp only
          exact ⟨by omega, hasG_next (by omega) hh (by assumption), by rw [pickZ_yes (hr := raw_of hl3) (by omega) e3 (less_yes (by assumption)).1]; assumption, by rw [pickZ_no (by omega) (less_yes (by assumption)).2]; assumption⟩
        · try dsimp only
          omega
      ·
        simp at q7
        refine VCnew.intro fun x10 => ?_
        refine gappend1 (g := gRG) (T := (142 : TypeId)) G_ok B [] [A, H] ?_ oB (raw_app ‹gGot.rd _ _ _›) (List.mem_of_getElem? (i := 0) rfl) rfl rfl rfl rfl rfl rfl rfl rfl ?_ fun b11 c11 A11 o11 => ?_
        · exact .le fun a => by (try simp only [setR, List.cons_append, List.nil_append]); simp only [List.flatten_append, List.flatten_cons, List.flatten_nil, List.count_append, List.count_nil, List.append_nil, List.nil_append]; omega
        · (have h1 := pickZ_lenk (moreG x) zs k; omega)
        apply loop_stepI (k + 1, A, lb, lc, _, _, _)
        · repeat' (first | exact trivial | refine ⟨⟨_, rfl, by first | rfl | exact inc_eq _ (by omega) | (refine sl_eq ?_; simp; done) | (refine sl_eq ?_; rw [pickZ_len_yes (by omega) (less_yes (by assumption)).1, List.length_append]; rfl) | (refine sl_eq ?_; rw [pickZ_len_yes (by omega) (less_no (by assumption) (by assumption)).2, List.length_append]; rfl) | (refine sl_eq ?_; rw [pickZ_len_no (by omega) (less_yes (by assumption)).2]) | (refine sl_eq ?_; rw [pickZ_len_no (by omega) (less_no (by assumption) (by assumption)).1]), by first | exact trivial | simp [SV.ok]⟩, ?_⟩)
        · exact ⟨rfl, trivial⟩
        · try dsimp only
          exact ⟨by omega, hasG_next (by omega) hh (by assumption), by rw [pickZ_no (by omega) (less_no (by assumption) (by assumption)).1]; assumption, by rw [pickZ_yes (hr := raw_of hl3) (by omega) e3 (less_no (by assumption) (by assumption)).2]; assumption⟩
        · exact .le fun a => by (try simp only [setR, List.cons_append, List.nil_append]); simp only [List.flatten_append, List.flatten_cons, List.flatten_nil, List.count_append, List.count_nil, List.append_nil, List.nil_append]; omega
        · try dsimp only
          omega
  ·
    simp at q1
    obtain rfl : k = zs.length := by omega
    simp only [List.take_length] at hh oA oB ⊢
    refine VCnew.intro fun x12 => ?_
    refine VCnew.intro fun x13 => ?_
    refine call_new (concatGot_ct _ _ _ [pickZ (lessG x) zs, [⟨_, hr⟩], pickZ (moreG x) zs] ?_) (lit3_rd (mem_at 0 rfl _ (List.mem_singleton.2 rfl)) (Rp.mono _ (mem_at 2 rfl) (Gt.owrd _ oA)) (mem_at 1 rfl _ (List.mem_singleton.2 rfl)) (Rp.mono _ (mem_at 3 rfl) (Gt.owrd _ oB))) ?_
    · (rw [betR_flat]; have := betR_len zs x ⟨_, hr⟩; omega)
    rintro v14 A14 o14
    obtain ⟨b14, c14, rfl, o14⟩ := o14
    rw [betR_flat] at o14 ⊢
    try dsimp only
    exact ⟨_, .inr ⟨hh, _, _, rfl, by assumption⟩, (.le fun a => by (try simp only [setR, List.cons_append, List.nil_append]); simp [List.count_cons, Blk.ent, idOf]; try omega)⟩

theorem lessG_t {y x : Got} (h : y.from' < x.from' ∨ (y.from' = x.from' ∧ y.atom < x.atom)) : lessG x y = true := by unfold lessG; rw [decide_eq_true_iff]; exact cmpG_neg.2 h
theorem lessG_f {y x : Got} (h : ¬ (y.from' < x.from' ∨ (y.from' = x.from' ∧ y.atom < x.atom))) : lessG x y = false := by unfold lessG; rw [decide_eq_false_iff_not]; exact fun h2 => h (cmpG_neg.1 h2)
theorem moreG_t {y x : Got} (h : y.from' > x.from' ∨ (y.from' = x.from' ∧ y.atom > x.atom)) : moreG x y = true := by unfold moreG; rw [decide_eq_true_iff]; exact cmpG_pos.2 h
theorem moreG_f {y x : Got} (h : ¬ (y.from' > x.from' ∨ (y.from' = x.from' ∧ y.atom > x.atom))) : moreG x y = false := by unfold moreG; rw [decide_eq_false_iff_not]; exact fun h2 => h (cmpG_pos.1 h2)
def betK (zs : List ZG) (x : Got) (y : RawC gGot.size) (k : Nat) : List (RawC gGot.size) := pickZ (lessG x) zs ++ ([y] ++ pickZ (moreG x) (zs.take k))
theorem betK_zero (zs : List ZG) (x : Got) (y : RawC gGot.size) : betK zs x y 0 = pickZ (lessG x) zs ++ [y] := by unfold betK; simp [pickZ]
theorem betK_end (zs : List ZG) (x : Got) (y : RawC gGot.size) : betK zs x y zs.length = betR zs x y := by unfold betK betR; rw [List.take_length]
theorem betK_yes {zs : List ZG} {x : Got} {y : RawC gGot.size} {k : Nat} {l : List Value} {hr : l.length = gGot.size ∧ allOne l = true} (hk : k < zs.length) (e : l = (zs[k]?.getD default).1.1) (hp : moreG x (zs[k]?.getD default).2 = true) : betK zs x y (k + 1) = betK zs x y k ++ [⟨l, hr⟩] := by
  unfold betK; rw [pickZ_yes (hr := hr) hk e hp]; simp
theorem betK_no {zs : List ZG} {x : Got} {y : RawC gGot.size} {k : Nat} (hk : k < zs.length) (hp : moreG x (zs[k]?.getD default).2 = false) : betK zs x y (k + 1) = betK zs x y k := by
  unfold betK; rw [pickZ_no hk hp]
theorem betK_len (zs : List ZG) (x : Got) (y : RawC gGot.size) (k : Nat) : (betK zs x y k).length ≤ 2 * zs.length + 1 := by
  unfold betK
  have h1 := pickZ_len (lessG x) zs
  have h2 := pickZ_len (moreG x) (zs.take k)
  rw [List.length_take] at h2
  simp only [List.length_append, List.length_cons, List.length_nil]; omega
theorem betK_len_yes {zs : List ZG} {x : Got} {y : RawC gGot.size} {k : Nat} (hk : k < zs.length) (hp : moreG x (zs[k]?.getD default).2 = true) : (betK zs x y (k + 1)).length = (betK zs x y k).length + 1 := by
  rw [betK_yes (hr := (zs[k]?.getD default).1.2) hk rfl hp]; simp
theorem l23PutRaw_ct (b : Option Addr) (m c : Nat) (zs : List ZG) (l : List Value) (x : Got) (hx : zs.length ≤ 1100000) (hr : l.length = gGot.size ∧ allOne l = true) :
    Ct Try.prog 101 [.slice b m c, .agg ⟨l⟩] [] (fun H => (rpSl (rpZip gGot)).rd H [.slice b m c] zs ∧ gGot.rd H l x)
      (fun v A => ∃ b' c', v = .slice b' (betR zs x ⟨l, hr⟩).length c' ∧ (gSl 142 gRG).ow [.slice b' (betR zs x ⟨l, hr⟩).length c'] (betR zs x ⟨l, hr⟩) A) := by
  refine Ct.intro0 G_ok Try.func101 rfl rfl rfl fun E H hp => ?_
  obtain ⟨hp, hp2⟩ := hp
  obtain ⟨rfl, hl⟩ := rd_len hp
  have hcl := rd_cap hp
  obtain ⟨l2q, rfl, w0q, w1q, h2q⟩ := gGot_rd.1 hp2
  obtain ⟨b0_2q, c0_2q, rfl, h0_2q⟩ := gBag_rd.1 h2q
  refine VCnew.intro fun x0 => ?_
  refine VCnew.intro fun x1 => ?_
  apply loop_mod (α := (Nat) × (Hp) × (Option Addr) × (Nat)) G_ok [9, 10, 11, 12, 15, 16, 17, 18, 19, 20, 21, 22, 23, 24, 25, 26, 27, 28, 29, 30, 31, 32, 33, 34, 35, 36, 37, 38, 39, 40, 41, 42, 43, 44, 45, 46, 47, 48, 49, 5, 13, 14, 6] (fun z => [(6, .v (.int .i64 z.1)), (5, .v (.slice z.2.2.1 (pickZ (lessG x) (zs.take z.1)).length z.2.2.2))]) (fun z => [{ id := x0, cs := [Value.int IntKind.i64 x.from', Value.int IntKind.i64 x.atom, Value.slice b0_2q x.bag.items.length c0_2q] ++ [], ty := (142 : Nat) }]) (fun z => [z.2.1, H]) (fun z => zs.length - z.1) (fun z => z.1 ≤ zs.length ∧ (gSl 142 gRG).ow [.slice z.2.2.1 (pickZ (lessG x) (zs.take z.1)).length z.2.2.2] (pickZ (lessG x) (zs.take z.1)) z.2.1) ((0, [], _, 0))
  · repeat' (first | exact trivial | refine ⟨⟨_, rfl, by first | rfl | exact inc_eq _ (by omega) | (refine sl_eq ?_; simp; done) | (refine sl_eq ?_; rw [pickZ_len_yes (by omega) (lessG_t (by omega)), List.length_append]; rfl) | (refine sl_eq ?_; rw [pickZ_len_no (by omega) (lessG_f (by omega))]) | (refine sl_eq ?_; rw [betK_len_yes (by omega) (moreG_t (by omega)), List.length_append]; rfl) | (refine sl_eq ?_; rw [betK_no (by omega) (moreG_f (by omega))]) | (refine sl_eq ?_; rw [betK_zero]), by first | exact trivial | simp [SV.ok]⟩, ?_⟩)
  · exact ⟨rfl, trivial⟩
  · try dsimp only
    exact ⟨Nat.zero_le _, sl_nil _ _ _⟩
  · exact .tl
  rintro ⟨k, A, lb, lc⟩ hI
  obtain ⟨hk, oA⟩ : k ≤ zs.length ∧ (gSl 142 gRG).ow [.slice lb (pickZ (lessG x) (zs.take k)).length lc] (pickZ (lessG x) (zs.take k)) A := hI
  try dsimp only
  refine VCsplit.intro (fun q2 => ?_) (fun q2 => ?_)
  ·
    simp at q2
    refine draw G_ok mixed none (.q 0 (.q 1 (.q 2 (.q 3 (.q 4 (.q 5 (.q 6 (.q 7 (.q 8 (.q 9 (.q 10 (.q 11 (.q 12 (.q 13 (.q 14 (.q 15 (.q 16 (.q 17 (.q 18 (.q 19 (.q 20 (.q 21 (.q 22 (.q 23 (.q 24 (.q 25 (.q 26 (.q 27 (.nil))))))))))))))))))))))))))))) (by decide +kernel) ?_
    refine idx_rd hp ?_ ?_ fun b3 o3 hb3 => ?_
    · omega
    · omega
    refine load_partN default (k) 0 rfl hp ?_ ?_ hb3 rfl (by decide) (mem_at 1 rfl) fun l4 hl4 => ?_
    · omega
    · omega
    obtain ⟨e4, hl4⟩ := hl4
    obtain ⟨l2x4, rfl, w0x4, w1x4, h2x4⟩ := gGot_rd.1 hl4 ; obtain ⟨b0_2x4, c0_2x4, rfl, h0_2x4⟩ := gBag_rd.1 h2x4
    refine VCsplit.intro (fun q5 => ?_) (fun q5 => ?_)
    ·
      simp at q5
      refine idx_rd hp ?_ ?_ fun b6 o6 hb6 => ?_
      · omega
      · omega
      refine load_allN default (k) rfl hp ?_ ?_ hb6 rfl (mem_at 1 rfl) fun l7 hl7 => ?_
      · omega
      · omega
      obtain ⟨e7, hl7⟩ := hl7
      obtain ⟨l2x7, rfl, w0x7, w1x7, h2x7⟩ := gGot_rd.1 hl7 ; obtain ⟨b0_2x7, c0_2x7, rfl, h0_2x7⟩ := gBag_rd.1 h2x7
      refine VCnew.intro fun x8 => ?_
      refine gappend1 (g := gRG) (T := (142 : TypeId)) G_ok A [] [H] ?_ oA (raw_app ‹gGot.rd _ _ _›) (List.mem_of_getElem? (i := 0) rfl) rfl rfl rfl rfl rfl rfl rfl rfl ?_ fun b9 c9 A9 o9 => ?_
      · exact .tl
      · (have h1 := pickZ_lenk (lessG x) zs k; omega)
      apply loop_stepA (k + 1, _, _, _)
      · exact .refl _
      · repeat' (first | exact trivial | refine ⟨⟨_, rfl, by first | rfl | exact inc_eq _ (by omega) | (refine sl_eq ?_; simp; done) | (refine sl_eq ?_; rw [pickZ_len_yes (by omega) (lessG_t (by omega)), List.length_append]; rfl) | (refine sl_eq ?_; rw [pickZ_len_no (by omega) (lessG_f (by omega))]) | (refine sl_eq ?_; rw [betK_len_yes (by omega) (moreG_t (by omega)), List.length_append]; rfl) | (refine sl_eq ?_; rw [betK_no (by omega) (moreG_f (by omega))]) | (refine sl_eq ?_; rw [betK_zero]), by first | exact trivial | simp [SV.ok]⟩, ?_⟩)
      · exact ⟨rfl, trivial⟩
      · try dsimp only
        (have hrr := ‹gGot.rd H _ (zs[k]?.getD default).2›; exact ⟨by omega, by rw [pickZ_yes (hr := raw_of hrr) (by omega) (by assumption) (lessG_t (by omega))]; assumption⟩)
      · try dsimp only
        omega
    ·
      simp at q5
      refine idx_rd hp ?_ ?_ fun b10 o10 hb10 => ?_
      · omega
      · omega
      refine load_partN default (k) 0 rfl hp ?_ ?_ hb10 rfl (by decide) (mem_at 1 rfl) fun l11 hl11 => ?_
      · omega
      · omega
      obtain ⟨e11, hl11⟩ := hl11
      obtain ⟨l2x11, rfl, w0x11, w1x11, h2x11⟩ := gGot_rd.1 hl11 ; obtain ⟨b0_2x11, c0_2x11, rfl, h0_2x11⟩ := gBag_rd.1 h2x11
      refine VCsplit.intro (fun q12 => ?_) (fun q12 => ?_)
      ·
        simp at q12
        refine idx_rd hp ?_ ?_ fun b13 o13 hb13 => ?_
        · omega
        · omega
        refine load_partN default (k) 1 rfl hp ?_ ?_ hb13 rfl (by decide) (mem_at 1 rfl) fun l14 hl14 => ?_
        · omega
        · omega
        obtain ⟨e14, hl14⟩ := hl14
        obtain ⟨l2x14, rfl, w0x14, w1x14, h2x14⟩ := gGot_rd.1 hl14 ; obtain ⟨b0_2x14, c0_2x14, rfl, h0_2x14⟩ := gBag_rd.1 h2x14
        refine VCsplit.intro (fun q15 => ?_) (fun q15 => ?_)
        ·
          simp at q15
          refine idx_rd hp ?_ ?_ fun b16 o16 hb16 => ?_
          · omega
          · omega
          refine load_allN default (k) rfl hp ?_ ?_ hb16 rfl (mem_at 1 rfl) fun l17 hl17 => ?_
          · omega
          · omega
          obtain ⟨e17, hl17⟩ := hl17
          obtain ⟨l2x17, rfl, w0x17, w1x17, h2x17⟩ := gGot_rd.1 hl17 ; obtain ⟨b0_2x17, c0_2x17, rfl, h0_2x17⟩ := gBag_rd.1 h2x17
          refine VCnew.intro fun x18 => ?_
          refine gappend1 (g := gRG) (T := (142 : TypeId)) G_ok A [] [H] ?_ oA (raw_app ‹gGot.rd _ _ _›) (List.mem_of_getElem? (i := 0) rfl) rfl rfl rfl rfl rfl rfl rfl rfl ?_ fun b19 c19 A19 o19 => ?_
          · exact .tl
          · (have h1 := pickZ_lenk (lessG x) zs k; omega)
          apply loop_stepA (k + 1, _, _, _)
          · exact .refl _
          · repeat' (first | exact trivial | refine ⟨⟨_, rfl, by first | rfl | exact inc_eq _ (by omega) | (refine sl_eq ?_; simp; done) | (refine sl_eq ?_; rw [pickZ_len_yes (by omega) (lessG_t (by omega)), List.length_append]; rfl) | (refine sl_eq ?_; rw [pickZ_len_no (by omega) (lessG_f (by omega))]) | (refine sl_eq ?_; rw [betK_len_yes (by omega) (moreG_t (by omega)), List.length_append]; rfl) | (refine sl_eq ?_; rw [betK_no (by omega) (moreG_f (by omega))]) | (refine sl_eq ?_; rw [betK_zero]), by first | exact trivial | simp [SV.ok]⟩, ?_⟩)
          · exact ⟨rfl, trivial⟩
          · try dsimp only
            (have hrr := ‹gGot.rd H _ (zs[k]?.getD default).2›; exact ⟨by omega, by rw [pickZ_yes (hr := raw_of hrr) (by omega) (by assumption) (lessG_t (by omega))]; assumption⟩)
          · try dsimp only
            omega
        ·
          simp at q15
          apply loop_stepA (k + 1, _, _, _)
          · exact .refl _
          · repeat' (first | exact trivial | refine ⟨⟨_, rfl, by first | rfl | exact inc_eq _ (by omega) | (refine sl_eq ?_; simp; done) | (refine sl_eq ?_; rw [pickZ_len_yes (by omega) (lessG_t (by omega)), List.length_append]; rfl) | (refine sl_eq ?_; rw [pickZ_len_no (by omega) (lessG_f (by omega))]) | (refine sl_eq ?_; rw [betK_len_yes (by omega) (moreG_t (by omega)), List.length_append]; rfl) | (refine sl_eq ?_; rw [betK_no (by omega) (moreG_f (by omega))]) | (refine sl_eq ?_; rw [betK_zero]), by first | exact trivial | simp [SV.ok]⟩, ?_⟩)
          · exact ⟨rfl, trivial⟩
          · try dsimp only
            exact ⟨by omega, by rw [pickZ_no (by omega) (lessG_f (by omega))]; assumption⟩
          · try dsimp only
            omega
      ·
        simp at q12
        apply loop_stepA (k + 1, _, _, _)
        · exact .refl _
        · repeat' (first | exact trivial | refine ⟨⟨_, rfl, by first | rfl | exact inc_eq _ (by omega) | (refine sl_eq ?_; simp; done) | (refine sl_eq ?_; rw [pickZ_len_yes (by omega) (lessG_t (by omega)), List.length_append]; rfl) | (refine sl_eq ?_; rw [pickZ_len_no (by omega) (lessG_f (by omega))]) | (refine sl_eq ?_; rw [betK_len_yes (by omega) (moreG_t (by omega)), List.length_append]; rfl) | (refine sl_eq ?_; rw [betK_no (by omega) (moreG_f (by omega))]) | (refine sl_eq ?_; rw [betK_zero]), by first | exact trivial | simp [SV.ok]⟩, ?_⟩)
        · exact ⟨rfl, trivial⟩
        · try dsimp only
          exact ⟨by omega, by rw [pickZ_no (by omega) (lessG_f (by omega))]; assumption⟩
        · try dsimp only
          omega
  ·
    simp at q2
    obtain rfl : k = zs.length := by omega
    simp only [List.take_length] at oA ⊢
    have hple := pickZ_len (lessG x) zs
    refine VCnew.intro fun x20 => ?_
    refine gappend1 (g := gRG) (T := (142 : TypeId)) G_ok A [] [H] ?_ oA (raw_app ‹gGot.rd _ _ _›) (List.mem_of_getElem? (i := 0) rfl) rfl rfl rfl rfl rfl rfl rfl rfl ?_ fun b21 c21 A21 o21 => ?_
    · exact .tl
    · omega
    apply loop_mod (α := (Nat) × (Hp) × (Option Addr) × (Nat)) G_ok [54, 55, 56, 57, 60, 61, 62, 63, 64, 65, 66, 67, 68, 69, 70, 71, 72, 73, 74, 75, 76, 77, 78, 79, 80, 81, 82, 83, 84, 85, 86, 87, 88, 89, 90, 91, 92, 93, 94, 5, 58, 59, 7] (fun z => [(7, .v (.int .i64 z.1)), (5, .v (.slice z.2.2.1 (betK zs x ⟨_, hr⟩ z.1).length z.2.2.2))]) (fun z => [{ id := x0, cs := [Value.int IntKind.i64 x.from', Value.int IntKind.i64 x.atom, Value.slice b0_2q x.bag.items.length c0_2q] ++ [], ty := (142 : Nat) }]) (fun z => [z.2.1, H]) (fun z => zs.length - z.1) (fun z => z.1 ≤ zs.length ∧ (gSl 142 gRG).ow [.slice z.2.2.1 (betK zs x ⟨_, hr⟩ z.1).length z.2.2.2] (betK zs x ⟨_, hr⟩ z.1) z.2.1) ((0, _, _, _))
    · repeat' (first | exact trivial | refine ⟨⟨_, rfl, by first | rfl | exact inc_eq _ (by omega) | (refine sl_eq ?_; simp; done) | (refine sl_eq ?_; rw [pickZ_len_yes (by omega) (lessG_t (by omega)), List.length_append]; rfl) | (refine sl_eq ?_; rw [pickZ_len_no (by omega) (lessG_f (by omega))]) | (refine sl_eq ?_; rw [betK_len_yes (by omega) (moreG_t (by omega)), List.length_append]; rfl) | (refine sl_eq ?_; rw [betK_no (by omega) (moreG_f (by omega))]) | (refine sl_eq ?_; rw [betK_zero]), by first | exact trivial | simp [SV.ok]⟩, ?_⟩)
    · exact ⟨rfl, trivial⟩
    · try dsimp only
      (rw [betK_zero]; exact ⟨Nat.zero_le _, by assumption⟩)
    · exact .refl _
    rintro ⟨k, A, lb, lc⟩ hI
    obtain ⟨hk, oA⟩ : k ≤ zs.length ∧ (gSl 142 gRG).ow [.slice lb (betK zs x ⟨_, hr⟩ k).length lc] (betK zs x ⟨_, hr⟩ k) A := hI
    try dsimp only
    refine VCsplit.intro (fun q22 => ?_) (fun q22 => ?_)
    ·
      simp at q22
      refine draw G_ok mixed none (.q 0 (.q 1 (.q 2 (.q 3 (.q 4 (.q 5 (.q 6 (.q 7 (.q 8 (.q 9 (.q 10 (.q 11 (.q 12 (.q 13 (.q 14 (.q 15 (.q 16 (.q 17 (.q 18 (.q 19 (.q 20 (.q 21 (.q 22 (.q 23 (.q 24 (.q 25 (.q 26 (.q 27 (.nil))))))))))))))))))))))))))))) (by decide +kernel) ?_
      refine idx_rd hp ?_ ?_ fun b23 o23 hb23 => ?_
      · omega
      · omega
      refine load_partN default (k) 0 rfl hp ?_ ?_ hb23 rfl (by decide) (mem_at 1 rfl) fun l24 hl24 => ?_
      · omega
      · omega
      obtain ⟨e24, hl24⟩ := hl24
      obtain ⟨l2x24, rfl, w0x24, w1x24, h2x24⟩ := gGot_rd.1 hl24 ; obtain ⟨b0_2x24, c0_2x24, rfl, h0_2x24⟩ := gBag_rd.1 h2x24
      refine VCsplit.intro (fun q25 => ?_) (fun q25 => ?_)
      ·
        simp at q25
        refine idx_rd hp ?_ ?_ fun b26 o26 hb26 => ?_
        · omega
        · omega
        refine load_allN default (k) rfl hp ?_ ?_ hb26 rfl (mem_at 1 rfl) fun l27 hl27 => ?_
        · omega
        · omega
        obtain ⟨e27, hl27⟩ := hl27
        obtain ⟨l2x27, rfl, w0x27, w1x27, h2x27⟩ := gGot_rd.1 hl27 ; obtain ⟨b0_2x27, c0_2x27, rfl, h0_2x27⟩ := gBag_rd.1 h2x27
        refine VCnew.intro fun x28 => ?_
        refine gappend1 (g := gRG) (T := (142 : TypeId)) G_ok A [] [H] ?_ oA (raw_app ‹gGot.rd _ _ _›) (List.mem_of_getElem? (i := 0) rfl) rfl rfl rfl rfl rfl rfl rfl rfl ?_ fun b29 c29 A29 o29 => ?_
        · exact .tl
        · (have h1 := betK_len zs x ⟨_, hr⟩ k; omega)
        apply loop_stepA (k + 1, _, _, _)
        · exact .refl _
        · repeat' (first | exact trivial | refine ⟨⟨_, rfl, by first | rfl | exact inc_eq _ (by omega) | (refine sl_eq ?_; simp; done) | (refine sl_eq ?_; rw [pickZ_len_yes (by omega) (lessG_t (by omega)), List.length_append]; rfl) | (refine sl_eq ?_; rw [pickZ_len_no (by omega) (lessG_f (by omega))]) | (refine sl_eq ?_; rw [betK_len_yes (by omega) (moreG_t (by omega)), List.length_append]; rfl) | (refine sl_eq ?_; rw [betK_no (by omega) (moreG_f (by omega))]) | (refine sl_eq ?_; rw [betK_zero]), by first | exact trivial | simp [SV.ok]⟩, ?_⟩)
        · exact ⟨rfl, trivial⟩
        · try dsimp only
          (have hrr := ‹gGot.rd H _ (zs[k]?.getD default).2›; exact ⟨by omega, by rw [betK_yes (hr := raw_of hrr) (by omega) (by assumption) (moreG_t (by omega))]; assumption⟩)
        · try dsimp only
          omega
      ·
        simp at q25
        refine idx_rd hp ?_ ?_ fun b30 o30 hb30 => ?_
        · omega
        · omega
        refine load_partN default (k) 0 rfl hp ?_ ?_ hb30 rfl (by decide) (mem_at 1 rfl) fun l31 hl31 => ?_
        · omega
        · omega
        obtain ⟨e31, hl31⟩ := hl31
        obtain ⟨l2x31, rfl, w0x31, w1x31, h2x31⟩ := gGot_rd.1 hl31 ; obtain ⟨b0_2x31, c0_2x31, rfl, h0_2x31⟩ := gBag_rd.1 h2x31
        refine VCsplit.intro (fun q32 => ?_) (fun q32 => ?_)
        ·
          simp at q32
          refine idx_rd hp ?_ ?_ fun b33 o33 hb33 => ?_
          · omega
          · omega
          refine load_partN default (k) 1 rfl hp ?_ ?_ hb33 rfl (by decide) (mem_at 1 rfl) fun l34 hl34 => ?_
          · omega
          · omega
          obtain ⟨e34, hl34⟩ := hl34
          obtain ⟨l2x34, rfl, w0x34, w1x34, h2x34⟩ := gGot_rd.1 hl34 ; obtain ⟨b0_2x34, c0_2x34, rfl, h0_2x34⟩ := gBag_rd.1 h2x34
          refine VCsplit.intro (fun q35 => ?_) (fun q35 => ?_)
          ·
            simp at q35
            refine idx_rd hp ?_ ?_ fun b36 o36 hb36 => ?_
            · omega
            · omega
            refine load_allN default (k) rfl hp ?_ ?_ hb36 rfl (mem_at 1 rfl) fun l37 hl37 => ?_
            · omega
            · omega
            obtain ⟨e37, hl37⟩ := hl37
            obtain ⟨l2x37, rfl, w0x37, w1x37, h2x37⟩ := gGot_rd.1 hl37 ; obtain ⟨b0_2x37, c0_2x37, rfl, h0_2x37⟩ := gBag_rd.1 h2x37
            refine VCnew.intro fun x38 => ?_
            refine gappend1 (g := gRG) (T := (142 : TypeId)) G_ok A [] [H] ?_ oA (raw_app ‹gGot.rd _ _ _›) (List.mem_of_getElem? (i := 0) rfl) rfl rfl rfl rfl rfl rfl rfl rfl ?_ fun b39 c39 A39 o39 => ?_
            · exact .tl
            · (have h1 := betK_len zs x ⟨_, hr⟩ k; omega)
            apply loop_stepA (k + 1, _, _, _)
            · exact .refl _
            · repeat' (first | exact trivial | refine ⟨⟨_, rfl, by first | rfl | exact inc_eq _ (by omega) | (refine sl_eq ?_; simp; done) | (refine sl_eq ?_; rw [pickZ_len_yes (by omega) (lessG_t (by omega)), List.length_append]; rfl) | (refine sl_eq ?_; rw [pickZ_len_no (by omega) (lessG_f (by omega))]) | (refine sl_eq ?_; rw [betK_len_yes (by omega) (moreG_t (by omega)), List.length_append]; rfl) | (refine sl_eq ?_; rw [betK_no (by omega) (moreG_f (by omega))]) | (refine sl_eq ?_; rw [betK_zero]), by first | exact trivial | simp [SV.ok]⟩, ?_⟩)
            · exact ⟨rfl, trivial⟩
            · try dsimp only
              (have hrr := ‹gGot.rd H _ (zs[k]?.getD default).2›; exact ⟨by omega, by rw [betK_yes (hr := raw_of hrr) (by omega) (by assumption) (moreG_t (by omega))]; assumption⟩)
            · try dsimp only
              omega
          ·
            simp at q35
            apply loop_stepA (k + 1, _, _, _)
            · exact .refl _
            · repeat' (first | exact trivial | refine ⟨⟨_, rfl, by first | rfl | exact inc_eq _ (by omega) | (refine sl_eq ?_; simp; done) | (refine sl_eq ?_; rw [pickZ_len_yes (by omega) (lessG_t (by omega)), List.length_append]; rfl) | (refine sl_eq ?_; rw [pickZ_len_no (by omega) (lessG_f (by omega))]) | (refine sl_eq ?_; rw [betK_len_yes (by omega) (moreG_t (by omega)), List.length_append]; rfl) | (refine sl_eq ?_; rw [betK_no (by omega) (moreG_f (by omega))]) | (refine sl_eq ?_; rw [betK_zero]), by first | exact trivial | simp [SV.ok]⟩, ?_⟩)
            · exact ⟨rfl, trivial⟩
            · try dsimp only
              exact ⟨by omega, by rw [betK_no (by omega) (moreG_f (by omega))]; assumption⟩
            · try dsimp only
              omega
        ·
          simp at q32
          apply loop_stepA (k + 1, _, _, _)
          · exact .refl _
          · repeat' (first | exact trivial | refine ⟨⟨_, rfl, by first | rfl | exact inc_eq _ (by omega) | (refine sl_eq ?_; simp; done) | (refine sl_eq ?_; rw [pickZ_len_yes (by omega) (lessG_t (by omega)), List.length_append]; rfl) | (refine sl_eq ?_; rw [pickZ_len_no (by omega) (lessG_f (by omega))]) | (refine sl_eq ?_; rw [betK_len_yes (by omega) (moreG_t (by omega)), List.length_append]; rfl) | (refine sl_eq ?_; rw [betK_no (by omega) (moreG_f (by omega))]) | (refine sl_eq ?_; rw [betK_zero]), by first | exact trivial | simp [SV.ok]⟩, ?_⟩)
          · exact ⟨rfl, trivial⟩
          · try dsimp only
            exact ⟨by omega, by rw [betK_no (by omega) (moreG_f (by omega))]; assumption⟩
          · try dsimp only
            omega
    ·
      simp at q22
      (have hke : k = zs.length := (by omega); subst hke; rw [betK_end] at oA ⊢; exact ⟨_, ⟨_, _, rfl, oA⟩, (.le fun a => by (try simp only [setR, List.cons_append, List.nil_append]); simp [List.count_cons, Blk.ent, idOf]; try omega)⟩)

theorem zip_any {x : Got} : ∀ {ls : List (RawC gGot.size)} {xs : List Got}, ls.length = xs.length → hasG (ls.zip xs) x = xs.any fun y => decide (cmpG y x = 0)
  | [], [], _ => rfl
  | [], _ :: _, h => by simp at h
  | _ :: _, [], h => by simp at h
  | l :: ls, y :: xs, h => by
    have ih := zip_any (x := x) (ls := ls) (xs := xs) (by simpa using h)
    unfold hasG at *
    rw [List.zip_cons_cons, List.any_cons, List.any_cons, ih]
def betw (xs : List Got) (x : Got) : List Got := if (xs.any fun y => decide (cmpG y x = 0)) = true then xs else xs.filter (lessG x) ++ ([x] ++ xs.filter (moreG x))
theorem less_more {x y : Got} (h : lessG x y = true) : moreG x y = false := by
  unfold lessG at h; unfold moreG
  rw [decide_eq_true_iff] at h
  rw [decide_eq_false_iff_not]; omega
/-- the new row owns what its elements own -/
theorem betR_ow {b : Option Addr} {c : Nat} {ls : List (RawC gGot.size)} {xs : List Got} {As : List Hp} {l : List Value} {x : Got} {A1 B : Hp} (hL : OwL gGot ls xs As) (hB : gGot.ow l x B) (hr : l.length = gGot.size ∧ allOne l = true)
    (ho : (gSl 142 gRG).ow [.slice b (betR (ls.zip xs) x ⟨l, hr⟩).length c] (betR (ls.zip xs) x ⟨l, hr⟩) A1) :
    (betR (ls.zip xs) x ⟨l, hr⟩).length = (xs.filter (lessG x) ++ ([x] ++ xs.filter (moreG x))).length ∧ (gSl 142 gGot).ow [.slice b (betR (ls.zip xs) x ⟨l, hr⟩).length c] (xs.filter (lessG x) ++ ([x] ++ xs.filter (moreG x))) (A1 ++ ((pickL (lessG x) As xs).flatten ++ (B ++ (pickL (moreG x) As xs).flatten))) := by
  have h1 : OwL gGot (betR (ls.zip xs) x ⟨l, hr⟩) (xs.filter (lessG x) ++ ([x] ++ xs.filter (moreG x))) (pickL (lessG x) As xs ++ ([B] ++ pickL (moreG x) As xs)) := by
    unfold betR pickZ
    rw [zip_pick, zip_pick]
    exact (hL.pick _).append (OwL.append (.cons hB .nil) (hL.pick _))
  refine ⟨h1.len.1, _, _, A1, _, rfl, fl_ow ho, ?_, h1⟩
  simp

--@ct impl.between own+1+2 between_ct _ _ _ _ _ _ _ _ !1o !2o ?_ | | rintro _ A# ⟨b#, c#, rfl, o#⟩ ;; refine ⟨[A#], by simp, ?_⟩
theorem between_ct (b : Option Addr) (m c : Nat) (xs : List Got) (A : Hp) (l : List Value) (x : Got) (B : Hp) (hA : (gSl 142 gGot).ow [.slice b m c] xs A) (hB : gGot.ow l x B) (hx : xs.length ≤ 1100000) :
    CtR Try.prog 111 [.slice b m c, .agg ⟨l⟩] (A ++ B) (fun _ => True) (fun v D => ∃ b' c', v = .slice b' (betw xs x).length c' ∧ (gSl 142 gGot).ow [.slice b' (betw xs x).length c'] (betw xs x) D) := by
  have hA' := hA
  obtain ⟨v, ls, A0, As, ev, ho, hp, hL⟩ := hA
  cases ev
  obtain ⟨e1, e2⟩ := hL.len
  have hm : m = ls.length := by obtain ⟨_, _, _, _, e0, _⟩ := ho; cases e0; rfl
  have hz : (ls.zip xs).length = xs.length := by rw [List.length_zip]; omega
  have hr := raw_of (gGot.owrd hB)
  have hc := betweenRaw_ct b m c (ls.zip xs) l x (by omega) hr
  refine ⟨hc.1, fun E H w hs _ => ?_⟩
  have hsub1 : ∀ p ∈ A, p ∈ [] ++ (A ++ B ++ H) := fun p h => List.mem_append_right [] (List.mem_append_left _ (List.mem_append_left _ h))
  have hsub2 : ∀ p ∈ B, p ∈ [] ++ (A ++ B ++ H) := fun p h => List.mem_append_right [] (List.mem_append_left _ (List.mem_append_right _ h))
  refine (hc.2 E (A ++ B ++ H) w hs ⟨Rp.mono _ hsub1 (zip_rd ho hp hL), gGot.mono hsub2 (gGot.owrd hB)⟩).mono ?_
  rintro e' w' ⟨v, A1, h1, h2, h3⟩
  rw [zip_any e1] at h2
  rcases h2 with ⟨h2, rfl, rfl⟩ | ⟨h2, b', c', rfl, h4⟩
  · refine ⟨_, A, h1, ⟨b, c, ?_, ?_⟩, ?_⟩
    · unfold betw; rw [if_pos h2, hm, e1]
    · unfold betw; rw [if_pos h2, ← e1, ← hm]; exact hA'
    · refine Sat.drop (B := B) (h3.perm ?_)
      rw [List.nil_append, List.append_assoc, List.append_assoc]
      exact List.Perm.append_left A List.perm_append_comm
  · obtain ⟨h5, h6⟩ := betR_ow hL hB hr h4
    obtain ⟨L, hL2⟩ := pick_two (fun x h => less_more h) As xs (p := lessG x) (q := moreG x)
    have hb : betw xs x = xs.filter (lessG x) ++ ([x] ++ xs.filter (moreG x)) := by unfold betw; rw [h2]; rfl
    refine ⟨_, A1 ++ ((pickL (lessG x) As xs).flatten ++ (B ++ (pickL (moreG x) As xs).flatten)), h1, ⟨b', c', ?_, ?_⟩, ?_⟩
    · rw [hb, h5]
    · rw [hb, ← h5]; exact h6
    · refine Sat.drop (B := A0 ++ L) (h3.perm ?_)
      refine .trans (.append_left A1 (((hp.trans (.append_left A0 hL2)).append_right B).append_right H)) ?_
      classical
      rw [List.perm_iff_count]
      intro a
      simp only [List.count_append]; omega

def put2 (xs : List Got) (x : Got) : List Got := xs.filter (lessG x) ++ ([x] ++ xs.filter (moreG x))
theorem betw_new {xs : List Got} {x : Got} (h : (xs.any fun y => decide (cmpG y x = 0)) = false) : betw xs x = put2 xs x := by unfold betw put2; rw [h]; rfl
theorem betw_old {xs : List Got} {x : Got} (h : (xs.any fun y => decide (cmpG y x = 0)) = true) : betw xs x = xs := by unfold betw; rw [if_pos h]
--@ct spec.l23Put own+1+2 l23Put_ct _ _ _ _ _ _ _ _ !1o !2o ?_ | | rintro _ A# ⟨b#, c#, rfl, o#⟩ ;; refine ⟨[A#], by simp, ?_⟩
theorem l23Put_ct (b : Option Addr) (m c : Nat) (xs : List Got) (A : Hp) (l : List Value) (x : Got) (B : Hp) (hA : (gSl 142 gGot).ow [.slice b m c] xs A) (hB : gGot.ow l x B) (hx : xs.length ≤ 1100000) :
    CtR Try.prog 101 [.slice b m c, .agg ⟨l⟩] (A ++ B) (fun _ => True) (fun v D => ∃ b' c', v = .slice b' (put2 xs x).length c' ∧ (gSl 142 gGot).ow [.slice b' (put2 xs x).length c'] (put2 xs x) D) := by
  obtain ⟨v, ls, A0, As, ev, ho, hp, hL⟩ := hA
  cases ev
  obtain ⟨e1, e2⟩ := hL.len
  have hm : m = ls.length := by obtain ⟨_, _, _, _, e0, _⟩ := ho; cases e0; rfl
  have hz : (ls.zip xs).length = xs.length := by rw [List.length_zip]; omega
  have hr := raw_of (gGot.owrd hB)
  have hc := l23PutRaw_ct b m c (ls.zip xs) l x (by omega) hr
  refine ⟨hc.1, fun E H w hs _ => ?_⟩
  have hsub1 : ∀ p ∈ A, p ∈ [] ++ (A ++ B ++ H) := fun p h => List.mem_append_right [] (List.mem_append_left _ (List.mem_append_left _ h))
  have hsub2 : ∀ p ∈ B, p ∈ [] ++ (A ++ B ++ H) := fun p h => List.mem_append_right [] (List.mem_append_left _ (List.mem_append_right _ h))
  refine (hc.2 E (A ++ B ++ H) w hs ⟨Rp.mono _ hsub1 (zip_rd ho hp hL), gGot.mono hsub2 (gGot.owrd hB)⟩).mono ?_
  rintro e' w' ⟨v, A1, h1, ⟨b', c', rfl, h4⟩, h3⟩
  obtain ⟨h5, h6⟩ := betR_ow hL hB hr h4
  obtain ⟨L, hL2⟩ := pick_two (fun x h => less_more h) As xs (p := lessG x) (q := moreG x)
  refine ⟨_, A1 ++ ((pickL (lessG x) As xs).flatten ++ (B ++ (pickL (moreG x) As xs).flatten)), h1, ⟨b', c', ?_, ?_⟩, ?_⟩
  · unfold put2; rw [h5]
  · unfold put2; rw [← h5]; exact h6
  · refine Sat.drop (B := A0 ++ L) (h3.perm ?_)
    refine .trans (.append_left A1 (((hp.trans (.append_left A0 hL2)).append_right B).append_right H)) ?_
    classical
    rw [List.perm_iff_count]
    intro a
    simp only [List.count_append]; omega

end Go.Proofs.Ytcikookachejfaa
