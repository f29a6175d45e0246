/-
  Drawn turns and rings. Conditions: none.
-/
import Derived.Test.YthihffgmmkhlhaaEk
namespace Go.Proofs.Ythihffgmmkhlhaa
open Go.SX Go.Proofs
set_option linter.unusedSimpArgs false
set_option linter.unusedVariables false
set_option maxHeartbeats 4000000

def gTurn : Gt Turn := flTurn.gt fun k => ⟨k, k + 1, k + 2⟩
theorem gTurn_ow {a b c : Int} (ha : okI a) (hb : okI b) (hc : okI c) : gTurn.ow [.int .i64 a, .int .i64 b, .int .i64 c] ⟨a, b, c⟩ [] := ⟨rfl, ⟨ha, hb, hc⟩, rfl⟩

theorem pick_ok {x : Int} {ls : List Int} (h : x ∈ ls) (hl : ls.all (fun y => decide (-9223372036854775808 ≤ y ∧ y ≤ 9223372036854775807)) = true) : okI x := by
  have := List.all_eq_true.1 hl x h
  unfold okI; simpa using this

theorem ringNew_ok (n : Nat) (h1 : 1 ≤ n) (h2 : n ≤ 8) : ringOk (ringNew n) = true := by
  have : n = 1 ∨ n = 2 ∨ n = 3 ∨ n = 4 ∨ n = 5 ∨ n = 6 ∨ n = 7 ∨ n = 8 := by omega
  rcases this with rfl | rfl | rfl | rfl | rfl | rfl | rfl | rfl <;> decide
theorem runN_ok (r : Ring) (h : ringOk r = true) (ts : List Turn) : ringOk (runN r ts).1 = true := by
  have : ∀ (ts : List Turn) (p : Ring × List Int), ringOk p.1 = true → ringOk (ts.foldl runF p).1 = true := by
    intro ts
    induction ts with
    | nil => intro p h; exact h
    | cons t r ih => intro p h; rw [List.foldl_cons]; exact ih _ (step_ok _ _ h)
  exact this ts _ h
theorem runRing_ok (n : Int) (ts : List Turn) (h1 : 1 ≤ n) (h2 : n ≤ 8) (h3 : ts.length ≤ 120) : ringOk (runRing n ts).1 = true := by
  have : runOk n ts = true := by simp [runOk, inR, h1, h2, h3]
  rw [runRing, this, if_pos rfl]
  exact runN_ok _ (ringNew_ok _ (by omega) (by omega)) _

--@ct spec.l22Turns part1 l22Turns_ct _ _ _ _ _ _ _ _ (by omega) (by omega) (by omega) ?_ ?_ | %byte | rintro _ A# ⟨ts#, tb#, tc#, ci#, ch#, T#, rfl, htl#, hi#, hj#, hP#, ot#⟩ ;; refine ⟨[curHp _ _ _ _ ci# ch#, T#], by simpa using hP#, ?_⟩
theorem l22Turns_ct (bb : Nat) (b : Option Addr) (m c : Nat) (xs : List UInt8) (i h : Int) (n : Int) (h0 : 0 ≤ i) (h1 : i ≤ m) (h2 : m ≤ 9223372036854775807) (hn0 : 0 ≤ n) (hn : n ≤ 1000) :
    CtR Try.prog 59 [.pointer (some ⟨bb, 0, none⟩), .int .i64 n] (curHp bb b m c i h) (fun H => (rpSl flByte.rp).rd H [.slice b m c] xs)
      (fun v A => ∃ (ts : List Turn) (tb : Option Addr) (tc : Nat) (i' h' : Int) (T : Hp), v = .slice tb ts.length tc ∧ ts.length ≤ 77 ∧ 0 ≤ i' ∧ i' ≤ m ∧ A.Perm (curHp bb b m c i' h' ++ T) ∧ (gSl 43 gTurn).ow [.slice tb ts.length tc] ts T) := by
  refine CtR.intro G_ok [curHp bb b m c i h] Try.func59 rfl rfl rfl (by simp) fun E H hp => ?_
  refine VCnew.intro fun x0 => ?_
  apply loop_mod (α := (Nat) × (List Turn) × (Option Addr) × (Nat) × (Hp) × (Int) × (Int)) G_ok [8, 9, 10, 11, 12, 15, 16, 17, 18, 19, 20, 21, 22, 23, 24, 25, 26, 27, 28, 5, 13, 14, 6] (fun z => [(6, .v (.int .i64 z.1)), (5, .v (.slice z.2.2.1 z.2.1.length z.2.2.2.1))]) (fun z => []) (fun z => [z.2.2.2.2.1, curHp bb b m c z.2.2.2.2.2.1 z.2.2.2.2.2.2, H]) (fun z => 77 - z.1) (fun z => (z.1 ≤ 77 ∧ 0 ≤ z.2.2.2.2.2.1 ∧ z.2.2.2.2.2.1 ≤ m) ∧ z.2.1.length = z.1 ∧ (gSl 43 gTurn).ow [.slice z.2.2.1 z.2.1.length z.2.2.2.1] z.2.1 z.2.2.2.2.1) ((0, [], some ⟨x0, 0, none⟩, 0, [], i, h))
  · repeat' (first | exact trivial | refine ⟨⟨_, rfl, by first | rfl | exact inc_eq _ (by omega) | (refine sl_eq ?_; simp; done), by first | exact trivial | simp [SV.ok]⟩, ?_⟩)
  · exact trivial
  · try dsimp only
    exact ⟨by omega, rfl, sl_nil _ _ _⟩
  · exact .tl
  rintro ⟨k, ts, tb, tc, T, ci, ch⟩ hI
  obtain ⟨⟨hk, hc0, hc1⟩, hlen, oT⟩ : (k ≤ 77 ∧ 0 ≤ ci ∧ ci ≤ m) ∧ ts.length = k ∧ (gSl 43 gTurn).ow [.slice tb ts.length tc] ts T := hI
  try dsimp only
  refine callR_at 1 rfl (l01Below_ct _ _ _ _ _ _ _ _ (by omega) (by omega) (by omega)) (Rp.mono _ (mem_at 2 rfl) hp) ?_
  rintro _ A1 ⟨dx1, ci1, ch1, rfl, hd1, he1, hi1, hj1, rfl⟩
  refine VCsplit.intro (fun q2 => ?_) (fun q2 => ?_)
  ·
    simp at q2
    simp (disch := omega) only [wrap_of] at q2
    refine VCnew.intro fun x3 => ?_
    have ol3 : Ow flInt (3 : TypeId) (.slice (some ⟨x3, 0, none⟩) 9 9) [(1 : Int), (1 : Int), (2 : Int), (2 : Int), (3 : Int), (3 : Int), (4 : Int), (4 : Int), (4 : Int)] [(x3, Obj.cells
  {
    toList :=
      Value.int IntKind.i64 (1 : Int) ::
        Value.int IntKind.i64 (1 : Int) ::
          Value.int IntKind.i64 (2 : Int) ::
            Value.int IntKind.i64 (2 : Int) ::
              Value.int IntKind.i64 (3 : Int) ::
                Value.int IntKind.i64 (3 : Int) ::
                  Value.int IntKind.i64 (4 : Int) ::
                    Value.int IntKind.i64 (4 : Int) ::
                      Value.int IntKind.i64 (4 : Int) ::
                        [].append (zeros (nat_lit 0) [Value.int IntKind.i64 (0 : Int)]) }
  (3 : TypeId))] := Ow.lit (f := flInt) (T := (3 : TypeId)) (b := x3) (xs := [(1 : Int), (1 : Int), (2 : Int), (2 : Int), (3 : Int), (3 : Int), (4 : Int), (4 : Int), (4 : Int)]) (by simp [flInt, okI]) (by simp)
    refine callR_at 2 rfl (l01PickInt_ct _ _ _ _ _ _ _ _ _ _ ([(1 : Int), (1 : Int), (2 : Int), (2 : Int), (3 : Int), (3 : Int), (4 : Int), (4 : Int), (4 : Int)]) (by omega) (by omega) (by omega) (by simp)) ⟨(Rp.mono _ (mem_at 3 rfl) hp), (Rp.mono _ (mem_at 0 rfl) (Ow.rd ol3))⟩ ?_
    rintro _ A4 ⟨dx4, ci4, ch4, rfl, hd4, hi4, hj4, rfl⟩
    refine callR_at 2 rfl (l01Below_ct _ _ _ _ _ _ _ _ (by omega) (by omega) (by omega)) (Rp.mono _ (mem_at 3 rfl) hp) ?_
    rintro _ A5 ⟨dx5, ci5, ch5, rfl, hd5, he5, hi5, hj5, rfl⟩
    refine callR_at 2 rfl (l01Below_ct _ _ _ _ _ _ _ _ (by omega) (by omega) (by omega)) (Rp.mono _ (mem_at 3 rfl) hp) ?_
    rintro _ A6 ⟨dx6, ci6, ch6, rfl, hd6, he6, hi6, hj6, rfl⟩
    refine VCnew.intro fun x7 => ?_
    refine gappend1 (g := gTurn) (T := (43 : TypeId)) G_ok T [] [[(x3,
    Obj.cells
      {
        toList :=
          Value.int IntKind.i64 (1 : Int) ::
            Value.int IntKind.i64 (1 : Int) ::
              Value.int IntKind.i64 (2 : Int) ::
                Value.int IntKind.i64 (2 : Int) ::
                  Value.int IntKind.i64 (3 : Int) ::
                    Value.int IntKind.i64 (3 : Int) ::
                      Value.int IntKind.i64 (4 : Int) ::
                        Value.int IntKind.i64 (4 : Int) ::
                          Value.int IntKind.i64 (4 : Int) ::
                            [].append (zeros (nat_lit 0) [Value.int IntKind.i64 (0 : Int)]) }
      (3 : TypeId))], curHp bb b m c ci6 ch6, H] ?_ oT (gTurn_ow ?_ ?_ ?_) (List.mem_of_getElem? (i := 0) rfl) rfl rfl rfl rfl rfl rfl rfl rfl ?_ fun b8 c8 A8 o8 => ?_
    · exact .le fun a => by (try simp only [setR, List.cons_append, List.nil_append]); simp only [List.flatten_append, List.flatten_cons, List.flatten_nil, List.count_append, List.count_nil, List.append_nil, List.nil_append]; omega
    · exact pick_ok (by assumption) (by decide)
    · simp (disch := omega) only [wrap_of] at *; unfold okI; omega
    · unfold okI; omega
    · omega
    apply loop_step (k + 1, ts ++ [_], _, _, _, _, _)
    · repeat' (first | exact trivial | refine ⟨⟨_, rfl, by first | rfl | exact inc_eq _ (by omega) | (refine sl_eq ?_; simp; done), by first | exact trivial | simp [SV.ok]⟩, ?_⟩)
    · exact trivial
    · exact .sub (by repeat (first | exact .slnil | apply List.Sublist.cons_cons | apply List.Sublist.cons))
    · try dsimp only
      exact ⟨⟨by omega, by assumption, by assumption⟩, by simp; omega, by assumption⟩
    · try dsimp only
      omega
  ·
    simp at q2
    simp (disch := omega) only [wrap_of] at q2
    exact ⟨_, ⟨ts, tb, tc, _, _, T, rfl, by omega, by assumption, by assumption, List.perm_append_comm, oT⟩, rle_j2⟩

--@ct spec.DrawTurns newp DrawTurns_ct _ _ _ _ | %1 | obtain ⟨n#, ts#, tb#, tc#, rfl, ⟨hn#, hm#, htl#⟩, ot#⟩ := o# ;; refine ⟨[A#], by simp, ?_⟩
theorem DrawTurns_ct (b : Option Addr) (m c : Nat) (xs : List UInt8) :
    Ct Try.prog 24 [.slice b m c] [] (fun H => (rpSl flByte.rp).rd H [.slice b m c] xs)
      (fun v A => ∃ (n : Int) (ts : List Turn) (tb : Option Addr) (tc : Nat), v = .tuple #[.int .i64 n, .slice tb ts.length tc] ∧ (1 ≤ n ∧ n ≤ 4 ∧ ts.length ≤ 77) ∧ (gSl 43 gTurn).ow [.slice tb ts.length tc] ts A) := by
  refine Ct.intro0 G_ok Try.func24 rfl rfl rfl fun E H hp => ?_
  obtain ⟨rfl, hl⟩ := rd_len hp
  refine call_new (l01New_ct _ _ _ _) (Rp.mono _ (mem_at 0 rfl) hp) ?_
  rintro _ A0 ⟨bb0, h0, rfl, rfl⟩
  refine callR_at 0 rfl (l01Below_ct _ _ _ _ _ _ _ _ (by omega) (by omega) (by omega)) (Rp.mono _ (mem_at 1 rfl) hp) ?_
  rintro _ A1 ⟨dx1, ci1, ch1, rfl, hd1, he1, hi1, hj1, rfl⟩
  refine callR_part (curHp bb0 b xs.length c ci1 ch1) [H] (l22Turns_ct _ _ _ _ _ _ _ _ (by omega) (by omega) (by omega) ?_ ?_) ?_ (Rp.mono _ (mem_at 0 rfl) hp) ?_
  · (simp (disch := omega) only [wrap_of]; omega)
  · (simp (disch := omega) only [wrap_of]; omega)
  · exact .le fun a => by (try simp only [setR, List.cons_append, List.nil_append]); simp only [List.flatten_append, List.flatten_cons, List.flatten_nil, List.count_append, List.count_nil, List.append_nil, List.nil_append]; omega
  rintro _ A2 ⟨ts2, tb2, tc2, ci2, ch2, T2, rfl, htl2, hi2, hj2, hP2, ot2⟩
  refine ⟨[curHp _ _ _ _ ci2 ch2, T2], by simpa using hP2, ?_⟩
  exact ⟨_, ⟨_, _, _, _, rfl, by simp (disch := omega) only [wrap_of]; omega, by assumption⟩, (.le fun a => by (try simp only [setR, List.cons_append, List.nil_append]); simp only [List.flatten_append, List.flatten_cons, List.flatten_nil, List.count_append, List.count_nil, List.append_nil, List.nil_append]; omega)⟩

--@ct spec.l22Ring part1 l22Ring_ct _ _ _ _ _ _ _ (by omega) (by omega) (by omega) | %byte | rintro _ A# ⟨r#, ci#, ch#, rv#, T#, rfl, ⟨hrc#, hrn#, hi#, hj#⟩, hP#, or#⟩ ;; refine ⟨[curHp _ _ _ _ ci# ch#, T#], by simpa using hP#, ?_⟩ ;; obtain ⟨d1#, d2#, d3#, d4#, g1#, g2#, g3#, g4#, B1#, B2#, B3#, B4#, rfl, -⟩ := id or# ;; have hrl# := ringOk_len hrn#
theorem l22Ring_ct (bb : Nat) (b : Option Addr) (m c : Nat) (xs : List UInt8) (i h : Int) (h0 : 0 ≤ i) (h1 : i ≤ m) (h2 : m ≤ 9223372036854775807) :
    CtR Try.prog 78 [.pointer (some ⟨bb, 0, none⟩)] (curHp bb b m c i h) (fun H => (rpSl flByte.rp).rd H [.slice b m c] xs)
      (fun v A => ∃ (r : Ring) (i' h' : Int) (v' : Value) (T : Hp), v = v' ∧ (r.cells ≤ 1048576 ∧ ringOk r = true ∧ 0 ≤ i' ∧ i' ≤ m) ∧ A.Perm (curHp bb b m c i' h' ++ T) ∧ OwR v' r T) := by
  refine CtR.intro G_ok [curHp bb b m c i h] Try.func78 rfl rfl rfl (by simp) fun E H hp => ?_
  refine VCnew.intro fun x0 => ?_
  refine callR_at 0 rfl (l01Below_ct _ _ _ _ _ _ _ _ (by omega) (by omega) (by omega)) (Rp.mono _ (mem_at 1 rfl) hp) ?_
  rintro _ A1 ⟨dx1, ci1, ch1, rfl, hd1, he1, hi1, hj1, rfl⟩
  refine callR_part (curHp bb b m c ci1 ch1) [H] (l22Turns_ct _ _ _ _ _ _ _ _ (by omega) (by omega) (by omega) ?_ ?_) ?_ (Rp.mono _ (mem_at 0 rfl) hp) ?_
  · (simp (disch := omega) only [wrap_of]; omega)
  · (simp (disch := omega) only [wrap_of]; omega)
  · exact .le fun a => by (try simp only [setR, List.cons_append, List.nil_append]); simp only [List.flatten_append, List.flatten_cons, List.flatten_nil, List.count_append, List.count_nil, List.append_nil, List.nil_append]; omega
  rintro _ A2 ⟨ts2, tb2, tc2, ci2, ch2, T2, rfl, htl2, hi2, hj2, hP2, ot2⟩
  refine ⟨[curHp _ _ _ _ ci2 ch2, T2], by simpa using hP2, ?_⟩
  refine call_newP (specRunRing_ct _ _ _ _ (ts2)) (Rp.mono _ (mem_at 1 rfl) (Gt.owrd _ ot2)) ?_
  rintro v3 A3 o3
  obtain ⟨rv3, cb3, cc3, Aa3, Ab3, rfl, hp3, or3, oc3⟩ := o3
  refine ⟨[Aa3, Ab3], by simpa using hp3, ?_⟩
  replace oc3 := fl_ow oc3
  obtain ⟨d13, d23, d33, d43, g13, g23, g33, g43, B13, B23, B33, B43, rfl, -⟩ := id or3
  refine VCnew.intro fun x4 => ?_
  refine ⟨_, ⟨_, _, _, _, _, rfl, ⟨?_, ?_, ?_, ?_⟩, List.Perm.refl _, ‹OwR _ (runRing _ _).1 _›⟩, rle_ix2 2 0 4 rfl rfl rfl⟩ <;> first | assumption | exact runRing_cells _ _ | exact runRing_ok _ _ (by simp (disch := omega) only [wrap_of]; omega) (by simp (disch := omega) only [wrap_of]; omega) (by omega)

--@ct spec.CalmRing new specCalmRing_ct _ $1 ?_ | %1 | obtain ⟨d1#, d2#, d3#, d4#, g1#, g2#, g3#, g4#, B1#, B2#, B3#, B4#, rfl, -⟩ := id o#
--@ct impl.CalmRing new implCalmRing_ct _ $1 ?_ | %1 | obtain ⟨d1#, d2#, d3#, d4#, g1#, g2#, g3#, g4#, B1#, B2#, B3#, B4#, rfl, -⟩ := id o#
theorem ring_rd4 {av : List Bool} {cs : List Int} {bs : List Bool} {fs : List Int} {held num : Int} {black over : Bool} {b1 b2 b3 b4 : Option Addr} {m1 m2 m3 m4 c1 c2 c3 c4 : Nat} {A1 A2 A3 A4 : Hp}
    (h1 : (rpSl flBool.rp).rd A1 [.slice b1 m1 c1] av) (h2 : (rpSl flInt.rp).rd A2 [.slice b2 m2 c2] cs) (h3 : (rpSl flBool.rp).rd A3 [.slice b3 m3 c3] bs) (h4 : (rpSl flInt.rp).rd A4 [.slice b4 m4 c4] fs) (h5 : okI held) (h6 : okI num) :
    rpRing.rd (A1 ++ (A2 ++ (A3 ++ A4))) [.slice b1 m1 c1, .slice b2 m2 c2, .slice b3 m3 c3, .slice b4 m4 c4, .int .i64 held, .int .i64 num, .bool black, .bool over] ⟨av, cs, bs, fs, held, num, black, over⟩ := by
  obtain ⟨rfl, _⟩ := rd_len h1
  obtain ⟨rfl, _⟩ := rd_len h2
  obtain ⟨rfl, _⟩ := rd_len h3
  obtain ⟨rfl, _⟩ := rd_len h4
  exact ⟨b1, b2, b3, b4, c1, c2, c3, c4, rfl, (rpSl _).mono (fun p hp => by simp [hp]) h1, (rpSl _).mono (fun p hp => by simp [hp]) h2, (rpSl _).mono (fun p hp => by simp [hp]) h3, (rpSl _).mono (fun p hp => by simp [hp]) h4, h5, h6⟩

theorem ring_rdo {av : List Bool} {cs : List Int} {bs : List Bool} {fs : List Int} {held num : Int} {black over : Bool} {b1 b2 b3 b4 : Option Addr} {m1 m2 m3 m4 c1 c2 c3 c4 : Nat} {A1 A2 A3 A4 : Hp}
    (h1 : Ow flBool 4 (.slice b1 m1 c1) av A1) (h2 : Ow flInt 3 (.slice b2 m2 c2) cs A2) (h3 : Ow flBool 4 (.slice b3 m3 c3) bs A3) (h4 : Ow flInt 3 (.slice b4 m4 c4) fs A4) (h5 : okI held) (h6 : okI num) :
    rpRing.rd (A1 ++ (A2 ++ (A3 ++ A4))) [.slice b1 m1 c1, .slice b2 m2 c2, .slice b3 m3 c3, .slice b4 m4 c4, .int .i64 held, .int .i64 num, .bool black, .bool over] ⟨av, cs, bs, fs, held, num, black, over⟩ := ring_rd4 h1.rd h2.rd h3.rd h4.rd h5 h6

--@ct spec.l22Copy raw refine call_newL (l22Copy_ct _ $1 ?_) %1 ?_ | | rintro v# A# o# ;; obtain ⟨d1#, d2#, d3#, d4#, g1#, g2#, g3#, g4#, B1#, B2#, B3#, B4#, rfl, rfl, p1#, p2#, p3#, p4#, p5#, p6#⟩ := id o# ;; refine ⟨[B1#, B2#, B3#, B4#], by simp, ?_⟩
--@ct spec.l22Any part1 l22Any_ct _ _ _ _ _ _ _ (by omega) (by omega) (by omega) | %byte | rintro _ A# ⟨r#, ci#, ch#, l#, T#, rfl, hP#, or#, hrc#, hi#, hj#⟩ ;; refine ⟨[curHp _ _ _ _ ci# ch#, T#], by simpa using hP#, ?_⟩ ;; have or# : rdV true rpRing T# _ r# := ⟨_, rfl, or#⟩ ;; obtain ⟨_, e#, b1#, b2#, b3#, b4#, c1#, c2#, c3#, c4#, e1#, -⟩ := id or# ;; cases e# ;; cases e1#
theorem l22Any_ct (bb : Nat) (b : Option Addr) (m c : Nat) (xs : List UInt8) (i h : Int) (h0 : 0 ≤ i) (h1 : i ≤ m) (h2 : m ≤ 9223372036854775807) :
    CtR Try.prog 69 [.pointer (some ⟨bb, 0, none⟩)] (curHp bb b m c i h) (fun H => (rpSl flByte.rp).rd H [.slice b m c] xs)
      (fun v A => ∃ (r : Ring) (i' h' : Int) (l : List Value) (T : Hp), v = .agg ⟨l⟩ ∧ A.Perm (curHp bb b m c i' h' ++ T) ∧ rpRing.rd T l r ∧ r.cells ≤ 1048576 ∧ 0 ≤ i' ∧ i' ≤ m) := by
  refine CtR.intro G_ok [curHp bb b m c i h] Try.func69 rfl rfl rfl (by simp) fun E H hp => ?_
  refine VCnew.intro fun x0 => ?_
  refine callR_at 0 rfl (l01Below_ct _ _ _ _ _ _ _ _ (by omega) (by omega) (by omega)) (Rp.mono _ (mem_at 1 rfl) hp) ?_
  rintro _ A1 ⟨dx1, ci1, ch1, rfl, hd1, he1, hi1, hj1, rfl⟩
  refine callR_at 0 rfl (l01Below_ct _ _ _ _ _ _ _ _ (by omega) (by omega) (by omega)) (Rp.mono _ (mem_at 1 rfl) hp) ?_
  rintro _ A2 ⟨dx2, ci2, ch2, rfl, hd2, he2, hi2, hj2, rfl⟩
  refine callR_part (curHp bb b m c ci2 ch2) [H] (l22Ring_ct _ _ _ _ _ _ _ (by omega) (by omega) (by omega)) ?_ (Rp.mono _ (mem_at 0 rfl) hp) ?_
  · exact .le fun a => by (try simp only [setR, List.cons_append, List.nil_append]); simp only [List.flatten_append, List.flatten_cons, List.flatten_nil, List.count_append, List.count_nil, List.append_nil, List.nil_append]; omega
  rintro _ A3 ⟨r3, ci3, ch3, rv3, T3, rfl, ⟨hrc3, hrn3, hi3, hj3⟩, hP3, or3⟩
  refine ⟨[curHp _ _ _ _ ci3 ch3, T3], by simpa using hP3, ?_⟩
  obtain ⟨d13, d23, d33, d43, g13, g23, g33, g43, B13, B23, B33, B43, rfl, -⟩ := id or3
  have hrl3 := ringOk_len hrn3
  refine call_newL (l22Copy_ct _ (r3) ?_) (rdV_mono (mem_at 1 rfl) (OwR.rd or3)) ?_
  · trivial
  rintro v4 A4 o4
  obtain ⟨d14, d24, d34, d44, g14, g24, g34, g44, B14, B24, B34, B44, rfl, rfl, p14, p24, p34, p44, p54, p64⟩ := id o4
  refine ⟨[B14, B24, B34, B44], by simp, ?_⟩
  refine VCnew.intro fun x5 => ?_
  refine VCsplit.intro (fun q6 => ?_) (fun q6 => ?_)
  ·
    simp at q6
    refine VC.intro ?_ ?_
    · trivial
    exact ⟨_, ⟨_, _, _, _, _, rfl, List.Perm.refl _, ring_rdo (by first | assumption | exact fl_ow (by assumption)) (by first | assumption | exact fl_ow (by assumption)) (by first | assumption | exact fl_ow (by assumption)) (by first | assumption | exact fl_ow (by assumption)) (by first | assumption | exact okI_wrap _) (by first | assumption | exact okI_wrap _), (by unfold Ring.cells at *; simp at *; omega), by assumption, by assumption⟩, rle_pick [4, 0, 1, 2, 3] 6 rfl rfl (by decide)⟩
  ·
    simp at q6
    refine VCsplit.intro (fun q7 => ?_) (fun q7 => ?_)
    ·
      simp at q7
      refine draw G_ok mixed (some 8) (.q 0 (.q 1 (.q 3 (.q 4 (.f 2 (.q 5 (.q 6 (.q 7 (.tl 8 (.nil)))))))))) (by decide +kernel) ?_
      refine VC.intro ?_ ?_
      · trivial
      refine VCnew.intro fun x8 => ?_
      have ol8 : Ow flInt (3 : TypeId) (.slice (some ⟨x8, 0, none⟩) 4 4) [(-1001 : Int), (1000 : Int), (1001 : Int), (3 : Int)] [(x8, Obj.cells
  {
    toList :=
      Value.int IntKind.i64 (-1001 : Int) ::
        Value.int IntKind.i64 (1000 : Int) ::
          Value.int IntKind.i64 (1001 : Int) ::
            Value.int IntKind.i64 (3 : Int) :: [].append (zeros (nat_lit 0) [Value.int IntKind.i64 (0 : Int)]) }
  (3 : TypeId))] := Ow.lit (f := flInt) (T := (3 : TypeId)) (b := x8) (xs := [(-1001 : Int), (1000 : Int), (1001 : Int), (3 : Int)]) (by simp [flInt, okI]) (by simp)
      refine VC.intro ?_ ?_
      · exact keep_new
      refine idx_rd (Ow.rd ol8) ?_ ?_ fun b9 o9 hb9 => ?_
      · grind
      · grind
      refine load_all 0 (Ow.rd ol8) ?_ ?_ hb9 rfl (mem_at 0 rfl) fun l10 hl10 => ?_
      · grind
      · grind
      obtain ⟨rfl, hw10⟩ := hl10
      refine idx_rd (Ow.rd p24) ?_ ?_ fun b11 o11 hb11 => ?_
      · trivial
      · omega
      refine store_ow (f := flInt) (y := [(-1001 : Int), (1000 : Int), (1001 : Int), (3 : Int)][(dx2.tmod (4 : Int)).toNat]?.getD (0 : Int)) 2 rfl p24 ?_ ?_ hb11 rfl ?_ rfl fun A12 o12 => ?_
      · trivial
      · omega
      · trivial
      try dsimp only
      exact ⟨_, ⟨_, _, _, _, _, rfl, List.Perm.refl _, ring_rdo (by first | assumption | exact fl_ow (by assumption)) (by first | assumption | exact fl_ow (by assumption)) (by first | assumption | exact fl_ow (by assumption)) (by first | assumption | exact fl_ow (by assumption)) (by first | assumption | exact okI_wrap _) (by first | assumption | exact okI_wrap _), (by unfold Ring.cells at *; simp at *; omega), by assumption, by assumption⟩, rle_pick [5, 1, 2, 3, 4] 7 rfl rfl (by decide)⟩
    ·
      simp at q7
      refine VCsplit.intro (fun q13 => ?_) (fun q13 => ?_)
      ·
        simp at q13
        refine VC.intro ?_ ?_
        · trivial
        refine VCnew.intro fun x14 => ?_
        refine gappend1 (g := gI) (T := (3 : TypeId)) G_ok B44 [] [B14, B24, B34, curHp bb b m c ci3 ch3, T3, H] ?_ (ow_fl p44) (gI_ow ?_) (List.mem_of_getElem? (i := 0) rfl) rfl rfl rfl rfl rfl rfl rfl rfl ?_ fun b15 c15 A15 o15 => ?_
        · exact .le fun a => by (try simp only [setR, List.cons_append, List.nil_append]); simp only [List.flatten_append, List.flatten_cons, List.flatten_nil, List.count_append, List.count_nil, List.append_nil, List.nil_append]; omega
        · exact okI_wrap _
        · omega
        exact ⟨_, ⟨_, _, _, _, _, rfl, List.Perm.refl _, ring_rdo (by first | assumption | exact fl_ow (by assumption)) (by first | assumption | exact fl_ow (by assumption)) (by first | assumption | exact fl_ow (by assumption)) (by first | assumption | exact fl_ow (by assumption)) (by first | assumption | exact okI_wrap _) (by first | assumption | exact okI_wrap _), (by unfold Ring.cells at *; simp at *; omega), by assumption, by assumption⟩, rle_pick [4, 1, 2, 3, 0] 6 rfl rfl (by decide)⟩
      ·
        simp at q13
        refine VCsplit.intro (fun q16 => ?_) (fun q16 => ?_)
        ·
          simp at q16
          refine VCnew.intro fun x17 => ?_
          have ol17 : Ow flInt (3 : TypeId) (.slice (some ⟨x17, 0, none⟩) 3 3) [(-8000 : Int), (8000 : Int), (8001 : Int)] [(x17, Obj.cells
  {
    toList :=
      Value.int IntKind.i64 (-8000 : Int) ::
        Value.int IntKind.i64 (8000 : Int) ::
          Value.int IntKind.i64 (8001 : Int) :: [].append (zeros (nat_lit 0) [Value.int IntKind.i64 (0 : Int)]) }
  (3 : TypeId))] := Ow.lit (f := flInt) (T := (3 : TypeId)) (b := x17) (xs := [(-8000 : Int), (8000 : Int), (8001 : Int)]) (by simp [flInt, okI]) (by simp)
          refine VC.intro ?_ ?_
          · trivial
          refine idx_rd (Ow.rd ol17) ?_ ?_ fun b18 o18 hb18 => ?_
          · grind
          · grind
          refine load_all 0 (Ow.rd ol17) ?_ ?_ hb18 rfl (mem_at 0 rfl) fun l19 hl19 => ?_
          · grind
          · grind
          obtain ⟨rfl, hw19⟩ := hl19
          try dsimp only
          exact ⟨_, ⟨_, _, _, _, _, rfl, List.Perm.refl _, ring_rdo (by first | assumption | exact fl_ow (by assumption)) (by first | assumption | exact fl_ow (by assumption)) (by first | assumption | exact fl_ow (by assumption)) (by first | assumption | exact fl_ow (by assumption)) (by first | assumption | exact okI_wrap _) (by first | assumption | exact okI_wrap _), (by unfold Ring.cells at *; simp at *; omega), by assumption, by assumption⟩, rle_pick [5, 1, 2, 3, 4] 7 rfl rfl (by decide)⟩
        ·
          simp at q16
          refine VCsplit.intro (fun q20 => ?_) (fun q20 => ?_)
          ·
            simp at q20
            have hcap := rd_cap (Ow.rd p34)
            refine VC.intro ?_ ?_
            · omega
            exact ⟨_, ⟨_, _, _, _, _, rfl, List.Perm.refl _, ring_rd4 (Ow.rd (f := flBool) (T := 4) (by assumption)) (Ow.rd (f := flInt) (T := 3) (by assumption)) (rd_sub (Ow.rd p34) (by show 1 ≤ _; omega) (Nat.le_refl _) (by show _ - 1 ≤ _ - 1; omega)) (Ow.rd (f := flInt) (T := 3) (by assumption)) (by assumption) (by assumption), (by unfold Ring.cells at *; simp at *; omega), by assumption, by assumption⟩, rle_pick [4, 0, 1, 2, 3] 6 rfl rfl (by decide)⟩
          ·
            simp at q20
            refine VCsplit.intro (fun q21 => ?_) (fun q21 => ?_)
            ·
              simp at q21
              exact ⟨_, ⟨_, _, _, _, _, rfl, List.Perm.refl _, ring_rdo (by first | assumption | exact fl_ow (by assumption)) (by first | assumption | exact fl_ow (by assumption)) (by first | assumption | exact fl_ow (by assumption)) (by first | assumption | exact fl_ow (by assumption)) (by first | assumption | exact okI_wrap _) (by first | assumption | exact okI_wrap _), (by unfold Ring.cells at *; simp at *; omega), by assumption, by assumption⟩, rle_pick [4, 0, 1, 2, 3] 6 rfl rfl (by decide)⟩
            ·
              simp at q21
              exact ⟨_, ⟨_, _, _, _, _, rfl, List.Perm.refl _, ring_rdo (by first | assumption | exact fl_ow (by assumption)) (by first | assumption | exact fl_ow (by assumption)) (by first | assumption | exact fl_ow (by assumption)) (by first | assumption | exact fl_ow (by assumption)) (by first | assumption | exact okI_wrap _) (by first | assumption | exact okI_wrap _), (by unfold Ring.cells at *; simp at *; omega), by assumption, by assumption⟩, rle_pick [4, 0, 1, 2, 3] 6 rfl rfl (by decide)⟩

--@ct spec.DrawRingStep newp DrawRingStep_ct _ _ _ _ | %1 | obtain ⟨r#, l#, k#, a#, t#, rfl, or#, hrc#, hk#, ha#, ht#⟩ := o# ;; refine ⟨[A#], by simp, ?_⟩ ;; have or# : rdV true rpRing A# _ r# := ⟨_, rfl, or#⟩ ;; obtain ⟨_, e#, b1#, b2#, b3#, b4#, c1#, c2#, c3#, c4#, e1#, -⟩ := id or# ;; cases e# ;; cases e1#
theorem DrawRingStep_ct (b : Option Addr) (m c : Nat) (xs : List UInt8) :
    Ct Try.prog 34 [.slice b m c] [] (fun H => (rpSl flByte.rp).rd H [.slice b m c] xs)
      (fun v A => ∃ (r : Ring) (l : List Value) (k a t : Int), v = .tuple #[.agg ⟨l⟩, .agg ⟨[.int .i64 k, .int .i64 a, .int .i64 t]⟩] ∧ rpRing.rd A l r ∧ r.cells ≤ 1048576 ∧ okI k ∧ okI a ∧ okI t) := by
  refine Ct.intro0 G_ok Try.func34 rfl rfl rfl fun E H hp => ?_
  obtain ⟨rfl, hl⟩ := rd_len hp
  refine VCnew.intro fun x0 => ?_
  refine VCnew.intro fun x1 => ?_
  refine call_new (l01New_ct _ _ _ _) (Rp.mono _ (mem_at 0 rfl) hp) ?_
  rintro _ A2 ⟨bb2, h2, rfl, rfl⟩
  refine callR_at 0 rfl (l01Below_ct _ _ _ _ _ _ _ _ (by omega) (by omega) (by omega)) (Rp.mono _ (mem_at 1 rfl) hp) ?_
  rintro _ A3 ⟨dx3, ci3, ch3, rfl, hd3, he3, hi3, hj3, rfl⟩
  refine callR_at 0 rfl (l01Below_ct _ _ _ _ _ _ _ _ (by omega) (by omega) (by omega)) (Rp.mono _ (mem_at 1 rfl) hp) ?_
  rintro _ A4 ⟨dx4, ci4, ch4, rfl, hd4, he4, hi4, hj4, rfl⟩
  refine callR_at 0 rfl (l01Below_ct _ _ _ _ _ _ _ _ (by omega) (by omega) (by omega)) (Rp.mono _ (mem_at 1 rfl) hp) ?_
  rintro _ A5 ⟨dx5, ci5, ch5, rfl, hd5, he5, hi5, hj5, rfl⟩
  refine VCnew.intro fun x6 => ?_
  refine draw G_ok mixed none (.q 0 (.hd (.alt 1 (.hd (.alt 2 (.f 3 (.f 4 (.nil))) (.alt 3 (.f 2 (.f 4 (.nil))) (.nil)))) (.alt 2 (.f 1 (.f 3 (.f 4 (.nil)))) (.nil))))) (by decide +kernel) ?_
  refine VC.intro ?_ ?_
  ·
    refine callR_part (curHp bb2 b xs.length c ci5 ch5) [H] (l22Any_ct _ _ _ _ _ _ _ (by omega) (by omega) (by omega)) ?_ (Rp.mono _ (mem_at 0 rfl) hp) ?_
    · exact .le fun a => by (try simp only [setR, List.cons_append, List.nil_append]); simp only [List.flatten_append, List.flatten_cons, List.flatten_nil, List.count_append, List.count_nil, List.append_nil, List.nil_append]; omega
    rintro _ A7 ⟨r7, ci7, ch7, l7, T7, rfl, hP7, or7, hrc7, hi7, hj7⟩
    refine ⟨[curHp _ _ _ _ ci7 ch7, T7], by simpa using hP7, ?_⟩
    have or7 : rdV true rpRing T7 _ r7 := ⟨_, rfl, or7⟩
    obtain ⟨_, e7, b17, b27, b37, b47, c17, c27, c37, c47, e17, -⟩ := id or7
    cases e7
    cases e17
    refine VC.intro ?_ ?_
    ·
      exact ⟨_, ⟨_, _, _, _, _, rfl, by obtain ⟨l, e, h⟩ := ‹rdV true rpRing _ _ _›; cases e; exact h, by assumption, okI_wrap _, okI_wrap _, okI_wrap _⟩, rle_pick [1] 2 rfl rfl (by decide)⟩
    ·
      refine VC.intro ?_ ?_
      ·
        exact ⟨_, ⟨_, _, _, _, _, rfl, by obtain ⟨l, e, h⟩ := ‹rdV true rpRing _ _ _›; cases e; exact h, by assumption, okI_wrap _, okI_wrap _, okI_wrap _⟩, rle_pick [1] 2 rfl rfl (by decide)⟩
      ·
        exact trivial
  ·
    refine VC.intro ?_ ?_
    ·
      refine callR_part (curHp bb2 b xs.length c ci5 ch5) [H] (l22Any_ct _ _ _ _ _ _ _ (by omega) (by omega) (by omega)) ?_ (Rp.mono _ (mem_at 0 rfl) hp) ?_
      · exact .le fun a => by (try simp only [setR, List.cons_append, List.nil_append]); simp only [List.flatten_append, List.flatten_cons, List.flatten_nil, List.count_append, List.count_nil, List.append_nil, List.nil_append]; omega
      rintro _ A8 ⟨r8, ci8, ch8, l8, T8, rfl, hP8, or8, hrc8, hi8, hj8⟩
      refine ⟨[curHp _ _ _ _ ci8 ch8, T8], by simpa using hP8, ?_⟩
      have or8 : rdV true rpRing T8 _ r8 := ⟨_, rfl, or8⟩
      obtain ⟨_, e8, b18, b28, b38, b48, c18, c28, c38, c48, e18, -⟩ := id or8
      cases e8
      cases e18
      exact ⟨_, ⟨_, _, _, _, _, rfl, by obtain ⟨l, e, h⟩ := ‹rdV true rpRing _ _ _›; cases e; exact h, by assumption, okI_wrap _, okI_wrap _, okI_wrap _⟩, rle_pick [1] 2 rfl rfl (by decide)⟩
    ·
      exact trivial

--@ct spec.DrawRingQuiet newp DrawRingQuiet_ct _ _ _ _ | %1 | obtain ⟨r#, l#, rfl, or#, hrc#⟩ := o# ;; refine ⟨[A#], by simp, ?_⟩ ;; have or# : rdV true rpRing A# _ r# := ⟨_, rfl, or#⟩ ;; obtain ⟨_, e#, b1#, b2#, b3#, b4#, c1#, c2#, c3#, c4#, e1#, -⟩ := id or# ;; cases e# ;; cases e1#
theorem DrawRingQuiet_ct (b : Option Addr) (m c : Nat) (xs : List UInt8) :
    Ct Try.prog 35 [.slice b m c] [] (fun H => (rpSl flByte.rp).rd H [.slice b m c] xs)
      (fun v A => ∃ (r : Ring) (l : List Value), v = .agg ⟨l⟩ ∧ rpRing.rd A l r ∧ r.cells ≤ 1048576) := by
  refine Ct.intro0 G_ok Try.func35 rfl rfl rfl fun E H hp => ?_
  obtain ⟨rfl, hl⟩ := rd_len hp
  refine VCnew.intro fun x0 => ?_
  refine call_new (l01New_ct _ _ _ _) (Rp.mono _ (mem_at 0 rfl) hp) ?_
  rintro _ A1 ⟨bb1, h1, rfl, rfl⟩
  refine callR_at 0 rfl (l01Once_ct _ _ _ _ _ _ _ _ (by omega) (by omega) (by omega)) (Rp.mono _ (mem_at 1 rfl) hp) ?_
  rintro _ A2 ⟨dx2, ci2, ch2, rfl, hi2, hj2, rfl⟩
  refine VCsplit.intro (fun q3 => ?_) (fun q3 => ?_)
  ·
    refine callR_part (curHp bb1 b xs.length c ci2 ch2) [H] (l22Any_ct _ _ _ _ _ _ _ (by omega) (by omega) (by omega)) ?_ (Rp.mono _ (mem_at 0 rfl) hp) ?_
    · exact .le fun a => by (try simp only [setR, List.cons_append, List.nil_append]); simp only [List.flatten_append, List.flatten_cons, List.flatten_nil, List.count_append, List.count_nil, List.append_nil, List.nil_append]; omega
    rintro _ A4 ⟨r4, ci4, ch4, l4, T4, rfl, hP4, or4, hrc4, hi4, hj4⟩
    refine ⟨[curHp _ _ _ _ ci4 ch4, T4], by simpa using hP4, ?_⟩
    have or4 : rdV true rpRing T4 _ r4 := ⟨_, rfl, or4⟩
    obtain ⟨_, e4, b14, b24, b34, b44, c14, c24, c34, c44, e14, -⟩ := id or4
    cases e4
    cases e14
    refine call_new (specCalmRing_ct _ (r4) ?_) (rdV_mono (mem_at 1 rfl) or4) ?_
    · trivial
    rintro v5 A5 o5
    obtain ⟨d15, d25, d35, d45, g15, g25, g35, g45, B15, B25, B35, B45, rfl, -⟩ := id o5
    exact ⟨_, ⟨_, _, rfl, by obtain ⟨l, e, h⟩ := OwR.rd (by assumption); cases e; exact h, calm_cells _ (by assumption)⟩, rle_pick [0] 3 rfl rfl (by decide)⟩
  ·
    refine callR_part (curHp bb1 b xs.length c ci2 ch2) [H] (l22Any_ct _ _ _ _ _ _ _ (by omega) (by omega) (by omega)) ?_ (Rp.mono _ (mem_at 0 rfl) hp) ?_
    · exact .le fun a => by (try simp only [setR, List.cons_append, List.nil_append]); simp only [List.flatten_append, List.flatten_cons, List.flatten_nil, List.count_append, List.count_nil, List.append_nil, List.nil_append]; omega
    rintro _ A6 ⟨r6, ci6, ch6, l6, T6, rfl, hP6, or6, hrc6, hi6, hj6⟩
    refine ⟨[curHp _ _ _ _ ci6 ch6, T6], by simpa using hP6, ?_⟩
    have or6 : rdV true rpRing T6 _ r6 := ⟨_, rfl, or6⟩
    obtain ⟨_, e6, b16, b26, b36, b46, c16, c26, c36, c46, e16, -⟩ := id or6
    cases e6
    cases e16
    exact ⟨_, ⟨_, _, rfl, by obtain ⟨l, e, h⟩ := ‹rdV true rpRing _ _ _›; cases e; exact h, by assumption⟩, rle_pick [1] 2 rfl rfl (by decide)⟩

--@ct spec.DrawCalmRing newp DrawCalmRing_ct _ _ _ _ | %1 | obtain ⟨r#, l#, rfl, or#, hrc#⟩ := o# ;; refine ⟨[A#], by simp, ?_⟩ ;; have or# : rdV true rpRing A# _ r# := ⟨_, rfl, or#⟩ ;; obtain ⟨_, e#, b1#, b2#, b3#, b4#, c1#, c2#, c3#, c4#, e1#, -⟩ := id or# ;; cases e# ;; cases e1#
theorem DrawCalmRing_ct (b : Option Addr) (m c : Nat) (xs : List UInt8) :
    Ct Try.prog 39 [.slice b m c] [] (fun H => (rpSl flByte.rp).rd H [.slice b m c] xs)
      (fun v A => ∃ (r : Ring) (l : List Value), v = .agg ⟨l⟩ ∧ rpRing.rd A l r ∧ r.cells ≤ 1048576) := by
  refine Ct.intro0 G_ok Try.func39 rfl rfl rfl fun E H hp => ?_
  obtain ⟨rfl, hl⟩ := rd_len hp
  refine VCnew.intro fun x0 => ?_
  refine call_new (l01New_ct _ _ _ _) (Rp.mono _ (mem_at 0 rfl) hp) ?_
  rintro _ A1 ⟨bb1, h1, rfl, rfl⟩
  refine callR_part (curHp bb1 b xs.length c (0 : Int) h1) [H] (l22Any_ct _ _ _ _ _ _ _ (by omega) (by omega) (by omega)) ?_ (Rp.mono _ (mem_at 0 rfl) hp) ?_
  · exact .le fun a => by (try simp only [setR, List.cons_append, List.nil_append]); simp only [List.flatten_append, List.flatten_cons, List.flatten_nil, List.count_append, List.count_nil, List.append_nil, List.nil_append]; omega
  rintro _ A2 ⟨r2, ci2, ch2, l2, T2, rfl, hP2, or2, hrc2, hi2, hj2⟩
  refine ⟨[curHp _ _ _ _ ci2 ch2, T2], by simpa using hP2, ?_⟩
  have or2 : rdV true rpRing T2 _ r2 := ⟨_, rfl, or2⟩
  obtain ⟨_, e2, b12, b22, b32, b42, c12, c22, c32, c42, e12, -⟩ := id or2
  cases e2
  cases e12
  exact ⟨_, ⟨_, _, rfl, by obtain ⟨l, e, h⟩ := ‹rdV true rpRing _ _ _›; cases e; exact h, by assumption⟩, rle_pick [1] 2 rfl rfl (by decide)⟩

end Go.Proofs.Ythihffgmmkhlhaa
