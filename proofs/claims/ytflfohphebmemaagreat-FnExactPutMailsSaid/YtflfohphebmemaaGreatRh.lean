/-
  Letters as texts, on both sides. Conditions: none.
-/
import Derived.Test.YtflfohphebmemaaGreatRg
import Derived.Test.YtflfohphebmemaaGreatGw
namespace Go.Proofs.YtflfohphebmemaaGreat
open Go.SX Go.Proofs
set_option linter.unusedSimpArgs false
set_option linter.unusedVariables false
set_option maxHeartbeats 4000000
attribute [local irreducible] IntKind.wrap

def walkBytes (w : Walk) : List UInt8 := [UInt8.ofNat w.atom.toNat, UInt8.ofNat w.src.toNat, UInt8.ofNat w.at'.toNat, UInt8.ofNat w.state.toNat]
def letterBody (x : Letter) : List UInt8 :=
  if x.kind = 2 then varT x.walks.length ++ x.walks.flatMap walkBytes
  else if x.kind = 3 then varT (x.num + 100000) ++ [if x.black = true then 1 else 0]
  else if x.kind = 5 then UInt8.ofNat x.atom.toNat :: by' x.text
  else by' x.text
def letterT (x : Letter) : ByteArray := tx (UInt8.ofNat x.kind.toNat :: letterBody x)
noncomputable def ltR (x : Letter) : ByteArray := if letterM x = true then letterT x else .empty
theorem ltR_no {x : Letter} (h : letterM x = false) : ltR x = .empty := by unfold ltR; rw [h]; rfl
theorem ltR_yes {x : Letter} (h : letterM x = true) : ltR x = letterT x := by unfold ltR; rw [h]; rfl
theorem lt_P {x : Letter} (h : letterM x = true) : letterP x := of_decide_eq_true h
theorem lt_all {x : Letter} (h : letterM x = true) : 1 ≤ x.kind ∧ x.kind ≤ 6 ∧ x.text.size ≤ 6000 ∧ (x.kind = 2 → walksM x.walks = true ∧ x.text.size = 0) ∧ (x.kind = 3 → -100000 ≤ x.num ∧ x.num ≤ 100000 ∧ x.text.size = 0) ∧ (x.kind = 4 → x.text.size = 0) ∧ (x.kind = 5 → 0 ≤ x.atom ∧ x.atom ≤ 3) := by
  have h1 := lt_P h
  unfold letterP at h1
  rcases h1 with h1 | h1 | h1 | h1 | h1 | h1 <;> (refine ⟨by omega, by omega, by omega, fun h2 => ?_, fun h2 => by omega, fun h2 => by omega, fun h2 => by omega⟩) <;> first | exact ⟨h1.2.2.2.2.2, by omega⟩ | (exfalso; omega)
theorem walks_rng {ws : List Walk} (h : walksM ws = true) : 1 ≤ ws.length ∧ ws.length ≤ 60 ∧ ∀ k, k < ws.length → 0 ≤ (ws[k]?.getD default).atom ∧ (ws[k]?.getD default).atom ≤ 3 ∧ 0 ≤ (ws[k]?.getD default).src ∧ (ws[k]?.getD default).src ≤ 11 ∧ 0 ≤ (ws[k]?.getD default).at' ∧ (ws[k]?.getD default).at' ≤ 11 ∧ 0 ≤ (ws[k]?.getD default).state ∧ (ws[k]?.getD default).state ≤ 23 := by
  unfold walksM walksK at h
  simp only [Bool.and_eq_true, decide_eq_true_iff] at h
  refine ⟨h.2.1, h.2.2, fun k hk => ?_⟩
  have h2 := allK_at h.1 k hk
  unfold walkM at h2
  simp only [Bool.and_eq_true] at h2
  have a := inR_iff.1 h2.1
  have b := inR_iff.1 h2.2.1
  have c := inR_iff.1 h2.2.2.1
  have d := inR_iff.1 h2.2.2.2
  omega
theorem u8v {v : Int} (h : 0 ≤ v ∧ v < 256) : IntKind.u8.wrap v = v := by rw [u8_wrap]; omega
theorem u8in (v : Int) : 0 ≤ IntKind.u8.wrap v ∧ IntKind.u8.wrap v < 256 := by rw [u8_wrap]; omega
theorem wb_len (w : Walk) : (walkBytes w).length = 4 := rfl
theorem wb_eq {w : Walk} (h : 0 ≤ w.atom ∧ w.atom ≤ 3 ∧ 0 ≤ w.src ∧ w.src ≤ 11 ∧ 0 ≤ w.at' ∧ w.at' ≤ 11 ∧ 0 ≤ w.state ∧ w.state ≤ 23) : (([IntKind.u8.wrap w.atom, IntKind.u8.wrap w.src, IntKind.u8.wrap w.at', IntKind.u8.wrap w.state] : List Int).map fun v => UInt8.ofNat v.toNat) = walkBytes w := by
  rw [u8v (by omega), u8v (by omega), u8v (by omega), u8v (by omega)]; rfl
theorem flat4 : ∀ (ws : List Walk), (ws.flatMap walkBytes).length = 4 * ws.length
  | [] => rfl
  | w :: r => by rw [List.flatMap_cons, List.length_append, flat4 r, wb_len, List.length_cons]; omega
theorem lt_size {x : Letter} (h : letterM x = true) : 1 ≤ (letterT x).size ∧ (letterT x).size ≤ 6020 := by
  have h1 := lt_all h
  have h2 := varText_size x.walks.length
  have h3 := varText_size (x.num + 100000)
  have e2 : (varT x.walks.length).length = (varText x.walks.length).size := by rw [← by_size]; unfold varText; rw [by_tx]
  have e3 : (varT (x.num + 100000)).length = (varText (x.num + 100000)).size := by rw [← by_size]; unfold varText; rw [by_tx]
  have e : (letterT x).size = 1 + (letterBody x).length := by unfold letterT; rw [← by_size, by_tx, List.length_cons]; omega
  rw [e]
  unfold letterBody
  split
  · have hw := walks_rng (h1.2.2.2.1 (by assumption)).1
    rw [List.length_append, flat4]; omega
  · split
    · rw [List.length_append]; show 1 ≤ 1 + (_ + 1) ∧ 1 + (_ + 1) ≤ 6020; omega
    · split
      · rw [List.length_cons, by_size]; omega
      · rw [by_size]; omega
theorem ltR_size (x : Letter) : (ltR x).size ≤ 6020 := by
  unfold ltR
  split
  · exact (lt_size ‹_›).2
  · exact Nat.zero_le _
theorem lt_txt {x : Letter} (h : letterM x = true) (hk : x.kind ≠ 2 ∧ x.kind ≠ 3 ∧ x.kind ≠ 5) : ltR x = tx (UInt8.ofNat (IntKind.u8.wrap x.kind).toNat :: by' x.text) := by
  have h1 := lt_all h
  rw [ltR_yes h, u8v (by omega)]
  unfold letterT letterBody
  rw [if_neg hk.1, if_neg hk.2.1, if_neg hk.2.2]
theorem lt_4 {x : Letter} (h : letterM x = true) (hk : x.kind = 4) : ltR x = tx [UInt8.ofNat (IntKind.u8.wrap x.kind).toNat] := by
  have h1 := lt_all h
  rw [lt_txt h (by omega), show by' x.text = [] from List.length_eq_zero_iff.1 (by rw [by_size]; omega)]
theorem lt_rows {x : Letter} (h : letterM x = true) (hk : x.kind = 5) : ltR x = tx (UInt8.ofNat (IntKind.u8.wrap x.kind).toNat :: UInt8.ofNat (IntKind.u8.wrap x.atom).toNat :: by' x.text) := by
  have h1 := lt_all h
  rw [ltR_yes h, u8v (by omega), u8v (by omega)]
  unfold letterT letterBody
  rw [if_neg (by omega), if_neg (by omega), if_pos hk]
theorem lt_tok {x : Letter} (h : letterM x = true) (hk : x.kind = 3) : ltR x = tx (UInt8.ofNat (IntKind.u8.wrap x.kind).toNat :: (varT (IntKind.i64.wrap (x.num + 100000)) ++ [if x.black = true then 1 else 0])) := by
  have h1 := lt_all h
  rw [ltR_yes h, u8v (by omega), wrap_of (x := x.num + 100000) (by omega) (by omega)]
  unfold letterT letterBody
  rw [if_neg (by omega), if_pos hk]
theorem lt_items {x : Letter} (h : letterM x = true) (hk : x.kind = 2) : ltR x = tx (UInt8.ofNat (IntKind.u8.wrap x.kind).toNat :: (varT x.walks.length ++ x.walks.flatMap walkBytes)) := by
  have h1 := lt_all h
  rw [ltR_yes h, u8v (by omega)]
  unfold letterT letterBody
  rw [if_pos hk]
theorem wf_step {ws : List Walk} {k : Nat} (h : k < ws.length) : (ws.take (k + 1)).flatMap walkBytes = (ws.take k).flatMap walkBytes ++ walkBytes (ws[k]?.getD default) := flat_step default h

theorem wf_next {ws : List Walk} {k : Nat} {P o : List UInt8} (hk : k < ws.length) (hr : 0 ≤ (ws[k]?.getD default).atom ∧ (ws[k]?.getD default).atom ≤ 3 ∧ 0 ≤ (ws[k]?.getD default).src ∧ (ws[k]?.getD default).src ≤ 11 ∧ 0 ≤ (ws[k]?.getD default).at' ∧ (ws[k]?.getD default).at' ≤ 11 ∧ 0 ≤ (ws[k]?.getD default).state ∧ (ws[k]?.getD default).state ≤ 23) (ho : o = P ++ (ws.take k).flatMap walkBytes) :
    o ++ (([IntKind.u8.wrap (ws[k]?.getD default).atom, IntKind.u8.wrap (ws[k]?.getD default).src, IntKind.u8.wrap (ws[k]?.getD default).at', IntKind.u8.wrap (ws[k]?.getD default).state] : List Int).map fun v => UInt8.ofNat v.toNat) = P ++ (ws.take (k + 1)).flatMap walkBytes := by
  rw [wb_eq hr, wf_step hk, ho, List.append_assoc]
theorem lt_items2 {x : Letter} (h : letterM x = true) (hk : x.kind = 2) : ltR x = tx ((UInt8.ofNat (IntKind.u8.wrap x.kind).toNat :: varT x.walks.length) ++ x.walks.flatMap walkBytes) := lt_items h hk

--@ct impl.LetterText val implLetterText_ct _ $1 ?_ | %1
theorem implLetterText_ct (l : List Value) (x : Letter) (hx : x.text.size ≤ 4194304) : Ct Tryz.prog 141 [.agg ⟨l⟩] [] (fun H => gLetter.rd H l x) (fun v A => v = .tuple #[.string (ltR x), .bool (letterM x)] ∧ A = []) := by
  refine Ct.intro0 G_ok Tryz.func141 rfl rfl rfl fun E H hp => ?_
  obtain ⟨b4p, c4p, rfl, w0p, w1p, w2p, h4p, w5p⟩ := gLetter_rd.1 hp
  have hl := (sl_len h4p).2.2
  have z1 := varText_size x.walks.length
  have z2 := varText_size (IntKind.i64.wrap (x.num + 100000))
  refine VCnew.intro fun x0 => ?_
  refine call_val (implLetterOk_ct _ (x) ?_) (Rp.mono _ (mem_at 0 rfl) hp) ?_
  · trivial
  rintro _ rfl
  refine VCsplit.intro (fun q2 => ?_) (fun q2 => ?_)
  ·
    simp at q2
    (rw [ltR_no (by assumption), ‹letterM x = false›]; exact ⟨[], ⟨rfl, rfl⟩, (.le fun a => by (try simp only [setR, List.cons_append, List.nil_append]); simp [List.count_cons, Blk.ent, idOf]; try omega)⟩)
  ·
    simp at q2
    have hk2 := lt_all q2
    refine VCnew.intro fun x3 => ?_
    refine callR_blk 1 ([]) [H] rfl ?_ (WriteByteI_ct _ _ _ _ _ _ _ _ ?_ (by first | exact .inl rfl | exact .inr rfl | assumption) (sl_nil _ _ _) (.inl ⟨rfl, rfl⟩) ?_) trivial ?_
    · exact .refl _
    · (simp only [inU8, u8_wrap]; omega)
    · trivial
    rintro _ A4 ⟨rfl, bb4, bc4, B4, rfl, o4, z4⟩
    refine ⟨_, _, [B4], rfl, perm1, ?_⟩
    refine VCsplit.intro (fun q5 => ?_) (fun q5 => ?_)
    ·
      simp at q5
      refine callR_blk 1 (B4) [H] rfl ?_ (WriteString_ct _ _ _ _ _ _ _ _ (by first | exact .inl rfl | exact .inr rfl | assumption) o4 z4 ?_) trivial ?_
      · exact .refl _
      · simp; omega
      rintro _ A6 ⟨rfl, bb6, bc6, B6, rfl, o6, z6⟩
      refine ⟨_, _, [B6], rfl, perm1, ?_⟩
      refine callR_blk 1 (B6) [H] rfl ?_ (String_ct _ _ _ _ _ _ _ o6 z6) trivial ?_
      · exact .refl _
      rintro _ A7 ⟨rfl, rfl⟩
      refine ⟨_, _, [], rfl, perm0, ?_⟩
      (rw [lt_txt (by assumption) (by omega), ‹letterM x = true›]; exact ⟨[], ⟨rfl, rfl⟩, (.le fun a => by (try simp only [setR, List.cons_append, List.nil_append]); simp [List.count_cons, Blk.ent, idOf]; try omega)⟩)
    ·
      simp at q5
      refine VCsplit.intro (fun q8 => ?_) (fun q8 => ?_)
      ·
        simp at q8
        refine callR_blk 1 (B4) [H] rfl ?_ (WriteString_ct _ _ _ _ _ _ _ _ (by first | exact .inl rfl | exact .inr rfl | assumption) o4 z4 ?_) trivial ?_
        · exact .refl _
        · simp; omega
        rintro _ A9 ⟨rfl, bb9, bc9, B9, rfl, o9, z9⟩
        refine ⟨_, _, [B9], rfl, perm1, ?_⟩
        refine callR_blk 1 (B9) [H] rfl ?_ (String_ct _ _ _ _ _ _ _ o9 z9) trivial ?_
        · exact .refl _
        rintro _ A10 ⟨rfl, rfl⟩
        refine ⟨_, _, [], rfl, perm0, ?_⟩
        (rw [lt_txt (by assumption) (by omega), ‹letterM x = true›]; exact ⟨[], ⟨rfl, rfl⟩, (.le fun a => by (try simp only [setR, List.cons_append, List.nil_append]); simp [List.count_cons, Blk.ent, idOf]; try omega)⟩)
      ·
        simp at q8
        refine VCsplit.intro (fun q11 => ?_) (fun q11 => ?_)
        ·
          simp at q11
          obtain ⟨hw1, hw2, hw3⟩ := walks_rng (hk2.2.2.2.1 ‹x.kind = 2›).1
          refine call_val (varText_ct _ ?_ ?_) trivial ?_
          · omega
          · omega
          rintro _ rfl
          refine callR_blk 1 (B4) [H] rfl ?_ (WriteString_ct _ _ _ _ _ _ _ _ (by first | exact .inl rfl | exact .inr rfl | assumption) o4 z4 ?_) trivial ?_
          · exact .refl _
          · simp; omega
          rintro _ A13 ⟨rfl, bb13, bc13, B13, rfl, o13, z13⟩
          refine ⟨_, _, [B13], rfl, perm1, ?_⟩
          apply loop_mod (α := (Nat) × (List UInt8) × (Hp) × (Option Addr) × (Nat)) G_ok [33, 34, 35, 6, 36, 37, 38, 39, 40, 41, 42, 43, 44, 45, 46, 47, 48, 49, 50, 32] (fun z => [(32, .v (.int .i64 z.1))]) (fun z => [⟨x0, [Value.int IntKind.i64 x.kind, Value.int IntKind.i64 x.atom, Value.int IntKind.i64 x.num, Value.bool x.black, Value.slice b4p x.walks.length c4p, Value.string x.text], (120 : Nat)⟩, ⟨x3, [Value.pointer (some { block := idOf [{ id := x0, cs := [Value.int IntKind.i64 x.kind, Value.int IntKind.i64 x.atom, Value.int IntKind.i64 x.num, Value.bool x.black, Value.slice b4p x.walks.length c4p, Value.string x.text], ty := (120 : Nat) }, { id := x3, cs := [Value.pointer (some { block := idOf [{ id := x0, cs := [Value.int IntKind.i64 x.kind, Value.int IntKind.i64 x.atom, Value.int IntKind.i64 x.num, Value.bool x.black, Value.slice b4p x.walks.length c4p, Value.string x.text], ty := (120 : Nat) }, { id := x3, cs := [Value.pointer none, Value.slice none (0 : Nat) (0 : Nat)], ty := (265 : Nat) }] ((0 : Nat) + (1 : Nat)), off := (0 : Nat) }), Value.slice bb4 ([] ++ [UInt8.ofNat (IntKind.u8.wrap x.kind).toNat]).length bc4], ty := (265 : Nat) }] ((0 : Nat) + (1 : Nat)), off := (0 : Nat) }), .slice z.2.2.2.1 z.2.1.length z.2.2.2.2], (265 : Nat)⟩]) (fun z => [z.2.2.1, H]) (fun z => x.walks.length - z.1) (fun z => z.1 ≤ x.walks.length ∧ z.2.1 = (UInt8.ofNat (IntKind.u8.wrap x.kind).toNat :: varT x.walks.length) ++ (x.walks.take z.1).flatMap walkBytes ∧ z.2.1.length ≤ 20 + 4 * z.1 ∧ (gSl 5 gY).ow [.slice z.2.2.2.1 z.2.1.length z.2.2.2.2] z.2.1 z.2.2.1 ∧ Bz z.2.2.2.1 z.2.2.2.2) ((0, _, _, _, _))
          · repeat' (first | exact trivial | refine ⟨⟨_, rfl, by first | rfl | exact inc_eq _ (by omega) | (refine sl_eq ?_; simp; done), by first | exact trivial | simp [SV.ok]⟩, ?_⟩)
          · exact ⟨rfl, rfl, trivial⟩
          · try dsimp only
            exact ⟨Nat.zero_le _, (List.append_nil _).symm, by simp; omega, by assumption, by assumption⟩
          · exact .refl _
          rintro ⟨k, o, A, b, c⟩ hI
          obtain ⟨hk, ho, hol, oA, zA⟩ : k ≤ x.walks.length ∧ o = (UInt8.ofNat (IntKind.u8.wrap x.kind).toNat :: varT x.walks.length) ++ (x.walks.take k).flatMap walkBytes ∧ o.length ≤ 20 + 4 * k ∧ (gSl 5 gY).ow [.slice b o.length c] o A ∧ Bz b c := hI
          try dsimp only
          refine VCsplit.intro (fun q14 => ?_) (fun q14 => ?_)
          ·
            simp at q14
            refine idx_rd h4p ?_ ?_ fun b15 o15 hb15 => ?_
            · omega
            · omega
            refine load_allN default (k) rfl h4p ?_ ?_ hb15 rfl (mem_at 1 rfl) fun l16 hl16 => ?_
            · omega
            · omega
            obtain ⟨rfl, w0x16, w1x16, w2x16, w3x16⟩ := gWalk_rd.1 hl16
            refine VCnew.intro fun x17 => ?_
            refine VCnew.intro fun x18 => ?_
            refine callR_blk 1 (A) [[(x18, Obj.cells { toList := Value.int IntKind.u8 (IntKind.u8.wrap (x.walks[k]?.getD default).atom) :: Value.int IntKind.u8 (IntKind.u8.wrap (x.walks[k]?.getD default).src) :: Value.int IntKind.u8 (IntKind.u8.wrap (x.walks[k]?.getD default).at') :: Value.int IntKind.u8 (IntKind.u8.wrap (x.walks[k]?.getD default).state) :: [].append (zeros (nat_lit 0) [Value.int IntKind.u8 (0 : Int)]) } (5 : TypeId))], H] rfl ?_ (Write_ct _ _ _ _ _ _ _ _ _ _ (([IntKind.u8.wrap (x.walks[k]?.getD default).atom, IntKind.u8.wrap (x.walks[k]?.getD default).src, IntKind.u8.wrap (x.walks[k]?.getD default).at', IntKind.u8.wrap (x.walks[k]?.getD default).state] : List Int).map fun v => UInt8.ofNat v.toNat) (by first | exact .inl rfl | exact .inr rfl | assumption) oA zA ?_ ?_) (by exact lit_bs [IntKind.u8.wrap (x.walks[k]?.getD default).atom, IntKind.u8.wrap (x.walks[k]?.getD default).src, IntKind.u8.wrap (x.walks[k]?.getD default).at', IntKind.u8.wrap (x.walks[k]?.getD default).state] (mem_at 0 rfl _ (List.mem_singleton.2 rfl)) rfl ⟨u8in _, u8in _, u8in _, u8in _, trivial⟩ (by simp)) ?_
            · exact .le fun a => by (try simp only [setR, List.cons_append, List.nil_append]); simp only [List.flatten_append, List.flatten_cons, List.flatten_nil, List.count_append, List.count_nil, List.append_nil, List.nil_append]; omega
            · simp_all
            · simp; omega
            rintro _ A19 ⟨rfl, bb19, bc19, B19, rfl, o19, z19⟩
            refine ⟨_, _, [B19], rfl, perm1, ?_⟩
            apply loop_stepA (k + 1, _, _, _, _)
            · exact .sub (by repeat (first | exact .slnil | apply List.Sublist.cons_cons | apply List.Sublist.cons))
            · repeat' (first | exact trivial | refine ⟨⟨_, rfl, by first | rfl | exact inc_eq _ (by omega) | (refine sl_eq ?_; simp; done), by first | exact trivial | simp [SV.ok]⟩, ?_⟩)
            · exact ⟨rfl, rfl, trivial⟩
            · try dsimp only
              exact ⟨by omega, wf_next (by omega) (hw3 k (by omega)) ho, by (simp; omega), by assumption, by assumption⟩
            · try dsimp only
              omega
          ·
            simp at q14
            refine callR_blk 1 (A) [H] rfl ?_ (String_ct _ _ _ _ _ _ _ oA zA) trivial ?_
            · exact .refl _
            rintro _ A20 ⟨rfl, rfl⟩
            refine ⟨_, _, [], rfl, perm0, ?_⟩
            (have hke : k = x.walks.length := (by omega); rw [lt_items2 (by assumption) (by omega), ‹letterM x = true›, ho, hke, List.take_length]; exact ⟨[], ⟨rfl, rfl⟩, (.le fun a => by (try simp only [setR, List.cons_append, List.nil_append]); simp [List.count_cons, Blk.ent, idOf]; try omega)⟩)
        ·
          simp at q11
          refine VCsplit.intro (fun q21 => ?_) (fun q21 => ?_)
          ·
            simp at q21
            refine call_val (varText_ct _ ?_ ?_) trivial ?_
            · (simp (disch := omega) only [wrap_of]; omega)
            · (simp (disch := omega) only [wrap_of]; omega)
            rintro _ rfl
            refine callR_blk 1 (B4) [H] rfl ?_ (WriteString_ct _ _ _ _ _ _ _ _ (by first | exact .inl rfl | exact .inr rfl | assumption) o4 z4 ?_) trivial ?_
            · exact .refl _
            · simp; omega
            rintro _ A23 ⟨rfl, bb23, bc23, B23, rfl, o23, z23⟩
            refine ⟨_, _, [B23], rfl, perm1, ?_⟩
            refine VCsplit.intro (fun q24 => ?_) (fun q24 => ?_)
            ·
              refine callR_blk 1 (B23) [H] rfl ?_ (WriteByteI_ct _ _ _ _ _ _ _ _ ?_ (by first | exact .inl rfl | exact .inr rfl | assumption) o23 z23 ?_) trivial ?_
              · exact .refl _
              · trivial
              · simp; omega
              rintro _ A25 ⟨rfl, bb25, bc25, B25, rfl, o25, z25⟩
              refine ⟨_, _, [B25], rfl, perm1, ?_⟩
              refine callR_blk 1 (B25) [H] rfl ?_ (String_ct _ _ _ _ _ _ _ o25 z25) trivial ?_
              · exact .refl _
              rintro _ A26 ⟨rfl, rfl⟩
              refine ⟨_, _, [], rfl, perm0, ?_⟩
              (rw [lt_tok (by assumption) (by omega), if_pos ‹x.black = true›, ‹letterM x = true›]; exact ⟨[], ⟨rfl, rfl⟩, (.le fun a => by (try simp only [setR, List.cons_append, List.nil_append]); simp [List.count_cons, Blk.ent, idOf]; try omega)⟩)
            ·
              refine callR_blk 1 (B23) [H] rfl ?_ (WriteByteI_ct _ _ _ _ _ _ _ _ ?_ (by first | exact .inl rfl | exact .inr rfl | assumption) o23 z23 ?_) trivial ?_
              · exact .refl _
              · trivial
              · simp; omega
              rintro _ A27 ⟨rfl, bb27, bc27, B27, rfl, o27, z27⟩
              refine ⟨_, _, [B27], rfl, perm1, ?_⟩
              refine callR_blk 1 (B27) [H] rfl ?_ (String_ct _ _ _ _ _ _ _ o27 z27) trivial ?_
              · exact .refl _
              rintro _ A28 ⟨rfl, rfl⟩
              refine ⟨_, _, [], rfl, perm0, ?_⟩
              (rw [lt_tok (by assumption) (by omega), if_neg (Bool.eq_false_iff.1 ‹x.black = false›), ‹letterM x = true›]; exact ⟨[], ⟨rfl, rfl⟩, (.le fun a => by (try simp only [setR, List.cons_append, List.nil_append]); simp [List.count_cons, Blk.ent, idOf]; try omega)⟩)
          ·
            simp at q21
            refine VCsplit.intro (fun q29 => ?_) (fun q29 => ?_)
            ·
              simp at q29
              refine callR_blk 1 (B4) [H] rfl ?_ (WriteByteI_ct _ _ _ _ _ _ _ _ ?_ (by first | exact .inl rfl | exact .inr rfl | assumption) o4 z4 ?_) trivial ?_
              · exact .refl _
              · (simp only [inU8, u8_wrap]; omega)
              · simp_all
              rintro _ A30 ⟨rfl, bb30, bc30, B30, rfl, o30, z30⟩
              refine ⟨_, _, [B30], rfl, perm1, ?_⟩
              refine callR_blk 1 (B30) [H] rfl ?_ (WriteString_ct _ _ _ _ _ _ _ _ (by first | exact .inl rfl | exact .inr rfl | assumption) o30 z30 ?_) trivial ?_
              · exact .refl _
              · simp; omega
              rintro _ A31 ⟨rfl, bb31, bc31, B31, rfl, o31, z31⟩
              refine ⟨_, _, [B31], rfl, perm1, ?_⟩
              refine callR_blk 1 (B31) [H] rfl ?_ (String_ct _ _ _ _ _ _ _ o31 z31) trivial ?_
              · exact .refl _
              rintro _ A32 ⟨rfl, rfl⟩
              refine ⟨_, _, [], rfl, perm0, ?_⟩
              (rw [lt_rows (by assumption) (by omega), ‹letterM x = true›]; exact ⟨[], ⟨rfl, rfl⟩, (.le fun a => by (try simp only [setR, List.cons_append, List.nil_append]); simp [List.count_cons, Blk.ent, idOf]; try omega)⟩)
            ·
              simp at q29
              refine callR_blk 1 (B4) [H] rfl ?_ (String_ct _ _ _ _ _ _ _ o4 z4) trivial ?_
              · exact .refl _
              rintro _ A33 ⟨rfl, rfl⟩
              refine ⟨_, _, [], rfl, perm0, ?_⟩
              (rw [lt_4 (by assumption) (by omega), ‹letterM x = true›]; exact ⟨[], ⟨rfl, rfl⟩, (.le fun a => by (try simp only [setR, List.cons_append, List.nil_append]); simp [List.count_cons, Blk.ent, idOf]; try omega)⟩)

end Go.Proofs.YtflfohphebmemaaGreat
