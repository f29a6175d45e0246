/-
  Copies of values, on both sides. Conditions: none.
-/
import Derived.Test.YtcikookachejfaaGc
import Derived.Test.YtcikookachejfaaSxZ
namespace Go.Proofs.Ytcikookachejfaa
open Go.SX Go.Proofs
set_option linter.unusedSimpArgs false
set_option linter.unusedVariables false
set_option maxHeartbeats 4000000
attribute [local irreducible] IntKind.wrap

theorem sl_none {α : Type} {T : TypeId} {g : Gt α} {H : Hp} {xs : List α} {b : Option Addr} {n c : Nat} (h : (gSl T g).rd H [.slice b n c] xs) (hb : b = none) : xs = [] := by
  obtain ⟨base, cap, e, -, h3⟩ := h
  cases xs with
  | nil => rfl
  | cons x xs =>
    obtain ⟨b', o, l', h4, -⟩ := h3 0 (by simp)
    injection e with e; injection e with e
    rw [hb, h4] at e; cases e

theorem tk1 {α : Type} (xs : List α) (k : Nat) (z : α) (h : k < xs.length) : xs.take (k + 1) = xs.take k ++ [xs[k]?.getD z] := by
  rw [← List.take_append_getElem h, List.getElem?_eq_getElem h]; rfl
--@ct slices.Clone[[]string,string] new cloneS_ct _ _ _ $1 ?_ | %1 | obtain ⟨b#, c#, rfl, o#⟩ := o#
theorem cloneS_ct (b : Option Addr) (m c : Nat) (xs : List ByteArray) (hx : szL gS xs ≤ 1048576) :
    Ct Try.prog 128 [.slice b m c] [] (fun H => (gSl 9 gS).rd H [.slice b m c] xs) (fun v A => ∃ b c, v = .slice b xs.length c ∧ (gSl 9 gS).ow [.slice b xs.length c] xs A) := by
  refine Ct.intro0 G_ok Try.func128 rfl rfl rfl fun E H hp => ?_
  obtain ⟨rfl, hcl, hl⟩ := sl_len hp
  have hls := len_szL gS xs
  refine VCsplit.intro (fun q0 => ?_) (fun q0 => ?_)
  ·
    simp at q0
    (obtain rfl := sl_none hp ‹_ = none›; exact ⟨[], ⟨none, 0, rfl, sl_nil _ _ _⟩, (.le fun a => by (try simp only [setR, List.cons_append, List.nil_append]); simp only [List.flatten_append, List.flatten_cons, List.flatten_nil, List.count_append, List.count_nil, List.append_nil, List.nil_append]; omega)⟩)
  ·
    simp at q0
    refine VCnew.intro fun x1 => ?_
    refine append_allN (g := gS) (T := (9 : TypeId)) G_ok (by repeat (first | exact fl_plain | apply plain_iso | apply plain_pair)) [] [[(x1, Obj.cells { toList := zeros (0 : Nat) [Value.string ByteArray.empty] } (9 : TypeId))], H] 1 ?_ (sl_nil _ _ _) rfl hp rfl rfl rfl rfl rfl rfl rfl rfl ?_ fun b2 c2 A2 o2 => ?_
    · exact .refl _
    · simp; omega
    exact ⟨_, ⟨_, _, rfl, by assumption⟩, (.le fun a => by (try simp only [setR, List.cons_append, List.nil_append]); simp only [List.flatten_append, List.flatten_cons, List.flatten_nil, List.count_append, List.count_nil, List.append_nil, List.nil_append]; omega)⟩

--@ct slices.Clone[[]impl.Atom,impl.Atom] new cloneAtom_ct _ _ _ $1 ?_ | %1 | obtain ⟨b#, c#, rfl, o#⟩ := o#
theorem cloneAtom_ct (b : Option Addr) (m c : Nat) (xs : List Atom) (hx : szL gAtom xs ≤ 1048576) :
    Ct Try.prog 228 [.slice b m c] [] (fun H => (gSl 147 gAtom).rd H [.slice b m c] xs) (fun v A => ∃ b c, v = .slice b xs.length c ∧ (gSl 147 gAtom).ow [.slice b xs.length c] xs A) := by
  refine Ct.intro0 G_ok Try.func228 rfl rfl rfl fun E H hp => ?_
  obtain ⟨rfl, hcl, hl⟩ := sl_len hp
  have hls := len_szL gAtom xs
  refine VCsplit.intro (fun q0 => ?_) (fun q0 => ?_)
  ·
    simp at q0
    (obtain rfl := sl_none hp ‹_ = none›; exact ⟨[], ⟨none, 0, rfl, sl_nil _ _ _⟩, (.le fun a => by (try simp only [setR, List.cons_append, List.nil_append]); simp only [List.flatten_append, List.flatten_cons, List.flatten_nil, List.count_append, List.count_nil, List.append_nil, List.nil_append]; omega)⟩)
  ·
    simp at q0
    refine VCnew.intro fun x1 => ?_
    refine append_allN (g := gAtom) (T := (147 : TypeId)) G_ok (by repeat (first | exact fl_plain | apply plain_iso | apply plain_pair)) [] [[(x1, Obj.cells { toList := zeros (0 : Nat) [Value.string ByteArray.empty, Value.string ByteArray.empty, Value.string ByteArray.empty] } (147 : TypeId))], H] 1 ?_ (sl_nil _ _ _) rfl hp rfl rfl rfl rfl rfl rfl rfl rfl ?_ fun b2 c2 A2 o2 => ?_
    · exact .refl _
    · simp; omega
    exact ⟨_, ⟨_, _, rfl, by assumption⟩, (.le fun a => by (try simp only [setR, List.cons_append, List.nil_append]); simp only [List.flatten_append, List.flatten_cons, List.flatten_nil, List.count_append, List.count_nil, List.append_nil, List.nil_append]; omega)⟩

--@ct slices.Clone[[]impl.Filter,impl.Filter] new cloneFilter_ct _ _ _ $1 ?_ | %1 | obtain ⟨b#, c#, rfl, o#⟩ := o#
theorem cloneFilter_ct (b : Option Addr) (m c : Nat) (xs : List Filter) (hx : szL gFilter xs ≤ 1048576) :
    Ct Try.prog 229 [.slice b m c] [] (fun H => (gSl 258 gFilter).rd H [.slice b m c] xs) (fun v A => ∃ b c, v = .slice b xs.length c ∧ (gSl 258 gFilter).ow [.slice b xs.length c] xs A) := by
  refine Ct.intro0 G_ok Try.func229 rfl rfl rfl fun E H hp => ?_
  obtain ⟨rfl, hcl, hl⟩ := sl_len hp
  have hls := len_szL gFilter xs
  refine VCsplit.intro (fun q0 => ?_) (fun q0 => ?_)
  ·
    simp at q0
    (obtain rfl := sl_none hp ‹_ = none›; exact ⟨[], ⟨none, 0, rfl, sl_nil _ _ _⟩, (.le fun a => by (try simp only [setR, List.cons_append, List.nil_append]); simp only [List.flatten_append, List.flatten_cons, List.flatten_nil, List.count_append, List.count_nil, List.append_nil, List.nil_append]; omega)⟩)
  ·
    simp at q0
    refine VCnew.intro fun x1 => ?_
    refine append_allN (g := gFilter) (T := (258 : TypeId)) G_ok (by repeat (first | exact fl_plain | apply plain_iso | apply plain_pair)) [] [[(x1, Obj.cells { toList := zeros (0 : Nat) [Value.string ByteArray.empty, Value.int IntKind.i64 (0 : Int), Value.string ByteArray.empty, Value.int IntKind.i64 (0 : Int)] } (258 : TypeId))], H] 1 ?_ (sl_nil _ _ _) rfl hp rfl rfl rfl rfl rfl rfl rfl rfl ?_ fun b2 c2 A2 o2 => ?_
    · exact .refl _
    · simp; omega
    exact ⟨_, ⟨_, _, rfl, by assumption⟩, (.le fun a => by (try simp only [setR, List.cons_append, List.nil_append]); simp only [List.flatten_append, List.flatten_cons, List.flatten_nil, List.count_append, List.count_nil, List.append_nil, List.nil_append]; omega)⟩

--@ct slices.Clone[[]int,int] new cloneI_ct _ _ _ $1 ?_ | %1 | obtain ⟨b#, c#, rfl, o#⟩ := o#
theorem cloneI_ct (b : Option Addr) (m c : Nat) (xs : List Int) (hx : szL gI xs ≤ 1048576) :
    Ct Try.prog 129 [.slice b m c] [] (fun H => (gSl 3 gI).rd H [.slice b m c] xs) (fun v A => ∃ b c, v = .slice b xs.length c ∧ (gSl 3 gI).ow [.slice b xs.length c] xs A) := by
  refine Ct.intro0 G_ok Try.func129 rfl rfl rfl fun E H hp => ?_
  obtain ⟨rfl, hcl, hl⟩ := sl_len hp
  have hls := len_szL gI xs
  refine VCsplit.intro (fun q0 => ?_) (fun q0 => ?_)
  ·
    simp at q0
    (obtain rfl := sl_none hp ‹_ = none›; exact ⟨[], ⟨none, 0, rfl, sl_nil _ _ _⟩, (.le fun a => by (try simp only [setR, List.cons_append, List.nil_append]); simp only [List.flatten_append, List.flatten_cons, List.flatten_nil, List.count_append, List.count_nil, List.append_nil, List.nil_append]; omega)⟩)
  ·
    simp at q0
    refine VCnew.intro fun x1 => ?_
    refine append_allN (g := gI) (T := (3 : TypeId)) G_ok (by repeat (first | exact fl_plain | apply plain_iso | apply plain_pair)) [] [[(x1, Obj.cells { toList := zeros (0 : Nat) [Value.int IntKind.i64 (0 : Int)] } (3 : TypeId))], H] 1 ?_ (sl_nil _ _ _) rfl hp rfl rfl rfl rfl rfl rfl rfl rfl ?_ fun b2 c2 A2 o2 => ?_
    · exact .refl _
    · simp; omega
    exact ⟨_, ⟨_, _, rfl, by assumption⟩, (.le fun a => by (try simp only [setR, List.cons_append, List.nil_append]); simp only [List.flatten_append, List.flatten_cons, List.flatten_nil, List.count_append, List.count_nil, List.append_nil, List.nil_append]; omega)⟩

--@ct impl.copyQuery new copyQuery_ct _ $1 ?_ | %1 | obtain ⟨l#, rfl, o#⟩ := o# ;; have r# := Gt.owrd _ o# ;; obtain ⟨b1x#, c1x#, b2x#, c2x#, b3x#, c3x#, rfl, h1x#, h2x#, h3x#⟩ := gQuery_rd.1 r#
theorem copyQuery_ct (l : List Value) (x : Query) (hx : gQuery.sz x ≤ 1048576) :
    Ct Try.prog 170 [.agg ⟨l⟩] [] (fun H => gQuery.rd H l x) (fun v A => ∃ l, v = .agg ⟨l⟩ ∧ gQuery.ow l x A) := by
  refine Ct.intro0 G_ok Try.func170 rfl rfl rfl fun E H hp => ?_
  obtain ⟨b1p, c1p, b2p, c2p, b3p, c3p, rfl, h1p, h2p, h3p⟩ := gQuery_rd.1 hp
  have ez := gQuery_sz (x)
  have en1 := len_szL gS (x.out)
  have en2 := len_szL gAtom (x.atoms)
  have en3 := len_szL gFilter (x.filters)
  refine VCnew.intro fun x0 => ?_
  refine VCnew.intro fun x1 => ?_
  refine draw G_ok mixed (some 12) (.q 0 (.q 1 (.q 2 (.q 3 (.q 5 (.q 6 (.q 8 (.q 9 (.f 4 (.f 7 (.f 10 (.q 11 (.tl 12 (.nil)))))))))))))) (by decide +kernel) ?_
  refine call_new (cloneS_ct _ _ _ (x.out) ?_) (Rp.mono _ (mem_at 0 rfl) h1p) ?_
  · omega
  rintro v2 A2 o2
  obtain ⟨b2, c2, rfl, o2⟩ := o2
  refine VC.intro ?_ ?_
  · exact keep_new
  refine call_new (cloneAtom_ct _ _ _ (x.atoms) ?_) (Rp.mono _ (mem_at 1 rfl) h2p) ?_
  · omega
  rintro v3 A3 o3
  obtain ⟨b3, c3, rfl, o3⟩ := o3
  refine VC.intro ?_ ?_
  · exact keep_sub (by simp) (by simp)
  refine call_new (cloneFilter_ct _ _ _ (x.filters) ?_) (Rp.mono _ (mem_at 2 rfl) h3p) ?_
  · omega
  rintro v4 A4 o4
  obtain ⟨b4, c4, rfl, o4⟩ := o4
  refine VC.intro ?_ ?_
  · exact keep_sub (by simp) (by simp)
  exact ⟨_, ⟨_, rfl, gQuery_ow.2 ⟨_, _, _, _, _, _, _, _, _, rfl, .refl _, by assumption, by assumption, by assumption⟩⟩, (.le fun a => by (try simp only [setR, List.cons_append, List.nil_append]); simp only [List.flatten_append, List.flatten_cons, List.flatten_nil, List.count_append, List.count_nil, List.append_nil, List.nil_append]; omega)⟩

--@ct spec.l08Copy new s_l08Copy_ct _ $1 ?_ | %1 | obtain ⟨l#, rfl, o#⟩ := o# ;; have r# := Gt.owrd _ o# ;; obtain ⟨b1x#, c1x#, b2x#, c2x#, b3x#, c3x#, rfl, h1x#, h2x#, h3x#⟩ := gQuery_rd.1 r#
theorem s_l08Copy_ct (l : List Value) (x : Query) (hx : gQuery.sz x ≤ 1048576) :
    Ct Try.prog 162 [.agg ⟨l⟩] [] (fun H => gQuery.rd H l x) (fun v A => ∃ l, v = .agg ⟨l⟩ ∧ gQuery.ow l x A) := by
  refine Ct.intro0 G_ok Try.func162 rfl rfl rfl fun E H hp => ?_
  obtain ⟨b1p, c1p, b2p, c2p, b3p, c3p, rfl, h1p, h2p, h3p⟩ := gQuery_rd.1 hp
  have ez := gQuery_sz (x)
  have en1 := len_szL gS (x.out)
  have en2 := len_szL gAtom (x.atoms)
  have en3 := len_szL gFilter (x.filters)
  refine VCnew.intro fun x0 => ?_
  refine VCnew.intro fun x1 => ?_
  refine draw G_ok mixed (some 15) (.q 0 (.q 1 (.q 3 (.q 4 (.q 7 (.q 8 (.q 11 (.q 12 (.hd (.alt 2 (.hd (.alt 5 (.hd (.alt 6 (.hd (.alt 9 (.f 10 (.f 13 (.q 14 (.tl 15 (.nil))))) (.alt 10 (.f 9 (.f 13 (.q 14 (.tl 15 (.nil))))) (.nil)))) (.alt 10 (.f 6 (.f 9 (.f 13 (.q 14 (.tl 15 (.nil)))))) (.nil)))) (.alt 6 (.hd (.alt 5 (.hd (.alt 9 (.f 10 (.f 13 (.q 14 (.tl 15 (.nil))))) (.alt 10 (.f 9 (.f 13 (.q 14 (.tl 15 (.nil))))) (.nil)))) (.alt 10 (.f 5 (.f 9 (.f 13 (.q 14 (.tl 15 (.nil)))))) (.nil)))) (.alt 10 (.hd (.alt 5 (.f 6 (.f 9 (.f 13 (.q 14 (.tl 15 (.nil)))))) (.alt 6 (.f 5 (.f 9 (.f 13 (.q 14 (.tl 15 (.nil)))))) (.nil)))) (.nil))))) (.alt 6 (.hd (.alt 2 (.hd (.alt 5 (.hd (.alt 9 (.f 10 (.f 13 (.q 14 (.tl 15 (.nil))))) (.alt 10 (.f 9 (.f 13 (.q 14 (.tl 15 (.nil))))) (.nil)))) (.alt 10 (.f 5 (.f 9 (.f 13 (.q 14 (.tl 15 (.nil)))))) (.nil)))) (.alt 10 (.f 2 (.f 5 (.f 9 (.f 13 (.q 14 (.tl 15 (.nil))))))) (.nil)))) (.alt 10 (.hd (.alt 2 (.hd (.alt 5 (.f 6 (.f 9 (.f 13 (.q 14 (.tl 15 (.nil)))))) (.alt 6 (.f 5 (.f 9 (.f 13 (.q 14 (.tl 15 (.nil)))))) (.nil)))) (.alt 6 (.f 2 (.f 5 (.f 9 (.f 13 (.q 14 (.tl 15 (.nil))))))) (.nil)))) (.nil))))))))))))) (by decide +kernel) ?_
  refine VC.intro ?_ ?_
  ·
    refine VCnew.intro fun x2 => ?_
    refine VC.intro ?_ ?_
    · exact keep_new
    refine VC.intro ?_ ?_
    ·
      refine append_allN (g := gS) (T := (9 : TypeId)) G_ok (by repeat (first | exact fl_plain | apply plain_iso | apply plain_pair)) [] [[(x2, Obj.cells { toList := zeros (0 : Nat) [Value.string ByteArray.empty] } (9 : TypeId))], H] 1 ?_ (sl_nil _ _ _) rfl h1p rfl rfl rfl rfl rfl rfl rfl rfl ?_ fun b3 c3 A3 o3 => ?_
      · exact .refl _
      · simp; omega
      refine VC.intro ?_ ?_
      · exact keep_sub (by simp) (by simp)
      refine VC.intro ?_ ?_
      ·
        refine VCnew.intro fun x4 => ?_
        refine VC.intro ?_ ?_
        · exact keep_sub (by simp) (by simp)
        refine VC.intro ?_ ?_
        ·
          refine append_allN (g := gAtom) (T := (147 : TypeId)) G_ok (by repeat (first | exact fl_plain | apply plain_iso | apply plain_pair)) [] [[(x4, Obj.cells { toList := zeros (0 : Nat) [Value.string ByteArray.empty, Value.string ByteArray.empty, Value.string ByteArray.empty] } (147 : TypeId))], A3, [(x2, Obj.cells { toList := zeros (0 : Nat) [Value.string ByteArray.empty] } (9 : TypeId))], H] 3 ?_ (sl_nil _ _ _) rfl h2p rfl rfl rfl rfl rfl rfl rfl rfl ?_ fun b5 c5 A5 o5 => ?_
          · exact .refl _
          · simp; omega
          refine VC.intro ?_ ?_
          · exact keep_sub (by simp) (by simp)
          refine VCnew.intro fun x6 => ?_
          refine VC.intro ?_ ?_
          · exact keep_sub (by simp) (by simp)
          refine append_allN (g := gFilter) (T := (258 : TypeId)) G_ok (by repeat (first | exact fl_plain | apply plain_iso | apply plain_pair)) [] [[(x6, Obj.cells { toList := zeros (0 : Nat) [Value.string ByteArray.empty, Value.int IntKind.i64 (0 : Int), Value.string ByteArray.empty, Value.int IntKind.i64 (0 : Int)] } (258 : TypeId))], A5, [(x4, Obj.cells { toList := zeros (0 : Nat) [Value.string ByteArray.empty, Value.string ByteArray.empty, Value.string ByteArray.empty] } (147 : TypeId))], A3, [(x2, Obj.cells { toList := zeros (0 : Nat) [Value.string ByteArray.empty] } (9 : TypeId))], H] 5 ?_ (sl_nil _ _ _) rfl h3p rfl rfl rfl rfl rfl rfl rfl rfl ?_ fun b7 c7 A7 o7 => ?_
          · exact .refl _
          · simp; omega
          refine VC.intro ?_ ?_
          · exact keep_sub (by simp) (by simp)
          exact ⟨_, ⟨_, rfl, gQuery_ow.2 ⟨_, _, _, _, _, _, _, _, _, rfl, .refl _, by assumption, by assumption, by assumption⟩⟩, (.le fun a => by (try simp only [setR, List.cons_append, List.nil_append]); simp only [List.flatten_append, List.flatten_cons, List.flatten_nil, List.count_append, List.count_nil, List.append_nil, List.nil_append]; omega)⟩
        ·
          refine VC.intro ?_ ?_
          ·
            refine VCnew.intro fun x8 => ?_
            refine VC.intro ?_ ?_
            · exact keep_sub (by simp) (by simp)
            refine append_allN (g := gAtom) (T := (147 : TypeId)) G_ok (by repeat (first | exact fl_plain | apply plain_iso | apply plain_pair)) [] [[(x8, Obj.cells { toList := zeros (0 : Nat) [Value.string ByteArray.empty, Value.int IntKind.i64 (0 : Int), Value.string ByteArray.empty, Value.int IntKind.i64 (0 : Int)] } (258 : TypeId))], [(x4, Obj.cells { toList := zeros (0 : Nat) [Value.string ByteArray.empty, Value.string ByteArray.empty, Value.string ByteArray.empty] } (147 : TypeId))], A3, [(x2, Obj.cells { toList := zeros (0 : Nat) [Value.string ByteArray.empty] } (9 : TypeId))], H] 4 ?_ (sl_nil _ _ _) rfl h2p rfl rfl rfl rfl rfl rfl rfl rfl ?_ fun b9 c9 A9 o9 => ?_
            · exact .refl _
            · simp; omega
            refine VC.intro ?_ ?_
            · exact keep_sub (by simp) (by simp)
            refine append_allN (g := gFilter) (T := (258 : TypeId)) G_ok (by repeat (first | exact fl_plain | apply plain_iso | apply plain_pair)) [] [A9, [(x8, Obj.cells { toList := zeros (0 : Nat) [Value.string ByteArray.empty, Value.int IntKind.i64 (0 : Int), Value.string ByteArray.empty, Value.int IntKind.i64 (0 : Int)] } (258 : TypeId))], [(x4, Obj.cells { toList := zeros (0 : Nat) [Value.string ByteArray.empty, Value.string ByteArray.empty, Value.string ByteArray.empty] } (147 : TypeId))], A3, [(x2, Obj.cells { toList := zeros (0 : Nat) [Value.string ByteArray.empty] } (9 : TypeId))], H] 5 ?_ (sl_nil _ _ _) rfl h3p rfl rfl rfl rfl rfl rfl rfl rfl ?_ fun b10 c10 A10 o10 => ?_
            · exact .refl _
            · simp; omega
            refine VC.intro ?_ ?_
            · exact keep_sub (by simp) (by simp)
            exact ⟨_, ⟨_, rfl, gQuery_ow.2 ⟨_, _, _, _, _, _, _, _, _, rfl, .refl _, by assumption, by assumption, by assumption⟩⟩, (.le fun a => by (try simp only [setR, List.cons_append, List.nil_append]); simp only [List.flatten_append, List.flatten_cons, List.flatten_nil, List.count_append, List.count_nil, List.append_nil, List.nil_append]; omega)⟩
          ·
            exact trivial
      ·
        refine VC.intro ?_ ?_
        ·
          refine VCnew.intro fun x11 => ?_
          refine VC.intro ?_ ?_
          · exact keep_sub (by simp) (by simp)
          refine VCnew.intro fun x12 => ?_
          refine VC.intro ?_ ?_
          · exact keep_sub (by simp) (by simp)
          refine append_allN (g := gAtom) (T := (147 : TypeId)) G_ok (by repeat (first | exact fl_plain | apply plain_iso | apply plain_pair)) [] [[(x12, Obj.cells { toList := zeros (0 : Nat) [Value.string ByteArray.empty, Value.string ByteArray.empty, Value.string ByteArray.empty] } (147 : TypeId))], [(x11, Obj.cells { toList := zeros (0 : Nat) [Value.string ByteArray.empty, Value.int IntKind.i64 (0 : Int), Value.string ByteArray.empty, Value.int IntKind.i64 (0 : Int)] } (258 : TypeId))], A3, [(x2, Obj.cells { toList := zeros (0 : Nat) [Value.string ByteArray.empty] } (9 : TypeId))], H] 4 ?_ (sl_nil _ _ _) rfl h2p rfl rfl rfl rfl rfl rfl rfl rfl ?_ fun b13 c13 A13 o13 => ?_
          · exact .refl _
          · simp; omega
          refine VC.intro ?_ ?_
          · exact keep_sub (by simp) (by simp)
          refine append_allN (g := gFilter) (T := (258 : TypeId)) G_ok (by repeat (first | exact fl_plain | apply plain_iso | apply plain_pair)) [] [A13, [(x12, Obj.cells { toList := zeros (0 : Nat) [Value.string ByteArray.empty, Value.string ByteArray.empty, Value.string ByteArray.empty] } (147 : TypeId))], [(x11, Obj.cells { toList := zeros (0 : Nat) [Value.string ByteArray.empty, Value.int IntKind.i64 (0 : Int), Value.string ByteArray.empty, Value.int IntKind.i64 (0 : Int)] } (258 : TypeId))], A3, [(x2, Obj.cells { toList := zeros (0 : Nat) [Value.string ByteArray.empty] } (9 : TypeId))], H] 5 ?_ (sl_nil _ _ _) rfl h3p rfl rfl rfl rfl rfl rfl rfl rfl ?_ fun b14 c14 A14 o14 => ?_
          · exact .refl _
          · simp; omega
          refine VC.intro ?_ ?_
          · exact keep_sub (by simp) (by simp)
          exact ⟨_, ⟨_, rfl, gQuery_ow.2 ⟨_, _, _, _, _, _, _, _, _, rfl, .refl _, by assumption, by assumption, by assumption⟩⟩, (.le fun a => by (try simp only [setR, List.cons_append, List.nil_append]); simp only [List.flatten_append, List.flatten_cons, List.flatten_nil, List.count_append, List.count_nil, List.append_nil, List.nil_append]; omega)⟩
        ·
          exact trivial
    ·
      refine VC.intro ?_ ?_
      ·
        refine VCnew.intro fun x15 => ?_
        refine VC.intro ?_ ?_
        · exact keep_sub (by simp) (by simp)
        refine VC.intro ?_ ?_
        ·
          refine append_allN (g := gS) (T := (9 : TypeId)) G_ok (by repeat (first | exact fl_plain | apply plain_iso | apply plain_pair)) [] [[(x15, Obj.cells { toList := zeros (0 : Nat) [Value.string ByteArray.empty, Value.string ByteArray.empty, Value.string ByteArray.empty] } (147 : TypeId))], [(x2, Obj.cells { toList := zeros (0 : Nat) [Value.string ByteArray.empty] } (9 : TypeId))], H] 2 ?_ (sl_nil _ _ _) rfl h1p rfl rfl rfl rfl rfl rfl rfl rfl ?_ fun b16 c16 A16 o16 => ?_
          · exact .refl _
          · simp; omega
          refine VC.intro ?_ ?_
          · exact keep_sub (by simp) (by simp)
          refine VC.intro ?_ ?_
          ·
            refine append_allN (g := gAtom) (T := (147 : TypeId)) G_ok (by repeat (first | exact fl_plain | apply plain_iso | apply plain_pair)) [] [A16, [(x15, Obj.cells { toList := zeros (0 : Nat) [Value.string ByteArray.empty, Value.string ByteArray.empty, Value.string ByteArray.empty] } (147 : TypeId))], [(x2, Obj.cells { toList := zeros (0 : Nat) [Value.string ByteArray.empty] } (9 : TypeId))], H] 3 ?_ (sl_nil _ _ _) rfl h2p rfl rfl rfl rfl rfl rfl rfl rfl ?_ fun b17 c17 A17 o17 => ?_
            · exact .refl _
            · simp; omega
            refine VC.intro ?_ ?_
            · exact keep_sub (by simp) (by simp)
            refine VCnew.intro fun x18 => ?_
            refine VC.intro ?_ ?_
            · exact keep_sub (by simp) (by simp)
            refine append_allN (g := gFilter) (T := (258 : TypeId)) G_ok (by repeat (first | exact fl_plain | apply plain_iso | apply plain_pair)) [] [[(x18, Obj.cells { toList := zeros (0 : Nat) [Value.string ByteArray.empty, Value.int IntKind.i64 (0 : Int), Value.string ByteArray.empty, Value.int IntKind.i64 (0 : Int)] } (258 : TypeId))], A17, A16, [(x15, Obj.cells { toList := zeros (0 : Nat) [Value.string ByteArray.empty, Value.string ByteArray.empty, Value.string ByteArray.empty] } (147 : TypeId))], [(x2, Obj.cells { toList := zeros (0 : Nat) [Value.string ByteArray.empty] } (9 : TypeId))], H] 5 ?_ (sl_nil _ _ _) rfl h3p rfl rfl rfl rfl rfl rfl rfl rfl ?_ fun b19 c19 A19 o19 => ?_
            · exact .refl _
            · simp; omega
            refine VC.intro ?_ ?_
            · exact keep_sub (by simp) (by simp)
            exact ⟨_, ⟨_, rfl, gQuery_ow.2 ⟨_, _, _, _, _, _, _, _, _, rfl, .refl _, by assumption, by assumption, by assumption⟩⟩, (.le fun a => by (try simp only [setR, List.cons_append, List.nil_append]); simp only [List.flatten_append, List.flatten_cons, List.flatten_nil, List.count_append, List.count_nil, List.append_nil, List.nil_append]; omega)⟩
          ·
            refine VC.intro ?_ ?_
            ·
              refine VCnew.intro fun x20 => ?_
              refine VC.intro ?_ ?_
              · exact keep_sub (by simp) (by simp)
              refine append_allN (g := gAtom) (T := (147 : TypeId)) G_ok (by repeat (first | exact fl_plain | apply plain_iso | apply plain_pair)) [] [[(x20, Obj.cells { toList := zeros (0 : Nat) [Value.string ByteArray.empty, Value.int IntKind.i64 (0 : Int), Value.string ByteArray.empty, Value.int IntKind.i64 (0 : Int)] } (258 : TypeId))], A16, [(x15, Obj.cells { toList := zeros (0 : Nat) [Value.string ByteArray.empty, Value.string ByteArray.empty, Value.string ByteArray.empty] } (147 : TypeId))], [(x2, Obj.cells { toList := zeros (0 : Nat) [Value.string ByteArray.empty] } (9 : TypeId))], H] 4 ?_ (sl_nil _ _ _) rfl h2p rfl rfl rfl rfl rfl rfl rfl rfl ?_ fun b21 c21 A21 o21 => ?_
              · exact .refl _
              · simp; omega
              refine VC.intro ?_ ?_
              · exact keep_sub (by simp) (by simp)
              refine append_allN (g := gFilter) (T := (258 : TypeId)) G_ok (by repeat (first | exact fl_plain | apply plain_iso | apply plain_pair)) [] [A21, [(x20, Obj.cells { toList := zeros (0 : Nat) [Value.string ByteArray.empty, Value.int IntKind.i64 (0 : Int), Value.string ByteArray.empty, Value.int IntKind.i64 (0 : Int)] } (258 : TypeId))], A16, [(x15, Obj.cells { toList := zeros (0 : Nat) [Value.string ByteArray.empty, Value.string ByteArray.empty, Value.string ByteArray.empty] } (147 : TypeId))], [(x2, Obj.cells { toList := zeros (0 : Nat) [Value.string ByteArray.empty] } (9 : TypeId))], H] 5 ?_ (sl_nil _ _ _) rfl h3p rfl rfl rfl rfl rfl rfl rfl rfl ?_ fun b22 c22 A22 o22 => ?_
              · exact .refl _
              · simp; omega
              refine VC.intro ?_ ?_
              · exact keep_sub (by simp) (by simp)
              exact ⟨_, ⟨_, rfl, gQuery_ow.2 ⟨_, _, _, _, _, _, _, _, _, rfl, .refl _, by assumption, by assumption, by assumption⟩⟩, (.le fun a => by (try simp only [setR, List.cons_append, List.nil_append]); simp only [List.flatten_append, List.flatten_cons, List.flatten_nil, List.count_append, List.count_nil, List.append_nil, List.nil_append]; omega)⟩
            ·
              exact trivial
        ·
          refine VC.intro ?_ ?_
          ·
            refine VCnew.intro fun x23 => ?_
            refine VC.intro ?_ ?_
            · exact keep_sub (by simp) (by simp)
            refine append_allN (g := gS) (T := (9 : TypeId)) G_ok (by repeat (first | exact fl_plain | apply plain_iso | apply plain_pair)) [] [[(x23, Obj.cells { toList := zeros (0 : Nat) [Value.string ByteArray.empty, Value.int IntKind.i64 (0 : Int), Value.string ByteArray.empty, Value.int IntKind.i64 (0 : Int)] } (258 : TypeId))], [(x15, Obj.cells { toList := zeros (0 : Nat) [Value.string ByteArray.empty, Value.string ByteArray.empty, Value.string ByteArray.empty] } (147 : TypeId))], [(x2, Obj.cells { toList := zeros (0 : Nat) [Value.string ByteArray.empty] } (9 : TypeId))], H] 3 ?_ (sl_nil _ _ _) rfl h1p rfl rfl rfl rfl rfl rfl rfl rfl ?_ fun b24 c24 A24 o24 => ?_
            · exact .refl _
            · simp; omega
            refine VC.intro ?_ ?_
            · exact keep_sub (by simp) (by simp)
            refine append_allN (g := gAtom) (T := (147 : TypeId)) G_ok (by repeat (first | exact fl_plain | apply plain_iso | apply plain_pair)) [] [A24, [(x23, Obj.cells { toList := zeros (0 : Nat) [Value.string ByteArray.empty, Value.int IntKind.i64 (0 : Int), Value.string ByteArray.empty, Value.int IntKind.i64 (0 : Int)] } (258 : TypeId))], [(x15, Obj.cells { toList := zeros (0 : Nat) [Value.string ByteArray.empty, Value.string ByteArray.empty, Value.string ByteArray.empty] } (147 : TypeId))], [(x2, Obj.cells { toList := zeros (0 : Nat) [Value.string ByteArray.empty] } (9 : TypeId))], H] 4 ?_ (sl_nil _ _ _) rfl h2p rfl rfl rfl rfl rfl rfl rfl rfl ?_ fun b25 c25 A25 o25 => ?_
            · exact .refl _
            · simp; omega
            refine VC.intro ?_ ?_
            · exact keep_sub (by simp) (by simp)
            refine append_allN (g := gFilter) (T := (258 : TypeId)) G_ok (by repeat (first | exact fl_plain | apply plain_iso | apply plain_pair)) [] [A25, A24, [(x23, Obj.cells { toList := zeros (0 : Nat) [Value.string ByteArray.empty, Value.int IntKind.i64 (0 : Int), Value.string ByteArray.empty, Value.int IntKind.i64 (0 : Int)] } (258 : TypeId))], [(x15, Obj.cells { toList := zeros (0 : Nat) [Value.string ByteArray.empty, Value.string ByteArray.empty, Value.string ByteArray.empty] } (147 : TypeId))], [(x2, Obj.cells { toList := zeros (0 : Nat) [Value.string ByteArray.empty] } (9 : TypeId))], H] 5 ?_ (sl_nil _ _ _) rfl h3p rfl rfl rfl rfl rfl rfl rfl rfl ?_ fun b26 c26 A26 o26 => ?_
            · exact .refl _
            · simp; omega
            refine VC.intro ?_ ?_
            · exact keep_sub (by simp) (by simp)
            exact ⟨_, ⟨_, rfl, gQuery_ow.2 ⟨_, _, _, _, _, _, _, _, _, rfl, .refl _, by assumption, by assumption, by assumption⟩⟩, (.le fun a => by (try simp only [setR, List.cons_append, List.nil_append]); simp only [List.flatten_append, List.flatten_cons, List.flatten_nil, List.count_append, List.count_nil, List.append_nil, List.nil_append]; omega)⟩
          ·
            exact trivial
      ·
        refine VC.intro ?_ ?_
        ·
          refine VCnew.intro fun x27 => ?_
          refine VC.intro ?_ ?_
          · exact keep_sub (by simp) (by simp)
          refine VC.intro ?_ ?_
          ·
            refine append_allN (g := gS) (T := (9 : TypeId)) G_ok (by repeat (first | exact fl_plain | apply plain_iso | apply plain_pair)) [] [[(x27, Obj.cells { toList := zeros (0 : Nat) [Value.string ByteArray.empty, Value.int IntKind.i64 (0 : Int), Value.string ByteArray.empty, Value.int IntKind.i64 (0 : Int)] } (258 : TypeId))], [(x2, Obj.cells { toList := zeros (0 : Nat) [Value.string ByteArray.empty] } (9 : TypeId))], H] 2 ?_ (sl_nil _ _ _) rfl h1p rfl rfl rfl rfl rfl rfl rfl rfl ?_ fun b28 c28 A28 o28 => ?_
            · exact .refl _
            · simp; omega
            refine VC.intro ?_ ?_
            · exact keep_sub (by simp) (by simp)
            refine VCnew.intro fun x29 => ?_
            refine VC.intro ?_ ?_
            · exact keep_sub (by simp) (by simp)
            refine append_allN (g := gAtom) (T := (147 : TypeId)) G_ok (by repeat (first | exact fl_plain | apply plain_iso | apply plain_pair)) [] [[(x29, Obj.cells { toList := zeros (0 : Nat) [Value.string ByteArray.empty, Value.string ByteArray.empty, Value.string ByteArray.empty] } (147 : TypeId))], A28, [(x27, Obj.cells { toList := zeros (0 : Nat) [Value.string ByteArray.empty, Value.int IntKind.i64 (0 : Int), Value.string ByteArray.empty, Value.int IntKind.i64 (0 : Int)] } (258 : TypeId))], [(x2, Obj.cells { toList := zeros (0 : Nat) [Value.string ByteArray.empty] } (9 : TypeId))], H] 4 ?_ (sl_nil _ _ _) rfl h2p rfl rfl rfl rfl rfl rfl rfl rfl ?_ fun b30 c30 A30 o30 => ?_
            · exact .refl _
            · simp; omega
            refine VC.intro ?_ ?_
            · exact keep_sub (by simp) (by simp)
            refine append_allN (g := gFilter) (T := (258 : TypeId)) G_ok (by repeat (first | exact fl_plain | apply plain_iso | apply plain_pair)) [] [A30, [(x29, Obj.cells { toList := zeros (0 : Nat) [Value.string ByteArray.empty, Value.string ByteArray.empty, Value.string ByteArray.empty] } (147 : TypeId))], A28, [(x27, Obj.cells { toList := zeros (0 : Nat) [Value.string ByteArray.empty, Value.int IntKind.i64 (0 : Int), Value.string ByteArray.empty, Value.int IntKind.i64 (0 : Int)] } (258 : TypeId))], [(x2, Obj.cells { toList := zeros (0 : Nat) [Value.string ByteArray.empty] } (9 : TypeId))], H] 5 ?_ (sl_nil _ _ _) rfl h3p rfl rfl rfl rfl rfl rfl rfl rfl ?_ fun b31 c31 A31 o31 => ?_
            · exact .refl _
            · simp; omega
            refine VC.intro ?_ ?_
            · exact keep_sub (by simp) (by simp)
            exact ⟨_, ⟨_, rfl, gQuery_ow.2 ⟨_, _, _, _, _, _, _, _, _, rfl, .refl _, by assumption, by assumption, by assumption⟩⟩, (.le fun a => by (try simp only [setR, List.cons_append, List.nil_append]); simp only [List.flatten_append, List.flatten_cons, List.flatten_nil, List.count_append, List.count_nil, List.append_nil, List.nil_append]; omega)⟩
          ·
            refine VC.intro ?_ ?_
            ·
              refine VCnew.intro fun x32 => ?_
              refine VC.intro ?_ ?_
              · exact keep_sub (by simp) (by simp)
              refine append_allN (g := gS) (T := (9 : TypeId)) G_ok (by repeat (first | exact fl_plain | apply plain_iso | apply plain_pair)) [] [[(x32, Obj.cells { toList := zeros (0 : Nat) [Value.string ByteArray.empty, Value.string ByteArray.empty, Value.string ByteArray.empty] } (147 : TypeId))], [(x27, Obj.cells { toList := zeros (0 : Nat) [Value.string ByteArray.empty, Value.int IntKind.i64 (0 : Int), Value.string ByteArray.empty, Value.int IntKind.i64 (0 : Int)] } (258 : TypeId))], [(x2, Obj.cells { toList := zeros (0 : Nat) [Value.string ByteArray.empty] } (9 : TypeId))], H] 3 ?_ (sl_nil _ _ _) rfl h1p rfl rfl rfl rfl rfl rfl rfl rfl ?_ fun b33 c33 A33 o33 => ?_
              · exact .refl _
              · simp; omega
              refine VC.intro ?_ ?_
              · exact keep_sub (by simp) (by simp)
              refine append_allN (g := gAtom) (T := (147 : TypeId)) G_ok (by repeat (first | exact fl_plain | apply plain_iso | apply plain_pair)) [] [A33, [(x32, Obj.cells { toList := zeros (0 : Nat) [Value.string ByteArray.empty, Value.string ByteArray.empty, Value.string ByteArray.empty] } (147 : TypeId))], [(x27, Obj.cells { toList := zeros (0 : Nat) [Value.string ByteArray.empty, Value.int IntKind.i64 (0 : Int), Value.string ByteArray.empty, Value.int IntKind.i64 (0 : Int)] } (258 : TypeId))], [(x2, Obj.cells { toList := zeros (0 : Nat) [Value.string ByteArray.empty] } (9 : TypeId))], H] 4 ?_ (sl_nil _ _ _) rfl h2p rfl rfl rfl rfl rfl rfl rfl rfl ?_ fun b34 c34 A34 o34 => ?_
              · exact .refl _
              · simp; omega
              refine VC.intro ?_ ?_
              · exact keep_sub (by simp) (by simp)
              refine append_allN (g := gFilter) (T := (258 : TypeId)) G_ok (by repeat (first | exact fl_plain | apply plain_iso | apply plain_pair)) [] [A34, A33, [(x32, Obj.cells { toList := zeros (0 : Nat) [Value.string ByteArray.empty, Value.string ByteArray.empty, Value.string ByteArray.empty] } (147 : TypeId))], [(x27, Obj.cells { toList := zeros (0 : Nat) [Value.string ByteArray.empty, Value.int IntKind.i64 (0 : Int), Value.string ByteArray.empty, Value.int IntKind.i64 (0 : Int)] } (258 : TypeId))], [(x2, Obj.cells { toList := zeros (0 : Nat) [Value.string ByteArray.empty] } (9 : TypeId))], H] 5 ?_ (sl_nil _ _ _) rfl h3p rfl rfl rfl rfl rfl rfl rfl rfl ?_ fun b35 c35 A35 o35 => ?_
              · exact .refl _
              · simp; omega
              refine VC.intro ?_ ?_
              · exact keep_sub (by simp) (by simp)
              exact ⟨_, ⟨_, rfl, gQuery_ow.2 ⟨_, _, _, _, _, _, _, _, _, rfl, .refl _, by assumption, by assumption, by assumption⟩⟩, (.le fun a => by (try simp only [setR, List.cons_append, List.nil_append]); simp only [List.flatten_append, List.flatten_cons, List.flatten_nil, List.count_append, List.count_nil, List.append_nil, List.nil_append]; omega)⟩
            ·
              exact trivial
        ·
          exact trivial
  ·
    refine VC.intro ?_ ?_
    ·
      refine VCnew.intro fun x36 => ?_
      refine VC.intro ?_ ?_
      · exact keep_new
      refine VC.intro ?_ ?_
      ·
        refine VCnew.intro fun x37 => ?_
        refine VC.intro ?_ ?_
        · exact keep_sub (by simp) (by simp)
        refine VC.intro ?_ ?_
        ·
          refine append_allN (g := gS) (T := (9 : TypeId)) G_ok (by repeat (first | exact fl_plain | apply plain_iso | apply plain_pair)) [] [[(x37, Obj.cells { toList := zeros (0 : Nat) [Value.string ByteArray.empty] } (9 : TypeId))], [(x36, Obj.cells { toList := zeros (0 : Nat) [Value.string ByteArray.empty, Value.string ByteArray.empty, Value.string ByteArray.empty] } (147 : TypeId))], H] 2 ?_ (sl_nil _ _ _) rfl h1p rfl rfl rfl rfl rfl rfl rfl rfl ?_ fun b38 c38 A38 o38 => ?_
          · exact .refl _
          · simp; omega
          refine VC.intro ?_ ?_
          · exact keep_sub (by simp) (by simp)
          refine VC.intro ?_ ?_
          ·
            refine append_allN (g := gAtom) (T := (147 : TypeId)) G_ok (by repeat (first | exact fl_plain | apply plain_iso | apply plain_pair)) [] [A38, [(x37, Obj.cells { toList := zeros (0 : Nat) [Value.string ByteArray.empty] } (9 : TypeId))], [(x36, Obj.cells { toList := zeros (0 : Nat) [Value.string ByteArray.empty, Value.string ByteArray.empty, Value.string ByteArray.empty] } (147 : TypeId))], H] 3 ?_ (sl_nil _ _ _) rfl h2p rfl rfl rfl rfl rfl rfl rfl rfl ?_ fun b39 c39 A39 o39 => ?_
            · exact .refl _
            · simp; omega
            refine VC.intro ?_ ?_
            · exact keep_sub (by simp) (by simp)
            refine VCnew.intro fun x40 => ?_
            refine VC.intro ?_ ?_
            · exact keep_sub (by simp) (by simp)
            refine append_allN (g := gFilter) (T := (258 : TypeId)) G_ok (by repeat (first | exact fl_plain | apply plain_iso | apply plain_pair)) [] [[(x40, Obj.cells { toList := zeros (0 : Nat) [Value.string ByteArray.empty, Value.int IntKind.i64 (0 : Int), Value.string ByteArray.empty, Value.int IntKind.i64 (0 : Int)] } (258 : TypeId))], A39, A38, [(x37, Obj.cells { toList := zeros (0 : Nat) [Value.string ByteArray.empty] } (9 : TypeId))], [(x36, Obj.cells { toList := zeros (0 : Nat) [Value.string ByteArray.empty, Value.string ByteArray.empty, Value.string ByteArray.empty] } (147 : TypeId))], H] 5 ?_ (sl_nil _ _ _) rfl h3p rfl rfl rfl rfl rfl rfl rfl rfl ?_ fun b41 c41 A41 o41 => ?_
            · exact .refl _
            · simp; omega
            refine VC.intro ?_ ?_
            · exact keep_sub (by simp) (by simp)
            exact ⟨_, ⟨_, rfl, gQuery_ow.2 ⟨_, _, _, _, _, _, _, _, _, rfl, .refl _, by assumption, by assumption, by assumption⟩⟩, (.le fun a => by (try simp only [setR, List.cons_append, List.nil_append]); simp only [List.flatten_append, List.flatten_cons, List.flatten_nil, List.count_append, List.count_nil, List.append_nil, List.nil_append]; omega)⟩
          ·
            refine VC.intro ?_ ?_
            ·
              refine VCnew.intro fun x42 => ?_
              refine VC.intro ?_ ?_
              · exact keep_sub (by simp) (by simp)
              refine append_allN (g := gAtom) (T := (147 : TypeId)) G_ok (by repeat (first | exact fl_plain | apply plain_iso | apply plain_pair)) [] [[(x42, Obj.cells { toList := zeros (0 : Nat) [Value.string ByteArray.empty, Value.int IntKind.i64 (0 : Int), Value.string ByteArray.empty, Value.int IntKind.i64 (0 : Int)] } (258 : TypeId))], A38, [(x37, Obj.cells { toList := zeros (0 : Nat) [Value.string ByteArray.empty] } (9 : TypeId))], [(x36, Obj.cells { toList := zeros (0 : Nat) [Value.string ByteArray.empty, Value.string ByteArray.empty, Value.string ByteArray.empty] } (147 : TypeId))], H] 4 ?_ (sl_nil _ _ _) rfl h2p rfl rfl rfl rfl rfl rfl rfl rfl ?_ fun b43 c43 A43 o43 => ?_
              · exact .refl _
              · simp; omega
              refine VC.intro ?_ ?_
              · exact keep_sub (by simp) (by simp)
              refine append_allN (g := gFilter) (T := (258 : TypeId)) G_ok (by repeat (first | exact fl_plain | apply plain_iso | apply plain_pair)) [] [A43, [(x42, Obj.cells { toList := zeros (0 : Nat) [Value.string ByteArray.empty, Value.int IntKind.i64 (0 : Int), Value.string ByteArray.empty, Value.int IntKind.i64 (0 : Int)] } (258 : TypeId))], A38, [(x37, Obj.cells { toList := zeros (0 : Nat) [Value.string ByteArray.empty] } (9 : TypeId))], [(x36, Obj.cells { toList := zeros (0 : Nat) [Value.string ByteArray.empty, Value.string ByteArray.empty, Value.string ByteArray.empty] } (147 : TypeId))], H] 5 ?_ (sl_nil _ _ _) rfl h3p rfl rfl rfl rfl rfl rfl rfl rfl ?_ fun b44 c44 A44 o44 => ?_
              · exact .refl _
              · simp; omega
              refine VC.intro ?_ ?_
              · exact keep_sub (by simp) (by simp)
              exact ⟨_, ⟨_, rfl, gQuery_ow.2 ⟨_, _, _, _, _, _, _, _, _, rfl, .refl _, by assumption, by assumption, by assumption⟩⟩, (.le fun a => by (try simp only [setR, List.cons_append, List.nil_append]); simp only [List.flatten_append, List.flatten_cons, List.flatten_nil, List.count_append, List.count_nil, List.append_nil, List.nil_append]; omega)⟩
            ·
              exact trivial
        ·
          refine VC.intro ?_ ?_
          ·
            refine VCnew.intro fun x45 => ?_
            refine VC.intro ?_ ?_
            · exact keep_sub (by simp) (by simp)
            refine append_allN (g := gS) (T := (9 : TypeId)) G_ok (by repeat (first | exact fl_plain | apply plain_iso | apply plain_pair)) [] [[(x45, Obj.cells { toList := zeros (0 : Nat) [Value.string ByteArray.empty, Value.int IntKind.i64 (0 : Int), Value.string ByteArray.empty, Value.int IntKind.i64 (0 : Int)] } (258 : TypeId))], [(x37, Obj.cells { toList := zeros (0 : Nat) [Value.string ByteArray.empty] } (9 : TypeId))], [(x36, Obj.cells { toList := zeros (0 : Nat) [Value.string ByteArray.empty, Value.string ByteArray.empty, Value.string ByteArray.empty] } (147 : TypeId))], H] 3 ?_ (sl_nil _ _ _) rfl h1p rfl rfl rfl rfl rfl rfl rfl rfl ?_ fun b46 c46 A46 o46 => ?_
            · exact .refl _
            · simp; omega
            refine VC.intro ?_ ?_
            · exact keep_sub (by simp) (by simp)
            refine append_allN (g := gAtom) (T := (147 : TypeId)) G_ok (by repeat (first | exact fl_plain | apply plain_iso | apply plain_pair)) [] [A46, [(x45, Obj.cells { toList := zeros (0 : Nat) [Value.string ByteArray.empty, Value.int IntKind.i64 (0 : Int), Value.string ByteArray.empty, Value.int IntKind.i64 (0 : Int)] } (258 : TypeId))], [(x37, Obj.cells { toList := zeros (0 : Nat) [Value.string ByteArray.empty] } (9 : TypeId))], [(x36, Obj.cells { toList := zeros (0 : Nat) [Value.string ByteArray.empty, Value.string ByteArray.empty, Value.string ByteArray.empty] } (147 : TypeId))], H] 4 ?_ (sl_nil _ _ _) rfl h2p rfl rfl rfl rfl rfl rfl rfl rfl ?_ fun b47 c47 A47 o47 => ?_
            · exact .refl _
            · simp; omega
            refine VC.intro ?_ ?_
            · exact keep_sub (by simp) (by simp)
            refine append_allN (g := gFilter) (T := (258 : TypeId)) G_ok (by repeat (first | exact fl_plain | apply plain_iso | apply plain_pair)) [] [A47, A46, [(x45, Obj.cells { toList := zeros (0 : Nat) [Value.string ByteArray.empty, Value.int IntKind.i64 (0 : Int), Value.string ByteArray.empty, Value.int IntKind.i64 (0 : Int)] } (258 : TypeId))], [(x37, Obj.cells { toList := zeros (0 : Nat) [Value.string ByteArray.empty] } (9 : TypeId))], [(x36, Obj.cells { toList := zeros (0 : Nat) [Value.string ByteArray.empty, Value.string ByteArray.empty, Value.string ByteArray.empty] } (147 : TypeId))], H] 5 ?_ (sl_nil _ _ _) rfl h3p rfl rfl rfl rfl rfl rfl rfl rfl ?_ fun b48 c48 A48 o48 => ?_
            · exact .refl _
            · simp; omega
            refine VC.intro ?_ ?_
            · exact keep_sub (by simp) (by simp)
            exact ⟨_, ⟨_, rfl, gQuery_ow.2 ⟨_, _, _, _, _, _, _, _, _, rfl, .refl _, by assumption, by assumption, by assumption⟩⟩, (.le fun a => by (try simp only [setR, List.cons_append, List.nil_append]); simp only [List.flatten_append, List.flatten_cons, List.flatten_nil, List.count_append, List.count_nil, List.append_nil, List.nil_append]; omega)⟩
          ·
            exact trivial
      ·
        refine VC.intro ?_ ?_
        ·
          refine VCnew.intro fun x49 => ?_
          refine VC.intro ?_ ?_
          · exact keep_sub (by simp) (by simp)
          refine VCnew.intro fun x50 => ?_
          refine VC.intro ?_ ?_
          · exact keep_sub (by simp) (by simp)
          refine append_allN (g := gS) (T := (9 : TypeId)) G_ok (by repeat (first | exact fl_plain | apply plain_iso | apply plain_pair)) [] [[(x50, Obj.cells { toList := zeros (0 : Nat) [Value.string ByteArray.empty] } (9 : TypeId))], [(x49, Obj.cells { toList := zeros (0 : Nat) [Value.string ByteArray.empty, Value.int IntKind.i64 (0 : Int), Value.string ByteArray.empty, Value.int IntKind.i64 (0 : Int)] } (258 : TypeId))], [(x36, Obj.cells { toList := zeros (0 : Nat) [Value.string ByteArray.empty, Value.string ByteArray.empty, Value.string ByteArray.empty] } (147 : TypeId))], H] 3 ?_ (sl_nil _ _ _) rfl h1p rfl rfl rfl rfl rfl rfl rfl rfl ?_ fun b51 c51 A51 o51 => ?_
          · exact .refl _
          · simp; omega
          refine VC.intro ?_ ?_
          · exact keep_sub (by simp) (by simp)
          refine append_allN (g := gAtom) (T := (147 : TypeId)) G_ok (by repeat (first | exact fl_plain | apply plain_iso | apply plain_pair)) [] [A51, [(x50, Obj.cells { toList := zeros (0 : Nat) [Value.string ByteArray.empty] } (9 : TypeId))], [(x49, Obj.cells { toList := zeros (0 : Nat) [Value.string ByteArray.empty, Value.int IntKind.i64 (0 : Int), Value.string ByteArray.empty, Value.int IntKind.i64 (0 : Int)] } (258 : TypeId))], [(x36, Obj.cells { toList := zeros (0 : Nat) [Value.string ByteArray.empty, Value.string ByteArray.empty, Value.string ByteArray.empty] } (147 : TypeId))], H] 4 ?_ (sl_nil _ _ _) rfl h2p rfl rfl rfl rfl rfl rfl rfl rfl ?_ fun b52 c52 A52 o52 => ?_
          · exact .refl _
          · simp; omega
          refine VC.intro ?_ ?_
          · exact keep_sub (by simp) (by simp)
          refine append_allN (g := gFilter) (T := (258 : TypeId)) G_ok (by repeat (first | exact fl_plain | apply plain_iso | apply plain_pair)) [] [A52, A51, [(x50, Obj.cells { toList := zeros (0 : Nat) [Value.string ByteArray.empty] } (9 : TypeId))], [(x49, Obj.cells { toList := zeros (0 : Nat) [Value.string ByteArray.empty, Value.int IntKind.i64 (0 : Int), Value.string ByteArray.empty, Value.int IntKind.i64 (0 : Int)] } (258 : TypeId))], [(x36, Obj.cells { toList := zeros (0 : Nat) [Value.string ByteArray.empty, Value.string ByteArray.empty, Value.string ByteArray.empty] } (147 : TypeId))], H] 5 ?_ (sl_nil _ _ _) rfl h3p rfl rfl rfl rfl rfl rfl rfl rfl ?_ fun b53 c53 A53 o53 => ?_
          · exact .refl _
          · simp; omega
          refine VC.intro ?_ ?_
          · exact keep_sub (by simp) (by simp)
          exact ⟨_, ⟨_, rfl, gQuery_ow.2 ⟨_, _, _, _, _, _, _, _, _, rfl, .refl _, by assumption, by assumption, by assumption⟩⟩, (.le fun a => by (try simp only [setR, List.cons_append, List.nil_append]); simp only [List.flatten_append, List.flatten_cons, List.flatten_nil, List.count_append, List.count_nil, List.append_nil, List.nil_append]; omega)⟩
        ·
          exact trivial
    ·
      refine VC.intro ?_ ?_
      ·
        refine VCnew.intro fun x54 => ?_
        refine VC.intro ?_ ?_
        · exact keep_new
        refine VC.intro ?_ ?_
        ·
          refine VCnew.intro fun x55 => ?_
          refine VC.intro ?_ ?_
          · exact keep_sub (by simp) (by simp)
          refine VC.intro ?_ ?_
          ·
            refine append_allN (g := gS) (T := (9 : TypeId)) G_ok (by repeat (first | exact fl_plain | apply plain_iso | apply plain_pair)) [] [[(x55, Obj.cells { toList := zeros (0 : Nat) [Value.string ByteArray.empty] } (9 : TypeId))], [(x54, Obj.cells { toList := zeros (0 : Nat) [Value.string ByteArray.empty, Value.int IntKind.i64 (0 : Int), Value.string ByteArray.empty, Value.int IntKind.i64 (0 : Int)] } (258 : TypeId))], H] 2 ?_ (sl_nil _ _ _) rfl h1p rfl rfl rfl rfl rfl rfl rfl rfl ?_ fun b56 c56 A56 o56 => ?_
            · exact .refl _
            · simp; omega
            refine VC.intro ?_ ?_
            · exact keep_sub (by simp) (by simp)
            refine VCnew.intro fun x57 => ?_
            refine VC.intro ?_ ?_
            · exact keep_sub (by simp) (by simp)
            refine append_allN (g := gAtom) (T := (147 : TypeId)) G_ok (by repeat (first | exact fl_plain | apply plain_iso | apply plain_pair)) [] [[(x57, Obj.cells { toList := zeros (0 : Nat) [Value.string ByteArray.empty, Value.string ByteArray.empty, Value.string ByteArray.empty] } (147 : TypeId))], A56, [(x55, Obj.cells { toList := zeros (0 : Nat) [Value.string ByteArray.empty] } (9 : TypeId))], [(x54, Obj.cells { toList := zeros (0 : Nat) [Value.string ByteArray.empty, Value.int IntKind.i64 (0 : Int), Value.string ByteArray.empty, Value.int IntKind.i64 (0 : Int)] } (258 : TypeId))], H] 4 ?_ (sl_nil _ _ _) rfl h2p rfl rfl rfl rfl rfl rfl rfl rfl ?_ fun b58 c58 A58 o58 => ?_
            · exact .refl _
            · simp; omega
            refine VC.intro ?_ ?_
            · exact keep_sub (by simp) (by simp)
            refine append_allN (g := gFilter) (T := (258 : TypeId)) G_ok (by repeat (first | exact fl_plain | apply plain_iso | apply plain_pair)) [] [A58, [(x57, Obj.cells { toList := zeros (0 : Nat) [Value.string ByteArray.empty, Value.string ByteArray.empty, Value.string ByteArray.empty] } (147 : TypeId))], A56, [(x55, Obj.cells { toList := zeros (0 : Nat) [Value.string ByteArray.empty] } (9 : TypeId))], [(x54, Obj.cells { toList := zeros (0 : Nat) [Value.string ByteArray.empty, Value.int IntKind.i64 (0 : Int), Value.string ByteArray.empty, Value.int IntKind.i64 (0 : Int)] } (258 : TypeId))], H] 5 ?_ (sl_nil _ _ _) rfl h3p rfl rfl rfl rfl rfl rfl rfl rfl ?_ fun b59 c59 A59 o59 => ?_
            · exact .refl _
            · simp; omega
            refine VC.intro ?_ ?_
            · exact keep_sub (by simp) (by simp)
            exact ⟨_, ⟨_, rfl, gQuery_ow.2 ⟨_, _, _, _, _, _, _, _, _, rfl, .refl _, by assumption, by assumption, by assumption⟩⟩, (.le fun a => by (try simp only [setR, List.cons_append, List.nil_append]); simp only [List.flatten_append, List.flatten_cons, List.flatten_nil, List.count_append, List.count_nil, List.append_nil, List.nil_append]; omega)⟩
          ·
            refine VC.intro ?_ ?_
            ·
              refine VCnew.intro fun x60 => ?_
              refine VC.intro ?_ ?_
              · exact keep_sub (by simp) (by simp)
              refine append_allN (g := gS) (T := (9 : TypeId)) G_ok (by repeat (first | exact fl_plain | apply plain_iso | apply plain_pair)) [] [[(x60, Obj.cells { toList := zeros (0 : Nat) [Value.string ByteArray.empty, Value.string ByteArray.empty, Value.string ByteArray.empty] } (147 : TypeId))], [(x55, Obj.cells { toList := zeros (0 : Nat) [Value.string ByteArray.empty] } (9 : TypeId))], [(x54, Obj.cells { toList := zeros (0 : Nat) [Value.string ByteArray.empty, Value.int IntKind.i64 (0 : Int), Value.string ByteArray.empty, Value.int IntKind.i64 (0 : Int)] } (258 : TypeId))], H] 3 ?_ (sl_nil _ _ _) rfl h1p rfl rfl rfl rfl rfl rfl rfl rfl ?_ fun b61 c61 A61 o61 => ?_
              · exact .refl _
              · simp; omega
              refine VC.intro ?_ ?_
              · exact keep_sub (by simp) (by simp)
              refine append_allN (g := gAtom) (T := (147 : TypeId)) G_ok (by repeat (first | exact fl_plain | apply plain_iso | apply plain_pair)) [] [A61, [(x60, Obj.cells { toList := zeros (0 : Nat) [Value.string ByteArray.empty, Value.string ByteArray.empty, Value.string ByteArray.empty] } (147 : TypeId))], [(x55, Obj.cells { toList := zeros (0 : Nat) [Value.string ByteArray.empty] } (9 : TypeId))], [(x54, Obj.cells { toList := zeros (0 : Nat) [Value.string ByteArray.empty, Value.int IntKind.i64 (0 : Int), Value.string ByteArray.empty, Value.int IntKind.i64 (0 : Int)] } (258 : TypeId))], H] 4 ?_ (sl_nil _ _ _) rfl h2p rfl rfl rfl rfl rfl rfl rfl rfl ?_ fun b62 c62 A62 o62 => ?_
              · exact .refl _
              · simp; omega
              refine VC.intro ?_ ?_
              · exact keep_sub (by simp) (by simp)
              refine append_allN (g := gFilter) (T := (258 : TypeId)) G_ok (by repeat (first | exact fl_plain | apply plain_iso | apply plain_pair)) [] [A62, A61, [(x60, Obj.cells { toList := zeros (0 : Nat) [Value.string ByteArray.empty, Value.string ByteArray.empty, Value.string ByteArray.empty] } (147 : TypeId))], [(x55, Obj.cells { toList := zeros (0 : Nat) [Value.string ByteArray.empty] } (9 : TypeId))], [(x54, Obj.cells { toList := zeros (0 : Nat) [Value.string ByteArray.empty, Value.int IntKind.i64 (0 : Int), Value.string ByteArray.empty, Value.int IntKind.i64 (0 : Int)] } (258 : TypeId))], H] 5 ?_ (sl_nil _ _ _) rfl h3p rfl rfl rfl rfl rfl rfl rfl rfl ?_ fun b63 c63 A63 o63 => ?_
              · exact .refl _
              · simp; omega
              refine VC.intro ?_ ?_
              · exact keep_sub (by simp) (by simp)
              exact ⟨_, ⟨_, rfl, gQuery_ow.2 ⟨_, _, _, _, _, _, _, _, _, rfl, .refl _, by assumption, by assumption, by assumption⟩⟩, (.le fun a => by (try simp only [setR, List.cons_append, List.nil_append]); simp only [List.flatten_append, List.flatten_cons, List.flatten_nil, List.count_append, List.count_nil, List.append_nil, List.nil_append]; omega)⟩
            ·
              exact trivial
        ·
          refine VC.intro ?_ ?_
          ·
            refine VCnew.intro fun x64 => ?_
            refine VC.intro ?_ ?_
            · exact keep_sub (by simp) (by simp)
            refine VCnew.intro fun x65 => ?_
            refine VC.intro ?_ ?_
            · exact keep_sub (by simp) (by simp)
            refine append_allN (g := gS) (T := (9 : TypeId)) G_ok (by repeat (first | exact fl_plain | apply plain_iso | apply plain_pair)) [] [[(x65, Obj.cells { toList := zeros (0 : Nat) [Value.string ByteArray.empty] } (9 : TypeId))], [(x64, Obj.cells { toList := zeros (0 : Nat) [Value.string ByteArray.empty, Value.string ByteArray.empty, Value.string ByteArray.empty] } (147 : TypeId))], [(x54, Obj.cells { toList := zeros (0 : Nat) [Value.string ByteArray.empty, Value.int IntKind.i64 (0 : Int), Value.string ByteArray.empty, Value.int IntKind.i64 (0 : Int)] } (258 : TypeId))], H] 3 ?_ (sl_nil _ _ _) rfl h1p rfl rfl rfl rfl rfl rfl rfl rfl ?_ fun b66 c66 A66 o66 => ?_
            · exact .refl _
            · simp; omega
            refine VC.intro ?_ ?_
            · exact keep_sub (by simp) (by simp)
            refine append_allN (g := gAtom) (T := (147 : TypeId)) G_ok (by repeat (first | exact fl_plain | apply plain_iso | apply plain_pair)) [] [A66, [(x65, Obj.cells { toList := zeros (0 : Nat) [Value.string ByteArray.empty] } (9 : TypeId))], [(x64, Obj.cells { toList := zeros (0 : Nat) [Value.string ByteArray.empty, Value.string ByteArray.empty, Value.string ByteArray.empty] } (147 : TypeId))], [(x54, Obj.cells { toList := zeros (0 : Nat) [Value.string ByteArray.empty, Value.int IntKind.i64 (0 : Int), Value.string ByteArray.empty, Value.int IntKind.i64 (0 : Int)] } (258 : TypeId))], H] 4 ?_ (sl_nil _ _ _) rfl h2p rfl rfl rfl rfl rfl rfl rfl rfl ?_ fun b67 c67 A67 o67 => ?_
            · exact .refl _
            · simp; omega
            refine VC.intro ?_ ?_
            · exact keep_sub (by simp) (by simp)
            refine append_allN (g := gFilter) (T := (258 : TypeId)) G_ok (by repeat (first | exact fl_plain | apply plain_iso | apply plain_pair)) [] [A67, A66, [(x65, Obj.cells { toList := zeros (0 : Nat) [Value.string ByteArray.empty] } (9 : TypeId))], [(x64, Obj.cells { toList := zeros (0 : Nat) [Value.string ByteArray.empty, Value.string ByteArray.empty, Value.string ByteArray.empty] } (147 : TypeId))], [(x54, Obj.cells { toList := zeros (0 : Nat) [Value.string ByteArray.empty, Value.int IntKind.i64 (0 : Int), Value.string ByteArray.empty, Value.int IntKind.i64 (0 : Int)] } (258 : TypeId))], H] 5 ?_ (sl_nil _ _ _) rfl h3p rfl rfl rfl rfl rfl rfl rfl rfl ?_ fun b68 c68 A68 o68 => ?_
            · exact .refl _
            · simp; omega
            refine VC.intro ?_ ?_
            · exact keep_sub (by simp) (by simp)
            exact ⟨_, ⟨_, rfl, gQuery_ow.2 ⟨_, _, _, _, _, _, _, _, _, rfl, .refl _, by assumption, by assumption, by assumption⟩⟩, (.le fun a => by (try simp only [setR, List.cons_append, List.nil_append]); simp only [List.flatten_append, List.flatten_cons, List.flatten_nil, List.count_append, List.count_nil, List.append_nil, List.nil_append]; omega)⟩
          ·
            exact trivial
      ·
        exact trivial

--@ct impl.copyBag new copyBag_ct _ $1 ?_ | %1 | obtain ⟨l#, rfl, o#⟩ := o# ;; have r# := Gt.owrd _ o# ;; obtain ⟨b0x#, c0x#, rfl, h0x#⟩ := gBag_rd.1 r#
theorem copyBag_ct (l : List Value) (x : Bag) (hx : gBag.sz x ≤ 1048576) :
    Ct Try.prog 112 [.agg ⟨l⟩] [] (fun H => gBag.rd H l x) (fun v A => ∃ l, v = .agg ⟨l⟩ ∧ gBag.ow l x A) := by
  refine Ct.intro0 G_ok Try.func112 rfl rfl rfl fun E H hp => ?_
  obtain ⟨b0p, c0p, rfl, h0p⟩ := gBag_rd.1 hp
  have ez := gBag_sz (x)
  have en0 := len_szL gItem (x.items)
  have hq := szL_eq gItem (x.items)
  refine VCnew.intro fun x0 => ?_
  refine VCnew.intro fun x1 => ?_
  refine VCnew.intro fun x2 => ?_
  apply loop_mod (α := (Nat) × (Hp) × (Option Addr) × (Nat)) G_ok [10, 11, 12, 5, 13, 14, 15, 16, 17, 18, 19, 20, 21, 22, 23, 24, 9] (fun z => [(9, .v (.int .i64 z.1))]) (fun z => [⟨x0, [Value.slice b0p x.items.length c0p], (91 : Nat)⟩, ⟨x1, [Value.slice none (0 : Nat) (0 : Nat)], (91 : Nat)⟩, ⟨x2, [.slice z.2.2.1 (x.items.take z.1).length z.2.2.2], (91 : Nat)⟩]) (fun z => [z.2.1, H]) (fun z => x.items.length - z.1) (fun z => z.1 ≤ x.items.length ∧ (gSl 144 gItem).ow [.slice z.2.2.1 (x.items.take z.1).length z.2.2.2] (x.items.take z.1) z.2.1) ((0, [], none, 0))
  · repeat' (first | exact trivial | refine ⟨⟨_, rfl, by first | rfl | exact inc_eq _ (by omega) | (refine sl_eq ?_; simp; done) | (refine sl_eq ?_; simp only [List.length_append, List.length_take, List.length_cons, List.length_nil]; omega), by first | exact trivial | simp [SV.ok]⟩, ?_⟩)
  · exact ⟨rfl, rfl, rfl, trivial⟩
  · try dsimp only
    exact ⟨by omega, sl_nil _ _ _⟩
  · exact .refl _
  rintro ⟨k, A, lb, lc⟩ hI
  obtain ⟨hk, oA⟩ : k ≤ x.items.length ∧ (gSl 144 gItem).ow [.slice lb (x.items.take k).length lc] (x.items.take k) A := hI
  try dsimp only
  refine VCsplit.intro (fun q3 => ?_) (fun q3 => ?_)
  ·
    simp at q3
    have hs := szE_step gItem x.items k default (by omega)
    have hs2 := szE_le gItem x.items (k + 1)
    have hs3 := gItem_sz (x.items[k]?.getD default)
    have hs4 := len_szL gI (x.items[k]?.getD default).row
    refine idx_rd h0p ?_ ?_ fun b4 o4 hb4 => ?_
    · omega
    · omega
    refine load_allN default (k) rfl h0p ?_ ?_ hb4 rfl (mem_at 1 rfl) fun l5 hl5 => ?_
    · omega
    · omega
    obtain ⟨b0x5, c0x5, rfl, h0x5, w1x5⟩ := gItem_rd.1 hl5
    refine VCnew.intro fun x6 => ?_
    refine draw G_ok mixed (some 9) (.q 0 (.q 1 (.q 2 (.q 3 (.q 5 (.q 6 (.f 4 (.q 7 (.f 8 (.tl 9 (.f 10 (.f 11 (.nil))))))))))))) (by decide +kernel) ?_
    refine call_new (cloneI_ct _ _ _ ((x.items[k]?.getD default).row) ?_) (Rp.mono _ (mem_at 1 rfl) h0x5) ?_
    · omega
    rintro v7 A7 o7
    obtain ⟨b7, c7, rfl, o7⟩ := o7
    refine VC.intro ?_ ?_
    · exact keep_new
    refine VCnew.intro fun x8 => ?_
    refine VC.intro ?_ ?_
    · exact keep_new
    refine gappend1 (g := gItem) (T := (144 : TypeId)) G_ok A _ [H] ?_ oA (gItem_ow.2 ⟨_, _, _, rfl, .refl _, by assumption, by assumption⟩) (List.mem_of_getElem? (i := 0) rfl) rfl rfl rfl rfl rfl rfl rfl rfl ?_ fun b9 c9 A9 o9 => ?_
    · exact .le fun a => by (try simp only [setR, List.cons_append, List.nil_append]); simp only [List.flatten_append, List.flatten_cons, List.flatten_nil, List.count_append, List.count_nil, List.append_nil, List.nil_append]; omega
    · simp; omega
    apply loop_stepA (k + 1, _, _, _)
    · exact .refl _
    · repeat' (first | exact trivial | refine ⟨⟨_, rfl, by first | rfl | exact inc_eq _ (by omega) | (refine sl_eq ?_; simp; done) | (refine sl_eq ?_; simp only [List.length_append, List.length_take, List.length_cons, List.length_nil]; omega), by first | exact trivial | simp [SV.ok]⟩, ?_⟩)
    · ((rw [tk1 x.items k default (by omega)]); repeat' (first | exact trivial | refine ⟨by first | rfl | simp [Blk.ent], ?_⟩))
    · try dsimp only
      exact ⟨by omega, by (rw [tk1 x.items k default (by omega)]; assumption)⟩
    · try dsimp only
      omega
  ·
    simp at q3
    obtain rfl : k = x.items.length := by omega
    (simp only [List.take_length] at oA ⊢; exact ⟨_, ⟨_, rfl, gBag_ow.2 ⟨_, _, _, rfl, .refl _, oA⟩⟩, (.le fun a => by (try simp only [setR, List.cons_append, List.nil_append]); simp only [List.flatten_append, List.flatten_cons, List.flatten_nil, List.count_append, List.count_nil, List.append_nil, List.nil_append]; omega)⟩)

--@ct spec.l03Copy new s_l03Copy_ct _ $1 ?_ | %1 | obtain ⟨l#, rfl, o#⟩ := o# ;; have r# := Gt.owrd _ o# ;; obtain ⟨b0x#, c0x#, rfl, h0x#⟩ := gBag_rd.1 r#
theorem s_l03Copy_ct (l : List Value) (x : Bag) (hx : gBag.sz x ≤ 1048576) :
    Ct Try.prog 102 [.agg ⟨l⟩] [] (fun H => gBag.rd H l x) (fun v A => ∃ l, v = .agg ⟨l⟩ ∧ gBag.ow l x A) := by
  refine Ct.intro0 G_ok Try.func102 rfl rfl rfl fun E H hp => ?_
  obtain ⟨b0p, c0p, rfl, h0p⟩ := gBag_rd.1 hp
  have ez := gBag_sz (x)
  have en0 := len_szL gItem (x.items)
  have hq := szL_eq gItem (x.items)
  refine VCnew.intro fun x0 => ?_
  refine VCnew.intro fun x1 => ?_
  refine VCnew.intro fun x2 => ?_
  apply loop_mod (α := (Nat) × (Hp) × (Option Addr) × (Nat)) G_ok [6, 7, 8, 9, 10, 13, 14, 15, 16, 17, 18, 19, 20, 21, 22, 23, 24, 25, 26, 27, 28, 29, 30, 31, 32, 11, 12, 4] (fun z => [(4, .v (.int .i64 z.1))]) (fun z => [⟨x0, [Value.slice b0p x.items.length c0p], (91 : Nat)⟩, ⟨x1, [Value.slice none (0 : Nat) (0 : Nat)], (91 : Nat)⟩, ⟨x2, [.slice z.2.2.1 (x.items.take z.1).length z.2.2.2], (91 : Nat)⟩]) (fun z => [z.2.1, H]) (fun z => x.items.length - z.1) (fun z => z.1 ≤ x.items.length ∧ (gSl 144 gItem).ow [.slice z.2.2.1 (x.items.take z.1).length z.2.2.2] (x.items.take z.1) z.2.1) ((0, [], none, 0))
  · repeat' (first | exact trivial | refine ⟨⟨_, rfl, by first | rfl | exact inc_eq _ (by omega) | (refine sl_eq ?_; simp; done) | (refine sl_eq ?_; simp only [List.length_append, List.length_take, List.length_cons, List.length_nil]; omega), by first | exact trivial | simp [SV.ok]⟩, ?_⟩)
  · exact ⟨rfl, rfl, rfl, trivial⟩
  · try dsimp only
    exact ⟨by omega, sl_nil _ _ _⟩
  · exact .refl _
  rintro ⟨k, A, lb, lc⟩ hI
  obtain ⟨hk, oA⟩ : k ≤ x.items.length ∧ (gSl 144 gItem).ow [.slice lb (x.items.take k).length lc] (x.items.take k) A := hI
  try dsimp only
  refine VCsplit.intro (fun q3 => ?_) (fun q3 => ?_)
  ·
    simp at q3
    have hs := szE_step gItem x.items k default (by omega)
    have hs2 := szE_le gItem x.items (k + 1)
    have hs3 := gItem_sz (x.items[k]?.getD default)
    have hs4 := len_szL gI (x.items[k]?.getD default).row
    refine draw G_ok mixed (some 18) (.q 0 (.q 1 (.q 3 (.q 4 (.q 5 (.q 6 (.q 7 (.q 8 (.q 10 (.q 11 (.q 12 (.q 13 (.q 14 (.q 15 (.f 2 (.f 9 (.q 16 (.f 17 (.tl 18 (.f 19 (.f 20 (.nil)))))))))))))))))))))) (by decide +kernel) ?_
    refine idx_rd h0p ?_ ?_ fun b4 o4 hb4 => ?_
    · omega
    · omega
    refine load_partN default (k) 0 rfl h0p ?_ ?_ hb4 rfl (by decide) (mem_at 1 rfl) fun l5 hl5 => ?_
    · omega
    · omega
    obtain ⟨b0x5, c0x5, rfl, h0x5, w1x5⟩ := gItem_rd.1 hl5
    refine idx_rd h0p ?_ ?_ fun b6 o6 hb6 => ?_
    · omega
    · omega
    refine load_partN default (k) 1 rfl h0p ?_ ?_ hb6 rfl (by decide) (mem_at 1 rfl) fun l7 hl7 => ?_
    · omega
    · omega
    obtain ⟨b0x7, c0x7, rfl, h0x7, w1x7⟩ := gItem_rd.1 hl7
    refine VCnew.intro fun x8 => ?_
    refine VC.intro ?_ ?_
    · exact keep_new
    refine append_allN (g := gI) (T := (3 : TypeId)) G_ok (by repeat (first | exact fl_plain | apply plain_iso | apply plain_pair)) [] [[(x8, Obj.cells { toList := zeros (0 : Nat) [Value.int IntKind.i64 (0 : Int)] } (3 : TypeId))], A, H] 2 ?_ (sl_nil _ _ _) rfl h0x5 rfl rfl rfl rfl rfl rfl rfl rfl ?_ fun b9 c9 A9 o9 => ?_
    · exact .refl _
    · simp; omega
    refine VC.intro ?_ ?_
    · exact keep_sub (by simp) (by simp)
    refine VCnew.intro fun x10 => ?_
    refine VC.intro ?_ ?_
    · exact keep_new
    refine gappend1 (g := gItem) (T := (144 : TypeId)) G_ok A _ [[(x8, Obj.cells { toList := zeros (0 : Nat) [Value.int IntKind.i64 (0 : Int)] } (3 : TypeId))], H] ?_ oA (gItem_ow.2 ⟨_, _, _, rfl, .refl _, by assumption, by assumption⟩) (List.mem_of_getElem? (i := 0) rfl) rfl rfl rfl rfl rfl rfl rfl rfl ?_ fun b11 c11 A11 o11 => ?_
    · exact .le fun a => by (try simp only [setR, List.cons_append, List.nil_append]); simp only [List.flatten_append, List.flatten_cons, List.flatten_nil, List.count_append, List.count_nil, List.append_nil, List.nil_append]; omega
    · simp; omega
    apply loop_stepA (k + 1, _, _, _)
    · exact .sub (by repeat (first | exact .slnil | apply List.Sublist.cons_cons | apply List.Sublist.cons))
    · repeat' (first | exact trivial | refine ⟨⟨_, rfl, by first | rfl | exact inc_eq _ (by omega) | (refine sl_eq ?_; simp; done) | (refine sl_eq ?_; simp only [List.length_append, List.length_take, List.length_cons, List.length_nil]; omega), by first | exact trivial | simp [SV.ok]⟩, ?_⟩)
    · ((rw [tk1 x.items k default (by omega)]); repeat' (first | exact trivial | refine ⟨by first | rfl | simp [Blk.ent], ?_⟩))
    · try dsimp only
      exact ⟨by omega, by (rw [tk1 x.items k default (by omega)]; assumption)⟩
    · try dsimp only
      omega
  ·
    simp at q3
    obtain rfl : k = x.items.length := by omega
    (simp only [List.take_length] at oA ⊢; exact ⟨_, ⟨_, rfl, gBag_ow.2 ⟨_, _, _, rfl, .refl _, oA⟩⟩, (.le fun a => by (try simp only [setR, List.cons_append, List.nil_append]); simp only [List.flatten_append, List.flatten_cons, List.flatten_nil, List.count_append, List.count_nil, List.append_nil, List.nil_append]; omega)⟩)

--@ct impl.copyGots new copyGots_ct _ _ _ $1 ?_ | %1 | obtain ⟨b#, c#, rfl, o#⟩ := o#
theorem copyGots_ct (b : Option Addr) (m c : Nat) (xs : List Got) (hx : szL gGot xs ≤ 1048576) :
    Ct Try.prog 171 [.slice b m c] [] (fun H => (gSl 142 gGot).rd H [.slice b m c] xs) (fun v A => ∃ b c, v = .slice b xs.length c ∧ (gSl 142 gGot).ow [.slice b xs.length c] xs A) := by
  refine Ct.intro0 G_ok Try.func171 rfl rfl rfl fun E H hp => ?_
  obtain ⟨rfl, hcl, hl⟩ := sl_len hp
  have hls := len_szL gGot xs
  have hq := szL_eq gGot xs
  apply loop_mod (α := (Nat) × (Hp) × (Option Addr) × (Nat)) G_ok [9, 10, 11, 5, 12, 13, 14, 15, 16, 17, 18, 19, 20, 21, 22, 3, 23, 8] (fun z => [(8, .v (.int .i64 z.1)), (3, .v (.slice z.2.2.1 (xs.take z.1).length z.2.2.2))]) (fun z => []) (fun z => [z.2.1, H]) (fun z => xs.length - z.1) (fun z => z.1 ≤ xs.length ∧ (gSl 142 gGot).ow [.slice z.2.2.1 (xs.take z.1).length z.2.2.2] (xs.take z.1) z.2.1) ((0, [], none, 0))
  · repeat' (first | exact trivial | refine ⟨⟨_, rfl, by first | rfl | exact inc_eq _ (by omega) | (refine sl_eq ?_; simp; done) | (refine sl_eq ?_; simp only [List.length_append, List.length_take, List.length_cons, List.length_nil]; omega), by first | exact trivial | simp [SV.ok]⟩, ?_⟩)
  · exact trivial
  · try dsimp only
    exact ⟨by omega, sl_nil _ _ _⟩
  · exact .refl _
  rintro ⟨k, A, lb, lc⟩ hI
  obtain ⟨hk, oA⟩ : k ≤ xs.length ∧ (gSl 142 gGot).ow [.slice lb (xs.take k).length lc] (xs.take k) A := hI
  try dsimp only
  refine VCsplit.intro (fun q0 => ?_) (fun q0 => ?_)
  ·
    simp at q0
    have hs := szE_step gGot xs k default (by omega)
    have hs2 := szE_le gGot xs (k + 1)
    have hs3 := gGot_sz (xs[k]?.getD default)
    have hs4 := gBag_sz (xs[k]?.getD default).bag
    refine idx_rd hp ?_ ?_ fun b1 o1 hb1 => ?_
    · omega
    · omega
    refine load_allN default (k) rfl hp ?_ ?_ hb1 rfl (mem_at 1 rfl) fun l2 hl2 => ?_
    · omega
    · omega
    obtain ⟨l2x2, rfl, w0x2, w1x2, h2x2⟩ := gGot_rd.1 hl2 ; obtain ⟨b0_2x2, c0_2x2, rfl, h0_2x2⟩ := gBag_rd.1 h2x2
    refine VCnew.intro fun x3 => ?_
    refine draw G_ok mixed (some 10) (.q 0 (.q 1 (.q 2 (.q 3 (.q 4 (.q 5 (.q 6 (.f 7 (.q 8 (.f 9 (.tl 10 (.f 11 (.nil))))))))))))) (by decide +kernel) ?_
    refine call_new (copyBag_ct _ ((xs[k]?.getD default).bag) ?_) (Rp.mono _ (mem_at 1 rfl) h2x2) ?_
    · omega
    rintro v4 A4 o4
    obtain ⟨l4, rfl, o4⟩ := o4
    have r4 := Gt.owrd _ o4
    obtain ⟨b0x4, c0x4, rfl, h0x4⟩ := gBag_rd.1 r4
    refine VC.intro ?_ ?_
    · exact keep_new
    refine VCnew.intro fun x5 => ?_
    refine VC.intro ?_ ?_
    · exact keep_new
    refine gappend1 (g := gGot) (T := (142 : TypeId)) G_ok A _ [H] ?_ oA (gGot_ow.2 ⟨_, _, rfl, .refl _, by assumption, by assumption, by assumption⟩) (List.mem_of_getElem? (i := 0) rfl) rfl rfl rfl rfl rfl rfl rfl rfl ?_ fun b6 c6 A6 o6 => ?_
    · exact .le fun a => by (try simp only [setR, List.cons_append, List.nil_append]); simp only [List.flatten_append, List.flatten_cons, List.flatten_nil, List.count_append, List.count_nil, List.append_nil, List.nil_append]; omega
    · simp; omega
    apply loop_stepA (k + 1, _, _, _)
    · exact .refl _
    · repeat' (first | exact trivial | refine ⟨⟨_, rfl, by first | rfl | exact inc_eq _ (by omega) | (refine sl_eq ?_; simp; done) | (refine sl_eq ?_; simp only [List.length_append, List.length_take, List.length_cons, List.length_nil]; omega), by first | exact trivial | simp [SV.ok]⟩, ?_⟩)
    · exact trivial
    · try dsimp only
      exact ⟨by omega, by (rw [tk1 xs k default (by omega)]; assumption)⟩
    · try dsimp only
      omega
  ·
    simp at q0
    obtain rfl : k = xs.length := by omega
    (simp only [List.take_length] at oA ⊢; exact ⟨_, ⟨_, _, rfl, oA⟩, (.le fun a => by (try simp only [setR, List.cons_append, List.nil_append]); simp only [List.flatten_append, List.flatten_cons, List.flatten_nil, List.count_append, List.count_nil, List.append_nil, List.nil_append]; omega)⟩)

--@ct impl.copyCell new copyCell_ct _ $1 ?_ | %1 | obtain ⟨l#, rfl, o#⟩ := o# ;; have r# := Gt.owrd _ o# ;; obtain ⟨l0x#, b1x#, c1x#, b4x#, c4x#, rfl, h0x#, h1x#, w2x#, w3x#, h4x#⟩ := gCell_rd.1 r# ;; obtain ⟨b1_0x#, c1_0x#, b2_0x#, c2_0x#, b3_0x#, c3_0x#, rfl, h1_0x#, h2_0x#, h3_0x#⟩ := gQuery_rd.1 h0x#
theorem copyCell_ct (l : List Value) (x : Cell) (hx : gCell.sz x ≤ 1048576) :
    Ct Try.prog 107 [.agg ⟨l⟩] [] (fun H => gCell.rd H l x) (fun v A => ∃ l, v = .agg ⟨l⟩ ∧ gCell.ow l x A) := by
  refine Ct.intro0 G_ok Try.func107 rfl rfl rfl fun E H hp => ?_
  obtain ⟨l0p, b1p, c1p, b4p, c4p, rfl, h0p, h1p, w2p, w3p, h4p⟩ := gCell_rd.1 hp
  obtain ⟨b1_0p, c1_0p, b2_0p, c2_0p, b3_0p, c3_0p, rfl, h1_0p, h2_0p, h3_0p⟩ := gQuery_rd.1 h0p
  have ez := gCell_sz (x)
  have e0z := gQuery_sz (x.query)
  have e0n1 := len_szL gS (x.query.out)
  have e0n2 := len_szL gAtom (x.query.atoms)
  have e0n3 := len_szL gFilter (x.query.filters)
  have en1 := len_szL gI (x.shares)
  have en4 := len_szL gGot (x.gots)
  refine VCnew.intro fun x0 => ?_
  refine VCnew.intro fun x1 => ?_
  refine draw G_ok mixed (some 14) (.q 0 (.q 1 (.q 3 (.q 4 (.q 6 (.q 7 (.q 8 (.q 9 (.q 10 (.q 11 (.f 2 (.f 5 (.f 12 (.q 13 (.tl 14 (.nil)))))))))))))))) (by decide +kernel) ?_
  refine call_new (copyQuery_ct _ (x.query) ?_) (Rp.mono _ (mem_at 0 rfl) h0p) ?_
  · omega
  rintro v2 A2 o2
  obtain ⟨l2, rfl, o2⟩ := o2
  have r2 := Gt.owrd _ o2
  obtain ⟨b1x2, c1x2, b2x2, c2x2, b3x2, c3x2, rfl, h1x2, h2x2, h3x2⟩ := gQuery_rd.1 r2
  refine VC.intro ?_ ?_
  · exact keep_new
  refine call_new (cloneI_ct _ _ _ (x.shares) ?_) (Rp.mono _ (mem_at 1 rfl) h1p) ?_
  · omega
  rintro v3 A3 o3
  obtain ⟨b3, c3, rfl, o3⟩ := o3
  refine VC.intro ?_ ?_
  · exact keep_sub (by simp) (by simp)
  refine call_new (copyGots_ct _ _ _ (x.gots) ?_) (Rp.mono _ (mem_at 2 rfl) h4p) ?_
  · omega
  rintro v4 A4 o4
  obtain ⟨b4, c4, rfl, o4⟩ := o4
  refine VC.intro ?_ ?_
  · exact keep_sub (by simp) (by simp)
  exact ⟨_, ⟨_, rfl, gCell_ow.2 ⟨_, _, _, _, _, _, _, _, rfl, .refl _, by assumption, by assumption, by assumption, by assumption, by assumption⟩⟩, (.le fun a => by (try simp only [setR, List.cons_append, List.nil_append]); simp only [List.flatten_append, List.flatten_cons, List.flatten_nil, List.count_append, List.count_nil, List.append_nil, List.nil_append]; omega)⟩

--@ct spec.l23Copy new s_l23Copy_ct _ $1 ?_ | %1 | obtain ⟨l#, rfl, o#⟩ := o# ;; have r# := Gt.owrd _ o# ;; obtain ⟨l0x#, b1x#, c1x#, b4x#, c4x#, rfl, h0x#, h1x#, w2x#, w3x#, h4x#⟩ := gCell_rd.1 r# ;; obtain ⟨b1_0x#, c1_0x#, b2_0x#, c2_0x#, b3_0x#, c3_0x#, rfl, h1_0x#, h2_0x#, h3_0x#⟩ := gQuery_rd.1 h0x#
theorem s_l23Copy_ct (l : List Value) (x : Cell) (hx : gCell.sz x ≤ 1048576) :
    Ct Try.prog 97 [.agg ⟨l⟩] [] (fun H => gCell.rd H l x) (fun v A => ∃ l, v = .agg ⟨l⟩ ∧ gCell.ow l x A) := by
  refine Ct.intro0 G_ok Try.func97 rfl rfl rfl fun E H hp => ?_
  obtain ⟨l0p, b1p, c1p, b4p, c4p, rfl, h0p, h1p, w2p, w3p, h4p⟩ := gCell_rd.1 hp
  obtain ⟨b1_0p, c1_0p, b2_0p, c2_0p, b3_0p, c3_0p, rfl, h1_0p, h2_0p, h3_0p⟩ := gQuery_rd.1 h0p
  have ez := gCell_sz (x)
  have e0z := gQuery_sz (x.query)
  have e0n1 := len_szL gS (x.query.out)
  have e0n2 := len_szL gAtom (x.query.atoms)
  have e0n3 := len_szL gFilter (x.query.filters)
  have en1 := len_szL gI (x.shares)
  have en4 := len_szL gGot (x.gots)
  have hq := szL_eq gGot (x.gots)
  refine VCnew.intro fun x0 => ?_
  refine VCnew.intro fun x1 => ?_
  refine draw G_ok mixed (some 13) (.q 0 (.q 1 (.q 4 (.q 5 (.q 7 (.q 8 (.q 9 (.q 10 (.hd (.alt 2 (.hd (.alt 3 (.hd (.alt 6 (.q 11 (.f 12 (.tl 13 (.nil)))) (.alt 12 (.f 6 (.q 11 (.tl 13 (.nil)))) (.nil)))) (.alt 12 (.f 3 (.f 6 (.q 11 (.tl 13 (.nil))))) (.nil)))) (.alt 3 (.hd (.alt 2 (.hd (.alt 6 (.q 11 (.f 12 (.tl 13 (.nil)))) (.alt 12 (.f 6 (.q 11 (.tl 13 (.nil)))) (.nil)))) (.alt 12 (.f 2 (.f 6 (.q 11 (.tl 13 (.nil))))) (.nil)))) (.alt 12 (.hd (.alt 2 (.f 3 (.f 6 (.q 11 (.tl 13 (.nil))))) (.alt 3 (.f 2 (.f 6 (.q 11 (.tl 13 (.nil))))) (.nil)))) (.nil))))))))))))) (by decide +kernel) ?_
  refine VC.intro ?_ ?_
  ·
    refine call_new (s_l08Copy_ct _ (x.query) ?_) (Rp.mono _ (mem_at 0 rfl) h0p) ?_
    · omega
    rintro v2 A2 o2
    obtain ⟨l2, rfl, o2⟩ := o2
    have r2 := Gt.owrd _ o2
    obtain ⟨b1x2, c1x2, b2x2, c2x2, b3x2, c3x2, rfl, h1x2, h2x2, h3x2⟩ := gQuery_rd.1 r2
    refine VC.intro ?_ ?_
    · exact keep_new
    refine VC.intro ?_ ?_
    ·
      refine VCnew.intro fun x3 => ?_
      refine VC.intro ?_ ?_
      · exact keep_sub (by simp) (by simp)
      refine VC.intro ?_ ?_
      ·
        refine append_allN (g := gI) (T := (3 : TypeId)) G_ok (by repeat (first | exact fl_plain | apply plain_iso | apply plain_pair)) [] [[(x3, Obj.cells { toList := zeros (0 : Nat) [Value.int IntKind.i64 (0 : Int)] } (3 : TypeId))], A2, H] 2 ?_ (sl_nil _ _ _) rfl h1p rfl rfl rfl rfl rfl rfl rfl rfl ?_ fun b4 c4 A4 o4 => ?_
        · exact .refl _
        · simp; omega
        refine VC.intro ?_ ?_
        · exact keep_sub (by simp) (by simp)
        refine VCnew.intro fun x5 => ?_
        refine VC.intro ?_ ?_
        · exact keep_sub (by simp) (by simp)
        apply loop_mod (α := (Nat) × (Hp) × (Option Addr) × (Nat)) G_ok [17, 18, 19, 20, 21, 24, 25, 26, 27, 28, 29, 30, 31, 32, 33, 34, 35, 36, 37, 38, 39, 40, 41, 42, 43, 44, 45, 46, 47, 48, 22, 23, 4] (fun z => [(4, .v (.int .i64 z.1))]) (fun z => [⟨x0, [Value.bool x.query.each, Value.slice b1_0p x.query.out.length c1_0p, Value.slice b2_0p x.query.atoms.length c2_0p, Value.slice b3_0p x.query.filters.length c3_0p, Value.slice b1p x.shares.length c1p, Value.int IntKind.i64 x.at', Value.int IntKind.i64 x.n, Value.slice b4p x.gots.length c4p], (86 : Nat)⟩, ⟨x1, [Value.bool false, Value.slice none (0 : Nat) (0 : Nat), Value.slice none (0 : Nat) (0 : Nat), Value.slice none (0 : Nat) (0 : Nat), Value.slice none (0 : Nat) (0 : Nat), Value.int IntKind.i64 (0 : Int), Value.int IntKind.i64 (0 : Int), Value.slice none (0 : Nat) (0 : Nat)], (86 : Nat)⟩, ⟨x5, [Value.bool x.query.each, Value.slice b1x2 x.query.out.length c1x2, Value.slice b2x2 x.query.atoms.length c2x2, Value.slice b3x2 x.query.filters.length c3x2, Value.slice b4 ([] ++ x.shares).length c4, Value.int IntKind.i64 x.at', Value.int IntKind.i64 x.n, .slice z.2.2.1 (x.gots.take z.1).length z.2.2.2], (86 : Nat)⟩]) (fun z => [z.2.1, A4, [(x3, Obj.cells { toList := zeros (0 : Nat) [Value.int IntKind.i64 (0 : Int)] } (3 : TypeId))], A2, H]) (fun z => x.gots.length - z.1) (fun z => z.1 ≤ x.gots.length ∧ (gSl 142 gGot).ow [.slice z.2.2.1 (x.gots.take z.1).length z.2.2.2] (x.gots.take z.1) z.2.1) ((0, [], none, 0))
        · repeat' (first | exact trivial | refine ⟨⟨_, rfl, by first | rfl | exact inc_eq _ (by omega) | (refine sl_eq ?_; simp; done) | (refine sl_eq ?_; simp only [List.length_append, List.length_take, List.length_cons, List.length_nil]; omega), by first | exact trivial | simp [SV.ok]⟩, ?_⟩)
        · exact ⟨rfl, rfl, rfl, trivial⟩
        · try dsimp only
          exact ⟨by omega, sl_nil _ _ _⟩
        · exact .refl _
        rintro ⟨k, A, lb, lc⟩ hI
        obtain ⟨hk, oA⟩ : k ≤ x.gots.length ∧ (gSl 142 gGot).ow [.slice lb (x.gots.take k).length lc] (x.gots.take k) A := hI
        try dsimp only
        refine VCsplit.intro (fun q6 => ?_) (fun q6 => ?_)
        ·
          simp at q6
          refine draw G_ok mixed (some 23) (.q 0 (.q 1 (.q 2 (.q 3 (.q 4 (.q 5 (.q 6 (.q 7 (.q 8 (.q 9 (.q 10 (.q 11 (.q 12 (.q 13 (.q 14 (.q 15 (.q 16 (.q 17 (.q 18 (.q 19 (.f 20 (.q 21 (.f 22 (.tl 23 (.f 24 (.f 25 (.nil))))))))))))))))))))))))))) (by decide +kernel) ?_
          refine idx_rd h4p ?_ ?_ fun b7 o7 hb7 => ?_
          · omega
          · omega
          refine load_partN default (k) 0 rfl h4p ?_ ?_ hb7 rfl (by decide) (mem_at 4 rfl) fun l8 hl8 => ?_
          · omega
          · omega
          obtain ⟨l2x8, rfl, w0x8, w1x8, h2x8⟩ := gGot_rd.1 hl8 ; obtain ⟨b0_2x8, c0_2x8, rfl, h0_2x8⟩ := gBag_rd.1 h2x8
          refine idx_rd h4p ?_ ?_ fun b9 o9 hb9 => ?_
          · omega
          · omega
          refine load_partN default (k) 1 rfl h4p ?_ ?_ hb9 rfl (by decide) (mem_at 4 rfl) fun l10 hl10 => ?_
          · omega
          · omega
          obtain ⟨l2x10, rfl, w0x10, w1x10, h2x10⟩ := gGot_rd.1 hl10 ; obtain ⟨b0_2x10, c0_2x10, rfl, h0_2x10⟩ := gBag_rd.1 h2x10
          refine idx_rd h4p ?_ ?_ fun b11 o11 hb11 => ?_
          · omega
          · omega
          refine load_partN default (k) 2 rfl h4p ?_ ?_ hb11 rfl (by decide) (mem_at 4 rfl) fun l12 hl12 => ?_
          · omega
          · omega
          obtain ⟨l2x12, rfl, w0x12, w1x12, h2x12⟩ := gGot_rd.1 hl12 ; obtain ⟨b0_2x12, c0_2x12, rfl, h0_2x12⟩ := gBag_rd.1 h2x12
          refine call_new (s_l03Copy_ct _ ((x.gots[k]?.getD default).bag) ?_) (Rp.mono _ (mem_at 4 rfl) h2x12) ?_
          · (have hs := szE_step gGot x.gots k default (by omega); have hs2 := szE_le gGot x.gots (k + 1); have hs3 := gGot_sz (x.gots[k]?.getD default); omega)
          rintro v13 A13 o13
          obtain ⟨l13, rfl, o13⟩ := o13
          have r13 := Gt.owrd _ o13
          obtain ⟨b0x13, c0x13, rfl, h0x13⟩ := gBag_rd.1 r13
          refine VC.intro ?_ ?_
          · exact keep_new
          refine VCnew.intro fun x14 => ?_
          refine VC.intro ?_ ?_
          · exact keep_new
          refine gappend1 (g := gGot) (T := (142 : TypeId)) G_ok A _ [A4, [(x3, Obj.cells { toList := zeros (0 : Nat) [Value.int IntKind.i64 (0 : Int)] } (3 : TypeId))], A2, H] ?_ oA (gGot_ow.2 ⟨_, _, rfl, .refl _, by assumption, by assumption, by assumption⟩) (List.mem_of_getElem? (i := 0) rfl) rfl rfl rfl rfl rfl rfl rfl rfl ?_ fun b15 c15 A15 o15 => ?_
          · exact .le fun a => by (try simp only [setR, List.cons_append, List.nil_append]); simp only [List.flatten_append, List.flatten_cons, List.flatten_nil, List.count_append, List.count_nil, List.append_nil, List.nil_append]; omega
          · simp; omega
          apply loop_stepA (k + 1, _, _, _)
          · exact .refl _
          · repeat' (first | exact trivial | refine ⟨⟨_, rfl, by first | rfl | exact inc_eq _ (by omega) | (refine sl_eq ?_; simp; done) | (refine sl_eq ?_; simp only [List.length_append, List.length_take, List.length_cons, List.length_nil]; omega), by first | exact trivial | simp [SV.ok]⟩, ?_⟩)
          · ((rw [tk1 x.gots k default (by omega)]); repeat' (first | exact trivial | refine ⟨by first | rfl | simp [Blk.ent], ?_⟩))
          · try dsimp only
            exact ⟨by omega, by (rw [tk1 x.gots k default (by omega)]; assumption)⟩
          · try dsimp only
            omega
        ·
          simp at q6
          (have hke : k = x.gots.length := (by omega); simp only [List.take_length, hke] at oA ⊢; exact ⟨_, ⟨_, rfl, gCell_ow.2 ⟨_, _, _, _, _, _, _, _, rfl, .refl _, by assumption, by assumption, by assumption, by assumption, by assumption⟩⟩, (.le fun a => by (try simp only [setR, List.cons_append, List.nil_append]); simp only [List.flatten_append, List.flatten_cons, List.flatten_nil, List.count_append, List.count_nil, List.append_nil, List.nil_append]; omega)⟩)
      ·
        refine VC.intro ?_ ?_
        ·
          refine VCnew.intro fun x16 => ?_
          refine VC.intro ?_ ?_
          · exact keep_sub (by simp) (by simp)
          refine append_allN (g := gI) (T := (3 : TypeId)) G_ok (by repeat (first | exact fl_plain | apply plain_iso | apply plain_pair)) [] [[(x3, Obj.cells { toList := zeros (0 : Nat) [Value.int IntKind.i64 (0 : Int)] } (3 : TypeId))], A2, H] 2 ?_ (sl_nil _ _ _) rfl h1p rfl rfl rfl rfl rfl rfl rfl rfl ?_ fun b17 c17 A17 o17 => ?_
          · exact .refl _
          · simp; omega
          refine VC.intro ?_ ?_
          · exact keep_sub (by simp) (by simp)
          apply loop_mod (α := (Nat) × (Hp) × (Option Addr) × (Nat)) G_ok [17, 18, 19, 20, 21, 24, 25, 26, 27, 28, 29, 30, 31, 32, 33, 34, 35, 36, 37, 38, 39, 40, 41, 42, 43, 44, 45, 46, 47, 48, 22, 23, 4] (fun z => [(4, .v (.int .i64 z.1))]) (fun z => [⟨x0, [Value.bool x.query.each, Value.slice b1_0p x.query.out.length c1_0p, Value.slice b2_0p x.query.atoms.length c2_0p, Value.slice b3_0p x.query.filters.length c3_0p, Value.slice b1p x.shares.length c1p, Value.int IntKind.i64 x.at', Value.int IntKind.i64 x.n, Value.slice b4p x.gots.length c4p], (86 : Nat)⟩, ⟨x1, [Value.bool false, Value.slice none (0 : Nat) (0 : Nat), Value.slice none (0 : Nat) (0 : Nat), Value.slice none (0 : Nat) (0 : Nat), Value.slice none (0 : Nat) (0 : Nat), Value.int IntKind.i64 (0 : Int), Value.int IntKind.i64 (0 : Int), Value.slice none (0 : Nat) (0 : Nat)], (86 : Nat)⟩, ⟨x16, [Value.bool x.query.each, Value.slice b1x2 x.query.out.length c1x2, Value.slice b2x2 x.query.atoms.length c2x2, Value.slice b3x2 x.query.filters.length c3x2, Value.slice b17 ([] ++ x.shares).length c17, Value.int IntKind.i64 x.at', Value.int IntKind.i64 x.n, .slice z.2.2.1 (x.gots.take z.1).length z.2.2.2], (86 : Nat)⟩]) (fun z => [z.2.1, A17, [(x3, Obj.cells { toList := zeros (0 : Nat) [Value.int IntKind.i64 (0 : Int)] } (3 : TypeId))], A2, H]) (fun z => x.gots.length - z.1) (fun z => z.1 ≤ x.gots.length ∧ (gSl 142 gGot).ow [.slice z.2.2.1 (x.gots.take z.1).length z.2.2.2] (x.gots.take z.1) z.2.1) ((0, [], none, 0))
          · repeat' (first | exact trivial | refine ⟨⟨_, rfl, by first | rfl | exact inc_eq _ (by omega) | (refine sl_eq ?_; simp; done) | (refine sl_eq ?_; simp only [List.length_append, List.length_take, List.length_cons, List.length_nil]; omega), by first | exact trivial | simp [SV.ok]⟩, ?_⟩)
          · exact ⟨rfl, rfl, rfl, trivial⟩
          · try dsimp only
            exact ⟨by omega, sl_nil _ _ _⟩
          · exact .refl _
          rintro ⟨k, A, lb, lc⟩ hI
          obtain ⟨hk, oA⟩ : k ≤ x.gots.length ∧ (gSl 142 gGot).ow [.slice lb (x.gots.take k).length lc] (x.gots.take k) A := hI
          try dsimp only
          refine VCsplit.intro (fun q18 => ?_) (fun q18 => ?_)
          ·
            simp at q18
            refine draw G_ok mixed (some 23) (.q 0 (.q 1 (.q 2 (.q 3 (.q 4 (.q 5 (.q 6 (.q 7 (.q 8 (.q 9 (.q 10 (.q 11 (.q 12 (.q 13 (.q 14 (.q 15 (.q 16 (.q 17 (.q 18 (.q 19 (.f 20 (.q 21 (.f 22 (.tl 23 (.f 24 (.f 25 (.nil))))))))))))))))))))))))))) (by decide +kernel) ?_
            refine idx_rd h4p ?_ ?_ fun b19 o19 hb19 => ?_
            · omega
            · omega
            refine load_partN default (k) 0 rfl h4p ?_ ?_ hb19 rfl (by decide) (mem_at 4 rfl) fun l20 hl20 => ?_
            · omega
            · omega
            obtain ⟨l2x20, rfl, w0x20, w1x20, h2x20⟩ := gGot_rd.1 hl20 ; obtain ⟨b0_2x20, c0_2x20, rfl, h0_2x20⟩ := gBag_rd.1 h2x20
            refine idx_rd h4p ?_ ?_ fun b21 o21 hb21 => ?_
            · omega
            · omega
            refine load_partN default (k) 1 rfl h4p ?_ ?_ hb21 rfl (by decide) (mem_at 4 rfl) fun l22 hl22 => ?_
            · omega
            · omega
            obtain ⟨l2x22, rfl, w0x22, w1x22, h2x22⟩ := gGot_rd.1 hl22 ; obtain ⟨b0_2x22, c0_2x22, rfl, h0_2x22⟩ := gBag_rd.1 h2x22
            refine idx_rd h4p ?_ ?_ fun b23 o23 hb23 => ?_
            · omega
            · omega
            refine load_partN default (k) 2 rfl h4p ?_ ?_ hb23 rfl (by decide) (mem_at 4 rfl) fun l24 hl24 => ?_
            · omega
            · omega
            obtain ⟨l2x24, rfl, w0x24, w1x24, h2x24⟩ := gGot_rd.1 hl24 ; obtain ⟨b0_2x24, c0_2x24, rfl, h0_2x24⟩ := gBag_rd.1 h2x24
            refine call_new (s_l03Copy_ct _ ((x.gots[k]?.getD default).bag) ?_) (Rp.mono _ (mem_at 4 rfl) h2x24) ?_
            · (have hs := szE_step gGot x.gots k default (by omega); have hs2 := szE_le gGot x.gots (k + 1); have hs3 := gGot_sz (x.gots[k]?.getD default); omega)
            rintro v25 A25 o25
            obtain ⟨l25, rfl, o25⟩ := o25
            have r25 := Gt.owrd _ o25
            obtain ⟨b0x25, c0x25, rfl, h0x25⟩ := gBag_rd.1 r25
            refine VC.intro ?_ ?_
            · exact keep_new
            refine VCnew.intro fun x26 => ?_
            refine VC.intro ?_ ?_
            · exact keep_new
            refine gappend1 (g := gGot) (T := (142 : TypeId)) G_ok A _ [A17, [(x3, Obj.cells { toList := zeros (0 : Nat) [Value.int IntKind.i64 (0 : Int)] } (3 : TypeId))], A2, H] ?_ oA (gGot_ow.2 ⟨_, _, rfl, .refl _, by assumption, by assumption, by assumption⟩) (List.mem_of_getElem? (i := 0) rfl) rfl rfl rfl rfl rfl rfl rfl rfl ?_ fun b27 c27 A27 o27 => ?_
            · exact .le fun a => by (try simp only [setR, List.cons_append, List.nil_append]); simp only [List.flatten_append, List.flatten_cons, List.flatten_nil, List.count_append, List.count_nil, List.append_nil, List.nil_append]; omega
            · simp; omega
            apply loop_stepA (k + 1, _, _, _)
            · exact .refl _
            · repeat' (first | exact trivial | refine ⟨⟨_, rfl, by first | rfl | exact inc_eq _ (by omega) | (refine sl_eq ?_; simp; done) | (refine sl_eq ?_; simp only [List.length_append, List.length_take, List.length_cons, List.length_nil]; omega), by first | exact trivial | simp [SV.ok]⟩, ?_⟩)
            · ((rw [tk1 x.gots k default (by omega)]); repeat' (first | exact trivial | refine ⟨by first | rfl | simp [Blk.ent], ?_⟩))
            · try dsimp only
              exact ⟨by omega, by (rw [tk1 x.gots k default (by omega)]; assumption)⟩
            · try dsimp only
              omega
          ·
            simp at q18
            (have hke : k = x.gots.length := (by omega); simp only [List.take_length, hke] at oA ⊢; exact ⟨_, ⟨_, rfl, gCell_ow.2 ⟨_, _, _, _, _, _, _, _, rfl, .refl _, by assumption, by assumption, by assumption, by assumption, by assumption⟩⟩, (.le fun a => by (try simp only [setR, List.cons_append, List.nil_append]); simp only [List.flatten_append, List.flatten_cons, List.flatten_nil, List.count_append, List.count_nil, List.append_nil, List.nil_append]; omega)⟩)
        ·
          exact trivial
    ·
      refine VC.intro ?_ ?_
      ·
        refine VCnew.intro fun x28 => ?_
        refine VC.intro ?_ ?_
        · exact keep_sub (by simp) (by simp)
        refine VCnew.intro fun x29 => ?_
        refine VC.intro ?_ ?_
        · exact keep_sub (by simp) (by simp)
        refine append_allN (g := gI) (T := (3 : TypeId)) G_ok (by repeat (first | exact fl_plain | apply plain_iso | apply plain_pair)) [] [[(x29, Obj.cells { toList := zeros (0 : Nat) [Value.int IntKind.i64 (0 : Int)] } (3 : TypeId))], A2, H] 2 ?_ (sl_nil _ _ _) rfl h1p rfl rfl rfl rfl rfl rfl rfl rfl ?_ fun b30 c30 A30 o30 => ?_
        · exact .refl _
        · simp; omega
        refine VC.intro ?_ ?_
        · exact keep_sub (by simp) (by simp)
        apply loop_mod (α := (Nat) × (Hp) × (Option Addr) × (Nat)) G_ok [17, 18, 19, 20, 21, 24, 25, 26, 27, 28, 29, 30, 31, 32, 33, 34, 35, 36, 37, 38, 39, 40, 41, 42, 43, 44, 45, 46, 47, 48, 22, 23, 4] (fun z => [(4, .v (.int .i64 z.1))]) (fun z => [⟨x0, [Value.bool x.query.each, Value.slice b1_0p x.query.out.length c1_0p, Value.slice b2_0p x.query.atoms.length c2_0p, Value.slice b3_0p x.query.filters.length c3_0p, Value.slice b1p x.shares.length c1p, Value.int IntKind.i64 x.at', Value.int IntKind.i64 x.n, Value.slice b4p x.gots.length c4p], (86 : Nat)⟩, ⟨x1, [Value.bool false, Value.slice none (0 : Nat) (0 : Nat), Value.slice none (0 : Nat) (0 : Nat), Value.slice none (0 : Nat) (0 : Nat), Value.slice none (0 : Nat) (0 : Nat), Value.int IntKind.i64 (0 : Int), Value.int IntKind.i64 (0 : Int), Value.slice none (0 : Nat) (0 : Nat)], (86 : Nat)⟩, ⟨x28, [Value.bool x.query.each, Value.slice b1x2 x.query.out.length c1x2, Value.slice b2x2 x.query.atoms.length c2x2, Value.slice b3x2 x.query.filters.length c3x2, Value.slice b30 ([] ++ x.shares).length c30, Value.int IntKind.i64 x.at', Value.int IntKind.i64 x.n, .slice z.2.2.1 (x.gots.take z.1).length z.2.2.2], (86 : Nat)⟩]) (fun z => [z.2.1, A30, [(x29, Obj.cells { toList := zeros (0 : Nat) [Value.int IntKind.i64 (0 : Int)] } (3 : TypeId))], A2, H]) (fun z => x.gots.length - z.1) (fun z => z.1 ≤ x.gots.length ∧ (gSl 142 gGot).ow [.slice z.2.2.1 (x.gots.take z.1).length z.2.2.2] (x.gots.take z.1) z.2.1) ((0, [], none, 0))
        · repeat' (first | exact trivial | refine ⟨⟨_, rfl, by first | rfl | exact inc_eq _ (by omega) | (refine sl_eq ?_; simp; done) | (refine sl_eq ?_; simp only [List.length_append, List.length_take, List.length_cons, List.length_nil]; omega), by first | exact trivial | simp [SV.ok]⟩, ?_⟩)
        · exact ⟨rfl, rfl, rfl, trivial⟩
        · try dsimp only
          exact ⟨by omega, sl_nil _ _ _⟩
        · exact .refl _
        rintro ⟨k, A, lb, lc⟩ hI
        obtain ⟨hk, oA⟩ : k ≤ x.gots.length ∧ (gSl 142 gGot).ow [.slice lb (x.gots.take k).length lc] (x.gots.take k) A := hI
        try dsimp only
        refine VCsplit.intro (fun q31 => ?_) (fun q31 => ?_)
        ·
          simp at q31
          refine draw G_ok mixed (some 23) (.q 0 (.q 1 (.q 2 (.q 3 (.q 4 (.q 5 (.q 6 (.q 7 (.q 8 (.q 9 (.q 10 (.q 11 (.q 12 (.q 13 (.q 14 (.q 15 (.q 16 (.q 17 (.q 18 (.q 19 (.f 20 (.q 21 (.f 22 (.tl 23 (.f 24 (.f 25 (.nil))))))))))))))))))))))))))) (by decide +kernel) ?_
          refine idx_rd h4p ?_ ?_ fun b32 o32 hb32 => ?_
          · omega
          · omega
          refine load_partN default (k) 0 rfl h4p ?_ ?_ hb32 rfl (by decide) (mem_at 4 rfl) fun l33 hl33 => ?_
          · omega
          · omega
          obtain ⟨l2x33, rfl, w0x33, w1x33, h2x33⟩ := gGot_rd.1 hl33 ; obtain ⟨b0_2x33, c0_2x33, rfl, h0_2x33⟩ := gBag_rd.1 h2x33
          refine idx_rd h4p ?_ ?_ fun b34 o34 hb34 => ?_
          · omega
          · omega
          refine load_partN default (k) 1 rfl h4p ?_ ?_ hb34 rfl (by decide) (mem_at 4 rfl) fun l35 hl35 => ?_
          · omega
          · omega
          obtain ⟨l2x35, rfl, w0x35, w1x35, h2x35⟩ := gGot_rd.1 hl35 ; obtain ⟨b0_2x35, c0_2x35, rfl, h0_2x35⟩ := gBag_rd.1 h2x35
          refine idx_rd h4p ?_ ?_ fun b36 o36 hb36 => ?_
          · omega
          · omega
          refine load_partN default (k) 2 rfl h4p ?_ ?_ hb36 rfl (by decide) (mem_at 4 rfl) fun l37 hl37 => ?_
          · omega
          · omega
          obtain ⟨l2x37, rfl, w0x37, w1x37, h2x37⟩ := gGot_rd.1 hl37 ; obtain ⟨b0_2x37, c0_2x37, rfl, h0_2x37⟩ := gBag_rd.1 h2x37
          refine call_new (s_l03Copy_ct _ ((x.gots[k]?.getD default).bag) ?_) (Rp.mono _ (mem_at 4 rfl) h2x37) ?_
          · (have hs := szE_step gGot x.gots k default (by omega); have hs2 := szE_le gGot x.gots (k + 1); have hs3 := gGot_sz (x.gots[k]?.getD default); omega)
          rintro v38 A38 o38
          obtain ⟨l38, rfl, o38⟩ := o38
          have r38 := Gt.owrd _ o38
          obtain ⟨b0x38, c0x38, rfl, h0x38⟩ := gBag_rd.1 r38
          refine VC.intro ?_ ?_
          · exact keep_new
          refine VCnew.intro fun x39 => ?_
          refine VC.intro ?_ ?_
          · exact keep_new
          refine gappend1 (g := gGot) (T := (142 : TypeId)) G_ok A _ [A30, [(x29, Obj.cells { toList := zeros (0 : Nat) [Value.int IntKind.i64 (0 : Int)] } (3 : TypeId))], A2, H] ?_ oA (gGot_ow.2 ⟨_, _, rfl, .refl _, by assumption, by assumption, by assumption⟩) (List.mem_of_getElem? (i := 0) rfl) rfl rfl rfl rfl rfl rfl rfl rfl ?_ fun b40 c40 A40 o40 => ?_
          · exact .le fun a => by (try simp only [setR, List.cons_append, List.nil_append]); simp only [List.flatten_append, List.flatten_cons, List.flatten_nil, List.count_append, List.count_nil, List.append_nil, List.nil_append]; omega
          · simp; omega
          apply loop_stepA (k + 1, _, _, _)
          · exact .refl _
          · repeat' (first | exact trivial | refine ⟨⟨_, rfl, by first | rfl | exact inc_eq _ (by omega) | (refine sl_eq ?_; simp; done) | (refine sl_eq ?_; simp only [List.length_append, List.length_take, List.length_cons, List.length_nil]; omega), by first | exact trivial | simp [SV.ok]⟩, ?_⟩)
          · ((rw [tk1 x.gots k default (by omega)]); repeat' (first | exact trivial | refine ⟨by first | rfl | simp [Blk.ent], ?_⟩))
          · try dsimp only
            exact ⟨by omega, by (rw [tk1 x.gots k default (by omega)]; assumption)⟩
          · try dsimp only
            omega
        ·
          simp at q31
          (have hke : k = x.gots.length := (by omega); simp only [List.take_length, hke] at oA ⊢; exact ⟨_, ⟨_, rfl, gCell_ow.2 ⟨_, _, _, _, _, _, _, _, rfl, .refl _, by assumption, by assumption, by assumption, by assumption, by assumption⟩⟩, (.le fun a => by (try simp only [setR, List.cons_append, List.nil_append]); simp only [List.flatten_append, List.flatten_cons, List.flatten_nil, List.count_append, List.count_nil, List.append_nil, List.nil_append]; omega)⟩)
      ·
        exact trivial
  ·
    refine VC.intro ?_ ?_
    ·
      refine VCnew.intro fun x41 => ?_
      refine VC.intro ?_ ?_
      · exact keep_new
      refine VC.intro ?_ ?_
      ·
        refine call_new (s_l08Copy_ct _ (x.query) ?_) (Rp.mono _ (mem_at 1 rfl) h0p) ?_
        · omega
        rintro v42 A42 o42
        obtain ⟨l42, rfl, o42⟩ := o42
        have r42 := Gt.owrd _ o42
        obtain ⟨b1x42, c1x42, b2x42, c2x42, b3x42, c3x42, rfl, h1x42, h2x42, h3x42⟩ := gQuery_rd.1 r42
        refine VC.intro ?_ ?_
        · exact keep_sub (by simp) (by simp)
        refine VC.intro ?_ ?_
        ·
          refine append_allN (g := gI) (T := (3 : TypeId)) G_ok (by repeat (first | exact fl_plain | apply plain_iso | apply plain_pair)) [] [A42, [(x41, Obj.cells { toList := zeros (0 : Nat) [Value.int IntKind.i64 (0 : Int)] } (3 : TypeId))], H] 2 ?_ (sl_nil _ _ _) rfl h1p rfl rfl rfl rfl rfl rfl rfl rfl ?_ fun b43 c43 A43 o43 => ?_
          · exact .refl _
          · simp; omega
          refine VC.intro ?_ ?_
          · exact keep_sub (by simp) (by simp)
          refine VCnew.intro fun x44 => ?_
          refine VC.intro ?_ ?_
          · exact keep_sub (by simp) (by simp)
          apply loop_mod (α := (Nat) × (Hp) × (Option Addr) × (Nat)) G_ok [17, 18, 19, 20, 21, 24, 25, 26, 27, 28, 29, 30, 31, 32, 33, 34, 35, 36, 37, 38, 39, 40, 41, 42, 43, 44, 45, 46, 47, 48, 22, 23, 4] (fun z => [(4, .v (.int .i64 z.1))]) (fun z => [⟨x0, [Value.bool x.query.each, Value.slice b1_0p x.query.out.length c1_0p, Value.slice b2_0p x.query.atoms.length c2_0p, Value.slice b3_0p x.query.filters.length c3_0p, Value.slice b1p x.shares.length c1p, Value.int IntKind.i64 x.at', Value.int IntKind.i64 x.n, Value.slice b4p x.gots.length c4p], (86 : Nat)⟩, ⟨x1, [Value.bool false, Value.slice none (0 : Nat) (0 : Nat), Value.slice none (0 : Nat) (0 : Nat), Value.slice none (0 : Nat) (0 : Nat), Value.slice none (0 : Nat) (0 : Nat), Value.int IntKind.i64 (0 : Int), Value.int IntKind.i64 (0 : Int), Value.slice none (0 : Nat) (0 : Nat)], (86 : Nat)⟩, ⟨x44, [Value.bool x.query.each, Value.slice b1x42 x.query.out.length c1x42, Value.slice b2x42 x.query.atoms.length c2x42, Value.slice b3x42 x.query.filters.length c3x42, Value.slice b43 ([] ++ x.shares).length c43, Value.int IntKind.i64 x.at', Value.int IntKind.i64 x.n, .slice z.2.2.1 (x.gots.take z.1).length z.2.2.2], (86 : Nat)⟩]) (fun z => [z.2.1, A43, A42, [(x41, Obj.cells { toList := zeros (0 : Nat) [Value.int IntKind.i64 (0 : Int)] } (3 : TypeId))], H]) (fun z => x.gots.length - z.1) (fun z => z.1 ≤ x.gots.length ∧ (gSl 142 gGot).ow [.slice z.2.2.1 (x.gots.take z.1).length z.2.2.2] (x.gots.take z.1) z.2.1) ((0, [], none, 0))
          · repeat' (first | exact trivial | refine ⟨⟨_, rfl, by first | rfl | exact inc_eq _ (by omega) | (refine sl_eq ?_; simp; done) | (refine sl_eq ?_; simp only [List.length_append, List.length_take, List.length_cons, List.length_nil]; omega), by first | exact trivial | simp [SV.ok]⟩, ?_⟩)
          · exact ⟨rfl, rfl, rfl, trivial⟩
          · try dsimp only
            exact ⟨by omega, sl_nil _ _ _⟩
          · exact .refl _
          rintro ⟨k, A, lb, lc⟩ hI
          obtain ⟨hk, oA⟩ : k ≤ x.gots.length ∧ (gSl 142 gGot).ow [.slice lb (x.gots.take k).length lc] (x.gots.take k) A := hI
          try dsimp only
          refine VCsplit.intro (fun q45 => ?_) (fun q45 => ?_)
          ·
            simp at q45
            refine draw G_ok mixed (some 23) (.q 0 (.q 1 (.q 2 (.q 3 (.q 4 (.q 5 (.q 6 (.q 7 (.q 8 (.q 9 (.q 10 (.q 11 (.q 12 (.q 13 (.q 14 (.q 15 (.q 16 (.q 17 (.q 18 (.q 19 (.f 20 (.q 21 (.f 22 (.tl 23 (.f 24 (.f 25 (.nil))))))))))))))))))))))))))) (by decide +kernel) ?_
            refine idx_rd h4p ?_ ?_ fun b46 o46 hb46 => ?_
            · omega
            · omega
            refine load_partN default (k) 0 rfl h4p ?_ ?_ hb46 rfl (by decide) (mem_at 4 rfl) fun l47 hl47 => ?_
            · omega
            · omega
            obtain ⟨l2x47, rfl, w0x47, w1x47, h2x47⟩ := gGot_rd.1 hl47 ; obtain ⟨b0_2x47, c0_2x47, rfl, h0_2x47⟩ := gBag_rd.1 h2x47
            refine idx_rd h4p ?_ ?_ fun b48 o48 hb48 => ?_
            · omega
            · omega
            refine load_partN default (k) 1 rfl h4p ?_ ?_ hb48 rfl (by decide) (mem_at 4 rfl) fun l49 hl49 => ?_
            · omega
            · omega
            obtain ⟨l2x49, rfl, w0x49, w1x49, h2x49⟩ := gGot_rd.1 hl49 ; obtain ⟨b0_2x49, c0_2x49, rfl, h0_2x49⟩ := gBag_rd.1 h2x49
            refine idx_rd h4p ?_ ?_ fun b50 o50 hb50 => ?_
            · omega
            · omega
            refine load_partN default (k) 2 rfl h4p ?_ ?_ hb50 rfl (by decide) (mem_at 4 rfl) fun l51 hl51 => ?_
            · omega
            · omega
            obtain ⟨l2x51, rfl, w0x51, w1x51, h2x51⟩ := gGot_rd.1 hl51 ; obtain ⟨b0_2x51, c0_2x51, rfl, h0_2x51⟩ := gBag_rd.1 h2x51
            refine call_new (s_l03Copy_ct _ ((x.gots[k]?.getD default).bag) ?_) (Rp.mono _ (mem_at 4 rfl) h2x51) ?_
            · (have hs := szE_step gGot x.gots k default (by omega); have hs2 := szE_le gGot x.gots (k + 1); have hs3 := gGot_sz (x.gots[k]?.getD default); omega)
            rintro v52 A52 o52
            obtain ⟨l52, rfl, o52⟩ := o52
            have r52 := Gt.owrd _ o52
            obtain ⟨b0x52, c0x52, rfl, h0x52⟩ := gBag_rd.1 r52
            refine VC.intro ?_ ?_
            · exact keep_new
            refine VCnew.intro fun x53 => ?_
            refine VC.intro ?_ ?_
            · exact keep_new
            refine gappend1 (g := gGot) (T := (142 : TypeId)) G_ok A _ [A43, A42, [(x41, Obj.cells { toList := zeros (0 : Nat) [Value.int IntKind.i64 (0 : Int)] } (3 : TypeId))], H] ?_ oA (gGot_ow.2 ⟨_, _, rfl, .refl _, by assumption, by assumption, by assumption⟩) (List.mem_of_getElem? (i := 0) rfl) rfl rfl rfl rfl rfl rfl rfl rfl ?_ fun b54 c54 A54 o54 => ?_
            · exact .le fun a => by (try simp only [setR, List.cons_append, List.nil_append]); simp only [List.flatten_append, List.flatten_cons, List.flatten_nil, List.count_append, List.count_nil, List.append_nil, List.nil_append]; omega
            · simp; omega
            apply loop_stepA (k + 1, _, _, _)
            · exact .refl _
            · repeat' (first | exact trivial | refine ⟨⟨_, rfl, by first | rfl | exact inc_eq _ (by omega) | (refine sl_eq ?_; simp; done) | (refine sl_eq ?_; simp only [List.length_append, List.length_take, List.length_cons, List.length_nil]; omega), by first | exact trivial | simp [SV.ok]⟩, ?_⟩)
            · ((rw [tk1 x.gots k default (by omega)]); repeat' (first | exact trivial | refine ⟨by first | rfl | simp [Blk.ent], ?_⟩))
            · try dsimp only
              exact ⟨by omega, by (rw [tk1 x.gots k default (by omega)]; assumption)⟩
            · try dsimp only
              omega
          ·
            simp at q45
            (have hke : k = x.gots.length := (by omega); simp only [List.take_length, hke] at oA ⊢; exact ⟨_, ⟨_, rfl, gCell_ow.2 ⟨_, _, _, _, _, _, _, _, rfl, .refl _, by assumption, by assumption, by assumption, by assumption, by assumption⟩⟩, (.le fun a => by (try simp only [setR, List.cons_append, List.nil_append]); simp only [List.flatten_append, List.flatten_cons, List.flatten_nil, List.count_append, List.count_nil, List.append_nil, List.nil_append]; omega)⟩)
        ·
          refine VC.intro ?_ ?_
          ·
            refine VCnew.intro fun x55 => ?_
            refine VC.intro ?_ ?_
            · exact keep_sub (by simp) (by simp)
            refine append_allN (g := gI) (T := (3 : TypeId)) G_ok (by repeat (first | exact fl_plain | apply plain_iso | apply plain_pair)) [] [A42, [(x41, Obj.cells { toList := zeros (0 : Nat) [Value.int IntKind.i64 (0 : Int)] } (3 : TypeId))], H] 2 ?_ (sl_nil _ _ _) rfl h1p rfl rfl rfl rfl rfl rfl rfl rfl ?_ fun b56 c56 A56 o56 => ?_
            · exact .refl _
            · simp; omega
            refine VC.intro ?_ ?_
            · exact keep_sub (by simp) (by simp)
            apply loop_mod (α := (Nat) × (Hp) × (Option Addr) × (Nat)) G_ok [17, 18, 19, 20, 21, 24, 25, 26, 27, 28, 29, 30, 31, 32, 33, 34, 35, 36, 37, 38, 39, 40, 41, 42, 43, 44, 45, 46, 47, 48, 22, 23, 4] (fun z => [(4, .v (.int .i64 z.1))]) (fun z => [⟨x0, [Value.bool x.query.each, Value.slice b1_0p x.query.out.length c1_0p, Value.slice b2_0p x.query.atoms.length c2_0p, Value.slice b3_0p x.query.filters.length c3_0p, Value.slice b1p x.shares.length c1p, Value.int IntKind.i64 x.at', Value.int IntKind.i64 x.n, Value.slice b4p x.gots.length c4p], (86 : Nat)⟩, ⟨x1, [Value.bool false, Value.slice none (0 : Nat) (0 : Nat), Value.slice none (0 : Nat) (0 : Nat), Value.slice none (0 : Nat) (0 : Nat), Value.slice none (0 : Nat) (0 : Nat), Value.int IntKind.i64 (0 : Int), Value.int IntKind.i64 (0 : Int), Value.slice none (0 : Nat) (0 : Nat)], (86 : Nat)⟩, ⟨x55, [Value.bool x.query.each, Value.slice b1x42 x.query.out.length c1x42, Value.slice b2x42 x.query.atoms.length c2x42, Value.slice b3x42 x.query.filters.length c3x42, Value.slice b56 ([] ++ x.shares).length c56, Value.int IntKind.i64 x.at', Value.int IntKind.i64 x.n, .slice z.2.2.1 (x.gots.take z.1).length z.2.2.2], (86 : Nat)⟩]) (fun z => [z.2.1, A56, A42, [(x41, Obj.cells { toList := zeros (0 : Nat) [Value.int IntKind.i64 (0 : Int)] } (3 : TypeId))], H]) (fun z => x.gots.length - z.1) (fun z => z.1 ≤ x.gots.length ∧ (gSl 142 gGot).ow [.slice z.2.2.1 (x.gots.take z.1).length z.2.2.2] (x.gots.take z.1) z.2.1) ((0, [], none, 0))
            · repeat' (first | exact trivial | refine ⟨⟨_, rfl, by first | rfl | exact inc_eq _ (by omega) | (refine sl_eq ?_; simp; done) | (refine sl_eq ?_; simp only [List.length_append, List.length_take, List.length_cons, List.length_nil]; omega), by first | exact trivial | simp [SV.ok]⟩, ?_⟩)
            · exact ⟨rfl, rfl, rfl, trivial⟩
            · try dsimp only
              exact ⟨by omega, sl_nil _ _ _⟩
            · exact .refl _
            rintro ⟨k, A, lb, lc⟩ hI
            obtain ⟨hk, oA⟩ : k ≤ x.gots.length ∧ (gSl 142 gGot).ow [.slice lb (x.gots.take k).length lc] (x.gots.take k) A := hI
            try dsimp only
            refine VCsplit.intro (fun q57 => ?_) (fun q57 => ?_)
            ·
              simp at q57
              refine draw G_ok mixed (some 23) (.q 0 (.q 1 (.q 2 (.q 3 (.q 4 (.q 5 (.q 6 (.q 7 (.q 8 (.q 9 (.q 10 (.q 11 (.q 12 (.q 13 (.q 14 (.q 15 (.q 16 (.q 17 (.q 18 (.q 19 (.f 20 (.q 21 (.f 22 (.tl 23 (.f 24 (.f 25 (.nil))))))))))))))))))))))))))) (by decide +kernel) ?_
              refine idx_rd h4p ?_ ?_ fun b58 o58 hb58 => ?_
              · omega
              · omega
              refine load_partN default (k) 0 rfl h4p ?_ ?_ hb58 rfl (by decide) (mem_at 4 rfl) fun l59 hl59 => ?_
              · omega
              · omega
              obtain ⟨l2x59, rfl, w0x59, w1x59, h2x59⟩ := gGot_rd.1 hl59 ; obtain ⟨b0_2x59, c0_2x59, rfl, h0_2x59⟩ := gBag_rd.1 h2x59
              refine idx_rd h4p ?_ ?_ fun b60 o60 hb60 => ?_
              · omega
              · omega
              refine load_partN default (k) 1 rfl h4p ?_ ?_ hb60 rfl (by decide) (mem_at 4 rfl) fun l61 hl61 => ?_
              · omega
              · omega
              obtain ⟨l2x61, rfl, w0x61, w1x61, h2x61⟩ := gGot_rd.1 hl61 ; obtain ⟨b0_2x61, c0_2x61, rfl, h0_2x61⟩ := gBag_rd.1 h2x61
              refine idx_rd h4p ?_ ?_ fun b62 o62 hb62 => ?_
              · omega
              · omega
              refine load_partN default (k) 2 rfl h4p ?_ ?_ hb62 rfl (by decide) (mem_at 4 rfl) fun l63 hl63 => ?_
              · omega
              · omega
              obtain ⟨l2x63, rfl, w0x63, w1x63, h2x63⟩ := gGot_rd.1 hl63 ; obtain ⟨b0_2x63, c0_2x63, rfl, h0_2x63⟩ := gBag_rd.1 h2x63
              refine call_new (s_l03Copy_ct _ ((x.gots[k]?.getD default).bag) ?_) (Rp.mono _ (mem_at 4 rfl) h2x63) ?_
              · (have hs := szE_step gGot x.gots k default (by omega); have hs2 := szE_le gGot x.gots (k + 1); have hs3 := gGot_sz (x.gots[k]?.getD default); omega)
              rintro v64 A64 o64
              obtain ⟨l64, rfl, o64⟩ := o64
              have r64 := Gt.owrd _ o64
              obtain ⟨b0x64, c0x64, rfl, h0x64⟩ := gBag_rd.1 r64
              refine VC.intro ?_ ?_
              · exact keep_new
              refine VCnew.intro fun x65 => ?_
              refine VC.intro ?_ ?_
              · exact keep_new
              refine gappend1 (g := gGot) (T := (142 : TypeId)) G_ok A _ [A56, A42, [(x41, Obj.cells { toList := zeros (0 : Nat) [Value.int IntKind.i64 (0 : Int)] } (3 : TypeId))], H] ?_ oA (gGot_ow.2 ⟨_, _, rfl, .refl _, by assumption, by assumption, by assumption⟩) (List.mem_of_getElem? (i := 0) rfl) rfl rfl rfl rfl rfl rfl rfl rfl ?_ fun b66 c66 A66 o66 => ?_
              · exact .le fun a => by (try simp only [setR, List.cons_append, List.nil_append]); simp only [List.flatten_append, List.flatten_cons, List.flatten_nil, List.count_append, List.count_nil, List.append_nil, List.nil_append]; omega
              · simp; omega
              apply loop_stepA (k + 1, _, _, _)
              · exact .refl _
              · repeat' (first | exact trivial | refine ⟨⟨_, rfl, by first | rfl | exact inc_eq _ (by omega) | (refine sl_eq ?_; simp; done) | (refine sl_eq ?_; simp only [List.length_append, List.length_take, List.length_cons, List.length_nil]; omega), by first | exact trivial | simp [SV.ok]⟩, ?_⟩)
              · ((rw [tk1 x.gots k default (by omega)]); repeat' (first | exact trivial | refine ⟨by first | rfl | simp [Blk.ent], ?_⟩))
              · try dsimp only
                exact ⟨by omega, by (rw [tk1 x.gots k default (by omega)]; assumption)⟩
              · try dsimp only
                omega
            ·
              simp at q57
              (have hke : k = x.gots.length := (by omega); simp only [List.take_length, hke] at oA ⊢; exact ⟨_, ⟨_, rfl, gCell_ow.2 ⟨_, _, _, _, _, _, _, _, rfl, .refl _, by assumption, by assumption, by assumption, by assumption, by assumption⟩⟩, (.le fun a => by (try simp only [setR, List.cons_append, List.nil_append]); simp only [List.flatten_append, List.flatten_cons, List.flatten_nil, List.count_append, List.count_nil, List.append_nil, List.nil_append]; omega)⟩)
          ·
            exact trivial
      ·
        refine VC.intro ?_ ?_
        ·
          refine VCnew.intro fun x67 => ?_
          refine VC.intro ?_ ?_
          · exact keep_sub (by simp) (by simp)
          refine call_new (s_l08Copy_ct _ (x.query) ?_) (Rp.mono _ (mem_at 1 rfl) h0p) ?_
          · omega
          rintro v68 A68 o68
          obtain ⟨l68, rfl, o68⟩ := o68
          have r68 := Gt.owrd _ o68
          obtain ⟨b1x68, c1x68, b2x68, c2x68, b3x68, c3x68, rfl, h1x68, h2x68, h3x68⟩ := gQuery_rd.1 r68
          refine VC.intro ?_ ?_
          · exact keep_sub (by simp) (by simp)
          refine append_allN (g := gI) (T := (3 : TypeId)) G_ok (by repeat (first | exact fl_plain | apply plain_iso | apply plain_pair)) [] [A68, [(x41, Obj.cells { toList := zeros (0 : Nat) [Value.int IntKind.i64 (0 : Int)] } (3 : TypeId))], H] 2 ?_ (sl_nil _ _ _) rfl h1p rfl rfl rfl rfl rfl rfl rfl rfl ?_ fun b69 c69 A69 o69 => ?_
          · exact .refl _
          · simp; omega
          refine VC.intro ?_ ?_
          · exact keep_sub (by simp) (by simp)
          apply loop_mod (α := (Nat) × (Hp) × (Option Addr) × (Nat)) G_ok [17, 18, 19, 20, 21, 24, 25, 26, 27, 28, 29, 30, 31, 32, 33, 34, 35, 36, 37, 38, 39, 40, 41, 42, 43, 44, 45, 46, 47, 48, 22, 23, 4] (fun z => [(4, .v (.int .i64 z.1))]) (fun z => [⟨x0, [Value.bool x.query.each, Value.slice b1_0p x.query.out.length c1_0p, Value.slice b2_0p x.query.atoms.length c2_0p, Value.slice b3_0p x.query.filters.length c3_0p, Value.slice b1p x.shares.length c1p, Value.int IntKind.i64 x.at', Value.int IntKind.i64 x.n, Value.slice b4p x.gots.length c4p], (86 : Nat)⟩, ⟨x1, [Value.bool false, Value.slice none (0 : Nat) (0 : Nat), Value.slice none (0 : Nat) (0 : Nat), Value.slice none (0 : Nat) (0 : Nat), Value.slice none (0 : Nat) (0 : Nat), Value.int IntKind.i64 (0 : Int), Value.int IntKind.i64 (0 : Int), Value.slice none (0 : Nat) (0 : Nat)], (86 : Nat)⟩, ⟨x67, [Value.bool x.query.each, Value.slice b1x68 x.query.out.length c1x68, Value.slice b2x68 x.query.atoms.length c2x68, Value.slice b3x68 x.query.filters.length c3x68, Value.slice b69 ([] ++ x.shares).length c69, Value.int IntKind.i64 x.at', Value.int IntKind.i64 x.n, .slice z.2.2.1 (x.gots.take z.1).length z.2.2.2], (86 : Nat)⟩]) (fun z => [z.2.1, A69, A68, [(x41, Obj.cells { toList := zeros (0 : Nat) [Value.int IntKind.i64 (0 : Int)] } (3 : TypeId))], H]) (fun z => x.gots.length - z.1) (fun z => z.1 ≤ x.gots.length ∧ (gSl 142 gGot).ow [.slice z.2.2.1 (x.gots.take z.1).length z.2.2.2] (x.gots.take z.1) z.2.1) ((0, [], none, 0))
          · repeat' (first | exact trivial | refine ⟨⟨_, rfl, by first | rfl | exact inc_eq _ (by omega) | (refine sl_eq ?_; simp; done) | (refine sl_eq ?_; simp only [List.length_append, List.length_take, List.length_cons, List.length_nil]; omega), by first | exact trivial | simp [SV.ok]⟩, ?_⟩)
          · exact ⟨rfl, rfl, rfl, trivial⟩
          · try dsimp only
            exact ⟨by omega, sl_nil _ _ _⟩
          · exact .refl _
          rintro ⟨k, A, lb, lc⟩ hI
          obtain ⟨hk, oA⟩ : k ≤ x.gots.length ∧ (gSl 142 gGot).ow [.slice lb (x.gots.take k).length lc] (x.gots.take k) A := hI
          try dsimp only
          refine VCsplit.intro (fun q70 => ?_) (fun q70 => ?_)
          ·
            simp at q70
            refine draw G_ok mixed (some 23) (.q 0 (.q 1 (.q 2 (.q 3 (.q 4 (.q 5 (.q 6 (.q 7 (.q 8 (.q 9 (.q 10 (.q 11 (.q 12 (.q 13 (.q 14 (.q 15 (.q 16 (.q 17 (.q 18 (.q 19 (.f 20 (.q 21 (.f 22 (.tl 23 (.f 24 (.f 25 (.nil))))))))))))))))))))))))))) (by decide +kernel) ?_
            refine idx_rd h4p ?_ ?_ fun b71 o71 hb71 => ?_
            · omega
            · omega
            refine load_partN default (k) 0 rfl h4p ?_ ?_ hb71 rfl (by decide) (mem_at 4 rfl) fun l72 hl72 => ?_
            · omega
            · omega
            obtain ⟨l2x72, rfl, w0x72, w1x72, h2x72⟩ := gGot_rd.1 hl72 ; obtain ⟨b0_2x72, c0_2x72, rfl, h0_2x72⟩ := gBag_rd.1 h2x72
            refine idx_rd h4p ?_ ?_ fun b73 o73 hb73 => ?_
            · omega
            · omega
            refine load_partN default (k) 1 rfl h4p ?_ ?_ hb73 rfl (by decide) (mem_at 4 rfl) fun l74 hl74 => ?_
            · omega
            · omega
            obtain ⟨l2x74, rfl, w0x74, w1x74, h2x74⟩ := gGot_rd.1 hl74 ; obtain ⟨b0_2x74, c0_2x74, rfl, h0_2x74⟩ := gBag_rd.1 h2x74
            refine idx_rd h4p ?_ ?_ fun b75 o75 hb75 => ?_
            · omega
            · omega
            refine load_partN default (k) 2 rfl h4p ?_ ?_ hb75 rfl (by decide) (mem_at 4 rfl) fun l76 hl76 => ?_
            · omega
            · omega
            obtain ⟨l2x76, rfl, w0x76, w1x76, h2x76⟩ := gGot_rd.1 hl76 ; obtain ⟨b0_2x76, c0_2x76, rfl, h0_2x76⟩ := gBag_rd.1 h2x76
            refine call_new (s_l03Copy_ct _ ((x.gots[k]?.getD default).bag) ?_) (Rp.mono _ (mem_at 4 rfl) h2x76) ?_
            · (have hs := szE_step gGot x.gots k default (by omega); have hs2 := szE_le gGot x.gots (k + 1); have hs3 := gGot_sz (x.gots[k]?.getD default); omega)
            rintro v77 A77 o77
            obtain ⟨l77, rfl, o77⟩ := o77
            have r77 := Gt.owrd _ o77
            obtain ⟨b0x77, c0x77, rfl, h0x77⟩ := gBag_rd.1 r77
            refine VC.intro ?_ ?_
            · exact keep_new
            refine VCnew.intro fun x78 => ?_
            refine VC.intro ?_ ?_
            · exact keep_new
            refine gappend1 (g := gGot) (T := (142 : TypeId)) G_ok A _ [A69, A68, [(x41, Obj.cells { toList := zeros (0 : Nat) [Value.int IntKind.i64 (0 : Int)] } (3 : TypeId))], H] ?_ oA (gGot_ow.2 ⟨_, _, rfl, .refl _, by assumption, by assumption, by assumption⟩) (List.mem_of_getElem? (i := 0) rfl) rfl rfl rfl rfl rfl rfl rfl rfl ?_ fun b79 c79 A79 o79 => ?_
            · exact .le fun a => by (try simp only [setR, List.cons_append, List.nil_append]); simp only [List.flatten_append, List.flatten_cons, List.flatten_nil, List.count_append, List.count_nil, List.append_nil, List.nil_append]; omega
            · simp; omega
            apply loop_stepA (k + 1, _, _, _)
            · exact .refl _
            · repeat' (first | exact trivial | refine ⟨⟨_, rfl, by first | rfl | exact inc_eq _ (by omega) | (refine sl_eq ?_; simp; done) | (refine sl_eq ?_; simp only [List.length_append, List.length_take, List.length_cons, List.length_nil]; omega), by first | exact trivial | simp [SV.ok]⟩, ?_⟩)
            · ((rw [tk1 x.gots k default (by omega)]); repeat' (first | exact trivial | refine ⟨by first | rfl | simp [Blk.ent], ?_⟩))
            · try dsimp only
              exact ⟨by omega, by (rw [tk1 x.gots k default (by omega)]; assumption)⟩
            · try dsimp only
              omega
          ·
            simp at q70
            (have hke : k = x.gots.length := (by omega); simp only [List.take_length, hke] at oA ⊢; exact ⟨_, ⟨_, rfl, gCell_ow.2 ⟨_, _, _, _, _, _, _, _, rfl, .refl _, by assumption, by assumption, by assumption, by assumption, by assumption⟩⟩, (.le fun a => by (try simp only [setR, List.cons_append, List.nil_append]); simp only [List.flatten_append, List.flatten_cons, List.flatten_nil, List.count_append, List.count_nil, List.append_nil, List.nil_append]; omega)⟩)
        ·
          exact trivial
    ·
      refine VC.intro ?_ ?_
      ·
        refine VCnew.intro fun x80 => ?_
        refine VC.intro ?_ ?_
        · exact keep_sub (by simp) (by simp)
        refine VC.intro ?_ ?_
        ·
          refine call_new (s_l08Copy_ct _ (x.query) ?_) (Rp.mono _ (mem_at 0 rfl) h0p) ?_
          · omega
          rintro v81 A81 o81
          obtain ⟨l81, rfl, o81⟩ := o81
          have r81 := Gt.owrd _ o81
          obtain ⟨b1x81, c1x81, b2x81, c2x81, b3x81, c3x81, rfl, h1x81, h2x81, h3x81⟩ := gQuery_rd.1 r81
          refine VC.intro ?_ ?_
          · exact keep_sub (by simp) (by simp)
          refine VCnew.intro fun x82 => ?_
          refine VC.intro ?_ ?_
          · exact keep_sub (by simp) (by simp)
          refine append_allN (g := gI) (T := (3 : TypeId)) G_ok (by repeat (first | exact fl_plain | apply plain_iso | apply plain_pair)) [] [[(x82, Obj.cells { toList := zeros (0 : Nat) [Value.int IntKind.i64 (0 : Int)] } (3 : TypeId))], A81, H] 2 ?_ (sl_nil _ _ _) rfl h1p rfl rfl rfl rfl rfl rfl rfl rfl ?_ fun b83 c83 A83 o83 => ?_
          · exact .refl _
          · simp; omega
          refine VC.intro ?_ ?_
          · exact keep_sub (by simp) (by simp)
          apply loop_mod (α := (Nat) × (Hp) × (Option Addr) × (Nat)) G_ok [17, 18, 19, 20, 21, 24, 25, 26, 27, 28, 29, 30, 31, 32, 33, 34, 35, 36, 37, 38, 39, 40, 41, 42, 43, 44, 45, 46, 47, 48, 22, 23, 4] (fun z => [(4, .v (.int .i64 z.1))]) (fun z => [⟨x0, [Value.bool x.query.each, Value.slice b1_0p x.query.out.length c1_0p, Value.slice b2_0p x.query.atoms.length c2_0p, Value.slice b3_0p x.query.filters.length c3_0p, Value.slice b1p x.shares.length c1p, Value.int IntKind.i64 x.at', Value.int IntKind.i64 x.n, Value.slice b4p x.gots.length c4p], (86 : Nat)⟩, ⟨x1, [Value.bool false, Value.slice none (0 : Nat) (0 : Nat), Value.slice none (0 : Nat) (0 : Nat), Value.slice none (0 : Nat) (0 : Nat), Value.slice none (0 : Nat) (0 : Nat), Value.int IntKind.i64 (0 : Int), Value.int IntKind.i64 (0 : Int), Value.slice none (0 : Nat) (0 : Nat)], (86 : Nat)⟩, ⟨x80, [Value.bool x.query.each, Value.slice b1x81 x.query.out.length c1x81, Value.slice b2x81 x.query.atoms.length c2x81, Value.slice b3x81 x.query.filters.length c3x81, Value.slice b83 ([] ++ x.shares).length c83, Value.int IntKind.i64 x.at', Value.int IntKind.i64 x.n, .slice z.2.2.1 (x.gots.take z.1).length z.2.2.2], (86 : Nat)⟩]) (fun z => [z.2.1, A83, [(x82, Obj.cells { toList := zeros (0 : Nat) [Value.int IntKind.i64 (0 : Int)] } (3 : TypeId))], A81, H]) (fun z => x.gots.length - z.1) (fun z => z.1 ≤ x.gots.length ∧ (gSl 142 gGot).ow [.slice z.2.2.1 (x.gots.take z.1).length z.2.2.2] (x.gots.take z.1) z.2.1) ((0, [], none, 0))
          · repeat' (first | exact trivial | refine ⟨⟨_, rfl, by first | rfl | exact inc_eq _ (by omega) | (refine sl_eq ?_; simp; done) | (refine sl_eq ?_; simp only [List.length_append, List.length_take, List.length_cons, List.length_nil]; omega), by first | exact trivial | simp [SV.ok]⟩, ?_⟩)
          · exact ⟨rfl, rfl, rfl, trivial⟩
          · try dsimp only
            exact ⟨by omega, sl_nil _ _ _⟩
          · exact .refl _
          rintro ⟨k, A, lb, lc⟩ hI
          obtain ⟨hk, oA⟩ : k ≤ x.gots.length ∧ (gSl 142 gGot).ow [.slice lb (x.gots.take k).length lc] (x.gots.take k) A := hI
          try dsimp only
          refine VCsplit.intro (fun q84 => ?_) (fun q84 => ?_)
          ·
            simp at q84
            refine draw G_ok mixed (some 23) (.q 0 (.q 1 (.q 2 (.q 3 (.q 4 (.q 5 (.q 6 (.q 7 (.q 8 (.q 9 (.q 10 (.q 11 (.q 12 (.q 13 (.q 14 (.q 15 (.q 16 (.q 17 (.q 18 (.q 19 (.f 20 (.q 21 (.f 22 (.tl 23 (.f 24 (.f 25 (.nil))))))))))))))))))))))))))) (by decide +kernel) ?_
            refine idx_rd h4p ?_ ?_ fun b85 o85 hb85 => ?_
            · omega
            · omega
            refine load_partN default (k) 0 rfl h4p ?_ ?_ hb85 rfl (by decide) (mem_at 4 rfl) fun l86 hl86 => ?_
            · omega
            · omega
            obtain ⟨l2x86, rfl, w0x86, w1x86, h2x86⟩ := gGot_rd.1 hl86 ; obtain ⟨b0_2x86, c0_2x86, rfl, h0_2x86⟩ := gBag_rd.1 h2x86
            refine idx_rd h4p ?_ ?_ fun b87 o87 hb87 => ?_
            · omega
            · omega
            refine load_partN default (k) 1 rfl h4p ?_ ?_ hb87 rfl (by decide) (mem_at 4 rfl) fun l88 hl88 => ?_
            · omega
            · omega
            obtain ⟨l2x88, rfl, w0x88, w1x88, h2x88⟩ := gGot_rd.1 hl88 ; obtain ⟨b0_2x88, c0_2x88, rfl, h0_2x88⟩ := gBag_rd.1 h2x88
            refine idx_rd h4p ?_ ?_ fun b89 o89 hb89 => ?_
            · omega
            · omega
            refine load_partN default (k) 2 rfl h4p ?_ ?_ hb89 rfl (by decide) (mem_at 4 rfl) fun l90 hl90 => ?_
            · omega
            · omega
            obtain ⟨l2x90, rfl, w0x90, w1x90, h2x90⟩ := gGot_rd.1 hl90 ; obtain ⟨b0_2x90, c0_2x90, rfl, h0_2x90⟩ := gBag_rd.1 h2x90
            refine call_new (s_l03Copy_ct _ ((x.gots[k]?.getD default).bag) ?_) (Rp.mono _ (mem_at 4 rfl) h2x90) ?_
            · (have hs := szE_step gGot x.gots k default (by omega); have hs2 := szE_le gGot x.gots (k + 1); have hs3 := gGot_sz (x.gots[k]?.getD default); omega)
            rintro v91 A91 o91
            obtain ⟨l91, rfl, o91⟩ := o91
            have r91 := Gt.owrd _ o91
            obtain ⟨b0x91, c0x91, rfl, h0x91⟩ := gBag_rd.1 r91
            refine VC.intro ?_ ?_
            · exact keep_new
            refine VCnew.intro fun x92 => ?_
            refine VC.intro ?_ ?_
            · exact keep_new
            refine gappend1 (g := gGot) (T := (142 : TypeId)) G_ok A _ [A83, [(x82, Obj.cells { toList := zeros (0 : Nat) [Value.int IntKind.i64 (0 : Int)] } (3 : TypeId))], A81, H] ?_ oA (gGot_ow.2 ⟨_, _, rfl, .refl _, by assumption, by assumption, by assumption⟩) (List.mem_of_getElem? (i := 0) rfl) rfl rfl rfl rfl rfl rfl rfl rfl ?_ fun b93 c93 A93 o93 => ?_
            · exact .le fun a => by (try simp only [setR, List.cons_append, List.nil_append]); simp only [List.flatten_append, List.flatten_cons, List.flatten_nil, List.count_append, List.count_nil, List.append_nil, List.nil_append]; omega
            · simp; omega
            apply loop_stepA (k + 1, _, _, _)
            · exact .refl _
            · repeat' (first | exact trivial | refine ⟨⟨_, rfl, by first | rfl | exact inc_eq _ (by omega) | (refine sl_eq ?_; simp; done) | (refine sl_eq ?_; simp only [List.length_append, List.length_take, List.length_cons, List.length_nil]; omega), by first | exact trivial | simp [SV.ok]⟩, ?_⟩)
            · ((rw [tk1 x.gots k default (by omega)]); repeat' (first | exact trivial | refine ⟨by first | rfl | simp [Blk.ent], ?_⟩))
            · try dsimp only
              exact ⟨by omega, by (rw [tk1 x.gots k default (by omega)]; assumption)⟩
            · try dsimp only
              omega
          ·
            simp at q84
            (have hke : k = x.gots.length := (by omega); simp only [List.take_length, hke] at oA ⊢; exact ⟨_, ⟨_, rfl, gCell_ow.2 ⟨_, _, _, _, _, _, _, _, rfl, .refl _, by assumption, by assumption, by assumption, by assumption, by assumption⟩⟩, (.le fun a => by (try simp only [setR, List.cons_append, List.nil_append]); simp only [List.flatten_append, List.flatten_cons, List.flatten_nil, List.count_append, List.count_nil, List.append_nil, List.nil_append]; omega)⟩)
        ·
          refine VC.intro ?_ ?_
          ·
            refine VCnew.intro fun x94 => ?_
            refine VC.intro ?_ ?_
            · exact keep_sub (by simp) (by simp)
            refine call_new (s_l08Copy_ct _ (x.query) ?_) (Rp.mono _ (mem_at 1 rfl) h0p) ?_
            · omega
            rintro v95 A95 o95
            obtain ⟨l95, rfl, o95⟩ := o95
            have r95 := Gt.owrd _ o95
            obtain ⟨b1x95, c1x95, b2x95, c2x95, b3x95, c3x95, rfl, h1x95, h2x95, h3x95⟩ := gQuery_rd.1 r95
            refine VC.intro ?_ ?_
            · exact keep_sub (by simp) (by simp)
            refine append_allN (g := gI) (T := (3 : TypeId)) G_ok (by repeat (first | exact fl_plain | apply plain_iso | apply plain_pair)) [] [A95, [(x94, Obj.cells { toList := zeros (0 : Nat) [Value.int IntKind.i64 (0 : Int)] } (3 : TypeId))], H] 2 ?_ (sl_nil _ _ _) rfl h1p rfl rfl rfl rfl rfl rfl rfl rfl ?_ fun b96 c96 A96 o96 => ?_
            · exact .refl _
            · simp; omega
            refine VC.intro ?_ ?_
            · exact keep_sub (by simp) (by simp)
            apply loop_mod (α := (Nat) × (Hp) × (Option Addr) × (Nat)) G_ok [17, 18, 19, 20, 21, 24, 25, 26, 27, 28, 29, 30, 31, 32, 33, 34, 35, 36, 37, 38, 39, 40, 41, 42, 43, 44, 45, 46, 47, 48, 22, 23, 4] (fun z => [(4, .v (.int .i64 z.1))]) (fun z => [⟨x0, [Value.bool x.query.each, Value.slice b1_0p x.query.out.length c1_0p, Value.slice b2_0p x.query.atoms.length c2_0p, Value.slice b3_0p x.query.filters.length c3_0p, Value.slice b1p x.shares.length c1p, Value.int IntKind.i64 x.at', Value.int IntKind.i64 x.n, Value.slice b4p x.gots.length c4p], (86 : Nat)⟩, ⟨x1, [Value.bool false, Value.slice none (0 : Nat) (0 : Nat), Value.slice none (0 : Nat) (0 : Nat), Value.slice none (0 : Nat) (0 : Nat), Value.slice none (0 : Nat) (0 : Nat), Value.int IntKind.i64 (0 : Int), Value.int IntKind.i64 (0 : Int), Value.slice none (0 : Nat) (0 : Nat)], (86 : Nat)⟩, ⟨x80, [Value.bool x.query.each, Value.slice b1x95 x.query.out.length c1x95, Value.slice b2x95 x.query.atoms.length c2x95, Value.slice b3x95 x.query.filters.length c3x95, Value.slice b96 ([] ++ x.shares).length c96, Value.int IntKind.i64 x.at', Value.int IntKind.i64 x.n, .slice z.2.2.1 (x.gots.take z.1).length z.2.2.2], (86 : Nat)⟩]) (fun z => [z.2.1, A96, A95, [(x94, Obj.cells { toList := zeros (0 : Nat) [Value.int IntKind.i64 (0 : Int)] } (3 : TypeId))], H]) (fun z => x.gots.length - z.1) (fun z => z.1 ≤ x.gots.length ∧ (gSl 142 gGot).ow [.slice z.2.2.1 (x.gots.take z.1).length z.2.2.2] (x.gots.take z.1) z.2.1) ((0, [], none, 0))
            · repeat' (first | exact trivial | refine ⟨⟨_, rfl, by first | rfl | exact inc_eq _ (by omega) | (refine sl_eq ?_; simp; done) | (refine sl_eq ?_; simp only [List.length_append, List.length_take, List.length_cons, List.length_nil]; omega), by first | exact trivial | simp [SV.ok]⟩, ?_⟩)
            · exact ⟨rfl, rfl, rfl, trivial⟩
            · try dsimp only
              exact ⟨by omega, sl_nil _ _ _⟩
            · exact .refl _
            rintro ⟨k, A, lb, lc⟩ hI
            obtain ⟨hk, oA⟩ : k ≤ x.gots.length ∧ (gSl 142 gGot).ow [.slice lb (x.gots.take k).length lc] (x.gots.take k) A := hI
            try dsimp only
            refine VCsplit.intro (fun q97 => ?_) (fun q97 => ?_)
            ·
              simp at q97
              refine draw G_ok mixed (some 23) (.q 0 (.q 1 (.q 2 (.q 3 (.q 4 (.q 5 (.q 6 (.q 7 (.q 8 (.q 9 (.q 10 (.q 11 (.q 12 (.q 13 (.q 14 (.q 15 (.q 16 (.q 17 (.q 18 (.q 19 (.f 20 (.q 21 (.f 22 (.tl 23 (.f 24 (.f 25 (.nil))))))))))))))))))))))))))) (by decide +kernel) ?_
              refine idx_rd h4p ?_ ?_ fun b98 o98 hb98 => ?_
              · omega
              · omega
              refine load_partN default (k) 0 rfl h4p ?_ ?_ hb98 rfl (by decide) (mem_at 4 rfl) fun l99 hl99 => ?_
              · omega
              · omega
              obtain ⟨l2x99, rfl, w0x99, w1x99, h2x99⟩ := gGot_rd.1 hl99 ; obtain ⟨b0_2x99, c0_2x99, rfl, h0_2x99⟩ := gBag_rd.1 h2x99
              refine idx_rd h4p ?_ ?_ fun b100 o100 hb100 => ?_
              · omega
              · omega
              refine load_partN default (k) 1 rfl h4p ?_ ?_ hb100 rfl (by decide) (mem_at 4 rfl) fun l101 hl101 => ?_
              · omega
              · omega
              obtain ⟨l2x101, rfl, w0x101, w1x101, h2x101⟩ := gGot_rd.1 hl101 ; obtain ⟨b0_2x101, c0_2x101, rfl, h0_2x101⟩ := gBag_rd.1 h2x101
              refine idx_rd h4p ?_ ?_ fun b102 o102 hb102 => ?_
              · omega
              · omega
              refine load_partN default (k) 2 rfl h4p ?_ ?_ hb102 rfl (by decide) (mem_at 4 rfl) fun l103 hl103 => ?_
              · omega
              · omega
              obtain ⟨l2x103, rfl, w0x103, w1x103, h2x103⟩ := gGot_rd.1 hl103 ; obtain ⟨b0_2x103, c0_2x103, rfl, h0_2x103⟩ := gBag_rd.1 h2x103
              refine call_new (s_l03Copy_ct _ ((x.gots[k]?.getD default).bag) ?_) (Rp.mono _ (mem_at 4 rfl) h2x103) ?_
              · (have hs := szE_step gGot x.gots k default (by omega); have hs2 := szE_le gGot x.gots (k + 1); have hs3 := gGot_sz (x.gots[k]?.getD default); omega)
              rintro v104 A104 o104
              obtain ⟨l104, rfl, o104⟩ := o104
              have r104 := Gt.owrd _ o104
              obtain ⟨b0x104, c0x104, rfl, h0x104⟩ := gBag_rd.1 r104
              refine VC.intro ?_ ?_
              · exact keep_new
              refine VCnew.intro fun x105 => ?_
              refine VC.intro ?_ ?_
              · exact keep_new
              refine gappend1 (g := gGot) (T := (142 : TypeId)) G_ok A _ [A96, A95, [(x94, Obj.cells { toList := zeros (0 : Nat) [Value.int IntKind.i64 (0 : Int)] } (3 : TypeId))], H] ?_ oA (gGot_ow.2 ⟨_, _, rfl, .refl _, by assumption, by assumption, by assumption⟩) (List.mem_of_getElem? (i := 0) rfl) rfl rfl rfl rfl rfl rfl rfl rfl ?_ fun b106 c106 A106 o106 => ?_
              · exact .le fun a => by (try simp only [setR, List.cons_append, List.nil_append]); simp only [List.flatten_append, List.flatten_cons, List.flatten_nil, List.count_append, List.count_nil, List.append_nil, List.nil_append]; omega
              · simp; omega
              apply loop_stepA (k + 1, _, _, _)
              · exact .refl _
              · repeat' (first | exact trivial | refine ⟨⟨_, rfl, by first | rfl | exact inc_eq _ (by omega) | (refine sl_eq ?_; simp; done) | (refine sl_eq ?_; simp only [List.length_append, List.length_take, List.length_cons, List.length_nil]; omega), by first | exact trivial | simp [SV.ok]⟩, ?_⟩)
              · ((rw [tk1 x.gots k default (by omega)]); repeat' (first | exact trivial | refine ⟨by first | rfl | simp [Blk.ent], ?_⟩))
              · try dsimp only
                exact ⟨by omega, by (rw [tk1 x.gots k default (by omega)]; assumption)⟩
              · try dsimp only
                omega
            ·
              simp at q97
              (have hke : k = x.gots.length := (by omega); simp only [List.take_length, hke] at oA ⊢; exact ⟨_, ⟨_, rfl, gCell_ow.2 ⟨_, _, _, _, _, _, _, _, rfl, .refl _, by assumption, by assumption, by assumption, by assumption, by assumption⟩⟩, (.le fun a => by (try simp only [setR, List.cons_append, List.nil_append]); simp only [List.flatten_append, List.flatten_cons, List.flatten_nil, List.count_append, List.count_nil, List.append_nil, List.nil_append]; omega)⟩)
          ·
            exact trivial
      ·
        exact trivial

--@ct impl.copyLink new copyLink_ct _ $1 ?_ | %1 | obtain ⟨l#, rfl, o#⟩ := o# ;; have r# := Gt.owrd _ o# ;; obtain ⟨b0x#, c0x#, rfl, h0x#, w1x#, w2x#⟩ := gLink_rd.1 r#
theorem copyLink_ct (l : List Value) (x : Link) (hx : gLink.sz x ≤ 1048576) :
    Ct Try.prog 130 [.agg ⟨l⟩] [] (fun H => gLink.rd H l x) (fun v A => ∃ l, v = .agg ⟨l⟩ ∧ gLink.ow l x A) := by
  refine Ct.intro0 G_ok Try.func130 rfl rfl rfl fun E H hp => ?_
  obtain ⟨b0p, c0p, rfl, h0p, w1p, w2p⟩ := gLink_rd.1 hp
  have ez := gLink_sz (x)
  have en0 := len_szL gS (x.sent)
  refine VCnew.intro fun x0 => ?_
  refine VCnew.intro fun x1 => ?_
  refine call_new (cloneS_ct _ _ _ (x.sent) ?_) (Rp.mono _ (mem_at 0 rfl) h0p) ?_
  · trivial
  rintro v2 A2 o2
  obtain ⟨b2, c2, rfl, o2⟩ := o2
  exact ⟨_, ⟨_, rfl, gLink_ow.2 ⟨_, _, _, rfl, .refl _, by assumption, by assumption, by assumption⟩⟩, (.le fun a => by (try simp only [setR, List.cons_append, List.nil_append]); simp only [List.flatten_append, List.flatten_cons, List.flatten_nil, List.count_append, List.count_nil, List.append_nil, List.nil_append]; omega)⟩

--@ct spec.l18Copy new s_l18Copy_ct _ $1 ?_ | %1 | obtain ⟨l#, rfl, o#⟩ := o# ;; have r# := Gt.owrd _ o# ;; obtain ⟨b0x#, c0x#, rfl, h0x#, w1x#, w2x#⟩ := gLink_rd.1 r#
theorem s_l18Copy_ct (l : List Value) (x : Link) (hx : gLink.sz x ≤ 1048576) :
    Ct Try.prog 127 [.agg ⟨l⟩] [] (fun H => gLink.rd H l x) (fun v A => ∃ l, v = .agg ⟨l⟩ ∧ gLink.ow l x A) := by
  refine Ct.intro0 G_ok Try.func127 rfl rfl rfl fun E H hp => ?_
  obtain ⟨b0p, c0p, rfl, h0p, w1p, w2p⟩ := gLink_rd.1 hp
  have ez := gLink_sz (x)
  have en0 := len_szL gS (x.sent)
  refine VCnew.intro fun x0 => ?_
  refine VCnew.intro fun x1 => ?_
  refine draw G_ok mixed (some 9) (.q 1 (.q 2 (.q 4 (.q 5 (.q 6 (.q 7 (.f 0 (.f 3 (.q 8 (.tl 9 (.nil))))))))))) (by decide +kernel) ?_
  refine VCnew.intro fun x2 => ?_
  refine VC.intro ?_ ?_
  · exact keep_new
  refine append_allN (g := gS) (T := (9 : TypeId)) G_ok (by repeat (first | exact fl_plain | apply plain_iso | apply plain_pair)) [] [[(x2, Obj.cells { toList := zeros (0 : Nat) [Value.string ByteArray.empty] } (9 : TypeId))], H] 1 ?_ (sl_nil _ _ _) rfl h0p rfl rfl rfl rfl rfl rfl rfl rfl ?_ fun b3 c3 A3 o3 => ?_
  · exact .refl _
  · simp; omega
  refine VC.intro ?_ ?_
  · exact keep_sub (by simp) (by simp)
  exact ⟨_, ⟨_, rfl, gLink_ow.2 ⟨_, _, _, rfl, .refl _, by assumption, by assumption, by assumption⟩⟩, (.le fun a => by (try simp only [setR, List.cons_append, List.nil_append]); simp only [List.flatten_append, List.flatten_cons, List.flatten_nil, List.count_append, List.count_nil, List.append_nil, List.nil_append]; omega)⟩

end Go.Proofs.Ytcikookachejfaa
