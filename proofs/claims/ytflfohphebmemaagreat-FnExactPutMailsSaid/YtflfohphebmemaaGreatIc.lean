/-
  Copies of values, on both sides. Conditions: none.
-/
import Derived.Test.YtflfohphebmemaaGreatGc
import Derived.Test.YtflfohphebmemaaGreatSxZ
namespace Go.Proofs.YtflfohphebmemaaGreat
open Go.SX Go.Proofs
set_option linter.unusedSimpArgs false
set_option linter.unusedVariables false
set_option maxHeartbeats 4000000
attribute [local irreducible] IntKind.wrap

theorem sl_none {α : Type} {T : TypeId} {g : Gt α} {H : Hp} {xs : List α} {b : Option Addr} {n c : Nat} (h : (gSl T g).rd H [.slice b n c] xs) (hb : b = none) : xs = [] := by
  obtain ⟨base, cap, e, -, h3⟩ := h
  cases xs with
  | nil => rfl
  | cons x xs =>
    obtain ⟨b', o, l', h4, -⟩ := h3 0 (by simp)
    injection e with e; injection e with e
    rw [hb, h4] at e; cases e

theorem tk1 {α : Type} (xs : List α) (k : Nat) (z : α) (h : k < xs.length) : xs.take (k + 1) = xs.take k ++ [xs[k]?.getD z] := by
  rw [← List.take_append_getElem h, List.getElem?_eq_getElem h]; rfl
--@ct slices.Clone[[]string,string] new cloneS_ct _ _ _ $1 ?_ | %1 | obtain ⟨b#, c#, rfl, o#⟩ := o#
theorem cloneS_ct (b : Option Addr) (m c : Nat) (xs : List ByteArray) (hx : szL gS xs ≤ 1048576) :
    Ct Tryz.prog 178 [.slice b m c] [] (fun H => (gSl 9 gS).rd H [.slice b m c] xs) (fun v A => ∃ b c, v = .slice b xs.length c ∧ (gSl 9 gS).ow [.slice b xs.length c] xs A) := by
  refine Ct.intro0 G_ok Tryz.func178 rfl rfl rfl fun E H hp => ?_
  obtain ⟨rfl, hcl, hl⟩ := sl_len hp
  have hls := len_szL gS xs
  refine VCsplit.intro (fun q0 => ?_) (fun q0 => ?_)
  ·
    simp at q0
    (obtain rfl := sl_none hp ‹_ = none›; exact ⟨[], ⟨none, 0, rfl, sl_nil _ _ _⟩, (.le fun a => by (try simp only [setR, List.cons_append, List.nil_append]); simp only [List.flatten_append, List.flatten_cons, List.flatten_nil, List.count_append, List.count_nil, List.append_nil, List.nil_append]; omega)⟩)
  ·
    simp at q0
    refine VCnew.intro fun x1 => ?_
    refine append_allN (g := gS) (T := (9 : TypeId)) G_ok (by repeat (first | exact fl_plain | apply plain_iso | apply plain_pair)) [] [[(x1, Obj.cells { toList := zeros (0 : Nat) [Value.string ByteArray.empty] } (9 : TypeId))], H] 1 ?_ (sl_nil _ _ _) rfl hp rfl rfl rfl rfl rfl rfl rfl rfl ?_ fun b2 c2 A2 o2 => ?_
    · exact .refl _
    · simp; omega
    exact ⟨_, ⟨_, _, rfl, by assumption⟩, (.le fun a => by (try simp only [setR, List.cons_append, List.nil_append]); simp only [List.flatten_append, List.flatten_cons, List.flatten_nil, List.count_append, List.count_nil, List.append_nil, List.nil_append]; omega)⟩

--@ct slices.Clone[[]impl.Atom,impl.Atom] new cloneAtom_ct _ _ _ $1 ?_ | %1 | obtain ⟨b#, c#, rfl, o#⟩ := o#
theorem cloneAtom_ct (b : Option Addr) (m c : Nat) (xs : List Atom) (hx : szL gAtom xs ≤ 1048576) :
    Ct Tryz.prog 179 [.slice b m c] [] (fun H => (gSl 143 gAtom).rd H [.slice b m c] xs) (fun v A => ∃ b c, v = .slice b xs.length c ∧ (gSl 143 gAtom).ow [.slice b xs.length c] xs A) := by
  refine Ct.intro0 G_ok Tryz.func179 rfl rfl rfl fun E H hp => ?_
  obtain ⟨rfl, hcl, hl⟩ := sl_len hp
  have hls := len_szL gAtom xs
  refine VCsplit.intro (fun q0 => ?_) (fun q0 => ?_)
  ·
    simp at q0
    (obtain rfl := sl_none hp ‹_ = none›; exact ⟨[], ⟨none, 0, rfl, sl_nil _ _ _⟩, (.le fun a => by (try simp only [setR, List.cons_append, List.nil_append]); simp only [List.flatten_append, List.flatten_cons, List.flatten_nil, List.count_append, List.count_nil, List.append_nil, List.nil_append]; omega)⟩)
  ·
    simp at q0
    refine VCnew.intro fun x1 => ?_
    refine append_allN (g := gAtom) (T := (143 : TypeId)) G_ok (by repeat (first | exact fl_plain | apply plain_iso | apply plain_pair)) [] [[(x1, Obj.cells { toList := zeros (0 : Nat) [Value.string ByteArray.empty, Value.string ByteArray.empty, Value.string ByteArray.empty] } (143 : TypeId))], H] 1 ?_ (sl_nil _ _ _) rfl hp rfl rfl rfl rfl rfl rfl rfl rfl ?_ fun b2 c2 A2 o2 => ?_
    · exact .refl _
    · simp; omega
    exact ⟨_, ⟨_, _, rfl, by assumption⟩, (.le fun a => by (try simp only [setR, List.cons_append, List.nil_append]); simp only [List.flatten_append, List.flatten_cons, List.flatten_nil, List.count_append, List.count_nil, List.append_nil, List.nil_append]; omega)⟩

--@ct slices.Clone[[]impl.Filter,impl.Filter] new cloneFilter_ct _ _ _ $1 ?_ | %1 | obtain ⟨b#, c#, rfl, o#⟩ := o#
theorem cloneFilter_ct (b : Option Addr) (m c : Nat) (xs : List Filter) (hx : szL gFilter xs ≤ 1048576) :
    Ct Tryz.prog 180 [.slice b m c] [] (fun H => (gSl 214 gFilter).rd H [.slice b m c] xs) (fun v A => ∃ b c, v = .slice b xs.length c ∧ (gSl 214 gFilter).ow [.slice b xs.length c] xs A) := by
  refine Ct.intro0 G_ok Tryz.func180 rfl rfl rfl fun E H hp => ?_
  obtain ⟨rfl, hcl, hl⟩ := sl_len hp
  have hls := len_szL gFilter xs
  refine VCsplit.intro (fun q0 => ?_) (fun q0 => ?_)
  ·
    simp at q0
    (obtain rfl := sl_none hp ‹_ = none›; exact ⟨[], ⟨none, 0, rfl, sl_nil _ _ _⟩, (.le fun a => by (try simp only [setR, List.cons_append, List.nil_append]); simp only [List.flatten_append, List.flatten_cons, List.flatten_nil, List.count_append, List.count_nil, List.append_nil, List.nil_append]; omega)⟩)
  ·
    simp at q0
    refine VCnew.intro fun x1 => ?_
    refine append_allN (g := gFilter) (T := (214 : TypeId)) G_ok (by repeat (first | exact fl_plain | apply plain_iso | apply plain_pair)) [] [[(x1, Obj.cells { toList := zeros (0 : Nat) [Value.string ByteArray.empty, Value.int IntKind.i64 (0 : Int), Value.string ByteArray.empty, Value.int IntKind.i64 (0 : Int)] } (214 : TypeId))], H] 1 ?_ (sl_nil _ _ _) rfl hp rfl rfl rfl rfl rfl rfl rfl rfl ?_ fun b2 c2 A2 o2 => ?_
    · exact .refl _
    · simp; omega
    exact ⟨_, ⟨_, _, rfl, by assumption⟩, (.le fun a => by (try simp only [setR, List.cons_append, List.nil_append]); simp only [List.flatten_append, List.flatten_cons, List.flatten_nil, List.count_append, List.count_nil, List.append_nil, List.nil_append]; omega)⟩

--@ct slices.Clone[[]int,int] new cloneI_ct _ _ _ $1 ?_ | %1 | obtain ⟨b#, c#, rfl, o#⟩ := o#
theorem cloneI_ct (b : Option Addr) (m c : Nat) (xs : List Int) (hx : szL gI xs ≤ 1048576) :
    Ct Tryz.prog 109 [.slice b m c] [] (fun H => (gSl 3 gI).rd H [.slice b m c] xs) (fun v A => ∃ b c, v = .slice b xs.length c ∧ (gSl 3 gI).ow [.slice b xs.length c] xs A) := by
  refine Ct.intro0 G_ok Tryz.func109 rfl rfl rfl fun E H hp => ?_
  obtain ⟨rfl, hcl, hl⟩ := sl_len hp
  have hls := len_szL gI xs
  refine VCsplit.intro (fun q0 => ?_) (fun q0 => ?_)
  ·
    simp at q0
    (obtain rfl := sl_none hp ‹_ = none›; exact ⟨[], ⟨none, 0, rfl, sl_nil _ _ _⟩, (.le fun a => by (try simp only [setR, List.cons_append, List.nil_append]); simp only [List.flatten_append, List.flatten_cons, List.flatten_nil, List.count_append, List.count_nil, List.append_nil, List.nil_append]; omega)⟩)
  ·
    simp at q0
    refine VCnew.intro fun x1 => ?_
    refine append_allN (g := gI) (T := (3 : TypeId)) G_ok (by repeat (first | exact fl_plain | apply plain_iso | apply plain_pair)) [] [[(x1, Obj.cells { toList := zeros (0 : Nat) [Value.int IntKind.i64 (0 : Int)] } (3 : TypeId))], H] 1 ?_ (sl_nil _ _ _) rfl hp rfl rfl rfl rfl rfl rfl rfl rfl ?_ fun b2 c2 A2 o2 => ?_
    · exact .refl _
    · simp; omega
    exact ⟨_, ⟨_, _, rfl, by assumption⟩, (.le fun a => by (try simp only [setR, List.cons_append, List.nil_append]); simp only [List.flatten_append, List.flatten_cons, List.flatten_nil, List.count_append, List.count_nil, List.append_nil, List.nil_append]; omega)⟩

--@ct slices.Clone[[]impl.Walk,impl.Walk] new cloneWalk_ct _ _ _ $1 ?_ | %1 | obtain ⟨b#, c#, rfl, o#⟩ := o#
theorem cloneWalk_ct (b : Option Addr) (m c : Nat) (xs : List Walk) (hx : szL gWalk xs ≤ 1048576) :
    Ct Tryz.prog 208 [.slice b m c] [] (fun H => (gSl 200 gWalk).rd H [.slice b m c] xs) (fun v A => ∃ b c, v = .slice b xs.length c ∧ (gSl 200 gWalk).ow [.slice b xs.length c] xs A) := by
  refine Ct.intro0 G_ok Tryz.func208 rfl rfl rfl fun E H hp => ?_
  obtain ⟨rfl, hcl, hl⟩ := sl_len hp
  have hls := len_szL gWalk xs
  refine VCsplit.intro (fun q0 => ?_) (fun q0 => ?_)
  ·
    simp at q0
    (obtain rfl := sl_none hp ‹_ = none›; exact ⟨[], ⟨none, 0, rfl, sl_nil _ _ _⟩, (.le fun a => by (try simp only [setR, List.cons_append, List.nil_append]); simp only [List.flatten_append, List.flatten_cons, List.flatten_nil, List.count_append, List.count_nil, List.append_nil, List.nil_append]; omega)⟩)
  ·
    simp at q0
    refine VCnew.intro fun x1 => ?_
    refine append_allN (g := gWalk) (T := (200 : TypeId)) G_ok (by repeat (first | exact fl_plain | apply plain_iso | apply plain_pair)) [] [[(x1, Obj.cells { toList := zeros (0 : Nat) [Value.int IntKind.i64 (0 : Int), Value.int IntKind.i64 (0 : Int), Value.int IntKind.i64 (0 : Int), Value.int IntKind.i64 (0 : Int)] } (200 : TypeId))], H] 1 ?_ (sl_nil _ _ _) rfl hp rfl rfl rfl rfl rfl rfl rfl rfl ?_ fun b2 c2 A2 o2 => ?_
    · exact .refl _
    · simp; omega
    exact ⟨_, ⟨_, _, rfl, by assumption⟩, (.le fun a => by (try simp only [setR, List.cons_append, List.nil_append]); simp only [List.flatten_append, List.flatten_cons, List.flatten_nil, List.count_append, List.count_nil, List.append_nil, List.nil_append]; omega)⟩

--@ct slices.Clone[[]impl.File,impl.File] new cloneFile_ct _ _ _ $1 ?_ | %1 | obtain ⟨b#, c#, rfl, o#⟩ := o#
theorem cloneFile_ct (b : Option Addr) (m c : Nat) (xs : List File) (hx : szL gFile xs ≤ 1048576) :
    Ct Tryz.prog 207 [.slice b m c] [] (fun H => (gSl 256 gFile).rd H [.slice b m c] xs) (fun v A => ∃ b c, v = .slice b xs.length c ∧ (gSl 256 gFile).ow [.slice b xs.length c] xs A) := by
  refine Ct.intro0 G_ok Tryz.func207 rfl rfl rfl fun E H hp => ?_
  obtain ⟨rfl, hcl, hl⟩ := sl_len hp
  have hls := len_szL gFile xs
  refine VCsplit.intro (fun q0 => ?_) (fun q0 => ?_)
  ·
    simp at q0
    (obtain rfl := sl_none hp ‹_ = none›; exact ⟨[], ⟨none, 0, rfl, sl_nil _ _ _⟩, (.le fun a => by (try simp only [setR, List.cons_append, List.nil_append]); simp only [List.flatten_append, List.flatten_cons, List.flatten_nil, List.count_append, List.count_nil, List.append_nil, List.nil_append]; omega)⟩)
  ·
    simp at q0
    refine VCnew.intro fun x1 => ?_
    refine append_allN (g := gFile) (T := (256 : TypeId)) G_ok (by repeat (first | exact fl_plain | apply plain_iso | apply plain_pair)) [] [[(x1, Obj.cells { toList := zeros (0 : Nat) [Value.string ByteArray.empty, Value.string ByteArray.empty, Value.int IntKind.i64 (0 : Int)] } (256 : TypeId))], H] 1 ?_ (sl_nil _ _ _) rfl hp rfl rfl rfl rfl rfl rfl rfl rfl ?_ fun b2 c2 A2 o2 => ?_
    · exact .refl _
    · simp; omega
    exact ⟨_, ⟨_, _, rfl, by assumption⟩, (.le fun a => by (try simp only [setR, List.cons_append, List.nil_append]); simp only [List.flatten_append, List.flatten_cons, List.flatten_nil, List.count_append, List.count_nil, List.append_nil, List.nil_append]; omega)⟩

--@ct impl.copyQuery new copyQuery_ct _ $1 ?_ | %1 | obtain ⟨l#, rfl, o#⟩ := o# ;; have r# := Gt.owrd _ o# ;; obtain ⟨b1x#, c1x#, b2x#, c2x#, b3x#, c3x#, rfl, h1x#, h2x#, h3x#⟩ := gQuery_rd.1 r#
theorem copyQuery_ct (l : List Value) (x : Query) (hx : gQuery.sz x ≤ 1048576) :
    Ct Tryz.prog 108 [.agg ⟨l⟩] [] (fun H => gQuery.rd H l x) (fun v A => ∃ l, v = .agg ⟨l⟩ ∧ gQuery.ow l x A) := by
  refine Ct.intro0 G_ok Tryz.func108 rfl rfl rfl fun E H hp => ?_
  obtain ⟨b1p, c1p, b2p, c2p, b3p, c3p, rfl, h1p, h2p, h3p⟩ := gQuery_rd.1 hp
  have ez := gQuery_sz (x)
  have en1 := len_szL gS (x.out)
  have en2 := len_szL gAtom (x.atoms)
  have en3 := len_szL gFilter (x.filters)
  refine VCnew.intro fun x0 => ?_
  refine VCnew.intro fun x1 => ?_
  refine draw G_ok mixed (some 12) (.q 0 (.q 1 (.q 2 (.q 3 (.q 5 (.q 6 (.q 8 (.q 9 (.f 4 (.f 7 (.f 10 (.q 11 (.tl 12 (.nil)))))))))))))) (by decide +kernel) ?_
  refine call_new (cloneS_ct _ _ _ (x.out) ?_) (Rp.mono _ (mem_at 0 rfl) h1p) ?_
  · omega
  rintro v2 A2 o2
  obtain ⟨b2, c2, rfl, o2⟩ := o2
  refine VC.intro ?_ ?_
  · exact keep_new
  refine call_new (cloneAtom_ct _ _ _ (x.atoms) ?_) (Rp.mono _ (mem_at 1 rfl) h2p) ?_
  · omega
  rintro v3 A3 o3
  obtain ⟨b3, c3, rfl, o3⟩ := o3
  refine VC.intro ?_ ?_
  · exact keep_sub (by simp) (by simp)
  refine call_new (cloneFilter_ct _ _ _ (x.filters) ?_) (Rp.mono _ (mem_at 2 rfl) h3p) ?_
  · omega
  rintro v4 A4 o4
  obtain ⟨b4, c4, rfl, o4⟩ := o4
  refine VC.intro ?_ ?_
  · exact keep_sub (by simp) (by simp)
  exact ⟨_, ⟨_, rfl, gQuery_ow.2 ⟨_, _, _, _, _, _, _, _, _, rfl, .refl _, by assumption, by assumption, by assumption⟩⟩, (.le fun a => by (try simp only [setR, List.cons_append, List.nil_append]); simp only [List.flatten_append, List.flatten_cons, List.flatten_nil, List.count_append, List.count_nil, List.append_nil, List.nil_append]; omega)⟩

--@ct spec.l08Copy new s_l08Copy_ct _ $1 ?_ | %1 | obtain ⟨l#, rfl, o#⟩ := o# ;; have r# := Gt.owrd _ o# ;; obtain ⟨b1x#, c1x#, b2x#, c2x#, b3x#, c3x#, rfl, h1x#, h2x#, h3x#⟩ := gQuery_rd.1 r#
theorem s_l08Copy_ct (l : List Value) (x : Query) (hx : gQuery.sz x ≤ 1048576) :
    Ct Tryz.prog 105 [.agg ⟨l⟩] [] (fun H => gQuery.rd H l x) (fun v A => ∃ l, v = .agg ⟨l⟩ ∧ gQuery.ow l x A) := by
  refine Ct.intro0 G_ok Tryz.func105 rfl rfl rfl fun E H hp => ?_
  obtain ⟨b1p, c1p, b2p, c2p, b3p, c3p, rfl, h1p, h2p, h3p⟩ := gQuery_rd.1 hp
  have ez := gQuery_sz (x)
  have en1 := len_szL gS (x.out)
  have en2 := len_szL gAtom (x.atoms)
  have en3 := len_szL gFilter (x.filters)
  refine VCnew.intro fun x0 => ?_
  refine VCnew.intro fun x1 => ?_
  refine draw G_ok mixed (some 15) (.q 0 (.q 1 (.q 3 (.q 4 (.q 7 (.q 8 (.q 11 (.q 12 (.hd (.alt 2 (.hd (.alt 5 (.hd (.alt 6 (.hd (.alt 9 (.f 10 (.f 13 (.q 14 (.tl 15 (.nil))))) (.alt 10 (.f 9 (.f 13 (.q 14 (.tl 15 (.nil))))) (.nil)))) (.alt 10 (.f 6 (.f 9 (.f 13 (.q 14 (.tl 15 (.nil)))))) (.nil)))) (.alt 6 (.hd (.alt 5 (.hd (.alt 9 (.f 10 (.f 13 (.q 14 (.tl 15 (.nil))))) (.alt 10 (.f 9 (.f 13 (.q 14 (.tl 15 (.nil))))) (.nil)))) (.alt 10 (.f 5 (.f 9 (.f 13 (.q 14 (.tl 15 (.nil)))))) (.nil)))) (.alt 10 (.hd (.alt 5 (.f 6 (.f 9 (.f 13 (.q 14 (.tl 15 (.nil)))))) (.alt 6 (.f 5 (.f 9 (.f 13 (.q 14 (.tl 15 (.nil)))))) (.nil)))) (.nil))))) (.alt 6 (.hd (.alt 2 (.hd (.alt 5 (.hd (.alt 9 (.f 10 (.f 13 (.q 14 (.tl 15 (.nil))))) (.alt 10 (.f 9 (.f 13 (.q 14 (.tl 15 (.nil))))) (.nil)))) (.alt 10 (.f 5 (.f 9 (.f 13 (.q 14 (.tl 15 (.nil)))))) (.nil)))) (.alt 10 (.f 2 (.f 5 (.f 9 (.f 13 (.q 14 (.tl 15 (.nil))))))) (.nil)))) (.alt 10 (.hd (.alt 2 (.hd (.alt 5 (.f 6 (.f 9 (.f 13 (.q 14 (.tl 15 (.nil)))))) (.alt 6 (.f 5 (.f 9 (.f 13 (.q 14 (.tl 15 (.nil)))))) (.nil)))) (.alt 6 (.f 2 (.f 5 (.f 9 (.f 13 (.q 14 (.tl 15 (.nil))))))) (.nil)))) (.nil))))))))))))) (by decide +kernel) ?_
  refine VC.intro ?_ ?_
  ·
    refine VCnew.intro fun x2 => ?_
    refine VC.intro ?_ ?_
    · exact keep_new
    refine VC.intro ?_ ?_
    ·
      refine append_allN (g := gS) (T := (9 : TypeId)) G_ok (by repeat (first | exact fl_plain | apply plain_iso | apply plain_pair)) [] [[(x2, Obj.cells { toList := zeros (0 : Nat) [Value.string ByteArray.empty] } (9 : TypeId))], H] 1 ?_ (sl_nil _ _ _) rfl h1p rfl rfl rfl rfl rfl rfl rfl rfl ?_ fun b3 c3 A3 o3 => ?_
      · exact .refl _
      · simp; omega
      refine VC.intro ?_ ?_
      · exact keep_sub (by simp) (by simp)
      refine VC.intro ?_ ?_
      ·
        refine VCnew.intro fun x4 => ?_
        refine VC.intro ?_ ?_
        · exact keep_sub (by simp) (by simp)
        refine VC.intro ?_ ?_
        ·
          refine append_allN (g := gAtom) (T := (143 : TypeId)) G_ok (by repeat (first | exact fl_plain | apply plain_iso | apply plain_pair)) [] [[(x4, Obj.cells { toList := zeros (0 : Nat) [Value.string ByteArray.empty, Value.string ByteArray.empty, Value.string ByteArray.empty] } (143 : TypeId))], A3, [(x2, Obj.cells { toList := zeros (0 : Nat) [Value.string ByteArray.empty] } (9 : TypeId))], H] 3 ?_ (sl_nil _ _ _) rfl h2p rfl rfl rfl rfl rfl rfl rfl rfl ?_ fun b5 c5 A5 o5 => ?_
          · exact .refl _
          · simp; omega
          refine VC.intro ?_ ?_
          · exact keep_sub (by simp) (by simp)
          refine VCnew.intro fun x6 => ?_
          refine VC.intro ?_ ?_
          · exact keep_sub (by simp) (by simp)
          refine append_allN (g := gFilter) (T := (214 : TypeId)) G_ok (by repeat (first | exact fl_plain | apply plain_iso | apply plain_pair)) [] [[(x6, Obj.cells { toList := zeros (0 : Nat) [Value.string ByteArray.empty, Value.int IntKind.i64 (0 : Int), Value.string ByteArray.empty, Value.int IntKind.i64 (0 : Int)] } (214 : TypeId))], A5, [(x4, Obj.cells { toList := zeros (0 : Nat) [Value.string ByteArray.empty, Value.string ByteArray.empty, Value.string ByteArray.empty] } (143 : TypeId))], A3, [(x2, Obj.cells { toList := zeros (0 : Nat) [Value.string ByteArray.empty] } (9 : TypeId))], H] 5 ?_ (sl_nil _ _ _) rfl h3p rfl rfl rfl rfl rfl rfl rfl rfl ?_ fun b7 c7 A7 o7 => ?_
          · exact .refl _
          · simp; omega
          refine VC.intro ?_ ?_
          · exact keep_sub (by simp) (by simp)
          exact ⟨_, ⟨_, rfl, gQuery_ow.2 ⟨_, _, _, _, _, _, _, _, _, rfl, .refl _, by assumption, by assumption, by assumption⟩⟩, (.le fun a => by (try simp only [setR, List.cons_append, List.nil_append]); simp only [List.flatten_append, List.flatten_cons, List.flatten_nil, List.count_append, List.count_nil, List.append_nil, List.nil_append]; omega)⟩
        ·
          refine VC.intro ?_ ?_
          ·
            refine VCnew.intro fun x8 => ?_
            refine VC.intro ?_ ?_
            · exact keep_sub (by simp) (by simp)
            refine append_allN (g := gAtom) (T := (143 : TypeId)) G_ok (by repeat (first | exact fl_plain | apply plain_iso | apply plain_pair)) [] [[(x8, Obj.cells { toList := zeros (0 : Nat) [Value.string ByteArray.empty, Value.int IntKind.i64 (0 : Int), Value.string ByteArray.empty, Value.int IntKind.i64 (0 : Int)] } (214 : TypeId))], [(x4, Obj.cells { toList := zeros (0 : Nat) [Value.string ByteArray.empty, Value.string ByteArray.empty, Value.string ByteArray.empty] } (143 : TypeId))], A3, [(x2, Obj.cells { toList := zeros (0 : Nat) [Value.string ByteArray.empty] } (9 : TypeId))], H] 4 ?_ (sl_nil _ _ _) rfl h2p rfl rfl rfl rfl rfl rfl rfl rfl ?_ fun b9 c9 A9 o9 => ?_
            · exact .refl _
            · simp; omega
            refine VC.intro ?_ ?_
            · exact keep_sub (by simp) (by simp)
            refine append_allN (g := gFilter) (T := (214 : TypeId)) G_ok (by repeat (first | exact fl_plain | apply plain_iso | apply plain_pair)) [] [A9, [(x8, Obj.cells { toList := zeros (0 : Nat) [Value.string ByteArray.empty, Value.int IntKind.i64 (0 : Int), Value.string ByteArray.empty, Value.int IntKind.i64 (0 : Int)] } (214 : TypeId))], [(x4, Obj.cells { toList := zeros (0 : Nat) [Value.string ByteArray.empty, Value.string ByteArray.empty, Value.string ByteArray.empty] } (143 : TypeId))], A3, [(x2, Obj.cells { toList := zeros (0 : Nat) [Value.string ByteArray.empty] } (9 : TypeId))], H] 5 ?_ (sl_nil _ _ _) rfl h3p rfl rfl rfl rfl rfl rfl rfl rfl ?_ fun b10 c10 A10 o10 => ?_
            · exact .refl _
            · simp; omega
            refine VC.intro ?_ ?_
            · exact keep_sub (by simp) (by simp)
            exact ⟨_, ⟨_, rfl, gQuery_ow.2 ⟨_, _, _, _, _, _, _, _, _, rfl, .refl _, by assumption, by assumption, by assumption⟩⟩, (.le fun a => by (try simp only [setR, List.cons_append, List.nil_append]); simp only [List.flatten_append, List.flatten_cons, List.flatten_nil, List.count_append, List.count_nil, List.append_nil, List.nil_append]; omega)⟩
          ·
            exact trivial
      ·
        refine VC.intro ?_ ?_
        ·
          refine VCnew.intro fun x11 => ?_
          refine VC.intro ?_ ?_
          · exact keep_sub (by simp) (by simp)
          refine VCnew.intro fun x12 => ?_
          refine VC.intro ?_ ?_
          · exact keep_sub (by simp) (by simp)
          refine append_allN (g := gAtom) (T := (143 : TypeId)) G_ok (by repeat (first | exact fl_plain | apply plain_iso | apply plain_pair)) [] [[(x12, Obj.cells { toList := zeros (0 : Nat) [Value.string ByteArray.empty, Value.string ByteArray.empty, Value.string ByteArray.empty] } (143 : TypeId))], [(x11, Obj.cells { toList := zeros (0 : Nat) [Value.string ByteArray.empty, Value.int IntKind.i64 (0 : Int), Value.string ByteArray.empty, Value.int IntKind.i64 (0 : Int)] } (214 : TypeId))], A3, [(x2, Obj.cells { toList := zeros (0 : Nat) [Value.string ByteArray.empty] } (9 : TypeId))], H] 4 ?_ (sl_nil _ _ _) rfl h2p rfl rfl rfl rfl rfl rfl rfl rfl ?_ fun b13 c13 A13 o13 => ?_
          · exact .refl _
          · simp; omega
          refine VC.intro ?_ ?_
          · exact keep_sub (by simp) (by simp)
          refine append_allN (g := gFilter) (T := (214 : TypeId)) G_ok (by repeat (first | exact fl_plain | apply plain_iso | apply plain_pair)) [] [A13, [(x12, Obj.cells { toList := zeros (0 : Nat) [Value.string ByteArray.empty, Value.string ByteArray.empty, Value.string ByteArray.empty] } (143 : TypeId))], [(x11, Obj.cells { toList := zeros (0 : Nat) [Value.string ByteArray.empty, Value.int IntKind.i64 (0 : Int), Value.string ByteArray.empty, Value.int IntKind.i64 (0 : Int)] } (214 : TypeId))], A3, [(x2, Obj.cells { toList := zeros (0 : Nat) [Value.string ByteArray.empty] } (9 : TypeId))], H] 5 ?_ (sl_nil _ _ _) rfl h3p rfl rfl rfl rfl rfl rfl rfl rfl ?_ fun b14 c14 A14 o14 => ?_
          · exact .refl _
          · simp; omega
          refine VC.intro ?_ ?_
          · exact keep_sub (by simp) (by simp)
          exact ⟨_, ⟨_, rfl, gQuery_ow.2 ⟨_, _, _, _, _, _, _, _, _, rfl, .refl _, by assumption, by assumption, by assumption⟩⟩, (.le fun a => by (try simp only [setR, List.cons_append, List.nil_append]); simp only [List.flatten_append, List.flatten_cons, List.flatten_nil, List.count_append, List.count_nil, List.append_nil, List.nil_append]; omega)⟩
        ·
          exact trivial
    ·
      refine VC.intro ?_ ?_
      ·
        refine VCnew.intro fun x15 => ?_
        refine VC.intro ?_ ?_
        · exact keep_sub (by simp) (by simp)
        refine VC.intro ?_ ?_
        ·
          refine append_allN (g := gS) (T := (9 : TypeId)) G_ok (by repeat (first | exact fl_plain | apply plain_iso | apply plain_pair)) [] [[(x15, Obj.cells { toList := zeros (0 : Nat) [Value.string ByteArray.empty, Value.string ByteArray.empty, Value.string ByteArray.empty] } (143 : TypeId))], [(x2, Obj.cells { toList := zeros (0 : Nat) [Value.string ByteArray.empty] } (9 : TypeId))], H] 2 ?_ (sl_nil _ _ _) rfl h1p rfl rfl rfl rfl rfl rfl rfl rfl ?_ fun b16 c16 A16 o16 => ?_
          · exact .refl _
          · simp; omega
          refine VC.intro ?_ ?_
          · exact keep_sub (by simp) (by simp)
          refine VC.intro ?_ ?_
          ·
            refine append_allN (g := gAtom) (T := (143 : TypeId)) G_ok (by repeat (first | exact fl_plain | apply plain_iso | apply plain_pair)) [] [A16, [(x15, Obj.cells { toList := zeros (0 : Nat) [Value.string ByteArray.empty, Value.string ByteArray.empty, Value.string ByteArray.empty] } (143 : TypeId))], [(x2, Obj.cells { toList := zeros (0 : Nat) [Value.string ByteArray.empty] } (9 : TypeId))], H] 3 ?_ (sl_nil _ _ _) rfl h2p rfl rfl rfl rfl rfl rfl rfl rfl ?_ fun b17 c17 A17 o17 => ?_
            · exact .refl _
            · simp; omega
            refine VC.intro ?_ ?_
            · exact keep_sub (by simp) (by simp)
            refine VCnew.intro fun x18 => ?_
            refine VC.intro ?_ ?_
            · exact keep_sub (by simp) (by simp)
            refine append_allN (g := gFilter) (T := (214 : TypeId)) G_ok (by repeat (first | exact fl_plain | apply plain_iso | apply plain_pair)) [] [[(x18, Obj.cells { toList := zeros (0 : Nat) [Value.string ByteArray.empty, Value.int IntKind.i64 (0 : Int), Value.string ByteArray.empty, Value.int IntKind.i64 (0 : Int)] } (214 : TypeId))], A17, A16, [(x15, Obj.cells { toList := zeros (0 : Nat) [Value.string ByteArray.empty, Value.string ByteArray.empty, Value.string ByteArray.empty] } (143 : TypeId))], [(x2, Obj.cells { toList := zeros (0 : Nat) [Value.string ByteArray.empty] } (9 : TypeId))], H] 5 ?_ (sl_nil _ _ _) rfl h3p rfl rfl rfl rfl rfl rfl rfl rfl ?_ fun b19 c19 A19 o19 => ?_
            · exact .refl _
            · simp; omega
            refine VC.intro ?_ ?_
            · exact keep_sub (by simp) (by simp)
            exact ⟨_, ⟨_, rfl, gQuery_ow.2 ⟨_, _, _, _, _, _, _, _, _, rfl, .refl _, by assumption, by assumption, by assumption⟩⟩, (.le fun a => by (try simp only [setR, List.cons_append, List.nil_append]); simp only [List.flatten_append, List.flatten_cons, List.flatten_nil, List.count_append, List.count_nil, List.append_nil, List.nil_append]; omega)⟩
          ·
            refine VC.intro ?_ ?_
            ·
              refine VCnew.intro fun x20 => ?_
              refine VC.intro ?_ ?_
              · exact keep_sub (by simp) (by simp)
              refine append_allN (g := gAtom) (T := (143 : TypeId)) G_ok (by repeat (first | exact fl_plain | apply plain_iso | apply plain_pair)) [] [[(x20, Obj.cells { toList := zeros (0 : Nat) [Value.string ByteArray.empty, Value.int IntKind.i64 (0 : Int), Value.string ByteArray.empty, Value.int IntKind.i64 (0 : Int)] } (214 : TypeId))], A16, [(x15, Obj.cells { toList := zeros (0 : Nat) [Value.string ByteArray.empty, Value.string ByteArray.empty, Value.string ByteArray.empty] } (143 : TypeId))], [(x2, Obj.cells { toList := zeros (0 : Nat) [Value.string ByteArray.empty] } (9 : TypeId))], H] 4 ?_ (sl_nil _ _ _) rfl h2p rfl rfl rfl rfl rfl rfl rfl rfl ?_ fun b21 c21 A21 o21 => ?_
              · exact .refl _
              · simp; omega
              refine VC.intro ?_ ?_
              · exact keep_sub (by simp) (by simp)
              refine append_allN (g := gFilter) (T := (214 : TypeId)) G_ok (by repeat (first | exact fl_plain | apply plain_iso | apply plain_pair)) [] [A21, [(x20, Obj.cells { toList := zeros (0 : Nat) [Value.string ByteArray.empty, Value.int IntKind.i64 (0 : Int), Value.string ByteArray.empty, Value.int IntKind.i64 (0 : Int)] } (214 : TypeId))], A16, [(x15, Obj.cells { toList := zeros (0 : Nat) [Value.string ByteArray.empty, Value.string ByteArray.empty, Value.string ByteArray.empty] } (143 : TypeId))], [(x2, Obj.cells { toList := zeros (0 : Nat) [Value.string ByteArray.empty] } (9 : TypeId))], H] 5 ?_ (sl_nil _ _ _) rfl h3p rfl rfl rfl rfl rfl rfl rfl rfl ?_ fun b22 c22 A22 o22 => ?_
              · exact .refl _
              · simp; omega
              refine VC.intro ?_ ?_
              · exact keep_sub (by simp) (by simp)
              exact ⟨_, ⟨_, rfl, gQuery_ow.2 ⟨_, _, _, _, _, _, _, _, _, rfl, .refl _, by assumption, by assumption, by assumption⟩⟩, (.le fun a => by (try simp only [setR, List.cons_append, List.nil_append]); simp only [List.flatten_append, List.flatten_cons, List.flatten_nil, List.count_append, List.count_nil, List.append_nil, List.nil_append]; omega)⟩
            ·
              exact trivial
        ·
          refine VC.intro ?_ ?_
          ·
            refine VCnew.intro fun x23 => ?_
            refine VC.intro ?_ ?_
            · exact keep_sub (by simp) (by simp)
            refine append_allN (g := gS) (T := (9 : TypeId)) G_ok (by repeat (first | exact fl_plain | apply plain_iso | apply plain_pair)) [] [[(x23, Obj.cells { toList := zeros (0 : Nat) [Value.string ByteArray.empty, Value.int IntKind.i64 (0 : Int), Value.string ByteArray.empty, Value.int IntKind.i64 (0 : Int)] } (214 : TypeId))], [(x15, Obj.cells { toList := zeros (0 : Nat) [Value.string ByteArray.empty, Value.string ByteArray.empty, Value.string ByteArray.empty] } (143 : TypeId))], [(x2, Obj.cells { toList := zeros (0 : Nat) [Value.string ByteArray.empty] } (9 : TypeId))], H] 3 ?_ (sl_nil _ _ _) rfl h1p rfl rfl rfl rfl rfl rfl rfl rfl ?_ fun b24 c24 A24 o24 => ?_
            · exact .refl _
            · simp; omega
            refine VC.intro ?_ ?_
            · exact keep_sub (by simp) (by simp)
            refine append_allN (g := gAtom) (T := (143 : TypeId)) G_ok (by repeat (first | exact fl_plain | apply plain_iso | apply plain_pair)) [] [A24, [(x23, Obj.cells { toList := zeros (0 : Nat) [Value.string ByteArray.empty, Value.int IntKind.i64 (0 : Int), Value.string ByteArray.empty, Value.int IntKind.i64 (0 : Int)] } (214 : TypeId))], [(x15, Obj.cells { toList := zeros (0 : Nat) [Value.string ByteArray.empty, Value.string ByteArray.empty, Value.string ByteArray.empty] } (143 : TypeId))], [(x2, Obj.cells { toList := zeros (0 : Nat) [Value.string ByteArray.empty] } (9 : TypeId))], H] 4 ?_ (sl_nil _ _ _) rfl h2p rfl rfl rfl rfl rfl rfl rfl rfl ?_ fun b25 c25 A25 o25 => ?_
            · exact .refl _
            · simp; omega
            refine VC.intro ?_ ?_
            · exact keep_sub (by simp) (by simp)
            refine append_allN (g := gFilter) (T := (214 : TypeId)) G_ok (by repeat (first | exact fl_plain | apply plain_iso | apply plain_pair)) [] [A25, A24, [(x23, Obj.cells { toList := zeros (0 : Nat) [Value.string ByteArray.empty, Value.int IntKind.i64 (0 : Int), Value.string ByteArray.empty, Value.int IntKind.i64 (0 : Int)] } (214 : TypeId))], [(x15, Obj.cells { toList := zeros (0 : Nat) [Value.string ByteArray.empty, Value.string ByteArray.empty, Value.string ByteArray.empty] } (143 : TypeId))], [(x2, Obj.cells { toList := zeros (0 : Nat) [Value.string ByteArray.empty] } (9 : TypeId))], H] 5 ?_ (sl_nil _ _ _) rfl h3p rfl rfl rfl rfl rfl rfl rfl rfl ?_ fun b26 c26 A26 o26 => ?_
            · exact .refl _
            · simp; omega
            refine VC.intro ?_ ?_
            · exact keep_sub (by simp) (by simp)
            exact ⟨_, ⟨_, rfl, gQuery_ow.2 ⟨_, _, _, _, _, _, _, _, _, rfl, .refl _, by assumption, by assumption, by assumption⟩⟩, (.le fun a => by (try simp only [setR, List.cons_append, List.nil_append]); simp only [List.flatten_append, List.flatten_cons, List.flatten_nil, List.count_append, List.count_nil, List.append_nil, List.nil_append]; omega)⟩
          ·
            exact trivial
      ·
        refine VC.intro ?_ ?_
        ·
          refine VCnew.intro fun x27 => ?_
          refine VC.intro ?_ ?_
          · exact keep_sub (by simp) (by simp)
          refine VC.intro ?_ ?_
          ·
            refine append_allN (g := gS) (T := (9 : TypeId)) G_ok (by repeat (first | exact fl_plain | apply plain_iso | apply plain_pair)) [] [[(x27, Obj.cells { toList := zeros (0 : Nat) [Value.string ByteArray.empty, Value.int IntKind.i64 (0 : Int), Value.string ByteArray.empty, Value.int IntKind.i64 (0 : Int)] } (214 : TypeId))], [(x2, Obj.cells { toList := zeros (0 : Nat) [Value.string ByteArray.empty] } (9 : TypeId))], H] 2 ?_ (sl_nil _ _ _) rfl h1p rfl rfl rfl rfl rfl rfl rfl rfl ?_ fun b28 c28 A28 o28 => ?_
            · exact .refl _
            · simp; omega
            refine VC.intro ?_ ?_
            · exact keep_sub (by simp) (by simp)
            refine VCnew.intro fun x29 => ?_
            refine VC.intro ?_ ?_
            · exact keep_sub (by simp) (by simp)
            refine append_allN (g := gAtom) (T := (143 : TypeId)) G_ok (by repeat (first | exact fl_plain | apply plain_iso | apply plain_pair)) [] [[(x29, Obj.cells { toList := zeros (0 : Nat) [Value.string ByteArray.empty, Value.string ByteArray.empty, Value.string ByteArray.empty] } (143 : TypeId))], A28, [(x27, Obj.cells { toList := zeros (0 : Nat) [Value.string ByteArray.empty, Value.int IntKind.i64 (0 : Int), Value.string ByteArray.empty, Value.int IntKind.i64 (0 : Int)] } (214 : TypeId))], [(x2, Obj.cells { toList := zeros (0 : Nat) [Value.string ByteArray.empty] } (9 : TypeId))], H] 4 ?_ (sl_nil _ _ _) rfl h2p rfl rfl rfl rfl rfl rfl rfl rfl ?_ fun b30 c30 A30 o30 => ?_
            · exact .refl _
            · simp; omega
            refine VC.intro ?_ ?_
            · exact keep_sub (by simp) (by simp)
            refine append_allN (g := gFilter) (T := (214 : TypeId)) G_ok (by repeat (first | exact fl_plain | apply plain_iso | apply plain_pair)) [] [A30, [(x29, Obj.cells { toList := zeros (0 : Nat) [Value.string ByteArray.empty, Value.string ByteArray.empty, Value.string ByteArray.empty] } (143 : TypeId))], A28, [(x27, Obj.cells { toList := zeros (0 : Nat) [Value.string ByteArray.empty, Value.int IntKind.i64 (0 : Int), Value.string ByteArray.empty, Value.int IntKind.i64 (0 : Int)] } (214 : TypeId))], [(x2, Obj.cells { toList := zeros (0 : Nat) [Value.string ByteArray.empty] } (9 : TypeId))], H] 5 ?_ (sl_nil _ _ _) rfl h3p rfl rfl rfl rfl rfl rfl rfl rfl ?_ fun b31 c31 A31 o31 => ?_
            · exact .refl _
            · simp; omega
            refine VC.intro ?_ ?_
            · exact keep_sub (by simp) (by simp)
            exact ⟨_, ⟨_, rfl, gQuery_ow.2 ⟨_, _, _, _, _, _, _, _, _, rfl, .refl _, by assumption, by assumption, by assumption⟩⟩, (.le fun a => by (try simp only [setR, List.cons_append, List.nil_append]); simp only [List.flatten_append, List.flatten_cons, List.flatten_nil, List.count_append, List.count_nil, List.append_nil, List.nil_append]; omega)⟩
          ·
            refine VC.intro ?_ ?_
            ·
              refine VCnew.intro fun x32 => ?_
              refine VC.intro ?_ ?_
              · exact keep_sub (by simp) (by simp)
              refine append_allN (g := gS) (T := (9 : TypeId)) G_ok (by repeat (first | exact fl_plain | apply plain_iso | apply plain_pair)) [] [[(x32, Obj.cells { toList := zeros (0 : Nat) [Value.string ByteArray.empty, Value.string ByteArray.empty, Value.string ByteArray.empty] } (143 : TypeId))], [(x27, Obj.cells { toList := zeros (0 : Nat) [Value.string ByteArray.empty, Value.int IntKind.i64 (0 : Int), Value.string ByteArray.empty, Value.int IntKind.i64 (0 : Int)] } (214 : TypeId))], [(x2, Obj.cells { toList := zeros (0 : Nat) [Value.string ByteArray.empty] } (9 : TypeId))], H] 3 ?_ (sl_nil _ _ _) rfl h1p rfl rfl rfl rfl rfl rfl rfl rfl ?_ fun b33 c33 A33 o33 => ?_
              · exact .refl _
              · simp; omega
              refine VC.intro ?_ ?_
              · exact keep_sub (by simp) (by simp)
              refine append_allN (g := gAtom) (T := (143 : TypeId)) G_ok (by repeat (first | exact fl_plain | apply plain_iso | apply plain_pair)) [] [A33, [(x32, Obj.cells { toList := zeros (0 : Nat) [Value.string ByteArray.empty, Value.string ByteArray.empty, Value.string ByteArray.empty] } (143 : TypeId))], [(x27, Obj.cells { toList := zeros (0 : Nat) [Value.string ByteArray.empty, Value.int IntKind.i64 (0 : Int), Value.string ByteArray.empty, Value.int IntKind.i64 (0 : Int)] } (214 : TypeId))], [(x2, Obj.cells { toList := zeros (0 : Nat) [Value.string ByteArray.empty] } (9 : TypeId))], H] 4 ?_ (sl_nil _ _ _) rfl h2p rfl rfl rfl rfl rfl rfl rfl rfl ?_ fun b34 c34 A34 o34 => ?_
              · exact .refl _
              · simp; omega
              refine VC.intro ?_ ?_
              · exact keep_sub (by simp) (by simp)
              refine append_allN (g := gFilter) (T := (214 : TypeId)) G_ok (by repeat (first | exact fl_plain | apply plain_iso | apply plain_pair)) [] [A34, A33, [(x32, Obj.cells { toList := zeros (0 : Nat) [Value.string ByteArray.empty, Value.string ByteArray.empty, Value.string ByteArray.empty] } (143 : TypeId))], [(x27, Obj.cells { toList := zeros (0 : Nat) [Value.string ByteArray.empty, Value.int IntKind.i64 (0 : Int), Value.string ByteArray.empty, Value.int IntKind.i64 (0 : Int)] } (214 : TypeId))], [(x2, Obj.cells { toList := zeros (0 : Nat) [Value.string ByteArray.empty] } (9 : TypeId))], H] 5 ?_ (sl_nil _ _ _) rfl h3p rfl rfl rfl rfl rfl rfl rfl rfl ?_ fun b35 c35 A35 o35 => ?_
              · exact .refl _
              · simp; omega
              refine VC.intro ?_ ?_
              · exact keep_sub (by simp) (by simp)
              exact ⟨_, ⟨_, rfl, gQuery_ow.2 ⟨_, _, _, _, _, _, _, _, _, rfl, .refl _, by assumption, by assumption, by assumption⟩⟩, (.le fun a => by (try simp only [setR, List.cons_append, List.nil_append]); simp only [List.flatten_append, List.flatten_cons, List.flatten_nil, List.count_append, List.count_nil, List.append_nil, List.nil_append]; omega)⟩
            ·
              exact trivial
        ·
          exact trivial
  ·
    refine VC.intro ?_ ?_
    ·
      refine VCnew.intro fun x36 => ?_
      refine VC.intro ?_ ?_
      · exact keep_new
      refine VC.intro ?_ ?_
      ·
        refine VCnew.intro fun x37 => ?_
        refine VC.intro ?_ ?_
        · exact keep_sub (by simp) (by simp)
        refine VC.intro ?_ ?_
        ·
          refine append_allN (g := gS) (T := (9 : TypeId)) G_ok (by repeat (first | exact fl_plain | apply plain_iso | apply plain_pair)) [] [[(x37, Obj.cells { toList := zeros (0 : Nat) [Value.string ByteArray.empty] } (9 : TypeId))], [(x36, Obj.cells { toList := zeros (0 : Nat) [Value.string ByteArray.empty, Value.string ByteArray.empty, Value.string ByteArray.empty] } (143 : TypeId))], H] 2 ?_ (sl_nil _ _ _) rfl h1p rfl rfl rfl rfl rfl rfl rfl rfl ?_ fun b38 c38 A38 o38 => ?_
          · exact .refl _
          · simp; omega
          refine VC.intro ?_ ?_
          · exact keep_sub (by simp) (by simp)
          refine VC.intro ?_ ?_
          ·
            refine append_allN (g := gAtom) (T := (143 : TypeId)) G_ok (by repeat (first | exact fl_plain | apply plain_iso | apply plain_pair)) [] [A38, [(x37, Obj.cells { toList := zeros (0 : Nat) [Value.string ByteArray.empty] } (9 : TypeId))], [(x36, Obj.cells { toList := zeros (0 : Nat) [Value.string ByteArray.empty, Value.string ByteArray.empty, Value.string ByteArray.empty] } (143 : TypeId))], H] 3 ?_ (sl_nil _ _ _) rfl h2p rfl rfl rfl rfl rfl rfl rfl rfl ?_ fun b39 c39 A39 o39 => ?_
            · exact .refl _
            · simp; omega
            refine VC.intro ?_ ?_
            · exact keep_sub (by simp) (by simp)
            refine VCnew.intro fun x40 => ?_
            refine VC.intro ?_ ?_
            · exact keep_sub (by simp) (by simp)
            refine append_allN (g := gFilter) (T := (214 : TypeId)) G_ok (by repeat (first | exact fl_plain | apply plain_iso | apply plain_pair)) [] [[(x40, Obj.cells { toList := zeros (0 : Nat) [Value.string ByteArray.empty, Value.int IntKind.i64 (0 : Int), Value.string ByteArray.empty, Value.int IntKind.i64 (0 : Int)] } (214 : TypeId))], A39, A38, [(x37, Obj.cells { toList := zeros (0 : Nat) [Value.string ByteArray.empty] } (9 : TypeId))], [(x36, Obj.cells { toList := zeros (0 : Nat) [Value.string ByteArray.empty, Value.string ByteArray.empty, Value.string ByteArray.empty] } (143 : TypeId))], H] 5 ?_ (sl_nil _ _ _) rfl h3p rfl rfl rfl rfl rfl rfl rfl rfl ?_ fun b41 c41 A41 o41 => ?_
            · exact .refl _
            · simp; omega
            refine VC.intro ?_ ?_
            · exact keep_sub (by simp) (by simp)
            exact ⟨_, ⟨_, rfl, gQuery_ow.2 ⟨_, _, _, _, _, _, _, _, _, rfl, .refl _, by assumption, by assumption, by assumption⟩⟩, (.le fun a => by (try simp only [setR, List.cons_append, List.nil_append]); simp only [List.flatten_append, List.flatten_cons, List.flatten_nil, List.count_append, List.count_nil, List.append_nil, List.nil_append]; omega)⟩
          ·
            refine VC.intro ?_ ?_
            ·
              refine VCnew.intro fun x42 => ?_
              refine VC.intro ?_ ?_
              · exact keep_sub (by simp) (by simp)
              refine append_allN (g := gAtom) (T := (143 : TypeId)) G_ok (by repeat (first | exact fl_plain | apply plain_iso | apply plain_pair)) [] [[(x42, Obj.cells { toList := zeros (0 : Nat) [Value.string ByteArray.empty, Value.int IntKind.i64 (0 : Int), Value.string ByteArray.empty, Value.int IntKind.i64 (0 : Int)] } (214 : TypeId))], A38, [(x37, Obj.cells { toList := zeros (0 : Nat) [Value.string ByteArray.empty] } (9 : TypeId))], [(x36, Obj.cells { toList := zeros (0 : Nat) [Value.string ByteArray.empty, Value.string ByteArray.empty, Value.string ByteArray.empty] } (143 : TypeId))], H] 4 ?_ (sl_nil _ _ _) rfl h2p rfl rfl rfl rfl rfl rfl rfl rfl ?_ fun b43 c43 A43 o43 => ?_
              · exact .refl _
              · simp; omega
              refine VC.intro ?_ ?_
              · exact keep_sub (by simp) (by simp)
              refine append_allN (g := gFilter) (T := (214 : TypeId)) G_ok (by repeat (first | exact fl_plain | apply plain_iso | apply plain_pair)) [] [A43, [(x42, Obj.cells { toList := zeros (0 : Nat) [Value.string ByteArray.empty, Value.int IntKind.i64 (0 : Int), Value.string ByteArray.empty, Value.int IntKind.i64 (0 : Int)] } (214 : TypeId))], A38, [(x37, Obj.cells { toList := zeros (0 : Nat) [Value.string ByteArray.empty] } (9 : TypeId))], [(x36, Obj.cells { toList := zeros (0 : Nat) [Value.string ByteArray.empty, Value.string ByteArray.empty, Value.string ByteArray.empty] } (143 : TypeId))], H] 5 ?_ (sl_nil _ _ _) rfl h3p rfl rfl rfl rfl rfl rfl rfl rfl ?_ fun b44 c44 A44 o44 => ?_
              · exact .refl _
              · simp; omega
              refine VC.intro ?_ ?_
              · exact keep_sub (by simp) (by simp)
              exact ⟨_, ⟨_, rfl, gQuery_ow.2 ⟨_, _, _, _, _, _, _, _, _, rfl, .refl _, by assumption, by assumption, by assumption⟩⟩, (.le fun a => by (try simp only [setR, List.cons_append, List.nil_append]); simp only [List.flatten_append, List.flatten_cons, List.flatten_nil, List.count_append, List.count_nil, List.append_nil, List.nil_append]; omega)⟩
            ·
              exact trivial
        ·
          refine VC.intro ?_ ?_
          ·
            refine VCnew.intro fun x45 => ?_
            refine VC.intro ?_ ?_
            · exact keep_sub (by simp) (by simp)
            refine append_allN (g := gS) (T := (9 : TypeId)) G_ok (by repeat (first | exact fl_plain | apply plain_iso | apply plain_pair)) [] [[(x45, Obj.cells { toList := zeros (0 : Nat) [Value.string ByteArray.empty, Value.int IntKind.i64 (0 : Int), Value.string ByteArray.empty, Value.int IntKind.i64 (0 : Int)] } (214 : TypeId))], [(x37, Obj.cells { toList := zeros (0 : Nat) [Value.string ByteArray.empty] } (9 : TypeId))], [(x36, Obj.cells { toList := zeros (0 : Nat) [Value.string ByteArray.empty, Value.string ByteArray.empty, Value.string ByteArray.empty] } (143 : TypeId))], H] 3 ?_ (sl_nil _ _ _) rfl h1p rfl rfl rfl rfl rfl rfl rfl rfl ?_ fun b46 c46 A46 o46 => ?_
            · exact .refl _
            · simp; omega
            refine VC.intro ?_ ?_
            · exact keep_sub (by simp) (by simp)
            refine append_allN (g := gAtom) (T := (143 : TypeId)) G_ok (by repeat (first | exact fl_plain | apply plain_iso | apply plain_pair)) [] [A46, [(x45, Obj.cells { toList := zeros (0 : Nat) [Value.string ByteArray.empty, Value.int IntKind.i64 (0 : Int), Value.string ByteArray.empty, Value.int IntKind.i64 (0 : Int)] } (214 : TypeId))], [(x37, Obj.cells { toList := zeros (0 : Nat) [Value.string ByteArray.empty] } (9 : TypeId))], [(x36, Obj.cells { toList := zeros (0 : Nat) [Value.string ByteArray.empty, Value.string ByteArray.empty, Value.string ByteArray.empty] } (143 : TypeId))], H] 4 ?_ (sl_nil _ _ _) rfl h2p rfl rfl rfl rfl rfl rfl rfl rfl ?_ fun b47 c47 A47 o47 => ?_
            · exact .refl _
            · simp; omega
            refine VC.intro ?_ ?_
            · exact keep_sub (by simp) (by simp)
            refine append_allN (g := gFilter) (T := (214 : TypeId)) G_ok (by repeat (first | exact fl_plain | apply plain_iso | apply plain_pair)) [] [A47, A46, [(x45, Obj.cells { toList := zeros (0 : Nat) [Value.string ByteArray.empty, Value.int IntKind.i64 (0 : Int), Value.string ByteArray.empty, Value.int IntKind.i64 (0 : Int)] } (214 : TypeId))], [(x37, Obj.cells { toList := zeros (0 : Nat) [Value.string ByteArray.empty] } (9 : TypeId))], [(x36, Obj.cells { toList := zeros (0 : Nat) [Value.string ByteArray.empty, Value.string ByteArray.empty, Value.string ByteArray.empty] } (143 : TypeId))], H] 5 ?_ (sl_nil _ _ _) rfl h3p rfl rfl rfl rfl rfl rfl rfl rfl ?_ fun b48 c48 A48 o48 => ?_
            · exact .refl _
            · simp; omega
            refine VC.intro ?_ ?_
            · exact keep_sub (by simp) (by simp)
            exact ⟨_, ⟨_, rfl, gQuery_ow.2 ⟨_, _, _, _, _, _, _, _, _, rfl, .refl _, by assumption, by assumption, by assumption⟩⟩, (.le fun a => by (try simp only [setR, List.cons_append, List.nil_append]); simp only [List.flatten_append, List.flatten_cons, List.flatten_nil, List.count_append, List.count_nil, List.append_nil, List.nil_append]; omega)⟩
          ·
            exact trivial
      ·
        refine VC.intro ?_ ?_
        ·
          refine VCnew.intro fun x49 => ?_
          refine VC.intro ?_ ?_
          · exact keep_sub (by simp) (by simp)
          refine VCnew.intro fun x50 => ?_
          refine VC.intro ?_ ?_
          · exact keep_sub (by simp) (by simp)
          refine append_allN (g := gS) (T := (9 : TypeId)) G_ok (by repeat (first | exact fl_plain | apply plain_iso | apply plain_pair)) [] [[(x50, Obj.cells { toList := zeros (0 : Nat) [Value.string ByteArray.empty] } (9 : TypeId))], [(x49, Obj.cells { toList := zeros (0 : Nat) [Value.string ByteArray.empty, Value.int IntKind.i64 (0 : Int), Value.string ByteArray.empty, Value.int IntKind.i64 (0 : Int)] } (214 : TypeId))], [(x36, Obj.cells { toList := zeros (0 : Nat) [Value.string ByteArray.empty, Value.string ByteArray.empty, Value.string ByteArray.empty] } (143 : TypeId))], H] 3 ?_ (sl_nil _ _ _) rfl h1p rfl rfl rfl rfl rfl rfl rfl rfl ?_ fun b51 c51 A51 o51 => ?_
          · exact .refl _
          · simp; omega
          refine VC.intro ?_ ?_
          · exact keep_sub (by simp) (by simp)
          refine append_allN (g := gAtom) (T := (143 : TypeId)) G_ok (by repeat (first | exact fl_plain | apply plain_iso | apply plain_pair)) [] [A51, [(x50, Obj.cells { toList := zeros (0 : Nat) [Value.string ByteArray.empty] } (9 : TypeId))], [(x49, Obj.cells { toList := zeros (0 : Nat) [Value.string ByteArray.empty, Value.int IntKind.i64 (0 : Int), Value.string ByteArray.empty, Value.int IntKind.i64 (0 : Int)] } (214 : TypeId))], [(x36, Obj.cells { toList := zeros (0 : Nat) [Value.string ByteArray.empty, Value.string ByteArray.empty, Value.string ByteArray.empty] } (143 : TypeId))], H] 4 ?_ (sl_nil _ _ _) rfl h2p rfl rfl rfl rfl rfl rfl rfl rfl ?_ fun b52 c52 A52 o52 => ?_
          · exact .refl _
          · simp; omega
          refine VC.intro ?_ ?_
          · exact keep_sub (by simp) (by simp)
          refine append_allN (g := gFilter) (T := (214 : TypeId)) G_ok (by repeat (first | exact fl_plain | apply plain_iso | apply plain_pair)) [] [A52, A51, [(x50, Obj.cells { toList := zeros (0 : Nat) [Value.string ByteArray.empty] } (9 : TypeId))], [(x49, Obj.cells { toList := zeros (0 : Nat) [Value.string ByteArray.empty, Value.int IntKind.i64 (0 : Int), Value.string ByteArray.empty, Value.int IntKind.i64 (0 : Int)] } (214 : TypeId))], [(x36, Obj.cells { toList := zeros (0 : Nat) [Value.string ByteArray.empty, Value.string ByteArray.empty, Value.string ByteArray.empty] } (143 : TypeId))], H] 5 ?_ (sl_nil _ _ _) rfl h3p rfl rfl rfl rfl rfl rfl rfl rfl ?_ fun b53 c53 A53 o53 => ?_
          · exact .refl _
          · simp; omega
          refine VC.intro ?_ ?_
          · exact keep_sub (by simp) (by simp)
          exact ⟨_, ⟨_, rfl, gQuery_ow.2 ⟨_, _, _, _, _, _, _, _, _, rfl, .refl _, by assumption, by assumption, by assumption⟩⟩, (.le fun a => by (try simp only [setR, List.cons_append, List.nil_append]); simp only [List.flatten_append, List.flatten_cons, List.flatten_nil, List.count_append, List.count_nil, List.append_nil, List.nil_append]; omega)⟩
        ·
          exact trivial
    ·
      refine VC.intro ?_ ?_
      ·
        refine VCnew.intro fun x54 => ?_
        refine VC.intro ?_ ?_
        · exact keep_new
        refine VC.intro ?_ ?_
        ·
          refine VCnew.intro fun x55 => ?_
          refine VC.intro ?_ ?_
          · exact keep_sub (by simp) (by simp)
          refine VC.intro ?_ ?_
          ·
            refine append_allN (g := gS) (T := (9 : TypeId)) G_ok (by repeat (first | exact fl_plain | apply plain_iso | apply plain_pair)) [] [[(x55, Obj.cells { toList := zeros (0 : Nat) [Value.string ByteArray.empty] } (9 : TypeId))], [(x54, Obj.cells { toList := zeros (0 : Nat) [Value.string ByteArray.empty, Value.int IntKind.i64 (0 : Int), Value.string ByteArray.empty, Value.int IntKind.i64 (0 : Int)] } (214 : TypeId))], H] 2 ?_ (sl_nil _ _ _) rfl h1p rfl rfl rfl rfl rfl rfl rfl rfl ?_ fun b56 c56 A56 o56 => ?_
            · exact .refl _
            · simp; omega
            refine VC.intro ?_ ?_
            · exact keep_sub (by simp) (by simp)
            refine VCnew.intro fun x57 => ?_
            refine VC.intro ?_ ?_
            · exact keep_sub (by simp) (by simp)
            refine append_allN (g := gAtom) (T := (143 : TypeId)) G_ok (by repeat (first | exact fl_plain | apply plain_iso | apply plain_pair)) [] [[(x57, Obj.cells { toList := zeros (0 : Nat) [Value.string ByteArray.empty, Value.string ByteArray.empty, Value.string ByteArray.empty] } (143 : TypeId))], A56, [(x55, Obj.cells { toList := zeros (0 : Nat) [Value.string ByteArray.empty] } (9 : TypeId))], [(x54, Obj.cells { toList := zeros (0 : Nat) [Value.string ByteArray.empty, Value.int IntKind.i64 (0 : Int), Value.string ByteArray.empty, Value.int IntKind.i64 (0 : Int)] } (214 : TypeId))], H] 4 ?_ (sl_nil _ _ _) rfl h2p rfl rfl rfl rfl rfl rfl rfl rfl ?_ fun b58 c58 A58 o58 => ?_
            · exact .refl _
            · simp; omega
            refine VC.intro ?_ ?_
            · exact keep_sub (by simp) (by simp)
            refine append_allN (g := gFilter) (T := (214 : TypeId)) G_ok (by repeat (first | exact fl_plain | apply plain_iso | apply plain_pair)) [] [A58, [(x57, Obj.cells { toList := zeros (0 : Nat) [Value.string ByteArray.empty, Value.string ByteArray.empty, Value.string ByteArray.empty] } (143 : TypeId))], A56, [(x55, Obj.cells { toList := zeros (0 : Nat) [Value.string ByteArray.empty] } (9 : TypeId))], [(x54, Obj.cells { toList := zeros (0 : Nat) [Value.string ByteArray.empty, Value.int IntKind.i64 (0 : Int), Value.string ByteArray.empty, Value.int IntKind.i64 (0 : Int)] } (214 : TypeId))], H] 5 ?_ (sl_nil _ _ _) rfl h3p rfl rfl rfl rfl rfl rfl rfl rfl ?_ fun b59 c59 A59 o59 => ?_
            · exact .refl _
            · simp; omega
            refine VC.intro ?_ ?_
            · exact keep_sub (by simp) (by simp)
            exact ⟨_, ⟨_, rfl, gQuery_ow.2 ⟨_, _, _, _, _, _, _, _, _, rfl, .refl _, by assumption, by assumption, by assumption⟩⟩, (.le fun a => by (try simp only [setR, List.cons_append, List.nil_append]); simp only [List.flatten_append, List.flatten_cons, List.flatten_nil, List.count_append, List.count_nil, List.append_nil, List.nil_append]; omega)⟩
          ·
            refine VC.intro ?_ ?_
            ·
              refine VCnew.intro fun x60 => ?_
              refine VC.intro ?_ ?_
              · exact keep_sub (by simp) (by simp)
              refine append_allN (g := gS) (T := (9 : TypeId)) G_ok (by repeat (first | exact fl_plain | apply plain_iso | apply plain_pair)) [] [[(x60, Obj.cells { toList := zeros (0 : Nat) [Value.string ByteArray.empty, Value.string ByteArray.empty, Value.string ByteArray.empty] } (143 : TypeId))], [(x55, Obj.cells { toList := zeros (0 : Nat) [Value.string ByteArray.empty] } (9 : TypeId))], [(x54, Obj.cells { toList := zeros (0 : Nat) [Value.string ByteArray.empty, Value.int IntKind.i64 (0 : Int), Value.string ByteArray.empty, Value.int IntKind.i64 (0 : Int)] } (214 : TypeId))], H] 3 ?_ (sl_nil _ _ _) rfl h1p rfl rfl rfl rfl rfl rfl rfl rfl ?_ fun b61 c61 A61 o61 => ?_
              · exact .refl _
              · simp; omega
              refine VC.intro ?_ ?_
              · exact keep_sub (by simp) (by simp)
              refine append_allN (g := gAtom) (T := (143 : TypeId)) G_ok (by repeat (first | exact fl_plain | apply plain_iso | apply plain_pair)) [] [A61, [(x60, Obj.cells { toList := zeros (0 : Nat) [Value.string ByteArray.empty, Value.string ByteArray.empty, Value.string ByteArray.empty] } (143 : TypeId))], [(x55, Obj.cells { toList := zeros (0 : Nat) [Value.string ByteArray.empty] } (9 : TypeId))], [(x54, Obj.cells { toList := zeros (0 : Nat) [Value.string ByteArray.empty, Value.int IntKind.i64 (0 : Int), Value.string ByteArray.empty, Value.int IntKind.i64 (0 : Int)] } (214 : TypeId))], H] 4 ?_ (sl_nil _ _ _) rfl h2p rfl rfl rfl rfl rfl rfl rfl rfl ?_ fun b62 c62 A62 o62 => ?_
              · exact .refl _
              · simp; omega
              refine VC.intro ?_ ?_
              · exact keep_sub (by simp) (by simp)
              refine append_allN (g := gFilter) (T := (214 : TypeId)) G_ok (by repeat (first | exact fl_plain | apply plain_iso | apply plain_pair)) [] [A62, A61, [(x60, Obj.cells { toList := zeros (0 : Nat) [Value.string ByteArray.empty, Value.string ByteArray.empty, Value.string ByteArray.empty] } (143 : TypeId))], [(x55, Obj.cells { toList := zeros (0 : Nat) [Value.string ByteArray.empty] } (9 : TypeId))], [(x54, Obj.cells { toList := zeros (0 : Nat) [Value.string ByteArray.empty, Value.int IntKind.i64 (0 : Int), Value.string ByteArray.empty, Value.int IntKind.i64 (0 : Int)] } (214 : TypeId))], H] 5 ?_ (sl_nil _ _ _) rfl h3p rfl rfl rfl rfl rfl rfl rfl rfl ?_ fun b63 c63 A63 o63 => ?_
              · exact .refl _
              · simp; omega
              refine VC.intro ?_ ?_
              · exact keep_sub (by simp) (by simp)
              exact ⟨_, ⟨_, rfl, gQuery_ow.2 ⟨_, _, _, _, _, _, _, _, _, rfl, .refl _, by assumption, by assumption, by assumption⟩⟩, (.le fun a => by (try simp only [setR, List.cons_append, List.nil_append]); simp only [List.flatten_append, List.flatten_cons, List.flatten_nil, List.count_append, List.count_nil, List.append_nil, List.nil_append]; omega)⟩
            ·
              exact trivial
        ·
          refine VC.intro ?_ ?_
          ·
            refine VCnew.intro fun x64 => ?_
            refine VC.intro ?_ ?_
            · exact keep_sub (by simp) (by simp)
            refine VCnew.intro fun x65 => ?_
            refine VC.intro ?_ ?_
            · exact keep_sub (by simp) (by simp)
            refine append_allN (g := gS) (T := (9 : TypeId)) G_ok (by repeat (first | exact fl_plain | apply plain_iso | apply plain_pair)) [] [[(x65, Obj.cells { toList := zeros (0 : Nat) [Value.string ByteArray.empty] } (9 : TypeId))], [(x64, Obj.cells { toList := zeros (0 : Nat) [Value.string ByteArray.empty, Value.string ByteArray.empty, Value.string ByteArray.empty] } (143 : TypeId))], [(x54, Obj.cells { toList := zeros (0 : Nat) [Value.string ByteArray.empty, Value.int IntKind.i64 (0 : Int), Value.string ByteArray.empty, Value.int IntKind.i64 (0 : Int)] } (214 : TypeId))], H] 3 ?_ (sl_nil _ _ _) rfl h1p rfl rfl rfl rfl rfl rfl rfl rfl ?_ fun b66 c66 A66 o66 => ?_
            · exact .refl _
            · simp; omega
            refine VC.intro ?_ ?_
            · exact keep_sub (by simp) (by simp)
            refine append_allN (g := gAtom) (T := (143 : TypeId)) G_ok (by repeat (first | exact fl_plain | apply plain_iso | apply plain_pair)) [] [A66, [(x65, Obj.cells { toList := zeros (0 : Nat) [Value.string ByteArray.empty] } (9 : TypeId))], [(x64, Obj.cells { toList := zeros (0 : Nat) [Value.string ByteArray.empty, Value.string ByteArray.empty, Value.string ByteArray.empty] } (143 : TypeId))], [(x54, Obj.cells { toList := zeros (0 : Nat) [Value.string ByteArray.empty, Value.int IntKind.i64 (0 : Int), Value.string ByteArray.empty, Value.int IntKind.i64 (0 : Int)] } (214 : TypeId))], H] 4 ?_ (sl_nil _ _ _) rfl h2p rfl rfl rfl rfl rfl rfl rfl rfl ?_ fun b67 c67 A67 o67 => ?_
            · exact .refl _
            · simp; omega
            refine VC.intro ?_ ?_
            · exact keep_sub (by simp) (by simp)
            refine append_allN (g := gFilter) (T := (214 : TypeId)) G_ok (by repeat (first | exact fl_plain | apply plain_iso | apply plain_pair)) [] [A67, A66, [(x65, Obj.cells { toList := zeros (0 : Nat) [Value.string ByteArray.empty] } (9 : TypeId))], [(x64, Obj.cells { toList := zeros (0 : Nat) [Value.string ByteArray.empty, Value.string ByteArray.empty, Value.string ByteArray.empty] } (143 : TypeId))], [(x54, Obj.cells { toList := zeros (0 : Nat) [Value.string ByteArray.empty, Value.int IntKind.i64 (0 : Int), Value.string ByteArray.empty, Value.int IntKind.i64 (0 : Int)] } (214 : TypeId))], H] 5 ?_ (sl_nil _ _ _) rfl h3p rfl rfl rfl rfl rfl rfl rfl rfl ?_ fun b68 c68 A68 o68 => ?_
            · exact .refl _
            · simp; omega
            refine VC.intro ?_ ?_
            · exact keep_sub (by simp) (by simp)
            exact ⟨_, ⟨_, rfl, gQuery_ow.2 ⟨_, _, _, _, _, _, _, _, _, rfl, .refl _, by assumption, by assumption, by assumption⟩⟩, (.le fun a => by (try simp only [setR, List.cons_append, List.nil_append]); simp only [List.flatten_append, List.flatten_cons, List.flatten_nil, List.count_append, List.count_nil, List.append_nil, List.nil_append]; omega)⟩
          ·
            exact trivial
      ·
        exact trivial

--@ct impl.copyDisk new copyDisk_ct _ $1 ?_ | %1 | obtain ⟨l#, rfl, o#⟩ := o# ;; have r# := Gt.owrd _ o# ;; obtain ⟨b0x#, c0x#, rfl, h0x#⟩ := gDisk_rd.1 r#
theorem copyDisk_ct (l : List Value) (x : Disk) (hx : gDisk.sz x ≤ 1048576) :
    Ct Tryz.prog 137 [.agg ⟨l⟩] [] (fun H => gDisk.rd H l x) (fun v A => ∃ l, v = .agg ⟨l⟩ ∧ gDisk.ow l x A) := by
  refine Ct.intro0 G_ok Tryz.func137 rfl rfl rfl fun E H hp => ?_
  obtain ⟨b0p, c0p, rfl, h0p⟩ := gDisk_rd.1 hp
  have ez := gDisk_sz (x)
  have en0 := len_szL gFile (x.files)
  refine VCnew.intro fun x0 => ?_
  refine VCnew.intro fun x1 => ?_
  refine call_new (cloneFile_ct _ _ _ (x.files) ?_) (Rp.mono _ (mem_at 0 rfl) h0p) ?_
  · trivial
  rintro v2 A2 o2
  obtain ⟨b2, c2, rfl, o2⟩ := o2
  exact ⟨_, ⟨_, rfl, gDisk_ow.2 ⟨_, _, _, rfl, .refl _, by assumption⟩⟩, (.le fun a => by (try simp only [setR, List.cons_append, List.nil_append]); simp only [List.flatten_append, List.flatten_cons, List.flatten_nil, List.count_append, List.count_nil, List.append_nil, List.nil_append]; omega)⟩

--@ct impl.copyBag new copyBag_ct _ $1 ?_ | %1 | obtain ⟨l#, rfl, o#⟩ := o# ;; have r# := Gt.owrd _ o# ;; obtain ⟨b0x#, c0x#, rfl, h0x#⟩ := gBag_rd.1 r#
theorem copyBag_ct (l : List Value) (x : Bag) (hx : gBag.sz x ≤ 1048576) :
    Ct Tryz.prog 174 [.agg ⟨l⟩] [] (fun H => gBag.rd H l x) (fun v A => ∃ l, v = .agg ⟨l⟩ ∧ gBag.ow l x A) := by
  refine Ct.intro0 G_ok Tryz.func174 rfl rfl rfl fun E H hp => ?_
  obtain ⟨b0p, c0p, rfl, h0p⟩ := gBag_rd.1 hp
  have ez := gBag_sz (x)
  have en0 := len_szL gItem (x.items)
  have hq := szL_eq gItem (x.items)
  refine VCnew.intro fun x0 => ?_
  refine VCnew.intro fun x1 => ?_
  refine VCnew.intro fun x2 => ?_
  apply loop_mod (α := (Nat) × (Hp) × (Option Addr) × (Nat)) G_ok [10, 11, 12, 5, 13, 14, 15, 16, 17, 18, 19, 20, 21, 22, 23, 24, 9] (fun z => [(9, .v (.int .i64 z.1))]) (fun z => [⟨x0, [Value.slice b0p x.items.length c0p], (65 : Nat)⟩, ⟨x1, [Value.slice none (0 : Nat) (0 : Nat)], (65 : Nat)⟩, ⟨x2, [.slice z.2.2.1 (x.items.take z.1).length z.2.2.2], (65 : Nat)⟩]) (fun z => [z.2.1, H]) (fun z => x.items.length - z.1) (fun z => z.1 ≤ x.items.length ∧ (gSl 212 gItem).ow [.slice z.2.2.1 (x.items.take z.1).length z.2.2.2] (x.items.take z.1) z.2.1) ((0, [], none, 0))
  · repeat' (first | exact trivial | refine ⟨⟨_, rfl, by first | rfl | exact inc_eq _ (by omega) | (refine sl_eq ?_; simp; done) | (refine sl_eq ?_; simp only [List.length_append, List.length_take, List.length_cons, List.length_nil]; omega), by first | exact trivial | simp [SV.ok]⟩, ?_⟩)
  · exact ⟨rfl, rfl, rfl, trivial⟩
  · try dsimp only
    exact ⟨by omega, sl_nil _ _ _⟩
  · exact .refl _
  rintro ⟨k, A, lb, lc⟩ hI
  obtain ⟨hk, oA⟩ : k ≤ x.items.length ∧ (gSl 212 gItem).ow [.slice lb (x.items.take k).length lc] (x.items.take k) A := hI
  try dsimp only
  refine VCsplit.intro (fun q3 => ?_) (fun q3 => ?_)
  ·
    simp at q3
    have hs := szE_step gItem x.items k default (by omega)
    have hs2 := szE_le gItem x.items (k + 1)
    have hs3 := gItem_sz (x.items[k]?.getD default)
    have hs4 := len_szL gI (x.items[k]?.getD default).row
    refine idx_rd h0p ?_ ?_ fun b4 o4 hb4 => ?_
    · omega
    · omega
    refine load_allN default (k) rfl h0p ?_ ?_ hb4 rfl (mem_at 1 rfl) fun l5 hl5 => ?_
    · omega
    · omega
    obtain ⟨b0x5, c0x5, rfl, h0x5, w1x5⟩ := gItem_rd.1 hl5
    refine VCnew.intro fun x6 => ?_
    refine draw G_ok mixed (some 9) (.q 0 (.q 1 (.q 2 (.q 3 (.q 5 (.q 6 (.f 4 (.q 7 (.f 8 (.tl 9 (.f 10 (.f 11 (.nil))))))))))))) (by decide +kernel) ?_
    refine call_new (cloneI_ct _ _ _ ((x.items[k]?.getD default).row) ?_) (Rp.mono _ (mem_at 1 rfl) h0x5) ?_
    · omega
    rintro v7 A7 o7
    obtain ⟨b7, c7, rfl, o7⟩ := o7
    refine VC.intro ?_ ?_
    · exact keep_new
    refine VCnew.intro fun x8 => ?_
    refine VC.intro ?_ ?_
    · exact keep_new
    refine gappend1 (g := gItem) (T := (212 : TypeId)) G_ok A _ [H] ?_ oA (gItem_ow.2 ⟨_, _, _, rfl, .refl _, by assumption, by assumption⟩) (List.mem_of_getElem? (i := 0) rfl) rfl rfl rfl rfl rfl rfl rfl rfl ?_ fun b9 c9 A9 o9 => ?_
    · exact .le fun a => by (try simp only [setR, List.cons_append, List.nil_append]); simp only [List.flatten_append, List.flatten_cons, List.flatten_nil, List.count_append, List.count_nil, List.append_nil, List.nil_append]; omega
    · simp; omega
    apply loop_stepA (k + 1, _, _, _)
    · exact .refl _
    · repeat' (first | exact trivial | refine ⟨⟨_, rfl, by first | rfl | exact inc_eq _ (by omega) | (refine sl_eq ?_; simp; done) | (refine sl_eq ?_; simp only [List.length_append, List.length_take, List.length_cons, List.length_nil]; omega), by first | exact trivial | simp [SV.ok]⟩, ?_⟩)
    · ((rw [tk1 x.items k default (by omega)]); repeat' (first | exact trivial | refine ⟨by first | rfl | simp [Blk.ent], ?_⟩))
    · try dsimp only
      exact ⟨by omega, by (rw [tk1 x.items k default (by omega)]; assumption)⟩
    · try dsimp only
      omega
  ·
    simp at q3
    obtain rfl : k = x.items.length := by omega
    (simp only [List.take_length] at oA ⊢; exact ⟨_, ⟨_, rfl, gBag_ow.2 ⟨_, _, _, rfl, .refl _, oA⟩⟩, (.le fun a => by (try simp only [setR, List.cons_append, List.nil_append]); simp only [List.flatten_append, List.flatten_cons, List.flatten_nil, List.count_append, List.count_nil, List.append_nil, List.nil_append]; omega)⟩)

--@ct spec.l03Copy new s_l03Copy_ct _ $1 ?_ | %1 | obtain ⟨l#, rfl, o#⟩ := o# ;; have r# := Gt.owrd _ o# ;; obtain ⟨b0x#, c0x#, rfl, h0x#⟩ := gBag_rd.1 r#
theorem s_l03Copy_ct (l : List Value) (x : Bag) (hx : gBag.sz x ≤ 1048576) :
    Ct Tryz.prog 200 [.agg ⟨l⟩] [] (fun H => gBag.rd H l x) (fun v A => ∃ l, v = .agg ⟨l⟩ ∧ gBag.ow l x A) := by
  refine Ct.intro0 G_ok Tryz.func200 rfl rfl rfl fun E H hp => ?_
  obtain ⟨b0p, c0p, rfl, h0p⟩ := gBag_rd.1 hp
  have ez := gBag_sz (x)
  have en0 := len_szL gItem (x.items)
  have hq := szL_eq gItem (x.items)
  refine VCnew.intro fun x0 => ?_
  refine VCnew.intro fun x1 => ?_
  refine VCnew.intro fun x2 => ?_
  apply loop_mod (α := (Nat) × (Hp) × (Option Addr) × (Nat)) G_ok [6, 7, 8, 9, 10, 13, 14, 15, 16, 17, 18, 19, 20, 21, 22, 23, 24, 25, 26, 27, 28, 29, 30, 31, 32, 11, 12, 4] (fun z => [(4, .v (.int .i64 z.1))]) (fun z => [⟨x0, [Value.slice b0p x.items.length c0p], (65 : Nat)⟩, ⟨x1, [Value.slice none (0 : Nat) (0 : Nat)], (65 : Nat)⟩, ⟨x2, [.slice z.2.2.1 (x.items.take z.1).length z.2.2.2], (65 : Nat)⟩]) (fun z => [z.2.1, H]) (fun z => x.items.length - z.1) (fun z => z.1 ≤ x.items.length ∧ (gSl 212 gItem).ow [.slice z.2.2.1 (x.items.take z.1).length z.2.2.2] (x.items.take z.1) z.2.1) ((0, [], none, 0))
  · repeat' (first | exact trivial | refine ⟨⟨_, rfl, by first | rfl | exact inc_eq _ (by omega) | (refine sl_eq ?_; simp; done) | (refine sl_eq ?_; simp only [List.length_append, List.length_take, List.length_cons, List.length_nil]; omega), by first | exact trivial | simp [SV.ok]⟩, ?_⟩)
  · exact ⟨rfl, rfl, rfl, trivial⟩
  · try dsimp only
    exact ⟨by omega, sl_nil _ _ _⟩
  · exact .refl _
  rintro ⟨k, A, lb, lc⟩ hI
  obtain ⟨hk, oA⟩ : k ≤ x.items.length ∧ (gSl 212 gItem).ow [.slice lb (x.items.take k).length lc] (x.items.take k) A := hI
  try dsimp only
  refine VCsplit.intro (fun q3 => ?_) (fun q3 => ?_)
  ·
    simp at q3
    have hs := szE_step gItem x.items k default (by omega)
    have hs2 := szE_le gItem x.items (k + 1)
    have hs3 := gItem_sz (x.items[k]?.getD default)
    have hs4 := len_szL gI (x.items[k]?.getD default).row
    refine draw G_ok mixed (some 18) (.q 0 (.q 1 (.q 3 (.q 4 (.q 5 (.q 6 (.q 7 (.q 8 (.q 10 (.q 11 (.q 12 (.q 13 (.q 14 (.q 15 (.f 2 (.f 9 (.q 16 (.f 17 (.tl 18 (.f 19 (.f 20 (.nil)))))))))))))))))))))) (by decide +kernel) ?_
    refine idx_rd h0p ?_ ?_ fun b4 o4 hb4 => ?_
    · omega
    · omega
    refine load_partN default (k) 0 rfl h0p ?_ ?_ hb4 rfl (by decide) (mem_at 1 rfl) fun l5 hl5 => ?_
    · omega
    · omega
    obtain ⟨b0x5, c0x5, rfl, h0x5, w1x5⟩ := gItem_rd.1 hl5
    refine idx_rd h0p ?_ ?_ fun b6 o6 hb6 => ?_
    · omega
    · omega
    refine load_partN default (k) 1 rfl h0p ?_ ?_ hb6 rfl (by decide) (mem_at 1 rfl) fun l7 hl7 => ?_
    · omega
    · omega
    obtain ⟨b0x7, c0x7, rfl, h0x7, w1x7⟩ := gItem_rd.1 hl7
    refine VCnew.intro fun x8 => ?_
    refine VC.intro ?_ ?_
    · exact keep_new
    refine append_allN (g := gI) (T := (3 : TypeId)) G_ok (by repeat (first | exact fl_plain | apply plain_iso | apply plain_pair)) [] [[(x8, Obj.cells { toList := zeros (0 : Nat) [Value.int IntKind.i64 (0 : Int)] } (3 : TypeId))], A, H] 2 ?_ (sl_nil _ _ _) rfl h0x5 rfl rfl rfl rfl rfl rfl rfl rfl ?_ fun b9 c9 A9 o9 => ?_
    · exact .refl _
    · simp; omega
    refine VC.intro ?_ ?_
    · exact keep_sub (by simp) (by simp)
    refine VCnew.intro fun x10 => ?_
    refine VC.intro ?_ ?_
    · exact keep_new
    refine gappend1 (g := gItem) (T := (212 : TypeId)) G_ok A _ [[(x8, Obj.cells { toList := zeros (0 : Nat) [Value.int IntKind.i64 (0 : Int)] } (3 : TypeId))], H] ?_ oA (gItem_ow.2 ⟨_, _, _, rfl, .refl _, by assumption, by assumption⟩) (List.mem_of_getElem? (i := 0) rfl) rfl rfl rfl rfl rfl rfl rfl rfl ?_ fun b11 c11 A11 o11 => ?_
    · exact .le fun a => by (try simp only [setR, List.cons_append, List.nil_append]); simp only [List.flatten_append, List.flatten_cons, List.flatten_nil, List.count_append, List.count_nil, List.append_nil, List.nil_append]; omega
    · simp; omega
    apply loop_stepA (k + 1, _, _, _)
    · exact .sub (by repeat (first | exact .slnil | apply List.Sublist.cons_cons | apply List.Sublist.cons))
    · repeat' (first | exact trivial | refine ⟨⟨_, rfl, by first | rfl | exact inc_eq _ (by omega) | (refine sl_eq ?_; simp; done) | (refine sl_eq ?_; simp only [List.length_append, List.length_take, List.length_cons, List.length_nil]; omega), by first | exact trivial | simp [SV.ok]⟩, ?_⟩)
    · ((rw [tk1 x.items k default (by omega)]); repeat' (first | exact trivial | refine ⟨by first | rfl | simp [Blk.ent], ?_⟩))
    · try dsimp only
      exact ⟨by omega, by (rw [tk1 x.items k default (by omega)]; assumption)⟩
    · try dsimp only
      omega
  ·
    simp at q3
    obtain rfl : k = x.items.length := by omega
    (simp only [List.take_length] at oA ⊢; exact ⟨_, ⟨_, rfl, gBag_ow.2 ⟨_, _, _, rfl, .refl _, oA⟩⟩, (.le fun a => by (try simp only [setR, List.cons_append, List.nil_append]); simp only [List.flatten_append, List.flatten_cons, List.flatten_nil, List.count_append, List.count_nil, List.append_nil, List.nil_append]; omega)⟩)

--@ct impl.copyGots new copyGots_ct _ _ _ $1 ?_ | %1 | obtain ⟨b#, c#, rfl, o#⟩ := o#
theorem copyGots_ct (b : Option Addr) (m c : Nat) (xs : List Got) (hx : szL gGot xs ≤ 1048576) :
    Ct Tryz.prog 211 [.slice b m c] [] (fun H => (gSl 232 gGot).rd H [.slice b m c] xs) (fun v A => ∃ b c, v = .slice b xs.length c ∧ (gSl 232 gGot).ow [.slice b xs.length c] xs A) := by
  refine Ct.intro0 G_ok Tryz.func211 rfl rfl rfl fun E H hp => ?_
  obtain ⟨rfl, hcl, hl⟩ := sl_len hp
  have hls := len_szL gGot xs
  have hq := szL_eq gGot xs
  apply loop_mod (α := (Nat) × (Hp) × (Option Addr) × (Nat)) G_ok [9, 10, 11, 5, 12, 13, 14, 15, 16, 17, 18, 19, 20, 21, 22, 3, 23, 8] (fun z => [(8, .v (.int .i64 z.1)), (3, .v (.slice z.2.2.1 (xs.take z.1).length z.2.2.2))]) (fun z => []) (fun z => [z.2.1, H]) (fun z => xs.length - z.1) (fun z => z.1 ≤ xs.length ∧ (gSl 232 gGot).ow [.slice z.2.2.1 (xs.take z.1).length z.2.2.2] (xs.take z.1) z.2.1) ((0, [], none, 0))
  · repeat' (first | exact trivial | refine ⟨⟨_, rfl, by first | rfl | exact inc_eq _ (by omega) | (refine sl_eq ?_; simp; done) | (refine sl_eq ?_; simp only [List.length_append, List.length_take, List.length_cons, List.length_nil]; omega), by first | exact trivial | simp [SV.ok]⟩, ?_⟩)
  · exact trivial
  · try dsimp only
    exact ⟨by omega, sl_nil _ _ _⟩
  · exact .refl _
  rintro ⟨k, A, lb, lc⟩ hI
  obtain ⟨hk, oA⟩ : k ≤ xs.length ∧ (gSl 232 gGot).ow [.slice lb (xs.take k).length lc] (xs.take k) A := hI
  try dsimp only
  refine VCsplit.intro (fun q0 => ?_) (fun q0 => ?_)
  ·
    simp at q0
    have hs := szE_step gGot xs k default (by omega)
    have hs2 := szE_le gGot xs (k + 1)
    have hs3 := gGot_sz (xs[k]?.getD default)
    have hs4 := gBag_sz (xs[k]?.getD default).bag
    refine idx_rd hp ?_ ?_ fun b1 o1 hb1 => ?_
    · omega
    · omega
    refine load_allN default (k) rfl hp ?_ ?_ hb1 rfl (mem_at 1 rfl) fun l2 hl2 => ?_
    · omega
    · omega
    obtain ⟨l2x2, rfl, w0x2, w1x2, h2x2⟩ := gGot_rd.1 hl2 ; obtain ⟨b0_2x2, c0_2x2, rfl, h0_2x2⟩ := gBag_rd.1 h2x2
    refine VCnew.intro fun x3 => ?_
    refine draw G_ok mixed (some 10) (.q 0 (.q 1 (.q 2 (.q 3 (.q 4 (.q 5 (.q 6 (.f 7 (.q 8 (.f 9 (.tl 10 (.f 11 (.nil))))))))))))) (by decide +kernel) ?_
    refine call_new (copyBag_ct _ ((xs[k]?.getD default).bag) ?_) (Rp.mono _ (mem_at 1 rfl) h2x2) ?_
    · omega
    rintro v4 A4 o4
    obtain ⟨l4, rfl, o4⟩ := o4
    have r4 := Gt.owrd _ o4
    obtain ⟨b0x4, c0x4, rfl, h0x4⟩ := gBag_rd.1 r4
    refine VC.intro ?_ ?_
    · exact keep_new
    refine VCnew.intro fun x5 => ?_
    refine VC.intro ?_ ?_
    · exact keep_new
    refine gappend1 (g := gGot) (T := (232 : TypeId)) G_ok A _ [H] ?_ oA (gGot_ow.2 ⟨_, _, rfl, .refl _, by assumption, by assumption, by assumption⟩) (List.mem_of_getElem? (i := 0) rfl) rfl rfl rfl rfl rfl rfl rfl rfl ?_ fun b6 c6 A6 o6 => ?_
    · exact .le fun a => by (try simp only [setR, List.cons_append, List.nil_append]); simp only [List.flatten_append, List.flatten_cons, List.flatten_nil, List.count_append, List.count_nil, List.append_nil, List.nil_append]; omega
    · simp; omega
    apply loop_stepA (k + 1, _, _, _)
    · exact .refl _
    · repeat' (first | exact trivial | refine ⟨⟨_, rfl, by first | rfl | exact inc_eq _ (by omega) | (refine sl_eq ?_; simp; done) | (refine sl_eq ?_; simp only [List.length_append, List.length_take, List.length_cons, List.length_nil]; omega), by first | exact trivial | simp [SV.ok]⟩, ?_⟩)
    · exact trivial
    · try dsimp only
      exact ⟨by omega, by (rw [tk1 xs k default (by omega)]; assumption)⟩
    · try dsimp only
      omega
  ·
    simp at q0
    obtain rfl : k = xs.length := by omega
    (simp only [List.take_length] at oA ⊢; exact ⟨_, ⟨_, _, rfl, oA⟩, (.le fun a => by (try simp only [setR, List.cons_append, List.nil_append]); simp only [List.flatten_append, List.flatten_cons, List.flatten_nil, List.count_append, List.count_nil, List.append_nil, List.nil_append]; omega)⟩)

--@ct impl.copyCell new copyCell_ct _ $1 ?_ | %1 | obtain ⟨l#, rfl, o#⟩ := o# ;; have r# := Gt.owrd _ o# ;; obtain ⟨l0x#, b1x#, c1x#, b4x#, c4x#, rfl, h0x#, h1x#, w2x#, w3x#, h4x#⟩ := gCell_rd.1 r# ;; obtain ⟨b1_0x#, c1_0x#, b2_0x#, c2_0x#, b3_0x#, c3_0x#, rfl, h1_0x#, h2_0x#, h3_0x#⟩ := gQuery_rd.1 h0x#
theorem copyCell_ct (l : List Value) (x : Cell) (hx : gCell.sz x ≤ 1048576) :
    Ct Tryz.prog 209 [.agg ⟨l⟩] [] (fun H => gCell.rd H l x) (fun v A => ∃ l, v = .agg ⟨l⟩ ∧ gCell.ow l x A) := by
  refine Ct.intro0 G_ok Tryz.func209 rfl rfl rfl fun E H hp => ?_
  obtain ⟨l0p, b1p, c1p, b4p, c4p, rfl, h0p, h1p, w2p, w3p, h4p⟩ := gCell_rd.1 hp
  obtain ⟨b1_0p, c1_0p, b2_0p, c2_0p, b3_0p, c3_0p, rfl, h1_0p, h2_0p, h3_0p⟩ := gQuery_rd.1 h0p
  have ez := gCell_sz (x)
  have e0z := gQuery_sz (x.query)
  have e0n1 := len_szL gS (x.query.out)
  have e0n2 := len_szL gAtom (x.query.atoms)
  have e0n3 := len_szL gFilter (x.query.filters)
  have en1 := len_szL gI (x.shares)
  have en4 := len_szL gGot (x.gots)
  refine VCnew.intro fun x0 => ?_
  refine VCnew.intro fun x1 => ?_
  refine draw G_ok mixed (some 14) (.q 0 (.q 1 (.q 3 (.q 4 (.q 6 (.q 7 (.q 8 (.q 9 (.q 10 (.q 11 (.f 2 (.f 5 (.f 12 (.q 13 (.tl 14 (.nil)))))))))))))))) (by decide +kernel) ?_
  refine call_new (copyQuery_ct _ (x.query) ?_) (Rp.mono _ (mem_at 0 rfl) h0p) ?_
  · omega
  rintro v2 A2 o2
  obtain ⟨l2, rfl, o2⟩ := o2
  have r2 := Gt.owrd _ o2
  obtain ⟨b1x2, c1x2, b2x2, c2x2, b3x2, c3x2, rfl, h1x2, h2x2, h3x2⟩ := gQuery_rd.1 r2
  refine VC.intro ?_ ?_
  · exact keep_new
  refine call_new (cloneI_ct _ _ _ (x.shares) ?_) (Rp.mono _ (mem_at 1 rfl) h1p) ?_
  · omega
  rintro v3 A3 o3
  obtain ⟨b3, c3, rfl, o3⟩ := o3
  refine VC.intro ?_ ?_
  · exact keep_sub (by simp) (by simp)
  refine call_new (copyGots_ct _ _ _ (x.gots) ?_) (Rp.mono _ (mem_at 2 rfl) h4p) ?_
  · omega
  rintro v4 A4 o4
  obtain ⟨b4, c4, rfl, o4⟩ := o4
  refine VC.intro ?_ ?_
  · exact keep_sub (by simp) (by simp)
  exact ⟨_, ⟨_, rfl, gCell_ow.2 ⟨_, _, _, _, _, _, _, _, rfl, .refl _, by assumption, by assumption, by assumption, by assumption, by assumption⟩⟩, (.le fun a => by (try simp only [setR, List.cons_append, List.nil_append]); simp only [List.flatten_append, List.flatten_cons, List.flatten_nil, List.count_append, List.count_nil, List.append_nil, List.nil_append]; omega)⟩

--@ct spec.l23Copy new s_l23Copy_ct _ $1 ?_ | %1 | obtain ⟨l#, rfl, o#⟩ := o# ;; have r# := Gt.owrd _ o# ;; obtain ⟨l0x#, b1x#, c1x#, b4x#, c4x#, rfl, h0x#, h1x#, w2x#, w3x#, h4x#⟩ := gCell_rd.1 r# ;; obtain ⟨b1_0x#, c1_0x#, b2_0x#, c2_0x#, b3_0x#, c3_0x#, rfl, h1_0x#, h2_0x#, h3_0x#⟩ := gQuery_rd.1 h0x#
theorem s_l23Copy_ct (l : List Value) (x : Cell) (hx : gCell.sz x ≤ 1048576) :
    Ct Tryz.prog 198 [.agg ⟨l⟩] [] (fun H => gCell.rd H l x) (fun v A => ∃ l, v = .agg ⟨l⟩ ∧ gCell.ow l x A) := by
  refine Ct.intro0 G_ok Tryz.func198 rfl rfl rfl fun E H hp => ?_
  obtain ⟨l0p, b1p, c1p, b4p, c4p, rfl, h0p, h1p, w2p, w3p, h4p⟩ := gCell_rd.1 hp
  obtain ⟨b1_0p, c1_0p, b2_0p, c2_0p, b3_0p, c3_0p, rfl, h1_0p, h2_0p, h3_0p⟩ := gQuery_rd.1 h0p
  have ez := gCell_sz (x)
  have e0z := gQuery_sz (x.query)
  have e0n1 := len_szL gS (x.query.out)
  have e0n2 := len_szL gAtom (x.query.atoms)
  have e0n3 := len_szL gFilter (x.query.filters)
  have en1 := len_szL gI (x.shares)
  have en4 := len_szL gGot (x.gots)
  have hq := szL_eq gGot (x.gots)
  refine VCnew.intro fun x0 => ?_
  refine VCnew.intro fun x1 => ?_
  refine draw_joinK (α := (Nat) × (Option Addr) × (Nat) × (Option Addr) × (Nat) × (Option Addr) × (Nat) × (Hp) × (Option Addr) × (Nat) × (Hp)) [5, 6, 7, 8, 9, 10, 11, 12, 13, 14, 15, 16, 3] (fun z => [(3, .p 2 0)]) (fun z => [⟨x0, [.bool x.query.each, .slice b1_0p x.query.out.length c1_0p, .slice b2_0p x.query.atoms.length c2_0p, .slice b3_0p x.query.filters.length c3_0p, .slice b1p x.shares.length c1p, .int .i64 x.at', .int .i64 x.n, .slice b4p x.gots.length c4p], 59⟩, ⟨x1, [.bool false, .slice none 0 0, .slice none 0 0, .slice none 0 0, .slice none 0 0, .int .i64 0, .int .i64 0, .slice none 0 0], 59⟩, ⟨z.1, [.bool x.query.each, .slice z.2.1 x.query.out.length z.2.2.1, .slice z.2.2.2.1 x.query.atoms.length z.2.2.2.2.1, .slice z.2.2.2.2.2.1 x.query.filters.length z.2.2.2.2.2.2.1, .slice z.2.2.2.2.2.2.2.2.1 x.shares.length z.2.2.2.2.2.2.2.2.2.1, .int .i64 x.at', .int .i64 x.n, .slice none 0 0], 59⟩]) (fun z => [z.2.2.2.2.2.2.2.1 ++ z.2.2.2.2.2.2.2.2.2.2, H]) (fun z => gQuery.ow [.bool x.query.each, .slice z.2.1 x.query.out.length z.2.2.1, .slice z.2.2.2.1 x.query.atoms.length z.2.2.2.2.1, .slice z.2.2.2.2.2.1 x.query.filters.length z.2.2.2.2.2.2.1] x.query z.2.2.2.2.2.2.2.1 ∧ (gSl 3 gI).ow [.slice z.2.2.2.2.2.2.2.2.1 x.shares.length z.2.2.2.2.2.2.2.2.2.1] x.shares z.2.2.2.2.2.2.2.2.2.2) ?_ ?_
  ·
    refine draw G_ok mixed (some 13) (.q 0 (.q 1 (.q 4 (.q 5 (.q 7 (.q 8 (.q 9 (.q 10 (.hd (.alt 2 (.hd (.alt 3 (.hd (.alt 6 (.q 11 (.f 12 (.tl 13 (.nil)))) (.alt 12 (.f 6 (.q 11 (.tl 13 (.nil)))) (.nil)))) (.alt 12 (.f 3 (.f 6 (.q 11 (.tl 13 (.nil))))) (.nil)))) (.alt 3 (.hd (.alt 2 (.hd (.alt 6 (.q 11 (.f 12 (.tl 13 (.nil)))) (.alt 12 (.f 6 (.q 11 (.tl 13 (.nil)))) (.nil)))) (.alt 12 (.f 2 (.f 6 (.q 11 (.tl 13 (.nil))))) (.nil)))) (.alt 12 (.hd (.alt 2 (.f 3 (.f 6 (.q 11 (.tl 13 (.nil))))) (.alt 3 (.f 2 (.f 6 (.q 11 (.tl 13 (.nil))))) (.nil)))) (.nil))))))))))))) (by decide +kernel) ?_
    refine VC.intro ?_ ?_
    ·
      refine call_new (s_l08Copy_ct _ (x.query) ?_) (Rp.mono _ (mem_at 0 rfl) h0p) ?_
      · omega
      rintro v2 A2 o2
      obtain ⟨l2, rfl, o2⟩ := o2
      have r2 := Gt.owrd _ o2
      obtain ⟨b1x2, c1x2, b2x2, c2x2, b3x2, c3x2, rfl, h1x2, h2x2, h3x2⟩ := gQuery_rd.1 r2
      refine VC.intro ?_ ?_
      · exact keep_new
      refine VC.intro ?_ ?_
      ·
        refine VCnew.intro fun x3 => ?_
        refine VC.intro ?_ ?_
        · exact keep_sub (by simp) (by simp)
        refine VC.intro ?_ ?_
        ·
          refine append_allN (g := gI) (T := (3 : TypeId)) G_ok (by repeat (first | exact fl_plain | apply plain_iso | apply plain_pair)) [] [[(x3, Obj.cells { toList := zeros (0 : Nat) [Value.int IntKind.i64 (0 : Int)] } (3 : TypeId))], A2, H] 2 ?_ (sl_nil _ _ _) rfl h1p rfl rfl rfl rfl rfl rfl rfl rfl ?_ fun b4 c4 A4 o4 => ?_
          · exact .refl _
          · simp; omega
          refine VC.intro ?_ ?_
          · exact keep_sub (by simp) (by simp)
          refine VCnew.intro fun x5 => ?_
          refine VC.intro ?_ ?_
          · exact keep_sub (by simp) (by simp)
          apply join_stepI (_, _, _, _, _, _, _, _, _, _, _)
          · repeat' (first | exact trivial | refine ⟨⟨_, rfl, by first | rfl | exact inc_eq _ (by omega) | (refine sl_eq ?_; simp; done) | (refine sl_eq ?_; simp only [List.length_append, List.length_take, List.length_cons, List.length_nil]; omega), by first | exact trivial | simp [SV.ok]⟩, ?_⟩)
          · exact ⟨rfl, rfl, rfl, trivial⟩
          · try dsimp only
            exact ⟨by assumption, by assumption⟩
          · exact .le fun a => by (try simp only [setR, List.cons_append, List.nil_append]); simp only [List.flatten_append, List.flatten_cons, List.flatten_nil, List.count_append, List.count_nil, List.append_nil, List.nil_append]; omega
        ·
          refine VC.intro ?_ ?_
          ·
            refine VCnew.intro fun x6 => ?_
            refine VC.intro ?_ ?_
            · exact keep_sub (by simp) (by simp)
            refine append_allN (g := gI) (T := (3 : TypeId)) G_ok (by repeat (first | exact fl_plain | apply plain_iso | apply plain_pair)) [] [[(x3, Obj.cells { toList := zeros (0 : Nat) [Value.int IntKind.i64 (0 : Int)] } (3 : TypeId))], A2, H] 2 ?_ (sl_nil _ _ _) rfl h1p rfl rfl rfl rfl rfl rfl rfl rfl ?_ fun b7 c7 A7 o7 => ?_
            · exact .refl _
            · simp; omega
            refine VC.intro ?_ ?_
            · exact keep_sub (by simp) (by simp)
            apply join_stepI (_, _, _, _, _, _, _, _, _, _, _)
            · repeat' (first | exact trivial | refine ⟨⟨_, rfl, by first | rfl | exact inc_eq _ (by omega) | (refine sl_eq ?_; simp; done) | (refine sl_eq ?_; simp only [List.length_append, List.length_take, List.length_cons, List.length_nil]; omega), by first | exact trivial | simp [SV.ok]⟩, ?_⟩)
            · exact ⟨rfl, rfl, rfl, trivial⟩
            · try dsimp only
              exact ⟨by assumption, by assumption⟩
            · exact .le fun a => by (try simp only [setR, List.cons_append, List.nil_append]); simp only [List.flatten_append, List.flatten_cons, List.flatten_nil, List.count_append, List.count_nil, List.append_nil, List.nil_append]; omega
          ·
            exact trivial
      ·
        refine VC.intro ?_ ?_
        ·
          refine VCnew.intro fun x8 => ?_
          refine VC.intro ?_ ?_
          · exact keep_sub (by simp) (by simp)
          refine VCnew.intro fun x9 => ?_
          refine VC.intro ?_ ?_
          · exact keep_sub (by simp) (by simp)
          refine append_allN (g := gI) (T := (3 : TypeId)) G_ok (by repeat (first | exact fl_plain | apply plain_iso | apply plain_pair)) [] [[(x9, Obj.cells { toList := zeros (0 : Nat) [Value.int IntKind.i64 (0 : Int)] } (3 : TypeId))], A2, H] 2 ?_ (sl_nil _ _ _) rfl h1p rfl rfl rfl rfl rfl rfl rfl rfl ?_ fun b10 c10 A10 o10 => ?_
          · exact .refl _
          · simp; omega
          refine VC.intro ?_ ?_
          · exact keep_sub (by simp) (by simp)
          apply join_stepI (_, _, _, _, _, _, _, _, _, _, _)
          · repeat' (first | exact trivial | refine ⟨⟨_, rfl, by first | rfl | exact inc_eq _ (by omega) | (refine sl_eq ?_; simp; done) | (refine sl_eq ?_; simp only [List.length_append, List.length_take, List.length_cons, List.length_nil]; omega), by first | exact trivial | simp [SV.ok]⟩, ?_⟩)
          · exact ⟨rfl, rfl, rfl, trivial⟩
          · try dsimp only
            exact ⟨by assumption, by assumption⟩
          · exact .le fun a => by (try simp only [setR, List.cons_append, List.nil_append]); simp only [List.flatten_append, List.flatten_cons, List.flatten_nil, List.count_append, List.count_nil, List.append_nil, List.nil_append]; omega
        ·
          exact trivial
    ·
      refine VC.intro ?_ ?_
      ·
        refine VCnew.intro fun x11 => ?_
        refine VC.intro ?_ ?_
        · exact keep_new
        refine VC.intro ?_ ?_
        ·
          refine call_new (s_l08Copy_ct _ (x.query) ?_) (Rp.mono _ (mem_at 1 rfl) h0p) ?_
          · omega
          rintro v12 A12 o12
          obtain ⟨l12, rfl, o12⟩ := o12
          have r12 := Gt.owrd _ o12
          obtain ⟨b1x12, c1x12, b2x12, c2x12, b3x12, c3x12, rfl, h1x12, h2x12, h3x12⟩ := gQuery_rd.1 r12
          refine VC.intro ?_ ?_
          · exact keep_sub (by simp) (by simp)
          refine VC.intro ?_ ?_
          ·
            refine append_allN (g := gI) (T := (3 : TypeId)) G_ok (by repeat (first | exact fl_plain | apply plain_iso | apply plain_pair)) [] [A12, [(x11, Obj.cells { toList := zeros (0 : Nat) [Value.int IntKind.i64 (0 : Int)] } (3 : TypeId))], H] 2 ?_ (sl_nil _ _ _) rfl h1p rfl rfl rfl rfl rfl rfl rfl rfl ?_ fun b13 c13 A13 o13 => ?_
            · exact .refl _
            · simp; omega
            refine VC.intro ?_ ?_
            · exact keep_sub (by simp) (by simp)
            refine VCnew.intro fun x14 => ?_
            refine VC.intro ?_ ?_
            · exact keep_sub (by simp) (by simp)
            apply join_stepI (_, _, _, _, _, _, _, _, _, _, _)
            · repeat' (first | exact trivial | refine ⟨⟨_, rfl, by first | rfl | exact inc_eq _ (by omega) | (refine sl_eq ?_; simp; done) | (refine sl_eq ?_; simp only [List.length_append, List.length_take, List.length_cons, List.length_nil]; omega), by first | exact trivial | simp [SV.ok]⟩, ?_⟩)
            · exact ⟨rfl, rfl, rfl, trivial⟩
            · try dsimp only
              exact ⟨by assumption, by assumption⟩
            · exact .le fun a => by (try simp only [setR, List.cons_append, List.nil_append]); simp only [List.flatten_append, List.flatten_cons, List.flatten_nil, List.count_append, List.count_nil, List.append_nil, List.nil_append]; omega
          ·
            refine VC.intro ?_ ?_
            ·
              refine VCnew.intro fun x15 => ?_
              refine VC.intro ?_ ?_
              · exact keep_sub (by simp) (by simp)
              refine append_allN (g := gI) (T := (3 : TypeId)) G_ok (by repeat (first | exact fl_plain | apply plain_iso | apply plain_pair)) [] [A12, [(x11, Obj.cells { toList := zeros (0 : Nat) [Value.int IntKind.i64 (0 : Int)] } (3 : TypeId))], H] 2 ?_ (sl_nil _ _ _) rfl h1p rfl rfl rfl rfl rfl rfl rfl rfl ?_ fun b16 c16 A16 o16 => ?_
              · exact .refl _
              · simp; omega
              refine VC.intro ?_ ?_
              · exact keep_sub (by simp) (by simp)
              apply join_stepI (_, _, _, _, _, _, _, _, _, _, _)
              · repeat' (first | exact trivial | refine ⟨⟨_, rfl, by first | rfl | exact inc_eq _ (by omega) | (refine sl_eq ?_; simp; done) | (refine sl_eq ?_; simp only [List.length_append, List.length_take, List.length_cons, List.length_nil]; omega), by first | exact trivial | simp [SV.ok]⟩, ?_⟩)
              · exact ⟨rfl, rfl, rfl, trivial⟩
              · try dsimp only
                exact ⟨by assumption, by assumption⟩
              · exact .le fun a => by (try simp only [setR, List.cons_append, List.nil_append]); simp only [List.flatten_append, List.flatten_cons, List.flatten_nil, List.count_append, List.count_nil, List.append_nil, List.nil_append]; omega
            ·
              exact trivial
        ·
          refine VC.intro ?_ ?_
          ·
            refine VCnew.intro fun x17 => ?_
            refine VC.intro ?_ ?_
            · exact keep_sub (by simp) (by simp)
            refine call_new (s_l08Copy_ct _ (x.query) ?_) (Rp.mono _ (mem_at 1 rfl) h0p) ?_
            · omega
            rintro v18 A18 o18
            obtain ⟨l18, rfl, o18⟩ := o18
            have r18 := Gt.owrd _ o18
            obtain ⟨b1x18, c1x18, b2x18, c2x18, b3x18, c3x18, rfl, h1x18, h2x18, h3x18⟩ := gQuery_rd.1 r18
            refine VC.intro ?_ ?_
            · exact keep_sub (by simp) (by simp)
            refine append_allN (g := gI) (T := (3 : TypeId)) G_ok (by repeat (first | exact fl_plain | apply plain_iso | apply plain_pair)) [] [A18, [(x11, Obj.cells { toList := zeros (0 : Nat) [Value.int IntKind.i64 (0 : Int)] } (3 : TypeId))], H] 2 ?_ (sl_nil _ _ _) rfl h1p rfl rfl rfl rfl rfl rfl rfl rfl ?_ fun b19 c19 A19 o19 => ?_
            · exact .refl _
            · simp; omega
            refine VC.intro ?_ ?_
            · exact keep_sub (by simp) (by simp)
            apply join_stepI (_, _, _, _, _, _, _, _, _, _, _)
            · repeat' (first | exact trivial | refine ⟨⟨_, rfl, by first | rfl | exact inc_eq _ (by omega) | (refine sl_eq ?_; simp; done) | (refine sl_eq ?_; simp only [List.length_append, List.length_take, List.length_cons, List.length_nil]; omega), by first | exact trivial | simp [SV.ok]⟩, ?_⟩)
            · exact ⟨rfl, rfl, rfl, trivial⟩
            · try dsimp only
              exact ⟨by assumption, by assumption⟩
            · exact .le fun a => by (try simp only [setR, List.cons_append, List.nil_append]); simp only [List.flatten_append, List.flatten_cons, List.flatten_nil, List.count_append, List.count_nil, List.append_nil, List.nil_append]; omega
          ·
            exact trivial
      ·
        refine VC.intro ?_ ?_
        ·
          refine VCnew.intro fun x20 => ?_
          refine VC.intro ?_ ?_
          · exact keep_sub (by simp) (by simp)
          refine VC.intro ?_ ?_
          ·
            refine call_new (s_l08Copy_ct _ (x.query) ?_) (Rp.mono _ (mem_at 0 rfl) h0p) ?_
            · omega
            rintro v21 A21 o21
            obtain ⟨l21, rfl, o21⟩ := o21
            have r21 := Gt.owrd _ o21
            obtain ⟨b1x21, c1x21, b2x21, c2x21, b3x21, c3x21, rfl, h1x21, h2x21, h3x21⟩ := gQuery_rd.1 r21
            refine VC.intro ?_ ?_
            · exact keep_sub (by simp) (by simp)
            refine VCnew.intro fun x22 => ?_
            refine VC.intro ?_ ?_
            · exact keep_sub (by simp) (by simp)
            refine append_allN (g := gI) (T := (3 : TypeId)) G_ok (by repeat (first | exact fl_plain | apply plain_iso | apply plain_pair)) [] [[(x22, Obj.cells { toList := zeros (0 : Nat) [Value.int IntKind.i64 (0 : Int)] } (3 : TypeId))], A21, H] 2 ?_ (sl_nil _ _ _) rfl h1p rfl rfl rfl rfl rfl rfl rfl rfl ?_ fun b23 c23 A23 o23 => ?_
            · exact .refl _
            · simp; omega
            refine VC.intro ?_ ?_
            · exact keep_sub (by simp) (by simp)
            apply join_stepI (_, _, _, _, _, _, _, _, _, _, _)
            · repeat' (first | exact trivial | refine ⟨⟨_, rfl, by first | rfl | exact inc_eq _ (by omega) | (refine sl_eq ?_; simp; done) | (refine sl_eq ?_; simp only [List.length_append, List.length_take, List.length_cons, List.length_nil]; omega), by first | exact trivial | simp [SV.ok]⟩, ?_⟩)
            · exact ⟨rfl, rfl, rfl, trivial⟩
            · try dsimp only
              exact ⟨by assumption, by assumption⟩
            · exact .le fun a => by (try simp only [setR, List.cons_append, List.nil_append]); simp only [List.flatten_append, List.flatten_cons, List.flatten_nil, List.count_append, List.count_nil, List.append_nil, List.nil_append]; omega
          ·
            refine VC.intro ?_ ?_
            ·
              refine VCnew.intro fun x24 => ?_
              refine VC.intro ?_ ?_
              · exact keep_sub (by simp) (by simp)
              refine call_new (s_l08Copy_ct _ (x.query) ?_) (Rp.mono _ (mem_at 1 rfl) h0p) ?_
              · omega
              rintro v25 A25 o25
              obtain ⟨l25, rfl, o25⟩ := o25
              have r25 := Gt.owrd _ o25
              obtain ⟨b1x25, c1x25, b2x25, c2x25, b3x25, c3x25, rfl, h1x25, h2x25, h3x25⟩ := gQuery_rd.1 r25
              refine VC.intro ?_ ?_
              · exact keep_sub (by simp) (by simp)
              refine append_allN (g := gI) (T := (3 : TypeId)) G_ok (by repeat (first | exact fl_plain | apply plain_iso | apply plain_pair)) [] [A25, [(x24, Obj.cells { toList := zeros (0 : Nat) [Value.int IntKind.i64 (0 : Int)] } (3 : TypeId))], H] 2 ?_ (sl_nil _ _ _) rfl h1p rfl rfl rfl rfl rfl rfl rfl rfl ?_ fun b26 c26 A26 o26 => ?_
              · exact .refl _
              · simp; omega
              refine VC.intro ?_ ?_
              · exact keep_sub (by simp) (by simp)
              apply join_stepI (_, _, _, _, _, _, _, _, _, _, _)
              · repeat' (first | exact trivial | refine ⟨⟨_, rfl, by first | rfl | exact inc_eq _ (by omega) | (refine sl_eq ?_; simp; done) | (refine sl_eq ?_; simp only [List.length_append, List.length_take, List.length_cons, List.length_nil]; omega), by first | exact trivial | simp [SV.ok]⟩, ?_⟩)
              · exact ⟨rfl, rfl, rfl, trivial⟩
              · try dsimp only
                exact ⟨by assumption, by assumption⟩
              · exact .le fun a => by (try simp only [setR, List.cons_append, List.nil_append]); simp only [List.flatten_append, List.flatten_cons, List.flatten_nil, List.count_append, List.count_nil, List.append_nil, List.nil_append]; omega
            ·
              exact trivial
        ·
          exact trivial
  rintro ⟨y, bq1, cq1, bq2, cq2, bq3, cq3, AQ, bs, cs, AS⟩ hI
  obtain ⟨oQ, oS⟩ : gQuery.ow [.bool x.query.each, .slice bq1 x.query.out.length cq1, .slice bq2 x.query.atoms.length cq2, .slice bq3 x.query.filters.length cq3] x.query AQ ∧ (gSl 3 gI).ow [.slice bs x.shares.length cs] x.shares AS := hI
  try dsimp only
  apply loop_mod (α := (Nat) × (Hp) × (Option Addr) × (Nat)) G_ok [17, 18, 19, 20, 21, 24, 25, 26, 27, 28, 29, 30, 31, 32, 33, 34, 35, 36, 37, 38, 39, 40, 41, 42, 43, 44, 45, 46, 47, 48, 22, 23, 4] (fun z => [(4, .v (.int .i64 z.1))]) (fun z => [⟨x0, [Value.bool x.query.each, Value.slice b1_0p x.query.out.length c1_0p, Value.slice b2_0p x.query.atoms.length c2_0p, Value.slice b3_0p x.query.filters.length c3_0p, Value.slice b1p x.shares.length c1p, Value.int IntKind.i64 x.at', Value.int IntKind.i64 x.n, Value.slice b4p x.gots.length c4p], (59 : TypeId)⟩, ⟨x1, [Value.bool false, Value.slice none (0 : Nat) (0 : Nat), Value.slice none (0 : Nat) (0 : Nat), Value.slice none (0 : Nat) (0 : Nat), Value.slice none (0 : Nat) (0 : Nat), Value.int IntKind.i64 (0 : Int), Value.int IntKind.i64 (0 : Int), Value.slice none (0 : Nat) (0 : Nat)], (59 : TypeId)⟩, ⟨y, [Value.bool x.query.each, Value.slice bq1 x.query.out.length cq1, Value.slice bq2 x.query.atoms.length cq2, Value.slice bq3 x.query.filters.length cq3, Value.slice bs x.shares.length cs, Value.int IntKind.i64 x.at', Value.int IntKind.i64 x.n, .slice z.2.2.1 (x.gots.take z.1).length z.2.2.2], (59 : TypeId)⟩]) (fun z => [z.2.1, AQ ++ AS, H]) (fun z => x.gots.length - z.1) (fun z => z.1 ≤ x.gots.length ∧ (gSl 232 gGot).ow [.slice z.2.2.1 (x.gots.take z.1).length z.2.2.2] (x.gots.take z.1) z.2.1) ((0, [], none, 0))
  · repeat' (first | exact trivial | refine ⟨⟨_, rfl, by first | rfl | exact inc_eq _ (by omega) | (refine sl_eq ?_; simp; done) | (refine sl_eq ?_; simp only [List.length_append, List.length_take, List.length_cons, List.length_nil]; omega), by first | exact trivial | simp [SV.ok]⟩, ?_⟩)
  · exact ⟨rfl, rfl, rfl, trivial⟩
  · try dsimp only
    exact ⟨by omega, sl_nil _ _ _⟩
  · exact .refl _
  rintro ⟨k, A, lb, lc⟩ hI
  obtain ⟨hk, oA⟩ : k ≤ x.gots.length ∧ (gSl 232 gGot).ow [.slice lb (x.gots.take k).length lc] (x.gots.take k) A := hI
  try dsimp only
  refine VCsplit.intro (fun q27 => ?_) (fun q27 => ?_)
  ·
    simp at q27
    refine draw G_ok mixed (some 23) (.q 0 (.q 1 (.q 2 (.q 3 (.q 4 (.q 5 (.q 6 (.q 7 (.q 8 (.q 9 (.q 10 (.q 11 (.q 12 (.q 13 (.q 14 (.q 15 (.q 16 (.q 17 (.q 18 (.q 19 (.f 20 (.q 21 (.f 22 (.tl 23 (.f 24 (.f 25 (.nil))))))))))))))))))))))))))) (by decide +kernel) ?_
    refine idx_rd h4p ?_ ?_ fun b28 o28 hb28 => ?_
    · omega
    · omega
    refine load_partN default (k) 0 rfl h4p ?_ ?_ hb28 rfl (by decide) (mem_at 2 rfl) fun l29 hl29 => ?_
    · omega
    · omega
    obtain ⟨l2x29, rfl, w0x29, w1x29, h2x29⟩ := gGot_rd.1 hl29 ; obtain ⟨b0_2x29, c0_2x29, rfl, h0_2x29⟩ := gBag_rd.1 h2x29
    refine idx_rd h4p ?_ ?_ fun b30 o30 hb30 => ?_
    · omega
    · omega
    refine load_partN default (k) 1 rfl h4p ?_ ?_ hb30 rfl (by decide) (mem_at 2 rfl) fun l31 hl31 => ?_
    · omega
    · omega
    obtain ⟨l2x31, rfl, w0x31, w1x31, h2x31⟩ := gGot_rd.1 hl31 ; obtain ⟨b0_2x31, c0_2x31, rfl, h0_2x31⟩ := gBag_rd.1 h2x31
    refine idx_rd h4p ?_ ?_ fun b32 o32 hb32 => ?_
    · omega
    · omega
    refine load_partN default (k) 2 rfl h4p ?_ ?_ hb32 rfl (by decide) (mem_at 2 rfl) fun l33 hl33 => ?_
    · omega
    · omega
    obtain ⟨l2x33, rfl, w0x33, w1x33, h2x33⟩ := gGot_rd.1 hl33 ; obtain ⟨b0_2x33, c0_2x33, rfl, h0_2x33⟩ := gBag_rd.1 h2x33
    refine call_new (s_l03Copy_ct _ ((x.gots[k]?.getD default).bag) ?_) (Rp.mono _ (mem_at 2 rfl) h2x33) ?_
    · (have hs := szE_step gGot x.gots k default (by omega); have hs2 := szE_le gGot x.gots (k + 1); have hs3 := gGot_sz (x.gots[k]?.getD default); omega)
    rintro v34 A34 o34
    obtain ⟨l34, rfl, o34⟩ := o34
    have r34 := Gt.owrd _ o34
    obtain ⟨b0x34, c0x34, rfl, h0x34⟩ := gBag_rd.1 r34
    refine VC.intro ?_ ?_
    · exact keep_new
    refine VCnew.intro fun x35 => ?_
    refine VC.intro ?_ ?_
    · exact keep_new
    refine gappend1 (g := gGot) (T := (232 : TypeId)) G_ok A _ [AQ ++ AS, H] ?_ oA (gGot_ow.2 ⟨_, _, rfl, .refl _, by assumption, by assumption, by assumption⟩) (List.mem_of_getElem? (i := 0) rfl) rfl rfl rfl rfl rfl rfl rfl rfl ?_ fun b36 c36 A36 o36 => ?_
    · exact .le fun a => by (try simp only [setR, List.cons_append, List.nil_append]); simp only [List.flatten_append, List.flatten_cons, List.flatten_nil, List.count_append, List.count_nil, List.append_nil, List.nil_append]; omega
    · simp; omega
    apply loop_stepA (k + 1, _, _, _)
    · exact .refl _
    · repeat' (first | exact trivial | refine ⟨⟨_, rfl, by first | rfl | exact inc_eq _ (by omega) | (refine sl_eq ?_; simp; done) | (refine sl_eq ?_; simp only [List.length_append, List.length_take, List.length_cons, List.length_nil]; omega), by first | exact trivial | simp [SV.ok]⟩, ?_⟩)
    · ((rw [tk1 x.gots k default (by omega)]); repeat' (first | exact trivial | refine ⟨by first | rfl | simp [Blk.ent], ?_⟩))
    · try dsimp only
      exact ⟨by omega, by (rw [tk1 x.gots k default (by omega)]; assumption)⟩
    · try dsimp only
      omega
  ·
    simp at q27
    (have hke : k = x.gots.length := (by omega); simp only [List.take_length, hke] at oA ⊢; exact ⟨_, ⟨_, rfl, gCell_ow.2 ⟨_, _, _, _, _, _, _, _, rfl, .refl _, by assumption, by assumption, by assumption, by assumption, by assumption⟩⟩, (.le fun a => by (try simp only [setR, List.cons_append, List.nil_append]); simp only [List.flatten_append, List.flatten_cons, List.flatten_nil, List.count_append, List.count_nil, List.append_nil, List.nil_append]; omega)⟩)

--@ct impl.copyLetter new copyLetter_ct _ $1 ?_ | %1 | obtain ⟨l#, rfl, o#⟩ := o# ;; have r# := Gt.owrd _ o# ;; obtain ⟨b4x#, c4x#, rfl, w0x#, w1x#, w2x#, h4x#, w5x#⟩ := gLetter_rd.1 r#
theorem copyLetter_ct (l : List Value) (x : Letter) (hx : gLetter.sz x ≤ 1048576) :
    Ct Tryz.prog 243 [.agg ⟨l⟩] [] (fun H => gLetter.rd H l x) (fun v A => ∃ l, v = .agg ⟨l⟩ ∧ gLetter.ow l x A) := by
  refine Ct.intro0 G_ok Tryz.func243 rfl rfl rfl fun E H hp => ?_
  obtain ⟨b4p, c4p, rfl, w0p, w1p, w2p, h4p, w5p⟩ := gLetter_rd.1 hp
  have ez := gLetter_sz (x)
  have en4 := len_szL gWalk (x.walks)
  refine VCnew.intro fun x0 => ?_
  refine VCnew.intro fun x1 => ?_
  refine call_new (cloneWalk_ct _ _ _ (x.walks) ?_) (Rp.mono _ (mem_at 0 rfl) h4p) ?_
  · omega
  rintro v2 A2 o2
  obtain ⟨b2, c2, rfl, o2⟩ := o2
  exact ⟨_, ⟨_, rfl, gLetter_ow.2 ⟨_, _, _, rfl, .refl _, by assumption, by assumption, by assumption, by assumption, by assumption⟩⟩, (.le fun a => by (try simp only [setR, List.cons_append, List.nil_append]); simp only [List.flatten_append, List.flatten_cons, List.flatten_nil, List.count_append, List.count_nil, List.append_nil, List.nil_append]; omega)⟩

--@ct impl.copyMails new copyMails_ct _ _ _ $1 ?_ | %1 | obtain ⟨b#, c#, rfl, o#⟩ := o#
theorem copyMails_ct (b : Option Addr) (m c : Nat) (xs : List Mail) (hx : szL gMail xs ≤ 1048576) :
    Ct Tryz.prog 210 [.slice b m c] [] (fun H => (gSl 122 gMail).rd H [.slice b m c] xs) (fun v A => ∃ b c, v = .slice b xs.length c ∧ (gSl 122 gMail).ow [.slice b xs.length c] xs A) := by
  refine Ct.intro0 G_ok Tryz.func210 rfl rfl rfl fun E H hp => ?_
  obtain ⟨rfl, hcl, hl⟩ := sl_len hp
  have hls := len_szL gMail xs
  have hq := szL_eq gMail xs
  apply loop_mod (α := (Nat) × (Hp) × (Option Addr) × (Nat)) G_ok [9, 10, 11, 5, 12, 13, 14, 15, 16, 17, 18, 19, 20, 3, 21, 8] (fun z => [(8, .v (.int .i64 z.1)), (3, .v (.slice z.2.2.1 (xs.take z.1).length z.2.2.2))]) (fun z => []) (fun z => [z.2.1, H]) (fun z => xs.length - z.1) (fun z => z.1 ≤ xs.length ∧ (gSl 122 gMail).ow [.slice z.2.2.1 (xs.take z.1).length z.2.2.2] (xs.take z.1) z.2.1) ((0, [], none, 0))
  · repeat' (first | exact trivial | refine ⟨⟨_, rfl, by first | rfl | exact inc_eq _ (by omega) | (refine sl_eq ?_; simp; done) | (refine sl_eq ?_; simp only [List.length_append, List.length_take, List.length_cons, List.length_nil]; omega), by first | exact trivial | simp [SV.ok]⟩, ?_⟩)
  · exact trivial
  · try dsimp only
    exact ⟨by omega, sl_nil _ _ _⟩
  · exact .refl _
  rintro ⟨k, A, lb, lc⟩ hI
  obtain ⟨hk, oA⟩ : k ≤ xs.length ∧ (gSl 122 gMail).ow [.slice lb (xs.take k).length lc] (xs.take k) A := hI
  try dsimp only
  refine VCsplit.intro (fun q0 => ?_) (fun q0 => ?_)
  ·
    simp at q0
    have hs := szE_step gMail xs k default (by omega)
    have hs2 := szE_le gMail xs (k + 1)
    have hs3 := gMail_sz (xs[k]?.getD default)
    have hs4 := gLetter_sz (xs[k]?.getD default).letter
    have hs5 := len_szL gWalk (xs[k]?.getD default).letter.walks
    refine idx_rd hp ?_ ?_ fun b1 o1 hb1 => ?_
    · omega
    · omega
    refine load_allN default (k) rfl hp ?_ ?_ hb1 rfl (mem_at 1 rfl) fun l2 hl2 => ?_
    · omega
    · omega
    obtain ⟨l1x2, rfl, w0x2, h1x2⟩ := gMail_rd.1 hl2 ; obtain ⟨b4_1x2, c4_1x2, rfl, w0_1x2, w1_1x2, w2_1x2, h4_1x2, w5_1x2⟩ := gLetter_rd.1 h1x2
    refine VCnew.intro fun x3 => ?_
    refine draw G_ok mixed (some 8) (.q 0 (.q 1 (.q 2 (.q 3 (.q 4 (.f 5 (.q 6 (.f 7 (.tl 8 (.f 9 (.nil))))))))))) (by decide +kernel) ?_
    refine call_new (copyLetter_ct _ ((xs[k]?.getD default).letter) ?_) (Rp.mono _ (mem_at 1 rfl) h1x2) ?_
    · omega
    rintro v4 A4 o4
    obtain ⟨l4, rfl, o4⟩ := o4
    have r4 := Gt.owrd _ o4
    obtain ⟨b4x4, c4x4, rfl, w0x4, w1x4, w2x4, h4x4, w5x4⟩ := gLetter_rd.1 r4
    refine VC.intro ?_ ?_
    · exact keep_new
    refine VCnew.intro fun x5 => ?_
    refine VC.intro ?_ ?_
    · exact keep_new
    refine gappend1 (g := gMail) (T := (122 : TypeId)) G_ok A _ [H] ?_ oA (gMail_ow.2 ⟨_, _, rfl, .refl _, by assumption, by assumption⟩) (List.mem_of_getElem? (i := 0) rfl) rfl rfl rfl rfl rfl rfl rfl rfl ?_ fun b6 c6 A6 o6 => ?_
    · exact .le fun a => by (try simp only [setR, List.cons_append, List.nil_append]); simp only [List.flatten_append, List.flatten_cons, List.flatten_nil, List.count_append, List.count_nil, List.append_nil, List.nil_append]; omega
    · simp; omega
    apply loop_stepA (k + 1, _, _, _)
    · exact .refl _
    · repeat' (first | exact trivial | refine ⟨⟨_, rfl, by first | rfl | exact inc_eq _ (by omega) | (refine sl_eq ?_; simp; done) | (refine sl_eq ?_; simp only [List.length_append, List.length_take, List.length_cons, List.length_nil]; omega), by first | exact trivial | simp [SV.ok]⟩, ?_⟩)
    · exact trivial
    · try dsimp only
      exact ⟨by omega, by (rw [tk1 xs k default (by omega)]; assumption)⟩
    · try dsimp only
      omega
  ·
    simp at q0
    obtain rfl : k = xs.length := by omega
    (simp only [List.take_length] at oA ⊢; exact ⟨_, ⟨_, _, rfl, oA⟩, (.le fun a => by (try simp only [setR, List.cons_append, List.nil_append]); simp only [List.flatten_append, List.flatten_cons, List.flatten_nil, List.count_append, List.count_nil, List.append_nil, List.nil_append]; omega)⟩)

--@ct spec.l24Mails new s_l24Mails_ct _ _ _ $1 ?_ | %1 | obtain ⟨b#, c#, rfl, o#⟩ := o#
theorem s_l24Mails_ct (b : Option Addr) (m c : Nat) (xs : List Mail) (hx : szL gMail xs ≤ 1048576) :
    Ct Tryz.prog 199 [.slice b m c] [] (fun H => (gSl 122 gMail).rd H [.slice b m c] xs) (fun v A => ∃ b c, v = .slice b xs.length c ∧ (gSl 122 gMail).ow [.slice b xs.length c] xs A) := by
  refine Ct.intro0 G_ok Tryz.func199 rfl rfl rfl fun E H hp => ?_
  obtain ⟨rfl, hcl, hl⟩ := sl_len hp
  have hls := len_szL gMail xs
  have hq := szL_eq gMail xs
  refine VCnew.intro fun x0 => ?_
  apply loop_mod (α := (Nat) × (Hp) × (Option Addr) × (Nat)) G_ok [7, 8, 9, 10, 13, 14, 15, 16, 5, 17, 18, 19, 20, 21, 22, 23, 24, 25, 26, 27, 3, 11, 12, 4] (fun z => [(4, .v (.int .i64 z.1)), (3, .v (.slice z.2.2.1 (xs.take z.1).length z.2.2.2))]) (fun z => []) (fun z => [z.2.1, [(x0, Obj.cells { toList := zeros (0 : Nat) [Value.int IntKind.i64 (0 : Int), Value.int IntKind.i64 (0 : Int), Value.int IntKind.i64 (0 : Int), Value.int IntKind.i64 (0 : Int), Value.bool false, Value.slice none (0 : Nat) (0 : Nat), Value.string ByteArray.empty] } (122 : TypeId))], H]) (fun z => xs.length - z.1) (fun z => z.1 ≤ xs.length ∧ (gSl 122 gMail).ow [.slice z.2.2.1 (xs.take z.1).length z.2.2.2] (xs.take z.1) z.2.1) ((0, [], some ⟨x0, 0, none⟩, 0))
  · repeat' (first | exact trivial | refine ⟨⟨_, rfl, by first | rfl | exact inc_eq _ (by omega) | (refine sl_eq ?_; simp; done) | (refine sl_eq ?_; simp only [List.length_append, List.length_take, List.length_cons, List.length_nil]; omega), by first | exact trivial | simp [SV.ok]⟩, ?_⟩)
  · exact trivial
  · try dsimp only
    exact ⟨by omega, sl_nil _ _ _⟩
  · exact .refl _
  rintro ⟨k, A, lb, lc⟩ hI
  obtain ⟨hk, oA⟩ : k ≤ xs.length ∧ (gSl 122 gMail).ow [.slice lb (xs.take k).length lc] (xs.take k) A := hI
  try dsimp only
  refine VCsplit.intro (fun q1 => ?_) (fun q1 => ?_)
  ·
    simp at q1
    have hs := szE_step gMail xs k default (by omega)
    have hs2 := szE_le gMail xs (k + 1)
    have hs3 := gMail_sz (xs[k]?.getD default)
    have hs4 := gLetter_sz (xs[k]?.getD default).letter
    have hs5 := len_szL gWalk (xs[k]?.getD default).letter.walks
    refine idx_rd hp ?_ ?_ fun b2 o2 hb2 => ?_
    · omega
    · omega
    refine load_allN default (k) rfl hp ?_ ?_ hb2 rfl (mem_at 2 rfl) fun l3 hl3 => ?_
    · omega
    · omega
    obtain ⟨l1x3, rfl, w0x3, h1x3⟩ := gMail_rd.1 hl3 ; obtain ⟨b4_1x3, c4_1x3, rfl, w0_1x3, w1_1x3, w2_1x3, h4_1x3, w5_1x3⟩ := gLetter_rd.1 h1x3
    refine VCnew.intro fun x4 => ?_
    refine VCnew.intro fun x5 => ?_
    refine append_allN (g := gWalk) (T := (200 : TypeId)) G_ok (by repeat (first | exact fl_plain | apply plain_iso | apply plain_pair)) [] [[(x5, Obj.cells { toList := zeros (0 : Nat) [Value.int IntKind.i64 (0 : Int), Value.int IntKind.i64 (0 : Int), Value.int IntKind.i64 (0 : Int), Value.int IntKind.i64 (0 : Int)] } (200 : TypeId))], A, [(x0, Obj.cells { toList := zeros (0 : Nat) [Value.int IntKind.i64 (0 : Int), Value.int IntKind.i64 (0 : Int), Value.int IntKind.i64 (0 : Int), Value.int IntKind.i64 (0 : Int), Value.bool false, Value.slice none (0 : Nat) (0 : Nat), Value.string ByteArray.empty] } (122 : TypeId))], H] 3 ?_ (sl_nil _ _ _) rfl h4_1x3 rfl rfl rfl rfl rfl rfl rfl rfl ?_ fun b6 c6 A6 o6 => ?_
    · exact .refl _
    · simp; omega
    refine VCnew.intro fun x7 => ?_
    refine gappend1 (g := gMail) (T := (122 : TypeId)) G_ok A _ [[(x5, Obj.cells { toList := zeros (0 : Nat) [Value.int IntKind.i64 (0 : Int), Value.int IntKind.i64 (0 : Int), Value.int IntKind.i64 (0 : Int), Value.int IntKind.i64 (0 : Int)] } (200 : TypeId))], [(x0, Obj.cells { toList := zeros (0 : Nat) [Value.int IntKind.i64 (0 : Int), Value.int IntKind.i64 (0 : Int), Value.int IntKind.i64 (0 : Int), Value.int IntKind.i64 (0 : Int), Value.bool false, Value.slice none (0 : Nat) (0 : Nat), Value.string ByteArray.empty] } (122 : TypeId))], H] ?_ oA (gMail_ow.2 ⟨_, _, rfl, .refl _, by assumption, gLetter_ow.2 ⟨_, _, _, rfl, .refl _, by assumption, by assumption, by assumption, by assumption, by assumption⟩⟩) (List.mem_of_getElem? (i := 0) rfl) rfl rfl rfl rfl rfl rfl rfl rfl ?_ fun b8 c8 A8 o8 => ?_
    · exact .le fun a => by (try simp only [setR, List.cons_append, List.nil_append]); simp only [List.flatten_append, List.flatten_cons, List.flatten_nil, List.count_append, List.count_nil, List.append_nil, List.nil_append]; omega
    · simp; omega
    apply loop_stepA (k + 1, _, _, _)
    · exact .sub (by repeat (first | exact .slnil | apply List.Sublist.cons_cons | apply List.Sublist.cons))
    · repeat' (first | exact trivial | refine ⟨⟨_, rfl, by first | rfl | exact inc_eq _ (by omega) | (refine sl_eq ?_; simp; done) | (refine sl_eq ?_; simp only [List.length_append, List.length_take, List.length_cons, List.length_nil]; omega), by first | exact trivial | simp [SV.ok]⟩, ?_⟩)
    · exact trivial
    · try dsimp only
      exact ⟨by omega, by (rw [tk1 xs k default (by omega)]; assumption)⟩
    · try dsimp only
      omega
  ·
    simp at q1
    obtain rfl : k = xs.length := by omega
    (simp only [List.take_length] at oA ⊢; exact ⟨_, ⟨_, _, rfl, oA⟩, (.le fun a => by (try simp only [setR, List.cons_append, List.nil_append]); simp only [List.flatten_append, List.flatten_cons, List.flatten_nil, List.count_append, List.count_nil, List.append_nil, List.nil_append]; omega)⟩)

--@ct impl.copyWork new copyWork_ct _ $1 ?_ | %1 | obtain ⟨l#, rfl, o#⟩ := o# ;; have r# := Gt.owrd _ o# ;; obtain ⟨l1x#, b2x#, c2x#, b4x#, c4x#, l11x#, b13x#, c13x#, rfl, h1x#, h2x#, w3x#, h4x#, w5x#, w8x#, h11x#, h13x#⟩ := gWork_rd.1 r# ;; obtain ⟨b1_1x#, c1_1x#, b2_1x#, c2_1x#, b3_1x#, c3_1x#, rfl, h1_1x#, h2_1x#, h3_1x#⟩ := gQuery_rd.1 h1x# ;; obtain ⟨l0_11x#, b1_11x#, c1_11x#, b4_11x#, c4_11x#, rfl, h0_11x#, h1_11x#, w2_11x#, w3_11x#, h4_11x#⟩ := gCell_rd.1 h11x# ;; obtain ⟨b1_0_11x#, c1_0_11x#, b2_0_11x#, c2_0_11x#, b3_0_11x#, c3_0_11x#, rfl, h1_0_11x#, h2_0_11x#, h3_0_11x#⟩ := gQuery_rd.1 h0_11x#
theorem copyWork_ct (l : List Value) (x : Work) (hx : gWork.sz x ≤ 1048576) :
    Ct Tryz.prog 139 [.agg ⟨l⟩] [] (fun H => gWork.rd H l x) (fun v A => ∃ l, v = .agg ⟨l⟩ ∧ gWork.ow l x A) := by
  refine Ct.intro0 G_ok Tryz.func139 rfl rfl rfl fun E H hp => ?_
  obtain ⟨l1p, b2p, c2p, b4p, c4p, l11p, b13p, c13p, rfl, h1p, h2p, w3p, h4p, w5p, w8p, h11p, h13p⟩ := gWork_rd.1 hp
  obtain ⟨b1_1p, c1_1p, b2_1p, c2_1p, b3_1p, c3_1p, rfl, h1_1p, h2_1p, h3_1p⟩ := gQuery_rd.1 h1p
  obtain ⟨l0_11p, b1_11p, c1_11p, b4_11p, c4_11p, rfl, h0_11p, h1_11p, w2_11p, w3_11p, h4_11p⟩ := gCell_rd.1 h11p
  obtain ⟨b1_0_11p, c1_0_11p, b2_0_11p, c2_0_11p, b3_0_11p, c3_0_11p, rfl, h1_0_11p, h2_0_11p, h3_0_11p⟩ := gQuery_rd.1 h0_11p
  have ez := gWork_sz (x)
  have e1z := gQuery_sz (x.query)
  have e1n1 := len_szL gS (x.query.out)
  have e1n2 := len_szL gAtom (x.query.atoms)
  have e1n3 := len_szL gFilter (x.query.filters)
  have en2 := len_szL gI (x.shares)
  have en4 := len_szL gWalk (x.seen)
  have e11z := gCell_sz (x.cell)
  have e110z := gQuery_sz (x.cell.query)
  have e110n1 := len_szL gS (x.cell.query.out)
  have e110n2 := len_szL gAtom (x.cell.query.atoms)
  have e110n3 := len_szL gFilter (x.cell.query.filters)
  have e11n1 := len_szL gI (x.cell.shares)
  have e11n4 := len_szL gGot (x.cell.gots)
  have en13 := len_szL gMail (x.waits)
  refine VCnew.intro fun x0 => ?_
  refine VCnew.intro fun x1 => ?_
  refine call_new (copyQuery_ct _ (x.query) ?_) (Rp.mono _ (mem_at 0 rfl) h1p) ?_
  · omega
  rintro v2 A2 o2
  obtain ⟨l2, rfl, o2⟩ := o2
  have r2 := Gt.owrd _ o2
  obtain ⟨b1x2, c1x2, b2x2, c2x2, b3x2, c3x2, rfl, h1x2, h2x2, h3x2⟩ := gQuery_rd.1 r2
  refine call_new (cloneI_ct _ _ _ (x.shares) ?_) (Rp.mono _ (mem_at 1 rfl) h2p) ?_
  · omega
  rintro v3 A3 o3
  obtain ⟨b3, c3, rfl, o3⟩ := o3
  refine call_new (cloneWalk_ct _ _ _ (x.seen) ?_) (Rp.mono _ (mem_at 2 rfl) h4p) ?_
  · omega
  rintro v4 A4 o4
  obtain ⟨b4, c4, rfl, o4⟩ := o4
  refine call_new (copyCell_ct _ (x.cell) ?_) (Rp.mono _ (mem_at 3 rfl) h11p) ?_
  · omega
  rintro v5 A5 o5
  obtain ⟨l5, rfl, o5⟩ := o5
  have r5 := Gt.owrd _ o5
  obtain ⟨l0x5, b1x5, c1x5, b4x5, c4x5, rfl, h0x5, h1x5, w2x5, w3x5, h4x5⟩ := gCell_rd.1 r5
  obtain ⟨b1_0x5, c1_0x5, b2_0x5, c2_0x5, b3_0x5, c3_0x5, rfl, h1_0x5, h2_0x5, h3_0x5⟩ := gQuery_rd.1 h0x5
  refine call_new (copyMails_ct _ _ _ (x.waits) ?_) (Rp.mono _ (mem_at 4 rfl) h13p) ?_
  · omega
  rintro v6 A6 o6
  obtain ⟨b6, c6, rfl, o6⟩ := o6
  exact ⟨_, ⟨_, rfl, gWork_ow.2 ⟨_, _, _, _, _, _, _, _, _, _, _, _, _, rfl, .refl _, by assumption, by assumption, by assumption, by assumption, by assumption, by assumption, by assumption, by assumption⟩⟩, (.le fun a => by (try simp only [setR, List.cons_append, List.nil_append]); simp only [List.flatten_append, List.flatten_cons, List.flatten_nil, List.count_append, List.count_nil, List.append_nil, List.nil_append]; omega)⟩

--@ct spec.l24Copy new s_l24Copy_ct _ $1 ?_ | %1 | obtain ⟨l#, rfl, o#⟩ := o# ;; have r# := Gt.owrd _ o# ;; obtain ⟨l1x#, b2x#, c2x#, b4x#, c4x#, l11x#, b13x#, c13x#, rfl, h1x#, h2x#, w3x#, h4x#, w5x#, w8x#, h11x#, h13x#⟩ := gWork_rd.1 r# ;; obtain ⟨b1_1x#, c1_1x#, b2_1x#, c2_1x#, b3_1x#, c3_1x#, rfl, h1_1x#, h2_1x#, h3_1x#⟩ := gQuery_rd.1 h1x# ;; obtain ⟨l0_11x#, b1_11x#, c1_11x#, b4_11x#, c4_11x#, rfl, h0_11x#, h1_11x#, w2_11x#, w3_11x#, h4_11x#⟩ := gCell_rd.1 h11x# ;; obtain ⟨b1_0_11x#, c1_0_11x#, b2_0_11x#, c2_0_11x#, b3_0_11x#, c3_0_11x#, rfl, h1_0_11x#, h2_0_11x#, h3_0_11x#⟩ := gQuery_rd.1 h0_11x#
theorem s_l24Copy_ct (l : List Value) (x : Work) (hx : gWork.sz x ≤ 1048576) :
    Ct Tryz.prog 128 [.agg ⟨l⟩] [] (fun H => gWork.rd H l x) (fun v A => ∃ l, v = .agg ⟨l⟩ ∧ gWork.ow l x A) := by
  refine Ct.intro0 G_ok Tryz.func128 rfl rfl rfl fun E H hp => ?_
  obtain ⟨l1p, b2p, c2p, b4p, c4p, l11p, b13p, c13p, rfl, h1p, h2p, w3p, h4p, w5p, w8p, h11p, h13p⟩ := gWork_rd.1 hp
  obtain ⟨b1_1p, c1_1p, b2_1p, c2_1p, b3_1p, c3_1p, rfl, h1_1p, h2_1p, h3_1p⟩ := gQuery_rd.1 h1p
  obtain ⟨l0_11p, b1_11p, c1_11p, b4_11p, c4_11p, rfl, h0_11p, h1_11p, w2_11p, w3_11p, h4_11p⟩ := gCell_rd.1 h11p
  obtain ⟨b1_0_11p, c1_0_11p, b2_0_11p, c2_0_11p, b3_0_11p, c3_0_11p, rfl, h1_0_11p, h2_0_11p, h3_0_11p⟩ := gQuery_rd.1 h0_11p
  have ez := gWork_sz (x)
  have e1z := gQuery_sz (x.query)
  have e1n1 := len_szL gS (x.query.out)
  have e1n2 := len_szL gAtom (x.query.atoms)
  have e1n3 := len_szL gFilter (x.query.filters)
  have en2 := len_szL gI (x.shares)
  have en4 := len_szL gWalk (x.seen)
  have e11z := gCell_sz (x.cell)
  have e110z := gQuery_sz (x.cell.query)
  have e110n1 := len_szL gS (x.cell.query.out)
  have e110n2 := len_szL gAtom (x.cell.query.atoms)
  have e110n3 := len_szL gFilter (x.cell.query.filters)
  have e11n1 := len_szL gI (x.cell.shares)
  have e11n4 := len_szL gGot (x.cell.gots)
  have en13 := len_szL gMail (x.waits)
  refine VCnew.intro fun x0 => ?_
  refine VCnew.intro fun x1 => ?_
  refine VCnew.intro fun x2 => ?_
  refine call_new (s_l08Copy_ct _ (x.query) ?_) (Rp.mono _ (mem_at 0 rfl) h1p) ?_
  · omega
  rintro v3 A3 o3
  obtain ⟨l3, rfl, o3⟩ := o3
  have r3 := Gt.owrd _ o3
  obtain ⟨b1x3, c1x3, b2x3, c2x3, b3x3, c3x3, rfl, h1x3, h2x3, h3x3⟩ := gQuery_rd.1 r3
  refine VCnew.intro fun x4 => ?_
  refine append_allN (g := gI) (T := (3 : TypeId)) G_ok (by repeat (first | exact fl_plain | apply plain_iso | apply plain_pair)) [] [[(x4, Obj.cells { toList := zeros (0 : Nat) [Value.int IntKind.i64 (0 : Int)] } (3 : TypeId))], A3, H] 2 ?_ (sl_nil _ _ _) rfl h2p rfl rfl rfl rfl rfl rfl rfl rfl ?_ fun b5 c5 A5 o5 => ?_
  · exact .refl _
  · simp; omega
  refine VCnew.intro fun x6 => ?_
  refine append_allN (g := gWalk) (T := (200 : TypeId)) G_ok (by repeat (first | exact fl_plain | apply plain_iso | apply plain_pair)) [] [[(x6, Obj.cells { toList := zeros (0 : Nat) [Value.int IntKind.i64 (0 : Int), Value.int IntKind.i64 (0 : Int), Value.int IntKind.i64 (0 : Int), Value.int IntKind.i64 (0 : Int)] } (200 : TypeId))], A5, [(x4, Obj.cells { toList := zeros (0 : Nat) [Value.int IntKind.i64 (0 : Int)] } (3 : TypeId))], A3, H] 4 ?_ (sl_nil _ _ _) rfl h4p rfl rfl rfl rfl rfl rfl rfl rfl ?_ fun b7 c7 A7 o7 => ?_
  · exact .refl _
  · simp; omega
  refine call_new (s_l23Copy_ct _ (x.cell) ?_) (Rp.mono _ (mem_at 5 rfl) h11p) ?_
  · omega
  rintro v8 A8 o8
  obtain ⟨l8, rfl, o8⟩ := o8
  have r8 := Gt.owrd _ o8
  obtain ⟨l0x8, b1x8, c1x8, b4x8, c4x8, rfl, h0x8, h1x8, w2x8, w3x8, h4x8⟩ := gCell_rd.1 r8
  obtain ⟨b1_0x8, c1_0x8, b2_0x8, c2_0x8, b3_0x8, c3_0x8, rfl, h1_0x8, h2_0x8, h3_0x8⟩ := gQuery_rd.1 h0x8
  refine call_new (s_l24Mails_ct _ _ _ (x.waits) ?_) (Rp.mono _ (mem_at 6 rfl) h13p) ?_
  · omega
  rintro v9 A9 o9
  obtain ⟨b9, c9, rfl, o9⟩ := o9
  exact ⟨_, ⟨_, rfl, gWork_ow.2 ⟨_, _, _, _, _, _, _, _, _, _, _, _, _, rfl, .refl _, by assumption, by assumption, by assumption, by assumption, by assumption, by assumption, by assumption, by assumption⟩⟩, (.le fun a => by (try simp only [setR, List.cons_append, List.nil_append]); simp only [List.flatten_append, List.flatten_cons, List.flatten_nil, List.count_append, List.count_nil, List.append_nil, List.nil_append]; omega)⟩

--@ct impl.copyAsk new copyAsk_ct _ $1 ?_ | %1 | obtain ⟨l#, rfl, o#⟩ := o# ;; have r# := Gt.owrd _ o# ;; obtain ⟨l1x#, b2x#, c2x#, b4x#, c4x#, l6x#, rfl, h1x#, h2x#, w3x#, h4x#, h6x#⟩ := gAsk_rd.1 r# ;; obtain ⟨b1_1x#, c1_1x#, b2_1x#, c2_1x#, b3_1x#, c3_1x#, rfl, h1_1x#, h2_1x#, h3_1x#⟩ := gQuery_rd.1 h1x# ;; obtain ⟨b0_6x#, c0_6x#, rfl, h0_6x#⟩ := gBag_rd.1 h6x#
theorem copyAsk_ct (l : List Value) (x : Ask) (hx : gAsk.sz x ≤ 1048576) :
    Ct Tryz.prog 140 [.agg ⟨l⟩] [] (fun H => gAsk.rd H l x) (fun v A => ∃ l, v = .agg ⟨l⟩ ∧ gAsk.ow l x A) := by
  refine Ct.intro0 G_ok Tryz.func140 rfl rfl rfl fun E H hp => ?_
  obtain ⟨l1p, b2p, c2p, b4p, c4p, l6p, rfl, h1p, h2p, w3p, h4p, h6p⟩ := gAsk_rd.1 hp
  obtain ⟨b1_1p, c1_1p, b2_1p, c2_1p, b3_1p, c3_1p, rfl, h1_1p, h2_1p, h3_1p⟩ := gQuery_rd.1 h1p
  obtain ⟨b0_6p, c0_6p, rfl, h0_6p⟩ := gBag_rd.1 h6p
  have ez := gAsk_sz (x)
  have e1z := gQuery_sz (x.query)
  have e1n1 := len_szL gS (x.query.out)
  have e1n2 := len_szL gAtom (x.query.atoms)
  have e1n3 := len_szL gFilter (x.query.filters)
  have en2 := len_szL gI (x.shares)
  have en4 := len_szL gGot (x.results)
  have e6z := gBag_sz (x.answer)
  have e6n0 := len_szL gItem (x.answer.items)
  refine VCnew.intro fun x0 => ?_
  refine VCnew.intro fun x1 => ?_
  refine call_new (copyQuery_ct _ (x.query) ?_) (Rp.mono _ (mem_at 0 rfl) h1p) ?_
  · omega
  rintro v2 A2 o2
  obtain ⟨l2, rfl, o2⟩ := o2
  have r2 := Gt.owrd _ o2
  obtain ⟨b1x2, c1x2, b2x2, c2x2, b3x2, c3x2, rfl, h1x2, h2x2, h3x2⟩ := gQuery_rd.1 r2
  refine call_new (cloneI_ct _ _ _ (x.shares) ?_) (Rp.mono _ (mem_at 1 rfl) h2p) ?_
  · omega
  rintro v3 A3 o3
  obtain ⟨b3, c3, rfl, o3⟩ := o3
  refine call_new (copyGots_ct _ _ _ (x.results) ?_) (Rp.mono _ (mem_at 2 rfl) h4p) ?_
  · omega
  rintro v4 A4 o4
  obtain ⟨b4, c4, rfl, o4⟩ := o4
  refine call_new (copyBag_ct _ (x.answer) ?_) (Rp.mono _ (mem_at 3 rfl) h6p) ?_
  · omega
  rintro v5 A5 o5
  obtain ⟨l5, rfl, o5⟩ := o5
  have r5 := Gt.owrd _ o5
  obtain ⟨b0x5, c0x5, rfl, h0x5⟩ := gBag_rd.1 r5
  exact ⟨_, ⟨_, rfl, gAsk_ow.2 ⟨_, _, _, _, _, _, _, _, _, _, rfl, .refl _, by assumption, by assumption, by assumption, by assumption, by assumption⟩⟩, (.le fun a => by (try simp only [setR, List.cons_append, List.nil_append]); simp only [List.flatten_append, List.flatten_cons, List.flatten_nil, List.count_append, List.count_nil, List.append_nil, List.nil_append]; omega)⟩

--@ct spec.l25Copy new s_l25Copy_ct _ $1 ?_ | %1 | obtain ⟨l#, rfl, o#⟩ := o# ;; have r# := Gt.owrd _ o# ;; obtain ⟨l1x#, b2x#, c2x#, b4x#, c4x#, l6x#, rfl, h1x#, h2x#, w3x#, h4x#, h6x#⟩ := gAsk_rd.1 r# ;; obtain ⟨b1_1x#, c1_1x#, b2_1x#, c2_1x#, b3_1x#, c3_1x#, rfl, h1_1x#, h2_1x#, h3_1x#⟩ := gQuery_rd.1 h1x# ;; obtain ⟨b0_6x#, c0_6x#, rfl, h0_6x#⟩ := gBag_rd.1 h6x#
theorem s_l25Copy_ct (l : List Value) (x : Ask) (hx : gAsk.sz x ≤ 1048576) :
    Ct Tryz.prog 129 [.agg ⟨l⟩] [] (fun H => gAsk.rd H l x) (fun v A => ∃ l, v = .agg ⟨l⟩ ∧ gAsk.ow l x A) := by
  refine Ct.intro0 G_ok Tryz.func129 rfl rfl rfl fun E H hp => ?_
  obtain ⟨l1p, b2p, c2p, b4p, c4p, l6p, rfl, h1p, h2p, w3p, h4p, h6p⟩ := gAsk_rd.1 hp
  obtain ⟨b1_1p, c1_1p, b2_1p, c2_1p, b3_1p, c3_1p, rfl, h1_1p, h2_1p, h3_1p⟩ := gQuery_rd.1 h1p
  obtain ⟨b0_6p, c0_6p, rfl, h0_6p⟩ := gBag_rd.1 h6p
  have ez := gAsk_sz (x)
  have e1z := gQuery_sz (x.query)
  have e1n1 := len_szL gS (x.query.out)
  have e1n2 := len_szL gAtom (x.query.atoms)
  have e1n3 := len_szL gFilter (x.query.filters)
  have en2 := len_szL gI (x.shares)
  have en4 := len_szL gGot (x.results)
  have e6z := gBag_sz (x.answer)
  have e6n0 := len_szL gItem (x.answer.items)
  have hq := szL_eq gGot (x.results)
  refine VCnew.intro fun x0 => ?_
  refine VCnew.intro fun x1 => ?_
  refine VCnew.intro fun x2 => ?_
  refine call_new (s_l08Copy_ct _ (x.query) ?_) (Rp.mono _ (mem_at 0 rfl) h1p) ?_
  · omega
  rintro v3 A3 o3
  obtain ⟨l3, rfl, o3⟩ := o3
  have r3 := Gt.owrd _ o3
  obtain ⟨b1x3, c1x3, b2x3, c2x3, b3x3, c3x3, rfl, h1x3, h2x3, h3x3⟩ := gQuery_rd.1 r3
  refine VCnew.intro fun x4 => ?_
  refine append_allN (g := gI) (T := (3 : TypeId)) G_ok (by repeat (first | exact fl_plain | apply plain_iso | apply plain_pair)) [] [[(x4, Obj.cells { toList := zeros (0 : Nat) [Value.int IntKind.i64 (0 : Int)] } (3 : TypeId))], A3, H] 2 ?_ (sl_nil _ _ _) rfl h2p rfl rfl rfl rfl rfl rfl rfl rfl ?_ fun b5 c5 A5 o5 => ?_
  · exact .refl _
  · simp; omega
  refine VCnew.intro fun x6 => ?_
  apply loop_mod (α := (Nat) × (Hp) × (Option Addr) × (Nat)) G_ok [17, 18, 19, 20, 21, 24, 25, 26, 27, 28, 29, 30, 31, 32, 33, 34, 35, 36, 37, 38, 39, 40, 41, 42, 43, 44, 45, 46, 47, 48, 22, 23, 4] (fun z => [(4, .v (.int .i64 z.1))]) (fun z => [⟨x0, [Value.bool x.on, Value.bool x.query.each, Value.slice b1_1p x.query.out.length c1_1p, Value.slice b2_1p x.query.atoms.length c2_1p, Value.slice b3_1p x.query.filters.length c3_1p, Value.slice b2p x.shares.length c2p, Value.int IntKind.i64 x.count, Value.slice b4p x.results.length c4p, Value.bool x.over, Value.slice b0_6p x.answer.items.length c0_6p], (67 : Nat)⟩, ⟨x1, [Value.bool false, Value.bool false, Value.slice none (0 : Nat) (0 : Nat), Value.slice none (0 : Nat) (0 : Nat), Value.slice none (0 : Nat) (0 : Nat), Value.slice none (0 : Nat) (0 : Nat), Value.int IntKind.i64 (0 : Int), Value.slice none (0 : Nat) (0 : Nat), Value.bool false, Value.slice none (0 : Nat) (0 : Nat)], (67 : Nat)⟩, ⟨x2, [Value.bool x.on, Value.bool x.query.each, Value.slice b1x3 x.query.out.length c1x3, Value.slice b2x3 x.query.atoms.length c2x3, Value.slice b3x3 x.query.filters.length c3x3, Value.slice b5 ([] ++ x.shares).length c5, Value.int IntKind.i64 x.count, .slice z.2.2.1 (x.results.take z.1).length z.2.2.2, Value.bool x.over, Value.slice b0_6p x.answer.items.length c0_6p], (67 : Nat)⟩]) (fun z => [z.2.1, [(x6, Obj.cells { toList := zeros (0 : Nat) [Value.int IntKind.i64 (0 : Int), Value.int IntKind.i64 (0 : Int), Value.slice none (0 : Nat) (0 : Nat)] } (232 : TypeId))], A5, [(x4, Obj.cells { toList := zeros (0 : Nat) [Value.int IntKind.i64 (0 : Int)] } (3 : TypeId))], A3, H]) (fun z => x.results.length - z.1) (fun z => z.1 ≤ x.results.length ∧ (gSl 232 gGot).ow [.slice z.2.2.1 (x.results.take z.1).length z.2.2.2] (x.results.take z.1) z.2.1) ((0, [], _, 0))
  · repeat' (first | exact trivial | refine ⟨⟨_, rfl, by first | rfl | exact inc_eq _ (by omega) | (refine sl_eq ?_; simp; done) | (refine sl_eq ?_; simp only [List.length_append, List.length_take, List.length_cons, List.length_nil]; omega), by first | exact trivial | simp [SV.ok]⟩, ?_⟩)
  · exact ⟨rfl, rfl, rfl, trivial⟩
  · try dsimp only
    exact ⟨by omega, sl_nil _ _ _⟩
  · exact .refl _
  rintro ⟨k, A, lb, lc⟩ hI
  obtain ⟨hk, oA⟩ : k ≤ x.results.length ∧ (gSl 232 gGot).ow [.slice lb (x.results.take k).length lc] (x.results.take k) A := hI
  try dsimp only
  refine VCsplit.intro (fun q7 => ?_) (fun q7 => ?_)
  ·
    simp at q7
    have hs := szE_step gGot x.results k default (by omega)
    have hs2 := szE_le gGot x.results (k + 1)
    have hs3 := gGot_sz (x.results[k]?.getD default)
    have hs4 := gBag_sz (x.results[k]?.getD default).bag
    refine draw G_ok mixed (some 23) (.q 0 (.q 1 (.q 2 (.q 3 (.q 4 (.q 5 (.q 6 (.q 7 (.q 8 (.q 9 (.q 10 (.q 11 (.q 12 (.q 13 (.q 14 (.q 15 (.q 16 (.q 17 (.q 18 (.q 19 (.f 20 (.q 21 (.f 22 (.tl 23 (.f 24 (.f 25 (.nil))))))))))))))))))))))))))) (by decide +kernel) ?_
    refine idx_rd h4p ?_ ?_ fun b8 o8 hb8 => ?_
    · omega
    · omega
    refine load_partN default (k) 0 rfl h4p ?_ ?_ hb8 rfl (by decide) (mem_at 5 rfl) fun l9 hl9 => ?_
    · omega
    · omega
    obtain ⟨l2x9, rfl, w0x9, w1x9, h2x9⟩ := gGot_rd.1 hl9 ; obtain ⟨b0_2x9, c0_2x9, rfl, h0_2x9⟩ := gBag_rd.1 h2x9
    refine idx_rd h4p ?_ ?_ fun b10 o10 hb10 => ?_
    · omega
    · omega
    refine load_partN default (k) 1 rfl h4p ?_ ?_ hb10 rfl (by decide) (mem_at 5 rfl) fun l11 hl11 => ?_
    · omega
    · omega
    obtain ⟨l2x11, rfl, w0x11, w1x11, h2x11⟩ := gGot_rd.1 hl11 ; obtain ⟨b0_2x11, c0_2x11, rfl, h0_2x11⟩ := gBag_rd.1 h2x11
    refine idx_rd h4p ?_ ?_ fun b12 o12 hb12 => ?_
    · omega
    · omega
    refine load_partN default (k) 2 rfl h4p ?_ ?_ hb12 rfl (by decide) (mem_at 5 rfl) fun l13 hl13 => ?_
    · omega
    · omega
    obtain ⟨l2x13, rfl, w0x13, w1x13, h2x13⟩ := gGot_rd.1 hl13 ; obtain ⟨b0_2x13, c0_2x13, rfl, h0_2x13⟩ := gBag_rd.1 h2x13
    refine call_new (s_l03Copy_ct _ ((x.results[k]?.getD default).bag) ?_) (Rp.mono _ (mem_at 5 rfl) h2x13) ?_
    · omega
    rintro v14 A14 o14
    obtain ⟨l14, rfl, o14⟩ := o14
    have r14 := Gt.owrd _ o14
    obtain ⟨b0x14, c0x14, rfl, h0x14⟩ := gBag_rd.1 r14
    refine VC.intro ?_ ?_
    · exact keep_new
    refine VCnew.intro fun x15 => ?_
    refine VC.intro ?_ ?_
    · exact keep_new
    refine gappend1 (g := gGot) (T := (232 : TypeId)) G_ok A _ [[(x6, Obj.cells { toList := zeros (0 : Nat) [Value.int IntKind.i64 (0 : Int), Value.int IntKind.i64 (0 : Int), Value.slice none (0 : Nat) (0 : Nat)] } (232 : TypeId))], A5, [(x4, Obj.cells { toList := zeros (0 : Nat) [Value.int IntKind.i64 (0 : Int)] } (3 : TypeId))], A3, H] ?_ oA (gGot_ow.2 ⟨_, _, rfl, .refl _, by assumption, by assumption, by assumption⟩) (List.mem_of_getElem? (i := 0) rfl) rfl rfl rfl rfl rfl rfl rfl rfl ?_ fun b16 c16 A16 o16 => ?_
    · exact .le fun a => by (try simp only [setR, List.cons_append, List.nil_append]); simp only [List.flatten_append, List.flatten_cons, List.flatten_nil, List.count_append, List.count_nil, List.append_nil, List.nil_append]; omega
    · simp; omega
    apply loop_stepA (k + 1, _, _, _)
    · exact .refl _
    · repeat' (first | exact trivial | refine ⟨⟨_, rfl, by first | rfl | exact inc_eq _ (by omega) | (refine sl_eq ?_; simp; done) | (refine sl_eq ?_; simp only [List.length_append, List.length_take, List.length_cons, List.length_nil]; omega), by first | exact trivial | simp [SV.ok]⟩, ?_⟩)
    · ((rw [tk1 x.results k default (by omega)]); repeat' (first | exact trivial | refine ⟨by first | rfl | simp [Blk.ent], ?_⟩))
    · try dsimp only
      exact ⟨by omega, by (rw [tk1 x.results k default (by omega)]; assumption)⟩
    · try dsimp only
      omega
  ·
    simp at q7
    refine call_new (s_l03Copy_ct _ (x.answer) ?_) (Rp.mono _ (mem_at 5 rfl) h6p) ?_
    · omega
    rintro v17 A17 o17
    obtain ⟨l17, rfl, o17⟩ := o17
    have r17 := Gt.owrd _ o17
    obtain ⟨b0x17, c0x17, rfl, h0x17⟩ := gBag_rd.1 r17
    (simp only [List.take_length, show k = x.results.length by omega] at oA ⊢; exact ⟨_, ⟨_, rfl, gAsk_ow.2 ⟨_, _, _, _, _, _, _, _, _, _, rfl, .refl _, by assumption, by assumption, by assumption, by assumption, by assumption⟩⟩, (.le fun a => by (try simp only [setR, List.cons_append, List.nil_append]); simp only [List.flatten_append, List.flatten_cons, List.flatten_nil, List.count_append, List.count_nil, List.append_nil, List.nil_append]; omega)⟩)

--@ct impl.copyLink new copyLink_ct _ $1 ?_ | %1 | obtain ⟨l#, rfl, o#⟩ := o# ;; have r# := Gt.owrd _ o# ;; obtain ⟨b0x#, c0x#, rfl, h0x#, w1x#, w2x#⟩ := gLink_rd.1 r#
theorem copyLink_ct (l : List Value) (x : Link) (hx : gLink.sz x ≤ 1048576) :
    Ct Tryz.prog 138 [.agg ⟨l⟩] [] (fun H => gLink.rd H l x) (fun v A => ∃ l, v = .agg ⟨l⟩ ∧ gLink.ow l x A) := by
  refine Ct.intro0 G_ok Tryz.func138 rfl rfl rfl fun E H hp => ?_
  obtain ⟨b0p, c0p, rfl, h0p, w1p, w2p⟩ := gLink_rd.1 hp
  have ez := gLink_sz (x)
  have en0 := len_szL gS (x.sent)
  refine VCnew.intro fun x0 => ?_
  refine VCnew.intro fun x1 => ?_
  refine call_new (cloneS_ct _ _ _ (x.sent) ?_) (Rp.mono _ (mem_at 0 rfl) h0p) ?_
  · trivial
  rintro v2 A2 o2
  obtain ⟨b2, c2, rfl, o2⟩ := o2
  exact ⟨_, ⟨_, rfl, gLink_ow.2 ⟨_, _, _, rfl, .refl _, by assumption, by assumption, by assumption⟩⟩, (.le fun a => by (try simp only [setR, List.cons_append, List.nil_append]); simp only [List.flatten_append, List.flatten_cons, List.flatten_nil, List.count_append, List.count_nil, List.append_nil, List.nil_append]; omega)⟩

--@ct spec.l18Copy new s_l18Copy_ct _ $1 ?_ | %1 | obtain ⟨l#, rfl, o#⟩ := o# ;; have r# := Gt.owrd _ o# ;; obtain ⟨b0x#, c0x#, rfl, h0x#, w1x#, w2x#⟩ := gLink_rd.1 r#
theorem s_l18Copy_ct (l : List Value) (x : Link) (hx : gLink.sz x ≤ 1048576) :
    Ct Tryz.prog 127 [.agg ⟨l⟩] [] (fun H => gLink.rd H l x) (fun v A => ∃ l, v = .agg ⟨l⟩ ∧ gLink.ow l x A) := by
  refine Ct.intro0 G_ok Tryz.func127 rfl rfl rfl fun E H hp => ?_
  obtain ⟨b0p, c0p, rfl, h0p, w1p, w2p⟩ := gLink_rd.1 hp
  have ez := gLink_sz (x)
  have en0 := len_szL gS (x.sent)
  refine VCnew.intro fun x0 => ?_
  refine VCnew.intro fun x1 => ?_
  refine draw G_ok mixed (some 9) (.q 1 (.q 2 (.q 4 (.q 5 (.q 6 (.q 7 (.f 0 (.f 3 (.q 8 (.tl 9 (.nil))))))))))) (by decide +kernel) ?_
  refine VCnew.intro fun x2 => ?_
  refine VC.intro ?_ ?_
  · exact keep_new
  refine append_allN (g := gS) (T := (9 : TypeId)) G_ok (by repeat (first | exact fl_plain | apply plain_iso | apply plain_pair)) [] [[(x2, Obj.cells { toList := zeros (0 : Nat) [Value.string ByteArray.empty] } (9 : TypeId))], H] 1 ?_ (sl_nil _ _ _) rfl h0p rfl rfl rfl rfl rfl rfl rfl rfl ?_ fun b3 c3 A3 o3 => ?_
  · exact .refl _
  · simp; omega
  refine VC.intro ?_ ?_
  · exact keep_sub (by simp) (by simp)
  exact ⟨_, ⟨_, rfl, gLink_ow.2 ⟨_, _, _, rfl, .refl _, by assumption, by assumption, by assumption⟩⟩, (.le fun a => by (try simp only [setR, List.cons_append, List.nil_append]); simp only [List.flatten_append, List.flatten_cons, List.flatten_nil, List.count_append, List.count_nil, List.append_nil, List.nil_append]; omega)⟩

--@ct impl.copyNode new copyNode_ct _ $1 ?_ | %1 | obtain ⟨l#, rfl, o#⟩ := o# ;; have r# := Gt.owrd _ o# ;; obtain ⟨l2x#, b5x#, c5x#, l6x#, l7x#, rfl, w0x#, h2x#, w3x#, h5x#, h6x#, h7x#⟩ := gNode_rd.1 r# ;; obtain ⟨b0_2x#, c0_2x#, rfl, h0_2x#⟩ := gDisk_rd.1 h2x# ;; obtain ⟨l1_6x#, b2_6x#, c2_6x#, b4_6x#, c4_6x#, l11_6x#, b13_6x#, c13_6x#, rfl, h1_6x#, h2_6x#, w3_6x#, h4_6x#, w5_6x#, w8_6x#, h11_6x#, h13_6x#⟩ := gWork_rd.1 h6x# ;; obtain ⟨b1_1_6x#, c1_1_6x#, b2_1_6x#, c2_1_6x#, b3_1_6x#, c3_1_6x#, rfl, h1_1_6x#, h2_1_6x#, h3_1_6x#⟩ := gQuery_rd.1 h1_6x# ;; obtain ⟨l0_11_6x#, b1_11_6x#, c1_11_6x#, b4_11_6x#, c4_11_6x#, rfl, h0_11_6x#, h1_11_6x#, w2_11_6x#, w3_11_6x#, h4_11_6x#⟩ := gCell_rd.1 h11_6x# ;; obtain ⟨b1_0_11_6x#, c1_0_11_6x#, b2_0_11_6x#, c2_0_11_6x#, b3_0_11_6x#, c3_0_11_6x#, rfl, h1_0_11_6x#, h2_0_11_6x#, h3_0_11_6x#⟩ := gQuery_rd.1 h0_11_6x# ;; obtain ⟨l1_7x#, b2_7x#, c2_7x#, b4_7x#, c4_7x#, l6_7x#, rfl, h1_7x#, h2_7x#, w3_7x#, h4_7x#, h6_7x#⟩ := gAsk_rd.1 h7x# ;; obtain ⟨b1_1_7x#, c1_1_7x#, b2_1_7x#, c2_1_7x#, b3_1_7x#, c3_1_7x#, rfl, h1_1_7x#, h2_1_7x#, h3_1_7x#⟩ := gQuery_rd.1 h1_7x# ;; obtain ⟨b0_6_7x#, c0_6_7x#, rfl, h0_6_7x#⟩ := gBag_rd.1 h6_7x#
theorem copyNode_ct (l : List Value) (x : Node) (hx : gNode.sz x ≤ 1048576) :
    Ct Tryz.prog 56 [.agg ⟨l⟩] [] (fun H => gNode.rd H l x) (fun v A => ∃ l, v = .agg ⟨l⟩ ∧ gNode.ow l x A) := by
  refine Ct.intro0 G_ok Tryz.func56 rfl rfl rfl fun E H hp => ?_
  obtain ⟨l2p, b5p, c5p, l6p, l7p, rfl, w0p, h2p, w3p, h5p, h6p, h7p⟩ := gNode_rd.1 hp
  obtain ⟨b0_2p, c0_2p, rfl, h0_2p⟩ := gDisk_rd.1 h2p
  obtain ⟨l1_6p, b2_6p, c2_6p, b4_6p, c4_6p, l11_6p, b13_6p, c13_6p, rfl, h1_6p, h2_6p, w3_6p, h4_6p, w5_6p, w8_6p, h11_6p, h13_6p⟩ := gWork_rd.1 h6p
  obtain ⟨b1_1_6p, c1_1_6p, b2_1_6p, c2_1_6p, b3_1_6p, c3_1_6p, rfl, h1_1_6p, h2_1_6p, h3_1_6p⟩ := gQuery_rd.1 h1_6p
  obtain ⟨l0_11_6p, b1_11_6p, c1_11_6p, b4_11_6p, c4_11_6p, rfl, h0_11_6p, h1_11_6p, w2_11_6p, w3_11_6p, h4_11_6p⟩ := gCell_rd.1 h11_6p
  obtain ⟨b1_0_11_6p, c1_0_11_6p, b2_0_11_6p, c2_0_11_6p, b3_0_11_6p, c3_0_11_6p, rfl, h1_0_11_6p, h2_0_11_6p, h3_0_11_6p⟩ := gQuery_rd.1 h0_11_6p
  obtain ⟨l1_7p, b2_7p, c2_7p, b4_7p, c4_7p, l6_7p, rfl, h1_7p, h2_7p, w3_7p, h4_7p, h6_7p⟩ := gAsk_rd.1 h7p
  obtain ⟨b1_1_7p, c1_1_7p, b2_1_7p, c2_1_7p, b3_1_7p, c3_1_7p, rfl, h1_1_7p, h2_1_7p, h3_1_7p⟩ := gQuery_rd.1 h1_7p
  obtain ⟨b0_6_7p, c0_6_7p, rfl, h0_6_7p⟩ := gBag_rd.1 h6_7p
  have ez := gNode_sz (x)
  have e2z := gDisk_sz (x.disk)
  have e2n0 := len_szL gFile (x.disk.files)
  have en5 := len_szL gLink (x.links)
  have e6z := gWork_sz (x.work)
  have e61z := gQuery_sz (x.work.query)
  have e61n1 := len_szL gS (x.work.query.out)
  have e61n2 := len_szL gAtom (x.work.query.atoms)
  have e61n3 := len_szL gFilter (x.work.query.filters)
  have e6n2 := len_szL gI (x.work.shares)
  have e6n4 := len_szL gWalk (x.work.seen)
  have e611z := gCell_sz (x.work.cell)
  have e6110z := gQuery_sz (x.work.cell.query)
  have e6110n1 := len_szL gS (x.work.cell.query.out)
  have e6110n2 := len_szL gAtom (x.work.cell.query.atoms)
  have e6110n3 := len_szL gFilter (x.work.cell.query.filters)
  have e611n1 := len_szL gI (x.work.cell.shares)
  have e611n4 := len_szL gGot (x.work.cell.gots)
  have e6n13 := len_szL gMail (x.work.waits)
  have e7z := gAsk_sz (x.ask)
  have e71z := gQuery_sz (x.ask.query)
  have e71n1 := len_szL gS (x.ask.query.out)
  have e71n2 := len_szL gAtom (x.ask.query.atoms)
  have e71n3 := len_szL gFilter (x.ask.query.filters)
  have e7n2 := len_szL gI (x.ask.shares)
  have e7n4 := len_szL gGot (x.ask.results)
  have e76z := gBag_sz (x.ask.answer)
  have e76n0 := len_szL gItem (x.ask.answer.items)
  have hq := szL_eq gLink (x.links)
  refine VCnew.intro fun x0 => ?_
  refine VCnew.intro fun x1 => ?_
  refine VCnew.intro fun x2 => ?_
  refine call_new (copyDisk_ct _ (x.disk) ?_) (Rp.mono _ (mem_at 0 rfl) h2p) ?_
  · omega
  rintro v3 A3 o3
  obtain ⟨l3, rfl, o3⟩ := o3
  have r3 := Gt.owrd _ o3
  obtain ⟨b0x3, c0x3, rfl, h0x3⟩ := gDisk_rd.1 r3
  apply loop_mod (α := (Nat) × (Hp) × (Option Addr) × (Nat)) G_ok [16, 17, 18, 5, 19, 20, 21, 22, 23, 24, 25, 26, 15] (fun z => [(15, .v (.int .i64 z.1))]) (fun z => [⟨x0, [Value.int IntKind.i64 x.id, Value.bool x.up, Value.slice b0_2p x.disk.files.length c0_2p, Value.int IntKind.i64 x.epoch, Value.bool x.joined, Value.slice b5p x.links.length c5p, Value.bool x.work.begun, Value.bool x.work.query.each, Value.slice b1_1_6p x.work.query.out.length c1_1_6p, Value.slice b2_1_6p x.work.query.atoms.length c2_1_6p, Value.slice b3_1_6p x.work.query.filters.length c3_1_6p, Value.slice b2_6p x.work.shares.length c2_6p, Value.int IntKind.i64 x.work.count, Value.slice b4_6p x.work.seen.length c4_6p, Value.int IntKind.i64 x.work.num, Value.bool x.work.black, Value.bool x.work.holds, Value.int IntKind.i64 x.work.tokNum, Value.bool x.work.tokBlack, Value.bool x.work.walked, Value.bool x.work.cell.query.each, Value.slice b1_0_11_6p x.work.cell.query.out.length c1_0_11_6p, Value.slice b2_0_11_6p x.work.cell.query.atoms.length c2_0_11_6p, Value.slice b3_0_11_6p x.work.cell.query.filters.length c3_0_11_6p, Value.slice b1_11_6p x.work.cell.shares.length c1_11_6p, Value.int IntKind.i64 x.work.cell.at', Value.int IntKind.i64 x.work.cell.n, Value.slice b4_11_6p x.work.cell.gots.length c4_11_6p, Value.bool x.work.told, Value.slice b13_6p x.work.waits.length c13_6p, Value.bool x.ask.on, Value.bool x.ask.query.each, Value.slice b1_1_7p x.ask.query.out.length c1_1_7p, Value.slice b2_1_7p x.ask.query.atoms.length c2_1_7p, Value.slice b3_1_7p x.ask.query.filters.length c3_1_7p, Value.slice b2_7p x.ask.shares.length c2_7p, Value.int IntKind.i64 x.ask.count, Value.slice b4_7p x.ask.results.length c4_7p, Value.bool x.ask.over, Value.slice b0_6_7p x.ask.answer.items.length c0_6_7p], (69 : Nat)⟩, ⟨x1, [Value.int IntKind.i64 (0 : Int), Value.bool false, Value.slice none (0 : Nat) (0 : Nat), Value.int IntKind.i64 (0 : Int), Value.bool false, Value.slice none (0 : Nat) (0 : Nat), Value.bool false, Value.bool false, Value.slice none (0 : Nat) (0 : Nat), Value.slice none (0 : Nat) (0 : Nat), Value.slice none (0 : Nat) (0 : Nat), Value.slice none (0 : Nat) (0 : Nat), Value.int IntKind.i64 (0 : Int), Value.slice none (0 : Nat) (0 : Nat), Value.int IntKind.i64 (0 : Int), Value.bool false, Value.bool false, Value.int IntKind.i64 (0 : Int), Value.bool false, Value.bool false, Value.bool false, Value.slice none (0 : Nat) (0 : Nat), Value.slice none (0 : Nat) (0 : Nat), Value.slice none (0 : Nat) (0 : Nat), Value.slice none (0 : Nat) (0 : Nat), Value.int IntKind.i64 (0 : Int), Value.int IntKind.i64 (0 : Int), Value.slice none (0 : Nat) (0 : Nat), Value.bool false, Value.slice none (0 : Nat) (0 : Nat), Value.bool false, Value.bool false, Value.slice none (0 : Nat) (0 : Nat), Value.slice none (0 : Nat) (0 : Nat), Value.slice none (0 : Nat) (0 : Nat), Value.slice none (0 : Nat) (0 : Nat), Value.int IntKind.i64 (0 : Int), Value.slice none (0 : Nat) (0 : Nat), Value.bool false, Value.slice none (0 : Nat) (0 : Nat)], (69 : Nat)⟩, ⟨x2, [Value.int IntKind.i64 x.id, Value.bool x.up, Value.slice b0x3 x.disk.files.length c0x3, Value.int IntKind.i64 x.epoch, Value.bool x.joined, .slice z.2.2.1 (x.links.take z.1).length z.2.2.2, Value.bool x.work.begun, Value.bool x.work.query.each, Value.slice b1_1_6p x.work.query.out.length c1_1_6p, Value.slice b2_1_6p x.work.query.atoms.length c2_1_6p, Value.slice b3_1_6p x.work.query.filters.length c3_1_6p, Value.slice b2_6p x.work.shares.length c2_6p, Value.int IntKind.i64 x.work.count, Value.slice b4_6p x.work.seen.length c4_6p, Value.int IntKind.i64 x.work.num, Value.bool x.work.black, Value.bool x.work.holds, Value.int IntKind.i64 x.work.tokNum, Value.bool x.work.tokBlack, Value.bool x.work.walked, Value.bool x.work.cell.query.each, Value.slice b1_0_11_6p x.work.cell.query.out.length c1_0_11_6p, Value.slice b2_0_11_6p x.work.cell.query.atoms.length c2_0_11_6p, Value.slice b3_0_11_6p x.work.cell.query.filters.length c3_0_11_6p, Value.slice b1_11_6p x.work.cell.shares.length c1_11_6p, Value.int IntKind.i64 x.work.cell.at', Value.int IntKind.i64 x.work.cell.n, Value.slice b4_11_6p x.work.cell.gots.length c4_11_6p, Value.bool x.work.told, Value.slice b13_6p x.work.waits.length c13_6p, Value.bool x.ask.on, Value.bool x.ask.query.each, Value.slice b1_1_7p x.ask.query.out.length c1_1_7p, Value.slice b2_1_7p x.ask.query.atoms.length c2_1_7p, Value.slice b3_1_7p x.ask.query.filters.length c3_1_7p, Value.slice b2_7p x.ask.shares.length c2_7p, Value.int IntKind.i64 x.ask.count, Value.slice b4_7p x.ask.results.length c4_7p, Value.bool x.ask.over, Value.slice b0_6_7p x.ask.answer.items.length c0_6_7p], (69 : Nat)⟩]) (fun z => [z.2.1, A3, H]) (fun z => x.links.length - z.1) (fun z => z.1 ≤ x.links.length ∧ (gSl 180 gLink).ow [.slice z.2.2.1 (x.links.take z.1).length z.2.2.2] (x.links.take z.1) z.2.1) ((0, [], none, 0))
  · repeat' (first | exact trivial | refine ⟨⟨_, rfl, by first | rfl | exact inc_eq _ (by omega) | (refine sl_eq ?_; simp; done) | (refine sl_eq ?_; simp only [List.length_append, List.length_take, List.length_cons, List.length_nil]; omega), by first | exact trivial | simp [SV.ok]⟩, ?_⟩)
  · exact ⟨rfl, rfl, rfl, trivial⟩
  · try dsimp only
    exact ⟨by omega, sl_nil _ _ _⟩
  · exact .refl _
  rintro ⟨k, A, lb, lc⟩ hI
  obtain ⟨hk, oA⟩ : k ≤ x.links.length ∧ (gSl 180 gLink).ow [.slice lb (x.links.take k).length lc] (x.links.take k) A := hI
  try dsimp only
  refine VCsplit.intro (fun q4 => ?_) (fun q4 => ?_)
  ·
    simp at q4
    have hs := szE_step gLink x.links k default (by omega)
    have hs2 := szE_le gLink x.links (k + 1)
    have hs3 := gLink_sz (x.links[k]?.getD default)
    refine idx_rd h5p ?_ ?_ fun b5 o5 hb5 => ?_
    · omega
    · omega
    refine load_allN default (k) rfl h5p ?_ ?_ hb5 rfl (mem_at 2 rfl) fun l6 hl6 => ?_
    · omega
    · omega
    obtain ⟨b0x6, c0x6, rfl, h0x6, w1x6, w2x6⟩ := gLink_rd.1 hl6
    refine VCnew.intro fun x7 => ?_
    refine draw G_ok mixed (some 5) (.q 0 (.q 1 (.q 2 (.f 3 (.f 4 (.tl 5 (.f 6 (.f 7 (.nil))))))))) (by decide +kernel) ?_
    refine call_new (copyLink_ct _ (x.links[k]?.getD default) ?_) (Rp.mono _ (mem_at 2 rfl) hl6) ?_
    · omega
    rintro v8 A8 o8
    obtain ⟨l8, rfl, o8⟩ := o8
    have r8 := Gt.owrd _ o8
    obtain ⟨b0x8, c0x8, rfl, h0x8, w1x8, w2x8⟩ := gLink_rd.1 r8
    refine VC.intro ?_ ?_
    · exact keep_new
    refine VCnew.intro fun x9 => ?_
    refine VC.intro ?_ ?_
    · exact keep_sub (by simp) (by simp)
    refine gappend1 (g := gLink) (T := (180 : TypeId)) G_ok A _ [A3, H] ?_ oA (‹gLink.ow _ _ _›) (List.mem_of_getElem? (i := 0) rfl) rfl rfl rfl rfl rfl rfl rfl rfl ?_ fun b10 c10 A10 o10 => ?_
    · exact .le fun a => by (try simp only [setR, List.cons_append, List.nil_append]); simp only [List.flatten_append, List.flatten_cons, List.flatten_nil, List.count_append, List.count_nil, List.append_nil, List.nil_append]; omega
    · simp; omega
    apply loop_stepA (k + 1, _, _, _)
    · exact .refl _
    · repeat' (first | exact trivial | refine ⟨⟨_, rfl, by first | rfl | exact inc_eq _ (by omega) | (refine sl_eq ?_; simp; done) | (refine sl_eq ?_; simp only [List.length_append, List.length_take, List.length_cons, List.length_nil]; omega), by first | exact trivial | simp [SV.ok]⟩, ?_⟩)
    · ((rw [tk1 x.links k default (by omega)]); repeat' (first | exact trivial | refine ⟨by first | rfl | simp [Blk.ent], ?_⟩))
    · try dsimp only
      exact ⟨by omega, by (rw [tk1 x.links k default (by omega)]; assumption)⟩
    · try dsimp only
      omega
  ·
    simp at q4
    have hke : k = x.links.length := by omega
    refine call_new (copyWork_ct _ (x.work) ?_) (Rp.mono _ (mem_at 2 rfl) h6p) ?_
    · omega
    rintro v11 A11 o11
    obtain ⟨l11, rfl, o11⟩ := o11
    have r11 := Gt.owrd _ o11
    obtain ⟨l1x11, b2x11, c2x11, b4x11, c4x11, l11x11, b13x11, c13x11, rfl, h1x11, h2x11, w3x11, h4x11, w5x11, w8x11, h11x11, h13x11⟩ := gWork_rd.1 r11
    obtain ⟨b1_1x11, c1_1x11, b2_1x11, c2_1x11, b3_1x11, c3_1x11, rfl, h1_1x11, h2_1x11, h3_1x11⟩ := gQuery_rd.1 h1x11
    obtain ⟨l0_11x11, b1_11x11, c1_11x11, b4_11x11, c4_11x11, rfl, h0_11x11, h1_11x11, w2_11x11, w3_11x11, h4_11x11⟩ := gCell_rd.1 h11x11
    obtain ⟨b1_0_11x11, c1_0_11x11, b2_0_11x11, c2_0_11x11, b3_0_11x11, c3_0_11x11, rfl, h1_0_11x11, h2_0_11x11, h3_0_11x11⟩ := gQuery_rd.1 h0_11x11
    refine call_new (copyAsk_ct _ (x.ask) ?_) (Rp.mono _ (mem_at 3 rfl) h7p) ?_
    · omega
    rintro v12 A12 o12
    obtain ⟨l12, rfl, o12⟩ := o12
    have r12 := Gt.owrd _ o12
    obtain ⟨l1x12, b2x12, c2x12, b4x12, c4x12, l6x12, rfl, h1x12, h2x12, w3x12, h4x12, h6x12⟩ := gAsk_rd.1 r12
    obtain ⟨b1_1x12, c1_1x12, b2_1x12, c2_1x12, b3_1x12, c3_1x12, rfl, h1_1x12, h2_1x12, h3_1x12⟩ := gQuery_rd.1 h1x12
    obtain ⟨b0_6x12, c0_6x12, rfl, h0_6x12⟩ := gBag_rd.1 h6x12
    (simp only [List.take_length, hke] at oA ⊢; exact ⟨_, ⟨_, rfl, gNode_ow.2 ⟨_, _, _, _, _, _, _, _, _, rfl, .refl _, by assumption, by assumption, by assumption, by assumption, by assumption, by assumption⟩⟩, (.le fun a => by (try simp only [setR, List.cons_append, List.nil_append]); simp only [List.flatten_append, List.flatten_cons, List.flatten_nil, List.count_append, List.count_nil, List.append_nil, List.nil_append]; omega)⟩)

--@ct spec.l26Copy new s_l26Copy_ct _ $1 ?_ | %1 | obtain ⟨l#, rfl, o#⟩ := o# ;; have r# := Gt.owrd _ o# ;; obtain ⟨l2x#, b5x#, c5x#, l6x#, l7x#, rfl, w0x#, h2x#, w3x#, h5x#, h6x#, h7x#⟩ := gNode_rd.1 r# ;; obtain ⟨b0_2x#, c0_2x#, rfl, h0_2x#⟩ := gDisk_rd.1 h2x# ;; obtain ⟨l1_6x#, b2_6x#, c2_6x#, b4_6x#, c4_6x#, l11_6x#, b13_6x#, c13_6x#, rfl, h1_6x#, h2_6x#, w3_6x#, h4_6x#, w5_6x#, w8_6x#, h11_6x#, h13_6x#⟩ := gWork_rd.1 h6x# ;; obtain ⟨b1_1_6x#, c1_1_6x#, b2_1_6x#, c2_1_6x#, b3_1_6x#, c3_1_6x#, rfl, h1_1_6x#, h2_1_6x#, h3_1_6x#⟩ := gQuery_rd.1 h1_6x# ;; obtain ⟨l0_11_6x#, b1_11_6x#, c1_11_6x#, b4_11_6x#, c4_11_6x#, rfl, h0_11_6x#, h1_11_6x#, w2_11_6x#, w3_11_6x#, h4_11_6x#⟩ := gCell_rd.1 h11_6x# ;; obtain ⟨b1_0_11_6x#, c1_0_11_6x#, b2_0_11_6x#, c2_0_11_6x#, b3_0_11_6x#, c3_0_11_6x#, rfl, h1_0_11_6x#, h2_0_11_6x#, h3_0_11_6x#⟩ := gQuery_rd.1 h0_11_6x# ;; obtain ⟨l1_7x#, b2_7x#, c2_7x#, b4_7x#, c4_7x#, l6_7x#, rfl, h1_7x#, h2_7x#, w3_7x#, h4_7x#, h6_7x#⟩ := gAsk_rd.1 h7x# ;; obtain ⟨b1_1_7x#, c1_1_7x#, b2_1_7x#, c2_1_7x#, b3_1_7x#, c3_1_7x#, rfl, h1_1_7x#, h2_1_7x#, h3_1_7x#⟩ := gQuery_rd.1 h1_7x# ;; obtain ⟨b0_6_7x#, c0_6_7x#, rfl, h0_6_7x#⟩ := gBag_rd.1 h6_7x#
theorem s_l26Copy_ct (l : List Value) (x : Node) (hx : gNode.sz x ≤ 1048576) :
    Ct Tryz.prog 50 [.agg ⟨l⟩] [] (fun H => gNode.rd H l x) (fun v A => ∃ l, v = .agg ⟨l⟩ ∧ gNode.ow l x A) := by
  refine Ct.intro0 G_ok Tryz.func50 rfl rfl rfl fun E H hp => ?_
  obtain ⟨l2p, b5p, c5p, l6p, l7p, rfl, w0p, h2p, w3p, h5p, h6p, h7p⟩ := gNode_rd.1 hp
  obtain ⟨b0_2p, c0_2p, rfl, h0_2p⟩ := gDisk_rd.1 h2p
  obtain ⟨l1_6p, b2_6p, c2_6p, b4_6p, c4_6p, l11_6p, b13_6p, c13_6p, rfl, h1_6p, h2_6p, w3_6p, h4_6p, w5_6p, w8_6p, h11_6p, h13_6p⟩ := gWork_rd.1 h6p
  obtain ⟨b1_1_6p, c1_1_6p, b2_1_6p, c2_1_6p, b3_1_6p, c3_1_6p, rfl, h1_1_6p, h2_1_6p, h3_1_6p⟩ := gQuery_rd.1 h1_6p
  obtain ⟨l0_11_6p, b1_11_6p, c1_11_6p, b4_11_6p, c4_11_6p, rfl, h0_11_6p, h1_11_6p, w2_11_6p, w3_11_6p, h4_11_6p⟩ := gCell_rd.1 h11_6p
  obtain ⟨b1_0_11_6p, c1_0_11_6p, b2_0_11_6p, c2_0_11_6p, b3_0_11_6p, c3_0_11_6p, rfl, h1_0_11_6p, h2_0_11_6p, h3_0_11_6p⟩ := gQuery_rd.1 h0_11_6p
  obtain ⟨l1_7p, b2_7p, c2_7p, b4_7p, c4_7p, l6_7p, rfl, h1_7p, h2_7p, w3_7p, h4_7p, h6_7p⟩ := gAsk_rd.1 h7p
  obtain ⟨b1_1_7p, c1_1_7p, b2_1_7p, c2_1_7p, b3_1_7p, c3_1_7p, rfl, h1_1_7p, h2_1_7p, h3_1_7p⟩ := gQuery_rd.1 h1_7p
  obtain ⟨b0_6_7p, c0_6_7p, rfl, h0_6_7p⟩ := gBag_rd.1 h6_7p
  have ez := gNode_sz (x)
  have e2z := gDisk_sz (x.disk)
  have e2n0 := len_szL gFile (x.disk.files)
  have en5 := len_szL gLink (x.links)
  have e6z := gWork_sz (x.work)
  have e61z := gQuery_sz (x.work.query)
  have e61n1 := len_szL gS (x.work.query.out)
  have e61n2 := len_szL gAtom (x.work.query.atoms)
  have e61n3 := len_szL gFilter (x.work.query.filters)
  have e6n2 := len_szL gI (x.work.shares)
  have e6n4 := len_szL gWalk (x.work.seen)
  have e611z := gCell_sz (x.work.cell)
  have e6110z := gQuery_sz (x.work.cell.query)
  have e6110n1 := len_szL gS (x.work.cell.query.out)
  have e6110n2 := len_szL gAtom (x.work.cell.query.atoms)
  have e6110n3 := len_szL gFilter (x.work.cell.query.filters)
  have e611n1 := len_szL gI (x.work.cell.shares)
  have e611n4 := len_szL gGot (x.work.cell.gots)
  have e6n13 := len_szL gMail (x.work.waits)
  have e7z := gAsk_sz (x.ask)
  have e71z := gQuery_sz (x.ask.query)
  have e71n1 := len_szL gS (x.ask.query.out)
  have e71n2 := len_szL gAtom (x.ask.query.atoms)
  have e71n3 := len_szL gFilter (x.ask.query.filters)
  have e7n2 := len_szL gI (x.ask.shares)
  have e7n4 := len_szL gGot (x.ask.results)
  have e76z := gBag_sz (x.ask.answer)
  have e76n0 := len_szL gItem (x.ask.answer.items)
  have hq := szL_eq gLink (x.links)
  refine VCnew.intro fun x0 => ?_
  refine VCnew.intro fun x1 => ?_
  refine VCnew.intro fun x2 => ?_
  refine VCnew.intro fun x3 => ?_
  refine append_allN (g := gFile) (T := (256 : TypeId)) G_ok (by repeat (first | exact fl_plain | apply plain_iso | apply plain_pair)) [] [[(x3, Obj.cells { toList := zeros (0 : Nat) [Value.string ByteArray.empty, Value.string ByteArray.empty, Value.int IntKind.i64 (0 : Int)] } (256 : TypeId))], H] 1 ?_ (sl_nil _ _ _) rfl h0_2p rfl rfl rfl rfl rfl rfl rfl rfl ?_ fun b4 c4 A4 o4 => ?_
  · exact .refl _
  · simp; omega
  refine VCnew.intro fun x5 => ?_
  apply loop_mod (α := (Nat) × (Hp) × (Option Addr) × (Nat)) G_ok [15, 16, 17, 18, 19, 22, 23, 24, 25, 26, 27, 28, 29, 30, 31, 32, 20, 21, 4] (fun z => [(4, .v (.int .i64 z.1))]) (fun z => [⟨x0, [Value.int IntKind.i64 x.id, Value.bool x.up, Value.slice b0_2p x.disk.files.length c0_2p, Value.int IntKind.i64 x.epoch, Value.bool x.joined, Value.slice b5p x.links.length c5p, Value.bool x.work.begun, Value.bool x.work.query.each, Value.slice b1_1_6p x.work.query.out.length c1_1_6p, Value.slice b2_1_6p x.work.query.atoms.length c2_1_6p, Value.slice b3_1_6p x.work.query.filters.length c3_1_6p, Value.slice b2_6p x.work.shares.length c2_6p, Value.int IntKind.i64 x.work.count, Value.slice b4_6p x.work.seen.length c4_6p, Value.int IntKind.i64 x.work.num, Value.bool x.work.black, Value.bool x.work.holds, Value.int IntKind.i64 x.work.tokNum, Value.bool x.work.tokBlack, Value.bool x.work.walked, Value.bool x.work.cell.query.each, Value.slice b1_0_11_6p x.work.cell.query.out.length c1_0_11_6p, Value.slice b2_0_11_6p x.work.cell.query.atoms.length c2_0_11_6p, Value.slice b3_0_11_6p x.work.cell.query.filters.length c3_0_11_6p, Value.slice b1_11_6p x.work.cell.shares.length c1_11_6p, Value.int IntKind.i64 x.work.cell.at', Value.int IntKind.i64 x.work.cell.n, Value.slice b4_11_6p x.work.cell.gots.length c4_11_6p, Value.bool x.work.told, Value.slice b13_6p x.work.waits.length c13_6p, Value.bool x.ask.on, Value.bool x.ask.query.each, Value.slice b1_1_7p x.ask.query.out.length c1_1_7p, Value.slice b2_1_7p x.ask.query.atoms.length c2_1_7p, Value.slice b3_1_7p x.ask.query.filters.length c3_1_7p, Value.slice b2_7p x.ask.shares.length c2_7p, Value.int IntKind.i64 x.ask.count, Value.slice b4_7p x.ask.results.length c4_7p, Value.bool x.ask.over, Value.slice b0_6_7p x.ask.answer.items.length c0_6_7p], (69 : Nat)⟩, ⟨x1, [Value.int IntKind.i64 (0 : Int), Value.bool false, Value.slice none (0 : Nat) (0 : Nat), Value.int IntKind.i64 (0 : Int), Value.bool false, Value.slice none (0 : Nat) (0 : Nat), Value.bool false, Value.bool false, Value.slice none (0 : Nat) (0 : Nat), Value.slice none (0 : Nat) (0 : Nat), Value.slice none (0 : Nat) (0 : Nat), Value.slice none (0 : Nat) (0 : Nat), Value.int IntKind.i64 (0 : Int), Value.slice none (0 : Nat) (0 : Nat), Value.int IntKind.i64 (0 : Int), Value.bool false, Value.bool false, Value.int IntKind.i64 (0 : Int), Value.bool false, Value.bool false, Value.bool false, Value.slice none (0 : Nat) (0 : Nat), Value.slice none (0 : Nat) (0 : Nat), Value.slice none (0 : Nat) (0 : Nat), Value.slice none (0 : Nat) (0 : Nat), Value.int IntKind.i64 (0 : Int), Value.int IntKind.i64 (0 : Int), Value.slice none (0 : Nat) (0 : Nat), Value.bool false, Value.slice none (0 : Nat) (0 : Nat), Value.bool false, Value.bool false, Value.slice none (0 : Nat) (0 : Nat), Value.slice none (0 : Nat) (0 : Nat), Value.slice none (0 : Nat) (0 : Nat), Value.slice none (0 : Nat) (0 : Nat), Value.int IntKind.i64 (0 : Int), Value.slice none (0 : Nat) (0 : Nat), Value.bool false, Value.slice none (0 : Nat) (0 : Nat)], (69 : Nat)⟩, ⟨x2, [Value.int IntKind.i64 x.id, Value.bool x.up, Value.slice b4 ([] ++ x.disk.files).length c4, Value.int IntKind.i64 x.epoch, Value.bool x.joined, .slice z.2.2.1 (x.links.take z.1).length z.2.2.2, Value.bool x.work.begun, Value.bool x.work.query.each, Value.slice b1_1_6p x.work.query.out.length c1_1_6p, Value.slice b2_1_6p x.work.query.atoms.length c2_1_6p, Value.slice b3_1_6p x.work.query.filters.length c3_1_6p, Value.slice b2_6p x.work.shares.length c2_6p, Value.int IntKind.i64 x.work.count, Value.slice b4_6p x.work.seen.length c4_6p, Value.int IntKind.i64 x.work.num, Value.bool x.work.black, Value.bool x.work.holds, Value.int IntKind.i64 x.work.tokNum, Value.bool x.work.tokBlack, Value.bool x.work.walked, Value.bool x.work.cell.query.each, Value.slice b1_0_11_6p x.work.cell.query.out.length c1_0_11_6p, Value.slice b2_0_11_6p x.work.cell.query.atoms.length c2_0_11_6p, Value.slice b3_0_11_6p x.work.cell.query.filters.length c3_0_11_6p, Value.slice b1_11_6p x.work.cell.shares.length c1_11_6p, Value.int IntKind.i64 x.work.cell.at', Value.int IntKind.i64 x.work.cell.n, Value.slice b4_11_6p x.work.cell.gots.length c4_11_6p, Value.bool x.work.told, Value.slice b13_6p x.work.waits.length c13_6p, Value.bool x.ask.on, Value.bool x.ask.query.each, Value.slice b1_1_7p x.ask.query.out.length c1_1_7p, Value.slice b2_1_7p x.ask.query.atoms.length c2_1_7p, Value.slice b3_1_7p x.ask.query.filters.length c3_1_7p, Value.slice b2_7p x.ask.shares.length c2_7p, Value.int IntKind.i64 x.ask.count, Value.slice b4_7p x.ask.results.length c4_7p, Value.bool x.ask.over, Value.slice b0_6_7p x.ask.answer.items.length c0_6_7p], (69 : Nat)⟩]) (fun z => [z.2.1, [(x5, Obj.cells { toList := zeros (0 : Nat) [Value.slice none (0 : Nat) (0 : Nat), Value.int IntKind.i64 (0 : Int), Value.int IntKind.i64 (0 : Int)] } (180 : TypeId))], A4, [(x3, Obj.cells { toList := zeros (0 : Nat) [Value.string ByteArray.empty, Value.string ByteArray.empty, Value.int IntKind.i64 (0 : Int)] } (256 : TypeId))], H]) (fun z => x.links.length - z.1) (fun z => z.1 ≤ x.links.length ∧ (gSl 180 gLink).ow [.slice z.2.2.1 (x.links.take z.1).length z.2.2.2] (x.links.take z.1) z.2.1) ((0, [], _, 0))
  · repeat' (first | exact trivial | refine ⟨⟨_, rfl, by first | rfl | exact inc_eq _ (by omega) | (refine sl_eq ?_; simp; done) | (refine sl_eq ?_; simp only [List.length_append, List.length_take, List.length_cons, List.length_nil]; omega), by first | exact trivial | simp [SV.ok]⟩, ?_⟩)
  · exact ⟨rfl, rfl, rfl, trivial⟩
  · try dsimp only
    exact ⟨by omega, sl_nil _ _ _⟩
  · exact .refl _
  rintro ⟨k, A, lb, lc⟩ hI
  obtain ⟨hk, oA⟩ : k ≤ x.links.length ∧ (gSl 180 gLink).ow [.slice lb (x.links.take k).length lc] (x.links.take k) A := hI
  try dsimp only
  refine VCsplit.intro (fun q6 => ?_) (fun q6 => ?_)
  ·
    simp at q6
    have hs := szE_step gLink x.links k default (by omega)
    have hs2 := szE_le gLink x.links (k + 1)
    have hs3 := gLink_sz (x.links[k]?.getD default)
    refine draw G_ok mixed (some 9) (.q 0 (.q 1 (.q 2 (.q 3 (.q 4 (.q 5 (.q 6 (.f 7 (.f 8 (.tl 9 (.f 10 (.f 11 (.nil))))))))))))) (by decide +kernel) ?_
    refine idx_rd h5p ?_ ?_ fun b7 o7 hb7 => ?_
    · omega
    · omega
    refine load_allN default (k) rfl h5p ?_ ?_ hb7 rfl (mem_at 4 rfl) fun l8 hl8 => ?_
    · omega
    · omega
    obtain ⟨b0x8, c0x8, rfl, h0x8, w1x8, w2x8⟩ := gLink_rd.1 hl8
    refine call_new (s_l18Copy_ct _ (x.links[k]?.getD default) ?_) (Rp.mono _ (mem_at 4 rfl) hl8) ?_
    · omega
    rintro v9 A9 o9
    obtain ⟨l9, rfl, o9⟩ := o9
    have r9 := Gt.owrd _ o9
    obtain ⟨b0x9, c0x9, rfl, h0x9, w1x9, w2x9⟩ := gLink_rd.1 r9
    refine VC.intro ?_ ?_
    · exact keep_new
    refine VCnew.intro fun x10 => ?_
    refine VC.intro ?_ ?_
    · exact keep_sub (by simp) (by simp)
    refine gappend1 (g := gLink) (T := (180 : TypeId)) G_ok A _ [[(x5, Obj.cells { toList := zeros (0 : Nat) [Value.slice none (0 : Nat) (0 : Nat), Value.int IntKind.i64 (0 : Int), Value.int IntKind.i64 (0 : Int)] } (180 : TypeId))], A4, [(x3, Obj.cells { toList := zeros (0 : Nat) [Value.string ByteArray.empty, Value.string ByteArray.empty, Value.int IntKind.i64 (0 : Int)] } (256 : TypeId))], H] ?_ oA (‹gLink.ow _ _ _›) (List.mem_of_getElem? (i := 0) rfl) rfl rfl rfl rfl rfl rfl rfl rfl ?_ fun b11 c11 A11 o11 => ?_
    · exact .le fun a => by (try simp only [setR, List.cons_append, List.nil_append]); simp only [List.flatten_append, List.flatten_cons, List.flatten_nil, List.count_append, List.count_nil, List.append_nil, List.nil_append]; omega
    · simp; omega
    apply loop_stepA (k + 1, _, _, _)
    · exact .refl _
    · repeat' (first | exact trivial | refine ⟨⟨_, rfl, by first | rfl | exact inc_eq _ (by omega) | (refine sl_eq ?_; simp; done) | (refine sl_eq ?_; simp only [List.length_append, List.length_take, List.length_cons, List.length_nil]; omega), by first | exact trivial | simp [SV.ok]⟩, ?_⟩)
    · ((rw [tk1 x.links k default (by omega)]); repeat' (first | exact trivial | refine ⟨by first | rfl | simp [Blk.ent], ?_⟩))
    · try dsimp only
      exact ⟨by omega, by (rw [tk1 x.links k default (by omega)]; assumption)⟩
    · try dsimp only
      omega
  ·
    simp at q6
    have hke : k = x.links.length := by omega
    refine call_new (s_l24Copy_ct _ (x.work) ?_) (Rp.mono _ (mem_at 4 rfl) h6p) ?_
    · omega
    rintro v12 A12 o12
    obtain ⟨l12, rfl, o12⟩ := o12
    have r12 := Gt.owrd _ o12
    obtain ⟨l1x12, b2x12, c2x12, b4x12, c4x12, l11x12, b13x12, c13x12, rfl, h1x12, h2x12, w3x12, h4x12, w5x12, w8x12, h11x12, h13x12⟩ := gWork_rd.1 r12
    obtain ⟨b1_1x12, c1_1x12, b2_1x12, c2_1x12, b3_1x12, c3_1x12, rfl, h1_1x12, h2_1x12, h3_1x12⟩ := gQuery_rd.1 h1x12
    obtain ⟨l0_11x12, b1_11x12, c1_11x12, b4_11x12, c4_11x12, rfl, h0_11x12, h1_11x12, w2_11x12, w3_11x12, h4_11x12⟩ := gCell_rd.1 h11x12
    obtain ⟨b1_0_11x12, c1_0_11x12, b2_0_11x12, c2_0_11x12, b3_0_11x12, c3_0_11x12, rfl, h1_0_11x12, h2_0_11x12, h3_0_11x12⟩ := gQuery_rd.1 h0_11x12
    refine call_new (s_l25Copy_ct _ (x.ask) ?_) (Rp.mono _ (mem_at 5 rfl) h7p) ?_
    · omega
    rintro v13 A13 o13
    obtain ⟨l13, rfl, o13⟩ := o13
    have r13 := Gt.owrd _ o13
    obtain ⟨l1x13, b2x13, c2x13, b4x13, c4x13, l6x13, rfl, h1x13, h2x13, w3x13, h4x13, h6x13⟩ := gAsk_rd.1 r13
    obtain ⟨b1_1x13, c1_1x13, b2_1x13, c2_1x13, b3_1x13, c3_1x13, rfl, h1_1x13, h2_1x13, h3_1x13⟩ := gQuery_rd.1 h1x13
    obtain ⟨b0_6x13, c0_6x13, rfl, h0_6x13⟩ := gBag_rd.1 h6x13
    (simp only [List.take_length, hke] at oA ⊢; exact ⟨_, ⟨_, rfl, gNode_ow.2 ⟨_, _, _, _, _, _, _, _, _, rfl, .refl _, by assumption, by assumption, by assumption, by assumption, by assumption, by assumption⟩⟩, (.le fun a => by (try simp only [setR, List.cons_append, List.nil_append]); simp only [List.flatten_append, List.flatten_cons, List.flatten_nil, List.count_append, List.count_nil, List.append_nil, List.nil_append]; omega)⟩)

end Go.Proofs.YtflfohphebmemaaGreat
