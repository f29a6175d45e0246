/-
  An element put into a slice at its place (slices.Insert), edges. Conditions: none.
-/
import Derived.Test.YtcikookachejfaaSxI
import Derived.Test.YtcikookachejfaaJb
import Derived.Test.YtcikookachejfaaJl
namespace Go.Proofs.Ytcikookachejfaa
open Go.SX Go.Proofs
set_option linter.unusedSimpArgs false
set_option linter.unusedVariables false
set_option maxHeartbeats 4000000
attribute [local irreducible] IntKind.wrap

theorem ins_grow {α : Type} {ls : List α} {y z : α} {i L k m1 m2 : Nat} (hi : i < ls.length) (hk : k = ls.length + 1 - i) (hm1 : m1 = 1) (hL : L = i + 1) (hm2 : m2 = ls.length - i) :
    ((ls.take i ++ List.replicate k z).take i ++ ([y].take m1 ++ (ls.take i ++ List.replicate k z).drop (i + m1))).take L ++ (((ls.take ls.length).drop i).take m2 ++ ((ls.take i ++ List.replicate k z).take i ++ ([y].take m1 ++ (ls.take i ++ List.replicate k z).drop (i + m1))).drop (L + m2)) = ls.take i ++ ([y] ++ ls.drop i) := by
  subst hk hm1 hL hm2
  have h1 : (ls.take i).length = i := by rw [List.length_take]; omega
  have e1 : (ls.take i ++ List.replicate (ls.length + 1 - i) z).take i = ls.take i := by
    conv => lhs; arg 1; rw [← h1]
    rw [List.take_left]
  rw [e1, List.take_length, show [y].take 1 = [y] from rfl]
  rw [List.take_of_length_le (show (ls.drop i).length ≤ ls.length - i by rw [List.length_drop]; omega)]
  have e2 : (ls.take i ++ ([y] ++ (ls.take i ++ List.replicate (ls.length + 1 - i) z).drop (i + 1))).take (i + 1) = ls.take i ++ [y] := by
    rw [← List.append_assoc, show i + 1 = (ls.take i ++ [y]).length by rw [List.length_append, h1]; rfl, List.take_left]
  have e3 : (ls.take i ++ ([y] ++ (ls.take i ++ List.replicate (ls.length + 1 - i) z).drop (i + 1))).drop (i + 1 + (ls.length - i)) = [] :=
    List.drop_eq_nil_of_le (by simp only [List.length_append, h1, List.length_drop, List.length_replicate, List.length_cons, List.length_nil]; omega)
  rw [e2, e3, List.append_nil, List.append_assoc]
theorem ins_room {α : Type} {ls : List α} {y : α} {i L m1 : Nat} (hi : i < ls.length) (hm1 : m1 = 1) (hL : L = i + 1) :
    (ls.take L ++ (ls.take ls.length).drop i).take i ++ ([y].take m1 ++ (ls.take L ++ (ls.take ls.length).drop i).drop (i + m1)) = ls.take i ++ ([y] ++ ls.drop i) := by
  subst hm1 hL
  have h1 : (ls.take (i + 1)).length = i + 1 := by rw [List.length_take]; omega
  rw [List.take_append_of_le_length (by omega), List.take_take, Nat.min_eq_left (by omega), List.take_length, show [y].take 1 = [y] from rfl]
  congr 2
  conv => lhs; arg 1; rw [← h1]
  rw [List.drop_left]
theorem ow_some {α : Type} {f : Fl α} {T : TypeId} {b : Option Addr} {m c : Nat} {xs : List α} {A : Hp} (h : Ow f T (.slice b m c) xs A) (h0 : 0 < xs.length) : ∃ bb cs, b = some ⟨bb, 0, none⟩ ∧ A = [(bb, Obj.cells ⟨cs⟩ T)] ∧ cs.length ≠ 0 := by
  obtain ⟨_, _, b0, c0, e, h2⟩ := h
  cases e
  rcases h2 with ⟨rfl, rfl, rfl⟩ | ⟨bb, sp, rfl, rfl, _, _⟩
  · exact absurd h0 (Nat.lt_irrefl 0)
  · refine ⟨bb, _, rfl, rfl, ?_⟩
    rw [List.length_append, flat_length]
    have h3 : 0 < f.size := f.pos
    have := Nat.mul_le_mul h0 h3
    simp at this; omega
theorem sb_two {c l bb sz : Nat} (h : l < c) : subBase (c - 0) l (subBase c 0 (some ⟨bb, 0, none⟩) sz) sz = some ⟨bb, 0 + l * sz, none⟩ := by
  have h0 : subBase c 0 (some ⟨bb, 0, none⟩) sz = some ⟨bb, 0, none⟩ := by
    rw [subBase_eq]; split
    · rfl
    · rw [Option.map_some, addr_add]; simp
  rw [h0, subBase_eq, if_neg (by omega), Option.map_some, addr_add]
theorem ovEdge {E : World} {bl : List Blk} {R : List Hp} {K : Value → List Blk → List Hp → Prop} {a b : Addr} {la ca lb cb : Nat} {c1 c2 : Array Value} {t1 t2 : TypeId} {H : Hp}
    (hsp : (St.hall ⟨[], bl, R⟩).Perm ((b.block, Obj.cells c2 t2) :: H)) (m1 : (a.block, Obj.cells c1 t1) ∈ H) (h0 : c2.size ≠ 0) (hk : K (.bool false) bl R) :
    VCcall Try.prog E 243 [.slice (some a) la ca, .slice (some b) lb cb] ⟨[], bl, R⟩ K :=
  call_overlaps (tS := 56) (tR := 4) Try.func243 (by kernel_rfl) (by kernel_rfl) (by kernel_rfl) (by kernel_rfl) Try.underlying56 Try.sizeOf192 hsp m1 h0 hk
theorem ovEdge2 {E : World} {bl : List Blk} {R : List Hp} {K : Value → List Blk → List Hp → Prop} {x bb c l sz la ca lb cb : Nat} {c1 c2 : Array Value} {t1 t2 : TypeId} {H : Hp} (hl : l < c)
    (hsp : (St.hall ⟨[], bl, R⟩).Perm ((bb, Obj.cells c2 t2) :: H)) (m1 : (x, Obj.cells c1 t1) ∈ H) (h0 : c2.size ≠ 0) (hk : K (.bool false) bl R) :
    VCcall Try.prog E 243 [.slice (some ⟨x, 0, none⟩) la ca, .slice (subBase (c - 0) l (subBase c 0 (some ⟨bb, 0, none⟩) sz) sz) lb cb] ⟨[], bl, R⟩ K := by
  rw [sb_two hl]
  exact ovEdge (b := ⟨bb, 0 + l * sz, none⟩) (a := ⟨x, 0, none⟩) hsp m1 h0 hk
--@ct slices.overlaps[impl.Edge] raw refine ovEdge2 (H := H ++ []) ?_ (.refl _) (List.mem_append_left _ hmem) (by simpa using hcs) ?_
--@ct slices.Insert[[]impl.Edge,impl.Edge] raw refine callR_at &1 rfl (insEdge_ct _ _ _ _ _ _ _ _ _ ~1 (gEdge_own ‹gEdge.rd _ _ _›) ?_ ?_) (mem_at @3 rfl _ (List.mem_singleton.2 rfl)) ?_ | | rintro _ A# ⟨b#, c#, rfl, o#⟩
theorem insRaw_ct (b : Option Addr) (m c i x : Nat) (ls : List (RawC gEdge.size)) (y : RawC gEdge.size) (A : Hp) (hA : Ow (flRaw gEdge.size gEdge.pos) 192 (.slice b m c) ls A) (hi : i ≤ m) (hm : m ≤ 1000000) :
    CtR Try.prog 222 [.slice b m c, .int .i64 (i : Int), .slice (some ⟨x, 0, none⟩) 1 1] A (fun H => (rpSl (flRaw gEdge.size gEdge.pos).rp).rd H [.slice (some ⟨x, 0, none⟩) 1 1] [y] ∧ (x, Obj.cells ⟨y.1⟩ 192) ∈ H)
      (fun v A => ∃ b c, v = .slice b (m + 1) c ∧ Ow (flRaw gEdge.size gEdge.pos) 192 (.slice b (m + 1) c) (ls.take i ++ ([y] ++ ls.drop i)) A) := by
  refine CtR.intro G_ok [A] Try.func222 rfl rfl rfl (by simp) fun E H hp => ?_
  obtain ⟨hp, hmem⟩ := hp
  obtain ⟨rfl, hlm⟩ := rd_len hA.rd
  have hcl := rd_cap hA.rd
  have hwA : IntKind.i64.wrap (IntKind.i64.wrap ((ls.length : Int) + ((1 : Nat) : Int)) - (i : Int)) = ((ls.length + 1 - i : Nat) : Int) := by
    have e1 : IntKind.i64.wrap ((ls.length : Int) + ((1 : Nat) : Int)) = (ls.length : Int) + 1 := wrap_of (by omega) (by omega)
    rw [e1, wrap_of (by omega) (by omega)]; omega
  have hwB : (IntKind.i64.wrap ((i : Int) + ((1 : Nat) : Int))).toNat = i + 1 := by
    have e1 : IntKind.i64.wrap ((i : Int) + ((1 : Nat) : Int)) = (i : Int) + 1 := wrap_of (by omega) (by omega)
    rw [e1]; exact Int.toNat_natCast (i + 1)
  have hwC : (IntKind.i64.wrap ((ls.length : Int) + ((1 : Nat) : Int))).toNat = ls.length + 1 := by
    have e1 : IntKind.i64.wrap ((ls.length : Int) + ((1 : Nat) : Int)) = (ls.length : Int) + 1 := wrap_of (by omega) (by omega)
    rw [e1]; exact Int.toNat_natCast (ls.length + 1)
  refine VC.intro ?_ ?_
  · omega
  refine VCsplit.intro (fun q0 => ?_) (fun q0 => ?_)
  ·
    simp at q0
  ·
    simp at q0
    refine VCsplit.intro (fun q1 => ?_) (fun q1 => ?_)
    ·
      simp at q1
      refine append_ow (f := flRaw gEdge.size gEdge.pos) G_ok 0 rfl hA (Rp.mono _ (mem_at 1 rfl) hp) (fun _ _ => trivial) rfl rfl rfl rfl rfl rfl rfl rfl ?_ fun b' c' A' o' hc' => ?_
      · simp; omega
      (have hi0 : i = ls.length := (by omega); subst hi0; rw [show ls.take ls.length ++ ([y] ++ ls.drop ls.length) = ls ++ [y] by simp]; exact ⟨_, ⟨_, _, rfl, o'⟩, (.le fun a => by (try simp only [setR, List.cons_append, List.nil_append]); simp only [List.flatten_append, List.flatten_cons, List.flatten_nil, List.count_append, List.count_nil, List.append_nil, List.nil_append]; omega)⟩)
    ·
      simp at q1
      refine VCsplit.intro (fun q2 => ?_) (fun q2 => ?_)
      ·
        simp at q2
        simp (disch := omega) only [wrap_of] at q2
        refine VC.intro ?_ ?_
        · omega
        refine append_zeros (f := flRaw gEdge.size gEdge.pos) (z := (⟨_, raw_of (gEdge.owrd zEdge_ow)⟩ : RawC gEdge.size)) (xs := ls.take i) (base := b) (m := i) (cap := c) (k := ls.length + 1 - i) G_ok rfl (congrArg (fun v => SV.v (Value.int .i64 v)) hwA) (rd_pre (Rp.mono _ (mem_at 0 rfl) (Ow.rd hA)) i hi) (fun _ _ => trivial) rfl rfl rfl rfl rfl trivial rfl ?_ ?_ ?_ fun b' c' A' o' => ?_
        · omega
        · omega
        · omega
        refine VC.intro ?_ ?_
        · simp; omega
        refine copy_ow (f := flRaw gEdge.size gEdge.pos) (l := i) G_ok 0 rfl o' rfl rfl (Rp.mono _ (mem_at 2 rfl) hp) (fun _ _ => trivial) ?_ rfl rfl rfl fun A2 o2 => ?_
        · simp; omega
        refine draw G_ok mixed (some 8) (.q 0 (.q 1 (.q 2 (.q 3 (.q 4 (.q 5 (.q 6 (.q 7 (.tl 8 (.nil)))))))))) (by decide +kernel) ?_
        refine VC.intro ?_ ?_
        · simp_all; omega
        refine VC.intro ?_ ?_
        · omega
        refine copy_ow (f := flRaw gEdge.size gEdge.pos) G_ok 0 rfl o2 rfl rfl (rd_sub (l := i) (h := ls.length) (Rp.mono _ (mem_at 1 rfl) (Ow.rd hA)) hi (Nat.le_refl _)) (fun _ _ => trivial) ?_ rfl rfl rfl fun A3 o3 => ?_
        · simp_all; omega
        (have hlz : (ls.take i ++ List.replicate (ls.length + 1 - i) (⟨_, raw_of (gEdge.owrd zEdge_ow)⟩ : RawC gEdge.size)).length = ls.length + 1 := (by simp only [List.length_append, List.length_take, List.length_replicate]; omega); rw [ins_grow (by omega) rfl (by simp only [List.length_append, List.length_take, List.length_replicate]; omega) hwB (by simp only [hwB, List.length_append, List.length_take, List.length_replicate, List.length_drop, List.length_cons, List.length_nil]; omega)] at o3; rw [hlz] at o3 ⊢; exact ⟨_, ⟨_, _, rfl, o3⟩, (.le fun a => by (try simp only [setR, List.cons_append, List.nil_append]); simp only [List.flatten_append, List.flatten_cons, List.flatten_nil, List.count_append, List.count_nil, List.append_nil, List.nil_append]; omega)⟩)
      ·
        simp at q2
        simp (disch := omega) only [wrap_of] at q2
        obtain ⟨bb, cs, rfl, rfl, hcs⟩ := ow_some hA (by omega)
        refine VC.intro ?_ ?_
        · (simp (disch := omega) only [wrap_of]; omega)
        refine VC.intro ?_ ?_
        · (simp (disch := omega) only [wrap_of]; omega)
        refine ovEdge2 (H := H ++ []) ?_ (.refl _) (List.mem_append_left _ hmem) (by simpa using hcs) ?_
        · (simp (disch := omega) only [wrap_of]; omega)
        refine VCsplit.intro (fun q4 => ?_) (fun q4 => ?_)
        ·
          simp at q4
          refine draw G_ok mixed (some 8) (.q 0 (.q 1 (.q 2 (.q 3 (.q 4 (.q 5 (.q 6 (.q 7 (.tl 8 (.nil)))))))))) (by decide +kernel) ?_
          refine VC.intro ?_ ?_
          · (simp (disch := omega) only [wrap_of]; omega)
          refine VC.intro ?_ ?_
          · (simp (disch := omega) only [wrap_of]; omega)
          refine copy_end (f := flRaw gEdge.size gEdge.pos) (l := (IntKind.i64.wrap ((i : Int) + ((1 : Nat) : Int))).toNat) (q := ls.length - i) (ys := (ls.take ls.length).drop i) G_ok 0 rfl hA rfl rfl (rd_sub (l := i) (h := ls.length) (Rp.mono _ (mem_at 0 rfl) (Ow.rd hA)) hi (Nat.le_refl _)) ?_ (fun _ _ => trivial) ?_ ?_ ?_ ?_ ?_ rfl rfl rfl fun A2 o2 => ?_
          · (simp (disch := omega) only [wrap_of]; omega)
          · (simp (disch := omega) only [wrap_of]; omega)
          · (simp (disch := omega) only [wrap_of]; omega)
          · (simp (disch := omega) only [wrap_of]; omega)
          · omega
          · (simp (disch := omega) only [wrap_of]; omega)
          refine VC.intro ?_ ?_
          · (simp (disch := omega) only [wrap_of]; omega)
          refine copy_ow (f := flRaw gEdge.size gEdge.pos) (l := i) G_ok 0 rfl o2 rfl rfl (Rp.mono _ (mem_at 1 rfl) hp) (fun _ _ => trivial) ?_ rfl rfl rfl fun A3 o3 => ?_
          · (simp (disch := omega) only [wrap_of]; omega)
          (have hlz : (IntKind.i64.wrap ((i : Int) + ((1 : Nat) : Int))).toNat + (ls.length - i) = ls.length + 1 := (by rw [hwB]; omega); rw [ins_room (by omega) (by simp only [hwC]; omega) hwB] at o3; rw [hlz] at o3; rw [hwC]; exact ⟨_, ⟨_, _, rfl, o3⟩, (.le fun a => by (try simp only [setR, List.cons_append, List.nil_append]); simp only [List.flatten_append, List.flatten_cons, List.flatten_nil, List.count_append, List.count_nil, List.append_nil, List.nil_append]; omega)⟩)
        ·
          simp at q4

end Go.Proofs.Ytcikookachejfaa
