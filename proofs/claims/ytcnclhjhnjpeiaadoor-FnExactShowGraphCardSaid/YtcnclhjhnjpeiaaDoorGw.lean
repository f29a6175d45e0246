/-
  Builders of texts. Conditions: none.
-/
import Derived.Test.YtcnclhjhnjpeiaaDoorGa
import Derived.Test.YtcnclhjhnjpeiaaDoorSxZ
import Derived.Lib.Builder
import Derived.Lib.Walk
import Derived.Lib.Strings
import Derived.WalkKit
import Derived.Laws.Externs
namespace Go.Proofs.YtcnclhjhnjpeiaaDoor
open Go.SX Go.Proofs Go.RowKit
set_option maxHeartbeats 4000000

theorem sizeBuilder : (Tryd.prog.info? 49).map (·.size) = some 2 := by kernel_rfl
theorem liesBuilder : liesAt Tryd.prog Tryd.prog.depth 49 (2 / Tryd.prog.cellsOf 49) 0 49 1 = true := by kernel_rfl

set_option maxRecDepth 100000 in
theorem copyCheck_used (b : Nat) (w : World) (h0 : w.cell? ⟨b, 0, none⟩ = some (.pointer (some ⟨b, 0, none⟩))) :
    Calls Tryd.prog 45 #[.pointer (some ⟨b, 0, none⟩)] w fun e w' => e = .returned (.tuple #[]) ∧ w' = w := by
  obtain ⟨j, hj, _⟩ := Option.map_eq_some_iff.1 sizeBuilder
  have mixed := mixed
  have t49 := Tryd.underlying49; have a49 := Tryd.isAgg49; have z49 := Tryd.sizeOf49; have v49 := Tryd.zeroValue49; have u49 := run_underlying Tryd.underlying49
  have t47 := Tryd.underlying47; have a47 := Tryd.isAgg47; have z47 := Tryd.sizeOf47; have v47 := Tryd.zeroValue47; have u47 := run_underlying Tryd.underlying47
  have t9 := Tryd.underlying9; have a9 := Tryd.isAgg9; have z9 := Tryd.sizeOf9; have v9 := Tryd.zeroValue9; have u9 := run_underlying Tryd.underlying9
  have t4 := Tryd.underlying4; have a4 := Tryd.isAgg4; have z4 := Tryd.sizeOf4; have v4 := Tryd.zeroValue4; have u4 := run_underlying Tryd.underlying4
  have t92 := Tryd.underlying92; have a92 := Tryd.isAgg92; have z92 := Tryd.sizeOf92; have v92 := Tryd.zeroValue92; have u92 := run_underlying Tryd.underlying92
  go_enter Tryd.func45, Tryd.ntmps45
  go_wp2
  rw [Lib.run_neq_ptr_same w _ Tryd.underlying47 hj]
  go_wp2
  go_end0
  exact ⟨rfl, rfl⟩

set_option maxRecDepth 100000 in
theorem copyCheck_fresh (b : Nat) (w : World) (h0 : w.cell? ⟨b, 0, none⟩ = some (.pointer none)) (hsh : w.shape? b = some (49, 2)) (hfz : w.frozen? ⟨b, 0, none⟩ = false) :
    Calls Tryd.prog 45 #[.pointer (some ⟨b, 0, none⟩)] w fun e w' => e = .returned (.tuple #[]) ∧ w' = w.setCell ⟨b, 0, none⟩ (.pointer (some ⟨b, 0, none⟩)) := by
  obtain ⟨j, hj, hjs⟩ := Option.map_eq_some_iff.1 sizeBuilder
  have mixed := mixed
  have t49 := Tryd.underlying49; have a49 := Tryd.isAgg49; have z49 := Tryd.sizeOf49; have v49 := Tryd.zeroValue49; have u49 := run_underlying Tryd.underlying49
  have t47 := Tryd.underlying47; have a47 := Tryd.isAgg47; have z47 := Tryd.sizeOf47; have v47 := Tryd.zeroValue47; have u47 := run_underlying Tryd.underlying47
  have t9 := Tryd.underlying9; have a9 := Tryd.isAgg9; have z9 := Tryd.sizeOf9; have v9 := Tryd.zeroValue9; have u9 := run_underlying Tryd.underlying9
  have t4 := Tryd.underlying4; have a4 := Tryd.isAgg4; have z4 := Tryd.sizeOf4; have v4 := Tryd.zeroValue4; have u4 := run_underlying Tryd.underlying4
  have t92 := Tryd.underlying92; have a92 := Tryd.isAgg92; have z92 := Tryd.sizeOf92; have v92 := Tryd.zeroValue92; have u92 := run_underlying Tryd.underlying92
  go_enter Tryd.func45, Tryd.ntmps45
  go_wp2
  rw [Lib.run_to_unsafe w ⟨b, 0, none⟩ Tryd.underlying47 Tryd.underlying92 hj (by rw [hjs]; decide) hsh (Nat.zero_lt_succ 1)]
  simp only [Result.andThen]
  rw [Oper.upon_value]
  go_wp2
  rw [run_callFunc_extern Tryd.func62 (by kernel_rfl) (by kernel_rfl) (by kernel_rfl) (e := Extern.AbiNoEscape.same) (by kernel_rfl)]
  rw [Lib.run_noEscape]
  simp only [Result.andThen]
  rw [Oper.upon_value]
  go_wp2
  rw [Lib.run_from_unsafe w ⟨b, 0, none⟩ Tryd.underlying92 Tryd.underlying47 hj hsh liesBuilder]
  simp only [Result.andThen]
  rw [Oper.upon_value]
  go_wp2
  go_end0
  exact ⟨rfl, rfl⟩

theorem copyCheck_ct (b : Nat) (ad v : Value) (ha : ad = .pointer none ∨ ad = .pointer (some ⟨b, 0, none⟩)) :
    CtR Tryd.prog 45 [.pointer (some ⟨b, 0, none⟩)] [(b, Obj.cells ⟨[ad, v]⟩ 49)] (fun _ => True) (fun r A => r = .tuple #[] ∧ A = [(b, Obj.cells ⟨[.pointer (some ⟨b, 0, none⟩), v]⟩ 49)]) := by
  refine ⟨⟨_, Tryd.func45, by decide +kernel, rfl⟩, fun E H w hs _ => ?_⟩
  have hmem : (b, Obj.cells ⟨[ad, v]⟩ 49) ∈ ([(b, Obj.cells ⟨[ad, v]⟩ 49)] : Hp) ++ H := List.mem_append_left _ (List.mem_singleton.2 rfl)
  have hc := hs.cell hmem 0
  have hheap := hs.mem _ _ hmem
  rcases ha with rfl | rfl
  · refine (copyCheck_fresh b w (by rw [hc]; rfl) (by simp [World.shape?, hheap]) (by simp [World.frozen?, hheap])).mono ?_
    rintro e w' ⟨rfl, rfl⟩
    refine ⟨_, _, rfl, ⟨rfl, rfl⟩, ?_⟩
    refine Sat.upd (A := []) hs rfl rfl rfl ?_ ?_
    · show (w.heap.modify b _)[b]? = _
      rw [Array.getElem?_modify, if_pos rfl, hheap]; rfl
    · intro i hne
      simp only [World.setCell, Array.getElem?_modify]
      rw [if_neg (fun e => hne e.symm)]
  · refine (copyCheck_used b w (by rw [hc]; rfl)).mono ?_
    rintro e w' ⟨rfl, rfl⟩
    exact ⟨_, _, rfl, ⟨rfl, rfl⟩, hs⟩
--@ct (*strings.Builder).copyCheck blk0 copyCheck_ct _ _ _ !a | | rintro _ A# ⟨rfl, rfl⟩ ;; refine ⟨_, _, [], rfl, perm0, ?_⟩

--@ct (*strings.Builder).WriteString blk1 WriteString_ct _ _ _ _ _ _ _ _ !a !o !z ?_ | | rintro _ A# ⟨rfl, bb#, bc#, B#, rfl, o#, z#⟩ ;; refine ⟨_, _, [B#], rfl, perm1, ?_⟩
theorem WriteString_ct (b : Nat) (ad : Value) (base : Option Addr) (m cap : Nat) (xs : List UInt8) (A : Hp) (s : ByteArray) (ha : ad = .pointer none ∨ ad = .pointer (some ⟨b, 0, none⟩)) (ho : (gSl 5 gY).ow [.slice base m cap] xs A) (hz : Bz base cap) (hl : xs.length + s.size ≤ 1073741824) :
    CtR Tryd.prog 24 [.pointer (some ⟨b, 0, none⟩), .string s] ((b, Obj.cells ⟨[ad, .slice base m cap]⟩ 49) :: A) (fun _ => True) (fun r A' => r = .tuple #[.int .i64 s.size, .nilIface] ∧
      ∃ base' cap' B, A' = (b, Obj.cells ⟨[.pointer (some ⟨b, 0, none⟩), .slice base' (xs ++ s.data.toList).length cap']⟩ 49) :: B ∧ (gSl 5 gY).ow [.slice base' (xs ++ s.data.toList).length cap'] (xs ++ s.data.toList) B ∧ Bz base' cap') := by
  obtain ⟨rfl, hcl, hll⟩ := sl_len (Gt.owrd _ ho)
  refine CtR.introB G_ok [.p 0 0, .v (.string s)] [⟨b, [ad, .slice base xs.length cap], 49⟩] [A] Tryd.func24 rfl rfl rfl rfl (by simp [SV.ok]) (by simp [Blk.ent]) fun E H hp => ?_
  have ha' := ha
  refine callR_blk 0 ([]) [A, H] rfl ?_ (copyCheck_ct _ _ _ (by first | exact .inl rfl | exact .inr rfl | assumption)) trivial ?_
  · exact .refl _
  rintro _ A0 ⟨rfl, rfl⟩
  refine ⟨_, _, [], rfl, perm0, ?_⟩
  refine append_str G_ok 0 rfl ho hz rfl rfl rfl rfl rfl rfl rfl rfl ?_ fun b1 c1 A1 o1 z1 => ?_
  · trivial
  exact ⟨_, ⟨rfl, _, _, _, rfl, ‹_›, ‹_›⟩, .le fun a => by simp [List.count_cons, Blk.ent, setR, idOf]⟩

--@ct (*strings.Builder).String blk1 String_ct _ _ _ _ _ _ _ !o !z | | rintro _ A# ⟨rfl, rfl⟩ ;; refine ⟨_, _, [], rfl, perm0, ?_⟩
theorem String_ct (b : Nat) (ad : Value) (base : Option Addr) (m cap : Nat) (xs : List UInt8) (A : Hp) (ho : (gSl 5 gY).ow [.slice base m cap] xs A) (hz : Bz base cap) :
    CtR Tryd.prog 26 [.pointer (some ⟨b, 0, none⟩)] ((b, Obj.cells ⟨[ad, .slice base m cap]⟩ 49) :: A) (fun _ => True) (fun r A' => r = .string ⟨xs.toArray⟩ ∧ A' = [(b, Obj.cells ⟨[ad, .slice base m cap]⟩ 49)]) := by
  obtain ⟨rfl, hcl, hll⟩ := sl_len (Gt.owrd _ ho)
  refine CtR.introB G_ok [.p 0 0] [⟨b, [ad, .slice base xs.length cap], 49⟩] [A] Tryd.func26 rfl rfl rfl rfl (by simp [SV.ok]) (by simp [Blk.ent]) fun E H hp => ?_
  refine draw G_ok mixed (some 10) (.q 0 (.q 1 (.q 2 (.q 3 (.q 5 (.q 6 (.q 7 (.q 8 (.q 9 (.f 4 (.tl 10 (.f 11 (.nil))))))))))))) (by decide +kernel) ?_
  refine sliceData rfl hz ?_
  refine VC.intro ?_ ?_
  · exact fun _ h => h
  refine unsafeStr G_ok 0 rfl ho rfl rfl rfl (by kernel_rfl) ?_
  exact ⟨_, ⟨rfl, rfl⟩, .le fun a => by simp [List.count_cons, Blk.ent, setR]⟩

end Go.Proofs.YtcnclhjhnjpeiaaDoor
