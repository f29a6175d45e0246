/-
  The graph of the disks, on both sides. Conditions: none.
-/
import Derived.Test.YtcikookachejfaaJo
namespace Go.Proofs.Ytcikookachejfaa
open Go.SX Go.Proofs
set_option linter.unusedSimpArgs false
set_option linter.unusedVariables false
set_option maxHeartbeats 4000000
attribute [local irreducible] IntKind.wrap

theorem graph_ow {b : Option Addr} {c : Nat} {g : Graph} {A : Hp} (hs : okI g.size) (h : (gSl 192 gEdge).ow [.slice b g.edges.length c] g.edges A) : gGraph.ow [.int .i64 g.size, .slice b g.edges.length c] g A := gGraph_ow.2 ⟨b, c, A, rfl, by simp, hs, h⟩
theorem readGraph_ok {t : ByteArray} {g : Graph} (h : readGraph t = some g) : graphOk g = true := by
  cases e : rgOk t (rgN t) with
  | false => rw [rg_no e] at h; cases h
  | true =>
    rw [rg_yes e] at h; cases h
    unfold rgOk at e
    simp only [Bool.and_eq_true] at e
    exact e.2.2.2
theorem rp_rng (d : Disk) : 0 ≤ (rpR d).size ∧ (rpR d).size ≤ 12 ∧ (rpR d).edges.length ≤ 40 := by
  cases h : readPart d with
  | none => rw [(rp_none h).1]; exact ⟨Int.le_refl _, by decide, Nat.zero_le _⟩
  | some g =>
    rw [(rp_some h).1]
    have h1 : g ∈ (recordsOf d (ByteArray.mk #[112, 97, 114, 116])).filterMap readGraph := by
      unfold readPart lastG at h
      exact List.mem_of_getLast? h
    obtain ⟨t, _, h2⟩ := List.mem_filterMap.1 h1
    have h3 := graphOk_rng (readGraph_ok h2)
    exact ⟨by omega, h3.2.1, h3.2.2⟩
theorem rp_okI (d : Disk) : okI (rpR d).size := by have := rp_rng d; unfold okI; omega
theorem tg_rng (l : List Graph) : 0 ≤ (tgR l).size ∧ (tgR l).size ≤ 12 ∧ (tgR l).edges.length ≤ 40 := by
  cases h : together l with
  | none => rw [(tg_none h).1]; exact ⟨Int.le_refl _, by decide, Nat.zero_le _⟩
  | some g =>
    rw [(tg_some h).1]
    have h3 : graphOk g = true := by
      by_cases hl : l = []
      · rw [hl] at h; cases h
      · rw [tog_case hl] at h
        split at h
        · rename_i h4
          cases h
          rw [Bool.and_eq_true] at h4
          exact h4.2
        · cases h
    have := graphOk_rng h3
    exact ⟨by omega, this.2.1, this.2.2⟩
/-- the parts of disks, if all have one -/
def partsOf (ds : List Disk) : List Graph := ds.map rpR
def haveAll (ds : List Disk) : Bool := ds.all fun d => (readPart d).isSome
def gathered (ds : List Disk) : Option Graph := if haveAll ds then together (partsOf ds) else none
def gaR (ds : List Disk) : Graph := (gathered ds).getD ⟨0, []⟩
theorem ga_no {ds : List Disk} (h : haveAll ds = false) : gaR ds = ⟨0, []⟩ ∧ (gathered ds).isSome = false := by unfold gaR gathered; rw [h]; exact ⟨rfl, rfl⟩
theorem ga_yes {ds : List Disk} (h : haveAll ds = true) : gaR ds = tgR (partsOf ds) ∧ (gathered ds).isSome = (together (partsOf ds)).isSome := by unfold gaR gathered tgR; rw [h]; exact ⟨rfl, rfl⟩
theorem parts_len (ds : List Disk) : (partsOf ds).length = ds.length := by unfold partsOf; rw [List.length_map]
theorem parts_next {ds : List Disk} {k : Nat} (hk : k < ds.length) : partsOf (ds.take (k + 1)) = partsOf (ds.take k) ++ [rpR (ds[k]?.getD default)] := by
  unfold partsOf
  rw [← List.take_append_getElem hk, List.map_append, List.getElem?_eq_getElem hk]; rfl
theorem have_next {ds : List Disk} {k : Nat} (hk : k < ds.length) (h : haveAll (ds.take k) = true) (h2 : (readPart (ds[k]?.getD default)).isSome = true) : haveAll (ds.take (k + 1)) = true := by
  unfold haveAll at *
  rw [List.getElem?_eq_getElem hk] at h2
  rw [← List.take_append_getElem hk, List.all_append, h]
  simpa using h2
theorem have_not {ds : List Disk} {k : Nat} (hk : k < ds.length) (h2 : (readPart (ds[k]?.getD default)) = none) : haveAll ds = false := by
  unfold haveAll
  rw [List.getElem?_eq_getElem hk] at h2
  rw [List.all_eq_false]
  exact ⟨ds[k], List.getElem_mem hk, by simpa using h2⟩
theorem ga_rng (ds : List Disk) : 0 ≤ (gaR ds).size ∧ (gaR ds).size ≤ 12 ∧ (gaR ds).edges.length ≤ 40 := by
  cases h : haveAll ds with
  | false => rw [(ga_no h).1]; exact ⟨Int.le_refl _, by decide, Nat.zero_le _⟩
  | true => rw [(ga_yes h).1]; exact tg_rng _
theorem ga_okI (ds : List Disk) : okI (gaR ds).size := by have := ga_rng ds; unfold okI; omega
theorem gR_sz {g : Graph} (h : g.edges.length ≤ 40) : gGraph.sz g ≤ 40 := by
  have h1 : ∀ l : List Edge, szL gEdge l = l.length := by
    intro l
    induction l with
    | nil => rfl
    | cons e r ih => show 1 + gEdge.sz e + szL gEdge r = r.length + 1; rw [ih, show gEdge.sz e = 0 from rfl]; omega
  rw [gGraph_sz, h1]; omega
attribute [local irreducible] readPart rpR tgR together
--@ct impl.Gathered new implGathered_ct _ _ _ $1 ?_ | %1 | obtain ⟨b#, c#, rfl, o#⟩ := o# ;; have r# := Gt.owrd _ (graph_ow (ga_okI _) o#)
theorem implGathered_ct (b : Option Addr) (m c : Nat) (xs : List Disk) (hx : xs.length ≤ 1048576) : Ct Try.prog 33 [.slice b m c] [] (fun H => (gSl 128 gDisk).rd H [.slice b m c] xs) (fun v A => ∃ b c, v = .tuple #[.agg ⟨[.int .i64 (gaR xs).size, .slice b (gaR xs).edges.length c]⟩, .bool (gathered xs).isSome] ∧ (gSl 192 gEdge).ow [.slice b (gaR xs).edges.length c] (gaR xs).edges A) := by
  refine Ct.intro0 G_ok Try.func33 rfl rfl rfl fun E H hp => ?_
  obtain ⟨rfl, hcl, hl⟩ := sl_len hp
  refine VCnew.intro fun x0 => ?_
  apply loop_mod (α := (Nat) × (Hp) × (Option Addr) × (Nat)) G_ok [12, 13, 14, 6, 16, 17, 15, 18, 19, 7, 8, 20, 21, 22, 3, 23, 24, 25, 26, 4, 27, 11] (fun z => [(11, .v (.int .i64 z.1)), (4, .v (.slice z.2.2.1 (partsOf (xs.take z.1)).length z.2.2.2)), (3, .v (.bool false))]) (fun z => [{ id := x0, cs := [Value.int IntKind.i64 (0 : Int), Value.slice none (0 : Nat) (0 : Nat)], ty := (58 : Nat) }]) (fun z => [z.2.1, H]) (fun z => xs.length - z.1) (fun z => z.1 ≤ xs.length ∧ haveAll (xs.take z.1) = true ∧ (gSl 58 gGraph).ow [.slice z.2.2.1 (partsOf (xs.take z.1)).length z.2.2.2] (partsOf (xs.take z.1)) z.2.1) ((0, [], none, 0))
  · repeat' (first | exact trivial | refine ⟨⟨_, rfl, by first | rfl | exact inc_eq _ (by omega) | (refine sl_eq ?_; simp; done) | (refine sl_eq ?_; rw [parts_next (by omega)]), by first | exact trivial | simp [SV.ok]⟩, ?_⟩)
  · exact ⟨rfl, trivial⟩
  · try dsimp only
    exact ⟨by omega, rfl, sl_nil _ _ _⟩
  · exact .refl _
  rintro ⟨k, A, lb, lc⟩ hI
  obtain ⟨hk, ha, oA⟩ : k ≤ xs.length ∧ haveAll (xs.take k) = true ∧ (gSl 58 gGraph).ow [.slice lb (partsOf (xs.take k)).length lc] (partsOf (xs.take k)) A := hI
  try dsimp only
  refine VCsplit.intro (fun q1 => ?_) (fun q1 => ?_)
  ·
    simp at q1
    refine idx_rd hp ?_ ?_ fun b2 o2 hb2 => ?_
    · omega
    · omega
    refine load_allN default (k) rfl hp ?_ ?_ hb2 rfl (mem_at 1 rfl) fun l3 hl3 => ?_
    · omega
    · omega
    obtain ⟨b0x3, c0x3, rfl, h0x3⟩ := gDisk_rd.1 hl3
    refine VCnew.intro fun x4 => ?_
    refine call_new (implReadPart_ct _ (xs[k]?.getD default)) (Rp.mono _ (mem_at 1 rfl) hl3) ?_
    rintro v5 A5 o5
    obtain ⟨b5, c5, rfl, o5⟩ := o5
    refine VCnew.intro fun x6 => ?_
    refine VCsplit.intro (fun q7 => ?_) (fun q7 => ?_)
    ·
      simp at q7
      (obtain ⟨e1, e2⟩ := ga_no (have_not (by omega) ‹readPart _ = none›); rw [e1, e2]; exact ⟨[], ⟨none, 0, rfl, sl_nil _ _ _⟩, (.le fun a => by (try simp only [setR, List.cons_append, List.nil_append]); simp [List.count_cons, Blk.ent, idOf]; try omega)⟩)
    ·
      simp at q7
      refine VCnew.intro fun x8 => ?_
      refine gappend1 (g := gGraph) (T := (58 : TypeId)) G_ok A _ [H] ?_ oA (graph_ow (rp_okI _) ‹(gSl _ gEdge).ow _ _ _›) (List.mem_of_getElem? (i := 0) rfl) rfl rfl rfl rfl rfl rfl rfl rfl ?_ fun b9 c9 A9 o9 => ?_
      · exact .le fun a => by (try simp only [setR, List.cons_append, List.nil_append]); simp only [List.flatten_append, List.flatten_cons, List.flatten_nil, List.count_append, List.count_nil, List.append_nil, List.nil_append]; omega
      · (rw [parts_len, List.length_take]; omega)
      apply loop_stepA (k + 1, _, _, _)
      · exact .refl _
      · repeat' (first | exact trivial | refine ⟨⟨_, rfl, by first | rfl | exact inc_eq _ (by omega) | (refine sl_eq ?_; simp; done) | (refine sl_eq ?_; rw [parts_next (by omega)]), by first | exact trivial | simp [SV.ok]⟩, ?_⟩)
      · exact ⟨rfl, trivial⟩
      · try dsimp only
        (rw [parts_next (by omega)]; exact ⟨by omega, have_next (by omega) ha ‹_ = true›, by assumption⟩)
      · try dsimp only
        omega
  ·
    simp at q1
    obtain rfl : k = xs.length := by omega
    simp only [List.take_length] at ha oA ⊢
    obtain ⟨e1, e2⟩ := ga_yes ha
    refine call_new (implTogether_ct _ _ _ (partsOf xs) ?_) (Rp.mono _ (mem_at 0 rfl) (Gt.owrd _ oA)) ?_
    · (rw [parts_len]; omega)
    rintro v10 A10 o10
    obtain ⟨b10, c10, rfl, o10⟩ := o10
    (rw [e1, e2]; exact ⟨_, ⟨_, _, rfl, by assumption⟩, (.le fun a => by (try simp only [setR, List.cons_append, List.nil_append]); simp [List.count_cons, Blk.ent, idOf]; try omega)⟩)

--@ct spec.Gathered new specGathered_ct _ _ _ $1 ?_ | %1 | obtain ⟨b#, c#, rfl, o#⟩ := o# ;; have r# := Gt.owrd _ (graph_ow (ga_okI _) o#)
theorem specGathered_ct (b : Option Addr) (m c : Nat) (xs : List Disk) (hx : xs.length ≤ 1048576) : Ct Try.prog 31 [.slice b m c] [] (fun H => (gSl 128 gDisk).rd H [.slice b m c] xs) (fun v A => ∃ b c, v = .tuple #[.agg ⟨[.int .i64 (gaR xs).size, .slice b (gaR xs).edges.length c]⟩, .bool (gathered xs).isSome] ∧ (gSl 192 gEdge).ow [.slice b (gaR xs).edges.length c] (gaR xs).edges A) := by
  refine Ct.intro0 G_ok Try.func31 rfl rfl rfl fun E H hp => ?_
  obtain ⟨rfl, hcl, hl⟩ := sl_len hp
  refine VCnew.intro fun x0 => ?_
  refine VCnew.intro fun x1 => ?_
  apply loop_mod (α := (Nat) × (Hp) × (Option Addr) × (Nat)) G_ok [9, 10, 11, 12, 16, 17, 18, 19, 20, 15, 21, 22, 6, 7, 23, 24, 25, 3, 26, 27, 28, 29, 4, 13, 14, 5] (fun z => [(5, .v (.int .i64 z.1)), (4, .v (.slice z.2.2.1 (partsOf (xs.take z.1)).length z.2.2.2)), (3, .v (.bool false))]) (fun z => [{ id := x0, cs := [Value.int IntKind.i64 (0 : Int), Value.slice none (0 : Nat) (0 : Nat)], ty := (58 : Nat) }]) (fun z => [z.2.1, H]) (fun z => xs.length - z.1) (fun z => z.1 ≤ xs.length ∧ haveAll (xs.take z.1) = true ∧ (gSl 58 gGraph).ow [.slice z.2.2.1 (partsOf (xs.take z.1)).length z.2.2.2] (partsOf (xs.take z.1)) z.2.1) ((0, [], _, 0))
  · repeat' (first | exact trivial | refine ⟨⟨_, rfl, by first | rfl | exact inc_eq _ (by omega) | (refine sl_eq ?_; simp; done) | (refine sl_eq ?_; rw [parts_next (by omega)]), by first | exact trivial | simp [SV.ok]⟩, ?_⟩)
  · exact ⟨rfl, trivial⟩
  · try dsimp only
    exact ⟨by omega, rfl, sl_nil _ _ _⟩
  · exact .tl
  rintro ⟨k, A, lb, lc⟩ hI
  obtain ⟨hk, ha, oA⟩ : k ≤ xs.length ∧ haveAll (xs.take k) = true ∧ (gSl 58 gGraph).ow [.slice lb (partsOf (xs.take k)).length lc] (partsOf (xs.take k)) A := hI
  try dsimp only
  refine VCsplit.intro (fun q2 => ?_) (fun q2 => ?_)
  ·
    simp at q2
    refine idx_rd hp ?_ ?_ fun b3 o3 hb3 => ?_
    · omega
    · omega
    refine load_allN default (k) rfl hp ?_ ?_ hb3 rfl (mem_at 1 rfl) fun l4 hl4 => ?_
    · omega
    · omega
    obtain ⟨b0x4, c0x4, rfl, h0x4⟩ := gDisk_rd.1 hl4
    refine call_new (specReadPart_ct _ (xs[k]?.getD default)) (Rp.mono _ (mem_at 1 rfl) hl4) ?_
    rintro v5 A5 o5
    obtain ⟨b5, c5, rfl, o5⟩ := o5
    refine VCnew.intro fun x6 => ?_
    refine VCsplit.intro (fun q7 => ?_) (fun q7 => ?_)
    ·
      simp at q7
      (obtain ⟨e1, e2⟩ := ga_no (have_not (by omega) ‹readPart _ = none›); rw [e1, e2]; exact ⟨[], ⟨none, 0, rfl, sl_nil _ _ _⟩, (.le fun a => by (try simp only [setR, List.cons_append, List.nil_append]); simp [List.count_cons, Blk.ent, idOf]; try omega)⟩)
    ·
      simp at q7
      refine VCnew.intro fun x8 => ?_
      refine gappend1 (g := gGraph) (T := (58 : TypeId)) G_ok A _ [H] ?_ oA (graph_ow (rp_okI _) ‹(gSl _ gEdge).ow _ _ _›) (List.mem_of_getElem? (i := 0) rfl) rfl rfl rfl rfl rfl rfl rfl rfl ?_ fun b9 c9 A9 o9 => ?_
      · exact .le fun a => by (try simp only [setR, List.cons_append, List.nil_append]); simp only [List.flatten_append, List.flatten_cons, List.flatten_nil, List.count_append, List.count_nil, List.append_nil, List.nil_append]; omega
      · (rw [parts_len, List.length_take]; omega)
      apply loop_stepA (k + 1, _, _, _)
      · exact .refl _
      · repeat' (first | exact trivial | refine ⟨⟨_, rfl, by first | rfl | exact inc_eq _ (by omega) | (refine sl_eq ?_; simp; done) | (refine sl_eq ?_; rw [parts_next (by omega)]), by first | exact trivial | simp [SV.ok]⟩, ?_⟩)
      · exact ⟨rfl, trivial⟩
      · try dsimp only
        (rw [parts_next (by omega)]; exact ⟨by omega, have_next (by omega) ha ‹_ = true›, by assumption⟩)
      · try dsimp only
        omega
  ·
    simp at q2
    obtain rfl : k = xs.length := by omega
    simp only [List.take_length] at ha oA ⊢
    obtain ⟨e1, e2⟩ := ga_yes ha
    refine call_new (specTogether_ct _ _ _ (partsOf xs) ?_) (Rp.mono _ (mem_at 0 rfl) (Gt.owrd _ oA)) ?_
    · (rw [parts_len]; omega)
    rintro v10 A10 o10
    obtain ⟨b10, c10, rfl, o10⟩ := o10
    (rw [e1, e2]; exact ⟨_, ⟨_, _, rfl, by assumption⟩, (.le fun a => by (try simp only [setR, List.cons_append, List.nil_append]); simp [List.count_cons, Blk.ent, idOf]; try omega)⟩)

end Go.Proofs.Ytcikookachejfaa
