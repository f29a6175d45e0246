/-
  What a line states is added to a graph: both sides. Graphs loaded: both sides. Graphs shown, on both sides. A shown graph is loaded again; ignored lines, other orders and repeated edges make no difference (plain). The drawing of numbers out of bytes: what is drawn lies in its range. Drawn graphs are right graphs. Drawn texts of graphs. Two edges compared by the language. Graphs compared as laws do it. A drawn graph comes back from its lines: the law walked. Conditions: none.
-/
import Derived.Test.YtcnclhjhnjpeiaaDoorZo2

namespace Go.Proofs.YtcnclhjhnjpeiaaDoor
open Go.SX Go.Proofs
set_option linter.unusedSimpArgs false
set_option linter.unusedVariables false
set_option maxHeartbeats 4000000
attribute [local irreducible] IntKind.wrap
def pA (ps : List ByteArray) (k : Nat) : ByteArray := ps[k]?.getD ByteArray.empty
def vertsB : ByteArray := ⟨#[118, 101, 114, 116, 115]⟩
def edgeB : ByteArray := ⟨#[101, 100, 103, 101]⟩
/-- a line is ignored -/
def ignT (t : ByteArray) : Bool := partsOk t && (decide ((partsV t).length = 0) || decide (((pA (partsV t) 0)[0]?.getD 0) = 35))
theorem tl_verts {s : ByteArray} : s.toList = [118, 101, 114, 116, 115] ↔ s = vertsB := by
  have e : vertsB.toList = [118, 101, 114, 116, 115] := by unfold vertsB; simp
  rw [← e, str_inj]
theorem tl_edge {s : ByteArray} : s.toList = [101, 100, 103, 101] ↔ s = edgeB := by
  have e : edgeB.toList = [101, 100, 103, 101] := by unfold edgeB; simp
  rw [← e, str_inj]
def edgeP (ps : List ByteArray) : Edge := ⟨readD (pA ps 1), (pA ps 2)[0]?.getD 0, readD (pA ps 3)⟩
def vertsR (ps : List ByteArray) : Bool := decide (ps.length = 2) && (decide (pA ps 0 = vertsB) && (isD (pA ps 1) && graphOk ⟨readD (pA ps 1), []⟩))
def edgeR (ps : List ByteArray) : Bool := decide (ps.length = 4) && (decide (pA ps 0 = edgeB) && (decide ((pA ps 2).size = 1) && (isD (pA ps 1) && isD (pA ps 3))))
def lineR (g : Graph) (ps : List ByteArray) : Bool := if g.size = 0 then vertsR ps else edgeR ps && graphOk (putG g (edgeP ps))
def lineG (g : Graph) (ps : List ByteArray) : Graph := if g.size = 0 then ⟨readD (pA ps 1), []⟩ else putG g (edgeP ps)
theorem readD_rng (t : ByteArray) : 0 ≤ readD t ∧ readD t ≤ 1000000000 := by
  unfold readD
  split
  · rename_i h
    unfold isD at h
    simp only [Bool.and_eq_true, decide_eq_true_eq] at h
    omega
  omega
theorem okI_D (t : ByteArray) : okI (readD t) := by
  have := readD_rng t
  unfold okI
  omega
theorem edgeP_rd (H : Hp) (ps : List ByteArray) : gEdge.rd H [.int .i64 (readD (pA ps 1)), .int .u8 ((((pA ps 2)[0]?.getD 0).toNat : Nat) : Int), .int .i64 (readD (pA ps 3))] (edgeP ps) := gEdge_rd.2 ⟨rfl, okI_D _, okI_D _⟩
theorem vertsG_rd (H : Hp) (n : Int) (h : okI n) : gGraph.rd H [.int .i64 n, .slice none 0 0] ⟨n, []⟩ := gGraph_rd.2 ⟨none, 0, rfl, h, Rp.mono _ (fun _ h => by cases h) (Gt.owrd _ (sl_nil _ _ _))⟩
/-- what loadLine returns -/
def lineV (g : Graph) (ps : List ByteArray) (v : Value) (A : Hp) : Prop := ∃ g' b c, v = .tuple #[.agg ⟨[.int .i64 g'.size, .slice b g'.edges.length c]⟩, .bool (lineR g ps)] ∧ (lineR g ps = true → g' = lineG g ps) ∧ (gSl 42 gEdge).ow [.slice b g'.edges.length c] g'.edges A
theorem lineV_no {g : Graph} {ps : List ByteArray} (h : lineR g ps = false) : lineV g ps (.tuple ⟨[.agg ⟨[.int .i64 0, .slice none 0 0]⟩, .bool false]⟩) [] :=
  ⟨⟨0, []⟩, none, 0, by rw [h]; rfl, by rw [h]; exact (fun e => absurd e (by decide)), sl_nil _ _ _⟩
theorem vertsR_1 {g : Graph} {ps : List ByteArray} (h : g.size = 0) (h1 : ¬ ps.length = 2) : lineR g ps = false := by
  unfold lineR vertsR
  rw [if_pos h, decide_eq_false h1]; rfl
theorem vertsR_2 {g : Graph} {ps : List ByteArray} (h : g.size = 0) (h1 : ¬ (pA ps 0).toList = [118, 101, 114, 116, 115]) : lineR g ps = false := by
  rw [tl_verts] at h1
  unfold lineR vertsR
  rw [if_pos h, decide_eq_false h1]; simp
theorem vertsR_3 {g : Graph} {ps : List ByteArray} (h : g.size = 0) (h1 : isD (pA ps 1) = false) : lineR g ps = false := by
  unfold lineR vertsR
  rw [if_pos h, h1]; simp
theorem vertsR_4 {g : Graph} {ps : List ByteArray} (h : g.size = 0) (h1 : ps.length = 2) (h2 : (pA ps 0).toList = [118, 101, 114, 116, 115]) (h3 : isD (pA ps 1) = true) : lineR g ps = graphOk ⟨readD (pA ps 1), []⟩ := by
  unfold lineR vertsR
  rw [if_pos h, decide_eq_true h1, decide_eq_true (tl_verts.1 h2), h3]; rfl
theorem edgeR_1 {g : Graph} {ps : List ByteArray} (h : ¬ g.size = 0) (h1 : ¬ ps.length = 4) : lineR g ps = false := by
  unfold lineR edgeR
  rw [if_neg h, decide_eq_false h1]; rfl
theorem edgeR_2 {g : Graph} {ps : List ByteArray} (h : ¬ g.size = 0) (h1 : ¬ (pA ps 0).toList = [101, 100, 103, 101]) : lineR g ps = false := by
  rw [tl_edge] at h1
  unfold lineR edgeR
  rw [if_neg h, decide_eq_false h1]; simp
theorem edgeR_3 {g : Graph} {ps : List ByteArray} (h : ¬ g.size = 0) (h1 : ¬ (pA ps 2).size = 1) : lineR g ps = false := by
  unfold lineR edgeR
  rw [if_neg h, decide_eq_false h1]; simp
theorem edgeR_4 {g : Graph} {ps : List ByteArray} (h : ¬ g.size = 0) (h1 : isD (pA ps 1) = false) : lineR g ps = false := by
  unfold lineR edgeR
  rw [if_neg h, h1]; simp
theorem edgeR_5 {g : Graph} {ps : List ByteArray} (h : ¬ g.size = 0) (h1 : isD (pA ps 3) = false) : lineR g ps = false := by
  unfold lineR edgeR
  rw [if_neg h, h1]; simp
theorem edgeR_yes {ps : List ByteArray} (h1 : ps.length = 4) (h2 : (pA ps 0).toList = [101, 100, 103, 101]) (h3 : (pA ps 2).size = 1) (h4 : isD (pA ps 1) = true) (h5 : isD (pA ps 3) = true) : edgeR ps = true := by
  unfold edgeR
  rw [decide_eq_true h1, decide_eq_true (tl_edge.1 h2), decide_eq_true h3, h4, h5]; rfl
theorem lineR_e {g : Graph} {ps : List ByteArray} (h : ¬ g.size = 0) : lineR g ps = (edgeR ps && graphOk (putG g (edgeP ps))) := if_neg h
theorem lineG_e {g : Graph} {ps : List ByteArray} (h : ¬ g.size = 0) : lineG g ps = putG g (edgeP ps) := if_neg h
theorem lineV_v {g : Graph} {ps : List ByteArray} (h : g.size = 0) (h1 : ps.length = 2) (h2 : (pA ps 0).toList = [118, 101, 114, 116, 115]) (h3 : isD (pA ps 1) = true) : lineV g ps (.tuple ⟨[.agg ⟨[.int .i64 (readD (pA ps 1)), .slice none 0 0]⟩, .bool (graphOk ⟨readD (pA ps 1), []⟩)]⟩) [] :=
  ⟨⟨readD (pA ps 1), []⟩, none, 0, by rw [vertsR_4 h h1 h2 h3]; rfl, fun _ => (if_pos h).symm, sl_nil _ _ _⟩
theorem lineV_v0 {g : Graph} {ps : List ByteArray} (h : g.size = 0) (h3 : isD (pA ps 1) = false) : lineV g ps (.tuple ⟨[.agg ⟨[.int .i64 (readD (pA ps 1)), .slice none 0 0]⟩, .bool false]⟩) [] := by
  rw [readD_no h3]
  exact lineV_no (vertsR_3 h h3)
theorem lineV_e {g : Graph} {ps : List ByteArray} {b : Option Addr} {c : Nat} {A : Hp} (h : ¬ g.size = 0) (h1 : edgeR ps = true) (o : (gSl 42 gEdge).ow [.slice b (addG g (edgeP ps)).edges.length c] (addG g (edgeP ps)).edges A) :
    lineV g ps (.tuple ⟨[.agg ⟨[.int .i64 (addG g (edgeP ps)).size, .slice b (addG g (edgeP ps)).edges.length c]⟩, .bool (graphOk (putG g (edgeP ps)))]⟩) A :=
  ⟨addG g (edgeP ps), b, c, by rw [lineR_e h, h1]; rfl, by rw [lineR_e h, h1, lineG_e h]; exact fun e => addG_yes e, o⟩
theorem loadLine_ct (l : List Value) (g : Graph) (b : Option Addr) (m c : Nat) (ps : List ByteArray) (hg : g.size = 0 ∨ graphOk g = true) (hm : ps.length ≤ 1000000) :
    Ct Tryd.prog 32 [.agg ⟨l⟩, .slice b m c] [] (fun H => gGraph.rd H l g ∧ (gSl 9 gS).rd H [.slice b m c] ps ∧ TabIn H) (lineV g ps) := by
  refine Ct.intro0 G_ok Tryd.func32 rfl rfl rfl fun E H hp => ?_
  obtain ⟨hp, hp2, hp3⟩ := hp
  obtain ⟨b1p, c1p, rfl, w0p, h1p⟩ := gGraph_rd.1 hp
  obtain ⟨rfl, hcl, hl⟩ := sl_len hp2
  refine VCnew.intro fun x0 => ?_
  refine VCnew.intro fun x1 => ?_
  refine VCsplit.intro (fun q2 => ?_) (fun q2 => ?_)
  ·
    simp at q2
    refine VCsplit.intro (fun q3 => ?_) (fun q3 => ?_)
    ·
      simp at q3
      exact ⟨[], lineV_no (vertsR_1 (by assumption) (by omega)), (.le fun a => by (try simp only [setR, List.cons_append, List.nil_append]); simp [List.count_cons, Blk.ent, idOf]; try omega)⟩
    ·
      simp at q3
      refine idx_rd hp2 ?_ ?_ fun b4 o4 hb4 => ?_
      · trivial
      · omega
      refine load_allN ByteArray.empty (0) rfl hp2 ?_ ?_ hb4 rfl (mem_at 0 rfl) fun l5 hl5 => ?_
      · trivial
      · omega
      obtain ⟨rfl, hw5⟩ := hl5; simp only [flStr, flInt, okI] at hw5
      refine VCsplit.intro (fun q6 => ?_) (fun q6 => ?_)
      ·
        simp at q6
        exact ⟨[], lineV_no (vertsR_2 (by assumption) (by assumption)), (.le fun a => by (try simp only [setR, List.cons_append, List.nil_append]); simp [List.count_cons, Blk.ent, idOf]; try omega)⟩
      ·
        simp at q6
        refine idx_rd hp2 ?_ ?_ fun b7 o7 hb7 => ?_
        · trivial
        · omega
        refine load_allN ByteArray.empty (1) rfl hp2 ?_ ?_ hb7 rfl (mem_at 0 rfl) fun l8 hl8 => ?_
        · trivial
        · omega
        obtain ⟨rfl, hw8⟩ := hl8; simp only [flStr, flInt, okI] at hw8
        refine call_val (implReadDecimal_ct _) (TabIn.mono hp3 (mem_at 0 rfl)) ?_
        rintro _ rfl
        refine VCnew.intro fun x10 => ?_
        refine draw G_ok mixed none (.q 1 (.q 2 (.hd (.alt 0 (.f 3 (.f 4 (.hd (.alt 5 (.f 6 (.q 7 (.nil))) (.alt 6 (.f 5 (.q 7 (.nil))) (.nil)))))) (.alt 3 (.hd (.alt 0 (.f 4 (.hd (.alt 5 (.f 6 (.q 7 (.nil))) (.alt 6 (.f 5 (.q 7 (.nil))) (.nil))))) (.alt 4 (.hd (.alt 0 (.hd (.alt 5 (.f 6 (.q 7 (.nil))) (.alt 6 (.f 5 (.q 7 (.nil))) (.nil)))) (.alt 5 (.f 0 (.f 6 (.q 7 (.nil)))) (.nil)))) (.nil)))) (.nil)))))) (by decide +kernel) ?_
        refine VC.intro ?_ ?_
        ·
          refine VCsplit.intro (fun q11 => ?_) (fun q11 => ?_)
          ·
            refine call_val (implGraphOk_ct _ ⟨readD (pA ps 1), []⟩) (vertsG_rd _ _ (okI_D _)) ?_
            rintro _ rfl
            refine VC.intro ?_ ?_
            ·
              exact ⟨[], lineV_v (by assumption) (by omega) (by assumption) (by assumption), (.le fun a => by (try simp only [setR, List.cons_append, List.nil_append]); simp [List.count_cons, Blk.ent, idOf]; try omega)⟩
            ·
              refine VC.intro ?_ ?_
              ·
                exact ⟨[], lineV_v (by assumption) (by omega) (by assumption) (by assumption), (.le fun a => by (try simp only [setR, List.cons_append, List.nil_append]); simp [List.count_cons, Blk.ent, idOf]; try omega)⟩
              ·
                exact trivial
          ·
            refine VC.intro ?_ ?_
            ·
              exact ⟨[], lineV_v0 (by assumption) (by assumption), (.le fun a => by (try simp only [setR, List.cons_append, List.nil_append]); simp [List.count_cons, Blk.ent, idOf]; try omega)⟩
            ·
              refine VC.intro ?_ ?_
              ·
                exact ⟨[], lineV_v0 (by assumption) (by assumption), (.le fun a => by (try simp only [setR, List.cons_append, List.nil_append]); simp [List.count_cons, Blk.ent, idOf]; try omega)⟩
              ·
                exact trivial
        ·
          refine VC.intro ?_ ?_
          ·
            refine VCsplit.intro (fun q13 => ?_) (fun q13 => ?_)
            ·
              refine VC.intro ?_ ?_
              ·
                refine call_val (implGraphOk_ct _ ⟨readD (pA ps 1), []⟩) (vertsG_rd _ _ (okI_D _)) ?_
                rintro _ rfl
                refine VC.intro ?_ ?_
                ·
                  exact ⟨[], lineV_v (by assumption) (by omega) (by assumption) (by assumption), (.le fun a => by (try simp only [setR, List.cons_append, List.nil_append]); simp [List.count_cons, Blk.ent, idOf]; try omega)⟩
                ·
                  refine VC.intro ?_ ?_
                  ·
                    exact ⟨[], lineV_v (by assumption) (by omega) (by assumption) (by assumption), (.le fun a => by (try simp only [setR, List.cons_append, List.nil_append]); simp [List.count_cons, Blk.ent, idOf]; try omega)⟩
                  ·
                    exact trivial
              ·
                refine VC.intro ?_ ?_
                ·
                  refine call_val (implGraphOk_ct _ ⟨readD (pA ps 1), []⟩) (vertsG_rd _ _ (okI_D _)) ?_
                  rintro _ rfl
                  refine VC.intro ?_ ?_
                  ·
                    refine VC.intro ?_ ?_
                    ·
                      exact ⟨[], lineV_v (by assumption) (by omega) (by assumption) (by assumption), (.le fun a => by (try simp only [setR, List.cons_append, List.nil_append]); simp [List.count_cons, Blk.ent, idOf]; try omega)⟩
                    ·
                      refine VC.intro ?_ ?_
                      ·
                        exact ⟨[], lineV_v (by assumption) (by omega) (by assumption) (by assumption), (.le fun a => by (try simp only [setR, List.cons_append, List.nil_append]); simp [List.count_cons, Blk.ent, idOf]; try omega)⟩
                      ·
                        exact trivial
                  ·
                    refine VC.intro ?_ ?_
                    ·
                      exact ⟨[], lineV_v (by assumption) (by omega) (by assumption) (by assumption), (.le fun a => by (try simp only [setR, List.cons_append, List.nil_append]); simp [List.count_cons, Blk.ent, idOf]; try omega)⟩
                    ·
                      exact trivial
                ·
                  exact trivial
            ·
              refine VC.intro ?_ ?_
              ·
                refine VC.intro ?_ ?_
                ·
                  exact ⟨[], lineV_v0 (by assumption) (by assumption), (.le fun a => by (try simp only [setR, List.cons_append, List.nil_append]); simp [List.count_cons, Blk.ent, idOf]; try omega)⟩
                ·
                  refine VC.intro ?_ ?_
                  ·
                    exact ⟨[], lineV_v0 (by assumption) (by assumption), (.le fun a => by (try simp only [setR, List.cons_append, List.nil_append]); simp [List.count_cons, Blk.ent, idOf]; try omega)⟩
                  ·
                    exact trivial
              ·
                refine VC.intro ?_ ?_
                ·
                  refine VC.intro ?_ ?_
                  ·
                    refine VC.intro ?_ ?_
                    ·
                      exact ⟨[], lineV_v0 (by assumption) (by assumption), (.le fun a => by (try simp only [setR, List.cons_append, List.nil_append]); simp [List.count_cons, Blk.ent, idOf]; try omega)⟩
                    ·
                      refine VC.intro ?_ ?_
                      ·
                        exact ⟨[], lineV_v0 (by assumption) (by assumption), (.le fun a => by (try simp only [setR, List.cons_append, List.nil_append]); simp [List.count_cons, Blk.ent, idOf]; try omega)⟩
                      ·
                        exact trivial
                  ·
                    refine VC.intro ?_ ?_
                    ·
                      exact ⟨[], lineV_v0 (by assumption) (by assumption), (.le fun a => by (try simp only [setR, List.cons_append, List.nil_append]); simp [List.count_cons, Blk.ent, idOf]; try omega)⟩
                    ·
                      exact trivial
                ·
                  exact trivial
          ·
            exact trivial
  ·
    simp at q2
    refine VCsplit.intro (fun q16 => ?_) (fun q16 => ?_)
    ·
      simp at q16
      exact ⟨[], lineV_no (edgeR_1 (by assumption) (by omega)), (.le fun a => by (try simp only [setR, List.cons_append, List.nil_append]); simp [List.count_cons, Blk.ent, idOf]; try omega)⟩
    ·
      simp at q16
      refine idx_rd hp2 ?_ ?_ fun b17 o17 hb17 => ?_
      · trivial
      · omega
      refine load_allN ByteArray.empty (0) rfl hp2 ?_ ?_ hb17 rfl (mem_at 0 rfl) fun l18 hl18 => ?_
      · trivial
      · omega
      obtain ⟨rfl, hw18⟩ := hl18; simp only [flStr, flInt, okI] at hw18
      refine VCsplit.intro (fun q19 => ?_) (fun q19 => ?_)
      ·
        simp at q19
        exact ⟨[], lineV_no (edgeR_2 (by assumption) (by assumption)), (.le fun a => by (try simp only [setR, List.cons_append, List.nil_append]); simp [List.count_cons, Blk.ent, idOf]; try omega)⟩
      ·
        simp at q19
        refine idx_rd hp2 ?_ ?_ fun b20 o20 hb20 => ?_
        · trivial
        · omega
        refine load_allN ByteArray.empty (2) rfl hp2 ?_ ?_ hb20 rfl (mem_at 0 rfl) fun l21 hl21 => ?_
        · trivial
        · omega
        obtain ⟨rfl, hw21⟩ := hl21; simp only [flStr, flInt, okI] at hw21
        refine VCsplit.intro (fun q22 => ?_) (fun q22 => ?_)
        ·
          simp at q22
          exact ⟨[], lineV_no (edgeR_3 (by assumption) (by unfold pA; omega)), (.le fun a => by (try simp only [setR, List.cons_append, List.nil_append]); simp [List.count_cons, Blk.ent, idOf]; try omega)⟩
        ·
          simp at q22
          refine idx_rd hp2 ?_ ?_ fun b23 o23 hb23 => ?_
          · trivial
          · omega
          refine load_allN ByteArray.empty (1) rfl hp2 ?_ ?_ hb23 rfl (mem_at 0 rfl) fun l24 hl24 => ?_
          · trivial
          · omega
          obtain ⟨rfl, hw24⟩ := hl24; simp only [flStr, flInt, okI] at hw24
          refine call_val (implReadDecimal_ct _) (TabIn.mono hp3 (mem_at 0 rfl)) ?_
          rintro _ rfl
          refine idx_rd hp2 ?_ ?_ fun b26 o26 hb26 => ?_
          · trivial
          · omega
          refine load_allN ByteArray.empty (3) rfl hp2 ?_ ?_ hb26 rfl (mem_at 0 rfl) fun l27 hl27 => ?_
          · trivial
          · omega
          obtain ⟨rfl, hw27⟩ := hl27; simp only [flStr, flInt, okI] at hw27
          refine call_val (implReadDecimal_ct _) (TabIn.mono hp3 (mem_at 0 rfl)) ?_
          rintro _ rfl
          refine VCsplit.intro (fun q29 => ?_) (fun q29 => ?_)
          ·
            simp at q29
            exact ⟨[], lineV_no (edgeR_4 (by assumption) (by assumption)), (.le fun a => by (try simp only [setR, List.cons_append, List.nil_append]); simp [List.count_cons, Blk.ent, idOf]; try omega)⟩
          ·
            simp at q29
            refine VCsplit.intro (fun q30 => ?_) (fun q30 => ?_)
            ·
              simp at q30
              exact ⟨[], lineV_no (edgeR_5 (by assumption) (by assumption)), (.le fun a => by (try simp only [setR, List.cons_append, List.nil_append]); simp [List.count_cons, Blk.ent, idOf]; try omega)⟩
            ·
              simp at q30
              refine draw G_ok mixed (some 11) (.q 0 (.q 1 (.q 2 (.q 3 (.q 4 (.q 5 (.q 6 (.q 7 (.f 8 (.q 9 (.q 10 (.tl 11 (.f 12 (.nil)))))))))))))) (by decide +kernel) ?_
              refine idx_rd hp2 ?_ ?_ fun b31 o31 hb31 => ?_
              · trivial
              · omega
              refine load_allN ByteArray.empty (2) rfl hp2 ?_ ?_ hb31 rfl (mem_at 0 rfl) fun l32 hl32 => ?_
              · trivial
              · omega
              obtain ⟨rfl, hw32⟩ := hl32; simp only [flStr, flInt, okI] at hw32
              refine VC.intro ?_ ?_
              · omega
              refine call_new (graphAdd_ct _ _ g (edgeP ps) ?_) ⟨(Rp.mono _ (mem_at 0 rfl) hp), edgeP_rd _ ps⟩ ?_
              · simp_all
              rintro v33 A33 o33
              obtain ⟨b33, c33, rfl, o33⟩ := o33
              refine VC.intro ?_ ?_
              · exact keep_new
              exact ⟨_, lineV_e (by assumption) (edgeR_yes (by omega) (by assumption) (by unfold pA; omega) (by assumption) (by assumption)) (by assumption), (.le fun a => by (try simp only [setR, List.cons_append, List.nil_append]); simp [List.count_cons, Blk.ent, idOf]; try omega)⟩
theorem edgeR_n1 {ps : List ByteArray} (h1 : ¬ ps.length = 4) : edgeR ps = false := by
  unfold edgeR
  rw [decide_eq_false h1]; rfl
theorem edgeR_n2 {ps : List ByteArray} (h1 : ¬ (pA ps 0).toList = [101, 100, 103, 101]) : edgeR ps = false := by
  rw [tl_edge] at h1
  unfold edgeR
  rw [decide_eq_false h1]; simp
theorem edgeR_n3 {ps : List ByteArray} (h1 : ¬ (pA ps 2).size = 1) : edgeR ps = false := by
  unfold edgeR
  rw [decide_eq_false h1]; simp
theorem edgeR_n4 {ps : List ByteArray} (h1 : isD (pA ps 1) = false) : edgeR ps = false := by
  unfold edgeR
  rw [h1]; simp
/-- what l27Edge returns -/
def l27V (ps : List ByteArray) (v : Value) (A : Hp) : Prop := (∃ e : Edge, v = .tuple #[.agg ⟨[.int .i64 e.from', .int .u8 e.label.toNat, .int .i64 e.to]⟩, .bool (edgeR ps)] ∧ (okI e.from' ∧ okI e.to) ∧ (edgeR ps = true → e = edgeP ps)) ∧ A = []
theorem okI_00 : okI 0 := by unfold okI; omega
theorem l27V_no {ps : List ByteArray} (h : edgeR ps = false) : l27V ps (.tuple ⟨[.agg ⟨[.int .i64 0, .int .u8 0, .int .i64 0]⟩, .bool false]⟩) [] :=
  ⟨⟨⟨0, 0, 0⟩, by rw [h]; rfl, ⟨okI_00, okI_00⟩, by rw [h]; exact (fun e => absurd e (by decide))⟩, rfl⟩
theorem l27V_0 {ps : List ByteArray} (h : isD (pA ps 1) = false) : l27V ps (.tuple ⟨[.agg ⟨[.int .i64 (readD (pA ps 1)), .int .u8 ((((pA ps 2)[0]?.getD 0).toNat : Nat) : Int), .int .i64 (readD (pA ps 3))]⟩, .bool false]⟩) [] :=
  ⟨⟨edgeP ps, by rw [edgeR_n4 h]; rfl, ⟨okI_D _, okI_D _⟩, fun _ => rfl⟩, rfl⟩
theorem l27V_1 {ps : List ByteArray} (h1 : ps.length = 4) (h2 : (pA ps 0).toList = [101, 100, 103, 101]) (h3 : (pA ps 2).size = 1) (h4 : isD (pA ps 1) = true) : l27V ps (.tuple ⟨[.agg ⟨[.int .i64 (readD (pA ps 1)), .int .u8 ((((pA ps 2)[0]?.getD 0).toNat : Nat) : Int), .int .i64 (readD (pA ps 3))]⟩, .bool (isD (pA ps 3))]⟩) [] := by
  have e : edgeR ps = isD (pA ps 3) := by
    unfold edgeR
    rw [decide_eq_true h1, decide_eq_true (tl_edge.1 h2), decide_eq_true h3, h4]; rfl
  exact ⟨⟨edgeP ps, by rw [e]; rfl, ⟨okI_D _, okI_D _⟩, fun _ => rfl⟩, rfl⟩
theorem l27Edge_ct (b : Option Addr) (m c : Nat) (ps : List ByteArray) (hm : ps.length ≤ 1000000) :
    Ct Tryd.prog 50 [.slice b m c] [] (fun H => (gSl 9 gS).rd H [.slice b m c] ps) (l27V ps) := by
  refine Ct.intro0 G_ok Tryd.func50 rfl rfl rfl fun E H hp => ?_
  obtain ⟨rfl, hcl, hl⟩ := sl_len hp
  refine VCnew.intro fun x0 => ?_
  refine VCsplit.intro (fun q1 => ?_) (fun q1 => ?_)
  ·
    simp at q1
    exact ⟨[], l27V_no (edgeR_n1 (by omega)), (.le fun a => by (try simp only [setR, List.cons_append, List.nil_append]); simp [List.count_cons, Blk.ent, idOf]; try omega)⟩
  ·
    simp at q1
    refine idx_rd hp ?_ ?_ fun b2 o2 hb2 => ?_
    · trivial
    · omega
    refine load_allN ByteArray.empty (0) rfl hp ?_ ?_ hb2 rfl (mem_at 0 rfl) fun l3 hl3 => ?_
    · trivial
    · omega
    obtain ⟨rfl, hw3⟩ := hl3; simp only [flStr, flInt, okI] at hw3
    refine VCsplit.intro (fun q4 => ?_) (fun q4 => ?_)
    ·
      simp at q4
      exact ⟨[], l27V_no (edgeR_n2 (by assumption)), (.le fun a => by (try simp only [setR, List.cons_append, List.nil_append]); simp [List.count_cons, Blk.ent, idOf]; try omega)⟩
    ·
      simp at q4
      refine idx_rd hp ?_ ?_ fun b5 o5 hb5 => ?_
      · trivial
      · omega
      refine load_allN ByteArray.empty (2) rfl hp ?_ ?_ hb5 rfl (mem_at 0 rfl) fun l6 hl6 => ?_
      · trivial
      · omega
      obtain ⟨rfl, hw6⟩ := hl6; simp only [flStr, flInt, okI] at hw6
      refine VCsplit.intro (fun q7 => ?_) (fun q7 => ?_)
      ·
        simp at q7
        exact ⟨[], l27V_no (edgeR_n3 (by unfold pA; omega)), (.le fun a => by (try simp only [setR, List.cons_append, List.nil_append]); simp [List.count_cons, Blk.ent, idOf]; try omega)⟩
      ·
        simp at q7
        refine idx_rd hp ?_ ?_ fun b8 o8 hb8 => ?_
        · trivial
        · omega
        refine load_allN ByteArray.empty (1) rfl hp ?_ ?_ hb8 rfl (mem_at 0 rfl) fun l9 hl9 => ?_
        · trivial
        · omega
        obtain ⟨rfl, hw9⟩ := hl9; simp only [flStr, flInt, okI] at hw9
        refine call_val (specReadDecimal_ct _) trivial ?_
        rintro _ rfl
        refine idx_rd hp ?_ ?_ fun b11 o11 hb11 => ?_
        · trivial
        · omega
        refine load_allN ByteArray.empty (3) rfl hp ?_ ?_ hb11 rfl (mem_at 0 rfl) fun l12 hl12 => ?_
        · trivial
        · omega
        obtain ⟨rfl, hw12⟩ := hl12; simp only [flStr, flInt, okI] at hw12
        refine call_val (specReadDecimal_ct _) trivial ?_
        rintro _ rfl
        refine idx_rd hp ?_ ?_ fun b14 o14 hb14 => ?_
        · trivial
        · omega
        refine load_allN ByteArray.empty (2) rfl hp ?_ ?_ hb14 rfl (mem_at 0 rfl) fun l15 hl15 => ?_
        · trivial
        · omega
        obtain ⟨rfl, hw15⟩ := hl15; simp only [flStr, flInt, okI] at hw15
        refine VC.intro ?_ ?_
        · omega
        refine VCsplit.intro (fun q16 => ?_) (fun q16 => ?_)
        ·
          exact ⟨[], l27V_1 (by omega) (by assumption) (by unfold pA; omega) (by assumption), (.le fun a => by (try simp only [setR, List.cons_append, List.nil_append]); simp [List.count_cons, Blk.ent, idOf]; try omega)⟩
        ·
          exact ⟨[], l27V_0 (by assumption), (.le fun a => by (try simp only [setR, List.cons_append, List.nil_append]); simp [List.count_cons, Blk.ent, idOf]; try omega)⟩
end Go.Proofs.YtcnclhjhnjpeiaaDoor

namespace Go.Proofs.YtcnclhjhnjpeiaaDoor
open Go.SX Go.Proofs
set_option linter.unusedSimpArgs false
set_option linter.unusedVariables false
set_option maxHeartbeats 4000000
attribute [local irreducible] IntKind.wrap
def scanG : Graph → Nat → List ByteArray → Graph × Nat
  | g, _, [] => if g.size = 0 then (⟨0, []⟩, 1) else (g, 0)
  | g, i, t :: ts => if ignT t = true then scanG g (i + 1) ts else if partsOk t = true then if lineR g (partsV t) = true then scanG (lineG g (partsV t)) (i + 1) ts else (⟨0, []⟩, i + 1) else (⟨0, []⟩, i + 1)
def loadG (t : ByteArray) : Graph × Nat := scanG ⟨0, []⟩ 0 (linesT t)
def goodG (g : Graph) : Prop := g = ⟨0, []⟩ ∨ graphOk g = true
theorem goodG_line {g : Graph} {ps : List ByteArray} (h : lineR g ps = true) : goodG (lineG g ps) := by
  unfold lineR at h
  unfold lineG
  split at h
  · rename_i h0
    rw [if_pos h0]
    unfold vertsR at h
    simp only [Bool.and_eq_true] at h
    exact .inr h.2.2.2
  rename_i h0
  rw [if_neg h0]
  simp only [Bool.and_eq_true] at h
  exact .inr h.2
theorem goodG_0 {g : Graph} (h : goodG g) : g.size = 0 ∨ graphOk g = true := h.imp (fun e => by rw [e]) id
theorem goodG_z {g : Graph} (h : goodG g) (h0 : g.size = 0) : g = ⟨0, []⟩ := by
  rcases h with h | h
  · exact h
  have := graphOk_iff.1 h
  omega
theorem goodG_n {g : Graph} (h : goodG g) (h0 : ¬ g.size = 0) : graphOk g = true := by
  rcases h with h | h
  · rw [h] at h0; exact absurd rfl h0
  exact h
/-- k lines are read, g is the graph so far -/
def scanI (t : ByteArray) (k : Nat) (g : Graph) : Prop := scanG g k ((linesT t).drop k) = loadG t ∧ goodG g
theorem scanI_0 (t : ByteArray) : scanI t 0 ⟨0, []⟩ := ⟨rfl, .inl rfl⟩
theorem scan_drop {t : ByteArray} {k : Nat} (hk : k < (linesT t).length) : (linesT t).drop k = ((linesT t)[k]?.getD ByteArray.empty) :: (linesT t).drop (k + 1) := by
  rw [List.drop_eq_getElem_cons hk, List.getElem?_eq_getElem hk]; rfl
theorem scanI_ign {t : ByteArray} {k : Nat} {g : Graph} (h : scanI t k g) (hk : k < (linesT t).length) (h1 : ignT ((linesT t)[k]?.getD ByteArray.empty) = true) : scanI t (k + 1) g := by
  obtain ⟨h2, h3⟩ := h
  rw [scan_drop hk] at h2
  unfold scanG at h2
  rw [if_pos h1] at h2
  exact ⟨h2, h3⟩
theorem scanI_line {t : ByteArray} {k : Nat} {g : Graph} (h : scanI t k g) (hk : k < (linesT t).length) (h1 : ignT ((linesT t)[k]?.getD ByteArray.empty) = false) (h4 : partsOk ((linesT t)[k]?.getD ByteArray.empty) = true) (h5 : lineR g (partsV ((linesT t)[k]?.getD ByteArray.empty)) = true) : scanI t (k + 1) (lineG g (partsV ((linesT t)[k]?.getD ByteArray.empty))) := by
  obtain ⟨h2, h3⟩ := h
  rw [scan_drop hk] at h2
  unfold scanG at h2
  rw [if_neg (by rw [h1]; decide), if_pos h4, if_pos h5] at h2
  exact ⟨h2, goodG_line h5⟩
theorem scanI_no {t : ByteArray} {k : Nat} {g : Graph} (h : scanI t k g) (hk : k < (linesT t).length) (h1 : ignT ((linesT t)[k]?.getD ByteArray.empty) = false) (h4 : partsOk ((linesT t)[k]?.getD ByteArray.empty) = false) : loadG t = (⟨0, []⟩, k + 1) := by
  obtain ⟨h2, h3⟩ := h
  rw [scan_drop hk] at h2
  unfold scanG at h2
  rw [if_neg (by rw [h1]; decide), if_neg (by rw [h4]; decide)] at h2
  exact h2.symm
theorem scanI_bad {t : ByteArray} {k : Nat} {g : Graph} (h : scanI t k g) (hk : k < (linesT t).length) (h1 : ignT ((linesT t)[k]?.getD ByteArray.empty) = false) (h4 : lineR g (partsV ((linesT t)[k]?.getD ByteArray.empty)) = false) : loadG t = (⟨0, []⟩, k + 1) := by
  obtain ⟨h2, h3⟩ := h
  rw [scan_drop hk] at h2
  unfold scanG at h2
  rw [if_neg (by rw [h1]; decide)] at h2
  by_cases h5 : partsOk ((linesT t)[k]?.getD ByteArray.empty) = true
  · rw [if_pos h5, if_neg (by rw [h4]; decide)] at h2
    exact h2.symm
  rw [if_neg h5] at h2
  exact h2.symm
theorem scanI_end {t : ByteArray} {k : Nat} {g : Graph} (h : scanI t k g) (hk : (linesT t).length ≤ k) : loadG t = if g.size = 0 then (⟨0, []⟩, 1) else (g, 0) := by
  obtain ⟨h2, h3⟩ := h
  rw [List.drop_eq_nil_of_le hk] at h2
  exact h2.symm
def loadV (t : ByteArray) (v : Value) (A : Hp) : Prop := ∃ b c, v = .tuple #[.agg ⟨[.int .i64 (loadG t).1.size, .slice b (loadG t).1.edges.length c]⟩, .int .i64 ((loadG t).2 : Nat)] ∧ (gSl 42 gEdge).ow [.slice b (loadG t).1.edges.length c] (loadG t).1.edges A
theorem loadV_f {t : ByteArray} {n : Nat} {z : Int} (h : loadG t = (⟨0, []⟩, n)) (hz : z = n) : loadV t (.tuple ⟨[.agg ⟨[.int .i64 0, .slice none 0 0]⟩, .int .i64 z]⟩) [] := by
  subst hz
  unfold loadV
  rw [h]
  exact ⟨none, 0, rfl, sl_nil _ _ _⟩
theorem loadV_g {t : ByteArray} {g : Graph} {b : Option Addr} {c : Nat} {A : Hp} (h : loadG t = (g, 0)) (o : (gSl 42 gEdge).ow [.slice b g.edges.length c] g.edges A) : loadV t (.tuple ⟨[.agg ⟨[.int .i64 g.size, .slice b g.edges.length c]⟩, .int .i64 0]⟩) A := by
  unfold loadV
  rw [h]
  exact ⟨b, c, rfl, o⟩
theorem ign_no {t : ByteArray} (h : partsOk t = false) : ignT t = false := by unfold ignT; rw [h]; rfl
theorem ign_nil {t : ByteArray} (h : partsOk t = true) (h1 : (partsV t).length = 0) : ignT t = true := by unfold ignT; rw [h, decide_eq_true h1]; rfl
theorem ign_val {t : ByteArray} (h : partsOk t = true) (h1 : ¬ (partsV t).length = 0) : decide (((((pA (partsV t) 0)[0]?.getD 0).toNat : Nat) : Int) = 35) = ignT t := by
  unfold ignT
  rw [h, decide_eq_false h1]
  show _ = decide _
  rw [decide_eq_decide]
  constructor
  · intro h2
    apply UInt8.toNat_inj.1
    exact Int.ofNat.inj h2
  intro h2; rw [h2]; rfl
theorem parts0_pos {t : ByteArray} (h1 : ¬ (partsV t).length = 0) : 0 < (pA (partsV t) 0).size := by
  have h2 : partsOk t = true := by
    cases h : partsOk t with
    | true => rfl
    | false => rw [partsV_no h] at h1; exact absurd rfl h1
  rw [partsV_yes h2] at h1 ⊢
  unfold pA
  rw [List.getElem?_eq_getElem (by omega)]
  exact parts_pos _ (List.getElem_mem _)
theorem partsV_len (t : ByteArray) : (partsV t).length ≤ 10 := by
  cases h : partsOk t with
  | false => rw [partsV_no h]; exact Nat.zero_le _
  | true =>
    rw [partsV_yes h]
    unfold partsOk at h
    simp only [Bool.and_eq_true, decide_eq_true_eq] at h
    unfold partsT
    rw [List.length_map]
    exact h.2.2
--@ct impl.partsOrNone new partsOrNone_ct _ | trivial | obtain ⟨b#, c#, rfl, o#⟩ := o#
theorem partsOrNone_ct (t : ByteArray) : Ct Tryd.prog 31 [.string t] [] (fun _ => True)
    (fun v A => ∃ b m, v = .tuple #[.slice b (partsV t).length m, .bool (ignT t), .bool (partsOk t)] ∧ (gSl 9 gS).ow [.slice b (partsV t).length m] (partsV t) A) := by
  refine Ct.intro0 G_ok Tryd.func31 rfl rfl rfl fun E H hp => ?_
  have hpl := partsV_len t
  refine call_new (implPartsOf_ct _) trivial ?_
  rintro v0 A0 o0
  obtain ⟨b0, c0, rfl, o0⟩ := o0
  refine VCsplit.intro (fun q1 => ?_) (fun q1 => ?_)
  ·
    refine VCsplit.intro (fun q2 => ?_) (fun q2 => ?_)
    ·
      simp at q2
      (exact ⟨_, ⟨_, _, by rw [ign_nil (by assumption) (by rw [‹partsV t = []›]; rfl)], by assumption⟩, (.le fun a => by (try simp only [setR, List.cons_append, List.nil_append]); simp [List.count_cons, Blk.ent, idOf]; try omega)⟩)
    ·
      simp at q2
      (have l2 : ¬ (partsV t).length = 0 := fun e => q2 (List.length_eq_zero_iff.1 e); have p2 := parts0_pos l2; unfold pA at p2)
      refine idx_rd (Gt.owrd _ o0) ?_ ?_ fun b3 o3 hb3 => ?_
      · trivial
      · omega
      refine load_allN ByteArray.empty (0) rfl (Gt.owrd _ o0) ?_ ?_ hb3 rfl (mem_at 0 rfl) fun l4 hl4 => ?_
      · trivial
      · omega
      obtain ⟨rfl, hw4⟩ := hl4; simp only [flStr, flInt, okI] at hw4
      refine VC.intro ?_ ?_
      · omega
      (exact ⟨_, ⟨_, _, by rw [← ign_val (by assumption) (by assumption)]; rfl, by assumption⟩, (.le fun a => by (try simp only [setR, List.cons_append, List.nil_append]); simp [List.count_cons, Blk.ent, idOf]; try omega)⟩)
  ·
    (exact ⟨_, ⟨_, _, by rw [ign_no (by assumption)], by assumption⟩, (.le fun a => by (try simp only [setR, List.cons_append, List.nil_append]); simp [List.count_cons, Blk.ent, idOf]; try omega)⟩)
theorem linesT_len (t : ByteArray) : (linesT t).length ≤ t.size + 1 := by
  by_cases h : t.size = 0
  · rw [linesT_nil h]; exact Nat.zero_le _
  have e : linesT t = splitT 10 (trimC 10 t) := (trim_split h).symm
  have h1 := splitT_len 10 (trimC 10 t)
  have h2 := count_le 10 (trimC 10 t)
  have h3 := trim_size 10 t
  rw [e]; omega
theorem graph_is {g : Graph} {b : Option Addr} {c : Nat} {D H : Hp} (hg : goodG g) (o : (gSl 42 gEdge).ow [.slice b g.edges.length c] g.edges D) (hs : ∀ p ∈ D, p ∈ H) : gGraph.rd H [.int .i64 g.size, .slice b g.edges.length c] g := by
  refine gGraph_rd.2 ⟨_, _, rfl, ?_, Rp.mono _ hs (Gt.owrd _ o)⟩
  rcases hg with h | h
  · rw [h]; show okI 0; unfold okI; omega
  have := graphOk_iff.1 h
  unfold okI; omega
theorem loadV_e1 {t : ByteArray} {k : Nat} {g : Graph} (h : scanI t k g) (hk : (linesT t).length ≤ k) (h0 : g.size = 0) : loadV t (.tuple ⟨[.agg ⟨[.int .i64 0, .slice none 0 0]⟩, .int .i64 1]⟩) [] :=
  loadV_f (n := 1) (by rw [scanI_end h hk, if_pos h0]) rfl
theorem loadV_e2 {t : ByteArray} {k : Nat} {g : Graph} {b : Option Addr} {c : Nat} {A : Hp} (h : scanI t k g) (hk : (linesT t).length ≤ k) (h0 : ¬ g.size = 0) (o : (gSl 42 gEdge).ow [.slice b g.edges.length c] g.edges A) : loadV t (.tuple ⟨[.agg ⟨[.int .i64 g.size, .slice b g.edges.length c]⟩, .int .i64 0]⟩) A :=
  loadV_g (by rw [scanI_end h hk, if_neg h0]) o
theorem implLoadGraph_ct (t : ByteArray) (ht : t.size ≤ 1048576) : Ct Tryd.prog 12 [.string t] [] TabIn (loadV t) := by
  refine Ct.intro0 G_ok Tryd.func12 rfl rfl rfl fun E H hp => ?_
  have hlt := linesT_len t
  refine VCnew.intro fun x0 => ?_
  refine VCnew.intro fun x1 => ?_
  refine call_new (scriptLines_ct _ ?_) trivial ?_
  · trivial
  rintro v2 A2 o2
  obtain ⟨b2, c2, rfl, o2⟩ := o2
  apply loop_mod (α := (Nat) × (Graph) × (Hp) × (Option Addr) × (Nat)) G_ok [14, 15, 16, 17, 5, 6, 19, 20, 18, 21, 22, 23, 7, 8, 9, 24, 25, 27, 28, 29, 26, 30, 31, 32, 33, 34, 35, 36, 3, 37, 13] (fun z => [(13, .v (.int .i64 z.1))]) (fun z => [⟨x0, [Value.int IntKind.i64 (0 : Int), Value.slice none (0 : Nat) (0 : Nat)], (29 : Nat)⟩, ⟨x1, [.int .i64 z.2.1.size, .slice z.2.2.2.1 z.2.1.edges.length z.2.2.2.2], 29⟩]) (fun z => [z.2.2.1, A2, H]) (fun z => (linesT t).length - z.1) (fun z => z.1 ≤ (linesT t).length ∧ scanI t z.1 z.2.1 ∧ (gSl 42 gEdge).ow [.slice z.2.2.2.1 z.2.1.edges.length z.2.2.2.2] z.2.1.edges z.2.2.1) ((0, ⟨0, []⟩, [], none, 0))
  · repeat' (first | exact trivial | refine ⟨⟨_, rfl, by first | rfl | exact inc_eq _ (by omega) | (refine sl_eq ?_; simp; done), by first | exact trivial | simp [SV.ok]⟩, ?_⟩)
  · exact ⟨rfl, rfl, trivial⟩
  · try dsimp only
    exact ⟨Nat.zero_le _, scanI_0 _, sl_nil _ _ _⟩
  · exact .refl _
  rintro ⟨k, g, D, gb, gc⟩ hI
  obtain ⟨hk, hS, oD⟩ : k ≤ (linesT t).length ∧ scanI t k g ∧ (gSl 42 gEdge).ow [.slice gb g.edges.length gc] g.edges D := hI
  try dsimp only
  refine VCsplit.intro (fun q3 => ?_) (fun q3 => ?_)
  ·
    simp at q3
    refine idx_rd (Gt.owrd _ o2) ?_ ?_ fun b4 o4 hb4 => ?_
    · omega
    · omega
    refine load_allN ByteArray.empty (k) rfl (Gt.owrd _ o2) ?_ ?_ hb4 rfl (mem_at 1 rfl) fun l5 hl5 => ?_
    · omega
    · omega
    obtain ⟨rfl, hw5⟩ := hl5; simp only [flStr, flInt, okI] at hw5
    refine call_new (partsOrNone_ct _) trivial ?_
    rintro v6 A6 o6
    obtain ⟨b6, c6, rfl, o6⟩ := o6
    refine VCsplit.intro (fun q7 => ?_) (fun q7 => ?_)
    ·
      apply loop_stepA (k + 1, g, D, gb, gc)
      · exact .sub (by repeat (first | exact .slnil | apply List.Sublist.cons_cons | apply List.Sublist.cons))
      · repeat' (first | exact trivial | refine ⟨⟨_, rfl, by first | rfl | exact inc_eq _ (by omega) | (refine sl_eq ?_; simp; done), by first | exact trivial | simp [SV.ok]⟩, ?_⟩)
      · exact ⟨rfl, rfl, trivial⟩
      · try dsimp only
        exact ⟨by omega, scanI_ign hS (by omega) (by assumption), oD⟩
      try dsimp only
      omega
    ·
      refine VCsplit.intro (fun q8 => ?_) (fun q8 => ?_)
      ·
        refine call_new (loadLine_ct _ g _ _ _ (partsV ((linesT t)[k]?.getD ByteArray.empty)) (goodG_0 hS.2) ?_) ⟨graph_is hS.2 oD (by (try exact mem_at 0 rfl); (try exact mem_at 1 rfl); (try exact mem_at 2 rfl)), (Rp.mono _ (mem_at 0 rfl) (Gt.owrd _ o6)), (by (try exact TabIn.mono hp (mem_at 0 rfl)); (try exact TabIn.mono hp (mem_at 1 rfl)); (try exact TabIn.mono hp (mem_at 2 rfl)); (try exact TabIn.mono hp (mem_at 3 rfl)))⟩ ?_
        · exact Nat.le_trans (partsV_len _) (by decide)
        rintro v9 A9 o9
        obtain ⟨g9, b9, c9, rfl, e9, o9⟩ := o9
        refine VCsplit.intro (fun q10 => ?_) (fun q10 => ?_)
        ·
          simp at q10
          exact ⟨[], loadV_f (scanI_bad hS (by omega) (by assumption) (by assumption)) (by rw [wrap_of (by omega) (by omega)]; rfl), (.le fun a => by (try simp only [setR, List.cons_append, List.nil_append]); simp [List.count_cons, Blk.ent, idOf]; try omega)⟩
        ·
          simp at q10
          apply loop_stepA (k + 1, _, _, _, _)
          · exact .sub (by repeat (first | exact .slnil | apply List.Sublist.cons_cons | apply List.Sublist.cons))
          · repeat' (first | exact trivial | refine ⟨⟨_, rfl, by first | rfl | exact inc_eq _ (by omega) | (refine sl_eq ?_; simp; done), by first | exact trivial | simp [SV.ok]⟩, ?_⟩)
          · exact ⟨rfl, rfl, trivial⟩
          · try dsimp only
            (have hge := ‹_ → _ = lineG _ _› ‹lineR _ _ = true›; subst hge; exact ⟨by omega, scanI_line hS (by omega) (by assumption) (by assumption) (by assumption), by assumption⟩)
          try dsimp only
          omega
      ·
        refine VCsplit.intro (fun q11 => ?_) (fun q11 => ?_)
        ·
          simp at q11
          exact ⟨[], loadV_f (scanI_no hS (by omega) (by assumption) (by assumption)) (by rw [wrap_of (by omega) (by omega)]; rfl), (.le fun a => by (try simp only [setR, List.cons_append, List.nil_append]); simp [List.count_cons, Blk.ent, idOf]; try omega)⟩
        ·
          simp at q11
          apply loop_stepA (k + 1, _, _, _, _)
          · exact .sub (by repeat (first | exact .slnil | apply List.Sublist.cons_cons | apply List.Sublist.cons))
          · repeat' (first | exact trivial | refine ⟨⟨_, rfl, by first | rfl | exact inc_eq _ (by omega) | (refine sl_eq ?_; simp; done), by first | exact trivial | simp [SV.ok]⟩, ?_⟩)
          · exact ⟨rfl, rfl, trivial⟩
          · try dsimp only
            simp_all
          try dsimp only
          omega
  ·
    simp at q3
    refine VCsplit.intro (fun q12 => ?_) (fun q12 => ?_)
    ·
      simp at q12
      exact ⟨[], loadV_e1 hS (by omega) (by assumption), (.le fun a => by (try simp only [setR, List.cons_append, List.nil_append]); simp [List.count_cons, Blk.ent, idOf]; try omega)⟩
    ·
      simp at q12
      exact ⟨_, loadV_e2 hS (by omega) (by assumption) oD, (.le fun a => by (try simp only [setR, List.cons_append, List.nil_append]); simp [List.count_cons, Blk.ent, idOf]; try omega)⟩
theorem ign_35 {t : ByteArray} (h : partsOk t = true) (h1 : ¬ partsV t = []) (h2 : ((((pA (partsV t) 0)[0]?.getD 0).toNat : Nat) : Int) = 35) : ignT t = true := by
  rw [← ign_val h (fun e => h1 (List.length_eq_zero_iff.1 e))]; exact decide_eq_true h2
theorem ign_n35 {t : ByteArray} (h : partsOk t = true) (h1 : ¬ partsV t = []) (h2 : ¬ ((((pA (partsV t) 0)[0]?.getD 0).toNat : Nat) : Int) = 35) : ignT t = false := by
  rw [← ign_val h (fun e => h1 (List.length_eq_zero_iff.1 e))]; exact decide_eq_false h2
theorem gz_rd {t : ByteArray} {k : Nat} {g : Graph} {n : Int} {b : Option Addr} {c : Nat} {D H : Hp} (hn : okI n) (o : (gSl 42 gEdge).ow [.slice b g.edges.length c] g.edges D) (hs : ∀ p ∈ D, p ∈ H) : gGraph.rd H [.int .i64 n, .slice b g.edges.length c] ⟨n, g.edges⟩ :=
  gGraph_rd.2 ⟨_, _, rfl, hn, Rp.mono _ hs (Gt.owrd _ o)⟩
theorem scanI_v {t : ByteArray} {k : Nat} {g : Graph} (h : scanI t k g) (hk : k < (linesT t).length) (h1 : ignT ((linesT t)[k]?.getD ByteArray.empty) = false) (h2 : partsOk ((linesT t)[k]?.getD ByteArray.empty) = true) (h0 : g.size = 0)
    (h3 : (partsV ((linesT t)[k]?.getD ByteArray.empty)).length = 2) (h4 : (pA (partsV ((linesT t)[k]?.getD ByteArray.empty)) 0).toList = [118, 101, 114, 116, 115]) (h5 : isD (pA (partsV ((linesT t)[k]?.getD ByteArray.empty)) 1) = true)
    (h6 : graphOk ⟨readD (pA (partsV ((linesT t)[k]?.getD ByteArray.empty)) 1), g.edges⟩ = true) : scanI t (k + 1) ⟨readD (pA (partsV ((linesT t)[k]?.getD ByteArray.empty)) 1), g.edges⟩ := by
  have e : g.edges = [] := by rw [goodG_z h.2 h0]
  rw [e] at h6 ⊢
  have := scanI_line h hk h1 h2 (by rw [vertsR_4 h0 h3 h4 h5]; exact h6)
  unfold lineG at this
  rwa [if_pos h0] at this
theorem lineR_v6 {g : Graph} {ps : List ByteArray} (hg : goodG g) (h0 : g.size = 0) (h3 : ps.length = 2) (h4 : (pA ps 0).toList = [118, 101, 114, 116, 115]) (h5 : isD (pA ps 1) = true) (h6 : graphOk ⟨readD (pA ps 1), g.edges⟩ = false) : lineR g ps = false := by
  rw [vertsR_4 h0 h3 h4 h5]
  rw [goodG_z hg h0] at h6
  exact h6
theorem lineR_n5 {g : Graph} {ps : List ByteArray} (h : ¬ g.size = 0) (h1 : edgeR ps = false) : lineR g ps = false := by rw [lineR_e h, h1]; rfl
theorem lineR_n6 {g : Graph} {e : Edge} {ps : List ByteArray} (h : ¬ g.size = 0) (h1 : edgeR ps = true) (hf : edgeR ps = true → e = edgeP ps) (h2 : graphOk (putG g e) = false) : lineR g ps = false := by
  rw [lineR_e h, h1, ← hf h1, h2]; rfl
theorem scanI_e {t : ByteArray} {k : Nat} {g : Graph} {e : Edge} (h : scanI t k g) (hk : k < (linesT t).length) (h1 : ignT ((linesT t)[k]?.getD ByteArray.empty) = false) (h2 : partsOk ((linesT t)[k]?.getD ByteArray.empty) = true) (h0 : ¬ g.size = 0)
    (h3 : edgeR (partsV ((linesT t)[k]?.getD ByteArray.empty)) = true) (hf : edgeR (partsV ((linesT t)[k]?.getD ByteArray.empty)) = true → e = edgeP (partsV ((linesT t)[k]?.getD ByteArray.empty))) (h6 : graphOk (putG g e) = true) : scanI t (k + 1) (addG g e) := by
  have hf := hf h3
  have := scanI_line h hk h1 h2 (by rw [lineR_e h0, h3, ← hf, h6]; rfl)
  rw [lineG_e h0, ← hf, ← addG_yes h6] at this
  exact this
theorem l27Load_ct (t : ByteArray) (b : Option Addr) (m c : Nat) : Ct Tryd.prog 28 [.slice b m c] [] (fun H => (gSl 9 gS).rd H [.slice b m c] (linesT t)) (loadV t) := by
  refine Ct.intro0 G_ok Tryd.func28 rfl rfl rfl fun E H hp => ?_
  obtain ⟨rfl, hcl, hl⟩ := sl_len hp
  have hlt := linesT_len t
  refine VCnew.intro fun x0 => ?_
  refine VCnew.intro fun x1 => ?_
  apply loop_mod (α := (Nat) × (Graph) × (Hp) × (Option Addr) × (Nat)) G_ok [15, 16, 17, 18, 22, 23, 24, 25, 26, 21, 27, 28, 6, 7, 29, 30, 31, 32, 33, 34, 35, 36, 37, 38, 39, 40, 41, 42, 43, 44, 45, 46, 3, 47, 48, 49, 8, 50, 51, 52, 53, 54, 55, 56, 57, 58, 9, 59, 61, 62, 63, 64, 60, 65, 66, 67, 68, 69, 70, 71, 72, 73, 74, 75, 76, 77, 78, 80, 81, 79, 82, 83, 10, 11, 85, 86, 87, 84, 88, 89, 12, 13, 90, 91, 92, 93, 94, 95, 96, 97, 98, 99, 19, 20, 5] (fun z => [(5, .v (.int .i64 z.1))]) (fun z => [⟨x0, [Value.int IntKind.i64 (0 : Int), Value.slice none (0 : Nat) (0 : Nat)], (29 : Nat)⟩, ⟨x1, [.int .i64 z.2.1.size, .slice z.2.2.2.1 z.2.1.edges.length z.2.2.2.2], 29⟩]) (fun z => [z.2.2.1, H]) (fun z => (linesT t).length - z.1) (fun z => z.1 ≤ (linesT t).length ∧ scanI t z.1 z.2.1 ∧ (gSl 42 gEdge).ow [.slice z.2.2.2.1 z.2.1.edges.length z.2.2.2.2] z.2.1.edges z.2.2.1) ((0, ⟨0, []⟩, [], none, 0))
  · repeat' (first | exact trivial | refine ⟨⟨_, rfl, by first | rfl | exact inc_eq _ (by omega) | (refine sl_eq ?_; simp; done), by first | exact trivial | simp [SV.ok]⟩, ?_⟩)
  · exact ⟨rfl, rfl, trivial⟩
  · try dsimp only
    exact ⟨Nat.zero_le _, scanI_0 _, sl_nil _ _ _⟩
  · exact .refl _
  rintro ⟨k, g, D, gb, gc⟩ hI
  obtain ⟨hk, hS, oD⟩ : k ≤ (linesT t).length ∧ scanI t k g ∧ (gSl 42 gEdge).ow [.slice gb g.edges.length gc] g.edges D := hI
  try dsimp only
  refine VCsplit.intro (fun q2 => ?_) (fun q2 => ?_)
  ·
    simp at q2
    refine idx_rd hp ?_ ?_ fun b3 o3 hb3 => ?_
    · omega
    · omega
    refine load_allN ByteArray.empty (k) rfl hp ?_ ?_ hb3 rfl (mem_at 1 rfl) fun l4 hl4 => ?_
    · omega
    · omega
    obtain ⟨rfl, hw4⟩ := hl4; simp only [flStr, flInt, okI] at hw4
    refine call_new (specPartsOf_ct _) trivial ?_
    rintro v5 A5 o5
    obtain ⟨b5, c5, rfl, o5⟩ := o5
    refine VCsplit.intro (fun q6 => ?_) (fun q6 => ?_)
    ·
      refine VCsplit.intro (fun q7 => ?_) (fun q7 => ?_)
      ·
        simp at q7
        apply loop_stepA (k + 1, g, D, gb, gc)
        · exact .sub (by repeat (first | exact .slnil | apply List.Sublist.cons_cons | apply List.Sublist.cons))
        · repeat' (first | exact trivial | refine ⟨⟨_, rfl, by first | rfl | exact inc_eq _ (by omega) | (refine sl_eq ?_; simp; done), by first | exact trivial | simp [SV.ok]⟩, ?_⟩)
        · exact ⟨rfl, rfl, trivial⟩
        · try dsimp only
          exact ⟨by omega, scanI_ign hS (by omega) (ign_nil (by assumption) (by rw [‹partsV _ = []›]; rfl)), oD⟩
        try dsimp only
        omega
      ·
        simp at q7
        (have l7 : ¬ (partsV _).length = 0 := fun e => q7 (List.length_eq_zero_iff.1 e); have p7 := parts0_pos l7; unfold pA at p7)
        refine idx_rd (Gt.owrd _ o5) ?_ ?_ fun b8 o8 hb8 => ?_
        · trivial
        · omega
        refine load_allN ByteArray.empty (0) rfl (Gt.owrd _ o5) ?_ ?_ hb8 rfl (mem_at 0 rfl) fun l9 hl9 => ?_
        · trivial
        · omega
        obtain ⟨rfl, hw9⟩ := hl9; simp only [flStr, flInt, okI] at hw9
        refine VC.intro ?_ ?_
        · omega
        refine VCsplit.intro (fun q10 => ?_) (fun q10 => ?_)
        ·
          simp at q10
          apply loop_stepA (k + 1, g, D, gb, gc)
          · exact .sub (by repeat (first | exact .slnil | apply List.Sublist.cons_cons | apply List.Sublist.cons))
          · repeat' (first | exact trivial | refine ⟨⟨_, rfl, by first | rfl | exact inc_eq _ (by omega) | (refine sl_eq ?_; simp; done), by first | exact trivial | simp [SV.ok]⟩, ?_⟩)
          · exact ⟨rfl, rfl, trivial⟩
          · try dsimp only
            exact ⟨by omega, scanI_ign hS (by omega) (ign_35 (by assumption) (by assumption) (by assumption)), oD⟩
          try dsimp only
          omega
        ·
          simp at q10
          refine VCsplit.intro (fun q11 => ?_) (fun q11 => ?_)
          ·
            simp at q11
            exact ⟨[], loadV_f (scanI_no hS (by omega) (ign_no (by assumption)) (by assumption)) (by rw [wrap_of (by omega) (by omega)]; rfl), (.le fun a => by (try simp only [setR, List.cons_append, List.nil_append]); simp [List.count_cons, Blk.ent, idOf]; try omega)⟩
          ·
            simp at q11
            refine VCsplit.intro (fun q12 => ?_) (fun q12 => ?_)
            ·
              simp at q12
              refine VCsplit.intro (fun q13 => ?_) (fun q13 => ?_)
              ·
                simp at q13
                refine idx_rd (Gt.owrd _ o5) ?_ ?_ fun b14 o14 hb14 => ?_
                · trivial
                · omega
                refine load_allN ByteArray.empty (0) rfl (Gt.owrd _ o5) ?_ ?_ hb14 rfl (mem_at 0 rfl) fun l15 hl15 => ?_
                · trivial
                · omega
                obtain ⟨rfl, hw15⟩ := hl15; simp only [flStr, flInt, okI] at hw15
                refine VCsplit.intro (fun q16 => ?_) (fun q16 => ?_)
                ·
                  simp at q16
                  refine idx_rd (Gt.owrd _ o5) ?_ ?_ fun b17 o17 hb17 => ?_
                  · trivial
                  · omega
                  refine load_allN ByteArray.empty (1) rfl (Gt.owrd _ o5) ?_ ?_ hb17 rfl (mem_at 0 rfl) fun l18 hl18 => ?_
                  · trivial
                  · omega
                  obtain ⟨rfl, hw18⟩ := hl18; simp only [flStr, flInt, okI] at hw18
                  refine call_val (specReadDecimal_ct _) trivial ?_
                  rintro _ rfl
                  refine VCsplit.intro (fun q20 => ?_) (fun q20 => ?_)
                  ·
                    simp at q20
                    exact ⟨[], loadV_f (scanI_bad hS (by omega) (ign_n35 (by assumption) (by assumption) (by assumption)) (by first | exact vertsR_1 (by assumption) (by omega) | exact vertsR_2 (by assumption) (by assumption) | exact vertsR_3 (by assumption) (by assumption) | exact lineR_v6 hS.2 (by assumption) (by omega) (by assumption) (by assumption) (by assumption) | exact lineR_n5 (by assumption) (by assumption) | exact lineR_n6 (by assumption) (by assumption) fL (by assumption))) (by rw [wrap_of (by omega) (by omega)]; rfl), (.le fun a => by (try simp only [setR, List.cons_append, List.nil_append]); simp [List.count_cons, Blk.ent, idOf]; try omega)⟩
                  ·
                    simp at q20
                    refine call_val (specGraphOk_ct _ ⟨readD (pA (partsV ((linesT t)[k]?.getD ByteArray.empty)) 1), g.edges⟩) (gz_rd (t := t) (k := k) (okI_D _) oD (by (try exact mem_at 0 rfl); (try exact mem_at 1 rfl); (try exact mem_at 2 rfl))) ?_
                    rintro _ rfl
                    refine VCsplit.intro (fun q22 => ?_) (fun q22 => ?_)
                    ·
                      simp at q22
                      exact ⟨[], loadV_f (scanI_bad hS (by omega) (ign_n35 (by assumption) (by assumption) (by assumption)) (by first | exact vertsR_1 (by assumption) (by omega) | exact vertsR_2 (by assumption) (by assumption) | exact vertsR_3 (by assumption) (by assumption) | exact lineR_v6 hS.2 (by assumption) (by omega) (by assumption) (by assumption) (by assumption) | exact lineR_n5 (by assumption) (by assumption) | exact lineR_n6 (by assumption) (by assumption) fL (by assumption))) (by rw [wrap_of (by omega) (by omega)]; rfl), (.le fun a => by (try simp only [setR, List.cons_append, List.nil_append]); simp [List.count_cons, Blk.ent, idOf]; try omega)⟩
                    ·
                      simp at q22
                      apply loop_stepA (k + 1, ⟨readD (pA (partsV ((linesT t)[k]?.getD ByteArray.empty)) 1), g.edges⟩, D, gb, gc)
                      · exact .sub (by repeat (first | exact .slnil | apply List.Sublist.cons_cons | apply List.Sublist.cons))
                      · repeat' (first | exact trivial | refine ⟨⟨_, rfl, by first | rfl | exact inc_eq _ (by omega) | (refine sl_eq ?_; simp; done), by first | exact trivial | simp [SV.ok]⟩, ?_⟩)
                      · exact ⟨rfl, rfl, trivial⟩
                      · try dsimp only
                        exact ⟨by omega, scanI_v hS (by omega) (ign_n35 (by assumption) (by assumption) (by assumption)) (by assumption) (by assumption) (by omega) (by assumption) (by assumption) (by assumption), oD⟩
                      try dsimp only
                      omega
                ·
                  simp at q16
                  refine VCsplit.intro (fun q23 => ?_) (fun q23 => ?_)
                  ·
                    simp at q23
                    exact ⟨[], loadV_f (scanI_bad hS (by omega) (ign_n35 (by assumption) (by assumption) (by assumption)) (by first | exact vertsR_1 (by assumption) (by omega) | exact vertsR_2 (by assumption) (by assumption) | exact vertsR_3 (by assumption) (by assumption) | exact lineR_v6 hS.2 (by assumption) (by omega) (by assumption) (by assumption) (by assumption) | exact lineR_n5 (by assumption) (by assumption) | exact lineR_n6 (by assumption) (by assumption) fL (by assumption))) (by rw [wrap_of (by omega) (by omega)]; rfl), (.le fun a => by (try simp only [setR, List.cons_append, List.nil_append]); simp [List.count_cons, Blk.ent, idOf]; try omega)⟩
                  ·
                    simp at q23
                    exact absurd q23 (by assumption)
              ·
                simp at q13
                exact ⟨[], loadV_f (scanI_bad hS (by omega) (ign_n35 (by assumption) (by assumption) (by assumption)) (by first | exact vertsR_1 (by assumption) (by omega) | exact vertsR_2 (by assumption) (by assumption) | exact vertsR_3 (by assumption) (by assumption) | exact lineR_v6 hS.2 (by assumption) (by omega) (by assumption) (by assumption) (by assumption) | exact lineR_n5 (by assumption) (by assumption) | exact lineR_n6 (by assumption) (by assumption) fL (by assumption))) (by rw [wrap_of (by omega) (by omega)]; rfl), (.le fun a => by (try simp only [setR, List.cons_append, List.nil_append]); simp [List.count_cons, Blk.ent, idOf]; try omega)⟩
            ·
              simp at q12
              refine call_new (l27Edge_ct _ _ _ (partsV ((linesT t)[k]?.getD ByteArray.empty)) ?_) (Rp.mono _ (mem_at 0 rfl) (Gt.owrd _ o5)) ?_
              · exact Nat.le_trans (partsV_len _) (by decide)
              rintro v24 A24 o24
              obtain ⟨⟨eL, rfl, rL, fL⟩, rfl⟩ := o24
              refine VCnew.intro fun x25 => ?_
              refine call_new (specGraphAdd_ct _ _ g eL (goodG_n hS.2 (by assumption))) ⟨graph_is hS.2 oD (by (try exact mem_at 0 rfl); (try exact mem_at 1 rfl); (try exact mem_at 2 rfl)), gEdge_rd.2 ⟨rfl, rL.1, rL.2⟩⟩ ?_
              rintro v26 A26 o26
              obtain ⟨b26, c26, rfl, o26⟩ := o26
              refine VCnew.intro fun x27 => ?_
              refine VCsplit.intro (fun q28 => ?_) (fun q28 => ?_)
              ·
                simp at q28
                exact ⟨[], loadV_f (scanI_bad hS (by omega) (ign_n35 (by assumption) (by assumption) (by assumption)) (by first | exact vertsR_1 (by assumption) (by omega) | exact vertsR_2 (by assumption) (by assumption) | exact vertsR_3 (by assumption) (by assumption) | exact lineR_v6 hS.2 (by assumption) (by omega) (by assumption) (by assumption) (by assumption) | exact lineR_n5 (by assumption) (by assumption) | exact lineR_n6 (by assumption) (by assumption) fL (by assumption))) (by rw [wrap_of (by omega) (by omega)]; rfl), (.le fun a => by (try simp only [setR, List.cons_append, List.nil_append]); simp [List.count_cons, Blk.ent, idOf]; try omega)⟩
              ·
                simp at q28
                refine VCsplit.intro (fun q29 => ?_) (fun q29 => ?_)
                ·
                  simp at q29
                  exact ⟨[], loadV_f (scanI_bad hS (by omega) (ign_n35 (by assumption) (by assumption) (by assumption)) (by first | exact vertsR_1 (by assumption) (by omega) | exact vertsR_2 (by assumption) (by assumption) | exact vertsR_3 (by assumption) (by assumption) | exact lineR_v6 hS.2 (by assumption) (by omega) (by assumption) (by assumption) (by assumption) | exact lineR_n5 (by assumption) (by assumption) | exact lineR_n6 (by assumption) (by assumption) fL (by assumption))) (by rw [wrap_of (by omega) (by omega)]; rfl), (.le fun a => by (try simp only [setR, List.cons_append, List.nil_append]); simp [List.count_cons, Blk.ent, idOf]; try omega)⟩
                ·
                  simp at q29
                  apply loop_stepA (k + 1, _, _, _, _)
                  · exact .sub (by repeat (first | exact .slnil | apply List.Sublist.cons_cons | apply List.Sublist.cons))
                  · repeat' (first | exact trivial | refine ⟨⟨_, rfl, by first | rfl | exact inc_eq _ (by omega) | (refine sl_eq ?_; simp; done), by first | exact trivial | simp [SV.ok]⟩, ?_⟩)
                  · exact ⟨rfl, rfl, trivial⟩
                  · try dsimp only
                    exact ⟨by omega, scanI_e hS (by omega) (ign_n35 (by assumption) (by assumption) (by assumption)) (by assumption) (by assumption) (by assumption) fL (by assumption), by assumption⟩
                  try dsimp only
                  omega
    ·
      refine VCsplit.intro (fun q30 => ?_) (fun q30 => ?_)
      ·
        simp at q30
        exact ⟨[], loadV_f (scanI_no hS (by omega) (ign_no (by assumption)) (by assumption)) (by rw [wrap_of (by omega) (by omega)]; rfl), (.le fun a => by (try simp only [setR, List.cons_append, List.nil_append]); simp [List.count_cons, Blk.ent, idOf]; try omega)⟩
      ·
        simp at q30
        exact absurd (q30.symm.trans (show partsOk _ = false by assumption)) (by decide)
  ·
    simp at q2
    refine VCsplit.intro (fun q31 => ?_) (fun q31 => ?_)
    ·
      simp at q31
      exact ⟨[], loadV_e1 hS (by omega) (by assumption), (.le fun a => by (try simp only [setR, List.cons_append, List.nil_append]); simp [List.count_cons, Blk.ent, idOf]; try omega)⟩
    ·
      simp at q31
      exact ⟨_, loadV_e2 hS (by omega) (by assumption) oD, (.le fun a => by (try simp only [setR, List.cons_append, List.nil_append]); simp [List.count_cons, Blk.ent, idOf]; try omega)⟩
theorem specLoadGraph_ct (t : ByteArray) (ht : t.size ≤ 1048576) : Ct Tryd.prog 11 [.string t] [] (fun _ => True) (loadV t) := by
  refine Ct.intro0 G_ok Tryd.func11 rfl rfl rfl fun E H hp => ?_
  refine VCnew.intro fun x0 => ?_
  refine call_new (l27Lines_ct _ ?_) trivial ?_
  · trivial
  rintro v1 A1 o1
  obtain ⟨b1, c1, rfl, o1⟩ := o1
  refine call_new (l27Load_ct t _ _ _) (Rp.mono _ (mem_at 0 rfl) (Gt.owrd _ o1)) ?_
  rintro v2 A2 o2
  obtain ⟨b2, c2, rfl, o2⟩ := o2
  exact ⟨_, ⟨_, _, rfl, by assumption⟩, (.le fun a => by (try simp only [setR, List.cons_append, List.nil_append]); simp [List.count_cons, Blk.ent, idOf]; try omega)⟩
theorem scanG_good : ∀ (ts : List ByteArray) (g : Graph) (i : Nat), goodG g → goodG (scanG g i ts).1
  | [], g, i, h => by
    unfold scanG
    split
    · exact .inl rfl
    exact h
  | t :: ts, g, i, h => by
    unfold scanG
    split
    · exact scanG_good ts g (i + 1) h
    split
    · split
      · exact scanG_good ts _ (i + 1) (goodG_line ‹_›)
      exact .inl rfl
    exact .inl rfl
theorem load_rng (t : ByteArray) : 0 ≤ (loadG t).1.size ∧ (loadG t).1.size ≤ 12 ∧ (loadG t).1.edges.length ≤ 40 := by
  rcases scanG_good (linesT t) ⟨0, []⟩ 0 (.inl rfl) with h | h
  · unfold loadG; rw [h]; exact ⟨by decide, by decide, Nat.zero_le _⟩
  have := graphOk_iff.1 h
  unfold loadG; omega
theorem load_ow {t : ByteArray} {b : Option Addr} {c : Nat} {A : Hp} (h : (gSl 42 gEdge).ow [.slice b (loadG t).1.edges.length c] (loadG t).1.edges A) : gGraph.ow [.int .i64 (loadG t).1.size, .slice b (loadG t).1.edges.length c] (loadG t).1 A := gGraph_ow.2 ⟨b, c, A, rfl, by simp, by have := load_rng t; unfold okI; omega, h⟩
end Go.Proofs.YtcnclhjhnjpeiaaDoor

namespace Go.Proofs.YtcnclhjhnjpeiaaDoor
open Go.SX Go.Proofs
set_option linter.unusedSimpArgs false
set_option linter.unusedVariables false
set_option maxHeartbeats 4000000
attribute [local irreducible] IntKind.wrap
theorem sgOk_rng {g : Graph} (h : graphOk g = true) : 1 ≤ g.size ∧ g.size ≤ 12 ∧ g.edges.length ≤ 40 := by
  unfold graphOk inR at h
  simp at h
  omega
theorem sallOk_edge {g : Graph} : ∀ {n : Nat}, allOk g n = true → ∀ k, k < n → edgeOk g k = true
  | 0, _, k, hk => by omega
  | n + 1, h, k, hk => by
    unfold allOk at h
    simp at h
    rcases Nat.lt_or_ge k n with h1 | h1
    · exact sallOk_edge h.1 k h1
    rw [show k = n by omega]; exact h.2
theorem sgOk_edge {g : Graph} (h : graphOk g = true) (k : Nat) (hk : k < g.edges.length) : edgeOk g k = true := by
  have h1 := h
  unfold graphOk at h1
  simp at h1
  exact sallOk_edge h1.2.2 k hk
theorem sedge_rng {g : Graph} {k : Nat} (h : edgeOk g k = true) : 0 ≤ (g.edges[k]?.getD default).from' ∧ (g.edges[k]?.getD default).from' ≤ g.size - 1 ∧ 0 ≤ (g.edges[k]?.getD default).to ∧ (g.edges[k]?.getD default).to ≤ g.size - 1 := by
  unfold edgeOk at h
  simp only [Bool.and_eq_true] at h
  have h1 := inR_iff.1 h.1
  have h2 := inR_iff.1 h.2.1
  omega
def edgeS (e : Edge) : List UInt8 := [101, 100, 103, 101, 32] ++ (dcT e.from' ++ ([32, e.label, 32] ++ (dcT e.to ++ [10])))
def headS (g : Graph) : List UInt8 := [118, 101, 114, 116, 115, 32] ++ (dcT g.size ++ [10])
def showG (g : Graph) : List UInt8 := headS g ++ g.edges.flatMap edgeS
def showT (g : Graph) : ByteArray := if graphOk g then tx (showG g) else .empty
theorem showT_no {g : Graph} (h : graphOk g = false) : showT g = .empty := by unfold showT; rw [h]; rfl
theorem showT_yes {g : Graph} (h : graphOk g = true) : showT g = tx (showG g) := by unfold showT; rw [h]; rfl
theorem edgeS_len {e : Edge} {n : Int} (hn : n ≤ 12) (h1 : 0 ≤ e.from' ∧ e.from' < n) (h2 : 0 ≤ e.to ∧ e.to < n) : (edgeS e).length ≤ 13 := by
  have h3 := dcT_len (n := e.from') (by omega)
  have h4 := dcT_len (n := e.to) (by omega)
  unfold edgeS
  simp only [List.length_append, List.length_cons, List.length_nil]
  omega
theorem headS_len {g : Graph} (h : 0 ≤ g.size ∧ g.size ≤ 12) : (headS g).length ≤ 9 := by
  have h3 := dcT_len h
  unfold headS
  simp only [List.length_append, List.length_cons, List.length_nil]
  omega
theorem es_step {g : Graph} {k : Nat} (h : k < g.edges.length) : (g.edges.take (k + 1)).flatMap edgeS = (g.edges.take k).flatMap edgeS ++ edgeS (g.edges[k]?.getD default) := by
  rw [← List.take_append_getElem h, List.flatMap_append, List.getElem?_eq_getElem h]; simp
theorem lbl_tx9 (x : UInt8) : (⟨(([(x.toNat : Int)] : List Int).map fun v => UInt8.ofNat v.toNat).toArray⟩ : ByteArray) = tx [x] := by
  unfold tx; simp
theorem tx_list (l : List UInt8) : (tx l).data.toList = l := by_tx l
theorem head_tx (g : Graph) : (⟨#[118, 101, 114, 116, 115, 32]⟩ : ByteArray) ++ tx (dcT g.size) ++ ⟨#[10]⟩ = tx (headS g) := by
  rw [show (⟨#[118, 101, 114, 116, 115, 32]⟩ : ByteArray) = tx [118, 101, 114, 116, 115, 32] from rfl, show (⟨#[10]⟩ : ByteArray) = tx [10] from rfl, ← tx_app, ← tx_app, List.append_assoc]; rfl
theorem edge_tx (e : Edge) : (⟨#[101, 100, 103, 101, 32]⟩ : ByteArray) ++ tx (dcT e.from') ++ ⟨#[32]⟩ ++ ⟨(([(e.label.toNat : Int)] : List Int).map fun v => UInt8.ofNat v.toNat).toArray⟩ ++ ⟨#[32]⟩ ++ tx (dcT e.to) ++ ⟨#[10]⟩ = tx (edgeS e) := by
  rw [lbl_tx9, show (⟨#[101, 100, 103, 101, 32]⟩ : ByteArray) = tx [101, 100, 103, 101, 32] from rfl, show (⟨#[32]⟩ : ByteArray) = tx [32] from rfl, show (⟨#[10]⟩ : ByteArray) = tx [10] from rfl]
  simp only [← tx_app]
  unfold edgeS
  simp only [List.append_assoc]; rfl
theorem edge_tx2 (s : ByteArray) (e : Edge) : s ++ ⟨#[101, 100, 103, 101, 32]⟩ ++ tx (dcT e.from') ++ ⟨#[32]⟩ ++ ⟨(([(e.label.toNat : Int)] : List Int).map fun v => UInt8.ofNat v.toNat).toArray⟩ ++ ⟨#[32]⟩ ++ tx (dcT e.to) ++ ⟨#[10]⟩ = s ++ tx (edgeS e) := by
  rw [← edge_tx]
  simp only [ByteArray.append_assoc]
theorem head_zero (g : Graph) : headS g = headS g ++ (g.edges.take 0).flatMap edgeS := by rw [List.take_zero]; simp
--@ct impl.ShowGraph val implShowGraph_ct _ $1 | %1
theorem implShowGraph_ct (l : List Value) (g : Graph) : Ct Tryd.prog 9 [.agg ⟨l⟩] [] (fun H => gGraph.rd H l g) (fun v A => v = .string (showT g) ∧ A = []) := by
  refine Ct.intro0 G_ok Tryd.func9 rfl rfl rfl fun E H hp => ?_
  obtain ⟨b1, c1, rfl, w0, h1⟩ := gGraph_rd.1 hp
  refine VCnew.intro fun x0 => ?_
  refine call_val (implGraphOk_ct _ (g)) (Rp.mono _ (mem_at 0 rfl) hp) ?_
  rintro _ rfl
  refine VCsplit.intro (fun q2 => ?_) (fun q2 => ?_)
  ·
    simp at q2
    exact ⟨[], ⟨by rw [showT_no (by assumption)]; rfl, rfl⟩, (.le fun a => by (try simp only [setR, List.cons_append, List.nil_append]); simp [List.count_cons, Blk.ent, idOf]; try omega)⟩
  ·
    simp at q2
    (have iq2 := sgOk_rng q2; have id2 := dcT_len (n := g.size) (by omega); have im2 : IntKind.i64.max = 9223372036854775807 := rfl)
    refine VCnew.intro fun x3 => ?_
    refine call_val (decimal12_ct _ ?_) trivial ?_
    · omega
    rintro _ rfl
    refine VC.intro ?_ ?_
    · (simp only [ByteArray.size_append, tx, bsz, List.length_map, List.length_cons, List.length_nil]; omega)
    refine VC.intro ?_ ?_
    · (simp only [ByteArray.size_append, tx, bsz, List.length_map, List.length_cons, List.length_nil]; omega)
    refine callR_blk 1 ([]) [H] rfl ?_ (WriteString_ct _ _ _ _ _ _ _ _ (by first | exact .inl rfl | exact .inr rfl | assumption) (sl_nil _ _ _) (.inl ⟨rfl, rfl⟩) ?_) trivial ?_
    · exact .refl _
    · (simp only [ByteArray.size_append, tx, bsz, List.length_map, List.length_cons, List.length_nil]; omega)
    rintro _ A5 ⟨rfl, bb5, bc5, B5, rfl, o5, z5⟩
    refine ⟨_, _, [B5], rfl, perm1, ?_⟩
    apply loop_mod (α := (Nat) × (List UInt8) × (Hp) × (Option Addr) × (Nat)) G_ok [19, 20, 21, 5, 22, 23, 24, 25, 26, 27, 28, 29, 30, 31, 32, 33, 34, 35, 36, 37, 38, 39, 18] (fun z => [(18, .v (.int .i64 z.1))]) (fun z => [⟨x0, [Value.int IntKind.i64 g.size, Value.slice b1 g.edges.length c1], (29 : Nat)⟩, ⟨x3, [.pointer (some ⟨x3, 0, none⟩), .slice z.2.2.2.1 z.2.1.length z.2.2.2.2], 49⟩]) (fun z => [z.2.2.1, H]) (fun z => g.edges.length - z.1) (fun z => z.1 ≤ g.edges.length ∧ z.2.1 = headS g ++ (g.edges.take z.1).flatMap edgeS ∧ z.2.1.length ≤ 9 + 13 * z.1 ∧ (gSl 5 gY).ow [.slice z.2.2.2.1 z.2.1.length z.2.2.2.2] z.2.1 z.2.2.1 ∧ Bz z.2.2.2.1 z.2.2.2.2) ((0, _, _, _, _))
    · repeat' (first | exact trivial | refine ⟨⟨_, rfl, by first | rfl | exact inc_eq _ (by omega) | (refine sl_eq ?_; simp; done), by first | exact trivial | simp [SV.ok]⟩, ?_⟩)
    · exact ⟨rfl, rfl, trivial⟩
    · try dsimp only
      exact ⟨by omega, by rw [head_tx, tx_list, List.nil_append]; exact head_zero g, by rw [head_tx, tx_list, List.nil_append]; have := headS_len (g := g) (by omega); omega, ‹_›, ‹_›⟩
    · exact .refl _
    rintro ⟨k, o, A, b, c⟩ hI
    obtain ⟨hk, ho, hol, oA, zA⟩ : k ≤ g.edges.length ∧ o = headS g ++ (g.edges.take k).flatMap edgeS ∧ o.length ≤ 9 + 13 * k ∧ (gSl 5 gY).ow [.slice b o.length c] o A ∧ Bz b c := hI
    try dsimp only
    refine VCsplit.intro (fun q6 => ?_) (fun q6 => ?_)
    ·
      simp at q6
      have he := sedge_rng (sgOk_edge ‹_› k (by omega))
      have h5 := dcT_len (n := (g.edges[k]?.getD default).from') (by omega)
      have h6 := dcT_len (n := (g.edges[k]?.getD default).to) (by omega)
      have hel := edgeS_len (e := g.edges[k]?.getD default) (n := g.size) (by omega) (by omega) (by omega)
      refine idx_rd h1 ?_ ?_ fun b7 o7 hb7 => ?_
      · omega
      · omega
      refine load_allN default (k) rfl h1 ?_ ?_ hb7 rfl (mem_at 1 rfl) fun l8 hl8 => ?_
      · omega
      · omega
      obtain ⟨rfl, w0x8, w2x8⟩ := gEdge_rd.1 hl8
      refine VCnew.intro fun x9 => ?_
      refine draw G_ok mixed (some 16) (.q 0 (.q 1 (.q 5 (.q 6 (.q 11 (.q 12 (.hd (.alt 2 (.q 3 (.q 4 (.hd (.alt 7 (.hd (.alt 8 (.q 9 (.q 10 (.f 13 (.q 14 (.q 15 (.tl 16 (.nil))))))) (.alt 13 (.f 8 (.q 9 (.q 10 (.q 14 (.q 15 (.tl 16 (.nil))))))) (.nil)))) (.alt 13 (.f 7 (.f 8 (.q 9 (.q 10 (.q 14 (.q 15 (.tl 16 (.nil)))))))) (.nil)))))) (.alt 7 (.hd (.alt 2 (.q 3 (.q 4 (.hd (.alt 8 (.q 9 (.q 10 (.f 13 (.q 14 (.q 15 (.tl 16 (.nil))))))) (.alt 13 (.f 8 (.q 9 (.q 10 (.q 14 (.q 15 (.tl 16 (.nil))))))) (.nil)))))) (.alt 8 (.f 2 (.q 3 (.q 4 (.q 9 (.q 10 (.f 13 (.q 14 (.q 15 (.tl 16 (.nil)))))))))) (.nil)))) (.nil)))))))))) (by decide +kernel) ?_
      refine VC.intro ?_ ?_
      ·
        refine call_val (decimal12_ct _ ?_) trivial ?_
        · omega
        rintro _ rfl
        refine VC.intro ?_ ?_
        · exact fun _ h => h
        refine VC.intro ?_ ?_
        · (simp only [ByteArray.size_append, tx, bsz, List.length_map, List.length_cons, List.length_nil]; omega)
        refine VC.intro ?_ ?_
        · (simp only [ByteArray.size_append, tx, bsz, List.length_map, List.length_cons, List.length_nil]; omega)
        refine VC.intro ?_ ?_
        ·
          refine VCnew.intro fun x11 => ?_
          refine VC.intro ?_ ?_
          · exact keep_new
          refine VC.intro ?_ ?_
          ·
            refine conv_bs G_ok (([(↑(g.edges[k]?.getD default).label.toNat : Int)] : List Int).map fun v => UInt8.ofNat v.toNat) rfl (lit_bs [(↑(g.edges[k]?.getD default).label.toNat : Int)] (mem_at 0 rfl _ (List.mem_singleton.2 rfl)) rfl ?_ (by simp)) rfl rfl rfl ?_
            · exact inU8_1 _
            refine VC.intro ?_ ?_
            · exact keep_new
            refine VC.intro ?_ ?_
            · (simp only [ByteArray.size_append, tx, bsz, List.length_map, List.length_cons, List.length_nil]; omega)
            refine VC.intro ?_ ?_
            · (simp only [ByteArray.size_append, tx, bsz, List.length_map, List.length_cons, List.length_nil]; omega)
            refine call_val (decimal12_ct _ ?_) trivial ?_
            · omega
            rintro _ rfl
            refine VC.intro ?_ ?_
            · exact keep_new
            refine VC.intro ?_ ?_
            · (simp only [ByteArray.size_append, tx, bsz, List.length_map, List.length_cons, List.length_nil]; omega)
            refine VC.intro ?_ ?_
            · (simp only [ByteArray.size_append, tx, bsz, List.length_map, List.length_cons, List.length_nil]; omega)
            refine callR_blk 1 (A) [[(x11, Obj.cells { toList := Value.int IntKind.u8 (↑(g.edges[k]?.getD default).label.toNat : Int) :: [].append (zeros (nat_lit 0) [Value.int IntKind.u8 (0 : Int)]) } (5 : TypeId))], H] rfl ?_ (WriteString_ct _ _ _ _ _ _ _ _ (by first | exact .inl rfl | exact .inr rfl | assumption) oA zA ?_) trivial ?_
            · exact .le fun a => by (try simp only [setR, List.cons_append, List.nil_append]); simp only [List.flatten_append, List.flatten_cons, List.flatten_nil, List.count_append, List.count_nil, List.append_nil, List.nil_append]; omega
            · (simp only [ByteArray.size_append, tx, bsz, List.length_map, List.length_cons, List.length_nil]; omega)
            rintro _ A13 ⟨rfl, bb13, bc13, B13, rfl, o13, z13⟩
            refine ⟨_, _, [B13], rfl, perm1, ?_⟩
            apply loop_stepA (k + 1, _, _, _, _)
            · exact .sub (by repeat (first | exact .slnil | apply List.Sublist.cons_cons | apply List.Sublist.cons))
            · repeat' (first | exact trivial | refine ⟨⟨_, rfl, by first | rfl | exact inc_eq _ (by omega) | (refine sl_eq ?_; simp; done), by first | exact trivial | simp [SV.ok]⟩, ?_⟩)
            · exact ⟨rfl, rfl, trivial⟩
            · try dsimp only
              exact ⟨by omega, by rw [edge_tx, tx_list, es_step (by omega), ho, List.append_assoc], by rw [edge_tx, tx_list, List.length_append]; omega, ‹_›, ‹_›⟩
            try dsimp only
            omega
          ·
            refine VC.intro ?_ ?_
            ·
              refine call_val (decimal12_ct _ ?_) trivial ?_
              · omega
              rintro _ rfl
              refine VC.intro ?_ ?_
              · exact keep_new
              refine conv_bs G_ok (([(↑(g.edges[k]?.getD default).label.toNat : Int)] : List Int).map fun v => UInt8.ofNat v.toNat) rfl (lit_bs [(↑(g.edges[k]?.getD default).label.toNat : Int)] (mem_at 0 rfl _ (List.mem_singleton.2 rfl)) rfl ?_ (by simp)) rfl rfl rfl ?_
              · exact inU8_1 _
              refine VC.intro ?_ ?_
              · exact keep_new
              refine VC.intro ?_ ?_
              · (simp only [ByteArray.size_append, tx, bsz, List.length_map, List.length_cons, List.length_nil]; omega)
              refine VC.intro ?_ ?_
              · (simp only [ByteArray.size_append, tx, bsz, List.length_map, List.length_cons, List.length_nil]; omega)
              refine VC.intro ?_ ?_
              · (simp only [ByteArray.size_append, tx, bsz, List.length_map, List.length_cons, List.length_nil]; omega)
              refine VC.intro ?_ ?_
              · (simp only [ByteArray.size_append, tx, bsz, List.length_map, List.length_cons, List.length_nil]; omega)
              refine callR_blk 1 (A) [[(x11, Obj.cells { toList := Value.int IntKind.u8 (↑(g.edges[k]?.getD default).label.toNat : Int) :: [].append (zeros (nat_lit 0) [Value.int IntKind.u8 (0 : Int)]) } (5 : TypeId))], H] rfl ?_ (WriteString_ct _ _ _ _ _ _ _ _ (by first | exact .inl rfl | exact .inr rfl | assumption) oA zA ?_) trivial ?_
              · exact .le fun a => by (try simp only [setR, List.cons_append, List.nil_append]); simp only [List.flatten_append, List.flatten_cons, List.flatten_nil, List.count_append, List.count_nil, List.append_nil, List.nil_append]; omega
              · (simp only [ByteArray.size_append, tx, bsz, List.length_map, List.length_cons, List.length_nil]; omega)
              rintro _ A15 ⟨rfl, bb15, bc15, B15, rfl, o15, z15⟩
              refine ⟨_, _, [B15], rfl, perm1, ?_⟩
              apply loop_stepA (k + 1, _, _, _, _)
              · exact .sub (by repeat (first | exact .slnil | apply List.Sublist.cons_cons | apply List.Sublist.cons))
              · repeat' (first | exact trivial | refine ⟨⟨_, rfl, by first | rfl | exact inc_eq _ (by omega) | (refine sl_eq ?_; simp; done), by first | exact trivial | simp [SV.ok]⟩, ?_⟩)
              · exact ⟨rfl, rfl, trivial⟩
              · try dsimp only
                exact ⟨by omega, by rw [edge_tx, tx_list, es_step (by omega), ho, List.append_assoc], by rw [edge_tx, tx_list, List.length_append]; omega, ‹_›, ‹_›⟩
              try dsimp only
              omega
            ·
              exact trivial
        ·
          refine VC.intro ?_ ?_
          ·
            refine call_val (decimal12_ct _ ?_) trivial ?_
            · omega
            rintro _ rfl
            refine VC.intro ?_ ?_
            · exact fun _ h => h
            refine VCnew.intro fun x17 => ?_
            refine VC.intro ?_ ?_
            · exact keep_new
            refine conv_bs G_ok (([(↑(g.edges[k]?.getD default).label.toNat : Int)] : List Int).map fun v => UInt8.ofNat v.toNat) rfl (lit_bs [(↑(g.edges[k]?.getD default).label.toNat : Int)] (mem_at 0 rfl _ (List.mem_singleton.2 rfl)) rfl ?_ (by simp)) rfl rfl rfl ?_
            · exact inU8_1 _
            refine VC.intro ?_ ?_
            · exact keep_new
            refine VC.intro ?_ ?_
            · (simp only [ByteArray.size_append, tx, bsz, List.length_map, List.length_cons, List.length_nil]; omega)
            refine VC.intro ?_ ?_
            · (simp only [ByteArray.size_append, tx, bsz, List.length_map, List.length_cons, List.length_nil]; omega)
            refine VC.intro ?_ ?_
            · (simp only [ByteArray.size_append, tx, bsz, List.length_map, List.length_cons, List.length_nil]; omega)
            refine VC.intro ?_ ?_
            · (simp only [ByteArray.size_append, tx, bsz, List.length_map, List.length_cons, List.length_nil]; omega)
            refine callR_blk 1 (A) [[(x17, Obj.cells { toList := Value.int IntKind.u8 (↑(g.edges[k]?.getD default).label.toNat : Int) :: [].append (zeros (nat_lit 0) [Value.int IntKind.u8 (0 : Int)]) } (5 : TypeId))], H] rfl ?_ (WriteString_ct _ _ _ _ _ _ _ _ (by first | exact .inl rfl | exact .inr rfl | assumption) oA zA ?_) trivial ?_
            · exact .le fun a => by (try simp only [setR, List.cons_append, List.nil_append]); simp only [List.flatten_append, List.flatten_cons, List.flatten_nil, List.count_append, List.count_nil, List.append_nil, List.nil_append]; omega
            · (simp only [ByteArray.size_append, tx, bsz, List.length_map, List.length_cons, List.length_nil]; omega)
            rintro _ A18 ⟨rfl, bb18, bc18, B18, rfl, o18, z18⟩
            refine ⟨_, _, [B18], rfl, perm1, ?_⟩
            apply loop_stepA (k + 1, _, _, _, _)
            · exact .sub (by repeat (first | exact .slnil | apply List.Sublist.cons_cons | apply List.Sublist.cons))
            · repeat' (first | exact trivial | refine ⟨⟨_, rfl, by first | rfl | exact inc_eq _ (by omega) | (refine sl_eq ?_; simp; done), by first | exact trivial | simp [SV.ok]⟩, ?_⟩)
            · exact ⟨rfl, rfl, trivial⟩
            · try dsimp only
              exact ⟨by omega, by rw [edge_tx, tx_list, es_step (by omega), ho, List.append_assoc], by rw [edge_tx, tx_list, List.length_append]; omega, ‹_›, ‹_›⟩
            try dsimp only
            omega
          ·
            exact trivial
      ·
        refine VC.intro ?_ ?_
        ·
          refine VCnew.intro fun x19 => ?_
          refine VC.intro ?_ ?_
          · exact keep_new
          refine VC.intro ?_ ?_
          ·
            refine call_val (decimal12_ct _ ?_) trivial ?_
            · omega
            rintro _ rfl
            refine VC.intro ?_ ?_
            · exact keep_new
            refine VC.intro ?_ ?_
            · (simp only [ByteArray.size_append, tx, bsz, List.length_map, List.length_cons, List.length_nil]; omega)
            refine VC.intro ?_ ?_
            · (simp only [ByteArray.size_append, tx, bsz, List.length_map, List.length_cons, List.length_nil]; omega)
            refine VC.intro ?_ ?_
            ·
              refine conv_bs G_ok (([(↑(g.edges[k]?.getD default).label.toNat : Int)] : List Int).map fun v => UInt8.ofNat v.toNat) rfl (lit_bs [(↑(g.edges[k]?.getD default).label.toNat : Int)] (mem_at 0 rfl _ (List.mem_singleton.2 rfl)) rfl ?_ (by simp)) rfl rfl rfl ?_
              · exact inU8_1 _
              refine VC.intro ?_ ?_
              · exact keep_new
              refine VC.intro ?_ ?_
              · (simp only [ByteArray.size_append, tx, bsz, List.length_map, List.length_cons, List.length_nil]; omega)
              refine VC.intro ?_ ?_
              · (simp only [ByteArray.size_append, tx, bsz, List.length_map, List.length_cons, List.length_nil]; omega)
              refine call_val (decimal12_ct _ ?_) trivial ?_
              · omega
              rintro _ rfl
              refine VC.intro ?_ ?_
              · exact keep_new
              refine VC.intro ?_ ?_
              · (simp only [ByteArray.size_append, tx, bsz, List.length_map, List.length_cons, List.length_nil]; omega)
              refine VC.intro ?_ ?_
              · (simp only [ByteArray.size_append, tx, bsz, List.length_map, List.length_cons, List.length_nil]; omega)
              refine callR_blk 1 (A) [[(x19, Obj.cells { toList := Value.int IntKind.u8 (↑(g.edges[k]?.getD default).label.toNat : Int) :: [].append (zeros (nat_lit 0) [Value.int IntKind.u8 (0 : Int)]) } (5 : TypeId))], H] rfl ?_ (WriteString_ct _ _ _ _ _ _ _ _ (by first | exact .inl rfl | exact .inr rfl | assumption) oA zA ?_) trivial ?_
              · exact .le fun a => by (try simp only [setR, List.cons_append, List.nil_append]); simp only [List.flatten_append, List.flatten_cons, List.flatten_nil, List.count_append, List.count_nil, List.append_nil, List.nil_append]; omega
              · (simp only [ByteArray.size_append, tx, bsz, List.length_map, List.length_cons, List.length_nil]; omega)
              rintro _ A22 ⟨rfl, bb22, bc22, B22, rfl, o22, z22⟩
              refine ⟨_, _, [B22], rfl, perm1, ?_⟩
              apply loop_stepA (k + 1, _, _, _, _)
              · exact .sub (by repeat (first | exact .slnil | apply List.Sublist.cons_cons | apply List.Sublist.cons))
              · repeat' (first | exact trivial | refine ⟨⟨_, rfl, by first | rfl | exact inc_eq _ (by omega) | (refine sl_eq ?_; simp; done), by first | exact trivial | simp [SV.ok]⟩, ?_⟩)
              · exact ⟨rfl, rfl, trivial⟩
              · try dsimp only
                exact ⟨by omega, by rw [edge_tx, tx_list, es_step (by omega), ho, List.append_assoc], by rw [edge_tx, tx_list, List.length_append]; omega, ‹_›, ‹_›⟩
              try dsimp only
              omega
            ·
              refine VC.intro ?_ ?_
              ·
                refine call_val (decimal12_ct _ ?_) trivial ?_
                · omega
                rintro _ rfl
                refine VC.intro ?_ ?_
                · exact keep_new
                refine conv_bs G_ok (([(↑(g.edges[k]?.getD default).label.toNat : Int)] : List Int).map fun v => UInt8.ofNat v.toNat) rfl (lit_bs [(↑(g.edges[k]?.getD default).label.toNat : Int)] (mem_at 0 rfl _ (List.mem_singleton.2 rfl)) rfl ?_ (by simp)) rfl rfl rfl ?_
                · exact inU8_1 _
                refine VC.intro ?_ ?_
                · exact keep_new
                refine VC.intro ?_ ?_
                · (simp only [ByteArray.size_append, tx, bsz, List.length_map, List.length_cons, List.length_nil]; omega)
                refine VC.intro ?_ ?_
                · (simp only [ByteArray.size_append, tx, bsz, List.length_map, List.length_cons, List.length_nil]; omega)
                refine VC.intro ?_ ?_
                · (simp only [ByteArray.size_append, tx, bsz, List.length_map, List.length_cons, List.length_nil]; omega)
                refine VC.intro ?_ ?_
                · (simp only [ByteArray.size_append, tx, bsz, List.length_map, List.length_cons, List.length_nil]; omega)
                refine callR_blk 1 (A) [[(x19, Obj.cells { toList := Value.int IntKind.u8 (↑(g.edges[k]?.getD default).label.toNat : Int) :: [].append (zeros (nat_lit 0) [Value.int IntKind.u8 (0 : Int)]) } (5 : TypeId))], H] rfl ?_ (WriteString_ct _ _ _ _ _ _ _ _ (by first | exact .inl rfl | exact .inr rfl | assumption) oA zA ?_) trivial ?_
                · exact .le fun a => by (try simp only [setR, List.cons_append, List.nil_append]); simp only [List.flatten_append, List.flatten_cons, List.flatten_nil, List.count_append, List.count_nil, List.append_nil, List.nil_append]; omega
                · (simp only [ByteArray.size_append, tx, bsz, List.length_map, List.length_cons, List.length_nil]; omega)
                rintro _ A24 ⟨rfl, bb24, bc24, B24, rfl, o24, z24⟩
                refine ⟨_, _, [B24], rfl, perm1, ?_⟩
                apply loop_stepA (k + 1, _, _, _, _)
                · exact .sub (by repeat (first | exact .slnil | apply List.Sublist.cons_cons | apply List.Sublist.cons))
                · repeat' (first | exact trivial | refine ⟨⟨_, rfl, by first | rfl | exact inc_eq _ (by omega) | (refine sl_eq ?_; simp; done), by first | exact trivial | simp [SV.ok]⟩, ?_⟩)
                · exact ⟨rfl, rfl, trivial⟩
                · try dsimp only
                  exact ⟨by omega, by rw [edge_tx, tx_list, es_step (by omega), ho, List.append_assoc], by rw [edge_tx, tx_list, List.length_append]; omega, ‹_›, ‹_›⟩
                try dsimp only
                omega
              ·
                exact trivial
          ·
            refine VC.intro ?_ ?_
            ·
              refine conv_bs G_ok (([(↑(g.edges[k]?.getD default).label.toNat : Int)] : List Int).map fun v => UInt8.ofNat v.toNat) rfl (lit_bs [(↑(g.edges[k]?.getD default).label.toNat : Int)] (mem_at 0 rfl _ (List.mem_singleton.2 rfl)) rfl ?_ (by simp)) rfl rfl rfl ?_
              · exact inU8_1 _
              refine VC.intro ?_ ?_
              · exact keep_new
              refine call_val (decimal12_ct _ ?_) trivial ?_
              · omega
              rintro _ rfl
              refine VC.intro ?_ ?_
              · exact keep_new
              refine VC.intro ?_ ?_
              · (simp only [ByteArray.size_append, tx, bsz, List.length_map, List.length_cons, List.length_nil]; omega)
              refine VC.intro ?_ ?_
              · (simp only [ByteArray.size_append, tx, bsz, List.length_map, List.length_cons, List.length_nil]; omega)
              refine VC.intro ?_ ?_
              · (simp only [ByteArray.size_append, tx, bsz, List.length_map, List.length_cons, List.length_nil]; omega)
              refine VC.intro ?_ ?_
              · (simp only [ByteArray.size_append, tx, bsz, List.length_map, List.length_cons, List.length_nil]; omega)
              refine call_val (decimal12_ct _ ?_) trivial ?_
              · omega
              rintro _ rfl
              refine VC.intro ?_ ?_
              · exact keep_new
              refine VC.intro ?_ ?_
              · (simp only [ByteArray.size_append, tx, bsz, List.length_map, List.length_cons, List.length_nil]; omega)
              refine VC.intro ?_ ?_
              · (simp only [ByteArray.size_append, tx, bsz, List.length_map, List.length_cons, List.length_nil]; omega)
              refine callR_blk 1 (A) [[(x19, Obj.cells { toList := Value.int IntKind.u8 (↑(g.edges[k]?.getD default).label.toNat : Int) :: [].append (zeros (nat_lit 0) [Value.int IntKind.u8 (0 : Int)]) } (5 : TypeId))], H] rfl ?_ (WriteString_ct _ _ _ _ _ _ _ _ (by first | exact .inl rfl | exact .inr rfl | assumption) oA zA ?_) trivial ?_
              · exact .le fun a => by (try simp only [setR, List.cons_append, List.nil_append]); simp only [List.flatten_append, List.flatten_cons, List.flatten_nil, List.count_append, List.count_nil, List.append_nil, List.nil_append]; omega
              · (simp only [ByteArray.size_append, tx, bsz, List.length_map, List.length_cons, List.length_nil]; omega)
              rintro _ A27 ⟨rfl, bb27, bc27, B27, rfl, o27, z27⟩
              refine ⟨_, _, [B27], rfl, perm1, ?_⟩
              apply loop_stepA (k + 1, _, _, _, _)
              · exact .sub (by repeat (first | exact .slnil | apply List.Sublist.cons_cons | apply List.Sublist.cons))
              · repeat' (first | exact trivial | refine ⟨⟨_, rfl, by first | rfl | exact inc_eq _ (by omega) | (refine sl_eq ?_; simp; done), by first | exact trivial | simp [SV.ok]⟩, ?_⟩)
              · exact ⟨rfl, rfl, trivial⟩
              · try dsimp only
                exact ⟨by omega, by rw [edge_tx, tx_list, es_step (by omega), ho, List.append_assoc], by rw [edge_tx, tx_list, List.length_append]; omega, ‹_›, ‹_›⟩
              try dsimp only
              omega
            ·
              exact trivial
        ·
          exact trivial
    ·
      simp at q6
      obtain rfl : k = g.edges.length := by omega
      rw [List.take_length] at ho
      refine callR_blk 1 (A) [H] rfl ?_ (String_ct _ _ _ _ _ _ _ oA zA) trivial ?_
      · exact .refl _
      rintro _ A28 ⟨rfl, rfl⟩
      refine ⟨_, _, [], rfl, perm0, ?_⟩
      exact ⟨[], ⟨by rw [showT_yes (by assumption), ho]; rfl, rfl⟩, (.le fun a => by (try simp only [setR, List.cons_append, List.nil_append]); simp only [List.flatten_append, List.flatten_cons, List.flatten_nil, List.count_append, List.count_nil, List.append_nil, List.nil_append]; omega)⟩
--@ct spec.ShowGraph val specShowGraph_ct _ $1 | %1
theorem specShowGraph_ct (l : List Value) (g : Graph) : Ct Tryd.prog 7 [.agg ⟨l⟩] [] (fun H => gGraph.rd H l g) (fun v A => v = .string (showT g) ∧ A = []) := by
  refine Ct.intro0 G_ok Tryd.func7 rfl rfl rfl fun E H hp => ?_
  obtain ⟨b1, c1, rfl, w0, h1⟩ := gGraph_rd.1 hp
  refine VCnew.intro fun x0 => ?_
  refine call_val (specGraphOk_ct _ (g)) (Rp.mono _ (mem_at 0 rfl) hp) ?_
  rintro _ rfl
  refine VCsplit.intro (fun q2 => ?_) (fun q2 => ?_)
  ·
    simp at q2
    exact ⟨[], ⟨by rw [showT_no (by assumption)]; rfl, rfl⟩, (.le fun a => by (try simp only [setR, List.cons_append, List.nil_append]); simp [List.count_cons, Blk.ent, idOf]; try omega)⟩
  ·
    simp at q2
    (have iq2 := sgOk_rng q2; have id2 := dcT_len (n := g.size) (by omega); have im2 : IntKind.i64.max = 9223372036854775807 := rfl)
    refine call_val (specDecimal_ct _ ?_) trivial ?_
    · omega
    rintro _ rfl
    refine VC.intro ?_ ?_
    · (simp only [ByteArray.size_append, tx, bsz, List.length_map, List.length_cons, List.length_nil]; omega)
    refine VC.intro ?_ ?_
    · (simp only [ByteArray.size_append, tx, bsz, List.length_map, List.length_cons, List.length_nil]; omega)
    apply loop_mod (α := (Nat) × (ByteArray)) G_ok [14, 15, 16, 17, 18, 21, 22, 23, 24, 25, 5, 26, 27, 28, 29, 30, 31, 32, 33, 34, 35, 36, 37, 38, 39, 40, 41, 42, 43, 3, 19, 20, 4] (fun z => [(4, .v (.int .i64 z.1)), (3, .v (.string z.2))]) (fun z => [{ id := x0, cs := [Value.int IntKind.i64 g.size, Value.slice b1 g.edges.length c1], ty := (29 : Nat) }]) (fun z => [H]) (fun z => g.edges.length - z.1) (fun z => z.1 ≤ g.edges.length ∧ z.2 = tx (headS g ++ (g.edges.take z.1).flatMap edgeS) ∧ z.2.size ≤ 9 + 13 * z.1) ((0, _))
    · repeat' (first | exact trivial | refine ⟨⟨_, rfl, by first | rfl | exact inc_eq _ (by omega) | (refine sl_eq ?_; simp; done), by first | exact trivial | simp [SV.ok]⟩, ?_⟩)
    · exact ⟨rfl, trivial⟩
    · try dsimp only
      exact ⟨by omega, by rw [head_tx]; exact congrArg tx (head_zero g), by rw [head_tx]; have := headS_len (g := g) (by omega); show (headS g).length ≤ _; omega⟩
    · exact .refl _
    rintro ⟨k, s⟩ hI
    obtain ⟨hk, ho, hol⟩ : k ≤ g.edges.length ∧ s = tx (headS g ++ (g.edges.take k).flatMap edgeS) ∧ s.size ≤ 9 + 13 * k := hI
    try dsimp only
    refine VCsplit.intro (fun q4 => ?_) (fun q4 => ?_)
    ·
      simp at q4
      have he := sedge_rng (sgOk_edge ‹_› k (by omega))
      have h5 := dcT_len (n := (g.edges[k]?.getD default).from') (by omega)
      have h6 := dcT_len (n := (g.edges[k]?.getD default).to) (by omega)
      have h7 : IntKind.i64.max = 9223372036854775807 := rfl
      refine idx_rd h1 ?_ ?_ fun b5 o5 hb5 => ?_
      · omega
      · omega
      refine load_allN default (k) rfl h1 ?_ ?_ hb5 rfl (mem_at 0 rfl) fun l6 hl6 => ?_
      · omega
      · omega
      obtain ⟨rfl, w0x6, w2x6⟩ := gEdge_rd.1 hl6
      refine VCnew.intro fun x7 => ?_
      refine draw G_ok mixed none (.q 0 (.q 1 (.q 2 (.q 3 (.q 7 (.q 8 (.q 13 (.q 14 (.hd (.alt 4 (.q 5 (.q 6 (.hd (.alt 9 (.hd (.alt 10 (.q 11 (.q 12 (.f 15 (.q 16 (.q 17 (.q 18 (.nil))))))) (.alt 15 (.f 10 (.q 11 (.q 12 (.q 16 (.q 17 (.q 18 (.nil))))))) (.nil)))) (.alt 15 (.f 9 (.f 10 (.q 11 (.q 12 (.q 16 (.q 17 (.q 18 (.nil)))))))) (.nil)))))) (.alt 9 (.hd (.alt 4 (.q 5 (.q 6 (.hd (.alt 10 (.q 11 (.q 12 (.f 15 (.q 16 (.q 17 (.q 18 (.nil))))))) (.alt 15 (.f 10 (.q 11 (.q 12 (.q 16 (.q 17 (.q 18 (.nil))))))) (.nil)))))) (.alt 10 (.f 4 (.q 5 (.q 6 (.q 11 (.q 12 (.f 15 (.q 16 (.q 17 (.q 18 (.nil)))))))))) (.nil)))) (.nil)))))))))))) (by decide +kernel) ?_
      refine VC.intro ?_ ?_
      · (simp only [ByteArray.size_append, tx, bsz, List.length_map, List.length_cons, List.length_nil]; omega)
      refine VC.intro ?_ ?_
      ·
        refine call_val (specDecimal_ct _ ?_) trivial ?_
        · omega
        rintro _ rfl
        refine VC.intro ?_ ?_
        · exact fun _ h => h
        refine VC.intro ?_ ?_
        · (simp only [ByteArray.size_append, tx, bsz, List.length_map, List.length_cons, List.length_nil]; omega)
        refine VC.intro ?_ ?_
        · (simp only [ByteArray.size_append, tx, bsz, List.length_map, List.length_cons, List.length_nil]; omega)
        refine VC.intro ?_ ?_
        ·
          refine VCnew.intro fun x9 => ?_
          refine VC.intro ?_ ?_
          · exact keep_new
          refine VC.intro ?_ ?_
          ·
            refine conv_bs G_ok (([(↑(g.edges[k]?.getD default).label.toNat : Int)] : List Int).map fun v => UInt8.ofNat v.toNat) rfl (lit_bs [(↑(g.edges[k]?.getD default).label.toNat : Int)] (mem_at 0 rfl _ (List.mem_singleton.2 rfl)) rfl ?_ (by simp)) rfl rfl rfl ?_
            · exact inU8_1 _
            refine VC.intro ?_ ?_
            · exact keep_new
            refine VC.intro ?_ ?_
            · (simp only [ByteArray.size_append, tx, bsz, List.length_map, List.length_cons, List.length_nil]; omega)
            refine VC.intro ?_ ?_
            · (simp only [ByteArray.size_append, tx, bsz, List.length_map, List.length_cons, List.length_nil]; omega)
            refine call_val (specDecimal_ct _ ?_) trivial ?_
            · omega
            rintro _ rfl
            refine VC.intro ?_ ?_
            · exact keep_new
            refine VC.intro ?_ ?_
            · (simp only [ByteArray.size_append, tx, bsz, List.length_map, List.length_cons, List.length_nil]; omega)
            refine VC.intro ?_ ?_
            · (simp only [ByteArray.size_append, tx, bsz, List.length_map, List.length_cons, List.length_nil]; omega)
            apply loop_stepA (k + 1, _)
            · exact .sub (by repeat (first | exact .slnil | apply List.Sublist.cons_cons | apply List.Sublist.cons))
            · repeat' (first | exact trivial | refine ⟨⟨_, rfl, by first | rfl | exact inc_eq _ (by omega) | (refine sl_eq ?_; simp; done), by first | exact trivial | simp [SV.ok]⟩, ?_⟩)
            · exact ⟨rfl, trivial⟩
            · try dsimp only
              exact ⟨by omega, by rw [edge_tx2, ho, ← tx_app, es_step (by omega), List.append_assoc], by rw [edge_tx2, ByteArray.size_append]; have := edgeS_len (e := g.edges[k]?.getD default) (n := g.size) (by omega) (by omega) (by omega); show _ + (edgeS _).length ≤ _; omega⟩
            try dsimp only
            omega
          ·
            refine VC.intro ?_ ?_
            ·
              refine call_val (specDecimal_ct _ ?_) trivial ?_
              · omega
              rintro _ rfl
              refine VC.intro ?_ ?_
              · exact keep_new
              refine conv_bs G_ok (([(↑(g.edges[k]?.getD default).label.toNat : Int)] : List Int).map fun v => UInt8.ofNat v.toNat) rfl (lit_bs [(↑(g.edges[k]?.getD default).label.toNat : Int)] (mem_at 0 rfl _ (List.mem_singleton.2 rfl)) rfl ?_ (by simp)) rfl rfl rfl ?_
              · exact inU8_1 _
              refine VC.intro ?_ ?_
              · exact keep_new
              refine VC.intro ?_ ?_
              · (simp only [ByteArray.size_append, tx, bsz, List.length_map, List.length_cons, List.length_nil]; omega)
              refine VC.intro ?_ ?_
              · (simp only [ByteArray.size_append, tx, bsz, List.length_map, List.length_cons, List.length_nil]; omega)
              refine VC.intro ?_ ?_
              · (simp only [ByteArray.size_append, tx, bsz, List.length_map, List.length_cons, List.length_nil]; omega)
              refine VC.intro ?_ ?_
              · (simp only [ByteArray.size_append, tx, bsz, List.length_map, List.length_cons, List.length_nil]; omega)
              apply loop_stepA (k + 1, _)
              · exact .sub (by repeat (first | exact .slnil | apply List.Sublist.cons_cons | apply List.Sublist.cons))
              · repeat' (first | exact trivial | refine ⟨⟨_, rfl, by first | rfl | exact inc_eq _ (by omega) | (refine sl_eq ?_; simp; done), by first | exact trivial | simp [SV.ok]⟩, ?_⟩)
              · exact ⟨rfl, trivial⟩
              · try dsimp only
                exact ⟨by omega, by rw [edge_tx2, ho, ← tx_app, es_step (by omega), List.append_assoc], by rw [edge_tx2, ByteArray.size_append]; have := edgeS_len (e := g.edges[k]?.getD default) (n := g.size) (by omega) (by omega) (by omega); show _ + (edgeS _).length ≤ _; omega⟩
              try dsimp only
              omega
            ·
              exact trivial
        ·
          refine VC.intro ?_ ?_
          ·
            refine call_val (specDecimal_ct _ ?_) trivial ?_
            · omega
            rintro _ rfl
            refine VC.intro ?_ ?_
            · exact fun _ h => h
            refine VCnew.intro fun x13 => ?_
            refine VC.intro ?_ ?_
            · exact keep_new
            refine conv_bs G_ok (([(↑(g.edges[k]?.getD default).label.toNat : Int)] : List Int).map fun v => UInt8.ofNat v.toNat) rfl (lit_bs [(↑(g.edges[k]?.getD default).label.toNat : Int)] (mem_at 0 rfl _ (List.mem_singleton.2 rfl)) rfl ?_ (by simp)) rfl rfl rfl ?_
            · exact inU8_1 _
            refine VC.intro ?_ ?_
            · exact keep_new
            refine VC.intro ?_ ?_
            · (simp only [ByteArray.size_append, tx, bsz, List.length_map, List.length_cons, List.length_nil]; omega)
            refine VC.intro ?_ ?_
            · (simp only [ByteArray.size_append, tx, bsz, List.length_map, List.length_cons, List.length_nil]; omega)
            refine VC.intro ?_ ?_
            · (simp only [ByteArray.size_append, tx, bsz, List.length_map, List.length_cons, List.length_nil]; omega)
            refine VC.intro ?_ ?_
            · (simp only [ByteArray.size_append, tx, bsz, List.length_map, List.length_cons, List.length_nil]; omega)
            apply loop_stepA (k + 1, _)
            · exact .sub (by repeat (first | exact .slnil | apply List.Sublist.cons_cons | apply List.Sublist.cons))
            · repeat' (first | exact trivial | refine ⟨⟨_, rfl, by first | rfl | exact inc_eq _ (by omega) | (refine sl_eq ?_; simp; done), by first | exact trivial | simp [SV.ok]⟩, ?_⟩)
            · exact ⟨rfl, trivial⟩
            · try dsimp only
              exact ⟨by omega, by rw [edge_tx2, ho, ← tx_app, es_step (by omega), List.append_assoc], by rw [edge_tx2, ByteArray.size_append]; have := edgeS_len (e := g.edges[k]?.getD default) (n := g.size) (by omega) (by omega) (by omega); show _ + (edgeS _).length ≤ _; omega⟩
            try dsimp only
            omega
          ·
            exact trivial
      ·
        refine VC.intro ?_ ?_
        ·
          refine VCnew.intro fun x14 => ?_
          refine VC.intro ?_ ?_
          · exact keep_new
          refine VC.intro ?_ ?_
          ·
            refine call_val (specDecimal_ct _ ?_) trivial ?_
            · omega
            rintro _ rfl
            refine VC.intro ?_ ?_
            · exact keep_new
            refine VC.intro ?_ ?_
            · (simp only [ByteArray.size_append, tx, bsz, List.length_map, List.length_cons, List.length_nil]; omega)
            refine VC.intro ?_ ?_
            · (simp only [ByteArray.size_append, tx, bsz, List.length_map, List.length_cons, List.length_nil]; omega)
            refine VC.intro ?_ ?_
            ·
              refine conv_bs G_ok (([(↑(g.edges[k]?.getD default).label.toNat : Int)] : List Int).map fun v => UInt8.ofNat v.toNat) rfl (lit_bs [(↑(g.edges[k]?.getD default).label.toNat : Int)] (mem_at 0 rfl _ (List.mem_singleton.2 rfl)) rfl ?_ (by simp)) rfl rfl rfl ?_
              · exact inU8_1 _
              refine VC.intro ?_ ?_
              · exact keep_new
              refine VC.intro ?_ ?_
              · (simp only [ByteArray.size_append, tx, bsz, List.length_map, List.length_cons, List.length_nil]; omega)
              refine VC.intro ?_ ?_
              · (simp only [ByteArray.size_append, tx, bsz, List.length_map, List.length_cons, List.length_nil]; omega)
              refine call_val (specDecimal_ct _ ?_) trivial ?_
              · omega
              rintro _ rfl
              refine VC.intro ?_ ?_
              · exact keep_new
              refine VC.intro ?_ ?_
              · (simp only [ByteArray.size_append, tx, bsz, List.length_map, List.length_cons, List.length_nil]; omega)
              refine VC.intro ?_ ?_
              · (simp only [ByteArray.size_append, tx, bsz, List.length_map, List.length_cons, List.length_nil]; omega)
              apply loop_stepA (k + 1, _)
              · exact .sub (by repeat (first | exact .slnil | apply List.Sublist.cons_cons | apply List.Sublist.cons))
              · repeat' (first | exact trivial | refine ⟨⟨_, rfl, by first | rfl | exact inc_eq _ (by omega) | (refine sl_eq ?_; simp; done), by first | exact trivial | simp [SV.ok]⟩, ?_⟩)
              · exact ⟨rfl, trivial⟩
              · try dsimp only
                exact ⟨by omega, by rw [edge_tx2, ho, ← tx_app, es_step (by omega), List.append_assoc], by rw [edge_tx2, ByteArray.size_append]; have := edgeS_len (e := g.edges[k]?.getD default) (n := g.size) (by omega) (by omega) (by omega); show _ + (edgeS _).length ≤ _; omega⟩
              try dsimp only
              omega
            ·
              refine VC.intro ?_ ?_
              ·
                refine call_val (specDecimal_ct _ ?_) trivial ?_
                · omega
                rintro _ rfl
                refine VC.intro ?_ ?_
                · exact keep_new
                refine conv_bs G_ok (([(↑(g.edges[k]?.getD default).label.toNat : Int)] : List Int).map fun v => UInt8.ofNat v.toNat) rfl (lit_bs [(↑(g.edges[k]?.getD default).label.toNat : Int)] (mem_at 0 rfl _ (List.mem_singleton.2 rfl)) rfl ?_ (by simp)) rfl rfl rfl ?_
                · exact inU8_1 _
                refine VC.intro ?_ ?_
                · exact keep_new
                refine VC.intro ?_ ?_
                · (simp only [ByteArray.size_append, tx, bsz, List.length_map, List.length_cons, List.length_nil]; omega)
                refine VC.intro ?_ ?_
                · (simp only [ByteArray.size_append, tx, bsz, List.length_map, List.length_cons, List.length_nil]; omega)
                refine VC.intro ?_ ?_
                · (simp only [ByteArray.size_append, tx, bsz, List.length_map, List.length_cons, List.length_nil]; omega)
                refine VC.intro ?_ ?_
                · (simp only [ByteArray.size_append, tx, bsz, List.length_map, List.length_cons, List.length_nil]; omega)
                apply loop_stepA (k + 1, _)
                · exact .sub (by repeat (first | exact .slnil | apply List.Sublist.cons_cons | apply List.Sublist.cons))
                · repeat' (first | exact trivial | refine ⟨⟨_, rfl, by first | rfl | exact inc_eq _ (by omega) | (refine sl_eq ?_; simp; done), by first | exact trivial | simp [SV.ok]⟩, ?_⟩)
                · exact ⟨rfl, trivial⟩
                · try dsimp only
                  exact ⟨by omega, by rw [edge_tx2, ho, ← tx_app, es_step (by omega), List.append_assoc], by rw [edge_tx2, ByteArray.size_append]; have := edgeS_len (e := g.edges[k]?.getD default) (n := g.size) (by omega) (by omega) (by omega); show _ + (edgeS _).length ≤ _; omega⟩
                try dsimp only
                omega
              ·
                exact trivial
          ·
            refine VC.intro ?_ ?_
            ·
              refine conv_bs G_ok (([(↑(g.edges[k]?.getD default).label.toNat : Int)] : List Int).map fun v => UInt8.ofNat v.toNat) rfl (lit_bs [(↑(g.edges[k]?.getD default).label.toNat : Int)] (mem_at 0 rfl _ (List.mem_singleton.2 rfl)) rfl ?_ (by simp)) rfl rfl rfl ?_
              · exact inU8_1 _
              refine VC.intro ?_ ?_
              · exact keep_new
              refine call_val (specDecimal_ct _ ?_) trivial ?_
              · omega
              rintro _ rfl
              refine VC.intro ?_ ?_
              · exact keep_new
              refine VC.intro ?_ ?_
              · (simp only [ByteArray.size_append, tx, bsz, List.length_map, List.length_cons, List.length_nil]; omega)
              refine VC.intro ?_ ?_
              · (simp only [ByteArray.size_append, tx, bsz, List.length_map, List.length_cons, List.length_nil]; omega)
              refine VC.intro ?_ ?_
              · (simp only [ByteArray.size_append, tx, bsz, List.length_map, List.length_cons, List.length_nil]; omega)
              refine VC.intro ?_ ?_
              · (simp only [ByteArray.size_append, tx, bsz, List.length_map, List.length_cons, List.length_nil]; omega)
              refine call_val (specDecimal_ct _ ?_) trivial ?_
              · omega
              rintro _ rfl
              refine VC.intro ?_ ?_
              · exact keep_new
              refine VC.intro ?_ ?_
              · (simp only [ByteArray.size_append, tx, bsz, List.length_map, List.length_cons, List.length_nil]; omega)
              refine VC.intro ?_ ?_
              · (simp only [ByteArray.size_append, tx, bsz, List.length_map, List.length_cons, List.length_nil]; omega)
              apply loop_stepA (k + 1, _)
              · exact .sub (by repeat (first | exact .slnil | apply List.Sublist.cons_cons | apply List.Sublist.cons))
              · repeat' (first | exact trivial | refine ⟨⟨_, rfl, by first | rfl | exact inc_eq _ (by omega) | (refine sl_eq ?_; simp; done), by first | exact trivial | simp [SV.ok]⟩, ?_⟩)
              · exact ⟨rfl, trivial⟩
              · try dsimp only
                exact ⟨by omega, by rw [edge_tx2, ho, ← tx_app, es_step (by omega), List.append_assoc], by rw [edge_tx2, ByteArray.size_append]; have := edgeS_len (e := g.edges[k]?.getD default) (n := g.size) (by omega) (by omega) (by omega); show _ + (edgeS _).length ≤ _; omega⟩
              try dsimp only
              omega
            ·
              exact trivial
        ·
          exact trivial
    ·
      simp at q4
      obtain rfl : k = g.edges.length := by omega
      rw [List.take_length] at ho
      exact ⟨[], ⟨by rw [showT_yes (by assumption), ho]; rfl, rfl⟩, (.le fun a => by (try simp only [setR, List.cons_append, List.nil_append]); simp only [List.flatten_append, List.flatten_cons, List.flatten_nil, List.count_append, List.count_nil, List.append_nil, List.nil_append]; omega)⟩
end Go.Proofs.YtcnclhjhnjpeiaaDoor

namespace Go.Proofs.YtcnclhjhnjpeiaaDoor
open Go.SX Go.Proofs
set_option maxHeartbeats 1000000
/-! lines -/
def flatL (ls : List (List UInt8)) : List UInt8 := ls.flatMap fun l => l ++ [10]
theorem flatL_app (a b : List (List UInt8)) : flatL (a ++ b) = flatL a ++ flatL b := List.flatMap_append
theorem flatL_cons (l : List UInt8) (b : List (List UInt8)) : flatL (l :: b) = l ++ 10 :: flatL b := by
  unfold flatL
  rw [List.flatMap_cons, List.append_assoc]; rfl
theorem splitB_flat : ∀ {ls : List (List UInt8)}, (∀ l ∈ ls, ∀ x ∈ l, ¬ x = 10) → splitB 10 (flatL ls) = ls ++ [[]]
  | [], _ => rfl
  | l :: r, h => by
    rw [flatL_cons, splitB_cut _ (h l List.mem_cons_self), splitB_flat fun m hm => h m (List.mem_cons_of_mem _ hm)]; rfl
theorem linesT_flat {ls : List (List UInt8)} (h : ∀ l ∈ ls, ∀ x ∈ l, ¬ x = 10) : linesT (tx (flatL ls)) = ls.map tx := by
  unfold linesT linesB
  rw [by_tx, splitB_flat h, if_pos (by simp), List.dropLast_concat]
/-! small numerals -/
def dcF (n : Nat) : List UInt8 := if n < 10 then [UInt8.ofNat (48 + n)] else [49, UInt8.ofNat (38 + n)]
theorem dcT_F {n : Int} (h : 0 ≤ n ∧ n ≤ 12) : dcT n = dcF n.toNat := by
  have h1 : n.toNat ≤ 12 := by omega
  unfold dcT dcF
  generalize n.toNat = m at *
  split
  · rename_i h2; exact dec_lo h2
  rename_i h2
  rw [dec_hi h2, dec_lo (by omega), show m / 10 = 1 by omega, show 48 + m % 10 = 38 + m by omega]; rfl
theorem dcF_facts : ∀ n, n ≤ 12 → ((dcF n).all digB = true ∧ neB (dcF n) = true ∧ numB (dcF n) = n ∧ (dcF n).length ≤ 2) := by decide
theorem dcT_dig {n : Int} (h : 0 ≤ n ∧ n ≤ 12) {x : UInt8} (hx : x ∈ dcT n) : 48 ≤ x.toNat ∧ x.toNat ≤ 57 := by
  rw [dcT_F h] at hx
  have h1 := List.all_eq_true.1 (dcF_facts n.toNat (by omega)).1 x hx
  exact of_decide_eq_true h1
theorem dcT_ne {n : Int} (h : 0 ≤ n ∧ n ≤ 12) : neB (dcT n) = true := by rw [dcT_F h]; exact (dcF_facts n.toNat (by omega)).2.1
theorem dcT_num {n : Int} (h : 0 ≤ n ∧ n ≤ 12) : numT (tx (dcT n)) = n.toNat := by
  unfold numT numK
  rw [by_tx, ← by_size, by_tx, List.take_length, dcT_F h]
  exact (dcF_facts n.toNat (by omega)).2.2.1
theorem dcT_isD {n : Int} (h : 0 ≤ n ∧ n ≤ 12) : isD (tx (dcT n)) = true := by
  have h1 := dcT_num h
  refine isD_yes ?_ ?_ (by omega) (by rw [h1, Int.toNat_of_nonneg h.1])
  · rw [← by_size, by_tx]; have := dcT_len h; omega
  unfold digsK
  rw [← by_size, by_tx, List.take_length, dcT_F h]
  exact (dcF_facts n.toNat (by omega)).1
theorem dcT_read {n : Int} (h : 0 ≤ n ∧ n ≤ 12) : readD (tx (dcT n)) = n := by
  rw [readD_yes (dcT_isD h), dcT_num h, Int.toNat_of_nonneg h.1]
/-! what a line says -/
theorem line_is {l : List UInt8} {ps : List (List UInt8)} (h1 : l.length ≤ 600) (h2 : ∀ x ∈ l, 32 ≤ x.toNat ∧ x.toNat ≤ 126) (h3 : partsB l = ps) (h4 : ps.length ≤ 10) : partsOk (tx l) = true ∧ partsV (tx l) = ps.map tx := by
  have h5 : partsT (tx l) = ps.map tx := by unfold partsT; rw [by_tx, h3]
  have h6 : partsOk (tx l) = true := parts_yes (by rw [← by_size, by_tx]; exact h1) (by
    unfold wordsK
    rw [List.all_eq_true]
    intro x hx
    rw [by_tx] at hx
    exact decide_eq_true (h2 x (List.mem_of_mem_take hx))) (by rw [h5, List.length_map]; exact h4)
  exact ⟨h6, by rw [partsV_yes h6, h5]⟩
theorem line_read {l p : List UInt8} {ps : List (List UInt8)} (h : partsOk (tx l) = true ∧ partsV (tx l) = (p :: ps).map tx) (h1 : ¬ p[0]?.getD 0 = 35) : ignT (tx l) = false := by
  unfold ignT
  rw [h.1, h.2, decide_eq_false (by simp)]
  have e : pA ((p :: ps).map tx) 0 = tx p := rfl
  rw [e, by_get, by_tx, decide_eq_false h1]; rfl
def headL (n : Int) : List UInt8 := [118, 101, 114, 116, 115, 32] ++ dcT n
def edgeL (s : List UInt8) (e : Edge) : List UInt8 := [101, 100, 103, 101, 32] ++ (dcT e.from' ++ ([32, e.label, 32] ++ (s ++ dcT e.to)))
theorem head_flat (g : Graph) : headS g = flatL [headL g.size] := by unfold headS headL flatL; simp
theorem edge_flat (e : Edge) : edgeS e = flatL [edgeL [] e] := by unfold edgeS edgeL flatL; simp
theorem dcT_sp {n : Int} (h : 0 ≤ n ∧ n ≤ 12) {c : UInt8} (hc : c.toNat < 48) : ∀ x ∈ dcT n, ¬ x = c := fun x hx e => by
  have := dcT_dig h hx
  rw [e] at this; omega
theorem splitB_dc {n : Int} (h : 0 ≤ n ∧ n ≤ 12) (r : List UInt8) : splitB 32 (dcT n ++ 32 :: r) = dcT n :: splitB 32 r := splitB_cut r (dcT_sp h (by decide))
theorem splitB_dc1 {n : Int} (h : 0 ≤ n ∧ n ≤ 12) : splitB 32 (dcT n) = [dcT n] := splitB_free (dcT_sp h (by decide))
def okE (e : Edge) : Prop := (0 ≤ e.from' ∧ e.from' ≤ 12) ∧ (0 ≤ e.to ∧ e.to ≤ 12) ∧ 33 ≤ e.label.toNat ∧ e.label.toNat ≤ 126
theorem lbl_sp {x : UInt8} (h : 33 ≤ x.toNat) : ∀ y ∈ [x], ¬ y = 32 := fun y hy e => by
  rw [List.mem_singleton.1 hy] at e
  rw [e] at h; exact absurd h (by decide)
theorem head_parts {n : Int} (h : 0 ≤ n ∧ n ≤ 12) : partsB (headL n) = [[118, 101, 114, 116, 115], dcT n] := by
  unfold partsB headL
  show (splitB 32 ([118, 101, 114, 116, 115] ++ 32 :: dcT n)).filter neB = _
  rw [splitB_cut _ (by decide), splitB_dc1 h, List.filter_cons_of_pos (by rfl), List.filter_cons_of_pos (dcT_ne h)]; rfl
theorem edge_parts {e : Edge} (h : okE e) {s : List UInt8} (hs : s = [] ∨ s = [32]) : partsB (edgeL s e) = [[101, 100, 103, 101], dcT e.from', [e.label], dcT e.to] := by
  have h1 : splitB 32 (edgeL s e) = [101, 100, 103, 101] :: dcT e.from' :: [e.label] :: splitB 32 (s ++ dcT e.to) := by
    unfold edgeL
    show splitB 32 ([101, 100, 103, 101] ++ 32 :: (dcT e.from' ++ 32 :: ([e.label] ++ 32 :: (s ++ dcT e.to)))) = _
    rw [splitB_cut _ (by decide), splitB_dc h.1, splitB_cut _ (lbl_sp h.2.2.1)]
  unfold partsB
  rw [h1]
  rcases hs with rfl | rfl
  · rw [List.nil_append, splitB_dc1 h.2.1, List.filter_cons_of_pos (by rfl), List.filter_cons_of_pos (dcT_ne h.1), List.filter_cons_of_pos (by rfl), List.filter_cons_of_pos (dcT_ne h.2.1)]; rfl
  rw [show splitB 32 ([32] ++ dcT e.to) = [] :: splitB 32 (dcT e.to) from splitB_hit _, splitB_dc1 h.2.1, List.filter_cons_of_pos (by rfl), List.filter_cons_of_pos (dcT_ne h.1), List.filter_cons_of_pos (by rfl), List.filter_cons_of_neg (by decide), List.filter_cons_of_pos (dcT_ne h.2.1)]; rfl
theorem dcT_w {n : Int} (h : 0 ≤ n ∧ n ≤ 12) {x : UInt8} (hx : x ∈ dcT n) : 32 ≤ x.toNat ∧ x.toNat ≤ 126 := by have := dcT_dig h hx; omega
theorem lit_w {l : List UInt8} (h : l.all (fun x => decide (32 ≤ x.toNat ∧ x.toNat ≤ 126)) = true) {x : UInt8} (hx : x ∈ l) : 32 ≤ x.toNat ∧ x.toNat ≤ 126 := of_decide_eq_true (List.all_eq_true.1 h x hx)
theorem head_line {n : Int} (h : 0 ≤ n ∧ n ≤ 12) : partsOk (tx (headL n)) = true ∧ partsV (tx (headL n)) = [[118, 101, 114, 116, 115], dcT n].map tx := by
  refine line_is ?_ (fun x hx => ?_) (head_parts h) (by simp)
  · have := dcT_len h; unfold headL; rw [List.length_append]; simp only [List.length_cons, List.length_nil]; omega
  unfold headL at hx
  rcases List.mem_append.1 hx with hx | hx
  · exact lit_w (by decide) hx
  exact dcT_w h hx
theorem edge_line {e : Edge} (h : okE e) {s : List UInt8} (hs : s = [] ∨ s = [32]) : partsOk (tx (edgeL s e)) = true ∧ partsV (tx (edgeL s e)) = [[101, 100, 103, 101], dcT e.from', [e.label], dcT e.to].map tx := by
  refine line_is ?_ (fun x hx => ?_) (edge_parts h hs) (by simp)
  · have h1 := dcT_len h.1
    have h2 := dcT_len h.2.1
    have h3 : s.length ≤ 1 := by rcases hs with rfl | rfl <;> simp
    unfold edgeL; simp only [List.length_append, List.length_cons, List.length_nil]; omega
  unfold edgeL at hx
  simp only [List.mem_append] at hx
  rcases hx with hx | hx | hx | hx | hx
  · exact lit_w (by decide) hx
  · exact dcT_w h.1 hx
  · simp only [List.mem_cons, List.not_mem_nil, or_false] at hx
    rcases hx with rfl | rfl | rfl
    · decide
    · have := h.2.2; omega
    decide
  · rcases hs with rfl | rfl
    · cases hx
    rw [List.mem_singleton.1 hx]; decide
  exact dcT_w h.2.1 hx
theorem head_free {n : Int} (h : 0 ≤ n ∧ n ≤ 12) : ∀ x ∈ headL n, ¬ x = 10 := fun x hx e => by
  have := head_line h
  unfold headL at hx
  rcases List.mem_append.1 hx with hx | hx
  · rw [e] at hx; revert hx; decide
  exact dcT_sp h (by decide) x hx e
theorem edge_free {e : Edge} (h : okE e) {s : List UInt8} (hs : s = [] ∨ s = [32]) : ∀ x ∈ edgeL s e, ¬ x = 10 := fun x hx e' => by
  unfold edgeL at hx
  simp only [List.mem_append] at hx
  rcases hx with hx | hx | hx | hx | hx
  · rw [e'] at hx; revert hx; decide
  · exact dcT_sp h.1 (by decide) x hx e'
  · simp only [List.mem_cons, List.not_mem_nil, or_false] at hx
    rcases hx with rfl | rfl | rfl
    · revert e'; decide
    · have := h.2.2.1; rw [e'] at this; revert this; decide
    revert e'; decide
  · rcases hs with rfl | rfl
    · cases hx
    rw [List.mem_singleton.1 hx] at e'; revert e'; decide
  exact dcT_sp h.2.1 (by decide) x hx e'
theorem head_scan {n : Int} (h : 1 ≤ n ∧ n ≤ 12) (i : Nat) (ts : List ByteArray) : scanG ⟨0, []⟩ i (tx (headL n) :: ts) = scanG ⟨n, []⟩ (i + 1) ts := by
  have h0 : 0 ≤ n ∧ n ≤ 12 := by omega
  have h1 := head_line h0
  have h2 := line_read h1 (by decide)
  have e1 : pA ([[118, 101, 114, 116, 115], dcT n].map tx) 1 = tx (dcT n) := rfl
  have h3 : lineR ⟨0, []⟩ (partsV (tx (headL n))) = true := by
    rw [h1.2, vertsR_4 rfl rfl (by show (tx [118, 101, 114, 116, 115]).toList = _; rw [tl_verts]; rfl) (by rw [e1]; exact dcT_isD h0), e1, dcT_read h0]
    exact graphOk_none h
  have h4 : lineG ⟨0, []⟩ (partsV (tx (headL n))) = ⟨n, []⟩ := by
    unfold lineG
    rw [if_pos rfl, h1.2, e1, dcT_read h0]
  conv => lhs; unfold scanG
  rw [if_neg (by rw [h2]; decide), if_pos h1.1, if_pos h3, h4]
theorem edge_scan {g : Graph} {e : Edge} (hg : ¬ g.size = 0) (h : okE e) (hp : graphOk (putG g e) = true) {s : List UInt8} (hs : s = [] ∨ s = [32]) (i : Nat) (ts : List ByteArray) : scanG g i (tx (edgeL s e) :: ts) = scanG (putG g e) (i + 1) ts := by
  have h1 := edge_line h hs
  have h2 := line_read h1 (by decide)
  have e0 : edgeP (partsV (tx (edgeL s e))) = e := by
    rw [h1.2]
    unfold edgeP
    have e1 : pA ([[101, 100, 103, 101], dcT e.from', [e.label], dcT e.to].map tx) 1 = tx (dcT e.from') := rfl
    have e2 : pA ([[101, 100, 103, 101], dcT e.from', [e.label], dcT e.to].map tx) 2 = tx [e.label] := rfl
    have e3 : pA ([[101, 100, 103, 101], dcT e.from', [e.label], dcT e.to].map tx) 3 = tx (dcT e.to) := rfl
    rw [e1, e2, e3, dcT_read h.1, dcT_read h.2.1, by_get, by_tx]; rfl
  have h3 : edgeR (partsV (tx (edgeL s e))) = true := by
    rw [h1.2]
    exact edgeR_yes rfl (by show (tx [101, 100, 103, 101]).toList = _; rw [tl_edge]; rfl) rfl (dcT_isD h.1) (dcT_isD h.2.1)
  have h4 : lineR g (partsV (tx (edgeL s e))) = true := by rw [lineR_e hg, h3, e0, hp]; rfl
  conv => lhs; unfold scanG
  rw [if_neg (by rw [h2]; decide), if_pos h1.1, if_pos h4, lineG_e hg, e0]
theorem ign_scan {t : ByteArray} (h : ignT t = true) (g : Graph) (i : Nat) (ts : List ByteArray) : scanG g i (t :: ts) = scanG g (i + 1) ts := by
  conv => lhs; unfold scanG
  rw [if_pos h]
/-! edges put in order and against it -/
theorem putE_last {l : List Edge} {e : Edge} (h : ∀ x ∈ l, edgeLess x e = true) : putE l e = l ++ [e] := by
  unfold putE
  rw [List.filter_eq_self.2 h, List.filter_eq_nil_iff.2 fun x hx => by rw [edgeLess_asym (h x hx)]; decide, List.append_nil]
theorem putE_first {l : List Edge} {e : Edge} (h : ∀ x ∈ l, edgeLess e x = true) : putE l e = e :: l := by
  unfold putE
  rw [List.filter_eq_self.2 h, List.filter_eq_nil_iff.2 fun x hx => by rw [edgeLess_asym (h x hx)]; decide]; rfl
theorem putE_again {l : List Edge} {e : Edge} (h : ∀ x ∈ l, edgeLess e x = true) : putE (e :: l) e = e :: l := by
  have h1 : putE (e :: l) e = putE l e := by
    unfold putE
    rw [List.filter_cons_of_neg (by rw [edgeLess_irr]; decide), List.filter_cons_of_neg (by rw [edgeLess_irr]; decide)]
  rw [h1, putE_first h]
theorem graphOk_app {n : Int} {a b : List Edge} (h : graphOk ⟨n, a ++ b⟩ = true) : graphOk ⟨n, a⟩ = true ∧ graphOk ⟨n, b⟩ = true ∧ ∀ x ∈ a, ∀ y ∈ b, edgeLess x y = true := by
  obtain ⟨h1, h2, h3, h4⟩ := graphOk_iff.1 h
  dsimp only at h1 h2 h3 h4
  have h5 := List.pairwise_append.1 h4
  rw [List.length_append] at h2
  exact ⟨graphOk_iff.2 ⟨h1, by dsimp only; omega, fun e he => h3 e (List.mem_append_left _ he), h5.1⟩, graphOk_iff.2 ⟨h1, by dsimp only; omega, fun e he => h3 e (List.mem_append_right _ he), h5.2.1⟩, h5.2.2⟩
theorem graph_okE {g : Graph} (h : graphOk g = true) {e : Edge} (he : e ∈ g.edges) : okE e := by
  obtain ⟨h1, h2, h3, h4⟩ := graphOk_iff.1 h
  have h5 := h3 e he
  unfold eOk labelOk at h5
  simp only [Bool.and_eq_true, decide_eq_true_eq] at h5
  have h6 := inR_iff.1 h5.1
  have h7 := inR_iff.1 h5.2.1
  unfold okE
  omega
theorem scan_fwd {n : Int} : ∀ (es pre : List Edge) (i : Nat) (ts : List ByteArray), graphOk ⟨n, pre ++ es⟩ = true → ∃ j, scanG ⟨n, pre⟩ i (es.map (fun e => tx (edgeL [] e)) ++ ts) = scanG ⟨n, pre ++ es⟩ j ts
  | [], pre, i, ts, _ => ⟨i, by rw [List.append_nil]; rfl⟩
  | e :: es, pre, i, ts, h => by
    have h0 : pre ++ e :: es = (pre ++ [e]) ++ es := by rw [List.append_assoc]; rfl
    rw [h0] at h ⊢
    have h1 := graphOk_app h
    have h2 := graphOk_app h1.1
    have hn : ¬ n = 0 := by have := (graphOk_iff.1 h).1; dsimp only at this; omega
    have hp : putG ⟨n, pre⟩ e = ⟨n, pre ++ [e]⟩ := by unfold putG; rw [putE_last fun x hx => h2.2.2 x hx e (List.mem_singleton.2 rfl)]
    obtain ⟨j, hj⟩ := scan_fwd es (pre ++ [e]) (i + 1) ts h
    refine ⟨j, ?_⟩
    rw [List.map_cons, List.cons_append, edge_scan hn (graph_okE h1.1 (e := e) (by simp)) (by rw [hp]; exact h1.1) (.inl rfl), hp, hj]
def twoL (e : Edge) : List ByteArray := [tx (edgeL [32] e), tx (edgeL [32] e)]
theorem scan_bwd {n : Int} : ∀ (r suf : List Edge) (i : Nat) (ts : List ByteArray), graphOk ⟨n, r.reverse ++ suf⟩ = true → ∃ j, scanG ⟨n, suf⟩ i (r.flatMap twoL ++ ts) = scanG ⟨n, r.reverse ++ suf⟩ j ts
  | [], suf, i, ts, _ => ⟨i, rfl⟩
  | e :: r, suf, i, ts, h => by
    have h0 : (e :: r).reverse ++ suf = r.reverse ++ (e :: suf) := by rw [List.reverse_cons, List.append_assoc]; rfl
    rw [h0] at h ⊢
    have h1 := graphOk_app h
    have hs : ∀ x ∈ suf, edgeLess e x = true := (graphOk_app (a := [e]) (b := suf) h1.2.1).2.2 e (List.mem_singleton.2 rfl)
    have hn : ¬ n = 0 := by have := (graphOk_iff.1 h).1; dsimp only at this; omega
    have hp : putG ⟨n, suf⟩ e = ⟨n, e :: suf⟩ := by unfold putG; rw [putE_first hs]
    have hp2 : putG ⟨n, e :: suf⟩ e = ⟨n, e :: suf⟩ := by unfold putG; rw [putE_again hs]
    have ho := graph_okE h1.2.1 (e := e) (by simp)
    obtain ⟨j, hj⟩ := scan_bwd r (e :: suf) (i + 1 + 1) ts h
    refine ⟨j, ?_⟩
    rw [List.flatMap_cons]
    show scanG _ i (tx (edgeL [32] e) :: tx (edgeL [32] e) :: (r.flatMap twoL ++ ts)) = _
    rw [edge_scan hn ho (by rw [hp]; exact h1.2.1) (.inr rfl), hp, edge_scan hn ho (by rw [hp2]; exact h1.2.1) (.inr rfl), hp2, hj]
theorem scan_end {g : Graph} (h : graphOk g = true) (i : Nat) : scanG g i [] = (g, 0) := by
  have := (graphOk_iff.1 h).1
  unfold scanG
  rw [if_neg (by omega)]
/-! the texts -/
def showL (g : Graph) : List (List UInt8) := headL g.size :: g.edges.map (edgeL [])
theorem show_flat (g : Graph) : showG g = flatL (showL g) := by
  have h : ∀ es : List Edge, es.flatMap edgeS = flatL (es.map (edgeL [])) := by
    intro es
    induction es with
    | nil => rfl
    | cons e r ih => rw [List.flatMap_cons, ih, List.map_cons, flatL_cons, edge_flat, flatL_cons, List.append_assoc]; rfl
  unfold showG showL
  rw [h, head_flat, flatL_cons, flatL_cons, List.append_assoc]; rfl
theorem graph_sz12 {g : Graph} (h : graphOk g = true) : 1 ≤ g.size ∧ g.size ≤ 12 := (graphOk_iff.1 h).1
theorem show_free {g : Graph} (h : graphOk g = true) : ∀ l ∈ showL g, ∀ x ∈ l, ¬ x = 10 := fun l hl => by
  have hz := graph_sz12 h
  rcases List.mem_cons.1 hl with rfl | hl
  · exact head_free (by omega)
  obtain ⟨e, he, rfl⟩ := List.mem_map.1 hl
  exact edge_free (graph_okE h he) (.inl rfl)
theorem scan_show {g : Graph} (h : graphOk g = true) (i : Nat) (ts : List ByteArray) : ∃ j, scanG ⟨0, []⟩ i ((showL g).map tx ++ ts) = scanG g j ts := by
  obtain ⟨j, hj⟩ := scan_fwd g.edges [] (i + 1) ts h
  refine ⟨j, ?_⟩
  unfold showL
  rw [List.map_cons, List.cons_append, head_scan (graph_sz12 h), List.map_map]
  exact hj
theorem load_show {g : Graph} (h : graphOk g = true) : loadG (showT g) = (g, 0) := by
  obtain ⟨j, hj⟩ := scan_show h 0 []
  unfold loadG
  rw [showT_yes h, show_flat, linesT_flat (show_free h)]
  rw [List.append_nil] at hj
  rw [hj, scan_end h]
def moreA : ByteArray := ⟨#[35, 32, 115, 97, 105, 100, 10, 32, 32, 10]⟩
def moreB : ByteArray := ⟨#[32, 32, 35, 32, 109, 111, 114, 101, 10]⟩
def mL1 : List UInt8 := [35, 32, 115, 97, 105, 100]
def mL2 : List UInt8 := [32, 32]
def mL3 : List UInt8 := [32, 32, 35, 32, 109, 111, 114, 101]
theorem ign_m : ignT (tx mL1) = true ∧ ignT (tx mL2) = true ∧ ignT (tx mL3) = true := by
  refine ⟨?_, ?_, ?_⟩ <;> decide +kernel
theorem load_more {g : Graph} (h : graphOk g = true) : loadG (moreA ++ showT g ++ moreB) = (g, 0) := by
  have e : moreA ++ showT g ++ moreB = tx (flatL ([mL1, mL2] ++ (showL g ++ [mL3]))) := by
    rw [flatL_app, flatL_app, ← show_flat, tx_app, tx_app, showT_yes h, ByteArray.append_assoc]; rfl
  have hf : ∀ l ∈ [mL1, mL2] ++ (showL g ++ [mL3]), ∀ x ∈ l, ¬ x = 10 := fun l hl => by
    rcases List.mem_append.1 hl with hl | hl
    · exact (show ∀ l ∈ [mL1, mL2], ∀ x ∈ l, ¬ x = 10 by decide) l hl
    rcases List.mem_append.1 hl with hl | hl
    · exact show_free h l hl
    rw [List.mem_singleton.1 hl]; decide
  obtain ⟨j, hj⟩ := scan_show h (0 + 1 + 1) [tx mL3]
  unfold loadG
  rw [e, linesT_flat hf, List.map_append, List.map_append]
  show scanG _ 0 (tx mL1 :: tx mL2 :: ((showL g).map tx ++ [tx mL3])) = _
  rw [ign_scan ign_m.1, ign_scan ign_m.2.1, hj, ign_scan ign_m.2.2, scan_end h]
def edgeS2 (e : Edge) : List UInt8 := [101, 100, 103, 101, 32] ++ (dcT e.from' ++ ([32, e.label, 32, 32] ++ (dcT e.to ++ [10])))
def backG (g : Graph) (k : Nat) : List UInt8 := headS g ++ ((g.edges.drop k).reverse).flatMap fun e => edgeS2 e ++ edgeS2 e
theorem back_end (g : Graph) : backG g g.edges.length = headS g := by unfold backG; rw [List.drop_length]; simp
theorem back_step {g : Graph} {k : Nat} (h : k < g.edges.length) : backG g k = backG g (k + 1) ++ (edgeS2 (g.edges[k]?.getD default) ++ edgeS2 (g.edges[k]?.getD default)) := by
  unfold backG
  rw [List.drop_eq_getElem_cons h, List.reverse_cons, List.flatMap_append, List.getElem?_eq_getElem h, List.append_assoc]; simp
theorem edge2_flat (e : Edge) : edgeS2 e = flatL [edgeL [32] e] := by unfold edgeS2 edgeL flatL; simp
theorem load_back {g : Graph} (h : graphOk g = true) : loadG (tx (backG g 0)) = (g, 0) := by
  have e1 : ∀ es : List Edge, (es.flatMap fun e => edgeS2 e ++ edgeS2 e) = flatL (es.flatMap fun e => [edgeL [32] e, edgeL [32] e]) := by
    intro es
    induction es with
    | nil => rfl
    | cons e r ih =>
      rw [List.flatMap_cons, List.flatMap_cons, ih, flatL_app, edge2_flat]
      unfold flatL
      simp
  have e2 : ∀ es : List Edge, (es.flatMap fun e => [edgeL [32] e, edgeL [32] e]).map tx = es.flatMap twoL := by
    intro es
    induction es with
    | nil => rfl
    | cons e r ih => rw [List.flatMap_cons, List.map_append, ih, List.flatMap_cons]; rfl
  have hz := graph_sz12 h
  have e : backG g 0 = flatL ([headL g.size] ++ g.edges.reverse.flatMap fun e => [edgeL [32] e, edgeL [32] e]) := by
    unfold backG
    rw [flatL_app, ← head_flat, ← e1, List.drop_zero]
  have hf : ∀ l ∈ [headL g.size] ++ g.edges.reverse.flatMap fun e => [edgeL [32] e, edgeL [32] e], ∀ x ∈ l, ¬ x = 10 := fun l hl => by
    rcases List.mem_append.1 hl with hl | hl
    · rw [List.mem_singleton.1 hl]; exact head_free (by omega)
    obtain ⟨e, he, hl⟩ := List.mem_flatMap.1 hl
    have : l = edgeL [32] e := by simpa using hl
    rw [this]
    exact edge_free (graph_okE h (List.mem_reverse.1 he)) (.inr rfl)
  obtain ⟨j, hj⟩ := scan_bwd (n := g.size) g.edges.reverse [] (0 + 1) [] (by rw [List.reverse_reverse, List.append_nil]; exact h)
  rw [List.reverse_reverse, List.append_nil, List.append_nil] at hj
  unfold loadG
  rw [e, linesT_flat hf, List.map_append, e2]
  show scanG _ 0 (tx (headL g.size) :: g.edges.reverse.flatMap twoL) = _
  rw [head_scan hz, hj, scan_end h]
theorem edge2_tx (s : ByteArray) (e : Edge) : s ++ ((⟨#[101, 100, 103, 101, 32]⟩ : ByteArray) ++ tx (dcT e.from') ++ ⟨#[32]⟩ ++ ⟨(([(e.label.toNat : Int)] : List Int).map fun v => UInt8.ofNat v.toNat).toArray⟩ ++ ⟨#[32, 32]⟩ ++ tx (dcT e.to) ++ ⟨#[10]⟩) = s ++ tx (edgeS2 e) := by
  rw [lbl_tx9, show (⟨#[101, 100, 103, 101, 32]⟩ : ByteArray) = tx [101, 100, 103, 101, 32] from rfl, show (⟨#[32]⟩ : ByteArray) = tx [32] from rfl, show (⟨#[32, 32]⟩ : ByteArray) = tx [32, 32] from rfl, show (⟨#[10]⟩ : ByteArray) = tx [10] from rfl]
  simp only [← tx_app]
  unfold edgeS2
  simp only [List.append_assoc]; rfl
theorem edgeS2_len {e : Edge} {n : Int} (hn : n ≤ 12) (h1 : 0 ≤ e.from' ∧ e.from' < n) (h2 : 0 ≤ e.to ∧ e.to < n) : (edgeS2 e).length ≤ 14 := by
  have h3 := dcT_len (n := e.from') (by omega)
  have h4 := dcT_len (n := e.to) (by omega)
  unfold edgeS2
  simp only [List.length_append, List.length_cons, List.length_nil]
  omega
end Go.Proofs.YtcnclhjhnjpeiaaDoor

namespace Go.Proofs.YtcnclhjhnjpeiaaDoor
open Go.SX Go.Proofs
set_option linter.unusedSimpArgs false
set_option linter.unusedVariables false
set_option maxHeartbeats 4000000
theorem and255 (x : Int) : ∃ z : Int, IntKind.i64.wrap (BitVec.ofInt IntKind.i64.bits x &&& BitVec.ofInt IntKind.i64.bits 255).toNat = z ∧ 0 ≤ z ∧ z ≤ 255 := by
  have h1 : (BitVec.ofInt IntKind.i64.bits x &&& BitVec.ofInt IntKind.i64.bits 255).toNat ≤ 255 := by
    rw [BitVec.toNat_and]
    exact Nat.and_le_right
  refine ⟨((BitVec.ofInt IntKind.i64.bits x &&& BitVec.ofInt IntKind.i64.bits 255).toNat : Nat), ?_, by omega, by omega⟩
  exact wrap_ok (by unfold okI; omega)
theorem and255b (x : Int) : 0 ≤ IntKind.i64.wrap (BitVec.ofInt IntKind.i64.bits x &&& BitVec.ofInt IntKind.i64.bits 255).toNat ∧ IntKind.i64.wrap (BitVec.ofInt IntKind.i64.bits x &&& BitVec.ofInt IntKind.i64.bits 255).toNat ≤ 255 := by
  obtain ⟨z, h1, h2, h3⟩ := and255 x
  rw [h1]; exact ⟨h2, h3⟩
theorem below4 (x y z w : Int) (hx : 0 ≤ x) (hx' : x ≤ 255) (hy : 0 ≤ y) (hy' : y ≤ 255) (hz : 0 ≤ z) (hz' : z ≤ 255) (hw : 0 ≤ w) (hw' : w ≤ 255) :
    0 ≤ IntKind.i64.wrap (IntKind.i64.wrap (IntKind.i64.wrap (IntKind.i64.wrap (x * 16777216) + IntKind.i64.wrap (y * 65536)) + IntKind.i64.wrap (z * 256)) + w) := by
  have e1 : IntKind.i64.wrap (x * 16777216) = x * 16777216 := wrap_ok (by unfold okI; omega)
  have e2 : IntKind.i64.wrap (y * 65536) = y * 65536 := wrap_ok (by unfold okI; omega)
  have e3 : IntKind.i64.wrap (z * 256) = z * 256 := wrap_ok (by unfold okI; omega)
  rw [e1, e2, e3]
  have e4 : IntKind.i64.wrap (x * 16777216 + y * 65536) = x * 16777216 + y * 65536 := wrap_ok (by unfold okI; omega)
  rw [e4]
  have e5 : IntKind.i64.wrap (x * 16777216 + y * 65536 + z * 256) = x * 16777216 + y * 65536 + z * 256 := wrap_ok (by unfold okI; omega)
  rw [e5]
  rw [wrap_ok (by unfold okI; omega)]
  omega
def curHp (bb : Nat) (b : Option Addr) (m c : Nat) (i h : Int) : Hp := [(bb, Obj.cells ⟨[.slice b m c, .int .i64 i, .int .i64 h]⟩ 88)]
--@ct spec.l01New raw refine call_new (l01New_ct _ _ _ _) %1 ?_ | | rintro _ A# ⟨bb#, h#, rfl, rfl⟩
theorem l01New_ct (b : Option Addr) (m c : Nat) (xs : List UInt8) :
    Ct Tryd.prog 36 [.slice b m c] [] (fun H => (rpSl flByte.rp).rd H [.slice b m c] xs)
      (fun v A => ∃ bb h, v = .pointer (some ⟨bb, 0, none⟩) ∧ A = curHp bb b m c 0 h) := by
  refine Ct.intro0 G_ok Tryd.func36 rfl rfl rfl fun E H hp => ?_
  obtain ⟨rfl, hl⟩ := rd_len hp
  apply loop_mod (α := (Nat) × (Int)) G_ok [8, 9, 10, 11, 12, 13, 14, 15, 18, 19, 20, 21, 22, 23, 24, 25, 26, 27, 3, 16, 17, 4] (fun z => [(4, .v (.int .i64 z.1)), (3, .v (.int .i64 z.2))]) (fun z => []) (fun z => [H]) (fun z => 4000 - z.1) (fun z => z.1 ≤ 4000) ((0, IntKind.i64.wrap (35501 + (xs.length : Int))))
  · repeat' (first | exact trivial | refine ⟨⟨_, rfl, by first | rfl | exact inc_eq _ (by omega) | (refine sl_eq ?_; simp; done), by first | exact trivial | simp [SV.ok]⟩, ?_⟩)
  · exact trivial
  · try dsimp only
    trivial
  · exact .refl _
  rintro ⟨k, h⟩ hI
  obtain hk : k ≤ 4000 := hI
  try dsimp only
  refine VCsplit.intro (fun q0 => ?_) (fun q0 => ?_)
  ·
    simp at q0
    refine VCsplit.intro (fun q1 => ?_) (fun q1 => ?_)
    ·
      simp at q1
      refine idx_rd hp ?_ ?_ fun b2 o2 hb2 => ?_
      · omega
      · omega
      refine load_allN 0 (k) rfl hp ?_ ?_ hb2 rfl (mem_at 0 rfl) fun l3 hl3 => ?_
      · omega
      · omega
      obtain ⟨rfl, hw3⟩ := hl3
      apply loop_stepA (k + 1, _)
      · exact .refl _
      · repeat' (first | exact trivial | refine ⟨⟨_, rfl, by first | rfl | exact inc_eq _ (by omega) | (refine sl_eq ?_; simp; done), by first | exact trivial | simp [SV.ok]⟩, ?_⟩)
      · exact trivial
      · try dsimp only
        omega
      try dsimp only
      omega
    ·
      simp at q1
      refine VCnew.intro fun x4 => ?_
      exact ⟨_, ⟨_, _, rfl, rfl⟩, .refl _⟩
  ·
    simp at q0
    refine VCnew.intro fun x5 => ?_
    exact ⟨_, ⟨_, _, rfl, rfl⟩, .refl _⟩
--@ct spec.l01Byte raw refine callR_at @1 rfl (l01Byte_ct _ _ _ _ _ _ _ (by omega) (by omega) (by omega)) %byte ?_ | | rintro _ A# ⟨dx#, ci#, ch#, rfl, hd#, he#, hi#, hj#, rfl⟩
theorem l01Byte_ct (bb : Nat) (b : Option Addr) (m c : Nat) (xs : List UInt8) (i h : Int) (h0 : 0 ≤ i) (h1 : i ≤ m) (h2 : m ≤ 9223372036854775807) :
    CtR Tryd.prog 71 [.pointer (some ⟨bb, 0, none⟩)] (curHp bb b m c i h) (fun H => (rpSl flByte.rp).rd H [.slice b m c] xs)
      (fun v A => ∃ x i' h' : Int, v = .int .i64 x ∧ 0 ≤ x ∧ x ≤ 255 ∧ 0 ≤ i' ∧ i' ≤ m ∧ A = curHp bb b m c i' h') := by
  refine CtR.introB G_ok [.p 0 0] [⟨bb, [.slice b m c, .int .i64 i, .int .i64 h], 88⟩] [] Tryd.func71 rfl rfl rfl rfl (by simp [SV.ok]) (by simp [curHp, Blk.ent]) fun E H hp => ?_
  obtain ⟨rfl, hl⟩ := rd_len hp
  refine draw G_ok mixed none (.q 0 (.q 1 (.q 2 (.q 3 (.q 4 (.q 5 (.q 6 (.q 7 (.q 8 (.q 9 (.q 10 (.q 11 (.q 12 (.nil)))))))))))))) (by decide +kernel) ?_
  refine VC.intro ?_ ?_
  · trivial
  refine VC.intro ?_ ?_
  · trivial
  refine draw G_ok mixed none (.q 0 (.q 1 (.q 2 (.q 3 (.q 4 (.q 5 (.q 6 (.q 7 (.q 8 (.q 9 (.nil))))))))))) (by decide +kernel) ?_
  refine VCsplit.intro (fun q0 => ?_) (fun q0 => ?_)
  ·
    simp at q0
    refine draw G_ok mixed none (.q 0 (.q 1 (.q 2 (.q 3 (.q 4 (.q 5 (.q 6 (.q 7 (.q 8 (.q 9 (.q 10 (.q 11 (.q 12 (.q 13 (.q 14 (.nil)))))))))))))))) (by decide +kernel) ?_
    refine idx_rd hp ?_ ?_ fun b1 o1 hb1 => ?_
    · trivial
    · trivial
    refine load_all 0 hp ?_ ?_ hb1 rfl (mem_at 0 rfl) fun l2 hl2 => ?_
    · trivial
    · trivial
    obtain ⟨rfl, hw2⟩ := hl2
    exact ⟨_, ⟨_, _, _, rfl, (and255b _).1, (and255b _).2, by rw [wrap_ok (by unfold okI; omega)]; omega, by rw [wrap_ok (by unfold okI; omega)]; omega, rfl⟩, .refl _⟩
  ·
    simp at q0
    exact ⟨_, ⟨_, _, _, rfl, (and255b _).1, (and255b _).2, h0, h1, rfl⟩, .refl _⟩
--@ct spec.l01Below raw refine callR_at @1 rfl (l01Below_ct _ _ _ _ _ _ _ _ (by omega) (by omega) (by omega)) %byte ?_ | | rintro _ A# ⟨dx#, ci#, ch#, rfl, hd#, he#, hi#, hj#, rfl⟩
theorem l01Below_ct (bb : Nat) (b : Option Addr) (m c : Nat) (xs : List UInt8) (i h : Int) (n : Int) (h0 : 0 ≤ i) (h1 : i ≤ m) (h2 : m ≤ 9223372036854775807) :
    CtR Tryd.prog 57 [.pointer (some ⟨bb, 0, none⟩), .int .i64 n] (curHp bb b m c i h) (fun H => (rpSl flByte.rp).rd H [.slice b m c] xs)
      (fun v A => ∃ x i' h' : Int, v = .int .i64 x ∧ 0 ≤ x ∧ (x = 0 ∨ x < n) ∧ 0 ≤ i' ∧ i' ≤ m ∧ A = curHp bb b m c i' h') := by
  refine CtR.intro G_ok [curHp bb b m c i h] Tryd.func57 rfl rfl rfl (by simp) fun E H hp => ?_
  refine VCsplit.intro (fun q0 => ?_) (fun q0 => ?_)
  ·
    simp at q0
    exact ⟨_, ⟨0, i, h, rfl, by omega, by omega, h0, h1, rfl⟩, .refl _⟩
  ·
    simp at q0
    refine VCsplit.intro (fun q1 => ?_) (fun q1 => ?_)
    ·
      simp at q1
      refine callR_at 0 rfl (l01Byte_ct _ _ _ _ _ _ _ (by omega) (by omega) (by omega)) (Rp.mono _ (mem_at 1 rfl) hp) ?_
      rintro _ A2 ⟨dx2, ci2, ch2, rfl, hd2, he2, hi2, hj2, rfl⟩
      refine VC.intro ?_ ?_
      · omega
      exact ⟨_, ⟨_, _, _, rfl, Int.tmod_nonneg _ (by omega), .inr (Int.tmod_lt_of_pos _ (by omega)), by omega, by omega, rfl⟩, .refl _⟩
    ·
      simp at q1
      refine callR_at 0 rfl (l01Byte_ct _ _ _ _ _ _ _ (by omega) (by omega) (by omega)) (Rp.mono _ (mem_at 1 rfl) hp) ?_
      rintro _ A3 ⟨dx3, ci3, ch3, rfl, hd3, he3, hi3, hj3, rfl⟩
      refine callR_at 0 rfl (l01Byte_ct _ _ _ _ _ _ _ (by omega) (by omega) (by omega)) (Rp.mono _ (mem_at 1 rfl) hp) ?_
      rintro _ A4 ⟨dx4, ci4, ch4, rfl, hd4, he4, hi4, hj4, rfl⟩
      refine callR_at 0 rfl (l01Byte_ct _ _ _ _ _ _ _ (by omega) (by omega) (by omega)) (Rp.mono _ (mem_at 1 rfl) hp) ?_
      rintro _ A5 ⟨dx5, ci5, ch5, rfl, hd5, he5, hi5, hj5, rfl⟩
      refine callR_at 0 rfl (l01Byte_ct _ _ _ _ _ _ _ (by omega) (by omega) (by omega)) (Rp.mono _ (mem_at 1 rfl) hp) ?_
      rintro _ A6 ⟨dx6, ci6, ch6, rfl, hd6, he6, hi6, hj6, rfl⟩
      refine VC.intro ?_ ?_
      · omega
      exact ⟨_, ⟨_, _, _, rfl, Int.tmod_nonneg _ (below4 _ _ _ _ (by omega) (by omega) (by omega) (by omega) (by omega) (by omega) (by omega) (by omega)), .inr (Int.tmod_lt_of_pos _ (by omega)), by omega, by omega, rfl⟩, .refl _⟩
end Go.Proofs.YtcnclhjhnjpeiaaDoor

namespace Go.Proofs.YtcnclhjhnjpeiaaDoor
open Go.SX Go.Proofs
set_option linter.unusedSimpArgs false
set_option linter.unusedVariables false
set_option maxHeartbeats 4000000
attribute [local irreducible] IntKind.wrap
theorem graphOk_add {g : Graph} (e : Edge) (h : graphOk g = true) : graphOk (addG g e) = true := by
  cases h1 : graphOk (putG g e) with
  | true => rw [addG_yes h1]; exact h1
  | false => rw [addG_no h1]; exact h
theorem edge_drawn {n x y z : Int} (hn : 1 ≤ n ∧ n ≤ 12) (h1 : 0 ≤ x) (h2 : x = 0 ∨ x < n) (h3 : 0 ≤ z) (h4 : z = 0 ∨ z < n) (h5 : 0 ≤ y) (h6 : y = 0 ∨ y < 3) : eOk n ⟨x, UInt8.ofNat (97 + y.toNat), z⟩ = true := by
  have hy : y.toNat ≤ 2 := by omega
  have hl : (UInt8.ofNat (97 + y.toNat)).toNat = 97 + y.toNat := by rw [UInt8.toNat_ofNat']; omega
  unfold eOk
  rw [Bool.and_eq_true, Bool.and_eq_true, inR_iff, inR_iff]
  refine ⟨by dsimp only; omega, by dsimp only; omega, ?_⟩
  unfold labelOk
  dsimp only
  rw [hl]; simp; omega
theorem label_drawn {y : Int} (h5 : 0 ≤ y) (h6 : y = 0 ∨ y < 3) : IntKind.u8.wrap (IntKind.i64.wrap (97 + y)) = ((UInt8.ofNat (97 + y.toNat)).toNat : Nat) := by
  have hl : (UInt8.ofNat (97 + y.toNat)).toNat = 97 + y.toNat := by rw [UInt8.toNat_ofNat']; omega
  rw [hl, wrap_of (x := 97 + y) (by omega) (by omega), u8_wrap]; omega
theorem edge_rd9 {n : Int} {e : Edge} {H : Hp} (hn : 1 ≤ n ∧ n ≤ 12) (h : eOk n e = true) : gEdge.rd H [.int .i64 e.from', .int .u8 e.label.toNat, .int .i64 e.to] e := by
  unfold eOk at h
  rw [Bool.and_eq_true, Bool.and_eq_true, inR_iff, inR_iff] at h
  exact gEdge_rd.2 ⟨rfl, by unfold okI; omega, by unfold okI; omega⟩
--@ct spec.l04Edge raw refine callR_at @1 rfl (l04Edge_ct _ _ _ _ _ _ _ _ (by omega) (by omega) (by omega) (by omega)) %byte ?_ | | rintro _ A# ⟨ee#, ci#, ch#, rfl, ⟨he#, re#⟩, hi#, hj#, rfl⟩
theorem l04Edge_ct (bb : Nat) (b : Option Addr) (m c : Nat) (xs : List UInt8) (i h : Int) (n : Int) (h0 : 0 ≤ i) (h1 : i ≤ m) (h2 : m ≤ 9223372036854775807) (hn : 1 ≤ n ∧ n ≤ 12) :
    CtR Tryd.prog 58 [.pointer (some ⟨bb, 0, none⟩), .int .i64 n] (curHp bb b m c i h) (fun H => (rpSl flByte.rp).rd H [.slice b m c] xs)
      (fun v A => ∃ (e : Edge) (i' h' : Int), v = .agg ⟨[.int .i64 e.from', .int .u8 e.label.toNat, .int .i64 e.to]⟩ ∧ (eOk n e = true ∧ gEdge.rd [] [.int .i64 e.from', .int .u8 e.label.toNat, .int .i64 e.to] e) ∧ 0 ≤ i' ∧ i' ≤ m ∧ A = curHp bb b m c i' h') := by
  refine CtR.intro G_ok [curHp bb b m c i h] Tryd.func58 rfl rfl rfl (by simp) fun E H hp => ?_
  refine VCnew.intro fun x0 => ?_
  refine callR_at 0 rfl (l01Below_ct _ _ _ _ _ _ _ _ (by omega) (by omega) (by omega)) (Rp.mono _ (mem_at 1 rfl) hp) ?_
  rintro _ A1 ⟨dx1, ci1, ch1, rfl, hd1, he1, hi1, hj1, rfl⟩
  refine callR_at 0 rfl (l01Below_ct _ _ _ _ _ _ _ _ (by omega) (by omega) (by omega)) (Rp.mono _ (mem_at 1 rfl) hp) ?_
  rintro _ A2 ⟨dx2, ci2, ch2, rfl, hd2, he2, hi2, hj2, rfl⟩
  refine callR_at 0 rfl (l01Below_ct _ _ _ _ _ _ _ _ (by omega) (by omega) (by omega)) (Rp.mono _ (mem_at 1 rfl) hp) ?_
  rintro _ A3 ⟨dx3, ci3, ch3, rfl, hd3, he3, hi3, hj3, rfl⟩
  exact ⟨_, ⟨⟨dx1, UInt8.ofNat (97 + dx2.toNat), dx3⟩, _, _, by rw [label_drawn (by assumption) (by assumption)], ⟨edge_drawn hn (by assumption) (by assumption) (by assumption) (by assumption) (by assumption) (by assumption), edge_rd9 hn (edge_drawn hn (by assumption) (by assumption) (by assumption) (by assumption) (by assumption) (by assumption))⟩, by assumption, by assumption, rfl⟩, rle_pick [0] 1 rfl rfl (by decide)⟩
--@ct spec.l04Graph part1 l04Graph_ct _ _ _ _ _ _ _ (by omega) (by omega) (by omega) | %byte | rintro _ A# ⟨gg#, gb#, gc#, ci#, ch#, T#, rfl, hg#, hi#, hj#, hP#, ot#⟩ ;; refine ⟨[curHp _ _ _ _ ci# ch#, T#], by simpa using hP#, ?_⟩ ;; have wg# := graph_ow (graphOk_okI hg#) ot#
theorem graphOk_okI {g : Graph} (h : graphOk g = true) : okI g.size := by have := graphOk_rng h; unfold okI; omega
theorem l04Graph_ct (bb : Nat) (b : Option Addr) (m c : Nat) (xs : List UInt8) (i h : Int) (h0 : 0 ≤ i) (h1 : i ≤ m) (h2 : m ≤ 9223372036854775807) :
    CtR Tryd.prog 35 [.pointer (some ⟨bb, 0, none⟩)] (curHp bb b m c i h) (fun H => (rpSl flByte.rp).rd H [.slice b m c] xs)
      (fun v A => ∃ (g : Graph) (gb : Option Addr) (gc : Nat) (i' h' : Int) (T : Hp), v = .agg ⟨[.int .i64 g.size, .slice gb g.edges.length gc]⟩ ∧ graphOk g = true ∧ 0 ≤ i' ∧ i' ≤ m ∧ A.Perm (curHp bb b m c i' h' ++ T) ∧ (gSl 42 gEdge).ow [.slice gb g.edges.length gc] g.edges T) := by
  refine CtR.intro G_ok [curHp bb b m c i h] Tryd.func35 rfl rfl rfl (by simp) fun E H hp => ?_
  obtain ⟨rfl, hl⟩ := rd_len hp
  refine VCnew.intro fun x0 => ?_
  refine callR_at 0 rfl (l01Below_ct _ _ _ _ _ _ _ _ (by omega) (by omega) (by omega)) (Rp.mono _ (mem_at 1 rfl) hp) ?_
  rintro _ A1 ⟨dx1, ci1, ch1, rfl, hd1, he1, hi1, hj1, rfl⟩
  refine VCnew.intro fun x2 => ?_
  apply loop_mod (α := (Nat) × (Graph) × (Hp) × (Option Addr) × (Nat) × (Int) × (Int)) G_ok [9, 10, 11, 12, 13, 17, 18, 19, 20, 21, 22, 16, 23, 24, 14, 15, 4] (fun z => [(4, .v (.int .i64 z.1))]) (fun z => [⟨x0, [Value.int IntKind.i64 (0 : Int), Value.slice none (0 : Nat) (0 : Nat)], (29 : Nat)⟩, ⟨x2, [.int .i64 z.2.1.size, .slice z.2.2.2.1 z.2.1.edges.length z.2.2.2.2.1], (29 : Nat)⟩]) (fun z => [z.2.2.1, curHp bb b xs.length c z.2.2.2.2.2.1 z.2.2.2.2.2.2, H]) (fun z => 11 - z.1) (fun z => (z.1 ≤ 11 ∧ 0 ≤ z.2.2.2.2.2.1 ∧ z.2.2.2.2.2.1 ≤ xs.length) ∧ graphOk z.2.1 = true ∧ (gSl 42 gEdge).ow [.slice z.2.2.2.1 z.2.1.edges.length z.2.2.2.2.1] z.2.1.edges z.2.2.1) ((0, ⟨IntKind.i64.wrap (2 + dx1), []⟩, [], none, 0, ci1, ch1))
  · repeat' (first | exact trivial | refine ⟨⟨_, rfl, by first | rfl | exact inc_eq _ (by omega) | (refine sl_eq ?_; simp; done), by first | exact trivial | simp [SV.ok]⟩, ?_⟩)
  · exact ⟨rfl, rfl, trivial⟩
  · try dsimp only
    exact ⟨⟨by omega, by omega, by omega⟩, graphOk_none (by rw [wrap_of (x := 2 + dx1) (by omega) (by omega)]; omega), sl_nil _ _ _⟩
  · exact .refl _
  rintro ⟨k, g, T, gb, gc, ci, ch⟩ hI
  obtain ⟨⟨hk, hc0, hc1⟩, hg, oT⟩ : (k ≤ 11 ∧ 0 ≤ ci ∧ ci ≤ xs.length) ∧ graphOk g = true ∧ (gSl 42 gEdge).ow [.slice gb g.edges.length gc] g.edges T := hI
  try dsimp only
  refine callR_at 1 rfl (l01Below_ct _ _ _ _ _ _ _ _ (by omega) (by omega) (by omega)) (Rp.mono _ (mem_at 2 rfl) hp) ?_
  rintro _ A3 ⟨dx3, ci3, ch3, rfl, hd3, he3, hi3, hj3, rfl⟩
  refine VCsplit.intro (fun q4 => ?_) (fun q4 => ?_)
  ·
    simp at q4
    simp (disch := omega) only [wrap_of] at q4
    have wg := Gt.owrd _ (graph_ow (graphOk_okI hg) oT)
    have hr := graphOk_rng hg
    refine draw G_ok mixed none (.q 1 (.q 2 (.hd (.alt 0 (.f 3 (.f 4 (.f 5 (.q 6 (.q 7 (.q 8 (.f 9 (.nil)))))))) (.alt 3 (.hd (.alt 0 (.f 4 (.f 5 (.q 6 (.q 7 (.q 8 (.f 9 (.nil))))))) (.alt 4 (.f 0 (.f 5 (.q 6 (.q 7 (.q 8 (.f 9 (.nil))))))) (.nil)))) (.nil)))))) (by decide +kernel) ?_
    refine VC.intro ?_ ?_
    ·
      refine callR_at 1 rfl (l04Edge_ct _ _ _ _ _ _ _ _ (by omega) (by omega) (by omega) (by omega)) (Rp.mono _ (mem_at 2 rfl) hp) ?_
      rintro _ A5 ⟨ee5, ci5, ch5, rfl, ⟨he5, re5⟩, hi5, hj5, rfl⟩
      refine call_new (specGraphAdd_ct _ _ g _ hg) ⟨(Rp.mono _ (mem_at 0 rfl) wg), edge_rd9 (n := g.size) ⟨by omega, by omega⟩ (by assumption)⟩ ?_
      rintro v6 A6 o6
      obtain ⟨b6, c6, rfl, o6⟩ := o6
      apply loop_stepA (k + 1, addG g _, _, _, _, _, _)
      · exact .sub (by repeat (first | exact .slnil | apply List.Sublist.cons_cons | apply List.Sublist.cons))
      · repeat' (first | exact trivial | refine ⟨⟨_, rfl, by first | rfl | exact inc_eq _ (by omega) | (refine sl_eq ?_; simp; done), by first | exact trivial | simp [SV.ok]⟩, ?_⟩)
      · exact ⟨rfl, rfl, trivial⟩
      · try dsimp only
        exact ⟨⟨by omega, by omega, by omega⟩, graphOk_add _ hg, by assumption⟩
      try dsimp only
      omega
    ·
      refine VC.intro ?_ ?_
      ·
        refine VC.intro ?_ ?_
        ·
          refine callR_at 1 rfl (l04Edge_ct _ _ _ _ _ _ _ _ (by omega) (by omega) (by omega) (by omega)) (Rp.mono _ (mem_at 2 rfl) hp) ?_
          rintro _ A7 ⟨ee7, ci7, ch7, rfl, ⟨he7, re7⟩, hi7, hj7, rfl⟩
          refine call_new (specGraphAdd_ct _ _ g _ hg) ⟨(Rp.mono _ (mem_at 0 rfl) wg), edge_rd9 (n := g.size) ⟨by omega, by omega⟩ (by assumption)⟩ ?_
          rintro v8 A8 o8
          obtain ⟨b8, c8, rfl, o8⟩ := o8
          apply loop_stepA (k + 1, addG g _, _, _, _, _, _)
          · exact .sub (by repeat (first | exact .slnil | apply List.Sublist.cons_cons | apply List.Sublist.cons))
          · repeat' (first | exact trivial | refine ⟨⟨_, rfl, by first | rfl | exact inc_eq _ (by omega) | (refine sl_eq ?_; simp; done), by first | exact trivial | simp [SV.ok]⟩, ?_⟩)
          · exact ⟨rfl, rfl, trivial⟩
          · try dsimp only
            exact ⟨⟨by omega, by omega, by omega⟩, graphOk_add _ hg, by assumption⟩
          try dsimp only
          omega
        ·
          refine VC.intro ?_ ?_
          ·
            refine callR_at 1 rfl (l04Edge_ct _ _ _ _ _ _ _ _ (by omega) (by omega) (by omega) (by omega)) (Rp.mono _ (mem_at 2 rfl) hp) ?_
            rintro _ A9 ⟨ee9, ci9, ch9, rfl, ⟨he9, re9⟩, hi9, hj9, rfl⟩
            refine call_new (specGraphAdd_ct _ _ g _ hg) ⟨(Rp.mono _ (mem_at 0 rfl) wg), edge_rd9 (n := g.size) ⟨by omega, by omega⟩ (by assumption)⟩ ?_
            rintro v10 A10 o10
            obtain ⟨b10, c10, rfl, o10⟩ := o10
            apply loop_stepA (k + 1, addG g _, _, _, _, _, _)
            · exact .sub (by repeat (first | exact .slnil | apply List.Sublist.cons_cons | apply List.Sublist.cons))
            · repeat' (first | exact trivial | refine ⟨⟨_, rfl, by first | rfl | exact inc_eq _ (by omega) | (refine sl_eq ?_; simp; done), by first | exact trivial | simp [SV.ok]⟩, ?_⟩)
            · exact ⟨rfl, rfl, trivial⟩
            · try dsimp only
              exact ⟨⟨by omega, by omega, by omega⟩, graphOk_add _ hg, by assumption⟩
            try dsimp only
            omega
          ·
            exact trivial
      ·
        exact trivial
  ·
    simp at q4
    simp (disch := omega) only [wrap_of] at q4
    exact ⟨_, ⟨g, gb, gc, _, _, T, rfl, hg, by assumption, by assumption, List.perm_append_comm, oT⟩, rle_pick [0, 1] 2 rfl rfl (by decide)⟩
--@ct spec.DrawGraph new DrawGraph_ct _ _ _ _ | %1 | obtain ⟨g#, gb#, gc#, rfl, hg#, ot#⟩ := o# ;; have wg# := graph_ow (graphOk_okI hg#) ot#
theorem DrawGraph_ct (b : Option Addr) (m c : Nat) (xs : List UInt8) :
    Ct Tryd.prog 16 [.slice b m c] [] (fun H => (rpSl flByte.rp).rd H [.slice b m c] xs)
      (fun v A => ∃ (g : Graph) (gb : Option Addr) (gc : Nat), v = .agg ⟨[.int .i64 g.size, .slice gb g.edges.length gc]⟩ ∧ graphOk g = true ∧ (gSl 42 gEdge).ow [.slice gb g.edges.length gc] g.edges A) := by
  refine Ct.intro0 G_ok Tryd.func16 rfl rfl rfl fun E H hp => ?_
  obtain ⟨rfl, hl⟩ := rd_len hp
  refine VCnew.intro fun x0 => ?_
  refine call_new (l01New_ct _ _ _ _) (Rp.mono _ (mem_at 0 rfl) hp) ?_
  rintro _ A1 ⟨bb1, h1, rfl, rfl⟩
  refine callR_part (curHp bb1 b xs.length c (0 : Int) h1) [H] (l04Graph_ct _ _ _ _ _ _ _ (by omega) (by omega) (by omega)) ?_ (Rp.mono _ (mem_at 0 rfl) hp) ?_
  · exact .le fun a => by (try simp only [setR, List.cons_append, List.nil_append]); simp only [List.flatten_append, List.flatten_cons, List.flatten_nil, List.count_append, List.count_nil, List.append_nil, List.nil_append]; omega
  rintro _ A2 ⟨gg2, gb2, gc2, ci2, ch2, T2, rfl, hg2, hi2, hj2, hP2, ot2⟩
  refine ⟨[curHp _ _ _ _ ci2 ch2, T2], by simpa using hP2, ?_⟩
  have wg2 := graph_ow (graphOk_okI hg2) ot2
  exact ⟨_, ⟨_, _, _, rfl, by assumption, by assumption⟩, rle_pick [1] 2 rfl rfl (by decide)⟩
end Go.Proofs.YtcnclhjhnjpeiaaDoor

namespace Go.Proofs.YtcnclhjhnjpeiaaDoor
open Go.SX Go.Proofs
set_option linter.unusedSimpArgs false
set_option linter.unusedVariables false
set_option maxHeartbeats 4000000
attribute [local irreducible] IntKind.wrap
theorem show_sz {g : Graph} (h : graphOk g = true) : 1 ≤ (showT g).size ∧ (showT g).size ≤ 529 := by
  have hr := sgOk_rng h
  have h1 : ∀ es : List Edge, (∀ e ∈ es, (0 ≤ e.from' ∧ e.from' < g.size) ∧ 0 ≤ e.to ∧ e.to < g.size) → (es.flatMap edgeS).length ≤ 13 * es.length := by
    intro es
    induction es with
    | nil => intro _; exact Nat.le_refl _
    | cons e r ih =>
      intro he
      have h2 := ih fun x hx => he x (List.mem_cons_of_mem _ hx)
      have h3 := edgeS_len (e := e) (n := g.size) (by omega) (he e List.mem_cons_self).1 (he e List.mem_cons_self).2
      rw [List.flatMap_cons, List.length_append, List.length_cons]; omega
  have h2 := h1 g.edges fun e he => by
    obtain ⟨i, hi, rfl⟩ := List.getElem_of_mem he
    have := sedge_rng (sgOk_edge h i hi)
    rw [List.getElem?_eq_getElem hi] at this
    have h5 : ((some g.edges[i]).getD default) = g.edges[i] := rfl
    rw [h5] at this
    omega
  have h3 := headS_len (g := g) (by omega)
  have h4 : 1 ≤ (headS g).length := by unfold headS; rw [List.length_append]; simp only [List.length_cons]; omega
  rw [showT_yes h, ← by_size, by_tx]
  unfold showG
  rw [List.length_append]; omega
def shortC : Value → Bool
  | .string s => decide (s.size ≤ 20)
  | _ => false
theorem short_strs : ∀ {cs : List Value}, cs.all shortC = true → ∃ ls : List ByteArray, cs = ls.map Value.string ∧ ∀ s ∈ ls, s.size ≤ 20
  | [], _ => ⟨[], rfl, fun s hs => by cases hs⟩
  | c :: r, h => by
    rw [List.all_cons, Bool.and_eq_true] at h
    obtain ⟨ls, h1, h2⟩ := short_strs h.2
    cases c with
    | string s =>
      refine ⟨s :: ls, by rw [h1]; rfl, fun t ht => ?_⟩
      rcases List.mem_cons.1 ht with rfl | ht
      · exact of_decide_eq_true h.1
      exact h2 t ht
    | _ => cases h.1
theorem strs_rd {H : Hp} {x : Nat} {cs : List Value} {T : TypeId} {n : Nat} (hm : (x, Obj.cells ⟨cs⟩ T) ∈ H) (h : cs.all shortC = true) (h0 : 0 < n) (hx : n ≤ 1000) (hn : n = cs.length) : ∃ ls : List ByteArray, (rpSl flStr.rp).rd H [.slice (some ⟨x, 0, none⟩) n n] ls ∧ 0 < ls.length ∧ ∀ s ∈ ls, s.size ≤ 20 := by
  obtain ⟨ls, h1, h2⟩ := short_strs h
  have hl : n = ls.length := by rw [hn, h1, List.length_map]
  have h3 : cs = ls.flatMap flStr.enc := by
    rw [h1]
    clear h1 h2 hl
    induction ls with
    | nil => rfl
    | cons a r ih => rw [List.map_cons, ih]; rfl
  subst hl
  refine ⟨ls, ?_, h0, h2⟩
  have h4 : (rpSl flStr.rp).rd [(x, Obj.cells ⟨ls.flatMap flStr.enc⟩ T)] [.slice (some ⟨x, 0, none⟩) ls.length ls.length] ls := by
    exact Ow.rd (Ow.lit (f := flStr) (T := T) (b := x) (xs := ls) (fun s hs => (by have := h2 s hs; simp [flStr]; omega)) (by omega))
  exact Rp.mono _ (fun p hp => by rw [List.mem_singleton.1 hp, ← h3]; exact hm) h4
--@ct spec.l01Pick raw refine callR_at @1 rfl (l01Pick_ct _ _ _ _ _ _ _ _ _ _ (by omega) (by omega) (by omega)) ⟨%byte, strs_rd (mem_at 0 rfl _ (List.mem_singleton.2 rfl)) (by decide +kernel) (by omega) (by omega) rfl⟩ ?_ | | rintro _ A# ⟨dp#, ci#, ch#, rfl, hd#, hi#, hj#, rfl⟩
theorem l01Pick_ct (bb : Nat) (b : Option Addr) (m c : Nat) (xs : List UInt8) (i h : Int) (lb : Option Addr) (lm lc : Nat) (h0 : 0 ≤ i) (h1 : i ≤ m) (h2 : m ≤ 9223372036854775807) :
    CtR Tryd.prog 59 [.pointer (some ⟨bb, 0, none⟩), .slice lb lm lc] (curHp bb b m c i h) (fun H => (rpSl flByte.rp).rd H [.slice b m c] xs ∧ ∃ ls : List ByteArray, (rpSl flStr.rp).rd H [.slice lb lm lc] ls ∧ 0 < ls.length ∧ ∀ s ∈ ls, s.size ≤ 20)
      (fun v A => ∃ (x : ByteArray) (i' h' : Int), v = .string x ∧ x.size ≤ 20 ∧ 0 ≤ i' ∧ i' ≤ m ∧ A = curHp bb b m c i' h') := by
  refine CtR.intro G_ok [curHp bb b m c i h] Tryd.func59 rfl rfl rfl (by simp) fun E H ⟨hp, ls, hq, hne, hsz⟩ => ?_
  obtain ⟨rfl, hl⟩ := rd_len hq
  refine callR_at 0 rfl (l01Below_ct _ _ _ _ _ _ _ _ (by omega) (by omega) (by omega)) (Rp.mono _ (mem_at 1 rfl) hp) ?_
  rintro _ A0 ⟨dx0, ci0, ch0, rfl, hd0, he0, hi0, hj0, rfl⟩
  refine idx_rd hq ?_ ?_ fun b1 o1 hb1 => ?_
  · trivial
  · omega
  refine load_all ByteArray.empty hq ?_ ?_ hb1 rfl (mem_at 1 rfl) fun l2 hl2 => ?_
  · trivial
  · omega
  obtain ⟨rfl, hw2⟩ := hl2; simp only [flStr, flInt, okI] at hw2
  exact ⟨_, ⟨_, _, _, rfl, hsz _ (by rw [List.getElem?_eq_getElem (by omega)]; exact List.getElem_mem _), by omega, by omega, rfl⟩, .refl _⟩
--@ct spec.l01Text raw refine callR_at @1 rfl (l01TextL_ct _ _ _ _ _ _ _ _ (by omega) (by omega) (by omega) ?_ ?_) %byte ?_ | | rintro _ A# ⟨dt#, ci#, ch#, rfl, hd#, hi#, hj#, rfl⟩
theorem l01TextL_ct (bb : Nat) (b : Option Addr) (m c : Nat) (xs : List UInt8) (i h : Int) (n : Int) (h0 : 0 ≤ i) (h1 : i ≤ m) (h2 : m ≤ 9223372036854775807) (hn0 : 0 ≤ n) (hn : n ≤ 5000) :
    CtR Tryd.prog 72 [.pointer (some ⟨bb, 0, none⟩), .int .i64 n] (curHp bb b m c i h) (fun H => (rpSl flByte.rp).rd H [.slice b m c] xs)
      (fun v A => ∃ (t : ByteArray) (i' h' : Int), v = .string t ∧ t.size = n.toNat ∧ 0 ≤ i' ∧ i' ≤ m ∧ A = curHp bb b m c i' h') := by
  refine CtR.intro G_ok [curHp bb b m c i h] Tryd.func72 rfl rfl rfl (by simp) fun E H hp => ?_
  refine VCsplit.intro (fun q0 => ?_) (fun q0 => ?_)
  ·
    simp at q0
    exfalso; omega
  ·
    simp at q0
    refine VCnew.intro fun x1 => ?_
    apply loop_mod (α := (Nat) × (List UInt8) × (Option Addr) × (Nat) × (Hp) × (Int) × (Int)) G_ok [10, 11, 12, 15, 16, 17, 18, 19, 20, 5, 13, 14, 6] (fun z => [(6, .v (.int .i64 z.1)), (5, .v (.slice z.2.2.1 z.2.1.length z.2.2.2.1))]) (fun z => []) (fun z => [z.2.2.2.2.1, curHp bb b m c z.2.2.2.2.2.1 z.2.2.2.2.2.2, H]) (fun z => n.toNat - z.1) (fun z => (z.1 ≤ n.toNat ∧ 0 ≤ z.2.2.2.2.2.1 ∧ z.2.2.2.2.2.1 ≤ m) ∧ z.2.1.length = z.1 ∧ (gSl 5 gY).ow [.slice z.2.2.1 z.2.1.length z.2.2.2.1] z.2.1 z.2.2.2.2.1) ((0, [], some ⟨x1, 0, none⟩, 0, [], i, h))
    · repeat' (first | exact trivial | refine ⟨⟨_, rfl, by first | rfl | exact inc_eq _ (by omega) | (refine sl_eq ?_; simp; done), by first | exact trivial | simp [SV.ok]⟩, ?_⟩)
    · exact trivial
    · try dsimp only
      exact ⟨by omega, rfl, sl_nil _ _ _⟩
    · exact .tl
    rintro ⟨k, ys, yb, yc, T, ci, ch⟩ hI
    obtain ⟨⟨hk, hc0, hc1⟩, hlen, oT⟩ : (k ≤ n.toNat ∧ 0 ≤ ci ∧ ci ≤ m) ∧ ys.length = k ∧ (gSl 5 gY).ow [.slice yb ys.length yc] ys T := hI
    try dsimp only
    refine VCsplit.intro (fun q2 => ?_) (fun q2 => ?_)
    ·
      simp at q2
      refine callR_at 1 rfl (l01Byte_ct _ _ _ _ _ _ _ (by omega) (by omega) (by omega)) (Rp.mono _ (mem_at 2 rfl) hp) ?_
      rintro _ A3 ⟨dx3, ci3, ch3, rfl, hd3, he3, hi3, hj3, rfl⟩
      refine VCnew.intro fun x4 => ?_
      refine gappend1 (g := gY) (T := (5 : TypeId)) G_ok T [] [curHp bb b m c ci3 ch3, H] ?_ oT (gY_owM _) (List.mem_of_getElem? (i := 0) rfl) rfl rfl rfl rfl rfl rfl rfl rfl ?_ fun b5 c5 A5 o5 => ?_
      · exact .tl
      · omega
      apply loop_stepA (k + 1, ys ++ [_], _, _, _, _, _)
      · exact .refl _
      · repeat' (first | exact trivial | refine ⟨⟨_, rfl, by first | rfl | exact inc_eq _ (by omega) | (refine sl_eq ?_; simp; done), by first | exact trivial | simp [SV.ok]⟩, ?_⟩)
      · exact trivial
      · try dsimp only
        exact ⟨⟨by omega, by assumption, by assumption⟩, by simp; omega, by assumption⟩
      try dsimp only
      omega
    ·
      simp at q2
      refine conv_bs G_ok (ys) rfl (Rp.mono _ (mem_at 0 rfl) (Gt.owrd _ oT)) rfl rfl rfl ?_
      exact ⟨_, ⟨_, _, _, rfl, (by show (List.toArray ys).size = n.toNat; rw [List.size_toArray]; omega), by assumption, by assumption, rfl⟩, rle_pick [1] 2 rfl rfl (by decide)⟩
--@ct spec.l02Spoilt raw refine callR_at @1 rfl (l02Spoilt_ct _ _ _ _ _ _ _ _ (by omega) (by omega) (by omega) ?_) %byte ?_ | | rintro _ A# ⟨dt#, ci#, ch#, rfl, hd#, hi#, hj#, rfl⟩
theorem l02Spoilt_ct (bb : Nat) (b : Option Addr) (m c : Nat) (xs : List UInt8) (i h : Int) (s : ByteArray) (h0 : 0 ≤ i) (h1 : i ≤ m) (h2 : m ≤ 9223372036854775807) (hs : s.size ≤ 1048576) :
    CtR Tryd.prog 60 [.pointer (some ⟨bb, 0, none⟩), .string s] (curHp bb b m c i h) (fun H => (rpSl flByte.rp).rd H [.slice b m c] xs)
      (fun v A => ∃ (t : ByteArray) (i' h' : Int), v = .string t ∧ t.size ≤ s.size + 1 ∧ 0 ≤ i' ∧ i' ≤ m ∧ A = curHp bb b m c i' h') := by
  refine CtR.intro G_ok [curHp bb b m c i h] Tryd.func60 rfl rfl rfl (by simp) fun E H hp => ?_
  have him : IntKind.i64.max = 9223372036854775807 := rfl
  refine callR_at 0 rfl (l01Below_ct _ _ _ _ _ _ _ _ (by omega) (by omega) (by omega)) (Rp.mono _ (mem_at 1 rfl) hp) ?_
  rintro _ A0 ⟨dx0, ci0, ch0, rfl, hd0, he0, hi0, hj0, rfl⟩
  refine VCsplit.intro (fun q1 => ?_) (fun q1 => ?_)
  ·
    simp at q1
    refine callR_at 0 rfl (l01TextL_ct _ _ _ _ _ _ _ _ (by omega) (by omega) (by omega) ?_ ?_) (Rp.mono _ (mem_at 1 rfl) hp) ?_
    · trivial
    · trivial
    rintro _ A2 ⟨dt2, ci2, ch2, rfl, hd2, hi2, hj2, rfl⟩
    refine VC.intro ?_ ?_
    · omega
    exact ⟨_, ⟨_, _, _, rfl, (by simp (disch := omega) only [wrap_of, ByteArray.size_append, ByteArray.size_extract]; omega), by omega, by omega, rfl⟩, .refl _⟩
  ·
    simp at q1
    refine VCsplit.intro (fun q3 => ?_) (fun q3 => ?_)
    ·
      simp at q3
      refine callR_at 0 rfl (l01Below_ct _ _ _ _ _ _ _ _ (by omega) (by omega) (by omega)) (Rp.mono _ (mem_at 1 rfl) hp) ?_
      rintro _ A4 ⟨dx4, ci4, ch4, rfl, hd4, he4, hi4, hj4, rfl⟩
      refine VC.intro ?_ ?_
      · (simp (disch := omega) only [wrap_of] at *; omega)
      exact ⟨_, ⟨_, _, _, rfl, (by simp (disch := omega) only [wrap_of, ByteArray.size_append, ByteArray.size_extract]; omega), by omega, by omega, rfl⟩, .refl _⟩
    ·
      simp at q3
      refine VCsplit.intro (fun q5 => ?_) (fun q5 => ?_)
      ·
        simp at q5
        refine VCsplit.intro (fun q6 => ?_) (fun q6 => ?_)
        ·
          simp at q6
          refine callR_at 0 rfl (l01Below_ct _ _ _ _ _ _ _ _ (by omega) (by omega) (by omega)) (Rp.mono _ (mem_at 1 rfl) hp) ?_
          rintro _ A7 ⟨dx7, ci7, ch7, rfl, hd7, he7, hi7, hj7, rfl⟩
          refine draw G_ok mixed none (.q 0 (.q 1 (.qb 2 (.q 3 (.q 6 (.q 7 (.q 8 (.qb 9 (.f 4 (.q 5 (.q 10 (.q 11 (.nil))))))))))))) (by decide +kernel) ?_
          refine VC.intro ?_ ?_
          · omega
          refine VC.intro ?_ ?_
          · exact fun _ h => h
          refine VC.intro ?_ ?_
          · (simp (disch := omega) only [wrap_of]; omega)
          refine callR_at 0 rfl (l01TextL_ct _ _ _ _ _ _ _ _ (by omega) (by omega) (by omega) ?_ ?_) (Rp.mono _ (mem_at 1 rfl) hp) ?_
          · trivial
          · trivial
          rintro _ A8 ⟨dt8, ci8, ch8, rfl, hd8, hi8, hj8, rfl⟩
          refine VC.intro ?_ ?_
          · simp_all
          refine VC.intro ?_ ?_
          · simp; omega
          refine VC.intro ?_ ?_
          · simp; omega
          exact ⟨_, ⟨_, _, _, rfl, (by simp (disch := omega) only [wrap_of, ByteArray.size_append, ByteArray.size_extract]; omega), by omega, by omega, rfl⟩, .refl _⟩
        ·
          simp at q6
          exact ⟨_, ⟨_, _, _, rfl, (by omega), by omega, by omega, rfl⟩, .refl _⟩
      ·
        simp at q5
        refine VCsplit.intro (fun q9 => ?_) (fun q9 => ?_)
        ·
          simp at q9
          refine VCsplit.intro (fun q10 => ?_) (fun q10 => ?_)
          ·
            simp at q10
            refine callR_at 0 rfl (l01Below_ct _ _ _ _ _ _ _ _ (by omega) (by omega) (by omega)) (Rp.mono _ (mem_at 1 rfl) hp) ?_
            rintro _ A11 ⟨dx11, ci11, ch11, rfl, hd11, he11, hi11, hj11, rfl⟩
            refine draw G_ok mixed none (.q 0 (.q 1 (.qb 2 (.q 3 (.q 6 (.q 7 (.q 8 (.qb 9 (.f 4 (.q 5 (.q 10 (.q 11 (.nil))))))))))))) (by decide +kernel) ?_
            refine VC.intro ?_ ?_
            · omega
            refine VC.intro ?_ ?_
            · exact fun _ h => h
            refine VC.intro ?_ ?_
            · (simp (disch := omega) only [wrap_of]; omega)
            refine callR_at 0 rfl (l01TextL_ct _ _ _ _ _ _ _ _ (by omega) (by omega) (by omega) ?_ ?_) (Rp.mono _ (mem_at 1 rfl) hp) ?_
            · trivial
            · trivial
            rintro _ A12 ⟨dt12, ci12, ch12, rfl, hd12, hi12, hj12, rfl⟩
            refine VC.intro ?_ ?_
            · simp_all
            refine VC.intro ?_ ?_
            · simp; omega
            refine VC.intro ?_ ?_
            · simp; omega
            exact ⟨_, ⟨_, _, _, rfl, (by simp (disch := omega) only [wrap_of, ByteArray.size_append, ByteArray.size_extract]; omega), by omega, by omega, rfl⟩, .refl _⟩
          ·
            simp at q10
            exact ⟨_, ⟨_, _, _, rfl, (by omega), by omega, by omega, rfl⟩, .refl _⟩
        ·
          simp at q9
          exact ⟨_, ⟨_, _, _, rfl, (by omega), by omega, by omega, rfl⟩, .refl _⟩
--@ct spec.l27Text raw refine callR_at @1 rfl (l27Text_ct _ _ _ _ _ _ _ (by omega) (by omega) (by omega)) %byte ?_ | | rintro _ A# ⟨dt#, ci#, ch#, rfl, hd#, hi#, hj#, rfl⟩
theorem l27Text_ct (bb : Nat) (b : Option Addr) (m c : Nat) (xs : List UInt8) (i h : Int) (h0 : 0 ≤ i) (h1 : i ≤ m) (h2 : m ≤ 9223372036854775807) :
    CtR Tryd.prog 38 [.pointer (some ⟨bb, 0, none⟩)] (curHp bb b m c i h) (fun H => (rpSl flByte.rp).rd H [.slice b m c] xs)
      (fun v A => ∃ (t : ByteArray) (i' h' : Int), v = .string t ∧ t.size ≤ 1000 ∧ 0 ≤ i' ∧ i' ≤ m ∧ A = curHp bb b m c i' h') := by
  refine CtR.intro G_ok [curHp bb b m c i h] Tryd.func38 rfl rfl rfl (by simp) fun E H hp => ?_
  have him : IntKind.i64.max = 9223372036854775807 := rfl
  have hl1 : (⟨#[35, 32, 115, 97, 105, 100, 10, 10]⟩ : ByteArray).size = 8 := rfl
  have hl2 : (⟨#[32, 32, 35, 32, 109, 111, 114, 101, 10]⟩ : ByteArray).size = 9 := rfl
  refine callR_at 0 rfl (l01Below_ct _ _ _ _ _ _ _ _ (by omega) (by omega) (by omega)) (Rp.mono _ (mem_at 1 rfl) hp) ?_
  rintro _ A0 ⟨dx0, ci0, ch0, rfl, hd0, he0, hi0, hj0, rfl⟩
  refine VCnew.intro fun x1 => ?_
  refine callR_at 1 rfl (l01Pick_ct _ _ _ _ _ _ _ _ _ _ (by omega) (by omega) (by omega)) ⟨(Rp.mono _ (mem_at 2 rfl) hp), strs_rd (mem_at 0 rfl _ (List.mem_singleton.2 rfl)) (by decide +kernel) (by omega) (by omega) rfl⟩ ?_
  rintro _ A2 ⟨dp2, ci2, ch2, rfl, hd2, hi2, hj2, rfl⟩
  refine callR_part (curHp bb b m c ci2 ch2) [[(x1, Obj.cells { toList := Value.string { data := #[(101 : UInt8), (100 : UInt8), (103 : UInt8), (101 : UInt8), (32 : UInt8), (48 : UInt8), (32 : UInt8), (97 : UInt8), (10 : UInt8)] } :: Value.string { data := #[(101 : UInt8), (100 : UInt8), (103 : UInt8), (101 : UInt8), (32 : UInt8), (48 : UInt8), (32 : UInt8), (101 : UInt8), (32 : UInt8), (49 : UInt8), (10 : UInt8)] } :: Value.string { data := #[(101 : UInt8), (100 : UInt8), (103 : UInt8), (101 : UInt8), (32 : UInt8), (48 : UInt8), (32 : UInt8), (97 : UInt8), (32 : UInt8), (57 : UInt8), (57 : UInt8), (10 : UInt8)] } :: Value.string { data := #[(118 : UInt8), (101 : UInt8), (114 : UInt8), (116 : UInt8), (115 : UInt8), (32 : UInt8), (51 : UInt8), (10 : UInt8)] } :: Value.string { data := #[(119 : UInt8), (104 : UInt8), (97 : UInt8), (116 : UInt8), (10 : UInt8)] } :: Value.string { data := #[(7 : UInt8), (10 : UInt8)] } :: Value.string { data := #[(101 : UInt8), (100 : UInt8), (103 : UInt8), (101 : UInt8), (32 : UInt8), (48 : UInt8), (49 : UInt8), (32 : UInt8), (97 : UInt8), (32 : UInt8), (49 : UInt8), (10 : UInt8)] } :: Value.string { data := #[(101 : UInt8), (100 : UInt8), (103 : UInt8), (101 : UInt8), (32 : UInt8), (48 : UInt8), (32 : UInt8), (97 : UInt8), (98 : UInt8), (32 : UInt8), (49 : UInt8), (10 : UInt8)] } :: [].append (zeros (nat_lit 0) [Value.string ByteArray.empty]) } (9 : TypeId))], H] (l04Graph_ct _ _ _ _ _ _ _ (by omega) (by omega) (by omega)) ?_ (Rp.mono _ (mem_at 1 rfl) hp) ?_
  · exact .le fun a => by (try simp only [setR, List.cons_append, List.nil_append]); simp only [List.flatten_append, List.flatten_cons, List.flatten_nil, List.count_append, List.count_nil, List.append_nil, List.nil_append]; omega
  rintro _ A3 ⟨gg3, gb3, gc3, ci3, ch3, T3, rfl, hg3, hi3, hj3, hP3, ot3⟩
  refine ⟨[curHp _ _ _ _ ci3 ch3, T3], by simpa using hP3, ?_⟩
  have wg3 := graph_ow (graphOk_okI hg3) ot3
  refine call_val (specShowGraph_ct _ (gg3)) (Rp.mono _ (mem_at 1 rfl) (Gt.owrd _ wg3)) ?_
  rintro _ rfl
  refine VCsplit.intro (fun q5 => ?_) (fun q5 => ?_)
  ·
    simp at q5
    have hss5 := show_sz hg3
    try dsimp only
    exact ⟨_, ⟨_, _, _, rfl, (by omega), by assumption, by assumption, rfl⟩, rle_pick [0] 3 rfl rfl (by decide)⟩
  ·
    simp at q5
    have hss5 := show_sz hg3
    refine VCsplit.intro (fun q6 => ?_) (fun q6 => ?_)
    ·
      simp at q6
      have hss6 := show_sz hg3
      refine VC.intro ?_ ?_
      · omega
      try dsimp only
      exact ⟨_, ⟨_, _, _, rfl, (by simp only [ByteArray.size_append, ByteArray.size_extract]; omega), by assumption, by assumption, rfl⟩, rle_pick [0] 3 rfl rfl (by decide)⟩
    ·
      simp at q6
      have hss6 := show_sz hg3
      refine VCsplit.intro (fun q7 => ?_) (fun q7 => ?_)
      ·
        simp at q7
        have hss7 := show_sz hg3
        refine VC.intro ?_ ?_
        · omega
        refine VC.intro ?_ ?_
        · simp; omega
        try dsimp only
        exact ⟨_, ⟨_, _, _, rfl, (by simp only [ByteArray.size_append, ByteArray.size_extract]; omega), by assumption, by assumption, rfl⟩, rle_pick [0] 3 rfl rfl (by decide)⟩
      ·
        simp at q7
        have hss7 := show_sz hg3
        refine VCsplit.intro (fun q8 => ?_) (fun q8 => ?_)
        ·
          simp at q8
          have hss8 := show_sz hg3
          refine VC.intro ?_ ?_
          · (simp (disch := omega) only [wrap_of]; omega)
          try dsimp only
          exact ⟨_, ⟨_, _, _, rfl, (by simp only [ByteArray.size_append, ByteArray.size_extract]; omega), by assumption, by assumption, rfl⟩, rle_pick [0] 3 rfl rfl (by decide)⟩
        ·
          simp at q8
          have hss8 := show_sz hg3
          refine VCsplit.intro (fun q9 => ?_) (fun q9 => ?_)
          ·
            simp at q9
            have hss9 := show_sz hg3
            refine callR_at 0 rfl (l02Spoilt_ct _ _ _ _ _ _ _ _ (by omega) (by omega) (by omega) ?_) (Rp.mono _ (mem_at 3 rfl) hp) ?_
            · omega
            rintro _ A10 ⟨dt10, ci10, ch10, rfl, hd10, hi10, hj10, rfl⟩
            try dsimp only
            exact ⟨_, ⟨_, _, _, rfl, (by omega), by assumption, by assumption, rfl⟩, rle_pick [0] 3 rfl rfl (by decide)⟩
          ·
            simp at q9
            have hss9 := show_sz hg3
            refine VCsplit.intro (fun q11 => ?_) (fun q11 => ?_)
            ·
              simp at q11
              have hss11 := show_sz hg3
              refine VCnew.intro fun x12 => ?_
              refine callR_at 1 rfl (l01Pick_ct _ _ _ _ _ _ _ _ _ _ (by omega) (by omega) (by omega)) ⟨(Rp.mono _ (mem_at 4 rfl) hp), strs_rd (mem_at 0 rfl _ (List.mem_singleton.2 rfl)) (by decide +kernel) (by omega) (by omega) rfl⟩ ?_
              rintro _ A13 ⟨dp13, ci13, ch13, rfl, hd13, hi13, hj13, rfl⟩
              try dsimp only
              exact ⟨_, ⟨_, _, _, rfl, (by omega), by assumption, by assumption, rfl⟩, rle_pick [1] 4 rfl rfl (by decide)⟩
            ·
              simp at q11
              have hss11 := show_sz hg3
              try dsimp only
              exact ⟨_, ⟨_, _, _, rfl, (by omega), by assumption, by assumption, rfl⟩, rle_pick [0] 3 rfl rfl (by decide)⟩
--@ct spec.DrawLoadGraph new DrawLoadGraph_ct _ _ _ _ | %1 | obtain ⟨u#, rfl, hu#, rfl⟩ := o#
theorem DrawLoadGraph_ct (b : Option Addr) (m c : Nat) (xs : List UInt8) :
    Ct Tryd.prog 18 [.slice b m c] [] (fun H => (rpSl flByte.rp).rd H [.slice b m c] xs) (fun v A => ∃ t, v = .string t ∧ t.size ≤ 1000 ∧ A = []) := by
  refine Ct.intro0 G_ok Tryd.func18 rfl rfl rfl fun E H hp => ?_
  obtain ⟨rfl, hl⟩ := rd_len hp
  refine call_new (l01New_ct _ _ _ _) (Rp.mono _ (mem_at 0 rfl) hp) ?_
  rintro _ A0 ⟨bb0, h0, rfl, rfl⟩
  refine callR_at 0 rfl (l27Text_ct _ _ _ _ _ _ _ (by omega) (by omega) (by omega)) (Rp.mono _ (mem_at 1 rfl) hp) ?_
  rintro _ A1 ⟨dt1, ci1, ch1, rfl, hd1, hi1, hj1, rfl⟩
  exact ⟨[], ⟨_, rfl, by omega, rfl⟩, (.le fun a => by (try simp only [setR, List.cons_append, List.nil_append]); simp [List.count_cons, Blk.ent, idOf]; try omega)⟩
end Go.Proofs.YtcnclhjhnjpeiaaDoor

namespace Go.Proofs.YtcnclhjhnjpeiaaDoor
open Go.SX Go.Proofs
set_option maxHeartbeats 1000000
theorem eqE_run (w : World) (a c a' c' : Int) (b b' : Int) : (Op.equalIn 10000 42 (.agg #[.int .i64 a, .int .u8 b, .int .i64 c]) (.agg #[.int .i64 a', .int .u8 b', .int .i64 c'])).run Tryd.prog w = .ok (a == a' && (b == b' && c == c')) w := by
  have u3 := Tryd.underlying3
  have a3 := Tryd.isAgg3
  have z3 := Tryd.sizeOf3
  have u5 := Tryd.underlying5
  have a5 := Tryd.isAgg5
  have z5 := Tryd.sizeOf5
  have hS : Tryd.prog.underlying 42 = some (.struct (Tryd.prog.fieldsOf 42)) := by kernel_rfl
  have hp : Tryd.prog.stoodInHeld 42 = false := by kernel_rfl
  rw [show (10000 : Nat) = 9999 + 1 from rfl, run_equalIn_agg w 9999 42 _ _ hS hp]
  simp only [Program.fieldsOf, Tryd.underlying42]
  go_simp
  by_cases h1 : a = a' <;> by_cases h2 : b = b' <;> by_cases h3 : c = c' <;> simp [h1, h2, h3]
end Go.Proofs.YtcnclhjhnjpeiaaDoor

namespace Go.Proofs.YtcnclhjhnjpeiaaDoor
open Go.SX Go.Proofs
set_option linter.unusedSimpArgs false
set_option linter.unusedVariables false
set_option maxHeartbeats 8000000
attribute [local irreducible] IntKind.wrap
--@ct laws.big val big_ct _ _ _ | trivial
theorem big_ct (b : Option Addr) (m c : Nat) : Ct Tryd.prog 15 [.slice b m c] [] (fun _ => True) (fun v A => v = .bool (decide ((1048576 : Int) < m)) ∧ A = []) := by
  refine Ct.intro0 G_ok Tryd.func15 rfl rfl rfl fun E H hp => ?_
  exact ⟨[], ⟨rfl, rfl⟩, .refl _⟩
theorem sg_no1 {a b : Graph} (h : ¬ a.size = b.size) : decide (a = b) = false := decide_eq_false fun e => h (by rw [e])
theorem sg_no2 {a b : Graph} (h : ¬ a.edges.length = b.edges.length) : decide (a = b) = false := decide_eq_false fun e => h (by rw [e])
theorem sg_no3 {a b : Graph} {k : Nat} (h : ¬ (a.edges[k]?.getD default) = (b.edges[k]?.getD default)) : decide (a = b) = false := decide_eq_false fun e => h (by rw [e])
theorem sg_more {a b : List Edge} {k : Nat} (ha : k < a.length) (hb : k < b.length) (h : a.take k = b.take k) (h2 : (a[k]?.getD default) = (b[k]?.getD default)) : a.take (k + 1) = b.take (k + 1) := by
  rw [← List.take_append_getElem ha, ← List.take_append_getElem hb, h]
  rw [List.getElem?_eq_getElem ha, List.getElem?_eq_getElem hb] at h2
  rw [show a[k] = b[k] from h2]
theorem sg_yes {a b : Graph} {k : Nat} (h0 : a.size = b.size) (h : a.edges.take k = b.edges.take k) (ha : a.edges.length ≤ k) (hb : b.edges.length ≤ k) : decide (a = b) = true := by
  rw [List.take_of_length_le ha, List.take_of_length_le hb] at h
  obtain ⟨s, es⟩ := a
  obtain ⟨s2, es2⟩ := b
  exact decide_eq_true (by rw [show s = s2 from h0, show es = es2 from h])
section
variable {P : Program} {E : World} {n : Nat}
theorem raw_neqE {dst : Option Nat} {x y : Operand} {ty yt : TypeId} {pos : String} {after : Array Go.Edge} {guard : Option (Nat × Bool)} {fr : Fr} {bl : List Blk} {R : List Hp} {K : St → Prop} {a b c a' b' c' : Int}
    (hx1 : getK fr x fun sv => sv = .v (.agg ⟨[.int .i64 a, .int .u8 b, .int .i64 c]⟩)) (hx2 : getK fr y fun sv => sv = .v (.agg ⟨[.int .i64 a', .int .u8 b', .int .i64 c']⟩))
    (hk : putK n fr dst (.v (.bool (!(a == a' && (b == b' && c == c'))))) fun fr => K ⟨fr, bl, R⟩) : VCraw Tryd.prog E n ⟨dst, .binOp .neq 42 x y yt, ty, pos, after, guard⟩ ⟨fr, bl, R⟩ K := by
  refine ⟨fun a w hr Q => ?_⟩
  obtain ⟨sv, g1, _, rfl⟩ := getK_sound hr hx1
  obtain ⟨sv, g2, _, rfl⟩ := getK_sound hr hx2
  refine wp_value (s := .v _) (v := .bool _) ?_ hr rfl trivial hk
  simp only [execOp, Sem.run_bind, Sem.run_pure, Result.andThen_ok]
  rw [g1, g2]
  simp only [SV.den]
  rw [run_eqGuard_agg _ _ _ _ _ _ _ (show Tryd.prog.eqGuardType Tryd.prog.depth 42 = false by kernel_rfl), Result.andThen_ok, run_neq_struct, eqE_run]
  rfl
end
theorem edge_ne {e f : Edge} (h : ¬ e.from' = f.from' ∨ ¬ e.label = f.label ∨ ¬ e.to = f.to) : ¬ e = f := fun x => by subst x; simp at h
theorem edge_eq {e f : Edge} (h : e.from' = f.from' ∧ e.label = f.label ∧ e.to = f.to) : e = f := by
  obtain ⟨a, b, c⟩ := e
  obtain ⟨a', b', c'⟩ := f
  obtain ⟨h1, h2, h3⟩ := h
  dsimp only at h1 h2 h3
  rw [h1, h2, h3]
--@ct laws.sameGraph val sameGraph_ct _ _ $1 $2 | ⟨%1, %2⟩
theorem sameGraph_ct (l l2 : List Value) (a b : Graph) : Ct Tryd.prog 19 [.agg ⟨l⟩, .agg ⟨l2⟩] [] (fun H => gGraph.rd H l a ∧ gGraph.rd H l2 b) (fun v A => v = .bool (decide (a = b)) ∧ A = []) := by
  refine Ct.intro0 G_ok Tryd.func19 rfl rfl rfl fun E H hp => ?_
  obtain ⟨hp, hq⟩ := hp
  obtain ⟨b1p, c1p, rfl, w0p, h1p⟩ := gGraph_rd.1 hp
  obtain ⟨b1q, c1q, rfl, w0q, h1q⟩ := gGraph_rd.1 hq
  have hlp := (sl_len h1p).2.2
  have hlq := (sl_len h1q).2.2
  refine VCnew.intro fun x0 => ?_
  refine VCnew.intro fun x1 => ?_
  refine VCsplit.intro (fun q2 => ?_) (fun q2 => ?_)
  ·
    simp at q2
    exact ⟨[], ⟨by rw [sg_no1 (by assumption)], rfl⟩, (.le fun a => by (try simp only [setR, List.cons_append, List.nil_append]); simp [List.count_cons, Blk.ent, idOf]; try omega)⟩
  ·
    simp at q2
    refine VCsplit.intro (fun q3 => ?_) (fun q3 => ?_)
    ·
      simp at q3
      exact ⟨[], ⟨by rw [sg_no2 (by omega)], rfl⟩, (.le fun a => by (try simp only [setR, List.cons_append, List.nil_append]); simp [List.count_cons, Blk.ent, idOf]; try omega)⟩
    ·
      simp at q3
      apply loop_mod (α := (Nat)) G_ok [20, 21, 22, 23, 24, 27, 28, 29, 30, 31, 32, 33, 34, 35, 36, 37, 4, 25, 26, 5] (fun z => [(5, .v (.int .i64 z))]) (fun z => [{ id := x0, cs := [Value.int IntKind.i64 a.size, Value.slice b1p a.edges.length c1p], ty := (29 : Nat) }, { id := x1, cs := [Value.int IntKind.i64 b.size, Value.slice b1q b.edges.length c1q], ty := (29 : Nat) }]) (fun z => [H]) (fun z => a.edges.length - z) (fun z => z ≤ a.edges.length ∧ a.edges.take z = b.edges.take z) ((0))
      · repeat' (first | exact trivial | refine ⟨⟨_, rfl, by first | rfl | exact inc_eq _ (by omega) | (refine sl_eq ?_; simp; done), by first | exact trivial | simp [SV.ok]⟩, ?_⟩)
      · exact ⟨rfl, rfl, trivial⟩
      · exact ⟨Nat.zero_le _, rfl⟩
      · exact .refl _
      rintro k hI
      obtain ⟨hk, he⟩ : k ≤ a.edges.length ∧ a.edges.take k = b.edges.take k := hI
      try dsimp only
      refine VCsplit.intro (fun q4 => ?_) (fun q4 => ?_)
      ·
        simp at q4
        refine draw G_ok mixed (some 10) (.q 0 (.q 1 (.q 2 (.q 3 (.q 4 (.q 5 (.q 6 (.q 7 (.q 8 (.q 9 (.tl 10 (.nil)))))))))))) (by decide +kernel) ?_
        refine idx_rd h1p ?_ ?_ fun b5 o5 hb5 => ?_
        · omega
        · omega
        refine load_allN default (k) rfl h1p ?_ ?_ hb5 rfl (mem_at 0 rfl) fun l6 hl6 => ?_
        · omega
        · omega
        obtain ⟨rfl, w0x6, w2x6⟩ := gEdge_rd.1 hl6
        refine idx_rd h1q ?_ ?_ fun b7 o7 hb7 => ?_
        · omega
        · omega
        refine load_allN default (k) rfl h1q ?_ ?_ hb7 rfl (mem_at 0 rfl) fun l8 hl8 => ?_
        · omega
        · omega
        obtain ⟨rfl, w0x8, w2x8⟩ := gEdge_rd.1 hl8
        refine raw_neqE (by rfl) (by rfl) ?_
        refine VCsplit.intro (fun q9 => ?_) (fun q9 => ?_)
        ·
          simp at q9
          simp only [str_inj, u8_inj, u8_wrap] at q9
          exact ⟨[], ⟨by rw [sg_no3 (k := k) (edge_ne (by assumption))], rfl⟩, (.le fun a => by (try simp only [setR, List.cons_append, List.nil_append]); simp [List.count_cons, Blk.ent, idOf]; try omega)⟩
        ·
          simp at q9
          simp only [str_inj, u8_inj, u8_wrap] at q9
          apply loop_stepA (k + 1)
          · exact .refl _
          · repeat' (first | exact trivial | refine ⟨⟨_, rfl, by first | rfl | exact inc_eq _ (by omega) | (refine sl_eq ?_; simp; done), by first | exact trivial | simp [SV.ok]⟩, ?_⟩)
          · exact ⟨rfl, rfl, trivial⟩
          · exact ⟨by omega, sg_more (by omega) (by omega) he (edge_eq (by assumption))⟩
          omega
      ·
        simp at q4
        exact ⟨[], ⟨by rw [sg_yes (k := k) (by assumption) he (by omega) (by omega)], rfl⟩, (.le fun a => by (try simp only [setR, List.cons_append, List.nil_append]); simp [List.count_cons, Blk.ent, idOf]; try omega)⟩
end Go.Proofs.YtcnclhjhnjpeiaaDoor

namespace Go.Proofs.YtcnclhjhnjpeiaaDoor
open Go.SX Go.Proofs
set_option linter.unusedSimpArgs false
set_option linter.unusedVariables false
set_option maxHeartbeats 8000000
attribute [local irreducible] IntKind.wrap loadG showT
theorem back_next {g : Graph} {i : Int} {t : ByteArray} (h0 : 0 ≤ i) (h1 : i < g.edges.length) (ht : t = tx (backG g (i + 1).toNat)) : t ++ tx (edgeS2 (g.edges[i.toNat]?.getD default)) ++ tx (edgeS2 (g.edges[i.toNat]?.getD default)) = tx (backG g (i - 1 + 1).toNat) := by
  rw [show (i - 1 + 1).toNat = i.toNat by omega, back_step (k := i.toNat) (by omega), ht, show (i + 1).toNat = i.toNat + 1 by omega, tx_app, tx_app, ByteArray.append_assoc]
theorem back_rng {g : Graph} (h : graphOk g = true) {i : Int} (h0 : 0 ≤ i) (h1 : i < g.edges.length) : (0 ≤ (g.edges[i.toNat]?.getD default).from' ∧ (g.edges[i.toNat]?.getD default).from' ≤ 11) ∧ 0 ≤ (g.edges[i.toNat]?.getD default).to ∧ (g.edges[i.toNat]?.getD default).to ≤ 11 := by
  have h2 := sedge_rng (sgOk_edge h i.toNat (by omega))
  have h3 := sgOk_rng h
  omega
theorem fnLoads_ct (v : Value) :
    Ct Tryd.prog 5 [v] [] (fun H => (∃ xs, rdV false (rpSl flByte.rp) H v xs) ∧ TabIn H) (fun v A => v = .bool true ∧ A = []) := by
  refine Ct.intro0 G_ok Tryd.func5 rfl rfl rfl fun E H hp => ?_
  obtain ⟨⟨xs, hp⟩, hT⟩ := hp
  obtain ⟨b, c, e, hl1, hl2⟩ := id hp
  cases e
  have hp : (rpSl flByte.rp).rd H [.slice b xs.length c] xs := hp
  have him : IntKind.i64.max = 9223372036854775807 := rfl
  refine call_val (big_ct _ _ _) trivial ?_
  rintro _ rfl
  refine VCsplit.intro (fun q1 => ?_) (fun q1 => ?_)
  ·
    simp at q1
    exact ⟨[], ⟨rfl, rfl⟩, (.le fun a => by (try simp only [setR, List.cons_append, List.nil_append]); simp only [List.flatten_append, List.flatten_cons, List.flatten_nil, List.count_append, List.count_nil, List.append_nil, List.nil_append]; omega)⟩
  ·
    simp at q1
    refine call_new (DrawGraph_ct _ _ _ _) (Rp.mono _ (mem_at 0 rfl) hp) ?_
    rintro v2 A2 o2
    obtain ⟨g2, gb2, gc2, rfl, hg2, ot2⟩ := o2
    have wg2 := graph_ow (graphOk_okI hg2) ot2
    have hss2 := show_sz hg2
    have hgr2 := sgOk_rng hg2
    have hld2 := dcT_len (n := g2.size) (by omega)
    refine VCnew.intro fun x3 => ?_
    refine call_val (implShowGraph_ct _ (g2)) (Rp.mono _ (mem_at 0 rfl) (Gt.owrd _ wg2)) ?_
    rintro _ rfl
    refine call_new (implLoadGraph_ct _ ?_) (by (try exact TabIn.mono hT (mem_at 0 rfl)); (try exact TabIn.mono hT (mem_at 1 rfl)); (try exact TabIn.mono hT (mem_at 2 rfl)); (try exact TabIn.mono hT (mem_at 3 rfl)); (try exact TabIn.mono hT (mem_at 4 rfl)); (try exact TabIn.mono hT (mem_at 5 rfl))) ?_
    · omega
    rintro v5 A5 o5
    obtain ⟨b5, c5, rfl, o5⟩ := o5
    have p5 := load_ow o5
    have r5 := Gt.owrd _ p5
    refine VCnew.intro fun x6 => ?_
    refine VC.intro ?_ ?_
    · (simp only [ByteArray.size_append, tx, bsz, List.length_map, List.length_cons, List.length_nil]; omega)
    refine VC.intro ?_ ?_
    · (simp only [ByteArray.size_append, tx, bsz, List.length_map, List.length_cons, List.length_nil]; omega)
    refine call_new (implLoadGraph_ct _ ?_) (by (try exact TabIn.mono hT (mem_at 0 rfl)); (try exact TabIn.mono hT (mem_at 1 rfl)); (try exact TabIn.mono hT (mem_at 2 rfl)); (try exact TabIn.mono hT (mem_at 3 rfl)); (try exact TabIn.mono hT (mem_at 4 rfl)); (try exact TabIn.mono hT (mem_at 5 rfl))) ?_
    · (simp only [ByteArray.size_append, tx, bsz, List.length_map, List.length_cons, List.length_nil]; omega)
    rintro v7 A7 o7
    obtain ⟨b7, c7, rfl, o7⟩ := o7
    have p7 := load_ow o7
    have r7 := Gt.owrd _ p7
    refine VCnew.intro fun x8 => ?_
    refine call_val (specDecimal_ct _ ?_) trivial ?_
    · omega
    rintro _ rfl
    refine VC.intro ?_ ?_
    · (simp only [ByteArray.size_append, tx, bsz, List.length_map, List.length_cons, List.length_nil]; omega)
    refine VC.intro ?_ ?_
    · (simp only [ByteArray.size_append, tx, bsz, List.length_map, List.length_cons, List.length_nil]; omega)
    apply loop_mod (α := (Int) × (ByteArray)) G_ok [47, 48, 51, 52, 53, 54, 55, 11, 56, 57, 58, 59, 60, 61, 62, 63, 64, 65, 66, 67, 68, 69, 70, 71, 12, 72, 73, 74, 75, 76, 9, 49, 50, 10] (fun z => [(10, .v (.int .i64 z.1)), (9, .v (.string z.2))]) (fun z => [{ id := x3, cs := [Value.int IntKind.i64 g2.size, Value.slice gb2 g2.edges.length gc2], ty := (29 : Nat) }, { id := x6, cs := [Value.int IntKind.i64 (loadG (showT g2)).fst.size, Value.slice b5 (loadG (showT g2)).fst.edges.length c5], ty := (29 : Nat) }, { id := x8, cs := [Value.int IntKind.i64 (loadG ({ data := #[(35 : UInt8), (32 : UInt8), (115 : UInt8), (97 : UInt8), (105 : UInt8), (100 : UInt8), (10 : UInt8), (32 : UInt8), (32 : UInt8), (10 : UInt8)] } ++ showT g2 ++ { data := #[(32 : UInt8), (32 : UInt8), (35 : UInt8), (32 : UInt8), (109 : UInt8), (111 : UInt8), (114 : UInt8), (101 : UInt8), (10 : UInt8)] })).fst.size, Value.slice b7 (loadG ({ data := #[(35 : UInt8), (32 : UInt8), (115 : UInt8), (97 : UInt8), (105 : UInt8), (100 : UInt8), (10 : UInt8), (32 : UInt8), (32 : UInt8), (10 : UInt8)] } ++ showT g2 ++ { data := #[(32 : UInt8), (32 : UInt8), (35 : UInt8), (32 : UInt8), (109 : UInt8), (111 : UInt8), (114 : UInt8), (101 : UInt8), (10 : UInt8)] })).fst.edges.length c7], ty := (29 : Nat) }]) (fun z => [A7, A5, A2, H]) (fun z => (z.1 + 1).toNat) (fun z => (-1 ≤ z.1 ∧ z.1 < g2.edges.length) ∧ z.2 = tx (backG g2 (z.1 + 1).toNat) ∧ z.2.size ≤ 9 + 28 * (g2.edges.length - (z.1 + 1).toNat)) (((g2.edges.length : Int) - 1, _))
    · repeat' (first | exact trivial | refine ⟨⟨_, rfl, by first | rfl | exact inc_eq _ (by omega) | (refine sl_eq ?_; simp; done) | exact congrArg (fun v => SV.v (Value.int .i64 v)) (wrap_of (by omega) (by omega)) | exact congrArg (fun v => Value.int .i64 v) (wrap_of (by omega) (by omega)), by first | exact trivial | simp [SV.ok]⟩, ?_⟩)
    · exact ⟨rfl, rfl, rfl, trivial⟩
    · try dsimp only
      exact ⟨⟨by omega, by omega⟩, by rw [head_tx, show ((g2.edges.length : Int) - 1 + 1).toNat = g2.edges.length by omega, back_end], by rw [head_tx]; have := headS_len (g := g2) (by omega); show (headS g2).length ≤ _; omega⟩
    · exact .refl _
    rintro ⟨i, t⟩ hI
    obtain ⟨⟨hi0, hi1⟩, ht, htl⟩ : (-1 ≤ i ∧ i < g2.edges.length) ∧ t = tx (backG g2 (i + 1).toNat) ∧ t.size ≤ 9 + 28 * (g2.edges.length - (i + 1).toNat) := hI
    try dsimp only
    refine VCsplit.intro (fun q10 => ?_) (fun q10 => ?_)
    ·
      simp at q10
      have hbr := back_rng hg2 (i := i) (by omega) hi1
      have h5 := dcT_len (n := (g2.edges[i.toNat]?.getD default).from') (by omega)
      have h6 := dcT_len (n := (g2.edges[i.toNat]?.getD default).to) (by omega)
      have hel := edgeS2_len (e := g2.edges[i.toNat]?.getD default) (n := 12) (by omega) (by omega) (by omega)
      refine idx_rd (Gt.owrd _ ot2) ?_ ?_ fun b11 o11 hb11 => ?_
      · trivial
      · trivial
      refine load_all default (Gt.owrd _ ot2) ?_ ?_ hb11 rfl (mem_at 2 rfl) fun l12 hl12 => ?_
      · trivial
      · trivial
      obtain ⟨rfl, w0x12, w2x12⟩ := gEdge_rd.1 hl12
      refine VCnew.intro fun x13 => ?_
      refine draw G_ok mixed none (.q 0 (.q 1 (.q 5 (.q 6 (.q 11 (.q 12 (.hd (.alt 2 (.q 3 (.q 4 (.hd (.alt 7 (.hd (.alt 8 (.q 9 (.q 10 (.f 13 (.q 14 (.q 15 (.q 16 (.nil))))))) (.alt 13 (.f 8 (.q 9 (.q 10 (.q 14 (.q 15 (.q 16 (.nil))))))) (.nil)))) (.alt 13 (.f 7 (.f 8 (.q 9 (.q 10 (.q 14 (.q 15 (.q 16 (.nil)))))))) (.nil)))))) (.alt 7 (.hd (.alt 2 (.q 3 (.q 4 (.hd (.alt 8 (.q 9 (.q 10 (.f 13 (.q 14 (.q 15 (.q 16 (.nil))))))) (.alt 13 (.f 8 (.q 9 (.q 10 (.q 14 (.q 15 (.q 16 (.nil))))))) (.nil)))))) (.alt 8 (.f 2 (.q 3 (.q 4 (.q 9 (.q 10 (.f 13 (.q 14 (.q 15 (.q 16 (.nil)))))))))) (.nil)))) (.nil)))))))))) (by decide +kernel) ?_
      refine VC.intro ?_ ?_
      ·
        refine call_val (specDecimal_ct _ ?_) trivial ?_
        · omega
        rintro _ rfl
        refine VC.intro ?_ ?_
        · exact fun _ h => h
        refine VC.intro ?_ ?_
        · (simp only [ByteArray.size_append, tx, bsz, List.length_map, List.length_cons, List.length_nil]; omega)
        refine VC.intro ?_ ?_
        · (simp only [ByteArray.size_append, tx, bsz, List.length_map, List.length_cons, List.length_nil]; omega)
        refine VC.intro ?_ ?_
        ·
          refine VCnew.intro fun x15 => ?_
          refine VC.intro ?_ ?_
          · exact keep_new
          refine VC.intro ?_ ?_
          ·
            refine conv_bs G_ok (([(↑(g2.edges[i.toNat]?.getD default).label.toNat : Int)] : List Int).map fun v => UInt8.ofNat v.toNat) rfl (lit_bs [(↑(g2.edges[i.toNat]?.getD default).label.toNat : Int)] (mem_at 0 rfl _ (List.mem_singleton.2 rfl)) rfl ?_ (by simp)) rfl rfl rfl ?_
            · exact inU8_1 _
            refine VC.intro ?_ ?_
            · exact keep_new
            refine VC.intro ?_ ?_
            · (simp only [ByteArray.size_append, tx, bsz, List.length_map, List.length_cons, List.length_nil]; omega)
            refine VC.intro ?_ ?_
            · (simp only [ByteArray.size_append, tx, bsz, List.length_map, List.length_cons, List.length_nil]; omega)
            refine call_val (specDecimal_ct _ ?_) trivial ?_
            · omega
            rintro _ rfl
            refine VC.intro ?_ ?_
            · exact keep_new
            refine VC.intro ?_ ?_
            · (simp only [ByteArray.size_append, tx, bsz, List.length_map, List.length_cons, List.length_nil]; omega)
            refine VC.intro ?_ ?_
            · (simp only [ByteArray.size_append, tx, bsz, List.length_map, List.length_cons, List.length_nil]; omega)
            refine VC.intro ?_ ?_
            · (simp only [ByteArray.size_append, tx, bsz, List.length_map, List.length_cons, List.length_nil]; omega)
            refine VC.intro ?_ ?_
            · (simp only [ByteArray.size_append, tx, bsz, List.length_map, List.length_cons, List.length_nil]; omega)
            apply loop_stepA (i - 1, _)
            · exact .sub (by repeat (first | exact .slnil | apply List.Sublist.cons_cons | apply List.Sublist.cons))
            · repeat' (first | exact trivial | refine ⟨⟨_, rfl, by first | rfl | exact inc_eq _ (by omega) | (refine sl_eq ?_; simp; done) | exact congrArg (fun v => SV.v (Value.int .i64 v)) (wrap_of (by omega) (by omega)) | exact congrArg (fun v => Value.int .i64 v) (wrap_of (by omega) (by omega)), by first | exact trivial | simp [SV.ok]⟩, ?_⟩)
            · exact ⟨rfl, rfl, rfl, trivial⟩
            · try dsimp only
              exact ⟨⟨by omega, by omega⟩, by rw [edge2_tx, edge2_tx]; exact back_next (by omega) hi1 ht, by rw [edge2_tx, edge2_tx, ByteArray.size_append, ByteArray.size_append, show (tx (edgeS2 (g2.edges[i.toNat]?.getD default))).size = (edgeS2 (g2.edges[i.toNat]?.getD default)).length from rfl]; omega⟩
            try dsimp only
            omega
          ·
            refine VC.intro ?_ ?_
            ·
              refine call_val (specDecimal_ct _ ?_) trivial ?_
              · omega
              rintro _ rfl
              refine VC.intro ?_ ?_
              · exact keep_new
              refine conv_bs G_ok (([(↑(g2.edges[i.toNat]?.getD default).label.toNat : Int)] : List Int).map fun v => UInt8.ofNat v.toNat) rfl (lit_bs [(↑(g2.edges[i.toNat]?.getD default).label.toNat : Int)] (mem_at 0 rfl _ (List.mem_singleton.2 rfl)) rfl ?_ (by simp)) rfl rfl rfl ?_
              · exact inU8_1 _
              refine VC.intro ?_ ?_
              · exact keep_new
              refine VC.intro ?_ ?_
              · (simp only [ByteArray.size_append, tx, bsz, List.length_map, List.length_cons, List.length_nil]; omega)
              refine VC.intro ?_ ?_
              · (simp only [ByteArray.size_append, tx, bsz, List.length_map, List.length_cons, List.length_nil]; omega)
              refine VC.intro ?_ ?_
              · (simp only [ByteArray.size_append, tx, bsz, List.length_map, List.length_cons, List.length_nil]; omega)
              refine VC.intro ?_ ?_
              · (simp only [ByteArray.size_append, tx, bsz, List.length_map, List.length_cons, List.length_nil]; omega)
              refine VC.intro ?_ ?_
              · (simp only [ByteArray.size_append, tx, bsz, List.length_map, List.length_cons, List.length_nil]; omega)
              refine VC.intro ?_ ?_
              · (simp only [ByteArray.size_append, tx, bsz, List.length_map, List.length_cons, List.length_nil]; omega)
              apply loop_stepA (i - 1, _)
              · exact .sub (by repeat (first | exact .slnil | apply List.Sublist.cons_cons | apply List.Sublist.cons))
              · repeat' (first | exact trivial | refine ⟨⟨_, rfl, by first | rfl | exact inc_eq _ (by omega) | (refine sl_eq ?_; simp; done) | exact congrArg (fun v => SV.v (Value.int .i64 v)) (wrap_of (by omega) (by omega)) | exact congrArg (fun v => Value.int .i64 v) (wrap_of (by omega) (by omega)), by first | exact trivial | simp [SV.ok]⟩, ?_⟩)
              · exact ⟨rfl, rfl, rfl, trivial⟩
              · try dsimp only
                exact ⟨⟨by omega, by omega⟩, by rw [edge2_tx, edge2_tx]; exact back_next (by omega) hi1 ht, by rw [edge2_tx, edge2_tx, ByteArray.size_append, ByteArray.size_append, show (tx (edgeS2 (g2.edges[i.toNat]?.getD default))).size = (edgeS2 (g2.edges[i.toNat]?.getD default)).length from rfl]; omega⟩
              try dsimp only
              omega
            ·
              exact trivial
        ·
          refine VC.intro ?_ ?_
          ·
            refine call_val (specDecimal_ct _ ?_) trivial ?_
            · omega
            rintro _ rfl
            refine VC.intro ?_ ?_
            · exact fun _ h => h
            refine VCnew.intro fun x19 => ?_
            refine VC.intro ?_ ?_
            · exact keep_new
            refine conv_bs G_ok (([(↑(g2.edges[i.toNat]?.getD default).label.toNat : Int)] : List Int).map fun v => UInt8.ofNat v.toNat) rfl (lit_bs [(↑(g2.edges[i.toNat]?.getD default).label.toNat : Int)] (mem_at 0 rfl _ (List.mem_singleton.2 rfl)) rfl ?_ (by simp)) rfl rfl rfl ?_
            · exact inU8_1 _
            refine VC.intro ?_ ?_
            · exact keep_new
            refine VC.intro ?_ ?_
            · (simp only [ByteArray.size_append, tx, bsz, List.length_map, List.length_cons, List.length_nil]; omega)
            refine VC.intro ?_ ?_
            · (simp only [ByteArray.size_append, tx, bsz, List.length_map, List.length_cons, List.length_nil]; omega)
            refine VC.intro ?_ ?_
            · (simp only [ByteArray.size_append, tx, bsz, List.length_map, List.length_cons, List.length_nil]; omega)
            refine VC.intro ?_ ?_
            · (simp only [ByteArray.size_append, tx, bsz, List.length_map, List.length_cons, List.length_nil]; omega)
            refine VC.intro ?_ ?_
            · (simp only [ByteArray.size_append, tx, bsz, List.length_map, List.length_cons, List.length_nil]; omega)
            refine VC.intro ?_ ?_
            · (simp only [ByteArray.size_append, tx, bsz, List.length_map, List.length_cons, List.length_nil]; omega)
            apply loop_stepA (i - 1, _)
            · exact .sub (by repeat (first | exact .slnil | apply List.Sublist.cons_cons | apply List.Sublist.cons))
            · repeat' (first | exact trivial | refine ⟨⟨_, rfl, by first | rfl | exact inc_eq _ (by omega) | (refine sl_eq ?_; simp; done) | exact congrArg (fun v => SV.v (Value.int .i64 v)) (wrap_of (by omega) (by omega)) | exact congrArg (fun v => Value.int .i64 v) (wrap_of (by omega) (by omega)), by first | exact trivial | simp [SV.ok]⟩, ?_⟩)
            · exact ⟨rfl, rfl, rfl, trivial⟩
            · try dsimp only
              exact ⟨⟨by omega, by omega⟩, by rw [edge2_tx, edge2_tx]; exact back_next (by omega) hi1 ht, by rw [edge2_tx, edge2_tx, ByteArray.size_append, ByteArray.size_append, show (tx (edgeS2 (g2.edges[i.toNat]?.getD default))).size = (edgeS2 (g2.edges[i.toNat]?.getD default)).length from rfl]; omega⟩
            try dsimp only
            omega
          ·
            exact trivial
      ·
        refine VC.intro ?_ ?_
        ·
          refine VCnew.intro fun x20 => ?_
          refine VC.intro ?_ ?_
          · exact keep_new
          refine VC.intro ?_ ?_
          ·
            refine call_val (specDecimal_ct _ ?_) trivial ?_
            · omega
            rintro _ rfl
            refine VC.intro ?_ ?_
            · exact keep_new
            refine VC.intro ?_ ?_
            · (simp only [ByteArray.size_append, tx, bsz, List.length_map, List.length_cons, List.length_nil]; omega)
            refine VC.intro ?_ ?_
            · (simp only [ByteArray.size_append, tx, bsz, List.length_map, List.length_cons, List.length_nil]; omega)
            refine VC.intro ?_ ?_
            ·
              refine conv_bs G_ok (([(↑(g2.edges[i.toNat]?.getD default).label.toNat : Int)] : List Int).map fun v => UInt8.ofNat v.toNat) rfl (lit_bs [(↑(g2.edges[i.toNat]?.getD default).label.toNat : Int)] (mem_at 0 rfl _ (List.mem_singleton.2 rfl)) rfl ?_ (by simp)) rfl rfl rfl ?_
              · exact inU8_1 _
              refine VC.intro ?_ ?_
              · exact keep_new
              refine VC.intro ?_ ?_
              · (simp only [ByteArray.size_append, tx, bsz, List.length_map, List.length_cons, List.length_nil]; omega)
              refine VC.intro ?_ ?_
              · (simp only [ByteArray.size_append, tx, bsz, List.length_map, List.length_cons, List.length_nil]; omega)
              refine call_val (specDecimal_ct _ ?_) trivial ?_
              · omega
              rintro _ rfl
              refine VC.intro ?_ ?_
              · exact keep_new
              refine VC.intro ?_ ?_
              · (simp only [ByteArray.size_append, tx, bsz, List.length_map, List.length_cons, List.length_nil]; omega)
              refine VC.intro ?_ ?_
              · (simp only [ByteArray.size_append, tx, bsz, List.length_map, List.length_cons, List.length_nil]; omega)
              refine VC.intro ?_ ?_
              · (simp only [ByteArray.size_append, tx, bsz, List.length_map, List.length_cons, List.length_nil]; omega)
              refine VC.intro ?_ ?_
              · (simp only [ByteArray.size_append, tx, bsz, List.length_map, List.length_cons, List.length_nil]; omega)
              apply loop_stepA (i - 1, _)
              · exact .sub (by repeat (first | exact .slnil | apply List.Sublist.cons_cons | apply List.Sublist.cons))
              · repeat' (first | exact trivial | refine ⟨⟨_, rfl, by first | rfl | exact inc_eq _ (by omega) | (refine sl_eq ?_; simp; done) | exact congrArg (fun v => SV.v (Value.int .i64 v)) (wrap_of (by omega) (by omega)) | exact congrArg (fun v => Value.int .i64 v) (wrap_of (by omega) (by omega)), by first | exact trivial | simp [SV.ok]⟩, ?_⟩)
              · exact ⟨rfl, rfl, rfl, trivial⟩
              · try dsimp only
                exact ⟨⟨by omega, by omega⟩, by rw [edge2_tx, edge2_tx]; exact back_next (by omega) hi1 ht, by rw [edge2_tx, edge2_tx, ByteArray.size_append, ByteArray.size_append, show (tx (edgeS2 (g2.edges[i.toNat]?.getD default))).size = (edgeS2 (g2.edges[i.toNat]?.getD default)).length from rfl]; omega⟩
              try dsimp only
              omega
            ·
              refine VC.intro ?_ ?_
              ·
                refine call_val (specDecimal_ct _ ?_) trivial ?_
                · omega
                rintro _ rfl
                refine VC.intro ?_ ?_
                · exact keep_new
                refine conv_bs G_ok (([(↑(g2.edges[i.toNat]?.getD default).label.toNat : Int)] : List Int).map fun v => UInt8.ofNat v.toNat) rfl (lit_bs [(↑(g2.edges[i.toNat]?.getD default).label.toNat : Int)] (mem_at 0 rfl _ (List.mem_singleton.2 rfl)) rfl ?_ (by simp)) rfl rfl rfl ?_
                · exact inU8_1 _
                refine VC.intro ?_ ?_
                · exact keep_new
                refine VC.intro ?_ ?_
                · (simp only [ByteArray.size_append, tx, bsz, List.length_map, List.length_cons, List.length_nil]; omega)
                refine VC.intro ?_ ?_
                · (simp only [ByteArray.size_append, tx, bsz, List.length_map, List.length_cons, List.length_nil]; omega)
                refine VC.intro ?_ ?_
                · (simp only [ByteArray.size_append, tx, bsz, List.length_map, List.length_cons, List.length_nil]; omega)
                refine VC.intro ?_ ?_
                · (simp only [ByteArray.size_append, tx, bsz, List.length_map, List.length_cons, List.length_nil]; omega)
                refine VC.intro ?_ ?_
                · (simp only [ByteArray.size_append, tx, bsz, List.length_map, List.length_cons, List.length_nil]; omega)
                refine VC.intro ?_ ?_
                · (simp only [ByteArray.size_append, tx, bsz, List.length_map, List.length_cons, List.length_nil]; omega)
                apply loop_stepA (i - 1, _)
                · exact .sub (by repeat (first | exact .slnil | apply List.Sublist.cons_cons | apply List.Sublist.cons))
                · repeat' (first | exact trivial | refine ⟨⟨_, rfl, by first | rfl | exact inc_eq _ (by omega) | (refine sl_eq ?_; simp; done) | exact congrArg (fun v => SV.v (Value.int .i64 v)) (wrap_of (by omega) (by omega)) | exact congrArg (fun v => Value.int .i64 v) (wrap_of (by omega) (by omega)), by first | exact trivial | simp [SV.ok]⟩, ?_⟩)
                · exact ⟨rfl, rfl, rfl, trivial⟩
                · try dsimp only
                  exact ⟨⟨by omega, by omega⟩, by rw [edge2_tx, edge2_tx]; exact back_next (by omega) hi1 ht, by rw [edge2_tx, edge2_tx, ByteArray.size_append, ByteArray.size_append, show (tx (edgeS2 (g2.edges[i.toNat]?.getD default))).size = (edgeS2 (g2.edges[i.toNat]?.getD default)).length from rfl]; omega⟩
                try dsimp only
                omega
              ·
                exact trivial
          ·
            refine VC.intro ?_ ?_
            ·
              refine conv_bs G_ok (([(↑(g2.edges[i.toNat]?.getD default).label.toNat : Int)] : List Int).map fun v => UInt8.ofNat v.toNat) rfl (lit_bs [(↑(g2.edges[i.toNat]?.getD default).label.toNat : Int)] (mem_at 0 rfl _ (List.mem_singleton.2 rfl)) rfl ?_ (by simp)) rfl rfl rfl ?_
              · exact inU8_1 _
              refine VC.intro ?_ ?_
              · exact keep_new
              refine call_val (specDecimal_ct _ ?_) trivial ?_
              · omega
              rintro _ rfl
              refine VC.intro ?_ ?_
              · exact keep_new
              refine VC.intro ?_ ?_
              · (simp only [ByteArray.size_append, tx, bsz, List.length_map, List.length_cons, List.length_nil]; omega)
              refine VC.intro ?_ ?_
              · (simp only [ByteArray.size_append, tx, bsz, List.length_map, List.length_cons, List.length_nil]; omega)
              refine VC.intro ?_ ?_
              · (simp only [ByteArray.size_append, tx, bsz, List.length_map, List.length_cons, List.length_nil]; omega)
              refine VC.intro ?_ ?_
              · (simp only [ByteArray.size_append, tx, bsz, List.length_map, List.length_cons, List.length_nil]; omega)
              refine call_val (specDecimal_ct _ ?_) trivial ?_
              · omega
              rintro _ rfl
              refine VC.intro ?_ ?_
              · exact keep_new
              refine VC.intro ?_ ?_
              · (simp only [ByteArray.size_append, tx, bsz, List.length_map, List.length_cons, List.length_nil]; omega)
              refine VC.intro ?_ ?_
              · (simp only [ByteArray.size_append, tx, bsz, List.length_map, List.length_cons, List.length_nil]; omega)
              refine VC.intro ?_ ?_
              · (simp only [ByteArray.size_append, tx, bsz, List.length_map, List.length_cons, List.length_nil]; omega)
              refine VC.intro ?_ ?_
              · (simp only [ByteArray.size_append, tx, bsz, List.length_map, List.length_cons, List.length_nil]; omega)
              apply loop_stepA (i - 1, _)
              · exact .sub (by repeat (first | exact .slnil | apply List.Sublist.cons_cons | apply List.Sublist.cons))
              · repeat' (first | exact trivial | refine ⟨⟨_, rfl, by first | rfl | exact inc_eq _ (by omega) | (refine sl_eq ?_; simp; done) | exact congrArg (fun v => SV.v (Value.int .i64 v)) (wrap_of (by omega) (by omega)) | exact congrArg (fun v => Value.int .i64 v) (wrap_of (by omega) (by omega)), by first | exact trivial | simp [SV.ok]⟩, ?_⟩)
              · exact ⟨rfl, rfl, rfl, trivial⟩
              · try dsimp only
                exact ⟨⟨by omega, by omega⟩, by rw [edge2_tx, edge2_tx]; exact back_next (by omega) hi1 ht, by rw [edge2_tx, edge2_tx, ByteArray.size_append, ByteArray.size_append, show (tx (edgeS2 (g2.edges[i.toNat]?.getD default))).size = (edgeS2 (g2.edges[i.toNat]?.getD default)).length from rfl]; omega⟩
              try dsimp only
              omega
            ·
              exact trivial
        ·
          exact trivial
    ·
      simp at q10
      have hm1 := load_show hg2
      have hm2 : loadG ((⟨#[35, 32, 115, 97, 105, 100, 10, 32, 32, 10]⟩ : ByteArray) ++ showT g2 ++ ⟨#[32, 32, 35, 32, 109, 111, 114, 101, 10]⟩) = (g2, 0) := load_more hg2
      have hm3 : loadG t = (g2, 0) := (by rw [ht, show i = -1 by omega]; exact load_back hg2)
      refine call_new (implLoadGraph_ct _ ?_) (by (try exact TabIn.mono hT (mem_at 0 rfl)); (try exact TabIn.mono hT (mem_at 1 rfl)); (try exact TabIn.mono hT (mem_at 2 rfl)); (try exact TabIn.mono hT (mem_at 3 rfl)); (try exact TabIn.mono hT (mem_at 4 rfl)); (try exact TabIn.mono hT (mem_at 5 rfl))) ?_
      · omega
      rintro v26 A26 o26
      obtain ⟨b26, c26, rfl, o26⟩ := o26
      have p26 := load_ow o26
      have r26 := Gt.owrd _ p26
      refine VCnew.intro fun x27 => ?_
      refine call_new (DrawLoadGraph_ct _ _ _ _) (Rp.mono _ (mem_at 4 rfl) hp) ?_
      rintro v28 A28 o28
      obtain ⟨u28, rfl, hu28, rfl⟩ := o28
      refine call_new (implLoadGraph_ct _ ?_) (by (try exact TabIn.mono hT (mem_at 0 rfl)); (try exact TabIn.mono hT (mem_at 1 rfl)); (try exact TabIn.mono hT (mem_at 2 rfl)); (try exact TabIn.mono hT (mem_at 3 rfl)); (try exact TabIn.mono hT (mem_at 4 rfl)); (try exact TabIn.mono hT (mem_at 5 rfl))) ?_
      · omega
      rintro v29 A29 o29
      obtain ⟨b29, c29, rfl, o29⟩ := o29
      have p29 := load_ow o29
      have r29 := Gt.owrd _ p29
      refine VCnew.intro fun x30 => ?_
      refine call_new (specLoadGraph_ct _ ?_) trivial ?_
      · omega
      rintro v31 A31 o31
      obtain ⟨b31, c31, rfl, o31⟩ := o31
      have p31 := load_ow o31
      have r31 := Gt.owrd _ p31
      refine VCnew.intro fun x32 => ?_
      refine VCsplit.intro (fun q33 => ?_) (fun q33 => ?_)
      ·
        simp at q33
        refine call_val (sameGraph_ct _ _ ((loadG (showT g2)).fst) (g2)) ⟨(Rp.mono _ (mem_at 5 rfl) r5), (Rp.mono _ (mem_at 6 rfl) (Gt.owrd _ wg2))⟩ ?_
        rintro _ rfl
        refine VCsplit.intro (fun q35 => ?_) (fun q35 => ?_)
        ·
          simp at q35
          refine VCsplit.intro (fun q36 => ?_) (fun q36 => ?_)
          ·
            simp at q36
            refine call_val (sameGraph_ct _ _ ((loadG ({ data := #[(35 : UInt8), (32 : UInt8), (115 : UInt8), (97 : UInt8), (105 : UInt8), (100 : UInt8), (10 : UInt8), (32 : UInt8), (32 : UInt8), (10 : UInt8)] } ++ showT g2 ++ { data := #[(32 : UInt8), (32 : UInt8), (35 : UInt8), (32 : UInt8), (109 : UInt8), (111 : UInt8), (114 : UInt8), (101 : UInt8), (10 : UInt8)] })).fst) (g2)) ⟨(Rp.mono _ (mem_at 4 rfl) r7), (Rp.mono _ (mem_at 6 rfl) (Gt.owrd _ wg2))⟩ ?_
            rintro _ rfl
            refine VCsplit.intro (fun q38 => ?_) (fun q38 => ?_)
            ·
              simp at q38
              refine VCsplit.intro (fun q39 => ?_) (fun q39 => ?_)
              ·
                simp at q39
                refine call_val (sameGraph_ct _ _ ((loadG t).fst) (g2)) ⟨(Rp.mono _ (mem_at 3 rfl) r26), (Rp.mono _ (mem_at 6 rfl) (Gt.owrd _ wg2))⟩ ?_
                rintro _ rfl
                refine VCsplit.intro (fun q41 => ?_) (fun q41 => ?_)
                ·
                  simp at q41
                  refine call_val (specShowGraph_ct _ (g2)) (Rp.mono _ (mem_at 6 rfl) (Gt.owrd _ wg2)) ?_
                  rintro _ rfl
                  refine VCsplit.intro (fun q43 => ?_) (fun q43 => ?_)
                  ·
                    simp at q43
                    refine VCsplit.intro (fun q44 => ?_) (fun q44 => ?_)
                    ·
                      simp at q44
                      refine call_val (sameGraph_ct _ _ ((loadG u28).fst) ((loadG u28).fst)) ⟨(Rp.mono _ (mem_at 1 rfl) r29), (Rp.mono _ (mem_at 0 rfl) r31)⟩ ?_
                      rintro _ rfl
                      exact ⟨[], ⟨congrArg Value.bool (decide_eq_true rfl), rfl⟩, (.le fun a => by (try simp only [setR, List.cons_append, List.nil_append]); simp only [List.flatten_append, List.flatten_cons, List.flatten_nil, List.count_append, List.count_nil, List.append_nil, List.nil_append]; omega)⟩
                    ·
                      simp at q44
                  ·
                    simp at q43
                ·
                  simp at q41
                  exact absurd (congrArg Prod.fst hm3) (by assumption)
              ·
                simp at q39
                exact absurd (congrArg Prod.snd hm3) (by assumption)
            ·
              simp at q38
              exact absurd (congrArg Prod.fst hm2) (by assumption)
          ·
            simp at q36
            exact absurd (congrArg Prod.snd hm2) (by assumption)
        ·
          simp at q35
          exact absurd (congrArg Prod.fst hm1) (by assumption)
      ·
        simp at q33
        exact absurd (congrArg Prod.snd hm1) (by assumption)
end Go.Proofs.YtcnclhjhnjpeiaaDoor
