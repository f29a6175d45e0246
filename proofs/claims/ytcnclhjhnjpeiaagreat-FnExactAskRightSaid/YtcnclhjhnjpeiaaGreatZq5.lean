/-
 Parts of the law, put together. Conditions: none.
-/
import Derived.Test.YtcnclhjhnjpeiaaGreatZq4
set_option maxHeartbeats 8000000
set_option linter.unusedSimpArgs false
set_option linter.unusedVariables false
namespace Go.Proofs.YtcnclhjhnjpeiaaGreat
open Go.SX Go.Proofs
open Tryz
section
attribute [local irreducible] IntKind.wrap zCY zAj
def zNh (x:Query):Prop:=(1≤x.atoms.length∧x.atoms.length≤4∧x.filters.length≤3∧1≤x.out.length∧x.out.length≤4∧(zAj x.atoms).length≤4) ∧
 (∀ k,k < x.atoms.length→zCY (x.atoms[k]?.getD default)=true)∧zD7 x.out=true∧zVu (zAj x.atoms) x.out=true∧∀ k,k < x.filters.length→zBC (zAj x.atoms) (x.filters[k]?.getD default)=true
open Classical in
noncomputable def zAS (x:Query):Bool:=decide (zNh x)
open Classical in
theorem zJQ {x:Query} (h:¬zNh x):zAS x=false:=by unfold zAS;exact decide_eq_false h
open Classical in
theorem z7p {x:Query} (h:zNh x):zAS x=true:=by unfold zAS;exact decide_eq_true h
theorem z3l {α:Type} (g:Gt α) (z:α):∀ (xs:List α) (k:Nat),k < xs.length→g.sz (xs[k]?.getD z)+1≤szL g xs
 | [],k,h=>absurd h sI
 | x::r,0,_=>by rw[show szL g (x::r)=1+g.sz x+szL g r from rfl];show g.sz x+1≤_;omega
 | x::r,k+1,h=>by
  have:=z3l g z r k (by simpa using h)
  rw[show szL g (x::r)=1+g.sz x+szL g r from rfl]
  show g.sz (r[k]?.getD z)+1≤_;omega
theorem zDC {x:Query} (h:zAL.sz x≤1048576) {k:Nat} (hk:k < x.atoms.length):(x.atoms[k]?.getD default).path.size≤1048576:=by
 have h1:=zEt x
 have h2:=z3l zA9 default x.atoms k hk
 have h3:=zOa (x.atoms[k]?.getD default)
 omega
theorem ff {b:Bool} (h1:b=true) (h2:b=false):False:=by rw[h1] at h2;cases h2
theorem zHn (l:List Value) (x:Query) (hx:zAL.sz x≤1048576):Ct prog 76 [.agg ⟨l⟩] [] (fun H=>zAL.rd H l x) (fun v A=>v = .bool (zAS x)∧A=[]):=by
 refine Ct.intro0 zAh func76 rfl rfl rfl fun E H hp=>?_
 obtain⟨b1p,c1p,b2p,c2p,b3p,c3p,rfl,h1p,h2p,h3p⟩:=zAy.1 hp
 have ez:=zEt x
 have en1:=zBL gS x.out
 have en2:=zBL zA9 x.atoms
 have en3:=zBL zAE x.filters
 refine⟨fun x0=>?_⟩
 constructor<;>intro q1
 ·simp at q1
  exact⟨[],⟨by rw[zJQ fun h=>by (have:=h.1;omega)],rfl⟩,.mem sI⟩
 simp at q1
 constructor<;>intro q2
 ·simp at q2
  exact⟨[],⟨by rw[zJQ fun h=>by (have:=h.1;omega)],rfl⟩,.mem sI⟩
 simp at q2
 constructor<;>intro q3
 ·simp at q3
  exact⟨[],⟨by rw[zJQ fun h=>by (have:=h.1;omega)],rfl⟩,.mem sI⟩
 simp at q3
 apply zAg (α:=(Nat)) zAh [28,29,30,4,31,32,33,2,34,27] (fun z=>[(27,.v (.int .i64 z))]) (fun z=>[{ id:=x0,cs:=[Value.bool x.each,Value.slice b1p x.out.length c1p,Value.slice b2p x.atoms.length c2p,Value.slice b3p x.filters.length c3p],ty:=(43:Nat) }]) (fun z=>[H]) (fun z=>x.atoms.length-z) (fun z=>z≤x.atoms.length∧zCd (fun i=>zCY (x.atoms[i]?.getD default)) z=true) ((0))
 ·exact frI
 ·exact⟨rfl,trivial⟩
 ·exact⟨Nat.zero_le _,rfl⟩
 ·exact .refl _
 rintro k hI
 try dsimp only at hI
 obtain⟨hk,ha⟩:=hI
 try dsimp only
 constructor<;>intro q4
 ·simp at q4
  refine zAf h2p ?_ ?_ fun b5 o5 hb5=>?_
  ·omega
  ·omega
  refine zAd default (k) rfl h2p ?_ ?_ hb5 rfl (zAa 0 rfl) fun l6 hl6=>?_
  ·omega
  ·omega
  obtain⟨rfl,w0x6,w1x6,w2x6⟩:=zAT.1 hl6
  refine⟨fun x7=>?_⟩
  refine zAe (zQk _ (x.atoms[k]?.getD default) ?_) (Rp.mono _ (zAa 0 rfl) hl6) ?_
  ·exact Nat.le_trans (zDC hx oO) (by decide)
  rintro _ rfl
  constructor<;>intro q9
  ·simp at q9
   exact⟨[],⟨by rw[zJQ fun h=>ff (h.2.1 k oO) aA],rfl⟩,.mem sI⟩
  simp at q9
  apply zAb (k+1)
  ·exact .refl _
  ·exact frI
  ·exact⟨rfl,trivial⟩
  ·exact⟨oO,zAG ha aA⟩
  omega
 simp at q4
 refine zAi (zCZ _ x ?_) (Rp.mono _ (zAa 0 rfl) hp) ?_
 ·omega
 rintro v10 A10 o10
 obtain⟨bN,cN,rfl,oN⟩:=o10
 have rN:=Gt.owrd _ oN
 constructor<;>intro q11
 ·simp at q11
  exact⟨[],⟨by rw[zJQ fun h=>by (have:=h.1;omega)],rfl⟩,.mem sI⟩
 simp at q11
 constructor<;>intro q12
 ·simp at q12
  exact⟨[],⟨by rw[zJQ fun h=>by (have:=h.1;omega)],rfl⟩,.mem sI⟩
 simp at q12
 constructor<;>intro q13
 ·simp at q13
  exact⟨[],⟨by rw[zJQ fun h=>by (have:=h.1;omega)],rfl⟩,.mem sI⟩
 simp at q13
 refine zAe (zE5 _ _ _ (x.out)) (Rp.mono _ (zAa 1 rfl) h1p) ?_
 rintro _ rfl
 constructor<;>intro q15
 ·simp at q15
  exact⟨[],⟨by rw[zJQ fun h=>ff h.2.2.1 aA],rfl⟩,.mem sI⟩
 simp at q15
 refine zAe (zHm _ _ _ _ _ _ (zAj x.atoms) (x.out)) ⟨(Rp.mono _ (zAa 0 rfl) rN),(Rp.mono _ (zAa 1 rfl) h1p)⟩ ?_
 rintro _ rfl
 constructor<;>intro q17
 ·simp at q17
  exact⟨[],⟨by rw[zJQ fun h=>ff h.2.2.2.1 aA],rfl⟩,.mem sI⟩
 simp at q17
 apply zAg (α:=(Nat)) zAh [67,68,69,7,70,71,72,73,2,74,66] (fun z=>[(66,.v (.int .i64 z))]) (fun z=>[{ id:=x0,cs:=[Value.bool x.each,Value.slice b1p x.out.length c1p,Value.slice b2p x.atoms.length c2p,Value.slice b3p x.filters.length c3p],ty:=(43:Nat) }]) (fun z=>[A10,H]) (fun z=>x.filters.length-z) (fun z=>z≤x.filters.length∧zCd (fun i=>zBC (zAj x.atoms) (x.filters[i]?.getD default)) z=true) ((0))
 ·exact frI
 ·exact⟨rfl,trivial⟩
 ·exact⟨Nat.zero_le _,rfl⟩
 ·exact .refl _
 rintro j hI
 try dsimp only at hI
 obtain⟨hj,hf⟩:=hI
 try dsimp only
 constructor<;>intro q18
 ·simp at q18
  refine zAf h3p ?_ ?_ fun b19 o19 hb19=>?_
  ·omega
  ·omega
  refine zAd default (j) rfl h3p ?_ ?_ hb19 rfl (zAa 1 rfl) fun l20 hl20=>?_
  ·omega
  ·omega
  obtain⟨rfl,w0x20,w1x20,w2x20,w3x20⟩:=zBj.1 hl20
  refine⟨fun x21=>?_⟩
  refine zAe (zR4 _ _ _ _ (x.filters[j]?.getD default) (zAj x.atoms)) ⟨(Rp.mono _ (zAa 1 rfl) hl20),(Rp.mono _ (zAa 0 rfl) rN)⟩ ?_
  rintro _ rfl
  constructor<;>intro q23
  ·simp at q23
   exact⟨[],⟨by rw[zJQ fun h=>ff (h.2.2.2.2 j oO) aA],rfl⟩,.mem sI⟩
  simp at q23
  apply zAb (j+1)
  ·exact .refl _
  ·exact frI
  ·exact⟨rfl,trivial⟩
  ·exact⟨oO,zAG hf aA⟩
  omega
 simp at q18
 (have hke:k=x.atoms.length:=oO;have hje:j=x.filters.length:=oO;rw[hke] at ha;rw[hje] at hf;exact⟨[],⟨by rw[z7p ⟨oO,fun i hi=>zBe ha i hi,aA,aA,fun i hi=>zBe hf i hi⟩],rfl⟩,.mem sI⟩)
theorem z7q {x:Query} (h1:1≤x.atoms.length∧x.atoms.length≤4∧x.filters.length≤3∧1≤x.out.length∧x.out.length≤4) (h2:zCd (fun i=>zCY (x.atoms[i]?.getD default)) x.atoms.length=true) (h3:zCd (fun i=>zBI (zAj x.atoms) (x.out[i]?.getD ByteArray.empty)) x.out.length=true) (h4:zCd (fun i=>!zBI (x.out.take i) (x.out[i]?.getD ByteArray.empty)) x.out.length=true) (h5:zCd (fun i=>zBC (zAj x.atoms) (x.filters[i]?.getD default)) x.filters.length=true):zAS x=decide (((zAj x.atoms).length:Int)≤4):=by
 by_cases h:(zAj x.atoms).length≤4
 ·rw[z7p ⟨oO,fun i hi=>zBe h2 i hi,h4,h3,fun i hi=>zBe h5 i hi⟩,decide_eq_true oO]
 rw[zJQ fun e=>h e.1.2.2.2.2.2,decide_eq_false oO]
theorem z8h {ns:List ByteArray} {f:Filter} (h:zBI ns f.left=false):zBC ns f=false:=by unfold zBC;rw[h];rfl
theorem z8i {ns:List ByteArray} {f:Filter} (h:inR 1 2 f.op=false):zBC ns f=false:=by unfold zBC;rw[h];simp
theorem z8j {ns:List ByteArray} {f:Filter} (h0:¬f.right.size=0) (h:zBI ns f.right=false):zBC ns f=false:=by unfold zBC;rw[if_neg h0,h];simp
theorem z8k {ns:List ByteArray} {f:Filter} (h0:¬f.right.size=0) (h:¬f.num=0):zBC ns f=false:=by unfold zBC;rw[if_neg h0,decide_eq_false h];simp
theorem z8l {ns:List ByteArray} {f:Filter} (h:inR 0 99 f.num=false):zBC ns f=false:=by
 unfold zBC
 have h1:¬f.num=0:=fun e=>by rw[e] at h;exact absurd h (by decide)
 rw[h,decide_eq_false h1];simp
theorem z7r {ns:List ByteArray} {f:Filter} (h1:zBI ns f.left=true) (h2:inR 1 2 f.op=true) (h0:f.right.size=0) (h:inR 0 99 f.num=true):zBC ns f=true:=by unfold zBC;rw[h1,h2,if_pos h0,h];rfl
theorem z7s {ns:List ByteArray} {f:Filter} (h1:zBI ns f.left=true) (h2:inR 1 2 f.op=true) (h0:¬f.right.size=0) (h:zBI ns f.right=true) (h3:f.num=0):zBC ns f=true:=by unfold zBC;rw[h1,h2,if_neg h0,h,decide_eq_true h3];rfl
theorem zHo (l:List Value) (x:Query) (hx:zAL.sz x≤1048576):Ct prog 58 [.agg ⟨l⟩] [] (fun H=>zAL.rd H l x) (fun v A=>v = .bool (zAS x)∧A=[]):=by
 refine Ct.intro0 zAh func58 rfl rfl rfl fun E H hp=>?_
 obtain⟨b1p,c1p,b2p,c2p,b3p,c3p,rfl,h1p,h2p,h3p⟩:=zAy.1 hp
 have ez:=zEt x
 have en1:=zBL gS x.out
 have en2:=zBL zA9 x.atoms
 have en3:=zBL zAE x.filters
 have hco:=(zAp h1p).2.1
 refine⟨fun x0=>?_⟩
 refine zAe (zA3 _ _ _) trivial ?_
 rintro _ rfl
 constructor<;>intro q2
 ·simp at q2
  have iq2:=mt zAq.2 (Bool.eq_false_iff.1 q2)
  exact⟨[],⟨by rw[zJQ fun h=>by (have:=h.1;omega)],rfl⟩,.mem sI⟩
 simp at q2
 have iq2:=zAq.1 q2
 constructor<;>intro q3
 ·simp at q3
  exact⟨[],⟨by rw[zJQ fun h=>by (have:=h.1;omega)],rfl⟩,.mem sI⟩
 simp at q3
 refine zAe (zA3 _ _ _) trivial ?_
 rintro _ rfl
 constructor<;>intro q5
 ·simp at q5
  have iq5:=mt zAq.2 (Bool.eq_false_iff.1 q5)
  exact⟨[],⟨by rw[zJQ fun h=>by (have:=h.1;omega)],rfl⟩,.mem sI⟩
 simp at q5
 have iq5:=zAq.1 q5
 apply zAg (α:=(Nat)) zAh [26,27,28,29,30,33,34,35,36,37,38,39,2,31,32,3] (fun z=>[(3,.v (.int .i64 z))]) (fun z=>[{ id:=x0,cs:=[Value.bool x.each,Value.slice b1p x.out.length c1p,Value.slice b2p x.atoms.length c2p,Value.slice b3p x.filters.length c3p],ty:=(43:Nat) }]) (fun z=>[H]) (fun z=>x.atoms.length-z) (fun z=>z≤x.atoms.length∧zCd (fun i=>zCY (x.atoms[i]?.getD default)) z=true) ((0))
 ·exact frI
 ·exact⟨rfl,trivial⟩
 ·exact⟨Nat.zero_le _,rfl⟩
 ·exact .refl _
 rintro k hI
 try dsimp only at hI
 obtain⟨hk,ha⟩:=hI
 try dsimp only
 constructor<;>intro q6
 ·simp at q6
  refine zAf h2p ?_ ?_ fun b7 o7 hb7=>?_
  ·omega
  ·omega
  refine zAd default (k) rfl h2p ?_ ?_ hb7 rfl (zAa 0 rfl) fun l8 hl8=>?_
  ·omega
  ·omega
  obtain⟨rfl,w0x8,w1x8,w2x8⟩:=zAT.1 hl8
  refine zAe (zNg _ (x.atoms[k]?.getD default) ?_) (Rp.mono _ (zAa 0 rfl) hl8) ?_
  ·exact Nat.le_trans (zDC hx oO) (by decide)
  rintro _ rfl
  constructor<;>intro q10
  ·simp at q10
   exact⟨[],⟨by rw[zJQ fun h=>ff (h.2.1 k oO) aA],rfl⟩,.mem sI⟩
  simp at q10
  apply zAb (k+1)
  ·exact .refl _
  ·exact frI
  ·exact⟨rfl,trivial⟩
  ·exact⟨oO,zAG ha aA⟩
  omega
 simp at q6
 refine zAi (zCu _ x ?_) (Rp.mono _ (zAa 0 rfl) hp) ?_
 ·omega
 rintro v11 A11 o11
 obtain⟨bN,cN,rfl,oN⟩:=o11
 have rN:=Gt.owrd _ oN
 apply zAg (α:=(Nat)) zAh [42,43,44,45,46,49,50,51,52,53,54,55,56,57,58,59,60,61,62,63,64,65,66,67,68,2,47,48,5] (fun z=>[(5,.v (.int .i64 z))]) (fun z=>[{ id:=x0,cs:=[Value.bool x.each,Value.slice b1p x.out.length c1p,Value.slice b2p x.atoms.length c2p,Value.slice b3p x.filters.length c3p],ty:=(43:Nat) }]) (fun z=>[A11,H]) (fun z=>x.out.length-z) (fun z=>z≤x.out.length∧zCd (fun i=>zBI (zAj x.atoms) (x.out[i]?.getD ByteArray.empty)) z=true∧zCd (fun i=>!zBI (x.out.take i) (x.out[i]?.getD ByteArray.empty)) z=true) ((0))
 ·exact frI
 ·exact⟨rfl,trivial⟩
 ·exact⟨Nat.zero_le _,rfl,rfl⟩
 ·exact .refl _
 rintro i hI
 try dsimp only at hI
 obtain⟨hi,hb,hc⟩:=hI
 try dsimp only
 constructor<;>intro q12
 ·simp at q12
  refine zBr zAh zAK none (.q 0 (.q 1 (.q 2 (.q 3 (.q 4 (.q 5 (.f 6 (.q 7 (.q 8 (.q 9 (.q 10 (.q 11 (.q 12 (.q 13 (.q 14 (.q 15 (.q 16 (.q 17 (.f 18 (.q 19 (.nil))))))))))))))))))))) (by decide +kernel) ?_
  refine zAf h1p ?_ ?_ fun b13 o13 hb13=>?_
  ·omega
  ·omega
  refine zAd ByteArray.empty (i) rfl h1p ?_ ?_ hb13 rfl (zAa 1 rfl) fun l14 hl14=>?_
  ·omega
  ·omega
  obtain⟨rfl,hw14⟩:=hl14;simp only[zAx,zAs,okI] at hw14
  refine zAe (zCP _ _ _ (zAj x.atoms) _) (Rp.mono _ (zAa 0 rfl) rN) ?_
  rintro _ rfl
  refine VC.intro ?_ ?_
  ·exact fun _ h=>h
  constructor<;>intro q16
  ·simp at q16
   exact⟨[],⟨by rw[zJQ fun h=>ff h.2.2.2.1 (zTF (k:=i) oO aA)],rfl⟩,.mem sI⟩
  simp at q16
  have hsub:(gSl 9 gS).rd H [.slice (zCB c1p 0 b1p ty9.size) (((i:Nat):Int).toNat-0) (c1p-0)] ((x.out.take ((i:Nat):Int).toNat).drop 0):=zJo (r:=gS.toRp) (l:=0) (h:=((i:Nat):Int).toNat) h1p oO oO
  refine VC.intro ?_ ?_
  ·omega
  refine zAf h1p ?_ ?_ fun b17 o17 hb17=>?_
  ·omega
  ·omega
  refine zAd ByteArray.empty (i) rfl h1p ?_ ?_ hb17 rfl (zAa 1 rfl) fun l18 hl18=>?_
  ·omega
  ·omega
  obtain⟨rfl,hw18⟩:=hl18;simp only[zAx,zAs,okI] at hw18
  refine zAe (zCP _ _ _ (List.drop (0:Nat) (List.take (↑i:Int).toNat x.out)) _) (Rp.mono _ (zAa 1 rfl) hsub) ?_
  rintro _ rfl
  refine VC.intro ?_ ?_
  ·exact fun _ h=>h
  constructor<;>intro q20
  ·simp at q20
   exact⟨[],⟨by rw[zJQ fun h=>ff h.2.2.1 (zOB (k:=i) oO aA)],rfl⟩,.mem sI⟩
  simp at q20
  apply zAb (i+1)
  ·exact .refl _
  ·exact frI
  ·exact⟨rfl,trivial⟩
  ·exact⟨oO,zAG hb aA,zAG hc (zLn aA)⟩
  omega
 simp at q12
 apply zAg (α:=(Nat)) zAh [69,70,71,72,73,76,77,78,79,80,7,81,82,83,84,85,86,87,88,89,90,91,92,93,94,95,96,97,98,99,100,101,102,103,104,105,106,107,108,109,110,111,112,113,114,2,74,75,6] (fun z=>[(6,.v (.int .i64 z))]) (fun z=>[{ id:=x0,cs:=[Value.bool x.each,Value.slice b1p x.out.length c1p,Value.slice b2p x.atoms.length c2p,Value.slice b3p x.filters.length c3p],ty:=(43:Nat) }]) (fun z=>[A11,H]) (fun z=>x.filters.length-z) (fun z=>z≤x.filters.length∧zCd (fun i=>zBC (zAj x.atoms) (x.filters[i]?.getD default)) z=true) ((0))
 ·exact frI
 ·exact⟨rfl,trivial⟩
 ·exact⟨Nat.zero_le _,rfl⟩
 ·exact .refl _
 rintro j hI
 try dsimp only at hI
 obtain⟨hj,hf⟩:=hI
 try dsimp only
 constructor<;>intro q21
 ·simp at q21
  refine zAf h3p ?_ ?_ fun b22 o22 hb22=>?_
  ·omega
  ·omega
  refine zAd default (j) rfl h3p ?_ ?_ hb22 rfl (zAa 1 rfl) fun l23 hl23=>?_
  ·omega
  ·omega
  obtain⟨rfl,w0x23,w1x23,w2x23,w3x23⟩:=zBj.1 hl23
  refine⟨fun x24=>?_⟩
  refine zAe (zCP _ _ _ (zAj x.atoms) _) (Rp.mono _ (zAa 0 rfl) rN) ?_
  rintro _ rfl
  constructor<;>intro q26
  ·simp at q26
   exact⟨[],⟨by rw[zJQ fun h=>ff (h.2.2.2.2 j oO) (z8h aA)],rfl⟩,.mem sI⟩
  simp at q26
  refine zAe (zA3 _ _ _) trivial ?_
  rintro _ rfl
  constructor<;>intro q28
  ·simp at q28
   have iq28:=mt zAq.2 (Bool.eq_false_iff.1 q28)
   exact⟨[],⟨by rw[zJQ fun h=>ff (h.2.2.2.2 j oO) (z8i aA)],rfl⟩,.mem sI⟩
  simp at q28
  have iq28:=zAq.1 q28
  constructor<;>intro q29
  ·simp at q29
   have iq29:=mt zFE.2 q29
   refine zAe (zCP _ _ _ (zAj x.atoms) _) (Rp.mono _ (zAa 0 rfl) rN) ?_
   rintro _ rfl
   constructor<;>intro q31
   ·simp at q31
    exact⟨[],⟨by rw[zJQ fun h=>ff (h.2.2.2.2 j oO) (z8j aA aA)],rfl⟩,.mem sI⟩
   simp at q31
   constructor<;>intro q32
   ·simp at q32
    exact⟨[],⟨by rw[zJQ fun h=>ff (h.2.2.2.2 j oO) (z8k aA aA)],rfl⟩,.mem sI⟩
   simp at q32
   refine zAe (zA3 _ _ _) trivial ?_
   rintro _ rfl
   constructor<;>intro q34
   ·simp at q34
    have iq34:=mt zAq.2 (Bool.eq_false_iff.1 q34)
    exfalso;omega
   simp at q34
   have iq34:=zAq.1 q34
   apply zAb (j+1)
   ·exact .refl _
   ·exact frI
   ·exact⟨rfl,trivial⟩
   ·exact⟨oO,zAG hf (z7s aA aA aA aA aA)⟩
   omega
  simp at q29
  have iq29:=zFE.1 q29
  refine zAe (zA3 _ _ _) trivial ?_
  rintro _ rfl
  constructor<;>intro q36
  ·simp at q36
   have iq36:=mt zAq.2 (Bool.eq_false_iff.1 q36)
   exact⟨[],⟨by rw[zJQ fun h=>ff (h.2.2.2.2 j oO) (z8l aA)],rfl⟩,.mem sI⟩
  simp at q36
  have iq36:=zAq.1 q36
  apply zAb (j+1)
  ·exact .refl _
  ·exact frI
  ·exact⟨rfl,trivial⟩
  ·exact⟨oO,zAG hf (z7r aA aA aA aA)⟩
  omega
 simp at q21
 (have hke:k=x.atoms.length:=oO;have hie:i=x.out.length:=oO;have hje:j=x.filters.length:=oO;rw[hke] at ha;rw[hie] at hb hc;rw[hje] at hf;exact⟨[],⟨by rw[z7q oO ha hb hc hf],rfl⟩,.mem sI⟩)
end
section
attribute [local irreducible] IntKind.wrap zAj zAS
def shK (s:List Int) (k:Nat):Bool:=zCd (fun i=>inR 1 8 (s[i]?.getD 0)) k
def zB8 (s:List Int):Nat→Int
 | 0=>1
 | k+1=>zB8 s k * (s[k]?.getD 0)
theorem zIm {s:List Int}:∀ {k:Nat},shK s k=true→1≤zB8 s k∧zB8 s k≤8 ^ k
 | 0,_=>by show (1:Int)≤1∧(1:Int)≤8 ^ 0;decide
 | k+1,h=>by
  have h1:shK s k=true:=by
   unfold shK at h ⊢;unfold zCd at h;rw[Bool.and_eq_true] at h;exact h.1
  have h2:=zAq.1 (zBe h k oO)
  have ih:=zIm h1
  show 1≤zB8 s k * (s[k]?.getD 0)∧zB8 s k * (s[k]?.getD 0)≤8 ^ (k+1)
  rw[Int.pow_succ]
  exact⟨Int.le_trans (by decide:(1:Int)≤1 * 1) (Int.mul_le_mul ih.1 h2.1 (by decide) oO),Int.mul_le_mul ih.2 h2.2 oO (Int.le_trans (by decide) (Int.le_trans ih.1 ih.2))⟩
theorem zXY {s:List Int} {k:Nat} (h:shK s k=true) (hk:k≤4):1≤zB8 s k∧zB8 s k≤4096:=by
 have h1:=zIm h
 rcases (by omega:k=0∨k=1∨k=2∨k=3∨k=4) with rfl|rfl|rfl|rfl|rfl<;>(refine⟨h1.1,Int.le_trans h1.2 (by decide)⟩)
theorem zIn {s:List Int} {j:Nat}:∀ {k:Nat},shK s k=true→j≤k→zB8 s j≤zB8 s k
 | 0,_,hj=>by rw[show j=0 from oO];exact Int.le_refl _
 | k+1,h,hj=>by
  have h1:shK s k=true:=by
   unfold shK at h ⊢;unfold zCd at h;rw[Bool.and_eq_true] at h;exact h.1
  have h2:=zAq.1 (zBe h k oO)
  have ih:=zIm h1
  have h3:zB8 s k≤zB8 s (k+1):=by
   show zB8 s k≤zB8 s k * (s[k]?.getD 0)
   have:=Int.mul_le_mul_of_nonneg_left h2.1 (by omega:(0:Int)≤zB8 s k)
   rw[Int.mul_one] at this;exact this
  rcases (by omega:j≤k∨j=k+1) with h4|rfl
  ·exact Int.le_trans (zIn h1 h4) h3
  exact Int.le_refl _
theorem zLo {p v:Int} (h1:1≤p∧p≤8 ^ 8) (h2:1≤v∧v≤8):1≤p * v∧p * v≤8 ^ 9:=
 ⟨Int.le_trans (by decide:(1:Int)≤1 * 1) (Int.mul_le_mul h1.1 h2.1 (by decide) oO),Int.le_trans (Int.mul_le_mul h1.2 h2.2 oO (by decide)) (by decide)⟩
def zKi (s:List Int):Bool:=shK s s.length && decide (zB8 s s.length≤8)
theorem zOC {s:List Int} {k:Nat} (hk:k < s.length) (h:¬(1≤(s[k]?.getD 0)∧(s[k]?.getD 0)≤8)):zKi s=false:=by
 unfold zKi shK
 rw[zDz (p:=fun i=>inR 1 8 (s[i]?.getD 0)) (k:=k) (by rw[Bool.eq_false_iff,Ne,zAq];exact h) _ hk];rfl
theorem zTG {s:List Int} {k:Nat} (hk:k≤s.length) (h:¬zB8 s k≤8):zKi s=false:=by
 cases e:zKi s with
 | false=>rfl
 | true=>
  unfold zKi at e
  rw[Bool.and_eq_true,decide_eq_true_iff] at e
  exact absurd (Int.le_trans (zIn e.1 hk) e.2) h
theorem zTH {s:List Int} (h:shK s s.length=true) (h1:zB8 s s.length≤8):zKi s=true:=by unfold zKi;rw[h,decide_eq_true h1];rfl
theorem zTI {s:List Int} {k:Nat} (h:shK s k=true) (h1:1≤(s[k]?.getD 0)∧(s[k]?.getD 0)≤8):shK s (k+1)=true:=zAG h (zAq.2 h1)
theorem zI4 {s:List Int} (h:zKi s=true):shK s s.length=true:=by unfold zKi at h;rw[Bool.and_eq_true] at h;exact h.1
theorem z7t {s:List Int} {n k:Nat} (h:shK s n=true) (hk:k≤n):shK s k=true:=by
 induction n with
 | zero=>rw[show k=0 from oO];rfl
 | succ n ih=>
  rcases (by omega:k≤n∨k=n+1) with h1|rfl
  ·exact ih (by unfold shK at h ⊢;unfold zCd at h;rw[Bool.and_eq_true] at h;exact h.1) h1
  exact h
def zA8 (s:List Int):Int:=if 1≤s.length∧s.length≤4∧zKi s=true then zB8 s s.length else 0
theorem zLp {s:List Int} (h:¬(1≤s.length∧s.length≤4)):zA8 s=0:=if_neg fun e=>h ⟨e.1,e.2.1⟩
theorem zGl {s:List Int} (h:zKi s=false):zA8 s=0:=if_neg fun e=>by rw[h] at e;cases e.2.2
theorem zIo {s:List Int} (h1:1≤s.length∧s.length≤4) (h:zKi s=true):zA8 s=zB8 s s.length:=if_pos ⟨h1.1,h1.2,h⟩
theorem zIp (s:List Int):0≤zA8 s∧zA8 s≤8:=by
 unfold zA8
 split
 ·rename_i h
  have h2:=h.2.2
  unfold zKi at h2
  rw[Bool.and_eq_true,decide_eq_true_iff] at h2
  have:=zIm h2.1
  omega
 omega
theorem zDM (b:Option Addr) (m c:Nat) (xs:List Int):Ct prog 155 [.slice b m c] [] (fun H=>(gSl 3 gI).rd H [.slice b m c] xs) (fun v A=>v = .int .i64 (zA8 xs)∧A=[]):=by
 refine Ct.intro0 zAh func155 rfl rfl rfl fun E H hp=>?_
 obtain⟨rfl,hcl,hl⟩:=zAp hp
 constructor<;>intro q0
 ·simp at q0
  exact⟨[],⟨by rw[zLp oO],rfl⟩,.mem sI⟩
 simp at q0
 constructor<;>intro q1
 ·simp at q1
  exact⟨[],⟨by rw[zLp oO],rfl⟩,.mem sI⟩
 simp at q1
 apply zAg (α:=(Nat)×(Int)) zAh [17,18,19,5,20,21,22,23,24,25,2,26,27,28,3,29,16] (fun z=>[(16,.v (.int .i64 z.1)),(3,.v (.int .i64 z.2))]) (fun z=>[]) (fun z=>[H]) (fun z=>xs.length-z.1) (fun z=>z.1≤xs.length∧shK xs z.1=true∧z.2=zB8 xs z.1) ((0,1))
 ·repeat' (first|exact trivial|refine⟨⟨_,rfl,by first|exact frE|(refine zAz ?_;simp;done)|rw[zAc (x:=p * (xs[k]?.getD 0)) oO oO],frO⟩,?_⟩)
 ·exact trivial
 ·try dsimp only
  exact⟨Nat.zero_le _,rfl,rfl⟩
 ·exact .refl _
 rintro ⟨k,p⟩ hI
 obtain⟨hk,ha,hpp⟩:k≤xs.length∧shK xs k=true∧p=zB8 xs k:=hI
 try dsimp only
 constructor<;>intro q2
 ·simp at q2
  have hpr:=zXY ha oO
  rw[←hpp] at hpr
  refine zAf hp ?_ ?_ fun b3 o3 hb3=>?_
  ·omega
  ·omega
  refine zAd 0 (k) rfl hp ?_ ?_ hb3 rfl (zAa 0 rfl) fun l4 hl4=>?_
  ·omega
  ·omega
  obtain⟨rfl,hw4⟩:=hl4;simp only[zAx,zAs,okI] at hw4
  constructor<;>intro q5
  ·simp at q5
   exact⟨[],⟨by rw[zGl (zOC (k:=k) oO oO)],rfl⟩,.mem sI⟩
  simp at q5
  constructor<;>intro q6
  ·simp at q6
   exact⟨[],⟨by rw[zGl (zOC (k:=k) oO oO)],rfl⟩,.mem sI⟩
  simp at q6
  have hps:=zLo (p:=p) (v:=xs[k]?.getD 0) ⟨hpr.1,oO⟩ oO
  apply zAb (k+1,p * (xs[k]?.getD 0))
  ·exact .refl _
  ·repeat' (first|exact trivial|refine⟨⟨_,rfl,by first|exact frE|(refine zAz ?_;simp;done)|rw[zAc (x:=p * (xs[k]?.getD 0)) oO oO],frO⟩,?_⟩)
  ·exact trivial
  ·try dsimp only
   exact⟨oO,zTI ha oO,by rw[hpp];rfl⟩
  try dsimp only
  omega
 simp at q2
 have hpr:=zXY ha oO
 rw[←hpp] at hpr
 constructor<;>intro q7
 ·simp at q7
  exact⟨[],⟨by rw[zGl (zTG (k:=k) oO (by rw[←hpp];omega))],rfl⟩,.mem sI⟩
 simp at q7
 (have hke:k=xs.length:=oO;subst hke;exact⟨[],⟨by rw[zIo oO (zTH ha (by rw[←hpp];omega)),←hpp],rfl⟩,.mem sI⟩)
theorem zCm {a b:Int}:(a == b)=decide (a=b):=by rw[Bool.eq_iff_iff,beq_iff_eq,decide_eq_true_iff]
theorem zJy (b:Option Addr) (m c:Nat) (xs:List Int) (n:Int):Ct prog 94 [.slice b m c,.int .i64 n] [] (fun H=>(gSl 3 gI).rd H [.slice b m c] xs) (fun v A=>v = .bool (zKi xs && decide ((xs.length:Int)=n))∧A=[]):=by
 refine Ct.intro0 zAh func94 rfl rfl rfl fun E H hp=>?_
 obtain⟨rfl,hcl,hl⟩:=zAp hp
 apply zAg (α:=(Nat)×(Int)) zAh [7,8,9,10,13,14,15,16,17,18,4,19,20,21,22,23,24,5,25,26,11,12,6] (fun z=>[(6,.v (.int .i64 z.1)),(5,.v (.int .i64 z.2))]) (fun z=>[]) (fun z=>[H]) (fun z=>xs.length-z.1) (fun z=>z.1≤xs.length∧shK xs z.1=true∧z.2=zB8 xs z.1∧1≤z.2∧z.2≤8) ((0,1))
 ·repeat' (first|exact trivial|refine⟨⟨_,rfl,by first|exact frE|(refine zAz ?_;simp;done)|rw[zAc (x:=p * (xs[k]?.getD 0)) oO oO],frO⟩,?_⟩)
 ·exact trivial
 ·try dsimp only
  exact⟨Nat.zero_le _,rfl,rfl,by decide,by decide⟩
 ·exact .refl _
 rintro ⟨k,p⟩ hI
 try dsimp only at hI
 obtain⟨hk,ha,hpp,hp1,hp8⟩:=hI
 try dsimp only
 constructor<;>intro q0
 ·simp at q0
  refine zAf hp ?_ ?_ fun b1 o1 hb1=>?_
  ·omega
  ·omega
  refine zAd 0 (k) rfl hp ?_ ?_ hb1 rfl (zAa 0 rfl) fun l2 hl2=>?_
  ·omega
  ·omega
  obtain⟨rfl,hw2⟩:=hl2;simp only[zAx,zAs,okI] at hw2
  refine zAe (zA3 _ _ _) trivial ?_
  rintro _ rfl
  constructor<;>intro q4
  ·simp at q4
   have iq4:=mt zAq.2 (Bool.eq_false_iff.1 q4)
   exact⟨[],⟨by rw[zOC (k:=k) oO oO];rfl,rfl⟩,.mem sI⟩
  simp at q4
  have iq4:=zAq.1 q4
  have hps:=zLo (p:=p) (v:=xs[k]?.getD 0) ⟨hp1,oO⟩ oO
  refine zAf hp ?_ ?_ fun b5 o5 hb5=>?_
  ·omega
  ·omega
  refine zAd 0 (k) rfl hp ?_ ?_ hb5 rfl (zAa 0 rfl) fun l6 hl6=>?_
  ·omega
  ·omega
  obtain⟨rfl,hw6⟩:=hl6;simp only[zAx,zAs,okI] at hw6
  constructor<;>intro q7
  ·simp at q7
   simp (disch:=omega) only[zAc] at q7
   exact⟨[],⟨by rw[zTG (s:=xs) (k:=k+1) oO (by show ¬zB8 xs k * (xs[k]?.getD 0)≤8;rw[←hpp];omega)];rfl,rfl⟩,.mem sI⟩
  simp at q7
  simp (disch:=omega) only[zAc] at q7
  apply zAb (k+1,p * (xs[k]?.getD 0))
  ·exact .refl _
  ·repeat' (first|exact trivial|refine⟨⟨_,rfl,by first|exact frE|(refine zAz ?_;simp;done)|rw[zAc (x:=p * (xs[k]?.getD 0)) oO oO],frO⟩,?_⟩)
  ·exact trivial
  ·try dsimp only
   exact⟨oO,zTI ha oO,by rw[hpp];rfl,oO,oO⟩
  try dsimp only
  omega
 simp at q0
 (have hke:k=xs.length:=oO;subst hke;exact⟨[],⟨by rw[zTH ha (by rw[←hpp];omega),Bool.true_and];first|rfl|(rw[zCm]),rfl⟩,.mem sI⟩)
end
section
attribute [local irreducible] IntKind.wrap zAS
theorem zE6 (b:Option Addr) (m c:Nat) (xs:List Int):Ct prog 42 [.slice b m c] [] (fun H=>(gSl 3 gI).rd H [.slice b m c] xs) (fun v A=>v = .int .i64 (zA8 xs)∧A=[]):=by
 refine Ct.intro0 zAh func42 rfl rfl rfl fun E H hp=>?_
 obtain⟨rfl,hcl,hl⟩:=zAp hp
 refine zAe (zA3 _ _ _) trivial ?_
 rintro _ rfl
 constructor<;>intro q1
 ·simp at q1
  have iq1:=mt zAq.2 (Bool.eq_false_iff.1 q1)
  exact⟨[],⟨by rw[zLp oO],rfl⟩,.mem sI⟩
 simp at q1
 have iq1:=zAq.1 q1
 refine zAe (zJy _ _ _ (xs) _) (Rp.mono _ (zAa 0 rfl) hp) ?_
 rintro _ rfl
 constructor<;>intro q3
 ·simp at q3
  exact⟨[],⟨by rw[zGl aA],rfl⟩,.mem sI⟩
 simp at q3
 apply zAg (α:=(Nat)×(Int)) zAh [16,17,18,19,22,23,24,25,26,27,3,20,21,4] (fun z=>[(4,.v (.int .i64 z.1)),(3,.v (.int .i64 z.2))]) (fun z=>[]) (fun z=>[H]) (fun z=>xs.length-z.1) (fun z=>z.1≤xs.length∧z.2=zB8 xs z.1) ((0,1))
 ·repeat' (first|exact trivial|refine⟨⟨_,rfl,by first|exact frE|(refine zAz ?_;simp;done)|rw[zAc (x:=p * (xs[k]?.getD 0)) oO oO],frO⟩,?_⟩)
 ·exact trivial
 ·try dsimp only
  exact⟨Nat.zero_le _,rfl⟩
 ·exact .refl _
 rintro ⟨k,p⟩ hI
 obtain⟨hk,hpp⟩:k≤xs.length∧p=zB8 xs k:=hI
 try dsimp only
 constructor<;>intro q4
 ·simp at q4
  have hyes:zKi xs=true:=aA
  have hsk:=zI4 hyes
  have hpr:=zXY (k:=k) (z7t hsk oO) oO
  rw[←hpp] at hpr
  have hvk:=zAq.1 (zBe hsk k oO)
  have hps:=zLo (p:=p) (v:=xs[k]?.getD 0) ⟨hpr.1,oO⟩ oO
  refine zAf hp ?_ ?_ fun b5 o5 hb5=>?_
  ·omega
  ·omega
  refine zAd 0 (k) rfl hp ?_ ?_ hb5 rfl (zAa 0 rfl) fun l6 hl6=>?_
  ·omega
  ·omega
  obtain⟨rfl,hw6⟩:=hl6;simp only[zAx,zAs,okI] at hw6
  apply zAb (k+1,p * (xs[k]?.getD 0))
  ·exact .refl _
  ·repeat' (first|exact trivial|refine⟨⟨_,rfl,by first|exact frE|(refine zAz ?_;simp;done)|rw[zAc (x:=p * (xs[k]?.getD 0)) oO oO],frO⟩,?_⟩)
  ·exact trivial
  ·try dsimp only
   exact⟨oO,by rw[hpp];rfl⟩
  try dsimp only
  omega
 simp at q4
 (have hke:k=xs.length:=oO;subst hke;exact⟨[],⟨by rw[zIo oO aA,←hpp],rfl⟩,.mem sI⟩)
theorem z1G (l:List ByteArray) (s:ByteArray):1≤(zKh l s).length:=by
 unfold zKh
 split
 ·rename_i h
  cases l with
  | nil=>exact absurd h (by show ¬(false=true);decide)
  | cons a r=>simp
 simp
theorem zXZ {ats:List Atom} (h:1≤ats.length):1≤(zAj ats).length:=by
 have e:=zBT (ats:=ats) (k:=ats.length-1) oO
 rw[show ats.length-1+1=ats.length from oO,List.take_length] at e
 rw[e];exact z1G _ _
theorem zDD {x:Query} (h:zAS x=true):1≤(zAj x.atoms).length∧(zAj x.atoms).length≤4:=by
 have h1:zNh x:=by
  apply Classical.byContradiction
  intro e
  rw[zJQ e] at h;cases h
 exact⟨zXZ h1.1.1,h1.1.2.2.2.2.2⟩
attribute [local irreducible] zAj
noncomputable def zAU (x:Query) (s:List Int):Bool:=zAS x && (zKi s && decide (s.length=(zAj x.atoms).length))
theorem zNi {x:Query} {s:List Int} (h:zAS x=false):zAU x s=false:=by unfold zAU;rw[h];rfl
theorem zVv {x:Query} {s:List Int} (h:¬s.length=(zAj x.atoms).length):zAU x s=false:=by unfold zAU;rw[decide_eq_false h];simp
theorem zVw {x:Query} {s:List Int} (h:zAS x=true) (h1:s.length=(zAj x.atoms).length):zAU x s=decide (0 < zA8 s):=by
 have hn:=zDD h
 unfold zAU
 rw[h,decide_eq_true h1,Bool.true_and,Bool.and_true]
 cases e:zKi s with
 | false=>rw[zGl e];rfl
 | true=>
  rw[zIo oO e]
  have:=zIm (zI4 e)
  rw[decide_eq_true oO]
theorem zCI {x:Query} (h:zAL.sz x≤1048576):x.atoms.length≤1048576:=by
 have h1:=zEt x
 have h2:=zBL zA9 x.atoms
 omega
theorem zGm (l:List Value) (b:Option Addr) (m c:Nat) (x:Query) (s:List Int) (hx:zAL.sz x≤1048576):Ct prog 113 [.agg ⟨l⟩,.slice b m c] [] (fun H=>zAL.rd H l x∧(gSl 3 gI).rd H [.slice b m c] s) (fun v A=>v = .bool (zAU x s)∧A=[]):=by
 refine Ct.intro0 zAh func113 rfl rfl rfl fun E H hp=>?_
 obtain⟨hp,hq⟩:=hp
 obtain⟨rfl,hcl,hl⟩:=zAp hq
 obtain⟨b1p,c1p,b2p,c2p,b3p,c3p,rfl,h1p,h2p,h3p⟩:=zAy.1 hp
 have hal:=zCI hx
 refine⟨fun x0=>?_⟩
 refine zAe (zHn _ (x) ?_) (Rp.mono _ (zAa 0 rfl) hp) ?_
 ·trivial
 rintro _ rfl
 constructor<;>intro q2
 ·refine zAi (zCZ _ (x) ?_) (Rp.mono _ (zAa 0 rfl) hp) ?_
  ·trivial
  rintro v3 A3 o3
  obtain⟨b3,c3,rfl,o3⟩:=o3
  constructor<;>intro q4
  ·simp at q4
   refine zAe (zDM _ _ _ (s)) (Rp.mono _ (zAa 1 rfl) hq) ?_
   rintro _ rfl
   exact⟨[],⟨congrArg Value.bool (zVw aA oO).symm,rfl⟩,.mem sI⟩
  simp at q4
  exact⟨[],⟨by rw[zVv oO],rfl⟩,.mem sI⟩
 exact⟨[],⟨by rw[zNi aA],rfl⟩,.mem sI⟩
theorem zGn (l:List Value) (b:Option Addr) (m c:Nat) (x:Query) (s:List Int) (hx:zAL.sz x≤1048576):Ct prog 40 [.agg ⟨l⟩,.slice b m c] [] (fun H=>zAL.rd H l x∧(gSl 3 gI).rd H [.slice b m c] s) (fun v A=>v = .bool (zAU x s)∧A=[]):=by
 refine Ct.intro0 zAh func40 rfl rfl rfl fun E H hp=>?_
 obtain⟨hp,hq⟩:=hp
 obtain⟨rfl,hcl,hl⟩:=zAp hq
 obtain⟨b1p,c1p,b2p,c2p,b3p,c3p,rfl,h1p,h2p,h3p⟩:=zAy.1 hp
 have hal:=zCI hx
 refine⟨fun x0=>?_⟩
 refine zAe (zHo _ (x) ?_) (Rp.mono _ (zAa 0 rfl) hp) ?_
 ·trivial
 rintro _ rfl
 constructor<;>intro q2
 ·refine zAi (zCu _ (x) ?_) (Rp.mono _ (zAa 0 rfl) hp) ?_
  ·trivial
  rintro v3 A3 o3
  obtain⟨b3,c3,rfl,o3⟩:=o3
  refine zAe (zJy _ _ _ (s) _) (Rp.mono _ (zAa 1 rfl) hq) ?_
  rintro _ rfl
  exact⟨[],⟨congrArg Value.bool (by unfold zAU;rw[‹zAS x=true›,Bool.true_and];congr 1;rw[decide_eq_decide];omega),rfl⟩,.mem sI⟩
 exact⟨[],⟨by rw[zNi aA],rfl⟩,.mem sI⟩
theorem zQm (b:Option Addr) (m c:Nat) (s:List Int) (n:Int):Ct prog 115 [.slice b m c,.int .i64 n] [] (fun H=>(gSl 3 gI).rd H [.slice b m c] s) (fun v A=>v = .bool (inR 0 (zA8 s-1) n)∧A=[]):=by
 refine Ct.intro0 zAh func115 rfl rfl rfl fun E H hp=>?_
 obtain⟨rfl,hcl,hl⟩:=zAp hp
 constructor<;>intro q0
 ·simp at q0
  refine zAe (zDM _ _ _ (s)) (Rp.mono _ (zAa 0 rfl) hp) ?_
  rintro _ rfl
  exact⟨[],⟨congrArg Value.bool (by unfold inR;rw[Bool.eq_iff_iff];simp;omega),rfl⟩,.mem sI⟩
 simp at q0
 exact⟨[],⟨congrArg Value.bool (by unfold inR;rw[Bool.eq_iff_iff];simp;omega),rfl⟩,.mem sI⟩
end
section
attribute [local irreducible] IntKind.wrap
def zE7 (v n:Int):Bool:=inR 1 8 n && inR 0 11 v
def zA0 (v n:Int):Int:=if zE7 v n then zPD (zEu v) % n else 0
theorem zEo {v n:Int} (h:zE7 v n=false):zA0 v n=0:=by unfold zA0;rw[h];rfl
theorem zLq {v n:Int} (h1:1≤n) (h2:n≤8) (h3:0≤v) (h4:v≤11):Value.int .i64 (IntKind.i64.wrap ((zPD (zEu v)).tmod (IntKind.u32.wrap n)))=Value.int .i64 (zA0 v n):=by
 have h5:=zKY (zEu v)
 have h6:IntKind.u32.wrap n=n:=by rw[zC5];omega
 have h7:0≤zPD (zEu v) % n:=Int.emod_nonneg _ oO
 have h8:zPD (zEu v) % n < n:=Int.emod_lt_of_pos _ oO
 have h9:zE7 v n=true:=by unfold zE7 inR;simp;omega
 unfold zA0
 rw[h6,Int.tmod_eq_emod_of_nonneg h5.1,zAc oO oO,h9];rfl
theorem zHp (v n:Int):Ct prog 162 [.int .i64 v,.int .i64 n] [] (fun _=>True) (fun r A=>r = .int .i64 (zA0 v n)∧A=[]):=by
 refine Ct.intro0 zAh func162 rfl rfl rfl fun E H hp=>?_
 have h1:=zJq v
 have h3:=zKY (zEu v)
 constructor<;>intro q0
 ·simp at q0
  exact⟨[],⟨by rw[zEo (by unfold zE7 inR;simp;omega)],rfl⟩,.mem sI⟩
 simp at q0
 constructor<;>intro q1
 ·simp at q1
  exact⟨[],⟨by rw[zEo (by unfold zE7 inR;simp;omega)],rfl⟩,.mem sI⟩
 simp at q1
 constructor<;>intro q2
 ·simp at q2
  exact⟨[],⟨by rw[zEo (by unfold zE7 inR;simp;omega)],rfl⟩,.mem sI⟩
 simp at q2
 constructor<;>intro q3
 ·simp at q3
  exact⟨[],⟨by rw[zEo (by unfold zE7 inR;simp;omega)],rfl⟩,.mem sI⟩
 simp at q3
 refine zAe (zU7 _ ?_ ?_) trivial ?_
 ·trivial
 ·omega
 rintro _ rfl
 refine zAe (zPE _ ?_) trivial ?_
 ·omega
 rintro _ rfl
 refine VC.intro ?_ ?_
 ·(rw[zC5];omega)
 exact⟨[],⟨zLq oO oO oO oO,rfl⟩,.mem sI⟩
theorem zHq (v n:Int):Ct prog 100 [.int .i64 v,.int .i64 n] [] (fun _=>True) (fun r A=>r = .int .i64 (zA0 v n)∧A=[]):=by
 refine Ct.intro0 zAh func100 rfl rfl rfl fun E H hp=>?_
 have h1:=zJq v
 have h3:=zKY (zEu v)
 refine zAe (zA3 _ _ _) trivial ?_
 rintro _ rfl
 constructor<;>intro q1
 ·simp at q1
  exact⟨[],⟨by rw[zEo (by unfold zE7;simp_all)],rfl⟩,.mem sI⟩
 simp at q1
 have iq1:=zAq.1 q1
 refine zAe (zA3 _ _ _) trivial ?_
 rintro _ rfl
 constructor<;>intro q3
 ·simp at q3
  exact⟨[],⟨by rw[zEo (by unfold zE7;simp_all)],rfl⟩,.mem sI⟩
 simp at q3
 have iq3:=zAq.1 q3
 refine zAe (zWV _ ?_ ?_) trivial ?_
 ·omega
 ·omega
 rintro _ rfl
 refine zAe (zPF _ ?_) trivial ?_
 ·omega
 rintro _ rfl
 refine VC.intro ?_ ?_
 ·(rw[zC5];omega)
 exact⟨[],⟨zLq oO oO oO oO,rfl⟩,.mem sI⟩
end
section
attribute [local irreducible] IntKind.wrap
def zBg (a:Atom):List ByteArray:=if a.from'=a.to then [a.from'] else [a.from',a.to]
theorem zX0 {a:Atom} (h:a.from'=a.to):zBg a=[a.from']:=if_pos h
theorem zX1 {a:Atom} (h:¬a.from'=a.to):zBg a=[a.from',a.to]:=if_neg h
theorem zX2 {x:Nat} {a:ByteArray} (h1:a.size≤9223372036854775807):(gSl 9 gS).ow [.slice (some ⟨x,0,none⟩) 1 1] [a] [(x,Obj.cells ⟨[.string a]⟩ 9)]:=
 zN3 (Ow.lit (f:=zAx) (T:=9) (b:=x) (xs:=[a]) (fun y hy=>by rw[List.mem_singleton.1 hy];exact h1) sI)
theorem zFF (l:List Value) (a:Atom):Ct prog 156 [.agg ⟨l⟩] [] (fun H=>zA9.rd H l a) (fun v A=>∃ b c,v = .slice b (zBg a).length c∧(gSl 9 gS).ow [.slice b (zBg a).length c] (zBg a) A):=by
 refine Ct.intro0 zAh func156 rfl rfl rfl fun E H hp=>?_
 obtain⟨rfl,w0p,w1p,w2p⟩:=zAT.1 hp
 refine⟨fun x0=>?_⟩
 constructor<;>intro q1
 ·simp at q1
  simp only[zAR,zBn,zAZ] at q1
  refine⟨fun x2=>?_⟩
  try dsimp only
  (have hz:List.append ([]:List Value) (zAX 0 [Value.string ByteArray.empty])=[]:=rfl;simp only[hz];rw[zX0 aA];exact⟨_,⟨_,_,rfl,zX2 aA⟩,rlB⟩)
 simp at q1
 simp only[zAR,zBn,zAZ] at q1
 refine⟨fun x3=>?_⟩
 try dsimp only
 (have hz:List.append ([]:List Value) (zAX 0 [Value.string ByteArray.empty])=[]:=rfl;simp only[hz];rw[zX1 aA];exact⟨_,⟨_,_,rfl,zR3 aA aA⟩,rlB⟩)
theorem zFG (l:List Value) (a:Atom):Ct prog 50 [.agg ⟨l⟩] [] (fun H=>zA9.rd H l a) (fun v A=>∃ b c,v = .slice b (zBg a).length c∧(gSl 9 gS).ow [.slice b (zBg a).length c] (zBg a) A):=by
 refine Ct.intro0 zAh func50 rfl rfl rfl fun E H hp=>?_
 obtain⟨rfl,w0p,w1p,w2p⟩:=zAT.1 hp
 refine⟨fun x0=>?_⟩
 constructor<;>intro q1
 ·simp at q1
  simp only[zAR,zBn,zAZ] at q1
  refine⟨fun x2=>?_⟩
  try dsimp only
  (have hz:List.append ([]:List Value) (zAX 0 [Value.string ByteArray.empty])=[]:=rfl;simp only[hz];rw[zX0 aA];exact⟨_,⟨_,_,rfl,zX2 aA⟩,rlB⟩)
 simp at q1
 simp only[zAR,zBn,zAZ] at q1
 refine⟨fun x3=>?_⟩
 try dsimp only
 (have hz:List.append ([]:List Value) (zAX 0 [Value.string ByteArray.empty])=[]:=rfl;simp only[hz];rw[zX1 aA];exact⟨_,⟨_,_,rfl,zR3 aA aA⟩,rlB⟩)
def zIF (l:List ByteArray) (s:ByteArray):Int:=if zBI l s=true then (l.findIdx fun x=>decide (x=s):Nat) else -1
theorem zEU {p:Nat→Bool}:∀ {n:Nat},(∀ i,i < n→p i=true)→zCd p n=true
 | 0,_=>rfl
 | n+1,h=>zAG (zEU fun i hi=>h i oO) (h n oO)
theorem zX3 {l:List ByteArray} {s:ByteArray} {k:Nat} (hk:k < l.length) (h:(l[k]?.getD ByteArray.empty)=s) (ha:zCd (fun i=>!decide ((l[i]?.getD ByteArray.empty).toList=s.toList)) k=true):zIF l s=k:=by
 unfold zIF
 rw[if_pos (zOe hk (congrArg ByteArray.toList h))]
 congr 1
 refine (List.findIdx_eq hk).2 ⟨?_,fun j hj=>?_⟩
 ·rw[List.getElem?_eq_getElem hk] at h
  exact decide_eq_true h
 have h1:=zBe ha j hj
 rw[List.getElem?_eq_getElem oO,Bool.not_eq_true',decide_eq_false_iff_not,zAR] at h1
 exact decide_eq_false h1
theorem zTJ {l:List ByteArray} {s:ByteArray} (h:zCd (fun i=>!decide ((l[i]?.getD ByteArray.empty).toList=s.toList)) l.length=true):zIF l s = -1:=by
 unfold zIF;rw[zF9 h];rfl
theorem zDE {l:List ByteArray} {s:ByteArray} (h:zBI l s=true):0≤zIF l s∧zIF l s < l.length:=by
 unfold zIF
 rw[if_pos h]
 refine⟨oO,?_⟩
 have h1:l.findIdx (fun x=>decide (x=s)) < l.length:=by
  rw[List.findIdx_lt_length]
  apply Classical.byContradiction
  intro hn
  have:zBI l s=false:=zF9 (zEU fun i hi=>by
   rw[Bool.not_eq_true',decide_eq_false_iff_not,zAR]
   intro e
   refine hn ⟨l[i],List.getElem_mem hi,?_⟩
   rw[List.getElem?_eq_getElem hi] at e
   exact decide_eq_true e)
  rw[h] at this;cases this
 omega
theorem zR5 (b:Option Addr) (m c:Nat) (xs:List ByteArray) (v:ByteArray) :
  Ct prog 175 [.slice b m c,.string v] [] (fun H=>(gSl 9 gS).rd H [.slice b m c] xs)
   (fun w A=>w = .int .i64 (zIF xs v)∧A=[]):=by
 refine Ct.intro0 zAh func175 rfl rfl rfl fun E H hp=>?_
 obtain⟨rfl,hcl,hl⟩:=zAp hp
 apply zAg (α:=(Nat)×(Int)) zAh [9,10,5,11,12,13,14,15,16,17,4,18,8] (fun z=>[(8,.v (.int .i64 z.1)),(4,.v (.int .i64 z.2))]) (fun z=>[]) (fun z=>[H]) (fun z=>xs.length-z.1) (fun z=>z.1≤xs.length∧zCd (fun i=>!decide ((xs[i]?.getD ByteArray.empty).toList=v.toList)) z.1=true) ((0,0))
 ·exact frI
 ·exact trivial
 ·try dsimp only
  exact⟨Nat.zero_le _,rfl⟩
 ·exact .refl _
 rintro ⟨k,j⟩ hI
 try dsimp only at hI
 obtain⟨hk,ha⟩:=hI
 try dsimp only
 constructor<;>intro q0
 ·simp at q0
  refine zAf hp ?_ ?_ fun b1 o1 hb1=>?_
  ·omega
  ·omega
  refine zAd ByteArray.empty (k) rfl hp ?_ ?_ hb1 rfl (zAa 0 rfl) fun l2 hl2=>?_
  ·omega
  ·omega
  obtain⟨rfl,hw2⟩:=hl2;simp only[zAx,zAs,okI] at hw2
  constructor<;>intro q3
  ·simp at q3
   simp only[zAR,zBn,zAZ] at q3
   exact⟨[],⟨by rw[zX3 (k:=k) oO (by first|assumption|exact Eq.symm aA) ha],rfl⟩,.refl _⟩
  simp at q3
  simp only[zAR,zBn,zAZ] at q3
  apply zAb (k+1,_)
  ·exact .refl _
  ·exact frI
  ·exact trivial
  ·try dsimp only
   exact⟨oO,zAG ha (zTb (by first|assumption|exact fun e=>absurd e.symm aA))⟩
  try dsimp only
  omega
 simp at q0
 (have hke:k=xs.length:=oO;subst hke;exact⟨[],⟨by rw[zTJ ha],rfl⟩,.refl _⟩)
theorem zCn (b:Option Addr) (m c:Nat) (xs:List ByteArray) (v:ByteArray) :
  Ct prog 99 [.slice b m c,.string v] [] (fun H=>(gSl 9 gS).rd H [.slice b m c] xs)
   (fun w A=>w = .int .i64 (zIF xs v)∧A=[]):=by
 refine Ct.intro0 zAh func99 rfl rfl rfl fun E H hp=>?_
 obtain⟨rfl,hcl,hl⟩:=zAp hp
 apply zAg (α:=(Nat)) zAh [6,7,8,9,12,13,14,15,16,17,18,4,10,11,5] (fun z=>[(5,.v (.int .i64 z))]) (fun z=>[]) (fun z=>[H]) (fun z=>xs.length-z) (fun z=>z≤xs.length∧zCd (fun i=>!decide ((xs[i]?.getD ByteArray.empty).toList=v.toList)) z=true) ((0))
 ·exact frI
 ·exact trivial
 ·exact⟨Nat.zero_le _,rfl⟩
 ·exact .refl _
 rintro k hI
 try dsimp only at hI
 obtain⟨hk,ha⟩:=hI
 try dsimp only
 constructor<;>intro q0
 ·simp at q0
  refine zAf hp ?_ ?_ fun b1 o1 hb1=>?_
  ·omega
  ·omega
  refine zAd ByteArray.empty (k) rfl hp ?_ ?_ hb1 rfl (zAa 0 rfl) fun l2 hl2=>?_
  ·omega
  ·omega
  obtain⟨rfl,hw2⟩:=hl2;simp only[zAx,zAs,okI] at hw2
  constructor<;>intro q3
  ·simp at q3
   simp only[zAR,zBn,zAZ] at q3
   exact⟨[],⟨by rw[zX3 (k:=k) oO (by first|assumption|exact Eq.symm aA) ha],rfl⟩,.refl _⟩
  simp at q3
  simp only[zAR,zBn,zAZ] at q3
  apply zAb (k+1)
  ·exact .refl _
  ·exact frI
  ·exact trivial
  ·exact⟨oO,zAG ha (zTb (by first|assumption|exact fun e=>absurd e.symm aA))⟩
  omega
 simp at q0
 (have hke:k=xs.length:=oO;subst hke;exact⟨[],⟨by rw[zTJ ha],rfl⟩,.refl _⟩)
def zKj (s:List Int) (c:Int):Nat→Int
 | 0=>c
 | j+1=>zKj s c j / (s[s.length-1-j]?.getD 0)
def zGo (s:List Int) (c:Int) (i:Nat):Int:=zKj s c (s.length-1-i) % (s[i]?.getD 0)
def zX4 (s:List Int) (c:Int):List Int:=(List.range s.length).map (zGo s c)
theorem zX5 {s:List Int} {c:Int} {i:Nat} (h:i < s.length):(zX4 s c)[i]?.getD 0=zGo s c i:=by
 unfold zX4
 rw[List.getElem?_map,List.getElem?_range h];rfl
theorem zOD {s:List Int} {c:Int} (hs:shK s s.length=true) (h:0≤c∧c≤8):∀ j,j≤s.length→0≤zKj s c j∧zKj s c j≤8
 | 0,_=>h
 | j+1,hj=>by
  have ih:=zOD hs h j oO
  have h1:=zAq.1 (zBe hs (s.length-1-j) oO)
  unfold zKj
  refine⟨Int.ediv_nonneg ih.1 oO,Int.le_trans (Int.ediv_le_self _ ih.1) ih.2⟩
end
end Go.Proofs.YtcnclhjhnjpeiaaGreat
namespace Go.SX
section
variable {P:Program} {E:World} {Γ:Ty} {n:Nat} {α:Type} {f:Fl α}
theorem zLr (f:Fl α):∀ l:List α,zBP (l.flatMap f.enc)=true:=by
 intro l
 induction l with
 | nil=>rfl
 | cons x r ih=>
  rw[List.flatMap_cons]
  exact zFw _ _ (f.one x) ih
theorem z3m {H:Hp} {b:Option Addr} {k c:Nat} {ys:List α} (h:(zF0 f.rp).rd H [.slice b k c] ys) (q:Nat) (hq:q≤k):(zF0 f.rp).rd H [.slice b q c] (ys.take q):=by
 obtain⟨b',c',e,h1,h2⟩:=h
 cases e
 refine⟨b,c,by rw[List.length_take,Nat.min_eq_left hq],⟨by rw[List.length_take];omega,by rw[List.length_take];omega⟩,fun i hi=>?_⟩
 rw[List.length_take] at hi
 obtain⟨b',o,l',h3,h4,h5⟩:=h2 i oO
 exact⟨b',o,l',h3,h4,by rw[List.getElem_take];exact h5⟩
theorem zQn {size q:Nat} {b:Option Addr} {k k' c c':Nat}:Builtin.firstCells size q (.slice b k c)=Builtin.firstCells size q (.slice b k' c'):=by cases b<;>rfl
theorem zR6 (hΓ:zD3 P Γ) {dst:Option Nat} {d s:Operand} {dT sT e ty:TypeId} {pos:String} {after:Array Edge} {guard:Option (Nat×Bool)} {fr:Fr} {bl:List Blk} {R:List Hp} {K:St→Prop} {ti:TI}
  (i:Nat) {A:Hp} {base b2:Option Addr} {m cap l dl dc k c2:Nat} {xs ys:List α} (hi:zV0 R i=some A) (ho:Ow f e (.slice base m cap) xs A)
  (hd1:zCK fr d fun sv=>sv = .v (.slice (zCB cap l base f.size) dl dc)) (hs1:zCK fr s fun sv=>sv = .v (.slice b2 k c2))
  (hr2:(zF0 f.rp).rd (St.hall ⟨[],bl,R⟩) [.slice b2 k c2] ys) (hy:∀ y∈ys,f.wf y) (hl:l+dl≤m)
  (hsT:zCp Γ dT=some (.slice e)) (ht:zFV Γ e=some ti) (hsz:ti.size=f.size)
  (hk:∀ A',Ow f e (.slice base m cap) (xs.take l++(ys.take (min k dl)++xs.drop (l+min k dl))) A'→zFs n fr dst (.v (.int .i64 ((min k dl:Nat):Int))) fun fr=>K ⟨fr,bl,zNZ R i A'⟩) :
  VCraw P E n ⟨dst,.call ⟨.builtin .copy,#[d,s],#[dT,sT]⟩,ty,pos,after,guard⟩ ⟨fr,bl,R⟩ K:=by
 refine⟨fun a w hr Q=>?_⟩
 obtain⟨sv,g1,_,rfl⟩:=zBi hr hd1
 obtain⟨sv,g2,_,rfl⟩:=zBi hr hs1
 obtain⟨pre,post,e1,e2'⟩:=zDx hi
 have perm:∀ C:Hp,(St.hall ⟨[],bl,pre++C::post⟩).Perm (C++St.hall ⟨[],bl,pre++post⟩):=by
  intro C
  simp only[St.hall,List.flatten_append,List.flatten_cons]
  have:=List.perm_append_comm (l₁:=List.map Blk.ent bl++pre.flatten) (l₂:=C)
  have:=this.append_right post.flatten
  simpa only[List.append_assoc] using this
 have hk2:k=ys.length:=by obtain⟨_,_,e,_⟩:=hr2;cases e;rfl
 have hpre:=z3m hr2 (min k dl) (Nat.min_le_left _ _)
 have hrow:=(zJn (f:=f) hpre (P:=P) hr.sat).2
 subst e1
 have hsat:Sat E (A++St.hall ⟨[],bl,pre++post⟩) w:=hr.sat.perm (perm A)
 have key:∃ A' w',(Builtin.copy_ #[dT,sT] ty #[.slice (if cap=l then base else base.map (·.add (l * f.size))) dl dc,.slice b2 k c2]).run P w = .ok (.int .i64 ((min k dl:Nat):Int)) w'∧Ow f e (.slice base m cap) (xs.take l++(ys.take (min k dl)++xs.drop (l+min k dl))) A'∧Sat E (A'++St.hall ⟨[],bl,pre++post⟩) w':=by
  have hu:=zBa hΓ hsT
  obtain⟨hw,hlen,base0,cap0,e0,h2⟩:=ho
  cases e0
  have hwf:∀ x∈xs.take l++(ys.take (min k dl)++xs.drop (l+min k dl)),f.wf x:=by
   intro x hx
   rcases List.mem_append.1 hx with hx|hx
   ·exact hw x (List.mem_of_mem_take hx)
   rcases List.mem_append.1 hx with hx|hx
   ·exact hy x (List.mem_of_mem_take hx)
   exact hw x (List.mem_of_mem_drop hx)
  have hln:(xs.take l++(ys.take (min k dl)++xs.drop (l+min k dl))).length=xs.length:=by
   simp only[List.length_append,List.length_take,List.length_drop];omega
  unfold Builtin.copy_
  simp only[List.getElem?_toArray,List.getElem?_cons_zero,List.getElem?_cons_succ,Sem.run_bind,run_underlying hu,Result.andThen_ok,zEX hΓ ht,hsz,Sem.run_pure,Builtin.lenOf]
  rw[show Nat.min k dl=min k dl from rfl]
  rw[zQn (k':=min k dl) (c':=c2),hrow]
  simp only[Result.andThen_ok]
  rcases h2 with ⟨rfl,rfl,rfl⟩|⟨b,sp,rfl,rfl,h3,h4⟩
  ·have h0:min k dl=0:=by simp at hl;omega
   have hl0:l=0:=by simp at hl;omega
   refine⟨[],w,?_,?_,hsat⟩
   ·rw[h0,hl0]
    cases base with
    | none=>rfl
    | some a=>rfl
   rw[h0,hl0]
   exact⟨fun x hx=>(by simp at hx),by simp,base,0,rfl,.inl ⟨rfl,rfl,rfl⟩⟩
  by_cases h0:min k dl=0
  ·refine⟨_,w,?_,?_,hsat⟩
   ·rw[h0]
    generalize (if cap=l then some (Addr.mk b 0 none) else (some (Addr.mk b 0 none)).map (·.add (l * f.size)))=q
    cases q<;>rfl
   rw[h0]
   simp only[List.take_zero,List.nil_append,Nat.add_zero,List.take_append_drop]
   exact⟨hw,hlen,_,_,rfl,.inr ⟨b,sp,rfl,rfl,h3,h4⟩⟩
  have hfl:=zAQ f xs
  have hfy:=zAQ f (ys.take (min k dl))
  rw[List.length_take,Nat.min_eq_left (show min k dl≤ys.length from oO)] at hfy
  have hm1:=Nat.mul_le_mul_right f.size (show l+min k dl≤xs.length from oO)
  have hm2:(l+min k dl) * f.size=l * f.size+min k dl * f.size:=Nat.add_mul _ _ _
  have hbound:l * f.size+((ys.take (min k dl)).flatMap f.enc).length≤(xs.flatMap f.enc++sp).length:=by
   rw[List.length_append,hfl,hfy];omega
  obtain⟨w',h5,h6⟩:=zB6 (P:=P) (A:=[]) (o:=l * f.size) (l:=(ys.take (min k dl)).flatMap f.enc) hsat hbound (zLr f _)
  refine⟨[(b,Obj.cells ⟨zB2 (xs.flatMap f.enc++sp) (l * f.size) ((ys.take (min k dl)).flatMap f.enc)⟩ e)],w',?_,?_,h6⟩
  ·rw[if_neg oO]
   simp only[Option.map_some,zCx,Nat.zero_add,Sem.run_bind,h5,Result.andThen_ok,Sem.run_pure]
   rfl
  refine⟨hwf,by rw[hln];exact hlen,some ⟨b,0,none⟩,cap,by rw[hln],.inr ⟨b,sp,rfl,?_,by rw[hln];exact h3,by rw[hln];exact h4⟩⟩
  have e3:zB2 (xs.flatMap f.enc++sp) (l * f.size) ((ys.take (min k dl)).flatMap f.enc)=(xs.take l++(ys.take (min k dl)++xs.drop (l+min k dl))).flatMap f.enc++sp:=by
   have hx:xs=xs.take l++((xs.drop l).take (min k dl)++xs.drop (l+min k dl)):=by
    rw[←List.drop_drop,List.take_append_drop,List.take_append_drop]
   have h7:=zAQ f (xs.take l)
   rw[List.length_take,show min l xs.length=l from oO] at h7
   have h8:=zAQ f ((xs.drop l).take (min k dl))
   rw[List.length_take,List.length_drop,show min (min k dl) (xs.length-l)=min k dl from oO] at h8
   rw[zC3 _ _ _ hbound,hfy]
   conv=>lhs;rw[hx]
   simp only[List.flatMap_append,List.append_assoc]
   have e9:∀ (A B C:List Value),List.drop (A++B).length (A++(B++C))=C:=fun A B C=>by rw[←List.append_assoc,List.drop_left]
   rw[←h7,List.take_left,←h8,←List.length_append,e9]
  rw[←e3]
 obtain⟨A',w',h1,h2,h3⟩:=key
 have hr':Rel E n ⟨fr,bl,zNZ (pre++A::post) i A'⟩ a w':=by
  rw[e2']
  exact hr.ids rfl (h3.perm (perm A').symm)
 refine zCM (s:=.v _) (v:=.int .i64 ((min k dl:Nat):Int)) ?_ hr' rfl trivial (hk A' h2)
 simp only[execOp,resolve,invoke,builtin,Sem.run_bind,Sem.run_pure,Result.andThen_ok]
 rw[show (#[d,s]:Array Operand).map a.eval=#[a.eval d,a.eval s] from by simp,g1,g2]
 simp only[SV.den,zCL]
 rw[h1];rfl
theorem z1H (hΓ:zD3 P Γ) {dst:Option Nat} {d s:Operand} {dT sT e ty:TypeId} {pos:String} {after:Array Edge} {guard:Option (Nat×Bool)} {fr:Fr} {bl:List Blk} {R:List Hp} {K:St→Prop} {ti:TI}
  (i:Nat) {A:Hp} {base b2:Option Addr} {m cap l dl dc k c2 q:Nat} {xs ys:List α} (hi:zV0 R i=some A) (ho:Ow f e (.slice base m cap) xs A)
  (hd1:zCK fr d fun sv=>sv = .v (.slice (zCB cap l base f.size) dl dc)) (hs1:zCK fr s fun sv=>sv = .v (.slice b2 k c2))
  (hr2:(zF0 f.rp).rd (St.hall ⟨[],bl,R⟩) [.slice b2 q c2] ys) (hq:q=min k dl) (hy:∀ y∈ys,f.wf y) (hl:l≤m) (hlc:l+q≤cap) (hmq:m≤l+q) (hq0:0 < q) (hlen2:l+q≤9223372036854775807)
  (hsT:zCp Γ dT=some (.slice e)) (ht:zFV Γ e=some ti) (hsz:ti.size=f.size)
  (hk:∀ A',Ow f e (.slice base (l+q) cap) (xs.take l++ys) A'→zFs n fr dst (.v (.int .i64 ((min k dl:Nat):Int))) fun fr=>K ⟨fr,bl,zNZ R i A'⟩) :
  VCraw P E n ⟨dst,.call ⟨.builtin .copy,#[d,s],#[dT,sT]⟩,ty,pos,after,guard⟩ ⟨fr,bl,R⟩ K:=by
 refine⟨fun a w hr Q=>?_⟩
 obtain⟨sv,g1,_,rfl⟩:=zBi hr hd1
 obtain⟨sv,g2,_,rfl⟩:=zBi hr hs1
 obtain⟨pre,post,e1,e2'⟩:=zDx hi
 have perm:∀ C:Hp,(St.hall ⟨[],bl,pre++C::post⟩).Perm (C++St.hall ⟨[],bl,pre++post⟩):=by
  intro C
  simp only[St.hall,List.flatten_append,List.flatten_cons]
  have:=List.perm_append_comm (l₁:=List.map Blk.ent bl++pre.flatten) (l₂:=C)
  have:=this.append_right post.flatten
  simpa only[List.append_assoc] using this
 obtain⟨hk2,hrow⟩:=zJn (f:=f) hr2 (P:=P) hr.sat
 subst hk2
 subst e1
 have hsat:Sat E (A++St.hall ⟨[],bl,pre++post⟩) w:=hr.sat.perm (perm A)
 have key:∃ A' w',(Builtin.copy_ #[dT,sT] ty #[.slice (if cap=l then base else base.map (·.add (l * f.size))) dl dc,.slice b2 k c2]).run P w = .ok (.int .i64 ((min k dl:Nat):Int)) w'∧Ow f e (.slice base (l+ys.length) cap) (xs.take l++ys) A'∧Sat E (A'++St.hall ⟨[],bl,pre++post⟩) w':=by
  have hu:=zBa hΓ hsT
  obtain⟨hw,hlen,base0,cap0,e0,h2⟩:=ho
  cases e0
  have hwf:∀ x∈xs.take l++ys,f.wf x:=by
   intro x hx
   rcases List.mem_append.1 hx with hx|hx
   ·exact hw x (List.mem_of_mem_take hx)
   exact hy x hx
  have hln:(xs.take l++ys).length=l+ys.length:=by
   simp only[List.length_append,List.length_take];omega
  unfold Builtin.copy_
  simp only[List.getElem?_toArray,List.getElem?_cons_zero,List.getElem?_cons_succ,Sem.run_bind,run_underlying hu,Result.andThen_ok,zEX hΓ ht,hsz,Sem.run_pure,Builtin.lenOf]
  rw[show Nat.min k dl=min k dl from rfl,←hq]
  rw[zQn (k':=ys.length) (c':=c2),hrow]
  simp only[Result.andThen_ok]
  rcases h2 with ⟨rfl,rfl,rfl⟩|⟨b,sp,rfl,rfl,h3,h4⟩
  ·omega
  have hfl:=zAQ f xs
  have hfy:=zAQ f ys
  have hfx:=zAQ f (xs.take l)
  rw[List.length_take,show min l xs.length=l from oO] at hfx
  have hm1:=Nat.mul_le_mul_right f.size (show l+ys.length≤cap from oO)
  have hm2:(l+ys.length) * f.size=l * f.size+ys.length * f.size:=Nat.add_mul _ _ _
  have hm4:xs.length * f.size+(cap-xs.length) * f.size=cap * f.size:=by rw[←Nat.add_mul];congr 1;omega
  have hm5:=Nat.mul_le_mul_right f.size (show xs.length≤l+ys.length from oO)
  have hm6:=Nat.mul_le_mul_right f.size (show l≤xs.length from oO)
  have hbound:l * f.size+(ys.flatMap f.enc).length≤(xs.flatMap f.enc++sp).length:=by
   rw[List.length_append,hfl,hfy];omega
  obtain⟨w',h5,h6⟩:=zB6 (P:=P) (A:=[]) (o:=l * f.size) (l:=ys.flatMap f.enc) hsat hbound (zLr f _)
  refine⟨[(b,Obj.cells ⟨zB2 (xs.flatMap f.enc++sp) (l * f.size) (ys.flatMap f.enc)⟩ e)],w',?_,?_,h6⟩
  ·rw[if_neg oO]
   simp only[Option.map_some,zCx,Nat.zero_add,Sem.run_bind,h5,Result.andThen_ok,Sem.run_pure]
   rfl
  refine⟨hwf,by rw[hln];exact hlen2,some ⟨b,0,none⟩,cap,by rw[hln],.inr ⟨b,(xs.flatMap f.enc++sp).drop (l * f.size+ys.length * f.size),rfl,?_,by rw[hln];omega,?_⟩⟩
  ·have e3:zB2 (xs.flatMap f.enc++sp) (l * f.size) (ys.flatMap f.enc)=(xs.take l++ys).flatMap f.enc++(xs.flatMap f.enc++sp).drop (l * f.size+ys.length * f.size):=by
    rw[zC3 _ _ _ hbound,hfy,List.flatMap_append]
    congr 2
    have:xs.flatMap f.enc=(xs.take l).flatMap f.enc++(xs.drop l).flatMap f.enc:=by rw[←List.flatMap_append,List.take_append_drop]
    rw[this,List.append_assoc,←hfx,List.take_left]
   rw[←e3]
  have hm7:(cap-(l+ys.length)) * f.size=cap * f.size-(l+ys.length) * f.size:=Nat.sub_mul _ _ _
  rw[hln,List.length_drop,List.length_append,hfl]
  omega
 obtain⟨A',w',h1,h2,h3⟩:=key
 have hr':Rel E n ⟨fr,bl,zNZ (pre++A::post) i A'⟩ a w':=by
  rw[e2']
  exact hr.ids rfl (h3.perm (perm A').symm)
 refine zCM (s:=.v _) (v:=.int .i64 ((min k dl:Nat):Int)) ?_ hr' rfl trivial (hk A' h2)
 simp only[execOp,resolve,invoke,builtin,Sem.run_bind,Sem.run_pure,Result.andThen_ok]
 rw[show (#[d,s]:Array Operand).map a.eval=#[a.eval d,a.eval s] from by simp,g1,g2]
 simp only[SV.den,zCL]
 rw[h1];rfl
end
end Go.SX
namespace Go.SX
section
variable {P:Program} {E:World} {Γ:Ty} {n:Nat} {α:Type} {f:Fl α}
theorem zJR (hΓ:zD3 P Γ) {sT xT e ty:TypeId} {ti:TI} {kn:IntKind} (hsT:P.underlying sT=some (.slice e)) (hxT:P.underlying xT=some (.int kn)) (ht:zFV Γ e=some ti) (hsz:ti.size=f.size)
  {z:α} (hz:ti.zero.cells.toList=f.enc z) (hzw:f.wf z)
  {H:Hp} {w:World} {base:Option Addr} {m cap k:Nat} {xs:List α} (hs:Sat E H w) (hx:(zF0 f.rp).rd H [.slice base m cap] xs) (hw:∀ x∈xs,f.wf x)
  (hk:0 < k) (hfit:cap < m+k) (hlen:m+k≤1073741824) (hby:ti.bytes≤65536) :
  ∃ base' cap' A' w',(Builtin.append_ #[sT,xT] ty #[.slice base m cap,.int .i64 (k:Int)]).run P w = .ok (.slice base' (xs++List.replicate k z).length cap') w'∧Ow f e (.slice base' (xs++List.replicate k z).length cap') (xs++List.replicate k z) A'∧Sat E (A'++H) w':=by
 obtain⟨hmx,hrow⟩:=zJn (f:=f) hx (P:=P) hs
 subst hmx
 obtain⟨i,hi,hib,_,_⟩:=zNT hΓ ht
 have hwr:IntKind.i64.wrap (k:Int)=(k:Int):=zRy (by unfold okI;omega)
 have hkb:k * ti.bytes≤1073741824 * 65536:=Nat.mul_le_mul oO hby
 have hcap:Builtin.nextslicecap (xs.length+k) cap * ti.bytes≤281474976710656:=by
  have h7:=zMM (xs.length+k) cap oO
  have h8:=Nat.mul_le_mul h7 hby
  omega
 have hdrew:∀ {H:Hp},Sat E H w→Sat E H { w with drawn:=w.drawn+1 }:=fun h=>⟨h.os,h.out,h.tape,h.mem,h.nodup,Nat.le_trans h.dr (Nat.le_succ _)⟩
 have hrow':=(zJn (f:=f) hx (P:=P) (hdrew hs)).2
 have hmax:IntKind.i64.max=9223372036854775807:=rfl
 have hkb':¬((k:Int) * (ti.bytes:Int) > 2 ^ 48):=by
  rw[←Int.natCast_mul];omega
 have hneg:¬((k:Int) < 0):=by omega
 have hns:¬(k * f.size=0):=Nat.mul_ne_zero oO (by have:=f.pos;omega)
 have hfit':¬(xs.length+k≤cap):=by omega
 have hif:¬(Builtin.nextslicecap (xs.length+k) cap * ti.bytes > 2 ^ 48):=by omega
 unfold Builtin.append_
 simp only[List.getElem?_toArray,List.getElem?_cons_zero,List.getElem?_cons_succ,Sem.run_bind,run_underlying hsT,run_underlying hxT,Result.andThen_ok,zEX hΓ ht,hsz,Sem.run_pure,if_true,asInt,asIntOf,hwr,hneg,if_false,typeInfo,run_program,hi,hib,hkb',Int.toNat_natCast,hfit',Bool.not_true,Bool.false_eq_true,hns]
 rw[if_neg (by rw[hmax];rintro ⟨h10,_⟩;omega)]
 simp only[Sem.run_bind,run_program,Result.andThen_ok,hi,Sem.run_pure,hib]
 rw[if_neg hif]
 simp only[Sem.run_bind,run_program,Result.andThen_ok,hi,Sem.run_pure,run_choose,Question.forced,Bool.false_eq_true,if_false,run_askRoom,hrow',zIJ hΓ ht,newRow,run_newObj]
 have hq:xs.length+k≤(Question.appendCap (xs.length+k) cap e).cut (w.tape w.drawn (.appendCap (xs.length+k) cap e)):=by
  simp only[Question.cut];omega
 generalize (Question.appendCap (xs.length+k) cap e).cut (w.tape w.drawn (.appendCap (xs.length+k) cap e))=c at hq
 rw[zF1,zF1]
 have hlenz:(xs++List.replicate k z).length=xs.length+k:=by simp
 have hzz:∀ j,zAX j ti.zero.cells.toList=(List.replicate j z).flatMap f.enc:=by
  intro j
  induction j with
  | zero=>rfl
  | succ j ih=>rw[zAX,ih,List.replicate_succ,List.flatMap_cons,hz]
 refine⟨some ⟨w.heap.size,0,none⟩,c,[(w.heap.size,Obj.cells ⟨(xs++List.replicate k z).flatMap f.enc++zAX (c-(xs.length+k)) ti.zero.cells.toList⟩ e)],_,by rw[hlenz],?_,?_⟩
 ·refine⟨?_,by rw[hlenz];omega,some ⟨w.heap.size,0,none⟩,c,rfl,.inr ⟨w.heap.size,_,rfl,rfl,by rw[hlenz];exact hq,?_⟩⟩
  ·intro x hx
   rcases List.mem_append.1 hx with hx|hx
   ·exact hw x hx
   rw[List.eq_of_mem_replicate hx];exact hzw
  rw[zCC,hz,hlenz]
  refine Nat.le_of_eq (Eq.symm ?_)
  congr 1
  have:=zAQ f [z]
  simpa using this
 have h11:=(hdrew hs).push (Obj.cells ⟨(xs++List.replicate k z).flatMap f.enc++zAX (c-(xs.length+k)) ti.zero.cells.toList⟩ e)
 have e1:((⟨xs.flatMap f.enc⟩:Array Value)++(⟨zAX k ti.zero.cells.toList⟩:Array Value)++(⟨zAX (c-(xs.length+k)) ti.zero.cells.toList⟩:Array Value))=⟨(xs++List.replicate k z).flatMap f.enc++zAX (c-(xs.length+k)) ti.zero.cells.toList⟩:=by
  apply Array.ext'
  simp [hzz]
 rw[e1]
 exact h11
theorem zJz (hΓ:zD3 P Γ) {dst:Option Nat} {s x:Operand} {sT xT e ty:TypeId} {pos:String} {after:Array Edge} {guard:Option (Nat×Bool)} {fr:Fr} {bl:List Blk} {R:List Hp} {K:St→Prop} {ti:TI} {kn:IntKind}
  {z:α} {base:Option Addr} {m cap k:Nat} {xs:List α}
  (hs1:zCK fr s fun sv=>sv = .v (.slice base m cap)) (hx1:zCK fr x fun sv=>sv = .v (.int .i64 (k:Int)))
  (hr2:(zF0 f.rp).rd (St.hall ⟨[],bl,R⟩) [.slice base m cap] xs) (hw:∀ x∈xs,f.wf x)
  (hsT:zCp Γ sT=some (.slice e)) (hxT:zCp Γ xT=some (.int kn)) (ht:zFV Γ e=some ti) (hsz:ti.size=f.size) (hz:ti.zero.cells.toList=f.enc z) (hzw:f.wf z)
  (hby:Nat.ble ti.bytes 65536=true) (hk0:0 < k) (hfit:cap < m+k) (hlen:m+k≤1073741824)
  (hk:∀ base' cap' A',Ow f e (.slice base' (xs++List.replicate k z).length cap') (xs++List.replicate k z) A'→zFs n fr dst (.v (.slice base' (xs++List.replicate k z).length cap')) fun fr=>K ⟨fr,bl,A'::R⟩) :
  VCraw P E n ⟨dst,.call ⟨.builtin .append,#[s,x],#[sT,xT]⟩,ty,pos,after,guard⟩ ⟨fr,bl,R⟩ K:=by
 refine⟨fun a w hr Q=>?_⟩
 obtain⟨sv,g1,_,rfl⟩:=zBi hr hs1
 obtain⟨sv,g2,_,rfl⟩:=zBi hr hx1
 obtain⟨base',cap',A',w',h1,h2,h3⟩:=zJR (E:=E) (ty:=ty) hΓ (zBa hΓ hsT) (zBa hΓ hxT) ht hsz hz hzw hr.sat hr2 hw hk0 hfit hlen (Nat.le_of_ble_eq_true hby)
 have hr':Rel E n ⟨fr,bl,A'::R⟩ a w':=by
  refine hr.ids rfl (h3.perm ?_)
  simp only[St.hall,List.flatten_cons]
  rw[←List.append_assoc,←List.append_assoc]
  exact List.perm_append_comm.append_right _
 refine zCM (s:=.v _) (v:=.slice base' (xs++List.replicate k z).length cap') ?_ hr' rfl trivial (hk _ _ A' h2)
 simp only[execOp,resolve,invoke,builtin,Sem.run_bind,Sem.run_pure,Result.andThen_ok]
 rw[show (#[s,x]:Array Operand).map a.eval=#[a.eval s,a.eval x] from by simp,g1,g2]
 simp only[SV.den]
 rw[h1];rfl
theorem zOE {fi:FuncId} {fn:Func} {tS tR e:TypeId} {size:Nat} {bl:List Blk} {R:List Hp} {K:Value→List Blk→List Hp→Prop}
  (hf : P.funcs[fi]? = some fn) (hname : (fn.name == "runtime.NumGoroutine") = false) (hb : fn.body.isNone = true) (hn : Extern.findNext fn = none) (he : Extern.find fn = some (Extern.SlicesOverlaps.overlaps #[tS, tS] #[tR]))
  (ht:P.underlying tS=some (.slice e)) (hz:∀ w,(Go.sizeOf e).run P w = .ok size w) {a b:Addr} {la ca lb cb:Nat} {c1 c2:Array Value} {t1 t2:TypeId} {H:Hp}
  (hsp:(St.hall ⟨[],bl,R⟩).Perm ((b.block,Obj.cells c2 t2)::H)) (m1:(a.block,Obj.cells c1 t1)∈H) (h0:c2.size≠0) (hk:K (.bool false) bl R) :
  VCcall P E fi [.slice (some a) la ca,.slice (some b) lb cb] ⟨[],bl,R⟩ K:=by
 refine .ext fun w hs=>⟨.bool false,w,bl,R,?_,hs,rfl,hk⟩
 have hs2:=hs.perm hsp
 have e1:=hs2.mem _ _ (List.mem_cons_of_mem _ m1)
 have e2:=hs2.mem _ _ (List.mem_cons_self ..)
 have hne:a.block≠b.block:=by
  have h1:=hs2.nodup
  rw[List.map_cons,List.nodup_cons] at h1
  intro e
  exact h1.1 (List.mem_map.2 ⟨_,m1,e⟩)
 rw[run_callFunc_extern hf hname hb hn he,show (⟨[.slice (some a) la ca,.slice (some b) lb cb]⟩:Array Value)=#[.slice (some a) la ca,.slice (some b) lb cb] from rfl,
  Lib.run_overlaps_apart w tS tR e ht size hz a b la ca lb cb hne t1 t2 c1.size c2.size (by simp [World.shape?,e1]) (by simp [World.shape?,e2]) h0 (by simp [World.frozen?,e1]) (by simp [World.frozen?,e1])]
 rfl
end
end Go.SX
namespace Go.Proofs.YtcnclhjhnjpeiaaGreat
open Go.SX Go.Proofs
open Tryz
section
theorem z1I {α:Type} {ls:List α} {y z:α} {i L k m1 m2:Nat} (hi:i < ls.length) (hk:k=ls.length+1-i) (hm1:m1=1) (hL:L=i+1) (hm2:m2=ls.length-i) :
  ((ls.take i++List.replicate k z).take i++([y].take m1++(ls.take i++List.replicate k z).drop (i+m1))).take L++(((ls.take ls.length).drop i).take m2++((ls.take i++List.replicate k z).take i++([y].take m1++(ls.take i++List.replicate k z).drop (i+m1))).drop (L+m2))=ls.take i++([y]++ls.drop i):=by
 subst hk hm1 hL hm2
 have h1:(ls.take i).length=i:=by rw[List.length_take];omega
 have e1:(ls.take i++List.replicate (ls.length+1-i) z).take i=ls.take i:=by
  conv=>lhs;arg 1;rw[←h1]
  rw[List.take_left]
 rw[e1,List.take_length,show [y].take 1=[y] from rfl]
 rw[List.take_of_length_le (show (ls.drop i).length≤ls.length-i by rw[List.length_drop];omega)]
 have e2:(ls.take i++([y]++(ls.take i++List.replicate (ls.length+1-i) z).drop (i+1))).take (i+1)=ls.take i++[y]:=by
  rw[←List.append_assoc,show i+1=(ls.take i++[y]).length by rw[List.length_append,h1];rfl,List.take_left]
 have e3:(ls.take i++([y]++(ls.take i++List.replicate (ls.length+1-i) z).drop (i+1))).drop (i+1+(ls.length-i))=[]:=
  List.drop_eq_nil_of_le (by simp only[List.length_append,h1,List.length_drop,List.length_replicate,List.length_cons,List.length_nil];omega)
 rw[e2,e3,List.append_nil,List.append_assoc]
theorem z1J {α:Type} {ls:List α} {y:α} {i L m1:Nat} (hi:i < ls.length) (hm1:m1=1) (hL:L=i+1) :
  (ls.take L++(ls.take ls.length).drop i).take i++([y].take m1++(ls.take L++(ls.take ls.length).drop i).drop (i+m1))=ls.take i++([y]++ls.drop i):=by
 subst hm1 hL
 have h1:(ls.take (i+1)).length=i+1:=by rw[List.length_take];omega
 rw[List.take_append_of_le_length oO,List.take_take,Nat.min_eq_left oO,List.take_length,show [y].take 1=[y] from rfl]
 congr 2
 conv=>lhs;arg 1;rw[←h1]
 rw[List.drop_left]
theorem z41 {α:Type} {f:Fl α} {T:TypeId} {b:Option Addr} {m c:Nat} {xs:List α} {A:Hp} (h:Ow f T (.slice b m c) xs A) (h0:0 < xs.length):∃ bb cs,b=some ⟨bb,0,none⟩∧A=[(bb,Obj.cells ⟨cs⟩ T)]∧cs.length≠0:=by
 obtain⟨_,_,b0,c0,e,h2⟩:=h
 cases e
 rcases h2 with ⟨rfl,rfl,rfl⟩|⟨bb,sp,rfl,rfl,_,_⟩
 ·exact absurd h0 (Nat.lt_irrefl 0)
 refine⟨bb,_,rfl,rfl,?_⟩
 rw[List.length_append,zAQ]
 have h3:0 < f.size:=f.pos
 have:=Nat.mul_le_mul h0 h3
 simp at this;omega
theorem z7u {c l bb sz:Nat} (h:l < c):zCB (c-0) l (zCB c 0 (some ⟨bb,0,none⟩) sz) sz=some ⟨bb,0+l * sz,none⟩:=by
 have h0:zCB c 0 (some ⟨bb,0,none⟩) sz=some ⟨bb,0,none⟩:=by
  rw[zCL];split
  ·rfl
  rw[Option.map_some,zCx];simp
 rw[h0,zCL,if_neg oO,Option.map_some,zCx]
end
section
attribute [local irreducible] IntKind.wrap
theorem z7v {E:World} {bl:List Blk} {R:List Hp} {K:Value→List Blk→List Hp→Prop} {a b:Addr} {la ca lb cb:Nat} {c1 c2:Array Value} {t1 t2:TypeId} {H:Hp}
  (hsp:(St.hall ⟨[],bl,R⟩).Perm ((b.block,Obj.cells c2 t2)::H)) (m1:(a.block,Obj.cells c1 t1)∈H) (h0:c2.size≠0) (hk:K (.bool false) bl R) :
  VCcall prog E 179 [.slice (some a) la ca,.slice (some b) lb cb] ⟨[],bl,R⟩ K:=
 zOE (tS:=45) (tR:=4) func179 (by kernel_rfl) (by kernel_rfl) (by kernel_rfl) (by kernel_rfl) underlying45 Tryz.sizeOf100 hsp m1 h0 hk
theorem z42 {E:World} {bl:List Blk} {R:List Hp} {K:Value→List Blk→List Hp→Prop} {x bb c l sz la ca lb cb:Nat} {c1 c2:Array Value} {t1 t2:TypeId} {H:Hp} (hl:l < c)
  (hsp:(St.hall ⟨[],bl,R⟩).Perm ((bb,Obj.cells c2 t2)::H)) (m1:(x,Obj.cells c1 t1)∈H) (h0:c2.size≠0) (hk:K (.bool false) bl R) :
  VCcall prog E 179 [.slice (some ⟨x,0,none⟩) la ca,.slice (zCB (c-0) l (zCB c 0 (some ⟨bb,0,none⟩) sz) sz) lb cb] ⟨[],bl,R⟩ K:=by
 rw[z7u hl]
 exact z7v (b:=⟨bb,0+l * sz,none⟩) (a:=⟨x,0,none⟩) hsp m1 h0 hk
theorem zOF (b:Option Addr) (m c i x:Nat) (ls:List (zC4 zAo.size)) (y:zC4 zAo.size) (A:Hp) (hA:Ow (zBF zAo.size zAo.pos) 100 (.slice b m c) ls A) (hi:i≤m) (hm:m≤1000000) :
  CtR prog 140 [.slice b m c,.int .i64 (i:Int),.slice (some ⟨x,0,none⟩) 1 1] A (fun H=>(zF0 (zBF zAo.size zAo.pos).rp).rd H [.slice (some ⟨x,0,none⟩) 1 1] [y]∧(x,Obj.cells ⟨y.1⟩ 100)∈H)
   (fun v A=>∃ b c,v = .slice b (m+1) c∧Ow (zBF zAo.size zAo.pos) 100 (.slice b (m+1) c) (ls.take i++([y]++ls.drop i)) A):=by
 refine CtR.intro zAh [A] func140 rfl rfl rfl sI fun E H hp=>?_
 obtain⟨hp,hmem⟩:=hp
 obtain⟨rfl,hlm⟩:=zBo hA.rd
 have hcl:=z29 hA.rd
 have hwA:IntKind.i64.wrap (IntKind.i64.wrap ((ls.length:Int)+((1:Nat):Int))-(i:Int))=((ls.length+1-i:Nat):Int):=by
  have e1:IntKind.i64.wrap ((ls.length:Int)+((1:Nat):Int))=(ls.length:Int)+1:=zAc oO oO
  rw[e1,zAc oO oO];omega
 have hwB:(IntKind.i64.wrap ((i:Int)+((1:Nat):Int))).toNat=i+1:=by
  have e1:IntKind.i64.wrap ((i:Int)+((1:Nat):Int))=(i:Int)+1:=zAc oO oO
  rw[e1];exact Int.toNat_natCast (i+1)
 have hwC:(IntKind.i64.wrap ((ls.length:Int)+((1:Nat):Int))).toNat=ls.length+1:=by
  have e1:IntKind.i64.wrap ((ls.length:Int)+((1:Nat):Int))=(ls.length:Int)+1:=zAc oO oO
  rw[e1];exact Int.toNat_natCast (ls.length+1)
 refine VC.intro ?_ ?_
 ·omega
 constructor<;>intro q0
 ·simp at q0
 simp at q0
 constructor<;>intro q1
 ·simp at q1
  refine zKR (f:=zBF zAo.size zAo.pos) zAh 0 rfl hA (Rp.mono _ (zAa 1 rfl) hp) (fun _ _=>trivial) rfl rfl rfl rfl rfl rfl rfl rfl ?_ fun b' c' A' o' hc'=>?_
  ·simp;omega
  (have hi0:i=ls.length:=oO;subst hi0;rw[show ls.take ls.length++([y]++ls.drop ls.length)=ls++[y] by simp];exact⟨_,⟨_,_,rfl,o'⟩,rlA⟩)
 simp at q1
 constructor<;>intro q2
 ·simp at q2
  simp (disch:=omega) only[zAc] at q2
  refine VC.intro ?_ ?_
  ·omega
  refine zJz (f:=zBF zAo.size zAo.pos) (z:=(⟨_,zEe (zAo.owrd zN7)⟩:zC4 zAo.size)) (xs:=ls.take i) (base:=b) (m:=i) (cap:=c) (k:=ls.length+1-i) zAh rfl (congrArg (fun v=>SV.v (Value.int .i64 v)) hwA) (z3m (Rp.mono _ (zAa 0 rfl) (Ow.rd hA)) i hi) (fun _ _=>trivial) rfl rfl rfl rfl rfl trivial rfl ?_ ?_ ?_ fun b' c' A' o'=>?_
  ·omega
  ·omega
  ·omega
  refine VC.intro ?_ ?_
  ·simp;omega
  refine zR6 (f:=zBF zAo.size zAo.pos) (l:=i) zAh 0 rfl o' rfl rfl (Rp.mono _ (zAa 2 rfl) hp) (fun _ _=>trivial) ?_ rfl rfl rfl fun A2 o2=>?_
  ·simp;omega
  refine zBr zAh zAK (some 8) (.q 0 (.q 1 (.q 2 (.q 3 (.q 4 (.q 5 (.q 6 (.q 7 (.tl 8 (.nil)))))))))) (by decide +kernel) ?_
  refine VC.intro ?_ ?_
  ·simp_all;omega
  refine VC.intro ?_ ?_
  ·omega
  refine zR6 (f:=zBF zAo.size zAo.pos) zAh 0 rfl o2 rfl rfl (zJo (l:=i) (h:=ls.length) (Rp.mono _ (zAa 1 rfl) (Ow.rd hA)) hi (Nat.le_refl _)) (fun _ _=>trivial) ?_ rfl rfl rfl fun A3 o3=>?_
  ·simp_all;omega
  (have hlz:(ls.take i++List.replicate (ls.length+1-i) (⟨_,zEe (zAo.owrd zN7)⟩:zC4 zAo.size)).length=ls.length+1:=(by simp only[List.length_append,List.length_take,List.length_replicate];omega);rw[z1I oO rfl (by simp only[List.length_append,List.length_take,List.length_replicate];omega) hwB (by simp only[hwB,List.length_append,List.length_take,List.length_replicate,List.length_drop,List.length_cons,List.length_nil];omega)] at o3;rw[hlz] at o3 ⊢;exact⟨_,⟨_,_,rfl,o3⟩,rlA⟩)
 simp at q2
 simp (disch:=omega) only[zAc] at q2
 obtain⟨bb,cs,rfl,rfl,hcs⟩:=z41 hA oO
 refine VC.intro ?_ ?_
 ·(simp (disch:=omega) only[zAc];omega)
 refine VC.intro ?_ ?_
 ·(simp (disch:=omega) only[zAc];omega)
 refine z42 (H:=H++[]) ?_ (.refl _) (List.mem_append_left _ hmem) (by simpa using hcs) ?_
 ·(simp (disch:=omega) only[zAc];omega)
 constructor<;>intro q4
 ·simp at q4
  refine zBr zAh zAK (some 8) (.q 0 (.q 1 (.q 2 (.q 3 (.q 4 (.q 5 (.q 6 (.q 7 (.tl 8 (.nil)))))))))) (by decide +kernel) ?_
  refine VC.intro ?_ ?_
  ·(simp (disch:=omega) only[zAc];omega)
  refine VC.intro ?_ ?_
  ·(simp (disch:=omega) only[zAc];omega)
  refine z1H (f:=zBF zAo.size zAo.pos) (l:=(IntKind.i64.wrap ((i:Int)+((1:Nat):Int))).toNat) (q:=ls.length-i) (ys:=(ls.take ls.length).drop i) zAh 0 rfl hA rfl rfl (zJo (l:=i) (h:=ls.length) (Rp.mono _ (zAa 0 rfl) (Ow.rd hA)) hi (Nat.le_refl _)) ?_ (fun _ _=>trivial) ?_ ?_ ?_ ?_ ?_ rfl rfl rfl fun A2 o2=>?_
  ·(simp (disch:=omega) only[zAc];omega)
  ·(simp (disch:=omega) only[zAc];omega)
  ·(simp (disch:=omega) only[zAc];omega)
  ·(simp (disch:=omega) only[zAc];omega)
  ·omega
  ·(simp (disch:=omega) only[zAc];omega)
  refine VC.intro ?_ ?_
  ·(simp (disch:=omega) only[zAc];omega)
  refine zR6 (f:=zBF zAo.size zAo.pos) (l:=i) zAh 0 rfl o2 rfl rfl (Rp.mono _ (zAa 1 rfl) hp) (fun _ _=>trivial) ?_ rfl rfl rfl fun A3 o3=>?_
  ·(simp (disch:=omega) only[zAc];omega)
  (have hlz:(IntKind.i64.wrap ((i:Int)+((1:Nat):Int))).toNat+(ls.length-i)=ls.length+1:=(by rw[hwB];omega);rw[z1J oO (by simp only[hwC];omega) hwB] at o3;rw[hlz] at o3;rw[hwC];exact⟨_,⟨_,_,rfl,o3⟩,rlA⟩)
 simp at q4
theorem zLs {α:Type} {g:Gt α} {ls:List (zC4 g.size)} {xs:List α} {As:List Hp} (h:OwL g ls xs As):∀ i:Nat,OwL g (ls.drop i) (xs.drop i) (As.drop i):=by
 induction h with
 | nil=>intro i;simp;exact .nil
 | cons h hr ih=>
  intro i
  cases i with
  | zero=>exact .cons h hr
  | succ i=>exact ih i
theorem zGN (b:Option Addr) (m c i x:Nat) (xs:List Item) (e:Item) (l:List Value) (A B:Hp) (hA:(gSl 100 zAo).ow [.slice b m c] xs A) (hl:zAo.ow l e B) (hi:i≤m) (hm:m≤1000000) :
  CtR prog 140 [.slice b m c,.int .i64 (i:Int),.slice (some ⟨x,0,none⟩) 1 1] (A++B) (fun H=>(x,Obj.cells ⟨l⟩ 100)∈H)
   (fun v A=>∃ b c,v = .slice b (xs.take i++([e]++xs.drop i)).length c∧(gSl 100 zAo).ow [.slice b (xs.take i++([e]++xs.drop i)).length c] (xs.take i++([e]++xs.drop i)) A):=by
 obtain⟨v,ls,A0,As,ev,ho,hp,hL⟩:=hA
 cases ev
 have hlen:=hL.len
 have hm0:m=ls.length:=by obtain⟨_,_,_,_,e0,_⟩:=ho;cases e0;rfl
 have hr:=zOF b m c i x ls ⟨l,zEe (zAo.owrd hl)⟩ A0 ho hi hm
 refine⟨hr.1,fun E H w hs hpre=>?_⟩
 have hs':Sat E (A0++(As.flatten++(B++H))) w:=by
  refine hs.perm ?_
  have:=hp.append_right (B++H)
  simpa [List.append_assoc] using this
 refine (hr.2 E (As.flatten++(B++H)) w hs' ⟨?_,List.mem_append_right _ (List.mem_append_right _ hpre)⟩).mono ?_
 ·exact z27 (f:=zBF zAo.size zAo.pos) (List.mem_append_right _ (List.mem_append_right _ hpre)) rfl trivial
 rintro e' w' ⟨v,A1,h1,⟨b',c',h2,h3⟩,h4⟩
 have hlx:(xs.take i++([e]++xs.drop i)).length=m+1:=by
  simp only[List.length_append,List.length_take,List.length_drop,List.length_cons,List.length_nil];omega
 refine⟨v,A1++(As.flatten++B),h1,⟨b',c',by rw[hlx];exact h2,?_⟩,by simpa [List.append_assoc] using h4⟩
 rw[hlx]
 refine⟨_,_,A1,As.take i++([B]++As.drop i),rfl,h3,?_,(hL.take i).append (OwL.append (.cons hl .nil) (zLs hL i))⟩
 refine List.Perm.append_left _ ?_
 conv=>lhs;arg 1;rw[←List.take_append_drop i As]
 simp only[List.flatten_append,List.flatten_cons,List.flatten_nil,List.append_nil,List.append_assoc]
 refine List.Perm.append_left _ ?_
 exact List.perm_append_comm
end
section
def z43 (s:List Int) (al:Nat→Int→Bool) (k:Nat):List Int:=((List.range (s[k]?.getD 0).toNat).map fun i=>((i:Nat):Int)).filter (al k)
def zIG (s:List Int) (al:Nat→Int→Bool):Nat→List Int
 | 0=>[0]
 | k+1=>(zIG s al k).flatMap fun o=>(z43 s al k).map fun d=>o * (s[k]?.getD 0)+d
theorem zOG {s:List Int} {al:Nat→Int→Bool} {k:Nat} {d:Int}:d∈z43 s al k↔(0≤d∧d < (s[k]?.getD 0))∧al k d=true:=by
 unfold z43
 rw[List.mem_filter,List.mem_map]
 constructor
 ·rintro ⟨⟨i,h1,rfl⟩,h2⟩
  rw[List.mem_range] at h1
  exact⟨⟨oO,oO⟩,h2⟩
 rintro ⟨⟨h1,h2⟩,h3⟩
 exact⟨⟨d.toNat,List.mem_range.2 oO,oO⟩,h3⟩
theorem z1K {s:List Int} {al:Nat→Int→Bool} {k:Nat} {c:Int} (hs:1≤(s[k]?.getD 0)):c∈zIG s al (k+1)↔al k (c % (s[k]?.getD 0))=true∧c / (s[k]?.getD 0)∈zIG s al k:=by
 show c∈(zIG s al k).flatMap _↔_
 rw[List.mem_flatMap]
 constructor
 ·rintro ⟨o,h1,h2⟩
  obtain⟨d,h3,rfl⟩:=List.mem_map.1 h2
  obtain⟨⟨h4,h5⟩,h6⟩:=zOG.1 h3
  have e1:(o * (s[k]?.getD 0)+d) % (s[k]?.getD 0)=d:=by
   rw[Int.add_comm,Int.add_mul_emod_self_right];exact Int.emod_eq_of_lt h4 h5
  have e2:(o * (s[k]?.getD 0)+d) / (s[k]?.getD 0)=o:=by
   rw[Int.add_comm,Int.add_mul_ediv_right _ _ oO,Int.ediv_eq_zero_of_lt h4 h5];omega
  rw[e1,e2];exact⟨h6,h1⟩
 rintro ⟨h1,h2⟩
 refine⟨_,h2,List.mem_map.2 ⟨c % (s[k]?.getD 0),zOG.2 ⟨⟨Int.emod_nonneg _ oO,Int.emod_lt_of_pos _ oO⟩,h1⟩,?_⟩⟩
 rw[Int.mul_comm];exact Int.mul_ediv_add_emod c _
theorem z3n {s:List Int} {c:Int} (hs:shK s s.length=true) (h:0≤c∧c < zB8 s s.length):∀ j,j≤s.length→0≤zKj s c j∧zKj s c j < zB8 s (s.length-j)
 | 0,_=>h
 | j+1,hj=>by
  have ih:=z3n hs h j oO
  have h1:=zAq.1 (zBe hs (s.length-1-j) oO)
  have e:s.length-j=(s.length-1-j)+1:=by omega
  have e2:s.length-(j+1)=s.length-1-j:=by omega
  rw[e] at ih
  rw[e2]
  show 0≤zKj s c j / _∧zKj s c j / _ < _
  exact⟨Int.ediv_nonneg ih.1 oO,Int.ediv_lt_of_lt_mul oO ih.2⟩
theorem zX6 {s:List Int} {al:Nat→Int→Bool} {c:Int} (hs:shK s s.length=true) (h:0≤c∧c < zB8 s s.length):c∈zIG s al s.length↔zCd (fun i=>al i (zGo s c i)) s.length=true:=by
 have key:∀ j,j≤s.length→(c∈zIG s al s.length↔(∀ i,s.length-j≤i→i < s.length→al i (zGo s c i)=true)∧zKj s c j∈zIG s al (s.length-j)):=by
  intro j
  induction j with
  | zero=>intro _;exact⟨fun h=>⟨fun i h1 h2=>oO,h⟩,fun h=>h.2⟩
  | succ j ih=>
   intro hj
   rw[ih oO]
   have e:s.length-j=(s.length-1-j)+1:=by omega
   have e2:s.length-(j+1)=s.length-1-j:=by omega
   have h1:=zAq.1 (zBe hs (s.length-1-j) oO)
   have ed:zGo s c (s.length-1-j)=zKj s c j % (s[s.length-1-j]?.getD 0):=by
    unfold zGo;rw[show s.length-1-(s.length-1-j)=j from oO]
   rw[e,z1K h1.1,e2]
   constructor
   ·rintro ⟨h2,h3,h4⟩
    refine⟨fun i h5 h6=>?_,h4⟩
    rcases (by omega:i=s.length-1-j∨(s.length-1-j)+1≤i) with rfl|h7
    ·rw[ed];exact h3
    exact h2 i h7 h6
   rintro ⟨h2,h3⟩
   exact⟨fun i h5 h6=>h2 i oO h6,by rw[←ed];exact h2 _ (Nat.le_refl _) oO,h3⟩
 rw[key s.length (Nat.le_refl _)]
 have hr:=z3n hs h s.length (Nat.le_refl _)
 rw[Nat.sub_self] at hr
 have hr0:zKj s c s.length=0:=by
  have:zB8 s 0=1:=rfl
  omega
 rw[Nat.sub_self]
 have hall:zCd (fun i=>al i (zGo s c i)) s.length=true↔∀ i,i < s.length→al i (zGo s c i)=true:=by
  constructor
  ·intro h2 i hi;exact zBe h2 i hi
  intro h2
  have:∀ n,n≤s.length→zCd (fun i=>al i (zGo s c i)) n=true:=by
   intro n
   induction n with
   | zero=>intro _;rfl
   | succ n ih=>
    intro hn
    show (zCd _ n && al n (zGo s c n))=true
    rw[ih oO,h2 n oO];rfl
  exact this _ (Nat.le_refl _)
 rw[hall]
 constructor
 ·rintro ⟨h2,_⟩ i hi;exact h2 i oO hi
 intro h2
 refine⟨fun i _ hi=>h2 i hi,?_⟩
 show zKj s c s.length∈[0]
 rw[hr0];exact List.mem_singleton.2 rfl
end
section
attribute [local irreducible] IntKind.wrap
def zZU (s:List Int) (c:Int) (j:Nat):List Int:=(List.range s.length).map fun i=>if s.length-j≤i then zGo s c i else 0
theorem zOH (s:List Int) (c:Int) (j:Nat):(zZU s c j).length=s.length:=by unfold zZU;simp
theorem zX7 (s:List Int) (c:Int):zZU s c 0=List.replicate s.length 0:=by
 apply List.ext_getElem?
 intro i
 unfold zZU
 rcases Nat.lt_or_ge i s.length with h|h
 ·rw[List.getElem?_map,List.getElem?_range h,List.getElem?_replicate,if_pos h]
  show some (if s.length-0≤i then _ else (0:Int))=_
  rw[if_neg oO]
 rw[List.getElem?_eq_none (by simpa using h),List.getElem?_eq_none (by simpa using h)]
theorem z1L (s:List Int) (c:Int):zZU s c s.length=zX4 s c:=by
 unfold zZU zX4
 refine List.map_congr_left fun i hi=>?_
 rw[if_pos oO]
theorem zX8 {s:List Int} {c:Int} {j:Nat} (h:j < s.length):(zZU s c j).set (s.length-1-j) (zKj s c j % (s[s.length-1-j]?.getD 0))=zZU s c (j+1):=by
 have e:zKj s c j % (s[s.length-1-j]?.getD 0)=zGo s c (s.length-1-j):=by
  unfold zGo;rw[show s.length-1-(s.length-1-j)=j from oO]
 rw[e]
 apply List.ext_getElem?
 intro i
 rcases Nat.lt_or_ge i s.length with hi|hi
 ·unfold zZU
  rw[List.getElem?_set,List.getElem?_map,List.getElem?_map,List.getElem?_range hi]
  by_cases h1:s.length-1-j=i
  ·rw[if_pos h1,if_pos (by simp;omega),←h1]
   show _=some (if s.length-(j+1)≤s.length-1-j then _ else _)
   rw[if_pos oO]
  rw[if_neg h1]
  show some (if s.length-j≤i then _ else _)=some (if s.length-(j+1)≤i then _ else _)
  by_cases h2:s.length-j≤i
  ·rw[if_pos h2,if_pos oO]
  rw[if_neg h2,if_neg oO]
 rw[List.getElem?_eq_none (by rw[List.length_set,zOH];exact hi),List.getElem?_eq_none (by rw[zOH];exact hi)]
theorem zKk (s:List Int) (c:Int):(zX4 s c).length=s.length:=by unfold zX4;simp
theorem z44 {s:List Int} {n:Int} {j:Nat} (hs:shK s s.length=true) (hn:0≤n∧n≤8) (hj:j < s.length) :
  (zKj s n j).tmod (s[((s.length:Int)-1-j).toNat]?.getD 0)=zKj s n j % (s[s.length-1-j]?.getD 0)∧(0≤(zKj s n j).tmod (s[((s.length:Int)-1-j).toNat]?.getD 0)∧(zKj s n j).tmod (s[((s.length:Int)-1-j).toNat]?.getD 0)≤8) ∧
  (zKj s n j).tdiv (s[((s.length:Int)-1-j).toNat]?.getD 0)=zKj s n (j+1):=by
 have hei:((s.length:Int)-1-j).toNat=s.length-1-j:=by omega
 have hv:=zAq.1 (zBe hs (s.length-1-j) oO)
 have hr:=zOD hs hn j oO
 rw[hei,Int.tmod_eq_emod_of_nonneg hr.1,Int.tdiv_eq_ediv_of_nonneg hr.1]
 have h1:=Int.emod_nonneg (zKj s n j) (show (s[s.length-1-j]?.getD 0)≠0 from oO)
 have h2:=Int.emod_lt_of_pos (zKj s n j) (show 0 < (s[s.length-1-j]?.getD 0) from oO)
 exact⟨rfl,⟨h1,oO⟩,rfl⟩
theorem zR7 (b:Option Addr) (m c:Nat) (s:List Int) (n:Int) (hs:shK s s.length=true) (hn:0≤n∧n≤8) (hl4:s.length≤4) :
  Ct prog 161 [.slice b m c,.int .i64 n] [] (fun H=>(gSl 3 gI).rd H [.slice b m c] s) (fun v A=>∃ b c,v = .slice b (zX4 s n).length c∧(gSl 3 gI).ow [.slice b (zX4 s n).length c] (zX4 s n) A):=by
 refine Ct.intro0 zAh func161 rfl rfl rfl fun E H hp=>?_
 obtain⟨rfl,hcl,hl⟩:=zAp hp
 refine VCmake.intro ?_ ?_ ?_ ?_ fun x0=>?_
 ·omega
 ·omega
 ·omega
 ·omega
 apply zAg (α:=(Nat)×(Hp)) zAh [13,14,17,18,19,20,21,22,23,24,25,26,27,28,29,30,31,1,15,16,6] (fun z=>[(6,.v (.int .i64 ((s.length:Int)-1-z.1))),(1,.v (.int .i64 (zKj s n z.1)))]) (fun z=>[]) (fun z=>[z.2,H]) (fun z=>s.length-z.1) (fun z=>z.1≤s.length∧(gSl 3 gI).ow [.slice (some ⟨x0,0,none⟩) ((s.length:Nat):Int).toNat ((s.length:Nat):Int).toNat] (zZU s n z.1) z.2) ((0,_))
 ·repeat' (first|exact trivial|refine⟨⟨_,rfl,by first|exact frE|(refine zAz ?_;simp;done)|exact zHg (by rw[zAc (x:=(s.length:Int)-1) oO oO];(try dsimp only);omega)|exact zHg (by rw[zAc (x:=(s.length:Int)-1-j-1) oO oO];(try dsimp only);omega)|exact zHg (by rw[hd.2.2,zAc oO oO]),frO⟩,?_⟩)
 ·exact trivial
 ·try dsimp only
  exact⟨Nat.zero_le _,by rw[zX7];exact zEY (zCN (x:=0) (by unfold okI;omega)) (Nat.le_refl _) oO⟩
 ·exact .refl _
 rintro ⟨j,V⟩ hI
 try dsimp only at hI
 obtain⟨hj,oV⟩:=hI
 try dsimp only
 constructor<;>intro q1
 ·simp at q1
  have hei:((s.length:Int)-1-j).toNat=s.length-1-j:=oO
  have hv:=zAq.1 (zBe hs (s.length-1-j) oO)
  have hr:=zOD hs hn j oO
  have hdl:=zOH s n j
  have hd:=z44 hs hn (by omega:j < s.length)
  have hr2:=zOD hs hn (j+1) oO
  rw[←hei] at hv
  refine zAf hp ?_ ?_ fun b2 o2 hb2=>?_
  ·omega
  ·omega
  refine zAF 0 hp ?_ ?_ hb2 rfl (zAa 1 rfl) fun l3 hl3=>?_
  ·omega
  ·omega
  obtain⟨rfl,hw3⟩:=hl3;simp only[zAx,zAs,okI] at hw3
  refine VC.intro ?_ ?_
  ·omega
  refine zAf (Gt.owrd _ oV) ?_ ?_ fun b4 o4 hb4=>?_
  ·omega
  ·omega
  refine zBq (Fld.id _) 0 (Int.toNat ((↑s.length:Int)-(1:Int)-(↑j:Int))) 0 rfl (Int.toNat_of_nonneg ?_).symm oV ?_ ?_ hb4 rfl zHx _ (zCN ?_) fun A5 o5=>?_
  ·omega
  ·omega
  ·omega
  ·unfold okI;omega
  refine zAf hp ?_ ?_ fun b6 o6 hb6=>?_
  ·omega
  ·omega
  refine zAF 0 hp ?_ ?_ hb6 rfl (zAa 1 rfl) fun l7 hl7=>?_
  ·omega
  ·omega
  obtain⟨rfl,hw7⟩:=hl7;simp only[zAx,zAs,okI] at hw7
  refine VC.intro ?_ ?_
  ·omega
  apply zAb (j+1,_)
  ·exact .refl _
  ·repeat' (first|exact trivial|refine⟨⟨_,rfl,by first|exact frE|(refine zAz ?_;simp;done)|exact zHg (by rw[zAc (x:=(s.length:Int)-1) oO oO];(try dsimp only);omega)|exact zHg (by rw[zAc (x:=(s.length:Int)-1-j-1) oO oO];(try dsimp only);omega)|exact zHg (by rw[hd.2.2,zAc oO oO]),frO⟩,?_⟩)
  ·exact trivial
  ·try dsimp only
   exact⟨oO,by rw[←zX8 oO,←hd.1,←hei];assumption⟩
  try dsimp only
  omega
 simp at q1
 (have hje:j=s.length:=oO;subst hje;rw[z1L] at oV;exact⟨_,⟨some ⟨x0,0,none⟩,_,by rw[zKk];rfl,by rw[zKk];exact oV⟩,rlB⟩)
theorem zCo (b1 b2:Option Addr) (m1 c1 m2 c2:Nat) (ns:List ByteArray) (vs:List Int) (v:ByteArray) (hh:zBI ns v=true) (hl:ns.length≤vs.length) :
  Ct prog 137 [.agg ⟨[.slice b1 m1 c1,.slice b2 m2 c2]⟩,.string v] [] (fun H=>(gSl 9 gS).rd H [.slice b1 m1 c1] ns∧(gSl 3 gI).rd H [.slice b2 m2 c2] vs) (fun w A=>w = .int .i64 (vs[(zIF ns v).toNat]?.getD 0)∧A=[]):=by
 refine Ct.intro0 zAh func137 rfl rfl rfl fun E H hp=>?_
 obtain⟨hp,hq⟩:=hp
 obtain⟨rfl,hcl,hl1⟩:=zAp hp
 obtain⟨rfl,hcl2,hl2⟩:=zAp hq
 have hi:=zDE hh
 refine⟨fun x0=>?_⟩
 refine zBr zAh zAK none (.q 0 (.q 1 (.q 2 (.q 3 (.q 4 (.f 5 (.q 6 (.q 7 (.q 8 (.nil)))))))))) (by decide +kernel) ?_
 refine zAe (zR5 _ _ _ (ns) _) (Rp.mono _ (zAa 0 rfl) hp) ?_
 rintro _ rfl
 refine VC.intro ?_ ?_
 ·exact fun _ h=>h
 refine zAf hq ?_ ?_ fun b2 o2 hb2=>?_
 ·omega
 ·omega
 refine zAF 0 hq ?_ ?_ hb2 rfl (zAa 0 rfl) fun l3 hl3=>?_
 ·omega
 ·omega
 obtain⟨rfl,hw3⟩:=hl3;simp only[zAx,zAs,okI] at hw3
 exact⟨[],⟨rfl,rfl⟩,.mem sI⟩
end
section
attribute [local irreducible] IntKind.wrap zAj zAS zAU zA0
def alM (ns cols:List ByteArray) (row s:List Int) (i:Nat) (d:Int):Bool:=!zBI cols (ns[i]?.getD ByteArray.empty) || decide (d=zA0 (row[(zIF cols (ns[i]?.getD ByteArray.empty)).toNat]?.getD 0) (s[i]?.getD 0))
def zV5 (s:List Int) (al:Nat→Int→Bool) (c:Int) (k:Nat):Bool:=zCd (fun i=>al i (zGo s c i)) k
def zG6 (s:List Int) (al:Nat→Int→Bool) (k:Nat):List Int:=((List.range k).map fun i=>((i:Nat):Int)).filter fun c=>zV5 s al c s.length
theorem zX9 {s:List Int} {al:Nat→Int→Bool} {k:Nat} (h:zV5 s al k s.length=true):zG6 s al (k+1)=zG6 s al k++[(k:Int)]:=by
 unfold zG6
 rw[List.range_succ,List.map_append,List.filter_append]
 simp [h]
theorem z1M {s:List Int} {al:Nat→Int→Bool} {k:Nat} (h:zV5 s al k s.length=false):zG6 s al (k+1)=zG6 s al k:=by
 unfold zG6
 rw[List.range_succ,List.map_append,List.filter_append]
 simp [h]
theorem zYa (s:List Int) (al:Nat→Int→Bool) (k:Nat):(zG6 s al k).length≤k:=by
 unfold zG6
 refine Nat.le_trans (List.length_filter_le _ _) ?_
 simp
theorem zVx {x:Query} {s:List Int} (h:zAU x s=true):zKi s=true∧s.length=(zAj x.atoms).length∧s.length≤4:=by
 unfold zAU at h
 simp only[Bool.and_eq_true,decide_eq_true_iff] at h
 have:=zDD h.1
 exact⟨h.2.1,h.2.2,oO⟩
theorem z7w {ns cols:List ByteArray} {row s:List Int} {c:Int} {i:Nat} (hi:i < s.length) (h1:zBI cols (ns[i]?.getD ByteArray.empty)=true) (h2:¬(zX4 s c)[i]?.getD 0=zA0 (row[(zIF cols (ns[i]?.getD ByteArray.empty)).toNat]?.getD 0) (s[i]?.getD 0)):zV5 s (alM ns cols row s) c (i+1)=false:=by
 rw[zX5 hi] at h2
 show (zV5 s (alM ns cols row s) c i && alM ns cols row s i (zGo s c i))=false
 unfold alM
 rw[h1,decide_eq_false h2];simp
theorem z47 {ns cols:List ByteArray} {row s:List Int} {c:Int} {i:Nat} (hi:i < s.length) (h2:(zX4 s c)[i]?.getD 0=zA0 (row[(zIF cols (ns[i]?.getD ByteArray.empty)).toNat]?.getD 0) (s[i]?.getD 0)):zV5 s (alM ns cols row s) c (i+1)=zV5 s (alM ns cols row s) c i:=by
 rw[zX5 hi] at h2
 show (zV5 s (alM ns cols row s) c i && alM ns cols row s i (zGo s c i))=_
 conv=>lhs;arg 2;unfold alM
 rw[decide_eq_true h2];simp
theorem z48 {ns cols:List ByteArray} {row s:List Int} {c:Int} {i:Nat} (h:zBI cols (ns[i]?.getD ByteArray.empty)=false):zV5 s (alM ns cols row s) c (i+1)=zV5 s (alM ns cols row s) c i:=by
 show (zV5 s (alM ns cols row s) c i && alM ns cols row s i (zGo s c i))=_
 conv=>lhs;arg 2;unfold alM
 rw[h];simp
theorem zVy (lq la:List Value) (b1 b2:Option Addr) (m1 c1 m2 c2:Nat) (x:Query) (s:List Int) (a:Atom) (row:List Int) (hx:zAL.sz x≤1048576) (hs:zAU x s=true) (hr:(zBg a).length≤row.length) :
  Ct prog 120 [.agg ⟨lq⟩,.slice b1 m1 c1,.agg ⟨la⟩,.slice b2 m2 c2] [] (fun H=>zAL.rd H lq x∧(gSl 3 gI).rd H [.slice b1 m1 c1] s∧zA9.rd H la a∧(gSl 3 gI).rd H [.slice b2 m2 c2] row)
   (fun v A=>∃ b c,v = .slice b (zG6 s (alM (zAj x.atoms) (zBg a) row s) (zA8 s).toNat).length c∧(gSl 3 gI).ow [.slice b (zG6 s (alM (zAj x.atoms) (zBg a) row s) (zA8 s).toNat).length c] (zG6 s (alM (zAj x.atoms) (zBg a) row s) (zA8 s).toNat) A):=by
 refine Ct.intro0 zAh func120 rfl rfl rfl fun E H hp=>?_
 obtain⟨hp,hq,hat,hrow⟩:=hp
 obtain⟨rfl,hcl,hl⟩:=zAp hq
 obtain⟨rfl,hcl2,hl2⟩:=zAp hrow
 obtain⟨b1p,c1p,b2p,c2p,b3p,c3p,rfl,h1p,h2p,h3p⟩:=zAy.1 hp
 obtain⟨rfl,w0f,w1f,w2f⟩:=zAT.1 hat
 obtain⟨hso,hsn,hs4⟩:=zVx hs
 have hsk:=zI4 hso
 have hcr:=zIp s
 have hal:=zCI hx
 refine⟨fun x0=>?_⟩
 refine⟨fun x1=>?_⟩
 refine zAi (zFF _ a) (Rp.mono _ (zAa 0 rfl) hat) ?_
 rintro v2 A2 o2
 obtain⟨bC,cC,rfl,oC⟩:=o2
 have rC:=Gt.owrd _ oC
 refine⟨fun x3=>?_⟩
 refine zAe (zDM _ _ _ (s)) (Rp.mono _ (zAa 1 rfl) hq) ?_
 rintro _ rfl
 apply zAg (α:=(Nat)×(List Int)×(Hp)×(Option Addr)×(Nat)) zAh [23,24,11,12,25,26,27,13,28,29,30,31,32,33,34,35,14,15,36,37,38,39,40,41,42,43,44,45,46,47,48,49,50,51,52,53,54,55,56,57,58,59,60,10,61,22] (fun z=>[(22,.v (.int .i64 z.1)),(10,.v (.slice z.2.2.2.1 z.2.1.length z.2.2.2.2))]) (fun z=>[{ id:=x0,cs:=[Value.bool x.each,Value.slice b1p x.out.length c1p,Value.slice b2p x.atoms.length c2p,Value.slice b3p x.filters.length c3p],ty:=(43:Nat) },{ id:=x1,cs:=[Value.string a.from',Value.string a.path,Value.string a.to],ty:=(97:Nat) },{ id:=x3,cs:=[Value.slice bC (zBg a).length cC,Value.slice b2 row.length c2],ty:=(134:Nat) }]) (fun z=>[z.2.2.1,A2,H]) (fun z=>(zA8 s).toNat-z.1) (fun z=>z.1≤(zA8 s).toNat∧z.2.1=zG6 s (alM (zAj x.atoms) (zBg a) row s) z.1∧(gSl 3 gI).ow [.slice z.2.2.2.1 z.2.1.length z.2.2.2.2] z.2.1 z.2.2.1) ((0,[],[],_,0))
 ·exact frI
 ·exact⟨rfl,rfl,rfl,trivial⟩
 ·try dsimp only
  exact⟨Nat.zero_le _,rfl,zAm _ _ _⟩
 ·exact .refl _
 rintro ⟨k,o,A,lb,lc⟩ hI
 try dsimp only at hI
 obtain⟨hk,ho,oA⟩:=hI
 try dsimp only
 constructor<;>intro q5
 ·simp at q5
  have hol:o.length≤k:=(by rw[ho];exact zYa _ _ _)
  refine zAi (zR7 _ _ _ (s) _ hsk ?_ hs4) (Rp.mono _ (zAa 2 rfl) hq) ?_
  ·omega
  rintro v6 A6 o6
  obtain⟨bD,cD,rfl,oD⟩:=o6
  have rD:=Gt.owrd _ oD
  refine zAi (zCZ _ x ?_) (Rp.mono _ (zAa 3 rfl) hp) ?_
  ·trivial
  rintro v7 A7 o7
  obtain⟨bN,cN,rfl,oN⟩:=o7
  have rN:=Gt.owrd _ oN
  apply zAg (α:=(Nat)×(Bool)) zAh [32,33,34,35,14,15,36,37,38,39,40,41,42,43,44,45,46,47,48,49,50,51,52,53,54,12,55,31] (fun z=>[(31,.v (.int .i64 z.1)),(12,.v (.bool z.2))]) (fun z=>[{ id:=x0,cs:=[Value.bool x.each,Value.slice b1p x.out.length c1p,Value.slice b2p x.atoms.length c2p,Value.slice b3p x.filters.length c3p],ty:=(43:Nat) },{ id:=x1,cs:=[Value.string a.from',Value.string a.path,Value.string a.to],ty:=(97:Nat) },{ id:=x3,cs:=[Value.slice bC (zBg a).length cC,Value.slice b2 row.length c2],ty:=(134:Nat) }]) (fun z=>[A7,A6,A,A2,H]) (fun z=>(zAj x.atoms).length-z.1) (fun z=>z.1≤(zAj x.atoms).length∧z.2=zV5 s (alM (zAj x.atoms) (zBg a) row s) (k:Int) z.1) ((0,true))
  ·exact frI
  ·exact⟨rfl,rfl,rfl,trivial⟩
  ·try dsimp only
   exact⟨Nat.zero_le _,rfl⟩
  ·exact .refl _
  rintro ⟨i,f⟩ hI
  try dsimp only at hI
  obtain⟨hi,hf⟩:=hI
  try dsimp only
  constructor<;>intro q8
  ·simp at q8
   refine zAf rN ?_ ?_ fun b9 o9 hb9=>?_
   ·omega
   ·omega
   refine zAd ByteArray.empty (i) rfl rN ?_ ?_ hb9 rfl (zAa 0 rfl) fun l10 hl10=>?_
   ·omega
   ·omega
   obtain⟨rfl,hw10⟩:=hl10;simp only[zAx,zAs,okI] at hw10
   refine zBr zAh zAK none (.q 0 (.q 1 (.q 2 (.f 3 (.q 4 (.q 5 (.q 6 (.q 7 (.q 8 (.q 9 (.q 10 (.q 12 (.q 13 (.q 14 (.q 15 (.f 11 (.f 16 (.q 17 (.q 18 (.nil)))))))))))))))))))) (by decide +kernel) ?_
   refine zAe (zCj _ _ _ (zBg a) _) (Rp.mono _ (zAa 3 rfl) rC) ?_
   rintro _ rfl
   refine VC.intro ?_ ?_
   ·exact fun _ h=>h
   constructor<;>intro q12
   ·refine zAf rD ?_ ?_ fun b13 o13 hb13=>?_
    ·omega
    ·(rw[zKk];omega)
    refine zAd 0 (i) rfl rD ?_ ?_ hb13 rfl (zAa 1 rfl) fun l14 hl14=>?_
    ·omega
    ·(rw[zKk];omega)
    obtain⟨rfl,hw14⟩:=hl14;simp only[zAx,zAs,okI] at hw14
    refine zAf hq ?_ ?_ fun b15 o15 hb15=>?_
    ·omega
    ·omega
    refine zAd 0 (i) rfl hq ?_ ?_ hb15 rfl (zAa 4 rfl) fun l16 hl16=>?_
    ·omega
    ·omega
    obtain⟨rfl,hw16⟩:=hl16;simp only[zAx,zAs,okI] at hw16
    refine zAe (zCo _ _ _ _ _ _ (zBg a) row _ aA hr) ⟨Rp.mono _ (zAk sI) rC,Rp.mono _ (zAk sI) hrow⟩ ?_
    rintro _ rfl
    refine VC.intro ?_ ?_
    ·exact fun _ h=>h
    refine zAe (zHp _ _) trivial ?_
    rintro _ rfl
    refine VC.intro ?_ ?_
    ·exact fun _ h=>h
    constructor<;>intro q19
    ·simp at q19
     apply zAb (i+1,_)
     ·exact .refl _
     ·exact frI
     ·exact⟨rfl,rfl,rfl,trivial⟩
     ·try dsimp only
      exact⟨oO,(z7w oO aA aA).symm⟩
     try dsimp only
     omega
    simp at q19
    apply zAb (i+1,_)
    ·exact .refl _
    ·exact frI
    ·exact⟨rfl,rfl,rfl,trivial⟩
    ·try dsimp only
     exact⟨oO,by rw[z47 oO aA];exact hf⟩
    try dsimp only
    omega
   apply zAb (i+1,_)
   ·exact .refl _
   ·exact frI
   ·exact⟨rfl,rfl,rfl,trivial⟩
   ·try dsimp only
    exact⟨oO,by rw[z48 aA];exact hf⟩
   try dsimp only
   omega
  simp at q8
  have hie:i=s.length:=oO
  rw[hie] at hf
  constructor<;>intro q20
  ·refine⟨fun x21=>?_⟩
   refine zAC (g:=gI) (T:=3) zAh A [] [A7,A6,A2,H] ?_ oA (zCN ?_) (List.mem_of_getElem? (i:=0) rfl) rfl rfl rfl rfl rfl rfl rfl rfl ?_ fun b22 c22 A22 o22=>?_
   ·exact rlA
   ·unfold okI;omega
   ·omega
   apply zAM (k+1,_,_,_,_)
   ·exact frI
   ·exact⟨rfl,rfl,rfl,trivial⟩
   ·try dsimp only
    exact⟨oO,by rw[zX9 (by rw[←hf];assumption),←ho],aA⟩
   ·exact rlA
   try dsimp only
   omega
  apply zAM (k+1,_,_,_,_)
  ·exact frI
  ·exact⟨rfl,rfl,rfl,trivial⟩
  ·try dsimp only
   exact⟨oO,by rw[z1M (by rw[←hf];assumption),←ho],aA⟩
  ·exact rlA
  try dsimp only
  omega
 simp at q5
 (have hke:k=(zA8 s).toNat:=oO;subst hke;subst ho;exact⟨_,⟨_,_,rfl,aA⟩,rlB⟩)
end
section
def zOI (al:Nat→Int→Bool) (i n:Nat):List Int:=((List.range n).map fun j=>((j:Nat):Int)).filter (al i)
theorem zYb {al:Nat→Int→Bool} {i n:Nat} (h:al i (n:Int)=true):zOI al i (n+1)=zOI al i n++[(n:Int)]:=by
 unfold zOI
 rw[List.range_succ,List.map_append,List.filter_append]
 simp [h]
theorem z1N {al:Nat→Int→Bool} {i n:Nat} (h:al i (n:Int)=false):zOI al i (n+1)=zOI al i n:=by
 unfold zOI
 rw[List.range_succ,List.map_append,List.filter_append]
 simp [h]
theorem zYc (al:Nat→Int→Bool) (i n:Nat):(zOI al i n).length≤n:=by
 unfold zOI
 refine Nat.le_trans (List.length_filter_le _ _) ?_
 simp
def zLt (s:List Int) (al:Nat→Int→Bool) (i:Nat) (o:Int) (n:Nat):List Int:=(zOI al i n).map fun d=>o * (s[i]?.getD 0)+d
theorem zQo {s:List Int} {al:Nat→Int→Bool} {i:Nat} {o:Int} {n:Nat} (h:al i (n:Int)=true):zLt s al i o (n+1)=zLt s al i o n++[o * (s[i]?.getD 0)+(n:Int)]:=by
 unfold zLt;rw[zYb h,List.map_append];rfl
theorem z1O {s:List Int} {al:Nat→Int→Bool} {i:Nat} {o:Int} {n:Nat} (h:al i (n:Int)=false):zLt s al i o (n+1)=zLt s al i o n:=by
 unfold zLt;rw[z1N h]
theorem zQp (s:List Int) (al:Nat→Int→Bool) (i:Nat) (o:Int) (n:Nat):(zLt s al i o n).length≤n:=by
 unfold zLt;rw[List.length_map];exact zYc _ _ _
def zMu (s:List Int) (al:Nat→Int→Bool) (i:Nat) (out:List Int) (k:Nat):List Int:=(out.take k).flatMap fun o=>zLt s al i o (s[i]?.getD 0).toNat
theorem zNj {s:List Int} {al:Nat→Int→Bool} {i:Nat} {out:List Int} {k:Nat} (h:k < out.length):zMu s al i out (k+1)=zMu s al i out k++zLt s al i (out[k]?.getD 0) (s[i]?.getD 0).toNat:=by
 unfold zMu
 rw[←List.take_append_getElem h,List.flatMap_append,List.getElem?_eq_getElem h];simp
theorem zLu {s:List Int} {al:Nat→Int→Bool} {i:Nat}:zIG s al (i+1)=zMu s al i (zIG s al i) (zIG s al i).length:=by
 unfold zMu
 rw[List.take_length];rfl
theorem zLv {s:List Int} {al:Nat→Int→Bool} {i:Nat} {out:List Int}:∀ k,k≤out.length→(zMu s al i out k).length≤k * (s[i]?.getD 0).toNat
 | 0,_=>by unfold zMu;simp
 | k+1,h=>by
  have h1:=zLv (s:=s) (al:=al) (i:=i) k (by omega:k≤out.length)
  have h2:=zQp s al i (out[k]?.getD 0) (s[i]?.getD 0).toNat
  rw[zNj oO,List.length_append,Nat.add_mul,Nat.one_mul];omega
theorem zTK {s:List Int} {al:Nat→Int→Bool} (hs:shK s s.length=true):∀ k,k≤s.length→((zIG s al k).length:Int)≤zB8 s k
 | 0,_=>by show ((([0]:List Int).length:Nat):Int)≤1;decide
 | k+1,h=>by
  have ih:=zTK (al:=al) hs k oO
  have hv:=zAq.1 (zBe hs k oO)
  have h1:=zLv (s:=s) (al:=al) (i:=k) (zIG s al k).length (Nat.le_refl _)
  rw[←zLu] at h1
  show ((zIG s al (k+1)).length:Int)≤zB8 s k * (s[k]?.getD 0)
  have h2:((zIG s al (k+1)).length:Int)≤((zIG s al k).length:Int) * (s[k]?.getD 0):=by
   have e:(((s[k]?.getD 0).toNat:Nat):Int)=(s[k]?.getD 0):=by omega
   have:=Int.ofNat_le.2 h1
   rw[Int.natCast_mul,e] at this
   exact this
  exact Int.le_trans h2 (Int.mul_le_mul_of_nonneg_right ih oO)
theorem zTL {s:List Int} {al:Nat→Int→Bool} (hs:shK s s.length=true):∀ k,k≤s.length→∀ c∈zIG s al k,0≤c∧c < zB8 s k
 | 0,_,c,hc=>by rw[List.mem_singleton.1 hc];show (0:Int)≤0∧(0:Int) < 1;decide
 | k+1,h,c,hc=>by
  have hv:=zAq.1 (zBe hs k oO)
  have h1:c∈zMu s al k (zIG s al k) (zIG s al k).length:=by rw[←zLu];exact hc
  unfold zMu at h1
  rw[List.take_length] at h1
  obtain⟨o,h2,h3⟩:=List.mem_flatMap.1 h1
  have ih:=zTL (al:=al) hs k oO o h2
  obtain⟨d,h4,rfl⟩:=List.mem_map.1 h3
  have h5:=(zOG (s:=s) (al:=al) (k:=k) (d:=d)).1 h4
  show 0≤o * (s[k]?.getD 0)+d∧o * (s[k]?.getD 0)+d < zB8 s k * (s[k]?.getD 0)
  have h6:=Int.mul_nonneg ih.1 (show (0:Int)≤(s[k]?.getD 0) from oO)
  have h7:=Int.mul_le_mul_of_nonneg_right (show o+1≤zB8 s k from oO) (show (0:Int)≤(s[k]?.getD 0) from oO)
  rw[Int.add_mul,Int.one_mul] at h7
  omega
theorem z7x {ns cols:List ByteArray} {row s:List Int} {i:Nat} {d:Int} (h:zBI cols (ns[i]?.getD ByteArray.empty)=false):alM ns cols row s i d=true:=by unfold alM;rw[h];rfl
theorem z7y {ns cols:List ByteArray} {row s:List Int} {i:Nat} {d:Int} (h:zBI cols (ns[i]?.getD ByteArray.empty)=true):alM ns cols row s i d=decide (d=zA0 (row[(zIF cols (ns[i]?.getD ByteArray.empty)).toNat]?.getD 0) (s[i]?.getD 0)):=by unfold alM;rw[h];rfl
theorem zR8 {l:List ByteArray} {s:ByteArray} (h:zIF l s < 0):zBI l s=false:=by
 cases e:zBI l s with
 | false=>rfl
 | true=>have:=zDE e;omega
theorem z3o (l:List ByteArray) (s:ByteArray):zIF l s < l.length:=by
 cases e:zBI l s with
 | true=>exact (zDE e).2
 | false=>unfold zIF;rw[e];show (-1:Int) < _;omega
theorem zLw {l:List ByteArray} {s:ByteArray} (h:¬zIF l s < 0):zBI l s=true:=by
 cases e:zBI l s with
 | true=>rfl
 | false=>unfold zIF at h;rw[e] at h;exact absurd (by show (-1:Int) < 0;decide) h
theorem zYd {s:List Int} {al:Nat→Int→Bool}:zIG s al 0=[0]:=rfl
attribute [local irreducible] IntKind.wrap zAj zAS zAU zA0 zIG alM zIF
def zZV (l:List Int) (v:Int):Bool:=decide (v∈l)
theorem zYe {l:List Int} {v:Int} {k:Nat} (hk:k < l.length) (h:l[k]?.getD 0=v):zZV l v=true:=by
 rw[List.getElem?_eq_getElem hk] at h
 exact decide_eq_true (h ▸ List.getElem_mem hk)
theorem zQq {l:List Int} {v:Int} (h:zCd (fun i=>!decide (l[i]?.getD 0=v)) l.length=true):zZV l v=false:=by
 refine decide_eq_false fun hm=>?_
 obtain⟨i,hi,e⟩:=List.getElem_of_mem hm
 have:=zBe h i hi
 rw[List.getElem?_eq_getElem hi] at this
 simp [e] at this
theorem zTM (b:Option Addr) (m c:Nat) (xs:List Int) (v:Int) :
  Ct prog 45 [.slice b m c,.int .i64 v] [] (fun H=>(gSl 3 gI).rd H [.slice b m c] xs)
   (fun w A=>w = .bool (zZV xs v)∧A=[]):=by
 refine Ct.intro0 zAh func45 rfl rfl rfl fun E H hp=>?_
 obtain⟨rfl,hcl,hl⟩:=zAp hp
 apply zAg (α:=(Nat)) zAh [6,7,8,9,12,13,14,15,16,17,4,10,11,5] (fun z=>[(5,.v (.int .i64 z))]) (fun z=>[]) (fun z=>[H]) (fun z=>xs.length-z) (fun z=>z≤xs.length∧zCd (fun i=>!decide (xs[i]?.getD 0=v)) z=true) ((0))
 ·exact frI
 ·exact trivial
 ·exact⟨Nat.zero_le _,rfl⟩
 ·exact .refl _
 rintro k hI
 try dsimp only at hI
 obtain⟨hk,ha⟩:=hI
 try dsimp only
 constructor<;>intro q0
 ·simp at q0
  refine zAf hp ?_ ?_ fun b1 o1 hb1=>?_
  ·omega
  ·omega
  refine zAd 0 (k) rfl hp ?_ ?_ hb1 rfl (zAa 0 rfl) fun l2 hl2=>?_
  ·omega
  ·omega
  obtain⟨rfl,hw2⟩:=hl2;simp only[zAx,zAs,okI] at hw2
  constructor<;>intro q3
  ·simp at q3
   exact⟨[],⟨by rw[zYe (k:=k) oO (by first|assumption|omega)],rfl⟩,.refl _⟩
  simp at q3
  apply zAb (k+1)
  ·exact .refl _
  ·exact frI
  ·exact trivial
  ·exact⟨oO,zAG ha (by rw[decide_eq_false (by first|assumption|omega)];rfl)⟩
  omega
 simp at q0
 (have hke:k=xs.length:=oO;subst hke;exact⟨[],⟨by rw[zQq ha],rfl⟩,.refl _⟩)
theorem z49 {s:List Int} (h:zKi s=true) {k:Nat} (hk:k≤s.length):zB8 s k≤8:=by
 have h1:=zI4 h
 unfold zKi at h
 rw[Bool.and_eq_true,decide_eq_true_iff] at h
 exact Int.le_trans (zIn h1 hk) h.2
theorem z1P {l:List Int} {k:Nat} (h:k < l.length):l[k]?.getD 0∈l:=by
 rw[List.getElem?_eq_getElem h];exact List.getElem_mem h
theorem z7z {o v:Int} (h1:0≤o∧o≤8) (h2:1≤v∧v≤8):0≤o * v∧o * v≤64:=
 ⟨Int.mul_nonneg h1.1 oO,Int.le_trans (Int.mul_le_mul h1.2 h2.2 oO (by decide)) (by decide)⟩
theorem zIq (lq:List Value) (bn b1 b2:Option Addr) (mn cn m1 c1 m2 c2:Nat) (x:Query) (ns:List ByteArray) (s:List Int) (a:Int) (row:List Int) (ha:0≤a∧a < x.atoms.length) (hso:zKi s=true) (hs4:s.length≤4) (hn:ns.length=s.length) (hr:(zBg (x.atoms[a.toNat]?.getD default)).length≤row.length) :
  Ct prog 46 [.agg ⟨lq⟩,.slice bn mn cn,.slice b1 m1 c1,.int .i64 a,.slice b2 m2 c2] [] (fun H=>zAL.rd H lq x∧(gSl 9 gS).rd H [.slice bn mn cn] ns∧(gSl 3 gI).rd H [.slice b1 m1 c1] s∧(gSl 3 gI).rd H [.slice b2 m2 c2] row)
   (fun v A=>∃ b c,v = .slice b (zIG s (alM ns (zBg (x.atoms[a.toNat]?.getD default)) row s) s.length).length c∧(gSl 3 gI).ow [.slice b (zIG s (alM ns (zBg (x.atoms[a.toNat]?.getD default)) row s) s.length).length c] (zIG s (alM ns (zBg (x.atoms[a.toNat]?.getD default)) row s) s.length) A):=by
 refine Ct.intro0 zAh func46 rfl rfl rfl fun E H hp=>?_
 obtain⟨hp,hns,hq,hrow⟩:=hp
 obtain⟨rfl,hcn,hln⟩:=zAp hns
 obtain⟨rfl,hcl,hl⟩:=zAp hq
 obtain⟨rfl,hcl2,hl2⟩:=zAp hrow
 obtain⟨b1p,c1p,b2p,c2p,b3p,c3p,rfl,h1p,h2p,h3p⟩:=zAy.1 hp
 have hsk:=zI4 hso
 refine⟨fun x0=>?_⟩
 refine zAf h2p ?_ ?_ fun b1 o1 hb1=>?_
 ·omega
 ·omega
 refine zAF default h2p ?_ ?_ hb1 rfl (zAa 0 rfl) fun l2 hl2=>?_
 ·omega
 ·omega
 obtain⟨rfl,w0x2,w1x2,w2x2⟩:=zAT.1 hl2
 refine zAi (zFG _ (x.atoms[a.toNat]?.getD default)) (Rp.mono _ (zAa 0 rfl) hl2) ?_
 rintro v3 A3 o3
 obtain⟨bC,cC,rfl,oC⟩:=o3
 have rC:=Gt.owrd _ oC
 refine⟨fun x4=>?_⟩
 apply zAg (α:=(Nat)×(List Int)×(Hp)×(Option Addr)×(Nat)) zAh [25,26,27,28,31,14,32,33,34,35,36,37,15,16,38,39,40,41,17,44,45,46,47,48,49,52,53,54,55,56,57,58,59,60,61,62,63,64,65,66,67,68,69,70,71,72,73,74,75,76,77,78,79,80,50,51,42,43,81,12,29,30,13] (fun z=>[(13,.v (.int .i64 z.1)),(12,.v (.slice z.2.2.2.1 z.2.1.length z.2.2.2.2))]) (fun z=>[{ id:=x0,cs:=[Value.bool x.each,Value.slice b1p x.out.length c1p,Value.slice b2p x.atoms.length c2p,Value.slice b3p x.filters.length c3p],ty:=(43:Nat) }]) (fun z=>[z.2.2.1,A3,H]) (fun z=>ns.length-z.1) (fun z=>z.1≤ns.length∧z.2.1=zIG s (alM ns (zBg (x.atoms[a.toNat]?.getD default)) row s) z.1∧(gSl 3 gI).ow [.slice z.2.2.2.1 z.2.1.length z.2.2.2.2] z.2.1 z.2.2.1) ((0,[0],_,_,1))
 ·exact frI
 ·exact⟨rfl,trivial⟩
 ·try dsimp only
  exact⟨Nat.zero_le _,zYd.symm,zLe (by unfold okI;omega)⟩
 ·exact .refl _
 rintro ⟨i,o,A,lb,lc⟩ hI
 try dsimp only at hI
 obtain⟨hi,ho,oA⟩:=hI
 try dsimp only
 constructor<;>intro q5
 ·simp at q5
  have hp8:=z49 hso (by omega:i≤s.length)
  have hol:=zTK (al:=(alM ns (zBg (x.atoms[a.toNat]?.getD default)) row s)) hsk i oO
  rw[←ho] at hol
  have hor:=zTL (al:=(alM ns (zBg (x.atoms[a.toNat]?.getD default)) row s)) hsk i oO
  have hv:=zAq.1 (zBe hsk i oO)
  refine⟨fun x6=>?_⟩
  refine zAf hns ?_ ?_ fun b7 o7 hb7=>?_
  ·omega
  ·omega
  refine zAd ByteArray.empty (i) rfl hns ?_ ?_ hb7 rfl (zAa 3 rfl) fun l8 hl8=>?_
  ·omega
  ·omega
  obtain⟨rfl,hw8⟩:=hl8;simp only[zAx,zAs,okI] at hw8
  refine zAe (zCn _ _ _ (zBg (x.atoms[a.toNat]?.getD default)) _) (Rp.mono _ (zAa 2 rfl) rC) ?_
  rintro _ rfl
  apply zAg (α:=(Nat)×(List Int)×(Hp)×(Option Addr)×(Nat)) zAh [38,39,40,41,17,44,45,46,47,48,49,52,53,54,55,56,57,58,59,60,61,62,63,64,65,66,67,68,69,70,71,72,73,74,75,76,77,78,79,80,14,50,51,42,43,16] (fun z=>[(16,.v (.int .i64 z.1)),(14,.v (.slice z.2.2.2.1 z.2.1.length z.2.2.2.2))]) (fun z=>[{ id:=x0,cs:=[Value.bool x.each,Value.slice b1p x.out.length c1p,Value.slice b2p x.atoms.length c2p,Value.slice b3p x.filters.length c3p],ty:=(43:Nat) }]) (fun z=>[z.2.2.1,A,A3,H]) (fun z=>o.length-z.1) (fun z=>z.1≤o.length∧z.2.1=zMu s (alM ns (zBg (x.atoms[a.toNat]?.getD default)) row s) i o z.1∧(gSl 3 gI).ow [.slice z.2.2.2.1 z.2.1.length z.2.2.2.2] z.2.1 z.2.2.1) ((0,[],[],_,0))
  ·exact frI
  ·exact⟨rfl,trivial⟩
  ·try dsimp only
   exact⟨Nat.zero_le _,rfl,zAm _ _ _⟩
  ·exact .tl
  rintro ⟨k,t,B,tb,tc⟩ hI
  try dsimp only at hI
  obtain⟨hk,ht,oB⟩:=hI
  try dsimp only
  constructor<;>intro q10
  ·simp at q10
   have htl:=zLv (s:=s) (al:=(alM ns (zBg (x.atoms[a.toNat]?.getD default)) row s)) (i:=i) (out:=o) k oO
   rw[←ht] at htl
   have hk8:k * (s[i]?.getD 0).toNat≤64:=Nat.mul_le_mul (by omega:k≤8) (by omega:(s[i]?.getD 0).toNat≤8)
   have hok:=hor (o[k]?.getD 0) (by rw[←ho];exact z1P oO)
   have hpm:=z7z (o:=(o[k]?.getD 0)) (v:=(s[i]?.getD 0)) ⟨hok.1,oO⟩ hv
   apply zAg (α:=(Nat)×(List Int)×(Hp)×(Option Addr)×(Nat)) zAh [44,45,46,47,48,49,52,53,54,55,56,57,58,59,60,61,62,63,64,65,66,67,68,69,70,71,72,73,74,75,76,77,78,79,80,14,50,51,17] (fun z=>[(17,.v (.int .i64 z.1)),(14,.v (.slice z.2.2.2.1 z.2.1.length z.2.2.2.2))]) (fun z=>[{ id:=x0,cs:=[Value.bool x.each,Value.slice b1p x.out.length c1p,Value.slice b2p x.atoms.length c2p,Value.slice b3p x.filters.length c3p],ty:=(43:Nat) }]) (fun z=>[z.2.2.1,A,A3,H]) (fun z=>(s[i]?.getD 0).toNat-z.1) (fun z=>z.1≤(s[i]?.getD 0).toNat∧z.2.1=t++zLt s (alM ns (zBg (x.atoms[a.toNat]?.getD default)) row s) i (o[k]?.getD 0) z.1∧(gSl 3 gI).ow [.slice z.2.2.2.1 z.2.1.length z.2.2.2.2] z.2.1 z.2.2.1) ((0,t,B,tb,tc))
   ·exact frI
   ·exact⟨rfl,trivial⟩
   ·try dsimp only
    exact⟨Nat.zero_le _,(List.append_nil _).symm,oB⟩
   ·exact .refl _
   rintro ⟨d,u,C,ub,uc⟩ hI
   try dsimp only at hI
   obtain⟨hd,hu,oC2⟩:=hI
   try dsimp only
   refine zAf hq ?_ ?_ fun b11 o11 hb11=>?_
   ·omega
   ·omega
   refine zAd 0 (i) rfl hq ?_ ?_ hb11 rfl (zAa 3 rfl) fun l12 hl12=>?_
   ·omega
   ·omega
   obtain⟨rfl,hw12⟩:=hl12;simp only[zAx,zAs,okI] at hw12
   constructor<;>intro q13
   ·simp at q13
    have hwl:=zQp s (alM ns (zBg (x.atoms[a.toNat]?.getD default)) row s) i (o[k]?.getD 0) d
    have hul:u.length≤80:=(by rw[hu,List.length_append];omega)
    have hw9:IntKind.i64.wrap (IntKind.i64.wrap ((o[k]?.getD 0) * (s[i]?.getD 0))+(d:Int))=(o[k]?.getD 0) * (s[i]?.getD 0)+(d:Int):=(by rw[zAc (x:=(o[k]?.getD 0) * (s[i]?.getD 0)) oO oO,zAc (x:=(o[k]?.getD 0) * (s[i]?.getD 0)+(d:Int)) oO oO])
    refine zBr zAh zAK none (.q 0 (.q 1 (.q 2 (.q 3 (.q 4 (.q 5 (.q 6 (.q 7 (.q 8 (.q 9 (.q 10 (.q 12 (.f 11 (.q 13 (.q 14 (.nil)))))))))))))))) (by decide +kernel) ?_
    constructor<;>intro q14
    ·simp at q14
     refine zBr zAh zAK (some 13) (.q 0 (.q 1 (.q 2 (.q 3 (.q 4 (.q 5 (.q 6 (.q 7 (.q 8 (.q 9 (.q 10 (.q 11 (.f 12 (.tl 13 (.f 14 (.nil)))))))))))))))) (by decide +kernel) ?_
     refine zAf (Gt.owrd _ oA) ?_ ?_ fun b15 o15 hb15=>?_
     ·omega
     ·omega
     refine zAd 0 (k) rfl (Gt.owrd _ oA) ?_ ?_ hb15 rfl (zAa 1 rfl) fun l16 hl16=>?_
     ·omega
     ·omega
     obtain⟨rfl,hw16⟩:=hl16;simp only[zAx,zAs,okI] at hw16
     refine zAf hq ?_ ?_ fun b17 o17 hb17=>?_
     ·omega
     ·omega
     refine zAd 0 (i) rfl hq ?_ ?_ hb17 rfl (zAa 3 rfl) fun l18 hl18=>?_
     ·omega
     ·omega
     obtain⟨rfl,hw18⟩:=hl18;simp only[zAx,zAs,okI] at hw18
     refine⟨fun x19=>?_⟩
     refine VC.intro ?_ ?_
     ·exact zAA
     refine zAC (g:=gI) (T:=3) zAh C [] [A,A3,H] ?_ oC2 (zCN ?_) (List.mem_of_getElem? (i:=0) rfl) rfl rfl rfl rfl rfl rfl rfl rfl ?_ fun b20 c20 A20 o20=>?_
     ·exact .tl
     ·exact zGF _
     ·omega
     apply zAM (d+1,_,_,_,_)
     ·exact frI
     ·exact⟨rfl,trivial⟩
     ·try dsimp only
      exact⟨oO,by rw[zQo (z7x (zR8 oO)),←List.append_assoc,←hu,hw9],aA⟩
     ·exact .refl _
     try dsimp only
     omega
    simp at q14
    refine zAf hrow ?_ ?_ fun b21 o21 hb21=>?_
    ·trivial
    ·(have h9:=z3o (zBg (x.atoms[a.toNat]?.getD default)) (ns[i]?.getD ByteArray.empty);omega)
    refine zAF 0 hrow ?_ ?_ hb21 rfl (zAa 3 rfl) fun l22 hl22=>?_
    ·trivial
    ·(have h9:=z3o (zBg (x.atoms[a.toNat]?.getD default)) (ns[i]?.getD ByteArray.empty);omega)
    obtain⟨rfl,hw22⟩:=hl22;simp only[zAx,zAs,okI] at hw22
    refine zAf hq ?_ ?_ fun b23 o23 hb23=>?_
    ·omega
    ·omega
    refine zAd 0 (i) rfl hq ?_ ?_ hb23 rfl (zAa 3 rfl) fun l24 hl24=>?_
    ·omega
    ·omega
    obtain⟨rfl,hw24⟩:=hl24;simp only[zAx,zAs,okI] at hw24
    refine zAe (zHq _ _) trivial ?_
    rintro _ rfl
    refine VC.intro ?_ ?_
    ·exact fun _ h=>h
    constructor<;>intro q26
    ·simp at q26
     refine zBr zAh zAK (some 13) (.q 0 (.q 1 (.q 2 (.q 3 (.q 4 (.q 5 (.q 6 (.q 7 (.q 8 (.q 9 (.q 10 (.q 11 (.f 12 (.tl 13 (.f 14 (.nil)))))))))))))))) (by decide +kernel) ?_
     refine zAf (Gt.owrd _ oA) ?_ ?_ fun b27 o27 hb27=>?_
     ·omega
     ·omega
     refine zAd 0 (k) rfl (Gt.owrd _ oA) ?_ ?_ hb27 rfl (zAa 1 rfl) fun l28 hl28=>?_
     ·omega
     ·omega
     obtain⟨rfl,hw28⟩:=hl28;simp only[zAx,zAs,okI] at hw28
     refine zAf hq ?_ ?_ fun b29 o29 hb29=>?_
     ·omega
     ·omega
     refine zAd 0 (i) rfl hq ?_ ?_ hb29 rfl (zAa 3 rfl) fun l30 hl30=>?_
     ·omega
     ·omega
     obtain⟨rfl,hw30⟩:=hl30;simp only[zAx,zAs,okI] at hw30
     refine⟨fun x31=>?_⟩
     refine VC.intro ?_ ?_
     ·exact zAA
     refine zAC (g:=gI) (T:=3) zAh C [] [A,A3,H] ?_ oC2 (zCN ?_) (List.mem_of_getElem? (i:=0) rfl) rfl rfl rfl rfl rfl rfl rfl rfl ?_ fun b32 c32 A32 o32=>?_
     ·exact .tl
     ·exact zGF _
     ·omega
     apply zAM (d+1,_,_,_,_)
     ·exact frI
     ·exact⟨rfl,trivial⟩
     ·try dsimp only
      exact⟨oO,by rw[zQo (by rw[z7y (zLw oO)];exact decide_eq_true (by first|assumption|omega)),←List.append_assoc,←hu,hw9],aA⟩
     ·exact .refl _
     try dsimp only
     omega
    simp at q26
    apply zAM (d+1,_,_,_,_)
    ·exact frI
    ·exact⟨rfl,trivial⟩
    ·try dsimp only
     exact⟨oO,by rw[z1O (by rw[z7y (zLw oO)];exact decide_eq_false (by first|assumption|omega)),←hu],aA⟩
    ·exact .refl _
    try dsimp only
    omega
   simp at q13
   apply zAM (k+1,_,_,_,_)
   ·exact frI
   ·exact⟨rfl,trivial⟩
   ·try dsimp only
    (have hde:d=(s[i]?.getD 0).toNat:=oO;rw[hde] at hu;exact⟨oO,by rw[zNj oO,←ht,←hu],aA⟩)
   ·exact .refl _
   try dsimp only
   omega
  simp at q10
  apply zAM (i+1,_,_,_,_)
  ·exact frI
  ·exact⟨rfl,trivial⟩
  ·try dsimp only
   (have hke:k=o.length:=oO;rw[hke] at ht;exact⟨oO,by rw[zLu,←ho,←ht],aA⟩)
  ·exact rlA
  try dsimp only
  omega
 simp at q5
 (have hie:i=s.length:=oO;rw[hie] at ho;subst ho;exact⟨_,⟨_,_,rfl,aA⟩,rlB⟩)
end
section
attribute [local irreducible] IntKind.wrap
theorem zYf {a b:List Int} (h:a.length=b.length) (ha:zCd (fun i=>decide ((a[i]?.getD 0)=(b[i]?.getD 0))) a.length=true):a=b:=by
 apply List.ext_getElem h
 intro i h1 h2
 have:=of_decide_eq_true (zBe ha i h1)
 rw[List.getElem?_eq_getElem h1,List.getElem?_eq_getElem h2] at this
 exact this
theorem zNk (b1:Option Addr) (m1 c1:Nat) (b2:Option Addr) (m2 c2:Nat) (a b:List Int):Ct prog 57 [.slice b1 m1 c1,.slice b2 m2 c2] [] (fun H=>(gSl 3 gI).rd H [.slice b1 m1 c1] a∧(gSl 3 gI).rd H [.slice b2 m2 c2] b) (fun v A=>v = .bool (decide (a=b))∧A=[]):=by
 refine Ct.intro0 zAh func57 rfl rfl rfl fun E H hp=>?_
 obtain⟨hp,hq⟩:=hp
 obtain⟨rfl,hc1,hl1⟩:=zAp hp
 obtain⟨rfl,hc2,hl2⟩:=zAp hq
 constructor<;>intro q0
 ·simp at q0
  exact⟨[],⟨by rw[decide_eq_false (fun e=>by subst e;exact absurd rfl aA)],rfl⟩,.refl _⟩
 simp at q0
 apply zAg (α:=(Nat)) zAh [11,12,13,14,17,18,19,20,21,22,23,24,25,4,15,16,5] (fun z=>[(5,.v (.int .i64 z))]) (fun z=>[]) (fun z=>[H]) (fun z=>a.length-z) (fun z=>z≤a.length∧zCd (fun i=>decide ((a[i]?.getD 0)=(b[i]?.getD 0))) z=true) ((0))
 ·exact frI
 ·exact trivial
 ·exact⟨Nat.zero_le _,rfl⟩
 ·exact .refl _
 rintro k hI
 try dsimp only at hI
 obtain⟨hk,ha⟩:=hI
 try dsimp only
 constructor<;>intro q1
 ·simp at q1
  refine zBr zAh zAK none (.q 0 (.q 1 (.q 2 (.q 3 (.q 4 (.q 5 (.q 6 (.q 7 (.q 8 (.nil)))))))))) (by decide +kernel) ?_
  refine zAf hp ?_ ?_ fun b2 o2 hb2=>?_
  ·omega
  ·omega
  refine zAd 0 (k) rfl hp ?_ ?_ hb2 rfl (zAa 0 rfl) fun l3 hl3=>?_
  ·omega
  ·omega
  obtain⟨rfl,hw3⟩:=hl3;simp only[zAx,zAs,okI] at hw3
  refine zAf hq ?_ ?_ fun b4 o4 hb4=>?_
  ·omega
  ·omega
  refine zAd 0 (k) rfl hq ?_ ?_ hb4 rfl (zAa 0 rfl) fun l5 hl5=>?_
  ·omega
  ·omega
  obtain⟨rfl,hw5⟩:=hl5;simp only[zAx,zAs,okI] at hw5
  constructor<;>intro q6
  ·simp at q6
   exact⟨[],⟨by rw[decide_eq_false (fun e=>by subst e;exact absurd rfl aA)],rfl⟩,.refl _⟩
  simp at q6
  apply zAb (k+1)
  ·exact .refl _
  ·exact frI
  ·exact trivial
  ·exact⟨oO,zAG ha (decide_eq_true aA)⟩
  omega
 simp at q1
 (have hke:k=a.length:=oO;subst hke;exact⟨[],⟨by rw[decide_eq_true (zYf oO ha)],rfl⟩,.refl _⟩)
end
section
theorem z1Q (x:Int):IntKind.u64.wrap x=x % 18446744073709551616:=by
 unfold IntKind.wrap;simp [IntKind.bits,IntKind.signed]
theorem z5a (B:Int):B.fdiv (2 ^ min (Int.toNat 1) IntKind.u64.bits)=B / 2:=by
 have:(2:Int) ^ min (Int.toNat 1) IntKind.u64.bits=2:=by decide
 rw[this,Int.fdiv_eq_ediv_of_nonneg _ (by decide)]
theorem z7A (i j:Nat) (h:i+j≤1000000000):IntKind.i64.wrap ((IntKind.u64.wrap (IntKind.i64.wrap ((i:Int)+(j:Int)))).fdiv (2 ^ min (Int.toNat 1) IntKind.u64.bits))=(((i+j) / 2:Nat):Int):=by
 have e1:IntKind.i64.wrap ((i:Int)+(j:Int))=(i:Int)+(j:Int):=zAc oO oO
 rw[e1,z1Q,z5a,zAc oO oO]
 omega
end
section
theorem zGp:∀ {a b:List Int},zCi a b=0↔a=b
 | [],[]=>by simp [zCi]
 | [],_::_=>by simp [zCi]
 | _::_,[]=>by simp [zCi]
 | a::r,b::s=>by
  have ih:=zGp (a:=r) (b:=s)
  simp only[zCi]
  by_cases h1:a < b
  ·rw[if_pos h1];constructor
   ·intro h;exact absurd h (by decide)
   intro h;cases h;omega
  rw[if_neg h1]
  by_cases h2:b < a
  ·rw[if_pos h2];constructor
   ·intro h;exact absurd h (by decide)
   intro h;cases h;omega
  rw[if_neg h2,ih]
  obtain rfl:a=b:=by omega
  constructor
  ·rintro rfl;rfl
  intro h;cases h;rfl
theorem zOJ:∀ {a b c:List Int},zCi a b < 0→zCi b c < 0→zCi a c < 0
 | [],[],c,h,_=>by simp [zCi] at h
 | [],b::s,[],_,h=>by simp [zCi] at h
 | [],b::s,c::t,_,_=>by simp [zCi]
 | a::r,[],c,h,_=>by simp [zCi] at h
 | a::r,b::s,[],_,h=>by simp [zCi] at h
 | a::r,b::s,c::t,h1,h2=>by
  simp only[zCi] at h1 h2 ⊢
  split at h1
  ·split at h2
   ·rw[if_pos oO];decide
   split at h2
   ·exact absurd h2 (by decide)
   rw[if_pos oO];decide
  split at h1
  ·exact absurd h1 (by decide)
  split at h2
  ·rw[if_pos oO];decide
  split at h2
  ·exact absurd h2 (by decide)
  rw[if_neg oO,if_neg oO]
  exact zOJ h1 h2
theorem zOK:∀ {a b:List Int},zCi a b < 0↔0 < zCi b a
 | [],[]=>by simp [zCi]
 | [],_::_=>by simp [zCi]
 | _::_,[]=>by simp [zCi]
 | a::r,b::s=>by
  have ih:=zOK (a:=r) (b:=s)
  simp only[zCi]
  by_cases h1:a < b
  ·rw[if_pos h1,if_neg oO,if_pos h1];decide
  rw[if_neg h1]
  by_cases h2:b < a
  ·rw[if_pos h2,if_pos h2];decide
  rw[if_neg h2,if_neg h2,if_neg h1];exact ih
def zBE (xs:List Item) (i:Nat):List Int:=(xs[i]?.getD default).row
def zCJ (xs:List Item):Prop:=∀ i j,i < j→j < xs.length→zCi (zBE xs i) (zBE xs j) < 0
def atR (xs:List Item) (r:List Int) (k:Nat):Prop:=k≤xs.length∧(∀ q,q < k→zCi (zBE xs q) r < 0)∧(∀ q,k≤q→q < xs.length→¬zCi (zBE xs q) r < 0)
theorem z7B {xs:List Item} {r:List Int} {m:Nat} (hs:zCJ xs) (hm:m < xs.length) (h:zCi (zBE xs m) r < 0) (q:Nat) (hq:q < m+1):zCi (zBE xs q) r < 0:=by
 rcases Nat.lt_or_ge q m with h1|h1
 ·exact zOJ (hs q m h1 hm) h
 rw[show q=m from oO];exact h
theorem z3p {xs:List Item} {r:List Int} {m:Nat} (hs:zCJ xs) (h:¬zCi (zBE xs m) r < 0) (q:Nat) (h1:m≤q) (hq:q < xs.length):¬zCi (zBE xs q) r < 0:=by
 rcases Nat.lt_or_ge m q with h2|h2
 ·intro h3;exact h (zOJ (hs m q h2 hq) h3)
 rw[show q=m from oO];exact h
attribute [local irreducible] IntKind.wrap
theorem zLx (l:List Value) (b:Option Addr) (m c:Nat) (x:Item) (r:List Int):Ct prog 177 [.agg ⟨l⟩,.slice b m c] [] (fun H=>zAo.rd H l x∧(gSl 3 gI).rd H [.slice b m c] r) (fun v A=>v = .int .i64 (zCi x.row r)∧A=[]):=by
 refine Ct.intro0 zAh func177 rfl rfl rfl fun E H hp=>?_
 obtain⟨hp,hq⟩:=hp
 obtain⟨b0p,c0p,rfl,h0p,w1p⟩:=zAB.1 hp
 refine⟨fun x0=>?_⟩
 refine zAe (zEv _ _ _ _ _ _ (x.row) (r)) ⟨(Rp.mono _ (zAa 0 rfl) h0p),(Rp.mono _ (zAa 0 rfl) hq)⟩ ?_
 rintro _ rfl
 exact⟨[],⟨rfl,rfl⟩,.mem sI⟩
theorem zYg (b:Option Addr) (m c:Nat) (b2:Option Addr) (m2 c2:Nat) (xs:List Item) (r:List Int) (hs:zCJ xs) (hm:xs.length≤1000000) :
  Ct prog 176 [.slice b m c,.slice b2 m2 c2,.func (.func 177) ⟨[]⟩ ⟨[]⟩] [] (fun H=>(gSl 100 zAo).rd H [.slice b m c] xs∧(gSl 3 gI).rd H [.slice b2 m2 c2] r)
   (fun v A=>(∃ k:Nat,atR xs r k∧v = .tuple #[.int .i64 (k:Int),.bool (decide (k < xs.length∧zBE xs k=r))])∧A=[]):=by
 refine Ct.intro0 zAh func176 rfl rfl rfl fun E H hp=>?_
 obtain⟨hp,hp2⟩:=hp
 obtain⟨rfl,hcl,hl⟩:=zAp hp
 obtain⟨rfl,hcl2,hl2⟩:=zAp hp2
 apply zAg (α:=(Nat)×(Nat)) zAh [15,16,17,18,19,20,21,22,23,11,24,25,26,27,28,29,30,31,32,33,9,34,10] (fun z=>[(9,.v (.int .i64 z.1)),(10,.v (.int .i64 z.2))]) (fun z=>[]) (fun z=>[H]) (fun z=>z.2-z.1) (fun z=>z.1≤z.2∧z.2≤xs.length∧(∀ q,q < z.1→zCi (zBE xs q) r < 0)∧(∀ q,z.2≤q→q < xs.length→¬zCi (zBE xs q) r < 0)) ((0,xs.length))
 ·repeat' (first|exact trivial|refine⟨⟨_,rfl,by first|exact frE|(refine zAz ?_;simp;done)|(rw[hh];exact zCy _ oO)|(rw[hh]),frO⟩,?_⟩)
 ·exact trivial
 ·try dsimp only
  exact⟨oO,oO,fun q hq=>absurd hq oO,fun q hq hq2=>absurd hq2 oO⟩
 ·exact .refl _
 rintro ⟨i,j⟩ hI
 try dsimp only at hI
 obtain⟨hij,hj,h1,h2⟩:=hI
 try dsimp only
 constructor<;>intro q0
 ·simp at q0
  have hh:=z7A i j oO
  refine VC.intro ?_ ?_
  ·trivial
  refine zAf hp ?_ ?_ fun b1 o1 hb1=>?_
  ·omega
  ·omega
  refine zAF default hp ?_ ?_ hb1 rfl (zAa 0 rfl) fun l2 hl2=>?_
  ·omega
  ·omega
  obtain⟨b0x2,c0x2,rfl,h0x2,w1x2⟩:=zAB.1 hl2
  refine zAe (zLx _ _ _ _ (xs[(IntKind.i64.wrap ((IntKind.u64.wrap (IntKind.i64.wrap ((↑i:Int)+(↑j:Int)))).fdiv ((2:Int) ^ min (Int.toNat (1:Int)) IntKind.u64.bits))).toNat]?.getD default) (r)) ⟨(Rp.mono _ (zAa 0 rfl) hl2),(Rp.mono _ (zAa 0 rfl) hp2)⟩ ?_
  rintro _ rfl
  constructor<;>intro q4
  ·rw[hh,Int.toNat_natCast] at q4
   simp at q4
   apply zAb ((i+j) / 2+1,j)
   ·exact .refl _
   ·repeat' (first|exact trivial|refine⟨⟨_,rfl,by first|exact frE|(refine zAz ?_;simp;done)|(rw[hh];exact zCy _ oO)|(rw[hh]),frO⟩,?_⟩)
   ·exact trivial
   ·try dsimp only
    exact⟨oO,oO,z7B hs oO ‹zCi _ _ < 0›,h2⟩
   try dsimp only
   omega
  rw[hh,Int.toNat_natCast] at q4
  simp at q4
  apply zAb (i,(i+j) / 2)
  ·exact .refl _
  ·repeat' (first|exact trivial|refine⟨⟨_,rfl,by first|exact frE|(refine zAz ?_;simp;done)|(rw[hh];exact zCy _ oO)|(rw[hh]),frO⟩,?_⟩)
  ·exact trivial
  ·try dsimp only
   exact⟨oO,oO,h1,z3p hs (by show ¬zCi (xs[(i+j) / 2]?.getD default).row r < 0;omega)⟩
  try dsimp only
  omega
 simp at q0
 obtain rfl:i=j:=by omega
 constructor<;>intro q5
 ·simp at q5
  refine zAf hp ?_ ?_ fun b6 o6 hb6=>?_
  ·omega
  ·omega
  refine zAd default (i) rfl hp ?_ ?_ hb6 rfl (zAa 0 rfl) fun l7 hl7=>?_
  ·omega
  ·omega
  obtain⟨b0x7,c0x7,rfl,h0x7,w1x7⟩:=zAB.1 hl7
  refine zAe (zLx _ _ _ _ (xs[i]?.getD default) (r)) ⟨(Rp.mono _ (zAa 0 rfl) hl7),(Rp.mono _ (zAa 0 rfl) hp2)⟩ ?_
  rintro _ rfl
  exact⟨[],⟨⟨i,⟨oO,h1,h2⟩,by (congr 2;rw[←decide_eq_decide.2 (show (zCi (xs[i]?.getD default).row r=0)↔(i < xs.length∧zBE xs i=r) from zGp.trans ⟨fun h=>⟨oO,h⟩,fun h=>h.2⟩)];rfl)⟩,rfl⟩,.mem sI⟩
 simp at q5
 exact⟨[],⟨⟨i,⟨oO,h1,h2⟩,by rw[decide_eq_false oO]⟩,rfl⟩,.mem sI⟩
theorem zGO (b:Option Addr) (m c:Nat) (b2:Option Addr) (m2 c2:Nat) (xs:List Item) (r:List Int) (hs:zCJ xs) (hm:xs.length≤1000000) :
  Ct prog 139 [.slice b m c,.slice b2 m2 c2] [] (fun H=>(gSl 100 zAo).rd H [.slice b m c] xs∧(gSl 3 gI).rd H [.slice b2 m2 c2] r)
   (fun v A=>(∃ k:Nat,atR xs r k∧v = .tuple #[.int .i64 (k:Int),.bool (decide (k < xs.length∧zBE xs k=r))])∧A=[]):=by
 refine Ct.intro0 zAh func139 rfl rfl rfl fun E H hp=>?_
 obtain⟨hp,hp2⟩:=hp
 refine zAe (zYg _ _ _ _ _ _ (xs) (r) ?_ ?_) ⟨(Rp.mono _ (zAa 0 rfl) hp),(Rp.mono _ (zAa 0 rfl) hp2)⟩ ?_
 ·trivial
 ·trivial
 rintro _ ⟨k0,hk0,rfl⟩
 exact⟨[],⟨⟨_,aA,rfl⟩,rfl⟩,.mem sI⟩
end
section
attribute [local irreducible] IntKind.wrap
def zEE (xs:List Item) (r:List Int) (t:Int) (k:Nat):List Item×Bool:=
 if zDo r=true∧(0 < xs.length→(zBE xs 0).length=r.length) then
  if k < xs.length∧zBE xs k=r then (xs.set k ⟨(xs[k]?.getD default).row,min ((xs[k]?.getD default).times+t) 1000000⟩,true)
  else if xs.length=300 then (xs,false) else (xs.take k++([⟨r,t⟩]++xs.drop k),true)
 else (xs,false)
theorem zTN {xs:List Item} {r:List Int} {t:Int} {k:Nat} (h:zDo r=false):zEE xs r t k=(xs,false):=if_neg fun e=>by rw[h] at e;cases e.1
theorem zTO {xs:List Item} {r:List Int} {t:Int} {k:Nat} (h0:0 < xs.length) (h:¬(zBE xs 0).length=r.length):zEE xs r t k=(xs,false):=if_neg fun e=>h (e.2 h0)
theorem zOL {xs:List Item} {r:List Int} {t:Int} {k:Nat} (h:zDo r=true) (h1:0 < xs.length→(zBE xs 0).length=r.length) (h2:k < xs.length∧zBE xs k=r):zEE xs r t k=(xs.set k ⟨(xs[k]?.getD default).row,min ((xs[k]?.getD default).times+t) 1000000⟩,true):=by
 unfold zEE;rw[if_pos ⟨h,h1⟩,if_pos h2]
theorem zLy {xs:List Item} {r:List Int} {t:Int} {k:Nat} (h:zDo r=true) (h1:0 < xs.length→(zBE xs 0).length=r.length) (h2:¬(k < xs.length∧zBE xs k=r)) (h3:xs.length=300):zEE xs r t k=(xs,false):=by
 unfold zEE;rw[if_pos ⟨h,h1⟩,if_neg h2,if_pos h3]
theorem zIr {xs:List Item} {r:List Int} {t:Int} {k:Nat} (h:zDo r=true) (h1:0 < xs.length→(zBE xs 0).length=r.length) (h2:¬(k < xs.length∧zBE xs k=r)) (h3:¬xs.length=300):zEE xs r t k=(xs.take k++([⟨r,t⟩]++xs.drop k),true):=by
 unfold zEE;rw[if_pos ⟨h,h1⟩,if_neg h2,if_neg h3]
theorem z58:∀ xs:List Int,szL gI xs=xs.length
 | []=>rfl
 | x::r=>by
  have:=z58 r
  show 1+0+szL gI r=_
  rw[this,List.length_cons];omega
theorem zGP {r:List Int} (h:zDo r=true):r.length≤4:=by
 unfold zDo at h
 rw[Bool.and_eq_true,decide_eq_true_iff] at h
 exact h.1
theorem zR9 {a:Int} (h1:1≤a∧a≤2000000):(if 1000000 < IntKind.i64.wrap a then 1000000 else IntKind.i64.wrap a)=min a 1000000:=by
 rw[zAc (x:=a) oO oO]
 split<;>omega
theorem zYh {a:Int} (h1:1≤a∧a≤2000000):okI (if 1000000 < IntKind.i64.wrap a then 1000000 else IntKind.i64.wrap a):=by
 rw[zR9 h1];unfold okI;omega
theorem zIs {b:Option Addr} {c:Nat} {r:List Int} {t:Int} {A:Hp} (h:(gSl 3 gI).ow [.slice b r.length c] r A) (ht:1≤t∧t≤1000000):zAo.ow (.slice b r.length c :: .int .i64 t::List.append [] (zAX 0 [.slice none 0 0,.int .i64 0])) ⟨r,t⟩ A:=
 zFx.2 ⟨b,c,A,rfl,.refl _,h,by unfold okI;dsimp only;omega⟩
theorem zI5 {xs ys:List Item} {r:List Int} {t:Int} {k q n:Nat} {w:Bool} {b:Option Addr} {c:Nat} {A:Hp} (e:zEE xs r t k=(ys,w)) (hk:zDo r=true∧(0 < xs.length→(zBE xs 0).length=r.length)→atR xs r k) (hn:n=ys.length) (o:(gSl 100 zAo).ow [.slice b n c] ys A) :
  ∃ k b' c' A',(zDo r=true∧(0 < xs.length→(zBE xs 0).length=r.length)→atR xs r k)∧Value.bool w = .bool (zEE xs r t k).2∧(q,Obj.cells ⟨[.slice b n c]⟩ 47)::A=(q,Obj.cells ⟨[.slice b' (zEE xs r t k).1.length c']⟩ 47)::A'∧(gSl 100 zAo).ow [.slice b' (zEE xs r t k).1.length c'] (zEE xs r t k).1 A':=by
 subst hn
 exact⟨k,b,c,A,hk,by rw[e],by rw[e],by rw[e];exact o⟩
theorem zYi (q:Nat) (b:Option Addr) (c:Nat) (xs:List Item) (A:Hp) (b2:Option Addr) (m2 c2:Nat) (r:List Int) (t:Int) (ho:(gSl 100 zAo).ow [.slice b xs.length c] xs A) (hs:zCJ xs) (hx:xs.length≤300) (ht:1≤t∧t≤1000000) (hxt:∀ i,i < xs.length→1≤(xs[i]?.getD default).times∧(xs[i]?.getD default).times≤1000000) :
  CtR prog 81 [.pointer (some ⟨q,0,none⟩),.slice b2 m2 c2,.int .i64 t] ((q,Obj.cells ⟨[.slice b xs.length c]⟩ 47)::A) (fun H=>(gSl 3 gI).rd H [.slice b2 m2 c2] r)
   (fun v D=>∃ k b c A,(zDo r=true∧(0 < xs.length→(zBE xs 0).length=r.length)→atR xs r k)∧v = .bool (zEE xs r t k).2∧D=(q,Obj.cells ⟨[.slice b (zEE xs r t k).1.length c]⟩ 47)::A∧(gSl 100 zAo).ow [.slice b (zEE xs r t k).1.length c] (zEE xs r t k).1 A):=by
 refine CtR.introB zAh [.p 0 0,.v (.slice b2 m2 c2),.v (.int .i64 t)] [⟨q,[.slice b xs.length c],47⟩] [A] func81 rfl rfl rfl rfl (by simp [SV.ok]) (by simp [Blk.ent]) fun E H hp=>?_
 obtain⟨rfl,hcl2,hl2⟩:=zAp hp
 have hrd:=Gt.owrd _ ho
 refine zAe (zF8 _ _ _ (r)) (Rp.mono _ (zAa 1 rfl) hp) ?_
 rintro _ rfl
 constructor<;>intro q1
 ·simp at q1
  exact⟨_,zI5 (k:=0) (zTN aA) (fun e=>by rw[‹zDo r=false›] at e;cases e.1) rfl ho,rlB⟩
 simp at q1
 constructor<;>intro q2
 ·simp at q2
  refine zAf hrd ?_ ?_ fun b3 o3 hb3=>?_
  ·trivial
  ·omega
  refine zAw default (0) 0 rfl hrd ?_ ?_ hb3 rfl (by decide) (zAa 0 rfl) fun l4 hl4=>?_
  ·trivial
  ·omega
  obtain⟨b0x4,c0x4,rfl,h0x4,w1x4⟩:=zAB.1 hl4
  constructor<;>intro q5
  ·simp at q5
   exact⟨_,zI5 (k:=0) (zTO oO (by show ¬(xs[0]?.getD default).row.length=r.length;omega)) (fun e=>absurd (e.2 oO) (by show ¬(xs[0]?.getD default).row.length=r.length;omega)) rfl ho,rlB⟩
  simp at q5
  refine zAe (zGO _ _ _ _ _ _ xs r hs oO) ⟨(Rp.mono _ (zAa 0 rfl) hrd),(Rp.mono _ (zAa 1 rfl) hp)⟩ ?_
  rintro _ ⟨kk,hkk,rfl⟩
  constructor<;>intro q7
  ·simp at q7
   refine zBr zAh zAK (some 18) (.q 0 (.q 1 (.q 2 (.q 3 (.q 4 (.q 5 (.q 6 (.q 7 (.q 8 (.q 9 (.q 10 (.q 11 (.q 12 (.q 13 (.q 14 (.f 15 (.q 16 (.q 17 (.tl 18 (.nil)))))))))))))))))))) (by decide +kernel) ?_
   refine zAf hrd ?_ ?_ fun b8 o8 hb8=>?_
   ·omega
   ·omega
   refine zAw default (kk) 1 rfl hrd ?_ ?_ hb8 rfl (by decide) (zAa 0 rfl) fun l9 hl9=>?_
   ·omega
   ·omega
   obtain⟨b0x9,c0x9,rfl,h0x9,w1x9⟩:=zAB.1 hl9
   refine VC.intro ?_ ?_
   ·exact fun _ h=>h
   refine zAf hrd ?_ ?_ fun b10 o10 hb10=>?_
   ·omega
   ·omega
   refine zBq zFy default (kk) 0 rfl rfl ho ?_ ?_ hb10 rfl zHx _ (zCN ?_) fun A11 o11=>?_
   ·omega
   ·omega
   ·exact zYh (by have:=hxt _ (‹_∧zBE xs _=r›).1;omega)
   exact⟨_,zI5 (k:=kk) (zOL aA (fun _=>by show (xs[0]?.getD default).row.length=r.length;omega) aA) (fun _=>hkk) (by rw[List.length_set]) (by rw[←zR9 (by have:=hxt kk (‹_∧zBE xs kk=r›).1;omega)];assumption),rlB⟩
  simp at q7
  constructor<;>intro q12
  ·simp at q12
   exact⟨_,zI5 (k:=kk) (zLy aA (fun h0=>by show (xs[0]?.getD default).row.length=r.length;omega) (by first|assumption|(exact fun e=>absurd e.1 oO)|(rintro ⟨h8,h9⟩;exact absurd h9 (by simp_all))) oO) (fun _=>hkk) rfl ho,rlB⟩
  simp at q12
  refine zBr zAh zAK (some 11) (.q 0 (.q 1 (.q 2 (.q 3 (.q 4 (.q 5 (.q 6 (.q 8 (.f 7 (.q 9 (.f 10 (.tl 11 (.f 12 (.f 13 (.f 14 (.nil)))))))))))))))) (by decide +kernel) ?_
  refine zAi (zGc _ _ _ (r) ?_) (Rp.mono _ (zAa 1 rfl) hp) ?_
  ·(rw[z58];have:=zGP ‹zDo r=true›;omega)
  rintro v13 A13 o13
  obtain⟨bR,cR,rfl,oR⟩:=o13
  generalize A13=AR at *
  refine VC.intro ?_ ?_
  ·exact zAA
  refine⟨fun x14=>?_⟩
  refine VC.intro ?_ ?_
  ·exact zAA
  refine zA1 (A++AR) [[(_,Obj.cells ⟨.slice bR r.length cR :: .int .i64 t::List.append [] (zAX 0 [.slice none 0 0,.int .i64 0])⟩ 100)],H] (zGN _ _ _ _ _ xs ⟨r,t⟩ _ A AR ho (zIs oR ht) ?_ ?_) ?_ (zAa 0 rfl _ (List.mem_singleton.2 rfl)) ?_
  ·exact hkk.1
  ·omega
  ·exact rlA
  rintro _ AI ⟨bI,cI,rfl,oI⟩
  refine⟨[AI],by simp,?_⟩
  exact⟨_,zI5 (k:=kk) (zIr aA (fun h0=>by show (xs[0]?.getD default).row.length=r.length;omega) (by first|assumption|(exact fun e=>absurd e.1 oO)|(rintro ⟨h8,h9⟩;exact absurd h9 (by simp_all))) oO) (fun _=>hkk) rfl oI,rlB⟩
 simp at q2
 have hlz:xs.length=0:=(congrArg List.length q2)
 refine zAe (zGO _ _ _ _ _ _ xs r hs oO) ⟨(Rp.mono _ (zAa 0 rfl) hrd),(Rp.mono _ (zAa 1 rfl) hp)⟩ ?_
 rintro _ ⟨kk,hkk,rfl⟩
 constructor<;>intro q17
 ·simp at q17
  exfalso;omega
 simp at q17
 constructor<;>intro q18
 ·simp at q18
  exfalso;omega
 simp at q18
 refine zBr zAh zAK (some 11) (.q 0 (.q 1 (.q 2 (.q 3 (.q 4 (.q 5 (.q 6 (.q 8 (.f 7 (.q 9 (.f 10 (.tl 11 (.f 12 (.f 13 (.f 14 (.nil)))))))))))))))) (by decide +kernel) ?_
 refine zAi (zGc _ _ _ (r) ?_) (Rp.mono _ (zAa 1 rfl) hp) ?_
 ·(rw[z58];have:=zGP ‹zDo r=true›;omega)
 rintro v19 A19 o19
 obtain⟨bR,cR,rfl,oR⟩:=o19
 generalize A19=AR at *
 refine VC.intro ?_ ?_
 ·exact zAA
 refine⟨fun x20=>?_⟩
 refine VC.intro ?_ ?_
 ·exact zAA
 refine zA1 (A++AR) [[(_,Obj.cells ⟨.slice bR r.length cR :: .int .i64 t::List.append [] (zAX 0 [.slice none 0 0,.int .i64 0])⟩ 100)],H] (zGN _ _ _ _ _ xs ⟨r,t⟩ _ A AR ho (zIs oR ht) ?_ ?_) ?_ (zAa 0 rfl _ (List.mem_singleton.2 rfl)) ?_
 ·exact hkk.1
 ·omega
 ·exact rlA
 rintro _ AI ⟨bI,cI,rfl,oI⟩
 refine⟨[AI],by simp,?_⟩
 exact⟨_,zI5 (k:=kk) (zIr aA (fun h0=>by show (xs[0]?.getD default).row.length=r.length;omega) (by first|assumption|(exact fun e=>absurd e.1 oO)|(rintro ⟨h8,h9⟩;exact absurd h9 (by simp_all))) oO) (fun _=>hkk) rfl oI,rlB⟩
end
section
attribute [local irreducible] IntKind.wrap
def zFn (x:Item):Item:=⟨x.row,1⟩
def zLz (xs:List Item) (k:Nat):List Item:=(xs.take k).map zFn++xs.drop k
theorem zQr (xs:List Item) (k:Nat):(zLz xs k).length=xs.length:=by
 unfold zLz
 rw[List.length_append,List.length_map,List.length_take,List.length_drop];omega
theorem zTP {xs:List Item} {k:Nat} (h:k < xs.length):(zLz xs k)[k]?.getD default=xs[k]?.getD default:=by
 unfold zLz
 rw[List.getElem?_append_right (by rw[List.length_map,List.length_take];omega),List.length_map,List.length_take,List.getElem?_drop]
 congr 2;omega
theorem zNl {xs:List Item} {k:Nat} (h:k < xs.length):(zLz xs k).set k ⟨(xs[k]?.getD default).row,1⟩=zLz xs (k+1):=by
 unfold zLz
 have e1:xs.drop k=xs[k]::xs.drop (k+1):=List.drop_eq_getElem_cons h
 have e2:(xs.take (k+1))=xs.take k++[xs[k]]:=(List.take_append_getElem h).symm
 have e3:((xs.take k).map zFn).length=k:=by rw[List.length_map,List.length_take];omega
 rw[List.set_append_right _ _ oO,e3,Nat.sub_self,e1,e2,List.map_append,List.append_assoc,List.getElem?_eq_getElem h]
 rfl
theorem zQs (xs:List Item):zLz xs xs.length=xs.map zFn:=by
 unfold zLz;rw[List.take_length,List.drop_length,List.append_nil]
theorem zMv (l:List Value) (x:Bag) (hx:zDj.sz x≤1048576):Ct prog 142 [.agg ⟨l⟩] [] (fun H=>zDj.rd H l x) (fun v A=>∃ b c,v = .agg ⟨[.slice b (x.items.map zFn).length c]⟩∧(gSl 100 zAo).ow [.slice b (x.items.map zFn).length c] (x.items.map zFn) A):=by
 refine Ct.intro0 zAh func142 rfl rfl rfl fun E H hp=>?_
 obtain⟨b0p,c0p,rfl,h0p⟩:=zAD.1 hp
 have hl:=(zBo h0p).2
 refine⟨fun x0=>?_⟩
 refine⟨fun x1=>?_⟩
 refine zCW (zVg _ (x) ?_) (Rp.mono _ (zAa 0 rfl) hp) ?_
 ·trivial
 rintro v2 A2 o2
 obtain⟨l2,rfl,o2⟩:=o2
 obtain⟨bs,cs,As,rfl,hpm,os⟩:=zF5.1 o2
 refine⟨[As],by simpa using hpm,?_⟩
 refine⟨fun x3=>?_⟩
 apply zAg (α:=(Nat)×(Hp)) zAh [11,12,4,13,14,15,16,17,18,10] (fun z=>[(10,.v (.int .i64 z.1))]) (fun z=>[{ id:=x0,cs:=[Value.slice b0p x.items.length c0p],ty:=(47:Nat) },{ id:=x1,cs:=[Value.slice none (0:Nat) (0:Nat)],ty:=(47:Nat) },{ id:=x3,cs:=[Value.slice bs x.items.length cs],ty:=(47:Nat) }]) (fun z=>[z.2,H]) (fun z=>x.items.length-z.1) (fun z=>z.1≤x.items.length∧(gSl 100 zAo).ow [.slice bs x.items.length cs] (zLz x.items z.1) z.2) ((0,As))
 ·exact frI
 ·exact⟨rfl,rfl,rfl,trivial⟩
 ·try dsimp only
  exact⟨Nat.zero_le _,os⟩
 ·exact .refl _
 rintro ⟨k,V⟩ hI
 try dsimp only at hI
 obtain⟨hk,oV⟩:=hI
 try dsimp only
 constructor<;>intro q4
 ·simp at q4
  have hel:=zQr x.items k
  have hea:=zTP (by omega:k < x.items.length)
  refine zAf (Gt.owrd _ oV) ?_ ?_ fun b5 o5 hb5=>?_
  ·omega
  ·omega
  refine zBq zFy default (k) 0 rfl rfl oV ?_ ?_ hb5 rfl zHx _ (zCN ?_) fun A6 o6=>?_
  ·omega
  ·omega
  ·trivial
  apply zAb (k+1,_)
  ·exact .refl _
  ·exact frI
  ·exact⟨rfl,rfl,rfl,trivial⟩
  ·try dsimp only
   exact⟨oO,by rw[←zNl oO,←hea];assumption⟩
  try dsimp only
  omega
 simp at q4
 (have hke:k=x.items.length:=oO;rw[hke,zQs] at oV;exact⟨_,⟨bs,cs,by rw[List.length_map],by rw[List.length_map];exact oV⟩,rlB⟩)
end
section
attribute [local irreducible] IntKind.wrap
def zBD (a:Atom) (p:List Int):List Int:=if a.from'=a.to then p.take 1 else p
def zEV (a:Atom) (p:List Int):Bool:=if a.from'=a.to then decide ((p[0]?.getD 0)=(p[1]?.getD 0)) else true
theorem z3q {a:Atom} {p:List Int} (h:¬a.from'=a.to):zBD a p=p∧zEV a p=true:=by
 unfold zBD zEV;rw[if_neg h,if_neg h];exact⟨rfl,rfl⟩
theorem z3r {a:Atom} {p:List Int} (h:a.from'=a.to):zBD a p=p.take 1∧zEV a p=((p[0]?.getD 0) == (p[1]?.getD 0)):=by
 unfold zBD zEV;rw[if_pos h,if_pos h,zCm];exact⟨rfl,rfl⟩
theorem zSa {b:Option Addr} {n c:Nat} {p:List Int} {H:Hp} (h2:p.length=2) (h:(gSl 3 gI).rd H [.slice b n c] p):(gSl 3 gI).rd H [.slice (zCB c 0 b ty3.size) ((1:Int).toNat-0) (c-0)] (p.take 1):=by
 have hc:=(zAp h).2.1
 exact zJo (r:=gI.toRp) (l:=0) (h:=(1:Int).toNat) h oO (by show 1≤p.length;omega)
theorem zVz (l:List Value) (b:Option Addr) (m c:Nat) (a:Atom) (p:List Int) (h2:p.length=2) :
  Ct prog 158 [.agg ⟨l⟩,.slice b m c] [] (fun H=>zA9.rd H l a∧(gSl 3 gI).rd H [.slice b m c] p)
   (fun v A=>(∃ b' c',v = .tuple #[.slice b' (zBD a p).length c',.bool (zEV a p)]∧∀ H,(gSl 3 gI).rd H [.slice b m c] p→(gSl 3 gI).rd H [.slice b' (zBD a p).length c'] (zBD a p))∧A=[]):=by
 refine Ct.intro0 zAh func158 rfl rfl rfl fun E H hp=>?_
 obtain⟨hp,hq⟩:=hp
 obtain⟨rfl,hcl,hl⟩:=zAp hq
 obtain⟨rfl,w0f,w1f,w2f⟩:=zAT.1 hp
 refine⟨fun x0=>?_⟩
 constructor<;>intro q1
 ·simp at q1
  simp only[zAR,zBn,zAZ] at q1
  (obtain⟨e1,e2⟩:=z3q (p:=p) ‹¬a.from'=a.to›;rw[e1,e2];exact⟨[],⟨⟨_,_,rfl,fun H h=>h⟩,rfl⟩,.mem sI⟩)
 simp at q1
 simp only[zAR,zBn,zAZ] at q1
 refine zBr zAh zAK none (.q 0 (.q 1 (.q 2 (.q 3 (.q 4 (.q 5 (.q 6 (.q 7 (.q 8 (.q 9 (.q 10 (.nil)))))))))))) (by decide +kernel) ?_
 refine VC.intro ?_ ?_
 ·omega
 refine zAf hq ?_ ?_ fun b2 o2 hb2=>?_
 ·trivial
 ·omega
 refine zAd 0 (0) rfl hq ?_ ?_ hb2 rfl (zAa 0 rfl) fun l3 hl3=>?_
 ·trivial
 ·omega
 obtain⟨rfl,hw3⟩:=hl3;simp only[zAx,zAs,okI] at hw3
 refine zAf hq ?_ ?_ fun b4 o4 hb4=>?_
 ·trivial
 ·omega
 refine zAd 0 (1) rfl hq ?_ ?_ hb4 rfl (zAa 0 rfl) fun l5 hl5=>?_
 ·trivial
 ·omega
 obtain⟨rfl,hw5⟩:=hl5;simp only[zAx,zAs,okI] at hw5
 (obtain⟨e1,e2⟩:=z3r (p:=p) ‹a.from'=a.to›;have hl1:(p.take 1).length=1:=(by rw[List.length_take];omega);rw[e1,e2,hl1];exact⟨[],⟨⟨_,_,rfl,fun H h=>zSa h2 h⟩,rfl⟩,.mem sI⟩)
end
section
attribute [local irreducible] IntKind.wrap
theorem z5b {a b:Int} (h:¬a=b):(!decide (a=b))=true:=by rw[decide_eq_false h];rfl
theorem zVA (b:Option Addr) (m c:Nat) (xs:List Int) (v:Int) :
  Ct prog 160 [.slice b m c,.int .i64 v] [] (fun H=>(gSl 3 gI).rd H [.slice b m c] xs)
   (fun w A=>(∃ k:Int,w = .int .i64 k∧(decide (k≥0))=zZV xs v)∧A=[]):=by
 refine Ct.intro0 zAh func160 rfl rfl rfl fun E H hp=>?_
 obtain⟨rfl,hcl,hl⟩:=zAp hp
 apply zAg (α:=(Nat)×(Int)) zAh [9,10,5,11,12,13,14,15,16,17,4,18,8] (fun z=>[(8,.v (.int .i64 z.1)),(4,.v (.int .i64 z.2))]) (fun z=>[]) (fun z=>[H]) (fun z=>xs.length-z.1) (fun z=>z.1≤xs.length∧zCd (fun i=>!decide (xs[i]?.getD 0=v)) z.1=true) ((0,0))
 ·exact frI
 ·exact trivial
 ·try dsimp only
  exact⟨Nat.zero_le _,rfl⟩
 ·exact .refl _
 rintro ⟨k,j⟩ hI
 try dsimp only at hI
 obtain⟨hk,ha⟩:=hI
 try dsimp only
 constructor<;>intro q0
 ·simp at q0
  refine zAf hp ?_ ?_ fun b1 o1 hb1=>?_
  ·omega
  ·omega
  refine zAd 0 (k) rfl hp ?_ ?_ hb1 rfl (zAa 0 rfl) fun l2 hl2=>?_
  ·omega
  ·omega
  obtain⟨rfl,hw2⟩:=hl2;simp only[zAx,zAs,okI] at hw2
  constructor<;>intro q3
  ·simp at q3
   exact⟨[],⟨⟨_,rfl,by rw[zYe (k:=k) oO (by first|assumption|exact Eq.symm aA)];simp⟩,rfl⟩,.refl _⟩
  simp at q3
  apply zAb (k+1,_)
  ·exact .refl _
  ·exact frI
  ·exact trivial
  ·try dsimp only
   exact⟨oO,zAG ha (z5b (by first|assumption|exact fun e=>absurd e.symm aA))⟩
  try dsimp only
  omega
 simp at q0
 (have hke:k=xs.length:=oO;subst hke;exact⟨[],⟨⟨_,rfl,by rw[zQq ha];decide⟩,rfl⟩,.refl _⟩)
theorem zOM (b:Option Addr) (m c:Nat) (xs:List Int) (v:Int) :
  Ct prog 119 [.slice b m c,.int .i64 v] [] (fun H=>(gSl 3 gI).rd H [.slice b m c] xs)
   (fun w A=>w = .bool (zZV xs v)∧A=[]):=by
 refine Ct.intro0 zAh func119 rfl rfl rfl fun E H hp=>?_
 refine zAe (zVA _ _ _ (xs) _) (Rp.mono _ (zAa 0 rfl) hp) ?_
 rintro _ ⟨k,rfl,hk⟩
 exact⟨[],⟨by rw[←hk],rfl⟩,.refl _⟩
theorem zYj {s:List Int} {al:Nat→Int→Bool} {c:Int} (hs:zKi s=true) (h4:1≤s.length∧s.length≤4) (h:0≤c∧c < zA8 s):zZV (zG6 s al (zA8 s).toNat) c=zZV (zIG s al s.length) c:=by
 have hp:c < zB8 s s.length:=by rw[zIo h4 hs] at h;exact h.2
 have h1:=zX6 (al:=al) (zI4 hs) ⟨h.1,hp⟩
 unfold zZV
 rw[decide_eq_decide,h1]
 unfold zG6
 rw[List.mem_filter,List.mem_map]
 constructor
 ·rintro ⟨_,h2⟩;exact h2
 intro h2
 exact⟨⟨c.toNat,List.mem_range.2 oO,oO⟩,h2⟩
end
end Go.Proofs.YtcnclhjhnjpeiaaGreat
namespace Go.SX
section
variable {α β:Type}
def z89 (s:Nat):zC4 s:=⟨List.replicate s (.bool false),by simp,by
 induction s with
 | zero=>rfl
 | succ s ih=>rw[List.replicate_succ];exact ih⟩
def z9a (s:Nat) (hs:0 < s):Gt (zC4 s):=(zBF s hs).gt fun _=>z89 s
def z7C (g:Gt α):Rp (zC4 g.size×α) where
 size:=g.size
 rd H l z:=l=z.1.1∧g.rd H l z.2
 mono hh h:=⟨h.1,g.mono hh h.2⟩
 len h:=g.len h.2
instance (s:Nat):Inhabited (zC4 s):=⟨⟨List.replicate s (.bool false),by simp,by
 induction s with
 | zero=>rfl
 | succ s ih=>rw[List.replicate_succ];exact ih⟩⟩
theorem z3s {g:Gt α} {T:TypeId} {v:Value} {ls:List (zC4 g.size)} {xs:List α} {A A0:Hp} {As:List Hp} (ho:Ow (zBF g.size g.pos) T v ls A0) (hp:A.Perm (A0++As.flatten)) (hl:OwL g ls xs As):(zF0 (z7C g)).rd A [v] (ls.zip xs):=by
 obtain⟨base,cap,e,h1,h2⟩:=ho.rd
 obtain⟨e1,e2⟩:=hl.len
 have e3:(ls.zip xs).length=ls.length:=by rw[List.length_zip];omega
 refine⟨base,cap,by rw[e3];exact e,by rw[e3];exact h1,fun i hi=>?_⟩
 obtain⟨b,o,l',h3,h4,h5⟩:=h2 i oO
 have hsub:∀ p∈A0,p∈A:=fun p hp'=>hp.mem_iff.2 (List.mem_append_left _ hp')
 refine⟨b,o,l',h3,h4.mono hsub,?_⟩
 have h6:l'=(ls[i]'oO).1:=h5.1
 rw[List.getElem_zip]
 refine⟨h6,?_⟩
 rw[h6]
 refine g.mono (fun p hp'=>hp.mem_iff.2 (List.mem_append_right _ ?_)) (g.owrd (hl.get i oO oO oO))
 exact List.mem_flatten.2 ⟨_,List.getElem_mem _,hp'⟩
end
end Go.SX
namespace Go.Proofs.YtcnclhjhnjpeiaaGreat
open Go.SX Go.Proofs
open Tryz
section
attribute [local irreducible] IntKind.wrap
abbrev ZI:=zC4 zAo.size×Item
abbrev gRI:Gt (zC4 zAo.size):=z9a zAo.size zAo.pos
def lsZ (zs:List ZI):List (zC4 zAo.size):=zs.map (·.1)
def z1R (zs:List ZI) (i:Nat):List Int:=(zs[i]?.getD default).2.row
def zVB (zs:List ZI) (r:List Int) (k:Nat):Bool:=decide (k < zs.length∧z1R zs k=r)
def zGQ (zs:List ZI) (r:List Int) (k:Nat) (y:zC4 zAo.size) (i:Nat):List (zC4 zAo.size):=
 if i≤k then (lsZ zs).take i else (lsZ zs).take k++([y]++((lsZ zs).take i).drop (if zVB zs r k then k+1 else k))
theorem zFH {l:List Value} (h:l.length=zAo.size∧zBP l=true):gRI.ow l ⟨l,h⟩ []:=⟨rfl,trivial,rfl⟩
def yOk (zs:List ZI) (r:List Int) (t:Int) (k:Nat) (y:zC4 zAo.size) (B:Hp):Prop:=
 if zVB zs r k then y.1=(zs[k]?.getD default).1.1.set 1 (.int .i64 (min ((zs[k]?.getD default).2.times+t) 1000000))∧B=[] else zAo.ow y.1 ⟨r,t⟩ B
theorem zYk (zs:List ZI) (r:List Int) (k:Nat) (y:zC4 zAo.size):zGQ zs r k y 0=[]:=by unfold zGQ;rw[if_pos (Nat.zero_le _)];rfl
theorem z1S (zs:List ZI) (r:List Int) (t:Int) (k:Nat):0≤zs.length∧(0≤k→([]:Hp)=[])∧(k < 0→yOk zs r t k default [])∧(gSl 100 gRI).ow [.slice none (zGQ zs r k default 0).length 0] (zGQ zs r k default 0) []:=by
 rw[zYk]
 exact⟨Nat.zero_le _,fun _=>rfl,fun h=>absurd h oO,zAm _ _ _⟩
theorem zYl {zs:List ZI} {i:Nat} {l:List Value} {hr:l.length=zAo.size∧zBP l=true} (h:i < zs.length) (e:l=(zs[i]?.getD default).1.1):(lsZ zs).take (i+1)=(lsZ zs).take i++[⟨l,hr⟩]:=by
 have h1:i < (lsZ zs).length:=by unfold lsZ;rw[List.length_map];exact h
 have h2:(lsZ zs)[i]=⟨l,hr⟩:=by
  have h3:(lsZ zs)[i]=(zs[i]'h).1:=List.getElem_map ..
  rw[h3]
  refine Subtype.ext ?_
  rw[List.getElem?_eq_getElem h] at e
  exact e.symm
 rw[←List.take_append_getElem h1,h2]
theorem zHI (zs:List ZI):(lsZ zs).length=zs.length:=by unfold lsZ;exact List.length_map ..
theorem zD8 {zs:List ZI} {r:List Int} {k i:Nat} {y:zC4 zAo.size} {l:List Value} {hr:l.length=zAo.size∧zBP l=true} (hik:i < k) (h:i < zs.length) (e:l=(zs[i]?.getD default).1.1):zGQ zs r k y (i+1)=zGQ zs r k y i++[⟨l,hr⟩]:=by
 unfold zGQ
 rw[if_pos oO,if_pos oO,zYl (hr:=hr) h e]
theorem zC7 {zs:List ZI} {r:List Int} {k i:Nat} {y:zC4 zAo.size} {l:List Value} {hr:l.length=zAo.size∧zBP l=true} (hik:k < i) (h:i < zs.length) (e:l=(zs[i]?.getD default).1.1):zGQ zs r k y (i+1)=zGQ zs r k y i++[⟨l,hr⟩]:=by
 unfold zGQ
 have h1:((lsZ zs).take i).length=i:=by rw[List.length_take,zHI];omega
 have h2:(if zVB zs r k then k+1 else k)≤((lsZ zs).take i).length:=by rw[h1];split<;>omega
 rw[if_neg (show ¬i+1≤k from oO),if_neg (show ¬i≤k from oO),zYl (hr:=hr) h e,List.drop_append_of_le_length h2]
 simp
theorem zDF {zs:List ZI} {r:List Int} {k:Nat} {y y2:zC4 zAo.size} (h:zVB zs r k=true):zGQ zs r k y2 (k+1)=zGQ zs r k y k++[y2]:=by
 unfold zGQ
 rw[if_neg oO,if_pos (Nat.le_refl _),h,if_pos rfl,List.drop_eq_nil_of_le (by rw[List.length_take];omega)]
 simp
theorem zD9 {zs:List ZI} {r:List Int} {k:Nat} {y y2:zC4 zAo.size} {l:List Value} {hr:l.length=zAo.size∧zBP l=true} (h:zVB zs r k=false) (hk:k < zs.length) (e:l=(zs[k]?.getD default).1.1):zGQ zs r k y2 (k+1)=zGQ zs r k y k++[y2]++[⟨l,hr⟩]:=by
 unfold zGQ
 have h1:((lsZ zs).take k).length=k:=by rw[List.length_take,zHI];omega
 rw[if_neg oO,if_pos (Nat.le_refl _),h,if_neg sI,zYl (hr:=hr) hk e,List.drop_append_of_le_length oO,List.drop_eq_nil_of_le oO]
 simp
theorem z5c {zs:List ZI} {r:List Int} {k:Nat} {y:zC4 zAo.size} (hk:k < zs.length):zGQ zs r k y (zs.length+1)=zGQ zs r k y zs.length:=by
 unfold zGQ
 rw[if_neg (show ¬zs.length+1≤k from oO),if_neg (show ¬zs.length≤k from oO),List.take_of_length_le (i:=zs.length+1) (by rw[zHI];omega),List.take_of_length_le (i:=zs.length) (by rw[zHI];omega)]
theorem zYm (zs:List ZI) (r:List Int):zVB zs r zs.length=false:=by unfold zVB;rw[decide_eq_false oO]
theorem zTQ {zs:List ZI} {r:List Int} {y y2:zC4 zAo.size}:zGQ zs r zs.length y2 (zs.length+1)=zGQ zs r zs.length y zs.length++[y2]:=by
 unfold zGQ
 rw[if_neg oO,if_pos (Nat.le_refl _),zYm,if_neg sI,List.drop_eq_nil_of_le (by rw[List.length_take,zHI];omega)]
 simp
theorem zYn (zs:List ZI) (r:List Int) (k:Nat) (y:zC4 zAo.size) (i:Nat):(zGQ zs r k y i).length≤zs.length+1:=by
 unfold zGQ
 split
 ·rw[List.length_take,zHI];omega
 simp only[List.length_append,List.length_take,List.length_drop,List.length_cons,List.length_nil,zHI]
 split<;>omega
theorem zI6 {zs:List ZI} {r:List Int} {k:Nat} {y:zC4 zAo.size} {i:Nat} (hx:zs.length≤2000000):(zGQ zs r k y i).length+1≤1073741824:=by have:=zYn zs r k y i;omega
theorem z5d {zs:List ZI} {r:List Int} {k:Nat} {y y2:zC4 zAo.size} {i:Nat} (hx:zs.length≤2000000):(zGQ zs r k y i++[y2]).length+1≤1073741824:=by have:=zYn zs r k y i;rw[List.length_append];simp only[List.length_cons,List.length_nil];omega
theorem zNm {k i:Nat} (h:k < i):Value.bool true=Value.bool (decide (k < i)):=by rw[decide_eq_true h]
theorem zI7 {k i j:Nat} (h:k < i) (h2:k < j):Value.bool (decide (k < i))=Value.bool (decide (k < j)):=by rw[decide_eq_true h,decide_eq_true h2]
theorem zI8 {k i j:Nat} (h:¬k < i) (h2:¬k < j):Value.bool (decide (k < i))=Value.bool (decide (k < j)):=by rw[decide_eq_false h,decide_eq_false h2]
theorem zYo {zs:List ZI} {r:List Int} {t v w:Int} {k n c:Nat} {b:Option Addr} {hr:([Value.slice b n c,.int .i64 v]).length=zAo.size∧zBP [Value.slice b n c,.int .i64 v]=true} (hh:zVB zs r k=true) (e:[Value.slice b n c,.int .i64 w]=(zs[k]?.getD default).1.1) (h:v=min ((zs[k]?.getD default).2.times+t) 1000000):yOk zs r t k ⟨[.slice b n c,.int .i64 v],hr⟩ []:=by
 unfold yOk;rw[hh,if_pos rfl,←e,h];exact⟨rfl,rfl⟩
theorem zYp {zs:List ZI} {r:List Int} {t:Int} {k c:Nat} {b:Option Addr} {A:Hp} {hr:([Value.slice b r.length c,.int .i64 t]).length=zAo.size∧zBP [Value.slice b r.length c,.int .i64 t]=true} (hh:zVB zs r k=false) (o:(gSl 3 gI).ow [.slice b r.length c] r A) (ht:1≤t∧t≤1000000):yOk zs r t k ⟨[.slice b r.length c,.int .i64 t],hr⟩ A:=by
 unfold yOk;rw[hh,if_neg sI];exact zIs o ht
theorem z9b {a:Int} (h:1≤a∧a≤2000000) (h2:1000000 < IntKind.i64.wrap a):1000000=min a 1000000:=by rw[zAc (x:=a) oO oO] at h2;omega
theorem z9c {a:Int} (h:1≤a∧a≤2000000) (h2:IntKind.i64.wrap a≤1000000):IntKind.i64.wrap a=min a 1000000:=by rw[zAc (x:=a) oO oO] at *;omega
theorem z3t {a r:List Int} (h:zCi a r < 0):¬a=r:=fun e=>by rw[zGp.2 e] at h;omega
theorem z1T {a r:List Int} (h:zCi a r < 0):zCE r a=false:=by
 unfold zCE;rw[decide_eq_false_iff_not];intro h2;have:=zOK.1 h2;omega
theorem z5e {a r:List Int} (h:¬zCi a r < 0) (h2:¬a=r):zCE r a=true:=by
 unfold zCE;rw[decide_eq_true_iff,zOK]
 have:¬zCi a r=0:=fun e=>h2 (zGp.1 e)
 omega
theorem z3u {zs:List ZI} {r:List Int} {k i:Nat} (hlo:∀ i,i < k→zCi (z1R zs i) r < 0) (hik:i≤k) (h:i < zs.length) (e:(zs[i]?.getD default).2.row=r):k=i∧zVB zs r k=true:=by
 have hk:k=i:=by
  rcases Nat.lt_or_ge i k with h1|h1
  ·exact absurd e (z3t (hlo i h1))
  omega
 subst hk
 exact⟨rfl,decide_eq_true ⟨h,e⟩⟩
theorem z7D {zs:List ZI} {r:List Int} {k i:Nat} (hlo:∀ i,i < k→zCi (z1R zs i) r < 0) (hik:i≤k) (e:¬(zs[i]?.getD default).2.row=r) (h2:zCE r (zs[i]?.getD default).2.row=true):k=i∧zVB zs r k=false:=by
 have hk:k=i:=by
  rcases Nat.lt_or_ge i k with h1|h1
  ·have:=z1T (hlo i h1);unfold z1R at this;rw[h2] at this;cases this
  omega
 subst hk
 exact⟨rfl,decide_eq_false fun h=>e h.2⟩
theorem z7E {zs:List ZI} {r:List Int} {k i:Nat} (hhi:∀ i,k≤i→i < zs.length→¬zCi (z1R zs i) r < 0) (hik:i≤k) (h:i < zs.length) (e:¬(zs[i]?.getD default).2.row=r) (h2:zCE r (zs[i]?.getD default).2.row=false):i < k:=by
 rcases Nat.lt_or_ge i k with h1|h1
 ·exact h1
 have h3:zCE r (zs[i]?.getD default).2.row=true:=z5e (hhi i h1 h) e
 rw[h2] at h3;cases h3
theorem zQt (b:Option Addr) (m c:Nat) (b2:Option Addr) (m2 c2:Nat) (zs:List ZI) (r:List Int) (t:Int) (k:Nat) (hx:zs.length≤2000000) (hr:r.length≤1000) (ht:1≤t∧t≤1000000)
  (hxt:∀ i,i < zs.length→1≤(zs[i]?.getD default).2.times∧(zs[i]?.getD default).2.times≤1000000)
  (hk:k≤zs.length) (hlo:∀ i,i < k→zCi (z1R zs i) r < 0) (hhi:∀ i,k≤i→i < zs.length→¬zCi (z1R zs i) r < 0) :
  Ct prog 47 [.agg ⟨[.slice b m c]⟩,.slice b2 m2 c2,.int .i64 t] [] (fun H=>(zF0 (z7C zAo)).rd H [.slice b m c] zs∧(gSl 3 gI).rd H [.slice b2 m2 c2] r)
   (fun v A=>∃ b' c' y A1 B,v = .agg ⟨[.slice b' (zGQ zs r k y (zs.length+1)).length c']⟩∧A=A1++B∧yOk zs r t k y B∧(gSl 100 gRI).ow [.slice b' (zGQ zs r k y (zs.length+1)).length c'] (zGQ zs r k y (zs.length+1)) A1):=by
 refine Ct.intro0 zAh func47 rfl rfl rfl fun E H hp=>?_
 obtain⟨hp,hp2⟩:=hp
 obtain⟨rfl,hl⟩:=zBo hp
 have hcl:=z29 hp
 refine⟨fun x0=>?_⟩
 refine⟨fun x1=>?_⟩
 refine⟨fun x2=>?_⟩
 apply zAg (α:=(Nat)×(zC4 zAo.size)×(Hp)×(Hp)×(Option Addr)×(Nat)) zAh [12,13,14,15,16,19,20,21,22,23,10,24,25,26,27,28,29,30,31,32,33,34,35,36,37,38,39,40,8,41,42,43,44,45,46,47,48,49,50,51,52,53,54,55,56,57,58,59,60,61,62,63,64,17,18,9] (fun z=>[(9,.v (.int .i64 z.1)),(8,.v (.bool (decide (k < z.1))))]) (fun z=>[⟨x0,[Value.slice b zs.length c],(47:Nat)⟩,⟨x1,[Value.slice none (0:Nat) (0:Nat)],(47:Nat)⟩,⟨x2,[.slice z.2.2.2.2.1 (zGQ zs r k z.2.1 z.1).length z.2.2.2.2.2],(47:Nat)⟩]) (fun z=>[z.2.2.2.1,z.2.2.1,H]) (fun z=>zs.length-z.1) (fun z=>z.1≤zs.length∧(z.1≤k→z.2.2.1=[])∧(k < z.1→yOk zs r t k z.2.1 z.2.2.1)∧(gSl 100 gRI).ow [.slice z.2.2.2.2.1 (zGQ zs r k z.2.1 z.1).length z.2.2.2.2.2] (zGQ zs r k z.2.1 z.1) z.2.2.2.1) ((0,default,[],[],none,0))
 ·repeat' (first|exact trivial|refine⟨⟨_,rfl,by first|exact frE|(refine zAz ?_;simp;done)|(exact zAz (congrArg List.length (zDF aA)))|(exact zAz (congrArg List.length (zD9 aA oO aA)))|exact zNm (Nat.lt_succ_self _)|exact zI7 oO oO|exact zI8 oO oO|(exact zAz (congrArg List.length (zD8 ‹i < k› oO aA)))|(exact zAz (congrArg List.length (zC7 ‹k < i› oO aA))),frO⟩,?_⟩)
 ·exact⟨rfl,rfl,rfl,trivial⟩
 ·try dsimp only
  exact z1S zs r t k
 ·exact .refl _
 rintro ⟨i,y,B,A,lb,lc⟩ hI
 try dsimp only at hI
 obtain⟨hi,hB,hy,oA⟩:=hI
 try dsimp only
 constructor<;>intro q3
 ·simp at q3
  refine zAf hp ?_ ?_ fun b4 o4 hb4=>?_
  ·omega
  ·omega
  refine zAd default (i) rfl hp ?_ ?_ hb4 rfl (zAa 2 rfl) fun l5 hl5=>?_
  ·omega
  ·omega
  obtain⟨e5,hl5⟩:=hl5
  obtain⟨b0x5,c0x5,rfl,h0x5,w1x5⟩:=zAB.1 hl5
  refine⟨fun x6=>?_⟩
  constructor<;>intro q7
  ·simp at q7
   refine zAe (zNk _ _ _ _ _ _ ((zs[i]?.getD default).snd.row) (r)) ⟨(Rp.mono _ (zAa 2 rfl) h0x5),(Rp.mono _ (zAa 2 rfl) hp2)⟩ ?_
   rintro _ rfl
   constructor<;>intro q9
   ·simp at q9
    constructor<;>intro q10
    ·simp at q10
     obtain⟨hik,hht⟩:=z3u hlo ‹i≤k› aA aA
     subst hik
     refine⟨fun x11=>?_⟩
     refine zAC (g:=gRI) (T:=100) zAh A [] [B,H] ?_ oA (zFH (by first|exact zEe ‹zAo.rd _ _ _›|exact⟨rfl,rfl⟩)) (List.mem_of_getElem? (i:=0) rfl) rfl rfl rfl rfl rfl rfl rfl rfl ?_ fun b12 c12 A12 o12=>?_
     ·exact .tl
     ·exact zI6 hx
     apply zAM (k+1,⟨[Value.slice b0x5 (zs[k]?.getD default).snd.row.length c0x5,Value.int .i64 1000000],⟨rfl,rfl⟩⟩,[],_,_,_)
     ·repeat' (first|exact trivial|refine⟨⟨_,rfl,by first|exact frE|(refine zAz ?_;simp;done)|(exact zAz (congrArg List.length (zDF aA)))|(exact zAz (congrArg List.length (zD9 aA oO aA)))|exact zNm (Nat.lt_succ_self _)|exact zI7 oO oO|exact zI8 oO oO|(exact zAz (congrArg List.length (zD8 ‹i < k› oO aA)))|(exact zAz (congrArg List.length (zC7 ‹k < i› oO aA))),frO⟩,?_⟩)
     ·((first|rw[zDF aA]|rw[zD9 (hr:=⟨rfl,rfl⟩) aA oO aA]|rw[zD8 (hr:=⟨rfl,rfl⟩) ‹i < k› oO aA]|rw[zC7 (hr:=⟨rfl,rfl⟩) ‹k < i› oO aA]);repeat' (first|exact trivial|refine⟨by first|rfl|simp [Blk.ent],?_⟩))
     ·try dsimp only
      (have h9:=hxt k aA;exact⟨oO,fun h=>absurd h oO,fun _=>zYo hht aA (z9b oO aA),by rw[zDF hht];assumption⟩)
     ·exact rlA
     try dsimp only
     omega
    simp at q10
    obtain⟨hik,hht⟩:=z3u hlo ‹i≤k› aA aA
    subst hik
    refine⟨fun x13=>?_⟩
    refine zAC (g:=gRI) (T:=100) zAh A [] [B,H] ?_ oA (zFH (by first|exact zEe ‹zAo.rd _ _ _›|exact⟨rfl,rfl⟩)) (List.mem_of_getElem? (i:=0) rfl) rfl rfl rfl rfl rfl rfl rfl rfl ?_ fun b14 c14 A14 o14=>?_
    ·exact .tl
    ·exact zI6 hx
    apply zAM (k+1,⟨[Value.slice b0x5 (zs[k]?.getD default).snd.row.length c0x5,Value.int .i64 (IntKind.i64.wrap ((zs[k]?.getD default).snd.times+t))],⟨rfl,rfl⟩⟩,[],_,_,_)
    ·repeat' (first|exact trivial|refine⟨⟨_,rfl,by first|exact frE|(refine zAz ?_;simp;done)|(exact zAz (congrArg List.length (zDF aA)))|(exact zAz (congrArg List.length (zD9 aA oO aA)))|exact zNm (Nat.lt_succ_self _)|exact zI7 oO oO|exact zI8 oO oO|(exact zAz (congrArg List.length (zD8 ‹i < k› oO aA)))|(exact zAz (congrArg List.length (zC7 ‹k < i› oO aA))),frO⟩,?_⟩)
    ·((first|rw[zDF aA]|rw[zD9 (hr:=⟨rfl,rfl⟩) aA oO aA]|rw[zD8 (hr:=⟨rfl,rfl⟩) ‹i < k› oO aA]|rw[zC7 (hr:=⟨rfl,rfl⟩) ‹k < i› oO aA]);repeat' (first|exact trivial|refine⟨by first|rfl|simp [Blk.ent],?_⟩))
    ·try dsimp only
     (have h9:=hxt k aA;exact⟨oO,fun h=>absurd h oO,fun _=>zYo hht aA (z9c oO aA),by rw[zDF hht];assumption⟩)
    ·exact rlA
    try dsimp only
    omega
   simp at q9
   constructor<;>intro q15
   ·simp at q15
    refine zAe (zHk _ _ _ _ _ _ (r) ((zs[i]?.getD default).snd.row)) ⟨(Rp.mono _ (zAa 2 rfl) hp2),(Rp.mono _ (zAa 2 rfl) h0x5)⟩ ?_
    rintro _ rfl
    constructor<;>intro q17
    ·obtain⟨hik,hht⟩:=z7D hlo ‹i≤k› aA aA
     subst hik
     refine zBr zAh zAK (some 8) (.q 0 (.q 1 (.q 3 (.q 5 (.f 2 (.f 4 (.q 6 (.f 7 (.tl 8 (.f 9 (.f 10 (.nil)))))))))))) (by decide +kernel) ?_
     refine⟨fun x18=>?_⟩
     refine VC.intro ?_ ?_
     ·exact zAA
     refine zAn (g:=gI) (T:=3) zAh 3 hp2 (zAm _ _ _) ?_ fun b19 c19 A19 o19=>?_
     ·simp;omega
     refine VC.intro ?_ ?_
     ·exact zAl sI sI
     refine⟨fun x20=>?_⟩
     refine VC.intro ?_ ?_
     ·exact zAA
     refine zAC (g:=gRI) (T:=100) zAh A [] [A19,[(x18,Obj.cells { toList:=zAX 0 [Value.int IntKind.i64 (0:Int)] } 3)],B,H] ?_ oA (zFH (by first|exact zEe ‹zAo.rd _ _ _›|exact⟨rfl,rfl⟩)) (List.mem_of_getElem? (i:=0) rfl) rfl rfl rfl rfl rfl rfl rfl rfl ?_ fun b21 c21 A21 o21=>?_
     ·exact rlA
     ·exact zI6 hx
     refine⟨fun x22=>?_⟩
     refine zAC (g:=gRI) (T:=100) zAh A21 [] [A19,[(x18,Obj.cells { toList:=zAX 0 [Value.int IntKind.i64 (0:Int)] } 3)],B,H] ?_ o21 (zFH (by first|exact zEe ‹zAo.rd _ _ _›|exact⟨rfl,rfl⟩)) (List.mem_of_getElem? (i:=0) rfl) rfl rfl rfl rfl rfl rfl rfl rfl ?_ fun b23 c23 A23 o23=>?_
     ·exact .tl
     ·exact z5d hx
     apply zAb (k+1,⟨[Value.slice b19 ([]++r).length c19,Value.int .i64 t],⟨rfl,rfl⟩⟩,_,_,_,_)
     ·exact .sub (by repeat (first|exact .slnil|apply List.Sublist.cons_cons|apply List.Sublist.cons))
     ·repeat' (first|exact trivial|refine⟨⟨_,rfl,by first|exact frE|(refine zAz ?_;simp;done)|(exact zAz (congrArg List.length (zDF aA)))|(exact zAz (congrArg List.length (zD9 aA oO aA)))|exact zNm (Nat.lt_succ_self _)|exact zI7 oO oO|exact zI8 oO oO|(exact zAz (congrArg List.length (zD8 ‹i < k› oO aA)))|(exact zAz (congrArg List.length (zC7 ‹k < i› oO aA))),frO⟩,?_⟩)
     ·((first|rw[zDF aA]|rw[zD9 (hr:=⟨rfl,rfl⟩) aA oO aA]|rw[zD8 (hr:=⟨rfl,rfl⟩) ‹i < k› oO aA]|rw[zC7 (hr:=⟨rfl,rfl⟩) ‹k < i› oO aA]);repeat' (first|exact trivial|refine⟨by first|rfl|simp [Blk.ent],?_⟩))
     ·try dsimp only
      exact⟨oO,fun h=>absurd h oO,fun _=>zYp hht aA ht,by rw[zD9 hht oO aA];assumption⟩
     try dsimp only
     omega
    have hik:=z7E hhi ‹i≤k› oO aA aA
    refine⟨fun x24=>?_⟩
    refine zAC (g:=gRI) (T:=100) zAh A [] [B,H] ?_ oA (zFH (by first|exact zEe ‹zAo.rd _ _ _›|exact⟨rfl,rfl⟩)) (List.mem_of_getElem? (i:=0) rfl) rfl rfl rfl rfl rfl rfl rfl rfl ?_ fun b25 c25 A25 o25=>?_
    ·exact .tl
    ·exact zI6 hx
    apply zAb (i+1,y,B,_,_,_)
    ·exact .refl _
    ·repeat' (first|exact trivial|refine⟨⟨_,rfl,by first|exact frE|(refine zAz ?_;simp;done)|(exact zAz (congrArg List.length (zDF aA)))|(exact zAz (congrArg List.length (zD9 aA oO aA)))|exact zNm (Nat.lt_succ_self _)|exact zI7 oO oO|exact zI8 oO oO|(exact zAz (congrArg List.length (zD8 ‹i < k› oO aA)))|(exact zAz (congrArg List.length (zC7 ‹k < i› oO aA))),frO⟩,?_⟩)
    ·((first|rw[zDF aA]|rw[zD9 (hr:=⟨rfl,rfl⟩) aA oO aA]|rw[zD8 (hr:=⟨rfl,rfl⟩) ‹i < k› oO aA]|rw[zC7 (hr:=⟨rfl,rfl⟩) ‹k < i› oO aA]);repeat' (first|exact trivial|refine⟨by first|rfl|simp [Blk.ent],?_⟩))
    ·try dsimp only
     exact⟨oO,fun _=>hB oO,fun h=>absurd h oO,by rw[zD8 ‹i < k› oO aA];assumption⟩
    try dsimp only
    omega
   simp at q15
   exfalso;omega
  simp at q7
  constructor<;>intro q26
  ·simp at q26
   exfalso;omega
  simp at q26
  refine⟨fun x27=>?_⟩
  refine zAC (g:=gRI) (T:=100) zAh A [] [B,H] ?_ oA (zFH (by first|exact zEe ‹zAo.rd _ _ _›|exact⟨rfl,rfl⟩)) (List.mem_of_getElem? (i:=0) rfl) rfl rfl rfl rfl rfl rfl rfl rfl ?_ fun b28 c28 A28 o28=>?_
  ·exact .tl
  ·exact zI6 hx
  apply zAb (i+1,y,B,_,_,_)
  ·exact .refl _
  ·repeat' (first|exact trivial|refine⟨⟨_,rfl,by first|exact frE|(refine zAz ?_;simp;done)|(exact zAz (congrArg List.length (zDF aA)))|(exact zAz (congrArg List.length (zD9 aA oO aA)))|exact zNm (Nat.lt_succ_self _)|exact zI7 oO oO|exact zI8 oO oO|(exact zAz (congrArg List.length (zD8 ‹i < k› oO aA)))|(exact zAz (congrArg List.length (zC7 ‹k < i› oO aA))),frO⟩,?_⟩)
  ·((first|rw[zDF aA]|rw[zD9 (hr:=⟨rfl,rfl⟩) aA oO aA]|rw[zD8 (hr:=⟨rfl,rfl⟩) ‹i < k› oO aA]|rw[zC7 (hr:=⟨rfl,rfl⟩) ‹k < i› oO aA]);repeat' (first|exact trivial|refine⟨by first|rfl|simp [Blk.ent],?_⟩))
  ·try dsimp only
   exact⟨oO,fun _=>absurd ‹k < i› oO,fun _=>hy oO,by rw[zC7 ‹k < i› oO aA];assumption⟩
  try dsimp only
  omega
 simp at q3
 constructor<;>intro q29
 ·simp at q29
  have hke:k=zs.length:=by omega
  have hie:i=zs.length:=by omega
  subst hke
  subst hie
  refine zBr zAh zAK (some 8) (.q 0 (.q 1 (.q 3 (.q 5 (.f 2 (.f 4 (.q 6 (.f 7 (.tl 8 (.f 9 (.f 10 (.nil)))))))))))) (by decide +kernel) ?_
  refine⟨fun x30=>?_⟩
  refine VC.intro ?_ ?_
  ·exact zAA
  refine zAn (g:=gI) (T:=3) zAh 3 hp2 (zAm _ _ _) ?_ fun b31 c31 A31 o31=>?_
  ·simp;omega
  refine VC.intro ?_ ?_
  ·exact zAl sI sI
  refine⟨fun x32=>?_⟩
  refine VC.intro ?_ ?_
  ·exact zAA
  refine zAC (g:=gRI) (T:=100) zAh A [] [A31,[(x30,Obj.cells { toList:=zAX 0 [Value.int IntKind.i64 (0:Int)] } 3)],B,H] ?_ oA (zFH (by first|exact zEe ‹zAo.rd _ _ _›|exact⟨rfl,rfl⟩)) (List.mem_of_getElem? (i:=0) rfl) rfl rfl rfl rfl rfl rfl rfl rfl ?_ fun b33 c33 A33 o33=>?_
  ·exact rlA
  ·exact zI6 hx
  try dsimp only
  exact⟨_,⟨b33,c33,⟨[Value.slice b31 ([]++r).length c31,Value.int .i64 t],⟨rfl,rfl⟩⟩,A33,A31,congrArg (fun n=>Value.agg ⟨[.slice b33 n c33]⟩) (congrArg List.length (zTQ (y:=y)).symm),rfl,zYp (zYm zs r) aA ht,(by rw[zTQ (y:=y)];exact o33)⟩,rlB⟩
 simp at q29
 have hie:i=zs.length:=by omega
 subst hie
 have hme:=z5c (r:=r) (y:=y) ‹k < zs.length›
 exact⟨_,⟨_,_,y,A,B,(by rw[hme]),rfl,hy oO,(by rw[hme];exact oA)⟩,rlB⟩
end
section
attribute [local irreducible] IntKind.wrap
def zVC (xs:List Item) (r:List Int) (t:Int) (k:Nat):List Item:=
 if k < xs.length∧zBE xs k=r then xs.take k++([⟨(xs[k]?.getD default).row,min ((xs[k]?.getD default).times+t) 1000000⟩]++xs.drop (k+1)) else xs.take k++([⟨r,t⟩]++xs.drop k)
theorem zSb {ls:List (zC4 zAo.size)} {xs:List Item} (h:ls.length=xs.length) (i:Nat) (hi:i < xs.length):((ls.zip xs)[i]?.getD default)=(ls[i]'oO,xs[i]'hi):=by
 have h1:i < (ls.zip xs).length:=by rw[List.length_zip];omega
 rw[List.getElem?_eq_getElem h1,Option.getD_some,List.getElem_zip]
theorem zON {ls:List (zC4 zAo.size)} {xs:List Item} (h:ls.length=xs.length) (i:Nat) (hi:i < xs.length):z1R (ls.zip xs) i=zBE xs i:=by
 unfold z1R zBE
 rw[zSb h i hi,List.getElem?_eq_getElem hi];rfl
theorem z5f {ls:List (zC4 zAo.size)} {xs:List Item} (h:ls.length=xs.length):lsZ (ls.zip xs)=ls:=by
 unfold lsZ;exact List.map_fst_zip oO
theorem z5g {ls:List (zC4 zAo.size)} {xs:List Item} (h:ls.length=xs.length) (r:List Int) (k:Nat):zVB (ls.zip xs) r k=decide (k < xs.length∧zBE xs k=r):=by
 unfold zVB
 have hz:(ls.zip xs).length=xs.length:=by rw[List.length_zip];omega
 rw[decide_eq_decide,hz]
 constructor
 ·rintro ⟨h1,h2⟩;rw[zON h k h1] at h2;exact⟨h1,h2⟩
 rintro ⟨h1,h2⟩;rw[←zON h k h1] at h2;exact⟨h1,h2⟩
theorem z1U {l:List Value} {x:Item} {A:Hp} {v:Int} (h:zAo.ow l x A) (hv:okI v):zAo.ow (l.set 1 (.int .i64 v)) ⟨x.row,v⟩ A:=by
 obtain⟨b0,c0,A0,rfl,hp,ho,_⟩:=zFx.1 h
 exact zFx.2 ⟨b0,c0,A0,rfl,hp,ho,hv⟩
theorem z7F {ls:List (zC4 zAo.size)} {xs:List Item} {As:List Hp} {r:List Int} {t:Int} {k:Nat} {y:zC4 zAo.size} {B:Hp} (hL:OwL zAo ls xs As) (hk:k≤xs.length) (ht:1≤t∧t≤1000000)
  (hxt:∀ i,i < xs.length→1≤(xs[i]?.getD default).times∧(xs[i]?.getD default).times≤1000000) (hy:yOk (ls.zip xs) r t k y B) :
  ∃ Bs L,OwL zAo (zGQ (ls.zip xs) r k y (xs.length+1)) (zVC xs r t k) Bs∧(B++As.flatten).Perm (Bs.flatten++L):=by
 obtain⟨e1,e2⟩:=hL.len
 unfold zGQ
 rw[if_neg (show ¬xs.length+1≤k from oO),z5f e1,List.take_of_length_le (show ls.length≤xs.length+1 from oO)]
 unfold yOk at hy
 rw[z5g e1] at *
 unfold zVC
 by_cases hh:k < xs.length∧zBE xs k=r
 ·rw[decide_eq_true hh] at *
  rw[if_pos rfl] at *
  rw[if_pos hh]
  obtain⟨hy,rfl⟩:=hy
  have hg:=hL.get k oO oO oO
  have hb:=hxt k hh.1
  rw[zSb e1 k hh.1] at hy
  have e3:xs[k]?.getD default=xs[k]'hh.1:=by rw[List.getElem?_eq_getElem hh.1];rfl
  rw[e3] at hb ⊢
  have hB:=z1U (v:=min ((xs[k]'hh.1).times+t) 1000000) hg (by unfold okI;omega)
  have hy2:y.val=(ls[k]'oO).val.set 1 (.int .i64 (min ((xs[k]'hh.1).times+t) 1000000)):=hy
  rw[←hy2] at hB
  refine⟨As.take k++([As[k]'oO]++As.drop (k+1)),[],(hL.take k).append (OwL.append (.cons ?_ .nil) (zLs hL (k+1))),?_⟩
  ·exact hB
  rw[List.nil_append,List.append_nil]
  conv=>lhs;rw[←List.take_append_drop k As]
  rw[List.drop_eq_getElem_cons (show k < As.length from oO)]
  exact .refl _
 rw[decide_eq_false hh] at *
 rw[if_neg sI] at *
 rw[if_neg hh]
 refine⟨As.take k++([B]++As.drop k),[],(hL.take k).append (OwL.append (.cons hy .nil) (zLs hL k)),?_⟩
 rw[List.append_nil]
 conv=>lhs;rw[←List.take_append_drop k As]
 simp only[List.flatten_append,List.flatten_cons,List.flatten_nil,List.append_nil]
 rw[←List.append_assoc,←List.append_assoc]
 exact List.perm_append_comm.append_right _
theorem zC0 (b:Option Addr) (m c:Nat) (b2:Option Addr) (m2 c2:Nat) (xs:List Item) (A:Hp) (r:List Int) (t:Int) (k:Nat) (hA:(gSl 100 zAo).ow [.slice b m c] xs A) (hx:xs.length≤2000000) (hr:r.length≤1000) (ht:1≤t∧t≤1000000)
  (hxt:∀ i,i < xs.length→1≤(xs[i]?.getD default).times∧(xs[i]?.getD default).times≤1000000) (hk:atR xs r k) :
  CtR prog 47 [.agg ⟨[.slice b m c]⟩,.slice b2 m2 c2,.int .i64 t] A (fun H=>(gSl 3 gI).rd H [.slice b2 m2 c2] r) (fun v D=>∃ b' c',v = .agg ⟨[.slice b' (zVC xs r t k).length c']⟩∧(gSl 100 zAo).ow [.slice b' (zVC xs r t k).length c'] (zVC xs r t k) D):=by
 obtain⟨v,ls,A0,As,ev,ho,hp,hL⟩:=hA
 cases ev
 obtain⟨e1,e2⟩:=hL.len
 have hz:(ls.zip xs).length=xs.length:=by rw[List.length_zip];omega
 have hc:=zQt b m c b2 m2 c2 (ls.zip xs) r t k oO hr ht (fun i hi=>by rw[zSb e1 i oO];have:=hxt i oO;rw[List.getElem?_eq_getElem (by omega:i < xs.length)] at this;exact this) (by have:=hk.1;omega)
  (fun i hi=>by have:=hk.1;rw[zON e1 i oO];exact hk.2.1 i hi) (fun i h1 h2=>by rw[zON e1 i oO];exact hk.2.2 i h1 oO)
 refine⟨hc.1,fun E H w hs hpre=>?_⟩
 have hsub1:∀ p∈A,p∈[]++(A++H):=fun p h=>List.mem_append_right [] (List.mem_append_left _ h)
 have hsub2:∀ p∈H,p∈[]++(A++H):=fun p h=>List.mem_append_right [] (List.mem_append_right _ h)
 refine (hc.2 E (A++H) w hs ⟨Rp.mono _ hsub1 (z3s ho hp hL),Rp.mono _ hsub2 hpre⟩).mono ?_
 rintro e' w' ⟨v,A2,h1,⟨b',c',y,A1,B,rfl,rfl,hy,h4⟩,h3⟩
 obtain⟨Bs,L,h5,h6⟩:=z7F hL hk.1 ht hxt hy
 rw[hz] at h1 h4
 have h7:=h5.len.1
 refine⟨_,A1++Bs.flatten,h1,⟨b',c',by rw[h7],?_⟩,?_⟩
 ·rw[←h7];exact⟨_,_,A1,Bs,rfl,z8a h4,.refl _,h5⟩
 refine Sat.drop (B:=A0++L) (h3.perm ?_)
 classical
 rw[List.perm_iff_count]
 intro a
 have h8:=hp.count_eq a
 have h9:=h6.count_eq a
 simp only[List.count_append] at *;omega
theorem zTR {xs:List Item} {r:List Int} {k j:Nat} (h1:atR xs r k) (h2:atR xs r j):k=j:=by
 rcases Nat.lt_trichotomy k j with h|h|h
 ·exact absurd (h2.2.1 k h) (h1.2.2 k (Nat.le_refl _) (by have:=h2.1;omega))
 ·exact h
 exact absurd (h1.2.1 j h) (h2.2.2 j (Nat.le_refl _) (by have:=h1.1;omega))
theorem z7G {xs:List Item} {r:List Int} (hs:zCJ xs):∀ n,n≤xs.length→(∀ q,q < xs.length-n→zCi (zBE xs q) r < 0)∨∃ k,k≤xs.length∧(∀ q,q < k→zCi (zBE xs q) r < 0)∧(∀ q,k≤q→q < xs.length→¬zCi (zBE xs q) r < 0):=by
 intro n hn
 by_cases h:∃ k,k≤xs.length∧(∀ q,q < k→zCi (zBE xs q) r < 0)∧(∀ q,k≤q→q < xs.length→¬zCi (zBE xs q) r < 0)
 ·exact .inr h
 left
 have key:∀ m,m≤xs.length→∀ q,q < m→zCi (zBE xs q) r < 0:=by
  intro m
  induction m with
  | zero=>intro _ q hq;omega
  | succ m ih=>
   intro hm q hq
   have h0:=ih oO
   rcases Nat.lt_or_ge q m with h1|h1
   ·exact h0 q h1
   rw[show q=m from oO]
   by_cases h2:zCi (zBE xs m) r < 0
   ·exact h2
   exact absurd ⟨m,oO,h0,fun q h3 h4=>z3p hs h2 q h3 h4⟩ h
 intro q hq
 exact key xs.length (Nat.le_refl _) q oO
theorem z1V {xs:List Item} {r:List Int} (hs:zCJ xs):∃ k,atR xs r k:=by
 rcases z7G (r:=r) hs 0 oO with h|h
 ·exact⟨xs.length,Nat.le_refl _,fun q hq=>h q oO,fun q h1 h2=>absurd h2 oO⟩
 exact h
noncomputable def plR (xs:List Item) (r:List Int):Nat:=Classical.epsilon fun k=>atR xs r k
theorem zEF {xs:List Item} {r:List Int} (hs:zCJ xs):atR xs r (plR xs r):=Classical.epsilon_spec (z1V hs)
end
section
attribute [local irreducible] IntKind.wrap zAj zAS zAU zA0
def z8m (x:Query) (s:List Int) (a:Atom) (c:Int) (row:List Int):Bool:=zZV (zIG s (alM (zAj x.atoms) (zBg a) row s) s.length) c
theorem z1W {ys:List Item} {r:List Int} {k:Nat} (hs:zCJ ys) (hk:atR ys r k) {i:Nat} (hi:i < ys.length) (e:zBE ys i=r):i=k:=by
 rcases Nat.lt_trichotomy i k with h|h|h
 ·exact absurd e (z3t (hk.2.1 i h))
 ·exact h
 have:=hs k i h hi
 rw[e] at this
 exact absurd this (hk.2.2 k (Nat.le_refl _) oO)
theorem z3v {ys:List Item} {x:Item} {k:Nat} (hk:k≤ys.length) (i:Nat):(ys.take k++([x]++ys.drop k))[i]?=if i < k then ys[i]? else if i=k then some x else ys[i-1]?:=by
 have h1:(ys.take k).length=k:=by rw[List.length_take];omega
 rcases Nat.lt_trichotomy i k with h|h|h
 ·rw[if_pos h,List.getElem?_append_left oO,List.getElem?_take_of_lt h]
 ·subst h
  rw[if_neg oO,if_pos rfl,List.getElem?_append_right oO,h1,Nat.sub_self];rfl
 rw[if_neg oO,if_neg oO,List.getElem?_append_right oO,h1]
 obtain⟨j,hj⟩:∃ j,i=k+1+j:=⟨i-k-1,oO⟩
 subst hj
 rw[show k+1+j-k=j+1 from oO,show k+1+j-1=k+j from oO]
 show (x::ys.drop k)[j+1]?=_
 rw[List.getElem?_cons_succ,List.getElem?_drop]
theorem zLA {ys:List Item} {x:Item} {k:Nat} (hk:k≤ys.length):(ys.take k++([x]++ys.drop k)).length=ys.length+1:=by
 simp only[List.length_append,List.length_take,List.length_drop,List.length_cons,List.length_nil];omega
theorem zI9 {ys:List Item} {r:List Int} {t:Int} {k:Nat} (hk:k≤ys.length) (i:Nat):zBE (ys.take k++([⟨r,t⟩]++ys.drop k)) i=if i < k then zBE ys i else if i=k then r else zBE ys (i-1):=by
 unfold zBE
 rw[z3v hk]
 split
 ·rfl
 split<;>rfl
theorem z1X {ys:List Item} {r:List Int} {k:Nat} (hk:atR ys r k) (hn:¬(k < ys.length∧zBE ys k=r)) (hs:zCJ ys) {i:Nat} (h1:k≤i) (h2:i < ys.length):zCi r (zBE ys i) < 0:=by
 rw[zOK]
 have h3:=hk.2.2 i h1 h2
 have h4:¬zCi (zBE ys i) r=0:=fun e=>by
  have h5:=zGp.1 e
  have h6:=z1W hs hk h2 h5
  subst h6
  exact hn ⟨h2,h5⟩
 omega
theorem zVD {ys:List Item} {r:List Int} {t:Int} {k:Nat} (hs:zCJ ys) (hk:atR ys r k) (hn:¬(k < ys.length∧zBE ys k=r)):zCJ (ys.take k++([⟨r,t⟩]++ys.drop k)):=by
 intro i j hij hj
 rw[zLA hk.1] at hj
 rw[zI9 hk.1,zI9 hk.1]
 rcases Nat.lt_trichotomy i k with h|h|h
 ·rw[if_pos h]
  rcases Nat.lt_trichotomy j k with h2|h2|h2
  ·rw[if_pos h2];exact hs i j hij (by have:=hk.1;omega)
  ·rw[if_neg oO,if_pos h2];exact hk.2.1 i h
  rw[if_neg oO,if_neg oO];exact hs i (j-1) oO oO
 ·rw[if_neg oO,if_pos h,if_neg oO,if_neg oO]
  exact z1X hk hn hs oO oO
 rw[if_neg oO,if_neg oO,if_neg oO,if_neg oO]
 exact hs (i-1) (j-1) oO oO
end
section
def zFI (ys:List Item):List (List Int):=ys.map (·.row)
def zQu (ys:List Item):Prop:=zCJ ys∧∀ i,i < ys.length→1≤(ys[i]?.getD default).times∧(ys[i]?.getD default).times≤1000000
theorem zGR:zQu []:=⟨fun i j _ h=>absurd h sI,fun i h=>absurd h sI⟩
theorem zGS (ys:List Item) (i:Nat) (hi:i < ys.length):(zFI ys)[i]?=some (zBE ys i):=by
 unfold zFI zBE
 rw[List.getElem?_map,List.getElem?_eq_getElem hi];rfl
theorem zDW (ys:List Item):(zFI ys).length=ys.length:=by unfold zFI;exact List.length_map ..
theorem zBU {ys:List Item} {r:List Int}:r∈zFI ys↔∃ i,i < ys.length∧zBE ys i=r:=by
 constructor
 ·intro h
  obtain⟨i,hi,e⟩:=List.getElem_of_mem h
  have hi2:i < ys.length:=by rw[zDW] at hi;exact hi
  refine⟨i,hi2,?_⟩
  have h1:=zGS ys i hi2
  rw[List.getElem?_eq_getElem hi,e] at h1
  exact (Option.some.inj h1).symm
 rintro ⟨i,hi,rfl⟩
 exact List.mem_of_getElem? (zGS ys i hi)
theorem z3w {ys:List Item} {k:Nat} {t:Int} (hk:k < ys.length) (i:Nat):(ys.take k++([⟨(ys[k]?.getD default).row,min ((ys[k]?.getD default).times+t) 1000000⟩]++ys.drop (k+1)))[i]?=if i=k then some ⟨(ys[k]?.getD default).row,min ((ys[k]?.getD default).times+t) 1000000⟩ else ys[i]?:=by
 have h1:(ys.take k).length=k:=by rw[List.length_take];omega
 rcases Nat.lt_trichotomy i k with h|h|h
 ·rw[if_neg oO,List.getElem?_append_left oO,List.getElem?_take_of_lt h]
 ·subst h
  rw[if_pos rfl,List.getElem?_append_right oO,h1,Nat.sub_self];rfl
 rw[if_neg oO,List.getElem?_append_right oO,h1]
 obtain⟨j,hj⟩:∃ j,i=k+1+j:=⟨i-k-1,oO⟩
 subst hj
 rw[show k+1+j-k=j+1 from oO]
 show (_::ys.drop (k+1))[j+1]?=_
 rw[List.getElem?_cons_succ,List.getElem?_drop]
theorem zOO {ys:List Item} {k:Nat} {x:Item} (hk:k < ys.length):(ys.take k++([x]++ys.drop (k+1))).length=ys.length:=by
 simp only[List.length_append,List.length_take,List.length_drop,List.length_cons,List.length_nil];omega
theorem zLB {ys:List Item} {k:Nat} {t:Int} (hk:k < ys.length) (i:Nat):zBE (ys.take k++([⟨(ys[k]?.getD default).row,min ((ys[k]?.getD default).times+t) 1000000⟩]++ys.drop (k+1))) i=zBE ys i:=by
 unfold zBE
 rw[z3w hk]
 split
 ·rename_i h;rw[h];rfl
 rfl
def upL (xs:List (List Int)):Prop:=xs.Pairwise fun a b=>zCi a b < 0
theorem zNn {ys:List Item} (h:zCJ ys):upL (zFI ys):=by
 unfold upL
 rw[List.pairwise_iff_getElem]
 intro i j hi hj hij
 have h1:=zGS ys i (by rw[zDW] at hi;exact hi)
 have h2:=zGS ys j (by rw[zDW] at hj;exact hj)
 rw[List.getElem?_eq_getElem hi] at h1
 rw[List.getElem?_eq_getElem hj] at h2
 rw[Option.some.inj h1,Option.some.inj h2]
 exact h i j hij (by rw[zDW] at hj;exact hj)
end
section
noncomputable def zNo (ys:List Item) (p:Item):List Item:=zVC ys p.row p.times (plR ys p.row)
noncomputable def zBh (ys:List Item) (ps:List Item):List Item:=ps.foldl zNo ys
theorem zKl {ys:List Item} {p:Item} (h:plR ys p.row < ys.length∧zBE ys (plR ys p.row)=p.row):zNo ys p=ys.take (plR ys p.row)++([⟨(ys[plR ys p.row]?.getD default).row,min ((ys[plR ys p.row]?.getD default).times+p.times) 1000000⟩]++ys.drop (plR ys p.row+1)):=if_pos h
theorem zGT {ys:List Item} {p:Item} (h:¬(plR ys p.row < ys.length∧zBE ys (plR ys p.row)=p.row)):zNo ys p=ys.take (plR ys p.row)++([⟨p.row,p.times⟩]++ys.drop (plR ys p.row)):=if_neg h
def tOk (p:Item):Prop:=1≤p.times∧p.times≤1000000
theorem zTS {ys:List Item} {p:Item} (h:zQu ys) (ht:tOk p):zQu (zNo ys p):=by
 have hk:=zEF (r:=p.row) h.1
 obtain⟨t1,t2⟩:=ht
 by_cases hh:plR ys p.row < ys.length∧zBE ys (plR ys p.row)=p.row
 ·rw[zKl hh]
  refine⟨fun i j hij hj=>?_,fun i hi=>?_⟩
  ·rw[zOO hh.1] at hj
   rw[zLB hh.1,zLB hh.1];exact h.1 i j hij hj
  rw[zOO hh.1] at hi
  rw[z3w hh.1]
  have h1:=h.2 (plR ys p.row) hh.1
  split
  ·show 1≤min _ _∧min _ _≤_
   omega
  exact h.2 i hi
 rw[zGT hh]
 refine⟨zVD h.1 hk hh,fun i hi=>?_⟩
 rw[zLA hk.1] at hi
 rw[z3v hk.1]
 rcases Nat.lt_trichotomy i (plR ys p.row) with h2|h2|h2
 ·rw[if_pos h2];exact h.2 i (by have:=hk.1;omega)
 ·rw[if_neg oO,if_pos h2]
  exact⟨t1,t2⟩
 rw[if_neg oO,if_neg oO];exact h.2 (i-1) oO
theorem z1Y {ys:List Item} {p:Item} {r:List Int} (h:zQu ys):r∈zFI (zNo ys p)↔r=p.row∨r∈zFI ys:=by
 have hk:=zEF (r:=p.row) h.1
 rw[zBU,zBU]
 by_cases hh:plR ys p.row < ys.length∧zBE ys (plR ys p.row)=p.row
 ·rw[zKl hh,zOO hh.1]
  constructor
  ·rintro ⟨i,hi,e⟩;rw[zLB hh.1] at e;exact .inr ⟨i,hi,e⟩
  rintro (e2 | ⟨i,hi,e⟩)
  ·exact⟨_,hh.1,by rw[zLB hh.1,e2];exact hh.2⟩
  exact⟨i,hi,by rw[zLB hh.1];exact e⟩
 rw[zGT hh,zLA hk.1]
 constructor
 ·rintro ⟨i,hi,e⟩
  rw[zI9 hk.1] at e
  rcases Nat.lt_trichotomy i (plR ys p.row) with h2|h2|h2
  ·rw[if_pos h2] at e;exact .inr ⟨i,by have:=hk.1;omega,e⟩
  ·rw[if_neg oO,if_pos h2] at e;exact .inl e.symm
  rw[if_neg oO,if_neg oO] at e;exact .inr ⟨i-1,oO,e⟩
 rintro (e2 | ⟨i,hi,e⟩)
 ·exact⟨plR ys p.row,by have:=hk.1;omega,by rw[zI9 hk.1,if_neg oO,if_pos rfl,e2]⟩
 rcases Nat.lt_or_ge i (plR ys p.row) with h2|h2
 ·exact⟨i,oO,by rw[zI9 hk.1,if_pos h2];exact e⟩
 exact⟨i+1,oO,by rw[zI9 hk.1,if_neg oO,if_neg oO];exact e⟩
theorem zIt {ys:List Item} {p:Item} (h:zQu ys):ys.length≤(zNo ys p).length∧(zNo ys p).length≤ys.length+1:=by
 have hk:=zEF (r:=p.row) h.1
 by_cases hh:plR ys p.row < ys.length∧zBE ys (plR ys p.row)=p.row
 ·rw[zKl hh,zOO hh.1];omega
 rw[zGT hh,zLA hk.1];omega
structure BW (w:Nat) (ys:List Item):Prop where
 inv:zQu ys
 rows:∀ r∈zFI ys,zDo r=true∧r.length=w
theorem zNp (w:Nat):BW w []:=⟨zGR,fun _ h=>nomatch h⟩
def pOk (w:Nat) (p:Item):Prop:=tOk p∧zDo p.row=true∧p.row.length=w
theorem zYq {w:Nat} {ys:List Item} {p:Item} (h:BW w ys) (hp:pOk w p):BW w (zNo ys p):=
 ⟨zTS h.inv hp.1,fun r hr=>by
  rcases (z1Y h.inv).1 hr with rfl|h1
  ·exact hp.2
  exact h.rows r h1⟩
theorem zNq (ys ps:List Item) (p:Item):zBh ys (p::ps)=zBh (zNo ys p) ps:=rfl
theorem zEp (ys ps:List Item) (p:Item):zBh ys (ps++[p])=zNo (zBh ys ps) p:=by
 unfold zBh;rw[List.foldl_append];rfl
theorem zGU {w:Nat}:∀ {ps ys:List Item},BW w ys→(∀ p∈ps,pOk w p)→BW w (zBh ys ps)
 | [],_,h,_=>h
 | p::ps,ys,h,hp=>zGU (ps:=ps) (zYq h (hp p List.mem_cons_self)) fun q hq=>hp q (List.mem_cons_of_mem _ hq)
theorem zEG:∀ {ps ys:List Item},zQu ys→(∀ p∈ps,tOk p)→zQu (zBh ys ps)∧ys.length≤(zBh ys ps).length∧(zBh ys ps).length≤ys.length+ps.length
 | [],ys,h,_=>⟨h,Nat.le_refl _,Nat.le_refl _⟩
 | p::ps,ys,h,hp=>by
  have h1:=zTS h (hp p List.mem_cons_self)
  have h2:=zIt (p:=p) h
  obtain⟨h3,h4,h5⟩:=zEG (ps:=ps) h1 fun q hq=>hp q (List.mem_cons_of_mem _ hq)
  rw[zNq,List.length_cons]
  exact⟨h3,oO,oO⟩
theorem zVE {ps ys:List Item} (h:zQu ys) (hp:∀ p∈ps,tOk p) (i:Nat):(zBh ys (ps.take i)).length≤(zBh ys ps).length:=by
 have h1:=zEG (ps:=ps.take i) h fun p hq=>hp p (List.mem_of_mem_take hq)
 have h2:=zEG (ps:=ps.drop i) h1.1 fun p hq=>hp p (List.mem_of_mem_drop hq)
 have e:zBh (zBh ys (ps.take i)) (ps.drop i)=zBh ys ps:=by
  unfold zBh;rw[←List.foldl_append,List.take_append_drop]
 rw[e] at h2
 exact h2.2.1
theorem z5h {ys:List Item} (h:zJO ⟨ys⟩=true):ys.length≤300∧∀ i,i < ys.length→zEK ⟨ys⟩ i=true:=by
 unfold zJO at h
 rw[Bool.and_eq_true,decide_eq_true_iff] at h
 exact⟨h.1,fun i hi=>zBe h.2 i hi⟩
theorem zSc {ys:List Item} (h:∀ i,i+1 < ys.length→zCi (zBE ys i) (zBE ys (i+1)) < 0):zCJ ys:=by
 intro i j hij hj
 obtain⟨d,rfl⟩:∃ d,j=i+1+d:=⟨j-i-1,oO⟩
 induction d with
 | zero=>exact h i hj
 | succ d ih=>exact zOJ (ih oO oO) (h (i+1+d) hj)
theorem zFJ {ys:List Item}:zJO ⟨ys⟩=true↔ys.length≤300∧∃ w,BW w ys:=by
 constructor
 ·intro h
  obtain⟨h1,h2⟩:=z5h h
  have h3:∀ i,i < ys.length→zDo (zBE ys i)=true∧(1≤(ys[i]?.getD default).times∧(ys[i]?.getD default).times≤1000000)∧(zBE ys i).length=(zBE ys 0).length∧(i=0∨zCi (zBE ys (i-1)) (zBE ys i) < 0):=by
   intro i hi
   have h4:=h2 i hi
   unfold zEK at h4
   simp only[Bool.and_eq_true,Bool.or_eq_true,decide_eq_true_iff,zAq] at h4
   refine⟨h4.1,h4.2.1,h4.2.2.1,?_⟩
   rcases h4.2.2.2 with h5|h5
   ·exact .inl h5
   unfold zCE at h5;exact .inr (decide_eq_true_iff.1 h5)
  refine⟨h1,(zBE ys 0).length,⟨⟨zSc fun i hi=>?_,fun i hi=>(h3 i hi).2.1⟩,fun r hr=>?_⟩⟩
  ·rcases (h3 (i+1) hi).2.2.2 with h5|h5
   ·omega
   exact h5
  obtain⟨i,hi,rfl⟩:=zBU.1 hr
  exact⟨(h3 i hi).1,(h3 i hi).2.2.1⟩
 rintro ⟨h1,w,h2⟩
 refine zS6 h1 ?_
 have hr:∀ i,i < ys.length→zDo (zBE ys i)=true∧(zBE ys i).length=w:=fun i hi=>h2.rows _ (zBU.2 ⟨i,hi,rfl⟩)
 have key:∀ n,n≤ys.length→zCd (zEK ⟨ys⟩) n=true:=by
  intro n
  induction n with
  | zero=>intro _;rfl
  | succ n ih=>
   intro hn
   refine zAG (ih oO) (zH6 (hr n hn).1 (h2.inv.2 n hn) ?_ ?_)
   ·show (zBE ys n).length=(zBE ys 0).length
    rw[(hr n hn).2,(hr 0 oO).2]
   rcases Nat.eq_zero_or_pos n with h0|h0
   ·exact .inl h0
   refine .inr ?_
   unfold zCE
   exact decide_eq_true (h2.inv.1 (n-1) n oO hn)
 exact key _ (Nat.le_refl _)
theorem zCQ {w:Nat} {ys:List Item} (h:BW w ys):∀ p∈ys,pOk w p:=fun p hp=>by
 obtain⟨i,hi,rfl⟩:=List.getElem_of_mem hp
 have h1:=h.inv.2 i hi
 have h2:=h.rows (zBE ys i) (zBU.2 ⟨i,hi,rfl⟩)
 unfold zBE at h2
 rw[List.getElem?_eq_getElem hi] at h1 h2
 exact⟨h1,h2⟩
theorem zIu {w:Nat} {ys:List Item} {p:Item} {k:Nat} (h:BW w ys) (hl:ys.length≤300) (hp:pOk w p) (hk:atR ys p.row k):zEE ys p.row p.times k=if (zNo ys p).length≤300 then (zNo ys p,true) else (ys,false):=by
 have e:=zTR hk (zEF h.inv.1)
 have hw:0 < ys.length→(zBE ys 0).length=p.row.length:=fun h0=>by rw[hp.2.2];exact (h.rows _ (zBU.2 ⟨0,h0,rfl⟩)).2
 subst e
 have h1:=zIt (p:=p) h.inv
 by_cases hh:plR ys p.row < ys.length∧zBE ys (plR ys p.row)=p.row
 ·rw[zOL hp.2.1 hw hh]
  have e:zNo ys p=ys.set (plR ys p.row) ⟨(ys[plR ys p.row]?.getD default).row,min ((ys[plR ys p.row]?.getD default).times+p.times) 1000000⟩:=by
   rw[zKl hh,zPm _ _ _ hh.1];rfl
  rw[if_pos (by rw[e,List.length_set];exact hl),e]
 by_cases h3:ys.length=300
 ·rw[zLy hp.2.1 hw hh h3,if_neg]
  rw[zGT hh,zLA hk.1];omega
 rw[zIr hp.2.1 hw hh h3,if_pos oO,zGT hh]
theorem zYr {ys:List Item} {p:Item} (h:zQu ys) (hl:∀ r∈zFI ys,zCi r p.row < 0):zNo ys p=ys++[p]:=by
 have ha:atR ys p.row ys.length:=⟨Nat.le_refl _,fun q hq=>hl _ (zBU.2 ⟨q,hq,rfl⟩),fun q h1 h2=>absurd h2 oO⟩
 have e:=zTR ha (zEF h.1)
 have hh:¬(plR ys p.row < ys.length∧zBE ys (plR ys p.row)=p.row):=fun h1=>by omega
 rw[zGT hh,←e,List.take_length,List.drop_length];rfl
theorem zNr:∀ {ps ys:List Item},zQu (ys++ps)→zBh ys ps=ys++ps
 | [],ys,_=>by rw[List.append_nil];rfl
 | p::ps,ys,h=>by
  have hs:=zNn h.1
  have hr:zFI (ys++p::ps)=zFI ys++p.row::zFI ps:=by unfold zFI;rw[List.map_append,List.map_cons]
  unfold upL at hs
  rw[hr] at hs
  have h1:zQu ys:=⟨fun i j hij hj=>by
    have h3:=h.1 i j hij (by rw[List.length_append];omega)
    unfold zBE at h3 ⊢
    rw[List.getElem?_append_left oO,List.getElem?_append_left hj] at h3
    exact h3,fun i hi=>by
    have h3:=h.2 i (by rw[List.length_append];omega)
    rw[List.getElem?_append_left hi] at h3
    exact h3⟩
  have h2:∀ r∈zFI ys,zCi r p.row < 0:=fun r hr=>(List.pairwise_append.1 hs).2.2 r hr _ List.mem_cons_self
  rw[zNq,zYr h1 h2,zNr (by rw[List.append_assoc];exact h),List.append_assoc];rfl
theorem zQv {ps:List Item} (h:zQu ps):zBh [] ps=ps:=zNr (ys:=[]) h
theorem zTT {ps qs:List Item} (h:zQu ps) (hs:qs.Sublist ps):zQu qs:=by
 have h1:=zNn h.1
 have h2:upL (zFI qs):=List.Pairwise.sublist (hs.map _) h1
 refine⟨fun i j hij hj=>?_,fun i hi=>?_⟩
 ·have h3:=List.pairwise_iff_getElem.1 h2 i j (by rw[zDW];omega) (by rw[zDW];exact hj) hij
  have e1:=zGS qs i oO
  have e2:=zGS qs j hj
  rw[List.getElem?_eq_getElem (by rw[zDW];omega)] at e1
  rw[List.getElem?_eq_getElem (by rw[zDW];exact hj)] at e2
  rw[←Option.some.inj e1,←Option.some.inj e2];exact h3
 have h3:=hs.subset (List.getElem_mem hi)
 obtain⟨j,hj,e⟩:=List.getElem_of_mem h3
 have h4:=h.2 j hj
 rw[List.getElem?_eq_getElem hj,e] at h4
 rw[List.getElem?_eq_getElem hi];exact h4
theorem z7H {w:Nat} {ps qs:List Item} (h:BW w ps) (hs:qs.Sublist ps):BW w qs:=
 ⟨zTT h.inv hs,fun r hr=>by
  obtain⟨x,hx,rfl⟩:=List.mem_map.1 hr
  exact h.rows _ (List.mem_map.2 ⟨x,hs.subset hx,rfl⟩)⟩
end
section
theorem zC8 {l:List ByteArray} {s:ByteArray}:zBI l s=true↔s∈l:=by
 constructor
 ·intro h
  apply Classical.byContradiction
  intro hn
  have:zBI l s=false:=zF9 (zEU fun i hi=>by
   rw[Bool.not_eq_true',decide_eq_false_iff_not,zAR]
   intro e
   rw[List.getElem?_eq_getElem hi] at e
   exact hn (e ▸ List.getElem_mem hi))
  rw[h] at this;cases this
 intro h
 obtain⟨i,hi,e⟩:=List.getElem_of_mem h
 exact zOe (k:=i) hi (by rw[List.getElem?_eq_getElem hi,←e];rfl)
theorem zSd {l:List ByteArray} {s:ByteArray}:zBI l s=false↔s ∉ l:=by rw[←Bool.not_eq_true,zC8]
theorem zFo {l:List ByteArray}:zD7 l=true↔l.Nodup:=by
 unfold zD7
 constructor
 ·intro h
  refine List.pairwise_iff_getElem.2 fun i j hi hj hij=>?_
  have h1:=zBe h j hj
  rw[Bool.not_eq_true',zSd,List.getElem?_eq_getElem hj] at h1
  intro e
  refine h1 ?_
  show l[j]∈l.take j
  rw[←e,List.mem_take_iff_getElem]
  exact⟨i,oO,rfl⟩
 intro h
 refine zEU fun j hj=>?_
 rw[Bool.not_eq_true',zSd,List.getElem?_eq_getElem hj]
 show l[j] ∉ l.take j
 intro h1
 rw[List.mem_take_iff_getElem] at h1
 obtain⟨i,hi,e⟩:=h1
 exact (List.pairwise_iff_getElem.1 h i j oO hj oO) e
theorem z1Z {l:List ByteArray} (h:zD7 l=true) {k:Nat} (hk:k < l.length):zIF l (l[k]?.getD ByteArray.empty)=k:=by
 refine zX3 hk rfl (zEU fun i hi=>?_)
 rw[Bool.not_eq_true',decide_eq_false_iff_not,zAR,List.getElem?_eq_getElem hk,List.getElem?_eq_getElem oO]
 exact List.pairwise_iff_getElem.1 (zFo.1 h) i k oO hk hi
def tv (ns:List ByteArray) (row:List Int) (n:ByteArray):Int:=row[(zIF ns n).toNat]?.getD 0
theorem zOP {l:List ByteArray} (h:zD7 l=true) {row:List Int} {k:Nat} (hk:k < l.length):tv l row (l[k]?.getD ByteArray.empty)=row[k]?.getD 0:=by
 unfold tv;rw[z1Z h hk,Int.toNat_natCast]
theorem zYs {l:List ByteArray} (h:zD7 l=true) {row:List Int} (hl:row.length=l.length):l.map (tv l row)=row:=by
 apply List.ext_getElem
 ·rw[List.length_map,hl]
 intro i h1 h2
 rw[List.length_map] at h1
 have h3:=zOP h (row:=row) h1
 rw[List.getElem?_eq_getElem h1,List.getElem?_eq_getElem h2] at h3
 rw[List.getElem_map];exact h3
def zB9 (cs:List ByteArray):Bool:=decide (1≤cs.length∧cs.length≤4) && (zD7 cs && zCd (fun i=>zBY (cs[i]?.getD ByteArray.empty)) cs.length)
def zAv (t:Table):Bool:=zB9 t.cols && (zJO t.bag && decide (0 < t.bag.items.length→(zBE t.bag.items 0).length=t.cols.length))
theorem zAJ {t:Table}:zAv t=true↔zB9 t.cols=true∧t.bag.items.length≤300∧BW t.cols.length t.bag.items:=by
 obtain⟨cs,⟨ys⟩⟩:=t
 unfold zAv
 rw[Bool.and_eq_true,Bool.and_eq_true,decide_eq_true_iff,zFJ]
 dsimp only
 constructor
 ·rintro ⟨h1,⟨h2,w,h3⟩,h4⟩
  refine⟨h1,h2,h3.inv,fun r hr=>⟨(h3.rows r hr).1,?_⟩⟩
  obtain⟨i,hi,_⟩:=zBU.1 hr
  have h5:=(h3.rows _ (zBU.2 ⟨0,oO,rfl⟩)).2
  rw[(h3.rows r hr).2,←h4 oO,h5]
 rintro ⟨h1,h2,h3⟩
 exact⟨h1,⟨h2,_,h3⟩,fun h0=>(h3.rows _ (zBU.2 ⟨0,h0,rfl⟩)).2⟩
theorem zCa {cs:List ByteArray} (h:zB9 cs=true):(1≤cs.length∧cs.length≤4)∧zD7 cs=true∧∀ s∈cs,zBY s=true:=by
 unfold zB9 at h
 rw[Bool.and_eq_true,Bool.and_eq_true,decide_eq_true_iff] at h
 refine⟨h.1,h.2.1,fun s hs=>?_⟩
 obtain⟨i,hi,rfl⟩:=List.getElem_of_mem hs
 have h1:=zBe h.2.2 i hi
 rw[List.getElem?_eq_getElem hi] at h1
 exact h1
theorem zOQ {cs:List ByteArray} (h1:1≤cs.length∧cs.length≤4) (h2:zD7 cs=true) (h3:∀ s∈cs,zBY s=true):zB9 cs=true:=by
 unfold zB9
 rw[Bool.and_eq_true,Bool.and_eq_true,decide_eq_true_iff]
 exact⟨h1,h2,zEU fun i hi=>by rw[List.getElem?_eq_getElem hi];exact h3 _ (List.getElem_mem hi)⟩
theorem zGq {α:Type} {p:α→Bool} {xs:List α} {k:Nat} (z:α) (h:k < xs.length) (hp:p (xs[k]?.getD z)=true):(xs.take (k+1)).filter p=(xs.take k).filter p++[xs[k]?.getD z]:=by
 rw[List.getElem?_eq_getElem h] at hp ⊢
 rw[←List.take_append_getElem h,List.filter_append]
 simp only[Option.getD_some] at hp ⊢
 rw[List.filter_cons_of_pos hp];rfl
theorem zKm {α:Type} {p:α→Bool} {xs:List α} {k:Nat} (z:α) (h:k < xs.length) (hp:p (xs[k]?.getD z)=false):(xs.take (k+1)).filter p=(xs.take k).filter p:=by
 rw[List.getElem?_eq_getElem h] at hp
 rw[←List.take_append_getElem h,List.filter_append]
 simp only[Option.getD_some] at hp
 rw[List.filter_cons_of_neg (by rw[hp];decide)];simp
def zCs (ca cb:List ByteArray):List ByteArray:=ca++cb.filter fun s=>!zBI ca s
def exK (ca cb:List ByteArray) (y:List Int) (k:Nat):List Int:=((List.range k).filter fun i=>!zBI ca (cb[i]?.getD ByteArray.empty)).map fun i=>y[i]?.getD 0
def zOR (ca cb:List ByteArray) (x y:List Int) (k:Nat):Bool:=zCd (fun i=>!zBI ca (cb[i]?.getD ByteArray.empty) || decide (tv ca x (cb[i]?.getD ByteArray.empty)=(y[i]?.getD 0))) k
def zSe (ca cb:List ByteArray) (x y:Item):Item:=⟨x.row++exK ca cb y.row cb.length,min (x.times * y.times) 1000000⟩
def zMw (ca cb:List ByteArray) (x:Item) (ys:List Item):List Item:=(ys.filter fun y=>zOR ca cb x.row y.row cb.length).map (zSe ca cb x)
def zEW (a b:Table):List Item:=a.bag.items.flatMap fun x=>zMw a.cols b.cols x b.bag.items
def zA4 (a b:Table) (i k:Nat):List Item:=((a.bag.items.take i).flatMap fun x=>zMw a.cols b.cols x b.bag.items)++zMw a.cols b.cols (a.bag.items[i]?.getD default) (b.bag.items.take k)
noncomputable def zJA (a b:Table):Table:=⟨zCs a.cols b.cols,⟨zBh [] (zEW a b)⟩⟩
noncomputable def zEH (a b:Table):Table×Bool:=if zAv a=true∧zAv b=true∧zAv (zJA a b)=true then (zJA a b,true) else (⟨[],⟨[]⟩⟩,false)
theorem zTU {a b:Table} (h:zAv a=false):zEH a b=(⟨[],⟨[]⟩⟩,false):=if_neg fun e=>by rw[h] at e;cases e.1
theorem zTV {a b:Table} (h:zAv b=false):zEH a b=(⟨[],⟨[]⟩⟩,false):=if_neg fun e=>by rw[h] at e;cases e.2.1
theorem zOS {a b:Table} (h:zAv (zJA a b)=false):zEH a b=(⟨[],⟨[]⟩⟩,false):=if_neg fun e=>by rw[h] at e;cases e.2.2
theorem zTW {a b:Table} (h1:zAv a=true) (h2:zAv b=true) (h3:zAv (zJA a b)=true):zEH a b=(zJA a b,true):=if_pos ⟨h1,h2,h3⟩
theorem zJB (a b:Table):zA4 a b 0 0=[]:=by unfold zA4 zMw;simp
theorem zLC {a b:Table} {i k:Nat} (hk:k < b.bag.items.length) (h:zOR a.cols b.cols (a.bag.items[i]?.getD default).row (b.bag.items[k]?.getD default).row b.cols.length=true):zA4 a b i (k+1)=zA4 a b i k++[zSe a.cols b.cols (a.bag.items[i]?.getD default) (b.bag.items[k]?.getD default)]:=by
 unfold zA4 zMw
 rw[zGq (p:=fun y:Item=>zOR a.cols b.cols (a.bag.items[i]?.getD default).row y.row b.cols.length) default hk h,List.map_append,←List.append_assoc];rfl
theorem zNs {a b:Table} {i k:Nat} (hk:k < b.bag.items.length) (h:zOR a.cols b.cols (a.bag.items[i]?.getD default).row (b.bag.items[k]?.getD default).row b.cols.length=false):zA4 a b i (k+1)=zA4 a b i k:=by
 unfold zA4 zMw
 rw[zKm (p:=fun y:Item=>zOR a.cols b.cols (a.bag.items[i]?.getD default).row y.row b.cols.length) default hk h]
theorem zJC {a b:Table} {i k:Nat} (hi:i < a.bag.items.length) (hk:b.bag.items.length≤k):zA4 a b (i+1) 0=zA4 a b i k:=by
 unfold zA4
 rw[List.take_of_length_le hk,←List.take_append_getElem hi,List.flatMap_append,List.getElem?_eq_getElem hi]
 simp [zMw]
theorem zLD (a b:Table) {i:Nat} (hi:a.bag.items.length≤i):zA4 a b i 0=zEW a b:=by
 unfold zA4 zEW
 rw[List.take_of_length_le hi]
 simp [zMw]
theorem z5i (ca cb:List ByteArray) (y:List Int):(exK ca cb y cb.length).length=(cb.filter fun s=>!zBI ca s).length:=by
 unfold exK
 rw[List.length_map]
 have h1:cb=(List.range cb.length).map fun i=>cb[i]?.getD ByteArray.empty:=by
  apply List.ext_getElem
  ·simp
  intro i h1 h2;rw[List.getElem_map,List.getElem_range,List.getElem?_eq_getElem h1];rfl
 conv=>rhs;rw[h1]
 rw[List.filter_map,List.length_map];rfl
theorem zSf {r:List Int} (h:zDo r=true) {x:Int} (hx:x∈r):0≤x∧x≤99:=by
 unfold zDo at h
 rw[Bool.and_eq_true] at h
 obtain⟨i,hi,rfl⟩:=List.getElem_of_mem hx
 have h1:=zAq.1 (zBe h.2 i hi)
 rw[List.getElem?_eq_getElem hi] at h1
 exact h1
theorem zLE {r:List Int} (hl:r.length≤4) (h:∀ x∈r,0≤x∧x≤99):zDo r=true:=
 zS5 hl (zEU fun i hi=>zAq.2 (by rw[List.getElem?_eq_getElem hi];exact h _ (List.getElem_mem hi)))
theorem zTX {r:List Int} (h:zDo r=true) (i:Nat):0≤(r[i]?.getD 0)∧(r[i]?.getD 0)≤99:=by
 by_cases hi:i < r.length
 ·rw[List.getElem?_eq_getElem hi];exact zSf h (List.getElem_mem hi)
 rw[List.getElem?_eq_none oO];simp
theorem zKn {a b:Table} (ha:zAv a=true) (hb:zAv b=true) (hc:(zCs a.cols b.cols).length≤4) {x y:Item} (hx:x∈a.bag.items) (hy:y∈b.bag.items):pOk (zCs a.cols b.cols).length (zSe a.cols b.cols x y):=by
 obtain⟨_,_,wa⟩:=zAJ.1 ha
 obtain⟨_,_,wb⟩:=zAJ.1 hb
 obtain⟨⟨tx1,tx2⟩,rx,lx⟩:=zCQ wa x hx
 obtain⟨⟨ty1,ty2⟩,ry,ly⟩:=zCQ wb y hy
 have hl:(zSe a.cols b.cols x y).row.length=(zCs a.cols b.cols).length:=by
  show (x.row++exK a.cols b.cols y.row b.cols.length).length=_
  unfold zCs
  rw[List.length_append,List.length_append,z5i,lx]
 refine⟨?_,zLE oO fun z hz=>?_,hl⟩
 ·have h1:1 * 1≤x.times * y.times:=Int.mul_le_mul tx1 ty1 oO oO
  show 1≤min _ _∧min _ _≤_
  omega
 rcases List.mem_append.1 hz with h|h
 ·exact zSf rx h
 obtain⟨i,_,rfl⟩:=List.mem_map.1 h
 exact zTX ry i
theorem zYt {a b:Table} (ha:zAv a=true) (hb:zAv b=true) (hc:(zCs a.cols b.cols).length≤4):∀ p∈zEW a b,pOk (zCs a.cols b.cols).length p:=fun p hp=>by
 obtain⟨x,hx,h⟩:=List.mem_flatMap.1 hp
 obtain⟨y,hy,rfl⟩:=List.mem_map.1 h
 exact zKn ha hb hc hx (List.mem_filter.1 hy).1
theorem z10 {ca cb:List ByteArray} (ha:zB9 ca=true) (hb:zB9 cb=true) (hc:(zCs ca cb).length≤4):zB9 (zCs ca cb)=true:=by
 obtain⟨a1,a2,a3⟩:=zCa ha
 obtain⟨b1,b2,b3⟩:=zCa hb
 refine zOQ ⟨?_,hc⟩ (zFo.2 ?_) fun s hs=>?_
 ·unfold zCs;rw[List.length_append];omega
 ·unfold zCs
  refine List.nodup_append.2 ⟨zFo.1 a2,List.Nodup.sublist List.filter_sublist (zFo.1 b2),fun s hs t ht e=>?_⟩
  have h1:=(List.mem_filter.1 ht).2
  rw[Bool.not_eq_true',zSd] at h1
  exact h1 (e ▸ hs)
 unfold zCs at hs
 rcases List.mem_append.1 hs with h|h
 ·exact a3 s h
 exact b3 s (List.mem_filter.1 h).1
theorem zSg {cs:List ByteArray} (h:4 < cs.length):zB9 cs=false:=by
 unfold zB9;rw[decide_eq_false oO];rfl
theorem zNt {a b:Table} (ha:zAv a=true) (hb:zAv b=true):zAv (zJA a b)=true↔(zCs a.cols b.cols).length≤4∧(zBh [] (zEW a b)).length≤300:=by
 constructor
 ·intro h
  obtain⟨h1,h2,_⟩:=zAJ.1 h
  exact⟨(zCa h1).1.2,h2⟩
 rintro ⟨h1,h2⟩
 exact zAJ.2 ⟨z10 (zAJ.1 ha).1 (zAJ.1 hb).1 h1,h2,zGU (zNp _) (zYt ha hb h1)⟩
def zV6 (ca cb:List ByteArray):List ByteArray:=cb.filter fun s=>zBI ca s
def z11 (ca cb:List ByteArray):List ByteArray:=cb.filter fun s=>!zBI ca s
theorem zYu (cb:List ByteArray):cb=(List.range cb.length).map fun i=>cb[i]?.getD ByteArray.empty:=by
 apply List.ext_getElem
 ·simp
 intro i h1 h2;rw[List.getElem_map,List.getElem_range,List.getElem?_eq_getElem h1];rfl
theorem z12 {ca cb:List ByteArray} {y:List Int} (hd:zD7 cb=true):(z11 ca cb).map (tv cb y)=exK ca cb y cb.length:=by
 unfold z11 exK
 have h1:(cb.filter fun s=>!zBI ca s)=((List.range cb.length).filter fun i=>!zBI ca (cb[i]?.getD ByteArray.empty)).map fun i=>cb[i]?.getD ByteArray.empty:=by
  conv=>lhs;rw[zYu cb]
  rw[List.filter_map];rfl
 rw[h1,List.map_map]
 refine List.map_congr_left fun i hi=>?_
 have hi2:=List.mem_range.1 (List.mem_filter.1 hi).1
 show tv cb y (cb[i]?.getD ByteArray.empty)=_
 exact zOP hd hi2
theorem zQw {ca cb:List ByteArray} {x y:List Int} (hd:zD7 cb=true):(zV6 ca cb).map (tv ca x)=(zV6 ca cb).map (tv cb y)↔zOR ca cb x y cb.length=true:=by
 rw[List.map_inj_left]
 unfold zOR zV6
 constructor
 ·intro h
  refine zEU fun i hi=>?_
  cases hc:zBI ca (cb[i]?.getD ByteArray.empty) with
  | false=>rfl
  | true=>
   have h1:=h (cb[i]?.getD ByteArray.empty) (List.mem_filter.2 ⟨by rw[List.getElem?_eq_getElem hi];exact List.getElem_mem hi,hc⟩)
   rw[zOP hd hi] at h1
   rw[decide_eq_true h1];rfl
 intro h s hs
 obtain⟨h1,h2⟩:=List.mem_filter.1 hs
 obtain⟨i,hi,rfl⟩:=List.getElem_of_mem h1
 have h3:=zBe h i hi
 have e:cb[i]?.getD ByteArray.empty=cb[i]:=by rw[List.getElem?_eq_getElem hi];rfl
 have h4:=zOP hd (row:=y) hi
 rw[e] at h3 h4
 rw[h2,Bool.not_true,Bool.false_or,decide_eq_true_iff] at h3
 rw[h3,h4]
theorem zQx {ca cb:List ByteArray} {x y:List Int} {k:Nat} (h:zOR ca cb x y k=true) (h1:zBI ca (cb[k]?.getD ByteArray.empty)=false∨tv ca x (cb[k]?.getD ByteArray.empty)=(y[k]?.getD 0)):zOR ca cb x y (k+1)=true:=zAG h (by
 rcases h1 with h1|h1
 ·rw[h1];rfl
 rw[decide_eq_true h1];simp)
theorem z5j {ca cb:List ByteArray} {x y:List Int} {k n:Nat} (hk:k < n) (h1:zBI ca (cb[k]?.getD ByteArray.empty)=true) (h2:¬tv ca x (cb[k]?.getD ByteArray.empty)=(y[k]?.getD 0)):zOR ca cb x y n=false:=zDz (k:=k) (by rw[h1,decide_eq_false h2];rfl) n hk
theorem z5k {ca cb:List ByteArray} {y:List Int} {k:Nat} (h:zBI ca (cb[k]?.getD ByteArray.empty)=false):exK ca cb y (k+1)=exK ca cb y k++[y[k]?.getD 0]:=by
 unfold exK
 rw[List.range_succ,List.filter_append,List.filter_cons_of_pos (by rw[h];rfl),List.map_append];rfl
theorem z7I {ca cb:List ByteArray} {y:List Int} {k:Nat} (h:zBI ca (cb[k]?.getD ByteArray.empty)=true):exK ca cb y (k+1)=exK ca cb y k:=by
 unfold exK
 rw[List.range_succ,List.filter_append,List.filter_cons_of_neg (by rw[h];decide),List.filter_nil,List.append_nil]
def zJa (cs out:List ByteArray) (x:Item):Item:=⟨out.map (tv cs x.row),x.times⟩
noncomputable def zG7 (t:Table) (out:List ByteArray):Table:=⟨out,⟨zBh [] (t.bag.items.map (zJa t.cols out))⟩⟩
theorem zYv {t:Table} (h:zAv t=true):zG7 t t.cols=t:=by
 obtain⟨h1,h2,h3⟩:=zAJ.1 h
 have hd:=(zCa h1).2.1
 have e:t.bag.items.map (zJa t.cols t.cols)=t.bag.items:=by
  conv=>rhs;rw[←List.map_id t.bag.items]
  refine List.map_congr_left fun x hx=>?_
  unfold zJa
  rw[zYs hd (zCQ h3 x hx).2.2];rfl
 unfold zG7
 rw[e,zQv h3.inv]
theorem zYw {t:Table} {out:List ByteArray} (h:zAv t=true) (ho:out.length≤4):(∀ p∈t.bag.items.map (zJa t.cols out),pOk out.length p):=fun p hp=>by
 obtain⟨x,hx,rfl⟩:=List.mem_map.1 hp
 obtain⟨h1,h2,h3⟩:=zAJ.1 h
 obtain⟨a1,a2,a3⟩:=zCQ h3 x hx
 refine⟨a1,zLE (by unfold zJa;rw[List.length_map];exact ho) fun z hz=>?_,by unfold zJa;rw[List.length_map]⟩
 unfold zJa at hz
 obtain⟨n,_,rfl⟩:=List.mem_map.1 hz
 exact zTX a2 _
theorem zLF (l:List ByteArray) (a:Atom):zCs l (zBg a)=zKh (zKh l a.from') a.to:=by
 unfold zCs
 by_cases h:a.from'=a.to
 ·rw[zX0 h,←h]
  cases h1:zBI l a.from' with
  | true=>rw[zDr h1,zDr h1,List.filter_cons_of_neg (by rw[h1];decide)];simp
  | false=>
   rw[zFD h1,zDr (zC8.2 sI),List.filter_cons_of_pos (by rw[h1];rfl)];rfl
 rw[zX1 h]
 have key:∀ l2:List ByteArray,(l2=l∨l2=l++[a.from'])→zBI l2 a.to=zBI l a.to:=by
  rintro l2 (rfl | rfl)
  ·rfl
  rw[Bool.eq_iff_iff,zC8,zC8,List.mem_append,List.mem_singleton]
  exact⟨fun h2=>h2.elim id fun h3=>absurd h3.symm h,.inl⟩
 cases h1:zBI l a.from' with
 | true=>
  rw[zDr h1,List.filter_cons_of_neg (by rw[h1];decide)]
  cases h2:zBI l a.to with
  | true=>rw[zDr h2,List.filter_cons_of_neg (by rw[h2];decide)];simp
  | false=>rw[zFD h2,List.filter_cons_of_pos (by rw[h2];rfl)];rfl
 | false=>
  rw[zFD h1,List.filter_cons_of_pos (by rw[h1];rfl)]
  have h3:=key (l++[a.from']) (.inr rfl)
  cases h2:zBI l a.to with
  | true=>rw[h2] at h3;rw[zDr h3,List.filter_cons_of_neg (by rw[h2];decide)];rfl
  | false=>rw[h2] at h3;rw[zFD h3,List.filter_cons_of_pos (by rw[h2];rfl),List.append_assoc];rfl
end
section
def zNu (cs:List ByteArray) (row:List Int) (f:Filter):Int:=if f.right.size=0 then f.num else tv cs row f.right
def zHJ (cs:List ByteArray) (row:List Int) (f:Filter):Bool:=if f.op=1 then decide (tv cs row f.left < zNu cs row f) else decide (tv cs row f.left=zNu cs row f)
def zFK (cs:List ByteArray) (fs:List Filter) (row:List Int) (k:Nat):Bool:=zCd (fun i=>zHJ cs row (fs[i]?.getD default)) k
def zGr (s row:List Int):Nat→Int
 | 0=>0
 | k+1=>zGr s row k * (s[k]?.getD 0)+zA0 (row[k]?.getD 0) (s[k]?.getD 0)
def zDX (s row:List Int):Int:=if zA8 s=0∨¬row.length=s.length then -1 else zGr s row s.length
theorem zTY {v n:Int} (h1:1≤n):0≤zA0 v n∧zA0 v n < n:=by
 unfold zA0
 split
 ·exact⟨Int.emod_nonneg _ oO,Int.emod_lt_of_pos _ oO⟩
 omega
theorem zLG {s row:List Int} (hs:shK s s.length=true):∀ k,k≤s.length→0≤zGr s row k∧zGr s row k < zB8 s k
 | 0,_=>by unfold zGr zB8;omega
 | k+1,hk=>by
  have ih:=zLG (row:=row) hs k oO
  have h1:=zAq.1 (zBe hs k oO)
  have h2:=zTY (v:=row[k]?.getD 0) h1.1
  unfold zGr zB8
  have h3:(zGr s row k+1) * (s[k]?.getD 0)≤zB8 s k * (s[k]?.getD 0):=Int.mul_le_mul_of_nonneg_right oO oO
  have h4:0 * (s[k]?.getD 0)≤zGr s row k * (s[k]?.getD 0):=Int.mul_le_mul_of_nonneg_right ih.1 oO
  rw[Int.add_mul] at h3
  omega
noncomputable def jk (ts:List Table):Nat→Table×Bool
 | 0=>(ts[0]?.getD default,true)
 | i+1=>if (jk ts i).2=true then zEH (jk ts i).1 (ts[i+1]?.getD default) else (⟨[],⟨[]⟩⟩,false)
theorem z3x {ts:List Table} {i:Nat} (h:(jk ts i).2=false) (hi:1≤i):∀ d,jk ts (i+d)=(⟨[],⟨[]⟩⟩,false)
 | 0=>by
  obtain⟨j,rfl⟩:∃ j,i=j+1:=⟨i-1,oO⟩
  show jk ts (j+1)=_
  have h':=h
  unfold jk at h' ⊢
  split
  ·rename_i h1
   rw[if_pos h1] at h'
   unfold zEH at h' ⊢
   split
   ·rename_i h2;rw[if_pos h2] at h';cases h'
   rfl
  rfl
 | d+1=>by
  have ih:=z3x h hi d
  show jk ts (i+d+1)=_
  unfold jk
  rw[ih];rfl
theorem z3y {ts:List Table} {i n:Nat} (h:(jk ts i).2=false) (hi:1≤i) (hn:i≤n):jk ts n=(⟨[],⟨[]⟩⟩,false):=by
 have:=z3x h hi (n-i)
 rwa [show i+(n-i)=n from oO] at this
def zMx (x:Query) (ts:List Table):Prop:=ts.length=x.atoms.length∧∀ i,i < ts.length→zAv (ts[i]?.getD default)=true∧(ts[i]?.getD default).cols=zBg (x.atoms[i]?.getD default)
theorem zYx (a:Atom):zAj [a]=zBg a:=by
 show zKh (zKh [] a.from') a.to=_
 rw[←zLF]
 unfold zCs
 rw[List.nil_append,List.filter_eq_self]
 intro s _;rfl
theorem z7J {x:Query} {ts:List Table} (hf:zMx x ts):∀ i,i < ts.length→(jk ts i).2=true→zAv (jk ts i).1=true∧(jk ts i).1.cols=zAj (x.atoms.take (i+1))
 | 0,hi,_=>by
  obtain⟨h1,h2⟩:=hf.2 0 hi
  refine⟨h1,?_⟩
  show (ts[0]?.getD default).cols=_
  rw[h2]
  have hl:0 < x.atoms.length:=by rw[←hf.1];exact hi
  rw[←zYx]
  congr 1
  rw[←List.take_append_getElem hl,List.take_zero,List.nil_append,List.getElem?_eq_getElem hl];rfl
 | i+1,hi,h=>by
  have h':=h
  unfold jk at h' ⊢
  by_cases h1:(jk ts i).2=true
  ·rw[if_pos h1] at h' ⊢
   obtain⟨h2,h3⟩:=z7J hf i oO h1
   obtain⟨h4,h5⟩:=hf.2 (i+1) hi
   unfold zEH at h' ⊢
   split
   ·rename_i h6
    refine⟨h6.2.2,?_⟩
    show zCs (jk ts i).1.cols (ts[i+1]?.getD default).cols=_
    rw[h3,h5,zLF,←zBT (by rw[←hf.1];exact hi)]
   rename_i h6;rw[if_neg h6] at h';cases h'
  rw[if_neg h1] at h';cases h'
def z13 (x:Query) (s:List Int) (c:Int) (k:Nat) (p:Item):Bool:=decide (zDX s p.row=c) && zFK (zAj x.atoms) x.filters p.row k
def zG8 (x:Query) (s:List Int) (c:Int) (t:Table) (k:Nat):Table:=⟨t.cols,⟨t.bag.items.filter (z13 x s c k)⟩⟩
noncomputable def z72 (x:Query) (s:List Int) (c:Int) (t:Table):Bag:=(zG7 (zG8 x s c t x.filters.length) x.out).bag
open Classical in
noncomputable def caM (x:Query) (s:List Int) (c:Int) (ts:List Table):Bag×Bool:=
 if zAU x s=true∧inR 0 (zA8 s-1) c=true∧zMx x ts∧(jk ts (ts.length-1)).2=true then (z72 x s c (jk ts (ts.length-1)).1,true) else (⟨[]⟩,false)
open Classical in
theorem z14 {x:Query} {s:List Int} {c:Int} {ts:List Table} (h:¬(zAU x s=true∧inR 0 (zA8 s-1) c=true∧zMx x ts∧(jk ts (ts.length-1)).2=true)):caM x s c ts=(⟨[]⟩,false):=by unfold caM;exact if_neg h
open Classical in
theorem zYy {x:Query} {s:List Int} {c:Int} {ts:List Table} (h1:zAU x s=true) (h2:inR 0 (zA8 s-1) c=true) (h3:zMx x ts) (h4:(jk ts (ts.length-1)).2=true):caM x s c ts=(z72 x s c (jk ts (ts.length-1)).1,true):=by unfold caM;exact if_pos ⟨h1,h2,h3,h4⟩
theorem zJb {cs:List ByteArray} {fs:List Filter} {row:List Int} {k:Nat}:zFK cs fs row (k+1)=(zFK cs fs row k && zHJ cs row (fs[k]?.getD default)):=rfl
theorem zVF (x:Query) (s:List Int) (c:Int) (t:Table):zG8 x s c t 0=⟨t.cols,⟨t.bag.items.filter fun p=>decide (zDX s p.row=c)⟩⟩:=by
 unfold zG8 z13 zFK
 congr 2
 refine List.filter_congr fun p _=>?_
 show (_ && true)=_
 rw[Bool.and_true]
theorem zVG (x:Query) (s:List Int) (c:Int) (t:Table) (k:Nat):zG8 x s c t (k+1)=⟨(zG8 x s c t k).cols,⟨(zG8 x s c t k).bag.items.filter fun p=>zHJ (zAj x.atoms) p.row (x.filters[k]?.getD default)⟩⟩:=by
 unfold zG8
 dsimp only
 rw[List.filter_filter]
 congr 2
 refine List.filter_congr fun p _=>?_
 unfold z13
 rw[zJb,←Bool.and_assoc,Bool.and_comm]
theorem zLH {t:Table} (h:zAv t=true) (p:Item→Bool):zAv ⟨t.cols,⟨t.bag.items.filter p⟩⟩=true:=by
 obtain⟨h1,h2,h3⟩:=zAJ.1 h
 exact zAJ.2 ⟨h1,Nat.le_trans (List.length_filter_le _ _) h2,z7H h3 List.filter_sublist⟩
theorem z15 {x:Query} {s:List Int} {c:Int} {t:Table} (h:zAv t=true) (k:Nat):zAv (zG8 x s c t k)=true:=zLH h _
theorem zDG {w:Nat} {ys:List Item} (h:BW w ys) (p:Item→Bool):zBh [] (ys.filter p)=ys.filter p:=zQv (zTT h.inv List.filter_sublist)
end
section
attribute [local irreducible] IntKind.wrap
theorem z5l:∀ xs:List Item,(∀ p∈xs,p.row.length≤4)→szL zAo xs≤5 * xs.length
 | [],_=>Nat.le_refl _
 | x::r,h=>by
  have h1:=z5l r fun p hp=>h p (List.mem_cons_of_mem _ hp)
  have h2:=h x List.mem_cons_self
  have h3:=zH3 x
  have h4:=z58 x.row
  show 1+zAo.sz x+szL zAo r≤_
  rw[List.length_cons];omega
theorem zYz {b:Bag} (h:zJO b=true):zDj.sz b≤1048576:=by
 obtain⟨ys⟩:=b
 obtain⟨h1,w,h2⟩:=zFJ.1 h
 have h3:=z5l ys fun p hp=>zGP (zCQ h2 p hp).2.1
 rw[zIQ]
 show szL zAo ys≤_
 omega
end
end Go.Proofs.YtcnclhjhnjpeiaaGreat
