/-
 Parts of the law, put together. Conditions: none.
-/
import Derived.Test.YtcnclhjhnjpeiaaGreatZq2
set_option maxHeartbeats 4000000
set_option linter.unusedSimpArgs false
set_option linter.unusedVariables false
namespace Go.Proofs.YtcnclhjhnjpeiaaGreat
open Go.SX Go.Proofs
open Tryz
section
attribute [local irreducible] IntKind.wrap
theorem zMn (l:List Value) (x:Piece) (i:Nat) (hi:i≤1000000):Ct prog 197 [.agg ⟨l⟩,.int .i64 (i:Int)] [] (fun H=>zBp.rd H l x) (fun v A=>v = .bool (zBR x i)∧A=[]):=by
 refine Ct.intro0 zAh func197 rfl rfl rfl fun E H hp=>?_
 obtain⟨b2p,c2p,rfl,w0p,h2p⟩:=zCX.1 hp
 have hl:=(zBo h2p).2
 refine⟨fun x0=>?_⟩
 constructor<;>intro q1
 ·simp at q1
  refine zAe (zIS _) trivial ?_
  rintro _ rfl
  constructor<;>intro q3
  ·exact⟨[],⟨by rw[zVd ‹x.op=1› ‹zBb x.label=true›],rfl⟩,.mem sI⟩
  exact⟨[],⟨by rw[z3e ‹x.op=1›,‹zBb x.label=false›];rfl,rfl⟩,.mem sI⟩
 simp at q1
 constructor<;>intro q4
 ·simp at q4
  constructor<;>intro q5
  ·simp at q5
   exact⟨[],⟨by rw[zBZ fun e=>by (have:=zAP.1 e;omega)],rfl⟩,.mem sI⟩
  simp at q5
  apply zAg (α:=(Nat)) zAh [39,40,41,6,42,43,44,45,46,47,48,4,49,38] (fun z=>[(38,.v (.int .i64 z))]) (fun z=>[{ id:=x0,cs:=[Value.int IntKind.i64 x.op,Value.int IntKind.u8 (↑x.label.toNat:Int),Value.slice b2p x.kids.length c2p],ty:=(210:Nat) }]) (fun z=>[H]) (fun z=>x.kids.length-z) (fun z=>z≤x.kids.length∧zBs (x.kids.take z) i=true) (0)
  ·exact frI
  ·exact⟨rfl,trivial⟩
  ·exact⟨oO,rfl⟩
  ·exact .refl _
  rintro k hI
  obtain⟨hk,ha⟩:k≤x.kids.length∧zBs (x.kids.take k) i=true:=hI
  try dsimp only
  constructor<;>intro q6
  ·simp at q6
   refine zAf h2p ?_ ?_ fun b7 o7 hb7=>?_
   ·omega
   ·omega
   refine zAd 0 (k) rfl h2p ?_ ?_ hb7 rfl (zAa 0 rfl) fun l8 hl8=>?_
   ·omega
   ·omega
   obtain⟨rfl,hw8⟩:=hl8;simp only[zAx,zAs,okI] at hw8
   constructor<;>intro q9
   ·simp at q9
    exact⟨[],⟨by rw[zBc (k:=k) oO oO oO],rfl⟩,.mem sI⟩
   simp at q9
   constructor<;>intro q10
   ·simp at q10
    exact⟨[],⟨by rw[zBc (k:=k) oO oO oO],rfl⟩,.mem sI⟩
   simp at q10
   apply zAb (k+1)
   ·exact .refl _
   ·exact frI
   ·exact⟨rfl,trivial⟩
   ·exact⟨oO,zBS oO ha oO⟩
   omega
  simp at q6
  (have hke:k=x.kids.length:=oO;subst hke;rw[List.take_length] at ha;exact⟨[],⟨by rw[zFg oO ha],rfl⟩,.mem sI⟩)
 simp at q4
 constructor<;>intro q11
 ·simp at q11
  constructor<;>intro q12
  ·simp at q12
   exact⟨[],⟨by rw[zBZ fun e=>by (have:=zAP.1 e;omega)],rfl⟩,.mem sI⟩
  simp at q12
  apply zAg (α:=(Nat)) zAh [39,40,41,6,42,43,44,45,46,47,48,4,49,38] (fun z=>[(38,.v (.int .i64 z))]) (fun z=>[{ id:=x0,cs:=[Value.int IntKind.i64 x.op,Value.int IntKind.u8 (↑x.label.toNat:Int),Value.slice b2p x.kids.length c2p],ty:=(210:Nat) }]) (fun z=>[H]) (fun z=>x.kids.length-z) (fun z=>z≤x.kids.length∧zBs (x.kids.take z) i=true) (0)
  ·exact frI
  ·exact⟨rfl,trivial⟩
  ·exact⟨oO,rfl⟩
  ·exact .refl _
  rintro k hI
  obtain⟨hk,ha⟩:k≤x.kids.length∧zBs (x.kids.take k) i=true:=hI
  try dsimp only
  constructor<;>intro q13
  ·simp at q13
   refine zAf h2p ?_ ?_ fun b14 o14 hb14=>?_
   ·omega
   ·omega
   refine zAd 0 (k) rfl h2p ?_ ?_ hb14 rfl (zAa 0 rfl) fun l15 hl15=>?_
   ·omega
   ·omega
   obtain⟨rfl,hw15⟩:=hl15;simp only[zAx,zAs,okI] at hw15
   constructor<;>intro q16
   ·simp at q16
    exact⟨[],⟨by rw[zBc (k:=k) oO oO oO],rfl⟩,.mem sI⟩
   simp at q16
   constructor<;>intro q17
   ·simp at q17
    exact⟨[],⟨by rw[zBc (k:=k) oO oO oO],rfl⟩,.mem sI⟩
   simp at q17
   apply zAb (k+1)
   ·exact .refl _
   ·exact frI
   ·exact⟨rfl,trivial⟩
   ·exact⟨oO,zBS oO ha oO⟩
   omega
  simp at q13
  (have hke:k=x.kids.length:=oO;subst hke;rw[List.take_length] at ha;exact⟨[],⟨by rw[zFg oO ha],rfl⟩,.mem sI⟩)
 simp at q11
 constructor<;>intro q18
 ·simp at q18
  constructor<;>intro q19
  ·simp at q19
   exact⟨[],⟨by rw[zBZ fun e=>by (have:=zAP.1 e;omega)],rfl⟩,.mem sI⟩
  simp at q19
  apply zAg (α:=(Nat)) zAh [39,40,41,6,42,43,44,45,46,47,48,4,49,38] (fun z=>[(38,.v (.int .i64 z))]) (fun z=>[{ id:=x0,cs:=[Value.int IntKind.i64 x.op,Value.int IntKind.u8 (↑x.label.toNat:Int),Value.slice b2p x.kids.length c2p],ty:=(210:Nat) }]) (fun z=>[H]) (fun z=>x.kids.length-z) (fun z=>z≤x.kids.length∧zBs (x.kids.take z) i=true) (0)
  ·exact frI
  ·exact⟨rfl,trivial⟩
  ·exact⟨oO,rfl⟩
  ·exact .refl _
  rintro k hI
  obtain⟨hk,ha⟩:k≤x.kids.length∧zBs (x.kids.take k) i=true:=hI
  try dsimp only
  constructor<;>intro q20
  ·simp at q20
   refine zAf h2p ?_ ?_ fun b21 o21 hb21=>?_
   ·omega
   ·omega
   refine zAd 0 (k) rfl h2p ?_ ?_ hb21 rfl (zAa 0 rfl) fun l22 hl22=>?_
   ·omega
   ·omega
   obtain⟨rfl,hw22⟩:=hl22;simp only[zAx,zAs,okI] at hw22
   constructor<;>intro q23
   ·simp at q23
    exact⟨[],⟨by rw[zBc (k:=k) oO oO oO],rfl⟩,.mem sI⟩
   simp at q23
   constructor<;>intro q24
   ·simp at q24
    exact⟨[],⟨by rw[zBc (k:=k) oO oO oO],rfl⟩,.mem sI⟩
   simp at q24
   apply zAb (k+1)
   ·exact .refl _
   ·exact frI
   ·exact⟨rfl,trivial⟩
   ·exact⟨oO,zBS oO ha oO⟩
   omega
  simp at q20
  (have hke:k=x.kids.length:=oO;subst hke;rw[List.take_length] at ha;exact⟨[],⟨by rw[zFg oO ha],rfl⟩,.mem sI⟩)
 simp at q18
 constructor<;>intro q25
 ·simp at q25
  constructor<;>intro q26
  ·simp at q26
   exact⟨[],⟨by rw[zBZ fun e=>by (have:=zAP.1 e;omega)],rfl⟩,.mem sI⟩
  simp at q26
  apply zAg (α:=(Nat)) zAh [39,40,41,6,42,43,44,45,46,47,48,4,49,38] (fun z=>[(38,.v (.int .i64 z))]) (fun z=>[{ id:=x0,cs:=[Value.int IntKind.i64 x.op,Value.int IntKind.u8 (↑x.label.toNat:Int),Value.slice b2p x.kids.length c2p],ty:=(210:Nat) }]) (fun z=>[H]) (fun z=>x.kids.length-z) (fun z=>z≤x.kids.length∧zBs (x.kids.take z) i=true) (0)
  ·exact frI
  ·exact⟨rfl,trivial⟩
  ·exact⟨oO,rfl⟩
  ·exact .refl _
  rintro k hI
  obtain⟨hk,ha⟩:k≤x.kids.length∧zBs (x.kids.take k) i=true:=hI
  try dsimp only
  constructor<;>intro q27
  ·simp at q27
   refine zAf h2p ?_ ?_ fun b28 o28 hb28=>?_
   ·omega
   ·omega
   refine zAd 0 (k) rfl h2p ?_ ?_ hb28 rfl (zAa 0 rfl) fun l29 hl29=>?_
   ·omega
   ·omega
   obtain⟨rfl,hw29⟩:=hl29;simp only[zAx,zAs,okI] at hw29
   constructor<;>intro q30
   ·simp at q30
    exact⟨[],⟨by rw[zBc (k:=k) oO oO oO],rfl⟩,.mem sI⟩
   simp at q30
   constructor<;>intro q31
   ·simp at q31
    exact⟨[],⟨by rw[zBc (k:=k) oO oO oO],rfl⟩,.mem sI⟩
   simp at q31
   apply zAb (k+1)
   ·exact .refl _
   ·exact frI
   ·exact⟨rfl,trivial⟩
   ·exact⟨oO,zBS oO ha oO⟩
   omega
  simp at q27
  (have hke:k=x.kids.length:=oO;subst hke;rw[List.take_length] at ha;exact⟨[],⟨by rw[zFg oO ha],rfl⟩,.mem sI⟩)
 simp at q25
 constructor<;>intro q32
 ·simp at q32
  constructor<;>intro q33
  ·simp at q33
   exact⟨[],⟨by rw[zBZ fun e=>by (have:=zAP.1 e;omega)],rfl⟩,.mem sI⟩
  simp at q33
  apply zAg (α:=(Nat)) zAh [39,40,41,6,42,43,44,45,46,47,48,4,49,38] (fun z=>[(38,.v (.int .i64 z))]) (fun z=>[{ id:=x0,cs:=[Value.int IntKind.i64 x.op,Value.int IntKind.u8 (↑x.label.toNat:Int),Value.slice b2p x.kids.length c2p],ty:=(210:Nat) }]) (fun z=>[H]) (fun z=>x.kids.length-z) (fun z=>z≤x.kids.length∧zBs (x.kids.take z) i=true) (0)
  ·exact frI
  ·exact⟨rfl,trivial⟩
  ·exact⟨oO,rfl⟩
  ·exact .refl _
  rintro k hI
  obtain⟨hk,ha⟩:k≤x.kids.length∧zBs (x.kids.take k) i=true:=hI
  try dsimp only
  constructor<;>intro q34
  ·simp at q34
   refine zAf h2p ?_ ?_ fun b35 o35 hb35=>?_
   ·omega
   ·omega
   refine zAd 0 (k) rfl h2p ?_ ?_ hb35 rfl (zAa 0 rfl) fun l36 hl36=>?_
   ·omega
   ·omega
   obtain⟨rfl,hw36⟩:=hl36;simp only[zAx,zAs,okI] at hw36
   constructor<;>intro q37
   ·simp at q37
    exact⟨[],⟨by rw[zBc (k:=k) oO oO oO],rfl⟩,.mem sI⟩
   simp at q37
   constructor<;>intro q38
   ·simp at q38
    exact⟨[],⟨by rw[zBc (k:=k) oO oO oO],rfl⟩,.mem sI⟩
   simp at q38
   apply zAb (k+1)
   ·exact .refl _
   ·exact frI
   ·exact⟨rfl,trivial⟩
   ·exact⟨oO,zBS oO ha oO⟩
   omega
  simp at q34
  (have hke:k=x.kids.length:=oO;subst hke;rw[List.take_length] at ha;exact⟨[],⟨by rw[zFg oO ha],rfl⟩,.mem sI⟩)
 simp at q32
 exact⟨[],⟨by rw[zBZ fun e=>by (have:=zAP.1 e;omega)],rfl⟩,.mem sI⟩
theorem zFz (l:List Value) (x:Path):Ct prog 172 [.agg ⟨l⟩] [] (fun H=>zH4.rd H l x) (fun v A=>v = .bool (zAV x)∧A=[]):=by
 refine Ct.intro0 zAh func172 rfl rfl rfl fun E H hp=>?_
 obtain⟨b0p,c0p,rfl,h0p⟩:=zBM.1 hp
 have hl:=(zBo h0p).2
 refine⟨fun x0=>?_⟩
 constructor<;>intro q1
 ·simp at q1
  exact⟨[],⟨by rw[zMU oO],rfl⟩,.mem sI⟩
 simp at q1
 constructor<;>intro q2
 ·simp at q2
  exact⟨[],⟨by rw[zMU oO],rfl⟩,.mem sI⟩
 simp at q2
 apply zAg (α:=(Nat)) zAh [19,20,21,22,4,3,23,24,25,26,2,27,18] (fun z=>[(18,.v (.int .i64 z))]) (fun z=>[{ id:=x0,cs:=[Value.slice b0p x.pieces.length c0p],ty:=(153:Nat) }]) (fun z=>[H]) (fun z=>x.pieces.length-z) (fun z=>z≤x.pieces.length∧zCd (fun i=>zBR (x.pieces[i]?.getD default) i) z=true) (0)
 ·exact frI
 ·exact⟨rfl,trivial⟩
 ·exact⟨oO,rfl⟩
 ·exact .refl _
 rintro k hI
 try dsimp only at hI
 obtain⟨hk,ha⟩:=hI
 try dsimp only
 constructor<;>intro q3
 ·simp at q3
  refine zAf h0p ?_ ?_ fun b4 o4 hb4=>?_
  ·omega
  ·omega
  refine zAd default (k) rfl h0p ?_ ?_ hb4 rfl (zAa 0 rfl) fun l5 hl5=>?_
  ·omega
  ·omega
  obtain⟨b2x5,c2x5,rfl,w0x5,h2x5⟩:=zCX.1 hl5
  refine⟨fun x6=>?_⟩
  refine zAe (zMn _ (x.pieces[k]?.getD default) _ ?_) (Rp.mono _ (zAa 0 rfl) hl5) ?_
  ·omega
  rintro _ rfl
  constructor<;>intro q8
  ·simp at q8
   exact⟨[],⟨by rw[zBk (k:=k) oO aA],rfl⟩,.mem sI⟩
  simp at q8
  apply zAb (k+1)
  ·exact .refl _
  ·exact frI
  ·exact⟨rfl,trivial⟩
  ·exact⟨oO,zAG ha aA⟩
  omega
 simp at q3
 (have hke:k=x.pieces.length:=oO;subst hke;exact⟨[],⟨by rw[zVc oO ha],rfl⟩,.mem sI⟩)
theorem zVe {p:Path} (h2:zCd (fun i=>zBR (p.pieces[i]?.getD default) i) p.pieces.length=true):zAV p=inR 1 60 (p.pieces.length:Nat):=by
 rw[Bool.eq_iff_iff,zAq]
 unfold zAV;rw[h2];simp;omega
theorem zEh (l:List Value) (x:Path):Ct prog 149 [.agg ⟨l⟩] [] (fun H=>zH4.rd H l x) (fun v A=>v = .bool (zAV x)∧A=[]):=by
 refine Ct.intro0 zAh func149 rfl rfl rfl fun E H hp=>?_
 obtain⟨b0p,c0p,rfl,h0p⟩:=zBM.1 hp
 have hl:=(zBo h0p).2
 refine⟨fun x0=>?_⟩
 apply zAg (α:=(Nat)) zAh [7,8,9,10,11,14,15,16,17,18,4,19,20,21,5,22,23,25,24,26,27,28,29,30,31,32,33,34,35,36,37,2,39,38,40,41,42,43,44,45,46,47,49,48,50,51,52,53,54,55,56,57,58,6,59,60,61,64,65,66,67,68,69,70,71,72,62,63,12,13,3] (fun z=>[(3,.v (.int .i64 z))]) (fun z=>[{ id:=x0,cs:=[Value.slice b0p x.pieces.length c0p],ty:=(153:Nat) }]) (fun z=>[H]) (fun z=>x.pieces.length-z) (fun z=>z≤x.pieces.length∧zCd (fun i=>zBR (x.pieces[i]?.getD default) i) z=true) (0)
 ·repeat' (first|exact trivial|refine⟨⟨_,rfl,by first|exact frE|(refine zAz ?_;simp;done)|exact zCy _ (by have h9:=(zBo (xs:=(x.pieces[k]?.getD default).kids) aA).2;omega),frO⟩,?_⟩)
 ·exact⟨rfl,trivial⟩
 ·exact⟨oO,rfl⟩
 ·exact .refl _
 rintro k hI
 try dsimp only at hI
 obtain⟨hk,ha⟩:=hI
 try dsimp only
 constructor<;>intro q1
 ·simp at q1
  refine zAf h0p ?_ ?_ fun b2 o2 hb2=>?_
  ·omega
  ·omega
  refine zAd default (k) rfl h0p ?_ ?_ hb2 rfl (zAa 0 rfl) fun l3 hl3=>?_
  ·omega
  ·omega
  obtain⟨b2x3,c2x3,rfl,w0x3,h2x3⟩:=zCX.1 hl3
  refine⟨fun x4=>?_⟩
  constructor<;>intro q5
  ·simp at q5
   constructor<;>intro q6
   ·simp at q6
    exact⟨[],⟨by rw[zBk (k:=k) oO (zBZ fun e=>by (have:=zAP.1 e;omega))],rfl⟩,.mem sI⟩
   simp at q6
   constructor<;>intro q7
   ·simp at q7
    exact⟨[],⟨by rw[zBk (k:=k) oO (zBZ fun e=>by (have:=zAP.1 e;omega))],rfl⟩,.mem sI⟩
   simp at q7
   constructor<;>intro q8
   ·simp at q8
    (have e9:(x.pieces[k]?.getD default).kids.length≠0:=(by simpa using ‹¬_=[]›);exact⟨[],⟨by rw[zBk (k:=k) oO (zBZ fun e=>by (have:=zAP.1 e;omega))],rfl⟩,.mem sI⟩)
   simp at q8
   apply zAg (α:=(Nat)) zAh [59,60,61,64,65,66,67,68,69,70,71,72,2,62,63,6] (fun z=>[(6,.v (.int .i64 z))]) (fun z=>[{ id:=x0,cs:=[Value.slice b0p x.pieces.length c0p],ty:=(153:Nat) },{ id:=x4,cs:=[Value.int IntKind.i64 (x.pieces[k]?.getD default).op,Value.int IntKind.u8 (↑(x.pieces[k]?.getD default).label.toNat:Int),Value.slice b2x3 (x.pieces[k]?.getD default).kids.length c2x3],ty:=(210:Nat) }]) (fun z=>[H]) (fun z=>(x.pieces[k]?.getD default).kids.length-z) (fun z=>z≤(x.pieces[k]?.getD default).kids.length∧zBs ((x.pieces[k]?.getD default).kids.take z) k=true) (0)
   ·repeat' (first|exact trivial|refine⟨⟨_,rfl,by first|exact frE|(refine zAz ?_;simp;done)|exact zCy _ (by have h9:=(zBo (xs:=(x.pieces[k]?.getD default).kids) aA).2;omega),frO⟩,?_⟩)
   ·exact⟨rfl,rfl,trivial⟩
   ·exact⟨oO,rfl⟩
   ·exact .refl _
   rintro j hI
   try dsimp only at hI
   obtain⟨hj,hb⟩:=hI
   try dsimp only
   constructor<;>intro q9
   ·simp at q9
    refine zAf h2x3 ?_ ?_ fun b10 o10 hb10=>?_
    ·omega
    ·omega
    refine zAd 0 (j) rfl h2x3 ?_ ?_ hb10 rfl (zAa 0 rfl) fun l11 hl11=>?_
    ·omega
    ·omega
    obtain⟨rfl,hw11⟩:=hl11;simp only[zAx,zAs,okI] at hw11
    refine zAe (zA3 _ _ _) trivial ?_
    rintro _ rfl
    constructor<;>intro q13
    ·simp at q13
     simp (disch:=omega) only[zAc] at q13
     have iq13:=mt zAq.2 (Bool.eq_false_iff.1 q13)
     exact⟨[],⟨by rw[zBk (k:=k) oO (zBZ fun e=>by (have:=zAP.1 e;omega))],rfl⟩,.mem sI⟩
    simp at q13
    simp (disch:=omega) only[zAc] at q13
    have iq13:=zAq.1 q13
    apply zAb (j+1)
    ·exact .refl _
    ·repeat' (first|exact trivial|refine⟨⟨_,rfl,by first|exact frE|(refine zAz ?_;simp;done)|exact zCy _ (by have h9:=(zBo (xs:=(x.pieces[k]?.getD default).kids) aA).2;omega),frO⟩,?_⟩)
    ·exact⟨rfl,rfl,trivial⟩
    ·exact⟨oO,zBS oO hb oO⟩
    omega
   simp at q9
   apply zAb (k+1)
   ·exact .refl _
   ·repeat' (first|exact trivial|refine⟨⟨_,rfl,by first|exact frE|(refine zAz ?_;simp;done)|exact zCy _ (by have h9:=(zBo (xs:=(x.pieces[k]?.getD default).kids) aA).2;omega),frO⟩,?_⟩)
   ·exact⟨rfl,trivial⟩
   ·(have e9:(x.pieces[k]?.getD default).kids.length=0:=(by rw[‹(x.pieces[k]?.getD default).kids=[]›];rfl);exact⟨oO,zAG ha (zAP.2 oO)⟩)
   omega
  simp at q5
  constructor<;>intro q14
  ·simp at q14
   constructor<;>intro q15
   ·simp at q15
    exact⟨[],⟨by rw[zBk (k:=k) oO (zBZ fun e=>by (have:=zAP.1 e;omega))],rfl⟩,.mem sI⟩
   simp at q15
   constructor<;>intro q16
   ·simp at q16
    exact⟨[],⟨by rw[zBk (k:=k) oO (zBZ fun e=>by (have:=zAP.1 e;omega))],rfl⟩,.mem sI⟩
   simp at q16
   apply zAg (α:=(Nat)) zAh [59,60,61,64,65,66,67,68,69,70,71,72,2,62,63,6] (fun z=>[(6,.v (.int .i64 z))]) (fun z=>[{ id:=x0,cs:=[Value.slice b0p x.pieces.length c0p],ty:=(153:Nat) },{ id:=x4,cs:=[Value.int IntKind.i64 (x.pieces[k]?.getD default).op,Value.int IntKind.u8 (↑(x.pieces[k]?.getD default).label.toNat:Int),Value.slice b2x3 (x.pieces[k]?.getD default).kids.length c2x3],ty:=(210:Nat) }]) (fun z=>[H]) (fun z=>(x.pieces[k]?.getD default).kids.length-z) (fun z=>z≤(x.pieces[k]?.getD default).kids.length∧zBs ((x.pieces[k]?.getD default).kids.take z) k=true) (0)
   ·repeat' (first|exact trivial|refine⟨⟨_,rfl,by first|exact frE|(refine zAz ?_;simp;done)|exact zCy _ (by have h9:=(zBo (xs:=(x.pieces[k]?.getD default).kids) aA).2;omega),frO⟩,?_⟩)
   ·exact⟨rfl,rfl,trivial⟩
   ·exact⟨oO,rfl⟩
   ·exact .refl _
   rintro j hI
   try dsimp only at hI
   obtain⟨hj,hb⟩:=hI
   try dsimp only
   constructor<;>intro q17
   ·simp at q17
    refine zAf h2x3 ?_ ?_ fun b18 o18 hb18=>?_
    ·omega
    ·omega
    refine zAd 0 (j) rfl h2x3 ?_ ?_ hb18 rfl (zAa 0 rfl) fun l19 hl19=>?_
    ·omega
    ·omega
    obtain⟨rfl,hw19⟩:=hl19;simp only[zAx,zAs,okI] at hw19
    refine zAe (zA3 _ _ _) trivial ?_
    rintro _ rfl
    constructor<;>intro q21
    ·simp at q21
     simp (disch:=omega) only[zAc] at q21
     have iq21:=mt zAq.2 (Bool.eq_false_iff.1 q21)
     exact⟨[],⟨by rw[zBk (k:=k) oO (zBc (k:=j) oO oO oO)],rfl⟩,.mem sI⟩
    simp at q21
    simp (disch:=omega) only[zAc] at q21
    have iq21:=zAq.1 q21
    apply zAb (j+1)
    ·exact .refl _
    ·repeat' (first|exact trivial|refine⟨⟨_,rfl,by first|exact frE|(refine zAz ?_;simp;done)|exact zCy _ (by have h9:=(zBo (xs:=(x.pieces[k]?.getD default).kids) aA).2;omega),frO⟩,?_⟩)
    ·exact⟨rfl,rfl,trivial⟩
    ·exact⟨oO,zBS oO hb oO⟩
    omega
   simp at q17
   apply zAb (k+1)
   ·exact .refl _
   ·repeat' (first|exact trivial|refine⟨⟨_,rfl,by first|exact frE|(refine zAz ?_;simp;done)|exact zCy _ (by have h9:=(zBo (xs:=(x.pieces[k]?.getD default).kids) aA).2;omega),frO⟩,?_⟩)
   ·exact⟨rfl,trivial⟩
   ·(have hje:j=(x.pieces[k]?.getD default).kids.length:=oO;subst hje;rw[List.take_length] at hb;exact⟨oO,zAG ha (zGb oO oO hb)⟩)
   omega
  simp at q14
  constructor<;>intro q22
  ·simp at q22
   constructor<;>intro q23
   ·simp at q23
    exact⟨[],⟨by rw[zBk (k:=k) oO (zBZ fun e=>by (have:=zAP.1 e;omega))],rfl⟩,.mem sI⟩
   simp at q23
   constructor<;>intro q24
   ·simp at q24
    exact⟨[],⟨by rw[zBk (k:=k) oO (zBZ fun e=>by (have:=zAP.1 e;omega))],rfl⟩,.mem sI⟩
   simp at q24
   apply zAg (α:=(Nat)) zAh [59,60,61,64,65,66,67,68,69,70,71,72,2,62,63,6] (fun z=>[(6,.v (.int .i64 z))]) (fun z=>[{ id:=x0,cs:=[Value.slice b0p x.pieces.length c0p],ty:=(153:Nat) },{ id:=x4,cs:=[Value.int IntKind.i64 (x.pieces[k]?.getD default).op,Value.int IntKind.u8 (↑(x.pieces[k]?.getD default).label.toNat:Int),Value.slice b2x3 (x.pieces[k]?.getD default).kids.length c2x3],ty:=(210:Nat) }]) (fun z=>[H]) (fun z=>(x.pieces[k]?.getD default).kids.length-z) (fun z=>z≤(x.pieces[k]?.getD default).kids.length∧zBs ((x.pieces[k]?.getD default).kids.take z) k=true) (0)
   ·repeat' (first|exact trivial|refine⟨⟨_,rfl,by first|exact frE|(refine zAz ?_;simp;done)|exact zCy _ (by have h9:=(zBo (xs:=(x.pieces[k]?.getD default).kids) aA).2;omega),frO⟩,?_⟩)
   ·exact⟨rfl,rfl,trivial⟩
   ·exact⟨oO,rfl⟩
   ·exact .refl _
   rintro j hI
   try dsimp only at hI
   obtain⟨hj,hb⟩:=hI
   try dsimp only
   constructor<;>intro q25
   ·simp at q25
    refine zAf h2x3 ?_ ?_ fun b26 o26 hb26=>?_
    ·omega
    ·omega
    refine zAd 0 (j) rfl h2x3 ?_ ?_ hb26 rfl (zAa 0 rfl) fun l27 hl27=>?_
    ·omega
    ·omega
    obtain⟨rfl,hw27⟩:=hl27;simp only[zAx,zAs,okI] at hw27
    refine zAe (zA3 _ _ _) trivial ?_
    rintro _ rfl
    constructor<;>intro q29
    ·simp at q29
     simp (disch:=omega) only[zAc] at q29
     have iq29:=mt zAq.2 (Bool.eq_false_iff.1 q29)
     exact⟨[],⟨by rw[zBk (k:=k) oO (zBc (k:=j) oO oO oO)],rfl⟩,.mem sI⟩
    simp at q29
    simp (disch:=omega) only[zAc] at q29
    have iq29:=zAq.1 q29
    apply zAb (j+1)
    ·exact .refl _
    ·repeat' (first|exact trivial|refine⟨⟨_,rfl,by first|exact frE|(refine zAz ?_;simp;done)|exact zCy _ (by have h9:=(zBo (xs:=(x.pieces[k]?.getD default).kids) aA).2;omega),frO⟩,?_⟩)
    ·exact⟨rfl,rfl,trivial⟩
    ·exact⟨oO,zBS oO hb oO⟩
    omega
   simp at q25
   apply zAb (k+1)
   ·exact .refl _
   ·repeat' (first|exact trivial|refine⟨⟨_,rfl,by first|exact frE|(refine zAz ?_;simp;done)|exact zCy _ (by have h9:=(zBo (xs:=(x.pieces[k]?.getD default).kids) aA).2;omega),frO⟩,?_⟩)
   ·exact⟨rfl,trivial⟩
   ·(have hje:j=(x.pieces[k]?.getD default).kids.length:=oO;subst hje;rw[List.take_length] at hb;exact⟨oO,zAG ha (zGb oO oO hb)⟩)
   omega
  simp at q22
  constructor<;>intro q30
  ·simp at q30
   constructor<;>intro q31
   ·simp at q31
    exact⟨[],⟨by rw[zBk (k:=k) oO (zBZ fun e=>by (have:=zAP.1 e;omega))],rfl⟩,.mem sI⟩
   simp at q31
   constructor<;>intro q32
   ·simp at q32
    exact⟨[],⟨by rw[zBk (k:=k) oO (zBZ fun e=>by (have:=zAP.1 e;omega))],rfl⟩,.mem sI⟩
   simp at q32
   apply zAg (α:=(Nat)) zAh [59,60,61,64,65,66,67,68,69,70,71,72,2,62,63,6] (fun z=>[(6,.v (.int .i64 z))]) (fun z=>[{ id:=x0,cs:=[Value.slice b0p x.pieces.length c0p],ty:=(153:Nat) },{ id:=x4,cs:=[Value.int IntKind.i64 (x.pieces[k]?.getD default).op,Value.int IntKind.u8 (↑(x.pieces[k]?.getD default).label.toNat:Int),Value.slice b2x3 (x.pieces[k]?.getD default).kids.length c2x3],ty:=(210:Nat) }]) (fun z=>[H]) (fun z=>(x.pieces[k]?.getD default).kids.length-z) (fun z=>z≤(x.pieces[k]?.getD default).kids.length∧zBs ((x.pieces[k]?.getD default).kids.take z) k=true) (0)
   ·repeat' (first|exact trivial|refine⟨⟨_,rfl,by first|exact frE|(refine zAz ?_;simp;done)|exact zCy _ (by have h9:=(zBo (xs:=(x.pieces[k]?.getD default).kids) aA).2;omega),frO⟩,?_⟩)
   ·exact⟨rfl,rfl,trivial⟩
   ·exact⟨oO,rfl⟩
   ·exact .refl _
   rintro j hI
   try dsimp only at hI
   obtain⟨hj,hb⟩:=hI
   try dsimp only
   constructor<;>intro q33
   ·simp at q33
    refine zAf h2x3 ?_ ?_ fun b34 o34 hb34=>?_
    ·omega
    ·omega
    refine zAd 0 (j) rfl h2x3 ?_ ?_ hb34 rfl (zAa 0 rfl) fun l35 hl35=>?_
    ·omega
    ·omega
    obtain⟨rfl,hw35⟩:=hl35;simp only[zAx,zAs,okI] at hw35
    refine zAe (zA3 _ _ _) trivial ?_
    rintro _ rfl
    constructor<;>intro q37
    ·simp at q37
     simp (disch:=omega) only[zAc] at q37
     have iq37:=mt zAq.2 (Bool.eq_false_iff.1 q37)
     exact⟨[],⟨by rw[zBk (k:=k) oO (zBc (k:=j) oO oO oO)],rfl⟩,.mem sI⟩
    simp at q37
    simp (disch:=omega) only[zAc] at q37
    have iq37:=zAq.1 q37
    apply zAb (j+1)
    ·exact .refl _
    ·repeat' (first|exact trivial|refine⟨⟨_,rfl,by first|exact frE|(refine zAz ?_;simp;done)|exact zCy _ (by have h9:=(zBo (xs:=(x.pieces[k]?.getD default).kids) aA).2;omega),frO⟩,?_⟩)
    ·exact⟨rfl,rfl,trivial⟩
    ·exact⟨oO,zBS oO hb oO⟩
    omega
   simp at q33
   apply zAb (k+1)
   ·exact .refl _
   ·repeat' (first|exact trivial|refine⟨⟨_,rfl,by first|exact frE|(refine zAz ?_;simp;done)|exact zCy _ (by have h9:=(zBo (xs:=(x.pieces[k]?.getD default).kids) aA).2;omega),frO⟩,?_⟩)
   ·exact⟨rfl,trivial⟩
   ·(have hje:j=(x.pieces[k]?.getD default).kids.length:=oO;subst hje;rw[List.take_length] at hb;exact⟨oO,zAG ha (zGb oO oO hb)⟩)
   omega
  simp at q30
  constructor<;>intro q38
  ·simp at q38
   constructor<;>intro q39
   ·simp at q39
    exact⟨[],⟨by rw[zBk (k:=k) oO (zBZ fun e=>by (have:=zAP.1 e;omega))],rfl⟩,.mem sI⟩
   simp at q39
   constructor<;>intro q40
   ·simp at q40
    exact⟨[],⟨by rw[zBk (k:=k) oO (zBZ fun e=>by (have:=zAP.1 e;omega))],rfl⟩,.mem sI⟩
   simp at q40
   apply zAg (α:=(Nat)) zAh [59,60,61,64,65,66,67,68,69,70,71,72,2,62,63,6] (fun z=>[(6,.v (.int .i64 z))]) (fun z=>[{ id:=x0,cs:=[Value.slice b0p x.pieces.length c0p],ty:=(153:Nat) },{ id:=x4,cs:=[Value.int IntKind.i64 (x.pieces[k]?.getD default).op,Value.int IntKind.u8 (↑(x.pieces[k]?.getD default).label.toNat:Int),Value.slice b2x3 (x.pieces[k]?.getD default).kids.length c2x3],ty:=(210:Nat) }]) (fun z=>[H]) (fun z=>(x.pieces[k]?.getD default).kids.length-z) (fun z=>z≤(x.pieces[k]?.getD default).kids.length∧zBs ((x.pieces[k]?.getD default).kids.take z) k=true) (0)
   ·repeat' (first|exact trivial|refine⟨⟨_,rfl,by first|exact frE|(refine zAz ?_;simp;done)|exact zCy _ (by have h9:=(zBo (xs:=(x.pieces[k]?.getD default).kids) aA).2;omega),frO⟩,?_⟩)
   ·exact⟨rfl,rfl,trivial⟩
   ·exact⟨oO,rfl⟩
   ·exact .refl _
   rintro j hI
   try dsimp only at hI
   obtain⟨hj,hb⟩:=hI
   try dsimp only
   constructor<;>intro q41
   ·simp at q41
    refine zAf h2x3 ?_ ?_ fun b42 o42 hb42=>?_
    ·omega
    ·omega
    refine zAd 0 (j) rfl h2x3 ?_ ?_ hb42 rfl (zAa 0 rfl) fun l43 hl43=>?_
    ·omega
    ·omega
    obtain⟨rfl,hw43⟩:=hl43;simp only[zAx,zAs,okI] at hw43
    refine zAe (zA3 _ _ _) trivial ?_
    rintro _ rfl
    constructor<;>intro q45
    ·simp at q45
     simp (disch:=omega) only[zAc] at q45
     have iq45:=mt zAq.2 (Bool.eq_false_iff.1 q45)
     exact⟨[],⟨by rw[zBk (k:=k) oO (zBc (k:=j) oO oO oO)],rfl⟩,.mem sI⟩
    simp at q45
    simp (disch:=omega) only[zAc] at q45
    have iq45:=zAq.1 q45
    apply zAb (j+1)
    ·exact .refl _
    ·repeat' (first|exact trivial|refine⟨⟨_,rfl,by first|exact frE|(refine zAz ?_;simp;done)|exact zCy _ (by have h9:=(zBo (xs:=(x.pieces[k]?.getD default).kids) aA).2;omega),frO⟩,?_⟩)
    ·exact⟨rfl,rfl,trivial⟩
    ·exact⟨oO,zBS oO hb oO⟩
    omega
   simp at q41
   apply zAb (k+1)
   ·exact .refl _
   ·repeat' (first|exact trivial|refine⟨⟨_,rfl,by first|exact frE|(refine zAz ?_;simp;done)|exact zCy _ (by have h9:=(zBo (xs:=(x.pieces[k]?.getD default).kids) aA).2;omega),frO⟩,?_⟩)
   ·exact⟨rfl,trivial⟩
   ·(have hje:j=(x.pieces[k]?.getD default).kids.length:=oO;subst hje;rw[List.take_length] at hb;exact⟨oO,zAG ha (zGb oO oO hb)⟩)
   omega
  simp at q38
  constructor<;>intro q46
  ·simp at q46
   constructor<;>intro q47
   ·simp at q47
    exact⟨[],⟨by rw[zBk (k:=k) oO (zBZ fun e=>by (have:=zAP.1 e;omega))],rfl⟩,.mem sI⟩
   simp at q47
   constructor<;>intro q48
   ·simp at q48
    exact⟨[],⟨by rw[zBk (k:=k) oO (zBZ fun e=>by (have:=zAP.1 e;omega))],rfl⟩,.mem sI⟩
   simp at q48
   apply zAg (α:=(Nat)) zAh [59,60,61,64,65,66,67,68,69,70,71,72,2,62,63,6] (fun z=>[(6,.v (.int .i64 z))]) (fun z=>[{ id:=x0,cs:=[Value.slice b0p x.pieces.length c0p],ty:=(153:Nat) },{ id:=x4,cs:=[Value.int IntKind.i64 (x.pieces[k]?.getD default).op,Value.int IntKind.u8 (↑(x.pieces[k]?.getD default).label.toNat:Int),Value.slice b2x3 (x.pieces[k]?.getD default).kids.length c2x3],ty:=(210:Nat) }]) (fun z=>[H]) (fun z=>(x.pieces[k]?.getD default).kids.length-z) (fun z=>z≤(x.pieces[k]?.getD default).kids.length∧zBs ((x.pieces[k]?.getD default).kids.take z) k=true) (0)
   ·repeat' (first|exact trivial|refine⟨⟨_,rfl,by first|exact frE|(refine zAz ?_;simp;done)|exact zCy _ (by have h9:=(zBo (xs:=(x.pieces[k]?.getD default).kids) aA).2;omega),frO⟩,?_⟩)
   ·exact⟨rfl,rfl,trivial⟩
   ·exact⟨oO,rfl⟩
   ·exact .refl _
   rintro j hI
   try dsimp only at hI
   obtain⟨hj,hb⟩:=hI
   try dsimp only
   constructor<;>intro q49
   ·simp at q49
    refine zAf h2x3 ?_ ?_ fun b50 o50 hb50=>?_
    ·omega
    ·omega
    refine zAd 0 (j) rfl h2x3 ?_ ?_ hb50 rfl (zAa 0 rfl) fun l51 hl51=>?_
    ·omega
    ·omega
    obtain⟨rfl,hw51⟩:=hl51;simp only[zAx,zAs,okI] at hw51
    refine zAe (zA3 _ _ _) trivial ?_
    rintro _ rfl
    constructor<;>intro q53
    ·simp at q53
     simp (disch:=omega) only[zAc] at q53
     have iq53:=mt zAq.2 (Bool.eq_false_iff.1 q53)
     exact⟨[],⟨by rw[zBk (k:=k) oO (zBc (k:=j) oO oO oO)],rfl⟩,.mem sI⟩
    simp at q53
    simp (disch:=omega) only[zAc] at q53
    have iq53:=zAq.1 q53
    apply zAb (j+1)
    ·exact .refl _
    ·repeat' (first|exact trivial|refine⟨⟨_,rfl,by first|exact frE|(refine zAz ?_;simp;done)|exact zCy _ (by have h9:=(zBo (xs:=(x.pieces[k]?.getD default).kids) aA).2;omega),frO⟩,?_⟩)
    ·exact⟨rfl,rfl,trivial⟩
    ·exact⟨oO,zBS oO hb oO⟩
    omega
   simp at q49
   apply zAb (k+1)
   ·exact .refl _
   ·repeat' (first|exact trivial|refine⟨⟨_,rfl,by first|exact frE|(refine zAz ?_;simp;done)|exact zCy _ (by have h9:=(zBo (xs:=(x.pieces[k]?.getD default).kids) aA).2;omega),frO⟩,?_⟩)
   ·exact⟨rfl,trivial⟩
   ·(have hje:j=(x.pieces[k]?.getD default).kids.length:=oO;subst hje;rw[List.take_length] at hb;exact⟨oO,zAG ha (zGb oO oO hb)⟩)
   omega
  simp at q46
  exact⟨[],⟨by rw[zBk (k:=k) oO (zBZ fun e=>by (have:=zAP.1 e;omega))],rfl⟩,.mem sI⟩
 simp at q1
 refine zAe (zA3 _ _ _) trivial ?_
 rintro _ rfl
 (have hke:k=x.pieces.length:=oO;subst hke;exact⟨[],⟨by rw[zVe ha],rfl⟩,.mem sI⟩)
end
end Go.Proofs.YtcnclhjhnjpeiaaGreat
namespace Go.SX
section
variable {P:Program} {E:World} {Γ:Ty} {n:Nat}
theorem zRO {α:Type} {x:α}:List.Perm [x] (x::List.flatten []):=.refl _
theorem zBO {α:Type} {x:α} {B:List α}:List.Perm (x::B) (x::List.flatten [B]):=by simp
theorem zW4 {β:Type} {P:Nat→β→Prop}:∀ (n:Nat),(∀ i,i < n→∃ r,P i r)→∃ rs:List β,rs.length=n∧∀ i (h:i < rs.length),P i rs[i]
 | 0,_=>⟨[],rfl,fun i h=>by simp at h⟩
 | n+1,h=>by
  obtain⟨rs,h1,h2⟩:=zW4 n (fun i hi=>h i oO)
  obtain⟨r,hr⟩:=h n oO
  refine⟨rs++[r],by simp [h1],fun i hi=>?_⟩
  by_cases hlt:i < rs.length
  ·rw[List.getElem_append_left hlt];exact h2 i hlt
  have:i=n:=by simp at hi;omega
  subst this
  rw[List.getElem_append_right oO]
  simp [h1,hr]
def zMo {α:Type} (g:Gt α):Prop:=∀ {H:Hp} {l:List Value} {x:α},g.rd H l x→g.ow l x []
theorem zEP {α:Type} {f:Fl α} {mk:Int→α} {sz:α→Nat}:zMo (f.gt mk sz):=fun h=>⟨h.1,h.2,rfl⟩
theorem OwL.of {α:Type} {g:Gt α}:∀ (ls:List (zC4 g.size)) (xs:List α),ls.length=xs.length→(∀ i (h1:i < ls.length) (h2:i < xs.length),g.ow (ls[i]).1 xs[i] [])→OwL g ls xs (List.replicate xs.length [])
 | [],[],_,_=>.nil
 | l::ls,x::xs,h,hp=>by
  refine .cons (hp 0 sI sI) (OwL.of ls xs (by simpa using h) fun i h1 h2=>?_)
  exact hp (i+1) (by simpa using h1) (by simpa using h2)
 | [],_::_,h,_=>by simp at h
 | _::_,[],h,_=>by simp at h
theorem z4y {α:Type} {g:Gt α} (hpl:zMo g) {H:Hp} {xb:Option Addr} {mx xc:Nat} {ys:List α} (hx:(zF0 g.toRp).rd H [.slice xb mx xc] ys) :
  ∃ rs:List (zC4 g.size),(zF0 (zBF g.size g.pos).rp).rd H [.slice xb mx xc] rs∧OwL g rs ys (List.replicate ys.length [])∧rs.length=ys.length:=by
 obtain⟨base,cap,e,h1,h2⟩:=hx
 cases e
 have h3:∀ i,i < ys.length→∃ r:zC4 g.size,(∃ b o,xb=some ⟨b,o,none⟩∧zCw H b (o+i * g.size) g.size r.1)∧∃ h:i < ys.length,g.ow r.1 ys[i] []:=by
  intro i hi
  obtain⟨b,o,l',h4,h5,h6⟩:=h2 i hi
  exact⟨⟨l',zEe h6⟩,⟨b,o,h4,h5⟩,hi,hpl h6⟩
 obtain⟨rs,h7,h8⟩:=zW4 ys.length h3
 refine⟨rs,⟨xb,xc,by rw[h7],⟨by rw[h7];exact h1.1,by rw[h7];exact h1.2⟩,fun i hi=>?_⟩,OwL.of rs ys h7 fun i hi1 hi2=>?_,h7⟩
 ·obtain⟨⟨b,o,h9,h10⟩,_⟩:=h8 i hi
  exact⟨b,o,(rs[i]).1,h9,h10,rfl,trivial⟩
 obtain⟨_,_,h11⟩:=h8 i hi1
 exact h11
theorem zVf (hΓ:zD3 P Γ) {α:Type} {g:Gt α} (hpl:zMo g) {dst:Option Nat} {s x:Operand} {sT xT e2 T ty:TypeId} {pos:String} {after:Array Edge} {guard:Option (Nat×Bool)} {fr:Fr} {bl:List Blk} {R:List Hp} {K:St→Prop} {ti:TI}
  (A:Hp) (Rr:List Hp) {base xb:Option Addr} {m cap mx xc:Nat} {xs ys:List α} (hR:RLe R (A::Rr)) (ho:(gSl T g).ow [.slice base m cap] xs A) (hx:(zF0 g.toRp).rd (St.hall ⟨[],bl,A::Rr⟩) [.slice xb mx xc] ys)
  (hs1:zCK fr s fun sv=>sv = .v (.slice base m cap)) (hx1:zCK fr x fun sv=>sv = .v (.slice xb mx xc))
  (hsT:zCp Γ sT=some (.slice T)) (hxT:zCp Γ xT=some (.slice e2)) (ht:zFV Γ T=some ti) (hsz:ti.size=g.size) (hz:zFZ ti.zero.cells.toList g.size=true)
  (hby:Nat.ble ti.bytes 65536=true) (hlen:xs.length+ys.length≤1073741824)
  (hk:∀ base' cap' A',(gSl T g).ow [.slice base' (xs++ys).length cap'] (xs++ys) A'→zFs n fr dst (.v (.slice base' (xs++ys).length cap')) fun fr=>K ⟨fr,bl,A'::Rr⟩) :
  VCraw P E n ⟨dst,.call ⟨.builtin .append,#[s,x],#[sT,xT]⟩,ty,pos,after,guard⟩ ⟨fr,bl,R⟩ K:=by
 have e0:(xs++ys).length=xs.length+ys.length:=List.length_append
 simp only[e0] at hk
 obtain⟨v,ls,A0,As,e,ho,hp,hl⟩:=ho
 cases e
 obtain⟨e1,e2'⟩:=hl.len
 have hm:m=ls.length:=(by obtain⟨_,_,_,_,e,_⟩:=ho;cases e;rfl)
 subst hm
 obtain⟨rs,hrs,hol,hrl⟩:=z4y hpl hx
 obtain⟨L,hL⟩:=hR
 have hperm:R.flatten.Perm (A0++(As.flatten++(Rr.flatten++L))):=by
  refine hL.trans ?_
  simp only[List.flatten_cons]
  have:=hp.append_right (Rr.flatten++L)
  simpa only[List.append_assoc] using this
 refine VCraw.conv (R2:=[A0,As.flatten++(Rr.flatten++L)]) ⟨[],by simpa using hperm⟩ ?_
 have hsub:∀ p∈St.hall ⟨[],bl,A::Rr⟩,p∈St.hall ⟨[],bl,[A0,As.flatten++(Rr.flatten++L)]⟩:=by
  intro p hp'
  simp only[St.hall,List.flatten_cons,List.flatten_nil,List.append_nil] at hp' ⊢
  rcases List.mem_append.1 hp' with h|h
  ·exact List.mem_append_left _ h
  refine List.mem_append_right _ ?_
  rcases List.mem_append.1 h with h|h
  ·have:=hp.mem_iff.1 h
   rcases List.mem_append.1 this with h2|h2
   ·exact List.mem_append_left _ h2
   exact List.mem_append_right _ (List.mem_append_left _ h2)
  exact List.mem_append_right _ (List.mem_append_right _ (List.mem_append_left _ h))
 refine zKR (f:=zBF g.size g.pos) hΓ 0 rfl ho ((zF0 (zBF g.size g.pos).rp).mono hsub hrs) (fun _ _=>trivial) hs1 hx1 hsT hxT ht hsz hz hby (by rw[e1,hrl];exact hlen) ?_
 intro base' cap' A' ho' _
 have h3:(gSl T g).ow [.slice base' (xs.length+ys.length) cap'] (xs++ys) (A'++(As++List.replicate ys.length []).flatten):=by
  refine⟨_,ls++rs,A',As++List.replicate ys.length [],rfl,?_,.refl _,hl.append hol⟩
  rw[←e1,←hrl];exact ho'
 have h4:=hk base' cap' _ h3
 rw[e1,hrl]
 refine zPn h4 fun fr' hK=>⟨_,?_,hK⟩
 refine⟨L,?_⟩
 simp only[zNZ,List.flatten_cons,List.flatten_nil,List.append_nil,List.flatten_append]
 have:(List.replicate ys.length ([]:Hp)).flatten=[]:=by simp
 rw[this]
 simp only[List.append_assoc,List.append_nil]
 exact .refl _
theorem zDc {α β:Type} {g:Gt α} {h:Gt β} (hg:zMo g) (hh:zMo h):zMo (SX.gPair g h):=by
 rintro H l x ⟨l1,l2,rfl,h1,h2⟩
 exact⟨l1,l2,[],[],rfl,.refl _,hg h1,hh h2⟩
theorem zDT {α β:Type} {g:Gt α} {f:β→α} {f':α→β} (hg:zMo g):zMo (zRk g f f'):=fun h=>hg h
theorem z05:∀ {R:List Hp} {i:Nat} {A:Hp},zV0 R i=some A→∀ p∈A,p∈R.flatten:=by
 intro R i A h p hp
 obtain⟨pre,post,rfl,-⟩:=zDx h
 simp only[List.flatten_append,List.flatten_cons,List.mem_append]
 exact .inr (.inl hp)
theorem zCH (hΓ:zD3 P Γ) {α:Type} {g:Gt α} (hpl:zMo g) {dst:Option Nat} {s x:Operand} {sT xT e2 T ty:TypeId} {pos:String} {after:Array Edge} {guard:Option (Nat×Bool)} {fr:Fr} {bl:List Blk} {R:List Hp} {K:St→Prop} {ti:TI}
  (A:Hp) (Rr:List Hp) (i:Nat) {H:Hp} {base xb:Option Addr} {m cap mx xc:Nat} {xs ys:List α} (hR:RLe R (A::Rr)) (ho:(gSl T g).ow [.slice base m cap] xs A) (hi:zV0 Rr i=some H) (hx:(gSl T g).rd H [.slice xb mx xc] ys)
  (hs1:zCK fr s fun sv=>sv = .v (.slice base m cap)) (hx1:zCK fr x fun sv=>sv = .v (.slice xb mx xc))
  (hsT:zCp Γ sT=some (.slice T)) (hxT:zCp Γ xT=some (.slice e2)) (ht:zFV Γ T=some ti) (hsz:ti.size=g.size) (hz:zFZ ti.zero.cells.toList g.size=true)
  (hby:Nat.ble ti.bytes 65536=true) (hlen:xs.length+ys.length≤1073741824)
  (hk:∀ base' cap' A',(gSl T g).ow [.slice base' (xs++ys).length cap'] (xs++ys) A'→zFs n fr dst (.v (.slice base' (xs++ys).length cap')) fun fr=>K ⟨fr,bl,A'::Rr⟩) :
  VCraw P E n ⟨dst,.call ⟨.builtin .append,#[s,x],#[sT,xT]⟩,ty,pos,after,guard⟩ ⟨fr,bl,R⟩ K:=
 zVf hΓ hpl A Rr hR ho ((gSl T g).mono (fun p hp=>by
  simp only[St.hall,List.flatten_cons,List.mem_append]
  have:=z05 hi p hp
  simp only[this,or_true]) hx) hs1 hx1 hsT hxT ht hsz hz hby hlen hk
theorem zAn {P:Program} {E:World} {Γ:Ty} {n:Nat} (hΓ:zD3 P Γ) {α:Type} {g:Gt α} {dst:Option Nat} {s x:Operand} {sT xT e2 T ty:TypeId} {pos:String} {after:Array Edge} {guard:Option (Nat×Bool)} {fr:Fr} {bl:List Blk} {R:List Hp} {K:St→Prop} {ti:TI} (i:Nat) {H:Hp} {base xb:Option Addr} {m cap mx xc:Nat} {ys:List α} (hx:(gSl T g).rd H [.slice xb mx xc] ys) (ho:(gSl T g).ow [.slice base m cap] [] []) (hlen:([]:List α).length+ys.length≤1073741824) (hk:∀ base' cap' A',(gSl T g).ow [.slice base' ([]++ys).length cap'] ([]++ys) A'→zFs n fr dst (.v (.slice base' ([]++ys).length cap')) fun fr=>K ⟨fr,bl,A'::R⟩) (hpl:zMo g:=by repeat (first|exact zEP|apply zDT|apply zDc)) (hi:zV0 R i=some H:=by rfl) (hs1:zCK fr s fun sv=>sv = .v (.slice base m cap):=by rfl) (hx1:zCK fr x fun sv=>sv = .v (.slice xb mx xc):=by rfl) (hsT:zCp Γ sT=some (.slice T):=by rfl) (hxT:zCp Γ xT=some (.slice e2):=by rfl) (ht:zFV Γ T=some ti:=by rfl) (hsz:ti.size=g.size:=by rfl) (hz:zFZ ti.zero.cells.toList g.size=true:=by rfl) (hby:Nat.ble ti.bytes 65536=true:=by rfl):VCraw P E n ⟨dst,.call ⟨.builtin .append,#[s,x],#[sT,xT]⟩,ty,pos,after,guard⟩ ⟨fr,bl,R⟩ K:=zCH hΓ hpl [] R i (.refl _) ho hi hx hs1 hx1 hsT hxT ht hsz hz hby hlen hk
end
end Go.SX
namespace Go.Proofs.YtcnclhjhnjpeiaaGreat
open Go.SX Go.Proofs
open Tryz
section
attribute [local irreducible] IntKind.wrap
theorem zRP {α:Type} {T:TypeId} {g:Gt α} {H:Hp} {xs:List α} {b:Option Addr} {n c:Nat} (h:(gSl T g).rd H [.slice b n c] xs) (hb:b=none):xs=[]:=by
 obtain⟨base,cap,e,-,h3⟩:=h
 cases xs with
 | nil=>rfl
 | cons x xs=>
  obtain⟨b',o,l',h4,-⟩:=h3 0 sI
  injection e with e;injection e with e
  rw[hb,h4] at e;cases e
theorem tk1 {α:Type} (xs:List α) (k:Nat) (z:α) (h:k < xs.length):xs.take (k+1)=xs.take k++[xs[k]?.getD z]:=by
 rw[←List.take_append_getElem h,List.getElem?_eq_getElem h];rfl
theorem zH7 (b:Option Addr) (m c:Nat) (xs:List ByteArray) (hx:szL gS xs≤1048576) :
  Ct prog 159 [.slice b m c] [] (fun H=>(gSl 9 gS).rd H [.slice b m c] xs) (fun v A=>∃ b c,v = .slice b xs.length c∧(gSl 9 gS).ow [.slice b xs.length c] xs A):=by
 refine Ct.intro0 zAh func159 rfl rfl rfl fun E H hp=>?_
 obtain⟨rfl,hcl,hl⟩:=zAp hp
 have hls:=zBL gS xs
 constructor<;>intro q0
 ·simp at q0
  (obtain rfl:=zRP hp ‹_=none›;exact⟨[],⟨none,0,rfl,zAm _ _ _⟩,.mem sI⟩)
 simp at q0
 refine⟨fun x1=>?_⟩
 refine zAn (g:=gS) (T:=9) zAh 1 hp (zAm _ _ _) ?_ fun b2 c2 A2 o2=>?_
 ·simp;omega
 exact⟨_,⟨_,_,rfl,aA⟩,rlA⟩
theorem zGc (b:Option Addr) (m c:Nat) (xs:List Int) (hx:szL gI xs≤1048576) :
  Ct prog 141 [.slice b m c] [] (fun H=>(gSl 3 gI).rd H [.slice b m c] xs) (fun v A=>∃ b c,v = .slice b xs.length c∧(gSl 3 gI).ow [.slice b xs.length c] xs A):=by
 refine Ct.intro0 zAh func141 rfl rfl rfl fun E H hp=>?_
 obtain⟨rfl,hcl,hl⟩:=zAp hp
 have hls:=zBL gI xs
 constructor<;>intro q0
 ·simp at q0
  (obtain rfl:=zRP hp ‹_=none›;exact⟨[],⟨none,0,rfl,zAm _ _ _⟩,.mem sI⟩)
 simp at q0
 refine⟨fun x1=>?_⟩
 refine zAn (g:=gI) (T:=3) zAh 1 hp (zAm _ _ _) ?_ fun b2 c2 A2 o2=>?_
 ·simp;omega
 exact⟨_,⟨_,_,rfl,aA⟩,rlA⟩
theorem zDU (l:List Value) (x:Query) (hx:zAL.sz x≤1048576) :
  Ct prog 55 [.agg ⟨l⟩] [] (fun H=>zAL.rd H l x) (fun v A=>∃ l,v = .agg ⟨l⟩∧zAL.ow l x A):=by
 refine Ct.intro0 zAh func55 rfl rfl rfl fun E H hp=>?_
 obtain⟨b1p,c1p,b2p,c2p,b3p,c3p,rfl,h1p,h2p,h3p⟩:=zAy.1 hp
 have ez:=zEt (x)
 have en1:=zBL gS (x.out)
 have en2:=zBL zA9 (x.atoms)
 have en3:=zBL zAE (x.filters)
 refine⟨fun x0=>?_⟩
 refine⟨fun x1=>?_⟩
 refine zBr zAh zAK (some 15) (.q 0 (.q 1 (.q 3 (.q 4 (.q 7 (.q 8 (.q 11 (.q 12 (.hd (.alt 2 (.hd (.alt 5 (.hd (.alt 6 (.hd (.alt 9 (.f 10 (.f 13 (.q 14 (.tl 15 (.nil))))) (.alt 10 (.f 9 (.f 13 (.q 14 (.tl 15 (.nil))))) (.nil)))) (.alt 10 (.f 6 (.f 9 (.f 13 (.q 14 (.tl 15 (.nil)))))) (.nil)))) (.alt 6 (.hd (.alt 5 (.hd (.alt 9 (.f 10 (.f 13 (.q 14 (.tl 15 (.nil))))) (.alt 10 (.f 9 (.f 13 (.q 14 (.tl 15 (.nil))))) (.nil)))) (.alt 10 (.f 5 (.f 9 (.f 13 (.q 14 (.tl 15 (.nil)))))) (.nil)))) (.alt 10 (.hd (.alt 5 (.f 6 (.f 9 (.f 13 (.q 14 (.tl 15 (.nil)))))) (.alt 6 (.f 5 (.f 9 (.f 13 (.q 14 (.tl 15 (.nil)))))) (.nil)))) (.nil))))) (.alt 6 (.hd (.alt 2 (.hd (.alt 5 (.hd (.alt 9 (.f 10 (.f 13 (.q 14 (.tl 15 (.nil))))) (.alt 10 (.f 9 (.f 13 (.q 14 (.tl 15 (.nil))))) (.nil)))) (.alt 10 (.f 5 (.f 9 (.f 13 (.q 14 (.tl 15 (.nil)))))) (.nil)))) (.alt 10 (.f 2 (.f 5 (.f 9 (.f 13 (.q 14 (.tl 15 (.nil))))))) (.nil)))) (.alt 10 (.hd (.alt 2 (.hd (.alt 5 (.f 6 (.f 9 (.f 13 (.q 14 (.tl 15 (.nil)))))) (.alt 6 (.f 5 (.f 9 (.f 13 (.q 14 (.tl 15 (.nil)))))) (.nil)))) (.alt 6 (.f 2 (.f 5 (.f 9 (.f 13 (.q 14 (.tl 15 (.nil))))))) (.nil)))) (.nil))))))))))))) (by decide +kernel) ?_
 refine VC.intro ?_ ?_
 ·refine⟨fun x2=>?_⟩
  refine VC.intro ?_ ?_
  ·exact zAA
  refine VC.intro ?_ ?_
  ·refine zAn (g:=gS) (T:=9) zAh 1 h1p (zAm _ _ _) ?_ fun b3 c3 A3 o3=>?_
   ·simp;omega
   refine VC.intro ?_ ?_
   ·exact zAl sI sI
   refine VC.intro ?_ ?_
   ·refine⟨fun x4=>?_⟩
    refine VC.intro ?_ ?_
    ·exact zAl sI sI
    refine VC.intro ?_ ?_
    ·refine zAn (g:=zA9) (T:=97) zAh 3 h2p (zAm _ _ _) ?_ fun b5 c5 A5 o5=>?_
     ·simp;omega
     refine VC.intro ?_ ?_
     ·exact zAl sI sI
     refine⟨fun x6=>?_⟩
     refine VC.intro ?_ ?_
     ·exact zAl sI sI
     refine zAn (g:=zAE) (T:=165) zAh 5 h3p (zAm _ _ _) ?_ fun b7 c7 A7 o7=>?_
     ·simp;omega
     refine VC.intro ?_ ?_
     ·exact zAl sI sI
     exact⟨_,⟨_,rfl,zBH.2 ⟨_,_,_,_,_,_,_,_,_,rfl,.refl _,aA,aA,aA⟩⟩,rlA⟩
    refine VC.intro ?_ ?_
    ·refine⟨fun x8=>?_⟩
     refine VC.intro ?_ ?_
     ·exact zAl sI sI
     refine zAn (g:=zA9) (T:=97) zAh 4 h2p (zAm _ _ _) ?_ fun b9 c9 A9 o9=>?_
     ·simp;omega
     refine VC.intro ?_ ?_
     ·exact zAl sI sI
     refine zAn (g:=zAE) (T:=165) zAh 5 h3p (zAm _ _ _) ?_ fun b10 c10 A10 o10=>?_
     ·simp;omega
     refine VC.intro ?_ ?_
     ·exact zAl sI sI
     exact⟨_,⟨_,rfl,zBH.2 ⟨_,_,_,_,_,_,_,_,_,rfl,.refl _,aA,aA,aA⟩⟩,rlA⟩
    exact trivial
   refine VC.intro ?_ ?_
   ·refine⟨fun x11=>?_⟩
    refine VC.intro ?_ ?_
    ·exact zAl sI sI
    refine⟨fun x12=>?_⟩
    refine VC.intro ?_ ?_
    ·exact zAl sI sI
    refine zAn (g:=zA9) (T:=97) zAh 4 h2p (zAm _ _ _) ?_ fun b13 c13 A13 o13=>?_
    ·simp;omega
    refine VC.intro ?_ ?_
    ·exact zAl sI sI
    refine zAn (g:=zAE) (T:=165) zAh 5 h3p (zAm _ _ _) ?_ fun b14 c14 A14 o14=>?_
    ·simp;omega
    refine VC.intro ?_ ?_
    ·exact zAl sI sI
    exact⟨_,⟨_,rfl,zBH.2 ⟨_,_,_,_,_,_,_,_,_,rfl,.refl _,aA,aA,aA⟩⟩,rlA⟩
   exact trivial
  refine VC.intro ?_ ?_
  ·refine⟨fun x15=>?_⟩
   refine VC.intro ?_ ?_
   ·exact zAl sI sI
   refine VC.intro ?_ ?_
   ·refine zAn (g:=gS) (T:=9) zAh 2 h1p (zAm _ _ _) ?_ fun b16 c16 A16 o16=>?_
    ·simp;omega
    refine VC.intro ?_ ?_
    ·exact zAl sI sI
    refine VC.intro ?_ ?_
    ·refine zAn (g:=zA9) (T:=97) zAh 3 h2p (zAm _ _ _) ?_ fun b17 c17 A17 o17=>?_
     ·simp;omega
     refine VC.intro ?_ ?_
     ·exact zAl sI sI
     refine⟨fun x18=>?_⟩
     refine VC.intro ?_ ?_
     ·exact zAl sI sI
     refine zAn (g:=zAE) (T:=165) zAh 5 h3p (zAm _ _ _) ?_ fun b19 c19 A19 o19=>?_
     ·simp;omega
     refine VC.intro ?_ ?_
     ·exact zAl sI sI
     exact⟨_,⟨_,rfl,zBH.2 ⟨_,_,_,_,_,_,_,_,_,rfl,.refl _,aA,aA,aA⟩⟩,rlA⟩
    refine VC.intro ?_ ?_
    ·refine⟨fun x20=>?_⟩
     refine VC.intro ?_ ?_
     ·exact zAl sI sI
     refine zAn (g:=zA9) (T:=97) zAh 4 h2p (zAm _ _ _) ?_ fun b21 c21 A21 o21=>?_
     ·simp;omega
     refine VC.intro ?_ ?_
     ·exact zAl sI sI
     refine zAn (g:=zAE) (T:=165) zAh 5 h3p (zAm _ _ _) ?_ fun b22 c22 A22 o22=>?_
     ·simp;omega
     refine VC.intro ?_ ?_
     ·exact zAl sI sI
     exact⟨_,⟨_,rfl,zBH.2 ⟨_,_,_,_,_,_,_,_,_,rfl,.refl _,aA,aA,aA⟩⟩,rlA⟩
    exact trivial
   refine VC.intro ?_ ?_
   ·refine⟨fun x23=>?_⟩
    refine VC.intro ?_ ?_
    ·exact zAl sI sI
    refine zAn (g:=gS) (T:=9) zAh 3 h1p (zAm _ _ _) ?_ fun b24 c24 A24 o24=>?_
    ·simp;omega
    refine VC.intro ?_ ?_
    ·exact zAl sI sI
    refine zAn (g:=zA9) (T:=97) zAh 4 h2p (zAm _ _ _) ?_ fun b25 c25 A25 o25=>?_
    ·simp;omega
    refine VC.intro ?_ ?_
    ·exact zAl sI sI
    refine zAn (g:=zAE) (T:=165) zAh 5 h3p (zAm _ _ _) ?_ fun b26 c26 A26 o26=>?_
    ·simp;omega
    refine VC.intro ?_ ?_
    ·exact zAl sI sI
    exact⟨_,⟨_,rfl,zBH.2 ⟨_,_,_,_,_,_,_,_,_,rfl,.refl _,aA,aA,aA⟩⟩,rlA⟩
   exact trivial
  refine VC.intro ?_ ?_
  ·refine⟨fun x27=>?_⟩
   refine VC.intro ?_ ?_
   ·exact zAl sI sI
   refine VC.intro ?_ ?_
   ·refine zAn (g:=gS) (T:=9) zAh 2 h1p (zAm _ _ _) ?_ fun b28 c28 A28 o28=>?_
    ·simp;omega
    refine VC.intro ?_ ?_
    ·exact zAl sI sI
    refine⟨fun x29=>?_⟩
    refine VC.intro ?_ ?_
    ·exact zAl sI sI
    refine zAn (g:=zA9) (T:=97) zAh 4 h2p (zAm _ _ _) ?_ fun b30 c30 A30 o30=>?_
    ·simp;omega
    refine VC.intro ?_ ?_
    ·exact zAl sI sI
    refine zAn (g:=zAE) (T:=165) zAh 5 h3p (zAm _ _ _) ?_ fun b31 c31 A31 o31=>?_
    ·simp;omega
    refine VC.intro ?_ ?_
    ·exact zAl sI sI
    exact⟨_,⟨_,rfl,zBH.2 ⟨_,_,_,_,_,_,_,_,_,rfl,.refl _,aA,aA,aA⟩⟩,rlA⟩
   refine VC.intro ?_ ?_
   ·refine⟨fun x32=>?_⟩
    refine VC.intro ?_ ?_
    ·exact zAl sI sI
    refine zAn (g:=gS) (T:=9) zAh 3 h1p (zAm _ _ _) ?_ fun b33 c33 A33 o33=>?_
    ·simp;omega
    refine VC.intro ?_ ?_
    ·exact zAl sI sI
    refine zAn (g:=zA9) (T:=97) zAh 4 h2p (zAm _ _ _) ?_ fun b34 c34 A34 o34=>?_
    ·simp;omega
    refine VC.intro ?_ ?_
    ·exact zAl sI sI
    refine zAn (g:=zAE) (T:=165) zAh 5 h3p (zAm _ _ _) ?_ fun b35 c35 A35 o35=>?_
    ·simp;omega
    refine VC.intro ?_ ?_
    ·exact zAl sI sI
    exact⟨_,⟨_,rfl,zBH.2 ⟨_,_,_,_,_,_,_,_,_,rfl,.refl _,aA,aA,aA⟩⟩,rlA⟩
   exact trivial
  exact trivial
 refine VC.intro ?_ ?_
 ·refine⟨fun x36=>?_⟩
  refine VC.intro ?_ ?_
  ·exact zAA
  refine VC.intro ?_ ?_
  ·refine⟨fun x37=>?_⟩
   refine VC.intro ?_ ?_
   ·exact zAl sI sI
   refine VC.intro ?_ ?_
   ·refine zAn (g:=gS) (T:=9) zAh 2 h1p (zAm _ _ _) ?_ fun b38 c38 A38 o38=>?_
    ·simp;omega
    refine VC.intro ?_ ?_
    ·exact zAl sI sI
    refine VC.intro ?_ ?_
    ·refine zAn (g:=zA9) (T:=97) zAh 3 h2p (zAm _ _ _) ?_ fun b39 c39 A39 o39=>?_
     ·simp;omega
     refine VC.intro ?_ ?_
     ·exact zAl sI sI
     refine⟨fun x40=>?_⟩
     refine VC.intro ?_ ?_
     ·exact zAl sI sI
     refine zAn (g:=zAE) (T:=165) zAh 5 h3p (zAm _ _ _) ?_ fun b41 c41 A41 o41=>?_
     ·simp;omega
     refine VC.intro ?_ ?_
     ·exact zAl sI sI
     exact⟨_,⟨_,rfl,zBH.2 ⟨_,_,_,_,_,_,_,_,_,rfl,.refl _,aA,aA,aA⟩⟩,rlA⟩
    refine VC.intro ?_ ?_
    ·refine⟨fun x42=>?_⟩
     refine VC.intro ?_ ?_
     ·exact zAl sI sI
     refine zAn (g:=zA9) (T:=97) zAh 4 h2p (zAm _ _ _) ?_ fun b43 c43 A43 o43=>?_
     ·simp;omega
     refine VC.intro ?_ ?_
     ·exact zAl sI sI
     refine zAn (g:=zAE) (T:=165) zAh 5 h3p (zAm _ _ _) ?_ fun b44 c44 A44 o44=>?_
     ·simp;omega
     refine VC.intro ?_ ?_
     ·exact zAl sI sI
     exact⟨_,⟨_,rfl,zBH.2 ⟨_,_,_,_,_,_,_,_,_,rfl,.refl _,aA,aA,aA⟩⟩,rlA⟩
    exact trivial
   refine VC.intro ?_ ?_
   ·refine⟨fun x45=>?_⟩
    refine VC.intro ?_ ?_
    ·exact zAl sI sI
    refine zAn (g:=gS) (T:=9) zAh 3 h1p (zAm _ _ _) ?_ fun b46 c46 A46 o46=>?_
    ·simp;omega
    refine VC.intro ?_ ?_
    ·exact zAl sI sI
    refine zAn (g:=zA9) (T:=97) zAh 4 h2p (zAm _ _ _) ?_ fun b47 c47 A47 o47=>?_
    ·simp;omega
    refine VC.intro ?_ ?_
    ·exact zAl sI sI
    refine zAn (g:=zAE) (T:=165) zAh 5 h3p (zAm _ _ _) ?_ fun b48 c48 A48 o48=>?_
    ·simp;omega
    refine VC.intro ?_ ?_
    ·exact zAl sI sI
    exact⟨_,⟨_,rfl,zBH.2 ⟨_,_,_,_,_,_,_,_,_,rfl,.refl _,aA,aA,aA⟩⟩,rlA⟩
   exact trivial
  refine VC.intro ?_ ?_
  ·refine⟨fun x49=>?_⟩
   refine VC.intro ?_ ?_
   ·exact zAl sI sI
   refine⟨fun x50=>?_⟩
   refine VC.intro ?_ ?_
   ·exact zAl sI sI
   refine zAn (g:=gS) (T:=9) zAh 3 h1p (zAm _ _ _) ?_ fun b51 c51 A51 o51=>?_
   ·simp;omega
   refine VC.intro ?_ ?_
   ·exact zAl sI sI
   refine zAn (g:=zA9) (T:=97) zAh 4 h2p (zAm _ _ _) ?_ fun b52 c52 A52 o52=>?_
   ·simp;omega
   refine VC.intro ?_ ?_
   ·exact zAl sI sI
   refine zAn (g:=zAE) (T:=165) zAh 5 h3p (zAm _ _ _) ?_ fun b53 c53 A53 o53=>?_
   ·simp;omega
   refine VC.intro ?_ ?_
   ·exact zAl sI sI
   exact⟨_,⟨_,rfl,zBH.2 ⟨_,_,_,_,_,_,_,_,_,rfl,.refl _,aA,aA,aA⟩⟩,rlA⟩
  exact trivial
 refine VC.intro ?_ ?_
 ·refine⟨fun x54=>?_⟩
  refine VC.intro ?_ ?_
  ·exact zAA
  refine VC.intro ?_ ?_
  ·refine⟨fun x55=>?_⟩
   refine VC.intro ?_ ?_
   ·exact zAl sI sI
   refine VC.intro ?_ ?_
   ·refine zAn (g:=gS) (T:=9) zAh 2 h1p (zAm _ _ _) ?_ fun b56 c56 A56 o56=>?_
    ·simp;omega
    refine VC.intro ?_ ?_
    ·exact zAl sI sI
    refine⟨fun x57=>?_⟩
    refine VC.intro ?_ ?_
    ·exact zAl sI sI
    refine zAn (g:=zA9) (T:=97) zAh 4 h2p (zAm _ _ _) ?_ fun b58 c58 A58 o58=>?_
    ·simp;omega
    refine VC.intro ?_ ?_
    ·exact zAl sI sI
    refine zAn (g:=zAE) (T:=165) zAh 5 h3p (zAm _ _ _) ?_ fun b59 c59 A59 o59=>?_
    ·simp;omega
    refine VC.intro ?_ ?_
    ·exact zAl sI sI
    exact⟨_,⟨_,rfl,zBH.2 ⟨_,_,_,_,_,_,_,_,_,rfl,.refl _,aA,aA,aA⟩⟩,rlA⟩
   refine VC.intro ?_ ?_
   ·refine⟨fun x60=>?_⟩
    refine VC.intro ?_ ?_
    ·exact zAl sI sI
    refine zAn (g:=gS) (T:=9) zAh 3 h1p (zAm _ _ _) ?_ fun b61 c61 A61 o61=>?_
    ·simp;omega
    refine VC.intro ?_ ?_
    ·exact zAl sI sI
    refine zAn (g:=zA9) (T:=97) zAh 4 h2p (zAm _ _ _) ?_ fun b62 c62 A62 o62=>?_
    ·simp;omega
    refine VC.intro ?_ ?_
    ·exact zAl sI sI
    refine zAn (g:=zAE) (T:=165) zAh 5 h3p (zAm _ _ _) ?_ fun b63 c63 A63 o63=>?_
    ·simp;omega
    refine VC.intro ?_ ?_
    ·exact zAl sI sI
    exact⟨_,⟨_,rfl,zBH.2 ⟨_,_,_,_,_,_,_,_,_,rfl,.refl _,aA,aA,aA⟩⟩,rlA⟩
   exact trivial
  refine VC.intro ?_ ?_
  ·refine⟨fun x64=>?_⟩
   refine VC.intro ?_ ?_
   ·exact zAl sI sI
   refine⟨fun x65=>?_⟩
   refine VC.intro ?_ ?_
   ·exact zAl sI sI
   refine zAn (g:=gS) (T:=9) zAh 3 h1p (zAm _ _ _) ?_ fun b66 c66 A66 o66=>?_
   ·simp;omega
   refine VC.intro ?_ ?_
   ·exact zAl sI sI
   refine zAn (g:=zA9) (T:=97) zAh 4 h2p (zAm _ _ _) ?_ fun b67 c67 A67 o67=>?_
   ·simp;omega
   refine VC.intro ?_ ?_
   ·exact zAl sI sI
   refine zAn (g:=zAE) (T:=165) zAh 5 h3p (zAm _ _ _) ?_ fun b68 c68 A68 o68=>?_
   ·simp;omega
   refine VC.intro ?_ ?_
   ·exact zAl sI sI
   exact⟨_,⟨_,rfl,zBH.2 ⟨_,_,_,_,_,_,_,_,_,rfl,.refl _,aA,aA,aA⟩⟩,rlA⟩
  exact trivial
 exact trivial
theorem zVg (l:List Value) (x:Bag) (hx:zDj.sz x≤1048576) :
  Ct prog 181 [.agg ⟨l⟩] [] (fun H=>zDj.rd H l x) (fun v A=>∃ l,v = .agg ⟨l⟩∧zDj.ow l x A):=by
 refine Ct.intro0 zAh func181 rfl rfl rfl fun E H hp=>?_
 obtain⟨b0p,c0p,rfl,h0p⟩:=zAD.1 hp
 have ez:=zIQ (x)
 have en0:=zBL zAo (x.items)
 have hq:=zEO zAo (x.items)
 refine⟨fun x0=>?_⟩
 refine⟨fun x1=>?_⟩
 refine⟨fun x2=>?_⟩
 apply zAg (α:=(Nat)×(Hp)×(Option Addr)×(Nat)) zAh [10,11,12,5,13,14,15,16,17,18,19,20,21,22,23,24,9] (fun z=>[(9,.v (.int .i64 z.1))]) (fun z=>[⟨x0,[Value.slice b0p x.items.length c0p],(47:Nat)⟩,⟨x1,[Value.slice none (0:Nat) (0:Nat)],(47:Nat)⟩,⟨x2,[.slice z.2.2.1 (x.items.take z.1).length z.2.2.2],(47:Nat)⟩]) (fun z=>[z.2.1,H]) (fun z=>x.items.length-z.1) (fun z=>z.1≤x.items.length∧(gSl 100 zAo).ow [.slice z.2.2.1 (x.items.take z.1).length z.2.2.2] (x.items.take z.1) z.2.1) ((0,[],none,0))
 ·repeat' (first|exact trivial|refine⟨⟨_,rfl,by first|exact frE|(refine zAz ?_;simp;done)|(refine zAz ?_;simp only[List.length_append,List.length_take,List.length_cons,List.length_nil];omega),frO⟩,?_⟩)
 ·exact⟨rfl,rfl,rfl,trivial⟩
 ·try dsimp only
  exact⟨oO,zAm _ _ _⟩
 ·exact .refl _
 rintro ⟨k,A,lb,lc⟩ hI
 try dsimp only at hI
 obtain⟨hk,oA⟩:=hI
 try dsimp only
 constructor<;>intro q3
 ·simp at q3
  have hs:=zDm zAo x.items k default oO
  have hs2:=zF4 zAo x.items (k+1)
  have hs3:=zH3 (x.items[k]?.getD default)
  have hs4:=zBL gI (x.items[k]?.getD default).row
  refine zAf h0p ?_ ?_ fun b4 o4 hb4=>?_
  ·omega
  ·omega
  refine zAd default (k) rfl h0p ?_ ?_ hb4 rfl (zAa 1 rfl) fun l5 hl5=>?_
  ·omega
  ·omega
  obtain⟨b0x5,c0x5,rfl,h0x5,w1x5⟩:=zAB.1 hl5
  refine⟨fun x6=>?_⟩
  refine zBr zAh zAK (some 9) (.q 0 (.q 1 (.q 2 (.q 3 (.q 5 (.q 6 (.f 4 (.q 7 (.f 8 (.tl 9 (.f 10 (.f 11 (.nil))))))))))))) (by decide +kernel) ?_
  refine zAi (zGc _ _ _ ((x.items[k]?.getD default).row) ?_) (Rp.mono _ (zAa 1 rfl) h0x5) ?_
  ·omega
  rintro v7 A7 o7
  obtain⟨b7,c7,rfl,o7⟩:=o7
  refine VC.intro ?_ ?_
  ·exact zAA
  refine⟨fun x8=>?_⟩
  refine VC.intro ?_ ?_
  ·exact zAA
  refine zAC (g:=zAo) (T:=100) zAh A _ [H] ?_ oA (zFx.2 ⟨_,_,_,rfl,.refl _,aA,aA⟩) (List.mem_of_getElem? (i:=0) rfl) rfl rfl rfl rfl rfl rfl rfl rfl ?_ fun b9 c9 A9 o9=>?_
  ·exact rlA
  ·simp;omega
  apply zAb (k+1,_,_,_)
  ·exact .refl _
  ·repeat' (first|exact trivial|refine⟨⟨_,rfl,by first|exact frE|(refine zAz ?_;simp;done)|(refine zAz ?_;simp only[List.length_append,List.length_take,List.length_cons,List.length_nil];omega),frO⟩,?_⟩)
  ·((rw[tk1 x.items k default oO]);repeat' (first|exact trivial|refine⟨by first|rfl|simp [Blk.ent],?_⟩))
  ·try dsimp only
   exact⟨oO,by (rw[tk1 x.items k default oO];assumption)⟩
  try dsimp only
  omega
 simp at q3
 obtain rfl:k=x.items.length:=by omega
 (simp only[List.take_length] at oA ⊢;exact⟨_,⟨_,rfl,zF5.2 ⟨_,_,_,rfl,.refl _,oA⟩⟩,rlA⟩)
theorem zJs (l:List Value) (x:Bag) (hx:zDj.sz x≤1048576) :
  Ct prog 103 [.agg ⟨l⟩] [] (fun H=>zDj.rd H l x) (fun v A=>∃ l,v = .agg ⟨l⟩∧zDj.ow l x A):=by
 refine Ct.intro0 zAh func103 rfl rfl rfl fun E H hp=>?_
 obtain⟨b0p,c0p,rfl,h0p⟩:=zAD.1 hp
 have ez:=zIQ (x)
 have en0:=zBL zAo (x.items)
 have hq:=zEO zAo (x.items)
 refine⟨fun x0=>?_⟩
 refine⟨fun x1=>?_⟩
 refine⟨fun x2=>?_⟩
 apply zAg (α:=(Nat)×(Hp)×(Option Addr)×(Nat)) zAh [6,7,8,9,10,13,14,15,16,17,18,19,20,21,22,23,24,25,26,27,28,29,30,31,32,11,12,4] (fun z=>[(4,.v (.int .i64 z.1))]) (fun z=>[⟨x0,[Value.slice b0p x.items.length c0p],(47:Nat)⟩,⟨x1,[Value.slice none (0:Nat) (0:Nat)],(47:Nat)⟩,⟨x2,[.slice z.2.2.1 (x.items.take z.1).length z.2.2.2],(47:Nat)⟩]) (fun z=>[z.2.1,H]) (fun z=>x.items.length-z.1) (fun z=>z.1≤x.items.length∧(gSl 100 zAo).ow [.slice z.2.2.1 (x.items.take z.1).length z.2.2.2] (x.items.take z.1) z.2.1) ((0,[],none,0))
 ·repeat' (first|exact trivial|refine⟨⟨_,rfl,by first|exact frE|(refine zAz ?_;simp;done)|(refine zAz ?_;simp only[List.length_append,List.length_take,List.length_cons,List.length_nil];omega),frO⟩,?_⟩)
 ·exact⟨rfl,rfl,rfl,trivial⟩
 ·try dsimp only
  exact⟨oO,zAm _ _ _⟩
 ·exact .refl _
 rintro ⟨k,A,lb,lc⟩ hI
 try dsimp only at hI
 obtain⟨hk,oA⟩:=hI
 try dsimp only
 constructor<;>intro q3
 ·simp at q3
  have hs:=zDm zAo x.items k default oO
  have hs2:=zF4 zAo x.items (k+1)
  have hs3:=zH3 (x.items[k]?.getD default)
  have hs4:=zBL gI (x.items[k]?.getD default).row
  refine zBr zAh zAK (some 18) (.q 0 (.q 1 (.q 3 (.q 4 (.q 5 (.q 6 (.q 7 (.q 8 (.q 10 (.q 11 (.q 12 (.q 13 (.q 14 (.q 15 (.f 2 (.f 9 (.q 16 (.f 17 (.tl 18 (.f 19 (.f 20 (.nil)))))))))))))))))))))) (by decide +kernel) ?_
  refine zAf h0p ?_ ?_ fun b4 o4 hb4=>?_
  ·omega
  ·omega
  refine zAw default (k) 0 rfl h0p ?_ ?_ hb4 rfl (by decide) (zAa 1 rfl) fun l5 hl5=>?_
  ·omega
  ·omega
  obtain⟨b0x5,c0x5,rfl,h0x5,w1x5⟩:=zAB.1 hl5
  refine zAf h0p ?_ ?_ fun b6 o6 hb6=>?_
  ·omega
  ·omega
  refine zAw default (k) 1 rfl h0p ?_ ?_ hb6 rfl (by decide) (zAa 1 rfl) fun l7 hl7=>?_
  ·omega
  ·omega
  obtain⟨b0x7,c0x7,rfl,h0x7,w1x7⟩:=zAB.1 hl7
  refine⟨fun x8=>?_⟩
  refine VC.intro ?_ ?_
  ·exact zAA
  refine zAn (g:=gI) (T:=3) zAh 2 h0x5 (zAm _ _ _) ?_ fun b9 c9 A9 o9=>?_
  ·simp;omega
  refine VC.intro ?_ ?_
  ·exact zAl sI sI
  refine⟨fun x10=>?_⟩
  refine VC.intro ?_ ?_
  ·exact zAA
  refine zAC (g:=zAo) (T:=100) zAh A _ [[(x8,Obj.cells { toList:=zAX 0 [Value.int IntKind.i64 (0:Int)] } 3)],H] ?_ oA (zFx.2 ⟨_,_,_,rfl,.refl _,aA,aA⟩) (List.mem_of_getElem? (i:=0) rfl) rfl rfl rfl rfl rfl rfl rfl rfl ?_ fun b11 c11 A11 o11=>?_
  ·exact rlA
  ·simp;omega
  apply zAb (k+1,_,_,_)
  ·exact .sub (by repeat (first|exact .slnil|apply List.Sublist.cons_cons|apply List.Sublist.cons))
  ·repeat' (first|exact trivial|refine⟨⟨_,rfl,by first|exact frE|(refine zAz ?_;simp;done)|(refine zAz ?_;simp only[List.length_append,List.length_take,List.length_cons,List.length_nil];omega),frO⟩,?_⟩)
  ·((rw[tk1 x.items k default oO]);repeat' (first|exact trivial|refine⟨by first|rfl|simp [Blk.ent],?_⟩))
  ·try dsimp only
   exact⟨oO,by (rw[tk1 x.items k default oO];assumption)⟩
  try dsimp only
  omega
 simp at q3
 obtain rfl:k=x.items.length:=by omega
 (simp only[List.take_length] at oA ⊢;exact⟨_,⟨_,rfl,zF5.2 ⟨_,_,_,rfl,.refl _,oA⟩⟩,rlA⟩)
end
section
attribute [local irreducible] IntKind.wrap
def prK (R:Option PR):Int:=(R.getD (0,0,[])).1
def prP (R:Option PR):Nat:=(R.getD (0,0,[])).2.1
def prS (R:Option PR):List Piece:=(R.getD (0,0,[])).2.2
theorem zFA {R:Option PR} (h:R.isSome=true):R=some (prK R,prP R,prS R):=by
 cases R with
 | none=>cases h
 | some r=>rfl
theorem zOi {R:Option PR} (h:R.isSome=false):R=none:=by cases R<;>simp_all
theorem zEw (q:Nat) (t:ByteArray) (ai:Int) (a:Nat) (v:Value) (hai:ai=(a:Int)) (ht:t.size≤1152921504606846976) (ha:a≤t.size) :
  CtR prog 195 [.pointer (some ⟨q,0,none⟩)] [(q,Obj.cells ⟨[.string t,.int .i64 ai,v]⟩ 220)] (fun _=>True) (fun r A=>r = .int .u8 ((zAu t a).toNat:Nat)∧A=[(q,Obj.cells ⟨[.string t,.int .i64 ai,v]⟩ 220)]):=by
 subst hai
 refine CtR.introB zAh [.p 0 0] [⟨q,[.string t,.int .i64 (a:Int),v],220⟩] [] func195 rfl rfl rfl rfl (by simp [SV.ok]) (by simp [Blk.ent]) fun E H hp=>?_
 refine zBr zAh zAK none (.q 0 (.q 1 (.q 2 (.q 3 (.q 4 (.q 5 (.q 6 (.q 7 (.q 8 (.q 9 (.nil))))))))))) (by decide +kernel) ?_
 constructor<;>intro q0
 ·simp at q0
  refine zBr zAh zAK none (.q 0 (.q 1 (.q 2 (.q 3 (.q 4 (.q 5 (.q 6 (.q 7 (.q 8 (.q 9 (.nil))))))))))) (by decide +kernel) ?_
  refine VC.intro ?_ ?_
  ·omega
  exact⟨_,⟨rfl,rfl⟩,rlB⟩
 simp at q0
 exact⟨_,⟨by rw[zCt oO];rfl,rfl⟩,rlB⟩
theorem zDd (q:Nat) (v0 v1:Value) (b:Option Addr) (c:Nat) (l:List Value) (ps:List Piece) (x:Piece) (A B:Hp) (hA:(gSl 210 zBp).ow [.slice b ps.length c] ps A) (hB:zBp.ow l x B) (hn:ps.length≤1000000) :
  CtR prog 217 [.pointer (some ⟨q,0,none⟩),.agg ⟨l⟩] ((q,Obj.cells ⟨[v0,v1,.slice b ps.length c]⟩ 220)::(A++B)) (fun _=>True)
   (fun r D=>∃ b c A',r = .int .i64 (ps.length:Nat)∧D=(q,Obj.cells ⟨[v0,v1,.slice b (ps++[x]).length c]⟩ 220)::A'∧(gSl 210 zBp).ow [.slice b (ps++[x]).length c] (ps++[x]) A'):=by
 refine CtR.introB zAh [.p 0 0,.v (.agg ⟨l⟩)] [⟨q,[v0,v1,.slice b ps.length c],220⟩] [A,B] func217 rfl rfl rfl rfl (by simp [SV.ok]) (by simp [Blk.ent]) fun E H hp=>?_
 have hr:=Gt.owrd _ hB
 obtain⟨b2x,c2x,rfl,w0x,h2x⟩:=zCX.1 hr
 refine⟨fun x0=>?_⟩
 refine zBr zAh zAK (some 8) (.q 0 (.q 1 (.q 2 (.q 3 (.q 4 (.q 5 (.q 6 (.f 7 (.tl 8 (.f 9 (.f 10 (.f 11 (.f 12 (.nil)))))))))))))) (by decide +kernel) ?_
 refine⟨fun x1=>?_⟩
 refine VC.intro ?_ ?_
 ·exact zAA
 refine zAC (g:=zBp) (T:=210) zAh A _ [H] ?_ hA (hB) (List.mem_of_getElem? (i:=0) rfl) rfl rfl rfl rfl rfl rfl rfl rfl ?_ fun b2 c2 A2 o2=>?_
 ·exact .tl
 ·omega
 exact⟨_,⟨_,_,_,by (simp (disch:=(simp only[List.length_append,List.length_singleton];omega)) only[zAc];simp),rfl,aA⟩,rlB⟩
theorem zEx {op:Int} {lb:UInt8} {b:Option Addr} {c:Nat} {ks:List Int} {A:Hp} (h1:okI op) (h2:(gSl 3 gI).ow [.slice b ks.length c] ks A):zBp.ow [.int .i64 op,.int .u8 (lb.toNat:Nat),.slice b ks.length c] ⟨op,lb,ks⟩ A:=zWC.2 ⟨b,c,A,rfl,by simp,h1,h2⟩
theorem zEn {op:Int} {ks:List Int} {p:Nat} {ps:List Piece} (h:ks.length=1):zBx op (ks,p,ps)=(ks[0]?.getD 0,p,ps):=by unfold zBx;rw[if_pos h]
theorem zDA {op:Int} {ks:List Int} {p:Nat} {ps:List Piece} (h:¬ks.length=1):zBx op (ks,p,ps)=(((ps.length:Nat):Int),p,ps++[⟨op,0,ks⟩]):=by unfold zBx;rw[if_neg h]
theorem zMV (q p:Nat) (v0 v1:Value) (b bk:Option Addr) (c ck:Nat) (ps:List Piece) (op:Int) (ks:List Int) (A B:Hp) (hop:okI op) (hA:(gSl 210 zBp).ow [.slice b ps.length c] ps A) (hB:(gSl 3 gI).ow [.slice bk ks.length ck] ks B) (hn:ps.length≤1000000) (hk:ks.length≤1000000) :
  CtR prog 196 [.pointer (some ⟨q,0,none⟩),.int .i64 op,.slice bk ks.length ck] ((q,Obj.cells ⟨[v0,v1,.slice b ps.length c]⟩ 220)::(A++B)) (fun _=>True)
   (fun r D=>∃ b c A',r = .int .i64 (zBx op (ks,p,ps)).1∧D=(q,Obj.cells ⟨[v0,v1,.slice b (zBx op (ks,p,ps)).2.2.length c]⟩ 220)::A'∧(gSl 210 zBp).ow [.slice b (zBx op (ks,p,ps)).2.2.length c] (zBx op (ks,p,ps)).2.2 A'):=by
 refine CtR.introB zAh [.p 0 0,.v (.int .i64 op),.v (.slice bk ks.length ck)] [⟨q,[v0,v1,.slice b ps.length c],220⟩] [A,B] func196 rfl rfl rfl rfl (by simp [SV.ok]) (by simp [Blk.ent]) fun E H hp=>?_
 have hPo:=zEx (lb:=0) hop hB
 constructor<;>intro q0
 ·simp at q0
  refine zAf (Gt.owrd _ hB) ?_ ?_ fun b1 o1 hb1=>?_
  ·trivial
  ·omega
  refine zAd 0 (0) rfl (Gt.owrd _ hB) ?_ ?_ hb1 rfl (zAa 1 rfl) fun l2 hl2=>?_
  ·trivial
  ·omega
  obtain⟨rfl,hw2⟩:=hl2;simp only[zAx,zAs,okI] at hw2
  (rw[zEn oO];exact⟨_,⟨_,_,_,rfl,rfl,hA⟩,rlB⟩)
 simp at q0
 refine zAr 0 (A++B) [H] rfl ?_ (zDd _ _ _ _ _ _ _ _ _ _ hA hPo ?_) trivial ?_
 ·exact rlA
 ·trivial
 rintro _ A3 ⟨b3,c3,Ax3,rfl,rfl,o3⟩
 refine⟨_,_,[Ax3],rfl,zBO,?_⟩
 (rw[zDA oO];exact⟨_,⟨_,_,_,rfl,rfl,aA⟩,rlB⟩)
theorem zGG {op:Int} {ks:List Int} {p:Nat} {ps:List Piece}:zBx op (ks,p,ps)=((zBx op (ks,p,ps)).1,p,(zBx op (ks,p,ps)).2.2):=by
 unfold zBx;split<;>rfl
def zW5 (q:Nat) (t:ByteArray) (R:Option PR) (v:Value) (D:Hp):Prop:=
 ∃ (p':Nat) (ps':List Piece) (b:Option Addr) (c:Nat) (A':Hp),v = .tuple #[.int .i64 (prK R),.bool R.isSome]∧D=(q,Obj.cells ⟨[.string t,.int .i64 (p':Nat),.slice b ps'.length c]⟩ 220)::A'∧(gSl 210 zBp).ow [.slice b ps'.length c] ps' A'∧(R.isSome=true→p'=prP R∧ps'=prS R)
def z4z (f:FuncId) (F:Nat→List Piece→Option PR) (t:ByteArray) (P:Nat→Prop):Prop:=
 ∀ (q:Nat) (pi:Int) (p:Nat) (ps:List Piece) (b:Option Addr) (c:Nat) (A:Hp),pi=p→P p→ps.length≤2 * p→(gSl 210 zBp).ow [.slice b ps.length c] ps A →
  CtR prog f [.pointer (some ⟨q,0,none⟩)] ((q,Obj.cells ⟨[.string t,.int .i64 pi,.slice b ps.length c]⟩ 220)::A) (fun _=>True) (zW5 q t (F p ps))
def zEy (t:ByteArray) (p:Nat) (ps:List Piece) (R:Option PR):Prop:=p < prP R∧prP R≤t.size∧(prS R).length+1+2 * p≤ps.length+2 * prP R∧ps.length≤(prS R).length∧0≤prK R∧prK R < (prS R).length
theorem zOj {R:Option PR} {t:ByteArray} {p:Nat} {ps:List Piece} (h:R.isSome=true) (hl:∀ r,R=some r→zK1 t p ps r):zEy t p ps R:=hl _ (zFA h)
theorem zIT {t:ByteArray} {n p:Nat} {ps:List Piece} (hp:p < t.size) (h:(zAN t (zAt t n) p ps).isSome=true):zEy t p ps (zAN t (zAt t n) p ps):=zOj h fun _ e=>zOh (fun _ _ _ h1 h2=>zJ4 t n _ _ _ h1 h2) hp e
theorem zK2 {t:ByteArray} {n p:Nat} {ps:List Piece} (hp:p≤t.size) (h:(zCG t (zAN t (zAt t n)) p ps).isSome=true):zEy t p ps (zCG t (zAN t (zAt t n)) p ps):=zOj h fun _ e=>zW1 (fun _ _ _ h3 h4=>zOh (fun _ _ _ h1 h2=>zJ4 t n _ _ _ h1 h2) h3 h4) hp e
theorem zMW {t:ByteArray} {n p:Nat} {ps:List Piece} (hp:p≤t.size) (h:(zAt t n p ps).isSome=true):zEy t p ps (zAt t n p ps):=zOj h fun _ e=>zJ4 t n _ _ _ hp e
theorem zJ5 {t:ByteArray} {I:Nat→List Piece→Option PR} {f:Nat} {ks:List Int} {p:Nat} {ps:List Piece} (hf:1≤f) (hb:zCe (zAu t p)=true) (h:(I p ps).isSome=true):zDi t I f ks p ps=zDi t I (f-1) (ks++[prK (I p ps)]) (prP (I p ps)) (prS (I p ps)):=by
 obtain⟨f,rfl⟩:∃ g,f=g+1:=⟨f-1,oO⟩
 exact zVb hb (zFA h)
theorem zGH {t:ByteArray} {I:Nat→List Piece→Option PR} {f:Nat} {ks:List Int} {p:Nat} {ps:List Piece} (hf:1≤f) (hb:zCe (zAu t p)=true) (h:I p ps=none):zDi t I f ks p ps=none:=by
 obtain⟨f,rfl⟩:∃ g,f=g+1:=⟨f-1,oO⟩
 exact zW2 hb h
theorem zVh {q:Nat} {t:ByteArray} {R:Option PR} {p':Nat} {ps':List Piece} {b:Option Addr} {c:Nat} {A':Hp} (hR:R=none) (h:(gSl 210 zBp).ow [.slice b ps'.length c] ps' A'):zW5 q t R (.tuple ⟨[.int .i64 0,.bool false]⟩) ((q,Obj.cells ⟨[.string t,.int .i64 (p':Nat),.slice b ps'.length c]⟩ 220)::A'):=by
 subst hR
 exact⟨p',ps',b,c,A',rfl,rfl,h,fun h=>by cases h⟩
theorem zTd {q:Nat} {t:ByteArray} {R:Option PR} {k:Int} {p':Nat} {ps':List Piece} {b:Option Addr} {c:Nat} {A':Hp} (hR:R=some (k,p',ps')) (h:(gSl 210 zBp).ow [.slice b ps'.length c] ps' A'):zW5 q t R (.tuple ⟨[.int .i64 k,.bool true]⟩) ((q,Obj.cells ⟨[.string t,.int .i64 (p':Nat),.slice b ps'.length c]⟩ 220)::A'):=by
 subst hR
 exact⟨p',ps',b,c,A',rfl,rfl,h,fun _=>⟨rfl,rfl⟩⟩
theorem zGI {ks:List Int} {p:Nat} {ps:List Piece} (h:ks=[]):zMT (some (ks,p,ps))=none:=by subst h;rfl
theorem zHB {ks:List Int} {p:Nat} {ps:List Piece} (h:¬ks=[]):zMT (some (ks,p,ps))=some ((zBx 2 (ks,p,ps)).1,p,(zBx 2 (ks,p,ps)).2.2):=by
 unfold zMT
 rw[←zGG]
 exact if_neg (by simpa using h)
theorem zEQ {b:UInt8} (h:zBb b=true):zCe b=true:=by unfold zCe;rw[h];rfl
theorem zDJ {b:UInt8} (h:((b.toNat:Nat):Int)=40):zCe b=true:=by unfold zCe;rw[decide_eq_true (show b.toNat=40 from oO)];simp
theorem zOk {b:UInt8} (h:zBb b=false) (h2:¬((b.toNat:Nat):Int)=40):zCe b=false:=by unfold zCe;rw[h,decide_eq_false (show ¬b.toNat=40 from oO)];rfl
attribute [local irreducible] zAN zAt zDi prK prP prS
theorem z06 (t:ByteArray) (n:Nat) (ht:t.size≤20) (hI:z4z 216 (zAN t (zAt t n)) t (fun p=>zCe (zAu t p)=true∧t.size < n+1+p)):z4z 194 (zCG t (zAN t (zAt t n))) t (fun p=>p≤t.size∧t.size < n+1+p):=by
 intro q pi p ps b c A hpi hP hps hA
 obtain⟨hp,hn⟩:=hP
 subst hpi
 refine CtR.introB zAh [.p 0 0] [⟨q,[.string t,.int .i64 (p:Int),.slice b ps.length c],220⟩] [A] func194 rfl rfl rfl rfl (by simp [SV.ok]) (by simp [Blk.ent]) fun E H hp=>?_
 apply zAg (α:=(Nat)×(List Int)×(Nat)×(List Piece)×(Hp)×(Option Addr)×(Nat)×(Hp)×(Option Addr)×(Nat)) zAh [7,8,9,10,11,12,13,14,16,17,15,18,19,5,6,20,21,2,3,22,23,24,25,4] (fun z=>[(4,.v (.slice z.2.2.2.2.2.2.2.2.1 z.2.1.length z.2.2.2.2.2.2.2.2.2)),(3,.v (.bool false)),(2,.v (.int .i64 0))]) (fun z=>[⟨q,[Value.string t,.int .i64 (z.2.2.1:Nat),.slice z.2.2.2.2.2.1 z.2.2.2.1.length z.2.2.2.2.2.2.1],220⟩]) (fun z=>[z.2.2.2.2.1,z.2.2.2.2.2.2.2.1,H]) (fun z=>t.size-z.2.2.1) (fun z=>zDi t (zAN t (zAt t n)) z.1 z.2.1 z.2.2.1 z.2.2.2.1=zDi t (zAN t (zAt t n)) (t.size+1) [] p ps∧t.size < z.1+z.2.2.1∧z.2.2.1≤t.size∧p≤z.2.2.1∧z.2.2.2.1.length≤2 * z.2.2.1∧z.2.1.length≤z.2.2.1∧(gSl 210 zBp).ow [.slice z.2.2.2.2.2.1 z.2.2.2.1.length z.2.2.2.2.2.2.1] z.2.2.2.1 z.2.2.2.2.1∧(gSl 3 gI).ow [.slice z.2.2.2.2.2.2.2.2.1 z.2.1.length z.2.2.2.2.2.2.2.2.2] z.2.1 z.2.2.2.2.2.2.2.1) ((t.size+1,[],p,ps,A,b,c,[],none,0))
 ·exact frI
 ·exact⟨rfl,trivial⟩
 ·try dsimp only
  exact⟨rfl,oO,aA,Nat.le_refl _,hps,Nat.zero_le _,hA,zAm _ _ _⟩
 ·exact .refl _
 rintro ⟨f,ks,p2,ps2,A,lb,lc,K,kb,kc⟩ hI
 try dsimp only at hI
 obtain⟨hf,hfu,hp2,hpp,hps2,hks,oA,oK⟩:=hI
 try dsimp only
 refine zAr 0 ([]) [A,K,H] rfl ?_ (zEw _ _ _ _ _ rfl ?_ ?_) trivial ?_
 ·exact .refl _
 ·omega
 ·trivial
 rintro _ A0 ⟨rfl,rfl⟩
 refine⟨_,_,[],rfl,zRO,?_⟩
 refine zAe (zIS _) trivial ?_
 rintro _ rfl
 constructor<;>intro q2
 ·refine zAr 0 (A) [K,H] rfl ?_ (hI _ _ _ _ _ _ _ rfl ⟨?_,?_⟩ ?_ oA) trivial ?_
  ·exact .refl _
  ·exact zEQ ‹_›
  ·omega
  ·trivial
  rintro _ A3 ⟨pz,sz,bz,cz,Az,rfl,rfl,oz,hz⟩
  refine⟨_,_,[Az],rfl,zBO,?_⟩
  constructor<;>intro q4
  ·simp at q4
   (have hN:zCG t (zAN t (zAt t n)) p ps=none:=(by unfold zCG;rw[←hf,zGH oO (by first|exact zEQ ‹zBb (zAu t p2)=true›|exact zDJ ‹((zAu t p2).toNat:Int)=40›) ‹zAN t (zAt t n) p2 ps2=none›];rfl);exact⟨_,zVh (p':=pz) hN oz,rlB⟩)
  simp at q4
  (obtain⟨e1,e2⟩:=hz q4;subst e1;subst e2;have hr:=zIT (zGa (by first|exact zEQ ‹_›|exact zDJ ‹_›)) q4;unfold zEy at hr;have ok:okI (prK (zAN t (zAt t n) p2 ps2)):=(by unfold okI;omega))
  refine⟨fun x5=>?_⟩
  refine zAC (g:=gI) (T:=3) zAh K [] [Az,H] ?_ oK (zCN ?_) (List.mem_of_getElem? (i:=0) rfl) rfl rfl rfl rfl rfl rfl rfl rfl ?_ fun b6 c6 A6 o6=>?_
  ·exact rlA
  ·trivial
  ·omega
  apply zAM (f-1,ks++[prK (zAN t (zAt t n) p2 ps2)],prP (zAN t (zAt t n) p2 ps2),prS (zAN t (zAt t n) p2 ps2),Az,_,_,_,_,_)
  ·exact frI
  ·exact⟨rfl,trivial⟩
  ·try dsimp only
   exact⟨by rw[←zJ5 oO (by first|exact zEQ ‹_›|exact zDJ ‹_›) ‹_=true›];exact hf,oO,oO,oO,oO,by rw[List.length_append,List.length_singleton];omega,oz,aA⟩
  ·exact rlA
  try dsimp only
  omega
 refine zAr 0 ([]) [A,K,H] rfl ?_ (zEw _ _ _ _ _ rfl ?_ ?_) trivial ?_
 ·exact .refl _
 ·omega
 ·trivial
 rintro _ A7 ⟨rfl,rfl⟩
 refine⟨_,_,[],rfl,zRO,?_⟩
 constructor<;>intro q8
 ·simp at q8
  refine zAr 0 (A) [K,H] rfl ?_ (hI _ _ _ _ _ _ _ rfl ⟨?_,?_⟩ ?_ oA) trivial ?_
  ·exact .refl _
  ·exact zDJ ‹_›
  ·omega
  ·trivial
  rintro _ A9 ⟨pz,sz,bz,cz,Az,rfl,rfl,oz,hz⟩
  refine⟨_,_,[Az],rfl,zBO,?_⟩
  constructor<;>intro q10
  ·simp at q10
   (have hN:zCG t (zAN t (zAt t n)) p ps=none:=(by unfold zCG;rw[←hf,zGH oO (by first|exact zEQ ‹zBb (zAu t p2)=true›|exact zDJ ‹((zAu t p2).toNat:Int)=40›) ‹zAN t (zAt t n) p2 ps2=none›];rfl);exact⟨_,zVh (p':=pz) hN oz,rlB⟩)
  simp at q10
  (obtain⟨e1,e2⟩:=hz q10;subst e1;subst e2;have hr:=zIT (zGa (by first|exact zEQ ‹_›|exact zDJ ‹_›)) q10;unfold zEy at hr;have ok:okI (prK (zAN t (zAt t n) p2 ps2)):=(by unfold okI;omega))
  refine⟨fun x11=>?_⟩
  refine zAC (g:=gI) (T:=3) zAh K [] [Az,H] ?_ oK (zCN ?_) (List.mem_of_getElem? (i:=0) rfl) rfl rfl rfl rfl rfl rfl rfl rfl ?_ fun b12 c12 A12 o12=>?_
  ·exact rlA
  ·trivial
  ·omega
  apply zAM (f-1,ks++[prK (zAN t (zAt t n) p2 ps2)],prP (zAN t (zAt t n) p2 ps2),prS (zAN t (zAt t n) p2 ps2),Az,_,_,_,_,_)
  ·exact frI
  ·exact⟨rfl,trivial⟩
  ·try dsimp only
   exact⟨by rw[←zJ5 oO (by first|exact zEQ ‹_›|exact zDJ ‹_›) ‹_=true›];exact hf,oO,oO,oO,oO,by rw[List.length_append,List.length_singleton];omega,oz,aA⟩
  ·exact rlA
  try dsimp only
  omega
 simp at q8
 constructor<;>intro q13
 ·simp at q13
  (have hN:zCG t (zAN t (zAt t n)) p ps=none:=(by unfold zCG;rw[←hf,zFf (zOk ‹zBb (zAu t p2)=false› ‹¬((zAu t p2).toNat:Int)=40›)];exact zGI ‹ks=[]›);exact⟨_,zVh (p':=p2) hN oA,rlB⟩)
 simp at q13
 refine zAr 0 (A++K) [H] rfl ?_ (zMV _ p2 _ _ _ _ _ _ _ _ _ _ _ ?_ oA oK ?_ ?_) trivial ?_
 ·exact rlA
 ·trivial
 ·omega
 ·omega
 rintro _ A14 ⟨bg,cg,Ag,rfl,rfl,og⟩
 refine⟨_,_,[Ag],rfl,zBO,?_⟩
 (have hN:zCG t (zAN t (zAt t n)) p ps=some ((zBx 2 (ks,p2,ps2)).1,p2,(zBx 2 (ks,p2,ps2)).2.2):=(by unfold zCG;rw[←hf,zFf (zOk ‹zBb (zAu t p2)=false› ‹¬((zAu t p2).toNat:Int)=40›)];exact zHB ‹¬ks=[]›);exact⟨_,zTd hN og,rlB⟩)
theorem zMX {t:ByteArray} {A:Nat→List Piece→Option PR} {f:Nat} {ks:List Int} {p:Nat} {ps:List Piece} {r:PR} (hf:1≤f) (h:A p ps=some r) (hb:(zAu t r.2.1).toNat=124):zBQ t A f ks p ps=zBQ t A (f-1) (ks++[r.1]) (r.2.1+1) r.2.2:=by
 obtain⟨f,rfl⟩:∃ g,f=g+1:=⟨f-1,oO⟩
 conv=>lhs;unfold zBQ
 rw[h]
 exact if_pos hb
theorem zHC {t:ByteArray} {A:Nat→List Piece→Option PR} {f:Nat} {ks:List Int} {p:Nat} {ps:List Piece} {r:PR} (hf:1≤f) (h:A p ps=some r) (hb:¬(zAu t r.2.1).toNat=124):zBQ t A f ks p ps=some (zBx 3 (ks++[r.1],r.2.1,r.2.2)):=by
 obtain⟨f,rfl⟩:∃ g,f=g+1:=⟨f-1,oO⟩
 conv=>lhs;unfold zBQ
 rw[h]
 exact if_neg hb
theorem zW6 {t:ByteArray} {A:Nat→List Piece→Option PR} {f:Nat} {ks:List Int} {p:Nat} {ps:List Piece} (hf:1≤f) (h:(A p ps).isSome=true) (hb:((zAu t (prP (A p ps))).toNat:Int)=124):zBQ t A f ks p ps=zBQ t A (f-1) (ks++[prK (A p ps)]) (prP (A p ps)+1) (prS (A p ps)):=
 zMX hf (zFA h) (show (zAu t (prP (A p ps))).toNat=124 from oO)
theorem zVi {t:ByteArray} {A:Nat→List Piece→Option PR} {f:Nat} {ks:List Int} {p:Nat} {ps:List Piece} (hf:1≤f) (h:(A p ps).isSome=true) (hb:¬((zAu t (prP (A p ps))).toNat:Int)=124):zBQ t A f ks p ps=some ((zBx 3 (ks++[prK (A p ps)],prP (A p ps),prS (A p ps))).1,prP (A p ps),(zBx 3 (ks++[prK (A p ps)],prP (A p ps),prS (A p ps))).2.2):=
 (zHC hf (zFA h) (show ¬(zAu t (prP (A p ps))).toNat=124 from oO)).trans (congrArg some zGG)
theorem zK3 {t:ByteArray} {A:Nat→List Piece→Option PR} {f:Nat} {ks:List Int} {p:Nat} {ps:List Piece} (h:A p ps=none):zBQ t A f ks p ps=none:=by
 cases f with
 | zero=>rfl
 | succ f=>unfold zBQ;rw[h]
attribute [local irreducible] zBQ zCG
theorem zW7 (t:ByteArray) (n:Nat) (ht:t.size≤20) (hI:z4z 194 (zCG t (zAN t (zAt t n))) t (fun p=>p≤t.size∧t.size < n+1+p)):z4z 171 (zAt t (n+1)) t (fun p=>p≤t.size∧t.size < n+1+p):=by
 intro q pi p ps b c A hpi hP hps hA
 obtain⟨hp,hn⟩:=hP
 subst hpi
 rw[show zAt t (n+1) p ps=zBQ t (zCG t (zAN t (zAt t n))) (t.size+1) [] p ps by unfold zAt;rfl]
 refine CtR.introB zAh [.p 0 0] [⟨q,[.string t,.int .i64 (p:Int),.slice b ps.length c],220⟩] [A] func171 rfl rfl rfl rfl (by simp [SV.ok]) (by simp [Blk.ent]) fun E H hp=>?_
 apply zAg (α:=(Nat)×(List Int)×(Nat)×(List Piece)×(Hp)×(Option Addr)×(Nat)×(Hp)×(Option Addr)×(Nat)) zAh [8,9,7,10,11,5,6,12,13,2,3,14,15,16,17,4,18,19,20,21,22,23,24,25,26,27,28,29,30] (fun z=>[(4,.v (.slice z.2.2.2.2.2.2.2.2.1 z.2.1.length z.2.2.2.2.2.2.2.2.2)),(3,.v (.bool false)),(2,.v (.int .i64 0))]) (fun z=>[⟨q,[Value.string t,.int .i64 (z.2.2.1:Nat),.slice z.2.2.2.2.2.1 z.2.2.2.1.length z.2.2.2.2.2.2.1],220⟩]) (fun z=>[z.2.2.2.2.1,z.2.2.2.2.2.2.2.1,H]) (fun z=>t.size-z.2.2.1) (fun z=>zBQ t (zCG t (zAN t (zAt t n))) z.1 z.2.1 z.2.2.1 z.2.2.2.1=zBQ t (zCG t (zAN t (zAt t n))) (t.size+1) [] p ps∧t.size < z.1+z.2.2.1∧z.2.2.1≤t.size∧p≤z.2.2.1∧z.2.2.2.1.length≤2 * z.2.2.1∧z.2.1.length≤z.2.2.1∧(gSl 210 zBp).ow [.slice z.2.2.2.2.2.1 z.2.2.2.1.length z.2.2.2.2.2.2.1] z.2.2.2.1 z.2.2.2.2.1∧(gSl 3 gI).ow [.slice z.2.2.2.2.2.2.2.2.1 z.2.1.length z.2.2.2.2.2.2.2.2.2] z.2.1 z.2.2.2.2.2.2.2.1) ((t.size+1,[],p,ps,A,b,c,[],none,0))
 ·exact frI
 ·exact⟨rfl,trivial⟩
 ·try dsimp only
  exact⟨rfl,oO,aA,Nat.le_refl _,hps,Nat.zero_le _,hA,zAm _ _ _⟩
 ·exact .refl _
 rintro ⟨f,ks,p2,ps2,A,lb,lc,K,kb,kc⟩ hI
 try dsimp only at hI
 obtain⟨hf,hfu,hp2,hpp,hps2,hks,oA,oK⟩:=hI
 try dsimp only
 refine zAr 0 (A) [K,H] rfl ?_ (hI _ _ _ _ _ _ _ rfl ⟨?_,?_⟩ ?_ oA) trivial ?_
 ·exact .refl _
 ·trivial
 ·omega
 ·trivial
 rintro _ A0 ⟨pz,sz,bz,cz,Az,rfl,rfl,oz,hz⟩
 refine⟨_,_,[Az],rfl,zBO,?_⟩
 constructor<;>intro q1
 ·simp at q1
  (have hN:=zK3 (t:=t) (f:=f) (ks:=ks) ‹zCG t (zAN t (zAt t n)) p2 ps2=none›;rw[hf] at hN;exact⟨_,zVh (p':=pz) hN oz,rlB⟩)
 simp at q1
 (obtain⟨e1,e2⟩:=hz q1;subst e1;subst e2;have hr:=zK2 aA q1;unfold zEy at hr;have ok:okI (prK (zCG t (zAN t (zAt t n)) p2 ps2)):=(by unfold okI;omega))
 refine⟨fun x2=>?_⟩
 refine zAC (g:=gI) (T:=3) zAh K [] [Az,H] ?_ oK (zCN ?_) (List.mem_of_getElem? (i:=0) rfl) rfl rfl rfl rfl rfl rfl rfl rfl ?_ fun b3 c3 A3 o3=>?_
 ·exact rlA
 ·trivial
 ·omega
 refine zAr 0 ([]) [A3,Az,H] rfl ?_ (zEw _ _ _ _ _ rfl ?_ ?_) trivial ?_
 ·exact .refl _
 ·omega
 ·omega
 rintro _ A4 ⟨rfl,rfl⟩
 refine⟨_,_,[],rfl,zRO,?_⟩
 constructor<;>intro q5
 ·simp at q5
  refine zAr 0 (Az++A3) [H] rfl ?_ (zMV _ (prP (zCG t (zAN t (zAt t n)) p2 ps2)) _ _ _ _ _ _ _ _ _ _ _ ?_ oz o3 ?_ ?_) trivial ?_
  ·exact rlA
  ·trivial
  ·omega
  ·simp;omega
  rintro _ A6 ⟨bg,cg,Ag,rfl,rfl,og⟩
  refine⟨_,_,[Ag],rfl,zBO,?_⟩
  (have hN:=zVi (t:=t) (f:=f) (ks:=ks) oO ‹(zCG t (zAN t (zAt t n)) p2 ps2).isSome=true› ‹¬((zAu t (prP (zCG t (zAN t (zAt t n)) p2 ps2))).toNat:Int)=124›;rw[hf] at hN;exact⟨_,zTd hN og,rlB⟩)
 simp at q5
 have hlt:prP (zCG t (zAN t (zAt t n)) p2 ps2) < t.size:=zCF oO
 have hw:IntKind.i64.wrap ((prP (zCG t (zAN t (zAt t n)) p2 ps2):Int)+1)=((prP (zCG t (zAN t (zAt t n)) p2 ps2)+1:Nat):Int):=by (rw[zAc oO oO];omega)
 apply zAM (f-1,ks++[prK (zCG t (zAN t (zAt t n)) p2 ps2)],prP (zCG t (zAN t (zAt t n)) p2 ps2)+1,prS (zCG t (zAN t (zAt t n)) p2 ps2),Az,_,_,_,_,_)
 ·exact frI
 ·((rw[hw]);repeat' (first|exact trivial|refine⟨by first|rfl|simp [Blk.ent],?_⟩))
 ·try dsimp only
  exact⟨by rw[←zW6 oO ‹(zCG t (zAN t (zAt t n)) p2 ps2).isSome=true› ‹((zAu t (prP (zCG t (zAN t (zAt t n)) p2 ps2))).toNat:Int)=124›];exact hf,oO,oO,oO,oO,by rw[List.length_append,List.length_singleton];omega,oz,aA⟩
 ·exact rlA
 try dsimp only
 omega
end
section
attribute [local irreducible] IntKind.wrap
theorem zCr {op k:Int} {x:Nat} (h1:okI op) (h2:okI k):zBp.ow [.int .i64 op,.int .u8 0,.slice (some ⟨x,0,none⟩) 1 1] ⟨op,0,[k]⟩ [(x,Obj.cells ⟨[.int .i64 k]⟩ 3)]:=
 zEx (lb:=0) h1 (zN3 (Ow.lit (f:=zAs) (T:=3) (b:=x) (xs:=[k]) (by simpa [zAs] using h2) sI))
theorem zMY {op:Int} {lb:UInt8} (h1:okI op):zBp.ow [.int .i64 op,.int .u8 (lb.toNat:Nat),.slice none 0 0] ⟨op,lb,[]⟩ []:=zEx (ks:=[]) h1 (zAm _ _ _)
theorem zTe {t:ByteArray} {E:Nat→List Piece→Option PR} {p:Nat} {ps:List Piece} (h:((zAu t p).toNat:Int)=40) (h1:(E (p+1) ps).isSome=true) (h2:((zAu t (prP (E (p+1) ps))).toNat:Int)=41):zAN t E p ps=some (zDh t (t.size+1) (prK (E (p+1) ps)) (prP (E (p+1) ps)+1) (prS (E (p+1) ps))):=by
 have h3:=zFA h1
 have h4:zAN t E p ps=if (zAu t (prP (E (p+1) ps))).toNat=41 then some (zDh t (t.size+1) (prK (E (p+1) ps)) (prP (E (p+1) ps)+1) (prS (E (p+1) ps))) else none:=by
  conv=>lhs;unfold zAN;rw[if_pos (show (zAu t p).toNat=40 from oO),h3]
 rw[h4,if_pos oO]
theorem zK4 {t:ByteArray} {E:Nat→List Piece→Option PR} {p:Nat} {ps:List Piece} (h:((zAu t p).toNat:Int)=40) (h1:E (p+1) ps=none):zAN t E p ps=none:=by
 unfold zAN;rw[if_pos (show (zAu t p).toNat=40 from oO),h1]
theorem zK5 {t:ByteArray} {E:Nat→List Piece→Option PR} {p:Nat} {ps:List Piece} (h:((zAu t p).toNat:Int)=40) (h1:(E (p+1) ps).isSome=true) (h2:¬((zAu t (prP (E (p+1) ps))).toNat:Int)=41):zAN t E p ps=none:=by
 have h3:=zFA h1
 have h4:zAN t E p ps=if (zAu t (prP (E (p+1) ps))).toNat=41 then some (zDh t (t.size+1) (prK (E (p+1) ps)) (prP (E (p+1) ps)+1) (prS (E (p+1) ps))) else none:=by
  conv=>lhs;unfold zAN;rw[if_pos (show (zAu t p).toNat=40 from oO),h3]
 rw[h4,if_neg oO]
theorem zPL {t:ByteArray} {E:Nat→List Piece→Option PR} {p:Nat} {ps:List Piece} (h:¬((zAu t p).toNat:Int)=40):zAN t E p ps=some (zDh t (t.size+1) (ps.length:Nat) (p+1) (ps++[⟨1,zAu t p,[]⟩])):=by
 unfold zAN;rw[if_neg oO]
theorem zH8 {t:ByteArray} {f p:Nat} {k:Int} {ps:List Piece} (h:¬((zAu t p).toNat:Int)=42) (h2:¬((zAu t p).toNat:Int)=43) (h3:¬((zAu t p).toNat:Int)=63):zDh t f k p ps=(k,p,ps):=by
 cases f with
 | zero=>rfl
 | succ f=>unfold zDh;rw[if_pos (by unfold zK0;rw[if_neg oO,if_neg oO,if_neg oO])]
theorem zD6 {t:ByteArray} {f p:Nat} {k op:Int} {ps:List Piece} (hf:1≤f) (h:(((zAu t p).toNat:Int)=42∧op=4)∨(((zAu t p).toNat:Int)=43∧op=5)∨(((zAu t p).toNat:Int)=63∧op=6)):zDh t f k p ps=zDh t (f-1) (ps.length:Nat) (p+1) (ps++[⟨op,0,[k]⟩]):=by
 obtain⟨f,rfl⟩:∃ g,f=g+1:=⟨f-1,oO⟩
 have hop:zK0 (zAu t p)=op:=by
  unfold zK0
  rcases h with ⟨h1,h2⟩|⟨h1,h2⟩|⟨h1,h2⟩
  ·rw[if_pos oO];omega
  ·rw[if_neg oO,if_pos oO];omega
  rw[if_neg oO,if_neg oO,if_pos oO];omega
 conv=>lhs;unfold zDh
 rw[hop,if_neg oO];rfl
attribute [local irreducible] zAN zAt zDi zDh prK prP prS
theorem zW8 (t:ByteArray) (n:Nat) (ht:t.size≤20) (hI:z4z 171 (zAt t n) t (fun p=>p≤t.size∧t.size < n+p)):z4z 216 (zAN t (zAt t n)) t (fun p=>zCe (zAu t p)=true∧t.size < n+1+p):=by
 intro q pi p ps b c A hpi hP hps hA
 obtain⟨hb,hn⟩:=hP
 have hplt:=zGa hb
 subst hpi
 have hst:=zMY (op:=1) (lb:=zAu t p) (by unfold okI;omega)
 have hw:IntKind.i64.wrap ((p:Int)+1)=((p+1:Nat):Int):=by (rw[zAc oO oO];omega)
 refine CtR.introB zAh [.p 0 0] [⟨q,[.string t,.int .i64 (p:Int),.slice b ps.length c],220⟩] [A] func216 rfl rfl rfl rfl (by simp [SV.ok]) (by simp [Blk.ent]) fun E H hp=>?_
 refine zAr 0 ([]) [A,H] rfl ?_ (zEw _ _ _ _ _ rfl ?_ ?_) trivial ?_
 ·exact .refl _
 ·omega
 ·omega
 rintro _ A0 ⟨rfl,rfl⟩
 refine⟨_,_,[],rfl,zRO,?_⟩
 constructor<;>intro q1
 ·simp at q1
  refine zAr 0 (A) [H] rfl ?_ (hI _ _ (p+1) _ _ _ _ hw ⟨?_,?_⟩ ?_ hA) trivial ?_
  ·exact .refl _
  ·trivial
  ·omega
  ·omega
  rintro _ A2 ⟨pz,sz,bz,cz,Az,rfl,rfl,oz,hz⟩
  refine⟨_,_,[Az],rfl,zBO,?_⟩
  constructor<;>intro q3
  ·simp at q3
   exact⟨_,zVh (p':=pz) (zK4 ‹((zAu t p).toNat:Int)=40› ‹(zAt t n (p+1) ps)=none›) oz,rlB⟩
  simp at q3
  (obtain⟨e1,e2⟩:=hz q3;subst e1;subst e2;have hr:=zMW (n:=n) oO q3;unfold zEy at hr;have ok:okI (prK (zAt t n (p+1) ps)):=(by unfold okI;omega))
  refine zAr 0 ([]) [Az,H] rfl ?_ (zEw _ _ _ _ _ rfl ?_ ?_) trivial ?_
  ·exact .refl _
  ·omega
  ·omega
  rintro _ A4 ⟨rfl,rfl⟩
  refine⟨_,_,[],rfl,zRO,?_⟩
  constructor<;>intro q5
  ·simp at q5
   exact⟨_,zVh (p':=prP (zAt t n (p+1) ps)) (zK5 ‹((zAu t p).toNat:Int)=40› ‹(zAt t n (p+1) ps).isSome=true› ‹¬((zAu t (prP (zAt t n (p+1) ps))).toNat:Int)=41›) oz,rlB⟩
  simp at q5
  have hlt:prP (zAt t n (p+1) ps) < t.size:=zCF oO
  have hw2:IntKind.i64.wrap ((prP (zAt t n (p+1) ps):Int)+1)=((prP (zAt t n (p+1) ps)+1:Nat):Int):=by (rw[zAc oO oO];omega)
  have hit:=zTe ‹((zAu t p).toNat:Int)=40› ‹(zAt t n (p+1) ps).isSome=true› ‹((zAu t (prP (zAt t n (p+1) ps))).toNat:Int)=41›
  apply zAg (α:=(Nat)×(Int)×(Nat)×(List Piece)×(Hp)×(Option Addr)×(Nat)) zAh [8,44,45,48,47,50,49,52,51,46,2,3,53,54,55,56,57,58,59,60,61,62,63,64,65,5] (fun z=>[(5,.v (.int .i64 z.2.1)),(3,.v (.bool false)),(2,.v (.int .i64 0))]) (fun z=>[⟨q,[Value.string t,.int .i64 (z.2.2.1:Nat),.slice z.2.2.2.2.2.1 z.2.2.2.1.length z.2.2.2.2.2.2],220⟩]) (fun z=>[z.2.2.2.2.1,H]) (fun z=>t.size-z.2.2.1) (fun z=>some (zDh t z.1 z.2.1 z.2.2.1 z.2.2.2.1)=zAN t (zAt t n) p ps∧t.size < z.1+z.2.2.1∧z.2.2.1≤t.size∧z.2.2.2.1.length≤2 * z.2.2.1∧okI z.2.1∧(gSl 210 zBp).ow [.slice z.2.2.2.2.2.1 z.2.2.2.1.length z.2.2.2.2.2.2] z.2.2.2.1 z.2.2.2.2.1) ((t.size+1,prK (zAt t n (p+1) ps),prP (zAt t n (p+1) ps)+1,prS (zAt t n (p+1) ps),Az,bz,cz))
  ·exact frI
  ·((rw[hw2]);repeat' (first|exact trivial|refine⟨by first|rfl|simp [Blk.ent],?_⟩))
  ·try dsimp only
   exact⟨hit.symm,oO,oO,oO,ok,oz⟩
  ·exact .refl _
  rintro ⟨f,k,p2,ps2,A,lb,lc⟩ hI
  try dsimp only at hI
  obtain⟨hf,hfu,hp2,hps2,hk,oA⟩:=hI
  try dsimp only
  refine zAr 0 ([]) [A,H] rfl ?_ (zEw _ _ _ _ _ rfl ?_ ?_) trivial ?_
  ·exact .refl _
  ·omega
  ·trivial
  rintro _ A6 ⟨rfl,rfl⟩
  refine⟨_,_,[],rfl,zRO,?_⟩
  constructor<;>intro q7
  ·simp at q7
   (have hp2t:p2 < t.size:=zCF oO;have hw3:IntKind.i64.wrap ((p2:Int)+1)=((p2+1:Nat):Int):=(by rw[zAc oO oO];omega))
   refine⟨fun x8=>?_⟩
   refine zAr 0 (A++[(x8,Obj.cells { toList:=Value.int IntKind.i64 k::[].append (zAX (nat_lit 0) [Value.int IntKind.i64 (0:Int)]) } 3)]) [H] rfl ?_ (zDd _ _ _ _ _ _ _ _ _ _ oA (by first|exact zCr (by unfold okI;omega) hk) ?_) trivial ?_
   ·exact rlA
   ·omega
   rintro _ A9 ⟨b9,c9,Ax9,rfl,rfl,o9⟩
   refine⟨_,_,[Ax9],rfl,zBO,?_⟩
   apply zAb (f-1,((ps2.length:Nat):Int),p2+1,_,_,_,_)
   ·exact .refl _
   ·exact frI
   ·((rw[hw3]);repeat' (first|exact trivial|refine⟨by first|rfl|simp [Blk.ent],?_⟩))
   ·try dsimp only
    exact⟨(congrArg some (zD6 oO oO)).symm.trans hf,oO,oO,by rw[List.length_append,List.length_singleton];omega,by unfold okI;omega,aA⟩
   try dsimp only
   omega
  simp at q7
  constructor<;>intro q10
  ·simp at q10
   (have hp2t:p2 < t.size:=zCF oO;have hw3:IntKind.i64.wrap ((p2:Int)+1)=((p2+1:Nat):Int):=(by rw[zAc oO oO];omega))
   refine⟨fun x11=>?_⟩
   refine zAr 0 (A++[(x11,Obj.cells { toList:=Value.int IntKind.i64 k::[].append (zAX (nat_lit 0) [Value.int IntKind.i64 (0:Int)]) } 3)]) [H] rfl ?_ (zDd _ _ _ _ _ _ _ _ _ _ oA (by first|exact zCr (by unfold okI;omega) hk) ?_) trivial ?_
   ·exact rlA
   ·omega
   rintro _ A12 ⟨b12,c12,Ax12,rfl,rfl,o12⟩
   refine⟨_,_,[Ax12],rfl,zBO,?_⟩
   apply zAb (f-1,((ps2.length:Nat):Int),p2+1,_,_,_,_)
   ·exact .refl _
   ·exact frI
   ·((rw[hw3]);repeat' (first|exact trivial|refine⟨by first|rfl|simp [Blk.ent],?_⟩))
   ·try dsimp only
    exact⟨(congrArg some (zD6 oO oO)).symm.trans hf,oO,oO,by rw[List.length_append,List.length_singleton];omega,by unfold okI;omega,aA⟩
   try dsimp only
   omega
  simp at q10
  constructor<;>intro q13
  ·simp at q13
   (have hp2t:p2 < t.size:=zCF oO;have hw3:IntKind.i64.wrap ((p2:Int)+1)=((p2+1:Nat):Int):=(by rw[zAc oO oO];omega))
   refine⟨fun x14=>?_⟩
   refine zAr 0 (A++[(x14,Obj.cells { toList:=Value.int IntKind.i64 k::[].append (zAX (nat_lit 0) [Value.int IntKind.i64 (0:Int)]) } 3)]) [H] rfl ?_ (zDd _ _ _ _ _ _ _ _ _ _ oA (by first|exact zCr (by unfold okI;omega) hk) ?_) trivial ?_
   ·exact rlA
   ·omega
   rintro _ A15 ⟨b15,c15,Ax15,rfl,rfl,o15⟩
   refine⟨_,_,[Ax15],rfl,zBO,?_⟩
   apply zAb (f-1,((ps2.length:Nat):Int),p2+1,_,_,_,_)
   ·exact .refl _
   ·exact frI
   ·((rw[hw3]);repeat' (first|exact trivial|refine⟨by first|rfl|simp [Blk.ent],?_⟩))
   ·try dsimp only
    exact⟨(congrArg some (zD6 oO oO)).symm.trans hf,oO,oO,by rw[List.length_append,List.length_singleton];omega,by unfold okI;omega,aA⟩
   try dsimp only
   omega
  simp at q13
  exact⟨_,zTd (hf.symm.trans (congrArg some (zH8 ‹¬((zAu t p2).toNat:Int)=42› ‹¬((zAu t p2).toNat:Int)=43› ‹¬((zAu t p2).toNat:Int)=63›))) oA,rlB⟩
 simp at q1
 refine zAr 0 (A++[]) [H] rfl ?_ (zDd _ _ _ _ _ _ _ _ _ _ hA hst ?_) trivial ?_
 ·exact rlA
 ·omega
 rintro _ A16 ⟨b16,c16,Ax16,rfl,rfl,o16⟩
 refine⟨_,_,[Ax16],rfl,zBO,?_⟩
 apply zAg (α:=(Nat)×(Int)×(Nat)×(List Piece)×(Hp)×(Option Addr)×(Nat)) zAh [8,44,45,48,47,50,49,52,51,46,2,3,53,54,55,56,57,58,59,60,61,62,63,64,65,5] (fun z=>[(5,.v (.int .i64 z.2.1)),(3,.v (.bool false)),(2,.v (.int .i64 0))]) (fun z=>[⟨q,[Value.string t,.int .i64 (z.2.2.1:Nat),.slice z.2.2.2.2.2.1 z.2.2.2.1.length z.2.2.2.2.2.2],220⟩]) (fun z=>[z.2.2.2.2.1,H]) (fun z=>t.size-z.2.2.1) (fun z=>some (zDh t z.1 z.2.1 z.2.2.1 z.2.2.2.1)=zAN t (zAt t n) p ps∧t.size < z.1+z.2.2.1∧z.2.2.1≤t.size∧z.2.2.2.1.length≤2 * z.2.2.1∧okI z.2.1∧(gSl 210 zBp).ow [.slice z.2.2.2.2.2.1 z.2.2.2.1.length z.2.2.2.2.2.2] z.2.2.2.1 z.2.2.2.2.1) ((t.size+1,((ps.length:Nat):Int),p+1,ps++[⟨1,zAu t p,[]⟩],_,_,_))
 ·exact frI
 ·((rw[hw]);repeat' (first|exact trivial|refine⟨by first|rfl|simp [Blk.ent],?_⟩))
 ·try dsimp only
  exact⟨(zPL ‹¬((zAu t p).toNat:Int)=40›).symm,oO,oO,by rw[List.length_append,List.length_singleton];omega,by unfold okI;omega,aA⟩
 ·exact .refl _
 rintro ⟨f,k,p2,ps2,A,lb,lc⟩ hI
 try dsimp only at hI
 obtain⟨hf,hfu,hp2,hps2,hk,oA⟩:=hI
 try dsimp only
 refine zAr 0 ([]) [A,H] rfl ?_ (zEw _ _ _ _ _ rfl ?_ ?_) trivial ?_
 ·exact .refl _
 ·omega
 ·trivial
 rintro _ A17 ⟨rfl,rfl⟩
 refine⟨_,_,[],rfl,zRO,?_⟩
 constructor<;>intro q18
 ·simp at q18
  (have hp2t:p2 < t.size:=zCF oO;have hw3:IntKind.i64.wrap ((p2:Int)+1)=((p2+1:Nat):Int):=(by rw[zAc oO oO];omega))
  refine⟨fun x19=>?_⟩
  refine zAr 0 (A++[(x19,Obj.cells { toList:=Value.int IntKind.i64 k::[].append (zAX (nat_lit 0) [Value.int IntKind.i64 (0:Int)]) } 3)]) [H] rfl ?_ (zDd _ _ _ _ _ _ _ _ _ _ oA (by first|exact zCr (by unfold okI;omega) hk) ?_) trivial ?_
  ·exact rlA
  ·omega
  rintro _ A20 ⟨b20,c20,Ax20,rfl,rfl,o20⟩
  refine⟨_,_,[Ax20],rfl,zBO,?_⟩
  apply zAb (f-1,((ps2.length:Nat):Int),p2+1,_,_,_,_)
  ·exact .refl _
  ·exact frI
  ·((rw[hw3]);repeat' (first|exact trivial|refine⟨by first|rfl|simp [Blk.ent],?_⟩))
  ·try dsimp only
   exact⟨(congrArg some (zD6 oO oO)).symm.trans hf,oO,oO,by rw[List.length_append,List.length_singleton];omega,by unfold okI;omega,aA⟩
  try dsimp only
  omega
 simp at q18
 constructor<;>intro q21
 ·simp at q21
  (have hp2t:p2 < t.size:=zCF oO;have hw3:IntKind.i64.wrap ((p2:Int)+1)=((p2+1:Nat):Int):=(by rw[zAc oO oO];omega))
  refine⟨fun x22=>?_⟩
  refine zAr 0 (A++[(x22,Obj.cells { toList:=Value.int IntKind.i64 k::[].append (zAX (nat_lit 0) [Value.int IntKind.i64 (0:Int)]) } 3)]) [H] rfl ?_ (zDd _ _ _ _ _ _ _ _ _ _ oA (by first|exact zCr (by unfold okI;omega) hk) ?_) trivial ?_
  ·exact rlA
  ·omega
  rintro _ A23 ⟨b23,c23,Ax23,rfl,rfl,o23⟩
  refine⟨_,_,[Ax23],rfl,zBO,?_⟩
  apply zAb (f-1,((ps2.length:Nat):Int),p2+1,_,_,_,_)
  ·exact .refl _
  ·exact frI
  ·((rw[hw3]);repeat' (first|exact trivial|refine⟨by first|rfl|simp [Blk.ent],?_⟩))
  ·try dsimp only
   exact⟨(congrArg some (zD6 oO oO)).symm.trans hf,oO,oO,by rw[List.length_append,List.length_singleton];omega,by unfold okI;omega,aA⟩
  try dsimp only
  omega
 simp at q21
 constructor<;>intro q24
 ·simp at q24
  (have hp2t:p2 < t.size:=zCF oO;have hw3:IntKind.i64.wrap ((p2:Int)+1)=((p2+1:Nat):Int):=(by rw[zAc oO oO];omega))
  refine⟨fun x25=>?_⟩
  refine zAr 0 (A++[(x25,Obj.cells { toList:=Value.int IntKind.i64 k::[].append (zAX (nat_lit 0) [Value.int IntKind.i64 (0:Int)]) } 3)]) [H] rfl ?_ (zDd _ _ _ _ _ _ _ _ _ _ oA (by first|exact zCr (by unfold okI;omega) hk) ?_) trivial ?_
  ·exact rlA
  ·omega
  rintro _ A26 ⟨b26,c26,Ax26,rfl,rfl,o26⟩
  refine⟨_,_,[Ax26],rfl,zBO,?_⟩
  apply zAb (f-1,((ps2.length:Nat):Int),p2+1,_,_,_,_)
  ·exact .refl _
  ·exact frI
  ·((rw[hw3]);repeat' (first|exact trivial|refine⟨by first|rfl|simp [Blk.ent],?_⟩))
  ·try dsimp only
   exact⟨(congrArg some (zD6 oO oO)).symm.trans hf,oO,oO,by rw[List.length_append,List.length_singleton];omega,by unfold okI;omega,aA⟩
  try dsimp only
  omega
 simp at q24
 exact⟨_,zTd (hf.symm.trans (congrArg some (zH8 ‹¬((zAu t p2).toNat:Int)=42› ‹¬((zAu t p2).toNat:Int)=43› ‹¬((zAu t p2).toNat:Int)=63›))) oA,rlB⟩
theorem z3f (t:ByteArray) (ht:t.size≤20):∀ n,z4z 171 (zAt t n) t (fun p=>p≤t.size∧t.size < n+p)
 | 0=>by
  intro q pi p ps b c A _ hP
  have:=hP.1;have:=hP.2;omega
 | n+1=>by
  have h:=zW7 t n ht (z06 t n ht (zW8 t n ht (z3f t ht n)))
  rw[show (fun p=>p≤t.size∧t.size < n+1+p)=(fun p=>p≤t.size∧t.size < (n+1)+p) from rfl] at h
  exact h
def zBd (t:ByteArray):Path:=(zBG t).getD ⟨[]⟩
theorem zER {t:ByteArray} (h:zBG t=none):zBd t=⟨[]⟩∧(zBG t).isSome=false:=by unfold zBd;rw[h];exact⟨rfl,rfl⟩
theorem zTf {t:ByteArray} {g:Path} (h:zBG t=some g):zBd t=g∧(zBG t).isSome=true:=by unfold zBd;rw[h];exact⟨rfl,rfl⟩
theorem zTg {t:ByteArray} (h:¬t.size≤20):zBG t=none:=by unfold zBG;rw[if_neg h]
theorem z3g {t:ByteArray} (h:zAt t (t.size+1) 0 []=none):zBG t=none:=by unfold zBG;rw[h];simp
theorem zK6 {t:ByteArray} (h0:t.size≤20) (h:(zAt t (t.size+1) 0 []).isSome=true):zBG t=if prP (zAt t (t.size+1) 0 [])=t.size∧zAV ⟨prS (zAt t (t.size+1) 0 [])⟩=true then some ⟨prS (zAt t (t.size+1) 0 [])⟩ else none:=by
 have h3:=zFA h
 conv=>lhs;unfold zBG;rw[if_pos h0,h3]
theorem zEz (t:ByteArray) (hs:t.size≤1152921504606846976):Ct prog 134 [.string t] [] (fun _=>True) (fun v A=>∃ b c,v = .tuple #[.agg ⟨[.slice b (zBd t).pieces.length c]⟩,.bool (zBG t).isSome]∧(gSl 210 zBp).ow [.slice b (zBd t).pieces.length c] (zBd t).pieces A):=by
 refine Ct.intro0 zAh func134 rfl rfl rfl fun E H hp=>?_
 refine⟨fun x0=>?_⟩
 constructor<;>intro q1
 ·simp at q1
  (obtain⟨e1,e2⟩:=zER (zTg (t:=t) oO);rw[e1,e2];exact⟨_,⟨none,0,rfl,zAm _ _ _⟩,rlB⟩)
 simp at q1
 refine⟨fun x2=>?_⟩
 refine zAr 1 ([]) [H] rfl ?_ (z3f t ?_ (t.size+1) _ _ 0 [] _ _ _ rfl ⟨?_,?_⟩ ?_ (zAm _ _ _)) trivial ?_
 ·exact .refl _
 ·omega
 ·omega
 ·omega
 ·trivial
 rintro _ A3 ⟨pz,sz,bz,cz,Az,rfl,rfl,oz,hz⟩
 refine⟨_,_,[Az],rfl,zBO,?_⟩
 constructor<;>intro q4
 ·simp at q4
  (obtain⟨e1,e2⟩:=zER (z3g ‹(zAt t (t.size+1) 0 [])=none›);rw[e1,e2];exact⟨[],⟨none,0,rfl,zAm _ _ _⟩,.mem sI⟩)
 simp at q4
 (obtain⟨e1,e2⟩:=hz q4;subst e1;subst e2)
 constructor<;>intro q5
 ·simp at q5
  (obtain⟨e1,e2⟩:=zER ((zK6 oO ‹(zAt t (t.size+1) 0 []).isSome=true›).trans (if_neg oO));rw[e1,e2];exact⟨[],⟨none,0,rfl,zAm _ _ _⟩,.mem sI⟩)
 simp at q5
 have rP:zH4.rd Az [.slice bz (prS (zAt t (t.size+1) 0 [])).length cz] ⟨prS (zAt t (t.size+1) 0 [])⟩:=zBM.2 ⟨bz,cz,rfl,Gt.owrd _ oz⟩
 refine zAe (zFz _ ({ pieces:=prS (zAt t (t.size+(1:Nat)) 0 []) })) (Rp.mono _ (zAa 0 rfl) rP) ?_
 rintro _ rfl
 constructor<;>intro q7
 ·simp at q7
  (obtain⟨e1,e2⟩:=zER ((zK6 oO ‹(zAt t (t.size+1) 0 []).isSome=true›).trans (if_neg (fun h=>by (have h9:=‹zAV ⟨prS (zAt t (t.size+1) 0 [])⟩=false›;rw[h.2] at h9;cases h9))));rw[e1,e2];exact⟨[],⟨none,0,rfl,zAm _ _ _⟩,.mem sI⟩)
 simp at q7
 (obtain⟨e1,e2⟩:=zTf ((zK6 oO ‹(zAt t (t.size+1) 0 []).isSome=true›).trans (if_pos ⟨oO,‹zAV ⟨prS (zAt t (t.size+1) 0 [])⟩=true›⟩));rw[e1,e2];exact⟨_,⟨_,_,rfl,oz⟩,rlB⟩)
end
section
attribute [local irreducible] IntKind.wrap
theorem zCz (q:Nat) (v0 v1 v2:Value) (b:Option Addr) (c:Nat) (l:List Value) (ps:List Piece) (x:Piece) (A B:Hp) (hA:(gSl 210 zBp).ow [.slice b ps.length c] ps A) (hB:zBp.ow l x B) (hn:ps.length≤1000000) :
  CtR prog 186 [.pointer (some ⟨q,0,none⟩),.agg ⟨l⟩] ((q,Obj.cells ⟨[v0,v1,v2,.slice b ps.length c]⟩ 203)::(A++B)) (fun _=>True)
   (fun r D=>∃ b c A',r = .int .i64 (ps.length:Nat)∧D=(q,Obj.cells ⟨[v0,v1,v2,.slice b (ps++[x]).length c]⟩ 203)::A'∧(gSl 210 zBp).ow [.slice b (ps++[x]).length c] (ps++[x]) A'):=by
 refine CtR.introB zAh [.p 0 0,.v (.agg ⟨l⟩)] [⟨q,[v0,v1,v2,.slice b ps.length c],203⟩] [A,B] func186 rfl rfl rfl rfl (by simp [SV.ok]) (by simp [Blk.ent]) fun E H hp=>?_
 have hr:=Gt.owrd _ hB
 obtain⟨b2x,c2x,rfl,w0x,h2x⟩:=zCX.1 hr
 refine⟨fun x0=>?_⟩
 refine zBr zAh zAK (some 7) (.q 0 (.q 1 (.q 2 (.q 3 (.q 4 (.q 5 (.f 6 (.tl 7 (.f 8 (.f 9 (.f 10 (.nil)))))))))))) (by decide +kernel) ?_
 refine⟨fun x1=>?_⟩
 refine VC.intro ?_ ?_
 ·exact zAA
 refine zAC (g:=zBp) (T:=210) zAh A _ [H] ?_ hA (hB) (List.mem_of_getElem? (i:=0) rfl) rfl rfl rfl rfl rfl rfl rfl rfl ?_ fun b2 c2 A2 o2=>?_
 ·exact .tl
 ·omega
 exact⟨_,⟨_,_,_,by (simp (disch:=(simp only[List.length_append,List.length_singleton];omega)) only[zAc];simp),rfl,aA⟩,rlB⟩
def zB4 (S:UInt8→Bool) (t:ByteArray) (R:Option PR):Bool:=R.isSome && (S (zAu t (prP R)) || decide (t.size≤prP R))
def zV1 (_:UInt8):Bool:=true
def zGd (b:UInt8):Bool:=decide (b.toNat=124) || decide (b.toNat=41)
def zFh (b:UInt8):Bool:=decide (b.toNat=41)
def zDp (t:ByteArray) (E:Nat→List Piece→Option PR) (p:Nat) (ps:List Piece):Option PR:=if zCe (zAu t p)=true then zAN t E p ps else none
def zW9 (q:Nat) (t:ByteArray) (p:Nat) (ps:List Piece) (good:Bool) (R:Option PR) (v:Value) (D:Hp):Prop:=
 ∃ (k':Int) (p':Nat) (ps':List Piece) (bd:Bool) (b:Option Addr) (c:Nat) (A':Hp),v = .int .i64 k'∧D=(q,Obj.cells ⟨[.string t,.int .i64 (p':Nat),.bool bd,.slice b ps'.length c]⟩ 203)::A'∧(gSl 210 zBp).ow [.slice b ps'.length c] ps' A'∧bd=!good∧(good=true→k'=prK R∧p'=prP R∧ps'=prS R)∧okI k'∧p'≤t.size∧p≤p'∧ps'.length+2 * p≤ps.length+2 * p'
def z4A (f:FuncId) (S:UInt8→Bool) (F:Nat→List Piece→Option PR) (t:ByteArray) (P:Nat→Prop):Prop:=
 ∀ (q:Nat) (pi:Int) (p:Nat) (ps:List Piece) (b:Option Addr) (c:Nat) (A:Hp),pi=p→P p→ps.length≤2 * p→(gSl 210 zBp).ow [.slice b ps.length c] ps A →
  CtR prog f [.pointer (some ⟨q,0,none⟩)] ((q,Obj.cells ⟨[.string t,.int .i64 pi,.bool false,.slice b ps.length c]⟩ 203)::A) (fun _=>True) (zW9 q t p ps (zB4 S t (F p ps)) (F p ps))
theorem zMp {q:Nat} {t:ByteArray} {p:Nat} {ps:List Piece} {good:Bool} {R:Option PR} {k:Int} {p':Nat} {ps':List Piece} {b:Option Addr} {c:Nat} {A':Hp} (hg:good=false) (h:(gSl 210 zBp).ow [.slice b ps'.length c] ps' A') (hk:okI k) (h1:p'≤t.size) (h2:p≤p') (h3:ps'.length+2 * p≤ps.length+2 * p'):zW9 q t p ps good R (.int .i64 k) ((q,Obj.cells ⟨[.string t,.int .i64 (p':Nat),.bool true,.slice b ps'.length c]⟩ 203)::A'):=by
 subst hg
 exact⟨k,p',ps',true,b,c,A',rfl,rfl,h,rfl,(fun h=>by cases h),hk,h1,h2,h3⟩
theorem zES {q:Nat} {t:ByteArray} {p:Nat} {ps:List Piece} {good:Bool} {R:Option PR} {k:Int} {p':Nat} {ps':List Piece} {b:Option Addr} {c:Nat} {A':Hp} (hg:good=true) (hR:R=some (k,p',ps')) (h:(gSl 210 zBp).ow [.slice b ps'.length c] ps' A') (hk:okI k) (h1:p'≤t.size) (h2:p≤p') (h3:ps'.length+2 * p≤ps.length+2 * p'):zW9 q t p ps good R (.int .i64 k) ((q,Obj.cells ⟨[.string t,.int .i64 (p':Nat),.bool false,.slice b ps'.length c]⟩ 203)::A'):=by
 subst hg hR
 exact⟨k,p',ps',false,b,c,A',rfl,rfl,h,rfl,fun _=>⟨rfl,rfl,rfl⟩,hk,h1,h2,h3⟩
theorem zJ6 {t:ByteArray} {E:Nat→List Piece→Option PR} {p:Nat} {ps:List Piece}:zB4 zV1 t (zDp t E p ps)=(zDp t E p ps).isSome:=by unfold zB4 zV1;simp
theorem zH9 {S:UInt8→Bool} {t:ByteArray} {R:Option PR} (h:R=none):zB4 S t R=false:=by subst h;rfl
theorem zGe {S:UInt8→Bool} {t:ByteArray} {R:Option PR} {r:PR} (h:R=some r):zB4 S t R=(S (zAu t r.2.1) || decide (t.size≤r.2.1)):=by subst h;rfl
theorem zEA {S:UInt8→Bool} {t:ByteArray} {R:Option PR} (h:zB4 S t R=true):R.isSome=true:=by unfold zB4 at h;rw[Bool.and_eq_true] at h;exact h.1
theorem zIU {t:ByteArray} {E:Nat→List Piece→Option PR} {p:Nat} {ps:List Piece} (h:(zDp t E p ps).isSome=true):zCe (zAu t p)=true∧zDp t E p ps=zAN t E p ps:=by
 unfold zDp at h ⊢
 by_cases hb:zCe (zAu t p)=true
 ·rw[if_pos hb];exact⟨hb,rfl⟩
 rw[if_neg hb] at h;cases h
theorem zXa {t:ByteArray} {E:Nat→List Piece→Option PR} {p:Nat} {ps:List Piece} (h:zDp t E p ps=none):zCe (zAu t p)=false∨zAN t E p ps=none:=by
 unfold zDp at h
 by_cases hb:zCe (zAu t p)=true
 ·rw[if_pos hb] at h;exact .inr h
 exact .inl (by simpa using hb)
theorem zXb {t:ByteArray} {n p:Nat} {ps:List Piece} (h:(zDp t (zAt t n) p ps).isSome=true):zDi t (zAN t (zAt t n)) t.size [prK (zDp t (zAt t n) p ps)] (prP (zDp t (zAt t n) p ps)) (prS (zDp t (zAt t n) p ps))=zDi t (zAN t (zAt t n)) (t.size+1) [] p ps:=by
 obtain⟨h1,h2⟩:=zIU h
 rw[h2] at h ⊢
 exact (zJ5 (f:=t.size+1) (ks:=[]) oO h1 h).symm
theorem z07 {t:ByteArray} {n f p:Nat} {ks:List Int} {ps:List Piece} (hf:1≤f) (h:(zDp t (zAt t n) p ps).isSome=true):zDi t (zAN t (zAt t n)) (f-1) (ks++[prK (zDp t (zAt t n) p ps)]) (prP (zDp t (zAt t n) p ps)) (prS (zDp t (zAt t n) p ps))=zDi t (zAN t (zAt t n)) f ks p ps:=by
 obtain⟨h1,h2⟩:=zIU h
 rw[h2] at h ⊢
 exact (zJ5 hf h1 h).symm
theorem z4B {t:ByteArray} {n f p p0:Nat} {ks:List Int} {ps ps0:List Piece} (hf:1≤f) (h:zDp t (zAt t n) p ps=none) (hp:p < t.size) (hs:zGd (zAu t p)=false) (he:zDi t (zAN t (zAt t n)) f ks p ps=zDi t (zAN t (zAt t n)) (t.size+1) [] p0 ps0):zB4 zGd t (zCG t (zAN t (zAt t n)) p0 ps0)=false:=by
 by_cases hb:zCe (zAu t p)=true
 ·have h1:zAN t (zAt t n) p ps=none:=by
   rcases zXa h with h2|h2
   ·rw[hb] at h2;cases h2
   exact h2
  refine zH9 ?_
  unfold zCG
  rw[←he,zGH hf hb h1];rfl
 have h1:zCG t (zAN t (zAt t n)) p0 ps0=zMT (some (ks,p,ps)):=by unfold zCG;rw[←he,zFf (by simpa using hb)]
 by_cases hk:ks=[]
 ·rw[h1,zGI hk];rfl
 rw[h1,zHB hk,zGe rfl]
 show (zGd (zAu t p) || decide (t.size≤p))=false
 rw[hs,decide_eq_false oO];rfl
theorem z08 {t:ByteArray} {n p:Nat} {ps:List Piece} (h:zDp t (zAt t n) p ps=none):zB4 zGd t (zCG t (zAN t (zAt t n)) p ps)=false:=by
 refine zH9 ?_
 unfold zCG
 rcases zXa h with h1|h1
 ·rw[zFf h1];exact zGI rfl
 by_cases hb:zCe (zAu t p)=true
 ·rw[zGH oO hb h1];rfl
 rw[zFf (by simpa using hb)];exact zGI rfl
theorem z4C {t:ByteArray} {n f p p0:Nat} {ks:List Int} {ps ps0:List Piece} (hk:¬ks=[]) (hs:t.size≤p∨zGd (zAu t p)=true) (he:zDi t (zAN t (zAt t n)) f ks p ps=zDi t (zAN t (zAt t n)) (t.size+1) [] p0 ps0):zCG t (zAN t (zAt t n)) p0 ps0=some ((zBx 2 (ks,p,ps)).1,p,(zBx 2 (ks,p,ps)).2.2)∧zB4 zGd t (zCG t (zAN t (zAt t n)) p0 ps0)=true:=by
 have hb:zCe (zAu t p)=false:=by
  rcases hs with h|h
  ·rw[zCt h];rfl
  unfold zGd at h
  unfold zCe zBb
  simp at h
  rcases h with h|h<;>rw[h]<;>rfl
 have h1:zCG t (zAN t (zAt t n)) p0 ps0=some ((zBx 2 (ks,p,ps)).1,p,(zBx 2 (ks,p,ps)).2.2):=by
  unfold zCG;rw[←he,zFf hb];exact zHB hk
 refine⟨h1,?_⟩
 rw[h1,zGe rfl]
 show (zGd (zAu t p) || decide (t.size≤p))=true
 rcases hs with h|h
 ·rw[decide_eq_true h];simp
 rw[h];rfl
def zPM (t:ByteArray) (A:Nat→List Piece→Option PR) (f:Nat) (ks:List Int) (p:Nat) (ps:List Piece):Option PR:=
 if (zAu t p).toNat=124 then zBQ t A f ks (p+1) ps else some (zBx 3 (ks,p,ps))
theorem zK7 {t:ByteArray} {A:Nat→List Piece→Option PR} {f:Nat} {ks:List Int} {p:Nat} {ps:List Piece} (hf:1≤f) (h:(A p ps).isSome=true):zBQ t A f ks p ps=zPM t A (f-1) (ks++[prK (A p ps)]) (prP (A p ps)) (prS (A p ps)):=by
 unfold zPM
 by_cases hb:(zAu t (prP (A p ps))).toNat=124
 ·rw[if_pos hb];exact zMX hf (zFA h) hb
 rw[if_neg hb];exact zHC hf (zFA h) hb
theorem zTh {t:ByteArray} {A:Nat→List Piece→Option PR} {f:Nat} {ks:List Int} {p:Nat} {ps:List Piece} (h:zB4 zGd t (A p ps)=false):zB4 zFh t (zBQ t A f ks p ps)=false:=by
 cases hA:A p ps with
 | none=>exact zH9 (zK3 hA)
 | some r=>
  rw[zGe hA] at h
  unfold zGd at h
  rw[Bool.or_eq_false_iff,Bool.or_eq_false_iff,decide_eq_false_iff_not,decide_eq_false_iff_not,decide_eq_false_iff_not] at h
  cases f with
  | zero=>rfl
  | succ f=>
   rw[zHC oO hA h.1.1]
   rw[zGe rfl]
   show (zFh (zAu t (zBx 3 (ks++[r.1],r.2.1,r.2.2)).2.1) || decide (t.size≤(zBx 3 (ks++[r.1],r.2.1,r.2.2)).2.1))=false
   rw[zGG]
   show (zFh (zAu t r.2.1) || decide (t.size≤r.2.1))=false
   unfold zFh
   rw[decide_eq_false h.1.2,decide_eq_false h.2];rfl
theorem z09 {t:ByteArray} {A:Nat→List Piece→Option PR} {f:Nat} {ks:List Int} {p:Nat} {ps:List Piece} (hb:¬(zAu t p).toNat=124) (hs:t.size≤p∨zGd (zAu t p)=true):zPM t A f ks p ps=some ((zBx 3 (ks,p,ps)).1,p,(zBx 3 (ks,p,ps)).2.2)∧zB4 zFh t (zPM t A f ks p ps)=true:=by
 have h1:zPM t A f ks p ps=some ((zBx 3 (ks,p,ps)).1,p,(zBx 3 (ks,p,ps)).2.2):=by
  unfold zPM;rw[if_neg hb,←zGG]
 refine⟨h1,?_⟩
 rw[h1,zGe rfl]
 show (zFh (zAu t p) || decide (t.size≤p))=true
 rcases hs with h|h
 ·rw[decide_eq_true h];simp
 unfold zGd at h
 rw[decide_eq_false hb,Bool.false_or] at h
 unfold zFh;rw[h];rfl
theorem zPN {t:ByteArray} {R:Option PR} (h:zB4 zGd t R=true):t.size≤prP R∨zGd (zAu t (prP R))=true:=by
 unfold zB4 at h
 rw[Bool.and_eq_true,Bool.or_eq_true,decide_eq_true_iff] at h
 rcases h.2 with h1|h1
 ·exact .inr h1
 exact .inl h1
attribute [local irreducible] zAN zAt zCG zDi zBQ zDh zDp prK prP prS zB4 zGd zFh
theorem zGJ {b:UInt8} (h:((b.toNat:Nat):Int)=124):zGd b=true:=by unfold zGd;rw[decide_eq_true (show b.toNat=124 from oO)];rfl
theorem zIV {b:UInt8} (h:((b.toNat:Nat):Int)=41):zGd b=true:=by unfold zGd;rw[decide_eq_true (show b.toNat=41 from oO)];simp
theorem z4D {b:UInt8} (h:¬((b.toNat:Nat):Int)=124) (h2:¬((b.toNat:Nat):Int)=41):zGd b=false:=by unfold zGd;rw[decide_eq_false (show ¬b.toNat=124 from oO),decide_eq_false (show ¬b.toNat=41 from oO)];rfl
theorem zK8 {t:ByteArray} {n p:Nat} {ps:List Piece} (h:(zDp t (zAt t n) p ps).isSome=true):zEy t p ps (zDp t (zAt t n) p ps):=by
 obtain⟨h1,h2⟩:=zIU h
 rw[h2] at h ⊢
 exact zIT (zGa h1) h
def zJt (t:ByteArray) (n p:Nat) (ps:List Piece) (bd:Bool) (f:Nat) (ks:List Int) (p2:Nat) (ps2:List Piece):Prop:=
 (bd=false→zDi t (zAN t (zAt t n)) f ks p2 ps2=zDi t (zAN t (zAt t n)) (t.size+1) [] p ps∧t.size < f+p2∧ps2.length+ks.length+2 * p≤ps.length+2 * p2)∧(bd=true→zB4 zGd t (zCG t (zAN t (zAt t n)) p ps)=false)
theorem z1a {t:ByteArray} {n p pz:Nat} {ps sz:List Piece} {bdz:Bool} {kz:Int} (hgz:bdz=!(zB4 zV1 t (zDp t (zAt t n) p ps))) (hz:zB4 zV1 t (zDp t (zAt t n) p ps)=true→kz=prK (zDp t (zAt t n) p ps)∧pz=prP (zDp t (zAt t n) p ps)∧sz=prS (zDp t (zAt t n) p ps)):zJt t n p ps bdz t.size [kz] pz sz:=by
 rw[zJ6] at hgz hz
 constructor
 ·intro h
  rw[h] at hgz
  have h1:(zDp t (zAt t n) p ps).isSome=true:=by simpa using hgz
  obtain⟨rfl,rfl,rfl⟩:=hz h1
  have h2:=zK8 h1
  unfold zEy at h2
  exact⟨zXb h1,oO,by simp only[List.length_singleton];omega⟩
 intro h
 rw[h] at hgz
 have h1:(zDp t (zAt t n) p ps).isSome=false:=by simpa using hgz
 exact z08 (zOi h1)
theorem z1b {t:ByteArray} {n p f p2 pz:Nat} {ks:List Int} {ps ps2 sz:List Piece} {bdz:Bool} {kz:Int} (hI:zJt t n p ps false f ks p2 ps2) (hp2:p2 < t.size) (hs:zGd (zAu t p2)=false) (hgz:bdz=!(zB4 zV1 t (zDp t (zAt t n) p2 ps2))) (hz:zB4 zV1 t (zDp t (zAt t n) p2 ps2)=true→kz=prK (zDp t (zAt t n) p2 ps2)∧pz=prP (zDp t (zAt t n) p2 ps2)∧sz=prS (zDp t (zAt t n) p2 ps2)):zJt t n p ps bdz (f-1) (ks++[kz]) pz sz:=by
 obtain⟨he,hf,hl⟩:=hI.1 rfl
 rw[zJ6] at hgz hz
 constructor
 ·intro h
  rw[h] at hgz
  have h1:(zDp t (zAt t n) p2 ps2).isSome=true:=by simpa using hgz
  obtain⟨rfl,rfl,rfl⟩:=hz h1
  have h2:=zK8 h1
  unfold zEy at h2
  exact⟨(z07 oO h1).trans he,oO,by rw[List.length_append,List.length_singleton];omega⟩
 intro h
 rw[h] at hgz
 have h1:(zDp t (zAt t n) p2 ps2).isSome=false:=by simpa using hgz
 exact z4B oO (zOi h1) hp2 hs he
theorem z8g {ks:List Int} (h:1≤ks.length):¬ks=[]:=by intro e;rw[e] at h;simp at h
theorem zGK {t:ByteArray} {n p f p2:Nat} {ks:List Int} {ps ps2:List Piece} (hk:1≤ks.length) (hI:zJt t n p ps false f ks p2 ps2) (hs:t.size≤p2∨zGd (zAu t p2)=true):zCG t (zAN t (zAt t n)) p ps=some ((zBx 2 (ks,p2,ps2)).1,p2,(zBx 2 (ks,p2,ps2)).2.2)∧zB4 zGd t (zCG t (zAN t (zAt t n)) p ps)=true:=
 z4C (z8g hk) hs (hI.1 rfl).1
theorem zDB {t:ByteArray} {n p f p2:Nat} {ks:List Int} {ps ps2:List Piece} (hI:zJt t n p ps false f ks p2 ps2):ps2.length+ks.length+2 * p≤ps.length+2 * p2:=(hI.1 rfl).2.2
theorem zMZ {t:ByteArray} {n p f p2:Nat} {ks:List Int} {ps ps2:List Piece} (hI:zJt t n p ps true f ks p2 ps2):zB4 zGd t (zCG t (zAN t (zAt t n)) p ps)=false:=hI.2 rfl
theorem z4E {t:ByteArray} {n p2 pz:Nat} {ps2 sz:List Piece} {bdz:Bool} {kz:Int} (hp2:p2 < t.size) (hq:p2≤pz) (hgz:bdz=!(zB4 zV1 t (zDp t (zAt t n) p2 ps2))) (hz:zB4 zV1 t (zDp t (zAt t n) p2 ps2)=true→kz=prK (zDp t (zAt t n) p2 ps2)∧pz=prP (zDp t (zAt t n) p2 ps2)∧sz=prS (zDp t (zAt t n) p2 ps2)):(t.size-pz+(if bdz=true then 0 else 1)) < t.size-p2+(if false=true then 0 else 1):=by
 rw[zJ6] at hgz hz
 cases bdz with
 | true=>simp;omega
 | false=>
  have h1:(zDp t (zAt t n) p2 ps2).isSome=true:=by simpa using hgz
  obtain⟨rfl,rfl,rfl⟩:=hz h1
  have h2:=zK8 h1
  unfold zEy at h2
  simp;omega
attribute [local irreducible] zJt
theorem z1c (t:ByteArray) (n:Nat) (ht:t.size≤20) (hI:z4A 206 zV1 (zDp t (zAt t n)) t (fun p=>p≤t.size∧t.size < n+1+p)):z4A 185 zGd (zCG t (zAN t (zAt t n))) t (fun p=>p≤t.size∧t.size < n+1+p):=by
 intro q pi p ps b c A hpi hP hps hA
 obtain⟨hpt,hn⟩:=hP
 subst hpi
 refine CtR.introB zAh [.p 0 0] [⟨q,[.string t,.int .i64 (p:Int),.bool false,.slice b ps.length c],203⟩] [A] func185 rfl rfl rfl rfl (by simp [SV.ok]) (by simp [Blk.ent]) fun E H hp=>?_
 refine zAr 0 (A) [H] rfl ?_ (hI _ _ _ _ _ _ _ rfl ⟨?_,?_⟩ ?_ hA) trivial ?_
 ·exact .refl _
 ·trivial
 ·trivial
 ·trivial
 rintro _ A0 ⟨kz,pz,sz,bdz,bz,cz,Az,rfl,rfl,oz,hgz,hz,hkz,hpz,hqz,hsz⟩
 refine⟨_,_,[Az],rfl,zBO,?_⟩
 refine⟨fun x1=>?_⟩
 apply zAg (α:=(Bool)×(Nat)×(List Int)×(Nat)×(List Piece)×(Hp)×(Option Addr)×(Nat)×(Hp)×(Option Addr)×(Nat)) zAh [7,8,9,10,11,12,13,14,15,16,17,18,19,20,21,22,23,24,25,26,27,28,29,30,31,32,33,34,35,36,37,38,39,40,41,42,43,44,45,46,47,48,49,50,51,52,3] (fun z=>[(3,.v (.slice z.2.2.2.2.2.2.2.2.2.1 z.2.2.1.length z.2.2.2.2.2.2.2.2.2.2))]) (fun z=>[⟨q,[Value.string t,.int .i64 (z.2.2.2.1:Nat),.bool z.1,.slice z.2.2.2.2.2.2.1 z.2.2.2.2.1.length z.2.2.2.2.2.2.2.1],203⟩]) (fun z=>[z.2.2.2.2.2.2.2.2.1,z.2.2.2.2.2.1,H]) (fun z=>t.size-z.2.2.2.1+(if z.1=true then 0 else 1)) (fun z=>zJt t n p ps z.1 z.2.1 z.2.2.1 z.2.2.2.1 z.2.2.2.2.1∧1≤z.2.2.1.length∧z.2.2.2.2.1.length+z.2.2.1.length+2 * p≤ps.length+2 * z.2.2.2.1+1∧z.2.2.2.1≤t.size∧p≤z.2.2.2.1∧(gSl 210 zBp).ow [.slice z.2.2.2.2.2.2.1 z.2.2.2.2.1.length z.2.2.2.2.2.2.2.1] z.2.2.2.2.1 z.2.2.2.2.2.1∧(gSl 3 gI).ow [.slice z.2.2.2.2.2.2.2.2.2.1 z.2.2.1.length z.2.2.2.2.2.2.2.2.2.2] z.2.2.1 z.2.2.2.2.2.2.2.2.1∧zBp.ow [.int .i64 2,.int .u8 0,.slice z.2.2.2.2.2.2.2.2.2.1 z.2.2.1.length z.2.2.2.2.2.2.2.2.2.2] ⟨2,0,z.2.2.1⟩ z.2.2.2.2.2.2.2.2.1) ((bdz,t.size,[kz],pz,sz,Az,bz,cz,[(x1,Obj.cells ⟨[.int .i64 kz]⟩ 3)],some ⟨x1,0,none⟩,1))
 ·exact frI
 ·exact⟨rfl,trivial⟩
 ·try dsimp only
  (have oL:=zN3 (mk:=fun k=>k) (sz:=fun _=>0) (Ow.lit (f:=zAs) (T:=3) (b:=x1) (xs:=[kz]) (by simpa [zAs] using hkz) sI);exact⟨z1a hgz hz,by simp,by simp only[List.length_singleton];omega,hpz,hqz,oz,oL,zEx (lb:=0) (by unfold okI;omega) oL⟩)
 ·exact .refl _
 rintro ⟨bd,f,ks,p2,ps2,A,lb,lc,K,kb,kc⟩ hI
 try dsimp only at hI
 obtain⟨hRI,hk1,hl2,hp2,hpp,oA,oK,oP⟩:=hI
 try dsimp only
 refine zBr zAh zAK none (.q 0 (.q 1 (.q 2 (.q 3 (.q 4 (.q 5 (.q 6 (.q 7 (.q 8 (.q 9 (.q 10 (.q 11 (.q 12 (.q 13 (.q 14 (.q 15 (.q 16 (.q 17 (.q 18 (.q 19 (.q 20 (.q 21 (.q 22 (.q 23 (.q 24 (.q 25 (.q 26 (.q 27 (.q 28 (.q 29 (.q 30 (.q 31 (.q 32 (.q 33 (.q 34 (.q 35 (.q 36 (.q 37 (.q 38 (.q 39 (.q 40 (.nil)))))))))))))))))))))))))))))))))))))))))) (by decide +kernel) ?_
 constructor<;>intro q2
 ·simp at q2
  (obtain rfl:bd=false:=q2)
  constructor<;>intro q3
  ·simp at q3
   refine VC.intro ?_ ?_
   ·omega
   constructor<;>intro q4
   ·simp at q4
    simp only[zB5] at q4
    refine VC.intro ?_ ?_
    ·omega
    constructor<;>intro q5
    ·simp at q5
     simp only[zB5] at q5
     refine zAr 0 (A) [K,H] rfl ?_ (hI _ _ _ _ _ _ _ rfl ⟨?_,?_⟩ ?_ oA) trivial ?_
     ·exact rlA
     ·trivial
     ·omega
     ·omega
     rintro _ A6 ⟨kz,pz,sz,bdz,bz,cz,Az,rfl,rfl,oz,hgz,hz,hkz,hpz,hqz,hsz⟩
     refine⟨_,_,[Az],rfl,zBO,?_⟩
     refine⟨fun x7=>?_⟩
     refine zAC (g:=gI) (T:=3) zAh K [] [Az,H] ?_ oK (zCN ?_) (List.mem_of_getElem? (i:=0) rfl) rfl rfl rfl rfl rfl rfl rfl rfl ?_ fun b8 c8 A8 o8=>?_
     ·exact rlA
     ·trivial
     ·omega
     apply zAb (bdz,f-1,ks++[kz],pz,sz,Az,_,_,_,_,_)
     ·exact .refl _
     ·exact frI
     ·exact⟨rfl,trivial⟩
     ·try dsimp only
      (have h9:=zDB hRI;exact⟨z1b hRI aA (z4D aA aA) hgz hz,by rw[List.length_append,List.length_singleton];omega,by rw[List.length_append,List.length_singleton];omega,hpz,oO,oz,aA,zEx (lb:=0) (by unfold okI;omega) aA⟩)
     try dsimp only
     exact z4E aA hqz hgz hz
    simp at q5
    simp only[zB5] at q5
    constructor<;>intro q9
    ·simp at q9
     refine zAf (Gt.owrd _ oK) ?_ ?_ fun b10 o10 hb10=>?_
     ·trivial
     ·omega
     refine zAd 0 (0) rfl (Gt.owrd _ oK) ?_ ?_ hb10 rfl (zAa 0 rfl) fun l11 hl11=>?_
     ·trivial
     ·omega
     obtain⟨rfl,hw11⟩:=hl11;simp only[zAx,zAs,okI] at hw11
     (have hE:=zGK hk1 hRI (by first|exact .inl oO|exact .inr (zGJ aA)|exact .inr (zIV aA));have h9:=(zDB hRI);exact⟨_,zES hE.2 (hE.1.trans (by rw[zEn oO])) oA aA hp2 hpp oO,rlB⟩)
    simp at q9
    refine zAr 0 (A++K) [H] rfl ?_ (zCz _ _ _ _ _ _ _ _ _ _ _ oA oP ?_) trivial ?_
    ·exact rlA
    ·omega
    rintro _ A12 ⟨bg,cg,Ag,rfl,rfl,og⟩
    refine⟨_,_,[Ag],rfl,zBO,?_⟩
    (have hE:=zGK hk1 hRI (by first|exact .inl oO|exact .inr (zGJ aA)|exact .inr (zIV aA));have h9:=(zDB hRI);exact⟨_,zES hE.2 (hE.1.trans (by rw[zDA oO])) og (by unfold okI;omega) hp2 hpp (by rw[List.length_append,List.length_singleton];omega),rlB⟩)
   simp at q4
   simp only[zB5] at q4
   constructor<;>intro q13
   ·simp at q13
    refine zAf (Gt.owrd _ oK) ?_ ?_ fun b14 o14 hb14=>?_
    ·trivial
    ·omega
    refine zAd 0 (0) rfl (Gt.owrd _ oK) ?_ ?_ hb14 rfl (zAa 0 rfl) fun l15 hl15=>?_
    ·trivial
    ·omega
    obtain⟨rfl,hw15⟩:=hl15;simp only[zAx,zAs,okI] at hw15
    (have hE:=zGK hk1 hRI (by first|exact .inl oO|exact .inr (zGJ aA)|exact .inr (zIV aA));have h9:=(zDB hRI);exact⟨_,zES hE.2 (hE.1.trans (by rw[zEn oO])) oA aA hp2 hpp oO,rlB⟩)
   simp at q13
   refine zAr 0 (A++K) [H] rfl ?_ (zCz _ _ _ _ _ _ _ _ _ _ _ oA oP ?_) trivial ?_
   ·exact rlA
   ·omega
   rintro _ A16 ⟨bg,cg,Ag,rfl,rfl,og⟩
   refine⟨_,_,[Ag],rfl,zBO,?_⟩
   (have hE:=zGK hk1 hRI (by first|exact .inl oO|exact .inr (zGJ aA)|exact .inr (zIV aA));have h9:=(zDB hRI);exact⟨_,zES hE.2 (hE.1.trans (by rw[zDA oO])) og (by unfold okI;omega) hp2 hpp (by rw[List.length_append,List.length_singleton];omega),rlB⟩)
  simp at q3
  constructor<;>intro q17
  ·simp at q17
   refine zAf (Gt.owrd _ oK) ?_ ?_ fun b18 o18 hb18=>?_
   ·trivial
   ·omega
   refine zAd 0 (0) rfl (Gt.owrd _ oK) ?_ ?_ hb18 rfl (zAa 0 rfl) fun l19 hl19=>?_
   ·trivial
   ·omega
   obtain⟨rfl,hw19⟩:=hl19;simp only[zAx,zAs,okI] at hw19
   (have hE:=zGK hk1 hRI (by first|exact .inl oO|exact .inr (zGJ aA)|exact .inr (zIV aA));have h9:=(zDB hRI);exact⟨_,zES hE.2 (hE.1.trans (by rw[zEn oO])) oA aA hp2 hpp oO,rlB⟩)
  simp at q17
  refine zAr 0 (A++K) [H] rfl ?_ (zCz _ _ _ _ _ _ _ _ _ _ _ oA oP ?_) trivial ?_
  ·exact rlA
  ·omega
  rintro _ A20 ⟨bg,cg,Ag,rfl,rfl,og⟩
  refine⟨_,_,[Ag],rfl,zBO,?_⟩
  (have hE:=zGK hk1 hRI (by first|exact .inl oO|exact .inr (zGJ aA)|exact .inr (zIV aA));have h9:=(zDB hRI);exact⟨_,zES hE.2 (hE.1.trans (by rw[zDA oO])) og (by unfold okI;omega) hp2 hpp (by rw[List.length_append,List.length_singleton];omega),rlB⟩)
 simp at q2
 (obtain rfl:bd=true:=q2)
 constructor<;>intro q21
 ·simp at q21
  refine zAf (Gt.owrd _ oK) ?_ ?_ fun b22 o22 hb22=>?_
  ·trivial
  ·omega
  refine zAd 0 (0) rfl (Gt.owrd _ oK) ?_ ?_ hb22 rfl (zAa 0 rfl) fun l23 hl23=>?_
  ·trivial
  ·omega
  obtain⟨rfl,hw23⟩:=hl23;simp only[zAx,zAs,okI] at hw23
  (have hE:=zMZ hRI;exact⟨_,zMp (p':=p2) hE oA aA hp2 hpp oO,rlB⟩)
 simp at q21
 refine zAr 0 (A++K) [H] rfl ?_ (zCz _ _ _ _ _ _ _ _ _ _ _ oA oP ?_) trivial ?_
 ·exact rlA
 ·omega
 rintro _ A24 ⟨bg,cg,Ag,rfl,rfl,og⟩
 refine⟨_,_,[Ag],rfl,zBO,?_⟩
 (have hE:=zMZ hRI;exact⟨_,zMp (p':=p2) hE og (by unfold okI;omega) hp2 hpp (by rw[List.length_append,List.length_singleton];omega),rlB⟩)
def zGf (t:ByteArray) (n p:Nat) (ps:List Piece) (bd:Bool) (f:Nat) (ks:List Int) (p2:Nat) (ps2:List Piece):Prop:=
 (bd=false→zPM t (zCG t (zAN t (zAt t n))) f ks p2 ps2=zBQ t (zCG t (zAN t (zAt t n))) (t.size+1) [] p ps∧t.size < f+p2+1∧(t.size≤p2∨zGd (zAu t p2)=true)∧ps2.length+ks.length+2 * p≤ps.length+2 * p2)∧(bd=true→zB4 zFh t (zBQ t (zCG t (zAN t (zAt t n))) (t.size+1) [] p ps)=false)
theorem zXc {t:ByteArray} {n p pz:Nat} {ps sz:List Piece} {bdz:Bool} {kz:Int} (hp:p≤t.size) (hgz:bdz=!(zB4 zGd t (zCG t (zAN t (zAt t n)) p ps))) (hz:zB4 zGd t (zCG t (zAN t (zAt t n)) p ps)=true→kz=prK (zCG t (zAN t (zAt t n)) p ps)∧pz=prP (zCG t (zAN t (zAt t n)) p ps)∧sz=prS (zCG t (zAN t (zAt t n)) p ps)):zGf t n p ps bdz t.size [kz] pz sz:=by
 constructor
 ·intro h
  rw[h] at hgz
  have h1:zB4 zGd t (zCG t (zAN t (zAt t n)) p ps)=true:=by simpa using hgz
  obtain⟨rfl,rfl,rfl⟩:=hz h1
  have h2:=zK2 hp (zEA h1)
  unfold zEy at h2
  exact⟨(zK7 (f:=t.size+1) (ks:=[]) oO (zEA h1)).symm,oO,zPN h1,by simp only[List.length_singleton];omega⟩
 intro h
 rw[h] at hgz
 exact zTh (by simpa using hgz)
theorem zXd {t:ByteArray} {n p f p2 pz:Nat} {ks:List Int} {ps ps2 sz:List Piece} {bdz:Bool} {kz:Int} (hI:zGf t n p ps false f ks p2 ps2) (hp2:p2 < t.size) (hb:(((zAu t p2).toNat:Nat):Int)=124) (hgz:bdz=!(zB4 zGd t (zCG t (zAN t (zAt t n)) (p2+1) ps2))) (hz:zB4 zGd t (zCG t (zAN t (zAt t n)) (p2+1) ps2)=true→kz=prK (zCG t (zAN t (zAt t n)) (p2+1) ps2)∧pz=prP (zCG t (zAN t (zAt t n)) (p2+1) ps2)∧sz=prS (zCG t (zAN t (zAt t n)) (p2+1) ps2)):zGf t n p ps bdz (f-1) (ks++[kz]) pz sz:=by
 obtain⟨he,hf,hs,hl⟩:=hI.1 rfl
 have he2:zBQ t (zCG t (zAN t (zAt t n))) f ks (p2+1) ps2=zBQ t (zCG t (zAN t (zAt t n))) (t.size+1) [] p ps:=by
  rw[←he];unfold zPM;rw[if_pos oO]
 constructor
 ·intro h
  rw[h] at hgz
  have h1:zB4 zGd t (zCG t (zAN t (zAt t n)) (p2+1) ps2)=true:=by simpa using hgz
  obtain⟨rfl,rfl,rfl⟩:=hz h1
  have h2:=zK2 oO (zEA h1)
  unfold zEy at h2
  exact⟨(zK7 oO (zEA h1)).symm.trans he2,oO,zPN h1,by rw[List.length_append,List.length_singleton];omega⟩
 intro h
 rw[h] at hgz
 rw[←he2]
 exact zTh (by simpa using hgz)
theorem zIa {t:ByteArray} {n p f p2:Nat} {ks:List Int} {ps ps2:List Piece} (hI:zGf t n p ps false f ks p2 ps2) (hb:t.size≤p2∨¬(((zAu t p2).toNat:Nat):Int)=124):zBQ t (zCG t (zAN t (zAt t n))) (t.size+1) [] p ps=some ((zBx 3 (ks,p2,ps2)).1,p2,(zBx 3 (ks,p2,ps2)).2.2)∧zB4 zFh t (zBQ t (zCG t (zAN t (zAt t n))) (t.size+1) [] p ps)=true:=by
 obtain⟨he,hf,hs,hl⟩:=hI.1 rfl
 rw[←he]
 refine z09 ?_ hs
 rcases hb with h|h
 ·rw[zCt h];decide
 omega
theorem zEB {t:ByteArray} {n p f p2:Nat} {ks:List Int} {ps ps2:List Piece} (hI:zGf t n p ps false f ks p2 ps2):ps2.length+ks.length+2 * p≤ps.length+2 * p2:=(hI.1 rfl).2.2.2
theorem zK9 {t:ByteArray} {n p f p2:Nat} {ks:List Int} {ps ps2:List Piece} (hI:zGf t n p ps true f ks p2 ps2):zB4 zFh t (zBQ t (zCG t (zAN t (zAt t n))) (t.size+1) [] p ps)=false:=hI.2 rfl
attribute [local irreducible] zGf
theorem zXe (t:ByteArray) (n:Nat) (ht:t.size≤20) (hI:z4A 185 zGd (zCG t (zAN t (zAt t n))) t (fun p=>p≤t.size∧t.size < n+1+p)):z4A 148 zFh (zAt t (n+1)) t (fun p=>p≤t.size∧t.size < n+1+p):=by
 intro q pi p ps b c A hpi hP hps hA
 obtain⟨hpt,hn⟩:=hP
 subst hpi
 rw[show zAt t (n+1) p ps=zBQ t (zCG t (zAN t (zAt t n))) (t.size+1) [] p ps by unfold zAt;rfl]
 refine CtR.introB zAh [.p 0 0] [⟨q,[.string t,.int .i64 (p:Int),.bool false,.slice b ps.length c],203⟩] [A] func148 rfl rfl rfl rfl (by simp [SV.ok]) (by simp [Blk.ent]) fun E H hp=>?_
 have hp0:(p:Int)=((p:Nat):Int):=rfl
 refine zAr 0 (A) [H] rfl ?_ (hI _ _ _ _ _ _ _ aA ⟨?_,?_⟩ ?_ hA) trivial ?_
 ·exact .refl _
 ·trivial
 ·trivial
 ·trivial
 rintro _ A0 ⟨kz,pz,sz,bdz,bz,cz,Az,rfl,rfl,oz,hgz,hz,hkz,hpz,hqz,hsz⟩
 refine⟨_,_,[Az],rfl,zBO,?_⟩
 refine⟨fun x1=>?_⟩
 apply zAg (α:=(Bool)×(Nat)×(List Int)×(Nat)×(List Piece)×(Hp)×(Option Addr)×(Nat)×(Hp)×(Option Addr)×(Nat)) zAh [7,8,9,10,11,12,13,14,15,16,17,18,19,20,21,22,23,24,25,26,27,28,29,30,31,32,33,34,35,36,37,38,39,40,41,42,43,44,45,46,47,48,3] (fun z=>[(3,.v (.slice z.2.2.2.2.2.2.2.2.2.1 z.2.2.1.length z.2.2.2.2.2.2.2.2.2.2))]) (fun z=>[⟨q,[Value.string t,.int .i64 (z.2.2.2.1:Nat),.bool z.1,.slice z.2.2.2.2.2.2.1 z.2.2.2.2.1.length z.2.2.2.2.2.2.2.1],203⟩]) (fun z=>[z.2.2.2.2.2.2.2.2.1,z.2.2.2.2.2.1,H]) (fun z=>t.size-z.2.2.2.1) (fun z=>zGf t n p ps z.1 z.2.1 z.2.2.1 z.2.2.2.1 z.2.2.2.2.1∧1≤z.2.2.1.length∧z.2.2.2.2.1.length+z.2.2.1.length+2 * p≤ps.length+2 * z.2.2.2.1+1∧z.2.2.2.1≤t.size∧p≤z.2.2.2.1∧(gSl 210 zBp).ow [.slice z.2.2.2.2.2.2.1 z.2.2.2.2.1.length z.2.2.2.2.2.2.2.1] z.2.2.2.2.1 z.2.2.2.2.2.1∧(gSl 3 gI).ow [.slice z.2.2.2.2.2.2.2.2.2.1 z.2.2.1.length z.2.2.2.2.2.2.2.2.2.2] z.2.2.1 z.2.2.2.2.2.2.2.2.1∧zBp.ow [.int .i64 3,.int .u8 0,.slice z.2.2.2.2.2.2.2.2.2.1 z.2.2.1.length z.2.2.2.2.2.2.2.2.2.2] ⟨3,0,z.2.2.1⟩ z.2.2.2.2.2.2.2.2.1) ((bdz,t.size,[kz],pz,sz,Az,bz,cz,[(x1,Obj.cells ⟨[.int .i64 kz]⟩ 3)],some ⟨x1,0,none⟩,1))
 ·exact frI
 ·exact⟨rfl,trivial⟩
 ·try dsimp only
  (have oL:=zN3 (mk:=fun k=>k) (sz:=fun _=>0) (Ow.lit (f:=zAs) (T:=3) (b:=x1) (xs:=[kz]) (by simpa [zAs] using hkz) sI);exact⟨zXc hpt hgz hz,by simp,by simp only[List.length_singleton];omega,hpz,hqz,oz,oL,zEx (lb:=0) (by unfold okI;omega) oL⟩)
 ·exact .refl _
 rintro ⟨bd,f,ks,p2,ps2,A,lb,lc,K,kb,kc⟩ hI
 try dsimp only at hI
 obtain⟨hRI,hk1,hl2,hp2,hpp,oA,oK,oP⟩:=hI
 try dsimp only
 refine zBr zAh zAK none (.q 0 (.q 1 (.q 2 (.q 3 (.q 4 (.q 5 (.q 6 (.q 7 (.q 8 (.q 9 (.q 10 (.q 11 (.q 12 (.q 13 (.q 14 (.q 15 (.q 16 (.q 17 (.q 18 (.q 19 (.q 20 (.q 21 (.q 22 (.q 23 (.q 24 (.q 25 (.q 26 (.q 27 (.q 28 (.nil)))))))))))))))))))))))))))))) (by decide +kernel) ?_
 constructor<;>intro q2
 ·simp at q2
  (obtain rfl:bd=false:=q2)
  (have hw3:IntKind.i64.wrap ((p2:Int)+1)=((p2+1:Nat):Int):=(by rw[zAc oO oO];omega))
  constructor<;>intro q3
  ·simp at q3
   (have hw3:IntKind.i64.wrap ((p2:Int)+1)=((p2+1:Nat):Int):=(by rw[zAc oO oO];omega))
   refine VC.intro ?_ ?_
   ·omega
   constructor<;>intro q4
   ·simp at q4
    simp only[zB5] at q4
    (have hw3:IntKind.i64.wrap ((p2:Int)+1)=((p2+1:Nat):Int):=(by rw[zAc oO oO];omega))
    refine zAr 0 (A) [K,H] rfl ?_ (hI _ _ _ _ _ _ _ aA ⟨?_,?_⟩ ?_ oA) trivial ?_
    ·exact rlA
    ·trivial
    ·omega
    ·omega
    rintro _ A5 ⟨kz,pz,sz,bdz,bz,cz,Az,rfl,rfl,oz,hgz,hz,hkz,hpz,hqz,hsz⟩
    refine⟨_,_,[Az],rfl,zBO,?_⟩
    refine⟨fun x6=>?_⟩
    refine zAC (g:=gI) (T:=3) zAh K [] [Az,H] ?_ oK (zCN ?_) (List.mem_of_getElem? (i:=0) rfl) rfl rfl rfl rfl rfl rfl rfl rfl ?_ fun b7 c7 A7 o7=>?_
    ·exact rlA
    ·trivial
    ·omega
    apply zAb (bdz,f-1,ks++[kz],pz,sz,Az,_,_,_,_,_)
    ·exact .refl _
    ·exact frI
    ·exact⟨rfl,trivial⟩
    ·try dsimp only
     (have h9:=zEB hRI;exact⟨zXd hRI aA aA hgz hz,by rw[List.length_append,List.length_singleton];omega,by rw[List.length_append,List.length_singleton];omega,hpz,oO,oz,aA,zEx (lb:=0) (by unfold okI;omega) aA⟩)
    try dsimp only
    omega
   simp at q4
   simp only[zB5] at q4
   (have hw3:IntKind.i64.wrap ((p2:Int)+1)=((p2+1:Nat):Int):=(by rw[zAc oO oO];omega))
   constructor<;>intro q8
   ·simp at q8
    (have hw3:IntKind.i64.wrap ((p2:Int)+1)=((p2+1:Nat):Int):=(by rw[zAc oO oO];omega))
    refine zAf (Gt.owrd _ oK) ?_ ?_ fun b9 o9 hb9=>?_
    ·trivial
    ·omega
    refine zAd 0 (0) rfl (Gt.owrd _ oK) ?_ ?_ hb9 rfl (zAa 0 rfl) fun l10 hl10=>?_
    ·trivial
    ·omega
    obtain⟨rfl,hw10⟩:=hl10;simp only[zAx,zAs,okI] at hw10
    (have hE:=zIa hRI (by first|exact .inl oO|exact .inr aA);have h9:=(zEB hRI);exact⟨_,zES hE.2 (hE.1.trans (by rw[zEn oO])) oA aA hp2 hpp oO,rlB⟩)
   simp at q8
   (have hw3:IntKind.i64.wrap ((p2:Int)+1)=((p2+1:Nat):Int):=(by rw[zAc oO oO];omega))
   refine zAr 0 (A++K) [H] rfl ?_ (zCz _ _ _ _ _ _ _ _ _ _ _ oA oP ?_) trivial ?_
   ·exact rlA
   ·omega
   rintro _ A11 ⟨bg,cg,Ag,rfl,rfl,og⟩
   refine⟨_,_,[Ag],rfl,zBO,?_⟩
   (have hE:=zIa hRI (by first|exact .inl oO|exact .inr aA);have h9:=(zEB hRI);exact⟨_,zES hE.2 (hE.1.trans (by rw[zDA oO])) og (by unfold okI;omega) hp2 hpp (by rw[List.length_append,List.length_singleton];omega),rlB⟩)
  simp at q3
  (have hw3:IntKind.i64.wrap ((p2:Int)+1)=((p2+1:Nat):Int):=(by rw[zAc oO oO];omega))
  constructor<;>intro q12
  ·simp at q12
   (have hw3:IntKind.i64.wrap ((p2:Int)+1)=((p2+1:Nat):Int):=(by rw[zAc oO oO];omega))
   refine zAf (Gt.owrd _ oK) ?_ ?_ fun b13 o13 hb13=>?_
   ·trivial
   ·omega
   refine zAd 0 (0) rfl (Gt.owrd _ oK) ?_ ?_ hb13 rfl (zAa 0 rfl) fun l14 hl14=>?_
   ·trivial
   ·omega
   obtain⟨rfl,hw14⟩:=hl14;simp only[zAx,zAs,okI] at hw14
   (have hE:=zIa hRI (by first|exact .inl oO|exact .inr aA);have h9:=(zEB hRI);exact⟨_,zES hE.2 (hE.1.trans (by rw[zEn oO])) oA aA hp2 hpp oO,rlB⟩)
  simp at q12
  (have hw3:IntKind.i64.wrap ((p2:Int)+1)=((p2+1:Nat):Int):=(by rw[zAc oO oO];omega))
  refine zAr 0 (A++K) [H] rfl ?_ (zCz _ _ _ _ _ _ _ _ _ _ _ oA oP ?_) trivial ?_
  ·exact rlA
  ·omega
  rintro _ A15 ⟨bg,cg,Ag,rfl,rfl,og⟩
  refine⟨_,_,[Ag],rfl,zBO,?_⟩
  (have hE:=zIa hRI (by first|exact .inl oO|exact .inr aA);have h9:=(zEB hRI);exact⟨_,zES hE.2 (hE.1.trans (by rw[zDA oO])) og (by unfold okI;omega) hp2 hpp (by rw[List.length_append,List.length_singleton];omega),rlB⟩)
 simp at q2
 (obtain rfl:bd=true:=q2)
 (have hw3:IntKind.i64.wrap ((p2:Int)+1)=((p2+1:Nat):Int):=(by rw[zAc oO oO];omega))
 constructor<;>intro q16
 ·simp at q16
  (have hw3:IntKind.i64.wrap ((p2:Int)+1)=((p2+1:Nat):Int):=(by rw[zAc oO oO];omega))
  refine zAf (Gt.owrd _ oK) ?_ ?_ fun b17 o17 hb17=>?_
  ·trivial
  ·omega
  refine zAd 0 (0) rfl (Gt.owrd _ oK) ?_ ?_ hb17 rfl (zAa 0 rfl) fun l18 hl18=>?_
  ·trivial
  ·omega
  obtain⟨rfl,hw18⟩:=hl18;simp only[zAx,zAs,okI] at hw18
  (have hE:=zK9 hRI;exact⟨_,zMp (p':=p2) hE oA aA hp2 hpp oO,rlB⟩)
 simp at q16
 (have hw3:IntKind.i64.wrap ((p2:Int)+1)=((p2+1:Nat):Int):=(by rw[zAc oO oO];omega))
 refine zAr 0 (A++K) [H] rfl ?_ (zCz _ _ _ _ _ _ _ _ _ _ _ oA oP ?_) trivial ?_
 ·exact rlA
 ·omega
 rintro _ A19 ⟨bg,cg,Ag,rfl,rfl,og⟩
 refine⟨_,_,[Ag],rfl,zBO,?_⟩
 (have hE:=zK9 hRI;exact⟨_,zMp (p':=p2) hE og (by unfold okI;omega) hp2 hpp (by rw[List.length_append,List.length_singleton];omega),rlB⟩)
end
section
attribute [local irreducible] IntKind.wrap
section
variable {t:ByteArray} {E:Nat→List Piece→Option PR} {p:Nat} {ps:List Piece}
theorem zJ7 (h:zCe (zAu t p)=true):zDp t E p ps=zAN t E p ps:=by unfold zDp;rw[if_pos h]
theorem zVj (h:t.size≤p):zDp t E p ps=none:=by unfold zDp;rw[zCt h];rfl
theorem zLa (h:¬(97≤((zAu t p).toNat:Int)∧((zAu t p).toNat:Int)≤100)) (h2:¬((zAu t p).toNat:Int)=40):zDp t E p ps=none:=by
 unfold zDp
 rw[if_neg]
 rw[zOk (by rw[←Bool.not_eq_true,zHA];omega) h2];simp
theorem z4F (h:97≤((zAu t p).toNat:Int)∧((zAu t p).toNat:Int)≤100):zDp t E p ps=some (zDh t (t.size+1) (ps.length:Nat) (p+1) (ps++[⟨1,zAu t p,[]⟩])):=by
 rw[zJ7 (zEQ (zHA.2 oO))]
 exact zPL oO
theorem z4G (h:((zAu t p).toNat:Int)=40) (h1:(E (p+1) ps).isSome=true) (h2:((zAu t (prP (E (p+1) ps))).toNat:Int)=41):zDp t E p ps=some (zDh t (t.size+1) (prK (E (p+1) ps)) (prP (E (p+1) ps)+1) (prS (E (p+1) ps))):=by
 rw[zJ7 (zDJ h)];exact zTe h h1 h2
theorem zIW (h:((zAu t p).toNat:Int)=40) (h1:(E (p+1) ps).isSome=true) (h2:¬((zAu t (prP (E (p+1) ps))).toNat:Int)=41):zDp t E p ps=none:=by
 rw[zJ7 (zDJ h)];exact zK5 h h1 h2
theorem zRQ (h:((zAu t p).toNat:Int)=40) (h1:zB4 zFh t (E (p+1) ps)=false):zDp t E p ps=none:=by
 cases hE:(E (p+1) ps).isSome with
 | false=>rw[zJ7 (zDJ h)];exact zK4 h (zOi hE)
 | true=>
  refine zIW h hE fun h2=>?_
  unfold zB4 zFh at h1
  rw[hE,decide_eq_true (show (zAu t (prP (E (p+1) ps))).toNat=41 from oO)] at h1
  cases h1
theorem zPO {f:Nat} {k:Int} (h:t.size≤p):zDh t f k p ps=(k,p,ps):=
 zH8 (by rw[zCt h];decide) (by rw[zCt h];decide) (by rw[zCt h];decide)
theorem zFi (h:zDp t E p ps=none):zB4 zV1 t (zDp t E p ps)=false:=zH9 h
theorem zJ8 {r:PR} (h:zDp t E p ps=some r):zB4 zV1 t (zDp t E p ps)=true:=by rw[zJ6,h];rfl
end
attribute [local irreducible] zAN zAt zCG zDi zBQ zDh zDp prK prP prS zB4 zFh
theorem z1d (t:ByteArray) (n:Nat) (ht:t.size≤20) (hI:z4A 148 zFh (zAt t n) t (fun p=>p≤t.size∧t.size < n+p)):z4A 206 zV1 (zDp t (zAt t n)) t (fun p=>p≤t.size∧t.size < n+1+p):=by
 intro q pi p ps b c A hpi hP hps hA
 obtain⟨hpt,hn⟩:=hP
 subst hpi
 have hst:=zMY (op:=1) (lb:=zAu t p) (by unfold okI;omega)
 have hw:IntKind.i64.wrap ((p:Int)+1)=((p+1:Nat):Int):=by (rw[zAc oO oO];omega)
 refine CtR.introB zAh [.p 0 0] [⟨q,[.string t,.int .i64 (p:Int),.bool false,.slice b ps.length c],203⟩] [A] func206 rfl rfl rfl rfl (by simp [SV.ok]) (by simp [Blk.ent]) fun E H hp=>?_
 refine zBr zAh zAK none (.q 0 (.q 1 (.q 2 (.q 3 (.q 4 (.q 5 (.q 6 (.q 7 (.q 8 (.q 9 (.q 10 (.q 11 (.q 12 (.q 13 (.q 14 (.q 15 (.nil))))))))))))))))) (by decide +kernel) ?_
 constructor<;>intro q0
 ·simp at q0
 simp at q0
 constructor<;>intro q1
 ·simp at q1
  exact⟨_,zMp (p':=p) (zFi (zVj oO)) hA (by unfold okI;omega) hpt (Nat.le_refl _) (Nat.le_refl _),rlB⟩
 simp at q1
 refine zBr zAh zAK none (.q 0 (.q 1 (.q 2 (.q 3 (.q 4 (.q 5 (.q 6 (.q 7 (.q 8 (.q 9 (.nil))))))))))) (by decide +kernel) ?_
 refine VC.intro ?_ ?_
 ·omega
 constructor<;>intro q2
 ·simp at q2
  simp only[zB5] at q2
  constructor<;>intro q3
  ·simp at q3
   simp only[zB5] at q3
   refine zAr 0 (A++[]) [H] rfl ?_ (zCz _ _ _ _ _ _ _ _ _ _ _ hA hst ?_) trivial ?_
   ·exact rlA
   ·omega
   rintro _ A4 ⟨bg,cg,Ag,rfl,rfl,og⟩
   refine⟨_,_,[Ag],rfl,zBO,?_⟩
   apply zAg (α:=(Nat)×(Int)×(Nat)×(List Piece)×(Hp)×(Option Addr)×(Nat)) zAh [100,101,102,103,104,105,106,107,108,109,5,110,111,112,113,114,115,116,117,118,120,119,122,121,124,123,125,126,127,128,129,130,131,132,133,134,135,136,137,138,139,140,4] (fun z=>[(4,.v (.int .i64 z.2.1))]) (fun z=>[⟨q,[Value.string t,.int .i64 (z.2.2.1:Nat),.bool false,.slice z.2.2.2.2.2.1 z.2.2.2.1.length z.2.2.2.2.2.2],203⟩]) (fun z=>[z.2.2.2.2.1,H]) (fun z=>t.size-z.2.2.1) (fun z=>some (zDh t z.1 z.2.1 z.2.2.1 z.2.2.2.1)=zDp t (zAt t n) p ps∧t.size < z.1+z.2.2.1∧z.2.2.1≤t.size∧p≤z.2.2.1∧z.2.2.2.1.length+2 * p≤ps.length+2 * z.2.2.1∧okI z.2.1∧(gSl 210 zBp).ow [.slice z.2.2.2.2.2.1 z.2.2.2.1.length z.2.2.2.2.2.2] z.2.2.2.1 z.2.2.2.2.1) ((t.size+1,((ps.length:Nat):Int),p+1,ps++[⟨1,zAu t p,[]⟩],Ag,bg,cg))
   ·exact frI
   ·((rw[hw]);repeat' (first|exact trivial|refine⟨by first|rfl|simp [Blk.ent],?_⟩))
   ·try dsimp only
    exact⟨(z4F oO).symm,oO,oO,oO,by rw[List.length_append,List.length_singleton];omega,by unfold okI;omega,aA⟩
   ·exact .refl _
   rintro ⟨f,k,p2,ps2,A,lb,lc⟩ hI
   try dsimp only at hI
   obtain⟨hf,hfu,hp2,hpp,hps2,hk,oA⟩:=hI
   try dsimp only
   refine zBr zAh zAK none (.q 0 (.q 1 (.q 2 (.q 3 (.q 4 (.q 5 (.q 6 (.q 7 (.q 8 (.q 9 (.nil))))))))))) (by decide +kernel) ?_
   constructor<;>intro q5
   ·simp at q5
    (have hw3:IntKind.i64.wrap ((p2:Int)+1)=((p2+1:Nat):Int):=(by rw[zAc oO oO];omega))
    refine zBr zAh zAK none (.q 0 (.q 1 (.q 2 (.q 3 (.q 4 (.q 5 (.q 6 (.q 7 (.q 8 (.nil)))))))))) (by decide +kernel) ?_
    refine VC.intro ?_ ?_
    ·omega
    constructor<;>intro q6
    ·simp at q6
     simp only[zB5] at q6
     (have hw3:IntKind.i64.wrap ((p2:Int)+1)=((p2+1:Nat):Int):=(by rw[zAc oO oO];omega))
     constructor<;>intro q7
     ·simp at q7
     simp at q7
     (have hw3:IntKind.i64.wrap ((p2:Int)+1)=((p2+1:Nat):Int):=(by rw[zAc oO oO];omega))
     refine⟨fun x8=>?_⟩
     refine zAr 0 (A++[(x8,Obj.cells { toList:=Value.int IntKind.i64 k::[].append (zAX (nat_lit 0) [Value.int IntKind.i64 (0:Int)]) } 3)]) [H] rfl ?_ (zCz _ _ _ _ _ _ _ _ _ _ _ oA (by first|exact zCr (by unfold okI;omega) hk) ?_) trivial ?_
     ·exact rlA
     ·omega
     rintro _ A9 ⟨bg,cg,Ag,rfl,rfl,og⟩
     refine⟨_,_,[Ag],rfl,zBO,?_⟩
     apply zAb (f-1,((ps2.length:Nat):Int),p2+1,_,_,_,_)
     ·exact .refl _
     ·exact frI
     ·((rw[hw3]);repeat' (first|exact trivial|refine⟨by first|rfl|simp [Blk.ent],?_⟩))
     ·try dsimp only
      exact⟨(congrArg some (zD6 oO oO)).symm.trans hf,oO,oO,oO,by rw[List.length_append,List.length_singleton];omega,by unfold okI;omega,aA⟩
     try dsimp only
     omega
    simp at q6
    simp only[zB5] at q6
    (have hw3:IntKind.i64.wrap ((p2:Int)+1)=((p2+1:Nat):Int):=(by rw[zAc oO oO];omega))
    constructor<;>intro q10
    ·simp at q10
     simp only[zB5] at q10
     (have hw3:IntKind.i64.wrap ((p2:Int)+1)=((p2+1:Nat):Int):=(by rw[zAc oO oO];omega))
     constructor<;>intro q11
     ·simp at q11
     simp at q11
     (have hw3:IntKind.i64.wrap ((p2:Int)+1)=((p2+1:Nat):Int):=(by rw[zAc oO oO];omega))
     refine⟨fun x12=>?_⟩
     refine zAr 0 (A++[(x12,Obj.cells { toList:=Value.int IntKind.i64 k::[].append (zAX (nat_lit 0) [Value.int IntKind.i64 (0:Int)]) } 3)]) [H] rfl ?_ (zCz _ _ _ _ _ _ _ _ _ _ _ oA (by first|exact zCr (by unfold okI;omega) hk) ?_) trivial ?_
     ·exact rlA
     ·omega
     rintro _ A13 ⟨bg,cg,Ag,rfl,rfl,og⟩
     refine⟨_,_,[Ag],rfl,zBO,?_⟩
     apply zAb (f-1,((ps2.length:Nat):Int),p2+1,_,_,_,_)
     ·exact .refl _
     ·exact frI
     ·((rw[hw3]);repeat' (first|exact trivial|refine⟨by first|rfl|simp [Blk.ent],?_⟩))
     ·try dsimp only
      exact⟨(congrArg some (zD6 oO oO)).symm.trans hf,oO,oO,oO,by rw[List.length_append,List.length_singleton];omega,by unfold okI;omega,aA⟩
     try dsimp only
     omega
    simp at q10
    simp only[zB5] at q10
    (have hw3:IntKind.i64.wrap ((p2:Int)+1)=((p2+1:Nat):Int):=(by rw[zAc oO oO];omega))
    constructor<;>intro q14
    ·simp at q14
     simp only[zB5] at q14
     (have hw3:IntKind.i64.wrap ((p2:Int)+1)=((p2+1:Nat):Int):=(by rw[zAc oO oO];omega))
     constructor<;>intro q15
     ·simp at q15
     simp at q15
     (have hw3:IntKind.i64.wrap ((p2:Int)+1)=((p2+1:Nat):Int):=(by rw[zAc oO oO];omega))
     refine⟨fun x16=>?_⟩
     refine zAr 0 (A++[(x16,Obj.cells { toList:=Value.int IntKind.i64 k::[].append (zAX (nat_lit 0) [Value.int IntKind.i64 (0:Int)]) } 3)]) [H] rfl ?_ (zCz _ _ _ _ _ _ _ _ _ _ _ oA (by first|exact zCr (by unfold okI;omega) hk) ?_) trivial ?_
     ·exact rlA
     ·omega
     rintro _ A17 ⟨bg,cg,Ag,rfl,rfl,og⟩
     refine⟨_,_,[Ag],rfl,zBO,?_⟩
     apply zAb (f-1,((ps2.length:Nat):Int),p2+1,_,_,_,_)
     ·exact .refl _
     ·exact frI
     ·((rw[hw3]);repeat' (first|exact trivial|refine⟨by first|rfl|simp [Blk.ent],?_⟩))
     ·try dsimp only
      exact⟨(congrArg some (zD6 oO oO)).symm.trans hf,oO,oO,oO,by rw[List.length_append,List.length_singleton];omega,by unfold okI;omega,aA⟩
     try dsimp only
     omega
    simp at q14
    simp only[zB5] at q14
    (have hw3:IntKind.i64.wrap ((p2:Int)+1)=((p2+1:Nat):Int):=(by rw[zAc oO oO];omega))
    constructor<;>intro q18
    ·simp at q18
     (have hw3:IntKind.i64.wrap ((p2:Int)+1)=((p2+1:Nat):Int):=(by rw[zAc oO oO];omega))
     exact⟨_,zES (zJ8 hf.symm) (hf.symm.trans (congrArg some (zH8 aA aA aA))) oA hk hp2 hpp hps2,rlB⟩
    simp at q18
   simp at q5
   (have hw3:IntKind.i64.wrap ((p2:Int)+1)=((p2+1:Nat):Int):=(by rw[zAc oO oO];omega))
   exact⟨_,zES (zJ8 hf.symm) (hf.symm.trans (congrArg some (zPO oO))) oA hk hp2 hpp hps2,rlB⟩
  simp at q3
  simp only[zB5] at q3
  constructor<;>intro q19
  ·simp at q19
   simp only[zB5] at q19
   exfalso;omega
  simp at q19
  simp only[zB5] at q19
  (rw[hw];exact⟨_,zMp (p':=p+1) (zFi (zLa oO aA)) hA (by unfold okI;omega) oO oO oO,rlB⟩)
 simp at q2
 simp only[zB5] at q2
 constructor<;>intro q20
 ·simp at q20
  simp only[zB5] at q20
  refine zAr 0 (A) [H] rfl ?_ (hI _ _ (p+1) _ _ _ _ hw ⟨?_,?_⟩ ?_ hA) trivial ?_
  ·exact .refl _
  ·trivial
  ·omega
  ·omega
  rintro _ A21 ⟨kz,pz,sz,bdz,bz,cz,Az,rfl,rfl,oz,hgz,hz,hkz,hpz,hqz,hsz⟩
  refine⟨_,_,[Az],rfl,zBO,?_⟩
  refine zBr zAh zAK none (.q 0 (.q 1 (.q 2 (.q 3 (.q 4 (.q 5 (.q 6 (.q 7 (.q 8 (.q 9 (.q 10 (.q 11 (.q 12 (.q 13 (.q 14 (.q 15 (.q 16 (.q 17 (.q 18 (.q 19 (.q 20 (.q 21 (.q 22 (.q 23 (.q 24 (.q 25 (.q 26 (.q 27 (.nil))))))))))))))))))))))))))))) (by decide +kernel) ?_
  constructor<;>intro q22
  ·(obtain rfl:bdz=true:=q22)
   exact⟨_,zMp (p':=pz) (zFi (zRQ aA (by simpa using hgz))) oz (by unfold okI;omega) hpz oO oO,rlB⟩
  (obtain rfl:bdz=false:=q22;have hgd:zB4 zFh t (zAt t n (p+1) ps)=true:=(by simpa using hgz);obtain⟨e1,e2,e3⟩:=hz hgd;subst e1;subst e2;subst e3;have hr:=zMW (n:=n) oO (zEA hgd);unfold zEy at hr)
  constructor<;>intro q23
  ·simp at q23
   exact⟨_,zMp (p':=prP (zAt t n (p+1) ps)) (zFi (zIW aA (zEA hgd) (by rw[zCt oO];decide))) oz (by unfold okI;omega) hpz oO oO,rlB⟩
  simp at q23
  refine VC.intro ?_ ?_
  ·omega
  constructor<;>intro q24
  ·simp at q24
   simp only[zB5] at q24
   exact⟨_,zMp (p':=prP (zAt t n (p+1) ps)) (zFi (zIW aA (zEA hgd) aA)) oz (by unfold okI;omega) hpz oO oO,rlB⟩
  simp at q24
  simp only[zB5] at q24
  have hw2:IntKind.i64.wrap ((prP (zAt t n (p+1) ps):Int)+1)=((prP (zAt t n (p+1) ps)+1:Nat):Int):=by (rw[zAc oO oO];omega)
  have hit:=z4G ‹((zAu t p).toNat:Int)=40› (zEA hgd) ‹((zAu t (prP (zAt t n (p+1) ps))).toNat:Int)=41›
  apply zAg (α:=(Nat)×(Int)×(Nat)×(List Piece)×(Hp)×(Option Addr)×(Nat)) zAh [100,101,102,103,104,105,106,107,108,109,5,110,111,112,113,114,115,116,117,118,120,119,122,121,124,123,125,126,127,128,129,130,131,132,133,134,135,136,137,138,139,140,4] (fun z=>[(4,.v (.int .i64 z.2.1))]) (fun z=>[⟨q,[Value.string t,.int .i64 (z.2.2.1:Nat),.bool false,.slice z.2.2.2.2.2.1 z.2.2.2.1.length z.2.2.2.2.2.2],203⟩]) (fun z=>[z.2.2.2.2.1,H]) (fun z=>t.size-z.2.2.1) (fun z=>some (zDh t z.1 z.2.1 z.2.2.1 z.2.2.2.1)=zDp t (zAt t n) p ps∧t.size < z.1+z.2.2.1∧z.2.2.1≤t.size∧p≤z.2.2.1∧z.2.2.2.1.length+2 * p≤ps.length+2 * z.2.2.1∧okI z.2.1∧(gSl 210 zBp).ow [.slice z.2.2.2.2.2.1 z.2.2.2.1.length z.2.2.2.2.2.2] z.2.2.2.1 z.2.2.2.2.1) ((t.size+1,prK (zAt t n (p+1) ps),prP (zAt t n (p+1) ps)+1,prS (zAt t n (p+1) ps),Az,bz,cz))
  ·exact frI
  ·((rw[hw2]);repeat' (first|exact trivial|refine⟨by first|rfl|simp [Blk.ent],?_⟩))
  ·try dsimp only
   exact⟨hit.symm,oO,oO,oO,oO,hkz,oz⟩
  ·exact .refl _
  rintro ⟨f,k,p2,ps2,A,lb,lc⟩ hI
  try dsimp only at hI
  obtain⟨hf,hfu,hp2,hpp,hps2,hk,oA⟩:=hI
  try dsimp only
  refine zBr zAh zAK none (.q 0 (.q 1 (.q 2 (.q 3 (.q 4 (.q 5 (.q 6 (.q 7 (.q 8 (.q 9 (.nil))))))))))) (by decide +kernel) ?_
  constructor<;>intro q25
  ·simp at q25
   (have hw3:IntKind.i64.wrap ((p2:Int)+1)=((p2+1:Nat):Int):=(by rw[zAc oO oO];omega))
   refine zBr zAh zAK none (.q 0 (.q 1 (.q 2 (.q 3 (.q 4 (.q 5 (.q 6 (.q 7 (.q 8 (.nil)))))))))) (by decide +kernel) ?_
   refine VC.intro ?_ ?_
   ·omega
   constructor<;>intro q26
   ·simp at q26
    simp only[zB5] at q26
    (have hw3:IntKind.i64.wrap ((p2:Int)+1)=((p2+1:Nat):Int):=(by rw[zAc oO oO];omega))
    constructor<;>intro q27
    ·simp at q27
    simp at q27
    (have hw3:IntKind.i64.wrap ((p2:Int)+1)=((p2+1:Nat):Int):=(by rw[zAc oO oO];omega))
    refine⟨fun x28=>?_⟩
    refine zAr 0 (A++[(x28,Obj.cells { toList:=Value.int IntKind.i64 k::[].append (zAX (nat_lit 0) [Value.int IntKind.i64 (0:Int)]) } 3)]) [H] rfl ?_ (zCz _ _ _ _ _ _ _ _ _ _ _ oA (by first|exact zCr (by unfold okI;omega) hk) ?_) trivial ?_
    ·exact rlA
    ·omega
    rintro _ A29 ⟨bg,cg,Ag,rfl,rfl,og⟩
    refine⟨_,_,[Ag],rfl,zBO,?_⟩
    apply zAb (f-1,((ps2.length:Nat):Int),p2+1,_,_,_,_)
    ·exact .refl _
    ·exact frI
    ·((rw[hw3]);repeat' (first|exact trivial|refine⟨by first|rfl|simp [Blk.ent],?_⟩))
    ·try dsimp only
     exact⟨(congrArg some (zD6 oO oO)).symm.trans hf,oO,oO,oO,by rw[List.length_append,List.length_singleton];omega,by unfold okI;omega,aA⟩
    try dsimp only
    omega
   simp at q26
   simp only[zB5] at q26
   (have hw3:IntKind.i64.wrap ((p2:Int)+1)=((p2+1:Nat):Int):=(by rw[zAc oO oO];omega))
   constructor<;>intro q30
   ·simp at q30
    simp only[zB5] at q30
    (have hw3:IntKind.i64.wrap ((p2:Int)+1)=((p2+1:Nat):Int):=(by rw[zAc oO oO];omega))
    constructor<;>intro q31
    ·simp at q31
    simp at q31
    (have hw3:IntKind.i64.wrap ((p2:Int)+1)=((p2+1:Nat):Int):=(by rw[zAc oO oO];omega))
    refine⟨fun x32=>?_⟩
    refine zAr 0 (A++[(x32,Obj.cells { toList:=Value.int IntKind.i64 k::[].append (zAX (nat_lit 0) [Value.int IntKind.i64 (0:Int)]) } 3)]) [H] rfl ?_ (zCz _ _ _ _ _ _ _ _ _ _ _ oA (by first|exact zCr (by unfold okI;omega) hk) ?_) trivial ?_
    ·exact rlA
    ·omega
    rintro _ A33 ⟨bg,cg,Ag,rfl,rfl,og⟩
    refine⟨_,_,[Ag],rfl,zBO,?_⟩
    apply zAb (f-1,((ps2.length:Nat):Int),p2+1,_,_,_,_)
    ·exact .refl _
    ·exact frI
    ·((rw[hw3]);repeat' (first|exact trivial|refine⟨by first|rfl|simp [Blk.ent],?_⟩))
    ·try dsimp only
     exact⟨(congrArg some (zD6 oO oO)).symm.trans hf,oO,oO,oO,by rw[List.length_append,List.length_singleton];omega,by unfold okI;omega,aA⟩
    try dsimp only
    omega
   simp at q30
   simp only[zB5] at q30
   (have hw3:IntKind.i64.wrap ((p2:Int)+1)=((p2+1:Nat):Int):=(by rw[zAc oO oO];omega))
   constructor<;>intro q34
   ·simp at q34
    simp only[zB5] at q34
    (have hw3:IntKind.i64.wrap ((p2:Int)+1)=((p2+1:Nat):Int):=(by rw[zAc oO oO];omega))
    constructor<;>intro q35
    ·simp at q35
    simp at q35
    (have hw3:IntKind.i64.wrap ((p2:Int)+1)=((p2+1:Nat):Int):=(by rw[zAc oO oO];omega))
    refine⟨fun x36=>?_⟩
    refine zAr 0 (A++[(x36,Obj.cells { toList:=Value.int IntKind.i64 k::[].append (zAX (nat_lit 0) [Value.int IntKind.i64 (0:Int)]) } 3)]) [H] rfl ?_ (zCz _ _ _ _ _ _ _ _ _ _ _ oA (by first|exact zCr (by unfold okI;omega) hk) ?_) trivial ?_
    ·exact rlA
    ·omega
    rintro _ A37 ⟨bg,cg,Ag,rfl,rfl,og⟩
    refine⟨_,_,[Ag],rfl,zBO,?_⟩
    apply zAb (f-1,((ps2.length:Nat):Int),p2+1,_,_,_,_)
    ·exact .refl _
    ·exact frI
    ·((rw[hw3]);repeat' (first|exact trivial|refine⟨by first|rfl|simp [Blk.ent],?_⟩))
    ·try dsimp only
     exact⟨(congrArg some (zD6 oO oO)).symm.trans hf,oO,oO,oO,by rw[List.length_append,List.length_singleton];omega,by unfold okI;omega,aA⟩
    try dsimp only
    omega
   simp at q34
   simp only[zB5] at q34
   (have hw3:IntKind.i64.wrap ((p2:Int)+1)=((p2+1:Nat):Int):=(by rw[zAc oO oO];omega))
   constructor<;>intro q38
   ·simp at q38
    (have hw3:IntKind.i64.wrap ((p2:Int)+1)=((p2+1:Nat):Int):=(by rw[zAc oO oO];omega))
    exact⟨_,zES (zJ8 hf.symm) (hf.symm.trans (congrArg some (zH8 aA aA aA))) oA hk hp2 hpp hps2,rlB⟩
   simp at q38
  simp at q25
  (have hw3:IntKind.i64.wrap ((p2:Int)+1)=((p2+1:Nat):Int):=(by rw[zAc oO oO];omega))
  exact⟨_,zES (zJ8 hf.symm) (hf.symm.trans (congrArg some (zPO oO))) oA hk hp2 hpp hps2,rlB⟩
 simp at q20
 simp only[zB5] at q20
 (rw[hw];exact⟨_,zMp (p':=p+1) (zFi (zLa oO aA)) hA (by unfold okI;omega) oO oO oO,rlB⟩)
theorem z3h (t:ByteArray) (ht:t.size≤20):∀ n,z4A 148 zFh (zAt t n) t (fun p=>p≤t.size∧t.size < n+p)
 | 0=>by
  intro q pi p ps b c A _ hP
  have:=hP.1;have:=hP.2;omega
 | n+1=>zXe t n ht (z1c t n ht (z1d t n ht (z3h t ht n)))
theorem z4H {t:ByteArray} (h0:t.size≤20) (h:zB4 zFh t (zAt t (t.size+1) 0 [])=false):zBG t=none:=by
 cases hE:(zAt t (t.size+1) 0 []).isSome with
 | false=>exact z3g (zOi hE)
 | true=>
  rw[zK6 h0 hE]
  refine if_neg fun h1=>?_
  unfold zB4 at h
  rw[hE,h1.1,decide_eq_true (Nat.le_refl _)] at h
  simp at h
theorem zEC (t:ByteArray) (hs:t.size≤1152921504606846976):Ct prog 96 [.string t] [] (fun _=>True) (fun v A=>∃ b c,v = .tuple #[.agg ⟨[.slice b (zBd t).pieces.length c]⟩,.bool (zBG t).isSome]∧(gSl 210 zBp).ow [.slice b (zBd t).pieces.length c] (zBd t).pieces A):=by
 refine Ct.intro0 zAh func96 rfl rfl rfl fun E H hp=>?_
 refine⟨fun x0=>?_⟩
 constructor<;>intro q1
 ·simp at q1
  (obtain⟨e1,e2⟩:=zER (zTg (t:=t) oO);rw[e1,e2];exact⟨_,⟨none,0,rfl,zAm _ _ _⟩,rlB⟩)
 simp at q1
 refine⟨fun x2=>?_⟩
 refine zAr 1 ([]) [H] rfl ?_ (z3h t ?_ (t.size+1) _ _ 0 [] _ _ _ rfl ⟨?_,?_⟩ ?_ (zAm _ _ _)) trivial ?_
 ·exact .refl _
 ·omega
 ·omega
 ·omega
 ·trivial
 rintro _ A3 ⟨kz,pz,sz,bdz,bz,cz,Az,rfl,rfl,oz,hgz,hz,hkz,hpz,hqz,hsz⟩
 refine⟨_,_,[Az],rfl,zBO,?_⟩
 refine⟨fun x4=>?_⟩
 constructor<;>intro q5
 ·(obtain rfl:bdz=true:=q5)
  (obtain⟨e1,e2⟩:=zER (z4H (t:=t) oO (by simpa using hgz));rw[e1,e2];exact⟨[],⟨none,0,rfl,zAm _ _ _⟩,.mem sI⟩)
 (obtain rfl:bdz=false:=q5;have hgd:zB4 zFh t (zAt t (t.size+1) 0 [])=true:=(by simpa using hgz);obtain⟨e1,e2,e3⟩:=hz hgd;subst e1;subst e2;subst e3)
 constructor<;>intro q6
 ·simp at q6
  (obtain⟨e1,e2⟩:=zER ((zK6 oO (zEA hgd)).trans (if_neg oO));rw[e1,e2];exact⟨[],⟨none,0,rfl,zAm _ _ _⟩,.mem sI⟩)
 simp at q6
 have rP:zH4.rd Az [.slice bz (prS (zAt t (t.size+1) 0 [])).length cz] ⟨prS (zAt t (t.size+1) 0 [])⟩:=zBM.2 ⟨bz,cz,rfl,Gt.owrd _ oz⟩
 refine zAe (zEh _ ({ pieces:=prS (zAt t (t.size+(1:Nat)) 0 []) })) (Rp.mono _ (zAa 0 rfl) rP) ?_
 rintro _ rfl
 constructor<;>intro q8
 ·simp at q8
  (obtain⟨e1,e2⟩:=zER ((zK6 oO (zEA hgd)).trans (if_neg (fun h=>by (have h9:=‹zAV ⟨prS (zAt t (t.size+1) 0 [])⟩=false›;rw[h.2] at h9;cases h9))));rw[e1,e2];exact⟨[],⟨none,0,rfl,zAm _ _ _⟩,.mem sI⟩)
 simp at q8
 (obtain⟨e1,e2⟩:=zTf ((zK6 oO (zEA hgd)).trans (if_pos ⟨oO,‹zAV ⟨prS (zAt t (t.size+1) 0 [])⟩=true›⟩));rw[e1,e2];exact⟨_,⟨_,_,rfl,oz⟩,rlB⟩)
end
section
attribute [local irreducible] IntKind.wrap
theorem zV2 (x:Int):IntKind.u64.wrap x=x % 18446744073709551616:=by
 unfold IntKind.wrap;simp [IntKind.bits,IntKind.signed]
theorem zJu {s k:Nat} (hs:s < 4294967296) (hk:k < 32):IntKind.u32.wrap (((BitVec.ofInt IntKind.u32.bits (((s:Nat):Int).fdiv (2 ^ min (IntKind.u64.wrap (k:Int)).toNat IntKind.u32.bits)) &&& BitVec.ofInt IntKind.u32.bits 1).toNat:Nat):Int)=if s.testBit k=true then 1 else 0:=by
 have e1:(IntKind.u64.wrap (k:Int)).toNat=k:=by rw[zV2];omega
 have e2:(2:Int) ^ min k IntKind.u32.bits=((2 ^ k:Nat):Int):=by
  rw[show min k IntKind.u32.bits=k from Nat.min_eq_left (by show k≤32;omega)];push_cast;rfl
 have e3:((s:Nat):Int).fdiv ((2 ^ k:Nat):Int)=((s / 2 ^ k:Nat):Int):=by
  rw[Int.fdiv_eq_ediv_of_nonneg _ (Int.natCast_nonneg _)];rfl
 rw[e1,e2,e3,zC5,Nat.testBit_eq_decide_div_mod_eq]
 have h1:s / 2 ^ k≤s:=Nat.div_le_self _ _
 generalize s / 2 ^ k=x at *
 show (((BitVec.ofInt 32 (x:Int) &&& BitVec.ofInt 32 ((1:Nat):Int)).toNat:Nat):Int) % 4294967296=_
 rw[show BitVec.ofInt 32 (x:Int)=BitVec.ofNat 32 x by simp,show BitVec.ofInt 32 ((1:Nat):Int)=BitVec.ofNat 32 1 by simp,BitVec.toNat_and,BitVec.toNat_ofNat,BitVec.toNat_ofNat,Nat.mod_eq_of_lt (show x < 2 ^ 32 from oO),show (1:Nat) % 2 ^ 32=1 from rfl,Nat.and_one_is_mod]
 rcases Nat.mod_two_eq_zero_or_one x with h|h
 ·rw[h];simp
 rw[h];simp
def zBf (s:Nat) (n:Nat):List Int:=((List.range n).filter fun i=>s.testBit i).map fun i=>((i:Nat):Int)
theorem zIb {s k:Nat} (h:s.testBit k=true):zBf s (k+1)=zBf s k++[((k:Nat):Int)]:=by
 unfold zBf;rw[List.range_succ,List.filter_append,List.map_append,List.filter_cons_of_pos (by simpa using h)];rfl
theorem zIc {s k:Nat} (h:s.testBit k=false):zBf s (k+1)=zBf s k:=by
 unfold zBf;rw[List.range_succ,List.filter_append,List.map_append,List.filter_cons_of_neg (by simp [h])];simp
theorem zFj (s n:Nat):(zBf s n).length≤n:=by
 unfold zBf;rw[List.length_map];exact Nat.le_trans (List.length_filter_le _ _) sI
theorem zLb (s:Nat) (hs:s < 4294967296):Ct prog 188 [.int .u32 (s:Int)] [] (fun _=>True) (fun v A=>∃ b c,v = .slice b (zBf s 32).length c∧(gSl 3 gI).ow [.slice b (zBf s 32).length c] (zBf s 32) A):=by
 refine Ct.intro0 zAh func188 rfl rfl rfl fun E H hp=>?_
 apply zAg (α:=(Nat)×(Hp)×(Option Addr)×(Nat)) zAh [6,7,4,8,9,10,11,12,13,14,15,16,17,3,18,5] (fun z=>[(5,.v (.int .i64 z.1)),(3,.v (.slice z.2.2.1 (zBf s z.1).length z.2.2.2))]) (fun z=>[]) (fun z=>[z.2.1,H]) (fun z=>32-z.1) (fun z=>z.1≤32∧(gSl 3 gI).ow [.slice z.2.2.1 (zBf s z.1).length z.2.2.2] (zBf s z.1) z.2.1) ((0,[],none,0))
 ·repeat' (first|exact trivial|refine⟨⟨_,rfl,by first|exact frE|(refine zAz ?_;simp;done)|(refine zAz ?_;rw[zIb aA])|(refine zAz ?_;rw[zIc aA]),frO⟩,?_⟩)
 ·exact trivial
 ·try dsimp only
  exact⟨oO,zAm _ _ _⟩
 ·exact .refl _
 rintro ⟨k,A,lb,lc⟩ hI
 try dsimp only at hI
 obtain⟨hk,oA⟩:=hI
 try dsimp only
 constructor<;>intro q0
 ·simp at q0
  refine VC.intro ?_ ?_
  ·(rw[zV2];omega)
  constructor<;>intro q1
  ·rw[zJu hs oO] at q1
   simp at q1
   refine⟨fun x2=>?_⟩
   refine zAC (g:=gI) (T:=3) zAh A [] [H] ?_ oA (zCN ?_) (List.mem_of_getElem? (i:=0) rfl) rfl rfl rfl rfl rfl rfl rfl rfl ?_ fun b3 c3 A3 o3=>?_
   ·exact .tl
   ·unfold okI;omega
   ·(have:=zFj s k;omega)
   apply zAb (k+1,_,_,_)
   ·exact .refl _
   ·repeat' (first|exact trivial|refine⟨⟨_,rfl,by first|exact frE|(refine zAz ?_;simp;done)|(refine zAz ?_;rw[zIb aA])|(refine zAz ?_;rw[zIc aA]),frO⟩,?_⟩)
   ·exact trivial
   ·try dsimp only
    (rw[zIb aA];exact⟨oO,aA⟩)
   try dsimp only
   omega
  rw[zJu hs oO] at q1
  simp at q1
  apply zAb (k+1,_,_,_)
  ·exact .refl _
  ·repeat' (first|exact trivial|refine⟨⟨_,rfl,by first|exact frE|(refine zAz ?_;simp;done)|(refine zAz ?_;rw[zIb aA])|(refine zAz ?_;rw[zIc aA]),frO⟩,?_⟩)
  ·exact trivial
  ·try dsimp only
   (rw[zIc aA];exact⟨oO,aA⟩)
  try dsimp only
  omega
 simp at q0
 (obtain rfl:k=32:=oO;exact⟨_,⟨_,_,rfl,oA⟩,rlB⟩)
end
section
attribute [local irreducible] IntKind.wrap
def flU:Fl Nat:=⟨1,fun x=>[.int .u32 (x:Int)],fun x=>x < 4294967296,fun _=>rfl,fun _=>rfl,oO⟩
def gU:Gt Nat:=flU.gt fun _=>0
theorem zVk {x:Nat} (h:x < 4294967296):gU.ow [.int .u32 (x:Int)] x []:=⟨rfl,h,rfl⟩
theorem zVl:∀ l y A,gU.ow l y A→A=[]:=fun _ _ _ h=>h.2.2
theorem zVm {z:Int} (h:0≤z∧z < 4294967296):gU.ow [.int .u32 z] z.toNat []:=⟨by rw[show flU.enc z.toNat=[.int .u32 ((z.toNat:Nat):Int)] from rfl,Int.toNat_of_nonneg h.1],by show z.toNat < 4294967296;omega,rfl⟩
theorem zDu {a b:Nat} (ha:a < 4294967296) (hb:b < 4294967296):IntKind.u32.wrap (((BitVec.ofInt IntKind.u32.bits ((a:Nat):Int) ||| BitVec.ofInt IntKind.u32.bits ((b:Nat):Int)).toNat:Nat):Int)=((a ||| b:Nat):Int):=by
 rw[zC5]
 show (((BitVec.ofInt 32 (a:Int) ||| BitVec.ofInt 32 (b:Int)).toNat:Nat):Int) % 4294967296=_
 rw[show BitVec.ofInt 32 (a:Int)=BitVec.ofNat 32 a by simp,show BitVec.ofInt 32 (b:Int)=BitVec.ofNat 32 b by simp,BitVec.toNat_or,BitVec.toNat_ofNat,BitVec.toNat_ofNat,Nat.mod_eq_of_lt (show a < 2 ^ 32 from ha),Nat.mod_eq_of_lt (show b < 2 ^ 32 from hb)]
 have:=Nat.or_lt_two_pow (n:=32) (show a < 2 ^ 32 from ha) (show b < 2 ^ 32 from hb)
 omega
def zFS (next:Nat) (fo:List Nat) (i:Int):List Nat:=fo.set i.toNat ((fo[i.toNat]?.getD 0) ||| next)
def orL (fo:List Nat) (l:List Int) (next:Nat):List Nat:=l.foldl (zFS next) fo
def zRR (fo:List Nat) (last next:Nat):List Nat:=orL fo (zBf last 32) next
theorem zOl (next:Nat):∀ (l:List Int) (fo:List Nat),(orL fo l next).length=fo.length
 | [],_=>rfl
 | i::l,fo=>by
  show (orL (zFS next fo i) l next).length=_
  rw[zOl next l,zFS,List.length_set]
theorem z1e {fo:List Nat} {l:List Int} {next k:Nat} (hk:k < l.length):orL fo (l.take (k+1)) next=zFS next (orL fo (l.take k) next) (l[k]?.getD 0):=by
 unfold orL
 rw[←List.take_append_getElem hk,List.foldl_append,List.getElem?_eq_getElem hk];rfl
theorem zJ9 {s n:Nat} {i:Int} (h:i∈zBf s n):0≤i∧i < n∧s.testBit i.toNat=true:=by
 unfold zBf at h
 obtain⟨j,hj,rfl⟩:=List.mem_map.1 h
 obtain⟨h1,h2⟩:=List.mem_filter.1 hj
 have:=List.mem_range.1 h1
 exact⟨oO,oO,by simpa using h2⟩
theorem zTi {s n i:Nat} (hs:s < 2 ^ n) (h:s.testBit i=true):i < n:=by
 rcases Nat.lt_or_ge i n with h1|h1
 ·exact h1
 rw[Nat.testBit_lt_two_pow (Nat.lt_of_lt_of_le hs (Nat.pow_le_pow_right oO h1))] at h;cases h
theorem zPP {s n k:Nat} (hs:s < 2 ^ n) (hk:k < (zBf s 32).length):0≤((zBf s 32)[k]?.getD 0)∧((zBf s 32)[k]?.getD 0) < n:=by
 rw[List.getElem?_eq_getElem hk]
 have h1:=zJ9 (List.getElem_mem hk)
 have h2:=zTi hs h1.2.2
 simp only[Option.getD_some]
 omega
theorem zJv (q:Nat) (v0 v1:Value) (b:Option Addr) (c:Nat) (fo:List Nat) (last next:Nat) (A:Hp) (hA:(gSl 186 gU).ow [.slice b fo.length c] fo A) (hn:next < 4294967296) (hl:last < 2 ^ fo.length) (hf:fo.length≤32) :
  CtR prog 221 [.pointer (some ⟨q,0,none⟩),.int .u32 (last:Int),.int .u32 (next:Int)] ((q,Obj.cells ⟨[v0,v1,.slice b fo.length c]⟩ 252)::A) (fun _=>True)
   (fun r D=>∃ b c A',r = .tuple #[]∧D=(q,Obj.cells ⟨[v0,v1,.slice b (zRR fo last next).length c]⟩ 252)::A'∧(gSl 186 gU).ow [.slice b (zRR fo last next).length c] (zRR fo last next) A'):=by
 have hl32:last < 4294967296:=Nat.lt_of_lt_of_le hl (by have:=Nat.pow_le_pow_right (n:=2) oO hf;omega)
 refine CtR.introB zAh [.p 0 0,.v (.int .u32 (last:Int)),.v (.int .u32 (next:Int))] [⟨q,[v0,v1,.slice b fo.length c],252⟩] [A] func221 rfl rfl rfl rfl (by simp [SV.ok]) (by simp [Blk.ent]) fun E H hp=>?_
 have hbl:=zFj last 32
 refine zAi (zLb _ ?_) trivial ?_
 ·trivial
 rintro v0 A0 o0
 obtain⟨b0,c0,rfl,o0⟩:=o0
 apply zAg (α:=(Nat)×(List Nat)×(Hp)) zAh [12,13,14,7,15,16,17,18,19,20,21,22,23,24,25,11] (fun z=>[(11,.v (.int .i64 z.1))]) (fun z=>[⟨q,[v0,v1,.slice b fo.length c],252⟩]) (fun z=>[A0,z.2.2,H]) (fun z=>(zBf last 32).length-z.1) (fun z=>z.1≤(zBf last 32).length∧z.2.1=orL fo ((zBf last 32).take z.1) next∧z.2.1.length=fo.length∧(gSl 186 gU).ow [.slice b fo.length c] z.2.1 z.2.2) ((0,fo,A))
 ·exact frI
 ·exact⟨rfl,trivial⟩
 ·try dsimp only
  exact⟨Nat.zero_le _,rfl,rfl,hA⟩
 ·exact .refl _
 rintro ⟨k,fs,A⟩ hI
 try dsimp only at hI
 obtain⟨hk,hfs,hfl,oA⟩:=hI
 try dsimp only
 constructor<;>intro q1
 ·simp at q1
  have hbg:=zPP hl (by omega:k < (zBf last 32).length)
  refine zAf (Gt.owrd _ o0) ?_ ?_ fun b2 o2 hb2=>?_
  ·omega
  ·omega
  refine zAd 0 (k) rfl (Gt.owrd _ o0) ?_ ?_ hb2 rfl (zAa 0 rfl) fun l3 hl3=>?_
  ·omega
  ·omega
  obtain⟨rfl,hw3⟩:=hl3;simp only[zAx,zAs,okI] at hw3
  refine zAf (Gt.owrd _ oA) ?_ ?_ fun b4 o4 hb4=>?_
  ·omega
  ·omega
  refine zAF default (Gt.owrd _ oA) ?_ ?_ hb4 rfl (zAa 1 rfl) fun l5 hl5=>?_
  ·omega
  ·omega
  obtain⟨rfl,hw5⟩:=hl5;simp only[flU] at hw5
  refine zAf (Gt.owrd _ oA) ?_ ?_ fun b6 o6 hb6=>?_
  ·omega
  ·omega
  refine zBq (Fld.id _) default (Int.toNat ((zBf last (32:Nat))[k]?.getD (0:Int))) 1 rfl (Int.toNat_of_nonneg ?_).symm oA ?_ ?_ hb6 rfl zVl _ (zVm ?_) fun A7 o7=>?_
  ·omega
  ·omega
  ·omega
  ·(rw[zDu oO oO];have h9:=Nat.or_lt_two_pow (n:=32) (x:=fs[((zBf last 32)[k]?.getD 0).toNat]?.getD default) (y:=next) oO oO;omega)
  apply zAb (k+1,zFS next fs ((zBf last 32)[k]?.getD 0),_)
  ·exact .refl _
  ·exact frI
  ·exact⟨rfl,trivial⟩
  ·try dsimp only
   (have e9:=z1e (fo:=fo) (next:=next) (k:=k) (l:=zBf last 32) oO;exact⟨oO,by rw[e9,hfs],by unfold zFS;rw[List.length_set,hfl],by unfold zFS;rw[zDu oO oO,Int.toNat_natCast] at *;assumption⟩)
  try dsimp only
  omega
 simp at q1
 (have hke:k=(zBf last 32).length:=oO;subst hke;rw[List.take_length] at hfs;have hle:(zRR fo last next).length=fo.length:=zOl _ _ _;rw[hle];subst hfs;exact⟨_,⟨_,_,_,rfl,rfl,oA⟩,rlB⟩)
end
section
structure Span where
 first:Nat
 last:Nat
 empty:Bool
deriving DecidableEq,Inhabited
abbrev Pos:=List UInt8×List Nat
def zHD (V:Nat→Pos→Pos×Span) (st:Pos×Span) (kid:Int):Pos×Span:=
 (((V kid.toNat st.1).1.1,zRR (V kid.toNat st.1).1.2 st.2.last (V kid.toNat st.1).2.first),⟨if st.2.empty=true then st.2.first ||| (V kid.toNat st.1).2.first else st.2.first,(if (V kid.toNat st.1).2.empty=true then st.2.last else 0) ||| (V kid.toNat st.1).2.last,st.2.empty && (V kid.toNat st.1).2.empty⟩)
def zHE (V:Nat→Pos→Pos×Span) (st:Pos×Span) (kid:Int):Pos×Span:=
 ((V kid.toNat st.1).1,⟨st.2.first ||| (V kid.toNat st.1).2.first,st.2.last ||| (V kid.toNat st.1).2.last,st.2.empty || (V kid.toNat st.1).2.empty⟩)
def zED (op:Int) (r:Pos×Span):Pos×Span:=((r.1.1,if op=6 then r.1.2 else zRR r.1.2 r.2.last r.2.first),⟨r.2.first,r.2.last,r.2.empty || decide (op≠5)⟩)
def zA5 (ps:List Piece):Nat→Nat→Pos→Pos×Span
 | 0,_,s=>(s,⟨0,0,false⟩)
 | n+1,i,s=>
  if (ps[i]?.getD default).op=1 then ((s.1++[(ps[i]?.getD default).label],s.2++[0]),⟨2 ^ s.1.length,2 ^ s.1.length,false⟩)
  else if (ps[i]?.getD default).op=2 then (ps[i]?.getD default).kids.foldl (zHD (zA5 ps n)) (s,⟨0,0,true⟩)
  else if (ps[i]?.getD default).op=3 then (ps[i]?.getD default).kids.foldl (zHE (zA5 ps n)) (s,⟨0,0,false⟩)
  else zED (ps[i]?.getD default).op (zA5 ps n ((ps[i]?.getD default).kids[0]?.getD 0).toNat s)
def zFX (f:Nat→Nat):List Int→Nat
 | []=>0
 | k::r=>f k.toNat+zFX f r
def zDe (ps:List Piece):Nat→Nat→Nat
 | 0,_=>0
 | n+1,i=>if (ps[i]?.getD default).op=1 then 1 else zFX (zDe ps n) (ps[i]?.getD default).kids
theorem zFk (f:Nat→Nat):∀ (l:List Int) (k:Nat),k < l.length→zFX f (l.take k)+f (l[k]?.getD 0).toNat≤zFX f l∧zFX f (l.take (k+1))=zFX f (l.take k)+f (l[k]?.getD 0).toNat
 | [],k,h=>by simp at h
 | x::l,0,h=>by simp [zFX]
 | x::l,k+1,h=>by
  have ih:=zFk f l k (by simpa using h)
  simp only[List.take_succ_cons,zFX,List.getElem?_cons_succ]
  omega
def zRl (s:Pos):Prop:=s.1.length=s.2.length∧∀ x∈s.2,x < 2 ^ s.1.length
def zMq (s:Pos) (c:Nat) (r:Pos×Span):Prop:=zRl r.1∧r.1.1.length=s.1.length+c∧r.2.first < 2 ^ r.1.1.length∧r.2.last < 2 ^ r.1.1.length
theorem zEi {a b:Nat} (h:a≤b):2 ^ a≤2 ^ b:=Nat.pow_le_pow_right oO h
theorem z3i {next n:Nat} (hn:next < 2 ^ n):∀ (l:List Int) (fo:List Nat),(∀ x∈fo,x < 2 ^ n)→∀ x∈orL fo l next,x < 2 ^ n
 | [],_,h=>h
 | i::l,fo,h=>by
  show ∀ x∈orL (zFS next fo i) l next,x < 2 ^ n
  refine z3i hn l _ ?_
  intro x hx
  unfold zFS at hx
  rcases List.mem_or_eq_of_mem_set hx with h1|h1
  ·exact h x h1
  rw[h1]
  refine Nat.or_lt_two_pow ?_ hn
  rcases Nat.lt_or_ge i.toNat fo.length with h2|h2
  ·rw[List.getElem?_eq_getElem h2];exact h _ (List.getElem_mem h2)
  rw[List.getElem?_eq_none h2];exact Nat.two_pow_pos n
theorem zPQ {lb:List UInt8} {fo:List Nat} {last next:Nat} (h:zRl (lb,fo)) (hn:next < 2 ^ lb.length):zRl (lb,zRR fo last next):=by
 refine⟨?_,z3i hn _ _ h.2⟩
 show lb.length=(orL fo _ next).length
 rw[zOl];exact h.1
theorem zOm {s:Pos} {c d:Nat} {V:Nat→Pos→Pos×Span} {st:Pos×Span} {kid:Int} (h:zMq s c st) (hV:zMq st.1 d (V kid.toNat st.1)):zMq s (c+d) (zHD V st kid):=by
 obtain⟨h1,h2,h3,h4⟩:=h
 obtain⟨g1,g2,g3,g4⟩:=hV
 have hm:=zEi (a:=st.1.1.length) (b:=(V kid.toNat st.1).1.1.length) oO
 refine⟨zPQ g1 g3,by show (V kid.toNat st.1).1.1.length=_;omega,?_,?_⟩
 ·show (if st.2.empty=true then _ else _) < 2 ^ (V kid.toNat st.1).1.1.length
  split
  ·exact Nat.or_lt_two_pow oO g3
  omega
 show (if (V kid.toNat st.1).2.empty=true then _ else _) ||| _ < 2 ^ (V kid.toNat st.1).1.1.length
 refine Nat.or_lt_two_pow ?_ g4
 split
 ·omega
 exact Nat.two_pow_pos _
theorem zOn {s:Pos} {c d:Nat} {V:Nat→Pos→Pos×Span} {st:Pos×Span} {kid:Int} (h:zMq s c st) (hV:zMq st.1 d (V kid.toNat st.1)):zMq s (c+d) (zHE V st kid):=by
 obtain⟨h1,h2,h3,h4⟩:=h
 obtain⟨g1,g2,g3,g4⟩:=hV
 have hm:=zEi (a:=st.1.1.length) (b:=(V kid.toNat st.1).1.1.length) oO
 refine⟨g1,by show (V kid.toNat st.1).1.1.length=_;omega,?_,?_⟩
 ·exact Nat.or_lt_two_pow (show st.2.first < 2 ^ (V kid.toNat st.1).1.1.length from oO) g3
 exact Nat.or_lt_two_pow (show st.2.last < 2 ^ (V kid.toNat st.1).1.1.length from oO) g4
theorem z1f {s:Pos} {c:Nat} {op:Int} {r:Pos×Span} (h:zMq s c r):zMq s c (zED op r):=by
 obtain⟨h1,h2,h3,h4⟩:=h
 unfold zED
 refine⟨?_,h2,h3,h4⟩
 split
 ·exact h1
 exact zPQ h1 h3
theorem zFl {s:Pos} {e:Bool} (h:zRl s):zMq s 0 (s,⟨0,0,e⟩):=⟨h,by simp,Nat.two_pow_pos _,Nat.two_pow_pos _⟩
theorem zXf {s:Pos} {b:UInt8} (h:zRl s):zRl (s.1++[b],s.2++[0]):=by
 refine⟨by simp [h.1],?_⟩
 intro x hx
 have hm:=zEi (a:=s.1.length) (b:=s.1.length+1) oO
 show x < 2 ^ (s.1++[b]).length
 rw[List.length_append,List.length_singleton]
 rcases List.mem_append.1 hx with h1|h1
 ·have:=h.2 x h1;omega
 rw[List.mem_singleton.1 h1];exact Nat.two_pow_pos _
def zGg (ps:List Piece):Prop:=∀ i,i < ps.length→zBR (ps[i]?.getD default) i=true
theorem z4I {ps:List Piece} (h:zAV ⟨ps⟩=true):zGg ps:=by
 unfold zAV at h
 simp only[Bool.and_eq_true,decide_eq_true_iff] at h
 intro i hi
 exact zBe h.2.2 i hi
theorem zB0 (ps:List Piece):∀ (n i:Nat) (s:Pos),zRl s→zGg ps→i < ps.length→i < n→zMq s (zDe ps n i) (zA5 ps n i s)
 | 0,i,s,_,_,_,h=>by omega
 | n+1,i,s,hg,hp,hi,hn=>by
  have hk:=zAP.1 (hp i hi)
  have hkid:(ps[i]?.getD default).op≠1→∀ k∈(ps[i]?.getD default).kids,k.toNat < i:=by
   intro h1 k hk2
   have h3:zBs (ps[i]?.getD default).kids i=true:=by
    rcases hk with h|h|h
    ·exact absurd h.1 h1
    ·exact h.2.2.2
    exact h.2.2.2
   unfold zBs at h3
   have:=zAq.1 (List.all_eq_true.1 h3 k hk2)
   omega
  have hfold:∀ (S:Pos×Span→Int→Pos×Span),(∀ c st kid,kid.toNat < i→zMq s c st→zMq s (c+zDe ps n kid.toNat) (S st kid))→∀ (l:List Int),(∀ k∈l,k.toNat < i)→∀ c st,zMq s c st→zMq s (c+zFX (zDe ps n) l) (l.foldl S st):=by
   intro S hS l
   induction l with
   | nil=>intro _ c st h;exact h
   | cons k l ih=>
    intro hl c st h
    have:=ih (fun k hk=>hl k (List.mem_cons_of_mem _ hk)) (c+zDe ps n k.toNat) (S st k) (hS c st k (hl k (List.mem_cons_self ..)) h)
    rw[List.foldl_cons,show c+zFX (zDe ps n) (k::l)=c+zDe ps n k.toNat+zFX (zDe ps n) l by simp only[zFX];omega]
    exact this
  unfold zA5 zDe
  split
  ·refine⟨zXf hg,by simp,?_,?_⟩
   ·show 2 ^ s.1.length < 2 ^ (s.1++[_]).length
    rw[List.length_append,List.length_singleton];exact Nat.pow_lt_pow_right oO oO
   show 2 ^ s.1.length < 2 ^ (s.1++[_]).length
   rw[List.length_append,List.length_singleton];exact Nat.pow_lt_pow_right oO oO
  rename_i h1
  split
  ·have:=hfold (zHD (zA5 ps n)) (fun c st kid hk2 h=>zOm h (zB0 ps n kid.toNat st.1 h.1 hp oO oO)) _ (hkid h1) 0 _ (zFl (e:=true) hg)
   rwa [Nat.zero_add] at this
  split
  ·have:=hfold (zHE (zA5 ps n)) (fun c st kid hk2 h=>zOn h (zB0 ps n kid.toNat st.1 h.1 hp oO oO)) _ (hkid h1) 0 _ (zFl (e:=false) hg)
   rwa [Nat.zero_add] at this
  rename_i h2 h3
  have h4:(ps[i]?.getD default).kids.length=1:=by
   rcases hk with h|h|h
   ·exact absurd h.1 h1
   ·omega
   exact h.2.2.1
  obtain⟨k,hk1⟩:=List.length_eq_one_iff.1 h4
  have hlt:=hkid h1 k (by rw[hk1];exact List.mem_singleton.2 rfl)
  rw[hk1]
  show zMq s (zDe ps n k.toNat+0) _
  exact z1f (zB0 ps n k.toNat s hg hp oO oO)
end
end Go.Proofs.YtcnclhjhnjpeiaaGreat
