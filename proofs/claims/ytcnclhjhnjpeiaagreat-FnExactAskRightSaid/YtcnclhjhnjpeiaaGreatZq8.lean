/-
 Parts of the law, put together. Conditions: none.
-/
import Derived.Test.YtcnclhjhnjpeiaaGreatZq7
set_option maxHeartbeats 8000000
set_option linter.unusedSimpArgs false
set_option linter.unusedVariables false
namespace Go.Proofs.YtcnclhjhnjpeiaaGreat
open Go.SX Go.Proofs
open Tryz
section
attribute [local irreducible] IntKind.wrap zA0 zAj zAS zA2
theorem zL6 {x:Query} {s:List Int} (h:zAU x s=true):zKi s=true∧s.length=(zAj x.atoms).length∧s.length≤4:=by
 have h1:=zCf h
 have h2:=zDD h1.1
 unfold zAU at h
 rw[Bool.and_eq_true,Bool.and_eq_true,decide_eq_true_iff] at h
 exact⟨h.2.1,h.2.2,oO⟩
theorem zJH (lg la:List Value) (g:Graph) (a:Atom) (hz:a.path.size≤1048576) (hg:zAH g=true) (ha:zCY a=true) :
  Ct prog 43 [.agg ⟨lg⟩,.agg ⟨la⟩] [] (fun H=>zBz.rd H lg g∧zA9.rd H la a)
   (fun v D=>∃ (b0:Option Addr) (c0:Nat) (b1:Option Addr) (c1:Nat),v = .tuple #[.agg ⟨[.slice b0 (zJU g a).cols.length c0,.slice b1 (zJU g a).bag.items.length c1]⟩,.bool true]∧OwT b0 c0 b1 c1 (zJU g a) D):=by
 have h:=zSD lg la g a hz
 rw[zL2 hg ha] at h
 exact h
theorem zRd {g:Graph} {x:Query} {s:List Int} {i ce:Int} {t:Table} {xs:List Item} {b0 b1:Option Addr} {c0 c1:Nat} {Ac B:Hp} (h1:zAH g=true) (h2:zAU x s=true) (h3:inR 0 ((x.atoms.length:Int)-1) i=true) (h4:inR 0 (zA8 s-1) ce=true) (ht:t=zJU g (x.atoms[i.toNat]?.getD default)) (hx:xs=t.bag.items.filter (zSw x s (x.atoms[i.toNat]?.getD default) ce))
  (oc:(gSl 9 gS).ow [.slice b0 t.cols.length c0] t.cols Ac) (oB:(gSl 100 zAo).ow [.slice b1 xs.length c1] xs B) :
  ∃ (b0':Option Addr) (c0':Nat) (b1':Option Addr) (c1':Nat),Value.tuple ⟨[.agg ⟨[.slice b0 t.cols.length c0,.slice b1 xs.length c1]⟩,.bool true]⟩ = .tuple #[.agg ⟨[.slice b0' (zC2 g x s i ce).1.cols.length c0',.slice b1' (zC2 g x s i ce).1.bag.items.length c1']⟩,.bool (zC2 g x s i ce).2]∧OwT b0' c0' b1' c1' (zC2 g x s i ce).1 (Ac++B):=by
 subst ht;subst hx
 rw[zG2 h1 h2 h3 h4]
 exact⟨b0,c0,b1,c1,rfl,Ac,B,.refl _,oc,oB⟩
theorem zFU (lg lq:List Value) (b:Option Addr) (m c:Nat) (g:Graph) (x:Query) (s:List Int) (i ce:Int) (hx:zAL.sz x≤1048576) :
  Ct prog 17 [.agg ⟨lg⟩,.agg ⟨lq⟩,.slice b m c,.int .i64 i,.int .i64 ce] [] (fun H=>zBz.rd H lg g∧zAL.rd H lq x∧(gSl 3 gI).rd H [.slice b m c] s)
   (fun v D=>∃ (b0:Option Addr) (c0:Nat) (b1:Option Addr) (c1:Nat),v = .tuple #[.agg ⟨[.slice b0 (zC2 g x s i ce).1.cols.length c0,.slice b1 (zC2 g x s i ce).1.bag.items.length c1]⟩,.bool (zC2 g x s i ce).2]∧OwT b0 c0 b1 c1 (zC2 g x s i ce).1 D):=by
 refine Ct.intro0 zAh func17 rfl rfl rfl fun E H hp=>?_
 obtain⟨hp,hq,hs⟩:=hp
 obtain⟨rfl,hcs,hls⟩:=zAp hs
 obtain⟨b1g,c1g,rfl,w0g,h1g⟩:=zAY.1 hp
 obtain⟨b1r,c1r,b2r,c2r,b3r,c3r,rfl,h1r,h2r,h3r⟩:=zAy.1 hq
 have hal:=zCI hx
 have hcr:=zIp s
 have hwA:IntKind.i64.wrap ((x.atoms.length:Int)-1)=(x.atoms.length:Int)-1:=zAc oO oO
 have hcw:IntKind.i64.wrap (zA8 s-1)=zA8 s-1:=zAc oO oO
 refine⟨fun x0=>?_⟩
 refine⟨fun x1=>?_⟩
 refine⟨fun x2=>?_⟩
 refine zAe (zC1 _ (g)) (Rp.mono _ (zAa 0 rfl) hp) ?_
 rintro _ rfl
 constructor<;>intro q4
 ·simp at q4
  (rw[zNG aA];exact⟨[],⟨_,_,_,_,rfl,zCc⟩,.mem sI⟩)
 simp at q4
 refine zAe (zGn _ _ _ _ (x) (s) ?_) ⟨(Rp.mono _ (zAa 0 rfl) hq),(Rp.mono _ (zAa 0 rfl) hs)⟩ ?_
 ·trivial
 rintro _ rfl
 constructor<;>intro q6
 ·simp at q6
  (rw[zNH aA];exact⟨[],⟨_,_,_,_,rfl,zCc⟩,.mem sI⟩)
 simp at q6
 refine zAe (zA3 _ _ _) trivial ?_
 rintro _ rfl
 constructor<;>intro q8
 ·simp at q8
  simp (disch:=omega) only[zAc] at q8
  (rw[zNI (by first|assumption|(rw[←hwA];assumption))];exact⟨[],⟨_,_,_,_,rfl,zCc⟩,.mem sI⟩)
 simp at q8
 simp (disch:=omega) only[zAc] at q8
 refine zAe (zE6 _ _ _ (s)) (Rp.mono _ (zAa 0 rfl) hs) ?_
 rintro _ rfl
 refine zAe (zA3 _ _ _) trivial ?_
 rintro _ rfl
 constructor<;>intro q11
 ·simp at q11
  simp (disch:=omega) only[zAc] at q11
  (rw[zNJ (by first|assumption|(rw[←hcw];assumption))];exact⟨[],⟨_,_,_,_,rfl,zCc⟩,.mem sI⟩)
 simp at q11
 simp (disch:=omega) only[zAc] at q11
 have hii:inR 0 ((x.atoms.length:Int)-1) i=true:=(by first|assumption|(rw[←hwA];assumption))
 have hcc:inR 0 (zA8 s-1) ce=true:=(by first|assumption|(rw[←hcw];assumption))
 have hai:=zAq.1 hii
 have hsh:=‹zAU x s=true›
 have hatm:=zSt (zCf hsh).1 (k:=i.toNat) oO
 obtain⟨hg1,hg2,hE⟩:=zEa ‹zAH g=true›
 refine zBr zAh zAK (some 11) (.q 0 (.q 1 (.q 2 (.q 3 (.q 4 (.q 5 (.hd (.alt 6 (.q 7 (.q 8 (.q 9 (.f 10 (.tl 11 (.f 12 (.nil))))))) (.alt 10 (.f 6 (.q 7 (.q 8 (.q 9 (.tl 11 (.f 12 (.nil))))))) (.nil)))))))))) (by decide +kernel) ?_
 refine zAf h2r ?_ ?_ fun b12 o12 hb12=>?_
 ·omega
 ·omega
 refine zAF default h2r ?_ ?_ hb12 rfl (zAa 0 rfl) fun l13 hl13=>?_
 ·omega
 ·omega
 obtain⟨rfl,w0x13,w1x13,w2x13⟩:=zAT.1 hl13
 refine VC.intro ?_ ?_
 ·refine zCW (zJH _ _ g (x.atoms[i.toNat]?.getD default) (zDC hx oO) ‹zAH g=true› hatm) ⟨(Rp.mono _ (zAa 0 rfl) hp),(Rp.mono _ (zAa 0 rfl) hl13)⟩ ?_
  rintro v14 A14 o14
  obtain⟨t,ht⟩:∃ t,t=zJU g (x.atoms[i.toNat]?.getD default):=⟨_,rfl⟩
  have hTT:=zO4 oO hatm
  rw[←ht] at o14 hTT
  have hta:t.cols=zBg (x.atoms[i.toNat]?.getD default):=(by rw[ht];rfl)
  obtain⟨b0S,c0S,b1S,c1S,rfl,AcS,AbS,hPS,ocS,obS⟩:=o14
  have rcS:=Gt.owrd _ ocS
  have rbS:=Gt.owrd _ obS
  obtain⟨⟨ha1,ha2⟩,ha3⟩:=zBV hTT
  have hW:=(zAJ.1 hTT).2.2
  obtain⟨hso,hsn,hs4⟩:=zL6 hsh
  refine⟨[AcS,AbS],by simpa using hPS,?_⟩
  refine VC.intro ?_ ?_
  ·exact zAl sI sI
  refine⟨fun x15=>?_⟩
  refine VC.intro ?_ ?_
  ·exact zAl sI sI
  constructor<;>intro q16
  ·simp at q16
  simp at q16
  refine zAi (zCu _ x ?_) (Rp.mono _ (zAa 2 rfl) hq) ?_
  ·trivial
  rintro v17 A17 o17
  obtain⟨bN,cN,rfl,oN⟩:=o17
  have rN:=Gt.owrd _ oN
  generalize A17=AN at *
  refine⟨fun x18=>?_⟩
  apply zAg (α:=(Nat)×(List Item)×(Hp)×(Option Addr)×(Nat)) zAh [63,64,65,66,67,68,71,72,73,74,75,76,17,77,78,79,80,81,82,83,84,85,86,87,88,89,90,91,92,93,69,70,16] (fun z=>[(16,.v (.int .i64 z.1))]) (fun z=>[⟨x0,[Value.int IntKind.i64 g.size,Value.slice b1g g.edges.length c1g],(53:Nat)⟩,⟨x1,[Value.bool x.each,Value.slice b1r x.out.length c1r,Value.slice b2r x.atoms.length c2r,Value.slice b3r x.filters.length c3r],(43:Nat)⟩,⟨x2,[Value.slice none (0:Nat) (0:Nat),Value.slice none (0:Nat) (0:Nat)],(65:Nat)⟩,⟨x15,[Value.slice b0S t.cols.length c0S,Value.slice b1S t.bag.items.length c1S],(65:Nat)⟩,⟨x18,[Value.slice b0S t.cols.length c0S,.slice z.2.2.2.1 z.2.1.length z.2.2.2.2],(65:Nat)⟩]) (fun z=>[z.2.2.1,AN,AcS,AbS,H]) (fun z=>t.bag.items.length-z.1) (fun z=>z.1≤t.bag.items.length∧z.2.1=zBh [] ((t.bag.items.take z.1).filter (zSw x s (x.atoms[i.toNat]?.getD default) ce))∧(gSl 100 zAo).ow [.slice z.2.2.2.1 z.2.1.length z.2.2.2.2] z.2.1 z.2.2.1) ((0,[],[],none,0))
  ·exact frI
  ·repeat' (first|exact trivial|refine⟨by first|rfl|simp [Blk.ent],?_⟩)
  ·try dsimp only
   exact⟨Nat.zero_le _,rfl,zAm _ _ _⟩
  ·exact .refl _
  rintro ⟨k,xs,B,ib,ic⟩ hI
  try dsimp only at hI
  obtain⟨hk,hxs,oB⟩:=hI
  try dsimp only
  constructor<;>intro q19
  ·simp at q19
   obtain⟨ta1,ta2,ta3⟩:=zCb hTT (i:=k) oO
   obtain⟨hiv,hln⟩:=zDZ hW (zSw x s (x.atoms[i.toNat]?.getD default) ce) (i:=k) oO
   rw[←hxs] at hiv hln
   have hrow:(zBg (x.atoms[i.toNat]?.getD default)).length≤(t.bag.items[k]?.getD default).row.length:=(by rw[←hta];omega)
   refine zAf rbS ?_ ?_ fun b20 o20 hb20=>?_
   ·omega
   ·omega
   refine zAd default (k) rfl rbS ?_ ?_ hb20 rfl (zAa 3 rfl) fun l21 hl21=>?_
   ·omega
   ·omega
   obtain⟨b0x21,c0x21,rfl,h0x21,w1x21⟩:=zAB.1 hl21
   refine⟨fun x22=>?_⟩
   refine zAi (zIq _ _ _ _ _ _ _ _ _ _ x (zAj x.atoms) s i (t.bag.items[k]?.getD default).row ⟨oO,oO⟩ hso hs4 hsn.symm hrow) ⟨(Rp.mono _ (zAa 4 rfl) hq),Rp.mono _ (zAk sI) rN,(Rp.mono _ (zAa 4 rfl) hs),(Rp.mono _ (zAa 3 rfl) h0x21)⟩ ?_
   rintro v23 A23 o23
   obtain⟨bT,cT,rfl,oT⟩:=o23
   have rT:=Gt.owrd _ oT
   refine zAe (zTM _ _ _ (zIG s (alM (zAj x.atoms) (zBg (x.atoms[i.toNat]?.getD default)) (t.bag.items[k]?.getD default).row s) s.length) _) (Rp.mono _ (zAa 0 rfl) rT) ?_
   rintro _ rfl
   constructor<;>intro q25
   ·refine zA1 (B) [A23,AN,AcS,AbS,H] (zC0 _ _ _ _ _ _ xs _ ((t.bag.items[k]?.getD default).row) (t.bag.items[k]?.getD default).times (plR xs ((t.bag.items[k]?.getD default).row)) oB ?_ ?_ ?_ ?_ ?_) ?_ (Rp.mono _ (zAa 3 rfl) h0x21) ?_
    ·omega
    ·omega
    ·trivial
    ·exact hiv.2
    ·exact zEF hiv.1
    ·exact rlA
    rintro _ A26 ⟨b26,c26,rfl,o26⟩
    refine⟨[A26],by simp,?_⟩
    apply zAb (k+1,_,_,_,_)
    ·exact .sub (by repeat (first|exact .slnil|apply List.Sublist.cons_cons|apply List.Sublist.cons))
    ·exact frI
    ·repeat' (first|exact trivial|refine⟨by first|rfl|simp [Blk.ent],?_⟩)
    ·try dsimp only
     exact⟨oO,by rw[hxs];exact zGt (p:=zSw x s (x.atoms[i.toNat]?.getD default) ce) oO aA,aA⟩
    try dsimp only
    omega
   apply zAb (k+1,xs,B,ib,ic)
   ·exact .sub (by repeat (first|exact .slnil|apply List.Sublist.cons_cons|apply List.Sublist.cons))
   ·exact frI
   ·repeat' (first|exact trivial|refine⟨by first|rfl|simp [Blk.ent],?_⟩)
   ·try dsimp only
    exact⟨oO,by rw[←zFL (p:=zSw x s (x.atoms[i.toNat]?.getD default) ce) oO aA];exact hxs,oB⟩
   try dsimp only
   omega
  simp at q19
  (have hke:k=t.bag.items.length:=oO;rw[hke,List.take_length,zDG hW] at hxs;exact⟨AcS++B,zRd ‹zAH g=true› hsh hii hcc ht hxs ocS oB,rlB⟩)
 refine VC.intro ?_ ?_
 ·refine⟨fun x27=>?_⟩
  refine VC.intro ?_ ?_
  ·exact zAl sI sI
  refine zCW (zJH _ _ g (x.atoms[i.toNat]?.getD default) (zDC hx oO) ‹zAH g=true› hatm) ⟨(Rp.mono _ (zAa 0 rfl) hp),(Rp.mono _ (zAa 0 rfl) hl13)⟩ ?_
  rintro v28 A28 o28
  obtain⟨t,ht⟩:∃ t,t=zJU g (x.atoms[i.toNat]?.getD default):=⟨_,rfl⟩
  have hTT:=zO4 oO hatm
  rw[←ht] at o28 hTT
  have hta:t.cols=zBg (x.atoms[i.toNat]?.getD default):=(by rw[ht];rfl)
  obtain⟨b0S,c0S,b1S,c1S,rfl,AcS,AbS,hPS,ocS,obS⟩:=o28
  have rcS:=Gt.owrd _ ocS
  have rbS:=Gt.owrd _ obS
  obtain⟨⟨ha1,ha2⟩,ha3⟩:=zBV hTT
  have hW:=(zAJ.1 hTT).2.2
  obtain⟨hso,hsn,hs4⟩:=zL6 hsh
  refine⟨[AcS,AbS],by simpa using hPS,?_⟩
  refine VC.intro ?_ ?_
  ·exact zAl sI sI
  constructor<;>intro q29
  ·simp at q29
  simp at q29
  refine zAi (zCu _ x ?_) (Rp.mono _ (zAa 2 rfl) hq) ?_
  ·trivial
  rintro v30 A30 o30
  obtain⟨bN,cN,rfl,oN⟩:=o30
  have rN:=Gt.owrd _ oN
  generalize A30=AN at *
  refine⟨fun x31=>?_⟩
  apply zAg (α:=(Nat)×(List Item)×(Hp)×(Option Addr)×(Nat)) zAh [63,64,65,66,67,68,71,72,73,74,75,76,17,77,78,79,80,81,82,83,84,85,86,87,88,89,90,91,92,93,69,70,16] (fun z=>[(16,.v (.int .i64 z.1))]) (fun z=>[⟨x0,[Value.int IntKind.i64 g.size,Value.slice b1g g.edges.length c1g],(53:Nat)⟩,⟨x1,[Value.bool x.each,Value.slice b1r x.out.length c1r,Value.slice b2r x.atoms.length c2r,Value.slice b3r x.filters.length c3r],(43:Nat)⟩,⟨x2,[Value.slice none (0:Nat) (0:Nat),Value.slice none (0:Nat) (0:Nat)],(65:Nat)⟩,⟨x27,[Value.slice b0S t.cols.length c0S,Value.slice b1S t.bag.items.length c1S],(65:Nat)⟩,⟨x31,[Value.slice b0S t.cols.length c0S,.slice z.2.2.2.1 z.2.1.length z.2.2.2.2],(65:Nat)⟩]) (fun z=>[z.2.2.1,AN,AcS,AbS,H]) (fun z=>t.bag.items.length-z.1) (fun z=>z.1≤t.bag.items.length∧z.2.1=zBh [] ((t.bag.items.take z.1).filter (zSw x s (x.atoms[i.toNat]?.getD default) ce))∧(gSl 100 zAo).ow [.slice z.2.2.2.1 z.2.1.length z.2.2.2.2] z.2.1 z.2.2.1) ((0,[],[],none,0))
  ·exact frI
  ·repeat' (first|exact trivial|refine⟨by first|rfl|simp [Blk.ent],?_⟩)
  ·try dsimp only
   exact⟨Nat.zero_le _,rfl,zAm _ _ _⟩
  ·exact .refl _
  rintro ⟨k,xs,B,ib,ic⟩ hI
  try dsimp only at hI
  obtain⟨hk,hxs,oB⟩:=hI
  try dsimp only
  constructor<;>intro q32
  ·simp at q32
   obtain⟨ta1,ta2,ta3⟩:=zCb hTT (i:=k) oO
   obtain⟨hiv,hln⟩:=zDZ hW (zSw x s (x.atoms[i.toNat]?.getD default) ce) (i:=k) oO
   rw[←hxs] at hiv hln
   have hrow:(zBg (x.atoms[i.toNat]?.getD default)).length≤(t.bag.items[k]?.getD default).row.length:=(by rw[←hta];omega)
   refine zAf rbS ?_ ?_ fun b33 o33 hb33=>?_
   ·omega
   ·omega
   refine zAd default (k) rfl rbS ?_ ?_ hb33 rfl (zAa 3 rfl) fun l34 hl34=>?_
   ·omega
   ·omega
   obtain⟨b0x34,c0x34,rfl,h0x34,w1x34⟩:=zAB.1 hl34
   refine⟨fun x35=>?_⟩
   refine zAi (zIq _ _ _ _ _ _ _ _ _ _ x (zAj x.atoms) s i (t.bag.items[k]?.getD default).row ⟨oO,oO⟩ hso hs4 hsn.symm hrow) ⟨(Rp.mono _ (zAa 4 rfl) hq),Rp.mono _ (zAk sI) rN,(Rp.mono _ (zAa 4 rfl) hs),(Rp.mono _ (zAa 3 rfl) h0x34)⟩ ?_
   rintro v36 A36 o36
   obtain⟨bT,cT,rfl,oT⟩:=o36
   have rT:=Gt.owrd _ oT
   refine zAe (zTM _ _ _ (zIG s (alM (zAj x.atoms) (zBg (x.atoms[i.toNat]?.getD default)) (t.bag.items[k]?.getD default).row s) s.length) _) (Rp.mono _ (zAa 0 rfl) rT) ?_
   rintro _ rfl
   constructor<;>intro q38
   ·refine zA1 (B) [A36,AN,AcS,AbS,H] (zC0 _ _ _ _ _ _ xs _ ((t.bag.items[k]?.getD default).row) (t.bag.items[k]?.getD default).times (plR xs ((t.bag.items[k]?.getD default).row)) oB ?_ ?_ ?_ ?_ ?_) ?_ (Rp.mono _ (zAa 3 rfl) h0x34) ?_
    ·omega
    ·omega
    ·trivial
    ·exact hiv.2
    ·exact zEF hiv.1
    ·exact rlA
    rintro _ A39 ⟨b39,c39,rfl,o39⟩
    refine⟨[A39],by simp,?_⟩
    apply zAb (k+1,_,_,_,_)
    ·exact .sub (by repeat (first|exact .slnil|apply List.Sublist.cons_cons|apply List.Sublist.cons))
    ·exact frI
    ·repeat' (first|exact trivial|refine⟨by first|rfl|simp [Blk.ent],?_⟩)
    ·try dsimp only
     exact⟨oO,by rw[hxs];exact zGt (p:=zSw x s (x.atoms[i.toNat]?.getD default) ce) oO aA,aA⟩
    try dsimp only
    omega
   apply zAb (k+1,xs,B,ib,ic)
   ·exact .sub (by repeat (first|exact .slnil|apply List.Sublist.cons_cons|apply List.Sublist.cons))
   ·exact frI
   ·repeat' (first|exact trivial|refine⟨by first|rfl|simp [Blk.ent],?_⟩)
   ·try dsimp only
    exact⟨oO,by rw[←zFL (p:=zSw x s (x.atoms[i.toNat]?.getD default) ce) oO aA];exact hxs,oB⟩
   try dsimp only
   omega
  simp at q32
  (have hke:k=t.bag.items.length:=oO;rw[hke,List.take_length,zDG hW] at hxs;exact⟨AcS++B,zRd ‹zAH g=true› hsh hii hcc ht hxs ocS oB,rlB⟩)
 exact trivial
end
section
attribute [local irreducible] IntKind.wrap zA0 zAj zAS zA2
open Classical in
noncomputable def zMC (g:Graph) (x:Query) (v:List Int):Bool:=decide (zIy g x v)
theorem zUu {g:Graph} {x:Query} {v:List Int} {i:Nat} (hi:i < x.atoms.length) (h:¬z5v g x i (tv (zAj x.atoms) v (x.atoms[i]?.getD default).from').toNat (tv (zAj x.atoms) v (x.atoms[i]?.getD default).to).toNat):zMC g x v=false:=by
 classical
 exact decide_eq_false fun e=>h (e.1 i hi)
theorem zGz {g:Graph} {x:Query} {v:List Int}:zMC g x v=true↔zIy g x v:=by
 classical
 exact decide_eq_true_iff
theorem zL7 {g:Graph} {x:Query} {v:List Int} {i:Nat} (h:zJF g x v i) (hi:i=x.atoms.length):zMC g x v=zFK (zAj x.atoms) x.filters v x.filters.length:=by
 subst hi
 rw[Bool.eq_iff_iff,zGz]
 exact⟨fun e=>e.2,fun e=>⟨h,e⟩⟩
theorem zZy {g:Graph} {x:Query} {v:List Int} (h:zMC g x v=false):¬zIy g x v:=fun e=>by rw[zGz.2 e] at h;cases h
theorem z7Y {n:Nat} {m:List Nat} {R:Nat→Nat→Prop} (h:RepI n m R) (hn:n≤12) (u:Nat):m[u]?.getD 0 < 4294967296:=zG1 h.small oO u
theorem z2T {g:Graph} (hg:g.size≤12) {vs:List Int} (hv:∀ y∈vs,0≤y∧y < g.size):∀ y∈vs,okI y:=fun y hy=>by have:=hv y hy;unfold okI;omega
theorem z2U (lq:List Value) (b:Option Addr) (m c:Nat) (b2:Option Addr) (c2:Nat) (b3:Option Addr) (m3 c3:Nat) (g:Graph) (x:Query) (ms:List (List Nat)) (vs:List Int) (hg:1≤g.size∧g.size≤12) (hx:zAS x=true) (hR:zZs g x ms x.atoms.length) (hl:vs.length=(zAj x.atoms).length) (hv:∀ y∈vs,0≤y∧y < g.size) :
  Ct prog 80 [.agg ⟨lq⟩,.slice b m c,.agg ⟨[.slice b2 (zAj x.atoms).length c2,.slice b3 m3 c3]⟩] []
   (fun H=>zAL.rd H lq x∧(gSl 184 zZW).rd H [.slice b m c] ms∧(gSl 9 gS).rd H [.slice b2 (zAj x.atoms).length c2] (zAj x.atoms)∧(gSl 3 gI).rd H [.slice b3 m3 c3] vs)
   (fun v A=>v = .bool (zMC g x vs)∧A=[]):=by
 refine Ct.intro0 zAh func80 rfl rfl rfl fun E H hp=>?_
 obtain⟨hp,hm,hns,hvs⟩:=hp
 obtain⟨rfl,hcm,hlm⟩:=zAp hm
 obtain⟨b1p,c1p,b2p,c2p,b3p,c3p,rfl,h1p,h2p,h3p⟩:=zAy.1 hp
 obtain⟨hal,hqo,hqf⟩:=zBW hx
 have hml:=hR.1
 have hok:=z2T hg.2 hv
 refine⟨fun x0=>?_⟩
 refine⟨fun x1=>?_⟩
 apply zAg (α:=(Nat)) zAh [13,14,15,16,8,7,17,18,19,20,21,22,23,24,25,26,27,28,29,30,31,32,33,34,6,35,12] (fun z=>[(12,.v (.int .i64 z))]) (fun z=>[{ id:=x0,cs:=[Value.bool x.each,Value.slice b1p x.out.length c1p,Value.slice b2p x.atoms.length c2p,Value.slice b3p x.filters.length c3p],ty:=(43:Nat) },{ id:=x1,cs:=[Value.slice b2 (zAj x.atoms).length c2,Value.slice b3 m3 c3],ty:=(134:Nat) }]) (fun z=>[H]) (fun z=>x.atoms.length-z) (fun z=>z≤x.atoms.length∧zJF g x vs z) ((0))
 ·exact frI
 ·exact⟨rfl,rfl,trivial⟩
 ·exact⟨Nat.zero_le _,fun k hk=>absurd hk (Nat.not_lt_zero _)⟩
 ·exact .refl _
 rintro i hI
 obtain⟨hi,ha⟩:i≤x.atoms.length∧zJF g x vs i:=hI
 try dsimp only
 constructor<;>intro q2
 ·simp at q2
  obtain⟨hf1,hf2⟩:=zQ2 (ats:=x.atoms) (k:=i) oO
  have hRi:=hR.2 i oO
  have hu:=zDP hg.1 hv (zIF (zAj x.atoms) (x.atoms[i]?.getD default).from').toNat
  have hw:=zDP hg.1 hv (zIF (zAj x.atoms) (x.atoms[i]?.getD default).to).toNat
  have hrl:=hRi.len
  have hsm:(ms[i]?.getD [])[(vs[(zIF (zAj x.atoms) (x.atoms[i]?.getD default).from').toNat]?.getD 0).toNat]?.getD default < 4294967296:=z7Y hRi oO _
  refine zAf h2p ?_ ?_ fun b3 o3 hb3=>?_
  ·omega
  ·omega
  refine zAd default (i) rfl h2p ?_ ?_ hb3 rfl (zAa 0 rfl) fun l4 hl4=>?_
  ·omega
  ·omega
  obtain⟨rfl,w0x4,w1x4,w2x4⟩:=zAT.1 hl4
  refine⟨fun x5=>?_⟩
  refine zBr zAh zAK none (.q 0 (.q 1 (.q 2 (.q 3 (.q 4 (.q 5 (.q 6 (.q 10 (.q 11 (.q 12 (.f 7 (.q 8 (.q 9 (.f 13 (.q 14 (.q 15 (.q 16 (.q 17 (.nil))))))))))))))))))) (by decide +kernel) ?_
  refine zAf hm ?_ ?_ fun b6 o6 hb6=>?_
  ·omega
  ·omega
  refine zAd [] (i) rfl hm ?_ ?_ hb6 rfl (zAa 0 rfl) fun l7 hl7=>?_
  ·omega
  ·omega
  obtain⟨u7,w7,rfl,hl7⟩:=zCD hl7
  refine zAe (zCo _ _ _ _ _ _ (zAj x.atoms) vs _ aA oO) ⟨Rp.mono _ (zAk sI) hns,Rp.mono _ (zAk sI) hvs⟩ ?_
  rintro _ rfl
  refine VC.intro ?_ ?_
  ·exact fun _ h=>h
  refine zAf hl7 ?_ ?_ fun b9 o9 hb9=>?_
  ·omega
  ·omega
  refine zAF default hl7 ?_ ?_ hb9 rfl (zAa 0 rfl) fun l10 hl10=>?_
  ·omega
  ·omega
  obtain⟨rfl,hw10⟩:=hl10;simp only[flU] at hw10
  refine zAe (zCo _ _ _ _ _ _ (zAj x.atoms) vs _ aA oO) ⟨Rp.mono _ (zAk sI) hns,Rp.mono _ (zAk sI) hvs⟩ ?_
  rintro _ rfl
  refine VC.intro ?_ ?_
  ·exact fun _ h=>h
  refine VC.intro ?_ ?_
  ·(rw[zV2];omega)
  constructor<;>intro q12
  ·rw[zY6 hsm oO] at q12
   simp at q12
   exact⟨[],⟨by rw[zUu (i:=i) oO (mt (hRi.rows _ _ (by unfold tv;omega) (by unfold tv;omega)).2 (z5D aA))],rfl⟩,.mem sI⟩
  rw[zY6 hsm oO] at q12
  simp at q12
  apply zAb (i+1)
  ·exact .refl _
  ·exact frI
  ·exact⟨rfl,rfl,trivial⟩
  ·exact⟨oO,zLW ha ((hRi.rows _ _ (by unfold tv;omega) (by unfold tv;omega)).1 (zZa aA))⟩
  omega
 simp at q2
 refine zAe (zJG _ _ _ _ _ _ _ _ _ (zAj x.atoms) vs x.filters hqf oO hok) ⟨Rp.mono _ (zAk sI) hns,Rp.mono _ (zAk sI) hvs,(Rp.mono _ (zAa 0 rfl) h3p)⟩ ?_
 rintro _ rfl
 exact⟨[],⟨by rw[zL7 ha oO],rfl⟩,.mem sI⟩
end
section
attribute [local irreducible] IntKind.wrap zA0 zAj zAS zA2
def zZz (g:Graph) (x:Query) (ms:List (List Bool)) (k:Nat):Prop:=ms.length=k∧∀ i,i < k→RepS g.size.toNat (ms[i]?.getD []) (z5v g x i)
theorem zZA {g:Graph} {x:Query} {ms:List (List Bool)} {k:Nat} {m:List Bool} (h:zZz g x ms k) (hm:RepS g.size.toNat m (z5v g x k)):zZz g x (ms++[m]) (k+1):=by
 obtain⟨h1,h2⟩:=h
 refine⟨by rw[List.length_append,h1];rfl,fun i hi=>?_⟩
 by_cases e:i=k
 ·subst e
  rw[List.getElem?_append_right oO,h1,Nat.sub_self]
  exact hm
 rw[List.getElem?_append_left oO]
 exact h2 i oO
abbrev gBL:Gt (List Bool):=gSl 4 gB
theorem z8q {ls:List (zC4 gBL.size)} {xs:List (List Bool)} {As:List Hp} (hL:OwL gBL ls xs As) (i:Nat) (hi:i < xs.length):∃ (u:Option Addr) (w:Nat) (B R:Hp),ls[i]?=some ⟨[.slice u (xs[i]?.getD []).length w],rfl,rfl⟩∧(gSl 4 gB).ow [.slice u (xs[i]?.getD []).length w] (xs[i]?.getD []) B∧As.flatten.Perm (B++R):=by
 obtain⟨e1,e2⟩:=hL.len
 have hg:=hL.get i hi oO oO
 have hg0:=hg
 obtain⟨v,l1,B0,As1,ev,ho,hp1,hl⟩:=hg0
 obtain⟨base,cap,e,_,_⟩:=ho.rd
 have e3:=hl.len.1
 have e4:(ls[i]'oO).1=[.slice base (xs[i]?.getD []).length cap]:=by
  rw[List.getElem?_eq_getElem hi,Option.getD_some,←e3,ev];exact e
 refine⟨base,cap,As[i]'oO,(As.take i++As.drop (i+1)).flatten,?_,?_,?_⟩
 ·rw[List.getElem?_eq_getElem oO];congr 1;exact Subtype.ext e4
 ·rw[←e4]
  have h2:xs[i]?.getD []=xs[i]:=by rw[List.getElem?_eq_getElem hi];rfl
  rw[h2]
  exact hg
 conv=>lhs;rw[←List.take_append_drop i As]
 rw[List.drop_eq_getElem_cons (by omega:i < As.length)]
 simp only[List.flatten_append,List.flatten_cons]
 rw[←List.append_assoc,←List.append_assoc]
 exact List.perm_append_comm.append_right _
def z8r (s:Nat):Rp (zC4 s) where
 size:=s
 rd _ l x:=l=x.1
 mono _ h:=h
 len {_ _ x} h:=by rw[h];exact x.2.1
theorem z5U {s:Nat} {hs:0 < s} {T:TypeId} {v:Value} {ls:List (zC4 s)} {A0:Hp} (ho:Ow (zBF s hs) T v ls A0):(zF0 (z8r s)).rd A0 [v] ls:=by
 obtain⟨base,cap,e,h1,h2⟩:=ho.rd
 refine⟨base,cap,e,h1,fun i hi=>?_⟩
 obtain⟨b,o,l',h3,h4,h5⟩:=h2 i hi
 exact⟨b,o,l',h3,h4,h5.1⟩
theorem zVX (lg lq:List Value) (g:Graph) (x:Query) (hg:zAH g=true) (hx:zAS x=true) (hz:zAL.sz x≤1048576) :
  Ct prog 59 [.agg ⟨lg⟩,.agg ⟨lq⟩] [] (fun H=>zBz.rd H lg g∧zAL.rd H lq x)
   (fun v D=>∃ b c ms,v = .slice b ms.length c∧(gSl 167 (gSl 4 gB)).ow [.slice b ms.length c] ms D∧zZz g x ms x.atoms.length):=by
 refine Ct.intro0 zAh func59 rfl rfl rfl fun E H hp=>?_
 obtain⟨hp,hq⟩:=hp
 obtain⟨b1g,c1g,rfl,w0g,h1g⟩:=zAY.1 hp
 obtain⟨b1p,c1p,b2p,c2p,b3p,c3p,rfl,h1p,h2p,h3p⟩:=zAy.1 hq
 have hal:=(zBW hx).1
 refine⟨fun x0=>?_⟩
 refine⟨fun x1=>?_⟩
 refine⟨fun x2=>?_⟩
 apply zAg (α:=(Nat)×(List (List Bool))×(Hp)×(Option Addr)×(Nat)) zAh [11,12,13,14,15,19,20,21,22,23,24,25,18,26,27,7,8,28,29,30,9,31,32,33,34,35,36,37,38,39,5,16,17,6] (fun z=>[(6,.v (.int .i64 z.1)),(5,.v (.slice z.2.2.2.1 z.2.1.length z.2.2.2.2))]) (fun z=>[{ id:=x0,cs:=[Value.int IntKind.i64 g.size,Value.slice b1g g.edges.length c1g],ty:=(53:Nat) },{ id:=x1,cs:=[Value.bool x.each,Value.slice b1p x.out.length c1p,Value.slice b2p x.atoms.length c2p,Value.slice b3p x.filters.length c3p],ty:=(43:Nat) }]) (fun z=>[z.2.2.1,H]) (fun z=>x.atoms.length-z.1) (fun z=>z.1≤x.atoms.length∧zZz g x z.2.1 z.1∧(gSl 167 (gSl 4 gB)).ow [.slice z.2.2.2.1 z.2.1.length z.2.2.2.2] z.2.1 z.2.2.1) ((0,[],[],_,0))
 ·exact frI
 ·exact⟨rfl,rfl,trivial⟩
 ·try dsimp only
  exact⟨Nat.zero_le _,⟨rfl,fun i hi=>absurd hi (Nat.not_lt_zero _)⟩,zAm _ _ _⟩
 ·exact .tl
 rintro ⟨i,ms,D,lb,lc⟩ hI
 try dsimp only at hI
 obtain⟨hi,hR,oD⟩:=hI
 try dsimp only
 constructor<;>intro q3
 ·simp at q3
  have hml:=hR.1
  have hpo:=z3D hx (by omega:i < x.atoms.length)
  obtain⟨hp1,hp2,hps⟩:=zA7 hpo
  refine zAf h2p ?_ ?_ fun b4 o4 hb4=>?_
  ·omega
  ·omega
  refine zAw default (i) 1 rfl h2p ?_ ?_ hb4 rfl (by decide) (zAa 1 rfl) fun l5 hl5=>?_
  ·omega
  ·omega
  obtain⟨rfl,w0x5,w1x5,w2x5⟩:=zAT.1 hl5
  refine zAi (zEC _ ?_) trivial ?_
  ·exact Nat.le_trans (zDC hz oO) (by decide)
  rintro v6 A6 o6
  obtain⟨bR,cR,rfl,oR⟩:=o6
  refine⟨fun x7=>?_⟩
  refine zCW (zNM _ _ g (zBd (x.atoms[i]?.getD default).path) hg hpo) ⟨Rp.mono _ (zAk sI) hp,zBM.2 ⟨_,_,rfl,Rp.mono _ (zAk sI) (Gt.owrd _ oR)⟩⟩ ?_
  rintro v8 A8 o8
  obtain⟨bF,cF,mF,rfl,oF,hF⟩:=o8
  have hfl:=hF.len
  obtain⟨v9,ls,A0,As,ev9,hoB,hpB,hLB⟩:=oF
  cases ev9
  have hls:=hLB.len
  obtain⟨u9,w9,B9,R9,hz9,hrB,hpR⟩:=z8q hLB ((zBd (x.atoms[i]?.getD default).path).pieces.length-1) oO
  have rz:=z5U hoB
  have hz8:(ls[(IntKind.i64.wrap ((mF.length:Int)-1)).toNat]?.getD default).1=[Value.slice u9 (mF[(zBd (x.atoms[i]?.getD default).path).pieces.length-1]?.getD []).length w9]:=(by rw[show (IntKind.i64.wrap ((mF.length:Int)-1)).toNat=(zBd (x.atoms[i]?.getD default).path).pieces.length-1 from by (rw[zAc oO oO];omega),hz9];rfl)
  refine⟨[A0,B9,R9],by simpa using hpB.trans (List.Perm.append_left _ hpR),?_⟩
  refine zAf rz ?_ ?_ fun b9 o9 hb9=>?_
  ·(simp (disch:=omega) only[zAc];omega)
  ·(simp (disch:=omega) only[zAc];omega)
  refine zAF default rz ?_ ?_ hb9 rfl (zAa 0 rfl) fun l10 hl10=>?_
  ·(simp (disch:=omega) only[zAc];omega)
  ·(simp (disch:=omega) only[zAc];omega)
  (have e10:=hl10;rw[show _=_ from e10,hz8])
  obtain⟨rfl,hw10⟩:=hl10
  refine⟨fun x11=>?_⟩
  refine zAC (g:=(gSl 4 gB)) (T:=167) zAh D _ [A0,R9,A6,H] ?_ oD (hrB) (List.mem_of_getElem? (i:=0) rfl) rfl rfl rfl rfl rfl rfl rfl rfl ?_ fun b12 c12 A12 o12=>?_
  ·exact rlA
  ·omega
  apply zAb (i+1,_,_,_,_)
  ·exact .sub (by repeat (first|exact .slnil|apply List.Sublist.cons_cons|apply List.Sublist.cons))
  ·exact frI
  ·exact⟨rfl,rfl,trivial⟩
  ·try dsimp only
   exact⟨oO,zZA hR (hF.rel _ oO),aA⟩
  try dsimp only
  omega
 simp at q3
 (have hie:i=x.atoms.length:=oO;subst hie;exact⟨_,⟨_,_,_,rfl,oD,hR⟩,rlB⟩)
end
section
attribute [local irreducible] IntKind.wrap zA0 zAj zAS zA2
theorem z3I {n:Nat} {s a b:Int} (hs:s=n) (ha:0≤a) (hb:0≤b):(a * s+b).toNat=a.toNat * n+b.toNat:=by
 obtain⟨u,rfl⟩:∃ u:Nat,a=u:=⟨a.toNat,oO⟩
 obtain⟨v,rfl⟩:∃ v:Nat,b=v:=⟨b.toNat,oO⟩
 exact z7X hs u v
theorem z5V {a s:Int} (ha:0≤a∧a < s) (hs:1≤s∧s≤12):0≤a * s∧a * s+s≤s * s∧s * s≤144:=by
 have h1:0 * s≤a * s:=Int.mul_le_mul_of_nonneg_right ha.1 oO
 have h2:(a+1) * s≤s * s:=Int.mul_le_mul_of_nonneg_right oO oO
 have h3:s * s≤12 * 12:=Int.mul_le_mul hs.2 hs.2 oO oO
 rw[Int.add_mul] at h2
 omega
theorem zSF (lg lq:List Value) (b:Option Addr) (m c:Nat) (b2:Option Addr) (c2:Nat) (b3:Option Addr) (m3 c3:Nat) (g:Graph) (x:Query) (ms:List (List Bool)) (vs:List Int) (hg:1≤g.size∧g.size≤12) (hx:zAS x=true) (hR:zZz g x ms x.atoms.length) (hl:vs.length=(zAj x.atoms).length) (hv:∀ y∈vs,0≤y∧y < g.size) :
  Ct prog 60 [.agg ⟨lg⟩,.agg ⟨lq⟩,.slice b m c,.slice b2 (zAj x.atoms).length c2,.slice b3 m3 c3] []
   (fun H=>zBz.rd H lg g∧zAL.rd H lq x∧(gSl 167 (gSl 4 gB)).rd H [.slice b m c] ms∧(gSl 9 gS).rd H [.slice b2 (zAj x.atoms).length c2] (zAj x.atoms)∧(gSl 3 gI).rd H [.slice b3 m3 c3] vs)
   (fun v A=>v = .bool (zMC g x vs)∧A=[]):=by
 refine Ct.intro0 zAh func60 rfl rfl rfl fun E H hp=>?_
 obtain⟨hp,hq,hm,hns,hvs⟩:=hp
 obtain⟨rfl,hcm⟩:=zBo hm
 obtain⟨rfl,hcv,hlv⟩:=zAp hvs
 obtain⟨b1p,c1p,rfl,w0p,h1p⟩:=zAY.1 hp
 obtain⟨b1r,c1r,b2r,c2r,b3r,c3r,rfl,h1r,h2r,h3r⟩:=zAy.1 hq
 obtain⟨hal,hqo,hqf⟩:=zBW hx
 have hml:=hR.1
 have hok:=z2T hg.2 hv
 obtain⟨n,hn⟩:∃ n:Nat,g.size.toNat=n:=⟨_,rfl⟩
 have hgs:g.size=(n:Int):=by omega
 refine⟨fun x0=>?_⟩
 refine⟨fun x1=>?_⟩
 apply zAg (α:=(Nat)) zAh [15,16,17,18,19,22,23,24,25,26,27,28,29,30,31,32,12,33,34,35,36,37,38,39,40,41,42,43,13,44,45,46,47,48,49,50,51,52,53,54,55,56,10,20,21,11] (fun z=>[(11,.v (.int .i64 z))]) (fun z=>[{ id:=x0,cs:=[Value.int IntKind.i64 g.size,Value.slice b1p g.edges.length c1p],ty:=(53:Nat) },{ id:=x1,cs:=[Value.bool x.each,Value.slice b1r x.out.length c1r,Value.slice b2r x.atoms.length c2r,Value.slice b3r x.filters.length c3r],ty:=(43:Nat) }]) (fun z=>[H]) (fun z=>x.atoms.length-z) (fun z=>z≤x.atoms.length∧zJF g x vs z) ((0))
 ·exact frI
 ·exact⟨rfl,rfl,trivial⟩
 ·exact⟨Nat.zero_le _,fun k hk=>absurd hk (Nat.not_lt_zero _)⟩
 ·exact .refl _
 rintro i hI
 obtain⟨hi,ha⟩:i≤x.atoms.length∧zJF g x vs i:=hI
 try dsimp only
 constructor<;>intro q2
 ·simp at q2
  obtain⟨hf1,hf2⟩:=zQ2 (ats:=x.atoms) (k:=i) oO
  have hRi:=hR.2 i oO
  have hi1:=zDE hf1
  have hi2:=zDE hf2
  have hu:=zDP hg.1 hv (zIF (zAj x.atoms) (x.atoms[i]?.getD default).from').toNat
  have hw:=zDP hg.1 hv (zIF (zAj x.atoms) (x.atoms[i]?.getD default).to).toNat
  have hmr:=z5V hu hg
  have hrl:(((ms[i]?.getD []).length:Nat):Int)=g.size * g.size:=(by rw[hRi.len,hn,hgs];push_cast;rfl)
  refine zAf h2r ?_ ?_ fun b3 o3 hb3=>?_
  ·omega
  ·omega
  refine zAw default (i) 0 rfl h2r ?_ ?_ hb3 rfl (by decide) (zAa 0 rfl) fun l4 hl4=>?_
  ·omega
  ·omega
  obtain⟨rfl,w0x4,w1x4,w2x4⟩:=zAT.1 hl4
  refine zAe (zCn _ _ _ (zAj x.atoms) _) (Rp.mono _ (zAa 0 rfl) hns) ?_
  rintro _ rfl
  refine zAf hvs ?_ ?_ fun b6 o6 hb6=>?_
  ·omega
  ·omega
  refine zAF 0 hvs ?_ ?_ hb6 rfl (zAa 0 rfl) fun l7 hl7=>?_
  ·omega
  ·omega
  obtain⟨rfl,hw7⟩:=hl7;simp only[zAx,zAs,okI] at hw7
  refine zAf h2r ?_ ?_ fun b8 o8 hb8=>?_
  ·omega
  ·omega
  refine zAw default (i) 2 rfl h2r ?_ ?_ hb8 rfl (by decide) (zAa 0 rfl) fun l9 hl9=>?_
  ·omega
  ·omega
  obtain⟨rfl,w0x9,w1x9,w2x9⟩:=zAT.1 hl9
  refine zAe (zCn _ _ _ (zAj x.atoms) _) (Rp.mono _ (zAa 0 rfl) hns) ?_
  rintro _ rfl
  refine zAf hvs ?_ ?_ fun b11 o11 hb11=>?_
  ·omega
  ·omega
  refine zAF 0 hvs ?_ ?_ hb11 rfl (zAa 0 rfl) fun l12 hl12=>?_
  ·omega
  ·omega
  obtain⟨rfl,hw12⟩:=hl12;simp only[zAx,zAs,okI] at hw12
  refine zBr zAh zAK none (.q 0 (.q 1 (.q 2 (.q 3 (.q 4 (.q 5 (.q 6 (.q 7 (.q 8 (.q 9 (.q 10 (.q 11 (.q 12 (.nil)))))))))))))) (by decide +kernel) ?_
  refine zAf hm ?_ ?_ fun b13 o13 hb13=>?_
  ·omega
  ·omega
  refine zAd [] (i) rfl hm ?_ ?_ hb13 rfl (zAa 0 rfl) fun l14 hl14=>?_
  ·omega
  ·omega
  obtain⟨u14,w14,rfl,hl14⟩:=zCD hl14
  refine zAf hl14 ?_ ?_ fun b15 o15 hb15=>?_
  ·(simp (disch:=omega) only[zAc];omega)
  ·(simp (disch:=omega) only[zAc];omega)
  refine zAF false hl14 ?_ ?_ hb15 rfl (zAa 0 rfl) fun l16 hl16=>?_
  ·(simp (disch:=omega) only[zAc];omega)
  ·(simp (disch:=omega) only[zAc];omega)
  obtain⟨rfl,hw16⟩:=hl16
  constructor<;>intro q17
  ·simp at q17
   simp (disch:=omega) only[zAc] at q17
   exact⟨[],⟨by rw[zUu (i:=i) oO (mt (hRi.rows _ _ (by unfold tv;omega) (by unfold tv;omega)).2 (zKw aA (by rw[hn];exact z3I hgs hu.1 hw.1)))],rfl⟩,.mem sI⟩
  simp at q17
  simp (disch:=omega) only[zAc] at q17
  apply zAb (i+1)
  ·exact .refl _
  ·exact frI
  ·exact⟨rfl,rfl,trivial⟩
  ·exact⟨oO,zLW ha ((hRi.rows _ _ (by unfold tv;omega) (by unfold tv;omega)).1 (zL4 aA (by rw[hn];exact z3I hgs hu.1 hw.1)))⟩
  omega
 simp at q2
 apply zAg (α:=(Nat)) zAh [57,58,59,60,61,64,65,66,67,68,69,70,71,72,10,62,63,14] (fun z=>[(14,.v (.int .i64 z))]) (fun z=>[{ id:=x0,cs:=[Value.int IntKind.i64 g.size,Value.slice b1p g.edges.length c1p],ty:=(53:Nat) },{ id:=x1,cs:=[Value.bool x.each,Value.slice b1r x.out.length c1r,Value.slice b2r x.atoms.length c2r,Value.slice b3r x.filters.length c3r],ty:=(43:Nat) }]) (fun z=>[H]) (fun z=>x.filters.length-z) (fun z=>z≤x.filters.length∧zFK (zAj x.atoms) x.filters vs z=true) ((0))
 ·exact frI
 ·exact⟨rfl,rfl,trivial⟩
 ·exact⟨Nat.zero_le _,rfl⟩
 ·exact .refl _
 rintro k hI
 try dsimp only at hI
 obtain⟨hk,hpk⟩:=hI
 try dsimp only
 constructor<;>intro q18
 ·simp at q18
  refine zAf h3r ?_ ?_ fun b19 o19 hb19=>?_
  ·omega
  ·omega
  refine zAd default (k) rfl h3r ?_ ?_ hb19 rfl (zAa 0 rfl) fun l20 hl20=>?_
  ·omega
  ·omega
  obtain⟨rfl,w0x20,w1x20,w2x20,w3x20⟩:=zBj.1 hl20
  refine zAe (zHK _ _ _ _ _ _ _ (x.filters[k]?.getD default) (zAj x.atoms) (vs) ?_ ?_) ⟨(Rp.mono _ (zAa 0 rfl) hl20),(Rp.mono _ (zAa 0 rfl) hns),(Rp.mono _ (zAa 0 rfl) hvs)⟩ ?_
  ·simp_all
  ·omega
  rintro _ rfl
  constructor<;>intro q22
  ·simp at q22
   exact⟨[],⟨by rw[zL7 ha oO,zUo (k:=k) oO aA],rfl⟩,.mem sI⟩
  simp at q22
  apply zAb (k+1)
  ·exact .refl _
  ·exact frI
  ·exact⟨rfl,rfl,trivial⟩
  ·exact⟨oO,by rw[zJb,hpk,‹zHJ (zAj x.atoms) vs _=true›];rfl⟩
  omega
 simp at q18
 (have hke:k=x.filters.length:=oO;subst hke;exact⟨[],⟨by rw[zL7 ha oO,hpk],rfl⟩,.mem sI⟩)
theorem zZB (lq:List Value) (b1:Option Addr) (m1 c1:Nat) (b2:Option Addr) (m2 c2:Nat) (x:Query) (ns:List ByteArray) (vs:List Int) (hh:∀ s∈x.out,zBI ns s=true) (hl:ns.length≤vs.length) (hn:x.out.length≤1000) (hv:∀ y∈vs,okI y) :
  Ct prog 61 [.agg ⟨lq⟩,.slice b1 m1 c1,.slice b2 m2 c2] [] (fun H=>zAL.rd H lq x∧(gSl 9 gS).rd H [.slice b1 m1 c1] ns∧(gSl 3 gI).rd H [.slice b2 m2 c2] vs)
   (fun v D=>∃ b c,v = .slice b (x.out.map (tv ns vs)).length c∧(gSl 3 gI).ow [.slice b (x.out.map (tv ns vs)).length c] (x.out.map (tv ns vs)) D):=by
 refine Ct.intro0 zAh func61 rfl rfl rfl fun E H hp=>?_
 obtain⟨hp,hq,hr⟩:=hp
 obtain⟨b1p,c1p,b2p,c2p,b3p,c3p,rfl,h1p,h2p,h3p⟩:=zAy.1 hp
 obtain⟨rfl,hcl,hl1⟩:=zAp hq
 obtain⟨rfl,hcl2,hl2⟩:=zAp hr
 refine⟨fun x0=>?_⟩
 refine⟨fun x1=>?_⟩
 apply zAg (α:=(Nat)×(List Int)×(Hp)×(Option Addr)×(Nat)) zAh [10,11,12,13,14,17,18,19,20,21,22,23,24,25,26,27,28,29,7,15,16,8] (fun z=>[(8,.v (.int .i64 z.1)),(7,.v (.slice z.2.2.2.1 z.2.1.length z.2.2.2.2))]) (fun z=>[{ id:=x0,cs:=[Value.bool x.each,Value.slice b1p x.out.length c1p,Value.slice b2p x.atoms.length c2p,Value.slice b3p x.filters.length c3p],ty:=(43:Nat) }]) (fun z=>[z.2.2.1,[(x1,Obj.cells { toList:=zAX 0 [Value.int IntKind.i64 (0:Int)] } 3)],H]) (fun z=>x.out.length-z.1) (fun z=>z.1≤x.out.length∧z.2.1=(x.out.take z.1).map (tv ns vs)∧(gSl 3 gI).ow [.slice z.2.2.2.1 z.2.1.length z.2.2.2.2] z.2.1 z.2.2.1) ((0,[],[],_,0))
 ·exact frI
 ·exact⟨rfl,trivial⟩
 ·try dsimp only
  exact⟨Nat.zero_le _,rfl,zAm _ _ _⟩
 ·exact .refl _
 rintro ⟨k,out,D,lb,lc⟩ hI
 try dsimp only at hI
 obtain⟨hk,ho,oD⟩:=hI
 try dsimp only
 constructor<;>intro q2
 ·simp at q2
  have hhk:=hh (x.out[k]?.getD ByteArray.empty) (by rw[List.getElem?_eq_getElem oO];exact List.getElem_mem _)
  have hol:out.length≤k:=(by rw[ho,List.length_map];exact List.length_take_le ..)
  have hir:=zDE hhk
  refine zAf h1p ?_ ?_ fun b3 o3 hb3=>?_
  ·omega
  ·omega
  refine zAd ByteArray.empty (k) rfl h1p ?_ ?_ hb3 rfl (zAa 2 rfl) fun l4 hl4=>?_
  ·omega
  ·omega
  obtain⟨rfl,hw4⟩:=hl4;simp only[zAx,zAs,okI] at hw4
  refine zAe (zCn _ _ _ (ns) _) (Rp.mono _ (zAa 2 rfl) hq) ?_
  rintro _ rfl
  refine zAf hr ?_ ?_ fun b6 o6 hb6=>?_
  ·omega
  ·omega
  refine zAF 0 hr ?_ ?_ hb6 rfl (zAa 2 rfl) fun l7 hl7=>?_
  ·omega
  ·omega
  obtain⟨rfl,hw7⟩:=hl7;simp only[zAx,zAs,okI] at hw7
  refine⟨fun x8=>?_⟩
  refine zAC (g:=gI) (T:=3) zAh D [] [[(x1,Obj.cells { toList:=zAX 0 [Value.int IntKind.i64 (0:Int)] } 3)],H] ?_ oD (zCN ?_) (List.mem_of_getElem? (i:=0) rfl) rfl rfl rfl rfl rfl rfl rfl rfl ?_ fun b9 c9 A9 o9=>?_
  ·exact .tl
  ·trivial
  ·omega
  apply zAb (k+1,_,_,_,_)
  ·exact .refl _
  ·exact frI
  ·exact⟨rfl,trivial⟩
  ·try dsimp only
   exact⟨oO,by rw[zQy oO,ho];rfl,aA⟩
  try dsimp only
  omega
 simp at q2
 (have hke:k=x.out.length:=oO;subst hke;rw[List.take_length] at ho;subst ho;exact⟨_,⟨_,_,rfl,oD⟩,rlB⟩)
end
section
attribute [local irreducible] IntKind.wrap zA0 zAj zAS zA2
def zJY (x:Query) (xs:List Item):List Item:=if x.each=true then xs.map zFn else xs
theorem zEl {x:Query} {xs:List Item} (h:x.each=true):zJY x xs=xs.map zFn:=if_pos h
theorem zFP {x:Query} {xs:List Item} (h:x.each=false):zJY x xs=xs:=if_neg (by rw[h];decide)
theorem zZC (lq:List Value) (b:Option Addr) (c:Nat) (x:Query) (xs:List Item) (B:Hp) (ho:(gSl 100 zAo).ow [.slice b xs.length c] xs B) (hs:zDj.sz ⟨xs⟩≤1048576) :
  CtR prog 83 [.agg ⟨lq⟩,.agg ⟨[.slice b xs.length c]⟩] B (fun H=>zAL.rd H lq x) (fun v D=>∃ b c,v = .agg ⟨[.slice b (zJY x xs).length c]⟩∧(gSl 100 zAo).ow [.slice b (zJY x xs).length c] (zJY x xs) D):=by
 refine CtR.intro zAh [B] func83 rfl rfl rfl sI fun E H hp=>?_
 obtain⟨b1p,c1p,b2p,c2p,b3p,c3p,rfl,h1p,h2p,h3p⟩:=zAy.1 hp
 have rB:zDj.rd B [.slice b xs.length c] ⟨xs⟩:=zAD.2 ⟨b,c,rfl,Gt.owrd _ ho⟩
 refine⟨fun x0=>?_⟩
 refine⟨fun x1=>?_⟩
 refine⟨fun x2=>?_⟩
 constructor<;>intro q3
 ·refine zAi (zMv _ ({ items:=xs }) ?_) (Rp.mono _ (zAa 0 rfl) rB) ?_
  ·trivial
  rintro v4 A4 o4
  obtain⟨b4,c4,rfl,o4⟩:=o4
  try dsimp only
  (rw[zEl aA];exact⟨_,⟨_,_,rfl,aA⟩,rlB⟩)
 (rw[zFP aA];exact⟨_,⟨_,_,rfl,ho⟩,rlB⟩)
theorem zRe {g:Graph} {x:Query} {j:Nat} {xs:List Item} (hg:1≤g.size∧g.size≤12) (ho:x.out.length≤4) (hx:xs=zCA g x j) (h:zMC g x (zDa g x j)=false):xs=zCA g x (j+1):=by
 rw[hx,zSs (zZy h)]
def z2V (g:Graph) (x:Query) (f:Bool) (j:Nat) (w:List Int):Prop:=(f=true∧j < cntV g x∧w=zDa g x j)∨(f=false∧j=cntV g x)
theorem zNN {g:Graph} {x:Query} {j:Nat} {w:List Int} {v:Value} (h:z5L g.size.toNat (zAj x.atoms).length j w v):∃ f,v = .bool f∧z2V g x f (j+1) w:=by
 rcases h with ⟨h1,h2,h3⟩|⟨h1,h2⟩
 ·exact⟨true,h1,.inl ⟨rfl,h2,h3⟩⟩
 exact⟨false,h1,.inr ⟨rfl,h2⟩⟩
theorem z2W {g:Graph} {x:Query} {f:Bool} {j:Nat} {w:List Int} (h:z2V g x f j w) (hf:f=true):j < cntV g x∧w=zDa g x j:=by
 rcases h with h|h
 ·exact h.2
 rw[h.1] at hf;cases hf
theorem zZD {g:Graph} {x:Query} {f:Bool} {j:Nat} {w:List Int} (h:z2V g x f j w) (hf:f=false):j=cntV g x:=by
 rcases h with h|h
 ·rw[h.1] at hf;cases hf
 exact h.2
theorem zUv {g:Graph} (hg:1≤g.size∧g.size≤12) (x:Query):0 < cntV g x:=Nat.pow_pos oO
theorem zZE {g:Graph} (hg:1≤g.size∧g.size≤12) {x:Query} (ho:x.out.length≤4) {j kp:Nat} (hj:j < cntV g x) {xs:List Item} (hx:xs=zCA g x j) (hl:xs.length≤300) (hh:zMC g x (zDa g x j)=true)
  (hat:zDo (x.out.map (tv (zAj x.atoms) (zDa g x j)))=true∧(0 < xs.length→(zBE xs 0).length=(x.out.map (tv (zAj x.atoms) (zDa g x j))).length)→atR xs (x.out.map (tv (zAj x.atoms) (zDa g x j))) kp) (hp:(zEE xs (x.out.map (tv (zAj x.atoms) (zDa g x j))) 1 kp).2=true) :
  (zEE xs (x.out.map (tv (zAj x.atoms) (zDa g x j))) 1 kp).1=zCA g x (j+1)∧(zEE xs (x.out.map (tv (zAj x.atoms) (zDa g x j))) 1 kp).1.length≤300:=by
 subst hx
 rcases zQU hg ho hj hl (zGz.1 hh) (r:=x.out.map (tv (zAj x.atoms) (zDa g x j))) rfl hat with h|h
 ·rw[h.1];exact⟨rfl,h.2⟩
 rw[h.1] at hp;cases hp
theorem zZF {g:Graph} (hg:1≤g.size∧g.size≤12) {x:Query} (ho:x.out.length≤4) {j kp:Nat} (hj:j < cntV g x) {xs:List Item} (hx:xs=zCA g x j) (hl:xs.length≤300) (hh:zMC g x (zDa g x j)=true)
  (hat:zDo (x.out.map (tv (zAj x.atoms) (zDa g x j)))=true∧(0 < xs.length→(zBE xs 0).length=(x.out.map (tv (zAj x.atoms) (zDa g x j))).length)→atR xs (x.out.map (tv (zAj x.atoms) (zDa g x j))) kp) (hp:(zEE xs (x.out.map (tv (zAj x.atoms) (zDa g x j))) 1 kp).2=false):¬(zMz g x).length≤300:=by
 subst hx
 rcases zQU hg ho hj hl (zGz.1 hh) (r:=x.out.map (tv (zAj x.atoms) (zDa g x j))) rfl hat with h|h
 ·rw[h.1] at hp;cases hp
 exact h.2
theorem zZG {g:Graph} {x:Query} {xs:List Item} (hx:xs=zMz g x) (h1:zAH g=true) (h2:zAS x=true) (h3:xs.length≤300):(zCU g x).1.items=zJY x xs∧(zCU g x).2=true:=by
 subst hx
 rw[zYW h1 h2 h3]
 exact⟨rfl,rfl⟩
theorem zRf {g:Graph} {x:Query} {xs:List Item} {b:Option Addr} {c:Nat} {D:Hp} (hx:xs=zMz g x) (h1:zAH g=true) (h2:zAS x=true) (h3:xs.length≤300) (o:(gSl 100 zAo).ow [.slice b (zJY x xs).length c] (zJY x xs) D) :
  ∃ (b':Option Addr) (c':Nat),Value.tuple ⟨[.agg ⟨[.slice b (zJY x xs).length c]⟩,.bool true]⟩ = .tuple #[.agg ⟨[.slice b' (zCU g x).1.items.length c']⟩,.bool (zCU g x).2]∧(gSl 100 zAo).ow [.slice b' (zCU g x).1.items.length c'] (zCU g x).1.items D:=by
 obtain⟨e1,e2⟩:=zZG hx h1 h2 h3
 rw[e1,e2]
 exact⟨b,c,rfl,o⟩
theorem zJI (bs:Option Addr) (m cp:Nat) (s:Int) (g:Graph) (x:Query) (j:Nat) (A:Hp) (hm:m=(zAj x.atoms).length) (hs:s=g.size) (hg:1≤g.size∧g.size≤12) (hj:j < cntV g x) (ho:(gSl 3 gI).ow [.slice bs m cp] (zDa g x j) A) :
  CtR prog 79 [.slice bs m cp,.int .i64 s] A (fun _=>True)
   (fun v D=>∃ w,z5L g.size.toNat (zAj x.atoms).length j w v∧w.length=(zAj x.atoms).length∧(gSl 3 gI).ow [.slice bs m cp] w D):=by
 subst hm
 obtain rfl:s=((g.size.toNat:Nat):Int):=by omega
 exact zSx bs cp g.size.toNat (zAj x.atoms).length j A ho oO hj
theorem zMD (lg lq:List Value) (g:Graph) (x:Query) (hz:zAL.sz x≤1048576) :
  Ct prog 28 [.agg ⟨lg⟩,.agg ⟨lq⟩] [] (fun H=>zBz.rd H lg g∧zAL.rd H lq x)
   (fun v D=>∃ b c,v = .tuple #[.agg ⟨[.slice b (zCU g x).1.items.length c]⟩,.bool (zCU g x).2]∧(gSl 100 zAo).ow [.slice b (zCU g x).1.items.length c] (zCU g x).1.items D):=by
 refine Ct.intro0 zAh func28 rfl rfl rfl fun E H hp=>?_
 obtain⟨hp,hq⟩:=hp
 obtain⟨b1p,c1p,rfl,w0p,h1p⟩:=zAY.1 hp
 obtain⟨b1r,c1r,b2r,c2r,b3r,c3r,rfl,h1r,h2r,h3r⟩:=zAy.1 hq
 have hal:=zCI hz
 refine⟨fun x0=>?_⟩
 refine⟨fun x1=>?_⟩
 refine⟨fun x2=>?_⟩
 refine zAe (zDO _ (g)) (Rp.mono _ (zAa 0 rfl) hp) ?_
 rintro _ rfl
 constructor<;>intro q4
 ·simp at q4
  (rw[zQS aA];exact⟨[],⟨_,_,rfl,zAm _ _ _⟩,.mem sI⟩)
 simp at q4
 refine zAe (zHn _ (x) ?_) (Rp.mono _ (zAa 0 rfl) hq) ?_
 ·trivial
 rintro _ rfl
 constructor<;>intro q6
 ·simp at q6
  (rw[zQT aA];exact⟨[],⟨_,_,rfl,zAm _ _ _⟩,.mem sI⟩)
 simp at q6
 obtain⟨hg1,hg2,hE⟩:=zEa ‹zAH g=true›
 have hg:1≤g.size∧g.size≤12:=oO
 obtain⟨⟨hq1,hq2,hq3⟩,hqo,hqf⟩:=zBW ‹zAS x=true›
 obtain⟨hn1,hn4⟩:=zDD ‹zAS x=true›
 have hol:=hqo.1
 refine zAi (zMB _ _ g x ‹zAH g=true› ‹zAS x=true› hz) ⟨(Rp.mono _ (zAa 0 rfl) hp),(Rp.mono _ (zAa 0 rfl) hq)⟩ ?_
 rintro v7 A7 o7
 obtain⟨bM,cM,ms,rfl,oM,hR⟩:=o7
 refine zAi (zCZ _ x ?_) (Rp.mono _ (zAa 1 rfl) hq) ?_
 ·trivial
 rintro v8 A8 o8
 obtain⟨bN,cN,rfl,oN⟩:=o8
 have rN:=Gt.owrd _ oN
 refine VCmake.intro ?_ ?_ ?_ ?_ fun x9=>?_
 ·omega
 ·omega
 ·omega
 ·omega
 refine⟨fun x10=>?_⟩
 refine⟨fun x11=>?_⟩
 apply zAg (α:=(Nat)×(Bool)×(List Int)×(Hp)×(List Item)×(Hp)×(Option Addr)×(Nat)) zAh [30,36,37,38,39,40,41,42,43,44,45,46,47,48,5,31,32,33,34,35,10] (fun z=>[(10,.v (.bool z.2.1)),(5,.v (.bool false))]) (fun z=>[⟨x0,[Value.int IntKind.i64 g.size,Value.slice b1p g.edges.length c1p],(53:Nat)⟩,⟨x1,[Value.bool x.each,Value.slice b1r x.out.length c1r,Value.slice b2r x.atoms.length c2r,Value.slice b3r x.filters.length c3r],(43:Nat)⟩,⟨x2,[Value.slice none (0:Nat) (0:Nat)],(47:Nat)⟩,⟨x10,[Value.slice bN (zAj x.atoms).length cN,Value.slice (some { block:=x9,off:=(0:Nat) }) (↑(zAj x.atoms).length:Int).toNat (↑(zAj x.atoms).length:Int).toNat],(134:Nat)⟩,⟨x11,[.slice z.2.2.2.2.2.2.1 z.2.2.2.2.1.length z.2.2.2.2.2.2.2],(47:Nat)⟩]) (fun z=>[z.2.2.2.2.2.1,z.2.2.2.1,A8,A7,H]) (fun z=>cntV g x-z.1) (fun z=>z2V g x z.2.1 z.1 z.2.2.1∧z.2.2.1.length=(zAj x.atoms).length∧z.2.2.2.2.1=zCA g x z.1∧z.2.2.2.2.1.length≤300∧(gSl 3 gI).ow [.slice (some ⟨x9,0,none⟩) (((zAj x.atoms).length:Nat):Int).toNat (((zAj x.atoms).length:Nat):Int).toNat] z.2.2.1 z.2.2.2.1∧(gSl 100 zAo).ow [.slice z.2.2.2.2.2.2.1 z.2.2.2.2.1.length z.2.2.2.2.2.2.2] z.2.2.2.2.1 z.2.2.2.2.2.1) ((0,true,zDa g x 0,_,[],[],none,0))
 ·exact frI
 ·repeat' (first|exact trivial|refine⟨by first|rfl|simp [Blk.ent],?_⟩)
 ·try dsimp only
  exact⟨.inl ⟨rfl,zUv hg x,rfl⟩,zCR _ _ _,rfl,by simp,by rw[show zDa g x 0=List.replicate (((zAj x.atoms).length:Nat):Int).toNat 0 from zOY _];exact zEY (g:=gI) (T:=3) (z:=0) (zCN (x:=0) (by unfold okI;omega)) (Nat.le_refl _) oO,zAm _ _ _⟩
 ·exact .refl _
 rintro ⟨j,fl,w,W,xs,B,ib,ic⟩ hI
 try dsimp only at hI
 obtain⟨hI,hwl,hxs,hxl,oW,oB⟩:=hI
 try dsimp only
 constructor<;>intro q12
 ·obtain⟨hj,hw⟩:=z2W hI aA
  subst hw
  have hav:=zO0 hg x j
  have hbw:=(zGw hg hol.2 (x:=x) j).1
  rw[←hxs] at hbw
  have hok:=z2T hg.2 hav
  refine zAe (z2U _ _ _ _ _ _ _ _ _ g x ms (zDa g x j) hg ‹zAS x=true› hR (zCR _ _ _) hav) ⟨(Rp.mono _ (zAa 4 rfl) hq),(Rp.mono _ (zAa 3 rfl) (Gt.owrd _ oM)),Rp.mono _ (zAk sI) rN,Rp.mono _ (zAk sI) (Gt.owrd _ oW)⟩ ?_
  rintro _ rfl
  constructor<;>intro q14
  ·refine zAi (zDg _ _ _ _ _ _ _ _ _ (zAj x.atoms) (zDa g x j) x.out (zJc hqo) oO oO hok) ⟨Rp.mono _ (zAk sI) rN,Rp.mono _ (zAk sI) (Gt.owrd _ oW),(Rp.mono _ (zAa 4 rfl) h1r)⟩ ?_
   rintro v15 A15 o15
   obtain⟨b15,c15,rfl,o15⟩:=o15
   refine zAr 4 (B) [A15,W,A8,A7,H] rfl ?_ (zYi _ _ _ xs _ _ _ _ (x.out.map (tv (zAj x.atoms) (zDa g x j))) 1 oB ?_ ?_ ?_ ?_) (Rp.mono _ (zAa 0 rfl) (Gt.owrd _ o15)) ?_
   ·exact rlA
   ·exact hbw.inv.1
   ·trivial
   ·trivial
   ·exact hbw.inv.2
   rintro _ A16 ⟨kp,bP,cP,AP,hat,rfl,rfl,oP⟩
   refine⟨_,_,[AP],rfl,zBO,?_⟩
   constructor<;>intro q17
   ·simp at q17
    (rw[zGx (zZF hg hol.2 hj hxs hxl aA hat aA)];exact⟨[],⟨_,_,rfl,zAm _ _ _⟩,.mem sI⟩)
   simp at q17
   refine zA1 (W) [AP,A15,A8,A7,H] (zJI _ _ _ _ g x j _ rfl rfl hg hj oW) ?_ trivial ?_
   ·exact rlA
   rintro _ AV ⟨wN,hwN,hlN,oN2⟩
   obtain⟨fN,rfl,hIN⟩:=zNN (g:=g) (x:=x) hwN
   refine⟨[AV],by simp,?_⟩
   apply zAM (j+1,fN,wN,AV,_,AP,_,_)
   ·exact frI
   ·repeat' (first|exact trivial|refine⟨by first|rfl|simp [Blk.ent],?_⟩)
   ·try dsimp only
    (obtain⟨e1,e2⟩:=zZE hg hol.2 hj hxs hxl aA hat aA;exact⟨hIN,hlN,e1,e2,aA,aA⟩)
   ·exact rlA
   try dsimp only
   omega
  refine zA1 (W) [B,A8,A7,H] (zJI _ _ _ _ g x j _ rfl rfl hg hj oW) ?_ trivial ?_
  ·exact rlA
  rintro _ AV ⟨wN,hwN,hlN,oN2⟩
  obtain⟨fN,rfl,hIN⟩:=zNN (g:=g) (x:=x) hwN
  refine⟨[AV],by simp,?_⟩
  apply zAM (j+1,fN,wN,AV,xs,B,ib,ic)
  ·exact frI
  ·repeat' (first|exact trivial|refine⟨by first|rfl|simp [Blk.ent],?_⟩)
  ·try dsimp only
   exact⟨hIN,hlN,zRe hg hol.2 hxs aA,hxl,aA,aA⟩
  ·exact rlA
  try dsimp only
  omega
 have hje:=zZD hI aA
 subst hje
 refine zA1 (B) [W,A8,A7,H] (zZC _ _ _ x xs _ oB ?_) ?_ (Rp.mono _ (zAa 3 rfl) hq) ?_
 ·exact zYz (zFJ.2 ⟨hxl,_,by rw[hxs];exact (zGw hg hol.2 (x:=x) _).1⟩)
 ·exact .refl _
 rintro _ A20 ⟨b20,c20,rfl,o20⟩
 refine⟨[A20],by simp,?_⟩
 exact⟨_,zRf hxs ‹zAH g=true› ‹zAS x=true› hxl aA,rlB⟩
end
section
attribute [local irreducible] IntKind.wrap zA0 zAj zAS zA2
theorem zME (l:List Value) (x:Bag) (hx:zDj.sz x≤1048576):Ct prog 62 [.agg ⟨l⟩] [] (fun H=>zDj.rd H l x) (fun v A=>∃ b c,v = .agg ⟨[.slice b (x.items.map zFn).length c]⟩∧(gSl 100 zAo).ow [.slice b (x.items.map zFn).length c] (x.items.map zFn) A):=by
 refine Ct.intro0 zAh func62 rfl rfl rfl fun E H hp=>?_
 obtain⟨b0p,c0p,rfl,h0p⟩:=zAD.1 hp
 have hl:=(zBo h0p).2
 refine⟨fun x0=>?_⟩
 refine⟨fun x1=>?_⟩
 refine zCW (zJs _ (x) ?_) (Rp.mono _ (zAa 0 rfl) hp) ?_
 ·trivial
 rintro v2 A2 o2
 obtain⟨l2,rfl,o2⟩:=o2
 obtain⟨bs,cs,As,rfl,hpm,os⟩:=zF5.1 o2
 refine⟨[As],by simpa using hpm,?_⟩
 refine⟨fun x3=>?_⟩
 apply zAg (α:=(Nat)×(Hp)) zAh [7,8,9,10,11,14,15,16,17,18,12,13,4] (fun z=>[(4,.v (.int .i64 z.1))]) (fun z=>[{ id:=x0,cs:=[Value.slice b0p x.items.length c0p],ty:=(47:Nat) },{ id:=x1,cs:=[Value.slice none (0:Nat) (0:Nat)],ty:=(47:Nat) },{ id:=x3,cs:=[Value.slice bs x.items.length cs],ty:=(47:Nat) }]) (fun z=>[z.2,H]) (fun z=>x.items.length-z.1) (fun z=>z.1≤x.items.length∧(gSl 100 zAo).ow [.slice bs x.items.length cs] (zLz x.items z.1) z.2) ((0,As))
 ·exact frI
 ·exact⟨rfl,rfl,rfl,trivial⟩
 ·try dsimp only
  exact⟨Nat.zero_le _,os⟩
 ·exact .refl _
 rintro ⟨k,V⟩ hI
 try dsimp only at hI
 obtain⟨hk,oV⟩:=hI
 try dsimp only
 constructor<;>intro q4
 ·simp at q4
  have hel:=zQr x.items k
  have hea:=zTP (by omega:k < x.items.length)
  refine zAf (Gt.owrd _ oV) ?_ ?_ fun b5 o5 hb5=>?_
  ·omega
  ·omega
  refine zBq zFy default (k) 0 rfl rfl oV ?_ ?_ hb5 rfl zHx _ (zCN ?_) fun A6 o6=>?_
  ·omega
  ·omega
  ·trivial
  apply zAb (k+1,_)
  ·exact .refl _
  ·exact frI
  ·exact⟨rfl,rfl,rfl,trivial⟩
  ·try dsimp only
   exact⟨oO,by rw[←zNl oO,←hea];assumption⟩
  try dsimp only
  omega
 simp at q4
 (have hke:k=x.items.length:=oO;rw[hke,zQs] at oV;exact⟨_,⟨bs,cs,by rw[List.length_map],by rw[List.length_map];exact oV⟩,rlB⟩)
theorem zGA (l:List Value) (ys:List Item) (hx:zDj.sz ⟨ys⟩≤1048576):Ct prog 62 [.agg ⟨l⟩] [] (fun H=>zDj.rd H l ⟨ys⟩) (fun v A=>∃ b c,v = .agg ⟨[.slice b (ys.map zFn).length c]⟩∧(gSl 100 zAo).ow [.slice b (ys.map zFn).length c] (ys.map zFn) A):=zME l ⟨ys⟩ hx
theorem zEm (l:List Value) (ys:List Item):Ct prog 63 [.agg ⟨l⟩] [] (fun H=>zDj.rd H l ⟨ys⟩) (fun v A=>v = .bool (zJO ⟨ys⟩)∧A=[]):=zJr l ⟨ys⟩
theorem zZH {g:Graph} {x:Query} {j:Nat} {xs:List Item} {r:List Int} (hx:xs=zCA g x j) (hh:zMC g x (zDa g x j)=true) (hr:r=x.out.map (tv (zAj x.atoms) (zDa g x j))):zVC xs r 1 (plR xs r)=zCA g x (j+1):=by
 subst hx;subst hr
 rw[zKs (zGz.1 hh)];rfl
theorem zZI {g:Graph} {x:Query} {j p:Nat} {w:List Int} (h1:1≤p) (hg:1≤g.size∧g.size≤12) (hp:p≤(zAj x.atoms).length) (hS:zFN g.size.toNat (zDa g x j) ((zAj x.atoms).length-p) w) (h:w[p-1]?.getD 0=g.size-1):zFN g.size.toNat (zDa g x j) ((zAj x.atoms).length-(p-1)) (w.set ((p:Int)-1).toNat 0):=by
 have hl:(zDa g x j).length=(zAj x.atoms).length:=zCR _ _ _
 have hwv:=zJe hS (p:=p-1) oO
 rw[show ((p:Int)-1).toNat=p-1 from oO,show (zAj x.atoms).length-(p-1)=(zAj x.atoms).length-p+1 from oO]
 exact zQK hS oO oO
theorem zZJ {g:Graph} {x:Query} {j p:Nat} {w:List Int} (h1:1≤p) (hg:1≤g.size∧g.size≤12) (hj:j < cntV g x) (hp:p≤(zAj x.atoms).length) (hS:zFN g.size.toNat (zDa g x j) ((zAj x.atoms).length-p) w) (h:¬w[p-1]?.getD 0=g.size-1) :
  w.set ((p:Int)-1).toNat (IntKind.i64.wrap (w[((p:Int)-1).toNat]?.getD 0+1))=zDa g x (j+1)∧j+1 < cntV g x:=by
 have hl:(zDa g x j).length=(zAj x.atoms).length:=zCR _ _ _
 have hwv:=zJe hS (p:=p-1) oO
 have hv:=zDP hg.1 (zO0 hg x j) (p-1)
 rw[show ((p:Int)-1).toNat=p-1 from oO,hwv,zAc oO oO]
 exact zQL oO hj hS (p:=p-1) oO (by show (zDa g x j)[p-1]?.getD 0+1 < _;omega)
theorem zZK {g:Graph} {x:Query} {j p:Nat} {w:List Int} (hg:1≤g.size∧g.size≤12) (hj:j < cntV g x) (hp:p=0) (hS:zFN g.size.toNat (zDa g x j) ((zAj x.atoms).length-p) w):j+1=cntV g x:=by
 subst hp
 exact zQM oO hj hS
theorem zO5 {b:Option Addr} {c:Nat} {xs:List Item} {A:Hp} (o:(gSl 100 zAo).ow [.slice b xs.length c] xs A):zDj.rd A [.slice b xs.length c] ⟨xs⟩:=zAD.2 ⟨b,c,rfl,Gt.owrd _ o⟩
theorem zZL {g:Graph} (hg:1≤g.size∧g.size≤12) {x:Query} (ho:x.out.length≤4) {j:Nat} (hj:j≤20736) {ys:List Item} (hy:ys=zCA g x j):zDj.sz ⟨ys⟩≤1048576:=by
 subst hy
 obtain⟨h1,h2⟩:=zGw hg ho (x:=x) j
 have h3:=z5l (zCA g x j) fun p hp=>zGP (zCQ h1 p hp).2.1
 rw[zIQ]
 show szL zAo (zCA g x j)≤_
 omega
theorem zRg {g:Graph} (hg:1≤g.size∧g.size≤12) {x:Query} (ho:x.out.length≤4) {ys:List Item} (hy:ys=zJY x (zMz g x)):zJO ⟨ys⟩=decide ((zMz g x).length≤300):=by
 subst hy
 exact z2o hg ho
theorem zKy {g:Graph} (hg:1≤g.size∧g.size≤12) {x:Query} (ho:x.out.length≤4) {ys:List Item} (hb:zJO ⟨ys⟩=false) (hy:ys=zJY x (zMz g x)):¬(zMz g x).length≤300:=by
 rw[zRg hg ho hy] at hb
 exact of_decide_eq_false hb
theorem zKz {g:Graph} (hg:1≤g.size∧g.size≤12) {x:Query} (ho:x.out.length≤4) {ys:List Item} {b:Option Addr} {c:Nat} {D:Hp} (h1:zAH g=true) (h2:zAS x=true) (hb:zJO ⟨ys⟩=true) (hy:ys=zJY x (zMz g x)) (o:(gSl 100 zAo).ow [.slice b ys.length c] ys D) :
  ∃ (b':Option Addr) (c':Nat),Value.tuple ⟨[.agg ⟨[.slice b ys.length c]⟩,.bool true]⟩ = .tuple #[.agg ⟨[.slice b' (zCU g x).1.items.length c']⟩,.bool (zCU g x).2]∧(gSl 100 zAo).ow [.slice b' (zCU g x).1.items.length c'] (zCU g x).1.items D:=by
 rw[zRg hg ho hy] at hb
 have h3:=of_decide_eq_true hb
 subst hy
 exact zRf rfl h1 h2 h3 o
theorem z3J {g:Graph} {x:Query} {j:Nat} (h:j+1=cntV g x):zCA g x (j+1)=zMz g x:=by rw[h];rfl
theorem zMF (lg lq:List Value) (g:Graph) (x:Query) (hz:zAL.sz x≤1048576) :
  Ct prog 20 [.agg ⟨lg⟩,.agg ⟨lq⟩] [] (fun H=>zBz.rd H lg g∧zAL.rd H lq x)
   (fun v D=>∃ b c,v = .tuple #[.agg ⟨[.slice b (zCU g x).1.items.length c]⟩,.bool (zCU g x).2]∧(gSl 100 zAo).ow [.slice b (zCU g x).1.items.length c] (zCU g x).1.items D):=by
 refine Ct.intro0 zAh func20 rfl rfl rfl fun E H hp=>?_
 obtain⟨hp,hq⟩:=hp
 obtain⟨b1p,c1p,rfl,w0p,h1p⟩:=zAY.1 hp
 obtain⟨b1r,c1r,b2r,c2r,b3r,c3r,rfl,h1r,h2r,h3r⟩:=zAy.1 hq
 have hal:=zCI hz
 refine⟨fun x0=>?_⟩
 refine⟨fun x1=>?_⟩
 refine⟨fun x2=>?_⟩
 refine zAe (zC1 _ (g)) (Rp.mono _ (zAa 0 rfl) hp) ?_
 rintro _ rfl
 constructor<;>intro q4
 ·simp at q4
  (rw[zQS aA];exact⟨[],⟨_,_,rfl,zAm _ _ _⟩,.mem sI⟩)
 simp at q4
 refine zAe (zHo _ (x) ?_) (Rp.mono _ (zAa 0 rfl) hq) ?_
 ·trivial
 rintro _ rfl
 constructor<;>intro q6
 ·simp at q6
  (rw[zQT aA];exact⟨[],⟨_,_,rfl,zAm _ _ _⟩,.mem sI⟩)
 simp at q6
 obtain⟨hg1,hg2,hE⟩:=zEa ‹zAH g=true›
 have hg:1≤g.size∧g.size≤12:=oO
 obtain⟨⟨hq1,hq2,hq3⟩,hqo,hqf⟩:=zBW ‹zAS x=true›
 obtain⟨hn1,hn4⟩:=zDD ‹zAS x=true›
 have hol:=hqo.1
 refine zAi (zCu _ x ?_) (Rp.mono _ (zAa 0 rfl) hq) ?_
 ·trivial
 rintro v7 A7 o7
 obtain⟨bN,cN,rfl,oN⟩:=o7
 have rN:=Gt.owrd _ oN
 refine zAi (zVX _ _ g x ‹zAH g=true› ‹zAS x=true› hz) ⟨(Rp.mono _ (zAa 1 rfl) hp),(Rp.mono _ (zAa 1 rfl) hq)⟩ ?_
 rintro v8 A8 o8
 obtain⟨bW,cW,ms,rfl,oW,hR⟩:=o8
 refine VCmake.intro ?_ ?_ ?_ ?_ fun x9=>?_
 ·omega
 ·omega
 ·omega
 ·omega
 refine⟨fun x10=>?_⟩
 apply zAg (α:=(Nat)×(List Int)×(Hp)×(List Item)×(Hp)×(Option Addr)×(Nat)) zAh [29,30,31,32,33,34,35,36,37,38,39,40,41,42,43,10,44,45,46,47,48,49,50,51,52,53,54,55,56,57,58,59,60,61,62,63,64,65,66,67,68] (fun z=>[]) (fun z=>[⟨x0,[Value.int IntKind.i64 g.size,Value.slice b1p g.edges.length c1p],(53:Nat)⟩,⟨x1,[Value.bool x.each,Value.slice b1r x.out.length c1r,Value.slice b2r x.atoms.length c2r,Value.slice b3r x.filters.length c3r],(43:Nat)⟩,⟨x2,[Value.slice none (0:Nat) (0:Nat)],(47:Nat)⟩,⟨x10,[.slice z.2.2.2.2.2.1 z.2.2.2.1.length z.2.2.2.2.2.2],(47:Nat)⟩]) (fun z=>[z.2.2.2.2.1,z.2.2.1,A8,A7,H]) (fun z=>cntV g x-z.1) (fun z=>z.1 < cntV g x∧z.2.1=zDa g x z.1∧z.2.2.2.1=zCA g x z.1∧(gSl 3 gI).ow [.slice (some ⟨x9,0,none⟩) (((zAj x.atoms).length:Nat):Int).toNat (((zAj x.atoms).length:Nat):Int).toNat] z.2.1 z.2.2.1∧(gSl 100 zAo).ow [.slice z.2.2.2.2.2.1 z.2.2.2.1.length z.2.2.2.2.2.2] z.2.2.2.1 z.2.2.2.2.1) ((0,zDa g x 0,_,[],[],none,0))
 ·repeat' (first|exact trivial|refine⟨⟨_,rfl,by first|exact frE|(refine zAz ?_;simp;done)|exact congrArg (fun v=>SV.v (Value.int .i64 v)) hwp|exact congrArg (fun v=>Value.int .i64 v) hwp|exact congrArg (fun v=>SV.v (Value.int .i64 v)) (zAc oO oO)|exact congrArg (fun v=>Value.int .i64 v) (zAc oO oO),frO⟩,?_⟩)
 ·exact⟨rfl,rfl,rfl,rfl,trivial⟩
 ·try dsimp only
  exact⟨zUv hg x,rfl,rfl,by rw[show zDa g x 0=List.replicate (((zAj x.atoms).length:Nat):Int).toNat 0 from zOY _];exact zEY (g:=gI) (T:=3) (z:=0) (zCN (x:=0) (by unfold okI;omega)) (Nat.le_refl _) oO,zAm _ _ _⟩
 ·exact .refl _
 rintro ⟨j,w,W,xs,B,ib,ic⟩ hI
 try dsimp only at hI
 obtain⟨hj,hw,hxs,oV,oB⟩:=hI
 try dsimp only
 subst hw
 have hav:=zO0 hg x j
 obtain⟨hbw,hxl⟩:=zGw hg hol.2 (x:=x) j
 rw[←hxs] at hbw hxl
 have hok:=z2T hg.2 hav
 have hcv:=cntV_le hg hn4
 have hdl:(zDa g x j).length=(zAj x.atoms).length:=zCR _ _ _
 refine zAe (zSF _ _ _ _ _ _ _ _ _ _ g x ms (zDa g x j) hg ‹zAS x=true› hR (zCR _ _ _) hav) ⟨(Rp.mono _ (zAa 4 rfl) hp),(Rp.mono _ (zAa 4 rfl) hq),(Rp.mono _ (zAa 2 rfl) (Gt.owrd _ oW)),Rp.mono _ (zAk sI) rN,Rp.mono _ (zAk sI) (Gt.owrd _ oV)⟩ ?_
 rintro _ rfl
 constructor<;>intro q12
 ·have hpz:=zZH (r:=x.out.map (tv (zAj x.atoms) (zDa g x j))) hxs aA rfl
  refine zBr zAh zAK (some 5) (.q 0 (.q 1 (.q 2 (.q 3 (.f 4 (.tl 5 (.f 6 (.nil)))))))) (by decide +kernel) ?_
  refine zAi (zZB _ _ _ _ _ _ _ x (zAj x.atoms) (zDa g x j) (zJc hqo) oO oO hok) ⟨(Rp.mono _ (zAa 4 rfl) hq),Rp.mono _ (zAk sI) rN,Rp.mono _ (zAk sI) (Gt.owrd _ oV)⟩ ?_
  rintro v13 A13 o13
  obtain⟨b13,c13,rfl,o13⟩:=o13
  refine VC.intro ?_ ?_
  ·exact zAA
  refine zA1 (B) [A13,W,A8,A7,H] (zC0 _ _ _ _ _ _ xs _ (x.out.map (tv (zAj x.atoms) (zDa g x j))) 1 (plR xs (x.out.map (tv (zAj x.atoms) (zDa g x j)))) oB ?_ ?_ ?_ ?_ ?_) ?_ (Rp.mono _ (zAa 0 rfl) (Gt.owrd _ o13)) ?_
  ·omega
  ·simp;omega
  ·trivial
  ·exact hbw.inv.2
  ·exact zEF hbw.inv.1
  ·exact rlA
  rintro _ AP ⟨bP,cP,rfl,oP⟩
  refine⟨[AP],by simp,?_⟩
  apply zAg (α:=(Nat)×(List Int)×(Hp)) zAh [44,45,46,47,48,49,50,51,52,53,54,55,56,57,58,59,60,10] (fun z=>[(10,.v (.int .i64 ((z.1:Int)-1)))]) (fun z=>[{ id:=x0,cs:=[Value.int IntKind.i64 g.size,Value.slice b1p g.edges.length c1p],ty:=(53:Nat) },{ id:=x1,cs:=[Value.bool x.each,Value.slice b1r x.out.length c1r,Value.slice b2r x.atoms.length c2r,Value.slice b3r x.filters.length c3r],ty:=(43:Nat) },{ id:=x2,cs:=[Value.slice none (0:Nat) (0:Nat)],ty:=(47:Nat) },{ id:=x10,cs:=[Value.slice bP (zVC xs (List.map (tv (zAj x.atoms) (zDa g x j)) x.out) (1:Int) (plR xs (List.map (tv (zAj x.atoms) (zDa g x j)) x.out))).length cP],ty:=(47:Nat) }]) (fun z=>[AP,A13,z.2.2,A8,A7,H]) (fun z=>z.1) (fun z=>z.1≤(zAj x.atoms).length∧zFN g.size.toNat (zDa g x j) ((zAj x.atoms).length-z.1) z.2.1∧(gSl 3 gI).ow [.slice (some ⟨x9,0,none⟩) (((zAj x.atoms).length:Nat):Int).toNat (((zAj x.atoms).length:Nat):Int).toNat] z.2.1 z.2.2) (((zAj x.atoms).length,zDa g x j,W))
  ·repeat' (first|exact trivial|refine⟨⟨_,rfl,by first|exact frE|(refine zAz ?_;simp;done)|exact congrArg (fun v=>SV.v (Value.int .i64 v)) hwp|exact congrArg (fun v=>Value.int .i64 v) hwp|exact congrArg (fun v=>SV.v (Value.int .i64 v)) (zAc oO oO)|exact congrArg (fun v=>Value.int .i64 v) (zAc oO oO),frO⟩,?_⟩)
  ·exact⟨rfl,rfl,rfl,rfl,trivial⟩
  ·try dsimp only
   exact⟨Nat.le_refl _,by rw[Nat.sub_self];exact zLN _ _,oV⟩
  ·exact .refl _
  rintro ⟨p,w1,W1⟩ hI
  try dsimp only at hI
  obtain⟨hp,hS,oW1⟩:=hI
  try dsimp only
  refine zBr zAh zAK none (.q 0 (.q 1 (.q 2 (.q 3 (.q 4 (.q 5 (.q 6 (.q 7 (.q 8 (.q 9 (.q 10 (.q 11 (.nil))))))))))))) (by decide +kernel) ?_
  constructor<;>intro q15
  ·simp at q15
   have hpq:((p:Int)-1).toNat=p-1:=oO
   have hwl1:w1.length=(zAj x.atoms).length:=(by rw[zIx hS];exact hdl)
   have hvr:=zDP hg.1 hav (p-1)
   have hwv:w1[((p:Int)-1).toNat]?.getD 0=(zDa g x j)[p-1]?.getD 0:=(by rw[hpq];exact zJe hS oO)
   have hwp:IntKind.i64.wrap ((p:Int)-1-1)=((p-1:Nat):Int)-1:=(by rw[zAc oO oO];omega)
   refine zAf (Gt.owrd _ oW1) ?_ ?_ fun b16 o16 hb16=>?_
   ·omega
   ·omega
   refine zAF 0 (Gt.owrd _ oW1) ?_ ?_ hb16 rfl (zAa 2 rfl) fun l17 hl17=>?_
   ·omega
   ·omega
   obtain⟨rfl,hw17⟩:=hl17;simp only[zAx,zAs,okI] at hw17
   constructor<;>intro q18
   ·simp at q18
    simp (disch:=omega) only[zAc] at q18
    refine zAf (Gt.owrd _ oW1) ?_ ?_ fun b19 o19 hb19=>?_
    ·omega
    ·omega
    refine zBq (Fld.id _) 0 (Int.toNat ((↑p:Int)-(1:Int))) 2 rfl (Int.toNat_of_nonneg ?_).symm oW1 ?_ ?_ hb19 rfl zHx _ (zCN ?_) fun A20 o20=>?_
    ·omega
    ·omega
    ·omega
    ·trivial
    apply zAb (p-1,w1.set ((p:Int)-1).toNat 0,_)
    ·exact .refl _
    ·repeat' (first|exact trivial|refine⟨⟨_,rfl,by first|exact frE|(refine zAz ?_;simp;done)|exact congrArg (fun v=>SV.v (Value.int .i64 v)) hwp|exact congrArg (fun v=>Value.int .i64 v) hwp|exact congrArg (fun v=>SV.v (Value.int .i64 v)) (zAc oO oO)|exact congrArg (fun v=>Value.int .i64 v) (zAc oO oO),frO⟩,?_⟩)
    ·exact⟨rfl,rfl,rfl,rfl,trivial⟩
    ·try dsimp only
     exact⟨oO,zZI oO hg hp hS aA,aA⟩
    try dsimp only
    omega
   simp at q18
   simp (disch:=omega) only[zAc] at q18
   constructor<;>intro q21
   ·simp at q21
    exfalso;omega
   simp at q21
   refine zAf (Gt.owrd _ oW1) ?_ ?_ fun b22 o22 hb22=>?_
   ·omega
   ·omega
   refine zAF 0 (Gt.owrd _ oW1) ?_ ?_ hb22 rfl (zAa 2 rfl) fun l23 hl23=>?_
   ·omega
   ·omega
   obtain⟨rfl,hw23⟩:=hl23;simp only[zAx,zAs,okI] at hw23
   refine zAf (Gt.owrd _ oW1) ?_ ?_ fun b24 o24 hb24=>?_
   ·omega
   ·omega
   refine zBq (Fld.id _) 0 (Int.toNat ((↑p:Int)-(1:Int))) 2 rfl (Int.toNat_of_nonneg ?_).symm oW1 ?_ ?_ hb24 rfl zHx _ (zCN ?_) fun A25 o25=>?_
   ·omega
   ·omega
   ·omega
   ·exact zGF _
   apply zAM (j+1,w1.set ((p:Int)-1).toNat (IntKind.i64.wrap (w1[((p:Int)-1).toNat]?.getD 0+1)),_,zVC xs (x.out.map (tv (zAj x.atoms) (zDa g x j))) 1 (plR xs (x.out.map (tv (zAj x.atoms) (zDa g x j)))),AP,_,_)
   ·repeat' (first|exact trivial|refine⟨⟨_,rfl,by first|exact frE|(refine zAz ?_;simp;done)|exact congrArg (fun v=>SV.v (Value.int .i64 v)) hwp|exact congrArg (fun v=>Value.int .i64 v) hwp|exact congrArg (fun v=>SV.v (Value.int .i64 v)) (zAc oO oO)|exact congrArg (fun v=>Value.int .i64 v) (zAc oO oO),frO⟩,?_⟩)
   ·exact⟨rfl,rfl,rfl,rfl,trivial⟩
   ·try dsimp only
    (obtain⟨e1,e2⟩:=zZJ oO hg hj hp hS aA;exact⟨e2,e1,hpz,aA,aA⟩)
   ·exact rlA
   try dsimp only
   omega
  simp at q15
  constructor<;>intro q26
  ·simp at q26
   have hj1:=zZK hg hj oO hS
   rw[z3J hj1] at hpz
   have rB:=zO5 oP
   constructor<;>intro q27
   ·refine zAi (zGA _ _ ?_) (Rp.mono _ (zAa 0 rfl) rB) ?_
    ·exact zZL hg hol.2 (j:=cntV g x) hcv hpz
    rintro v28 A28 o28
    obtain⟨b28,c28,rfl,o28⟩:=o28
    have rE28:=zO5 o28
    refine zAe (zEm _ _) (Rp.mono _ (zAa 0 rfl) rE28) ?_
    rintro _ rfl
    constructor<;>intro q30
    ·simp at q30
     (rw[zGx (zKy hg hol.2 aA (by first|rw[hpz,zEl aA]|rw[hpz,zFP aA]))];exact⟨[],⟨_,_,rfl,zAm _ _ _⟩,.mem sI⟩)
    simp at q30
    exact⟨_,zKz hg hol.2 ‹zAH g=true› ‹zAS x=true› aA (by first|rw[hpz,zEl aA]|rw[hpz,zFP aA]) aA,rlB⟩
   refine zAe (zEm _ _) (Rp.mono _ (zAa 0 rfl) rB) ?_
   rintro _ rfl
   constructor<;>intro q32
   ·simp at q32
    (rw[zGx (zKy hg hol.2 aA (by first|rw[hpz,zEl aA]|rw[hpz,zFP aA]))];exact⟨[],⟨_,_,rfl,zAm _ _ _⟩,.mem sI⟩)
   simp at q32
   exact⟨_,zKz hg hol.2 ‹zAH g=true› ‹zAS x=true› aA (by first|rw[hpz,zEl aA]|rw[hpz,zFP aA]) aA,rlB⟩
  simp at q26
  exfalso;omega
 have hpz:=zRe (x:=x) hg hol.2 hxs aA
 apply zAg (α:=(Nat)×(List Int)×(Hp)) zAh [44,45,46,47,48,49,50,51,52,53,54,55,56,57,58,59,60,10] (fun z=>[(10,.v (.int .i64 ((z.1:Int)-1)))]) (fun z=>[{ id:=x0,cs:=[Value.int IntKind.i64 g.size,Value.slice b1p g.edges.length c1p],ty:=(53:Nat) },{ id:=x1,cs:=[Value.bool x.each,Value.slice b1r x.out.length c1r,Value.slice b2r x.atoms.length c2r,Value.slice b3r x.filters.length c3r],ty:=(43:Nat) },{ id:=x2,cs:=[Value.slice none (0:Nat) (0:Nat)],ty:=(47:Nat) },{ id:=x10,cs:=[Value.slice ib xs.length ic],ty:=(47:Nat) }]) (fun z=>[B,z.2.2,A8,A7,H]) (fun z=>z.1) (fun z=>z.1≤(zAj x.atoms).length∧zFN g.size.toNat (zDa g x j) ((zAj x.atoms).length-z.1) z.2.1∧(gSl 3 gI).ow [.slice (some ⟨x9,0,none⟩) (((zAj x.atoms).length:Nat):Int).toNat (((zAj x.atoms).length:Nat):Int).toNat] z.2.1 z.2.2) (((zAj x.atoms).length,zDa g x j,W))
 ·repeat' (first|exact trivial|refine⟨⟨_,rfl,by first|exact frE|(refine zAz ?_;simp;done)|exact congrArg (fun v=>SV.v (Value.int .i64 v)) hwp|exact congrArg (fun v=>Value.int .i64 v) hwp|exact congrArg (fun v=>SV.v (Value.int .i64 v)) (zAc oO oO)|exact congrArg (fun v=>Value.int .i64 v) (zAc oO oO),frO⟩,?_⟩)
 ·exact⟨rfl,rfl,rfl,rfl,trivial⟩
 ·try dsimp only
  exact⟨Nat.le_refl _,by rw[Nat.sub_self];exact zLN _ _,oV⟩
 ·exact .refl _
 rintro ⟨p,w1,W1⟩ hI
 try dsimp only at hI
 obtain⟨hp,hS,oW1⟩:=hI
 try dsimp only
 refine zBr zAh zAK none (.q 0 (.q 1 (.q 2 (.q 3 (.q 4 (.q 5 (.q 6 (.q 7 (.q 8 (.q 9 (.q 10 (.q 11 (.nil))))))))))))) (by decide +kernel) ?_
 constructor<;>intro q33
 ·simp at q33
  have hpq:((p:Int)-1).toNat=p-1:=oO
  have hwl1:w1.length=(zAj x.atoms).length:=(by rw[zIx hS];exact hdl)
  have hvr:=zDP hg.1 hav (p-1)
  have hwv:w1[((p:Int)-1).toNat]?.getD 0=(zDa g x j)[p-1]?.getD 0:=(by rw[hpq];exact zJe hS oO)
  have hwp:IntKind.i64.wrap ((p:Int)-1-1)=((p-1:Nat):Int)-1:=(by rw[zAc oO oO];omega)
  refine zAf (Gt.owrd _ oW1) ?_ ?_ fun b34 o34 hb34=>?_
  ·omega
  ·omega
  refine zAF 0 (Gt.owrd _ oW1) ?_ ?_ hb34 rfl (zAa 1 rfl) fun l35 hl35=>?_
  ·omega
  ·omega
  obtain⟨rfl,hw35⟩:=hl35;simp only[zAx,zAs,okI] at hw35
  constructor<;>intro q36
  ·simp at q36
   simp (disch:=omega) only[zAc] at q36
   refine zAf (Gt.owrd _ oW1) ?_ ?_ fun b37 o37 hb37=>?_
   ·omega
   ·omega
   refine zBq (Fld.id _) 0 (Int.toNat ((↑p:Int)-(1:Int))) 1 rfl (Int.toNat_of_nonneg ?_).symm oW1 ?_ ?_ hb37 rfl zHx _ (zCN ?_) fun A38 o38=>?_
   ·omega
   ·omega
   ·omega
   ·trivial
   apply zAb (p-1,w1.set ((p:Int)-1).toNat 0,_)
   ·exact .refl _
   ·repeat' (first|exact trivial|refine⟨⟨_,rfl,by first|exact frE|(refine zAz ?_;simp;done)|exact congrArg (fun v=>SV.v (Value.int .i64 v)) hwp|exact congrArg (fun v=>Value.int .i64 v) hwp|exact congrArg (fun v=>SV.v (Value.int .i64 v)) (zAc oO oO)|exact congrArg (fun v=>Value.int .i64 v) (zAc oO oO),frO⟩,?_⟩)
   ·exact⟨rfl,rfl,rfl,rfl,trivial⟩
   ·try dsimp only
    exact⟨oO,zZI oO hg hp hS aA,aA⟩
   try dsimp only
   omega
  simp at q36
  simp (disch:=omega) only[zAc] at q36
  constructor<;>intro q39
  ·simp at q39
   exfalso;omega
  simp at q39
  refine zAf (Gt.owrd _ oW1) ?_ ?_ fun b40 o40 hb40=>?_
  ·omega
  ·omega
  refine zAF 0 (Gt.owrd _ oW1) ?_ ?_ hb40 rfl (zAa 1 rfl) fun l41 hl41=>?_
  ·omega
  ·omega
  obtain⟨rfl,hw41⟩:=hl41;simp only[zAx,zAs,okI] at hw41
  refine zAf (Gt.owrd _ oW1) ?_ ?_ fun b42 o42 hb42=>?_
  ·omega
  ·omega
  refine zBq (Fld.id _) 0 (Int.toNat ((↑p:Int)-(1:Int))) 1 rfl (Int.toNat_of_nonneg ?_).symm oW1 ?_ ?_ hb42 rfl zHx _ (zCN ?_) fun A43 o43=>?_
  ·omega
  ·omega
  ·omega
  ·exact zGF _
  apply zAb (j+1,w1.set ((p:Int)-1).toNat (IntKind.i64.wrap (w1[((p:Int)-1).toNat]?.getD 0+1)),_,xs,B,ib,ic)
  ·exact .refl _
  ·repeat' (first|exact trivial|refine⟨⟨_,rfl,by first|exact frE|(refine zAz ?_;simp;done)|exact congrArg (fun v=>SV.v (Value.int .i64 v)) hwp|exact congrArg (fun v=>Value.int .i64 v) hwp|exact congrArg (fun v=>SV.v (Value.int .i64 v)) (zAc oO oO)|exact congrArg (fun v=>Value.int .i64 v) (zAc oO oO),frO⟩,?_⟩)
  ·exact⟨rfl,rfl,rfl,rfl,trivial⟩
  ·try dsimp only
   (obtain⟨e1,e2⟩:=zZJ oO hg hj hp hS aA;exact⟨e2,e1,hpz,aA,aA⟩)
  try dsimp only
  omega
 simp at q33
 constructor<;>intro q44
 ·simp at q44
  have hj1:=zZK hg hj oO hS
  rw[z3J hj1] at hpz
  have rB:=zO5 oB
  constructor<;>intro q45
  ·refine zAi (zGA _ _ ?_) (Rp.mono _ (zAa 0 rfl) rB) ?_
   ·exact zZL hg hol.2 (j:=cntV g x) hcv hpz
   rintro v46 A46 o46
   obtain⟨b46,c46,rfl,o46⟩:=o46
   have rE46:=zO5 o46
   refine zAe (zEm _ _) (Rp.mono _ (zAa 0 rfl) rE46) ?_
   rintro _ rfl
   constructor<;>intro q48
   ·simp at q48
    (rw[zGx (zKy hg hol.2 aA (by first|rw[hpz,zEl aA]|rw[hpz,zFP aA]))];exact⟨[],⟨_,_,rfl,zAm _ _ _⟩,.mem sI⟩)
   simp at q48
   exact⟨_,zKz hg hol.2 ‹zAH g=true› ‹zAS x=true› aA (by first|rw[hpz,zEl aA]|rw[hpz,zFP aA]) aA,rlB⟩
  refine zAe (zEm _ _) (Rp.mono _ (zAa 0 rfl) rB) ?_
  rintro _ rfl
  constructor<;>intro q50
  ·simp at q50
   (rw[zGx (zKy hg hol.2 aA (by first|rw[hpz,zEl aA]|rw[hpz,zFP aA]))];exact⟨[],⟨_,_,rfl,zAm _ _ _⟩,.mem sI⟩)
  simp at q50
  exact⟨_,zKz hg hol.2 ‹zAH g=true› ‹zAS x=true› aA (by first|rw[hpz,zEl aA]|rw[hpz,zFP aA]) aA,rlB⟩
 simp at q44
 exfalso;omega
end
section
attribute [local irreducible] IntKind.wrap zA0 zAj zAS
theorem zVY (b1:Option Addr) (m1 c1:Nat) (b2:Option Addr) (m2 c2:Nat) (aa bb:List ByteArray) :
  Ct prog 164 [.slice b1 m1 c1,.slice b2 m2 c2] [] (fun H=>(gSl 9 gS).rd H [.slice b1 m1 c1] aa∧(gSl 9 gS).rd H [.slice b2 m2 c2] bb) (fun v A=>v = .bool (decide (aa=bb))∧A=[]):=by
 refine Ct.intro0 zAh func164 rfl rfl rfl fun E H hp=>?_
 obtain⟨hp,hq⟩:=hp
 obtain⟨rfl,hcp,hlp⟩:=zAp hp
 obtain⟨rfl,hcq,hlq⟩:=zAp hq
 constructor<;>intro q0
 ·simp at q0
  exact⟨[],⟨by rw[zQC oO],rfl⟩,.mem sI⟩
 simp at q0
 apply zAg (α:=(Nat)) zAh [14,15,5,16,17,18,19,20,21,22,23,24,4,25,13] (fun z=>[(13,.v (.int .i64 z))]) (fun z=>[]) (fun z=>[H]) (fun z=>aa.length-z) (fun z=>z≤aa.length∧aa.take z=bb.take z) ((0))
 ·exact frI
 ·exact trivial
 ·exact⟨Nat.zero_le _,rfl⟩
 ·exact .refl _
 rintro k hI
 obtain⟨hk,he⟩:k≤aa.length∧aa.take k=bb.take k:=hI
 try dsimp only
 constructor<;>intro q1
 ·simp at q1
  refine zBr zAh zAK none (.q 0 (.q 1 (.q 2 (.q 3 (.q 4 (.q 5 (.q 6 (.q 7 (.q 8 (.nil)))))))))) (by decide +kernel) ?_
  refine zAf hp ?_ ?_ fun b2 o2 hb2=>?_
  ·omega
  ·omega
  refine zAd ByteArray.empty (k) rfl hp ?_ ?_ hb2 rfl (zAa 0 rfl) fun l3 hl3=>?_
  ·omega
  ·omega
  obtain⟨rfl,hw3⟩:=hl3;simp only[zAx,zAs,okI] at hw3
  refine zAf hq ?_ ?_ fun b4 o4 hb4=>?_
  ·omega
  ·omega
  refine zAd ByteArray.empty (k) rfl hq ?_ ?_ hb4 rfl (zAa 0 rfl) fun l5 hl5=>?_
  ·omega
  ·omega
  obtain⟨rfl,hw5⟩:=hl5;simp only[zAx,zAs,okI] at hw5
  constructor<;>intro q6
  ·simp at q6
   simp only[zAR,zBn,zAZ] at q6
   exact⟨[],⟨by rw[zT5 (k:=k) aA],rfl⟩,.mem sI⟩
  simp at q6
  simp only[zAR,zBn,zAZ] at q6
  apply zAb (k+1)
  ·exact .refl _
  ·exact frI
  ·exact trivial
  ·exact⟨oO,zNy oO oO he aA⟩
  omega
 simp at q1
 exact⟨[],⟨by rw[zQD (k:=k) he oO oO],rfl⟩,.mem sI⟩
open Classical in
theorem z2X {x:Query} {ts:List Table} (h:zMx x ts):decide (zMx x ts)=true:=decide_eq_true h
open Classical in
theorem z5W {x:Query} {ts:List Table} (h:¬zMx x ts):decide (zMx x ts)=false:=decide_eq_false h
open Classical in
noncomputable def z5X (x:Query) (ts:List Table):Bool:=decide (zMx x ts)
theorem zUw {x:Query} {ts:List Table} (h:zMx x ts):z5X x ts=true:=z2X h
theorem zSG {x:Query} {ts:List Table} (h:¬zMx x ts):z5X x ts=false:=z5W h
open Classical in
theorem zUx {x:Query} {ts:List Table}:z5X x ts=true↔zMx x ts:=decide_eq_true_iff
theorem zRh (l:List Value) (b2:Option Addr) (m2 c2:Nat) (x:Query) (ts:List Table) :
  Ct prog 121 [.agg ⟨l⟩,.slice b2 m2 c2] [] (fun H=>zAL.rd H l x∧(gSl 65 zBw).rd H [.slice b2 m2 c2] ts) (fun v A=>v = .bool (z5X x ts)∧A=[]):=by
 refine Ct.intro0 zAh func121 rfl rfl rfl fun E H hp=>?_
 obtain⟨hp,ht⟩:=hp
 obtain⟨rfl,hct,hlt⟩:=zAp ht
 obtain⟨b1p,c1p,b2p,c2p,b3p,c3p,rfl,h1p,h2p,h3p⟩:=zAy.1 hp
 refine⟨fun x0=>?_⟩
 constructor<;>intro q1
 ·simp at q1
  exact⟨[],⟨by rw[zSG (zSo oO)],rfl⟩,.mem sI⟩
 simp at q1
 apply zAg (α:=(Nat)) zAh [16,17,18,19,6,5,20,21,22,23,24,25,26,27,28,29,30,31,32,33,34,4,35,15] (fun z=>[(15,.v (.int .i64 z)),(4,.v (.bool false))]) (fun z=>[{ id:=x0,cs:=[Value.bool x.each,Value.slice b1p x.out.length c1p,Value.slice b2p x.atoms.length c2p,Value.slice b3p x.filters.length c3p],ty:=(43:Nat) }]) (fun z=>[H]) (fun z=>ts.length-z) (fun z=>z≤ts.length∧∀ j,j < z→zAv (ts[j]?.getD default)=true∧(ts[j]?.getD default).cols=zBg (x.atoms[j]?.getD default)) ((0))
 ·exact frI
 ·exact⟨rfl,trivial⟩
 ·exact⟨Nat.zero_le _,fun j hj=>absurd hj (Nat.not_lt_zero _)⟩
 ·exact .refl _
 rintro i hI
 try dsimp only at hI
 obtain⟨hi,hf⟩:=hI
 try dsimp only
 constructor<;>intro q2
 ·simp at q2
  refine zAf ht ?_ ?_ fun b3 o3 hb3=>?_
  ·omega
  ·omega
  refine zAd default (i) rfl ht ?_ ?_ hb3 rfl (zAa 0 rfl) fun l4 hl4=>?_
  ·omega
  ·omega
  obtain⟨b0x4,c0x4,l1x4,rfl,h0x4,h1x4⟩:=zA6.1 hl4 ;obtain⟨b0_1x4,c0_1x4,rfl,h0_1x4⟩:=zAD.1 h1x4
  refine⟨fun x5=>?_⟩
  refine zBr zAh zAK (some 12) (.q 0 (.f 1 (.q 2 (.q 3 (.q 4 (.q 5 (.q 6 (.q 7 (.q 8 (.q 9 (.q 10 (.f 11 (.tl 12 (.f 13 (.f 14 (.nil)))))))))))))))) (by decide +kernel) ?_
  refine zAe (zDN _ (ts[i]?.getD default)) (Rp.mono _ (zAa 0 rfl) hl4) ?_
  rintro _ rfl
  refine VC.intro ?_ ?_
  ·exact fun _ h=>h
  constructor<;>intro q7
  ·simp at q7
   exact⟨[],⟨by rw[zSG (zSp (i:=i) oO aA)],rfl⟩,.mem sI⟩
  simp at q7
  refine zAf h2p ?_ ?_ fun b8 o8 hb8=>?_
  ·omega
  ·omega
  refine zAd default (i) rfl h2p ?_ ?_ hb8 rfl (zAa 0 rfl) fun l9 hl9=>?_
  ·omega
  ·omega
  obtain⟨rfl,w0x9,w1x9,w2x9⟩:=zAT.1 hl9
  refine zAi (zFF _ (x.atoms[i]?.getD default)) (Rp.mono _ (zAa 0 rfl) hl9) ?_
  rintro v10 A10 o10
  obtain⟨b10,c10,rfl,o10⟩:=o10
  refine VC.intro ?_ ?_
  ·exact zAA
  refine zAe (zVY _ _ _ _ _ _ ((ts[i]?.getD default).cols) (zBg (x.atoms[i]?.getD default))) ⟨(Rp.mono _ (zAa 1 rfl) h0x4),(Rp.mono _ (zAa 0 rfl) (Gt.owrd _ o10))⟩ ?_
  rintro _ rfl
  constructor<;>intro q12
  ·simp at q12
   exact⟨[],⟨by rw[zSG (zSq (i:=i) oO aA)],rfl⟩,.mem sI⟩
  simp at q12
  apply zAb (i+1)
  ·exact .sub (by repeat (first|exact .slnil|apply List.Sublist.cons_cons|apply List.Sublist.cons))
  ·exact frI
  ·exact⟨rfl,trivial⟩
  ·exact⟨oO,zFq hf ⟨aA,aA⟩⟩
  omega
 simp at q2
 exact⟨[],⟨by rw[zUw ⟨oO,fun j hj=>hf j oO⟩],rfl⟩,.mem sI⟩
theorem zUy {ts:List Table} {j:Nat} (h:(jk ts j).2=true):jk ts (j+1)=zEH (jk ts j).1 (ts[j+1]?.getD default):=by
 conv=>lhs;unfold jk
 rw[if_pos h]
theorem z2Y (ts:List Table) (j:Nat):(ts.drop 1)[j]?.getD default=ts[j+1]?.getD default:=by rw[List.getElem?_drop,Nat.add_comm]
theorem z5Y (H:Hp):zBw.rd H [.slice none 0 0,.slice none 0 0] ⟨[],⟨[]⟩⟩:=zLJ zCc fun p hp=>nomatch hp
theorem zUz {x:Query} {ts:List Table} (h:z5X x ts=false):¬zMx x ts:=fun e=>by rw[zUw e] at h;cases h
theorem zVZ (H0:Hp) (b:Option Addr) (c:Nat) (ts:List Table) (h1:1≤ts.length) (ht:(gSl 65 zBw).rd H0 [.slice b ts.length c] ts) :
  CtR prog 122 [.slice b ts.length c] H0 (fun _=>True) (fun v D=>∃ (b0:Option Addr) (c0:Nat) (b1:Option Addr) (c1:Nat) (A:Hp),v = .tuple #[.agg ⟨[.slice b0 (jk ts (ts.length-1)).1.cols.length c0,.slice b1 (jk ts (ts.length-1)).1.bag.items.length c1]⟩,.bool (jk ts (ts.length-1)).2]∧D=A++H0∧zBw.rd (A++H0) [.slice b0 (jk ts (ts.length-1)).1.cols.length c0,.slice b1 (jk ts (ts.length-1)).1.bag.items.length c1] (jk ts (ts.length-1)).1):=by
 refine CtR.intro zAh [H0] func122 rfl rfl rfl sI fun E H _=>?_
 obtain⟨_,hct,hlt⟩:=zAp ht
 have hsub:(gSl 65 zBw).rd H0 [.slice (zCB c (1:Int).toNat b z74.size) (ts.length-(1:Int).toNat) (c-(1:Int).toNat)] (ts.drop 1):=by
  have h:=zJo (r:=zBw.toRp) (l:=1) (h:=ts.length) ht oO oO
  rwa [List.take_length] at h
 have hdl:(ts.drop 1).length=ts.length-1:=List.length_drop ..
 refine⟨fun x0=>?_⟩
 refine zAf ht ?_ ?_ fun b1 o1 hb1=>?_
 ·trivial
 ·omega
 refine zAd default (0) rfl ht ?_ ?_ hb1 rfl (zAa 0 rfl) fun l2 hl2=>?_
 ·trivial
 ·omega
 obtain⟨b0x2,c0x2,l1x2,rfl,h0x2,h1x2⟩:=zA6.1 hl2 ;obtain⟨b0_1x2,c0_1x2,rfl,h0_1x2⟩:=zAD.1 h1x2
 refine⟨fun x3=>?_⟩
 refine VC.intro ?_ ?_
 ·omega
 apply zAg (α:=(Nat)×(Table)×(Hp)×(Option Addr)×(Nat)×(Option Addr)×(Nat)) zAh [16,17,18,6,20,21,22,19,23,24,7,8,25,26,27,3,28,29,15] (fun z=>[(15,.v (.int .i64 z.1)),(3,.v (.bool false))]) (fun z=>[⟨x0,[Value.slice none (0:Nat) (0:Nat),Value.slice none (0:Nat) (0:Nat)],(65:Nat)⟩,⟨x3,[.slice z.2.2.2.1 z.2.1.cols.length z.2.2.2.2.1,.slice z.2.2.2.2.2.1 z.2.1.bag.items.length z.2.2.2.2.2.2],(65:Nat)⟩]) (fun z=>[z.2.2.1,H0,H]) (fun z=>ts.length-z.1) (fun z=>z.1+1≤ts.length∧z.2.1=(jk ts z.1).1∧(jk ts z.1).2=true∧zBw.rd (z.2.2.1++H0) [.slice z.2.2.2.1 z.2.1.cols.length z.2.2.2.2.1,.slice z.2.2.2.2.2.1 z.2.1.bag.items.length z.2.2.2.2.2.2] z.2.1) ((0,ts[0]?.getD default,[],_,_,_,_))
 ·exact frI
 ·exact⟨rfl,rfl,trivial⟩
 ·try dsimp only
  exact⟨oO,rfl,rfl,aA⟩
 ·exact .refl _
 rintro ⟨j,T,D,tb,tc,ib,ic⟩ hI
 try dsimp only at hI
 obtain⟨hj,hT,hok,hr⟩:=hI
 try dsimp only
 constructor<;>intro q4
 ·simp at q4
  refine zAf hsub ?_ ?_ fun b5 o5 hb5=>?_
  ·omega
  ·omega
  refine zAd default (j) rfl hsub ?_ ?_ hb5 rfl (zAa 1 rfl) fun l6 hl6=>?_
  ·omega
  ·omega
  obtain⟨b0x6,c0x6,l1x6,rfl,h0x6,h1x6⟩:=zA6.1 hl6 ;obtain⟨b0_1x6,c0_1x6,rfl,h0_1x6⟩:=zAD.1 h1x6
  refine⟨fun x7=>?_⟩
  refine zAi (zSm _ _ T ((ts.drop 1)[j]?.getD default)) ⟨Rp.mono _ (zKr (zAa 0 rfl) (zAa 1 rfl)) hr,(Rp.mono _ (zAa 1 rfl) hl6)⟩ ?_
  rintro v8 A8 o8
  obtain⟨b08,c08,b18,c18,rfl,o8⟩:=o8
  refine⟨fun x9=>?_⟩
  constructor<;>intro q10
  ·simp at q10
   (have hj9:=zUy hok;rw[←hT] at hj9;have hj8:(jk ts (j+1)).2=false:=(by rw[hj9];assumption);rw[z3y hj8 oO (by omega:j+1≤ts.length-1)];exact⟨[]++H0,⟨none,0,none,0,[],rfl,rfl,z5Y _⟩,rlB⟩)
  simp at q10
  apply zAb (j+1,(zEH T ((ts.drop 1)[j]?.getD default)).1,_,_,_,_,_)
  ·exact .sub (by repeat (first|exact .slnil|apply List.Sublist.cons_cons|apply List.Sublist.cons))
  ·exact frI
  ·exact⟨rfl,rfl,trivial⟩
  ·try dsimp only
   (have hj9:=zUy hok;rw[←hT] at hj9;exact⟨oO,by rw[hj9,z2Y],by rw[hj9];assumption,zLJ aA fun p hp=>List.mem_append_left _ hp⟩)
  try dsimp only
  omega
 simp at q4
 (have hje:j=ts.length-1:=oO;subst hje;subst hT;exact⟨D++H0,⟨tb,tc,ib,ic,D,by rw[hok],rfl,hr⟩,rlB⟩)
end
section
attribute [local irreducible] IntKind.wrap zA0 zAj zAS
theorem zRi (l:List Value) (qa qb qc qd:Nat) (e1:Bool) (u3:Option Addr) (v3 w3:Nat) (u4:Option Addr) (v4 w4:Nat) (u5:Option Addr) (w5:Nat) (u6:Option Addr) (v6 w6:Nat) (u7:Option Addr) (w7:Nat) (ce:Int) (t:Table) (fs:List Filter) (s:List Int) (ns:List ByteArray) (hc:t.cols=ns)
  (ht:zAv t=true) (hf:∀ i,i < fs.length→zYL ns (fs[i]?.getD default)) :
  Ct prog 117 [.agg ⟨l⟩,.func (.func 123) ⟨[]⟩ ⟨[.pointer (some ⟨qa,0,none⟩),.pointer (some ⟨qb,0,none⟩),.pointer (some ⟨qc,0,none⟩),.pointer (some ⟨qd,0,none⟩)]⟩] []
   (fun H=>(zBw.rd H l t∧(gSl 165 zAE).rd H [.slice u5 fs.length w5] fs∧(gSl 3 gI).rd H [.slice u6 v6 w6] s∧(gSl 9 gS).rd H [.slice u7 ns.length w7] ns) ∧
    (qa,Obj.cells ⟨[.bool e1,.slice u3 v3 w3,.slice u4 v4 w4,.slice u5 fs.length w5]⟩ 43)∈H∧(qb,Obj.cells ⟨[.slice u6 v6 w6]⟩ 27)∈H∧(qc,Obj.cells ⟨[.slice u7 ns.length w7]⟩ 22)∈H∧(qd,Obj.cells ⟨[.int .i64 ce]⟩ 3)∈H)
   (fun v D=>∃ (b0:Option Addr) (c0:Nat) (b1:Option Addr) (c1:Nat),v = .agg ⟨[.slice b0 (zJW t fs s ce).cols.length c0,.slice b1 (zJW t fs s ce).bag.items.length c1]⟩∧OwT b0 c0 b1 c1 (zJW t fs s ce) D):=by
 subst hc
 exact zSE l qa qb qc qd e1 u3 v3 w3 u4 v4 w4 u5 w5 u6 v6 w6 u7 w7 ce t fs s ht hf
theorem zZM {x:Query} {s:List Int} {ce:Int} {t:Table} (hc:t.cols=zAj x.atoms):zJW t x.filters s ce=zG8 x s ce t x.filters.length:=by
 unfold zJW zG8
 congr 2
 refine List.filter_congr fun p _=>?_
 unfold z13
 rw[hc,Bool.and_comm]
theorem z2Z {x:Query} {s:List Int} {ce:Int} {ts:List Table} {b1:Option Addr} {c1:Nat} {D:Hp} (h1:zAU x s=true) (h2:inR 0 (zA8 s-1) ce=true) (h3:zMx x ts) (h4:(jk ts (ts.length-1)).2=true)
  (o:(gSl 100 zAo).ow [.slice b1 (zG7 (zJW (jk ts (ts.length-1)).1 x.filters s ce) x.out).bag.items.length c1] (zG7 (zJW (jk ts (ts.length-1)).1 x.filters s ce) x.out).bag.items D) :
  ∃ (b:Option Addr) (c:Nat),Value.tuple ⟨[.agg ⟨[.slice b1 (zG7 (zJW (jk ts (ts.length-1)).1 x.filters s ce) x.out).bag.items.length c1]⟩,.bool true]⟩ = .tuple #[.agg ⟨[.slice b (caM x s ce ts).1.items.length c]⟩,.bool (caM x s ce ts).2]∧(gSl 100 zAo).ow [.slice b (caM x s ce ts).1.items.length c] (caM x s ce ts).1.items D:=by
 rw[zZM (zIw h1 h3 h4).2] at o ⊢
 rw[zYy h1 h2 h3 h4]
 exact⟨b1,c1,rfl,o⟩
theorem zJk (l:List Value) (b:Option Addr) (m c:Nat) (b2:Option Addr) (m2 c2:Nat) (x:Query) (s:List Int) (ce:Int) (ts:List Table) (hx:zAL.sz x≤1048576) :
  Ct prog 71 [.agg ⟨l⟩,.slice b m c,.int .i64 ce,.slice b2 m2 c2] [] (fun H=>zAL.rd H l x∧(gSl 3 gI).rd H [.slice b m c] s∧(gSl 65 zBw).rd H [.slice b2 m2 c2] ts)
   (fun v D=>∃ (b1:Option Addr) (c1:Nat),v = .tuple #[.agg ⟨[.slice b1 (caM x s ce ts).1.items.length c1]⟩,.bool (caM x s ce ts).2]∧(gSl 100 zAo).ow [.slice b1 (caM x s ce ts).1.items.length c1] (caM x s ce ts).1.items D):=by
 refine Ct.intro0 zAh func71 rfl rfl rfl fun E H hp=>?_
 obtain⟨hp,hs,ht⟩:=hp
 obtain⟨rfl,hcs,hls⟩:=zAp hs
 obtain⟨rfl,hct,hlt⟩:=zAp ht
 obtain⟨b1p,c1p,b2p,c2p,b3p,c3p,rfl,h1p,h2p,h3p⟩:=zAy.1 hp
 have hal:=zCI hx
 refine⟨fun x0=>?_⟩
 refine⟨fun x1=>?_⟩
 refine⟨fun x2=>?_⟩
 refine⟨fun x3=>?_⟩
 refine zAe (zGm _ _ _ _ (x) (s) ?_) ⟨(Rp.mono _ (zAa 0 rfl) hp),(Rp.mono _ (zAa 0 rfl) hs)⟩ ?_
 ·trivial
 rintro _ rfl
 constructor<;>intro q5
 ·simp at q5
  exact⟨[],⟨none,0,by rw[zQI aA];rfl,by rw[zQI aA];exact zAm _ _ _⟩,.mem sI⟩
 simp at q5
 refine zAe (zQm _ _ _ (s) _) (Rp.mono _ (zAa 0 rfl) hs) ?_
 rintro _ rfl
 constructor<;>intro q7
 ·simp at q7
  exact⟨[],⟨none,0,by rw[zT6 aA];rfl,by rw[zT6 aA];exact zAm _ _ _⟩,.mem sI⟩
 simp at q7
 refine zAe (zRh _ _ _ _ (x) (ts)) ⟨(Rp.mono _ (zAa 0 rfl) hp),(Rp.mono _ (zAa 0 rfl) ht)⟩ ?_
 rintro _ rfl
 constructor<;>intro q9
 ·simp at q9
  exact⟨[],⟨none,0,by rw[zJD (zUz aA)];rfl,by rw[zJD (zUz aA)];exact zAm _ _ _⟩,.mem sI⟩
 simp at q9
 refine zA1 H [] (zVZ H _ _ ts ?_ ht) ?_ trivial ?_
 ·exact (by have h9:=(zUx.1 ‹z5X x ts=true›).1;have h8:=(zBW (zCf ‹zAU x s=true›).1).1;omega)
 ·exact rlA
 rintro _ D10 ⟨b010,c010,b110,c110,A,rfl,rfl,rT⟩
 refine⟨[A,H],by simp,?_⟩
 refine⟨fun x11=>?_⟩
 constructor<;>intro q12
 ·simp at q12
  exact⟨[],⟨none,0,by rw[zYQ aA];rfl,by rw[zYQ aA];exact zAm _ _ _⟩,.mem sI⟩
 simp at q12
 have hF:=zUx.1 ‹z5X x ts=true›
 have hj2:=‹(jk ts (ts.length-1)).2=true›
 obtain⟨hTJ,hcJ⟩:=zIw ‹zAU x s=true› hF hj2
 obtain⟨⟨hq1,hq2,hq3⟩,hqo,hqf⟩:=zBW (zCf ‹zAU x s=true›).1
 refine zAi (zCZ _ x ?_) (Rp.mono _ (zAa 1 rfl) hp) ?_
 ·trivial
 rintro v13 A13 o13
 obtain⟨bN,cN,rfl,oN⟩:=o13
 have rN:=Gt.owrd _ oN
 refine⟨fun x14=>?_⟩
 refine zAi (zRi _ _ _ _ _ x.each b1p x.out.length c1p b2p x.atoms.length c2p b3p c3p b s.length c bN cN ce (jk ts (ts.length-1)).1 x.filters s (zAj x.atoms) hcJ hTJ hqf) ⟨⟨Rp.mono _ (zKr (zAa 1 rfl) (zAa 2 rfl)) rT,Rp.mono _ (zAa 2 rfl) h3p,Rp.mono _ (zAa 2 rfl) hs,Rp.mono _ (zAa 0 rfl) rN⟩,(by simp [St.hall,Blk.ent,zJJ]),(by simp [St.hall,Blk.ent,zJJ]),(by simp [St.hall,Blk.ent,zJJ]),(by simp [St.hall,Blk.ent,zJJ])⟩ ?_
 rintro v15 A15 o15
 obtain⟨b015,c015,b115,c115,rfl,oK⟩:=o15
 refine zCW (zMy _ _ _ _ (zJW (jk ts (ts.length-1)).1 x.filters s ce) x.out (zLH hTJ _) (by show zEI (jk ts (ts.length-1)).1.cols x.out;rw[hcJ];exact hqo)) ⟨zLJ oK (zAa 0 rfl),(Rp.mono _ (zAa 3 rfl) h1p)⟩ ?_
 rintro v16 A16 o16
 obtain⟨b016,c016,b116,c116,rfl,Ac16,Ab16,hP16,oc16,ob16⟩:=o16
 refine⟨[Ac16,Ab16],by simpa using hP16,?_⟩
 exact⟨_,z2Z ‹zAU x s=true› ‹inR 0 (zA8 s-1) ce=true› hF hj2 aA,rlB⟩
end
section
set_option maxRecDepth 100000
attribute [local irreducible] IntKind.wrap zA0 zAj zAS zA2
theorem zUA {aa bb:List Item} {k:Nat} (ha:k < aa.length) (hb:k < bb.length) (h:aa.take k=bb.take k) (h2:(aa[k]?.getD default).times=(bb[k]?.getD default).times) (h3:(aa[k]?.getD default).row=(bb[k]?.getD default).row):aa.take (k+1)=bb.take (k+1):=by
 rw[←List.take_append_getElem ha,←List.take_append_getElem hb,h]
 rw[List.getElem?_eq_getElem ha,List.getElem?_eq_getElem hb] at h2 h3
 have e:aa[k]=bb[k]:=by
  generalize aa[k]=p at *
  generalize bb[k]=q at *
  obtain⟨r1,t1⟩:=p
  obtain⟨r2,t2⟩:=q
  cases h2;cases h3;rfl
 rw[e]
theorem zZN {aa bb:List Item} {k:Nat} (h:¬(aa[k]?.getD default)=(bb[k]?.getD default)):decide (aa=bb)=false:=decide_eq_false fun e=>h (by rw[e])
theorem z5Z {aa bb:List Item} {k:Nat} (h:¬(aa[k]?.getD default).times=(bb[k]?.getD default).times):decide (aa=bb)=false:=zZN (k:=k) fun e=>h (by rw[e])
theorem z51 {aa bb:List Item} {k:Nat} (h:¬(aa[k]?.getD default).row=(bb[k]?.getD default).row):decide (aa=bb)=false:=zZN (k:=k) fun e=>h (by rw[e])
theorem zZO {aa bb:List Item} (h:¬aa.length=bb.length):decide (aa=bb)=false:=decide_eq_false fun e=>h (by rw[e])
theorem zZP {aa bb:List Item} {k:Nat} (h:aa.take k=bb.take k) (ha:aa.length≤k) (hb:bb.length≤k):decide (aa=bb)=true:=by
 rw[List.take_of_length_le ha,List.take_of_length_le hb] at h
 exact decide_eq_true h
def zL8 (p q:Item):Bool:=decide (p.times=q.times) && decide (p.row=q.row)
theorem zNO {p q:Item} (h:zL8 p q=true):p.times=q.times∧p.row=q.row:=by
 unfold zL8 at h
 rw[Bool.and_eq_true,decide_eq_true_iff,decide_eq_true_iff] at h
 exact h
theorem zZQ {p q:Item} (h:zL8 p q=false):¬p=q:=fun e=>by subst e;unfold zL8 at h;simp at h
theorem zSH (l1 l2:List Value) (p q:Item):Ct prog 73 [.agg ⟨l1⟩,.agg ⟨l2⟩] [] (fun H=>zAo.rd H l1 p∧zAo.rd H l2 q) (fun v A=>v = .bool (zL8 p q)∧A=[]):=by
 refine Ct.intro0 zAh func73 rfl rfl rfl fun E H hp=>?_
 obtain⟨hp,hq⟩:=hp
 obtain⟨b0p,c0p,rfl,h0p,w1p⟩:=zAB.1 hp
 obtain⟨b0q,c0q,rfl,h0q,w1q⟩:=zAB.1 hq
 refine⟨fun x0=>?_⟩
 refine⟨fun x1=>?_⟩
 constructor<;>intro q2
 ·simp at q2
  refine zAe (zNw _ _ _ _ _ _ (p.row) (q.row)) ⟨(Rp.mono _ (zAa 0 rfl) h0p),(Rp.mono _ (zAa 0 rfl) h0q)⟩ ?_
  rintro _ rfl
  exact⟨[],⟨by unfold zL8;rw[show decide (p.times=q.times)=true from decide_eq_true aA,Bool.true_and],rfl⟩,.mem sI⟩
 simp at q2
 exact⟨[],⟨by unfold zL8;rw[show decide (p.times=q.times)=false from decide_eq_false aA,Bool.false_and],rfl⟩,.mem sI⟩
theorem zSI (b1:Option Addr) (m1 c1:Nat) (b2:Option Addr) (m2 c2:Nat) (aa bb:List Item):Ct prog 72 [.slice b1 m1 c1,.slice b2 m2 c2,.func (.func 73) ⟨[]⟩ ⟨[]⟩] [] (fun H=>(gSl 100 zAo).rd H [.slice b1 m1 c1] aa∧(gSl 100 zAo).rd H [.slice b2 m2 c2] bb) (fun v A=>v = .bool (decide (aa=bb))∧A=[]):=by
 refine Ct.intro0 zAh func72 rfl rfl rfl fun E H hp=>?_
 obtain⟨hp,hq⟩:=hp
 obtain⟨rfl,hcp⟩:=zBo hp
 obtain⟨rfl,hcq⟩:=zBo hq
 constructor<;>intro q0
 ·simp at q0
  exact⟨[],⟨by rw[zZO oO],rfl⟩,.mem sI⟩
 simp at q0
 apply zAg (α:=(Nat)) zAh [18,19,20,21,8,7,22,23,24,25,9,26,27,28,29,30,6,31,17] (fun z=>[(17,.v (.int .i64 z))]) (fun z=>[]) (fun z=>[H]) (fun z=>aa.length-z) (fun z=>z≤aa.length∧aa.take z=bb.take z) ((0))
 ·exact frI
 ·exact trivial
 ·exact⟨Nat.zero_le _,rfl⟩
 ·exact .refl _
 rintro k hI
 obtain⟨hk,he⟩:k≤aa.length∧aa.take k=bb.take k:=hI
 try dsimp only
 constructor<;>intro q1
 ·simp at q1
  refine zAf hp ?_ ?_ fun b2 o2 hb2=>?_
  ·omega
  ·omega
  refine zAd default (k) rfl hp ?_ ?_ hb2 rfl (zAa 0 rfl) fun l3 hl3=>?_
  ·omega
  ·omega
  obtain⟨b0x3,c0x3,rfl,h0x3,w1x3⟩:=zAB.1 hl3
  refine⟨fun x4=>?_⟩
  refine zAf hq ?_ ?_ fun b5 o5 hb5=>?_
  ·omega
  ·omega
  refine zAd default (k) rfl hq ?_ ?_ hb5 rfl (zAa 0 rfl) fun l6 hl6=>?_
  ·omega
  ·omega
  obtain⟨b0x6,c0x6,rfl,h0x6,w1x6⟩:=zAB.1 hl6
  refine⟨fun x7=>?_⟩
  refine zAe (zSH _ _ (aa[k]?.getD default) (bb[k]?.getD default)) ⟨(Rp.mono _ (zAa 0 rfl) hl3),(Rp.mono _ (zAa 0 rfl) hl6)⟩ ?_
  rintro _ rfl
  constructor<;>intro q9
  ·simp at q9
   exact⟨[],⟨by rw[zZN (k:=k) (zZQ aA)],rfl⟩,.mem sI⟩
  simp at q9
  apply zAb (k+1)
  ·exact .refl _
  ·exact frI
  ·exact trivial
  ·exact⟨oO,zUA oO oO he (zNO aA).1 (zNO aA).2⟩
  omega
 simp at q1
 exact⟨[],⟨by rw[zZP (k:=k) he oO oO],rfl⟩,.mem sI⟩
theorem zNP (l1 l2:List Value) (a b:Bag):Ct prog 27 [.agg ⟨l1⟩,.agg ⟨l2⟩] [] (fun H=>zDj.rd H l1 a∧zDj.rd H l2 b) (fun v A=>v = .bool (decide (a.items=b.items))∧A=[]):=by
 refine Ct.intro0 zAh func27 rfl rfl rfl fun E H hp=>?_
 obtain⟨hp,hq⟩:=hp
 obtain⟨b0p,c0p,rfl,h0p⟩:=zAD.1 hp
 obtain⟨b0q,c0q,rfl,h0q⟩:=zAD.1 hq
 refine⟨fun x0=>?_⟩
 refine⟨fun x1=>?_⟩
 refine zAe (zSI _ _ _ _ _ _ (a.items) (b.items)) ⟨(Rp.mono _ (zAa 0 rfl) h0p),(Rp.mono _ (zAa 0 rfl) h0q)⟩ ?_
 rintro _ rfl
 exact⟨[],⟨rfl,rfl⟩,.mem sI⟩
theorem zSJ {b0:Option Addr} {c0:Nat} {b1:Option Addr} {c1:Nat} {t:Table} {D:Hp} (h:OwT b0 c0 b1 c1 t D):zBw.ow [.slice b0 t.cols.length c0,.slice b1 t.bag.items.length c1] t D:=by
 obtain⟨Ac,Ab,hP,oc,ob⟩:=h
 exact zWD.2 ⟨b0,c0,Ac,_,Ab,rfl,hP,oc,zF5.2 ⟨b1,c1,Ab,rfl,.refl _,ob⟩⟩
theorem zL9 {b:Option Addr} {c:Nat} {x:Bag} {A:Hp} (o:(gSl 100 zAo).ow [.slice b x.items.length c] x.items A):zDj.rd A [.slice b x.items.length c] x:=zAD.2 ⟨b,c,rfl,Gt.owrd _ o⟩
theorem zIB (lg l:List Value) (b:Option Addr) (m c:Nat) (g:Graph) (x:Query) (s:List Int) (ce:Int) (hx:zAL.sz x≤1048576) :
  Ct prog 26 [.agg ⟨lg⟩,.agg ⟨l⟩,.slice b m c,.int .i64 ce] [] (fun H=>zBz.rd H lg g∧zAL.rd H l x∧(gSl 3 gI).rd H [.slice b m c] s)
   (fun v D=>∃ (b1:Option Addr) (c1:Nat),v = .tuple #[.agg ⟨[.slice b1 (zPa g x s ce).1.items.length c1]⟩,.bool (zPa g x s ce).2]∧(gSl 100 zAo).ow [.slice b1 (zPa g x s ce).1.items.length c1] (zPa g x s ce).1.items D):=by
 refine Ct.intro0 zAh func26 rfl rfl rfl fun E H hp=>?_
 obtain⟨hg,hp,hs⟩:=hp
 obtain⟨rfl,hcs,hls⟩:=zAp hs
 obtain⟨b1g,c1g,rfl,w0g,h1g⟩:=zAY.1 hg
 obtain⟨b1p,c1p,b2p,c2p,b3p,c3p,rfl,h1p,h2p,h3p⟩:=zAy.1 hp
 have hal:=zCI hx
 refine⟨fun x0=>?_⟩
 refine⟨fun x1=>?_⟩
 refine⟨fun x2=>?_⟩
 apply zAg (α:=(Nat)×(Hp)×(Option Addr)×(Nat)) zAh [18,19,11,21,22,23,24,25,26,20,27,28,12,13,29,30,31,9,32,33,34,35,10,36,17] (fun z=>[(17,.v (.int .i64 z.1)),(10,.v (.slice z.2.2.1 (zG9 g x s ce z.1).length z.2.2.2))]) (fun z=>[{ id:=x0,cs:=[Value.int IntKind.i64 g.size,Value.slice b1g g.edges.length c1g],ty:=(53:Nat) },{ id:=x1,cs:=[Value.bool x.each,Value.slice b1p x.out.length c1p,Value.slice b2p x.atoms.length c2p,Value.slice b3p x.filters.length c3p],ty:=(43:Nat) },{ id:=x2,cs:=[Value.slice none (0:Nat) (0:Nat)],ty:=(47:Nat) }]) (fun z=>[z.2.1,H]) (fun z=>x.atoms.length-z.1) (fun z=>z.1≤x.atoms.length∧(0 < z.1→zZn g x s ce)∧(gSl 65 zBw).ow [.slice z.2.2.1 (zG9 g x s ce z.1).length z.2.2.2] (zG9 g x s ce z.1) z.2.1) ((0,[],none,0))
 ·repeat' (first|exact trivial|refine⟨⟨_,rfl,by first|exact frE|(refine zAz ?_;simp;done)|exact congrArg SV.v (zAz (by rw[zBt,List.length_append,List.length_append];rfl))|exact zAz (by rw[zBt,List.length_append,List.length_append];rfl),frO⟩,?_⟩)
 ·exact⟨rfl,rfl,rfl,trivial⟩
 ·try dsimp only
  exact⟨Nat.zero_le _,fun h=>absurd h (Nat.lt_irrefl 0),zAm _ _ _⟩
 ·exact .refl _
 rintro ⟨k,D,lb,lc⟩ hI
 try dsimp only at hI
 obtain⟨hk,hP,oD⟩:=hI
 try dsimp only
 constructor<;>intro q3
 ·simp at q3
  have htl:=zKv g x s ce k
  refine zAi (zJX _ _ _ _ _ g x s _ ce hx) ⟨(Rp.mono _ (zAa 1 rfl) hg),(Rp.mono _ (zAa 1 rfl) hp),(Rp.mono _ (zAa 1 rfl) hs)⟩ ?_
  rintro v4 A4 o4
  obtain⟨b0T,c0T,b1T,c1T,rfl,oT⟩:=o4
  have oT2:=zSJ oT
  refine⟨fun x5=>?_⟩
  constructor<;>intro q6
  ·simp at q6
   (rw[zUn (zJi (i:=(k:Int)) oO aA)];exact⟨[],⟨_,_,rfl,zAm _ _ _⟩,.mem sI⟩)
  simp at q6
  have hoP:=zL3 aA
  have hct:=zJj (i:=k) oO hoP
  refine⟨fun x7=>?_⟩
  refine zAC (g:=zBw) (T:=65) zAh D _ [H] ?_ oD (oT2) (List.mem_of_getElem? (i:=0) rfl) rfl rfl rfl rfl rfl rfl rfl rfl ?_ fun b8 c8 A8 o8=>?_
  ·exact rlA
  ·omega
  apply zAb (k+1,_,_,_)
  ·exact .refl _
  ·repeat' (first|exact trivial|refine⟨⟨_,rfl,by first|exact frE|(refine zAz ?_;simp;done)|exact congrArg SV.v (zAz (by rw[zBt,List.length_append,List.length_append];rfl))|exact zAz (by rw[zBt,List.length_append,List.length_append];rfl),frO⟩,?_⟩)
  ·exact⟨rfl,rfl,rfl,trivial⟩
  ·try dsimp only
   exact⟨oO,fun _=>hoP,by rw[zBt];rw[hct] at *;assumption⟩
  try dsimp only
  omega
 simp at q3
 have hke:k=x.atoms.length:=oO
 subst hke
 have htl:=zKv g x s ce x.atoms.length
 have h1e:=zZp (fun h=>hP h)
 refine zAi (zJk _ _ _ _ _ _ _ x s ce (zG9 g x s ce x.atoms.length) hx) ⟨(Rp.mono _ (zAa 1 rfl) hp),(Rp.mono _ (zAa 1 rfl) hs),Rp.mono _ (zAk sI) (Gt.owrd _ oD)⟩ ?_
 rintro v9 A9 o9
 obtain⟨b19,c19,rfl,o9⟩:=o9
 (rw[h1e];exact⟨_,⟨_,_,rfl,aA⟩,rlB⟩)
theorem zIC {g:Graph} {a:Ask} {i:Nat} (hi:i < a.results.length) (h:(zPa g a.query a.shares (a.results[i]?.getD default).from').2=false):zV8 g a.query a.shares a.results a.over a.answer=false:=zZq hi fun e=>by rw[e.1] at h;cases h
theorem zO6 {g:Graph} {a:Ask} {i:Nat} (hi:i < a.results.length) (h:¬(zPa g a.query a.shares (a.results[i]?.getD default).from').1.items=(a.results[i]?.getD default).bag.items):zV8 g a.query a.shares a.results a.over a.answer=false:=zZq hi fun e=>h e.2
theorem zRj {g:Graph} {a:Ask} (h:∀ i,i < a.results.length→z3E g a.query a.shares a.results i) (h2:a.over=false):zV8 g a.query a.shares a.results a.over a.answer=true:=by rw[h2];exact z2C h
theorem zUB {g:Graph} {a:Ask} (h2:a.over=true) (h:(zCU g a.query).2=false):zV8 g a.query a.shares a.results a.over a.answer=false:=by rw[h2];exact z5I h
theorem zUC {g:Graph} {a:Ask} (h:∀ i,i < a.results.length→z3E g a.query a.shares a.results i) (h2:a.over=true) (h3:(zCU g a.query).2=true):zV8 g a.query a.shares a.results a.over a.answer=decide ((zCU g a.query).1.items=a.answer.items):=by rw[h2];exact z5J h h3
theorem zMa (la lg:List Value) (a:Ask) (g:Graph) (hx:zAL.sz a.query≤1048576) :
  Ct prog 9 [.agg ⟨la⟩,.agg ⟨lg⟩] [] (fun H=>zO7.rd H la a∧zBz.rd H lg g) (fun v A=>v = .bool (zV8 g a.query a.shares a.results a.over a.answer)∧A=[]):=by
 refine Ct.intro0 zAh func9 rfl rfl rfl fun E H hp=>?_
 obtain⟨hp,hg⟩:=hp
 obtain⟨b1g,c1g,rfl,w0g,h1g⟩:=zAY.1 hg
 obtain⟨l1p,b2p,c2p,b4p,c4p,l6p,rfl,h1p,h2p,w3p,h4p,h6p⟩:=zE0.1 hp
 obtain⟨b1_1p,c1_1p,b2_1p,c2_1p,b3_1p,c3_1p,rfl,h1_1p,h2_1p,h3_1p⟩:=zAy.1 h1p
 obtain⟨b0_6p,c0_6p,rfl,h0_6p⟩:=zAD.1 h6p
 have hrs:=(zBo h4p).2
 refine⟨fun x0=>?_⟩
 refine⟨fun x1=>?_⟩
 apply zAg (α:=(Nat)) zAh [15,16,17,6,19,20,21,22,23,24,25,26,18,27,28,7,8,29,30,31,32,33,34,35,36,37,4,38,14] (fun z=>[(14,.v (.int .i64 z))]) (fun z=>[{ id:=x0,cs:=[Value.bool a.on,Value.bool a.query.each,Value.slice b1_1p a.query.out.length c1_1p,Value.slice b2_1p a.query.atoms.length c2_1p,Value.slice b3_1p a.query.filters.length c3_1p]++([Value.slice b2p a.shares.length c2p,Value.int IntKind.i64 a.count,Value.slice b4p a.results.length c4p,Value.bool a.over,Value.slice b0_6p a.answer.items.length c0_6p]++[]),ty:=(49:Nat) },{ id:=x1,cs:=[Value.int IntKind.i64 g.size,Value.slice b1g g.edges.length c1g],ty:=(53:Nat) }]) (fun z=>[H]) (fun z=>a.results.length-z) (fun z=>z≤a.results.length∧∀ j,j < z→z3E g a.query a.shares a.results j) ((0))
 ·exact frI
 ·exact⟨rfl,rfl,trivial⟩
 ·exact⟨Nat.zero_le _,fun j hj=>absurd hj (Nat.not_lt_zero _)⟩
 ·exact .refl _
 rintro i hI
 try dsimp only at hI
 obtain⟨hi,hR⟩:=hI
 try dsimp only
 constructor<;>intro q2
 ·simp at q2
  refine zAf h4p ?_ ?_ fun b3 o3 hb3=>?_
  ·omega
  ·omega
  refine zAd default (i) rfl h4p ?_ ?_ hb3 rfl (zAa 0 rfl) fun l4 hl4=>?_
  ·omega
  ·omega
  obtain⟨l2x4,rfl,w0x4,w1x4,h2x4⟩:=zDn.1 hl4 ;obtain⟨b0_2x4,c0_2x4,rfl,h0_2x4⟩:=zAD.1 h2x4
  refine⟨fun x5=>?_⟩
  refine zAi (zIB _ _ _ _ _ (g) (a.query) (a.shares) _ ?_) ⟨(Rp.mono _ (zAa 0 rfl) hg),(Rp.mono _ (zAa 0 rfl) h1p),(Rp.mono _ (zAa 0 rfl) h2p)⟩ ?_
  ·trivial
  rintro v6 A6 o6
  obtain⟨b16,c16,rfl,o6⟩:=o6
  have rb6:=zL9 o6
  refine⟨fun x7=>?_⟩
  constructor<;>intro q8
  ·simp at q8
   exact⟨[],⟨by rw[zIC (i:=i) oO aA],rfl⟩,.mem sI⟩
  simp at q8
  refine zAe (zNP _ _ ((zPa g a.query a.shares (a.results[i]?.getD default).from').fst) ((a.results[i]?.getD default).bag)) ⟨(Rp.mono _ (zAa 0 rfl) rb6),(Rp.mono _ (zAa 1 rfl) h2x4)⟩ ?_
  rintro _ rfl
  constructor<;>intro q10
  ·simp at q10
   exact⟨[],⟨by rw[zO6 (i:=i) oO aA],rfl⟩,.mem sI⟩
  simp at q10
  apply zAb (i+1)
  ·exact .sub (by repeat (first|exact .slnil|apply List.Sublist.cons_cons|apply List.Sublist.cons))
  ·exact frI
  ·exact⟨rfl,rfl,trivial⟩
  ·exact⟨oO,zFq hR ⟨aA,aA⟩⟩
  omega
 simp at q2
 constructor<;>intro q11
 ·simp at q11
  exact⟨[],⟨by rw[zRj (fun j hj=>hR j oO) aA],rfl⟩,.mem sI⟩
 simp at q11
 refine zAi (zMD _ _ (g) (a.query) ?_) ⟨(Rp.mono _ (zAa 0 rfl) hg),(Rp.mono _ (zAa 0 rfl) h1p)⟩ ?_
 ·trivial
 rintro v12 A12 o12
 obtain⟨b112,c112,rfl,o12⟩:=o12
 have rb12:=zL9 o12
 refine⟨fun x13=>?_⟩
 constructor<;>intro q14
 ·refine zAe (zNP _ _ ((zCU g a.query).fst) (a.answer)) ⟨(Rp.mono _ (zAa 0 rfl) rb12),(Rp.mono _ (zAa 1 rfl) h6p)⟩ ?_
  rintro _ rfl
  exact⟨[],⟨by rw[zUC (fun j hj=>hR j oO) aA aA],rfl⟩,.mem sI⟩
 exact⟨[],⟨by rw[zUB aA aA],rfl⟩,.mem sI⟩
end
section
attribute [local irreducible] IntKind.wrap zA0 zAj zAS zA2
theorem zFQ (l1 l2:List Value) (a b:Bag):Ct prog 19 [.agg ⟨l1⟩,.agg ⟨l2⟩] [] (fun H=>zDj.rd H l1 a∧zDj.rd H l2 b) (fun v A=>v = .bool (decide (a.items=b.items))∧A=[]):=by
 refine Ct.intro0 zAh func19 rfl rfl rfl fun E H hp=>?_
 obtain⟨hp,hq⟩:=hp
 obtain⟨b0p,c0p,rfl,h0p⟩:=zAD.1 hp
 obtain⟨b0q,c0q,rfl,h0q⟩:=zAD.1 hq
 have hl1:=(zBo h0p).2
 have hl2:=(zBo h0q).2
 refine⟨fun x0=>?_⟩
 refine⟨fun x1=>?_⟩
 constructor<;>intro q2
 ·simp at q2
  exact⟨[],⟨by rw[zZO oO],rfl⟩,.mem sI⟩
 simp at q2
 apply zAg (α:=(Nat)) zAh [13,14,15,16,17,20,21,22,23,24,25,26,27,28,29,30,31,32,33,34,35,36,37,38,39,40,41,42,43,44,45,46,47,48,4,18,19,5] (fun z=>[(5,.v (.int .i64 z))]) (fun z=>[{ id:=x0,cs:=[Value.slice b0p a.items.length c0p],ty:=(47:Nat) },{ id:=x1,cs:=[Value.slice b0q b.items.length c0q],ty:=(47:Nat) }]) (fun z=>[H]) (fun z=>a.items.length-z) (fun z=>z≤a.items.length∧a.items.take z=b.items.take z) ((0))
 ·exact frI
 ·exact⟨rfl,rfl,trivial⟩
 ·exact⟨Nat.zero_le _,rfl⟩
 ·exact .refl _
 rintro k hI
 obtain⟨hk,he⟩:k≤a.items.length∧a.items.take k=b.items.take k:=hI
 try dsimp only
 constructor<;>intro q3
 ·simp at q3
  refine zBr zAh zAK none (.q 0 (.q 1 (.q 2 (.q 3 (.q 4 (.q 5 (.q 6 (.q 7 (.q 8 (.q 9 (.q 10 (.q 11 (.f 12 (.q 13 (.q 14 (.q 15 (.q 16 (.q 17 (.q 18 (.q 19 (.q 20 (.q 21 (.q 22 (.q 23 (.q 24 (.q 25 (.q 26 (.q 27 (.q 28 (.nil)))))))))))))))))))))))))))))) (by decide +kernel) ?_
  refine zAf h0p ?_ ?_ fun b4 o4 hb4=>?_
  ·omega
  ·omega
  refine zAw default (k) 0 rfl h0p ?_ ?_ hb4 rfl (by decide) (zAa 0 rfl) fun l5 hl5=>?_
  ·omega
  ·omega
  obtain⟨b0x5,c0x5,rfl,h0x5,w1x5⟩:=zAB.1 hl5
  refine zAf h0q ?_ ?_ fun b6 o6 hb6=>?_
  ·omega
  ·omega
  refine zAw default (k) 0 rfl h0q ?_ ?_ hb6 rfl (by decide) (zAa 0 rfl) fun l7 hl7=>?_
  ·omega
  ·omega
  obtain⟨b0x7,c0x7,rfl,h0x7,w1x7⟩:=zAB.1 hl7
  refine zAe (zNk _ _ _ _ _ _ ((a.items[k]?.getD default).row) ((b.items[k]?.getD default).row)) ⟨(Rp.mono _ (zAa 0 rfl) h0x5),(Rp.mono _ (zAa 0 rfl) h0x7)⟩ ?_
  rintro _ rfl
  refine VC.intro ?_ ?_
  ·exact fun _ h=>h
  constructor<;>intro q9
  ·simp at q9
   exact⟨[],⟨by rw[z51 (k:=k) aA],rfl⟩,.mem sI⟩
  simp at q9
  refine zAf h0p ?_ ?_ fun b10 o10 hb10=>?_
  ·omega
  ·omega
  refine zAw default (k) 1 rfl h0p ?_ ?_ hb10 rfl (by decide) (zAa 0 rfl) fun l11 hl11=>?_
  ·omega
  ·omega
  obtain⟨b0x11,c0x11,rfl,h0x11,w1x11⟩:=zAB.1 hl11
  refine zAf h0q ?_ ?_ fun b12 o12 hb12=>?_
  ·omega
  ·omega
  refine zAw default (k) 1 rfl h0q ?_ ?_ hb12 rfl (by decide) (zAa 0 rfl) fun l13 hl13=>?_
  ·omega
  ·omega
  obtain⟨b0x13,c0x13,rfl,h0x13,w1x13⟩:=zAB.1 hl13
  constructor<;>intro q14
  ·simp at q14
   exact⟨[],⟨by rw[z5Z (k:=k) aA],rfl⟩,.mem sI⟩
  simp at q14
  apply zAb (k+1)
  ·exact .refl _
  ·exact frI
  ·exact⟨rfl,rfl,trivial⟩
  ·exact⟨oO,zUA oO oO he aA aA⟩
  omega
 simp at q3
 exact⟨[],⟨by rw[zZP (k:=k) he oO oO],rfl⟩,.mem sI⟩
theorem zNQ (l:List Value) (b:Option Addr) (m c:Nat) (b2:Option Addr) (m2 c2:Nat) (g:Graph) (x:Query) (s:List Int) (ce:Int) (hx:zAL.sz x≤1048576) (h:0 < x.atoms.length→zZn g x s ce) :
  Ct prog 18 [.agg ⟨l⟩,.slice b m c,.int .i64 ce,.slice b2 m2 c2] [] (fun H=>zAL.rd H l x∧(gSl 3 gI).rd H [.slice b m c] s∧(gSl 65 zBw).rd H [.slice b2 m2 c2] (zG9 g x s ce x.atoms.length))
   (fun v D=>∃ (b1:Option Addr) (c1:Nat),v = .tuple #[.agg ⟨[.slice b1 (zPa g x s ce).1.items.length c1]⟩,.bool (zPa g x s ce).2]∧(gSl 100 zAo).ow [.slice b1 (zPa g x s ce).1.items.length c1] (zPa g x s ce).1.items D):=by
 rw[zZp h]
 exact zJd l b m c b2 m2 c2 x s ce _ hx
theorem zMb (la lg:List Value) (a:Ask) (g:Graph) (hx:zAL.sz a.query≤1048576) :
  Ct prog 6 [.agg ⟨la⟩,.agg ⟨lg⟩] [] (fun H=>zO7.rd H la a∧zBz.rd H lg g) (fun v A=>v = .bool (zV8 g a.query a.shares a.results a.over a.answer)∧A=[]):=by
 refine Ct.intro0 zAh func6 rfl rfl rfl fun E H hp=>?_
 obtain⟨hp,hg⟩:=hp
 obtain⟨b1g,c1g,rfl,w0g,h1g⟩:=zAY.1 hg
 obtain⟨l1p,b2p,c2p,b4p,c4p,l6p,rfl,h1p,h2p,w3p,h4p,h6p⟩:=zE0.1 hp
 obtain⟨b1_1p,c1_1p,b2_1p,c2_1p,b3_1p,c3_1p,rfl,h1_1p,h2_1p,h3_1p⟩:=zAy.1 h1p
 obtain⟨b0_6p,c0_6p,rfl,h0_6p⟩:=zAD.1 h6p
 have hrs:=(zBo h4p).2
 have hal:=zCI hx
 refine⟨fun x0=>?_⟩
 refine⟨fun x1=>?_⟩
 apply zAg (α:=(Nat)) zAh [14,15,16,17,18,21,6,7,22,23,24,25,26,27,31,32,33,34,35,36,37,38,39,40,41,42,43,30,44,45,8,9,46,47,4,48,49,50,51,28,29,53,54,55,56,57,58,59,60,61,62,63,64,52,65,66,10,11,67,68,69,70,71,72,73,74,75,76,77,78,79,19,20,5] (fun z=>[(5,.v (.int .i64 z))]) (fun z=>[{ id:=x0,cs:=[Value.bool a.on,Value.bool a.query.each,Value.slice b1_1p a.query.out.length c1_1p,Value.slice b2_1p a.query.atoms.length c2_1p,Value.slice b3_1p a.query.filters.length c3_1p]++([Value.slice b2p a.shares.length c2p,Value.int IntKind.i64 a.count,Value.slice b4p a.results.length c4p,Value.bool a.over,Value.slice b0_6p a.answer.items.length c0_6p]++[]),ty:=(49:Nat) },{ id:=x1,cs:=[Value.int IntKind.i64 g.size,Value.slice b1g g.edges.length c1g],ty:=(53:Nat) }]) (fun z=>[H]) (fun z=>a.results.length-z) (fun z=>z≤a.results.length∧∀ j,j < z→z3E g a.query a.shares a.results j) ((0))
 ·repeat' (first|exact trivial|refine⟨⟨_,rfl,by first|exact frE|(refine zAz ?_;simp;done)|exact congrArg SV.v (zAz (by rw[zBt,List.length_append,List.length_append];rfl))|exact zAz (by rw[zBt,List.length_append,List.length_append];rfl),frO⟩,?_⟩)
 ·exact⟨rfl,rfl,trivial⟩
 ·exact⟨Nat.zero_le _,fun j hj=>absurd hj (Nat.not_lt_zero _)⟩
 ·exact .refl _
 rintro i hI
 try dsimp only at hI
 obtain⟨hi,hR⟩:=hI
 try dsimp only
 constructor<;>intro q2
 ·simp at q2
  refine⟨fun x3=>?_⟩
  apply zAg (α:=(Nat)×(Hp)×(Option Addr)×(Nat)) zAh [22,23,24,25,26,27,31,32,33,34,35,36,37,38,39,40,41,42,43,30,44,45,8,9,46,47,4,48,49,50,51,6,28,29,7] (fun z=>[(7,.v (.int .i64 z.1)),(6,.v (.slice z.2.2.1 (zG9 g a.query a.shares (a.results[i]?.getD default).from' z.1).length z.2.2.2))]) (fun z=>[{ id:=x0,cs:=[Value.bool a.on,Value.bool a.query.each,Value.slice b1_1p a.query.out.length c1_1p,Value.slice b2_1p a.query.atoms.length c2_1p,Value.slice b3_1p a.query.filters.length c3_1p]++([Value.slice b2p a.shares.length c2p,Value.int IntKind.i64 a.count,Value.slice b4p a.results.length c4p,Value.bool a.over,Value.slice b0_6p a.answer.items.length c0_6p]++[]),ty:=(49:Nat) },{ id:=x1,cs:=[Value.int IntKind.i64 g.size,Value.slice b1g g.edges.length c1g],ty:=(53:Nat) }]) (fun z=>[z.2.1,H]) (fun z=>a.query.atoms.length-z.1) (fun z=>z.1≤a.query.atoms.length∧(0 < z.1→zZn g a.query a.shares (a.results[i]?.getD default).from')∧(gSl 65 zBw).ow [.slice z.2.2.1 (zG9 g a.query a.shares (a.results[i]?.getD default).from' z.1).length z.2.2.2] (zG9 g a.query a.shares (a.results[i]?.getD default).from' z.1) z.2.1) ((0,[],_,0))
  ·repeat' (first|exact trivial|refine⟨⟨_,rfl,by first|exact frE|(refine zAz ?_;simp;done)|exact congrArg SV.v (zAz (by rw[zBt,List.length_append,List.length_append];rfl))|exact zAz (by rw[zBt,List.length_append,List.length_append];rfl),frO⟩,?_⟩)
  ·exact⟨rfl,rfl,trivial⟩
  ·try dsimp only
   exact⟨Nat.zero_le _,fun h=>absurd h (Nat.lt_irrefl 0),zAm _ _ _⟩
  ·exact .tl
  rintro ⟨k,D,lb,lc⟩ hI
  try dsimp only at hI
  obtain⟨hk,hP,oD⟩:=hI
  try dsimp only
  constructor<;>intro q4
  ·simp at q4
   have htl:=zKv g a.query a.shares (a.results[i]?.getD default).from' k
   refine zBr zAh zAK (some 17) (.q 0 (.q 1 (.q 2 (.q 3 (.q 4 (.q 5 (.q 6 (.q 7 (.q 8 (.q 9 (.q 10 (.q 11 (.hd (.alt 12 (.q 13 (.q 14 (.q 15 (.f 16 (.tl 17 (.f 18 (.nil))))))) (.alt 16 (.f 12 (.q 13 (.q 14 (.q 15 (.tl 17 (.f 18 (.nil))))))) (.nil)))))))))))))))) (by decide +kernel) ?_
   refine zAf h4p ?_ ?_ fun b5 o5 hb5=>?_
   ·omega
   ·omega
   refine zAw default (i) 0 rfl h4p ?_ ?_ hb5 rfl (by decide) (zAa 1 rfl) fun l6 hl6=>?_
   ·omega
   ·omega
   obtain⟨l2x6,rfl,w0x6,w1x6,h2x6⟩:=zDn.1 hl6 ;obtain⟨b0_2x6,c0_2x6,rfl,h0_2x6⟩:=zAD.1 h2x6
   refine VC.intro ?_ ?_
   ·refine zAi (zFU _ _ _ _ _ g a.query a.shares _ (a.results[i]?.getD default).from' hx) ⟨(Rp.mono _ (zAa 1 rfl) hg),(Rp.mono _ (zAa 1 rfl) h1p),(Rp.mono _ (zAa 1 rfl) h2p)⟩ ?_
    rintro v7 A7 o7
    obtain⟨b0T,c0T,b1T,c1T,rfl,oT⟩:=o7
    have oT2:=zSJ oT
    refine VC.intro ?_ ?_
    ·exact zAA
    refine⟨fun x8=>?_⟩
    refine VC.intro ?_ ?_
    ·exact zAl sI sI
    constructor<;>intro q9
    ·simp at q9
     exact⟨[],⟨by rw[zIC (i:=i) oO (by rw[zUn (zJi (i:=(k:Int)) oO aA)])],rfl⟩,.mem sI⟩
    simp at q9
    have hoP:=zL3 aA
    have hct:=zJj (i:=k) oO hoP
    refine⟨fun x10=>?_⟩
    refine zAC (g:=zBw) (T:=65) zAh D _ [H] ?_ oD (oT2) (List.mem_of_getElem? (i:=0) rfl) rfl rfl rfl rfl rfl rfl rfl rfl ?_ fun b11 c11 A11 o11=>?_
    ·exact rlA
    ·omega
    apply zAb (k+1,_,_,_)
    ·exact .refl _
    ·repeat' (first|exact trivial|refine⟨⟨_,rfl,by first|exact frE|(refine zAz ?_;simp;done)|exact congrArg SV.v (zAz (by rw[zBt,List.length_append,List.length_append];rfl))|exact zAz (by rw[zBt,List.length_append,List.length_append];rfl),frO⟩,?_⟩)
    ·exact⟨rfl,rfl,trivial⟩
    ·try dsimp only
     exact⟨oO,fun _=>hoP,by rw[zBt];rw[hct] at *;assumption⟩
    try dsimp only
    omega
   refine VC.intro ?_ ?_
   ·refine⟨fun x12=>?_⟩
    refine VC.intro ?_ ?_
    ·exact zAl sI sI
    refine zAi (zFU _ _ _ _ _ g a.query a.shares _ (a.results[i]?.getD default).from' hx) ⟨(Rp.mono _ (zAa 1 rfl) hg),(Rp.mono _ (zAa 1 rfl) h1p),(Rp.mono _ (zAa 1 rfl) h2p)⟩ ?_
    rintro v13 A13 o13
    obtain⟨b0T,c0T,b1T,c1T,rfl,oT⟩:=o13
    have oT2:=zSJ oT
    refine VC.intro ?_ ?_
    ·exact zAl sI sI
    constructor<;>intro q14
    ·simp at q14
     exact⟨[],⟨by rw[zIC (i:=i) oO (by rw[zUn (zJi (i:=(k:Int)) oO aA)])],rfl⟩,.mem sI⟩
    simp at q14
    have hoP:=zL3 aA
    have hct:=zJj (i:=k) oO hoP
    refine⟨fun x15=>?_⟩
    refine zAC (g:=zBw) (T:=65) zAh D _ [H] ?_ oD (oT2) (List.mem_of_getElem? (i:=0) rfl) rfl rfl rfl rfl rfl rfl rfl rfl ?_ fun b16 c16 A16 o16=>?_
    ·exact rlA
    ·omega
    apply zAb (k+1,_,_,_)
    ·exact .refl _
    ·repeat' (first|exact trivial|refine⟨⟨_,rfl,by first|exact frE|(refine zAz ?_;simp;done)|exact congrArg SV.v (zAz (by rw[zBt,List.length_append,List.length_append];rfl))|exact zAz (by rw[zBt,List.length_append,List.length_append];rfl),frO⟩,?_⟩)
    ·exact⟨rfl,rfl,trivial⟩
    ·try dsimp only
     exact⟨oO,fun _=>hoP,by rw[zBt];rw[hct] at *;assumption⟩
    try dsimp only
    omega
   exact trivial
  simp at q4
  have hke:k=a.query.atoms.length:=oO
  subst hke
  have htl:=zKv g a.query a.shares (a.results[i]?.getD default).from' a.query.atoms.length
  refine zBr zAh zAK (some 16) (.q 0 (.q 1 (.q 2 (.q 3 (.q 4 (.q 5 (.q 6 (.q 7 (.q 8 (.q 9 (.q 10 (.hd (.alt 11 (.q 12 (.q 13 (.q 14 (.f 15 (.tl 16 (.f 17 (.nil))))))) (.alt 15 (.f 11 (.q 12 (.q 13 (.q 14 (.tl 16 (.f 17 (.nil))))))) (.nil))))))))))))))) (by decide +kernel) ?_
  refine zAf h4p ?_ ?_ fun b17 o17 hb17=>?_
  ·omega
  ·omega
  refine zAw default (i) 0 rfl h4p ?_ ?_ hb17 rfl (by decide) (zAa 1 rfl) fun l18 hl18=>?_
  ·omega
  ·omega
  obtain⟨l2x18,rfl,w0x18,w1x18,h2x18⟩:=zDn.1 hl18 ;obtain⟨b0_2x18,c0_2x18,rfl,h0_2x18⟩:=zAD.1 h2x18
  refine VC.intro ?_ ?_
  ·refine zAi (zNQ _ _ _ _ _ _ _ g a.query a.shares _ hx (fun h=>hP h)) ⟨(Rp.mono _ (zAa 1 rfl) h1p),(Rp.mono _ (zAa 1 rfl) h2p),Rp.mono _ (zAk sI) (Gt.owrd _ oD)⟩ ?_
   rintro v19 A19 o19
   obtain⟨b119,c119,rfl,o19⟩:=o19
   have rb19:=zL9 o19
   refine VC.intro ?_ ?_
   ·exact zAA
   refine⟨fun x20=>?_⟩
   refine VC.intro ?_ ?_
   ·exact zAl sI sI
   refine zBr zAh zAK none (.q 0 (.q 1 (.q 2 (.q 3 (.q 4 (.q 5 (.q 6 (.q 7 (.q 8 (.q 9 (.f 10 (.q 11 (.q 12 (.nil)))))))))))))) (by decide +kernel) ?_
   constructor<;>intro q21
   ·simp at q21
    exact⟨[],⟨by rw[zIC (i:=i) oO aA],rfl⟩,.mem sI⟩
   simp at q21
   refine zAf h4p ?_ ?_ fun b22 o22 hb22=>?_
   ·omega
   ·omega
   refine zAw default (i) 2 rfl h4p ?_ ?_ hb22 rfl (by decide) (zAa 2 rfl) fun l23 hl23=>?_
   ·omega
   ·omega
   obtain⟨l2x23,rfl,w0x23,w1x23,h2x23⟩:=zDn.1 hl23 ;obtain⟨b0_2x23,c0_2x23,rfl,h0_2x23⟩:=zAD.1 h2x23
   refine zAe (zFQ _ _ ((zPa g a.query a.shares (a.results[i]?.getD default).from').fst) ((a.results[i]?.getD default).bag)) ⟨(Rp.mono _ (zAa 0 rfl) rb19),(Rp.mono _ (zAa 2 rfl) h2x23)⟩ ?_
   rintro _ rfl
   refine VC.intro ?_ ?_
   ·exact fun _ h=>h
   constructor<;>intro q25
   ·simp at q25
    exact⟨[],⟨by rw[zO6 (i:=i) oO aA],rfl⟩,.mem sI⟩
   simp at q25
   apply zAb (i+1)
   ·exact .sub (by repeat (first|exact .slnil|apply List.Sublist.cons_cons|apply List.Sublist.cons))
   ·repeat' (first|exact trivial|refine⟨⟨_,rfl,by first|exact frE|(refine zAz ?_;simp;done)|exact congrArg SV.v (zAz (by rw[zBt,List.length_append,List.length_append];rfl))|exact zAz (by rw[zBt,List.length_append,List.length_append];rfl),frO⟩,?_⟩)
   ·exact⟨rfl,rfl,trivial⟩
   ·exact⟨oO,zFq hR ⟨aA,aA⟩⟩
   omega
  refine VC.intro ?_ ?_
  ·refine⟨fun x26=>?_⟩
   refine VC.intro ?_ ?_
   ·exact zAl sI sI
   refine zAi (zNQ _ _ _ _ _ _ _ g a.query a.shares _ hx (fun h=>hP h)) ⟨(Rp.mono _ (zAa 1 rfl) h1p),(Rp.mono _ (zAa 1 rfl) h2p),Rp.mono _ (zAk sI) (Gt.owrd _ oD)⟩ ?_
   rintro v27 A27 o27
   obtain⟨b127,c127,rfl,o27⟩:=o27
   have rb27:=zL9 o27
   refine VC.intro ?_ ?_
   ·exact zAl sI sI
   refine zBr zAh zAK none (.q 0 (.q 1 (.q 2 (.q 3 (.q 4 (.q 5 (.q 6 (.q 7 (.q 8 (.q 9 (.f 10 (.q 11 (.q 12 (.nil)))))))))))))) (by decide +kernel) ?_
   constructor<;>intro q28
   ·simp at q28
    exact⟨[],⟨by rw[zIC (i:=i) oO aA],rfl⟩,.mem sI⟩
   simp at q28
   refine zAf h4p ?_ ?_ fun b29 o29 hb29=>?_
   ·omega
   ·omega
   refine zAw default (i) 2 rfl h4p ?_ ?_ hb29 rfl (by decide) (zAa 2 rfl) fun l30 hl30=>?_
   ·omega
   ·omega
   obtain⟨l2x30,rfl,w0x30,w1x30,h2x30⟩:=zDn.1 hl30 ;obtain⟨b0_2x30,c0_2x30,rfl,h0_2x30⟩:=zAD.1 h2x30
   refine zAe (zFQ _ _ ((zPa g a.query a.shares (a.results[i]?.getD default).from').fst) ((a.results[i]?.getD default).bag)) ⟨(Rp.mono _ (zAa 0 rfl) rb27),(Rp.mono _ (zAa 2 rfl) h2x30)⟩ ?_
   rintro _ rfl
   refine VC.intro ?_ ?_
   ·exact fun _ h=>h
   constructor<;>intro q32
   ·simp at q32
    exact⟨[],⟨by rw[zO6 (i:=i) oO aA],rfl⟩,.mem sI⟩
   simp at q32
   apply zAb (i+1)
   ·exact .sub (by repeat (first|exact .slnil|apply List.Sublist.cons_cons|apply List.Sublist.cons))
   ·repeat' (first|exact trivial|refine⟨⟨_,rfl,by first|exact frE|(refine zAz ?_;simp;done)|exact congrArg SV.v (zAz (by rw[zBt,List.length_append,List.length_append];rfl))|exact zAz (by rw[zBt,List.length_append,List.length_append];rfl),frO⟩,?_⟩)
   ·exact⟨rfl,rfl,trivial⟩
   ·exact⟨oO,zFq hR ⟨aA,aA⟩⟩
   omega
  exact trivial
 simp at q2
 constructor<;>intro q33
 ·simp at q33
  exact⟨[],⟨by rw[zRj (fun j hj=>hR j oO) aA],rfl⟩,.mem sI⟩
 simp at q33
 refine zAi (zMF _ _ (g) (a.query) ?_) ⟨(Rp.mono _ (zAa 0 rfl) hg),(Rp.mono _ (zAa 0 rfl) h1p)⟩ ?_
 ·trivial
 rintro v34 A34 o34
 obtain⟨b134,c134,rfl,o34⟩:=o34
 have rb34:=zL9 o34
 refine⟨fun x35=>?_⟩
 constructor<;>intro q36
 ·refine zAe (zFQ _ _ ((zCU g a.query).fst) (a.answer)) ⟨(Rp.mono _ (zAa 0 rfl) rb34),(Rp.mono _ (zAa 1 rfl) h6p)⟩ ?_
  rintro _ rfl
  exact⟨[],⟨by rw[zUC (fun j hj=>hR j oO) aA aA],rfl⟩,.mem sI⟩
 exact⟨[],⟨by rw[zUB aA aA],rfl⟩,.mem sI⟩
end
section
theorem zID (v0 v1:Value) :
  Ct prog 3 [v0,v1] [] (fun H=>(∃ x,rdV true zO7.toRp H v0 x)∧(∃ x,rdV true zBz.toRp H v1 x)) (fun v A=>v = .bool true∧A=[]):=by
 refine Ct.intro0 zAh func3 rfl rfl rfl fun E H hp=>?_
 obtain⟨⟨xa0,hp0⟩,⟨xa1,hp1⟩⟩:=hp
 obtain⟨la0,rfl,hp0⟩:=hp0
 obtain⟨l1a0,b2a0,c2a0,b4a0,c4a0,l6a0,rfl,h1a0,h2a0,w3a0,h4a0,h6a0⟩:=zE0.1 hp0
 obtain⟨b1_1a0,c1_1a0,b2_1a0,c2_1a0,b3_1a0,c3_1a0,rfl,h1_1a0,h2_1a0,h3_1a0⟩:=zAy.1 h1a0
 obtain⟨b0_6a0,c0_6a0,rfl,h0_6a0⟩:=zAD.1 h6a0
 obtain⟨la1,rfl,hp1⟩:=hp1
 obtain⟨b1a1,c1a1,rfl,w0a1,h1a1⟩:=zAY.1 hp1
 refine⟨fun x0=>?_⟩
 refine⟨fun x1=>?_⟩
 refine zDS (z0X _ (xa0) _ ?_ ?_) (Rp.mono _ (zAa 0 rfl) hp0) ?_
 ·trivial
 ·trivial
 rintro _ ⟨r2,rfl,hr2⟩
 constructor<;>intro q3
 ·simp at q3
  exact⟨[],⟨rfl,rfl⟩,.mem sI⟩
 simp at q3
 refine zDS (zUZ _ (xa1) _ ?_ ?_) (Rp.mono _ (zAa 0 rfl) hp1) ?_
 ·trivial
 ·omega
 rintro _ ⟨r4,rfl,hr4⟩
 constructor<;>intro q5
 ·simp at q5
  exact⟨[],⟨rfl,rfl⟩,.mem sI⟩
 simp at q5
 refine zBr zAh zAK none (.q 0 (.q 2 (.f 1 (.f 3 (.f 4 (.q 5 (.nil))))))) (by decide +kernel) ?_
 refine zAi (zOc _ (xa0) ?_) (Rp.mono _ (zAa 0 rfl) hp0) ?_
 ·omega
 rintro v6 A6 o6
 obtain⟨l6,rfl,o6⟩:=o6
 have r6:=Gt.owrd _ o6
 obtain⟨l1x6,b2x6,c2x6,b4x6,c4x6,l6x6,rfl,h1x6,h2x6,w3x6,h4x6,h6x6⟩:=zE0.1 r6
 obtain⟨b1_1x6,c1_1x6,b2_1x6,c2_1x6,b3_1x6,c3_1x6,rfl,h1_1x6,h2_1x6,h3_1x6⟩:=zAy.1 h1x6
 obtain⟨b0_6x6,c0_6x6,rfl,h0_6x6⟩:=zAD.1 h6x6
 refine VC.intro ?_ ?_
 ·exact zAA
 refine zAi (zIR _ (xa1) ?_) (Rp.mono _ (zAa 1 rfl) hp1) ?_
 ·omega
 rintro v7 A7 o7
 obtain⟨l7,rfl,o7⟩:=o7
 have r7:=Gt.owrd _ o7
 obtain⟨b1x7,c1x7,rfl,w0x7,h1x7⟩:=zAY.1 r7
 refine VC.intro ?_ ?_
 ·exact zAl sI sI
 refine zAe (zMb _ _ (xa0) (xa1) ?_) ⟨(Rp.mono _ (zAa 1 rfl) r6),(Rp.mono _ (zAa 0 rfl) r7)⟩ ?_
 ·(have:=zOb xa0;omega)
 rintro _ rfl
 refine VC.intro ?_ ?_
 ·exact zAl sI sI
 refine zAi (zOc _ (xa0) ?_) (Rp.mono _ (zAa 2 rfl) hp0) ?_
 ·omega
 rintro v9 A9 o9
 obtain⟨l9,rfl,o9⟩:=o9
 have r9:=Gt.owrd _ o9
 obtain⟨l1x9,b2x9,c2x9,b4x9,c4x9,l6x9,rfl,h1x9,h2x9,w3x9,h4x9,h6x9⟩:=zE0.1 r9
 obtain⟨b1_1x9,c1_1x9,b2_1x9,c2_1x9,b3_1x9,c3_1x9,rfl,h1_1x9,h2_1x9,h3_1x9⟩:=zAy.1 h1x9
 obtain⟨b0_6x9,c0_6x9,rfl,h0_6x9⟩:=zAD.1 h6x9
 refine⟨fun x10=>?_⟩
 refine zAi (zIR _ (xa1) ?_) (Rp.mono _ (zAa 3 rfl) hp1) ?_
 ·omega
 rintro v11 A11 o11
 obtain⟨l11,rfl,o11⟩:=o11
 have r11:=Gt.owrd _ o11
 obtain⟨b1x11,c1x11,rfl,w0x11,h1x11⟩:=zAY.1 r11
 refine⟨fun x12=>?_⟩
 refine zAe (zMa _ _ (xa0) (xa1) ?_) ⟨(Rp.mono _ (zAa 1 rfl) r9),(Rp.mono _ (zAa 0 rfl) r11)⟩ ?_
 ·(have:=zOb xa0;omega)
 rintro _ rfl
 constructor<;>intro q14
 ·simp at q14
 simp at q14
 refine zBr zAh zAK none (.q 0 (.q 1 (.f 2 (.f 3 (.q 4 (.nil)))))) (by decide +kernel) ?_
 refine zAi (zOc _ (xa0) ?_) (Rp.mono _ (zAa 4 rfl) hp0) ?_
 ·omega
 rintro v15 A15 o15
 obtain⟨l15,rfl,o15⟩:=o15
 have r15:=Gt.owrd _ o15
 obtain⟨l1x15,b2x15,c2x15,b4x15,c4x15,l6x15,rfl,h1x15,h2x15,w3x15,h4x15,h6x15⟩:=zE0.1 r15
 obtain⟨b1_1x15,c1_1x15,b2_1x15,c2_1x15,b3_1x15,c3_1x15,rfl,h1_1x15,h2_1x15,h3_1x15⟩:=zAy.1 h1x15
 obtain⟨b0_6x15,c0_6x15,rfl,h0_6x15⟩:=zAD.1 h6x15
 refine VC.intro ?_ ?_
 ·exact zAA
 refine zAe (z0Y _ _ (xa0) (xa0)) ⟨(Rp.mono _ (zAa 2 rfl) r9),(Rp.mono _ (zAa 0 rfl) r15)⟩ ?_
 rintro _ rfl
 refine VC.intro ?_ ?_
 ·exact zAA
 constructor<;>intro q17
 ·simp at q17
 simp at q17
 refine zBr zAh zAK none (.q 0 (.q 1 (.f 2 (.f 3 (.q 4 (.nil)))))) (by decide +kernel) ?_
 refine zAi (zIR _ (xa1) ?_) (Rp.mono _ (zAa 5 rfl) hp1) ?_
 ·omega
 rintro v18 A18 o18
 obtain⟨l18,rfl,o18⟩:=o18
 have r18:=Gt.owrd _ o18
 obtain⟨b1x18,c1x18,rfl,w0x18,h1x18⟩:=zAY.1 r18
 refine VC.intro ?_ ?_
 ·exact zAA
 refine zAe (zU0 _ _ (xa1) (xa1)) ⟨(Rp.mono _ (zAa 2 rfl) r11),(Rp.mono _ (zAa 0 rfl) r18)⟩ ?_
 rintro _ rfl
 refine VC.intro ?_ ?_
 ·exact zAA
 constructor<;>intro q20
 ·simp at q20
 simp at q20
 exact⟨[],⟨rfl,rfl⟩,.mem sI⟩
end
end Go.Proofs.YtcnclhjhnjpeiaaGreat
