/-
 Parts of the law, put together. Conditions: none.
-/
import Derived.Test.YtcnclhjhnjpeiaaGreatZq5
set_option maxHeartbeats 4000000
set_option linter.unusedSimpArgs false
set_option linter.unusedVariables false
namespace Go.Proofs.YtcnclhjhnjpeiaaGreat
open Go.SX Go.Proofs
open Tryz
section
attribute [local irreducible] IntKind.wrap
theorem zTZ {cs:List ByteArray} {k:Nat} (hk:k < cs.length) (h:zBY (cs[k]?.getD ByteArray.empty)=false):zB9 cs=false:=by
 unfold zB9;rw[zDz (p:=fun i=>zBY (cs[i]?.getD ByteArray.empty)) (k:=k) h _ hk];simp
theorem z16 {cs:List ByteArray} {k:Nat} (hk:k < cs.length) (h:zBI ((cs.take ((k:Nat):Int).toNat).drop 0) (cs[k]?.getD ByteArray.empty)=true):zB9 cs=false:=by
 unfold zB9;rw[zOB hk h];simp
theorem z17 {cs:List ByteArray} (h1:zCd (fun i=>zBY (cs[i]?.getD ByteArray.empty)) cs.length=true) (h2:zCd (fun i=>!zBI (cs.take i) (cs[i]?.getD ByteArray.empty)) cs.length=true):zB9 cs=inR 1 4 (cs.length:Nat):=by
 unfold zB9 zD7
 rw[h1,h2,Bool.and_true,Bool.and_true,Bool.eq_iff_iff,decide_eq_true_iff,zAq];omega
theorem zVH (b:Option Addr) (m c:Nat) (xs:List ByteArray):Ct prog 102 [.slice b m c] [] (fun H=>(gSl 9 gS).rd H [.slice b m c] xs) (fun v A=>v = .bool (zB9 xs)∧A=[]):=by
 refine Ct.intro0 zAh func102 rfl rfl rfl fun E H hp=>?_
 obtain⟨rfl,hcl,hl⟩:=zAp hp
 apply zAg (α:=(Nat)) zAh [4,5,6,7,10,11,12,13,14,15,16,17,18,19,20,21,22,23,24,25,2,8,9,3] (fun z=>[(3,.v (.int .i64 z))]) (fun z=>[]) (fun z=>[H]) (fun z=>xs.length-z) (fun z=>z≤xs.length∧zCd (fun i=>zBY (xs[i]?.getD ByteArray.empty)) z=true∧zCd (fun i=>!zBI (xs.take i) (xs[i]?.getD ByteArray.empty)) z=true) ((0))
 ·exact frI
 ·exact trivial
 ·exact⟨Nat.zero_le _,rfl,rfl⟩
 ·exact .refl _
 rintro k hI
 try dsimp only at hI
 obtain⟨hk,ha,hb⟩:=hI
 try dsimp only
 constructor<;>intro q0
 ·simp at q0
  refine zBr zAh zAK none (.q 0 (.q 1 (.q 2 (.q 3 (.f 4 (.q 5 (.q 6 (.q 7 (.q 8 (.q 9 (.q 10 (.q 11 (.q 12 (.q 13 (.f 14 (.q 15 (.nil))))))))))))))))) (by decide +kernel) ?_
  refine zAf hp ?_ ?_ fun b1 o1 hb1=>?_
  ·omega
  ·omega
  refine zAd ByteArray.empty (k) rfl hp ?_ ?_ hb1 rfl (zAa 0 rfl) fun l2 hl2=>?_
  ·omega
  ·omega
  obtain⟨rfl,hw2⟩:=hl2;simp only[zAx,zAs,okI] at hw2
  refine zAe (zD5 _ ?_) trivial ?_
  ·trivial
  rintro _ rfl
  refine VC.intro ?_ ?_
  ·exact fun _ h=>h
  constructor<;>intro q4
  ·simp at q4
   exact⟨[],⟨by rw[zTZ (k:=k) oO aA],rfl⟩,.mem sI⟩
  simp at q4
  refine VC.intro ?_ ?_
  ·omega
  refine zAf hp ?_ ?_ fun b5 o5 hb5=>?_
  ·omega
  ·omega
  refine zAd ByteArray.empty (k) rfl hp ?_ ?_ hb5 rfl (zAa 0 rfl) fun l6 hl6=>?_
  ·omega
  ·omega
  obtain⟨rfl,hw6⟩:=hl6;simp only[zAx,zAs,okI] at hw6
  refine zAe (zCP _ _ _ ((xs.take ((k:Nat):Int).toNat).drop 0) _) (Rp.mono _ (zAa 0 rfl) (zJo (r:=gS.toRp) (l:=0) (h:=((k:Nat):Int).toNat) hp oO oO)) ?_
  rintro _ rfl
  refine VC.intro ?_ ?_
  ·exact fun _ h=>h
  constructor<;>intro q8
  ·simp at q8
   exact⟨[],⟨by rw[z16 (k:=k) oO aA],rfl⟩,.mem sI⟩
  simp at q8
  apply zAb (k+1)
  ·exact .refl _
  ·exact frI
  ·exact trivial
  ·exact⟨oO,zAG ha aA,zAG hb (zLn aA)⟩
  omega
 simp at q0
 refine zAe (zA3 _ _ _) trivial ?_
 rintro _ rfl
 (have hke:k=xs.length:=oO;subst hke;exact⟨[],⟨by rw[z17 ha hb],rfl⟩,.mem sI⟩)
theorem zYA {t:Table} {i:Nat} (hi:i < t.bag.items.length) (h:¬(t.bag.items[i]?.getD default).row.length=t.cols.length):zAv t=false:=by
 rw[←Bool.not_eq_true,zAJ]
 rintro ⟨_,_,h3⟩
 exact h (zCQ h3 (t.bag.items[i]?.getD default) (by rw[List.getElem?_eq_getElem hi];exact List.getElem_mem hi)).2.2
theorem zGs {t:Table} (h:zB9 t.cols=false):zAv t=false:=by unfold zAv;rw[h];rfl
theorem zYB {t:Table} (h:zJO t.bag=false):zAv t=false:=by unfold zAv;rw[h];simp
theorem zYC {t:Table} (h:zCd (fun i=>decide ((t.bag.items[i]?.getD default).row.length=t.cols.length)) t.bag.items.length=true) (h1:zB9 t.cols=true):zAv t=zJO t.bag:=by
 unfold zAv
 rw[h1,Bool.true_and]
 have h2:decide (0 < t.bag.items.length→(zBE t.bag.items 0).length=t.cols.length)=true:=decide_eq_true fun h0=>decide_eq_true_iff.1 (zBe h 0 h0)
 rw[h2,Bool.and_true]
theorem zCv (l:List Value) (t:Table):Ct prog 48 [.agg ⟨l⟩] [] (fun H=>zBw.rd H l t) (fun v A=>v = .bool (zAv t)∧A=[]):=by
 refine Ct.intro0 zAh func48 rfl rfl rfl fun E H hp=>?_
 obtain⟨b0p,c0p,l1p,rfl,h0p,h1p⟩:=zA6.1 hp
 obtain⟨b0_1p,c0_1p,rfl,h0_1p⟩:=zAD.1 h1p
 have hlen:=(zAp h0_1p).2.2
 refine⟨fun x0=>?_⟩
 apply zAg (α:=(Nat)) zAh [4,5,6,7,8,9,12,13,14,15,16,17,18,19,20,21,22,23,2,10,11,3] (fun z=>[(3,.v (.int .i64 z))]) (fun z=>[{ id:=x0,cs:=[Value.slice b0p t.cols.length c0p,Value.slice b0_1p t.bag.items.length c0_1p]++[],ty:=(65:Nat) }]) (fun z=>[H]) (fun z=>t.bag.items.length-z) (fun z=>z≤t.bag.items.length∧zCd (fun i=>decide ((t.bag.items[i]?.getD default).row.length=t.cols.length)) z=true) ((0))
 ·exact frI
 ·exact⟨rfl,trivial⟩
 ·exact⟨Nat.zero_le _,rfl⟩
 ·exact .refl _
 rintro k hI
 try dsimp only at hI
 obtain⟨hk,ha⟩:=hI
 try dsimp only
 constructor<;>intro q1
 ·simp at q1
  refine zBr zAh zAK none (.q 0 (.q 1 (.q 2 (.q 3 (.q 4 (.q 5 (.q 6 (.q 7 (.q 8 (.q 9 (.q 10 (.q 11 (.nil))))))))))))) (by decide +kernel) ?_
  refine zAf h0_1p ?_ ?_ fun b2 o2 hb2=>?_
  ·omega
  ·omega
  refine zAw default (k) 0 rfl h0_1p ?_ ?_ hb2 rfl (by decide) (zAa 0 rfl) fun l3 hl3=>?_
  ·omega
  ·omega
  obtain⟨b0x3,c0x3,rfl,h0x3,w1x3⟩:=zAB.1 hl3
  constructor<;>intro q4
  ·simp at q4
   exact⟨[],⟨by rw[zYA (i:=k) oO oO],rfl⟩,.mem sI⟩
  simp at q4
  apply zAb (k+1)
  ·exact .refl _
  ·exact frI
  ·exact⟨rfl,trivial⟩
  ·exact⟨oO,zAG ha (decide_eq_true oO)⟩
  omega
 simp at q1
 have hke:k=t.bag.items.length:=by omega
 subst hke
 refine zAe (zVH _ _ _ (t.cols)) (Rp.mono _ (zAa 0 rfl) h0p) ?_
 rintro _ rfl
 constructor<;>intro q6
 ·refine zAe (zJr _ (t.bag)) (Rp.mono _ (zAa 0 rfl) h1p) ?_
  rintro _ rfl
  exact⟨[],⟨by rw[zYC ha aA],rfl⟩,.mem sI⟩
 exact⟨[],⟨by rw[zGs aA],rfl⟩,.mem sI⟩
theorem zYD {t:Table} (h:¬(1≤t.cols.length∧t.cols.length≤4)):zAv t=false:=zGs (by unfold zB9;rw[decide_eq_false h];rfl)
theorem z5m {t:Table} (h:zD7 t.cols=false):zAv t=false:=zGs (by unfold zB9;rw[h];simp)
theorem zYE {t:Table} (h1:1≤t.cols.length∧t.cols.length≤4) (h2:zD7 t.cols=true) (h3:zJO t.bag=true) (h4:zCd (fun i=>zBY (t.cols[i]?.getD ByteArray.empty)) t.cols.length=true):zAv t=decide (0 < t.bag.items.length→(zBE t.bag.items 0).length=t.cols.length):=by
 unfold zAv zB9
 rw[h2,h3,h4,decide_eq_true h1];rfl
theorem z5n {t:Table} (h1:1≤t.cols.length∧t.cols.length≤4) (h2:zD7 t.cols=true) (h3:zJO t.bag=true) (h4:zCd (fun i=>zBY (t.cols[i]?.getD ByteArray.empty)) t.cols.length=true) (h:t.bag.items=[]):zAv t=true:=by
 rw[zYE h1 h2 h3 h4]
 exact decide_eq_true fun h0=>by rw[h] at h0;cases h0
theorem z18 {t:Table} (h1:1≤t.cols.length∧t.cols.length≤4) (h2:zD7 t.cols=true) (h3:zJO t.bag=true) (h4:zCd (fun i=>zBY (t.cols[i]?.getD ByteArray.empty)) t.cols.length=true) (h:¬t.bag.items=[]):((((t.bag.items[0]?.getD default).row.length:Nat):Int) == ((t.cols.length:Nat):Int))=zAv t:=by
 rw[zYE h1 h2 h3 h4,Bool.eq_iff_iff,beq_iff_eq,decide_eq_true_iff]
 have h5:=List.length_pos_iff.2 h
 unfold zBE
 exact⟨fun h6 _=>oO,fun h6=>by have:=h6 h5;omega⟩
theorem zDN (l:List Value) (t:Table):Ct prog 163 [.agg ⟨l⟩] [] (fun H=>zBw.rd H l t) (fun v A=>v = .bool (zAv t)∧A=[]):=by
 refine Ct.intro0 zAh func163 rfl rfl rfl fun E H hp=>?_
 obtain⟨b0p,c0p,l1p,rfl,h0p,h1p⟩:=zA6.1 hp
 obtain⟨b0_1p,c0_1p,rfl,h0_1p⟩:=zAD.1 h1p
 refine⟨fun x0=>?_⟩
 constructor<;>intro q1
 ·simp at q1
  exact⟨[],⟨by rw[zYD oO],rfl⟩,.mem sI⟩
 simp at q1
 constructor<;>intro q2
 ·simp at q2
  exact⟨[],⟨by rw[zYD oO],rfl⟩,.mem sI⟩
 simp at q2
 refine zAe (zE5 _ _ _ (t.cols)) (Rp.mono _ (zAa 0 rfl) h0p) ?_
 rintro _ rfl
 constructor<;>intro q4
 ·simp at q4
  exact⟨[],⟨by rw[z5m aA],rfl⟩,.mem sI⟩
 simp at q4
 refine zAe (zPH _ (t.bag)) (Rp.mono _ (zAa 0 rfl) h1p) ?_
 rintro _ rfl
 constructor<;>intro q6
 ·simp at q6
  exact⟨[],⟨by rw[zYB aA],rfl⟩,.mem sI⟩
 simp at q6
 apply zAg (α:=(Nat)) zAh [31,32,33,4,34,35,36,2,37,30] (fun z=>[(30,.v (.int .i64 z))]) (fun z=>[{ id:=x0,cs:=[Value.slice b0p t.cols.length c0p,Value.slice b0_1p t.bag.items.length c0_1p]++[],ty:=(65:Nat) }]) (fun z=>[H]) (fun z=>t.cols.length-z) (fun z=>z≤t.cols.length∧zCd (fun i=>zBY (t.cols[i]?.getD ByteArray.empty)) z=true) ((0))
 ·exact frI
 ·exact⟨rfl,trivial⟩
 ·exact⟨Nat.zero_le _,rfl⟩
 ·exact .refl _
 rintro k hI
 try dsimp only at hI
 obtain⟨hk,ha⟩:=hI
 try dsimp only
 constructor<;>intro q7
 ·simp at q7
  refine zAf h0p ?_ ?_ fun b8 o8 hb8=>?_
  ·omega
  ·omega
  refine zAd ByteArray.empty (k) rfl h0p ?_ ?_ hb8 rfl (zAa 0 rfl) fun l9 hl9=>?_
  ·omega
  ·omega
  obtain⟨rfl,hw9⟩:=hl9;simp only[zAx,zAs,okI] at hw9
  refine zAe (zD4 _ ?_) trivial ?_
  ·trivial
  rintro _ rfl
  constructor<;>intro q11
  ·simp at q11
   exact⟨[],⟨by rw[zGs (zTZ (k:=k) oO aA)],rfl⟩,.mem sI⟩
  simp at q11
  apply zAb (k+1)
  ·exact .refl _
  ·exact frI
  ·exact⟨rfl,trivial⟩
  ·exact⟨oO,zAG ha aA⟩
  omega
 simp at q7
 refine zBr zAh zAK none (.q 0 (.q 1 (.q 2 (.q 3 (.q 4 (.q 5 (.q 6 (.q 7 (.q 8 (.q 9 (.q 10 (.q 11 (.q 12 (.q 13 (.q 14 (.q 15 (.q 16 (.q 17 (.q 18 (.nil)))))))))))))))))))) (by decide +kernel) ?_
 constructor<;>intro q12
 ·simp at q12
  (have hke:k=t.cols.length:=oO;subst hke;exact⟨[],⟨by rw[z5n ⟨oO,oO⟩ aA aA ha aA],rfl⟩,.mem sI⟩)
 simp at q12
 refine zAf h0_1p ?_ ?_ fun b13 o13 hb13=>?_
 ·trivial
 ·(have h9:=List.length_pos_iff.2 ‹¬t.bag.items=[]›;omega)
 refine zAw default (0) 0 rfl h0_1p ?_ ?_ hb13 rfl (by decide) (zAa 0 rfl) fun l14 hl14=>?_
 ·trivial
 ·(have h9:=List.length_pos_iff.2 ‹¬t.bag.items=[]›;omega)
 obtain⟨b0x14,c0x14,rfl,h0x14,w1x14⟩:=zAB.1 hl14
 (have hke:k=t.cols.length:=oO;subst hke;exact⟨[],⟨by rw[z18 ⟨oO,oO⟩ aA aA ha aA],rfl⟩,.mem sI⟩)
end
section
attribute [local irreducible] IntKind.wrap
theorem z3z (ca cb:List ByteArray) (y:List Int) (k:Nat):(exK ca cb y k).length≤k:=by
 unfold exK;rw[List.length_map];exact Nat.le_trans (List.length_filter_le _ _) sI
theorem z5o {a b:Int} (hb:1≤b∧b≤1000000) (h:Int.tdiv 1000000 b < a):1000000=min (a * b) 1000000:=by
 rw[Int.tdiv_eq_ediv_of_nonneg oO] at h
 have h1:1000000 < b * (1000000 / b+1):=by
  have h2:=Int.mul_ediv_add_emod 1000000 b
  have h3:=Int.emod_lt_of_pos 1000000 (show 0 < b from oO)
  rw[Int.mul_add,Int.mul_one];omega
 have h4:(1000000 / b+1) * b≤a * b:=Int.mul_le_mul_of_nonneg_right oO oO
 rw[Int.mul_comm] at h1
 omega
theorem z7K {a b:Int} (ha:1≤a∧a≤1000000) (hb:1≤b∧b≤1000000) (h:a≤Int.tdiv 1000000 b):IntKind.i64.wrap (a * b)=min (a * b) 1000000:=by
 rw[Int.tdiv_eq_ediv_of_nonneg oO] at h
 have h2:=Int.mul_ediv_add_emod 1000000 b
 have h3:=Int.emod_nonneg 1000000 (show b≠0 from oO)
 have h4:a * b≤(1000000 / b) * b:=Int.mul_le_mul_of_nonneg_right h oO
 rw[Int.mul_comm (1000000 / b) b] at h4
 have h5:0 * b≤a * b:=Int.mul_le_mul_of_nonneg_right oO oO
 rw[zAc oO oO];omega
theorem zSh (a b:Int) (ha:1≤a∧a≤1000000) (hb:1≤b∧b≤1000000):Ct prog 105 [.int .i64 a,.int .i64 b] [] (fun _=>True) (fun v A=>v = .int .i64 (min (a * b) 1000000)∧A=[]):=by
 refine Ct.intro0 zAh func105 rfl rfl rfl fun E H hp=>?_
 have hq:IntKind.i64.wrap (Int.tdiv 1000000 b)=Int.tdiv 1000000 b:=by
  have h1:=Int.ediv_nonneg (show (0:Int)≤1000000 by decide) (show 0≤b from oO)
  have h2:=Int.ediv_le_self b (show (0:Int)≤1000000 by decide)
  rw[Int.tdiv_eq_ediv_of_nonneg oO]
  exact zAc oO oO
 refine VC.intro ?_ ?_
 ·omega
 constructor<;>intro q0
 ·rw[hq] at q0
  simp at q0
  exact⟨[],⟨congrArg (Value.int .i64) (z5o hb oO),rfl⟩,.mem sI⟩
 rw[hq] at q0
 simp at q0
 exact⟨[],⟨congrArg (Value.int .i64) (z7K ha hb oO),rfl⟩,.mem sI⟩
theorem zVI (la lb:List Value) (bx:Option Addr) (mx cx:Nat) (by':Option Addr) (my cy:Nat) (a b:Table) (x y:List Int) (hx:a.cols.length≤x.length∧x.length≤1000) (hy:b.cols.length≤y.length∧y.length≤1000) :
  Ct prog 104 [.agg ⟨la⟩,.agg ⟨lb⟩,.slice bx mx cx,.slice by' my cy] [] (fun H=>zBw.rd H la a∧zBw.rd H lb b∧(gSl 3 gI).rd H [.slice bx mx cx] x∧(gSl 3 gI).rd H [.slice by' my cy] y)
   (fun v D=>∃ (r:List Int) (b':Option Addr) (c:Nat),v = .tuple #[.slice b' r.length c,.bool (zOR a.cols b.cols x y b.cols.length)]∧(gSl 3 gI).ow [.slice b' r.length c] r D∧(zOR a.cols b.cols x y b.cols.length=true→r=x++exK a.cols b.cols y b.cols.length)):=by
 refine Ct.intro0 zAh func104 rfl rfl rfl fun E H hp=>?_
 obtain⟨hp,hq,hx1,hy1⟩:=hp
 obtain⟨rfl,hcx,hlx⟩:=zAp hx1
 obtain⟨rfl,hcy,hly⟩:=zAp hy1
 obtain⟨b0p,c0p,l1p,rfl,h0p,h1p⟩:=zA6.1 hp
 obtain⟨b0_1p,c0_1p,rfl,h0_1p⟩:=zAD.1 h1p
 obtain⟨b0q,c0q,l1q,rfl,h0q,h1q⟩:=zA6.1 hq
 obtain⟨b0_1q,c0_1q,rfl,h0_1q⟩:=zAD.1 h1q
 have hl2:=(zAp h0q).2.2
 refine⟨fun x0=>?_⟩
 refine⟨fun x1=>?_⟩
 refine⟨fun x2=>?_⟩
 refine zAn (g:=gI) (T:=3) zAh 1 hx1 (zAm _ _ _) ?_ fun b3 c3 A3 o3=>?_
 ·simp;omega
 apply zAg (α:=(Nat)×(List Int)×(Hp)×(Option Addr)×(Nat)) zAh [16,17,18,19,20,23,24,25,26,27,28,29,30,12,31,32,33,34,35,36,37,38,39,10,40,41,42,43,44,45,46,47,48,49,8,9,21,22,11] (fun z=>[(11,.v (.int .i64 z.1)),(10,.v (.slice z.2.2.2.1 z.2.1.length z.2.2.2.2)),(9,.v (.bool false)),(8,.v (.slice none 0 0))]) (fun z=>[{ id:=x0,cs:=[Value.slice b0p a.cols.length c0p,Value.slice b0_1p a.bag.items.length c0_1p]++[],ty:=(65:Nat) },{ id:=x1,cs:=[Value.slice b0q b.cols.length c0q,Value.slice b0_1q b.bag.items.length c0_1q]++[],ty:=(65:Nat) }]) (fun z=>[z.2.2.1,H]) (fun z=>b.cols.length-z.1) (fun z=>z.1≤b.cols.length∧z.2.1=x++exK a.cols b.cols y z.1∧z.2.1.length≤x.length+z.1∧zOR a.cols b.cols x y z.1=true∧(gSl 3 gI).ow [.slice z.2.2.2.1 z.2.1.length z.2.2.2.2] z.2.1 z.2.2.1) ((0,[]++x,_,_,_))
 ·exact frI
 ·exact⟨rfl,rfl,trivial⟩
 ·try dsimp only
  exact⟨Nat.zero_le _,by simp [exK],by simp,rfl,aA⟩
 ·exact rlA
 rintro ⟨k,out,D,lb,lc⟩ hI
 try dsimp only at hI
 obtain⟨hk,ho,hol,hm,oD⟩:=hI
 try dsimp only
 constructor<;>intro q4
 ·simp at q4
  refine zBr zAh zAK none (.q 0 (.q 1 (.q 2 (.q 3 (.q 4 (.q 5 (.q 6 (.f 7 (.q 8 (.nil)))))))))) (by decide +kernel) ?_
  refine zAf h0q ?_ ?_ fun b5 o5 hb5=>?_
  ·omega
  ·omega
  refine zAd ByteArray.empty (k) rfl h0q ?_ ?_ hb5 rfl (zAa 1 rfl) fun l6 hl6=>?_
  ·omega
  ·omega
  obtain⟨rfl,hw6⟩:=hl6;simp only[zAx,zAs,okI] at hw6
  refine zAe (zCn _ _ _ (a.cols) _) (Rp.mono _ (zAa 1 rfl) h0p) ?_
  rintro _ rfl
  refine VC.intro ?_ ?_
  ·exact fun _ h=>h
  constructor<;>intro q8
  ·simp at q8
   refine zAf hy1 ?_ ?_ fun b9 o9 hb9=>?_
   ·omega
   ·omega
   refine zAd 0 (k) rfl hy1 ?_ ?_ hb9 rfl (zAa 1 rfl) fun l10 hl10=>?_
   ·omega
   ·omega
   obtain⟨rfl,hw10⟩:=hl10;simp only[zAx,zAs,okI] at hw10
   refine⟨fun x11=>?_⟩
   refine zAC (g:=gI) (T:=3) zAh D [] [H] ?_ oD (zCN ?_) (List.mem_of_getElem? (i:=0) rfl) rfl rfl rfl rfl rfl rfl rfl rfl ?_ fun b12 c12 A12 o12=>?_
   ·exact .tl
   ·trivial
   ·omega
   apply zAb (k+1,_,_,_,_)
   ·exact .refl _
   ·exact frI
   ·exact⟨rfl,rfl,trivial⟩
   ·try dsimp only
    exact⟨oO,by rw[z5k (zR8 aA),←List.append_assoc,←ho],by rw[List.length_append,List.length_singleton];omega,zQx hm (.inl (zR8 aA)),aA⟩
   try dsimp only
   omega
  simp at q8
  have hir:=zDE (zLw (l:=a.cols) (s:=b.cols[k]?.getD ByteArray.empty) oO)
  refine zBr zAh zAK none (.q 0 (.q 1 (.q 2 (.q 3 (.q 4 (.q 5 (.q 6 (.q 7 (.q 8 (.nil)))))))))) (by decide +kernel) ?_
  refine zAf hx1 ?_ ?_ fun b13 o13 hb13=>?_
  ·trivial
  ·omega
  refine zAF 0 hx1 ?_ ?_ hb13 rfl (zAa 1 rfl) fun l14 hl14=>?_
  ·trivial
  ·omega
  obtain⟨rfl,hw14⟩:=hl14;simp only[zAx,zAs,okI] at hw14
  refine zAf hy1 ?_ ?_ fun b15 o15 hb15=>?_
  ·omega
  ·omega
  refine zAd 0 (k) rfl hy1 ?_ ?_ hb15 rfl (zAa 1 rfl) fun l16 hl16=>?_
  ·omega
  ·omega
  obtain⟨rfl,hw16⟩:=hl16;simp only[zAx,zAs,okI] at hw16
  constructor<;>intro q17
  ·simp at q17
   (rw[z5j (k:=k) oO (zLw oO) aA];exact⟨_,⟨out,_,_,rfl,oD,fun h=>by cases h⟩,rlB⟩)
  simp at q17
  apply zAb (k+1,out,D,lb,lc)
  ·exact .refl _
  ·exact frI
  ·exact⟨rfl,rfl,trivial⟩
  ·try dsimp only
   exact⟨oO,by rw[z7I (zLw oO)];exact ho,oO,zQx hm (.inr aA),oD⟩
  try dsimp only
  omega
 simp at q4
 (have hke:k=b.cols.length:=oO;subst hke;rw[hm];exact⟨_,⟨out,_,_,rfl,oD,fun _=>ho⟩,rlB⟩)
end
section
attribute [local irreducible] IntKind.wrap
theorem zDf {p:ByteArray→Bool} {xs:List ByteArray} {k:Nat} (h:k < xs.length):(xs.take (k+1)).filter p=(xs.take k).filter p++(if p (xs[k]?.getD ByteArray.empty) then [xs[k]?.getD ByteArray.empty] else []):=by
 cases hp:p (xs[k]?.getD ByteArray.empty) with
 | true=>rw[zGq ByteArray.empty h hp];rfl
 | false=>rw[zKm ByteArray.empty h hp];simp
theorem zYF {ca cb:List ByteArray} {k:Nat} (hk:k < cb.length) (h:zBI ca (cb[k]?.getD ByteArray.empty)=false):zCs ca (cb.take (k+1))=zCs ca (cb.take k)++[cb[k]?.getD ByteArray.empty]:=by
 unfold zCs;rw[zDf hk,h,List.append_assoc];rfl
theorem z19 {ca cb:List ByteArray} {k:Nat} (hk:k < cb.length) (h:zBI ca (cb[k]?.getD ByteArray.empty)=true):zCs ca (cb.take (k+1))=zCs ca (cb.take k):=by
 unfold zCs;rw[zDf hk,h];simp
theorem zLI {a b:Table} (ha:zAv a=true) (hb:zAv b=true) {x y:Item} (hx:x∈a.bag.items) (hy:y∈b.bag.items):tOk (zSe a.cols b.cols x y):=by
 obtain⟨_,_,wa⟩:=zAJ.1 ha
 obtain⟨_,_,wb⟩:=zAJ.1 hb
 obtain⟨⟨tx1,tx2⟩,_,_⟩:=zCQ wa x hx
 obtain⟨⟨ty1,ty2⟩,_,_⟩:=zCQ wb y hy
 have h1:1 * 1≤x.times * y.times:=Int.mul_le_mul tx1 ty1 oO oO
 show 1≤min _ _∧min _ _≤_
 omega
theorem zIv {ca cb:List ByteArray} {x:Item} {ys:List Item} {p:Item} (h:p∈zMw ca cb x ys):∃ y∈ys,p=zSe ca cb x y:=by
 obtain⟨y,hy,rfl⟩:=List.mem_map.1 h
 exact⟨y,(List.mem_filter.1 hy).1,rfl⟩
theorem zT0 (ca cb:List ByteArray) (x:Item) (ys:List Item):(zMw ca cb x ys).length≤ys.length:=by
 unfold zMw;rw[List.length_map];exact List.length_filter_le _ _
theorem zSi {a b:Table} (ha:zAv a=true) (hb:zAv b=true) {i:Nat} (hi:i < a.bag.items.length) (k:Nat):∀ p∈zA4 a b i k,tOk p:=fun p hp=>by
 unfold zA4 at hp
 rcases List.mem_append.1 hp with h|h
 ·obtain⟨x,hx,h2⟩:=List.mem_flatMap.1 h
  obtain⟨y,hy,rfl⟩:=zIv h2
  exact zLI ha hb (List.mem_of_mem_take hx) hy
 obtain⟨y,hy,rfl⟩:=zIv h
 exact zLI ha hb (by rw[List.getElem?_eq_getElem hi];exact List.getElem_mem hi) (List.mem_of_mem_take hy)
theorem zSj (a b:Table) (hb:b.bag.items.length≤300) (i k:Nat):(zA4 a b i k).length≤300 * i+300:=by
 unfold zA4
 rw[List.length_append]
 have h1:=Nat.le_trans (zT0 a.cols b.cols (a.bag.items[i]?.getD default) (b.bag.items.take k)) (List.length_take_le' ..)
 have h2:∀ xs:List Item,(xs.flatMap fun x=>zMw a.cols b.cols x b.bag.items).length≤300 * xs.length:=by
  intro xs
  induction xs with
  | nil=>simp
  | cons x xs ih=>
   rw[List.flatMap_cons,List.length_append,List.length_cons]
   have:=zT0 a.cols b.cols x b.bag.items
   omega
 have h3:=h2 (a.bag.items.take i)
 have h4:(a.bag.items.take i).length≤i:=List.length_take_le ..
 omega
theorem zCb {t:Table} (h:zAv t=true) {i:Nat} (hi:i < t.bag.items.length):(t.bag.items[i]?.getD default).row.length=t.cols.length∧(1≤(t.bag.items[i]?.getD default).times∧(t.bag.items[i]?.getD default).times≤1000000)∧zDo (t.bag.items[i]?.getD default).row=true:=by
 obtain⟨_,_,w⟩:=zAJ.1 h
 have h1:=zCQ w (t.bag.items[i]?.getD default) (by rw[List.getElem?_eq_getElem hi];exact List.getElem_mem hi)
 exact⟨h1.2.2,h1.1,h1.2.1⟩
theorem zBV {t:Table} (h:zAv t=true):(1≤t.cols.length∧t.cols.length≤4)∧t.bag.items.length≤300:=⟨(zCa (zAJ.1 h).1).1,(zAJ.1 h).2.1⟩
theorem z7L {a b:Table} (ha:zAv a=true) (hb:zAv b=true) {i:Nat} (hi:i < a.bag.items.length) (k:Nat):zQu (zBh [] (zA4 a b i k))∧(zBh [] (zA4 a b i k)).length≤300 * i+300:=by
 have h:=zEG (ps:=zA4 a b i k) zGR (zSi ha hb hi k)
 have h2:=zSj a b (zBV hb).2 i k
 have h3:([]:List Item).length=0:=rfl
 exact⟨h.1,oO⟩
theorem zVJ {a b:Table} {i k:Nat} {r:List Int} (hk:k < b.bag.items.length) (hm:zOR a.cols b.cols (a.bag.items[i]?.getD default).row (b.bag.items[k]?.getD default).row b.cols.length=true) (er:r=(a.bag.items[i]?.getD default).row++exK a.cols b.cols (b.bag.items[k]?.getD default).row b.cols.length) :
  zVC (zBh [] (zA4 a b i k)) r (min ((a.bag.items[i]?.getD default).times * (b.bag.items[k]?.getD default).times) 1000000) (plR (zBh [] (zA4 a b i k)) r)=zBh [] (zA4 a b i (k+1)):=by
 subst er
 rw[zLC hk hm,zEp];rfl
theorem zT1 {x y:Int} (hx:1≤x∧x≤1000000) (hy:1≤y∧y≤1000000):1≤min (x * y) 1000000∧min (x * y) 1000000≤1000000:=by
 have h1:1 * 1≤x * y:=Int.mul_le_mul hx.1 hy.1 oO oO
 omega
def OwT (b0:Option Addr) (c0:Nat) (b1:Option Addr) (c1:Nat) (t:Table) (D:Hp):Prop:=∃ Ac Ab,D.Perm (Ac++Ab)∧(gSl 9 gS).ow [.slice b0 t.cols.length c0] t.cols Ac∧(gSl 100 zAo).ow [.slice b1 t.bag.items.length c1] t.bag.items Ab
theorem zCc:OwT none 0 none 0 ⟨[],⟨[]⟩⟩ []:=⟨[],[],.refl _,zAm _ _ _,zAm _ _ _⟩
theorem zKo {b0:Option Addr} {c0:Nat} {b1:Option Addr} {c1:Nat} {cs:List ByteArray} {ys:List Item} {A B H:Hp} (h1:(gSl 9 gS).ow [.slice b0 cs.length c0] cs A) (h2:(gSl 100 zAo).ow [.slice b1 ys.length c1] ys B) (hA:∀ p∈A,p∈H) (hB:∀ p∈B,p∈H):zBw.rd H [.slice b0 cs.length c0,.slice b1 ys.length c1] ⟨cs,⟨ys⟩⟩:=
 zA6.2 ⟨b0,c0,_,rfl,Rp.mono _ hA (Gt.owrd _ h1),zAD.2 ⟨b1,c1,rfl,Rp.mono _ hB (Gt.owrd _ h2)⟩⟩
theorem zSk (la lb:List Value) (a b:Table) :
  Ct prog 52 [.agg ⟨la⟩,.agg ⟨lb⟩] [] (fun H=>zBw.rd H la a∧zBw.rd H lb b)
   (fun v D=>∃ (b0:Option Addr) (c0:Nat) (b1:Option Addr) (c1:Nat),v = .tuple #[.agg ⟨[.slice b0 (zEH a b).1.cols.length c0,.slice b1 (zEH a b).1.bag.items.length c1]⟩,.bool (zEH a b).2]∧OwT b0 c0 b1 c1 (zEH a b).1 D):=by
 refine Ct.intro0 zAh func52 rfl rfl rfl fun E H hp=>?_
 obtain⟨hp,hq⟩:=hp
 obtain⟨b0p,c0p,l1p,rfl,h0p,h1p⟩:=zA6.1 hp
 obtain⟨b0_1p,c0_1p,rfl,h0_1p⟩:=zAD.1 h1p
 obtain⟨b0q,c0q,l1q,rfl,h0q,h1q⟩:=zA6.1 hq
 obtain⟨b0_1q,c0_1q,rfl,h0_1q⟩:=zAD.1 h1q
 have hla:=(zAp h0p).2.2
 have hlb:=(zAp h0q).2.2
 refine⟨fun x0=>?_⟩
 refine⟨fun x1=>?_⟩
 refine⟨fun x2=>?_⟩
 refine zAe (zCv _ _) (by (try exact Rp.mono _ (zAa 0 rfl) hp);(try exact Rp.mono _ (zAa 0 rfl) hq);(try exact zKo oA oB (zAa 1 rfl) (zAa 0 rfl))) ?_
 rintro _ rfl
 constructor<;>intro q4
 ·simp at q4
  (rw[zTU aA];exact⟨[],⟨_,_,_,_,rfl,zCc⟩,.mem sI⟩)
 simp at q4
 refine zAe (zCv _ _) (by (try exact Rp.mono _ (zAa 0 rfl) hp);(try exact Rp.mono _ (zAa 0 rfl) hq);(try exact zKo oA oB (zAa 1 rfl) (zAa 0 rfl))) ?_
 rintro _ rfl
 constructor<;>intro q6
 ·simp at q6
  (rw[zTV aA];exact⟨[],⟨_,_,_,_,rfl,zCc⟩,.mem sI⟩)
 simp at q6
 obtain⟨⟨ha1,ha2⟩,ha3⟩:=zBV ‹zAv a=true›
 obtain⟨⟨hb1,hb2⟩,hb3⟩:=zBV ‹zAv b=true›
 refine⟨fun x7=>?_⟩
 refine zAn (g:=gS) (T:=9) zAh 1 h0p (zAm _ _ _) ?_ fun b8 c8 A8 o8=>?_
 ·simp;omega
 refine⟨fun x9=>?_⟩
 apply zAg (α:=(Nat)×(List ByteArray)×(Hp)×(Option Addr)×(Nat)) zAh [26,27,28,29,30,33,34,35,36,37,38,39,40,41,42,43,44,45,46,47,48,49,50,51,31,32,7] (fun z=>[(7,.v (.int .i64 z.1))]) (fun z=>[⟨x0,[Value.slice b0p a.cols.length c0p,Value.slice b0_1p a.bag.items.length c0_1p],(65:Nat)⟩,⟨x1,[Value.slice b0q b.cols.length c0q,Value.slice b0_1q b.bag.items.length c0_1q],(65:Nat)⟩,⟨x2,[Value.slice none (0:Nat) (0:Nat),Value.slice none (0:Nat) (0:Nat)],(65:Nat)⟩,⟨x9,[.slice z.2.2.2.1 z.2.1.length z.2.2.2.2,Value.slice none (0:Nat) (0:Nat)],(65:Nat)⟩]) (fun z=>[z.2.2.1,H]) (fun z=>b.cols.length-z.1) (fun z=>z.1≤b.cols.length∧z.2.1=zCs a.cols (b.cols.take z.1)∧z.2.1.length≤4+z.1∧(gSl 9 gS).ow [.slice z.2.2.2.1 z.2.1.length z.2.2.2.2] z.2.1 z.2.2.1) ((0,[]++a.cols,_,_,_))
 ·exact frI
 ·exact⟨rfl,rfl,rfl,rfl,trivial⟩
 ·try dsimp only
  exact⟨Nat.zero_le _,by simp [zCs],by rw[List.nil_append];omega,aA⟩
 ·exact rlA
 rintro ⟨k,cs,A,lb,lc⟩ hI
 try dsimp only at hI
 obtain⟨hk,hcs,hcl,oA⟩:=hI
 try dsimp only
 constructor<;>intro q10
 ·simp at q10
  refine zBr zAh zAK none (.q 0 (.q 1 (.q 2 (.q 3 (.q 4 (.q 5 (.q 6 (.f 7 (.q 8 (.nil)))))))))) (by decide +kernel) ?_
  refine zAf h0q ?_ ?_ fun b11 o11 hb11=>?_
  ·omega
  ·omega
  refine zAd ByteArray.empty (k) rfl h0q ?_ ?_ hb11 rfl (zAa 1 rfl) fun l12 hl12=>?_
  ·omega
  ·omega
  obtain⟨rfl,hw12⟩:=hl12;simp only[zAx,zAs,okI] at hw12
  refine zAe (zCP _ _ _ (a.cols) _) (Rp.mono _ (zAa 1 rfl) h0p) ?_
  rintro _ rfl
  refine VC.intro ?_ ?_
  ·exact fun _ h=>h
  constructor<;>intro q14
  ·simp at q14
   refine zBr zAh zAK (some 8) (.q 0 (.q 1 (.q 2 (.q 3 (.q 4 (.q 5 (.q 6 (.f 7 (.tl 8 (.f 9 (.f 10 (.nil)))))))))))) (by decide +kernel) ?_
   refine zAf h0q ?_ ?_ fun b15 o15 hb15=>?_
   ·omega
   ·omega
   refine zAd ByteArray.empty (k) rfl h0q ?_ ?_ hb15 rfl (zAa 1 rfl) fun l16 hl16=>?_
   ·omega
   ·omega
   obtain⟨rfl,hw16⟩:=hl16;simp only[zAx,zAs,okI] at hw16
   refine⟨fun x17=>?_⟩
   refine VC.intro ?_ ?_
   ·exact zAA
   refine zAC (g:=gS) (T:=9) zAh A [] [H] ?_ oA (zN5 ?_) (List.mem_of_getElem? (i:=0) rfl) rfl rfl rfl rfl rfl rfl rfl rfl ?_ fun b18 c18 A18 o18=>?_
   ·exact .tl
   ·trivial
   ·omega
   apply zAb (k+1,_,_,_,_)
   ·exact .refl _
   ·exact frI
   ·exact⟨rfl,rfl,rfl,rfl,trivial⟩
   ·try dsimp only
    exact⟨oO,by rw[zYF oO aA,←hcs],by rw[List.length_append,List.length_singleton];omega,aA⟩
   try dsimp only
   omega
  simp at q14
  apply zAb (k+1,_,_,_,_)
  ·exact .refl _
  ·exact frI
  ·exact⟨rfl,rfl,rfl,rfl,trivial⟩
  ·try dsimp only
   exact⟨oO,by rw[z19 oO aA];exact hcs,oO,oA⟩
  try dsimp only
  omega
 simp at q10
 have hke:k=b.cols.length:=oO
 subst hke
 rw[List.take_length] at hcs
 apply zAg (α:=(Nat)×(List Item)×(Hp)×(Option Addr)×(Nat)) zAh [52,53,54,55,56,57,9,60,61,62,63,64,65,69,70,71,72,73,74,75,76,77,78,79,80,81,82,83,84,85,68,86,87,10,11,88,89,90,91,92,93,94,95,96,97,98,99,100,101,102,103,104,105,106,107,108,66,67,58,59,8] (fun z=>[(8,.v (.int .i64 z.1))]) (fun z=>[⟨x0,[Value.slice b0p a.cols.length c0p,Value.slice b0_1p a.bag.items.length c0_1p],(65:Nat)⟩,⟨x1,[Value.slice b0q b.cols.length c0q,Value.slice b0_1q b.bag.items.length c0_1q],(65:Nat)⟩,⟨x2,[Value.slice none (0:Nat) (0:Nat),Value.slice none (0:Nat) (0:Nat)],(65:Nat)⟩,⟨x9,[Value.slice lb cs.length lc,.slice z.2.2.2.1 z.2.1.length z.2.2.2.2],(65:Nat)⟩]) (fun z=>[z.2.2.1,A,H]) (fun z=>a.bag.items.length-z.1) (fun z=>z.1≤a.bag.items.length∧z.2.1=zBh [] (zA4 a b z.1 0)∧(gSl 100 zAo).ow [.slice z.2.2.2.1 z.2.1.length z.2.2.2.2] z.2.1 z.2.2.1) ((0,[],[],none,0))
 ·exact frI
 ·exact⟨rfl,rfl,rfl,rfl,trivial⟩
 ·try dsimp only
  exact⟨Nat.zero_le _,by rw[zJB];rfl,zAm _ _ _⟩
 ·exact .refl _
 rintro ⟨i,xs,B,ib,ic⟩ hI
 try dsimp only at hI
 obtain⟨hi,hxs,oB⟩:=hI
 try dsimp only
 constructor<;>intro q19
 ·simp at q19
  apply zAg (α:=(Nat)×(List Item)×(Hp)×(Option Addr)×(Nat)) zAh [60,61,62,63,64,65,69,70,71,72,73,74,75,76,77,78,79,80,81,82,83,84,85,68,86,87,10,11,88,89,90,91,92,93,94,95,96,97,98,99,100,101,102,103,104,105,106,107,108,66,67,9] (fun z=>[(9,.v (.int .i64 z.1))]) (fun z=>[⟨x0,[Value.slice b0p a.cols.length c0p,Value.slice b0_1p a.bag.items.length c0_1p],(65:Nat)⟩,⟨x1,[Value.slice b0q b.cols.length c0q,Value.slice b0_1q b.bag.items.length c0_1q],(65:Nat)⟩,⟨x2,[Value.slice none (0:Nat) (0:Nat),Value.slice none (0:Nat) (0:Nat)],(65:Nat)⟩,⟨x9,[Value.slice lb cs.length lc,.slice z.2.2.2.1 z.2.1.length z.2.2.2.2],(65:Nat)⟩]) (fun z=>[z.2.2.1,A,H]) (fun z=>b.bag.items.length-z.1) (fun z=>z.1≤b.bag.items.length∧z.2.1=zBh [] (zA4 a b i z.1)∧(gSl 100 zAo).ow [.slice z.2.2.2.1 z.2.1.length z.2.2.2.2] z.2.1 z.2.2.1) ((0,xs,B,ib,ic))
  ·exact frI
  ·exact⟨rfl,rfl,rfl,rfl,trivial⟩
  ·try dsimp only
   exact⟨Nat.zero_le _,hxs,oB⟩
  ·exact .refl _
  rintro ⟨k,xs1,B1,ib1,ic1⟩ hI
  try dsimp only at hI
  obtain⟨hk2,hxs1,oB1⟩:=hI
  try dsimp only
  constructor<;>intro q20
  ·simp at q20
   obtain⟨ta1,ta2,ta3⟩:=zCb ‹zAv a=true› (i:=i) oO
   obtain⟨tb1,tb2,tb3⟩:=zCb ‹zAv b=true› (i:=k) oO
   obtain⟨hiv,hln⟩:=z7L ‹zAv a=true› ‹zAv b=true› (i:=i) oO k
   rw[←hxs1] at hiv hln
   refine zBr zAh zAK none (.q 0 (.q 1 (.q 2 (.q 3 (.q 4 (.q 5 (.q 6 (.q 7 (.q 8 (.q 9 (.q 10 (.q 11 (.q 12 (.q 13 (.q 14 (.q 15 (.f 16 (.q 17 (.q 18 (.q 19 (.q 20 (.q 21 (.nil))))))))))))))))))))))) (by decide +kernel) ?_
   refine zAf h0_1p ?_ ?_ fun b21 o21 hb21=>?_
   ·omega
   ·omega
   refine zAw default (i) 0 rfl h0_1p ?_ ?_ hb21 rfl (by decide) (zAa 2 rfl) fun l22 hl22=>?_
   ·omega
   ·omega
   obtain⟨b0x22,c0x22,rfl,h0x22,w1x22⟩:=zAB.1 hl22
   refine zAf h0_1q ?_ ?_ fun b23 o23 hb23=>?_
   ·omega
   ·omega
   refine zAw default (k) 0 rfl h0_1q ?_ ?_ hb23 rfl (by decide) (zAa 2 rfl) fun l24 hl24=>?_
   ·omega
   ·omega
   obtain⟨b0x24,c0x24,rfl,h0x24,w1x24⟩:=zAB.1 hl24
   refine zAi (zVI _ _ _ _ _ _ _ _ (a) (b) ((a.bag.items[i]?.getD default).row) ((b.bag.items[k]?.getD default).row) ?_ ?_) ⟨(Rp.mono _ (zAa 2 rfl) hp),(Rp.mono _ (zAa 2 rfl) hq),(Rp.mono _ (zAa 2 rfl) h0x22),(Rp.mono _ (zAa 2 rfl) h0x24)⟩ ?_
   ·omega
   ·omega
   rintro v25 A25 o25
   obtain⟨r25,b25,c25,rfl,o25,e25⟩:=o25
   refine VC.intro ?_ ?_
   ·exact zAA
   constructor<;>intro q26
   ·have er:=e25 aA
    have hrl:r25.length≤1000:=(by rw[er,List.length_append];have:=z3z a.cols b.cols (b.bag.items[k]?.getD default).row b.cols.length;omega)
    refine zBr zAh zAK (some 18) (.q 0 (.q 1 (.q 2 (.q 3 (.q 4 (.q 5 (.q 6 (.q 7 (.q 8 (.q 9 (.q 10 (.q 11 (.q 12 (.q 13 (.q 14 (.q 15 (.q 16 (.f 17 (.tl 18 (.f 19 (.f 20 (.nil)))))))))))))))))))))) (by decide +kernel) ?_
    refine zAf h0_1p ?_ ?_ fun b27 o27 hb27=>?_
    ·omega
    ·omega
    refine zAw default (i) 1 rfl h0_1p ?_ ?_ hb27 rfl (by decide) (zAa 3 rfl) fun l28 hl28=>?_
    ·omega
    ·omega
    obtain⟨b0x28,c0x28,rfl,h0x28,w1x28⟩:=zAB.1 hl28
    refine zAf h0_1q ?_ ?_ fun b29 o29 hb29=>?_
    ·omega
    ·omega
    refine zAw default (k) 1 rfl h0_1q ?_ ?_ hb29 rfl (by decide) (zAa 3 rfl) fun l30 hl30=>?_
    ·omega
    ·omega
    obtain⟨b0x30,c0x30,rfl,h0x30,w1x30⟩:=zAB.1 hl30
    refine zAe (zSh _ _ ?_ ?_) trivial ?_
    ·trivial
    ·trivial
    rintro _ rfl
    refine VC.intro ?_ ?_
    ·exact fun _ h=>h
    refine zA1 (B1) [A25,A,H] (zC0 _ _ _ _ _ _ xs1 _ (r25) (min ((a.bag.items[i]?.getD default).times * (b.bag.items[k]?.getD default).times) 1000000) (plR xs1 (r25)) oB1 ?_ ?_ ?_ ?_ ?_) ?_ (Rp.mono _ (zAa 0 rfl) (Gt.owrd _ o25)) ?_
    ·omega
    ·trivial
    ·exact zT1 ta2 tb2
    ·exact hiv.2
    ·exact zEF hiv.1
    ·exact rlA
    rintro _ A32 ⟨b32,c32,rfl,o32⟩
    refine⟨[A32],by simp,?_⟩
    apply zAb (k+1,_,_,_,_)
    ·exact .sub (by repeat (first|exact .slnil|apply List.Sublist.cons_cons|apply List.Sublist.cons))
    ·exact frI
    ·exact⟨rfl,rfl,rfl,rfl,trivial⟩
    ·try dsimp only
     exact⟨oO,by rw[hxs1];exact zVJ oO aA er,aA⟩
    try dsimp only
    omega
   apply zAb (k+1,xs1,B1,ib1,ic1)
   ·exact .sub (by repeat (first|exact .slnil|apply List.Sublist.cons_cons|apply List.Sublist.cons))
   ·exact frI
   ·exact⟨rfl,rfl,rfl,rfl,trivial⟩
   ·try dsimp only
    exact⟨oO,by rw[zNs oO aA];exact hxs1,oB1⟩
   try dsimp only
   omega
  simp at q20
  apply zAb (i+1,_,_,_,_)
  ·exact .refl _
  ·exact frI
  ·exact⟨rfl,rfl,rfl,rfl,trivial⟩
  ·try dsimp only
   exact⟨oO,by rw[zJC (k:=k) oO oO];exact hxs1,oB1⟩
  try dsimp only
  omega
 simp at q19
 have hie:i=a.bag.items.length:=oO
 subst hie
 rw[zLD _ _ (Nat.le_refl _)] at hxs
 refine zAe (zCv _ _) (by (try exact Rp.mono _ (zAa 0 rfl) hp);(try exact Rp.mono _ (zAa 0 rfl) hq);(try exact zKo oA oB (zAa 1 rfl) (zAa 0 rfl))) ?_
 rintro _ rfl
 constructor<;>intro q34
 ·simp at q34
  (subst hcs;subst hxs;rw[zOS aA];exact⟨[],⟨_,_,_,_,rfl,zCc⟩,.mem sI⟩)
 simp at q34
 (subst hcs;subst hxs;rw[zTW ‹zAv a=true› ‹zAv b=true› aA];exact⟨A++B,⟨_,_,_,_,rfl,A,B,.refl _,oA,oB⟩,rlB⟩)
end
section
attribute [local irreducible] IntKind.wrap
theorem zQy {f:ByteArray→Int} {xs:List ByteArray} {k:Nat} (hk:k < xs.length):(xs.take (k+1)).map f=(xs.take k).map f++[f (xs[k]?.getD ByteArray.empty)]:=by
 rw[←List.take_append_getElem hk,List.map_append,List.getElem?_eq_getElem hk];rfl
theorem z2a {vs:List Int} (h:∀ x∈vs,okI x) (i:Nat):okI (vs[i]?.getD 0):=by
 by_cases hi:i < vs.length
 ·rw[List.getElem?_eq_getElem hi];exact h _ (List.getElem_mem hi)
 rw[List.getElem?_eq_none oO];unfold okI;simp
theorem zDg (b1:Option Addr) (m1 c1:Nat) (b2:Option Addr) (m2 c2:Nat) (b3:Option Addr) (m3 c3:Nat) (ns:List ByteArray) (vs:List Int) (nm:List ByteArray) (hh:∀ s∈nm,zBI ns s=true) (hl:ns.length≤vs.length) (hn:nm.length≤1000) (hv:∀ x∈vs,okI x) :
  Ct prog 82 [.agg ⟨[.slice b1 m1 c1,.slice b2 m2 c2]⟩,.slice b3 m3 c3] [] (fun H=>(gSl 9 gS).rd H [.slice b1 m1 c1] ns∧(gSl 3 gI).rd H [.slice b2 m2 c2] vs∧(gSl 9 gS).rd H [.slice b3 m3 c3] nm)
   (fun v D=>∃ b c,v = .slice b (nm.map (tv ns vs)).length c∧(gSl 3 gI).ow [.slice b (nm.map (tv ns vs)).length c] (nm.map (tv ns vs)) D):=by
 refine Ct.intro0 zAh func82 rfl rfl rfl fun E H hp=>?_
 obtain⟨hp,hq,hr⟩:=hp
 obtain⟨rfl,hcl,hl1⟩:=zAp hp
 obtain⟨rfl,hcl2,hl2⟩:=zAp hq
 obtain⟨rfl,hcl3,hl3⟩:=zAp hr
 refine⟨fun x0=>?_⟩
 apply zAg (α:=(Nat)×(List Int)×(Hp)×(Option Addr)×(Nat)) zAh [11,12,13,7,14,15,16,17,18,19,5,20,10] (fun z=>[(10,.v (.int .i64 z.1)),(5,.v (.slice z.2.2.2.1 z.2.1.length z.2.2.2.2))]) (fun z=>[{ id:=x0,cs:=[Value.slice b1 ns.length c1,Value.slice b2 vs.length c2],ty:=(134:Nat) }]) (fun z=>[z.2.2.1,H]) (fun z=>nm.length-z.1) (fun z=>z.1≤nm.length∧z.2.1=(nm.take z.1).map (tv ns vs)∧(gSl 3 gI).ow [.slice z.2.2.2.1 z.2.1.length z.2.2.2.2] z.2.1 z.2.2.1) ((0,[],[],none,0))
 ·exact frI
 ·exact⟨rfl,trivial⟩
 ·try dsimp only
  exact⟨Nat.zero_le _,rfl,zAm _ _ _⟩
 ·exact .refl _
 rintro ⟨k,out,D,lb,lc⟩ hI
 try dsimp only at hI
 obtain⟨hk,ho,oD⟩:=hI
 try dsimp only
 constructor<;>intro q1
 ·simp at q1
  have hhk:=hh (nm[k]?.getD ByteArray.empty) (by rw[List.getElem?_eq_getElem oO];exact List.getElem_mem _)
  have hol:out.length≤k:=(by rw[ho,List.length_map];exact List.length_take_le ..)
  refine zAf hr ?_ ?_ fun b2 o2 hb2=>?_
  ·omega
  ·omega
  refine zAd ByteArray.empty (k) rfl hr ?_ ?_ hb2 rfl (zAa 1 rfl) fun l3 hl3=>?_
  ·omega
  ·omega
  obtain⟨rfl,hw3⟩:=hl3;simp only[zAx,zAs,okI] at hw3
  refine zAe (zCo _ _ _ _ _ _ ns vs _ hhk hl) ⟨Rp.mono _ (zAk sI) hp,Rp.mono _ (zAk sI) hq⟩ ?_
  rintro _ rfl
  refine⟨fun x5=>?_⟩
  refine zAC (g:=gI) (T:=3) zAh D [] [H] ?_ oD (zCN ?_) (List.mem_of_getElem? (i:=0) rfl) rfl rfl rfl rfl rfl rfl rfl rfl ?_ fun b6 c6 A6 o6=>?_
  ·exact .tl
  ·exact z2a hv _
  ·omega
  apply zAb (k+1,_,_,_,_)
  ·exact .refl _
  ·exact frI
  ·exact⟨rfl,trivial⟩
  ·try dsimp only
   exact⟨oO,by rw[zQy oO,ho];rfl,aA⟩
  try dsimp only
  omega
 simp at q1
 (have hke:k=nm.length:=oO;subst hke;rw[List.take_length] at ho;subst ho;exact⟨_,⟨_,_,rfl,oD⟩,rlB⟩)
theorem z2b {α:Type} {f:Fl α} {T:TypeId} {b:Option Addr} {m c:Nat} {xs:List α} {A:Hp} (h:Ow f T (.slice b m c) xs A):Ow f T (.slice b 0 c) [] A:=by
 obtain⟨h1,h2,base,cap,e,h3⟩:=h
 cases e
 refine⟨by simp,by simp,b,c,rfl,?_⟩
 rcases h3 with ⟨rfl,rfl,rfl⟩|⟨bb,sp,rfl,rfl,h4,h5⟩
 ·exact .inl ⟨rfl,rfl,rfl⟩
 refine .inr ⟨bb,xs.flatMap f.enc++sp,rfl,by simp,by simp,?_⟩
 rw[List.length_append,zAQ]
 have e5:(c-0) * f.size=xs.length * f.size+(c-xs.length) * f.size:=by rw[←Nat.add_mul];congr 1;omega
 show (c-0) * f.size≤_
 omega
theorem z7M {α:Type} {f:Fl α} {T:TypeId} {b:Option Addr} {m c:Nat} {xs:List α} {A:Hp} (h:Ow f T (.slice b m c) xs A) (sz:Nat):zCB c 0 b sz=b:=by
 obtain⟨h1,h2,base,c0,e,h3⟩:=h
 cases e
 rcases h3 with ⟨rfl,rfl,rfl⟩|⟨bb,sp,rfl,rfl,h4,h5⟩
 ·rw[zCL];split
  ·rfl
  rename_i hh;exact absurd rfl hh
 rw[zCL];split
 ·rfl
 rw[Option.map_some,zCx];simp
theorem zYG:zAs.wf (0:Int):=by show okI 0;unfold okI;omega
theorem zVK (n:Nat) (hn:n≤4000000) :
  Ct prog 210 [.slice none 0 0,.int .i64 (n:Int)] [] (fun _=>True) (fun v A=>∃ b c,v = .slice b 0 c∧(gSl 3 gI).ow [.slice b 0 c] [] A):=by
 refine Ct.intro0 zAh func210 rfl rfl rfl fun E H hp=>?_
 have hwn:IntKind.i64.wrap ((n:Int)-IntKind.i64.wrap (((0:Nat):Int)-((0:Nat):Int)))=(n:Int):=by
  have e1:IntKind.i64.wrap (((0:Nat):Int)-((0:Nat):Int))=0:=zAc oO oO
  rw[e1,zAc oO oO];omega
 constructor<;>intro q0
 ·simp at q0
  exfalso;omega
 simp at q0
 constructor<;>intro q1
 ·simp at q1
  simp (disch:=omega) only[zAc] at q1
  refine VC.intro ?_ ?_
  ·trivial
  refine zJz (f:=zAs) (z:=(0:Int)) (xs:=[]) (base:=none) (m:=0) (cap:=0) (k:=n) zAh rfl (congrArg (fun v=>SV.v (Value.int .i64 v)) hwn) (Rp.mono _ (fun _ h=>absurd h sI) (Ow.rd (Ow.nil (f:=zAs) 3 none))) (fun _ h=>nomatch h) rfl rfl rfl rfl rfl zYG rfl ?_ ?_ ?_ fun b' c' A' o'=>?_
  ·omega
  ·omega
  ·omega
  refine VC.intro ?_ ?_
  ·omega
  exact⟨A',⟨b',c',congrArg (fun x=>Value.slice x 0 c') (z7M o' _),zN3 (z2b o')⟩,rlA⟩
 simp at q1
 simp (disch:=omega) only[zAc] at q1
 exact⟨[],⟨none,0,rfl,zAm _ _ _⟩,.mem sI⟩
theorem zDH {α:Type} {ys:List (List α)} {k:Nat} (hk:k < ys.length):(ys.take (k+1)).flatten=(ys.take k).flatten++ys[k]?.getD []:=by
 rw[←List.take_append_getElem hk,List.flatten_append,List.getElem?_eq_getElem hk];simp
theorem zVL {α:Type} {ys:List (List α)} {k:Nat}:(ys.take k).flatten.length≤ys.flatten.length:=by
 conv=>rhs;rw[←List.take_append_drop k ys]
 rw[List.flatten_append,List.length_append];omega
theorem zQz {α:Type} {ys:List (List α)} {k:Nat} (hk:k < ys.length):(ys.take k).flatten.length+(ys[k]?.getD []).length≤ys.flatten.length:=by
 have h1:=zDH hk
 have h2:=zVL (ys:=ys) (k:=k+1)
 rw[h1,List.length_append] at h2;exact h2
theorem zQA (b:Option Addr) (m c:Nat) (ys:List (List Int)) (hn:ys.flatten.length≤4000000) :
  Ct prog 192 [.slice b m c] [] (fun H=>(gSl 27 (gSl 3 gI)).rd H [.slice b m c] ys) (fun v A=>∃ b c,v = .slice b ys.flatten.length c∧(gSl 3 gI).ow [.slice b ys.flatten.length c] ys.flatten A):=by
 refine Ct.intro0 zAh func192 rfl rfl rfl fun E H hp=>?_
 obtain⟨rfl,hcl,hl⟩:=zAp hp
 apply zAg (α:=(Nat)) zAh [12,13,14,5,15,16,17,18,3,19,20,21,22,11] (fun z=>[(11,.v (.int .i64 z)),(3,.v (.int .i64 (((ys.take z).flatten.length:Nat):Int)))]) (fun z=>[]) (fun z=>[H]) (fun z=>ys.length-z) (fun z=>z≤ys.length) (0)
 ·repeat' (first|exact trivial|refine⟨⟨_,rfl,by first|exact frE|(refine zAz ?_;simp;done)|exact congrArg (fun v=>SV.v (Value.int .i64 v)) hf2|exact congrArg (fun v=>Value.int .i64 v) hf2|(refine zAz ?_;rw[zDH oO]),frO⟩,?_⟩)
 ·exact trivial
 ·omega
 ·exact .refl _
 rintro k hI
 obtain hk:k≤ys.length:=hI
 try dsimp only
 constructor<;>intro q0
 ·simp at q0
  have hf1:=zQz (by omega:k < ys.length)
  have hf2:IntKind.i64.wrap ((((ys.take k).flatten.length:Nat):Int)+(((ys[k]?.getD []).length:Nat):Int))=(((ys.take (k+1)).flatten.length:Nat):Int):=by (rw[zAc oO oO,zDH oO,List.length_append];push_cast;rfl)
  refine zAf hp ?_ ?_ fun b1 o1 hb1=>?_
  ·omega
  ·omega
  refine zAd [] (k) rfl hp ?_ ?_ hb1 rfl (zAa 0 rfl) fun l2 hl2=>?_
  ·omega
  ·omega
  obtain⟨u2,w2,rfl,hl2⟩:=zCD hl2
  constructor<;>intro q3
  ·rw[hf2] at q3
   simp at q3
   exfalso;omega
  rw[hf2] at q3
  simp at q3
  apply zAb (k+1)
  ·exact .refl _
  ·repeat' (first|exact trivial|refine⟨⟨_,rfl,by first|exact frE|(refine zAz ?_;simp;done)|exact congrArg (fun v=>SV.v (Value.int .i64 v)) hf2|exact congrArg (fun v=>Value.int .i64 v) hf2|(refine zAz ?_;rw[zDH oO]),frO⟩,?_⟩)
  ·exact trivial
  ·trivial
  omega
 simp at q0
 obtain rfl:k=ys.length:=by omega
 rw[List.take_length]
 refine zAi (zVK _ ?_) trivial ?_
 ·trivial
 rintro v4 A4 o4
 obtain⟨b4,c4,rfl,o4⟩:=o4
 apply zAg (α:=(Nat)×(Hp)×(Option Addr)×(Nat)) zAh [28,29,30,8,31,32,33,6,34,27] (fun z=>[(27,.v (.int .i64 z.1)),(6,.v (.slice z.2.2.1 (ys.take z.1).flatten.length z.2.2.2))]) (fun z=>[]) (fun z=>[z.2.1,H]) (fun z=>ys.length-z.1) (fun z=>z.1≤ys.length∧(gSl 3 gI).ow [.slice z.2.2.1 (ys.take z.1).flatten.length z.2.2.2] (ys.take z.1).flatten z.2.1) ((0,_,_,_))
 ·repeat' (first|exact trivial|refine⟨⟨_,rfl,by first|exact frE|(refine zAz ?_;simp;done)|exact congrArg (fun v=>SV.v (Value.int .i64 v)) hf2|exact congrArg (fun v=>Value.int .i64 v) hf2|(refine zAz ?_;rw[zDH oO]),frO⟩,?_⟩)
 ·exact trivial
 ·try dsimp only
  exact⟨Nat.zero_le _,aA⟩
 ·exact .refl _
 rintro ⟨k,A,lb,lc⟩ hI
 try dsimp only at hI
 obtain⟨hk,oA⟩:=hI
 try dsimp only
 constructor<;>intro q5
 ·simp at q5
  have hf1:=zQz (by omega:k < ys.length)
  refine zAf hp ?_ ?_ fun b6 o6 hb6=>?_
  ·omega
  ·omega
  refine zAd [] (k) rfl hp ?_ ?_ hb6 rfl (zAa 1 rfl) fun l7 hl7=>?_
  ·omega
  ·omega
  obtain⟨u7,w7,rfl,hl7⟩:=zCD hl7
  refine zCH (g:=gI) (T:=3) zAh (by repeat (first|exact zEP|apply zDT|apply zDc)) A [H] 0 ?_ oA rfl hl7 rfl rfl rfl rfl rfl rfl rfl rfl ?_ fun b8 c8 A8 o8=>?_
  ·exact .refl _
  ·omega
  apply zAb (k+1,_,_,_)
  ·exact .refl _
  ·repeat' (first|exact trivial|refine⟨⟨_,rfl,by first|exact frE|(refine zAz ?_;simp;done)|exact congrArg (fun v=>SV.v (Value.int .i64 v)) hf2|exact congrArg (fun v=>Value.int .i64 v) hf2|(refine zAz ?_;rw[zDH oO]),frO⟩,?_⟩)
  ·exact trivial
  ·try dsimp only
   (rw[zDH oO];exact⟨oO,aA⟩)
  try dsimp only
  omega
 simp at q5
 (have hke:k=ys.length:=oO;subst hke;rw[List.take_length] at oA ⊢;exact⟨_,⟨_,_,rfl,oA⟩,rlB⟩)
end
section
attribute [local irreducible] IntKind.wrap
theorem zGV {xs ys:List Item} {r:List Int} {t:Int} {k q n:Nat} {w:Bool} {bc:Option Addr} {mc cc:Nat} {b:Option Addr} {c:Nat} {A:Hp} (e:zEE xs r t k=(ys,w)) (hk:zDo r=true∧(0 < xs.length→(zBE xs 0).length=r.length)→atR xs r k) (hn:n=ys.length) (o:(gSl 100 zAo).ow [.slice b n c] ys A) :
  ∃ k b' c' A',(zDo r=true∧(0 < xs.length→(zBE xs 0).length=r.length)→atR xs r k)∧Value.bool w = .bool (zEE xs r t k).2∧(q,Obj.cells ⟨[.slice bc mc cc,.slice b n c]⟩ 65)::A=(q,Obj.cells ⟨[.slice bc mc cc,.slice b' (zEE xs r t k).1.length c']⟩ 65)::A'∧(gSl 100 zAo).ow [.slice b' (zEE xs r t k).1.length c'] (zEE xs r t k).1 A':=by
 subst hn
 exact⟨k,b,c,A,hk,by rw[e],by rw[e],by rw[e];exact o⟩
theorem zNv (q:Nat) (bc:Option Addr) (mc cc:Nat) (b:Option Addr) (c:Nat) (xs:List Item) (A:Hp) (b2:Option Addr) (m2 c2:Nat) (r:List Int) (t:Int) (ho:(gSl 100 zAo).ow [.slice b xs.length c] xs A) (hs:zCJ xs) (hx:xs.length≤300) (ht:1≤t∧t≤1000000) (hxt:∀ i,i < xs.length→1≤(xs[i]?.getD default).times∧(xs[i]?.getD default).times≤1000000) :
  CtR prog 81 [.pointer (some ⟨q,1,none⟩),.slice b2 m2 c2,.int .i64 t] ((q,Obj.cells ⟨[.slice bc mc cc,.slice b xs.length c]⟩ 65)::A) (fun H=>(gSl 3 gI).rd H [.slice b2 m2 c2] r)
   (fun v D=>∃ k b c A,(zDo r=true∧(0 < xs.length→(zBE xs 0).length=r.length)→atR xs r k)∧v = .bool (zEE xs r t k).2∧D=(q,Obj.cells ⟨[.slice bc mc cc,.slice b (zEE xs r t k).1.length c]⟩ 65)::A∧(gSl 100 zAo).ow [.slice b (zEE xs r t k).1.length c] (zEE xs r t k).1 A):=by
 refine CtR.introB zAh [.p 0 1,.v (.slice b2 m2 c2),.v (.int .i64 t)] [⟨q,[.slice bc mc cc,.slice b xs.length c],65⟩] [A] func81 rfl rfl rfl rfl (by simp [SV.ok]) (by simp [Blk.ent]) fun E H hp=>?_
 obtain⟨rfl,hcl2,hl2⟩:=zAp hp
 have hrd:=Gt.owrd _ ho
 refine zAe (zF8 _ _ _ (r)) (Rp.mono _ (zAa 1 rfl) hp) ?_
 rintro _ rfl
 constructor<;>intro q1
 ·simp at q1
  exact⟨_,zGV (k:=0) (zTN aA) (fun e=>by rw[‹zDo r=false›] at e;cases e.1) rfl ho,rlB⟩
 simp at q1
 constructor<;>intro q2
 ·simp at q2
  refine zAf hrd ?_ ?_ fun b3 o3 hb3=>?_
  ·trivial
  ·omega
  refine zAw default (0) 0 rfl hrd ?_ ?_ hb3 rfl (by decide) (zAa 0 rfl) fun l4 hl4=>?_
  ·trivial
  ·omega
  obtain⟨b0x4,c0x4,rfl,h0x4,w1x4⟩:=zAB.1 hl4
  constructor<;>intro q5
  ·simp at q5
   exact⟨_,zGV (k:=0) (zTO oO (by show ¬(xs[0]?.getD default).row.length=r.length;omega)) (fun e=>absurd (e.2 oO) (by show ¬(xs[0]?.getD default).row.length=r.length;omega)) rfl ho,rlB⟩
  simp at q5
  refine zAe (zGO _ _ _ _ _ _ xs r hs oO) ⟨(Rp.mono _ (zAa 0 rfl) hrd),(Rp.mono _ (zAa 1 rfl) hp)⟩ ?_
  rintro _ ⟨kk,hkk,rfl⟩
  constructor<;>intro q7
  ·simp at q7
   refine zBr zAh zAK (some 18) (.q 0 (.q 1 (.q 2 (.q 3 (.q 4 (.q 5 (.q 6 (.q 7 (.q 8 (.q 9 (.q 10 (.q 11 (.q 12 (.q 13 (.q 14 (.f 15 (.q 16 (.q 17 (.tl 18 (.nil)))))))))))))))))))) (by decide +kernel) ?_
   refine zAf hrd ?_ ?_ fun b8 o8 hb8=>?_
   ·omega
   ·omega
   refine zAw default (kk) 1 rfl hrd ?_ ?_ hb8 rfl (by decide) (zAa 0 rfl) fun l9 hl9=>?_
   ·omega
   ·omega
   obtain⟨b0x9,c0x9,rfl,h0x9,w1x9⟩:=zAB.1 hl9
   refine VC.intro ?_ ?_
   ·exact fun _ h=>h
   refine zAf hrd ?_ ?_ fun b10 o10 hb10=>?_
   ·omega
   ·omega
   refine zBq zFy default (kk) 0 rfl rfl ho ?_ ?_ hb10 rfl zHx _ (zCN ?_) fun A11 o11=>?_
   ·omega
   ·omega
   ·exact zYh (by have:=hxt _ (‹_∧zBE xs _=r›).1;omega)
   exact⟨_,zGV (k:=kk) (zOL aA (fun _=>by show (xs[0]?.getD default).row.length=r.length;omega) aA) (fun _=>hkk) (by rw[List.length_set]) (by rw[←zR9 (by have:=hxt kk (‹_∧zBE xs kk=r›).1;omega)];assumption),rlB⟩
  simp at q7
  constructor<;>intro q12
  ·simp at q12
   exact⟨_,zGV (k:=kk) (zLy aA (fun h0=>by show (xs[0]?.getD default).row.length=r.length;omega) (by first|assumption|(exact fun e=>absurd e.1 oO)|(rintro ⟨h8,h9⟩;exact absurd h9 (by simp_all))) oO) (fun _=>hkk) rfl ho,rlB⟩
  simp at q12
  refine zBr zAh zAK (some 11) (.q 0 (.q 1 (.q 2 (.q 3 (.q 4 (.q 5 (.q 6 (.q 8 (.f 7 (.q 9 (.f 10 (.tl 11 (.f 12 (.f 13 (.f 14 (.nil)))))))))))))))) (by decide +kernel) ?_
  refine zAi (zGc _ _ _ (r) ?_) (Rp.mono _ (zAa 1 rfl) hp) ?_
  ·(rw[z58];have:=zGP ‹zDo r=true›;omega)
  rintro v13 A13 o13
  obtain⟨bR,cR,rfl,oR⟩:=o13
  generalize A13=AR at *
  refine VC.intro ?_ ?_
  ·exact zAA
  refine⟨fun x14=>?_⟩
  refine VC.intro ?_ ?_
  ·exact zAA
  refine zA1 (A++AR) [[(_,Obj.cells ⟨.slice bR r.length cR :: .int .i64 t::List.append [] (zAX 0 [.slice none 0 0,.int .i64 0])⟩ 100)],H] (zGN _ _ _ _ _ xs ⟨r,t⟩ _ A AR ho (zIs oR ht) ?_ ?_) ?_ (zAa 0 rfl _ (List.mem_singleton.2 rfl)) ?_
  ·exact hkk.1
  ·omega
  ·exact rlA
  rintro _ AI ⟨bI,cI,rfl,oI⟩
  refine⟨[AI],by simp,?_⟩
  exact⟨_,zGV (k:=kk) (zIr aA (fun h0=>by show (xs[0]?.getD default).row.length=r.length;omega) (by first|assumption|(exact fun e=>absurd e.1 oO)|(rintro ⟨h8,h9⟩;exact absurd h9 (by simp_all))) oO) (fun _=>hkk) rfl oI,rlB⟩
 simp at q2
 have hlz:xs.length=0:=(congrArg List.length q2)
 refine zAe (zGO _ _ _ _ _ _ xs r hs oO) ⟨(Rp.mono _ (zAa 0 rfl) hrd),(Rp.mono _ (zAa 1 rfl) hp)⟩ ?_
 rintro _ ⟨kk,hkk,rfl⟩
 constructor<;>intro q17
 ·simp at q17
  exfalso;omega
 simp at q17
 constructor<;>intro q18
 ·simp at q18
  exfalso;omega
 simp at q18
 refine zBr zAh zAK (some 11) (.q 0 (.q 1 (.q 2 (.q 3 (.q 4 (.q 5 (.q 6 (.q 8 (.f 7 (.q 9 (.f 10 (.tl 11 (.f 12 (.f 13 (.f 14 (.nil)))))))))))))))) (by decide +kernel) ?_
 refine zAi (zGc _ _ _ (r) ?_) (Rp.mono _ (zAa 1 rfl) hp) ?_
 ·(rw[z58];have:=zGP ‹zDo r=true›;omega)
 rintro v19 A19 o19
 obtain⟨bR,cR,rfl,oR⟩:=o19
 generalize A19=AR at *
 refine VC.intro ?_ ?_
 ·exact zAA
 refine⟨fun x20=>?_⟩
 refine VC.intro ?_ ?_
 ·exact zAA
 refine zA1 (A++AR) [[(_,Obj.cells ⟨.slice bR r.length cR :: .int .i64 t::List.append [] (zAX 0 [.slice none 0 0,.int .i64 0])⟩ 100)],H] (zGN _ _ _ _ _ xs ⟨r,t⟩ _ A AR ho (zIs oR ht) ?_ ?_) ?_ (zAa 0 rfl _ (List.mem_singleton.2 rfl)) ?_
 ·exact hkk.1
 ·omega
 ·exact rlA
 rintro _ AI ⟨bI,cI,rfl,oI⟩
 refine⟨[AI],by simp,?_⟩
 exact⟨_,zGV (k:=kk) (zIr aA (fun h0=>by show (xs[0]?.getD default).row.length=r.length;omega) (by first|assumption|(exact fun e=>absurd e.1 oO)|(rintro ⟨h8,h9⟩;exact absurd h9 (by simp_all))) oO) (fun _=>hkk) rfl oI,rlB⟩
end
end Go.Proofs.YtcnclhjhnjpeiaaGreat
namespace Go.SX
open Go.Proofs Go.Sort Go.Shelf
section
variable {P:Program} {ρ:Ren} {γ:Type}
def OwZ (g:Gt γ) (zs:List (zC4 g.size×γ)) (As:List Hp):Prop:=OwL g (zs.map (·.1)) (zs.map (·.2)) As
theorem OwZ.zip {g:Gt γ} {ls:List (zC4 g.size)} {xs:List γ} {As:List Hp} (h:OwL g ls xs As):OwZ g (ls.zip xs) As:=by
 obtain⟨e1,_⟩:=h.len
 unfold OwZ
 rw[List.map_fst_zip oO,List.map_snd_zip oO]
 exact h
theorem OwZ.cons_inv {g:Gt γ} {z:zC4 g.size×γ} {zs:List (zC4 g.size×γ)} {As:List Hp} (h:OwZ g (z::zs) As):∃ A Bs,As=A::Bs∧g.ow z.1.1 z.2 A∧OwZ g zs Bs:=by
 unfold OwZ at h
 rw[List.map_cons,List.map_cons] at h
 cases h with
 | cons h1 h2=>exact⟨_,_,rfl,h1,h2⟩
theorem OwZ.cons {g:Gt γ} {z:zC4 g.size×γ} {zs:List (zC4 g.size×γ)} {A:Hp} {As:List Hp} (h:g.ow z.1.1 z.2 A) (h2:OwZ g zs As):OwZ g (z::zs) (A::As):=by
 unfold OwZ
 rw[List.map_cons,List.map_cons]
 exact .cons h h2
theorem OwZ.perm {g:Gt γ} {zs zs':List (zC4 g.size×γ)} (hp:zs.Perm zs'):∀ {As:List Hp},OwZ g zs As→∃ Bs,OwZ g zs' Bs∧As.flatten.Perm Bs.flatten:=by
 induction hp with
 | nil=>intro As h;exact⟨As,h,.refl _⟩
 | cons z _ ih=>
  intro As h
  obtain⟨A,Bs,rfl,h1,h2⟩:=h.cons_inv
  obtain⟨Cs,h3,h4⟩:=ih h2
  exact⟨A::Cs,.cons h1 h3,by simpa using h4.append_left A⟩
 | swap z y r=>
  intro As h
  obtain⟨A,As,rfl,h1,h2⟩:=h.cons_inv
  obtain⟨B,Bs,rfl,h3,h4⟩:=h2.cons_inv
  refine⟨B::A::Bs,.cons h3 (.cons h1 h4),?_⟩
  simp only[List.flatten_cons]
  rw[←List.append_assoc,←List.append_assoc]
  exact List.perm_append_comm.append_right _
 | trans _ _ ih1 ih2=>
  intro As h
  obtain⟨Bs,h1,h2⟩:=ih1 h
  obtain⟨Cs,h3,h4⟩:=ih2 h1
  exact⟨Cs,h3,h2.trans h4⟩
theorem OwZ.sub {g:Gt γ} {zs zs':List (zC4 g.size×γ)} (hp:zs'.Sublist zs):∀ {As:List Hp},OwZ g zs As→∃ Bs L,OwZ g zs' Bs∧As.flatten.Perm (Bs.flatten++L):=by
 induction hp with
 | slnil=>intro As h;exact⟨As,[],h,by simp⟩
 | cons z _ ih=>
  intro As h
  obtain⟨A,As,rfl,h1,h2⟩:=h.cons_inv
  obtain⟨Bs,L,h3,h4⟩:=ih h2
  refine⟨Bs,A++L,h3,?_⟩
  rw[List.flatten_cons]
  refine (h4.append_left A).trans ?_
  rw[←List.append_assoc,←List.append_assoc]
  exact List.perm_append_comm.append_right _
 | cons_cons z _ ih=>
  intro As h
  obtain⟨A,As,rfl,h1,h2⟩:=h.cons_inv
  obtain⟨Bs,L,h3,h4⟩:=ih h2
  refine⟨A::Bs,L,.cons h1 h3,?_⟩
  rw[List.flatten_cons,List.flatten_cons,List.append_assoc]
  exact h4.append_left A
theorem OwZ.all {g:Gt γ} {T:TypeId} {base:Option Addr} {n cap:Nat} {zs:List (zC4 g.size×γ)} {A0 A:Hp} {As:List Hp} (h:OwZ g zs As) (ho:Ow (zBF g.size g.pos) T (.slice base n cap) (zs.map (·.1)) A0) (hp:A.Perm (A0++As.flatten)):(gSl T g).ow [.slice base n cap] (zs.map (·.2)) A:=
 ⟨_,_,A0,As,rfl,ho,hp,h⟩
end
end Go.SX
namespace Go.Proofs.YtcnclhjhnjpeiaaGreat
open Go.SX Go.Proofs
open Tryz
section
attribute [local irreducible] IntKind.wrap
theorem zNw (b1:Option Addr) (m1 c1:Nat) (b2:Option Addr) (m2 c2:Nat) (a b:List Int):Ct prog 74 [.slice b1 m1 c1,.slice b2 m2 c2] [] (fun H=>(gSl 3 gI).rd H [.slice b1 m1 c1] a∧(gSl 3 gI).rd H [.slice b2 m2 c2] b) (fun v A=>v = .bool (decide (a=b))∧A=[]):=by
 refine Ct.intro0 zAh func74 rfl rfl rfl fun E H hp=>?_
 obtain⟨hp,hq⟩:=hp
 obtain⟨rfl,hc1,hl1⟩:=zAp hp
 obtain⟨rfl,hc2,hl2⟩:=zAp hq
 constructor<;>intro q0
 ·simp at q0
  exact⟨[],⟨by rw[decide_eq_false (fun e=>by subst e;exact absurd rfl aA)],rfl⟩,.refl _⟩
 simp at q0
 apply zAg (α:=(Nat)) zAh [14,15,5,16,17,18,19,20,21,22,23,24,4,25,13] (fun z=>[(13,.v (.int .i64 z))]) (fun z=>[]) (fun z=>[H]) (fun z=>a.length-z) (fun z=>z≤a.length∧zCd (fun i=>decide ((a[i]?.getD 0)=(b[i]?.getD 0))) z=true) ((0))
 ·exact frI
 ·exact trivial
 ·exact⟨Nat.zero_le _,rfl⟩
 ·exact .refl _
 rintro k hI
 try dsimp only at hI
 obtain⟨hk,ha⟩:=hI
 try dsimp only
 constructor<;>intro q1
 ·simp at q1
  refine zBr zAh zAK none (.q 0 (.q 1 (.q 2 (.q 3 (.q 4 (.q 5 (.q 6 (.q 7 (.q 8 (.nil)))))))))) (by decide +kernel) ?_
  refine zAf hp ?_ ?_ fun b2 o2 hb2=>?_
  ·omega
  ·omega
  refine zAd 0 (k) rfl hp ?_ ?_ hb2 rfl (zAa 0 rfl) fun l3 hl3=>?_
  ·omega
  ·omega
  obtain⟨rfl,hw3⟩:=hl3;simp only[zAx,zAs,okI] at hw3
  refine zAf hq ?_ ?_ fun b4 o4 hb4=>?_
  ·omega
  ·omega
  refine zAd 0 (k) rfl hq ?_ ?_ hb4 rfl (zAa 0 rfl) fun l5 hl5=>?_
  ·omega
  ·omega
  obtain⟨rfl,hw5⟩:=hl5;simp only[zAx,zAs,okI] at hw5
  constructor<;>intro q6
  ·simp at q6
   exact⟨[],⟨by rw[decide_eq_false (fun e=>by subst e;exact absurd rfl aA)],rfl⟩,.refl _⟩
  simp at q6
  apply zAb (k+1)
  ·exact .refl _
  ·exact frI
  ·exact trivial
  ·exact⟨oO,zAG ha (decide_eq_true aA)⟩
  omega
 simp at q1
 (have hke:k=a.length:=oO;subst hke;exact⟨[],⟨by rw[decide_eq_true (zYf oO ha)],rfl⟩,.refl _⟩)
theorem OwZ.reads {γ:Type} {g:Gt γ}:∀ {zs:List (zC4 g.size×γ)} {As:List Hp},OwZ g zs As→∀ z∈zs,g.rd As.flatten z.1.1 z.2
 | [],_,_,z,hz=>by cases hz
 | y::zs,As,h,z,hz=>by
  obtain⟨A,Bs,rfl,h1,h2⟩:=h.cons_inv
  rw[List.flatten_cons]
  rcases List.mem_cons.1 hz with rfl|hz
  ·exact g.mono (fun p hp=>List.mem_append_left _ hp) (g.owrd h1)
  exact g.mono (fun p hp=>List.mem_append_right _ hp) (OwZ.reads h2 z hz)
end
section
attribute [local irreducible] IntKind.wrap
theorem z2c {ca cb:List ByteArray} {k:Nat} (hk:k < cb.length) (h:zBI ca (cb[k]?.getD ByteArray.empty)=true):zV6 ca (cb.take (k+1))=zV6 ca (cb.take k)++[cb[k]?.getD ByteArray.empty]:=by
 unfold zV6;rw[zDf hk,h];rfl
theorem z5p {ca cb:List ByteArray} {k:Nat} (hk:k < cb.length) (h:zBI ca (cb[k]?.getD ByteArray.empty)=false):zV6 ca (cb.take (k+1))=zV6 ca (cb.take k):=by
 unfold zV6;rw[zDf hk,h];simp
theorem z2d {ca cb:List ByteArray} {k:Nat} (hk:k < cb.length) (h:zBI ca (cb[k]?.getD ByteArray.empty)=false):z11 ca (cb.take (k+1))=z11 ca (cb.take k)++[cb[k]?.getD ByteArray.empty]:=by
 unfold z11;rw[zDf hk,h];rfl
theorem z5q {ca cb:List ByteArray} {k:Nat} (hk:k < cb.length) (h:zBI ca (cb[k]?.getD ByteArray.empty)=true):z11 ca (cb.take (k+1))=z11 ca (cb.take k):=by
 unfold z11;rw[zDf hk,h];simp
theorem z8n:∀ l:List ByteArray,(∀ s∈l,s.size≤4)→szL gS l≤5 * l.length
 | [],_=>Nat.le_refl _
 | s::l,h=>by
  have h1:=z8n l fun x hx=>h x (List.mem_cons_of_mem _ hx)
  have h2:=h s List.mem_cons_self
  show 1+s.size+szL gS l≤_
  rw[List.length_cons];omega
theorem zNx {s:ByteArray} (h:zBY s=true):s.size≤4:=by
 unfold zBY at h
 rw[Bool.and_eq_true,Bool.and_eq_true,zAq] at h
 omega
theorem zOT {cs:List ByteArray} (h:zB9 cs=true):szL gS cs≤1048576:=by
 obtain⟨h1,_,h3⟩:=zCa h
 have:=z8n cs fun s hs=>zNx (h3 s hs)
 omega
theorem zSl {a b:Table} (ha:zAv a=true) (hb:zAv b=true) (hc:(zCs a.cols b.cols).length≤4) {i:Nat} (hi:i < a.bag.items.length) (k:Nat):∀ p∈zA4 a b i k,pOk (zCs a.cols b.cols).length p:=fun p hp=>by
 unfold zA4 at hp
 rcases List.mem_append.1 hp with h|h
 ·obtain⟨x,hx,h2⟩:=List.mem_flatMap.1 h
  obtain⟨y,hy,rfl⟩:=zIv h2
  exact zKn ha hb hc (List.mem_of_mem_take hx) hy
 obtain⟨y,hy,rfl⟩:=zIv h
 exact zKn ha hb hc (by rw[List.getElem?_eq_getElem hi];exact List.getElem_mem hi) (List.mem_of_mem_take hy)
theorem z2e (ca cb:List ByteArray) (x:Item) (ys:List Item) (k:Nat):zMw ca cb x (ys.take k)++zMw ca cb x (ys.drop k)=zMw ca cb x ys:=by
 unfold zMw
 rw[←List.map_append,←List.filter_append,List.take_append_drop]
theorem zQB {a b:Table} {i:Nat} (hi:i < a.bag.items.length) (k:Nat):∃ rest,zEW a b=zA4 a b i k++rest:=by
 have e:a.bag.items=a.bag.items.take i++(a.bag.items[i]::a.bag.items.drop (i+1)):=by rw[List.getElem_cons_drop,List.take_append_drop]
 refine⟨zMw a.cols b.cols (a.bag.items[i]?.getD default) (b.bag.items.drop k)++(a.bag.items.drop (i+1)).flatMap fun x=>zMw a.cols b.cols x b.bag.items,?_⟩
 unfold zA4 zEW
 rw[List.append_assoc,←List.append_assoc (zMw a.cols b.cols (a.bag.items[i]?.getD default) (b.bag.items.take k)),z2e]
 have h1:(a.bag.items.flatMap fun x=>zMw a.cols b.cols x b.bag.items)=(a.bag.items.take i++(a.bag.items[i]::a.bag.items.drop (i+1))).flatMap fun x=>zMw a.cols b.cols x b.bag.items:=by rw[←e]
 rw[h1,List.flatMap_append,List.flatMap_cons,List.getElem?_eq_getElem hi];rfl
theorem zYH {a b:Table} (ha:zAv a=true) (hb:zAv b=true) {i:Nat} (hi:i < a.bag.items.length) (k:Nat):(zBh [] (zA4 a b i k)).length≤(zBh [] (zEW a b)).length:=by
 obtain⟨rest,e⟩:=zQB (a:=a) (b:=b) hi k
 have ht:∀ p∈zEW a b,tOk p:=fun p hp=>by
  obtain⟨x,hx,h⟩:=List.mem_flatMap.1 hp
  obtain⟨y,hy,rfl⟩:=zIv h
  exact zLI ha hb hx hy
 have h1:=zVE (ps:=zEW a b) (ys:=[]) zGR ht (zA4 a b i k).length
 rw[e,List.take_left] at h1
 rw[e];exact h1
theorem z7N {a b:Table} (ha:zAv a=true) (hb:zAv b=true) (hc:(zCs a.cols b.cols).length≤4) {i k kp:Nat} {xs:List Item} (hi:i < a.bag.items.length) (hk:k < b.bag.items.length) (hx:xs=zBh [] (zA4 a b i k)) (hl:xs.length≤300)
  (hm:zOR a.cols b.cols (a.bag.items[i]?.getD default).row (b.bag.items[k]?.getD default).row b.cols.length=true) {r:List Int} (er:r=(a.bag.items[i]?.getD default).row++exK a.cols b.cols (b.bag.items[k]?.getD default).row b.cols.length)
  (hat:zDo r=true∧(0 < xs.length→(zBE xs 0).length=r.length)→atR xs r kp) :
  zEE xs r (min ((a.bag.items[i]?.getD default).times * (b.bag.items[k]?.getD default).times) 1000000) kp=if (zBh [] (zA4 a b i (k+1))).length≤300 then (zBh [] (zA4 a b i (k+1)),true) else (xs,false):=by
 have hbw:BW (zCs a.cols b.cols).length xs:=by rw[hx];exact zGU (zNp _) (zSl ha hb hc hi k)
 have hp:=zKn ha hb hc (x:=a.bag.items[i]?.getD default) (y:=b.bag.items[k]?.getD default) (by rw[List.getElem?_eq_getElem hi];exact List.getElem_mem hi) (by rw[List.getElem?_eq_getElem hk];exact List.getElem_mem hk)
 have e:zBh [] (zA4 a b i (k+1))=zNo xs (zSe a.cols b.cols (a.bag.items[i]?.getD default) (b.bag.items[k]?.getD default)):=by rw[zLC hk hm,zEp,hx]
 have hw:zDo r=true∧(0 < xs.length→(zBE xs 0).length=r.length):=by
  subst er
  exact⟨hp.2.1,fun h0=>by
   have h1:=hp.2.2
   rw[(hbw.rows _ (zBU.2 ⟨0,h0,rfl⟩)).2]
   exact h1.symm⟩
 subst er
 have h2:=zIu hbw hl hp (k:=kp) (hat hw)
 rw[e];exact h2
theorem z2f {a b:Table} (ha:zAv a=true) (hb:zAv b=true) (hc:(zCs a.cols b.cols).length≤4) {i k kp:Nat} {xs:List Item} (hi:i < a.bag.items.length) (hk:k < b.bag.items.length) (hx:xs=zBh [] (zA4 a b i k)) (hl:xs.length≤300)
  (hm:zOR a.cols b.cols (a.bag.items[i]?.getD default).row (b.bag.items[k]?.getD default).row b.cols.length=true) {r:List Int} (er:r=(a.bag.items[i]?.getD default).row++exK a.cols b.cols (b.bag.items[k]?.getD default).row b.cols.length)
  (hat:zDo r=true∧(0 < xs.length→(zBE xs 0).length=r.length)→atR xs r kp) (h:(zEE xs r (min ((a.bag.items[i]?.getD default).times * (b.bag.items[k]?.getD default).times) 1000000) kp).2=false):zAv (zJA a b)=false:=by
 rw[z7N ha hb hc hi hk hx hl hm er hat] at h
 split at h
 ·cases h
 rename_i h1
 rw[←Bool.not_eq_true,zNt ha hb]
 rintro ⟨_,h2⟩
 have:=zYH ha hb hi (k+1)
 omega
theorem zYI {a b:Table} (ha:zAv a=true) (hb:zAv b=true) (hc:(zCs a.cols b.cols).length≤4) {i k kp:Nat} {xs:List Item} (hi:i < a.bag.items.length) (hk:k < b.bag.items.length) (hx:xs=zBh [] (zA4 a b i k)) (hl:xs.length≤300)
  (hm:zOR a.cols b.cols (a.bag.items[i]?.getD default).row (b.bag.items[k]?.getD default).row b.cols.length=true) {r:List Int} (er:r=(a.bag.items[i]?.getD default).row++exK a.cols b.cols (b.bag.items[k]?.getD default).row b.cols.length)
  (hat:zDo r=true∧(0 < xs.length→(zBE xs 0).length=r.length)→atR xs r kp) (h:(zEE xs r (min ((a.bag.items[i]?.getD default).times * (b.bag.items[k]?.getD default).times) 1000000) kp).2=true) :
  (zEE xs r (min ((a.bag.items[i]?.getD default).times * (b.bag.items[k]?.getD default).times) 1000000) kp).1=zBh [] (zA4 a b i (k+1))∧(zEE xs r (min ((a.bag.items[i]?.getD default).times * (b.bag.items[k]?.getD default).times) 1000000) kp).1.length≤300:=by
 rw[z7N ha hb hc hi hk hx hl hm er hat] at h ⊢
 split at h
 ·rename_i h1;rw[if_pos h1];exact⟨rfl,h1⟩
 cases h
theorem z5r {x y:Int} (hx:1≤x∧x≤1000000) (hy:1≤y∧y≤1000000):(if 1000000 < IntKind.i64.wrap (x * y) then 1000000 else IntKind.i64.wrap (x * y))=min (x * y) 1000000:=by
 have h1:x * y≤1000000 * 1000000:=Int.mul_le_mul hx.2 hy.2 oO oO
 have h2:1 * 1≤x * y:=Int.mul_le_mul hx.1 hy.1 oO oO
 rw[zAc oO oO]
 split<;>omega
theorem zGW (q:Nat) (bc:Option Addr) (mc cc:Nat) (b:Option Addr) (c:Nat) (xs:List Item) (A:Hp) (b2:Option Addr) (m2 c2:Nat) (r:List Int) (t t':Int) (et:t'=t) (ho:(gSl 100 zAo).ow [.slice b xs.length c] xs A) (hs:zCJ xs) (hx:xs.length≤300) (ht:1≤t∧t≤1000000) (hxt:∀ i,i < xs.length→1≤(xs[i]?.getD default).times∧(xs[i]?.getD default).times≤1000000) :
  CtR prog 81 [.pointer (some ⟨q,1,none⟩),.slice b2 m2 c2,.int .i64 t'] ((q,Obj.cells ⟨[.slice bc mc cc,.slice b xs.length c]⟩ 65)::A) (fun H=>(gSl 3 gI).rd H [.slice b2 m2 c2] r)
   (fun v D=>∃ k b c A,(zDo r=true∧(0 < xs.length→(zBE xs 0).length=r.length)→atR xs r k)∧v = .bool (zEE xs r t k).2∧D=(q,Obj.cells ⟨[.slice bc mc cc,.slice b (zEE xs r t k).1.length c]⟩ 65)::A∧(gSl 100 zAo).ow [.slice b (zEE xs r t k).1.length c] (zEE xs r t k).1 A):=by
 subst et;exact zNv q bc mc cc b c xs A b2 m2 c2 r t' ho hs hx ht hxt
theorem z2g {H:Hp} {x:Nat} {b1 b2:Option Addr} {c1 c2:Nat} {r1 r2:List Int} {T:TypeId} (h:(x,Obj.cells ⟨[.slice b1 r1.length c1,.slice b2 r2.length c2]⟩ T)∈H) (h1:(gSl 3 gI).rd H [.slice b1 r1.length c1] r1) (h2:(gSl 3 gI).rd H [.slice b2 r2.length c2] r2) :
  (gSl 27 (gSl 3 gI)).rd H [.slice (some ⟨x,0,none⟩) 2 2] [r1,r2]:=by
 refine⟨some ⟨x,0,none⟩,2,rfl,by simp,fun i hi=>?_⟩
 have hi2:i < 2:=hi
 rcases i with _|_|i
 ·exact⟨x,0,_,rfl,⟨rfl,_,_,_,h,fun j hj=>by have h9:j=0:=Nat.lt_one_iff.1 hj;subst h9;rfl⟩,h1⟩
 ·exact⟨x,0,_,rfl,⟨rfl,_,_,_,h,fun j hj=>by have h9:j=0:=Nat.lt_one_iff.1 hj;subst h9;rfl⟩,h2⟩
 omega
theorem zKp {r:List Int} (h:zDo r=true):∀ x∈r,okI x:=fun x hx=>by have:=zSf h hx;unfold okI;omega
theorem zYJ (r1 r2:List Int):[r1,r2].flatten=r1++r2:=by simp
theorem zYK {ca cb cc:List ByteArray} {x y:List Int} (hd:zD7 cb=true) (hcc:cc=zV6 ca cb) (h:∀ s,s∈cc→tv ca x s=tv cb y s):zOR ca cb x y cb.length=true:=(zQw hd).1 (by rw[←hcc];exact List.map_congr_left h)
theorem z2h {ca cb cc:List ByteArray} {x y:List Int} (hd:zD7 cb=true) (hcc:cc=zV6 ca cb) (h:∃ s,s∈cc∧¬tv ca x s=tv cb y s):zOR ca cb x y cb.length=false:=by
 rw[←Bool.not_eq_true]
 intro h2
 obtain⟨s,hs,hn⟩:=h
 have h3:=(zQw hd).2 h2
 rw[←hcc,List.map_inj_left] at h3
 exact hn (h3 s hs)
theorem z2i {a b:Table} {ce:List ByteArray} {b18 ib:Option Addr} {c18 ic:Nat} {A B:Hp} (h1:zAv a=true) (h2:zAv b=true) (h3:zAv (zJA a b)=true) (hcJ:zCs a.cols b.cols=a.cols++ce) (o:(gSl 9 gS).ow [.slice b18 (a.cols++ce).length c18] (a.cols++ce) A) (oB:(gSl 100 zAo).ow [.slice ib (zBh [] (zEW a b)).length ic] (zBh [] (zEW a b)) B) :
  ∃ (b0:Option Addr) (c0:Nat) (b1:Option Addr) (c1:Nat),Value.tuple ⟨[.agg ⟨[.slice b18 (a.cols++ce).length c18,.slice ib (zBh [] (zEW a b)).length ic]⟩,.bool true]⟩ = .tuple #[.agg ⟨[.slice b0 (zEH a b).1.cols.length c0,.slice b1 (zEH a b).1.bag.items.length c1]⟩,.bool (zEH a b).2]∧OwT b0 c0 b1 c1 (zEH a b).1 (A++B):=by
 rw[zTW h1 h2 h3]
 refine⟨b18,c18,ib,ic,?_,A,B,.refl _,?_,oB⟩
 ·show _=Value.tuple #[.agg ⟨[.slice b18 (zCs a.cols b.cols).length c18,.slice ib (zBh [] (zEW a b)).length ic]⟩,.bool true]
  rw[hcJ]
 show (gSl 9 gS).ow [.slice b18 (zCs a.cols b.cols).length c18] (zCs a.cols b.cols) A
 rw[hcJ];exact o
theorem zSm (la lb:List Value) (a b:Table) :
  Ct prog 165 [.agg ⟨la⟩,.agg ⟨lb⟩] [] (fun H=>zBw.rd H la a∧zBw.rd H lb b)
   (fun v D=>∃ (b0:Option Addr) (c0:Nat) (b1:Option Addr) (c1:Nat),v = .tuple #[.agg ⟨[.slice b0 (zEH a b).1.cols.length c0,.slice b1 (zEH a b).1.bag.items.length c1]⟩,.bool (zEH a b).2]∧OwT b0 c0 b1 c1 (zEH a b).1 D):=by
 refine Ct.intro0 zAh func165 rfl rfl rfl fun E H hp=>?_
 obtain⟨hp,hq⟩:=hp
 obtain⟨b0p,c0p,l1p,rfl,h0p,h1p⟩:=zA6.1 hp
 obtain⟨b0_1p,c0_1p,rfl,h0_1p⟩:=zAD.1 h1p
 obtain⟨b0q,c0q,l1q,rfl,h0q,h1q⟩:=zA6.1 hq
 obtain⟨b0_1q,c0_1q,rfl,h0_1q⟩:=zAD.1 h1q
 have hla:=(zAp h0p).2.2
 have hlb:=(zAp h0q).2.2
 refine⟨fun x0=>?_⟩
 refine⟨fun x1=>?_⟩
 refine⟨fun x2=>?_⟩
 refine zAe (zDN _ (a)) (Rp.mono _ (zAa 0 rfl) hp) ?_
 rintro _ rfl
 constructor<;>intro q4
 ·simp at q4
  (rw[zTU aA];exact⟨[],⟨_,_,_,_,rfl,zCc⟩,.mem sI⟩)
 simp at q4
 refine zAe (zDN _ (b)) (Rp.mono _ (zAa 0 rfl) hq) ?_
 rintro _ rfl
 constructor<;>intro q6
 ·simp at q6
  (rw[zTV aA];exact⟨[],⟨_,_,_,_,rfl,zCc⟩,.mem sI⟩)
 simp at q6
 obtain⟨⟨ha1,ha2⟩,ha3⟩:=zBV ‹zAv a=true›
 obtain⟨⟨hb1,hb2⟩,hb3⟩:=zBV ‹zAv b=true›
 refine zAi (zH7 _ _ _ (a.cols) ?_) (Rp.mono _ (zAa 0 rfl) h0p) ?_
 ·exact zOT (zAJ.1 ‹zAv a=true›).1
 rintro v7 A7 o7
 obtain⟨b7,c7,rfl,o7⟩:=o7
 refine⟨fun x8=>?_⟩
 apply zAg (α:=(Nat)×(List ByteArray)×(Hp)×(Option Addr)×(Nat)×(List ByteArray)×(Hp)×(Option Addr)×(Nat)) zAh [35,36,37,10,38,39,40,41,42,43,44,45,7,46,47,48,49,8,50,34] (fun z=>[(34,.v (.int .i64 z.1)),(8,.v (.slice z.2.2.2.1 z.2.1.length z.2.2.2.2.1)),(7,.v (.slice z.2.2.2.2.2.2.2.1 z.2.2.2.2.2.1.length z.2.2.2.2.2.2.2.2))]) (fun z=>[{ id:=x0,cs:=[Value.slice b0p a.cols.length c0p,Value.slice b0_1p a.bag.items.length c0_1p]++[],ty:=(65:Nat) },{ id:=x1,cs:=[Value.slice b0q b.cols.length c0q,Value.slice b0_1q b.bag.items.length c0_1q]++[],ty:=(65:Nat) },{ id:=x2,cs:=[Value.slice none (0:Nat) (0:Nat),Value.slice none (0:Nat) (0:Nat)],ty:=(65:Nat) },{ id:=x8,cs:=[Value.slice b7 a.cols.length c7,Value.slice none (0:Nat) (0:Nat)],ty:=(65:Nat) }]) (fun z=>[z.2.2.1,z.2.2.2.2.2.2.1,A7,H]) (fun z=>b.cols.length-z.1) (fun z=>z.1≤b.cols.length∧z.2.1=z11 a.cols (b.cols.take z.1)∧z.2.2.2.2.2.1=zV6 a.cols (b.cols.take z.1)∧z.2.1.length≤z.1∧z.2.2.2.2.2.1.length≤z.1∧(gSl 9 gS).ow [.slice z.2.2.2.1 z.2.1.length z.2.2.2.2.1] z.2.1 z.2.2.1∧(gSl 9 gS).ow [.slice z.2.2.2.2.2.2.2.1 z.2.2.2.2.2.1.length z.2.2.2.2.2.2.2.2] z.2.2.2.2.2.1 z.2.2.2.2.2.2.1) ((0,[],[],none,0,[],[],none,0))
 ·exact frI
 ·exact⟨rfl,rfl,rfl,rfl,trivial⟩
 ·try dsimp only
  exact⟨Nat.zero_le _,rfl,rfl,Nat.le_refl _,Nat.le_refl _,zAm _ _ _,zAm _ _ _⟩
 ·exact .refl _
 rintro ⟨k,ce,Ae,eb,ec,cc,Ac,cb,cn⟩ hI
 try dsimp only at hI
 obtain⟨hk,hce,hcc,hel,hcl,oE,oC⟩:=hI
 try dsimp only
 constructor<;>intro q9
 ·simp at q9
  refine zAf h0q ?_ ?_ fun b10 o10 hb10=>?_
  ·omega
  ·omega
  refine zAd ByteArray.empty (k) rfl h0q ?_ ?_ hb10 rfl (zAa 3 rfl) fun l11 hl11=>?_
  ·omega
  ·omega
  obtain⟨rfl,hw11⟩:=hl11;simp only[zAx,zAs,okI] at hw11
  refine zAe (zCj _ _ _ (a.cols) _) (Rp.mono _ (zAa 3 rfl) h0p) ?_
  rintro _ rfl
  constructor<;>intro q13
  ·refine⟨fun x14=>?_⟩
   refine zAC (g:=gS) (T:=9) zAh Ac [] [Ae,A7,H] ?_ oC (zN5 ?_) (List.mem_of_getElem? (i:=0) rfl) rfl rfl rfl rfl rfl rfl rfl rfl ?_ fun b15 c15 A15 o15=>?_
   ·exact rlA
   ·trivial
   ·omega
   apply zAM (k+1,ce,Ae,eb,ec,_,_,_,_)
   ·exact frI
   ·exact⟨rfl,rfl,rfl,rfl,trivial⟩
   ·try dsimp only
    exact⟨oO,by rw[z5q oO aA];exact hce,by rw[z2c oO aA,←hcc],oO,by rw[List.length_append,List.length_singleton];omega,oE,aA⟩
   ·exact rlA
   try dsimp only
   omega
  refine⟨fun x16=>?_⟩
  refine zAC (g:=gS) (T:=9) zAh Ae [] [Ac,A7,H] ?_ oE (zN5 ?_) (List.mem_of_getElem? (i:=0) rfl) rfl rfl rfl rfl rfl rfl rfl rfl ?_ fun b17 c17 A17 o17=>?_
  ·exact .tl
  ·trivial
  ·omega
  apply zAb (k+1,_,_,_,_,cc,Ac,cb,cn)
  ·exact .refl _
  ·exact frI
  ·exact⟨rfl,rfl,rfl,rfl,trivial⟩
  ·try dsimp only
   exact⟨oO,by rw[z2d oO aA,←hce],by rw[z5p oO aA];exact hcc,by rw[List.length_append,List.length_singleton];omega,oO,aA,oC⟩
  try dsimp only
  omega
 simp at q9
 have hke:k=b.cols.length:=oO
 subst hke
 rw[List.take_length] at hce hcc
 have hcJ:zCs a.cols b.cols=a.cols++ce:=(by rw[hce];rfl)
 have hc1:∀ s∈cc,zBI a.cols s=true:=(fun s hs=>by rw[hcc] at hs;exact (List.mem_filter.1 hs).2)
 have hc2:∀ s∈cc,zBI b.cols s=true:=(fun s hs=>by rw[hcc] at hs;exact zC8.2 (List.mem_filter.1 hs).1)
 have he1:∀ s∈ce,zBI b.cols s=true:=(fun s hs=>by rw[hce] at hs;exact zC8.2 (List.mem_filter.1 hs).1)
 have hdb:=(zCa (zAJ.1 ‹zAv b=true›).1).2.1
 refine zCH (g:=gS) (T:=9) zAh (by repeat (first|exact zEP|apply zDT|apply zDc)) A7 [Ae,Ac,H] 0 ?_ o7 rfl (Gt.owrd _ oE) rfl rfl rfl rfl rfl rfl rfl rfl ?_ fun b18 c18 A18 o18=>?_
 ·exact rlA
 ·omega
 constructor<;>intro q19
 ·simp at q19
  (rw[zOS (zGs (zSg (by show 4 < (zCs a.cols b.cols).length;rw[hcJ,List.length_append];omega)))];exact⟨[],⟨_,_,_,_,rfl,zCc⟩,.mem sI⟩)
 simp at q19
 have hcl4:(zCs a.cols b.cols).length≤4:=(by rw[hcJ,List.length_append];omega)
 apply zAg (α:=(Nat)×(List Item)×(Hp)×(Option Addr)×(Nat)) zAh [66,67,68,12,69,70,71,72,73,13,74,75,76,77,78,79,80,81,15,82,83,84,85,86,16,87,88,89,90,91,92,93,94,95,96,97,98,99,100,101,17,102,103,104,105,106,107,108,109,110,111,112,5,113,114,65] (fun z=>[(65,.v (.int .i64 z.1)),(5,.v (.bool false))]) (fun z=>[⟨x0,[Value.slice b0p a.cols.length c0p,Value.slice b0_1p a.bag.items.length c0_1p],(65:Nat)⟩,⟨x1,[Value.slice b0q b.cols.length c0q,Value.slice b0_1q b.bag.items.length c0_1q],(65:Nat)⟩,⟨x2,[Value.slice none (0:Nat) (0:Nat),Value.slice none (0:Nat) (0:Nat)],(65:Nat)⟩,⟨x8,[Value.slice b18 (a.cols++ce).length c18,.slice z.2.2.2.1 z.2.1.length z.2.2.2.2],(65:Nat)⟩]) (fun z=>[z.2.2.1,A18,Ae,Ac,H]) (fun z=>a.bag.items.length-z.1) (fun z=>z.1≤a.bag.items.length∧z.2.1=zBh [] (zA4 a b z.1 0)∧z.2.1.length≤300∧(gSl 100 zAo).ow [.slice z.2.2.2.1 z.2.1.length z.2.2.2.2] z.2.1 z.2.2.1) ((0,[],[],none,0))
 ·exact frI
 ·exact⟨rfl,rfl,rfl,rfl,trivial⟩
 ·try dsimp only
  exact⟨Nat.zero_le _,by rw[zJB];rfl,by simp,zAm _ _ _⟩
 ·exact .refl _
 rintro ⟨i,xs,B,ib,ic⟩ hI
 try dsimp only at hI
 obtain⟨hi,hxs,hxl,oB⟩:=hI
 try dsimp only
 constructor<;>intro q20
 ·simp at q20
  refine zAf h0_1p ?_ ?_ fun b21 o21 hb21=>?_
  ·omega
  ·omega
  refine zAd default (i) rfl h0_1p ?_ ?_ hb21 rfl (zAa 4 rfl) fun l22 hl22=>?_
  ·omega
  ·omega
  obtain⟨b0x22,c0x22,rfl,h0x22,w1x22⟩:=zAB.1 hl22
  refine⟨fun x23=>?_⟩
  refine⟨fun x24=>?_⟩
  apply zAg (α:=(Nat)×(List Item)×(Hp)×(Option Addr)×(Nat)) zAh [79,80,81,15,82,83,84,85,86,16,87,88,89,90,91,92,93,94,95,96,97,98,99,100,101,17,102,103,104,105,106,107,108,109,110,111,112,5,113,78] (fun z=>[(78,.v (.int .i64 z.1)),(5,.v (.bool false))]) (fun z=>[⟨x0,[Value.slice b0p a.cols.length c0p,Value.slice b0_1p a.bag.items.length c0_1p],(65:Nat)⟩,⟨x1,[Value.slice b0q b.cols.length c0q,Value.slice b0_1q b.bag.items.length c0_1q],(65:Nat)⟩,⟨x2,[Value.slice none (0:Nat) (0:Nat),Value.slice none (0:Nat) (0:Nat)],(65:Nat)⟩,⟨x8,[Value.slice b18 (a.cols++ce).length c18,.slice z.2.2.2.1 z.2.1.length z.2.2.2.2],(65:Nat)⟩,⟨x23,[Value.slice b0x22 (a.bag.items[i]?.getD default).row.length c0x22,Value.int IntKind.i64 (a.bag.items[i]?.getD default).times],(100:Nat)⟩,⟨x24,[Value.slice b0p a.cols.length c0p,Value.slice b0x22 (a.bag.items[i]?.getD default).row.length c0x22],(134:Nat)⟩]) (fun z=>[z.2.2.1,A18,Ae,Ac,H]) (fun z=>b.bag.items.length-z.1) (fun z=>z.1≤b.bag.items.length∧z.2.1=zBh [] (zA4 a b i z.1)∧z.2.1.length≤300∧(gSl 100 zAo).ow [.slice z.2.2.2.1 z.2.1.length z.2.2.2.2] z.2.1 z.2.2.1) ((0,xs,B,ib,ic))
  ·exact frI
  ·repeat' (first|exact trivial|refine⟨by first|rfl|simp [Blk.ent],?_⟩)
  ·try dsimp only
   exact⟨Nat.zero_le _,hxs,hxl,oB⟩
  ·exact .refl _
  rintro ⟨j,xs1,B1,ib1,ic1⟩ hI
  try dsimp only at hI
  obtain⟨hj,hxs1,hxl1,oB1⟩:=hI
  try dsimp only
  constructor<;>intro q25
  ·simp at q25
   obtain⟨ta1,ta2,ta3⟩:=zCb ‹zAv a=true› (i:=i) oO
   obtain⟨tb1,tb2,tb3⟩:=zCb ‹zAv b=true› (i:=j) oO
   obtain⟨hiv,hln⟩:=z7L ‹zAv a=true› ‹zAv b=true› (i:=i) oO j
   rw[←hxs1] at hiv hln
   have hokx:=zKp ta3
   have hoky:=zKp tb3
   refine zAf h0_1q ?_ ?_ fun b26 o26 hb26=>?_
   ·omega
   ·omega
   refine zAd default (j) rfl h0_1q ?_ ?_ hb26 rfl (zAa 4 rfl) fun l27 hl27=>?_
   ·omega
   ·omega
   obtain⟨b0x27,c0x27,rfl,h0x27,w1x27⟩:=zAB.1 hl27
   refine⟨fun x28=>?_⟩
   refine⟨fun x29=>?_⟩
   refine zBr zAh zAK none (.q 0 (.q 1 (.q 3 (.q 4 (.f 2 (.f 5 (.f 6 (.q 7 (.nil))))))))) (by decide +kernel) ?_
   refine zAi (zDg _ _ _ _ _ _ _ _ _ _ _ (cc) ?_ ?_ ?_ ?_) ⟨(by (try exact Rp.mono _ (zAk sI) h0p);(try exact Rp.mono _ (zAk sI) h0q)),(by (try exact Rp.mono _ (zAk sI) ‹(gSl 3 gI).rd H [Value.slice _ (a.bag.items[i]?.getD default).row.length _] _›);(try exact Rp.mono _ (zAk sI) ‹(gSl 3 gI).rd H [Value.slice _ (b.bag.items[j]?.getD default).row.length _] _›)),(Rp.mono _ (zAa 3 rfl) (Gt.owrd _ oC))⟩ ?_
   ·trivial
   ·omega
   ·omega
   ·trivial
   rintro v30 A30 o30
   obtain⟨b30,c30,rfl,o30⟩:=o30
   refine VC.intro ?_ ?_
   ·exact zAA
   refine zAi (zDg _ _ _ _ _ _ _ _ _ _ _ (cc) ?_ ?_ ?_ ?_) ⟨(by (try exact Rp.mono _ (zAk sI) h0p);(try exact Rp.mono _ (zAk sI) h0q)),(by (try exact Rp.mono _ (zAk sI) ‹(gSl 3 gI).rd H [Value.slice _ (a.bag.items[i]?.getD default).row.length _] _›);(try exact Rp.mono _ (zAk sI) ‹(gSl 3 gI).rd H [Value.slice _ (b.bag.items[j]?.getD default).row.length _] _›)),(Rp.mono _ (zAa 4 rfl) (Gt.owrd _ oC))⟩ ?_
   ·trivial
   ·omega
   ·omega
   ·trivial
   rintro v31 A31 o31
   obtain⟨b31,c31,rfl,o31⟩:=o31
   refine VC.intro ?_ ?_
   ·exact zAl sI sI
   refine zAe (zNw _ _ _ _ _ _ (List.map (tv a.cols (a.bag.items[i]?.getD default).row) cc) (List.map (tv b.cols (b.bag.items[j]?.getD default).row) cc)) ⟨(Rp.mono _ (zAa 1 rfl) (Gt.owrd _ o30)),(Rp.mono _ (zAa 0 rfl) (Gt.owrd _ o31))⟩ ?_
   rintro _ rfl
   refine VC.intro ?_ ?_
   ·exact zAl sI sI
   constructor<;>intro q33
   ·simp at q33
    have hmk:=z2h (x:=(a.bag.items[i]?.getD default).row) (y:=(b.bag.items[j]?.getD default).row) hdb hcc aA
    apply zAb (j+1,xs1,B1,ib1,ic1)
    ·exact .sub (by repeat (first|exact .slnil|apply List.Sublist.cons_cons|apply List.Sublist.cons))
    ·exact frI
    ·repeat' (first|exact trivial|refine⟨by first|rfl|simp [Blk.ent],?_⟩)
    ·try dsimp only
     exact⟨oO,by rw[zNs oO hmk];exact hxs1,hxl1,oB1⟩
    try dsimp only
    omega
   simp at q33
   have hmk:=zYK (x:=(a.bag.items[i]?.getD default).row) (y:=(b.bag.items[j]?.getD default).row) hdb hcc aA
   have hex:ce.map (tv b.cols (b.bag.items[j]?.getD default).row)=exK a.cols b.cols (b.bag.items[j]?.getD default).row b.cols.length:=(by rw[hce];exact z12 hdb)
   have hek:=z3z a.cols b.cols (b.bag.items[j]?.getD default).row b.cols.length
   have er:(a.bag.items[i]?.getD default).row++ce.map (tv b.cols (b.bag.items[j]?.getD default).row)=(a.bag.items[i]?.getD default).row++exK a.cols b.cols (b.bag.items[j]?.getD default).row b.cols.length:=(by rw[hex])
   refine zBr zAh zAK none (.q 0 (.q 1 (.q 2 (.q 3 (.f 4 (.f 5 (.f 6 (.q 7 (.nil))))))))) (by decide +kernel) ?_
   refine zAi (zDg _ _ _ _ _ _ _ _ _ _ _ (ce) ?_ ?_ ?_ ?_) ⟨(by (try exact Rp.mono _ (zAk sI) h0p);(try exact Rp.mono _ (zAk sI) h0q)),(by (try exact Rp.mono _ (zAk sI) ‹(gSl 3 gI).rd H [Value.slice _ (a.bag.items[i]?.getD default).row.length _] _›);(try exact Rp.mono _ (zAk sI) ‹(gSl 3 gI).rd H [Value.slice _ (b.bag.items[j]?.getD default).row.length _] _›)),(Rp.mono _ (zAa 4 rfl) (Gt.owrd _ oE))⟩ ?_
   ·trivial
   ·omega
   ·omega
   ·trivial
   rintro v34 A34 o34
   obtain⟨b34,c34,rfl,o34⟩:=o34
   refine VC.intro ?_ ?_
   ·exact zAA
   refine⟨fun x35=>?_⟩
   refine VC.intro ?_ ?_
   ·exact zAl sI sI
   refine zAi (zQA _ _ _ [(a.bag.items[i]?.getD default).row,ce.map (tv b.cols (b.bag.items[j]?.getD default).row)] ?_) (z2g (zAa 0 rfl _ (List.mem_singleton.2 rfl)) (Rp.mono _ (zAk sI) ‹(gSl 3 gI).rd H [Value.slice _ (a.bag.items[i]?.getD default).row.length _] _›) (Rp.mono _ (zAa 1 rfl) (Gt.owrd _ o34))) ?_
   ·simp;omega
   rintro v36 A36 o36
   obtain⟨b36,c36,rfl,o36⟩:=o36
   rw[zYJ] at o36 ⊢
   refine VC.intro ?_ ?_
   ·exact zAl sI sI
   refine zAr 3 (B1) [A36,[(x35,Obj.cells { toList:=Value.slice b0x22 (a.bag.items[i]?.getD default).row.length c0x22::Value.slice b34 (List.map (tv b.cols (b.bag.items[j]?.getD default).row) ce).length c34::[].append (zAX (nat_lit 0) [Value.slice none (0:Nat) (0:Nat)]) } 27)],A34,A31,A30,A18,Ae,Ac,H] rfl ?_ (zGW _ _ _ _ _ _ xs1 _ _ _ _ ((a.bag.items[i]?.getD default).row++ce.map (tv b.cols (b.bag.items[j]?.getD default).row)) (min ((a.bag.items[i]?.getD default).times * (b.bag.items[j]?.getD default).times) 1000000) _ (z5r ta2 tb2) oB1 ?_ ?_ ?_ ?_) (Rp.mono _ (zAa 0 rfl) (Gt.owrd _ o36)) ?_
   ·exact rlA
   ·exact hiv.1
   ·trivial
   ·exact zT1 ta2 tb2
   ·exact hiv.2
   rintro _ A37 ⟨kp,bP,cP,AP,hat,rfl,rfl,oP⟩
   refine⟨_,_,[AP],rfl,zBO,?_⟩
   constructor<;>intro q38
   ·simp at q38
    try dsimp only
    (rw[zOS (z2f ‹zAv a=true› ‹zAv b=true› hcl4 oO oO hxs1 hxl1 hmk er hat aA)];exact⟨[],⟨_,_,_,_,rfl,zCc⟩,.mem sI⟩)
   simp at q38
   apply zAb (j+1,_,_,_,_)
   ·exact .sub (by repeat (first|exact .slnil|apply List.Sublist.cons_cons|apply List.Sublist.cons))
   ·exact frI
   ·repeat' (first|exact trivial|refine⟨by first|rfl|simp [Blk.ent],?_⟩)
   ·try dsimp only
    (obtain⟨e1,e2⟩:=zYI ‹zAv a=true› ‹zAv b=true› hcl4 oO oO hxs1 hxl1 hmk er hat aA;exact⟨oO,e1,e2,aA⟩)
   try dsimp only
   omega
  simp at q25
  apply zAb (i+1,xs1,B1,ib1,ic1)
  ·exact .refl _
  ·exact frI
  ·exact⟨rfl,rfl,rfl,rfl,trivial⟩
  ·try dsimp only
   exact⟨oO,by rw[zJC (k:=j) oO oO];exact hxs1,hxl1,oB1⟩
  try dsimp only
  omega
 simp at q20
 (have hie:i=a.bag.items.length:=oO;subst hie;rw[zLD _ _ (Nat.le_refl _)] at hxs;subst hxs;exact⟨A18++B,z2i ‹zAv a=true› ‹zAv b=true› ((zNt ‹zAv a=true› ‹zAv b=true›).2 ⟨hcl4,hxl⟩) hcJ o18 oB,rlB⟩)
end
section
attribute [local irreducible] IntKind.wrap zA0
def zYL (ns:List ByteArray) (f:Filter):Prop:=zBI ns f.left=true∧(f.right.size=0∨zBI ns f.right=true)∧inR 1 2 f.op=true
theorem zBu {cs:List ByteArray} {row:List Int} {f:Filter} (h:f.op=1):zHJ cs row f=decide (tv cs row f.left < zNu cs row f):=if_pos h
theorem zBv {cs:List ByteArray} {row:List Int} {f:Filter} (h:¬f.op=1):zHJ cs row f=decide (tv cs row f.left=zNu cs row f):=if_neg h
theorem zBJ {cs:List ByteArray} {row:List Int} {f:Filter} (h:f.right.toList=[]):zNu cs row f=f.num:=if_pos (zFE.1 h)
theorem zBK {cs:List ByteArray} {row:List Int} {f:Filter} (h:¬f.right.toList=[]):zNu cs row f=tv cs row f.right:=if_neg fun e=>h (zFE.2 e)
theorem zFp {ns:List ByteArray} {f:Filter} (h:zYL ns f) (h2:¬f.right.toList=[]):zBI ns f.right=true:=h.2.1.resolve_left fun e=>h2 (zFE.2 e)
theorem zHK (l:List Value) (b:Option Addr) (m c:Nat) (b2:Option Addr) (m2 c2:Nat) (f:Filter) (ns:List ByteArray) (vs:List Int) (hf:zYL ns f) (hl:ns.length≤vs.length) :
  Ct prog 108 [.agg ⟨l⟩,.slice b m c,.slice b2 m2 c2] [] (fun H=>zAE.rd H l f∧(gSl 9 gS).rd H [.slice b m c] ns∧(gSl 3 gI).rd H [.slice b2 m2 c2] vs) (fun v A=>v = .bool (zHJ ns vs f)∧A=[]):=by
 refine Ct.intro0 zAh func108 rfl rfl rfl fun E H hp=>?_
 obtain⟨hp,hq,hr⟩:=hp
 obtain⟨rfl,hcl,hl1⟩:=zAp hq
 obtain⟨rfl,hcl2,hl2⟩:=zAp hr
 obtain⟨rfl,w0p,w1p,w2p,w3p⟩:=zBj.1 hp
 have hi:=zDE hf.1
 refine⟨fun x0=>?_⟩
 constructor<;>intro q1
 ·simp at q1
  refine zAe (zCn _ _ _ (ns) _) (Rp.mono _ (zAa 0 rfl) hq) ?_
  rintro _ rfl
  refine zAf hr ?_ ?_ fun b3 o3 hb3=>?_
  ·(have h9:=zDE (zFp hf aA);omega)
  ·(have h9:=zDE (zFp hf aA);omega)
  refine zAF 0 hr ?_ ?_ hb3 rfl (zAa 0 rfl) fun l4 hl4=>?_
  ·(have h9:=zDE (zFp hf aA);omega)
  ·(have h9:=zDE (zFp hf aA);omega)
  obtain⟨rfl,hw4⟩:=hl4;simp only[zAx,zAs,okI] at hw4
  refine zAe (zCn _ _ _ (ns) _) (Rp.mono _ (zAa 0 rfl) hq) ?_
  rintro _ rfl
  refine zAf hr ?_ ?_ fun b6 o6 hb6=>?_
  ·omega
  ·omega
  refine zAF 0 hr ?_ ?_ hb6 rfl (zAa 0 rfl) fun l7 hl7=>?_
  ·omega
  ·omega
  obtain⟨rfl,hw7⟩:=hl7;simp only[zAx,zAs,okI] at hw7
  constructor<;>intro q8
  ·simp at q8
   exact⟨[],⟨by first|(rw[zBu aA,zBJ aA];rfl)|(rw[zBu aA,zBK aA];rfl)|(rw[zBv aA,zBJ aA,←zCm];rfl)|(rw[zBv aA,zBK aA,←zCm];rfl),rfl⟩,.mem sI⟩
  simp at q8
  exact⟨[],⟨by first|(rw[zBu aA,zBJ aA];rfl)|(rw[zBu aA,zBK aA];rfl)|(rw[zBv aA,zBJ aA,←zCm];rfl)|(rw[zBv aA,zBK aA,←zCm];rfl),rfl⟩,.mem sI⟩
 simp at q1
 refine zAe (zCn _ _ _ (ns) _) (Rp.mono _ (zAa 0 rfl) hq) ?_
 rintro _ rfl
 refine zAf hr ?_ ?_ fun b10 o10 hb10=>?_
 ·omega
 ·omega
 refine zAF 0 hr ?_ ?_ hb10 rfl (zAa 0 rfl) fun l11 hl11=>?_
 ·omega
 ·omega
 obtain⟨rfl,hw11⟩:=hl11;simp only[zAx,zAs,okI] at hw11
 constructor<;>intro q12
 ·simp at q12
  exact⟨[],⟨by first|(rw[zBu aA,zBJ aA];rfl)|(rw[zBu aA,zBK aA];rfl)|(rw[zBv aA,zBJ aA,←zCm];rfl)|(rw[zBv aA,zBK aA,←zCm];rfl),rfl⟩,.mem sI⟩
 simp at q12
 exact⟨[],⟨by first|(rw[zBu aA,zBJ aA];rfl)|(rw[zBu aA,zBK aA];rfl)|(rw[zBv aA,zBJ aA,←zCm];rfl)|(rw[zBv aA,zBK aA,←zCm];rfl),rfl⟩,.mem sI⟩
theorem zT2 {s row:List Int} (h:zA8 s=0):zDX s row = -1:=if_pos (.inl h)
theorem zT3 {s row:List Int} (h:¬row.length=s.length):zDX s row = -1:=if_pos (.inr h)
theorem zT4 {s row:List Int} (h1:¬zA8 s=0) (h2:row.length=s.length):zDX s row=zGr s row s.length:=if_neg fun e=>e.elim h1 fun e=>e h2
theorem z2j {s:List Int} (h:¬zA8 s=0):shK s s.length=true∧zB8 s s.length≤8∧s.length≤4:=by
 unfold zA8 at h
 split at h
 ·rename_i h1
  have h2:=h1.2.2
  unfold zKi at h2
  rw[Bool.and_eq_true,decide_eq_true_iff] at h2
  exact⟨h2.1,h2.2,h1.2.1⟩
 exact absurd rfl h
theorem zDY {s row:List Int} {k:Nat} (h:¬zA8 s=0) (hk:k < s.length):IntKind.i64.wrap (IntKind.i64.wrap (zGr s row k * (s[k]?.getD 0))+zA0 (row[k]?.getD 0) (s[k]?.getD 0))=zGr s row (k+1):=by
 obtain⟨h1,h2,h3⟩:=z2j h
 have h4:=zLG (row:=row) h1 k oO
 have h5:=zLG (row:=row) h1 (k+1) oO
 have h6:=zIn (j:=k+1) h1 oO
 have h7:=zAq.1 (zBe h1 k hk)
 have h8:=zTY (v:=row[k]?.getD 0) h7.1
 have e:zGr s row (k+1)=zGr s row k * (s[k]?.getD 0)+zA0 (row[k]?.getD 0) (s[k]?.getD 0):=rfl
 have h9:0 * (s[k]?.getD 0)≤zGr s row k * (s[k]?.getD 0):=Int.mul_le_mul_of_nonneg_right h4.1 oO
 rw[zAc (x:=zGr s row k * (s[k]?.getD 0)) oO oO,zAc oO oO];rfl
theorem zOU (b:Option Addr) (m c:Nat) (b2:Option Addr) (m2 c2:Nat) (s row:List Int) :
  Ct prog 54 [.slice b m c,.slice b2 m2 c2] [] (fun H=>(gSl 3 gI).rd H [.slice b m c] s∧(gSl 3 gI).rd H [.slice b2 m2 c2] row) (fun v A=>v = .int .i64 (zDX s row)∧A=[]):=by
 refine Ct.intro0 zAh func54 rfl rfl rfl fun E H hp=>?_
 obtain⟨hp,hq⟩:=hp
 obtain⟨rfl,hcl,hl⟩:=zAp hp
 obtain⟨rfl,hcl2,hl2⟩:=zAp hq
 refine zAe (zE6 _ _ _ (s)) (Rp.mono _ (zAa 0 rfl) hp) ?_
 rintro _ rfl
 constructor<;>intro q1
 ·simp at q1
  exact⟨[],⟨by rw[zT2 aA],rfl⟩,.mem sI⟩
 simp at q1
 constructor<;>intro q2
 ·simp at q2
  exact⟨[],⟨by rw[zT3 oO],rfl⟩,.mem sI⟩
 simp at q2
 apply zAg (α:=(Nat)) zAh [17,18,19,20,23,24,25,26,27,28,29,30,31,32,33,34,35,36,37,38,5,21,22,6] (fun z=>[(6,.v (.int .i64 z)),(5,.v (.int .i64 (zGr s row z)))]) (fun z=>[]) (fun z=>[H]) (fun z=>s.length-z) (fun z=>z≤s.length) ((0))
 ·repeat' (first|exact trivial|refine⟨⟨_,rfl,by first|exact frE|(refine zAz ?_;simp;done)|exact congrArg (fun v=>SV.v (Value.int .i64 v)) (zDY aA oO)|exact congrArg (fun v=>Value.int .i64 v) (zDY aA oO),frO⟩,?_⟩)
 ·exact trivial
 ·exact Nat.zero_le _
 ·exact .refl _
 rintro k hI
 obtain hk:k≤s.length:=hI
 try dsimp only
 constructor<;>intro q3
 ·simp at q3
  refine zBr zAh zAK none (.q 0 (.q 1 (.q 2 (.q 3 (.q 4 (.q 5 (.q 6 (.q 7 (.q 8 (.q 9 (.q 10 (.q 11 (.q 12 (.q 13 (.f 14 (.q 15 (.q 16 (.nil)))))))))))))))))) (by decide +kernel) ?_
  refine zAf hp ?_ ?_ fun b4 o4 hb4=>?_
  ·omega
  ·omega
  refine zAd 0 (k) rfl hp ?_ ?_ hb4 rfl (zAa 0 rfl) fun l5 hl5=>?_
  ·omega
  ·omega
  obtain⟨rfl,hw5⟩:=hl5;simp only[zAx,zAs,okI] at hw5
  refine zAf hq ?_ ?_ fun b6 o6 hb6=>?_
  ·omega
  ·omega
  refine zAd 0 (k) rfl hq ?_ ?_ hb6 rfl (zAa 0 rfl) fun l7 hl7=>?_
  ·omega
  ·omega
  obtain⟨rfl,hw7⟩:=hl7;simp only[zAx,zAs,okI] at hw7
  refine zAf hp ?_ ?_ fun b8 o8 hb8=>?_
  ·omega
  ·omega
  refine zAd 0 (k) rfl hp ?_ ?_ hb8 rfl (zAa 0 rfl) fun l9 hl9=>?_
  ·omega
  ·omega
  obtain⟨rfl,hw9⟩:=hl9;simp only[zAx,zAs,okI] at hw9
  refine zAe (zHq _ _) trivial ?_
  rintro _ rfl
  refine VC.intro ?_ ?_
  ·exact fun _ h=>h
  apply zAb (k+1)
  ·exact .refl _
  ·repeat' (first|exact trivial|refine⟨⟨_,rfl,by first|exact frE|(refine zAz ?_;simp;done)|exact congrArg (fun v=>SV.v (Value.int .i64 v)) (zDY aA oO)|exact congrArg (fun v=>Value.int .i64 v) (zDY aA oO),frO⟩,?_⟩)
  ·exact trivial
  ·omega
  omega
 simp at q3
 (have hke:k=s.length:=oO;subst hke;exact⟨[],⟨by rw[zT4 aA oO],rfl⟩,.mem sI⟩)
theorem zOV (b:Option Addr) (m c:Nat) (b2:Option Addr) (m2 c2:Nat) (s row:List Int) :
  Ct prog 125 [.slice b m c,.slice b2 m2 c2] [] (fun H=>(gSl 3 gI).rd H [.slice b m c] s∧(gSl 3 gI).rd H [.slice b2 m2 c2] row) (fun v A=>v = .int .i64 (zDX s row)∧A=[]):=by
 refine Ct.intro0 zAh func125 rfl rfl rfl fun E H hp=>?_
 obtain⟨hp,hq⟩:=hp
 obtain⟨rfl,hcl,hl⟩:=zAp hp
 obtain⟨rfl,hcl2,hl2⟩:=zAp hq
 refine zAe (zDM _ _ _ (s)) (Rp.mono _ (zAa 0 rfl) hp) ?_
 rintro _ rfl
 constructor<;>intro q1
 ·simp at q1
  exact⟨[],⟨by rw[zT2 aA],rfl⟩,.mem sI⟩
 simp at q1
 constructor<;>intro q2
 ·simp at q2
  exact⟨[],⟨by rw[zT3 oO],rfl⟩,.mem sI⟩
 simp at q2
 apply zAg (α:=(Nat)) zAh [21,22,23,24,6,7,25,26,27,28,29,30,31,32,33,34,5,35,20] (fun z=>[(20,.v (.int .i64 z)),(5,.v (.int .i64 (zGr s row z)))]) (fun z=>[]) (fun z=>[H]) (fun z=>s.length-z) (fun z=>z≤s.length) ((0))
 ·repeat' (first|exact trivial|refine⟨⟨_,rfl,by first|exact frE|(refine zAz ?_;simp;done)|exact congrArg (fun v=>SV.v (Value.int .i64 v)) (zDY aA oO)|exact congrArg (fun v=>Value.int .i64 v) (zDY aA oO),frO⟩,?_⟩)
 ·exact trivial
 ·exact Nat.zero_le _
 ·exact .refl _
 rintro k hI
 obtain hk:k≤s.length:=hI
 try dsimp only
 constructor<;>intro q3
 ·simp at q3
  refine zAf hp ?_ ?_ fun b4 o4 hb4=>?_
  ·omega
  ·omega
  refine zAd 0 (k) rfl hp ?_ ?_ hb4 rfl (zAa 0 rfl) fun l5 hl5=>?_
  ·omega
  ·omega
  obtain⟨rfl,hw5⟩:=hl5;simp only[zAx,zAs,okI] at hw5
  refine zAf hq ?_ ?_ fun b6 o6 hb6=>?_
  ·omega
  ·omega
  refine zAd 0 (k) rfl hq ?_ ?_ hb6 rfl (zAa 0 rfl) fun l7 hl7=>?_
  ·omega
  ·omega
  obtain⟨rfl,hw7⟩:=hl7;simp only[zAx,zAs,okI] at hw7
  refine zAe (zHp _ _) trivial ?_
  rintro _ rfl
  apply zAb (k+1)
  ·exact .refl _
  ·repeat' (first|exact trivial|refine⟨⟨_,rfl,by first|exact frE|(refine zAz ?_;simp;done)|exact congrArg (fun v=>SV.v (Value.int .i64 v)) (zDY aA oO)|exact congrArg (fun v=>Value.int .i64 v) (zDY aA oO),frO⟩,?_⟩)
  ·exact trivial
  ·omega
  omega
 simp at q3
 (have hke:k=s.length:=oO;subst hke;exact⟨[],⟨by rw[zT4 aA oO],rfl⟩,.mem sI⟩)
end
section
attribute [local irreducible] IntKind.wrap zA0
theorem zNy {aa bb:List ByteArray} {k:Nat} (ha:k < aa.length) (hb:k < bb.length) (h:aa.take k=bb.take k) (h2:(aa[k]?.getD ByteArray.empty)=(bb[k]?.getD ByteArray.empty)):aa.take (k+1)=bb.take (k+1):=by
 rw[←List.take_append_getElem ha,←List.take_append_getElem hb,h]
 rw[List.getElem?_eq_getElem ha,List.getElem?_eq_getElem hb] at h2
 rw[show aa[k]=bb[k] from h2]
theorem zT5 {aa bb:List ByteArray} {k:Nat} (h:¬(aa[k]?.getD ByteArray.empty)=(bb[k]?.getD ByteArray.empty)):decide (aa=bb)=false:=decide_eq_false fun e=>h (by rw[e])
theorem zQC {aa bb:List ByteArray} (h:¬aa.length=bb.length):decide (aa=bb)=false:=decide_eq_false fun e=>h (by rw[e])
theorem zQD {aa bb:List ByteArray} {k:Nat} (h:aa.take k=bb.take k) (ha:aa.length≤k) (hb:bb.length≤k):decide (aa=bb)=true:=by
 rw[List.take_of_length_le ha,List.take_of_length_le hb] at h
 exact decide_eq_true h
theorem zSn (b1:Option Addr) (m1 c1:Nat) (b2:Option Addr) (m2 c2:Nat) (aa bb:List ByteArray):Ct prog 49 [.slice b1 m1 c1,.slice b2 m2 c2] [] (fun H=>(gSl 9 gS).rd H [.slice b1 m1 c1] aa∧(gSl 9 gS).rd H [.slice b2 m2 c2] bb) (fun v A=>v = .bool (decide (aa=bb))∧A=[]):=by
 refine Ct.intro0 zAh func49 rfl rfl rfl fun E H hp=>?_
 obtain⟨hp,hq⟩:=hp
 obtain⟨rfl,hcp,hlp⟩:=zAp hp
 obtain⟨rfl,hcq,hlq⟩:=zAp hq
 constructor<;>intro q0
 ·simp at q0
  exact⟨[],⟨by rw[zQC oO],rfl⟩,.mem sI⟩
 simp at q0
 apply zAg (α:=(Nat)) zAh [11,12,13,14,17,18,19,20,21,22,23,24,25,4,15,16,5] (fun z=>[(5,.v (.int .i64 z))]) (fun z=>[]) (fun z=>[H]) (fun z=>aa.length-z) (fun z=>z≤aa.length∧aa.take z=bb.take z) ((0))
 ·exact frI
 ·exact trivial
 ·exact⟨Nat.zero_le _,rfl⟩
 ·exact .refl _
 rintro k hI
 obtain⟨hk,he⟩:k≤aa.length∧aa.take k=bb.take k:=hI
 try dsimp only
 constructor<;>intro q1
 ·simp at q1
  refine zBr zAh zAK none (.q 0 (.q 1 (.q 2 (.q 3 (.q 4 (.q 5 (.q 6 (.q 7 (.q 8 (.nil)))))))))) (by decide +kernel) ?_
  refine zAf hp ?_ ?_ fun b2 o2 hb2=>?_
  ·omega
  ·omega
  refine zAd ByteArray.empty (k) rfl hp ?_ ?_ hb2 rfl (zAa 0 rfl) fun l3 hl3=>?_
  ·omega
  ·omega
  obtain⟨rfl,hw3⟩:=hl3;simp only[zAx,zAs,okI] at hw3
  refine zAf hq ?_ ?_ fun b4 o4 hb4=>?_
  ·omega
  ·omega
  refine zAd ByteArray.empty (k) rfl hq ?_ ?_ hb4 rfl (zAa 0 rfl) fun l5 hl5=>?_
  ·omega
  ·omega
  obtain⟨rfl,hw5⟩:=hl5;simp only[zAx,zAs,okI] at hw5
  constructor<;>intro q6
  ·simp at q6
   simp only[zAR,zBn,zAZ] at q6
   exact⟨[],⟨by rw[zT5 (k:=k) aA],rfl⟩,.mem sI⟩
  simp at q6
  simp only[zAR,zBn,zAZ] at q6
  apply zAb (k+1)
  ·exact .refl _
  ·exact frI
  ·exact trivial
  ·exact⟨oO,zNy oO oO he aA⟩
  omega
 simp at q1
 exact⟨[],⟨by rw[zQD (k:=k) he oO oO],rfl⟩,.mem sI⟩
theorem zVM (l:List Value) (t:Table) (ht:zAv t=true):Ct prog 51 [.agg ⟨l⟩] [] (fun H=>zBw.rd H l t)
   (fun v D=>∃ (b0:Option Addr) (c0:Nat) (b1:Option Addr) (c1:Nat),v = .agg ⟨[.slice b0 t.cols.length c0,.slice b1 t.bag.items.length c1]⟩∧OwT b0 c0 b1 c1 t D):=by
 refine Ct.intro0 zAh func51 rfl rfl rfl fun E H hp=>?_
 obtain⟨b0p,c0p,l1p,rfl,h0p,h1p⟩:=zA6.1 hp
 obtain⟨b0_1p,c0_1p,rfl,h0_1p⟩:=zAD.1 h1p
 obtain⟨⟨ha1,ha2⟩,ha3⟩:=zBV ht
 have hbM:zJO t.bag=true:=zFJ.2 ⟨(zAJ.1 ht).2.1,_,(zAJ.1 ht).2.2⟩
 refine⟨fun x0=>?_⟩
 refine⟨fun x1=>?_⟩
 refine zBr zAh zAK (some 8) (.q 1 (.q 2 (.q 4 (.q 5 (.f 0 (.f 3 (.f 6 (.q 7 (.tl 8 (.nil)))))))))) (by decide +kernel) ?_
 refine⟨fun x2=>?_⟩
 refine VC.intro ?_ ?_
 ·exact zAA
 refine zAn (g:=gS) (T:=9) zAh 1 h0p (zAm _ _ _) ?_ fun b3 c3 A3 o3=>?_
 ·simp;omega
 refine VC.intro ?_ ?_
 ·exact zAl sI sI
 refine zCW (zJs _ (t.bag) ?_) (Rp.mono _ (zAa 2 rfl) h1p) ?_
 ·exact zYz hbM
 rintro v4 A4 o4
 obtain⟨l4,rfl,o4⟩:=o4
 obtain⟨bs,cs,As,rfl,hpm,os⟩:=zF5.1 o4
 refine⟨[As],by simpa using hpm,?_⟩
 refine VC.intro ?_ ?_
 ·exact zAl sI sI
 exact⟨A3++As,⟨_,_,_,_,rfl,A3,As,.refl _,o3,os⟩,rlB⟩
theorem zDZ {w:Nat} {ys:List Item} (h:BW w ys) (p:Item→Bool) {i:Nat} (hi:i < ys.length):zQu (zBh [] ((ys.take i).filter p))∧(zBh [] ((ys.take i).filter p)).length≤i:=by
 have h1:∀ q∈(ys.take i).filter p,tOk q:=fun q hq=>(zCQ h q (List.mem_of_mem_take (List.mem_filter.1 hq).1)).1
 have h2:=zEG (ys:=[]) zGR h1
 have h3:((ys.take i).filter p).length≤i:=Nat.le_trans (List.length_filter_le _ _) (List.length_take_le ..)
 have h4:([]:List Item).length=0:=rfl
 exact⟨h2.1,oO⟩
theorem zGt {ys:List Item} {p:Item→Bool} {i:Nat} (hi:i < ys.length) (h:p (ys[i]?.getD default)=true):zVC (zBh [] ((ys.take i).filter p)) (ys[i]?.getD default).row (ys[i]?.getD default).times (plR (zBh [] ((ys.take i).filter p)) (ys[i]?.getD default).row)=zBh [] ((ys.take (i+1)).filter p):=by
 rw[zGq default hi h,zEp];rfl
theorem zFL {ys:List Item} {p:Item→Bool} {i:Nat} (hi:i < ys.length) (h:p (ys[i]?.getD default)=false):zBh [] ((ys.take i).filter p)=zBh [] ((ys.take (i+1)).filter p):=by
 rw[zKm default hi h]
def zNz (t:Table) (f:Filter):Table:=⟨t.cols,⟨t.bag.items.filter fun p=>zHJ t.cols p.row f⟩⟩
theorem zQE (l l2:List Value) (t:Table) (f:Filter) (ht:zAv t=true) (hf:zYL t.cols f) :
  Ct prog 106 [.agg ⟨l⟩,.agg ⟨l2⟩] [] (fun H=>zBw.rd H l t∧zAE.rd H l2 f)
   (fun v D=>∃ (b0:Option Addr) (c0:Nat) (b1:Option Addr) (c1:Nat),v = .tuple #[.agg ⟨[.slice b0 (zNz t f).cols.length c0,.slice b1 (zNz t f).bag.items.length c1]⟩,.bool true]∧OwT b0 c0 b1 c1 (zNz t f) D):=by
 refine Ct.intro0 zAh func106 rfl rfl rfl fun E H hp=>?_
 obtain⟨hp,hq⟩:=hp
 obtain⟨b0p,c0p,l1p,rfl,h0p,h1p⟩:=zA6.1 hp
 obtain⟨b0_1p,c0_1p,rfl,h0_1p⟩:=zAD.1 h1p
 obtain⟨rfl,w0q,w1q,w2q,w3q⟩:=zBj.1 hq
 obtain⟨⟨ha1,ha2⟩,ha3⟩:=zBV ht
 have hW:=(zAJ.1 ht).2.2
 refine⟨fun x0=>?_⟩
 refine⟨fun x1=>?_⟩
 refine⟨fun x2=>?_⟩
 refine zAe (zCv _ (t)) (Rp.mono _ (zAa 0 rfl) hp) ?_
 rintro _ rfl
 constructor<;>intro q4
 ·simp at q4
  exact absurd (ht.symm.trans ‹zAv t=false›) (by decide)
 simp at q4
 refine zAe (zCP _ _ _ (t.cols) _) (Rp.mono _ (zAa 0 rfl) h0p) ?_
 rintro _ rfl
 constructor<;>intro q6
 ·simp at q6
  exact absurd (hf.1.symm.trans ‹zBI t.cols f.left=false›) (by decide)
 simp at q6
 constructor<;>intro q7
 ·simp at q7
  refine zAe (zCP _ _ _ (t.cols) _) (Rp.mono _ (zAa 0 rfl) h0p) ?_
  rintro _ rfl
  constructor<;>intro q9
  ·simp at q9
   exact absurd ((zFp hf aA).symm.trans ‹zBI t.cols f.right=false›) (by decide)
  simp at q9
  refine zAe (zA3 _ _ _) trivial ?_
  rintro _ rfl
  constructor<;>intro q11
  ·simp at q11
   exact absurd (hf.2.2.symm.trans ‹inR 1 2 f.op=false›) (by decide)
  simp at q11
  refine⟨fun x12=>?_⟩
  refine zAn (g:=gS) (T:=9) zAh 1 h0p (zAm _ _ _) ?_ fun b13 c13 A13 o13=>?_
  ·simp;omega
  refine⟨fun x14=>?_⟩
  apply zAg (α:=(Nat)×(List Item)×(Hp)×(Option Addr)×(Nat)) zAh [44,45,46,47,48,49,52,53,54,55,56,57,58,59,60,61,62,63,64,65,66,67,68,69,70,71,72,73,74,75,76,77,78,79,80,50,51,7] (fun z=>[(7,.v (.int .i64 z.1))]) (fun z=>[⟨x0,[Value.slice b0p t.cols.length c0p,Value.slice b0_1p t.bag.items.length c0_1p],(65:Nat)⟩,⟨x1,[Value.string f.left,Value.int IntKind.i64 f.op,Value.string f.right,Value.int IntKind.i64 f.num],(165:Nat)⟩,⟨x2,[Value.slice none (0:Nat) (0:Nat),Value.slice none (0:Nat) (0:Nat)],(65:Nat)⟩,⟨x14,[Value.slice b13 ([]++t.cols).length c13,.slice z.2.2.2.1 z.2.1.length z.2.2.2.2],(65:Nat)⟩]) (fun z=>[z.2.2.1,A13,[(x12,Obj.cells { toList:=zAX 0 [Value.string ByteArray.empty] } 9)],H]) (fun z=>t.bag.items.length-z.1) (fun z=>z.1≤t.bag.items.length∧z.2.1=zBh [] ((t.bag.items.take z.1).filter fun p=>zHJ t.cols p.row f)∧(gSl 100 zAo).ow [.slice z.2.2.2.1 z.2.1.length z.2.2.2.2] z.2.1 z.2.2.1) ((0,[],[],none,0))
  ·exact frI
  ·exact⟨rfl,rfl,rfl,rfl,trivial⟩
  ·try dsimp only
   exact⟨Nat.zero_le _,rfl,zAm _ _ _⟩
  ·exact .refl _
  rintro ⟨i,xs,B,ib,ic⟩ hI
  try dsimp only at hI
  obtain⟨hi,hxs,oB⟩:=hI
  try dsimp only
  constructor<;>intro q15
  ·simp at q15
   obtain⟨ta1,ta2,ta3⟩:=zCb ht (i:=i) oO
   obtain⟨hiv,hln⟩:=zDZ hW (fun p=>zHJ t.cols p.row f) (i:=i) oO
   rw[←hxs] at hiv hln
   refine zBr zAh zAK none (.q 0 (.q 1 (.q 2 (.q 3 (.q 4 (.q 5 (.q 6 (.q 7 (.q 8 (.q 9 (.f 10 (.nil)))))))))))) (by decide +kernel) ?_
   refine zAf h0_1p ?_ ?_ fun b16 o16 hb16=>?_
   ·omega
   ·omega
   refine zAw default (i) 0 rfl h0_1p ?_ ?_ hb16 rfl (by decide) (zAa 3 rfl) fun l17 hl17=>?_
   ·omega
   ·omega
   obtain⟨b0x17,c0x17,rfl,h0x17,w1x17⟩:=zAB.1 hl17
   refine zAe (zHK _ _ _ _ _ _ _ (f) (t.cols) ((t.bag.items[i]?.getD default).row) ?_ ?_) ⟨(Rp.mono _ (zAa 3 rfl) hq),(Rp.mono _ (zAa 3 rfl) h0p),(Rp.mono _ (zAa 3 rfl) h0x17)⟩ ?_
   ·trivial
   ·omega
   rintro _ rfl
   refine VC.intro ?_ ?_
   ·exact fun _ h=>h
   constructor<;>intro q19
   ·refine zBr zAh zAK (some 16) (.q 0 (.q 1 (.q 2 (.q 3 (.q 4 (.q 5 (.q 6 (.q 7 (.q 8 (.q 9 (.q 10 (.q 11 (.q 12 (.q 13 (.q 14 (.q 15 (.tl 16 (.f 17 (.f 18 (.nil)))))))))))))))))))) (by decide +kernel) ?_
    refine zAf h0_1p ?_ ?_ fun b20 o20 hb20=>?_
    ·omega
    ·omega
    refine zAw default (i) 0 rfl h0_1p ?_ ?_ hb20 rfl (by decide) (zAa 3 rfl) fun l21 hl21=>?_
    ·omega
    ·omega
    obtain⟨b0x21,c0x21,rfl,h0x21,w1x21⟩:=zAB.1 hl21
    refine zAf h0_1p ?_ ?_ fun b22 o22 hb22=>?_
    ·omega
    ·omega
    refine zAw default (i) 1 rfl h0_1p ?_ ?_ hb22 rfl (by decide) (zAa 3 rfl) fun l23 hl23=>?_
    ·omega
    ·omega
    obtain⟨b0x23,c0x23,rfl,h0x23,w1x23⟩:=zAB.1 hl23
    refine zA1 (B) [A13,[(x12,Obj.cells { toList:=zAX 0 [Value.string ByteArray.empty] } 9)],H] (zC0 _ _ _ _ _ _ xs _ ((t.bag.items[i]?.getD default).row) (t.bag.items[i]?.getD default).times (plR xs ((t.bag.items[i]?.getD default).row)) oB ?_ ?_ ?_ ?_ ?_) ?_ (Rp.mono _ (zAa 2 rfl) h0x21) ?_
    ·omega
    ·omega
    ·trivial
    ·exact hiv.2
    ·exact zEF hiv.1
    ·exact .refl _
    rintro _ A24 ⟨b24,c24,rfl,o24⟩
    refine⟨[A24],by simp,?_⟩
    apply zAb (i+1,_,_,_,_)
    ·exact .refl _
    ·exact frI
    ·exact⟨rfl,rfl,rfl,rfl,trivial⟩
    ·try dsimp only
     exact⟨oO,by rw[hxs];exact zGt oO aA,aA⟩
    try dsimp only
    omega
   apply zAb (i+1,xs,B,ib,ic)
   ·exact .refl _
   ·exact frI
   ·exact⟨rfl,rfl,rfl,rfl,trivial⟩
   ·try dsimp only
    exact⟨oO,by rw[←zFL oO aA];exact hxs,oB⟩
   try dsimp only
   omega
  simp at q15
  (have hie:i=t.bag.items.length:=oO;subst hie;rw[List.take_length,zDG hW] at hxs;subst hxs;first|exact⟨A13++B,⟨_,_,_,_,rfl,A13,B,.refl _,o13,oB⟩,rlB⟩|exact⟨A28++B,⟨_,_,_,_,rfl,A28,B,.refl _,o28,oB⟩,rlB⟩)
 simp at q7
 refine zAe (zA3 _ _ _) trivial ?_
 rintro _ rfl
 constructor<;>intro q26
 ·simp at q26
  exact absurd (hf.2.2.symm.trans ‹inR 1 2 f.op=false›) (by decide)
 simp at q26
 refine⟨fun x27=>?_⟩
 refine zAn (g:=gS) (T:=9) zAh 1 h0p (zAm _ _ _) ?_ fun b28 c28 A28 o28=>?_
 ·simp;omega
 refine⟨fun x29=>?_⟩
 apply zAg (α:=(Nat)×(List Item)×(Hp)×(Option Addr)×(Nat)) zAh [44,45,46,47,48,49,52,53,54,55,56,57,58,59,60,61,62,63,64,65,66,67,68,69,70,71,72,73,74,75,76,77,78,79,80,50,51,7] (fun z=>[(7,.v (.int .i64 z.1))]) (fun z=>[⟨x0,[Value.slice b0p t.cols.length c0p,Value.slice b0_1p t.bag.items.length c0_1p],(65:Nat)⟩,⟨x1,[Value.string f.left,Value.int IntKind.i64 f.op,Value.string f.right,Value.int IntKind.i64 f.num],(165:Nat)⟩,⟨x2,[Value.slice none (0:Nat) (0:Nat),Value.slice none (0:Nat) (0:Nat)],(65:Nat)⟩,⟨x29,[Value.slice b28 ([]++t.cols).length c28,.slice z.2.2.2.1 z.2.1.length z.2.2.2.2],(65:Nat)⟩]) (fun z=>[z.2.2.1,A28,[(x27,Obj.cells { toList:=zAX 0 [Value.string ByteArray.empty] } 9)],H]) (fun z=>t.bag.items.length-z.1) (fun z=>z.1≤t.bag.items.length∧z.2.1=zBh [] ((t.bag.items.take z.1).filter fun p=>zHJ t.cols p.row f)∧(gSl 100 zAo).ow [.slice z.2.2.2.1 z.2.1.length z.2.2.2.2] z.2.1 z.2.2.1) ((0,[],[],none,0))
 ·exact frI
 ·exact⟨rfl,rfl,rfl,rfl,trivial⟩
 ·try dsimp only
  exact⟨Nat.zero_le _,rfl,zAm _ _ _⟩
 ·exact .refl _
 rintro ⟨i,xs,B,ib,ic⟩ hI
 try dsimp only at hI
 obtain⟨hi,hxs,oB⟩:=hI
 try dsimp only
 constructor<;>intro q30
 ·simp at q30
  obtain⟨ta1,ta2,ta3⟩:=zCb ht (i:=i) oO
  obtain⟨hiv,hln⟩:=zDZ hW (fun p=>zHJ t.cols p.row f) (i:=i) oO
  rw[←hxs] at hiv hln
  refine zBr zAh zAK none (.q 0 (.q 1 (.q 2 (.q 3 (.q 4 (.q 5 (.q 6 (.q 7 (.q 8 (.q 9 (.f 10 (.nil)))))))))))) (by decide +kernel) ?_
  refine zAf h0_1p ?_ ?_ fun b31 o31 hb31=>?_
  ·omega
  ·omega
  refine zAw default (i) 0 rfl h0_1p ?_ ?_ hb31 rfl (by decide) (zAa 3 rfl) fun l32 hl32=>?_
  ·omega
  ·omega
  obtain⟨b0x32,c0x32,rfl,h0x32,w1x32⟩:=zAB.1 hl32
  refine zAe (zHK _ _ _ _ _ _ _ (f) (t.cols) ((t.bag.items[i]?.getD default).row) ?_ ?_) ⟨(Rp.mono _ (zAa 3 rfl) hq),(Rp.mono _ (zAa 3 rfl) h0p),(Rp.mono _ (zAa 3 rfl) h0x32)⟩ ?_
  ·trivial
  ·omega
  rintro _ rfl
  refine VC.intro ?_ ?_
  ·exact fun _ h=>h
  constructor<;>intro q34
  ·refine zBr zAh zAK (some 16) (.q 0 (.q 1 (.q 2 (.q 3 (.q 4 (.q 5 (.q 6 (.q 7 (.q 8 (.q 9 (.q 10 (.q 11 (.q 12 (.q 13 (.q 14 (.q 15 (.tl 16 (.f 17 (.f 18 (.nil)))))))))))))))))))) (by decide +kernel) ?_
   refine zAf h0_1p ?_ ?_ fun b35 o35 hb35=>?_
   ·omega
   ·omega
   refine zAw default (i) 0 rfl h0_1p ?_ ?_ hb35 rfl (by decide) (zAa 3 rfl) fun l36 hl36=>?_
   ·omega
   ·omega
   obtain⟨b0x36,c0x36,rfl,h0x36,w1x36⟩:=zAB.1 hl36
   refine zAf h0_1p ?_ ?_ fun b37 o37 hb37=>?_
   ·omega
   ·omega
   refine zAw default (i) 1 rfl h0_1p ?_ ?_ hb37 rfl (by decide) (zAa 3 rfl) fun l38 hl38=>?_
   ·omega
   ·omega
   obtain⟨b0x38,c0x38,rfl,h0x38,w1x38⟩:=zAB.1 hl38
   refine zA1 (B) [A28,[(x27,Obj.cells { toList:=zAX 0 [Value.string ByteArray.empty] } 9)],H] (zC0 _ _ _ _ _ _ xs _ ((t.bag.items[i]?.getD default).row) (t.bag.items[i]?.getD default).times (plR xs ((t.bag.items[i]?.getD default).row)) oB ?_ ?_ ?_ ?_ ?_) ?_ (Rp.mono _ (zAa 2 rfl) h0x36) ?_
   ·omega
   ·omega
   ·trivial
   ·exact hiv.2
   ·exact zEF hiv.1
   ·exact .refl _
   rintro _ A39 ⟨b39,c39,rfl,o39⟩
   refine⟨[A39],by simp,?_⟩
   apply zAb (i+1,_,_,_,_)
   ·exact .refl _
   ·exact frI
   ·exact⟨rfl,rfl,rfl,rfl,trivial⟩
   ·try dsimp only
    exact⟨oO,by rw[hxs];exact zGt oO aA,aA⟩
   try dsimp only
   omega
  apply zAb (i+1,xs,B,ib,ic)
  ·exact .refl _
  ·exact frI
  ·exact⟨rfl,rfl,rfl,rfl,trivial⟩
  ·try dsimp only
   exact⟨oO,by rw[←zFL oO aA];exact hxs,oB⟩
  try dsimp only
  omega
 simp at q30
 (have hie:i=t.bag.items.length:=oO;subst hie;rw[List.take_length,zDG hW] at hxs;subst hxs;first|exact⟨A13++B,⟨_,_,_,_,rfl,A13,B,.refl _,o13,oB⟩,rlB⟩|exact⟨A28++B,⟨_,_,_,_,rfl,A28,B,.refl _,o28,oB⟩,rlB⟩)
end
section
attribute [local irreducible] IntKind.wrap zA0
def zEI (cs out:List ByteArray):Prop:=(1≤out.length∧out.length≤4)∧zVu cs out=true∧zD7 out=true
noncomputable def zEL (t:Table) (out:List ByteArray) (k:Nat):List Item:=zBh [] ((t.bag.items.take k).map (zJa t.cols out))
theorem zGX {cs out:List ByteArray} (h:zEI cs out) {i:Nat} (hi:i < out.length):zBI cs (out[i]?.getD ByteArray.empty)=true:=zBe h.2.1 i hi
theorem zVN {cs out:List ByteArray} (h:zEI cs out) {i:Nat} (hi:i < out.length):zBI (out.take i) (out[i]?.getD ByteArray.empty)=false:=by
 have:=zBe h.2.2 i hi
 simpa using this
theorem zQF {t:Table} {out:List ByteArray} (h:zAv t=true) (ho:zEI t.cols out) (k:Nat):∀ p∈(t.bag.items.take k).map (zJa t.cols out),pOk out.length p:=fun p hp=>by
 obtain⟨x,hx,rfl⟩:=List.mem_map.1 hp
 exact zYw h ho.1.2 _ (List.mem_map.2 ⟨x,List.mem_of_mem_take hx,rfl⟩)
theorem zKq {t:Table} {out:List ByteArray} (h:zAv t=true) (ho:zEI t.cols out) (k:Nat):BW out.length (zEL t out k)∧(zEL t out k).length≤300:=by
 have h1:=zEG (ps:=(t.bag.items.take k).map (zJa t.cols out)) zGR fun p hp=>(zQF h ho k p hp).1
 have h2:=(zBV h).2
 have h3:([]:List Item).length=0:=rfl
 have h4:((t.bag.items.take k).map (zJa t.cols out)).length≤t.bag.items.length:=by rw[List.length_map];exact List.length_take_le' ..
 refine⟨zGU (zNp _) (zQF h ho k),?_⟩
 unfold zEL;omega
theorem zQG {t:Table} {out:List ByteArray} {k:Nat} (hk:k < t.bag.items.length):zEL t out (k+1)=zNo (zEL t out k) (zJa t.cols out (t.bag.items[k]?.getD default)):=by
 unfold zEL
 rw[←List.take_append_getElem hk,List.map_append,List.map_singleton,zEp,List.getElem?_eq_getElem hk];rfl
theorem zVO {t:Table} {out:List ByteArray} {k:Nat} (hk:k < t.bag.items.length) {r:List Int} (er:r=out.map (tv t.cols (t.bag.items[k]?.getD default).row)):zVC (zEL t out k) r (t.bag.items[k]?.getD default).times (plR (zEL t out k) r)=zEL t out (k+1):=by
 rw[zQG hk,er];rfl
theorem zVP {t:Table} {out:List ByteArray} (h:zAv t=true) (ho:zEI t.cols out) {k kp:Nat} (hk:k < t.bag.items.length) {r:List Int} (er:r=out.map (tv t.cols (t.bag.items[k]?.getD default).row))
  (hat:zDo r=true∧(0 < (zEL t out k).length→(zBE (zEL t out k) 0).length=r.length)→atR (zEL t out k) r kp):zEE (zEL t out k) r (t.bag.items[k]?.getD default).times kp=(zEL t out (k+1),true):=by
 have hbw:=zKq h ho k
 have hb2:=zKq h ho (k+1)
 have hp:pOk out.length (zJa t.cols out (t.bag.items[k]?.getD default)):=zYw h ho.1.2 _ (List.mem_map.2 ⟨t.bag.items[k]?.getD default,by rw[List.getElem?_eq_getElem hk];exact List.getElem_mem hk,rfl⟩)
 have hw:zDo r=true∧(0 < (zEL t out k).length→(zBE (zEL t out k) 0).length=r.length):=by
  subst er
  exact⟨hp.2.1,fun h0=>by
   have h1:=hp.2.2
   rw[(hbw.1.rows _ (zBU.2 ⟨0,h0,rfl⟩)).2]
   exact h1.symm⟩
 subst er
 have h2:=zIu hbw.1 hbw.2 hp (k:=kp) (hat hw)
 rw[zQG hk] at hb2 ⊢
 rw[if_pos hb2.2] at h2
 exact h2
theorem zQH (t:Table) (out:List ByteArray):zG7 t out=⟨out,⟨zEL t out t.bag.items.length⟩⟩:=by
 unfold zG7 zEL;rw[List.take_length]
theorem zYM {α:Type} (f:ByteArray→α) {out:List ByteArray} {k:Nat} (hk:k < out.length):(out.take (k+1)).map f=(out.take k).map f++[f (out[k]?.getD ByteArray.empty)]:=by
 rw[←List.take_append_getElem hk,List.map_append,List.map_singleton,List.getElem?_eq_getElem hk];rfl
theorem zLJ {b0:Option Addr} {c0:Nat} {b1:Option Addr} {c1:Nat} {t:Table} {D H:Hp} (h:OwT b0 c0 b1 c1 t D) (hD:∀ p∈D,p∈H):zBw.rd H [.slice b0 t.cols.length c0,.slice b1 t.bag.items.length c1] t:=by
 obtain⟨Ac,Ab,hP,oc,ob⟩:=h
 exact zKo oc ob (fun p hp=>hD p (hP.mem_iff.2 (List.mem_append_left _ hp))) (fun p hp=>hD p (hP.mem_iff.2 (List.mem_append_right _ hp)))
theorem z3A {cs out:List ByteArray} (h:zB9 cs=true) (ho:zEI cs out):szL gS out≤1048576:=by
 have h1:=(zCa h).2.2
 have:=z8n out fun s hs=>zNx (h1 s (by
  obtain⟨i,hi,rfl⟩:=List.mem_iff_getElem.1 hs
  have:=zC8.1 (zGX ho hi)
  rwa [List.getElem?_eq_getElem hi] at this))
 have:=ho.1.2
 omega
theorem zHr (l:List Value) (b:Option Addr) (m c:Nat) (t:Table) (out:List ByteArray) (ht:zAv t=true) (ho:zEI t.cols out) :
  Ct prog 53 [.agg ⟨l⟩,.slice b m c] [] (fun H=>zBw.rd H l t∧(gSl 9 gS).rd H [.slice b m c] out)
   (fun v D=>∃ (b0:Option Addr) (c0:Nat) (b1:Option Addr) (c1:Nat),v = .tuple #[.agg ⟨[.slice b0 (zG7 t out).cols.length c0,.slice b1 (zG7 t out).bag.items.length c1]⟩,.bool true]∧OwT b0 c0 b1 c1 (zG7 t out) D):=by
 refine Ct.intro0 zAh func53 rfl rfl rfl fun E H hp=>?_
 obtain⟨hp,hq⟩:=hp
 obtain⟨rfl,hcq,hlq⟩:=zAp hq
 obtain⟨b0p,c0p,l1p,rfl,h0p,h1p⟩:=zA6.1 hp
 obtain⟨b0_1p,c0_1p,rfl,h0_1p⟩:=zAD.1 h1p
 obtain⟨⟨ha1,ha2⟩,ha3⟩:=zBV ht
 have hon:=ho.1
 have hoz:=z3A (zAJ.1 ht).1 ho
 refine⟨fun x0=>?_⟩
 refine⟨fun x1=>?_⟩
 refine zAe (zCv _ (t)) (Rp.mono _ (zAa 0 rfl) hp) ?_
 rintro _ rfl
 constructor<;>intro q3
 ·simp at q3
  exact absurd (ht.symm.trans ‹zAv t=false›) (by decide)
 simp at q3
 constructor<;>intro q4
 ·simp at q4
  (have h9:=congrArg List.length ‹out=([]:List ByteArray)›;rw[List.length_nil] at h9;omega)
 simp at q4
 apply zAg (α:=(Nat)) zAh [20,21,22,23,26,27,28,29,30,31,32,33,34,35,36,37,38,39,40,41,42,43,44,5,24,25,6] (fun z=>[(6,.v (.int .i64 z))]) (fun z=>[{ id:=x0,cs:=[Value.slice b0p t.cols.length c0p,Value.slice b0_1p t.bag.items.length c0_1p]++[],ty:=(65:Nat) },{ id:=x1,cs:=[Value.slice none (0:Nat) (0:Nat),Value.slice none (0:Nat) (0:Nat)],ty:=(65:Nat) }]) (fun z=>[H]) (fun z=>out.length-z) (fun z=>z≤out.length) ((0))
 ·exact frI
 ·exact⟨rfl,rfl,trivial⟩
 ·exact Nat.zero_le _
 ·exact .refl _
 rintro i hI
 obtain hi:i≤out.length:=hI
 try dsimp only
 constructor<;>intro q5
 ·simp at q5
  refine zBr zAh zAK none (.q 0 (.q 1 (.q 2 (.q 3 (.q 4 (.q 5 (.f 6 (.q 7 (.q 8 (.q 9 (.q 10 (.q 11 (.q 12 (.q 13 (.q 14 (.q 15 (.f 16 (.q 17 (.nil))))))))))))))))))) (by decide +kernel) ?_
  refine zAf hq ?_ ?_ fun b6 o6 hb6=>?_
  ·omega
  ·omega
  refine zAd ByteArray.empty (i) rfl hq ?_ ?_ hb6 rfl (zAa 0 rfl) fun l7 hl7=>?_
  ·omega
  ·omega
  obtain⟨rfl,hw7⟩:=hl7;simp only[zAx,zAs,okI] at hw7
  refine zAe (zCP _ _ _ (t.cols) _) (Rp.mono _ (zAa 0 rfl) h0p) ?_
  rintro _ rfl
  refine VC.intro ?_ ?_
  ·exact fun _ h=>h
  constructor<;>intro q9
  ·simp at q9
   exact absurd ((zGX ho aA).symm.trans ‹zBI t.cols _=false›) (by decide)
  simp at q9
  have hsub:(gSl 9 gS).rd H [.slice (zCB c 0 b ty9.size) (((i:Nat):Int).toNat-0) (c-0)] ((out.take ((i:Nat):Int).toNat).drop 0):=zJo (r:=gS.toRp) (l:=0) (h:=((i:Nat):Int).toNat) hq oO oO
  refine VC.intro ?_ ?_
  ·omega
  refine zAf hq ?_ ?_ fun b10 o10 hb10=>?_
  ·omega
  ·omega
  refine zAd ByteArray.empty (i) rfl hq ?_ ?_ hb10 rfl (zAa 0 rfl) fun l11 hl11=>?_
  ·omega
  ·omega
  obtain⟨rfl,hw11⟩:=hl11;simp only[zAx,zAs,okI] at hw11
  refine zAe (zCP _ _ _ (List.drop (0:Nat) (List.take (↑i:Int).toNat out)) _) (Rp.mono _ (zAa 0 rfl) hsub) ?_
  rintro _ rfl
  refine VC.intro ?_ ?_
  ·exact fun _ h=>h
  constructor<;>intro q13
  ·simp at q13
   exact absurd ((zVN ho aA).symm.trans ‹zBI (out.take _) _=true›) (by decide)
  simp at q13
  apply zAb (i+1)
  ·exact .refl _
  ·exact frI
  ·exact⟨rfl,rfl,trivial⟩
  ·omega
  omega
 simp at q5
 refine⟨fun x14=>?_⟩
 refine zAn (g:=gS) (T:=9) zAh 1 hq (zAm _ _ _) ?_ fun b15 c15 A15 o15=>?_
 ·simp;omega
 refine⟨fun x16=>?_⟩
 apply zAg (α:=(Nat)×(List Item)×(Hp)×(Option Addr)×(Nat)) zAh [49,50,51,52,53,54,57,9,10,58,59,60,61,64,65,66,67,68,69,70,71,72,73,74,75,76,77,78,79,80,81,82,62,63,83,84,85,86,87,88,89,90,91,92,93,94,55,56,8] (fun z=>[(8,.v (.int .i64 z.1))]) (fun z=>[⟨x0,[Value.slice b0p t.cols.length c0p,Value.slice b0_1p t.bag.items.length c0_1p],(65:Nat)⟩,⟨x1,[Value.slice none (0:Nat) (0:Nat),Value.slice none (0:Nat) (0:Nat)],(65:Nat)⟩,⟨x16,[Value.slice b15 ([]++out).length c15,.slice z.2.2.2.1 z.2.1.length z.2.2.2.2],(65:Nat)⟩]) (fun z=>[z.2.2.1,A15,[(x14,Obj.cells { toList:=zAX 0 [Value.string ByteArray.empty] } 9)],H]) (fun z=>t.bag.items.length-z.1) (fun z=>z.1≤t.bag.items.length∧z.2.1=zEL t out z.1∧(gSl 100 zAo).ow [.slice z.2.2.2.1 z.2.1.length z.2.2.2.2] z.2.1 z.2.2.1) ((0,[],[],none,0))
 ·exact frI
 ·exact⟨rfl,rfl,rfl,trivial⟩
 ·try dsimp only
  exact⟨Nat.zero_le _,rfl,zAm _ _ _⟩
 ·exact .refl _
 rintro ⟨k,xs,B,ib,ic⟩ hI
 try dsimp only at hI
 obtain⟨hk,hxs,oB⟩:=hI
 try dsimp only
 constructor<;>intro q17
 ·simp at q17
  obtain⟨ta1,ta2,ta3⟩:=zCb ht (i:=k) oO
  obtain⟨hbw,hln⟩:=zKq ht ho k
  rw[←hxs] at hbw hln
  refine⟨fun x18=>?_⟩
  apply zAg (α:=(Nat)×(List Int)×(Hp)×(Option Addr)×(Nat)) zAh [58,59,60,61,64,65,66,67,68,69,70,71,72,73,74,75,76,77,78,79,80,81,82,9,62,63,10] (fun z=>[(10,.v (.int .i64 z.1)),(9,.v (.slice z.2.2.2.1 z.2.1.length z.2.2.2.2))]) (fun z=>[{ id:=x0,cs:=[Value.slice b0p t.cols.length c0p,Value.slice b0_1p t.bag.items.length c0_1p],ty:=(65:Nat) },{ id:=x1,cs:=[Value.slice none (0:Nat) (0:Nat),Value.slice none (0:Nat) (0:Nat)],ty:=(65:Nat) },{ id:=x16,cs:=[Value.slice b15 ([]++out).length c15,Value.slice ib xs.length ic],ty:=(65:Nat) }]) (fun z=>[z.2.2.1,[(x18,Obj.cells { toList:=zAX 0 [Value.int IntKind.i64 (0:Int)] } 3)],B,A15,[(x14,Obj.cells { toList:=zAX 0 [Value.string ByteArray.empty] } 9)],H]) (fun z=>out.length-z.1) (fun z=>z.1≤out.length∧z.2.1=(out.take z.1).map (tv t.cols (t.bag.items[k]?.getD default).row)∧z.2.1.length=z.1∧(gSl 3 gI).ow [.slice z.2.2.2.1 z.2.1.length z.2.2.2.2] z.2.1 z.2.2.1) ((0,[],[],_,0))
  ·exact frI
  ·exact⟨rfl,rfl,rfl,trivial⟩
  ·try dsimp only
   exact⟨Nat.zero_le _,rfl,rfl,zAm _ _ _⟩
  ·exact .refl _
  rintro ⟨j,r,A,rb,rc⟩ hI
  try dsimp only at hI
  obtain⟨hj,hr,hrl,oA⟩:=hI
  try dsimp only
  constructor<;>intro q19
  ·simp at q19
   have hix:=zDE (zGX ho (i:=j) oO)
   refine zBr zAh zAK (some 18) (.q 0 (.q 1 (.q 2 (.q 3 (.q 4 (.q 5 (.q 6 (.q 7 (.q 8 (.q 9 (.q 10 (.q 11 (.q 12 (.q 13 (.f 14 (.q 15 (.q 16 (.f 17 (.tl 18 (.f 19 (.nil))))))))))))))))))))) (by decide +kernel) ?_
   refine zAf h0_1p ?_ ?_ fun b20 o20 hb20=>?_
   ·omega
   ·omega
   refine zAw default (k) 0 rfl h0_1p ?_ ?_ hb20 rfl (by decide) (zAa 5 rfl) fun l21 hl21=>?_
   ·omega
   ·omega
   obtain⟨b0x21,c0x21,rfl,h0x21,w1x21⟩:=zAB.1 hl21
   refine zAf hq ?_ ?_ fun b22 o22 hb22=>?_
   ·omega
   ·omega
   refine zAd ByteArray.empty (j) rfl hq ?_ ?_ hb22 rfl (zAa 5 rfl) fun l23 hl23=>?_
   ·omega
   ·omega
   obtain⟨rfl,hw23⟩:=hl23;simp only[zAx,zAs,okI] at hw23
   refine zAe (zCn _ _ _ (t.cols) _) (Rp.mono _ (zAa 5 rfl) h0p) ?_
   rintro _ rfl
   refine VC.intro ?_ ?_
   ·exact fun _ h=>h
   refine zAf h0x21 ?_ ?_ fun b25 o25 hb25=>?_
   ·omega
   ·omega
   refine zAF 0 h0x21 ?_ ?_ hb25 rfl (zAa 5 rfl) fun l26 hl26=>?_
   ·omega
   ·omega
   obtain⟨rfl,hw26⟩:=hl26;simp only[zAx,zAs,okI] at hw26
   refine⟨fun x27=>?_⟩
   refine VC.intro ?_ ?_
   ·exact zAA
   refine zAC (g:=gI) (T:=3) zAh A [] [[(x18,Obj.cells { toList:=zAX 0 [Value.int IntKind.i64 (0:Int)] } 3)],B,A15,[(x14,Obj.cells { toList:=zAX 0 [Value.string ByteArray.empty] } 9)],H] ?_ oA (zCN ?_) (List.mem_of_getElem? (i:=0) rfl) rfl rfl rfl rfl rfl rfl rfl rfl ?_ fun b28 c28 A28 o28=>?_
   ·exact .tl
   ·trivial
   ·omega
   apply zAb (j+1,_,_,_,_)
   ·exact .refl _
   ·exact frI
   ·exact⟨rfl,rfl,rfl,trivial⟩
   ·try dsimp only
    exact⟨oO,by rw[zYM _ oO,←hr];rfl,by rw[List.length_append,List.length_singleton];omega,aA⟩
   try dsimp only
   omega
  simp at q19
  have hje:j=out.length:=oO
  subst hje
  rw[List.take_length] at hr
  refine zBr zAh zAK (some 10) (.q 0 (.q 1 (.q 2 (.q 3 (.q 4 (.q 5 (.q 6 (.q 7 (.q 8 (.q 9 (.tl 10 (.f 11 (.f 12 (.nil)))))))))))))) (by decide +kernel) ?_
  refine zAf h0_1p ?_ ?_ fun b29 o29 hb29=>?_
  ·omega
  ·omega
  refine zAw default (k) 1 rfl h0_1p ?_ ?_ hb29 rfl (by decide) (zAa 5 rfl) fun l30 hl30=>?_
  ·omega
  ·omega
  obtain⟨b0x30,c0x30,rfl,h0x30,w1x30⟩:=zAB.1 hl30
  refine zA1 (B) [A,[(x18,Obj.cells { toList:=zAX 0 [Value.int IntKind.i64 (0:Int)] } 3)],A15,[(x14,Obj.cells { toList:=zAX 0 [Value.string ByteArray.empty] } 9)],H] (zC0 _ _ _ _ _ _ xs _ (r) (t.bag.items[k]?.getD default).times (plR xs (r)) oB ?_ ?_ ?_ ?_ ?_) ?_ (Rp.mono _ (zAa 0 rfl) (Gt.owrd _ oA)) ?_
  ·omega
  ·omega
  ·trivial
  ·exact hbw.inv.2
  ·exact zEF hbw.inv.1
  ·exact rlA
  rintro _ A31 ⟨b31,c31,rfl,o31⟩
  refine⟨[A31],by simp,?_⟩
  apply zAb (k+1,_,_,_,_)
  ·exact .sub (by repeat (first|exact .slnil|apply List.Sublist.cons_cons|apply List.Sublist.cons))
  ·exact frI
  ·exact⟨rfl,rfl,rfl,trivial⟩
  ·try dsimp only
   exact⟨oO,by rw[hxs];exact zVO oO hr,aA⟩
  try dsimp only
  omega
 simp at q17
 (have hke:k=t.bag.items.length:=oO;subst hke;rw[zQH];subst hxs;exact⟨A15++B,⟨_,_,_,_,rfl,A15,B,.refl _,o15,oB⟩,rlB⟩)
end
section
attribute [local irreducible] IntKind.wrap zA0
theorem zVQ {t:Table} {out:List ByteArray} (h:zAv t=true) (ho:zEI t.cols out) {k kp:Nat} (hk:k < t.bag.items.length) {xs:List Item} (hx:xs=zEL t out k)
  (hat:zDo (out.map (tv t.cols (t.bag.items[k]?.getD default).row))=true∧(0 < xs.length→(zBE xs 0).length=(out.map (tv t.cols (t.bag.items[k]?.getD default).row)).length)→atR xs (out.map (tv t.cols (t.bag.items[k]?.getD default).row)) kp):(zEE xs (out.map (tv t.cols (t.bag.items[k]?.getD default).row)) (t.bag.items[k]?.getD default).times kp).1=zEL t out (k+1):=by
 subst hx
 rw[zVP h ho hk rfl hat]
theorem zJc {cs out:List ByteArray} (h:zEI cs out):∀ s∈out,zBI cs s=true:=fun s hs=>by
 obtain⟨i,hi,rfl⟩:=List.mem_iff_getElem.1 hs
 have:=zGX h hi
 rwa [List.getElem?_eq_getElem hi] at this
theorem zMy (l:List Value) (b:Option Addr) (m c:Nat) (t:Table) (out:List ByteArray) (ht:zAv t=true) (ho:zEI t.cols out) :
  Ct prog 126 [.agg ⟨l⟩,.slice b m c] [] (fun H=>zBw.rd H l t∧(gSl 9 gS).rd H [.slice b m c] out)
   (fun v D=>∃ (b0:Option Addr) (c0:Nat) (b1:Option Addr) (c1:Nat),v = .tuple #[.agg ⟨[.slice b0 (zG7 t out).cols.length c0,.slice b1 (zG7 t out).bag.items.length c1]⟩,.bool true]∧OwT b0 c0 b1 c1 (zG7 t out) D):=by
 refine Ct.intro0 zAh func126 rfl rfl rfl fun E H hp=>?_
 obtain⟨hp,hq⟩:=hp
 obtain⟨rfl,hcq,hlq⟩:=zAp hq
 obtain⟨b0p,c0p,l1p,rfl,h0p,h1p⟩:=zA6.1 hp
 obtain⟨b0_1p,c0_1p,rfl,h0_1p⟩:=zAD.1 h1p
 obtain⟨⟨ha1,ha2⟩,ha3⟩:=zBV ht
 have hon:=ho.1
 have hoz:=z3A (zAJ.1 ht).1 ho
 refine⟨fun x0=>?_⟩
 refine⟨fun x1=>?_⟩
 refine zAe (zDN _ (t)) (Rp.mono _ (zAa 0 rfl) hp) ?_
 rintro _ rfl
 constructor<;>intro q3
 ·simp at q3
  exact absurd (ht.symm.trans ‹zAv t=false›) (by decide)
 simp at q3
 constructor<;>intro q4
 ·simp at q4
  (have h9:=congrArg List.length ‹out=([]:List ByteArray)›;rw[List.length_nil] at h9;omega)
 simp at q4
 refine zAe (zHm _ _ _ _ _ _ (t.cols) (out)) ⟨(Rp.mono _ (zAa 0 rfl) h0p),(Rp.mono _ (zAa 0 rfl) hq)⟩ ?_
 rintro _ rfl
 constructor<;>intro q6
 ·simp at q6
  exact absurd (ho.2.1.symm.trans ‹zVu t.cols out=false›) (by decide)
 simp at q6
 refine zAe (zE5 _ _ _ (out)) (Rp.mono _ (zAa 0 rfl) hq) ?_
 rintro _ rfl
 constructor<;>intro q8
 ·simp at q8
  exact absurd (ho.2.2.symm.trans ‹zD7 out=false›) (by decide)
 simp at q8
 refine zAi (zH7 _ _ _ (out) ?_) (Rp.mono _ (zAa 0 rfl) hq) ?_
 ·trivial
 rintro v9 A9 o9
 obtain⟨b9,c9,rfl,o9⟩:=o9
 refine⟨fun x10=>?_⟩
 apply zAg (α:=(Nat)×(List Item)×(Hp)×(Option Addr)×(Nat)) zAh [38,39,40,8,41,42,43,44,45,46,47,48,49,50,51,52,37] (fun z=>[(37,.v (.int .i64 z.1))]) (fun z=>[⟨x0,[Value.slice b0p t.cols.length c0p,Value.slice b0_1p t.bag.items.length c0_1p],(65:Nat)⟩,⟨x1,[Value.slice none (0:Nat) (0:Nat),Value.slice none (0:Nat) (0:Nat)],(65:Nat)⟩,⟨x10,[Value.slice b9 out.length c9,.slice z.2.2.2.1 z.2.1.length z.2.2.2.2],(65:Nat)⟩]) (fun z=>[z.2.2.1,A9,H]) (fun z=>t.bag.items.length-z.1) (fun z=>z.1≤t.bag.items.length∧z.2.1=zEL t out z.1∧(gSl 100 zAo).ow [.slice z.2.2.2.1 z.2.1.length z.2.2.2.2] z.2.1 z.2.2.1) ((0,[],[],none,0))
 ·exact frI
 ·exact⟨rfl,rfl,rfl,trivial⟩
 ·try dsimp only
  exact⟨Nat.zero_le _,rfl,zAm _ _ _⟩
 ·exact .refl _
 rintro ⟨k,xs,B,ib,ic⟩ hI
 try dsimp only at hI
 obtain⟨hk,hxs,oB⟩:=hI
 try dsimp only
 constructor<;>intro q11
 ·simp at q11
  obtain⟨ta1,ta2,ta3⟩:=zCb ht (i:=k) oO
  obtain⟨hbw,hln⟩:=zKq ht ho k
  rw[←hxs] at hbw hln
  have hokx:=zKp ta3
  refine zAf h0_1p ?_ ?_ fun b12 o12 hb12=>?_
  ·omega
  ·omega
  refine zAd default (k) rfl h0_1p ?_ ?_ hb12 rfl (zAa 2 rfl) fun l13 hl13=>?_
  ·omega
  ·omega
  obtain⟨b0x13,c0x13,rfl,h0x13,w1x13⟩:=zAB.1 hl13
  refine⟨fun x14=>?_⟩
  refine zBr zAh zAK (some 10) (.q 0 (.q 1 (.q 2 (.q 3 (.q 4 (.q 5 (.q 6 (.q 8 (.q 9 (.f 7 (.tl 10 (.nil)))))))))))) (by decide +kernel) ?_
  refine zAi (zDg _ _ _ _ _ _ _ _ _ _ _ (out) ?_ ?_ ?_ ?_) ⟨Rp.mono _ (zAk sI) h0p,Rp.mono _ (zAk sI) ‹(gSl 3 gI).rd H [Value.slice _ (t.bag.items[k]?.getD default).row.length _] _›,(Rp.mono _ (zAa 2 rfl) hq)⟩ ?_
  ·exact zJc ho
  ·omega
  ·omega
  ·trivial
  rintro v15 A15 o15
  obtain⟨b15,c15,rfl,o15⟩:=o15
  refine VC.intro ?_ ?_
  ·exact zAA
  refine zAr 2 (B) [A15,A9,H] rfl ?_ (zGW _ _ _ _ _ _ xs _ _ _ _ (out.map (tv t.cols (t.bag.items[k]?.getD default).row)) (t.bag.items[k]?.getD default).times _ rfl oB ?_ ?_ ?_ ?_) (Rp.mono _ (zAa 0 rfl) (Gt.owrd _ o15)) ?_
  ·exact rlA
  ·exact hbw.inv.1
  ·trivial
  ·trivial
  ·exact hbw.inv.2
  rintro _ A16 ⟨kp,bP,cP,AP,hat,rfl,rfl,oP⟩
  refine⟨_,_,[AP],rfl,zBO,?_⟩
  apply zAb (k+1,_,_,_,_)
  ·exact .sub (by repeat (first|exact .slnil|apply List.Sublist.cons_cons|apply List.Sublist.cons))
  ·exact frI
  ·exact⟨rfl,rfl,rfl,trivial⟩
  ·try dsimp only
   exact⟨oO,zVQ ht ho oO hxs hat,aA⟩
  try dsimp only
  omega
 simp at q11
 (have hke:k=t.bag.items.length:=oO;subst hke;rw[zQH];subst hxs;exact⟨A9++B,⟨_,_,_,_,rfl,A9,B,.refl _,o9,oB⟩,rlB⟩)
end
section
attribute [local irreducible] IntKind.wrap zA0
noncomputable def zHL (t:Table) (fs:List Filter):Nat→Table
 | 0=>t
 | k+1=>zNz (zHL t fs k) (fs[k]?.getD default)
theorem zHM (t:Table) (fs:List Filter):∀ k,(zHL t fs k).cols=t.cols
 | 0=>rfl
 | k+1=>zHM t fs k
theorem zLK {t:Table} (h:zAv t=true) (fs:List Filter):∀ k,zAv (zHL t fs k)=true
 | 0=>h
 | k+1=>zLH (zLK h fs k) _
noncomputable def zYN (x:Query) (t:Table) (ok:Bool):List Item:=if ok=true then (zG7 (zHL t x.filters x.filters.length) x.out).bag.items else []
theorem zKr {A B X:Hp} (h1:∀ p∈A,p∈X) (h2:∀ p∈B,p∈X):∀ p∈A++B,p∈X:=fun p hp=>(List.mem_append.1 hp).elim (h1 p) (h2 p)
theorem zGu (l l2:List Value) (ok:Bool) (x:Query) (t:Table) (he:x.each=false) (hok:ok=true→zAv t=true∧(∀ i,i < x.filters.length→zYL t.cols (x.filters[i]?.getD default))∧zEI t.cols x.out) :
  Ct prog 56 [.agg ⟨l⟩,.agg ⟨l2⟩,.bool ok] [] (fun H=>zAL.rd H l x∧zBw.rd H l2 t)
   (fun v D=>∃ (b1:Option Addr) (c1:Nat),v = .tuple #[.agg ⟨[.slice b1 (zYN x t ok).length c1]⟩,.bool ok]∧(gSl 100 zAo).ow [.slice b1 (zYN x t ok).length c1] (zYN x t ok) D):=by
 refine Ct.intro0 zAh func56 rfl rfl rfl fun E H hp=>?_
 obtain⟨hp,hq⟩:=hp
 obtain⟨b1p,c1p,b2p,c2p,b3p,c3p,rfl,h1p,h2p,h3p⟩:=zAy.1 hp
 obtain⟨b0q,c0q,l1q,rfl,h0q,h1q⟩:=zA6.1 hq
 obtain⟨b0_1q,c0_1q,rfl,h0_1q⟩:=zAD.1 h1q
 have hfl:=(zAp h3p).2.2
 cases ok
 ·skip
  refine⟨fun x0=>?_⟩
  refine⟨fun x1=>?_⟩
  refine⟨fun x2=>?_⟩
  apply zAg (α:=(Nat)) zAh [9,10,11,12,13,14,15,16,20,21,22,23,24,25,26,19,27,28,2,17,18,8] (fun z=>[(8,.v (.int .i64 z)),(2,.v (.bool false))]) (fun z=>[{ id:=x0,cs:=[Value.bool x.each,Value.slice b1p x.out.length c1p,Value.slice b2p x.atoms.length c2p,Value.slice b3p x.filters.length c3p],ty:=(43:Nat) },{ id:=x1,cs:=[Value.slice b0q t.cols.length c0q,Value.slice b0_1q t.bag.items.length c0_1q]++[],ty:=(65:Nat) },{ id:=x2,cs:=[Value.slice none (0:Nat) (0:Nat)],ty:=(47:Nat) }]) (fun z=>[H]) (fun z=>0) (fun z=>z=0) ((0))
  ·exact frI
  ·exact⟨rfl,rfl,rfl,trivial⟩
  ·dsimp only
  ·exact .refl _
  rintro k hI
  obtain hk:k=0:=hI
  try dsimp only
  constructor<;>intro q3
  ·simp at q3
   constructor<;>intro q4
   ·simp at q4
   simp at q4
   constructor<;>intro q5
   ·simp at q5
   simp at q5
   constructor<;>intro q6
   ·simp at q6
    exact⟨[],⟨_,_,rfl,zAm _ _ _⟩,.mem sI⟩
   simp at q6
  simp at q3
  constructor<;>intro q7
  ·simp at q7
  simp at q7
  constructor<;>intro q8
  ·simp at q8
   exact⟨[],⟨_,_,rfl,zAm _ _ _⟩,.mem sI⟩
  simp at q8
 obtain⟨ht,hf,ho⟩:=hok rfl
 refine⟨fun x0=>?_⟩
 refine⟨fun x1=>?_⟩
 refine⟨fun x2=>?_⟩
 apply zAg (α:=(Nat)×(Table)×(Hp)×(Option Addr)×(Nat)×(Option Addr)×(Nat)) zAh [9,10,11,12,13,14,15,16,20,21,22,23,24,25,26,19,27,28,2,17,18,8] (fun z=>[(8,.v (.int .i64 z.1)),(2,.v (.bool true))]) (fun z=>[⟨x0,[Value.bool x.each,Value.slice b1p x.out.length c1p,Value.slice b2p x.atoms.length c2p,Value.slice b3p x.filters.length c3p],(43:Nat)⟩,⟨x1,[.slice z.2.2.2.1 z.2.1.cols.length z.2.2.2.2.1,.slice z.2.2.2.2.2.1 z.2.1.bag.items.length z.2.2.2.2.2.2],(65:Nat)⟩,⟨x2,[Value.slice none (0:Nat) (0:Nat)],(47:Nat)⟩]) (fun z=>[z.2.2.1,H]) (fun z=>x.filters.length-z.1) (fun z=>z.1≤x.filters.length∧z.2.1=zHL t x.filters z.1∧zBw.rd (z.2.2.1++H) [.slice z.2.2.2.1 z.2.1.cols.length z.2.2.2.2.1,.slice z.2.2.2.2.2.1 z.2.1.bag.items.length z.2.2.2.2.2.2] z.2.1) ((0,t,[],_,_,_,_))
 ·exact frI
 ·exact⟨rfl,rfl,rfl,trivial⟩
 ·try dsimp only
  exact⟨Nat.zero_le _,rfl,by simpa using hq⟩
 ·exact .refl _
 rintro ⟨k,T,D,tb,tc,ib,ic⟩ hI
 try dsimp only at hI
 obtain⟨hk,hT,hr⟩:=hI
 try dsimp only
 constructor<;>intro q3
 ·simp at q3
  constructor<;>intro q4
  ·simp at q4
   refine zBr zAh zAK (some 10) (.q 0 (.q 1 (.q 2 (.q 3 (.q 4 (.q 5 (.f 6 (.q 7 (.q 8 (.q 9 (.tl 10 (.f 11 (.nil))))))))))))) (by decide +kernel) ?_
   refine zAf h3p ?_ ?_ fun b5 o5 hb5=>?_
   ·omega
   ·omega
   refine zAd default (k) rfl h3p ?_ ?_ hb5 rfl (zAa 1 rfl) fun l6 hl6=>?_
   ·omega
   ·omega
   obtain⟨rfl,w0x6,w1x6,w2x6,w3x6⟩:=zBj.1 hl6
   refine zAi (zQE _ _ T (x.filters[k]?.getD default) ?_ ?_) ⟨Rp.mono _ (zKr (zAa 0 rfl) (zAa 1 rfl)) hr,(Rp.mono _ (zAa 1 rfl) hl6)⟩ ?_
   ·(rw[hT];exact zLK ht _ _)
   ·(rw[hT,zHM];exact hf k oO)
   rintro v7 A7 o7
   obtain⟨b07,c07,b17,c17,rfl,o7⟩:=o7
   refine VC.intro ?_ ?_
   ·exact zAA
   apply zAb (k+1,zNz T (x.filters[k]?.getD default),_,_,_,_,_)
   ·exact .sub (by repeat (first|exact .slnil|apply List.Sublist.cons_cons|apply List.Sublist.cons))
   ·exact frI
   ·exact⟨rfl,rfl,rfl,trivial⟩
   ·try dsimp only
    exact⟨oO,by rw[hT];rfl,zLJ aA fun p hp=>List.mem_append_left _ hp⟩
   try dsimp only
   omega
  simp at q4
 simp at q3
 constructor<;>intro q8
 ·simp at q8
  refine zCW (zHr _ _ _ _ T x.out ?_ ?_) ⟨Rp.mono _ (zKr (zAa 0 rfl) (zAa 1 rfl)) hr,(Rp.mono _ (zAa 1 rfl) h1p)⟩ ?_
  ·(rw[hT];exact zLK ht _ _)
  ·(rw[hT,zHM];exact ho)
  rintro v9 A9 o9
  obtain⟨b09,c09,b19,c19,rfl,Ac9,Ab9,hP9,oc9,ob9⟩:=o9
  refine⟨[Ac9,Ab9],by simpa using hP9,?_⟩
  constructor<;>intro q10
  ·simp at q10
  simp at q10
  constructor<;>intro q11
  ·exact absurd (he.symm.trans q11) (by decide)
  (have hke:k=x.filters.length:=oO;subst hke;subst hT;exact⟨Ab9,⟨_,_,rfl,ob9⟩,rlB⟩)
 simp at q8
end
section
attribute [local irreducible] IntKind.wrap zA0 zAj zAS
theorem zBW {x:Query} (h:zAS x=true):(1≤x.atoms.length∧x.atoms.length≤4∧x.filters.length≤3)∧zEI (zAj x.atoms) x.out∧∀ k,k < x.filters.length→zYL (zAj x.atoms) (x.filters[k]?.getD default):=by
 have h1:zNh x:=by
  apply Classical.byContradiction
  intro e
  rw[zJQ e] at h;cases h
 refine⟨⟨h1.1.1,h1.1.2.1,h1.1.2.2.1⟩,⟨⟨h1.1.2.2.2.1,h1.1.2.2.2.2.1⟩,h1.2.2.2.1,h1.2.2.1⟩,fun k hk=>?_⟩
 have h2:=h1.2.2.2.2 k hk
 unfold zBC at h2
 rw[Bool.and_eq_true,Bool.and_eq_true] at h2
 obtain⟨a1,a2,a3⟩:=h2
 refine⟨a1,?_,a2⟩
 by_cases h0:(x.filters[k]?.getD default).right.size=0
 ·exact .inl h0
 rw[if_neg h0,Bool.and_eq_true] at a3
 exact .inr a3.2
theorem zCf {x:Query} {s:List Int} (h:zAU x s=true):zAS x=true∧s.length=(zAj x.atoms).length:=by
 unfold zAU at h
 rw[Bool.and_eq_true,Bool.and_eq_true,decide_eq_true_iff] at h
 exact⟨h.1,h.2.2⟩
theorem z5s {ts:List Table} {i:Nat} (h1:1≤i) (h:(jk ts (i-1)).2=true):jk ts i=zEH (jk ts (i-1)).1 (ts[i]?.getD default):=by
 obtain⟨j,rfl⟩:∃ j,i=j+1:=⟨i-1,oO⟩
 rw[Nat.add_sub_cancel] at h ⊢
 conv=>lhs;unfold jk
 rw[if_pos h]
theorem zYO {ts:List Table} {i:Nat} (h1:1≤i) (hi:i≤ts.length) (h:(jk ts (i-1)).2=false):(jk ts (ts.length-1)).2=false:=by
 by_cases h2:i=1
 ·subst h2
  have h3:(jk ts 0).2=true:=rfl
  rw[show (1:Nat)-1=0 from rfl,h3] at h;cases h
 rw[z3y h oO (by omega:i-1≤ts.length-1)]
theorem zLL (x:Query) (s:List Int) (c:Int) {t:Table} (hc:t.cols=zAj x.atoms):∀ k,zHL (zG8 x s c t 0) x.filters k=zG8 x s c t k
 | 0=>rfl
 | k+1=>by
  have e:(zG8 x s c t k).cols=zAj x.atoms:=hc
  rw[zVG,←e]
  show zNz (zHL (zG8 x s c t 0) x.filters k) _=_
  rw[zLL x s c hc k];rfl
theorem zIw {ts:List Table} {x:Query} {s:List Int} (hs:zAU x s=true) (hf:zMx x ts) (hj:(jk ts (ts.length-1)).2=true):zAv (jk ts (ts.length-1)).1=true∧(jk ts (ts.length-1)).1.cols=zAj x.atoms:=by
 have h1:=(zBW (zCf hs).1).1
 have h2:=hf.1
 have h3:=z7J hf (ts.length-1) oO hj
 rw[show ts.length-1+1=x.atoms.length from oO,List.take_length] at h3
 exact h3
theorem zYP {cs:List ByteArray} (h:zB9 cs=true):zEI cs cs:=by
 obtain⟨h1,h2,h3⟩:=zCa h
 refine⟨h1,?_,h2⟩
 have:∀ n,zCd (fun i=>zBI cs (cs[i]?.getD ByteArray.empty)) n=true∨cs.length < n:=by
  intro n
  induction n with
  | zero=>exact .inl rfl
  | succ n ih=>
   by_cases hn:n < cs.length
   ·rcases ih with ih|ih
    ·exact .inl (zAG ih (zC8.2 (by rw[List.getElem?_eq_getElem hn];exact List.getElem_mem hn)))
    omega
   exact .inr oO
 exact (this cs.length).resolve_right oO
theorem z7O {x:Query} {s:List Int} {c:Int} {ts:List Table} (h1:zAU x s=true) (h2:inR 0 (zA8 s-1) c=true) (h3:zMx x ts) (h4:(jk ts (ts.length-1)).2=true) {e:Bool} :
  (caM x s c ts).1.items=zYN ⟨e,x.out,x.atoms,x.filters⟩ (zG8 x s c (jk ts (ts.length-1)).1 0) true:=by
 rw[zYy h1 h2 h3 h4]
 show (z72 x s c _).items=_
 unfold z72 zYN
 rw[if_pos rfl]
 dsimp only
 rw[zLL x s c (zIw h1 h3 h4).2]
theorem zSo {x:Query} {ts:List Table} (h:¬ts.length=x.atoms.length):¬zMx x ts:=fun e=>h e.1
theorem zSp {x:Query} {ts:List Table} {i:Nat} (hi:i < ts.length) (h:zAv (ts[i]?.getD default)=false):¬zMx x ts:=fun e=>by rw[(e.2 i hi).1] at h;cases h
theorem zSq {x:Query} {ts:List Table} {i:Nat} (hi:i < ts.length) (h:¬(ts[i]?.getD default).cols=zBg (x.atoms[i]?.getD default)):¬zMx x ts:=fun e=>h (e.2 i hi).2
theorem zQI {x:Query} {s:List Int} {c:Int} {ts:List Table} (h:zAU x s=false):caM x s c ts=(⟨[]⟩,false):=z14 fun e=>by rw[h] at e;cases e.1
theorem zT6 {x:Query} {s:List Int} {c:Int} {ts:List Table} (h:inR 0 (zA8 s-1) c=false):caM x s c ts=(⟨[]⟩,false):=z14 fun e=>by rw[h] at e;cases e.2.1
theorem zJD {x:Query} {s:List Int} {c:Int} {ts:List Table} (h:¬zMx x ts):caM x s c ts=(⟨[]⟩,false):=z14 fun e=>h e.2.2.1
theorem zYQ {x:Query} {s:List Int} {c:Int} {ts:List Table} (h:(jk ts (ts.length-1)).2=false):caM x s c ts=(⟨[]⟩,false):=z14 fun e=>by rw[h] at e;cases e.2.2.2
theorem zFq {P:Nat→Prop} {i:Nat} (h:∀ j,j < i→P j) (h2:P i):∀ j,j < i+1→P j:=fun j hj=>by
 rcases Nat.lt_succ_iff_lt_or_eq.1 hj with h3|rfl
 ·exact h j h3
 exact h2
theorem zT7 {b0:Option Addr} {c0:Nat} {b1:Option Addr} {c1:Nat} {t:Table} {D:Hp} (h:OwT b0 c0 b1 c1 t D):(gSl 9 gS).rd D [.slice b0 t.cols.length c0] t.cols:=by
 obtain⟨Ac,Ab,hP,oc,ob⟩:=h
 exact Rp.mono _ (fun p hp=>hP.mem_iff.2 (List.mem_append_left _ hp)) (Gt.owrd _ oc)
theorem zGv {b0:Option Addr} {c0:Nat} {b1:Option Addr} {c1:Nat} {cs:List ByteArray} {ys:List Item} {H:Hp} (h1:(gSl 9 gS).rd H [.slice b0 cs.length c0] cs) (h2:(gSl 100 zAo).rd H [.slice b1 ys.length c1] ys):zBw.rd H [.slice b0 cs.length c0,.slice b1 ys.length c1] ⟨cs,⟨ys⟩⟩:=
 zA6.2 ⟨b0,c0,_,rfl,h1,zAD.2 ⟨b1,c1,rfl,h2⟩⟩
theorem zLM {x:Query} {s:List Int} {ce:Int} {ts:List Table} {q:Query} {T:Table} {ok:Bool} {b1:Option Addr} {c1:Nat} {D:Hp} (h1:zYN q T ok=(caM x s ce ts).1.items) (h2:(caM x s ce ts).2=ok) (o:(gSl 100 zAo).ow [.slice b1 (zYN q T ok).length c1] (zYN q T ok) D) :
  ∃ (b:Option Addr) (c:Nat),Value.tuple ⟨[.agg ⟨[.slice b1 (zYN q T ok).length c1]⟩,.bool ok]⟩ = .tuple #[.agg ⟨[.slice b (caM x s ce ts).1.items.length c]⟩,.bool (caM x s ce ts).2]∧(gSl 100 zAo).ow [.slice b (caM x s ce ts).1.items.length c] (caM x s ce ts).1.items D:=by
 rw[h1] at o
 exact⟨b1,c1,by rw[h1,h2],o⟩
theorem zJE {x:Query} {s:List Int} {ce:Int} {ts:List Table} {q:Query} {T:Table} {ok:Bool} (h:(jk ts (ts.length-1)).2=false) (hk:ok=false):zYN q T ok=(caM x s ce ts).1.items∧(caM x s ce ts).2=ok:=by
 rw[zYQ h,hk];exact⟨rfl,rfl⟩
theorem zJd (l:List Value) (b:Option Addr) (m c:Nat) (b2:Option Addr) (m2 c2:Nat) (x:Query) (s:List Int) (ce:Int) (ts:List Table) (hx:zAL.sz x≤1048576) :
  Ct prog 18 [.agg ⟨l⟩,.slice b m c,.int .i64 ce,.slice b2 m2 c2] [] (fun H=>zAL.rd H l x∧(gSl 3 gI).rd H [.slice b m c] s∧(gSl 65 zBw).rd H [.slice b2 m2 c2] ts)
   (fun v D=>∃ (b1:Option Addr) (c1:Nat),v = .tuple #[.agg ⟨[.slice b1 (caM x s ce ts).1.items.length c1]⟩,.bool (caM x s ce ts).2]∧(gSl 100 zAo).ow [.slice b1 (caM x s ce ts).1.items.length c1] (caM x s ce ts).1.items D):=by
 refine Ct.intro0 zAh func18 rfl rfl rfl fun E H hp=>?_
 obtain⟨hp,hs,ht⟩:=hp
 obtain⟨rfl,hcs,hls⟩:=zAp hs
 obtain⟨rfl,hct,hlt⟩:=zAp ht
 obtain⟨b1p,c1p,b2p,c2p,b3p,c3p,rfl,h1p,h2p,h3p⟩:=zAy.1 hp
 have hal:=zCI hx
 have hcr:=zIp s
 have hcw:IntKind.i64.wrap (zA8 s-1)=zA8 s-1:=zAc oO oO
 refine⟨fun x0=>?_⟩
 refine⟨fun x1=>?_⟩
 refine zAe (zGn _ _ _ _ (x) (s) ?_) ⟨(Rp.mono _ (zAa 0 rfl) hp),(Rp.mono _ (zAa 0 rfl) hs)⟩ ?_
 ·trivial
 rintro _ rfl
 constructor<;>intro q3
 ·simp at q3
  exact⟨[],⟨none,0,by rw[zQI aA];rfl,by rw[zQI aA];exact zAm _ _ _⟩,.mem sI⟩
 simp at q3
 refine zAe (zE6 _ _ _ (s)) (Rp.mono _ (zAa 0 rfl) hs) ?_
 rintro _ rfl
 refine zAe (zA3 _ _ _) trivial ?_
 rintro _ rfl
 constructor<;>intro q6
 ·simp at q6
  simp (disch:=omega) only[zAc] at q6
  exact⟨[],⟨none,0,by rw[zT6 (x:=x) (s:=s) (c:=ce) (ts:=ts) (by first|assumption|(rw[←hcw];assumption))];rfl,by rw[zT6 (x:=x) (s:=s) (c:=ce) (ts:=ts) (by first|assumption|(rw[←hcw];assumption))];exact zAm _ _ _⟩,.mem sI⟩
 simp at q6
 simp (disch:=omega) only[zAc] at q6
 constructor<;>intro q7
 ·simp at q7
  exact⟨[],⟨none,0,by rw[zJD (zSo oO)];rfl,by rw[zJD (zSo oO)];exact zAm _ _ _⟩,.mem sI⟩
 simp at q7
 obtain⟨⟨hq1,hq2,hq3⟩,hqo,hqf⟩:=zBW (zCf ‹zAU x s=true›).1
 have hQ:inR 0 (zA8 s-1) ce=true:=(by first|assumption|(rw[←hcw];assumption))
 apply zAg (α:=(Nat)) zAh [38,39,40,41,44,45,46,47,48,49,50,51,52,53,54,55,56,57,58,59,60,61,62,63,64,65,9,42,43,10] (fun z=>[(10,.v (.int .i64 z)),(9,.v (.bool false))]) (fun z=>[{ id:=x0,cs:=[Value.bool x.each,Value.slice b1p x.out.length c1p,Value.slice b2p x.atoms.length c2p,Value.slice b3p x.filters.length c3p],ty:=(43:Nat) },{ id:=x1,cs:=[Value.slice none (0:Nat) (0:Nat)],ty:=(47:Nat) }]) (fun z=>[H]) (fun z=>ts.length-z) (fun z=>z≤ts.length∧∀ j,j < z→zAv (ts[j]?.getD default)=true∧(ts[j]?.getD default).cols=zBg (x.atoms[j]?.getD default)) ((0))
 ·exact frI
 ·exact⟨rfl,rfl,trivial⟩
 ·exact⟨Nat.zero_le _,fun j hj=>absurd hj (Nat.not_lt_zero _)⟩
 ·exact .refl _
 rintro i hI
 try dsimp only at hI
 obtain⟨hi,hf⟩:=hI
 try dsimp only
 constructor<;>intro q8
 ·simp at q8
  refine zBr zAh zAK none (.q 0 (.q 1 (.q 2 (.q 3 (.f 4 (.q 5 (.q 6 (.q 7 (.q 8 (.q 9 (.q 10 (.q 11 (.q 12 (.q 13 (.q 14 (.q 15 (.q 16 (.f 17 (.f 18 (.q 19 (.q 20 (.nil)))))))))))))))))))))) (by decide +kernel) ?_
  refine zAf ht ?_ ?_ fun b9 o9 hb9=>?_
  ·omega
  ·omega
  refine zAd default (i) rfl ht ?_ ?_ hb9 rfl (zAa 0 rfl) fun l10 hl10=>?_
  ·omega
  ·omega
  obtain⟨b0x10,c0x10,l1x10,rfl,h0x10,h1x10⟩:=zA6.1 hl10 ;obtain⟨b0_1x10,c0_1x10,rfl,h0_1x10⟩:=zAD.1 h1x10
  refine zAe (zCv _ (ts[i]?.getD default)) (Rp.mono _ (zAa 0 rfl) hl10) ?_
  rintro _ rfl
  refine VC.intro ?_ ?_
  ·exact fun _ h=>h
  constructor<;>intro q12
  ·simp at q12
   exact⟨[],⟨none,0,by rw[zJD (zSp (i:=i) oO aA)];rfl,by rw[zJD (zSp (i:=i) oO aA)];exact zAm _ _ _⟩,.mem sI⟩
  simp at q12
  refine zAf ht ?_ ?_ fun b13 o13 hb13=>?_
  ·omega
  ·omega
  refine zAw default (i) 0 rfl ht ?_ ?_ hb13 rfl (by decide) (zAa 0 rfl) fun l14 hl14=>?_
  ·omega
  ·omega
  obtain⟨b0x14,c0x14,l1x14,rfl,h0x14,h1x14⟩:=zA6.1 hl14 ;obtain⟨b0_1x14,c0_1x14,rfl,h0_1x14⟩:=zAD.1 h1x14
  refine zAf h2p ?_ ?_ fun b15 o15 hb15=>?_
  ·omega
  ·omega
  refine zAd default (i) rfl h2p ?_ ?_ hb15 rfl (zAa 0 rfl) fun l16 hl16=>?_
  ·omega
  ·omega
  obtain⟨rfl,w0x16,w1x16,w2x16⟩:=zAT.1 hl16
  refine zAi (zFG _ (x.atoms[i]?.getD default)) (Rp.mono _ (zAa 0 rfl) hl16) ?_
  rintro v17 A17 o17
  obtain⟨b17,c17,rfl,o17⟩:=o17
  refine VC.intro ?_ ?_
  ·exact zAA
  refine zAe (zSn _ _ _ _ _ _ ((ts[i]?.getD default).cols) (zBg (x.atoms[i]?.getD default))) ⟨(Rp.mono _ (zAa 1 rfl) h0x14),(Rp.mono _ (zAa 0 rfl) (Gt.owrd _ o17))⟩ ?_
  rintro _ rfl
  refine VC.intro ?_ ?_
  ·exact zAA
  constructor<;>intro q19
  ·simp at q19
   exact⟨[],⟨none,0,by rw[zJD (zSq (i:=i) oO aA)];rfl,by rw[zJD (zSq (i:=i) oO aA)];exact zAm _ _ _⟩,.mem sI⟩
  simp at q19
  apply zAb (i+1)
  ·exact .sub (by repeat (first|exact .slnil|apply List.Sublist.cons_cons|apply List.Sublist.cons))
  ·exact frI
  ·exact⟨rfl,rfl,trivial⟩
  ·exact⟨oO,zFq hf ⟨aA,aA⟩⟩
  omega
 simp at q8
 have hie:i=ts.length:=oO
 subst hie
 have hF:zMx x ts:=⟨oO,hf⟩
 have h0t:0 < ts.length:=oO
 refine zAf ht ?_ ?_ fun b20 o20 hb20=>?_
 ·trivial
 ·omega
 refine zAd default (0) rfl ht ?_ ?_ hb20 rfl (zAa 0 rfl) fun l21 hl21=>?_
 ·trivial
 ·omega
 obtain⟨b0x21,c0x21,l1x21,rfl,h0x21,h1x21⟩:=zA6.1 hl21 ;obtain⟨b0_1x21,c0_1x21,rfl,h0_1x21⟩:=zAD.1 h1x21
 refine zAi (zVM _ (ts[0]?.getD default) ?_) (Rp.mono _ (zAa 0 rfl) hl21) ?_
 ·simp_all
 rintro v22 A22 o22
 obtain⟨b022,c022,b122,c122,rfl,o22⟩:=o22
 refine⟨fun x23=>?_⟩
 apply zAg (α:=(Nat)×(Table×Bool)×(Hp)×(Option Addr)×(Nat)×(Option Addr)×(Nat)) zAh [70,71,72,73,74,75,76,80,81,82,83,84,85,79,86,87,12,77,78,13] (fun z=>[(13,.v (.int .i64 z.1)),(12,.v (.bool z.2.1.2))]) (fun z=>[⟨x0,[Value.bool x.each,Value.slice b1p x.out.length c1p,Value.slice b2p x.atoms.length c2p,Value.slice b3p x.filters.length c3p],(43:Nat)⟩,⟨x1,[Value.slice none (0:Nat) (0:Nat)],(47:Nat)⟩,⟨x23,[.slice z.2.2.2.1 z.2.1.1.cols.length z.2.2.2.2.1,.slice z.2.2.2.2.2.1 z.2.1.1.bag.items.length z.2.2.2.2.2.2],(65:Nat)⟩]) (fun z=>[z.2.2.1,H]) (fun z=>ts.length-z.1) (fun z=>1≤z.1∧z.1≤ts.length∧z.2.1=jk ts (z.1-1)∧OwT z.2.2.2.1 z.2.2.2.2.1 z.2.2.2.2.2.1 z.2.2.2.2.2.2 z.2.1.1 z.2.2.1) ((1,(ts[0]?.getD default,true),_,_,_,_,_))
 ·exact frI
 ·exact⟨rfl,rfl,rfl,trivial⟩
 ·try dsimp only
  exact⟨Nat.le_refl _,oO,rfl,aA⟩
 ·exact .refl _
 rintro ⟨i2,J,D,tb,tc,ib,ic⟩ hI
 try dsimp only at hI
 obtain⟨h1,h2,hJ,oJ⟩:=hI
 try dsimp only
 constructor<;>intro q24
 ·simp at q24
  constructor<;>intro q25
  ·refine zBr zAh zAK (some 9) (.q 0 (.q 1 (.q 2 (.q 3 (.q 4 (.f 5 (.q 6 (.q 7 (.q 8 (.tl 9 (.f 10 (.nil)))))))))))) (by decide +kernel) ?_
   refine zAf ht ?_ ?_ fun b26 o26 hb26=>?_
   ·omega
   ·omega
   refine zAd default (i2) rfl ht ?_ ?_ hb26 rfl (zAa 1 rfl) fun l27 hl27=>?_
   ·omega
   ·omega
   obtain⟨b0x27,c0x27,l1x27,rfl,h0x27,h1x27⟩:=zA6.1 hl27 ;obtain⟨b0_1x27,c0_1x27,rfl,h0_1x27⟩:=zAD.1 h1x27
   refine zAi (zSk _ _ J.1 (ts[i2]?.getD default)) ⟨zLJ oJ (zAa 0 rfl),(Rp.mono _ (zAa 1 rfl) hl27)⟩ ?_
   rintro v28 A28 o28
   obtain⟨b028,c028,b128,c128,rfl,o28⟩:=o28
   refine VC.intro ?_ ?_
   ·exact zAA
   apply zAb (i2+1,zEH J.1 (ts[i2]?.getD default),_,_,_,_,_)
   ·exact .sub (by repeat (first|exact .slnil|apply List.Sublist.cons_cons|apply List.Sublist.cons))
   ·exact frI
   ·exact⟨rfl,rfl,rfl,trivial⟩
   ·try dsimp only
    exact⟨oO,oO,by rw[Nat.add_sub_cancel,z5s h1 (by rw[←hJ];assumption),←hJ],aA⟩
   try dsimp only
   omega
  constructor<;>intro q29
  ·exact absurd (‹J.2=true›.symm.trans ‹J.2=false›) (by decide)
  have hJ2:=‹J.2=false›
  have hst:=zYO h1 h2 (by rw[←hJ];exact hJ2)
  have rcJ:=zT7 oJ
  refine⟨fun x30=>?_⟩
  apply zAg (α:=(Nat)×(List Item)×(Hp)×(Option Addr)×(Nat)) zAh [99,100,101,102,103,104,105,106,107,110,111,112,113,114,115,116,117,118,119,120,121,122,123,124,125,126,127,128,129,130,131,132,133,134,135,136,137,138,108,109,15] (fun z=>[(15,.v (.int .i64 z.1))]) (fun z=>[⟨x0,[Value.bool x.each,Value.slice b1p x.out.length c1p,Value.slice b2p x.atoms.length c2p,Value.slice b3p x.filters.length c3p],(43:Nat)⟩,⟨x1,[Value.slice none (0:Nat) (0:Nat)],(47:Nat)⟩,⟨x23,[Value.slice tb J.fst.cols.length tc,Value.slice ib J.fst.bag.items.length ic],(65:Nat)⟩,⟨x30,[Value.slice tb J.fst.cols.length tc,.slice z.2.2.2.1 z.2.1.length z.2.2.2.2],(65:Nat)⟩]) (fun z=>[z.2.2.1,D,H]) (fun z=>0) (fun z=>z.1=0∧(gSl 100 zAo).ow [.slice z.2.2.2.1 z.2.1.length z.2.2.2.2] z.2.1 z.2.2.1) ((0,[],[],none,0))
  ·exact frI
  ·exact⟨rfl,rfl,rfl,rfl,trivial⟩
  ·try dsimp only
   exact⟨rfl,zAm _ _ _⟩
  ·exact .refl _
  rintro ⟨k,xs,B,ib2,ic2⟩ hI
  obtain⟨hk,oB⟩:k=0∧(gSl 100 zAo).ow [.slice ib2 xs.length ic2] xs B:=hI
  try dsimp only
  constructor<;>intro q31
  ·simp at q31
   constructor<;>intro q32
   ·exact absurd (‹J.2=true›.symm.trans ‹J.2=false›) (by decide)
   refine zAi (zDU _ x ?_) (Rp.mono _ (zAa 2 rfl) hp) ?_
   ·trivial
   rintro v33 A33 o33
   obtain⟨l33,rfl,o33⟩:=o33
   have r33:=Gt.owrd _ o33
   obtain⟨b1x33,c1x33,b2x33,c2x33,b3x33,c3x33,rfl,h1x33,h2x33,h3x33⟩:=zAy.1 r33
   have rqF:zAL.rd A33 [.bool false,.slice b1x33 x.out.length c1x33,.slice b2x33 x.atoms.length c2x33,.slice b3x33 x.filters.length c3x33] ⟨false,x.out,x.atoms,x.filters⟩:=zAy.2 ⟨_,_,_,_,_,_,rfl,h1x33,h2x33,h3x33⟩
   refine⟨fun x34=>?_⟩
   refine zAi (zGu _ _ _ (⟨false,x.out,x.atoms,x.filters⟩:Query) ⟨J.1.cols,⟨xs⟩⟩ rfl ?_) ⟨Rp.mono _ (zAk sI) rqF,zGv (Rp.mono _ (zAk sI) rcJ) (Rp.mono _ (zAk sI) (Gt.owrd _ oB))⟩ ?_
   ·simp_all
   rintro v35 A35 o35
   obtain⟨b135,c135,rfl,o35⟩:=o35
   exact⟨_,zLM (q:=⟨false,x.out,x.atoms,x.filters⟩) (T:=⟨J.1.cols,⟨xs⟩⟩) (zJE hst hJ2).1 (zJE (q:=⟨false,x.out,x.atoms,x.filters⟩) (T:=⟨J.1.cols,⟨xs⟩⟩) hst hJ2).2 aA,rlB⟩
  simp at q31
  refine zAi (zDU _ x ?_) (Rp.mono _ (zAa 2 rfl) hp) ?_
  ·trivial
  rintro v36 A36 o36
  obtain⟨l36,rfl,o36⟩:=o36
  have r36:=Gt.owrd _ o36
  obtain⟨b1x36,c1x36,b2x36,c2x36,b3x36,c3x36,rfl,h1x36,h2x36,h3x36⟩:=zAy.1 r36
  have rqF:zAL.rd A36 [.bool false,.slice b1x36 x.out.length c1x36,.slice b2x36 x.atoms.length c2x36,.slice b3x36 x.filters.length c3x36] ⟨false,x.out,x.atoms,x.filters⟩:=zAy.2 ⟨_,_,_,_,_,_,rfl,h1x36,h2x36,h3x36⟩
  refine⟨fun x37=>?_⟩
  refine zAi (zGu _ _ _ (⟨false,x.out,x.atoms,x.filters⟩:Query) ⟨J.1.cols,⟨xs⟩⟩ rfl ?_) ⟨Rp.mono _ (zAk sI) rqF,zGv (Rp.mono _ (zAk sI) rcJ) (Rp.mono _ (zAk sI) (Gt.owrd _ oB))⟩ ?_
  ·simp_all
  rintro v38 A38 o38
  obtain⟨b138,c138,rfl,o38⟩:=o38
  exact⟨_,zLM (q:=⟨false,x.out,x.atoms,x.filters⟩) (T:=⟨J.1.cols,⟨xs⟩⟩) (zJE hst hJ2).1 (zJE (q:=⟨false,x.out,x.atoms,x.filters⟩) (T:=⟨J.1.cols,⟨xs⟩⟩) hst hJ2).2 aA,rlB⟩
 simp at q24
 constructor<;>intro q39
 ·have hie2:i2=ts.length:=oO
  subst hie2
  have hj2:(jk ts (ts.length-1)).2=true:=(by rw[←hJ];assumption)
  obtain⟨hTJ,hcJ⟩:=zIw ‹zAU x s=true› hF hj2
  have hps:zG7 J.1 (zAj x.atoms)=J.1:=(by rw[hJ,←hcJ];exact zYv hTJ)
  have hTK:zAv J.1=true:=(by rw[hJ];exact hTJ)
  have hcK:J.1.cols=zAj x.atoms:=(by rw[hJ];exact hcJ)
  have hW:=(zAJ.1 hTK).2.2
  obtain⟨⟨ha1,ha2⟩,ha3⟩:=zBV hTK
  refine zBr zAh zAK (some 7) (.q 0 (.q 1 (.f 2 (.f 3 (.q 4 (.q 5 (.q 6 (.tl 7 (.f 8 (.nil)))))))))) (by decide +kernel) ?_
  refine zAi (zCu _ (x) ?_) (Rp.mono _ (zAa 1 rfl) hp) ?_
  ·trivial
  rintro v40 A40 o40
  obtain⟨b40,c40,rfl,o40⟩:=o40
  refine VC.intro ?_ ?_
  ·exact zAA
  refine zCW (zHr _ _ _ _ J.1 (zAj x.atoms) ?_ ?_) ⟨zLJ oJ (zAa 1 rfl),(Rp.mono _ (zAa 0 rfl) (Gt.owrd _ o40))⟩ ?_
  ·trivial
  ·(rw[←hcK];exact zYP (zAJ.1 hTK).1)
  rintro v41 A41 o41
  rw[hps] at o41
  obtain⟨b041,c041,b141,c141,rfl,Ac41,Ab41,hP41,oc41,ob41⟩:=o41
  refine⟨[Ac41,Ab41],by simpa using hP41,?_⟩
  have rb41:=Gt.owrd _ ob41
  have rcJ:=Gt.owrd _ oc41
  refine VC.intro ?_ ?_
  ·exact zAl sI sI
  refine⟨fun x42=>?_⟩
  apply zAg (α:=(Nat)×(List Item)×(Hp)×(Option Addr)×(Nat)) zAh [99,100,101,102,103,104,105,106,107,110,111,112,113,114,115,116,117,118,119,120,121,122,123,124,125,126,127,128,129,130,131,132,133,134,135,136,137,138,108,109,15] (fun z=>[(15,.v (.int .i64 z.1))]) (fun z=>[⟨x0,[Value.bool x.each,Value.slice b1p x.out.length c1p,Value.slice b2p x.atoms.length c2p,Value.slice b3p x.filters.length c3p],(43:Nat)⟩,⟨x1,[Value.slice none (0:Nat) (0:Nat)],(47:Nat)⟩,⟨x23,[Value.slice b041 J.fst.cols.length c041,Value.slice b141 J.fst.bag.items.length c141],(65:Nat)⟩,⟨x42,[Value.slice b041 J.fst.cols.length c041,.slice z.2.2.2.1 z.2.1.length z.2.2.2.2],(65:Nat)⟩]) (fun z=>[z.2.2.1,Ac41,Ab41,A40,D,H]) (fun z=>J.1.bag.items.length-z.1) (fun z=>z.1≤J.1.bag.items.length∧z.2.1=zBh [] ((J.1.bag.items.take z.1).filter fun p=>decide (zDX s p.row=ce))∧(gSl 100 zAo).ow [.slice z.2.2.2.1 z.2.1.length z.2.2.2.2] z.2.1 z.2.2.1) ((0,[],[],none,0))
  ·exact frI
  ·exact⟨rfl,rfl,rfl,rfl,trivial⟩
  ·try dsimp only
   exact⟨Nat.zero_le _,rfl,zAm _ _ _⟩
  ·exact .refl _
  rintro ⟨k,xs,B,ib2,ic2⟩ hI
  try dsimp only at hI
  obtain⟨hk,hxs,oB⟩:=hI
  try dsimp only
  constructor<;>intro q43
  ·simp at q43
   obtain⟨ta1,ta2,ta3⟩:=zCb hTK (i:=k) oO
   obtain⟨hiv,hln⟩:=zDZ hW (fun p=>decide (zDX s p.row=ce)) (i:=k) oO
   rw[←hxs] at hiv hln
   constructor<;>intro q44
   ·simp at q44
    refine zAf rb41 ?_ ?_ fun b45 o45 hb45=>?_
    ·omega
    ·omega
    refine zAw default (k) 0 rfl rb41 ?_ ?_ hb45 rfl (by decide) (zAa 2 rfl) fun l46 hl46=>?_
    ·omega
    ·omega
    obtain⟨b0x46,c0x46,rfl,h0x46,w1x46⟩:=zAB.1 hl46
    refine zAe (zOU _ _ _ _ _ _ (s) ((J.fst.bag.items[k]?.getD default).row)) ⟨(Rp.mono _ (zAa 5 rfl) hs),(Rp.mono _ (zAa 2 rfl) h0x46)⟩ ?_
    rintro _ rfl
    constructor<;>intro q48
    ·simp at q48
     refine zBr zAh zAK (some 16) (.q 0 (.q 1 (.q 2 (.q 3 (.q 4 (.q 5 (.q 6 (.q 7 (.q 8 (.q 9 (.q 10 (.q 11 (.q 12 (.q 13 (.q 14 (.q 15 (.tl 16 (.f 17 (.f 18 (.nil)))))))))))))))))))) (by decide +kernel) ?_
     refine zAf rb41 ?_ ?_ fun b49 o49 hb49=>?_
     ·omega
     ·omega
     refine zAw default (k) 0 rfl rb41 ?_ ?_ hb49 rfl (by decide) (zAa 2 rfl) fun l50 hl50=>?_
     ·omega
     ·omega
     obtain⟨b0x50,c0x50,rfl,h0x50,w1x50⟩:=zAB.1 hl50
     refine zAf rb41 ?_ ?_ fun b51 o51 hb51=>?_
     ·omega
     ·omega
     refine zAw default (k) 1 rfl rb41 ?_ ?_ hb51 rfl (by decide) (zAa 2 rfl) fun l52 hl52=>?_
     ·omega
     ·omega
     obtain⟨b0x52,c0x52,rfl,h0x52,w1x52⟩:=zAB.1 hl52
     refine zA1 (B) [Ac41,Ab41,A40,D,H] (zC0 _ _ _ _ _ _ xs _ ((J.fst.bag.items[k]?.getD default).row) (J.1.bag.items[k]?.getD default).times (plR xs ((J.fst.bag.items[k]?.getD default).row)) oB ?_ ?_ ?_ ?_ ?_) ?_ (Rp.mono _ (zAa 1 rfl) h0x50) ?_
     ·omega
     ·omega
     ·trivial
     ·exact hiv.2
     ·exact zEF hiv.1
     ·exact .refl _
     rintro _ A53 ⟨b53,c53,rfl,o53⟩
     refine⟨[A53],by simp,?_⟩
     apply zAb (k+1,_,_,_,_)
     ·exact .refl _
     ·exact frI
     ·exact⟨rfl,rfl,rfl,rfl,trivial⟩
     ·try dsimp only
      exact⟨oO,by rw[hxs];exact zGt (p:=fun p=>decide (zDX s p.row=ce)) oO (decide_eq_true aA),aA⟩
     try dsimp only
     omega
    simp at q48
    apply zAb (k+1,xs,B,ib2,ic2)
    ·exact .refl _
    ·exact frI
    ·exact⟨rfl,rfl,rfl,rfl,trivial⟩
    ·try dsimp only
     exact⟨oO,by rw[←zFL (p:=fun p=>decide (zDX s p.row=ce)) oO (decide_eq_false aA)];exact hxs,oB⟩
    try dsimp only
    omega
   simp at q44
  simp at q43
  have hke:k=J.1.bag.items.length:=oO
  rw[hke,List.take_length,zDG hW] at hxs
  have hT9:(⟨J.1.cols,⟨xs⟩⟩:Table)=zG8 x s ce J.1 0:=(by rw[zVF,hxs])
  have hfin:zYN ⟨false,x.out,x.atoms,x.filters⟩ ⟨J.1.cols,⟨xs⟩⟩ true=(caM x s ce ts).1.items:=(by rw[hT9,z7O ‹zAU x s=true› hQ hF hj2 (e:=false),hJ])
  have hfin2:(caM x s ce ts).2=true:=(by rw[zYy ‹zAU x s=true› hQ hF hj2])
  refine zAi (zDU _ x ?_) (Rp.mono _ (zAa 5 rfl) hp) ?_
  ·trivial
  rintro v54 A54 o54
  obtain⟨l54,rfl,o54⟩:=o54
  have r54:=Gt.owrd _ o54
  obtain⟨b1x54,c1x54,b2x54,c2x54,b3x54,c3x54,rfl,h1x54,h2x54,h3x54⟩:=zAy.1 r54
  have rqF:zAL.rd A54 [.bool false,.slice b1x54 x.out.length c1x54,.slice b2x54 x.atoms.length c2x54,.slice b3x54 x.filters.length c3x54] ⟨false,x.out,x.atoms,x.filters⟩:=zAy.2 ⟨_,_,_,_,_,_,rfl,h1x54,h2x54,h3x54⟩
  refine⟨fun x55=>?_⟩
  refine zAi (zGu _ _ _ (⟨false,x.out,x.atoms,x.filters⟩:Query) ⟨J.1.cols,⟨xs⟩⟩ rfl ?_) ⟨Rp.mono _ (zAk sI) rqF,zGv (Rp.mono _ (zAk sI) rcJ) (Rp.mono _ (zAk sI) (Gt.owrd _ oB))⟩ ?_
  ·exact fun _=>(by rw[hT9];exact⟨z15 hTK 0,fun i hi=>by (show zYL J.1.cols _;rw[hcK];exact hqf i hi),by (show zEI J.1.cols x.out;rw[hcK];exact hqo)⟩)
  rintro v56 A56 o56
  obtain⟨b156,c156,rfl,o56⟩:=o56
  exact⟨_,zLM hfin hfin2 aA,rlB⟩
 have hJ2:=‹J.2=false›
 have hst:=zYO h1 h2 (by rw[←hJ];exact hJ2)
 have rcJ:=zT7 oJ
 refine⟨fun x57=>?_⟩
 apply zAg (α:=(Nat)×(List Item)×(Hp)×(Option Addr)×(Nat)) zAh [99,100,101,102,103,104,105,106,107,110,111,112,113,114,115,116,117,118,119,120,121,122,123,124,125,126,127,128,129,130,131,132,133,134,135,136,137,138,108,109,15] (fun z=>[(15,.v (.int .i64 z.1))]) (fun z=>[⟨x0,[Value.bool x.each,Value.slice b1p x.out.length c1p,Value.slice b2p x.atoms.length c2p,Value.slice b3p x.filters.length c3p],(43:Nat)⟩,⟨x1,[Value.slice none (0:Nat) (0:Nat)],(47:Nat)⟩,⟨x23,[Value.slice tb J.fst.cols.length tc,Value.slice ib J.fst.bag.items.length ic],(65:Nat)⟩,⟨x57,[Value.slice tb J.fst.cols.length tc,.slice z.2.2.2.1 z.2.1.length z.2.2.2.2],(65:Nat)⟩]) (fun z=>[z.2.2.1,D,H]) (fun z=>0) (fun z=>z.1=0∧(gSl 100 zAo).ow [.slice z.2.2.2.1 z.2.1.length z.2.2.2.2] z.2.1 z.2.2.1) ((0,[],[],none,0))
 ·exact frI
 ·exact⟨rfl,rfl,rfl,rfl,trivial⟩
 ·try dsimp only
  exact⟨rfl,zAm _ _ _⟩
 ·exact .refl _
 rintro ⟨k,xs,B,ib2,ic2⟩ hI
 obtain⟨hk,oB⟩:k=0∧(gSl 100 zAo).ow [.slice ib2 xs.length ic2] xs B:=hI
 try dsimp only
 constructor<;>intro q58
 ·simp at q58
  constructor<;>intro q59
  ·exact absurd (‹J.2=true›.symm.trans ‹J.2=false›) (by decide)
  refine zAi (zDU _ x ?_) (Rp.mono _ (zAa 2 rfl) hp) ?_
  ·trivial
  rintro v60 A60 o60
  obtain⟨l60,rfl,o60⟩:=o60
  have r60:=Gt.owrd _ o60
  obtain⟨b1x60,c1x60,b2x60,c2x60,b3x60,c3x60,rfl,h1x60,h2x60,h3x60⟩:=zAy.1 r60
  have rqF:zAL.rd A60 [.bool false,.slice b1x60 x.out.length c1x60,.slice b2x60 x.atoms.length c2x60,.slice b3x60 x.filters.length c3x60] ⟨false,x.out,x.atoms,x.filters⟩:=zAy.2 ⟨_,_,_,_,_,_,rfl,h1x60,h2x60,h3x60⟩
  refine⟨fun x61=>?_⟩
  refine zAi (zGu _ _ _ (⟨false,x.out,x.atoms,x.filters⟩:Query) ⟨J.1.cols,⟨xs⟩⟩ rfl ?_) ⟨Rp.mono _ (zAk sI) rqF,zGv (Rp.mono _ (zAk sI) rcJ) (Rp.mono _ (zAk sI) (Gt.owrd _ oB))⟩ ?_
  ·simp_all
  rintro v62 A62 o62
  obtain⟨b162,c162,rfl,o62⟩:=o62
  exact⟨_,zLM (q:=⟨false,x.out,x.atoms,x.filters⟩) (T:=⟨J.1.cols,⟨xs⟩⟩) (zJE hst hJ2).1 (zJE (q:=⟨false,x.out,x.atoms,x.filters⟩) (T:=⟨J.1.cols,⟨xs⟩⟩) hst hJ2).2 aA,rlB⟩
 simp at q58
 refine zAi (zDU _ x ?_) (Rp.mono _ (zAa 2 rfl) hp) ?_
 ·trivial
 rintro v63 A63 o63
 obtain⟨l63,rfl,o63⟩:=o63
 have r63:=Gt.owrd _ o63
 obtain⟨b1x63,c1x63,b2x63,c2x63,b3x63,c3x63,rfl,h1x63,h2x63,h3x63⟩:=zAy.1 r63
 have rqF:zAL.rd A63 [.bool false,.slice b1x63 x.out.length c1x63,.slice b2x63 x.atoms.length c2x63,.slice b3x63 x.filters.length c3x63] ⟨false,x.out,x.atoms,x.filters⟩:=zAy.2 ⟨_,_,_,_,_,_,rfl,h1x63,h2x63,h3x63⟩
 refine⟨fun x64=>?_⟩
 refine zAi (zGu _ _ _ (⟨false,x.out,x.atoms,x.filters⟩:Query) ⟨J.1.cols,⟨xs⟩⟩ rfl ?_) ⟨Rp.mono _ (zAk sI) rqF,zGv (Rp.mono _ (zAk sI) rcJ) (Rp.mono _ (zAk sI) (Gt.owrd _ oB))⟩ ?_
 ·simp_all
 rintro v65 A65 o65
 obtain⟨b165,c165,rfl,o65⟩:=o65
 exact⟨_,zLM (q:=⟨false,x.out,x.atoms,x.filters⟩) (T:=⟨J.1.cols,⟨xs⟩⟩) (zJE hst hJ2).1 (zJE (q:=⟨false,x.out,x.atoms,x.filters⟩) (T:=⟨J.1.cols,⟨xs⟩⟩) hst hJ2).2 aA,rlB⟩
end
section
def zHR (b:Nat):Nat→Nat→List Int
 | 0,_=>[]
 | n+1,j=>zHR b n (j / b)++[((j % b:Nat):Int)]
def zMc (b:Nat) (xs:List Int):Nat:=xs.foldl (fun a d=>a * b+d.toNat) 0
theorem zOW (b:Nat):∀ (ys:List Int) (a:Nat),ys.foldl (fun a d=>a * b+d.toNat) a=a * b ^ ys.length+zMc b ys
 | [],a=>by show a=a * b ^ 0+0;rw[Nat.pow_zero];omega
 | y::ys,a=>by
  have h1:=zOW b ys (a * b+y.toNat)
  have h2:=zOW b ys (0 * b+y.toNat)
  show ys.foldl _ (a * b+y.toNat)=_
  rw[h1]
  show _=a * b ^ (ys.length+1)+ys.foldl _ (0 * b+y.toNat)
  rw[h2,Nat.pow_succ,Nat.zero_mul,Nat.zero_add,Nat.add_mul,Nat.add_assoc,Nat.mul_assoc,Nat.mul_comm b]
theorem zFM (b:Nat) (xs ys:List Int):zMc b (xs++ys)=zMc b xs * b ^ ys.length+zMc b ys:=by
 show (xs++ys).foldl _ 0=_
 rw[List.foldl_append,zOW];rfl
theorem zHN (b:Nat) (x:Int):zMc b [x]=x.toNat:=by show 0 * b+x.toNat=_;omega
theorem zT8 (b:Nat):∀ k,zMc b (List.replicate k 0)=0
 | 0=>rfl
 | k+1=>by rw[List.replicate_succ',zFM,zT8 b k,zHN];simp
theorem zSr {b:Nat} (hb:1≤b):∀ k,zMc b (List.replicate k ((b:Int)-1))+1=b ^ k
 | 0=>rfl
 | k+1=>by
  have ih:=zSr hb k
  rw[List.replicate_succ',zFM,zHN,List.length_singleton,Nat.pow_one,Nat.pow_succ,←ih,Nat.add_mul]
  omega
def z7P (b:Nat) (v:List Int):Prop:=∀ x∈v,0≤x∧x < b
theorem zCR (b:Nat):∀ n j,(zHR b n j).length=n
 | 0,_=>rfl
 | n+1,j=>by show (zHR b n (j / b)++_).length=_;rw[List.length_append,zCR b n,List.length_singleton]
theorem zGY {b:Nat} (hb:1≤b):∀ n j,z7P b (zHR b n j)
 | 0,_=>fun x hx=>nomatch hx
 | n+1,j=>fun x hx=>by
  rcases List.mem_append.1 hx with h|h
  ·exact zGY hb n _ x h
  rw[List.mem_singleton.1 h]
  have:=Nat.mod_lt j (show b > 0 from oO)
  omega
theorem zOX {b:Nat} (hb:1≤b):∀ n j,j < b ^ n→zMc b (zHR b n j)=j
 | 0,j,h=>by rw[Nat.pow_zero] at h;show 0=j;omega
 | n+1,j,h=>by
  show zMc b (zHR b n (j / b)++_)=j
  rw[zFM,zHN,List.length_singleton,Nat.pow_one,zOX hb n (j / b) (by rw[Nat.div_lt_iff_lt_mul oO,←Nat.pow_succ];exact h),Int.toNat_natCast]
  have:=Nat.div_add_mod j b
  rw[Nat.mul_comm];exact this
theorem z3B {b:Nat}:∀ v:List Int,z7P b v→zMc b v < b ^ v.length
 | [],_=>by show 0 < 1;omega
 | x::v,h=>by
  have ih:=z3B v fun y hy=>h y (List.mem_cons_of_mem _ hy)
  have hx:=h x List.mem_cons_self
  rw[show x::v=[x]++v from rfl,zFM,zHN,List.length_append,List.length_singleton,Nat.add_comm 1,Nat.pow_succ]
  have h2:(x.toNat+1) * b ^ v.length≤b * b ^ v.length:=Nat.mul_le_mul_right _ oO
  rw[Nat.add_mul] at h2
  rw[Nat.mul_comm _ b];omega
theorem zYR {b:Nat}:∀ (n:Nat) (v:List Int),v.length=n→z7P b v→zHR b n (zMc b v)=v
 | 0,v,hl,_=>by rw[List.length_eq_zero_iff.1 hl];rfl
 | n+1,v,hl,h=>by
  have hne:v≠[]:=fun e=>by rw[e] at hl;cases hl
  have hv:v=v.dropLast++[v.getLast hne]:=(List.dropLast_concat_getLast hne).symm
  have hx:=h (v.getLast hne) (List.getLast_mem hne)
  have hlt:(v.getLast hne).toNat < b:=by omega
  have hd:v.dropLast.length=n:=by rw[List.length_dropLast];omega
  have ih:=zYR n v.dropLast hd fun y hy=>h y ((List.dropLast_sublist v).subset hy)
  generalize v.getLast hne=x at *
  generalize v.dropLast=w at *
  subst hv
  show zHR b n (zMc b (w++[x]) / b)++[((zMc b (w++[x]) % b:Nat):Int)]=w++[x]
  rw[zFM,zHN,List.length_singleton,Nat.pow_one]
  have h1:(zMc b w * b+x.toNat) / b=zMc b w:=by
   rw[Nat.mul_comm,Nat.mul_add_div oO,Nat.div_eq_of_lt hlt,Nat.add_zero]
  have h2:(zMc b w * b+x.toNat) % b=x.toNat:=by
   rw[Nat.mul_comm,Nat.mul_add_mod,Nat.mod_eq_of_lt hlt]
  rw[h1,h2,ih,Int.toNat_of_nonneg hx.1]
def zFN (b:Nat) (v:List Int) (k:Nat) (w:List Int):Prop:=k≤v.length∧v.drop (v.length-k)=List.replicate k ((b:Int)-1)∧w=v.take (v.length-k)++List.replicate k 0
theorem zLN (b:Nat) (v:List Int):zFN b v 0 v:=⟨Nat.zero_le _,by simp,by simp⟩
theorem zIx {b:Nat} {v w:List Int} {k:Nat} (h:zFN b v k w):w.length=v.length:=by
 have h1:=h.1
 rw[h.2.2,List.length_append,List.length_take,List.length_replicate];omega
theorem zQJ {v:List Int} {p:Nat} (h:p < v.length):v=v.take p++((v[p]?.getD 0)::v.drop (p+1)):=by
 rw[List.getElem?_eq_getElem h]
 show v=v.take p++(v[p]::v.drop (p+1))
 rw[List.getElem_cons_drop,List.take_append_drop]
theorem zJe {b:Nat} {v w:List Int} {k:Nat} (h:zFN b v k w) {p:Nat} (hp:p+k+1=v.length):w[p]?.getD 0=v[p]?.getD 0:=by
 rw[h.2.2,show v.length-k=p+1 from oO,List.getElem?_append_left (by rw[List.length_take];omega),List.getElem?_take_of_lt oO]
theorem zT9 {b:Nat} {v w:List Int} {k:Nat} (h:zFN b v k w) {p:Nat} (hp:p+k+1=v.length) (y:Int):w.set p y=v.take p++(y::List.replicate k 0):=by
 have h1:v.take (p+1)=v.take p++[v[p]?.getD 0]:=by
  rw[←List.take_append_getElem (by omega:p < v.length),List.getElem?_eq_getElem oO];rfl
 rw[h.2.2,show v.length-k=p+1 from oO,h1,List.append_assoc,List.set_append_right _ _ (by rw[List.length_take];omega),List.length_take,show p-min p v.length=0 from oO]
 rfl
theorem zQK {b:Nat} {v w:List Int} {k:Nat} (h:zFN b v k w) {p:Nat} (hp:p+k+1=v.length) (e:v[p]?.getD 0=(b:Int)-1):zFN b v (k+1) (w.set p 0):=by
 refine⟨oO,?_,?_⟩
 ·rw[show v.length-(k+1)=p from oO,List.replicate_succ]
  have h2:=h.2.1
  rw[show v.length-k=p+1 from oO] at h2
  rw[←h2,←e]
  have h3:=congrArg (List.drop p) (zQJ (v:=v) (p:=p) oO)
  rw[List.drop_append_of_le_length (by rw[List.length_take];omega),List.drop_take,Nat.sub_self,List.take_zero,List.nil_append] at h3
  exact h3
 rw[zT9 h hp,show v.length-(k+1)=p from oO,List.replicate_succ]
theorem zQL {b n j:Nat} {w:List Int} {k:Nat} (hb:1≤b) (hj:j < b ^ n) (h:zFN b (zHR b n j) k w) {p:Nat} (hp:p+k+1=n) (e:(zHR b n j)[p]?.getD 0+1 < (b:Int)) :
  w.set p ((zHR b n j)[p]?.getD 0+1)=zHR b n (j+1)∧j+1 < b ^ n:=by
 have hl:=zCR b n j
 have hr:=zGY hb n j
 have hv:=zOX hb n j hj
 rw[zT9 h oO]
 have h2:=h.2.1
 generalize zHR b n j=v at *
 rw[show v.length-k=p+1 from oO] at h2
 have hs:=zQJ (v:=v) (p:=p) oO
 rw[h2] at hs
 have hx:0≤v[p]?.getD 0:=(hr _ (by rw[List.getElem?_eq_getElem oO];exact List.getElem_mem _)).1
 have ht:z7P b (v.take p):=fun y hy=>hr y (List.mem_of_mem_take hy)
 have hlt:(v.take p).length=p:=by rw[List.length_take];omega
 have hv2:zMc b v=zMc b (v.take p) * b ^ (k+1)+((v[p]?.getD 0).toNat * b ^ k+zMc b (List.replicate k ((b:Int)-1))):=by
  conv=>lhs;rw[hs]
  rw[show (v.take p++(v[p]?.getD 0)::List.replicate k ((b:Int)-1))=v.take p++([v[p]?.getD 0]++List.replicate k ((b:Int)-1)) from rfl,zFM,zFM,zHN,List.length_append,List.length_replicate,List.length_singleton,Nat.add_comm 1]
 have hv3:zMc b (v.take p++((v[p]?.getD 0+1)::List.replicate k 0))=zMc b (v.take p) * b ^ (k+1)+((v[p]?.getD 0).toNat+1) * b ^ k:=by
  rw[show (v.take p++(v[p]?.getD 0+1)::List.replicate k 0)=v.take p++([v[p]?.getD 0+1]++List.replicate k 0) from rfl,zFM,zFM,zHN,zT8,List.length_append,List.length_replicate,List.length_singleton,Nat.add_comm 1,show (v[p]?.getD 0+1).toNat=(v[p]?.getD 0).toNat+1 from oO];rfl
 have htop:=zSr hb k
 have hj1:zMc b (v.take p++((v[p]?.getD 0+1)::List.replicate k 0))=j+1:=by
  rw[hv3,←hv,hv2,Nat.add_mul];omega
 have hrr:z7P b (v.take p++((v[p]?.getD 0+1)::List.replicate k 0)):=fun y hy=>by
  rcases List.mem_append.1 hy with h|h
  ·exact ht y h
  rcases List.mem_cons.1 h with rfl|h
  ·omega
  rw[List.eq_of_mem_replicate h];omega
 have hll:(v.take p++((v[p]?.getD 0+1)::List.replicate k 0)).length=n:=by rw[List.length_append,List.length_cons,List.length_replicate];omega
 have hd:=zYR n _ hll hrr
 have hb2:=z3B _ hrr
 rw[hj1] at hd hb2
 rw[hll] at hb2
 exact⟨hd.symm,hb2⟩
theorem zQM {b n j:Nat} {w:List Int} (hb:1≤b) (hj:j < b ^ n) (h:zFN b (zHR b n j) n w):j+1=b ^ n:=by
 have hl:=zCR b n j
 have hv:=zOX hb n j hj
 have h2:=h.2.1
 rw[hl,Nat.sub_self,List.drop_zero] at h2
 rw[←hv,h2]
 exact zSr hb n
theorem zOY {b:Nat}:∀ n,zHR b n 0=List.replicate n 0
 | 0=>rfl
 | n+1=>by
  show zHR b n (0 / b)++[((0 % b:Nat):Int)]=_
  rw[Nat.zero_div,zOY n,Nat.zero_mod,List.replicate_succ'];rfl
end
section
attribute [local irreducible] IntKind.wrap
def zCS (a b:Edge):Bool:=
 if a.from'=b.from' then if a.label=b.label then decide (a.to < b.to) else decide (a.label.toNat < b.label.toNat) else decide (a.from' < b.from')
def z59 (a b:Edge):Int:=if a.label≠b.label∧a.from'=b.from' then (a.label.toNat:Int)-b.label.toNat else zCi [a.from',a.to] [b.from',b.to]
theorem z5t (a b:Edge):decide (z59 a b < 0)=zCS a b:=by
 unfold z59 zCS
 by_cases h1:a.from'=b.from'<;>by_cases h2:a.label=b.label
 ·rw[if_neg (by simp [h2]),if_pos h1,if_pos h2,h1]
  simp only[zCi,Int.lt_irrefl,if_false]
  by_cases h3:a.to < b.to<;>by_cases h4:b.to < a.to<;>simp [h3,h4]
 ·rw[if_pos ⟨h2,h1⟩,if_pos h1,if_neg h2,decide_eq_decide];omega
 ·rw[if_neg (by simp [h1]),if_neg h1]
  simp only[zCi]
  by_cases h3:a.from' < b.from'<;>by_cases h4:b.from' < a.from'<;>simp [h3,h4];omega
 rw[if_neg (by simp [h1]),if_neg h1]
 simp only[zCi]
 by_cases h3:a.from' < b.from'<;>by_cases h4:b.from' < a.from'<;>simp [h3,h4];omega
theorem zLO (l1 l2:List Value) (a b:Edge) :
  Ct prog 167 [.agg ⟨l1⟩,.agg ⟨l2⟩] [] (fun H=>zCq.rd H l1 a∧zCq.rd H l2 b) (fun v A=>v = .int .i64 (z59 a b)∧A=[]):=by
 refine Ct.intro0 zAh func167 rfl rfl rfl fun E H hp=>?_
 obtain⟨hp1,hp2⟩:=hp
 obtain⟨rfl,wa,wb⟩:=zBB.1 hp1
 obtain⟨rfl,wc,wd⟩:=zBB.1 hp2
 refine⟨fun x0=>?_⟩
 refine⟨fun x1=>?_⟩
 constructor<;>intro q2
 ·simp at q2
  simp only[zAR,zBn,zAZ] at q2
  constructor<;>intro q3
  ·simp at q3
   exact⟨[],⟨by unfold z59;rw[if_pos ⟨aA,aA⟩];have h1:=a.label.toNat_lt;have h2:=b.label.toNat_lt;simp (disch:=omega) only[zAc],rfl⟩,.mem sI⟩
  simp at q3
  refine⟨fun x4=>?_⟩
  refine⟨fun x5=>?_⟩
  refine zAe (zEv _ _ _ _ _ _ ([a.from',a.to]) ([b.from',b.to])) ⟨(Rp.mono _ (zAa 1 rfl) (Ow.rd (Ow.lit (f:=zAs) (T:=3) (b:=x4) (xs:=[a.from',a.to]) (by first|(simp [zAs,okI];done)|(simp only[List.forall_mem_cons];simp_all [zAs,okI])) sI))),(Rp.mono _ (zAa 0 rfl) (Ow.rd (Ow.lit (f:=zAs) (T:=3) (b:=x5) (xs:=[b.from',b.to]) (by first|(simp [zAs,okI];done)|(simp only[List.forall_mem_cons];simp_all [zAs,okI])) sI)))⟩ ?_
  rintro _ rfl
  try dsimp only
  exact⟨[],⟨by unfold z59;rw[if_neg (by simp_all)],rfl⟩,.mem sI⟩
 simp at q2
 simp only[zAR,zBn,zAZ] at q2
 refine⟨fun x7=>?_⟩
 refine⟨fun x8=>?_⟩
 refine zAe (zEv _ _ _ _ _ _ ([a.from',a.to]) ([b.from',b.to])) ⟨(Rp.mono _ (zAa 1 rfl) (Ow.rd (Ow.lit (f:=zAs) (T:=3) (b:=x7) (xs:=[a.from',a.to]) (by first|(simp [zAs,okI];done)|(simp only[List.forall_mem_cons];simp_all [zAs,okI])) sI))),(Rp.mono _ (zAa 0 rfl) (Ow.rd (Ow.lit (f:=zAs) (T:=3) (b:=x8) (xs:=[b.from',b.to]) (by first|(simp [zAs,okI];done)|(simp only[List.forall_mem_cons];simp_all [zAs,okI])) sI)))⟩ ?_
 rintro _ rfl
 try dsimp only
 exact⟨[],⟨by unfold z59;rw[if_neg (by simp_all)],rfl⟩,.mem sI⟩
theorem zLP (l1 l2:List Value) (a b:Edge) :
  Ct prog 129 [.agg ⟨l1⟩,.agg ⟨l2⟩] [] (fun H=>zCq.rd H l1 a∧zCq.rd H l2 b) (fun v A=>v = .bool (zCS a b)∧A=[]):=by
 refine Ct.intro0 zAh func129 rfl rfl rfl fun E H hp=>?_
 obtain⟨hp1,hp2⟩:=hp
 obtain⟨rfl,wa,wb⟩:=zBB.1 hp1
 obtain⟨rfl,wc,wd⟩:=zBB.1 hp2
 refine⟨fun x0=>?_⟩
 refine⟨fun x1=>?_⟩
 refine zAe (zLO _ _ (a) (b)) ⟨(Rp.mono _ (zAa 0 rfl) hp1),(Rp.mono _ (zAa 0 rfl) hp2)⟩ ?_
 rintro _ rfl
 exact⟨[],⟨by rw[z5t],rfl⟩,.mem sI⟩
theorem zLQ (l1 l2:List Value) (a b:Edge) :
  Ct prog 93 [.agg ⟨l1⟩,.agg ⟨l2⟩] [] (fun H=>zCq.rd H l1 a∧zCq.rd H l2 b) (fun v A=>v = .bool (zCS a b)∧A=[]):=by
 refine Ct.intro0 zAh func93 rfl rfl rfl fun E H hp=>?_
 obtain⟨hp1,hp2⟩:=hp
 obtain⟨rfl,wa,wb⟩:=zBB.1 hp1
 obtain⟨rfl,wc,wd⟩:=zBB.1 hp2
 refine⟨fun x0=>?_⟩
 refine⟨fun x1=>?_⟩
 constructor<;>intro q2
 ·simp at q2
  exact⟨[],⟨by unfold zCS;rw[if_neg aA],rfl⟩,.mem sI⟩
 simp at q2
 constructor<;>intro q3
 ·simp at q3
  simp only[zAR,zBn,zAZ] at q3
  exact⟨[],⟨by unfold zCS;rw[if_pos aA,if_neg aA];simp,rfl⟩,.mem sI⟩
 simp at q3
 simp only[zAR,zBn,zAZ] at q3
 exact⟨[],⟨by unfold zCS;rw[if_pos aA,if_pos aA],rfl⟩,.mem sI⟩
def zDs (g:Graph) (i:Nat):Bool:=
 inR 0 (g.size-1) (g.edges[i]?.getD default).from' && (inR 0 (g.size-1) (g.edges[i]?.getD default).to && (zBb (g.edges[i]?.getD default).label && (decide (i=0) || zCS (g.edges[i-1]?.getD default) (g.edges[i]?.getD default))))
def zHO (g:Graph):Nat→Bool
 | 0=>true
 | k+1=>zHO g k && zDs g k
def zAH (g:Graph):Bool:=inR 1 12 g.size && (decide (g.edges.length≤40) && zHO g g.edges.length)
theorem zUa (g:Graph) (k:Nat) (h:zDs g k=false):∀ n,k < n→zHO g n=false
 | 0,h1=>by omega
 | n+1,h1=>by
  unfold zHO
  rcases Nat.lt_or_ge k n with h2|h2
  ·rw[zUa g k h n h2];rfl
  rw[show n=k from oO,h];simp
theorem zCT (g:Graph) (k:Nat) (h1:k < g.edges.length) (h:zDs g k=false):zAH g=false:=by
 unfold zAH;rw[zUa g k h _ h1];simp
theorem zLR (l:List Value) (g:Graph) (v:Int) (hg:1≤g.size):Ct prog 127 [.agg ⟨l⟩,.int .i64 v] [] (fun H=>zBz.rd H l g) (fun r A=>r = .bool (inR 0 (g.size-1) v)∧A=[]):=by
 refine Ct.intro0 zAh func127 rfl rfl rfl fun E H hp=>?_
 obtain⟨b1,c1,rfl,w0,h1⟩:=zAY.1 hp
 refine⟨fun x0=>?_⟩
 constructor<;>intro q1
 ·simp at q1
  exact⟨[],⟨by unfold inR;rw[decide_eq_true (by omega:(0:Int)≤v),Bool.true_and];congr 1;rw[decide_eq_decide];omega,rfl⟩,.mem sI⟩
 simp at q1
 exact⟨[],⟨by unfold inR;rw[decide_eq_false (by omega:¬(0:Int)≤v),Bool.false_and],rfl⟩,.mem sI⟩
theorem zDO (l:List Value) (g:Graph):Ct prog 75 [.agg ⟨l⟩] [] (fun H=>zBz.rd H l g) (fun v A=>v = .bool (zAH g)∧A=[]):=by
 refine Ct.intro0 zAh func75 rfl rfl rfl fun E H hp=>?_
 obtain⟨b1,c1,rfl,w0,h1⟩:=zAY.1 hp
 refine⟨fun x0=>?_⟩
 constructor<;>intro q1
 ·simp at q1
  exact⟨[],⟨by unfold zAH inR;simp;omega,rfl⟩,.mem sI⟩
 simp at q1
 constructor<;>intro q2
 ·simp at q2
  exact⟨[],⟨by unfold zAH inR;simp;omega,rfl⟩,.mem sI⟩
 simp at q2
 constructor<;>intro q3
 ·simp at q3
  exact⟨[],⟨by unfold zAH inR;simp;omega,rfl⟩,.mem sI⟩
 simp at q3
 apply zAg (α:=(Nat)) zAh [23,24,25,26,4,3,27,28,29,30,31,32,33,34,35,36,37,38,39,40,41,42,43,44,2,45,46,47,48,49,50,51,52,53,54,55,56,57,58,22] (fun z=>[(22,.v (.int .i64 z))]) (fun z=>[{ id:=x0,cs:=[Value.int IntKind.i64 g.size,Value.slice b1 g.edges.length c1],ty:=(53:Nat) }]) (fun z=>[H]) (fun z=>g.edges.length-z) (fun z=>z≤g.edges.length∧zHO g z=true) (0)
 ·exact frI
 ·exact⟨rfl,trivial⟩
 ·exact⟨oO,rfl⟩
 ·exact .refl _
 rintro k hI
 obtain⟨hk,ha⟩:k≤g.edges.length∧zHO g k=true:=hI
 try dsimp only
 constructor<;>intro q4
 ·simp at q4
  refine zAf h1 ?_ ?_ fun b5 o5 hb5=>?_
  ·omega
  ·omega
  refine zAd default (k) rfl h1 ?_ ?_ hb5 rfl (zAa 0 rfl) fun l6 hl6=>?_
  ·omega
  ·omega
  obtain⟨rfl,w0x6,w2x6⟩:=zBB.1 hl6
  refine⟨fun x7=>?_⟩
  refine zAe (zLR _ (g) _ ?_) (Rp.mono _ (zAa 0 rfl) hp) ?_
  ·trivial
  rintro _ rfl
  constructor<;>intro q9
  ·simp at q9
   exact⟨[],⟨by rw[zCT g k oO (by simp_all [zDs])],rfl⟩,.mem sI⟩
  simp at q9
  have iq9:=zAq.1 q9
  refine zAe (zLR _ (g) _ ?_) (Rp.mono _ (zAa 0 rfl) hp) ?_
  ·trivial
  rintro _ rfl
  constructor<;>intro q11
  ·simp at q11
   exact⟨[],⟨by rw[zCT g k oO (by simp_all [zDs])],rfl⟩,.mem sI⟩
  simp at q11
  have iq11:=zAq.1 q11
  refine zAe (zIS _) trivial ?_
  rintro _ rfl
  constructor<;>intro q13
  ·simp at q13
   exact⟨[],⟨by rw[zCT g k oO (by simp_all [zDs])],rfl⟩,.mem sI⟩
  simp at q13
  have iq13:=zAq.1 q13
  refine zBr zAh zAK none (.q 0 (.q 1 (.q 2 (.q 3 (.q 4 (.q 5 (.q 6 (.q 7 (.q 8 (.q 9 (.f 10 (.q 11 (.q 12 (.nil)))))))))))))) (by decide +kernel) ?_
  constructor<;>intro q14
  ·simp at q14
   refine zAf h1 ?_ ?_ fun b15 o15 hb15=>?_
   ·(simp (disch:=omega) only[zAc];omega)
   ·(simp (disch:=omega) only[zAc];omega)
   refine zAF default h1 ?_ ?_ hb15 rfl (zAa 0 rfl) fun l16 hl16=>?_
   ·(simp (disch:=omega) only[zAc];omega)
   ·(simp (disch:=omega) only[zAc];omega)
   rw[show (IntKind.i64.wrap ((k:Int)-1)).toNat=k-1 by (simp (disch:=omega) only[zAc];omega)] at hl16
   obtain⟨rfl,w0x16,w2x16⟩:=zBB.1 hl16
   refine zAe (zLP _ _ (g.edges[k-(1:Nat)]?.getD default) (g.edges[k]?.getD default)) ⟨(Rp.mono _ (zAa 0 rfl) hl16),(Rp.mono _ (zAa 0 rfl) hl6)⟩ ?_
   rintro _ rfl
   refine VC.intro ?_ ?_
   ·exact fun _ h=>h
   constructor<;>intro q18
   ·simp at q18
    exact⟨[],⟨by rw[zCT g k oO (by unfold zDs;rw[‹zCS _ _=false›,decide_eq_false (by omega:¬k=0)];simp)],rfl⟩,.mem sI⟩
   simp at q18
   apply zAb (k+1)
   ·exact .refl _
   ·exact frI
   ·exact⟨rfl,trivial⟩
   ·exact⟨oO,by simp_all [zHO,zDs]⟩
   omega
  simp at q14
  apply zAb (k+1)
  ·exact .refl _
  ·exact frI
  ·exact⟨rfl,trivial⟩
  ·exact⟨oO,by simp_all [zHO,zDs]⟩
  omega
 simp at q4
 obtain rfl:k=g.edges.length:=by omega
 exact⟨[],⟨by unfold zAH inR;simp_all;omega,rfl⟩,.mem sI⟩
theorem zC1 (l:List Value) (g:Graph):Ct prog 39 [.agg ⟨l⟩] [] (fun H=>zBz.rd H l g) (fun v A=>v = .bool (zAH g)∧A=[]):=by
 refine Ct.intro0 zAh func39 rfl rfl rfl fun E H hp=>?_
 obtain⟨b1,c1,rfl,w0,h1⟩:=zAY.1 hp
 refine⟨fun x0=>?_⟩
 refine zAe (zA3 _ _ _) trivial ?_
 rintro _ rfl
 constructor<;>intro q2
 ·simp at q2
  exact⟨[],⟨by unfold zAH;simp_all,rfl⟩,.mem sI⟩
 simp at q2
 have iq2:=zAq.1 q2
 constructor<;>intro q3
 ·simp at q3
  exact⟨[],⟨by unfold zAH inR;simp;omega,rfl⟩,.mem sI⟩
 simp at q3
 apply zAg (α:=(Nat)) zAh [15,16,17,18,19,22,23,24,25,26,4,27,28,29,30,31,32,33,34,35,36,37,38,39,40,41,42,43,44,45,46,47,48,49,50,51,52,53,54,55,56,57,58,59,60,61,62,63,64,65,66,67,2,20,21,3] (fun z=>[(3,.v (.int .i64 z))]) (fun z=>[{ id:=x0,cs:=[Value.int IntKind.i64 g.size,Value.slice b1 g.edges.length c1],ty:=(53:Nat) }]) (fun z=>[H]) (fun z=>g.edges.length-z) (fun z=>z≤g.edges.length∧zHO g z=true) (0)
 ·exact frI
 ·exact⟨rfl,trivial⟩
 ·exact⟨oO,rfl⟩
 ·exact .refl _
 rintro k hI
 obtain⟨hk,ha⟩:k≤g.edges.length∧zHO g k=true:=hI
 try dsimp only
 constructor<;>intro q4
 ·simp at q4
  refine zAf h1 ?_ ?_ fun b5 o5 hb5=>?_
  ·omega
  ·omega
  refine zAd default (k) rfl h1 ?_ ?_ hb5 rfl (zAa 0 rfl) fun l6 hl6=>?_
  ·omega
  ·omega
  obtain⟨rfl,w0x6,w2x6⟩:=zBB.1 hl6
  refine⟨fun x7=>?_⟩
  refine zBr zAh zAK none (.q 0 (.q 1 (.q 2 (.q 3 (.q 4 (.f 5 (.q 6 (.q 7 (.q 8 (.q 9 (.q 10 (.q 11 (.q 12 (.f 13 (.q 14 (.q 15 (.q 16 (.q 17 (.q 18 (.q 19 (.q 20 (.q 21 (.q 22 (.q 23 (.q 24 (.q 25 (.q 26 (.q 27 (.q 28 (.q 29 (.q 30 (.q 31 (.q 32 (.q 33 (.q 34 (.q 35 (.q 36 (.f 37 (.q 38 (.q 39 (.q 40 (.nil)))))))))))))))))))))))))))))))))))))))))) (by decide +kernel) ?_
  refine zAe (zA3 _ _ _) trivial ?_
  rintro _ rfl
  refine VC.intro ?_ ?_
  ·exact fun _ h=>h
  constructor<;>intro q9
  ·simp at q9
   simp (disch:=omega) only[zAc] at q9
   exact⟨[],⟨by rw[zCT g k oO (by simp_all [zDs])],rfl⟩,.mem sI⟩
  simp at q9
  simp (disch:=omega) only[zAc] at q9
  have iq9:=zAq.1 q9
  refine zAe (zA3 _ _ _) trivial ?_
  rintro _ rfl
  refine VC.intro ?_ ?_
  ·exact fun _ h=>h
  constructor<;>intro q11
  ·simp at q11
   simp (disch:=omega) only[zAc] at q11
   exact⟨[],⟨by rw[zCT g k oO (by simp_all [zDs])],rfl⟩,.mem sI⟩
  simp at q11
  simp (disch:=omega) only[zAc] at q11
  have iq11:=zAq.1 q11
  constructor<;>intro q12
  ·simp at q12
   exact⟨[],⟨by rw[zCT g k oO (by unfold zDs zBb;rw[decide_eq_false (by omega:¬(97:Int)≤((g.edges[k]?.getD default).label.toNat:Nat))];simp)],rfl⟩,.mem sI⟩
  simp at q12
  constructor<;>intro q13
  ·simp at q13
   exact⟨[],⟨by rw[zCT g k oO (by unfold zDs zBb;rw[decide_eq_false (by omega:¬(((g.edges[k]?.getD default).label.toNat:Nat):Int)≤100)];simp)],rfl⟩,.mem sI⟩
  simp at q13
  constructor<;>intro q14
  ·simp at q14
   refine zAf h1 ?_ ?_ fun b15 o15 hb15=>?_
   ·(simp (disch:=omega) only[zAc];omega)
   ·(simp (disch:=omega) only[zAc];omega)
   refine zAF default h1 ?_ ?_ hb15 rfl (zAa 0 rfl) fun l16 hl16=>?_
   ·(simp (disch:=omega) only[zAc];omega)
   ·(simp (disch:=omega) only[zAc];omega)
   rw[show (IntKind.i64.wrap ((k:Int)-1)).toNat=k-1 by (simp (disch:=omega) only[zAc];omega)] at hl16
   obtain⟨rfl,w0x16,w2x16⟩:=zBB.1 hl16
   refine zAe (zLQ _ _ (g.edges[k-(1:Nat)]?.getD default) (g.edges[k]?.getD default)) ⟨(Rp.mono _ (zAa 0 rfl) hl16),(Rp.mono _ (zAa 0 rfl) hl6)⟩ ?_
   rintro _ rfl
   refine VC.intro ?_ ?_
   ·exact fun _ h=>h
   constructor<;>intro q18
   ·simp at q18
    exact⟨[],⟨by rw[zCT g k oO (by unfold zDs;rw[‹zCS _ _=false›,decide_eq_false (by omega:¬k=0)];simp)],rfl⟩,.mem sI⟩
   simp at q18
   apply zAb (k+1)
   ·exact .refl _
   ·exact frI
   ·exact⟨rfl,trivial⟩
   ·exact⟨oO,by unfold zHO zDs zBb;rw[ha,‹inR 0 (g.size-1) (g.edges[k]?.getD default).from'=true›,‹inR 0 (g.size-1) (g.edges[k]?.getD default).to=true›,decide_eq_true (by omega:(97:Int)≤((g.edges[k]?.getD default).label.toNat:Nat)),decide_eq_true (by omega:(((g.edges[k]?.getD default).label.toNat:Nat):Int)≤100)];first|(rw[‹zCS _ _=true›];simp)|(rw[decide_eq_true (by omega:k=0)];rfl)⟩
   omega
  simp at q14
  apply zAb (k+1)
  ·exact .refl _
  ·exact frI
  ·exact⟨rfl,trivial⟩
  ·exact⟨oO,by unfold zHO zDs zBb;rw[ha,‹inR 0 (g.size-1) (g.edges[k]?.getD default).from'=true›,‹inR 0 (g.size-1) (g.edges[k]?.getD default).to=true›,decide_eq_true (by omega:(97:Int)≤((g.edges[k]?.getD default).label.toNat:Nat)),decide_eq_true (by omega:(((g.edges[k]?.getD default).label.toNat:Nat):Int)≤100)];first|(rw[‹zCS _ _=true›];simp)|(rw[decide_eq_true (by omega:k=0)];rfl)⟩
  omega
 simp at q4
 obtain rfl:k=g.edges.length:=by omega
 exact⟨[],⟨by unfold zAH inR;simp_all;omega,rfl⟩,.mem sI⟩
end
section
def z2k (n:Nat) (es:List Edge):Prop:=∀ e∈es,0≤e.from'∧e.from' < n∧0≤e.to∧e.to < n
def zLS (seen:List Bool) (i:Nat):Prop:=seen[i]?.getD false=true
end
section
def zEJ (es:List Edge) (lb:UInt8) (u v:Nat):Prop:=∃ e∈es,e.label=lb∧e.from'=(u:Int)∧e.to=(v:Int)
def zJS (n:Nat) (a b:Nat→Nat→Prop) (u v:Nat):Prop:=∃ w,w < n∧a u w∧b w v
inductive TC (n:Nat) (R:Nat→Nat→Prop):Nat→Nat→Prop where
 | one {u v:Nat} (h:R u v):TC n R u v
 | more {u w v:Nat} (h:TC n R u w) (hw:w < n) (h2:R w v):TC n R u v
theorem TC.trans {n:Nat} {R:Nat→Nat→Prop} {u w v:Nat} (h:TC n R u w) (hw:w < n) (h2:TC n R w v):TC n R u v:=by
 induction h2 with
 | one h2=>exact .more h hw h2
 | more _ hx h3 ih=>exact .more ih hx h3
def zMd (es:List Edge) (n:Nat) (ps:List Piece):Nat→Nat→Nat→Nat→Prop
 | 0,_=>fun _ _=>False
 | f+1,i=>
  if (ps[i]?.getD default).op=1 then zEJ es (ps[i]?.getD default).label
  else if (ps[i]?.getD default).op=2 then (ps[i]?.getD default).kids.foldl (fun acc k=>zJS n acc (zMd es n ps f k.toNat)) (fun u v=>u=v)
  else if (ps[i]?.getD default).op=3 then fun u v=>∃ k∈(ps[i]?.getD default).kids,zMd es n ps f k.toNat u v
  else if (ps[i]?.getD default).op=4 then fun u v=>u=v∨TC n (zMd es n ps f ((ps[i]?.getD default).kids[0]?.getD 0).toNat) u v
  else if (ps[i]?.getD default).op=5 then TC n (zMd es n ps f ((ps[i]?.getD default).kids[0]?.getD 0).toNat)
  else fun u v=>u=v∨zMd es n ps f ((ps[i]?.getD default).kids[0]?.getD 0).toNat u v
theorem zJf {α β:Type} {f g:α→β→α}:∀ {l:List β} {z:α},(∀ a,∀ x∈l,f a x=g a x)→l.foldl f z=l.foldl g z
 | [],_,_=>rfl
 | x::l,z,h=>by
  rw[List.foldl_cons,List.foldl_cons,h z x (List.mem_cons_self ..)]
  exact zJf fun a y hy=>h a y (List.mem_cons_of_mem _ hy)
def zDt (ps:List Piece):Prop:=∀ i,i < ps.length→((ps[i]?.getD default).op≠1→1≤(ps[i]?.getD default).kids.length)∧∀ k∈(ps[i]?.getD default).kids,0≤k∧k.toNat < i
theorem zYS {es:List Edge} {n:Nat} {ps:List Piece} (hps:zDt ps):∀ (i f g:Nat),i < ps.length→i < f→i < g→zMd es n ps f i=zMd es n ps g i:=by
 intro i
 induction i using Nat.strongRecOn with
 | _ i ih=>
  intro f g hi hf hg
  obtain⟨f',rfl⟩:∃ f',f=f'+1:=⟨f-1,oO⟩
  obtain⟨g',rfl⟩:∃ g',g=g'+1:=⟨g-1,oO⟩
  obtain⟨h1,hk⟩:=hps i hi
  have hkk:∀ k∈(ps[i]?.getD default).kids,zMd es n ps f' k.toNat=zMd es n ps g' k.toNat:=fun k hk'=>by
   have:=hk k hk'
   exact ih k.toNat this.2 f' g' oO oO oO
  unfold zMd
  split
  ·rfl
  rename_i hop
  have h0:((ps[i]?.getD default).kids[0]?.getD 0)∈(ps[i]?.getD default).kids:=by
   have:=h1 hop
   rw[List.getElem?_eq_getElem (l:=(ps[i]?.getD default).kids) oO]
   exact List.getElem_mem _
  split
  ·exact zJf fun a x hx=>by rw[hkk x hx]
  split
  ·funext u v
   refine propext ⟨?_,?_⟩
   ·rintro ⟨k,hk1,hk2⟩;exact⟨k,hk1,by rw[←hkk k hk1];exact hk2⟩
   rintro ⟨k,hk1,hk2⟩;exact⟨k,hk1,by rw[hkk k hk1];exact hk2⟩
  rw[hkk _ h0]
def zA2 (es:List Edge) (n:Nat) (ps:List Piece) (i:Nat):Nat→Nat→Prop:=zMd es n ps (i+1) i
theorem zFr {es:List Edge} {n:Nat} {ps:List Piece} (hps:zDt ps) {i:Nat} (hi:i < ps.length) {k:Int} (hk:k∈(ps[i]?.getD default).kids):zMd es n ps i k.toNat=zA2 es n ps k.toNat:=by
 have:=(hps i hi).2 k hk
 exact zYS hps k.toNat i (k.toNat+1) oO oO oO
theorem zNA {es:List Edge} {n:Nat} {ps:List Piece} {i:Nat} (h:(ps[i]?.getD default).op=1):zA2 es n ps i=zEJ es (ps[i]?.getD default).label:=by
 unfold zA2 zMd;rw[if_pos h]
theorem zQN {es:List Edge} {n:Nat} {ps:List Piece} (hps:zDt ps) {i:Nat} (hi:i < ps.length) (h:(ps[i]?.getD default).op=2):zA2 es n ps i=(ps[i]?.getD default).kids.foldl (fun acc k=>zJS n acc (zA2 es n ps k.toNat)) (fun u v=>u=v):=by
 unfold zA2 zMd
 rw[if_neg oO,if_pos h]
 exact zJf fun a x hx=>by rw[zFr hps hi hx];rfl
theorem zQO {es:List Edge} {n:Nat} {ps:List Piece} (hps:zDt ps) {i:Nat} (hi:i < ps.length) (h:(ps[i]?.getD default).op=3):zA2 es n ps i=fun u v=>∃ k∈(ps[i]?.getD default).kids,zA2 es n ps k.toNat u v:=by
 show zMd es n ps (i+1) i=_
 unfold zMd
 rw[if_neg oO,if_neg oO,if_pos h]
 funext u v
 refine propext ⟨?_,?_⟩
 ·rintro ⟨k,hk1,hk2⟩;exact⟨k,hk1,by rw[←zFr hps hi hk1];exact hk2⟩
 rintro ⟨k,hk1,hk2⟩;exact⟨k,hk1,by rw[zFr hps hi hk1];exact hk2⟩
theorem zOZ {ps:List Piece} (hps:zDt ps) {i:Nat} (hi:i < ps.length) (h:(ps[i]?.getD default).op≠1):((ps[i]?.getD default).kids[0]?.getD 0)∈(ps[i]?.getD default).kids:=by
 have:=(hps i hi).1 h
 rw[List.getElem?_eq_getElem (l:=(ps[i]?.getD default).kids) oO]
 exact List.getElem_mem _
theorem zJg {es:List Edge} {n:Nat} {ps:List Piece} (hps:zDt ps) {i:Nat} (hi:i < ps.length) (h:(ps[i]?.getD default).op=4):zA2 es n ps i=fun u v=>u=v∨TC n (zA2 es n ps ((ps[i]?.getD default).kids[0]?.getD 0).toNat) u v:=by
 show zMd es n ps (i+1) i=_
 unfold zMd
 rw[if_neg oO,if_neg oO,if_neg oO,if_pos h,zFr hps hi (zOZ hps hi oO)]
theorem zNB {es:List Edge} {n:Nat} {ps:List Piece} (hps:zDt ps) {i:Nat} (hi:i < ps.length) (h:(ps[i]?.getD default).op=5):zA2 es n ps i=TC n (zA2 es n ps ((ps[i]?.getD default).kids[0]?.getD 0).toNat):=by
 show zMd es n ps (i+1) i=_
 unfold zMd
 rw[if_neg oO,if_neg oO,if_neg oO,if_neg oO,if_pos h,zFr hps hi (zOZ hps hi oO)]
theorem zLT {es:List Edge} {n:Nat} {ps:List Piece} (hps:zDt ps) {i:Nat} (hi:i < ps.length) (h:(ps[i]?.getD default).op=6):zA2 es n ps i=fun u v=>u=v∨zA2 es n ps ((ps[i]?.getD default).kids[0]?.getD 0).toNat u v:=by
 show zMd es n ps (i+1) i=_
 unfold zMd
 rw[if_neg oO,if_neg oO,if_neg oO,if_neg oO,if_neg oO,zFr hps hi (zOZ hps hi oO)]
def zFW (R:Nat→Nat→Prop):Nat→Nat→Nat→Prop
 | 0=>R
 | k+1=>fun u v=>zFW R k u v∨(zFW R k u k∧zFW R k k v)
theorem zLU {R:Nat→Nat→Prop} {u v:Nat} (h:R u v):∀ k,zFW R k u v
 | 0=>h
 | k+1=>.inl (zLU h k)
theorem zQP {R:Nat→Nat→Prop} {k v:Nat}:zFW R (k+1) k v↔zFW R k k v:=⟨fun h=>h.elim id fun h=>h.2,.inl⟩
theorem z5u {R:Nat→Nat→Prop} {k u:Nat}:zFW R (k+1) u k↔zFW R k u k:=⟨fun h=>h.elim id fun h=>h.1,.inl⟩
theorem zGZ {R:Nat→Nat→Prop}:∀ (K:Nat) {u w v:Nat},w < K→zFW R K u w→zFW R K w v→zFW R K u v
 | 0,_,_,_,h,_,_=>absurd h oO
 | K+1,u,w,v,hw,h1,h2=>by
  rcases (by omega:w < K∨w=K) with h3|rfl
  ·rcases h1 with a1|⟨b1,b2⟩
   ·rcases h2 with a2|⟨c1,c2⟩
    ·exact .inl (zGZ K h3 a1 a2)
    exact .inr ⟨zGZ K h3 a1 c1,c2⟩
   rcases h2 with a2|⟨c1,c2⟩
   ·exact .inr ⟨b1,zGZ K h3 b2 a2⟩
   exact .inr ⟨b1,c2⟩
  exact .inr ⟨z5u.1 h1,zQP.1 h2⟩
theorem zG0 {R:Nat→Nat→Prop} {n:Nat}:∀ (K:Nat) {u v:Nat},K≤n→zFW R K u v→TC n R u v
 | 0,_,_,_,h=>.one h
 | K+1,u,v,hK,h=>by
  rcases h with h|⟨h1,h2⟩
  ·exact zG0 K oO h
  exact (zG0 K oO h1).trans oO (zG0 K oO h2)
theorem z2l {R:Nat→Nat→Prop} {n u v:Nat}:zFW R n u v↔TC n R u v:=by
 refine⟨zG0 n (Nat.le_refl _),fun h=>?_⟩
 induction h with
 | one h=>exact zLU h n
 | more _ hw h2 ih=>exact zGZ n hw ih (zLU h2 n)
def zDI (n:Nat) (R:Nat→Nat→Prop):Nat→Nat→Nat→Prop
 | 0=>R
 | m+1=>fun u v=>zDI n R m u v∨zJS n (zDI n R m) R u v
open Classical in
noncomputable def zV7 (p:Nat→Prop):Nat→Nat
 | 0=>0
 | n+1=>zV7 p n+(if p n then 1 else 0)
open Classical in
theorem zYT (p:Nat→Prop):∀ n,zV7 p n≤n
 | 0=>Nat.le_refl _
 | n+1=>by
  have:=zYT p n
  show zV7 p n+(if p n then 1 else 0)≤_
  split<;>omega
open Classical in
theorem zQQ {p q:Nat→Prop} (h:∀ x,p x→q x):∀ n,zV7 p n≤zV7 q n
 | 0=>Nat.le_refl _
 | n+1=>by
  have:=zQQ h n
  show zV7 p n+(if p n then 1 else 0)≤zV7 q n+(if q n then 1 else 0)
  split
  ·rename_i h1;rw[if_pos (h _ h1)];omega
  split<;>omega
open Classical in
theorem zYU {p q:Nat→Prop} (h:∀ x,p x→q x) {y:Nat} (h1:q y) (h2:¬p y):∀ n,y < n→zV7 p n < zV7 q n
 | 0,hy=>absurd hy oO
 | n+1,hy=>by
  show zV7 p n+(if p n then 1 else 0) < zV7 q n+(if q n then 1 else 0)
  rcases (by omega:y < n∨y=n) with h3|rfl
  ·have:=zYU h h1 h2 n h3
   split
   ·rename_i h4;rw[if_pos (h _ h4)];omega
   split<;>omega
  have:=zQQ h y
  rw[if_neg h2,if_pos h1];omega
theorem zLV {n:Nat} {R:Nat→Nat→Prop} {u v m:Nat} (h:zDI n R m u v):∀ j,zDI n R (m+j) u v
 | 0=>h
 | j+1=>.inl (zLV h j)
theorem zVR {n:Nat} {R:Nat→Nat→Prop} {u m:Nat} (h:∀ v,v < n→zDI n R (m+1) u v→zDI n R m u v) (hR:∀ a b,R a b→a < n∧b < n) {v:Nat} (hv:TC n R u v):zDI n R m u v:=by
 induction hv with
 | one h1=>have:=zLV (m:=0) (show zDI n R 0 _ _ from h1) m;rw[Nat.zero_add] at this;exact this
 | more _ hw h2 ih=>exact h _ (hR _ _ h2).2 (.inr ⟨_,hw,ih,h2⟩)
theorem zNC {n:Nat} {R:Nat→Nat→Prop} {u:Nat} (h:∀ m,m≤n→∃ v,v < n∧zDI n R (m+1) u v∧¬zDI n R m u v):∀ m,m≤n+1→m≤zV7 (fun v=>zDI n R m u v) n
 | 0,_=>Nat.zero_le _
 | m+1,hm=>by
  have ih:=zNC h m oO
  obtain⟨v,hv,h1,h2⟩:=h m oO
  have:=zYU (p:=fun v=>zDI n R m u v) (q:=fun v=>zDI n R (m+1) u v) (fun x hx=>.inl hx) h1 h2 n hv
  omega
theorem zJh {n:Nat} {R:Nat→Nat→Prop}:∀ (m:Nat) {u v:Nat},zDI n R m u v→TC n R u v
 | 0,_,_,h=>.one h
 | m+1,u,v,h=>by
  rcases h with h|⟨w,hw,h1,h2⟩
  ·exact zJh m h
  exact .more (zJh m h1) hw h2
theorem z2m {n:Nat} {R:Nat→Nat→Prop} (hR:∀ a b,R a b→a < n∧b < n) {u v:Nat}:zDI n R n u v↔TC n R u v:=by
 refine⟨zJh n,fun h=>?_⟩
 by_cases hc:∃ m,m≤n∧∀ v,v < n→zDI n R (m+1) u v→zDI n R m u v
 ·obtain⟨m,hm,h1⟩:=hc
  have:=zLV (zVR h1 hR h) (n-m)
  rw[show m+(n-m)=n from oO] at this
  exact this
 have h1:∀ m,m≤n→∃ v,v < n∧zDI n R (m+1) u v∧¬zDI n R m u v:=fun m hm=>by
  refine Classical.byContradiction fun h2=>hc ⟨m,hm,fun v hv h3=>?_⟩
  refine Classical.byContradiction fun h4=>h2 ⟨v,hv,h3,h4⟩
 have h2:=zNC h1 (n+1) (Nat.le_refl _)
 have h3:=zYT (fun v=>zDI n R (n+1) u v) n
 omega
end
section
def z5v (g:Graph) (x:Query) (i:Nat):Nat→Nat→Prop:=zA2 g.edges g.size.toNat (zBd (x.atoms[i]?.getD default).path).pieces ((zBd (x.atoms[i]?.getD default).path).pieces.length-1)
def zJF (g:Graph) (x:Query) (v:List Int) (i:Nat):Prop:=∀ k,k < i→z5v g x k (tv (zAj x.atoms) v (x.atoms[k]?.getD default).from').toNat (tv (zAj x.atoms) v (x.atoms[k]?.getD default).to).toNat
def zIy (g:Graph) (x:Query) (v:List Int):Prop:=zJF g x v x.atoms.length∧zFK (zAj x.atoms) x.filters v x.filters.length=true
theorem zLW {g:Graph} {x:Query} {v:List Int} {i:Nat} (h:zJF g x v i) (h2:z5v g x i (tv (zAj x.atoms) v (x.atoms[i]?.getD default).from').toNat (tv (zAj x.atoms) v (x.atoms[i]?.getD default).to).toNat):zJF g x v (i+1):=zFq h h2
def zDa (g:Graph) (x:Query) (j:Nat):List Int:=zHR g.size.toNat (zAj x.atoms).length j
def z2n (g:Graph) (x:Query) (j:Nat):Item:=⟨x.out.map (tv (zAj x.atoms) (zDa g x j)),1⟩
open Classical in
noncomputable def zCA (g:Graph) (x:Query):Nat→List Item
 | 0=>[]
 | j+1=>if zIy g x (zDa g x j) then zNo (zCA g x j) (z2n g x j) else zCA g x j
open Classical in
theorem zKs {g:Graph} {x:Query} {j:Nat} (h:zIy g x (zDa g x j)):zCA g x (j+1)=zNo (zCA g x j) (z2n g x j):=if_pos h
open Classical in
theorem zSs {g:Graph} {x:Query} {j:Nat} (h:¬zIy g x (zDa g x j)):zCA g x (j+1)=zCA g x j:=if_neg h
theorem zO0 {g:Graph} (hg:1≤g.size∧g.size≤12) (x:Query) (j:Nat):∀ y∈zDa g x j,0≤y∧y < g.size:=fun y hy=>by
 have:=zGY (b:=g.size.toNat) oO _ _ y hy
 omega
theorem z7Q {g:Graph} (hg:1≤g.size∧g.size≤12) (x:Query) (j:Nat) (s:ByteArray):0≤tv (zAj x.atoms) (zDa g x j) s∧tv (zAj x.atoms) (zDa g x j) s < g.size:=by
 unfold tv
 generalize (zIF (zAj x.atoms) s).toNat=k
 by_cases hk:k < (zDa g x j).length
 ·rw[List.getElem?_eq_getElem hk];exact zO0 hg x j _ (List.getElem_mem hk)
 rw[List.getElem?_eq_none oO]
 show (0:Int)≤0∧(0:Int) < g.size
 omega
theorem zYV {g:Graph} (hg:1≤g.size∧g.size≤12) {x:Query} (ho:x.out.length≤4) (j:Nat):pOk x.out.length (z2n g x j):=by
 refine⟨⟨Int.le_refl _,by show (1:Int)≤1000000;decide⟩,zLE (by show (x.out.map _).length≤4;rw[List.length_map];exact ho) fun z hz=>?_,by show (x.out.map _).length=_;rw[List.length_map]⟩
 obtain⟨s,_,rfl⟩:=List.mem_map.1 hz
 have:=z7Q hg x j s
 omega
theorem zGw {g:Graph} (hg:1≤g.size∧g.size≤12) {x:Query} (ho:x.out.length≤4):∀ j,BW x.out.length (zCA g x j)∧(zCA g x j).length≤j
 | 0=>⟨zNp _,Nat.le_refl _⟩
 | j+1=>by
  obtain⟨h1,h2⟩:=zGw hg ho j
  by_cases h:zIy g x (zDa g x j)
  ·rw[zKs h]
   have h3:=zIt (p:=z2n g x j) h1.inv
   exact⟨zYq h1 (zYV hg ho j),oO⟩
  rw[zSs h];exact⟨h1,oO⟩
theorem zQR {g:Graph} (hg:1≤g.size∧g.size≤12) {x:Query} (ho:x.out.length≤4) (j:Nat):∀ d,(zCA g x j).length≤(zCA g x (j+d)).length
 | 0=>Nat.le_refl _
 | d+1=>by
  have ih:=zQR hg ho j d
  have h1:=(zGw hg ho (j+d)).1
  show _≤(zCA g x (j+d+1)).length
  by_cases h:zIy g x (zDa g x (j+d))
  ·rw[zKs h]
   have h3:=zIt (p:=z2n g x (j+d)) h1.inv
   omega
  rw[zSs h];exact ih
def cntV (g:Graph) (x:Query):Nat:=g.size.toNat ^ (zAj x.atoms).length
theorem cntV_le {g:Graph} (hg:1≤g.size∧g.size≤12) {x:Query} (hn:(zAj x.atoms).length≤4):cntV g x≤20736:=by
 unfold cntV
 calc g.size.toNat ^ (zAj x.atoms).length≤12 ^ (zAj x.atoms).length:=Nat.pow_le_pow_left oO _
  _≤12 ^ 4:=Nat.pow_le_pow_right oO hn
  _=20736:=by decide
noncomputable def zMz (g:Graph) (x:Query):List Item:=zCA g x (cntV g x)
open Classical in
noncomputable def zCU (g:Graph) (x:Query):Bag×Bool:=if zAH g=true∧zAS x=true∧(zMz g x).length≤300 then (⟨if x.each=true then (zMz g x).map zFn else zMz g x⟩,true) else (⟨[]⟩,false)
theorem zQS {g:Graph} {x:Query} (h:zAH g=false):zCU g x=(⟨[]⟩,false):=if_neg fun e=>by rw[h] at e;cases e.1
theorem zQT {g:Graph} {x:Query} (h:zAS x=false):zCU g x=(⟨[]⟩,false):=if_neg fun e=>by rw[h] at e;cases e.2.1
theorem zGx {g:Graph} {x:Query} (h:¬(zMz g x).length≤300):zCU g x=(⟨[]⟩,false):=if_neg fun e=>h e.2.2
theorem zYW {g:Graph} {x:Query} (h1:zAH g=true) (h2:zAS x=true) (h3:(zMz g x).length≤300):zCU g x=(⟨if x.each=true then (zMz g x).map zFn else zMz g x⟩,true):=if_pos ⟨h1,h2,h3⟩
theorem zQU {g:Graph} (hg:1≤g.size∧g.size≤12) {x:Query} (ho:x.out.length≤4) {j kp:Nat} (hj:j < cntV g x) (hl:(zCA g x j).length≤300) (hh:zIy g x (zDa g x j)) {r:List Int} (er:r=(z2n g x j).row)
  (hat:zDo r=true∧(0 < (zCA g x j).length→(zBE (zCA g x j) 0).length=r.length)→atR (zCA g x j) r kp) :
  (zEE (zCA g x j) r 1 kp=(zCA g x (j+1),true)∧(zCA g x (j+1)).length≤300)∨((zEE (zCA g x j) r 1 kp).2=false∧¬(zMz g x).length≤300):=by
 have hbw:=(zGw hg ho j).1
 have hp:=zYV hg ho j
 subst er
 have hw:zDo (z2n g x j).row=true∧(0 < (zCA g x j).length→(zBE (zCA g x j) 0).length=(z2n g x j).row.length):=
  ⟨hp.2.1,fun h0=>by rw[(hbw.rows _ (zBU.2 ⟨0,h0,rfl⟩)).2];exact hp.2.2.symm⟩
 have h2:=zIu hbw hl hp (k:=kp) (hat hw)
 rw[show (z2n g x j).times=1 from rfl,←zKs hh] at h2
 by_cases h3:(zCA g x (j+1)).length≤300
 ·rw[if_pos h3] at h2;exact .inl ⟨h2,h3⟩
 rw[if_neg h3] at h2
 refine .inr ⟨by rw[h2],fun h4=>h3 ?_⟩
 have h5:=zQR hg ho (x:=x) (j+1) (cntV g x-(j+1))
 rw[show j+1+(cntV g x-(j+1))=cntV g x from oO] at h5
 exact Nat.le_trans h5 h4
theorem zYX (ys:List Item):zFI (ys.map zFn)=zFI ys:=by
 unfold zFI
 rw[List.map_map]
 exact List.map_congr_left fun p _=>rfl
theorem zUb (ys:List Item) (i:Nat):zBE (ys.map zFn) i=zBE ys i:=by
 unfold zBE
 rw[List.getElem?_map]
 cases ys[i]?<;>rfl
theorem z5w {w:Nat} {ys:List Item} (h:BW w ys):BW w (ys.map zFn):=by
 refine⟨⟨fun i j hij hj=>?_,fun i hi=>?_⟩,fun r hr=>h.rows r (by rwa [zYX] at hr)⟩
 ·rw[zUb,zUb]
  exact h.inv.1 i j hij (by simpa using hj)
 rw[List.getElem?_map]
 have h1:i < ys.length:=by simpa using hi
 rw[List.getElem?_eq_getElem h1]
 show 1≤(1:Int)∧(1:Int)≤1000000
 decide
theorem z2o {g:Graph} (hg:1≤g.size∧g.size≤12) {x:Query} (ho:x.out.length≤4):zJO ⟨if x.each=true then (zMz g x).map zFn else zMz g x⟩=decide ((zMz g x).length≤300):=by
 have hb:=(zGw hg ho (x:=x) (cntV g x)).1
 by_cases h:(zMz g x).length≤300
 ·rw[decide_eq_true h]
  cases he:x.each with
  | true=>exact zFJ.2 ⟨by rw[if_pos rfl,List.length_map];exact h,_,by rw[if_pos rfl];exact z5w hb⟩
  | false=>exact zFJ.2 ⟨h,_,hb⟩
 rw[decide_eq_false h,←Bool.not_eq_true,zFJ]
 rintro ⟨h1,_⟩
 cases he:x.each with
 | true=>rw[he,if_pos rfl,List.length_map] at h1;exact h h1
 | false=>rw[he] at h1;exact h h1
end
end Go.Proofs.YtcnclhjhnjpeiaaGreat
