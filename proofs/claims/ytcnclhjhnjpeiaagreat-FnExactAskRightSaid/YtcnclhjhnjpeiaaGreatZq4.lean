/-
 Parts of the law, put together. Conditions: none.
-/
import Derived.Test.YtcnclhjhnjpeiaaGreatZq3
set_option maxHeartbeats 8000000
set_option linter.unusedSimpArgs false
set_option linter.unusedVariables false
namespace Go.Proofs.YtcnclhjhnjpeiaaGreat
open Go.SX Go.Proofs
open Tryz
section
attribute [local irreducible] IntKind.wrap
theorem zPR {α:Type} {p:α→Bool} {xs:List α} {k:Nat} (z:α) (h:k < xs.length) (hp:p (xs[k]?.getD z)=true):(xs.take (k+1)).filter p=(xs.take k).filter p++[xs[k]?.getD z]:=by
 rw[List.getElem?_eq_getElem h] at hp ⊢
 rw[←List.take_append_getElem h,List.filter_append]
 simp only[Option.getD_some] at hp ⊢
 simp [hp]
theorem zTj {α:Type} {p:α→Bool} {xs:List α} {k:Nat} (z:α) (h:k < xs.length) (hp:p (xs[k]?.getD z)=false):(xs.take (k+1)).filter p=(xs.take k).filter p:=by
 rw[List.getElem?_eq_getElem h] at hp
 rw[←List.take_append_getElem h,List.filter_append]
 simp only[Option.getD_some] at hp
 simp [hp]
def zBl (a b:Arc):Bool:=
 if a.from'=b.from' then (if a.label=b.label then decide (a.to < b.to) else decide ((a.label.toNat:Int) < (b.label.toNat:Int))) else decide (a.from' < b.from')
theorem zET {a b:Arc} (h:¬a.from'=b.from'):zBl a b=decide (a.from' < b.from'):=by unfold zBl;rw[if_neg h]
theorem zEj {a b:Arc} (h:a.from'=b.from') (h2:¬a.label=b.label):zBl a b=decide ((a.label.toNat:Int) < (b.label.toNat:Int)):=by unfold zBl;rw[if_pos h,if_neg h2]
theorem zGL {a b:Arc} (h:a.from'=b.from') (h2:a.label=b.label):zBl a b=decide (a.to < b.to):=by unfold zBl;rw[if_pos h,if_pos h2]
def zV3 (xs:List Arc) (x:Arc):List Arc:=xs.filter (fun y=>zBl y x)++([x]++xs.filter (fun y=>zBl x y))
theorem zIX (l1 l2:List Value) (a b:Arc) :
  Ct prog 205 [.agg ⟨l1⟩,.agg ⟨l2⟩] [] (fun H=>zEr.rd H l1 a∧zEr.rd H l2 b) (fun v A=>v = .bool (zBl a b)∧A=[]):=by
 refine Ct.intro0 zAh func205 rfl rfl rfl fun E H hp=>?_
 obtain⟨hp1,hp2⟩:=hp
 obtain⟨rfl,w0p,w2p⟩:=zEs.1 hp1
 obtain⟨rfl,w0f,w2f⟩:=zEs.1 hp2
 refine⟨fun x0=>?_⟩
 refine⟨fun x1=>?_⟩
 constructor<;>intro q2
 ·simp at q2
  exact⟨[],⟨by rw[zET ‹¬a.from'=b.from'›],rfl⟩,.mem sI⟩
 simp at q2
 constructor<;>intro q3
 ·simp at q3
  simp only[zAR,zBn,zAZ] at q3
  exact⟨[],⟨by rw[zEj ‹a.from'=b.from'› ‹¬a.label=b.label›],rfl⟩,.mem sI⟩
 simp at q3
 simp only[zAR,zBn,zAZ] at q3
 exact⟨[],⟨by rw[zGL ‹a.from'=b.from'› ‹a.label=b.label›],rfl⟩,.mem sI⟩
theorem zXg (b:Option Addr) (m c:Nat) (l:List Value) (xs:List Arc) (e:Arc) (hm:xs.length≤400000000) :
  Ct prog 204 [.slice b m c,.agg ⟨l⟩] [] (fun H=>(gSl 248 zEr).rd H [.slice b m c] xs∧zEr.rd H l e) (fun v A=>∃ b c,v = .slice b (zV3 xs e).length c∧(gSl 248 zEr).ow [.slice b (zV3 xs e).length c] (zV3 xs e) A):=by
 refine Ct.intro0 zAh func204 rfl rfl rfl fun E H hp=>?_
 obtain⟨hp,hp2⟩:=hp
 obtain⟨rfl,hcl,hl⟩:=zAp hp
 obtain⟨rfl,w0f,w2f⟩:=zEs.1 hp2
 refine⟨fun x0=>?_⟩
 refine⟨fun x1=>?_⟩
 apply zAg (α:=(Nat)×(List Arc)×(Hp)×(Option Addr)×(Nat)) zAh [9,10,11,12,15,16,17,18,19,20,21,22,23,24,25,26,27,5,13,14,6] (fun z=>[(6,.v (.int .i64 z.1)),(5,.v (.slice z.2.2.2.1 z.2.1.length z.2.2.2.2))]) (fun z=>[{ id:=x0,cs:=[Value.int IntKind.i64 e.from',Value.int IntKind.u8 (↑e.label.toNat:Int),Value.int IntKind.i64 e.to],ty:=(248:Nat) }]) (fun z=>[z.2.2.1,H]) (fun z=>xs.length-z.1) (fun z=>z.1≤xs.length∧z.2.1=(xs.take z.1).filter (fun x=>zBl x e)∧(gSl 248 zEr).ow [.slice z.2.2.2.1 z.2.1.length z.2.2.2.2] z.2.1 z.2.2.1) ((0,[],[],_,0))
 ·exact frI
 ·exact⟨rfl,trivial⟩
 ·try dsimp only
  exact⟨oO,rfl,zAm _ _ _⟩
 ·exact .tl
 rintro ⟨k,o,A,lb,lc⟩ hI
 try dsimp only at hI
 obtain⟨hk,ho,oA⟩:=hI
 try dsimp only
 constructor<;>intro q2
 ·simp at q2
  have hol:o.length≤k:=by rw[ho];exact Nat.le_trans (List.length_filter_le _ _) (by rw[List.length_take];omega)
  refine zBr zAh zAK none (.q 0 (.q 1 (.q 2 (.q 3 (.q 4 (.f 5 (.nil))))))) (by decide +kernel) ?_
  refine zAf hp ?_ ?_ fun b3 o3 hb3=>?_
  ·omega
  ·omega
  refine zAd default (k) rfl hp ?_ ?_ hb3 rfl (zAa 1 rfl) fun l4 hl4=>?_
  ·omega
  ·omega
  obtain⟨rfl,w0x4,w2x4⟩:=zEs.1 hl4
  refine zAe (zIX _ _ (xs[k]?.getD default) (e)) ⟨(Rp.mono _ (zAa 1 rfl) hl4),(Rp.mono _ (zAa 1 rfl) hp2)⟩ ?_
  rintro _ rfl
  refine VC.intro ?_ ?_
  ·exact fun _ h=>h
  constructor<;>intro q6
  ·refine zAf hp ?_ ?_ fun b7 o7 hb7=>?_
   ·omega
   ·omega
   refine zAd default (k) rfl hp ?_ ?_ hb7 rfl (zAa 1 rfl) fun l8 hl8=>?_
   ·omega
   ·omega
   obtain⟨rfl,w0x8,w2x8⟩:=zEs.1 hl8
   refine⟨fun x9=>?_⟩
   refine zAC (g:=zEr) (T:=248) zAh A _ [H] ?_ oA (zN9 ‹_›) (List.mem_of_getElem? (i:=0) rfl) rfl rfl rfl rfl rfl rfl rfl rfl ?_ fun b10 c10 A10 o10=>?_
   ·exact .tl
   ·omega
   apply zAb (k+1,_,_,_,_)
   ·exact .refl _
   ·exact frI
   ·exact⟨rfl,trivial⟩
   ·try dsimp only
    exact⟨oO,by rw[ho,zPR default oO (by exact ‹zBl _ _=true›)],‹_›⟩
   try dsimp only
   omega
  apply zAb (k+1,_,_,_,_)
  ·exact .refl _
  ·exact frI
  ·exact⟨rfl,trivial⟩
  ·try dsimp only
   exact⟨oO,by rw[ho,zTj default oO (by exact ‹zBl _ _=false›)],‹_›⟩
  try dsimp only
  omega
 simp at q2
 obtain rfl:k=xs.length:=by omega
 rw[List.take_length] at ho
 have hol:o.length≤xs.length:=by rw[ho];exact List.length_filter_le _ _
 refine⟨fun x11=>?_⟩
 refine zAC (g:=zEr) (T:=248) zAh A _ [H] ?_ oA (zN9 ‹_›) (List.mem_of_getElem? (i:=0) rfl) rfl rfl rfl rfl rfl rfl rfl rfl ?_ fun b12 c12 A12 o12=>?_
 ·exact .tl
 ·omega
 apply zAg (α:=(Nat)×(List Arc)×(Hp)×(Option Addr)×(Nat)) zAh [32,33,34,35,38,39,40,41,42,43,44,45,46,47,48,49,50,5,36,37,7] (fun z=>[(7,.v (.int .i64 z.1)),(5,.v (.slice z.2.2.2.1 z.2.1.length z.2.2.2.2))]) (fun z=>[{ id:=x0,cs:=[Value.int IntKind.i64 e.from',Value.int IntKind.u8 (↑e.label.toNat:Int),Value.int IntKind.i64 e.to],ty:=(248:Nat) }]) (fun z=>[z.2.2.1,H]) (fun z=>xs.length-z.1) (fun z=>z.1≤xs.length∧z.2.1=xs.filter (fun x=>zBl x e)++([e]++(xs.take z.1).filter (fun x=>zBl e x))∧(gSl 248 zEr).ow [.slice z.2.2.2.1 z.2.1.length z.2.2.2.2] z.2.1 z.2.2.1) ((0,_,_,_,_))
 ·exact frI
 ·exact⟨rfl,trivial⟩
 ·try dsimp only
  exact⟨oO,by rw[ho];simp,‹_›⟩
 ·exact .refl _
 rintro ⟨k,o,A,lb,lc⟩ hI
 try dsimp only at hI
 obtain⟨hk,ho,oA⟩:=hI
 try dsimp only
 constructor<;>intro q13
 ·simp at q13
  have hol:o.length≤2 * xs.length+1:=by (rw[ho];have h1:=List.length_filter_le (fun x=>zBl x e) xs;have h2:=List.length_filter_le (fun x=>zBl e x) (xs.take k);rw[List.length_take] at h2;simp only[List.length_append,List.length_cons,List.length_nil];omega)
  refine zBr zAh zAK none (.q 0 (.q 1 (.q 2 (.q 3 (.q 4 (.f 5 (.nil))))))) (by decide +kernel) ?_
  refine zAf hp ?_ ?_ fun b14 o14 hb14=>?_
  ·omega
  ·omega
  refine zAd default (k) rfl hp ?_ ?_ hb14 rfl (zAa 1 rfl) fun l15 hl15=>?_
  ·omega
  ·omega
  obtain⟨rfl,w0x15,w2x15⟩:=zEs.1 hl15
  refine zAe (zIX _ _ (e) (xs[k]?.getD default)) ⟨(Rp.mono _ (zAa 1 rfl) hp2),(Rp.mono _ (zAa 1 rfl) hl15)⟩ ?_
  rintro _ rfl
  refine VC.intro ?_ ?_
  ·exact fun _ h=>h
  constructor<;>intro q17
  ·refine zAf hp ?_ ?_ fun b18 o18 hb18=>?_
   ·omega
   ·omega
   refine zAd default (k) rfl hp ?_ ?_ hb18 rfl (zAa 1 rfl) fun l19 hl19=>?_
   ·omega
   ·omega
   obtain⟨rfl,w0x19,w2x19⟩:=zEs.1 hl19
   refine⟨fun x20=>?_⟩
   refine zAC (g:=zEr) (T:=248) zAh A _ [H] ?_ oA (zN9 ‹_›) (List.mem_of_getElem? (i:=0) rfl) rfl rfl rfl rfl rfl rfl rfl rfl ?_ fun b21 c21 A21 o21=>?_
   ·exact .tl
   ·omega
   apply zAb (k+1,_,_,_,_)
   ·exact .refl _
   ·exact frI
   ·exact⟨rfl,trivial⟩
   ·try dsimp only
    exact⟨oO,by rw[ho,zPR default oO (by exact ‹zBl _ _=true›)];simp,‹_›⟩
   try dsimp only
   omega
  apply zAb (k+1,_,_,_,_)
  ·exact .refl _
  ·exact frI
  ·exact⟨rfl,trivial⟩
  ·try dsimp only
   exact⟨oO,by rw[ho,zTj default oO (by exact ‹zBl _ _=false›)],‹_›⟩
  try dsimp only
  omega
 simp at q13
 (have hke:k=xs.length:=oO;subst hke;rw[List.take_length] at ho;subst ho;exact⟨_,⟨_,_,rfl,aA⟩,rlB⟩)
def zG3 (a:Nfa) (i:Nat):Bool:=
 inR 0 (a.states-1) (a.arcs[i]?.getD default).from' && (inR 0 (a.states-1) (a.arcs[i]?.getD default).to && (zBb (a.arcs[i]?.getD default).label && (decide (i=0) || zBl (a.arcs[i-1]?.getD default) (a.arcs[i]?.getD default))))
def zOo (a:Nfa):Bool:=inR 1 24 a.states && (decide ((a.ends.length:Int)=a.states) && zCd (zG3 a) a.arcs.length)
theorem zId {a:Nfa} {k:Nat} (h1:k < a.arcs.length) (h:zG3 a k=false):zOo a=false:=by unfold zOo;rw[zDz h _ h1];simp
theorem zPS {a:Nfa} (h:1≤a.states∧a.states≤24) (h1:(a.ends.length:Int)=a.states) (h2:zCd (zG3 a) a.arcs.length=true):zOo a=true:=by unfold zOo;rw[zAq.2 h,decide_eq_true h1,h2];rfl
theorem zXh {a:Nfa} {i:Nat} (h0:¬i=0) (h:zBl (a.arcs[i-1]?.getD default) (a.arcs[i]?.getD default)=false):zG3 a i=false:=by unfold zG3;rw[h,decide_eq_false h0];simp
theorem zPT {a:Nfa} {i:Nat} (h:¬(97≤((a.arcs[i]?.getD default).label.toNat:Int)∧((a.arcs[i]?.getD default).label.toNat:Int)≤100)):zG3 a i=false:=by
 unfold zG3 zBb;rcases Classical.not_and_iff_not_or_not.1 h with h|h<;>(rw[decide_eq_false h];simp)
theorem zXi {a:Nfa} {i:Nat} (h:inR 0 (a.states-1) (a.arcs[i]?.getD default).to=false):zG3 a i=false:=by unfold zG3;rw[h];simp
theorem zXj {a:Nfa} {i:Nat} (h:inR 0 (a.states-1) (a.arcs[i]?.getD default).from'=false):zG3 a i=false:=by unfold zG3;rw[h];simp
theorem zPU {a:Nfa} {i:Nat} (h1:inR 0 (a.states-1) (a.arcs[i]?.getD default).from'=true) (h2:inR 0 (a.states-1) (a.arcs[i]?.getD default).to=true) (h3:97≤((a.arcs[i]?.getD default).label.toNat:Int)) (h4:((a.arcs[i]?.getD default).label.toNat:Int)≤100) (h5:i=0∨zBl (a.arcs[i-1]?.getD default) (a.arcs[i]?.getD default)=true):zG3 a i=true:=by
 unfold zG3 zBb;rw[h1,h2,decide_eq_true h3,decide_eq_true h4]
 rcases h5 with h|h
 ·rw[decide_eq_true h];rfl
 rw[h];simp
theorem zPV (l:List Value) (a:Nfa):Ct prog 184 [.agg ⟨l⟩] [] (fun H=>zZT.rd H l a) (fun v A=>v = .bool (zOo a)∧A=[]):=by
 refine Ct.intro0 zAh func184 rfl rfl rfl fun E H hp=>?_
 obtain⟨b1p,c1p,b2p,c2p,rfl,w0p,h1p,h2p⟩:=z4r.1 hp
 have hl1:=(zBo (xs:=a.arcs) h1p).2
 refine⟨fun x0=>?_⟩
 refine zAe (zA3 _ _ _) trivial ?_
 rintro _ rfl
 constructor<;>intro q2
 ·simp at q2
  exact⟨[],⟨by unfold zOo;rw[‹inR 1 24 a.states=false›];rfl,rfl⟩,.mem sI⟩
 simp at q2
 have iq2:=zAq.1 q2
 constructor<;>intro q3
 ·simp at q3
  exact⟨[],⟨by unfold zOo;rw[decide_eq_false (by omega:¬(a.ends.length:Int)=a.states)];simp,rfl⟩,.mem sI⟩
 simp at q3
 apply zAg (α:=(Nat)) zAh [17,18,19,20,21,24,25,26,27,28,4,29,30,31,32,33,34,35,36,37,38,39,40,41,42,43,44,45,46,47,48,49,50,51,52,53,54,55,56,57,58,59,60,61,62,63,64,65,66,67,68,69,2,22,23,3] (fun z=>[(3,.v (.int .i64 z))]) (fun z=>[{ id:=x0,cs:=[Value.int IntKind.i64 a.states,Value.slice b1p a.arcs.length c1p,Value.slice b2p a.ends.length c2p],ty:=(198:Nat) }]) (fun z=>[H]) (fun z=>a.arcs.length-z) (fun z=>z≤a.arcs.length∧zCd (zG3 a) z=true) (0)
 ·exact frI
 ·exact⟨rfl,trivial⟩
 ·exact⟨oO,rfl⟩
 ·exact .refl _
 rintro k hI
 obtain⟨hk,ha⟩:k≤a.arcs.length∧zCd (zG3 a) k=true:=hI
 try dsimp only
 constructor<;>intro q4
 ·simp at q4
  refine zAf h1p ?_ ?_ fun b5 o5 hb5=>?_
  ·omega
  ·omega
  refine zAd default (k) rfl h1p ?_ ?_ hb5 rfl (zAa 0 rfl) fun l6 hl6=>?_
  ·omega
  ·omega
  obtain⟨rfl,w0x6,w2x6⟩:=zEs.1 hl6
  refine⟨fun x7=>?_⟩
  refine zBr zAh zAK none (.q 0 (.q 1 (.q 2 (.q 3 (.q 4 (.f 5 (.q 6 (.q 7 (.q 8 (.q 9 (.q 10 (.q 11 (.q 12 (.f 13 (.q 14 (.q 15 (.q 16 (.q 17 (.q 18 (.q 19 (.q 20 (.q 21 (.q 22 (.q 23 (.q 24 (.q 25 (.q 26 (.q 27 (.q 28 (.q 29 (.q 30 (.q 31 (.q 32 (.q 33 (.q 34 (.q 35 (.q 36 (.f 37 (.q 38 (.q 39 (.q 40 (.nil)))))))))))))))))))))))))))))))))))))))))) (by decide +kernel) ?_
  refine zAe (zA3 _ _ _) trivial ?_
  rintro _ rfl
  refine VC.intro ?_ ?_
  ·exact fun _ h=>h
  constructor<;>intro q9
  ·simp at q9
   simp (disch:=omega) only[zAc] at q9
   exact⟨[],⟨by rw[zId (k:=k) oO (zXj aA)],rfl⟩,.mem sI⟩
  simp at q9
  simp (disch:=omega) only[zAc] at q9
  have iq9:=zAq.1 q9
  refine zAe (zA3 _ _ _) trivial ?_
  rintro _ rfl
  refine VC.intro ?_ ?_
  ·exact fun _ h=>h
  constructor<;>intro q11
  ·simp at q11
   simp (disch:=omega) only[zAc] at q11
   exact⟨[],⟨by rw[zId (k:=k) oO (zXi aA)],rfl⟩,.mem sI⟩
  simp at q11
  simp (disch:=omega) only[zAc] at q11
  have iq11:=zAq.1 q11
  constructor<;>intro q12
  ·simp at q12
   exact⟨[],⟨by rw[zId (k:=k) oO (zPT oO)],rfl⟩,.mem sI⟩
  simp at q12
  constructor<;>intro q13
  ·simp at q13
   exact⟨[],⟨by rw[zId (k:=k) oO (zPT oO)],rfl⟩,.mem sI⟩
  simp at q13
  constructor<;>intro q14
  ·simp at q14
   refine zAf h1p ?_ ?_ fun b15 o15 hb15=>?_
   ·(simp (disch:=omega) only[zAc];omega)
   ·(simp (disch:=omega) only[zAc];omega)
   refine zAF default h1p ?_ ?_ hb15 rfl (zAa 0 rfl) fun l16 hl16=>?_
   ·(simp (disch:=omega) only[zAc];omega)
   ·(simp (disch:=omega) only[zAc];omega)
   rw[show (IntKind.i64.wrap ((k:Int)-1)).toNat=k-1 by (simp (disch:=omega) only[zAc];omega)] at hl16
   obtain⟨rfl,w0x16,w2x16⟩:=zEs.1 hl16
   refine zAe (zIX _ _ (a.arcs[k-(1:Nat)]?.getD default) (a.arcs[k]?.getD default)) ⟨(Rp.mono _ (zAa 0 rfl) hl16),(Rp.mono _ (zAa 0 rfl) hl6)⟩ ?_
   rintro _ rfl
   refine VC.intro ?_ ?_
   ·exact fun _ h=>h
   constructor<;>intro q18
   ·simp at q18
    exact⟨[],⟨by rw[zId (k:=k) oO (zXh oO aA)],rfl⟩,.mem sI⟩
   simp at q18
   apply zAb (k+1)
   ·exact .refl _
   ·exact frI
   ·exact⟨rfl,trivial⟩
   ·exact⟨oO,zAG ha (zPU aA aA oO oO (by first|exact .inr aA|exact .inl oO))⟩
   omega
  simp at q14
  apply zAb (k+1)
  ·exact .refl _
  ·exact frI
  ·exact⟨rfl,trivial⟩
  ·exact⟨oO,zAG ha (zPU aA aA oO oO (by first|exact .inr aA|exact .inl oO))⟩
  omega
 simp at q4
 (have hke:k=a.arcs.length:=oO;subst hke;exact⟨[],⟨by rw[zPS oO oO ha],rfl⟩,.mem sI⟩)
end
section
attribute [local irreducible] IntKind.wrap
def zE2 (a:Arc):Nat:=a.from'.toNat * 65536+a.label.toNat * 256+a.to.toNat
def z57 (a:Arc):Prop:=(0≤a.from'∧a.from'≤24)∧(0≤a.to∧a.to≤24)
theorem zIe {a b:Arc} (ha:z57 a) (hb:z57 b):zBl a b=true↔zE2 a < zE2 b:=by
 obtain⟨⟨a1,a2⟩,a3,a4⟩:=ha
 obtain⟨⟨b1,b2⟩,b3,b4⟩:=hb
 have ha:=a.label.toNat_lt
 have hb:=b.label.toNat_lt
 unfold zBl zE2
 split
 ·rename_i h1
  split
  ·rename_i h2;rw[h1,h2,decide_eq_true_iff];omega
  rename_i h2
  have h3:a.label.toNat≠b.label.toNat:=fun e=>h2 (UInt8.toNat_inj.1 e)
  rw[h1,decide_eq_true_iff];omega
 rw[decide_eq_true_iff];omega
def zMr (xs:List Arc):Prop:=xs.Pairwise (fun a b=>zE2 a < zE2 b)∧∀ x∈xs,z57 x
theorem zTk:∀ (xs:List Arc) (lo N:Nat),lo≤N→xs.Pairwise (fun a b=>zE2 a < zE2 b)→(∀ x∈xs,lo≤zE2 x)→(∀ x∈xs,zE2 x < N)→lo+xs.length≤N
 | [],lo,N,h,_,_,_=>by simpa using h
 | x::xs,lo,N,h,hp,h1,h2=>by
  obtain⟨p1,p2⟩:=List.pairwise_cons.1 hp
  have hx:=h1 x (List.mem_cons_self ..)
  have hN:=h2 x (List.mem_cons_self ..)
  have:=zTk xs (zE2 x+1) N oO p2 (fun y hy=>p1 y hy) (fun y hy=>h2 y (List.mem_cons_of_mem _ hy))
  rw[List.length_cons];omega
theorem zXk {xs:List Arc} (h:zMr xs):xs.length≤2000000:=by
 have:=zTk xs 0 2000000 oO h.1 (fun _ _=>Nat.zero_le _) (fun x hx=>by
  obtain⟨⟨a1,a2⟩,a3,a4⟩:=h.2 x hx
  have:=x.label.toNat_lt
  unfold zE2;omega)
 omega
theorem zXl {xs:List Arc} {x:Arc} (h:zMr xs) (hx:z57 x):zMr (zV3 xs x):=by
 have hl:∀ y∈xs.filter (fun y=>zBl y x),zE2 y < zE2 x:=fun y hy=>(zIe (h.2 y (List.mem_filter.1 hy).1) hx).1 (List.mem_filter.1 hy).2
 have hr:∀ y∈xs.filter (fun y=>zBl x y),zE2 x < zE2 y:=fun y hy=>(zIe hx (h.2 y (List.mem_filter.1 hy).1)).1 (List.mem_filter.1 hy).2
 unfold zV3
 refine⟨List.pairwise_append.2 ⟨h.1.filter _,List.pairwise_append.2 ⟨List.pairwise_singleton _ _,h.1.filter _,?_⟩,?_⟩,?_⟩
 ·intro a ha b hb;rw[List.mem_singleton.1 ha];exact hr b hb
 ·intro a ha b hb
  have h1:=hl a ha
  rcases List.mem_append.1 hb with hb|hb
  ·rw[List.mem_singleton.1 hb];exact h1
  exact Nat.lt_trans h1 (hr b hb)
 intro a ha
 rcases List.mem_append.1 ha with ha|ha
 ·exact h.2 a (List.mem_filter.1 ha).1
 rcases List.mem_append.1 ha with ha|ha
 ·rw[List.mem_singleton.1 ha];exact hx
 exact h.2 a (List.mem_filter.1 ha).1
def zLc (lb:List UInt8) (f t:Int):Arc:=⟨f,lb[(t-1).toNat]?.getD default,t⟩
def zIf (lb:List UInt8) (f:Int) (to:List Int) (xs:List Arc):List Arc:=to.foldl (fun acc t=>zV3 acc (zLc lb f t)) xs
def zCk (lb:List UInt8) (fr to:List Int) (xs:List Arc):List Arc:=fr.foldl (fun acc f=>zIf lb f to acc) xs
theorem zM0 {lb:List UInt8} {f:Int} {to:List Int} {xs:List Arc} {k:Nat} (h:k < to.length):zIf lb f (to.take (k+1)) xs=zV3 (zIf lb f (to.take k) xs) (zLc lb f (to[k]?.getD 0)):=by
 unfold zIf;rw[←List.take_append_getElem h,List.foldl_append,List.getElem?_eq_getElem h];rfl
theorem zM1 {lb:List UInt8} {fr to:List Int} {xs:List Arc} {k:Nat} (h:k < fr.length):zCk lb (fr.take (k+1)) to xs=zIf lb (fr[k]?.getD 0) to (zCk lb (fr.take k) to xs):=by
 unfold zCk;rw[←List.take_append_getElem h,List.foldl_append,List.getElem?_eq_getElem h];rfl
def z3j (l:List Int):Prop:=∀ x∈l,0≤x∧x≤24
def zO8 (n:Nat) (l:List Int):Prop:=∀ x∈l,1≤x∧x≤n
theorem zRS {P:Int→Prop} {l:List Int} {k:Nat} (h:∀ x∈l,P x) (hk:k < l.length):P (l[k]?.getD 0):=by
 rw[List.getElem?_eq_getElem hk];exact h _ (List.getElem_mem hk)
theorem zIY {lb:List UInt8} {f:Int} {n:Nat} (hf:0≤f∧f≤24) (hn:n≤24):∀ {to:List Int} {xs:List Arc},zO8 n to→zMr xs→zMr (zIf lb f to xs)
 | [],_,_,h=>h
 | t::to,xs,ht,h=>by
  have h1:=ht t (List.mem_cons_self ..)
  exact zIY (to:=to) hf hn (fun x hx=>ht x (List.mem_cons_of_mem _ hx)) (zXl h ⟨hf,by show 0≤t∧t≤24;omega⟩)
theorem zGM {lb:List UInt8} {n:Nat} {to:List Int} (hn:n≤24) (ht:zO8 n to):∀ {fr:List Int} {xs:List Arc},z3j fr→zMr xs→zMr (zCk lb fr to xs)
 | [],_,_,h=>h
 | f::fr,xs,hf,h=>zGM (fr:=fr) hn ht (fun x hx=>hf x (List.mem_cons_of_mem _ hx)) (zIY (hf f (List.mem_cons_self ..)) hn ht h)
theorem zTl {P:Int→Prop} {l:List Int} (h:∀ x∈l,P x) (k:Nat):∀ x∈l.take k,P x:=fun x hx=>h x (List.mem_of_mem_take hx)
theorem z1g {H:Hp} {lb:List UInt8} {f t:Int} {n:Nat} (hf:0≤f∧f≤24) (ht:1≤t∧t≤n) (hn:n≤24):zEr.rd H [.int .i64 f,.int .u8 ((lb[(t-1).toNat]?.getD default).toNat:Nat),.int .i64 t] (zLc lb f t):=by
 have h1:okI f:=by unfold okI;omega
 have h2:okI t:=by unfold okI;omega
 exact zEs.2 ⟨rfl,h1,h2⟩
theorem zOp (q:Nat) (v0 v3:Value) (bl bf bt:Option Addr) (cl cf ct:Nat) (lb:List UInt8) (fr to:List Int) (b:Option Addr) (c:Nat) (xs:List Arc) (A:Hp) (hA:(gSl 248 zEr).ow [.slice b xs.length c] xs A) (hs:zMr xs) (hf:z3j fr) (ht:zO8 lb.length to) (hn:lb.length≤24) :
  CtR prog 183 [.pointer (some ⟨q,0,none⟩),.slice bf fr.length cf,.slice bt to.length ct] ((q,Obj.cells ⟨[v0,.slice bl lb.length cl,.slice b xs.length c,v3]⟩ 230)::A)
   (fun H=>(gSl 5 gY).rd H [.slice bl lb.length cl] lb∧(gSl 3 gI).rd H [.slice bf fr.length cf] fr∧(gSl 3 gI).rd H [.slice bt to.length ct] to)
   (fun r D=>∃ b c A',r = .tuple #[]∧D=(q,Obj.cells ⟨[v0,.slice bl lb.length cl,.slice b (zCk lb fr to xs).length c,v3]⟩ 230)::A'∧(gSl 248 zEr).ow [.slice b (zCk lb fr to xs).length c] (zCk lb fr to xs) A'):=by
 refine CtR.introB zAh [.p 0 0,.v (.slice bf fr.length cf),.v (.slice bt to.length ct)] [⟨q,[v0,.slice bl lb.length cl,.slice b xs.length c,v3],230⟩] [A] func183 rfl rfl rfl rfl (by simp [SV.ok]) (by simp [Blk.ent]) fun E H hp=>?_
 obtain⟨hpl,hpf,hpt⟩:=hp
 obtain⟨_,hcf,hlf⟩:=zAp hpf
 obtain⟨_,hct,hlt⟩:=zAp hpt
 apply zAg (α:=(Nat)×(Option Addr)×(Nat)×(Hp)) zAh [8,9,10,11,7,14,15,16,17,20,21,22,23,24,25,26,27,28,29,30,31,32,33,34,35,36,37,38,39,40,41,42,43,44,45,46,47,18,19,12,13,6] (fun z=>[(6,.v (.int .i64 z.1))]) (fun z=>[⟨q,[v0,Value.slice bl lb.length cl,.slice z.2.1 (zCk lb (fr.take z.1) to xs).length z.2.2.1,v3],230⟩]) (fun z=>[z.2.2.2,H]) (fun z=>fr.length-z.1) (fun z=>z.1≤fr.length∧(gSl 248 zEr).ow [.slice z.2.1 (zCk lb (fr.take z.1) to xs).length z.2.2.1] (zCk lb (fr.take z.1) to xs) z.2.2.2) ((0,b,c,A))
 ·exact frI
 ·exact⟨rfl,trivial⟩
 ·try dsimp only
  exact⟨Nat.zero_le _,hA⟩
 ·exact .refl _
 rintro ⟨i,b2,c2,B⟩ hI
 try dsimp only at hI
 obtain⟨hi,oB⟩:=hI
 try dsimp only
 constructor<;>intro q0
 ·simp at q0
  have hfi:=zRS hf (by omega:i < fr.length)
  have hsi:=zGM (lb:=lb) hn ht (zTl hf i) hs
  apply zAg (α:=(Nat)×(Option Addr)×(Nat)×(Hp)) zAh [14,15,16,17,20,21,22,23,24,25,26,27,28,29,30,31,32,33,34,35,36,37,38,39,40,41,42,43,44,45,46,47,18,19,7] (fun z=>[(7,.v (.int .i64 z.1))]) (fun z=>[⟨q,[v0,Value.slice bl lb.length cl,.slice z.2.1 (zIf lb (fr[i]?.getD 0) (to.take z.1) (zCk lb (fr.take i) to xs)).length z.2.2.1,v3],230⟩]) (fun z=>[z.2.2.2,H]) (fun z=>to.length-z.1) (fun z=>z.1≤to.length∧(gSl 248 zEr).ow [.slice z.2.1 (zIf lb (fr[i]?.getD 0) (to.take z.1) (zCk lb (fr.take i) to xs)).length z.2.2.1] (zIf lb (fr[i]?.getD 0) (to.take z.1) (zCk lb (fr.take i) to xs)) z.2.2.2) ((0,b2,c2,B))
  ·exact frI
  ·exact⟨rfl,trivial⟩
  ·try dsimp only
   exact⟨Nat.zero_le _,oB⟩
  ·exact .refl _
  rintro ⟨k,b3,c3,C⟩ hI
  try dsimp only at hI
  obtain⟨hk,oC⟩:=hI
  try dsimp only
  constructor<;>intro q1
  ·simp at q1
   have hti:=zRS ht (by omega:k < to.length)
   have hsk:=zXk (zIY (lb:=lb) hfi hn (zTl ht k) hsi)
   refine zBr zAh zAK (some 28) (.q 0 (.q 1 (.q 2 (.q 3 (.q 4 (.q 5 (.q 6 (.q 7 (.q 8 (.q 9 (.q 10 (.q 11 (.q 12 (.q 13 (.q 14 (.q 15 (.q 16 (.q 17 (.q 18 (.q 19 (.q 20 (.q 21 (.q 22 (.q 23 (.q 24 (.f 25 (.q 26 (.q 27 (.tl 28 (.nil)))))))))))))))))))))))))))))) (by decide +kernel) ?_
   refine zAf hpf ?_ ?_ fun b2 o2 hb2=>?_
   ·omega
   ·omega
   refine zAd 0 (i) rfl hpf ?_ ?_ hb2 rfl (zAa 1 rfl) fun l3 hl3=>?_
   ·omega
   ·omega
   obtain⟨rfl,hw3⟩:=hl3;simp only[zAx,zAs,okI] at hw3
   refine zAf hpt ?_ ?_ fun b4 o4 hb4=>?_
   ·omega
   ·omega
   refine zAd 0 (k) rfl hpt ?_ ?_ hb4 rfl (zAa 1 rfl) fun l5 hl5=>?_
   ·omega
   ·omega
   obtain⟨rfl,hw5⟩:=hl5;simp only[zAx,zAs,okI] at hw5
   refine zAf hpl ?_ ?_ fun b6 o6 hb6=>?_
   ·(simp (disch:=omega) only[zAc];omega)
   ·(simp (disch:=omega) only[zAc];omega)
   refine zAF 0 hpl ?_ ?_ hb6 rfl (zAa 1 rfl) fun l7 hl7=>?_
   ·(simp (disch:=omega) only[zAc];omega)
   ·(simp (disch:=omega) only[zAc];omega)
   rw[show (IntKind.i64.wrap ((to[k]?.getD 0)-1)).toNat=((to[k]?.getD 0)-1).toNat by (simp (disch:=omega) only[zAc])] at hl7
   obtain⟨rfl,hw7⟩:=hl7
   refine zAf hpt ?_ ?_ fun b8 o8 hb8=>?_
   ·omega
   ·omega
   refine zAd 0 (k) rfl hpt ?_ ?_ hb8 rfl (zAa 1 rfl) fun l9 hl9=>?_
   ·omega
   ·omega
   obtain⟨rfl,hw9⟩:=hl9;simp only[zAx,zAs,okI] at hw9
   refine zAi (zXg _ _ _ _ (zIf lb (fr[i]?.getD (0:Int)) (List.take k to) (zCk lb (List.take i fr) to xs)) (zLc lb (fr[i]?.getD 0) (to[k]?.getD 0)) ?_) ⟨(Rp.mono _ (zAa 0 rfl) (Gt.owrd _ oC)),z1g hfi hti hn⟩ ?_
   ·omega
   rintro v10 A10 o10
   obtain⟨b10,c10,rfl,o10⟩:=o10
   refine VC.intro ?_ ?_
   ·exact zAA
   apply zAb (k+1,_,_,_)
   ·exact .sub (by repeat (first|exact .slnil|apply List.Sublist.cons_cons|apply List.Sublist.cons))
   ·exact frI
   ·(simp only[zM0 ‹k < to.length›];repeat' (first|exact trivial|refine⟨by first|rfl|simp [Blk.ent],?_⟩))
   ·try dsimp only
    (rw[zM0 oO];exact⟨oO,aA⟩)
   try dsimp only
   omega
  simp at q1
  obtain rfl:k=to.length:=by omega
  apply zAb (i+1,_,_,_)
  ·exact .refl _
  ·exact frI
  ·(simp only[zM1 ‹i < fr.length›,List.take_length];repeat' (first|exact trivial|refine⟨by first|rfl|simp [Blk.ent],?_⟩))
  ·try dsimp only
   (rw[List.take_length] at oC;rw[zM1 oO];exact⟨oO,oC⟩)
  try dsimp only
  omega
 simp at q0
 (have hke:i=fr.length:=oO;subst hke;rw[List.take_length] at oB;exact⟨_,⟨_,_,_,rfl,rfl,oB⟩,rlB⟩)
end
section
structure Look where
 first:List Int
 last:List Int
 null:Bool
deriving Inhabited
abbrev MkS:=List UInt8×List Arc
def zG4 (s:MkS):Bool:=decide (24≤s.1.length)
def zIg (st r:MkS×Look):MkS×Look:=
 ((r.1.1,zCk r.1.1 st.2.last r.2.first r.1.2),⟨if st.2.null=true then st.2.first++r.2.first else st.2.first,if r.2.null=true then st.2.last++r.2.last else r.2.last,st.2.null && r.2.null⟩)
def zOq (st r:MkS×Look):MkS×Look:=(r.1,⟨st.2.first++r.2.first,st.2.last++r.2.last,st.2.null || r.2.null⟩)
def zHF (op:Int) (r:MkS×Look):MkS×Look:=((r.1.1,if op=6 then r.1.2 else zCk r.1.1 r.2.last r.2.first r.1.2),⟨r.2.first,r.2.last,r.2.null || decide (op≠5)⟩)
def zBA (op:Int) (V:Nat→MkS→MkS×Look) (st:MkS×Look) (kid:Int):MkS×Look:=
 if zG4 st.1=true then st else if op=2 then zIg st (V kid.toNat st.1) else if op=3 then zOq st (V kid.toNat st.1) else zHF op (V kid.toNat st.1)
def look (ps:List Piece):Nat→Nat→MkS→MkS×Look
 | 0,_,s=>(s,⟨[],[],false⟩)
 | n+1,i,s=>
  if (ps[i]?.getD default).op=1 then ((s.1++[(ps[i]?.getD default).label],s.2),⟨[((s.1.length+1:Nat):Int)],[((s.1.length+1:Nat):Int)],false⟩)
  else (ps[i]?.getD default).kids.foldl (zBA (ps[i]?.getD default).op (look ps n)) (s,⟨[],[],decide ((ps[i]?.getD default).op=2)⟩)
theorem z1h {P:Arc→Prop} {xs:List Arc} {x:Arc} (h:∀ y∈xs,P y) (hx:P x):∀ y∈zV3 xs x,P y:=by
 intro y hy
 unfold zV3 at hy
 rcases List.mem_append.1 hy with hy|hy
 ·exact h y (List.mem_filter.1 hy).1
 rcases List.mem_append.1 hy with hy|hy
 ·rw[List.mem_singleton.1 hy];exact hx
 exact h y (List.mem_filter.1 hy).1
theorem zPW {P:Arc→Prop} {lb:List UInt8} {f:Int}:∀ {to:List Int} {xs:List Arc},(∀ y∈xs,P y)→(∀ t∈to,P (zLc lb f t))→∀ y∈zIf lb f to xs,P y
 | [],_,h,_=>h
 | t::to,_,h,ht=>zPW (to:=to) (z1h h (ht t (List.mem_cons_self ..))) (fun x hx=>ht x (List.mem_cons_of_mem _ hx))
theorem zPX {P:Arc→Prop} {lb:List UInt8} {to:List Int}:∀ {fr:List Int} {xs:List Arc},(∀ y∈xs,P y)→(∀ f∈fr,∀ t∈to,P (zLc lb f t))→∀ y∈zCk lb fr to xs,P y
 | [],_,h,_=>h
 | f::fr,_,h,ht=>zPX (fr:=fr) (zPW h (ht f (List.mem_cons_self ..))) (fun x hx=>ht x (List.mem_cons_of_mem _ hx))
def zIZ (s:MkS):Prop:=zMr s.2∧(∀ b∈s.1,zBb b=true)∧∀ x∈s.2,zBb x.label=true∧x.from'≤s.1.length∧x.to≤s.1.length
theorem zLd {lb:List UInt8} {fr to:List Int} {xs:List Arc} (h:zIZ (lb,xs)) (hn:lb.length≤24) (hf:∀ f∈fr,0≤f∧f≤(lb.length:Int)) (ht:zO8 lb.length to):zIZ (lb,zCk lb fr to xs):=by
 refine⟨zGM hn ht (fun f h1=>?_) h.1,h.2.1,zPX h.2.2 (fun f h1 t h2=>?_)⟩
 ·have:=hf f h1;omega
 have a1:=hf f h1
 have a2:=ht t h2
 refine⟨?_,a1.2,a2.2⟩
 show zBb (lb[(t-1).toNat]?.getD default)=true
 rw[List.getElem?_eq_getElem oO]
 exact h.2.1 _ (List.getElem_mem _)
def zE3 (s:MkS) (c:Nat) (r:MkS×Look):Prop:=
 zIZ r.1∧r.1.1.length=min 24 (s.1.length+c)∧zO8 r.1.1.length r.2.first∧zO8 r.1.1.length r.2.last∧r.2.first.length+s.1.length≤r.1.1.length∧r.2.last.length+s.1.length≤r.1.1.length
theorem zGh {a b:Nat} {l:List Int} (h:zO8 a l) (hab:a≤b):zO8 b l:=fun x hx=>by have:=h x hx;omega
theorem zKa {n:Nat} {a b:List Int} (ha:zO8 n a) (hb:zO8 n b):zO8 n (a++b):=fun x hx=>(List.mem_append.1 hx).elim (ha x) (hb x)
theorem zM2 {s:MkS} {c d:Nat} {st r:MkS×Look} (h:zE3 s c st) (hr:zE3 st.1 d r):zE3 s (c+d) (zIg st r):=by
 obtain⟨h1,h2,h3,h4,h5,h6⟩:=h
 obtain⟨g1,g2,g3,g4,g5,g6⟩:=hr
 have hm:st.1.1.length≤r.1.1.length:=by omega
 have hs:s.1.length≤st.1.1.length:=by omega
 refine⟨zLd g1 oO (fun f hf=>by have:=h4 f hf;omega) g3,by show r.1.1.length=_;omega,?_,?_,?_,?_⟩
 ·show zO8 r.1.1.length (if _ then _ else _)
  split
  ·exact zKa (zGh h3 hm) g3
  exact zGh h3 hm
 ·show zO8 r.1.1.length (if _ then _ else _)
  split
  ·exact zKa (zGh h4 hm) g4
  exact g4
 ·show (if _ then _ else _:List Int).length+s.1.length≤r.1.1.length
  split
  ·rw[List.length_append];omega
  omega
 show (if _ then _ else _:List Int).length+s.1.length≤r.1.1.length
 split
 ·rw[List.length_append];omega
 omega
theorem zM3 {s:MkS} {c d:Nat} {st r:MkS×Look} (h:zE3 s c st) (hr:zE3 st.1 d r):zE3 s (c+d) (zOq st r):=by
 obtain⟨h1,h2,h3,h4,h5,h6⟩:=h
 obtain⟨g1,g2,g3,g4,g5,g6⟩:=hr
 have hm:st.1.1.length≤r.1.1.length:=by omega
 refine⟨g1,by show r.1.1.length=_;omega,zKa (zGh h3 hm) g3,zKa (zGh h4 hm) g4,?_,?_⟩
 ·show (st.2.first++r.2.first).length+s.1.length≤r.1.1.length
  rw[List.length_append];omega
 show (st.2.last++r.2.last).length+s.1.length≤r.1.1.length
 rw[List.length_append];omega
theorem zM4 {s:MkS} {c:Nat} {op:Int} {r:MkS×Look} (hr:zE3 s c r):zE3 s c (zHF op r):=by
 obtain⟨g1,g2,g3,g4,g5,g6⟩:=hr
 refine⟨?_,g2,g3,g4,g5,g6⟩
 unfold zHF
 split
 ·exact g1
 exact zLd g1 oO (fun f hf=>by have:=g4 f hf;omega) g3
theorem zM5 {s:MkS} {e:Bool} (h:zIZ s) (hs:s.1.length≤23):zE3 s 0 (s,⟨[],[],e⟩):=⟨h,by show s.1.length=_;omega,(fun _ h=>by cases h),(fun _ h=>by cases h),Nat.le_of_eq (Nat.zero_add _),Nat.le_of_eq (Nat.zero_add _)⟩
theorem zVn {s:MkS} {b:UInt8} (h:zIZ s) (hb:zBb b=true):zIZ (s.1++[b],s.2):=by
 refine⟨h.1,?_,?_⟩
 ·intro x hx
  rcases List.mem_append.1 hx with hx|hx
  ·exact h.2.1 x hx
  rw[List.mem_singleton.1 hx];exact hb
 intro x hx
 have:=h.2.2 x hx
 refine⟨this.1,?_,?_⟩<;>(show _≤(((s.1++[b]).length:Nat):Int);rw[List.length_append,List.length_singleton];omega)
theorem zPY {s:MkS} {c d:Nat} {st:MkS×Look} (h:zE3 s c st) (hb:zG4 st.1=true):zE3 s (c+d) st:=by
 obtain⟨h1,h2,h3,h4,h5,h6⟩:=h
 have:=of_decide_eq_true hb
 exact⟨h1,oO,h3,h4,h5,h6⟩
theorem zOr {s:MkS} (h:¬zG4 s=true):s.1.length≤23:=by unfold zG4 at h;rw[decide_eq_true_iff] at h;omega
theorem zRT {ps:List Piece} (hp:zGg ps) {i:Nat} (hi:i < ps.length) (h:(ps[i]?.getD default).op=1):zBb (ps[i]?.getD default).label=true:=by
 rcases zAP.1 (hp i hi) with h1|h1|h1
 ·unfold zBb;rw[Bool.and_eq_true,decide_eq_true_iff,decide_eq_true_iff];have:=h1.2;omega
 ·omega
 omega
theorem zFm (ps:List Piece):∀ (n i:Nat) (s:MkS),zIZ s→s.1.length≤23→zGg ps→i < ps.length→i < n→zE3 s (zDe ps n i) (look ps n i s)
 | 0,i,s,_,_,_,_,h=>by omega
 | n+1,i,s,hg,hs,hp,hi,hn=>by
  have hk:=zAP.1 (hp i hi)
  have hkid:(ps[i]?.getD default).op≠1→∀ k∈(ps[i]?.getD default).kids,k.toNat < i:=by
   intro h1 k hk2
   have h3:zBs (ps[i]?.getD default).kids i=true:=by
    rcases hk with h|h|h
    ·exact absurd h.1 h1
    ·exact h.2.2.2
    exact h.2.2.2
   unfold zBs at h3
   have:=zAq.1 (List.all_eq_true.1 h3 k hk2)
   omega
  have hfold:∀ (S:MkS×Look→Int→MkS×Look),(∀ c st kid,kid.toNat < i→zE3 s c st→zE3 s (c+zDe ps n kid.toNat) (S st kid))→∀ (l:List Int),(∀ k∈l,k.toNat < i)→∀ c st,zE3 s c st→zE3 s (c+zFX (zDe ps n) l) (l.foldl S st):=by
   intro S hS l
   induction l with
   | nil=>intro _ c st h;exact h
   | cons k l ih=>
    intro hl c st h
    have:=ih (fun k hk=>hl k (List.mem_cons_of_mem _ hk)) (c+zDe ps n k.toNat) (S st k) (hS c st k (hl k (List.mem_cons_self ..)) h)
    rw[List.foldl_cons,show c+zFX (zDe ps n) (k::l)=c+zDe ps n k.toNat+zFX (zDe ps n) l by simp only[zFX];omega]
    exact this
  unfold look zDe
  split
  ·rename_i h1
   have e:(s.1++[(ps[i]?.getD default).label]).length=s.1.length+1:=by rw[List.length_append,List.length_singleton]
   refine⟨zVn hg (zRT hp hi h1),by show (s.1++[_]).length=_;omega,?_,?_,?_,?_⟩
   ·intro x hx;rw[List.mem_singleton.1 hx];show (1:Int)≤((s.1.length+1:Nat):Int)∧((s.1.length+1:Nat):Int)≤(((s.1++[_]).length:Nat):Int);omega
   ·intro x hx;rw[List.mem_singleton.1 hx];show (1:Int)≤((s.1.length+1:Nat):Int)∧((s.1.length+1:Nat):Int)≤(((s.1++[_]).length:Nat):Int);omega
   ·show 1+s.1.length≤(s.1++[_]).length;omega
   show 1+s.1.length≤(s.1++[_]).length;omega
  rename_i h1
  by_cases h23:(ps[i]?.getD default).op=2∨(ps[i]?.getD default).op=3
  ·have:=hfold (zBA (ps[i]?.getD default).op (look ps n)) (fun c st kid hk2 h=>by
    unfold zBA
    split
    ·rename_i hb;exact zPY h hb
    rename_i hb
    have hv:=zFm ps n kid.toNat st.1 h.1 (zOr hb) hp oO oO
    split
    ·exact zM2 h hv
    rw[if_pos oO];exact zM3 h hv) _ (hkid h1) 0 _ (zM5 (e:=decide ((ps[i]?.getD default).op=2)) hg hs)
   rwa [Nat.zero_add] at this
  have h4:(ps[i]?.getD default).kids.length=1:=by
   rcases hk with h|h|h
   ·exact absurd h.1 h1
   ·omega
   exact h.2.2.1
  obtain⟨k,hk1⟩:=List.length_eq_one_iff.1 h4
  have hlt:=hkid h1 k (by rw[hk1];exact List.mem_singleton.2 rfl)
  rw[hk1]
  show zE3 s (zDe ps n k.toNat+0) (zBA _ _ _ _)
  unfold zBA
  have hnb:¬zG4 s=true:=by unfold zG4;rw[decide_eq_true_iff];omega
  rw[if_neg hnb,if_neg oO,if_neg oO]
  exact zM4 (zFm ps n k.toNat s hg hs hp oO oO)
end
section
attribute [local irreducible] IntKind.wrap
def z4J (ps:List Piece) (n:Nat):Prop:=
 ∀ (q:Nat) (ki:Int) (i:Nat) (lb:List UInt8) (fo:List Nat) (bp bl bf:Option Addr) (cp cl cf:Nat) (AL AF:Hp),ki=i→i < ps.length→i < n→zRl (lb,fo)→lb.length+zDe ps n i≤23 →
  (gSl 5 gY).ow [.slice bl lb.length cl] lb AL→(gSl 186 gU).ow [.slice bf fo.length cf] fo AF →
  CtR prog 212 [.pointer (some ⟨q,0,none⟩),.int .i64 ki] ((q,Obj.cells ⟨[.slice bp ps.length cp,.slice bl lb.length cl,.slice bf fo.length cf]⟩ 252)::(AL++AF)) (fun H=>(gSl 210 zBp).rd H [.slice bp ps.length cp] ps)
   (fun v D=>∃ bl' cl' bf' cf' AL' AF',v = .agg ⟨[.int .u32 ((zA5 ps n i (lb,fo)).2.first:Nat),.int .u32 ((zA5 ps n i (lb,fo)).2.last:Nat),.bool (zA5 ps n i (lb,fo)).2.empty]⟩ ∧
    D=(q,Obj.cells ⟨[.slice bp ps.length cp,.slice bl' (zA5 ps n i (lb,fo)).1.1.length cl',.slice bf' (zA5 ps n i (lb,fo)).1.2.length cf']⟩ 252)::(AL'++AF') ∧
    (gSl 5 gY).ow [.slice bl' (zA5 ps n i (lb,fo)).1.1.length cl'] (zA5 ps n i (lb,fo)).1.1 AL'∧(gSl 186 gU).ow [.slice bf' (zA5 ps n i (lb,fo)).1.2.length cf'] (zA5 ps n i (lb,fo)).1.2 AF')
theorem z4K {L:Nat} (h:L < 32):IntKind.u32.wrap (1 * 2 ^ min (IntKind.u64.wrap (IntKind.i64.wrap (((L+1:Nat):Int)-1))).toNat IntKind.u32.bits)=((2 ^ L:Nat):Int):=by
 have e1:IntKind.i64.wrap (((L+1:Nat):Int)-1)=(L:Int):=by rw[zAc oO oO];omega
 have e2:(IntKind.u64.wrap (L:Int)).toNat=L:=by rw[zV2];omega
 have h2:=zEi (a:=L) (b:=31) oO
 rw[e1,e2,show min L IntKind.u32.bits=L from Nat.min_eq_left (by show L≤32;omega),zC5,Int.one_mul]
 have h3:((2 ^ L:Nat):Int)=(2:Int) ^ L:=by push_cast;rfl
 rw[←h3]
 generalize 2 ^ L=x at h2 ⊢
 omega
theorem z4L {lb:List UInt8} {x:UInt8} (h:lb.length < 32):IntKind.u32.wrap (1 * 2 ^ min (IntKind.u64.wrap (IntKind.i64.wrap ((((lb++[x]).length:Nat):Int)-1))).toNat IntKind.u32.bits)=((2 ^ lb.length:Nat):Int):=by
 rw[List.length_append,List.length_singleton];exact z4K h
theorem zFT {x a:Nat} (h:x < 2 ^ a) (ha:a≤32):x < 4294967296:=Nat.lt_of_lt_of_le h (zEi ha)
theorem zGi {b:Nat} (hb:b < 4294967296):IntKind.u32.wrap (((BitVec.ofInt IntKind.u32.bits 0 ||| BitVec.ofInt IntKind.u32.bits ((b:Nat):Int)).toNat:Nat):Int)=((b:Nat):Int):=by
 have:=zDu (a:=0) (b:=b) oO hb
 rw[Nat.zero_or] at this;exact this
theorem z1i {e:Nat×Obj} {A B:Hp}:(e::(A++B)).Perm (e::[A,B].flatten):=by simp
theorem zM6 {ps:List Piece} {n i:Nat} {s:Pos} (h:(ps[i]?.getD default).op=1):zA5 ps (n+1) i s=((s.1++[(ps[i]?.getD default).label],s.2++[0]),⟨2 ^ s.1.length,2 ^ s.1.length,false⟩):=by unfold zA5;rw[if_pos h]
def zDK (ps:List Piece) (n:Nat) (s:Pos) (l:List Int):Pos×Span:=l.foldl (zHD (zA5 ps n)) (s,⟨0,0,true⟩)
def zE8 (ps:List Piece) (n:Nat) (s:Pos) (l:List Int):Pos×Span:=l.foldl (zHE (zA5 ps n)) (s,⟨0,0,false⟩)
theorem zPZ {ps:List Piece} {n i:Nat} {s:Pos} (h:(ps[i]?.getD default).op=2):zA5 ps (n+1) i s=zDK ps n s (ps[i]?.getD default).kids:=by unfold zA5;rw[if_neg oO,if_pos h];rfl
theorem zP0 {ps:List Piece} {n i:Nat} {s:Pos} (h:(ps[i]?.getD default).op=3):zA5 ps (n+1) i s=zE8 ps n s (ps[i]?.getD default).kids:=by unfold zA5;rw[if_neg oO,if_neg oO,if_pos h];rfl
theorem zP1 {ps:List Piece} {n i:Nat} {s:Pos} (h:¬(ps[i]?.getD default).op=1) (h2:¬(ps[i]?.getD default).op=2) (h3:¬(ps[i]?.getD default).op=3):zA5 ps (n+1) i s=zED (ps[i]?.getD default).op (zA5 ps n ((ps[i]?.getD default).kids[0]?.getD 0).toNat s):=by
 conv=>lhs;unfold zA5
 rw[if_neg h,if_neg h2,if_neg h3]
theorem zP2 {ps:List Piece} {n:Nat} {s:Pos} {l:List Int} {j:Nat} (hj:j < l.length):zDK ps n s (l.take (j+1))=zHD (zA5 ps n) (zDK ps n s (l.take j)) (l[j]?.getD 0):=by
 unfold zDK;rw[←List.take_append_getElem hj,List.foldl_append,List.getElem?_eq_getElem hj];rfl
theorem zP3 {ps:List Piece} {n:Nat} {s:Pos} {l:List Int} {j:Nat} (hj:j < l.length):zE8 ps n s (l.take (j+1))=zHE (zA5 ps n) (zE8 ps n s (l.take j)) (l[j]?.getD 0):=by
 unfold zE8;rw[←List.take_append_getElem hj,List.foldl_append,List.getElem?_eq_getElem hj];rfl
theorem zKb {ps:List Piece} {n:Nat} {s:Pos}:zDK ps n s []=(s,⟨0,0,true⟩):=rfl
theorem zKc {ps:List Piece} {n:Nat} {s:Pos}:zE8 ps n s []=(s,⟨0,0,false⟩):=rfl
def zP4 (st v:Pos×Span):Pos×Span:=((v.1.1,zRR v.1.2 st.2.last v.2.first),⟨if st.2.empty=true then st.2.first ||| v.2.first else st.2.first,(if v.2.empty=true then st.2.last else 0) ||| v.2.last,st.2.empty && v.2.empty⟩)
def zXm (st v:Pos×Span):Pos×Span:=(v.1,⟨st.2.first ||| v.2.first,st.2.last ||| v.2.last,st.2.empty || v.2.empty⟩)
theorem zFB {ps:List Piece} (hps:zGg ps) {i j:Nat} (hi:i < ps.length) (h:¬(ps[i]?.getD default).op=1) (hj:j < (ps[i]?.getD default).kids.length):0≤((ps[i]?.getD default).kids[j]?.getD 0)∧((ps[i]?.getD default).kids[j]?.getD 0) < i:=by
 have h3:zBs (ps[i]?.getD default).kids i=true:=by
  rcases zAP.1 (hps i hi) with h1|h1|h1
  ·exact absurd h1.1 h
  ·exact h1.2.2.2
  exact h1.2.2.2
 unfold zBs at h3
 rw[List.getElem?_eq_getElem hj]
 have:=zAq.1 (List.all_eq_true.1 h3 _ (List.getElem_mem hj))
 simp only[Option.getD_some];omega
theorem zXn (x:Int):(x != 5)=decide (x≠5):=by by_cases h:x=5<;>simp [h]
theorem z7k {b:Bool} (h:b=false) (x:Int):(x != 5)=(b || decide (x≠5)):=by subst h;rw[Bool.false_or];exact zXn x
theorem zTm {ps:List Piece} (hps:zGg ps) {i:Nat} (hi:i < ps.length) (h:¬(ps[i]?.getD default).op=1) (h2:¬(ps[i]?.getD default).op=2) (h3:¬(ps[i]?.getD default).op=3):(ps[i]?.getD default).kids.length=1:=by
 rcases zAP.1 (hps i hi) with h1|h1|h1
 ·exact absurd h1.1 h
 ·omega
 exact h1.2.2.1
theorem z4M {f:Nat→Nat} {l:List Int} (h:l.length=1):zFX f l=f (l[0]?.getD 0).toNat:=by
 obtain⟨k,rfl⟩:=List.length_eq_one_iff.1 h
 rfl
theorem zKd {ps:List Piece} {n i:Nat} (h:¬(ps[i]?.getD default).op=1):zDe ps (n+1) i=zFX (zDe ps n) (ps[i]?.getD default).kids:=by
 conv=>lhs;unfold zDe
 rw[if_neg h]
theorem zP5 {ps:List Piece} (hps:zGg ps) {n i:Nat} (hi:i < ps.length) (hin:i < n+1) {s:Pos} (hg:zRl s) (h:¬(ps[i]?.getD default).op=1):∀ j,zMq s (zFX (zDe ps n) ((ps[i]?.getD default).kids.take j)) (zDK ps n s ((ps[i]?.getD default).kids.take j))
 | 0=>zFl hg
 | j+1=>by
  have ih:=zP5 hps hi hin hg h j
  rcases Nat.lt_or_ge j (ps[i]?.getD default).kids.length with hj|hj
  ·rw[zP2 hj,(zFk _ _ j hj).2]
   have hk:=zFB hps hi h hj
   exact zOm ih (zB0 ps n _ _ ih.1 hps oO oO)
  rw[List.take_of_length_le oO] at ih ⊢;exact ih
theorem zP6 {ps:List Piece} (hps:zGg ps) {n i:Nat} (hi:i < ps.length) (hin:i < n+1) {s:Pos} (hg:zRl s) (h:¬(ps[i]?.getD default).op=1):∀ j,zMq s (zFX (zDe ps n) ((ps[i]?.getD default).kids.take j)) (zE8 ps n s ((ps[i]?.getD default).kids.take j))
 | 0=>zFl hg
 | j+1=>by
  have ih:=zP6 hps hi hin hg h j
  rcases Nat.lt_or_ge j (ps[i]?.getD default).kids.length with hj|hj
  ·rw[zP3 hj,(zFk _ _ j hj).2]
   have hk:=zFB hps hi h hj
   exact zOn ih (zB0 ps n _ _ ih.1 hps oO oO)
  rw[List.take_of_length_le oO] at ih ⊢;exact ih
attribute [local irreducible] zA5 zDK zE8 zDe zFX zRR
theorem zVo (ps:List Piece) (n:Nat) (hps:zGg ps) (hlen:ps.length≤60) (hI:z4J ps n):z4J ps (n+1):=by
 intro q ki i lb fo bp bl bf cp cl cf AL AF hki hi hin hg hcnt hL hF
 subst hki
 refine CtR.introB zAh [.p 0 0,.v (.int .i64 (i:Int))] [⟨q,[.slice bp ps.length cp,.slice bl lb.length cl,.slice bf fo.length cf],252⟩] [AL,AF] func212 rfl rfl rfl rfl (by simp [SV.ok]) (by simp [Blk.ent]) fun E H hp=>?_
 have hfl:lb.length=fo.length:=hg.1
 have hpk:=zAP.1 (hps i hi)
 refine⟨fun x0=>?_⟩
 refine zAf hp ?_ ?_ fun b1 o1 hb1=>?_
 ·omega
 ·omega
 refine zAd default (i) rfl hp ?_ ?_ hb1 rfl (zAa 2 rfl) fun l2 hl2=>?_
 ·omega
 ·omega
 obtain⟨b2x2,c2x2,rfl,w0x2,h2x2⟩:=zCX.1 hl2
 refine⟨fun x3=>?_⟩
 constructor<;>intro q4
 ·simp at q4
  refine zBr zAh zAK (some 8) (.q 0 (.q 1 (.q 2 (.q 3 (.q 4 (.q 5 (.q 6 (.f 7 (.tl 8 (.f 9 (.f 10 (.f 11 (.nil))))))))))))) (by decide +kernel) ?_
  refine⟨fun x5=>?_⟩
  refine VC.intro ?_ ?_
  ·exact zAA
  refine zAC (g:=gY) (T:=5) zAh AL [] [AF,H] ?_ hL ( z7d trivial) (List.mem_of_getElem? (i:=0) rfl) rfl rfl rfl rfl rfl rfl rfl rfl ?_ fun b6 c6 A6 o6=>?_
  ·exact .tl
  ·omega
  refine⟨fun x7=>?_⟩
  refine zAC (g:=gU) (T:=186) zAh AF [] [A6,H] ?_ hF (zVk (x:=0) ?_) (List.mem_of_getElem? (i:=0) rfl) rfl rfl rfl rfl rfl rfl rfl rfl ?_ fun b8 c8 A8 o8=>?_
  ·exact rlA
  ·trivial
  ·omega
  refine VC.intro ?_ ?_
  ·(rw[zV2];omega)
  (rw[zM6 ‹(ps[i]?.getD default).op=1›,z4L oO];exact⟨_,⟨_,_,_,_,_,_,rfl,rfl,aA,aA⟩,rlB⟩)
 simp at q4
 constructor<;>intro q9
 ·simp at q9
  refine⟨fun x10=>?_⟩
  apply zAg (α:=(Nat)×(Hp)×(Option Addr)×(Nat)×(Hp)×(Option Addr)×(Nat)) zAh [66,67,68,9,69,70,71,10,72,73,74,75,76,77,78,79,80,81,82,83,84,85,86,87,88,89,90,91,92,93,94,95,96,97,98,99,100,101,102,103,65] (fun z=>[(65,.v (.int .i64 z.1))]) (fun z=>[⟨q,[Value.slice bp ps.length cp,.slice z.2.2.1 (zDK ps n (lb,fo) ((ps[i]?.getD default).kids.take z.1)).1.1.length z.2.2.2.1,.slice z.2.2.2.2.2.1 (zDK ps n (lb,fo) ((ps[i]?.getD default).kids.take z.1)).1.2.length z.2.2.2.2.2.2],252⟩,⟨x0,[Value.int IntKind.u32 (0:Int),Value.int IntKind.u32 (0:Int),Value.bool false],(254:Nat)⟩,⟨x3,[Value.int IntKind.i64 (ps[i]?.getD default).op,Value.int IntKind.u8 (↑(ps[i]?.getD default).label.toNat:Int),Value.slice b2x2 (ps[i]?.getD default).kids.length c2x2],(210:Nat)⟩,⟨x10,[.int .u32 ((zDK ps n (lb,fo) ((ps[i]?.getD default).kids.take z.1)).2.first:Nat),.int .u32 ((zDK ps n (lb,fo) ((ps[i]?.getD default).kids.take z.1)).2.last:Nat),.bool (zDK ps n (lb,fo) ((ps[i]?.getD default).kids.take z.1)).2.empty],(254:Nat)⟩]) (fun z=>[z.2.1,z.2.2.2.2.1,H]) (fun z=>(ps[i]?.getD default).kids.length-z.1) (fun z=>z.1≤(ps[i]?.getD default).kids.length∧(gSl 5 gY).ow [.slice z.2.2.1 (zDK ps n (lb,fo) ((ps[i]?.getD default).kids.take z.1)).1.1.length z.2.2.2.1] (zDK ps n (lb,fo) ((ps[i]?.getD default).kids.take z.1)).1.1 z.2.1∧(gSl 186 gU).ow [.slice z.2.2.2.2.2.1 (zDK ps n (lb,fo) ((ps[i]?.getD default).kids.take z.1)).1.2.length z.2.2.2.2.2.2] (zDK ps n (lb,fo) ((ps[i]?.getD default).kids.take z.1)).1.2 z.2.2.2.2.1) ((0,AL,bl,cl,AF,bf,cf))
  ·exact frI
  ·(simp only[List.take_zero,zKb,zKc];repeat' (first|exact trivial|refine⟨by first|rfl|simp [Blk.ent],?_⟩))
  ·try dsimp only
   (simp only[List.take_zero,zKb,zKc];exact⟨Nat.zero_le _,hL,hF⟩)
  ·exact .refl _
  rintro ⟨j,L,bl2,cl2,F,bf2,cf2⟩ hI
  try dsimp only at hI
  obtain⟨hj,oL,oF⟩:=hI
  try dsimp only
  constructor<;>intro q11
  ·simp at q11
   have hsum:=zFk (zDe ps n) (ps[i]?.getD default).kids j oO
   have hkd:=zFB hps hi aA (by omega:j < (ps[i]?.getD default).kids.length)
   have hfine:=zP5 hps hi hin hg aA j
   have hfl2:(zDK ps n (lb,fo) ((ps[i]?.getD default).kids.take j)).1.1.length=lb.length+zFX (zDe ps n) ((ps[i]?.getD default).kids.take j):=hfine.2.1
   have hck:=zKd (ps:=ps) (n:=n) (i:=i) aA
   have hV:=zB0 ps n ((ps[i]?.getD default).kids[j]?.getD 0).toNat ((zDK ps n (lb,fo) ((ps[i]?.getD default).kids.take j)).1.1,(zDK ps n (lb,fo) ((ps[i]?.getD default).kids.take j)).1.2) hfine.1 hps oO oO
   have hv1:(zA5 ps n ((ps[i]?.getD default).kids[j]?.getD 0).toNat ((zDK ps n (lb,fo) ((ps[i]?.getD default).kids.take j)).1.1,(zDK ps n (lb,fo) ((ps[i]?.getD default).kids.take j)).1.2)).1.1.length=(zDK ps n (lb,fo) ((ps[i]?.getD default).kids.take j)).1.1.length+zDe ps n ((ps[i]?.getD default).kids[j]?.getD 0).toNat:=hV.2.1
   have hv2:(zA5 ps n ((ps[i]?.getD default).kids[j]?.getD 0).toNat ((zDK ps n (lb,fo) ((ps[i]?.getD default).kids.take j)).1.1,(zDK ps n (lb,fo) ((ps[i]?.getD default).kids.take j)).1.2)).1.1.length=(zA5 ps n ((ps[i]?.getD default).kids[j]?.getD 0).toNat ((zDK ps n (lb,fo) ((ps[i]?.getD default).kids.take j)).1.1,(zDK ps n (lb,fo) ((ps[i]?.getD default).kids.take j)).1.2)).1.2.length:=hV.1.1
   have hb1:(zA5 ps n ((ps[i]?.getD default).kids[j]?.getD 0).toNat ((zDK ps n (lb,fo) ((ps[i]?.getD default).kids.take j)).1.1,(zDK ps n (lb,fo) ((ps[i]?.getD default).kids.take j)).1.2)).2.first < 4294967296:=zFT hV.2.2.1 oO
   have hb2:(zA5 ps n ((ps[i]?.getD default).kids[j]?.getD 0).toNat ((zDK ps n (lb,fo) ((ps[i]?.getD default).kids.take j)).1.1,(zDK ps n (lb,fo) ((ps[i]?.getD default).kids.take j)).1.2)).2.last < 4294967296:=zFT hV.2.2.2 oO
   have hb3:(zDK ps n (lb,fo) ((ps[i]?.getD default).kids.take j)).2.first < 4294967296:=zFT hfine.2.2.1 oO
   have hb4:(zDK ps n (lb,fo) ((ps[i]?.getD default).kids.take j)).2.last < 4294967296:=zFT hfine.2.2.2 oO
   have hb5:(zDK ps n (lb,fo) ((ps[i]?.getD default).kids.take j)).2.last < 2 ^ (zA5 ps n ((ps[i]?.getD default).kids[j]?.getD 0).toNat ((zDK ps n (lb,fo) ((ps[i]?.getD default).kids.take j)).1.1,(zDK ps n (lb,fo) ((ps[i]?.getD default).kids.take j)).1.2)).1.2.length:=Nat.lt_of_lt_of_le hfine.2.2.2 (zEi oO)
   have hkl:=(zBo (xs:=(ps[i]?.getD default).kids) aA).2
   have hnx:zDK ps n (lb,fo) ((ps[i]?.getD default).kids.take (j+1))=zP4 (zDK ps n (lb,fo) ((ps[i]?.getD default).kids.take j)) (zA5 ps n ((ps[i]?.getD default).kids[j]?.getD 0).toNat ((zDK ps n (lb,fo) ((ps[i]?.getD default).kids.take j)).1.1,(zDK ps n (lb,fo) ((ps[i]?.getD default).kids.take j)).1.2)):=zP2 (ps:=ps) (n:=n) (s:=(lb,fo)) (by omega:j < (ps[i]?.getD default).kids.length)
   refine zAf h2x2 ?_ ?_ fun b12 o12 hb12=>?_
   ·omega
   ·omega
   refine zAd 0 (j) rfl h2x2 ?_ ?_ hb12 rfl (zAa 2 rfl) fun l13 hl13=>?_
   ·omega
   ·omega
   obtain⟨rfl,hw13⟩:=hl13;simp only[zAx,zAs,okI] at hw13
   refine zAr 0 (L++F) [H] rfl ?_ (hI _ _ _ _ _ _ _ _ _ _ _ _ _ (Int.toNat_of_nonneg ?_).symm ?_ ?_ ?_ ?_ oL oF) (Rp.mono _ (zAa 0 rfl) hp) ?_
   ·exact rlA
   ·omega
   ·omega
   ·omega
   ·exact hfine.1
   ·omega
   rintro _ A14 ⟨bl1,cl1,bf1,cf1,AL1,AF1,rfl,rfl,oL1,oF1⟩
   refine⟨_,_,[AL1,AF1],rfl,z1i,?_⟩
   refine⟨fun x15=>?_⟩
   refine zAr 0 (AF1) [AL1,H] rfl ?_ (zJv _ _ _ _ _ _ _ _ _ oF1 ?_ ?_ ?_) trivial ?_
   ·exact rlA
   ·trivial
   ·trivial
   ·omega
   rintro _ A16 ⟨bf,cf,Af,rfl,rfl,of'⟩
   refine⟨_,_,[Af],rfl,zBO,?_⟩
   constructor<;>intro q17
   ·(have hRt:(zDK ps n (lb,fo) ((ps[i]?.getD default).kids.take j)).2.empty=true:=q17)
    constructor<;>intro q18
    ·simp at q18
     (have hVf:(zA5 ps n ((ps[i]?.getD default).kids[j]?.getD 0).toNat ((zDK ps n (lb,fo) ((ps[i]?.getD default).kids.take j)).1.1,(zDK ps n (lb,fo) ((ps[i]?.getD default).kids.take j)).1.2)).2.empty=false:=q18)
     constructor<;>intro q19
     ·(have hRt:(zDK ps n (lb,fo) ((ps[i]?.getD default).kids.take j)).2.empty=true:=q19)
      apply zAM (j+1,AL1,bl1,cl1,Af,bf,cf)
      ·exact frI
      ·(simp only[hnx,zP4,hRt,hVf,zDu hb3 hb1,zDu hb4 hb2,zGi hb2,zGi hb1,if_true,if_false,Bool.false_eq_true,Bool.true_and,Bool.and_true,Bool.false_and,Bool.and_false,Bool.true_or,Bool.false_or,Bool.or_true,Bool.or_false,Nat.zero_or,reduceIte];repeat' (first|exact trivial|refine⟨by first|rfl|simp [Blk.ent],?_⟩))
      ·try dsimp only
       (rw[hnx];exact⟨oO,oL1,of'⟩)
      ·exact rlA
      try dsimp only
      omega
     exact absurd (hRt.symm.trans q19) (by decide)
    simp at q18
    (have hVt:(zA5 ps n ((ps[i]?.getD default).kids[j]?.getD 0).toNat ((zDK ps n (lb,fo) ((ps[i]?.getD default).kids.take j)).1.1,(zDK ps n (lb,fo) ((ps[i]?.getD default).kids.take j)).1.2)).2.empty=true:=q18)
    constructor<;>intro q20
    ·(have hRt:(zDK ps n (lb,fo) ((ps[i]?.getD default).kids.take j)).2.empty=true:=q20)
     apply zAM (j+1,AL1,bl1,cl1,Af,bf,cf)
     ·exact frI
     ·(simp only[hnx,zP4,hRt,hVt,zDu hb3 hb1,zDu hb4 hb2,zGi hb2,zGi hb1,if_true,if_false,Bool.false_eq_true,Bool.true_and,Bool.and_true,Bool.false_and,Bool.and_false,Bool.true_or,Bool.false_or,Bool.or_true,Bool.or_false,Nat.zero_or,reduceIte];repeat' (first|exact trivial|refine⟨by first|rfl|simp [Blk.ent],?_⟩))
     ·try dsimp only
      (rw[hnx];exact⟨oO,oL1,of'⟩)
     ·exact rlA
     try dsimp only
     omega
    exact absurd (hRt.symm.trans q20) (by decide)
   (have hRf:(zDK ps n (lb,fo) ((ps[i]?.getD default).kids.take j)).2.empty=false:=q17)
   constructor<;>intro q21
   ·simp at q21
    (have hVf:(zA5 ps n ((ps[i]?.getD default).kids[j]?.getD 0).toNat ((zDK ps n (lb,fo) ((ps[i]?.getD default).kids.take j)).1.1,(zDK ps n (lb,fo) ((ps[i]?.getD default).kids.take j)).1.2)).2.empty=false:=q21)
    constructor<;>intro q22
    ·exact absurd (hRf.symm.trans q22) (by decide)
    (have hRf:(zDK ps n (lb,fo) ((ps[i]?.getD default).kids.take j)).2.empty=false:=q22)
    apply zAM (j+1,AL1,bl1,cl1,Af,bf,cf)
    ·exact frI
    ·(simp only[hnx,zP4,hRf,hVf,zDu hb3 hb1,zDu hb4 hb2,zGi hb2,zGi hb1,if_true,if_false,Bool.false_eq_true,Bool.true_and,Bool.and_true,Bool.false_and,Bool.and_false,Bool.true_or,Bool.false_or,Bool.or_true,Bool.or_false,Nat.zero_or,reduceIte];repeat' (first|exact trivial|refine⟨by first|rfl|simp [Blk.ent],?_⟩))
    ·try dsimp only
     (rw[hnx];exact⟨oO,oL1,of'⟩)
    ·exact rlA
    try dsimp only
    omega
   simp at q21
   (have hVt:(zA5 ps n ((ps[i]?.getD default).kids[j]?.getD 0).toNat ((zDK ps n (lb,fo) ((ps[i]?.getD default).kids.take j)).1.1,(zDK ps n (lb,fo) ((ps[i]?.getD default).kids.take j)).1.2)).2.empty=true:=q21)
   constructor<;>intro q23
   ·exact absurd (hRf.symm.trans q23) (by decide)
   (have hRf:(zDK ps n (lb,fo) ((ps[i]?.getD default).kids.take j)).2.empty=false:=q23)
   apply zAM (j+1,AL1,bl1,cl1,Af,bf,cf)
   ·exact frI
   ·(simp only[hnx,zP4,hRf,hVt,zDu hb3 hb1,zDu hb4 hb2,zGi hb2,zGi hb1,if_true,if_false,Bool.false_eq_true,Bool.true_and,Bool.and_true,Bool.false_and,Bool.and_false,Bool.true_or,Bool.false_or,Bool.or_true,Bool.or_false,Nat.zero_or,reduceIte];repeat' (first|exact trivial|refine⟨by first|rfl|simp [Blk.ent],?_⟩))
   ·try dsimp only
    (rw[hnx];exact⟨oO,oL1,of'⟩)
   ·exact rlA
   try dsimp only
   omega
  simp at q11
  (have hje:j=(ps[i]?.getD default).kids.length:=oO;subst hje;rw[List.take_length] at oL oF ⊢;rw[zPZ ‹(ps[i]?.getD default).op=2›];exact⟨_,⟨_,_,_,_,_,_,rfl,rfl,oL,oF⟩,rlB⟩)
 simp at q9
 constructor<;>intro q24
 ·simp at q24
  refine⟨fun x25=>?_⟩
  apply zAg (α:=(Nat)×(Hp)×(Option Addr)×(Nat)×(Hp)×(Option Addr)×(Nat)) zAh [111,112,113,13,114,115,116,14,117,118,119,120,121,122,123,124,125,126,127,128,129,130,131,132,133,134,110] (fun z=>[(110,.v (.int .i64 z.1))]) (fun z=>[⟨q,[Value.slice bp ps.length cp,.slice z.2.2.1 (zE8 ps n (lb,fo) ((ps[i]?.getD default).kids.take z.1)).1.1.length z.2.2.2.1,.slice z.2.2.2.2.2.1 (zE8 ps n (lb,fo) ((ps[i]?.getD default).kids.take z.1)).1.2.length z.2.2.2.2.2.2],252⟩,⟨x0,[Value.int IntKind.u32 (0:Int),Value.int IntKind.u32 (0:Int),Value.bool false],(254:Nat)⟩,⟨x3,[Value.int IntKind.i64 (ps[i]?.getD default).op,Value.int IntKind.u8 (↑(ps[i]?.getD default).label.toNat:Int),Value.slice b2x2 (ps[i]?.getD default).kids.length c2x2],(210:Nat)⟩,⟨x25,[.int .u32 ((zE8 ps n (lb,fo) ((ps[i]?.getD default).kids.take z.1)).2.first:Nat),.int .u32 ((zE8 ps n (lb,fo) ((ps[i]?.getD default).kids.take z.1)).2.last:Nat),.bool (zE8 ps n (lb,fo) ((ps[i]?.getD default).kids.take z.1)).2.empty],(254:Nat)⟩]) (fun z=>[z.2.1,z.2.2.2.2.1,H]) (fun z=>(ps[i]?.getD default).kids.length-z.1) (fun z=>z.1≤(ps[i]?.getD default).kids.length∧(gSl 5 gY).ow [.slice z.2.2.1 (zE8 ps n (lb,fo) ((ps[i]?.getD default).kids.take z.1)).1.1.length z.2.2.2.1] (zE8 ps n (lb,fo) ((ps[i]?.getD default).kids.take z.1)).1.1 z.2.1∧(gSl 186 gU).ow [.slice z.2.2.2.2.2.1 (zE8 ps n (lb,fo) ((ps[i]?.getD default).kids.take z.1)).1.2.length z.2.2.2.2.2.2] (zE8 ps n (lb,fo) ((ps[i]?.getD default).kids.take z.1)).1.2 z.2.2.2.2.1) ((0,AL,bl,cl,AF,bf,cf))
  ·exact frI
  ·(simp only[List.take_zero,zKb,zKc];repeat' (first|exact trivial|refine⟨by first|rfl|simp [Blk.ent],?_⟩))
  ·try dsimp only
   (simp only[List.take_zero,zKb,zKc];exact⟨Nat.zero_le _,hL,hF⟩)
  ·exact .refl _
  rintro ⟨j,L,bl2,cl2,F,bf2,cf2⟩ hI
  try dsimp only at hI
  obtain⟨hj,oL,oF⟩:=hI
  try dsimp only
  constructor<;>intro q26
  ·simp at q26
   have hsum:=zFk (zDe ps n) (ps[i]?.getD default).kids j oO
   have hkd:=zFB hps hi aA (by omega:j < (ps[i]?.getD default).kids.length)
   have hfine:=zP6 hps hi hin hg aA j
   have hfl2:(zE8 ps n (lb,fo) ((ps[i]?.getD default).kids.take j)).1.1.length=lb.length+zFX (zDe ps n) ((ps[i]?.getD default).kids.take j):=hfine.2.1
   have hck:=zKd (ps:=ps) (n:=n) (i:=i) aA
   have hV:=zB0 ps n ((ps[i]?.getD default).kids[j]?.getD 0).toNat ((zE8 ps n (lb,fo) ((ps[i]?.getD default).kids.take j)).1.1,(zE8 ps n (lb,fo) ((ps[i]?.getD default).kids.take j)).1.2) hfine.1 hps oO oO
   have hv1:(zA5 ps n ((ps[i]?.getD default).kids[j]?.getD 0).toNat ((zE8 ps n (lb,fo) ((ps[i]?.getD default).kids.take j)).1.1,(zE8 ps n (lb,fo) ((ps[i]?.getD default).kids.take j)).1.2)).1.1.length=(zE8 ps n (lb,fo) ((ps[i]?.getD default).kids.take j)).1.1.length+zDe ps n ((ps[i]?.getD default).kids[j]?.getD 0).toNat:=hV.2.1
   have hv2:(zA5 ps n ((ps[i]?.getD default).kids[j]?.getD 0).toNat ((zE8 ps n (lb,fo) ((ps[i]?.getD default).kids.take j)).1.1,(zE8 ps n (lb,fo) ((ps[i]?.getD default).kids.take j)).1.2)).1.1.length=(zA5 ps n ((ps[i]?.getD default).kids[j]?.getD 0).toNat ((zE8 ps n (lb,fo) ((ps[i]?.getD default).kids.take j)).1.1,(zE8 ps n (lb,fo) ((ps[i]?.getD default).kids.take j)).1.2)).1.2.length:=hV.1.1
   have hb1:(zA5 ps n ((ps[i]?.getD default).kids[j]?.getD 0).toNat ((zE8 ps n (lb,fo) ((ps[i]?.getD default).kids.take j)).1.1,(zE8 ps n (lb,fo) ((ps[i]?.getD default).kids.take j)).1.2)).2.first < 4294967296:=zFT hV.2.2.1 oO
   have hb2:(zA5 ps n ((ps[i]?.getD default).kids[j]?.getD 0).toNat ((zE8 ps n (lb,fo) ((ps[i]?.getD default).kids.take j)).1.1,(zE8 ps n (lb,fo) ((ps[i]?.getD default).kids.take j)).1.2)).2.last < 4294967296:=zFT hV.2.2.2 oO
   have hb3:(zE8 ps n (lb,fo) ((ps[i]?.getD default).kids.take j)).2.first < 4294967296:=zFT hfine.2.2.1 oO
   have hb4:(zE8 ps n (lb,fo) ((ps[i]?.getD default).kids.take j)).2.last < 4294967296:=zFT hfine.2.2.2 oO
   have hb5:(zE8 ps n (lb,fo) ((ps[i]?.getD default).kids.take j)).2.last < 2 ^ (zA5 ps n ((ps[i]?.getD default).kids[j]?.getD 0).toNat ((zE8 ps n (lb,fo) ((ps[i]?.getD default).kids.take j)).1.1,(zE8 ps n (lb,fo) ((ps[i]?.getD default).kids.take j)).1.2)).1.2.length:=Nat.lt_of_lt_of_le hfine.2.2.2 (zEi oO)
   have hkl:=(zBo (xs:=(ps[i]?.getD default).kids) aA).2
   have hnx:zE8 ps n (lb,fo) ((ps[i]?.getD default).kids.take (j+1))=zXm (zE8 ps n (lb,fo) ((ps[i]?.getD default).kids.take j)) (zA5 ps n ((ps[i]?.getD default).kids[j]?.getD 0).toNat ((zE8 ps n (lb,fo) ((ps[i]?.getD default).kids.take j)).1.1,(zE8 ps n (lb,fo) ((ps[i]?.getD default).kids.take j)).1.2)):=zP3 (ps:=ps) (n:=n) (s:=(lb,fo)) (by omega:j < (ps[i]?.getD default).kids.length)
   refine zAf h2x2 ?_ ?_ fun b27 o27 hb27=>?_
   ·omega
   ·omega
   refine zAd 0 (j) rfl h2x2 ?_ ?_ hb27 rfl (zAa 2 rfl) fun l28 hl28=>?_
   ·omega
   ·omega
   obtain⟨rfl,hw28⟩:=hl28;simp only[zAx,zAs,okI] at hw28
   refine zAr 0 (L++F) [H] rfl ?_ (hI _ _ _ _ _ _ _ _ _ _ _ _ _ (Int.toNat_of_nonneg ?_).symm ?_ ?_ ?_ ?_ oL oF) (Rp.mono _ (zAa 0 rfl) hp) ?_
   ·exact rlA
   ·omega
   ·omega
   ·omega
   ·exact hfine.1
   ·omega
   rintro _ A29 ⟨bl1,cl1,bf1,cf1,AL1,AF1,rfl,rfl,oL1,oF1⟩
   refine⟨_,_,[AL1,AF1],rfl,z1i,?_⟩
   refine⟨fun x30=>?_⟩
   constructor<;>intro q31
   ·(have hRt:(zE8 ps n (lb,fo) ((ps[i]?.getD default).kids.take j)).2.empty=true:=q31)
    apply zAb (j+1,AL1,bl1,cl1,AF1,bf1,cf1)
    ·exact .refl _
    ·exact frI
    ·(simp only[hnx,zXm,hRt,zDu hb3 hb1,zDu hb4 hb2,if_true,if_false,Bool.false_eq_true,Bool.true_and,Bool.and_true,Bool.false_and,Bool.and_false,Bool.true_or,Bool.false_or,Bool.or_true,Bool.or_false,Nat.zero_or,reduceIte];repeat' (first|exact trivial|refine⟨by first|rfl|simp [Blk.ent],?_⟩))
    ·try dsimp only
     (rw[hnx];exact⟨oO,oL1,oF1⟩)
    try dsimp only
    omega
   (have hRf:(zE8 ps n (lb,fo) ((ps[i]?.getD default).kids.take j)).2.empty=false:=q31)
   apply zAb (j+1,AL1,bl1,cl1,AF1,bf1,cf1)
   ·exact .refl _
   ·exact frI
   ·(simp only[hnx,zXm,hRf,zDu hb3 hb1,zDu hb4 hb2,if_true,if_false,Bool.false_eq_true,Bool.true_and,Bool.and_true,Bool.false_and,Bool.and_false,Bool.true_or,Bool.false_or,Bool.or_true,Bool.or_false,Nat.zero_or,reduceIte];repeat' (first|exact trivial|refine⟨by first|rfl|simp [Blk.ent],?_⟩))
   ·try dsimp only
    (rw[hnx];exact⟨oO,oL1,oF1⟩)
   try dsimp only
   omega
  simp at q26
  (have hje:j=(ps[i]?.getD default).kids.length:=oO;subst hje;rw[List.take_length] at oL oF ⊢;rw[zP0 ‹(ps[i]?.getD default).op=3›];exact⟨_,⟨_,_,_,_,_,_,rfl,rfl,oL,oF⟩,rlB⟩)
 simp at q24
 have hkl1:=zTm hps hi aA aA aA
 have hkd:=zFB hps hi aA (by omega:0 < (ps[i]?.getD default).kids.length)
 have hck:=zKd (ps:=ps) (n:=n) (i:=i) aA
 have hs1:=z4M (f:=zDe ps n) hkl1
 have hV:=zB0 ps n ((ps[i]?.getD default).kids[0]?.getD 0).toNat (lb,fo) hg hps oO oO
 have hv1:(zA5 ps n ((ps[i]?.getD default).kids[0]?.getD 0).toNat (lb,fo)).1.1.length=lb.length+zDe ps n ((ps[i]?.getD default).kids[0]?.getD 0).toNat:=hV.2.1
 have hv2:(zA5 ps n ((ps[i]?.getD default).kids[0]?.getD 0).toNat (lb,fo)).1.1.length=(zA5 ps n ((ps[i]?.getD default).kids[0]?.getD 0).toNat (lb,fo)).1.2.length:=hV.1.1
 have hb1:(zA5 ps n ((ps[i]?.getD default).kids[0]?.getD 0).toNat (lb,fo)).2.first < 4294967296:=zFT hV.2.2.1 oO
 have hb2:(zA5 ps n ((ps[i]?.getD default).kids[0]?.getD 0).toNat (lb,fo)).2.last < 4294967296:=zFT hV.2.2.2 oO
 have hb5:(zA5 ps n ((ps[i]?.getD default).kids[0]?.getD 0).toNat (lb,fo)).2.last < 2 ^ (zA5 ps n ((ps[i]?.getD default).kids[0]?.getD 0).toNat (lb,fo)).1.2.length:=Nat.lt_of_lt_of_le hV.2.2.2 (zEi oO)
 have hvo:=zP1 (ps:=ps) (n:=n) (i:=i) (s:=(lb,fo)) aA aA aA
 refine zAf h2x2 ?_ ?_ fun b32 o32 hb32=>?_
 ·trivial
 ·omega
 refine zAd 0 (0) rfl h2x2 ?_ ?_ hb32 rfl (zAa 2 rfl) fun l33 hl33=>?_
 ·trivial
 ·omega
 obtain⟨rfl,hw33⟩:=hl33;simp only[zAx,zAs,okI] at hw33
 refine zAr 0 (AL++AF) [H] rfl ?_ (hI _ _ _ _ _ _ _ _ _ _ _ _ _ (Int.toNat_of_nonneg ?_).symm ?_ ?_ ?_ ?_ hL hF) (Rp.mono _ (zAa 0 rfl) hp) ?_
 ·exact rlA
 ·omega
 ·omega
 ·omega
 ·trivial
 ·omega
 rintro _ A34 ⟨bl1,cl1,bf1,cf1,AL1,AF1,rfl,rfl,oL1,oF1⟩
 refine⟨_,_,[AL1,AF1],rfl,z1i,?_⟩
 refine⟨fun x35=>?_⟩
 constructor<;>intro q36
 ·simp at q36
  refine zAr 0 (AF1) [AL1,H] rfl ?_ (zJv _ _ _ _ _ _ _ _ _ oF1 ?_ ?_ ?_) trivial ?_
  ·exact rlA
  ·trivial
  ·trivial
  ·omega
  rintro _ A37 ⟨bf,cf,Af,rfl,rfl,of'⟩
  refine⟨_,_,[Af],rfl,zBO,?_⟩
  constructor<;>intro q38
  ·(rw[hvo];unfold zED;rw[if_neg aA];exact⟨_,⟨_,_,_,_,_,_,by simp_all,rfl,oL1,of'⟩,rlB⟩)
  (have h9:=‹(zA5 ps n ((ps[i]?.getD default).kids[0]?.getD 0).toNat (lb,fo)).2.empty=false›;have e5:=z7k h9 (ps[i]?.getD default).op;rw[hvo];unfold zED;rw[if_neg ‹¬(ps[i]?.getD default).op=6›];exact⟨_,⟨_,_,_,_,_,_,congrArg (fun x=>Value.agg ⟨[.int .u32 ((zA5 ps n ((ps[i]?.getD default).kids[0]?.getD 0).toNat (lb,fo)).2.first:Nat),.int .u32 ((zA5 ps n ((ps[i]?.getD default).kids[0]?.getD 0).toNat (lb,fo)).2.last:Nat),.bool x]⟩) e5,rfl,oL1,of'⟩,rlB⟩)
 simp at q36
 constructor<;>intro q39
 ·(rw[hvo];unfold zED;simp only[‹(ps[i]?.getD default).op=6›,if_true];exact⟨_,⟨_,_,_,_,_,_,by simp_all,rfl,oL1,oF1⟩,rlB⟩)
 (rw[hvo];unfold zED;simp only[‹(ps[i]?.getD default).op=6›,if_true];exact⟨_,⟨_,_,_,_,_,_,by simp_all,rfl,oL1,oF1⟩,rlB⟩)
theorem zXo (ps:List Piece) (hps:zGg ps) (hlen:ps.length≤60):∀ n,z4J ps n
 | 0=>by intro q ki i lb fo bp bl bf cp cl cf AL AF _ _ h;omega
 | n+1=>zVo ps n hps hlen (zXo ps hps hlen n)
end
section
attribute [local irreducible] IntKind.wrap
def zXp (ps:List Piece) (n:Nat):Prop:=
 ∀ (q:Nat) (ki:Int) (i:Nat) (lb:List UInt8) (xs:List Arc) (bp bl ba:Option Addr) (cp cl ca:Nat) (AL AX:Hp) (bd:Bool),ki=i→i < ps.length→i < n→bd=false→zIZ (lb,xs)→lb.length≤23 →
  (gSl 5 gY).ow [.slice bl lb.length cl] lb AL→(gSl 248 zEr).ow [.slice ba xs.length ca] xs AX →
  CtR prog 182 [.pointer (some ⟨q,0,none⟩),.int .i64 ki] ((q,Obj.cells ⟨[.slice bp ps.length cp,.slice bl lb.length cl,.slice ba xs.length ca,.bool bd]⟩ 230)::(AL++AX)) (fun H=>(gSl 210 zBp).rd H [.slice bp ps.length cp] ps)
   (fun v D=>∃ bl' cl' ba' ca' AL' AX' b1 c1 A1 b2 c2 A2,v = .agg ⟨[.slice b1 (look ps n i (lb,xs)).2.first.length c1,.slice b2 (look ps n i (lb,xs)).2.last.length c2,.bool (look ps n i (lb,xs)).2.null]⟩ ∧
    D=(q,Obj.cells ⟨[.slice bp ps.length cp,.slice bl' (look ps n i (lb,xs)).1.1.length cl',.slice ba' (look ps n i (lb,xs)).1.2.length ca',.bool (zG4 (look ps n i (lb,xs)).1)]⟩ 230)::(AL'++(AX'++(A1++A2))) ∧
    (gSl 5 gY).ow [.slice bl' (look ps n i (lb,xs)).1.1.length cl'] (look ps n i (lb,xs)).1.1 AL'∧(gSl 248 zEr).ow [.slice ba' (look ps n i (lb,xs)).1.2.length ca'] (look ps n i (lb,xs)).1.2 AX' ∧
    (gSl 3 gI).ow [.slice b1 (look ps n i (lb,xs)).2.first.length c1] (look ps n i (lb,xs)).2.first A1∧(gSl 3 gI).ow [.slice b2 (look ps n i (lb,xs)).2.last.length c2] (look ps n i (lb,xs)).2.last A2)
theorem z4N {e:Nat×Obj} {A B C D:Hp}:(e::(A++(B++(C++D)))).Perm (e::[A,B,C,D].flatten):=by simp
theorem zP7 {ps:List Piece} {n i:Nat} {s:MkS} (h:(ps[i]?.getD default).op=1):look ps (n+1) i s=((s.1++[(ps[i]?.getD default).label],s.2),⟨[((s.1.length+1:Nat):Int)],[((s.1.length+1:Nat):Int)],false⟩):=by unfold look;rw[if_pos h]
def lkK (ps:List Piece) (n:Nat) (op:Int) (s:MkS) (l:List Int):MkS×Look:=l.foldl (zBA op (look ps n)) (s,⟨[],[],decide (op=2)⟩)
theorem zGj {ps:List Piece} {n i:Nat} {s:MkS} (h:¬(ps[i]?.getD default).op=1):look ps (n+1) i s=lkK ps n (ps[i]?.getD default).op s (ps[i]?.getD default).kids:=by
 conv=>lhs;unfold look
 rw[if_neg h];rfl
theorem zXq {ps:List Piece} {n:Nat} {op:Int} {s:MkS}:lkK ps n op s []=(s,⟨[],[],decide (op=2)⟩):=rfl
theorem zTn {ps:List Piece} {n:Nat} {op:Int} {s:MkS} {l:List Int} {j:Nat} (hj:j < l.length):lkK ps n op s (l.take (j+1))=zBA op (look ps n) (lkK ps n op s (l.take j)) (l[j]?.getD 0):=by
 unfold lkK;rw[←List.take_append_getElem hj,List.foldl_append,List.getElem?_eq_getElem hj];rfl
theorem zP8 {op:Int} {V:Nat→MkS→MkS×Look} {st:MkS×Look} (h:zG4 st.1=true):∀ l:List Int,l.foldl (zBA op V) st=st
 | []=>rfl
 | k::l=>by
  have e:zBA op V st k=st:=by unfold zBA;rw[if_pos h]
  rw[List.foldl_cons,e];exact zP8 h l
theorem zXr {ps:List Piece} {n:Nat} {op:Int} {s:MkS} {l:List Int} {j:Nat} (h:zG4 (lkK ps n op s (l.take j)).1=true):lkK ps n op s l=lkK ps n op s (l.take j):=by
 conv=>lhs;rw[←List.take_append_drop j l]
 unfold lkK at h ⊢
 rw[List.foldl_append];exact zP8 h _
theorem zOs {ps:List Piece} (hps:zGg ps) {n i:Nat} (hi:i < ps.length) (hin:i < n+1) {s:MkS} (hg:zIZ s) (hs:s.1.length≤23) (h:¬(ps[i]?.getD default).op=1):∀ j,(2≤(ps[i]?.getD default).op∧(ps[i]?.getD default).op≤3∨j≤1)→zE3 s (zFX (zDe ps n) ((ps[i]?.getD default).kids.take j)) (lkK ps n (ps[i]?.getD default).op s ((ps[i]?.getD default).kids.take j))
 | 0,_=>zM5 hg hs
 | j+1,hj1=>by
  have ih:=zOs hps hi hin hg hs h j oO
  rcases Nat.lt_or_ge j (ps[i]?.getD default).kids.length with hj|hj
  ·rw[zTn hj,(zFk _ _ j hj).2]
   have hk:=zFB hps hi h hj
   unfold zBA
   split
   ·rename_i hb;exact zPY ih hb
   rename_i hb
   have hv:=zFm ps n _ _ ih.1 (zOr hb) hps (by omega:((ps[i]?.getD default).kids[j]?.getD 0).toNat < ps.length) oO
   split
   ·exact zM2 ih hv
   split
   ·exact zM3 ih hv
   obtain rfl:j=0:=by omega
   have e:zFX (zDe ps n) ((ps[i]?.getD default).kids.take 0)=0:=rfl
   rw[e,Nat.zero_add];exact zM4 hv
  rw[List.take_of_length_le oO] at ih ⊢;exact ih
end
section
attribute [local irreducible] IntKind.wrap look lkK zDe zFX zCk
theorem zLe {k:Int} {x:Nat} (h:okI k):(gSl 3 gI).ow [.slice (some ⟨x,0,none⟩) 1 1] [k] [(x,Obj.cells ⟨[.int .i64 k]⟩ 3)]:=
 zN3 (Ow.lit (f:=zAs) (T:=3) (b:=x) (xs:=[k]) (by simpa [zAs] using h) sI)
theorem zM7 {ps:List Piece} {n i:Nat} {lb:List UInt8} {xs:List Arc} (h:(ps[i]?.getD default).op=1):look ps (n+1) i (lb,xs)=((lb++[(ps[i]?.getD default).label],xs),⟨[(((lb++[(ps[i]?.getD default).label]).length:Nat):Int)],[(((lb++[(ps[i]?.getD default).label]).length:Nat):Int)],false⟩):=by
 rw[zP7 h,List.length_append,List.length_singleton]
theorem zXs {lb:List UInt8} {b:UInt8} {xs:List Arc}:zG4 (lb++[b],xs)=decide (24≤lb.length+1):=by unfold zG4;rw[show (lb++[b],xs).1.length=lb.length+1 from List.length_append]
theorem zGk (r:MkS) (x:List Arc):zG4 (r.1,x)=zG4 r:=rfl
theorem zXt {op:Int} {r st:MkS×Look} (hb:¬zG4 st.1=true) (h:op=2):zBA op (fun _ _=>r) st 0=zIg st r:=by unfold zBA;rw[if_neg hb,if_pos h]
theorem zXu {op:Int} {r st:MkS×Look} (hb:¬zG4 st.1=true) (h2:¬op=2) (h:op=3):zBA op (fun _ _=>r) st 0=zOq st r:=by unfold zBA;rw[if_neg hb,if_neg h2,if_pos h]
theorem zXv {op:Int} {r st:MkS×Look} (hb:¬zG4 st.1=true) (h2:¬op=2) (h:¬op=3):zBA op (fun _ _=>r) st 0=zHF op r:=by unfold zBA;rw[if_neg hb,if_neg h2,if_neg h]
theorem zDL {ps:List Piece} {n:Nat} {op:Int} {s:MkS} {l:List Int} {j:Nat} {st r:MkS×Look} (hj:j < l.length) (hst:st=lkK ps n op s (l.take j)) (hr:look ps n (l[j]?.getD 0).toNat (st.1.1,st.1.2)=r):zBA op (fun _ _=>r) st 0=lkK ps n op s (l.take (j+1)):=by
 have hr2:look ps n (l[j]?.getD 0).toNat st.1=r:=hr
 rw[zTn hj,←hst]
 unfold zBA
 rw[hr2]
theorem z4O (ps:List Piece) (n:Nat) (hps:zGg ps) (hlen:ps.length≤60) (hI:zXp ps n):zXp ps (n+1):=by
 intro q ki i lb xs bp bl ba cp cl ca AL AX bd hki hi hin hbd hg hlb hL hX
 subst hki hbd
 refine CtR.introB zAh [.p 0 0,.v (.int .i64 (i:Int))] [⟨q,[.slice bp ps.length cp,.slice bl lb.length cl,.slice ba xs.length ca,.bool false],230⟩] [AL,AX] func182 rfl rfl rfl rfl (by simp [SV.ok]) (by simp [Blk.ent]) fun E H hp=>?_
 have hpk:=zAP.1 (hps i hi)
 have hbf:zG4 (lb,xs)=false:=decide_eq_false (by show ¬24≤lb.length;omega)
 refine⟨fun x0=>?_⟩
 refine zAf hp ?_ ?_ fun b1 o1 hb1=>?_
 ·omega
 ·omega
 refine zAd default (i) rfl hp ?_ ?_ hb1 rfl (zAa 2 rfl) fun l2 hl2=>?_
 ·omega
 ·omega
 obtain⟨b2x2,c2x2,rfl,w0x2,h2x2⟩:=zCX.1 hl2
 refine⟨fun x3=>?_⟩
 refine⟨fun x4=>?_⟩
 constructor<;>intro q5
 ·simp at q5
  refine zBr zAh zAK (some 8) (.q 0 (.q 1 (.q 2 (.q 3 (.q 4 (.q 5 (.q 6 (.f 7 (.tl 8 (.f 9 (.f 10 (.f 11 (.nil))))))))))))) (by decide +kernel) ?_
  refine⟨fun x6=>?_⟩
  refine VC.intro ?_ ?_
  ·exact zAA
  refine zAC (g:=gY) (T:=5) zAh AL [] [AX,H] ?_ hL ( z7d trivial) (List.mem_of_getElem? (i:=0) rfl) rfl rfl rfl rfl rfl rfl rfl rfl ?_ fun b7 c7 A7 o7=>?_
  ·exact .tl
  ·omega
  constructor<;>intro q8
  ·simp at q8
   refine⟨fun x9=>?_⟩
   refine⟨fun x10=>?_⟩
   try dsimp only
   (have hll:=@List.length_append _ lb [(ps[i]?.getD default).label];rw[List.length_singleton] at hll;have hz:List.append ([]:List Value) (zAX 0 [Value.int .i64 0])=[]:=rfl;simp only[zM7 ‹(ps[i]?.getD default).op=1›,zXs,hz];exact⟨_,⟨_,_,_,_,_,_,_,_,_,_,_,_,rfl,by rw[decide_eq_true (by omega:24≤lb.length+1)],aA,aA,zLe (by unfold okI;omega),zLe (by unfold okI;omega)⟩,rlB⟩)
  simp at q8
  refine⟨fun x11=>?_⟩
  refine⟨fun x12=>?_⟩
  try dsimp only
  (have hll:=@List.length_append _ lb [(ps[i]?.getD default).label];rw[List.length_singleton] at hll;have hz:List.append ([]:List Value) (zAX 0 [Value.int .i64 0])=[]:=rfl;simp only[zM7 ‹(ps[i]?.getD default).op=1›,zXs,hz];exact⟨_,⟨_,_,_,_,_,_,_,_,_,_,_,_,rfl,by rw[decide_eq_false (by omega:¬24≤lb.length+1)],aA,aA,zLe (by unfold okI;omega),zLe (by unfold okI;omega)⟩,rlB⟩)
 simp at q5
 constructor<;>intro q13
 ·simp at q13
  apply zAg (α:=(Nat)×(MkS×Look)×(Hp)×(Option Addr)×(Nat)×(Hp)×(Option Addr)×(Nat)×(Hp)×(Option Addr)×(Nat)×(Hp)×(Option Addr)×(Nat)) zAh [52,53,54,55,56,57,58,59,60,61,62,63,66,67,68,69,70,71,72,9,73,74,94,93,95,96,97,98,99,100,101,102,103,104,105,106,107,108,109,110,111,112,113,114,115,116,117,118,119,120,121,122,123,124,125,126,127,128,130,129,131,132,133,134,135,136,137,138,139,140,141,142,143,144,145,146,147,148,149,75,76,77,78,79,80,81,82,83,84,85,86,87,88,89,90,91,92,64,65,8] (fun z=>[(8,.v (.int .i64 z.1))]) (fun z=>[⟨q,[Value.slice bp ps.length cp,.slice z.2.2.2.1 z.2.1.1.1.length z.2.2.2.2.1,.slice z.2.2.2.2.2.2.1 z.2.1.1.2.length z.2.2.2.2.2.2.2.1,.bool (zG4 z.2.1.1)],230⟩,⟨x0,[Value.slice none (0:Nat) (0:Nat),Value.slice none (0:Nat) (0:Nat),Value.bool false],(232:Nat)⟩,⟨x3,[Value.int IntKind.i64 (ps[i]?.getD default).op,Value.int IntKind.u8 (↑(ps[i]?.getD default).label.toNat:Int),Value.slice b2x2 (ps[i]?.getD default).kids.length c2x2],(210:Nat)⟩,⟨x4,[.slice z.2.2.2.2.2.2.2.2.2.1 z.2.1.2.first.length z.2.2.2.2.2.2.2.2.2.2.1,.slice z.2.2.2.2.2.2.2.2.2.2.2.2.1 z.2.1.2.last.length z.2.2.2.2.2.2.2.2.2.2.2.2.2,.bool z.2.1.2.null],(232:Nat)⟩]) (fun z=>[z.2.2.1,z.2.2.2.2.2.1,z.2.2.2.2.2.2.2.2.1,z.2.2.2.2.2.2.2.2.2.2.2.1,H]) (fun z=>(ps[i]?.getD default).kids.length-z.1) (fun z=>z.1≤(ps[i]?.getD default).kids.length∧z.2.1=(lkK ps n (ps[i]?.getD default).op (lb,xs) ((ps[i]?.getD default).kids.take z.1))∧(gSl 5 gY).ow [.slice z.2.2.2.1 z.2.1.1.1.length z.2.2.2.2.1] z.2.1.1.1 z.2.2.1∧(gSl 248 zEr).ow [.slice z.2.2.2.2.2.2.1 z.2.1.1.2.length z.2.2.2.2.2.2.2.1] z.2.1.1.2 z.2.2.2.2.2.1∧(gSl 3 gI).ow [.slice z.2.2.2.2.2.2.2.2.2.1 z.2.1.2.first.length z.2.2.2.2.2.2.2.2.2.2.1] z.2.1.2.first z.2.2.2.2.2.2.2.2.1∧(gSl 3 gI).ow [.slice z.2.2.2.2.2.2.2.2.2.2.2.2.1 z.2.1.2.last.length z.2.2.2.2.2.2.2.2.2.2.2.2.2] z.2.1.2.last z.2.2.2.2.2.2.2.2.2.2.2.1) ((0,((lb,xs),⟨[],[],decide ((ps[i]?.getD default).op=2)⟩),AL,bl,cl,AX,ba,ca,[],none,0,[],none,0))
  ·exact frI
  ·(simp only[hbf,‹(ps[i]?.getD default).op=2›,decide_true,List.length_nil];repeat' (first|exact trivial|refine⟨by first|rfl|simp [Blk.ent],?_⟩))
  ·try dsimp only
   exact⟨Nat.zero_le _,zXq.symm,hL,hX,zAm _ _ _,zAm _ _ _⟩
  ·exact .refl _
  rintro ⟨j,st,L,bl2,cl2,X,ba2,ca2,F,b1,c1,T,b2,c2⟩ hI
  try dsimp only at hI
  obtain⟨hj,hst,oL,oX,oF,oT⟩:=hI
  try dsimp only
  constructor<;>intro q14
  ·simp at q14
   constructor<;>intro q15
   ·simp at q15
    have hkl:=(zBo (xs:=(ps[i]?.getD default).kids) aA).2
    have hkd:=zFB hps hi ‹¬(ps[i]?.getD default).op=1› (by omega:j < (ps[i]?.getD default).kids.length)
    have hfine:zE3 (lb,xs) (zFX (zDe ps n) ((ps[i]?.getD default).kids.take j)) st:=(by rw[hst];exact zOs hps hi hin hg hlb ‹¬(ps[i]?.getD default).op=1› j oO)
    have hbd9:¬zG4 st.1=true:=(by rw[‹zG4 st.1=false›];decide)
    have hnb:=zOr (s:=st.1) hbd9
    have hV:=zFm ps n ((ps[i]?.getD default).kids[j]?.getD 0).toNat (st.1.1,st.1.2) hfine.1 hnb hps oO oO
    obtain⟨hf1,hf2,hf3,hf4,hf5,hf6⟩:=hfine
    have rF:=Gt.owrd _ oF
    have rT:=Gt.owrd _ oT
    refine zAf h2x2 ?_ ?_ fun b16 o16 hb16=>?_
    ·omega
    ·omega
    refine zAd 0 (j) rfl h2x2 ?_ ?_ hb16 rfl (zAa 4 rfl) fun l17 hl17=>?_
    ·omega
    ·omega
    obtain⟨rfl,hw17⟩:=hl17;simp only[zAx,zAs,okI] at hw17
    refine zAr 0 (L++X) [F,T,H] rfl ?_ (hI _ _ _ _ _ _ _ _ _ _ _ _ _ _ (Int.toNat_of_nonneg ?_).symm ?_ ?_ ?_ ?_ ?_ oL oX) (Rp.mono _ (zAa 2 rfl) hp) ?_
    ·exact rlA
    ·omega
    ·omega
    ·omega
    ·trivial
    ·trivial
    ·trivial
    rintro _ A18 ⟨bl1,cl1,ba1,ca1,AL1,AX1,b11,c11,A11,b21,c21,A21,rfl,rfl,oL1,oX1,oF1,oT1⟩
    generalize hr:look ps n ((ps[i]?.getD default).kids[j]?.getD 0).toNat (st.1.1,st.1.2)=r at *
    obtain⟨hv1,hv2,hv3,hv4,hv5,hv6⟩:=hV
    have hnxR:=zXt (op:=(ps[i]?.getD default).op) (r:=r) hbd9
    have hnxA:=zXu (op:=(ps[i]?.getD default).op) (r:=r) hbd9
    have hnxO:=zXv (op:=(ps[i]?.getD default).op) (r:=r) hbd9
    have rL1:=Gt.owrd _ oL1
    have rF1:=Gt.owrd _ oF1
    have rT1:=Gt.owrd _ oT1
    refine⟨_,_,[AL1,AX1,A11,A21],rfl,z4N,?_⟩
    refine⟨fun x19=>?_⟩
    constructor<;>intro q20
    ·simp at q20
     refine zAr 0 (AX1) [AL1,A11,A21,F,T,H] rfl ?_ (zOp _ _ _ _ _ _ _ _ _ (r.fst.fst) (st.snd.last) (r.snd.first) _ _ _ _ oX1 ?_ ?_ ?_ ?_) ⟨(Rp.mono _ (zAa 0 rfl) rL1),(Rp.mono _ (zAa 4 rfl) rT),(Rp.mono _ (zAa 1 rfl) rF1)⟩ ?_
     ·exact rlA
     ·exact hv1.1
     ·exact (fun x hx=>by have:=hf4 x hx;have h9:st.1.1.length=_:=hf2;have h8:st.1.1.length≤23:=hnb;omega)
     ·trivial
     ·omega
     rintro _ A21 ⟨bj21,cj21,Aj21,rfl,rfl,oj21⟩
     refine⟨_,_,[Aj21],rfl,zBO,?_⟩
     constructor<;>intro q22
     ·(have hRt:st.2.null=true:=q22)
      refine zCH (g:=gI) (T:=3) zAh (by repeat (first|exact zEP|apply zDT|apply zDc)) F [Aj21,AL1,A11,A21,T,H] 2 ?_ oF rfl rF1 rfl rfl rfl rfl rfl rfl rfl rfl ?_ fun b23 c23 A23 o23=>?_
      ·exact rlA
      ·omega
      constructor<;>intro q24
      ·(have hVt:r.2.null=true:=q24)
       refine zBr zAh zAK (some 6) (.q 1 (.q 2 (.q 4 (.q 5 (.f 0 (.f 3 (.tl 6 (.f 7 (.f 8 (.nil)))))))))) (by decide +kernel) ?_
       refine⟨fun x25=>?_⟩
       refine VC.intro ?_ ?_
       ·exact zAA
       refine zAn (g:=gI) (T:=3) zAh 6 rT (zAm _ _ _) ?_ fun b26 c26 A26 o26=>?_
       ·simp;omega
       refine VC.intro ?_ ?_
       ·exact zAl sI sI
       refine zCH (g:=gI) (T:=3) zAh (by repeat (first|exact zEP|apply zDT|apply zDc)) A26 [[(x25,Obj.cells { toList:=zAX 0 [Value.int IntKind.i64 (0:Int)] } 3)],A23,Aj21,AL1,A11,A21,T,H] 5 ?_ o26 rfl rT1 rfl rfl rfl rfl rfl rfl rfl rfl ?_ fun b27 c27 A27 o27=>?_
       ·exact .refl _
       ·simp;omega
       constructor<;>intro q28
       ·(have hRt:st.2.null=true:=q28)
        apply zAM (j+1,zBA (ps[i]?.getD default).op (fun _ _=>r) st 0,_,_,_,_,_,_,_,_,_,_,_,_)
        ·exact frI
        ·(simp only[hnxR ‹(ps[i]?.getD default).op=2›,zIg,hRt,hVt,zGk,Bool.false_eq_true,Bool.true_and,Bool.and_true,Bool.false_and,Bool.and_false,Bool.true_or,Bool.false_or,Bool.or_true,Bool.or_false,if_true,if_false,reduceIte,decide_true,decide_false,List.nil_append];repeat' (first|exact trivial|refine⟨by first|rfl|simp [Blk.ent],?_⟩))
        ·try dsimp only
         (refine⟨oO,zDL oO hst hr,?_⟩;simp only[hnxR ‹(ps[i]?.getD default).op=2›,zIg,hRt,hVt,Bool.false_eq_true,Bool.true_and,Bool.and_true,Bool.false_and,Bool.and_false,Bool.true_or,Bool.false_or,Bool.or_true,Bool.or_false,if_true,if_false,reduceIte,decide_true,decide_false,List.nil_append];exact⟨oL1,aA,aA,aA⟩)
        ·exact rlA
        try dsimp only
        omega
       exact absurd (‹st.2.null=true›.symm.trans q28) (by decide)
      (have hVf:r.2.null=false:=q24)
      constructor<;>intro q29
      ·(have hRt:st.2.null=true:=q29)
       apply zAM (j+1,zBA (ps[i]?.getD default).op (fun _ _=>r) st 0,_,_,_,_,_,_,_,_,_,_,_,_)
       ·exact frI
       ·(simp only[hnxR ‹(ps[i]?.getD default).op=2›,zIg,hRt,hVf,zGk,Bool.false_eq_true,Bool.true_and,Bool.and_true,Bool.false_and,Bool.and_false,Bool.true_or,Bool.false_or,Bool.or_true,Bool.or_false,if_true,if_false,reduceIte,decide_true,decide_false,List.nil_append];repeat' (first|exact trivial|refine⟨by first|rfl|simp [Blk.ent],?_⟩))
       ·try dsimp only
        (refine⟨oO,zDL oO hst hr,?_⟩;simp only[hnxR ‹(ps[i]?.getD default).op=2›,zIg,hRt,hVf,Bool.false_eq_true,Bool.true_and,Bool.and_true,Bool.false_and,Bool.and_false,Bool.true_or,Bool.false_or,Bool.or_true,Bool.or_false,if_true,if_false,reduceIte,decide_true,decide_false,List.nil_append];exact⟨oL1,aA,aA,oT1⟩)
       ·exact rlA
       try dsimp only
       omega
      exact absurd (‹st.2.null=true›.symm.trans q29) (by decide)
     (have hRf:st.2.null=false:=q22)
     constructor<;>intro q30
     ·(have hVt:r.2.null=true:=q30)
      refine zBr zAh zAK (some 6) (.q 1 (.q 2 (.q 4 (.q 5 (.f 0 (.f 3 (.tl 6 (.f 7 (.f 8 (.nil)))))))))) (by decide +kernel) ?_
      refine⟨fun x31=>?_⟩
      refine VC.intro ?_ ?_
      ·exact zAA
      refine zAn (g:=gI) (T:=3) zAh 6 rT (zAm _ _ _) ?_ fun b32 c32 A32 o32=>?_
      ·simp;omega
      refine VC.intro ?_ ?_
      ·exact zAl sI sI
      refine zCH (g:=gI) (T:=3) zAh (by repeat (first|exact zEP|apply zDT|apply zDc)) A32 [[(x31,Obj.cells { toList:=zAX 0 [Value.int IntKind.i64 (0:Int)] } 3)],Aj21,AL1,A11,A21,F,T,H] 4 ?_ o32 rfl rT1 rfl rfl rfl rfl rfl rfl rfl rfl ?_ fun b33 c33 A33 o33=>?_
      ·exact .refl _
      ·simp;omega
      constructor<;>intro q34
      ·exact absurd (‹st.2.null=false›.symm.trans q34) (by decide)
      (have hRf:st.2.null=false:=q34)
      apply zAM (j+1,zBA (ps[i]?.getD default).op (fun _ _=>r) st 0,_,_,_,_,_,_,_,_,_,_,_,_)
      ·exact frI
      ·(simp only[hnxR ‹(ps[i]?.getD default).op=2›,zIg,hRf,hVt,zGk,Bool.false_eq_true,Bool.true_and,Bool.and_true,Bool.false_and,Bool.and_false,Bool.true_or,Bool.false_or,Bool.or_true,Bool.or_false,if_true,if_false,reduceIte,decide_true,decide_false,List.nil_append];repeat' (first|exact trivial|refine⟨by first|rfl|simp [Blk.ent],?_⟩))
      ·try dsimp only
       (refine⟨oO,zDL oO hst hr,?_⟩;simp only[hnxR ‹(ps[i]?.getD default).op=2›,zIg,hRf,hVt,Bool.false_eq_true,Bool.true_and,Bool.and_true,Bool.false_and,Bool.and_false,Bool.true_or,Bool.false_or,Bool.or_true,Bool.or_false,if_true,if_false,reduceIte,decide_true,decide_false,List.nil_append];exact⟨oL1,aA,oF,aA⟩)
      ·exact rlA
      try dsimp only
      omega
     (have hVf:r.2.null=false:=q30)
     constructor<;>intro q35
     ·exact absurd (‹st.2.null=false›.symm.trans q35) (by decide)
     (have hRf:st.2.null=false:=q35)
     apply zAM (j+1,zBA (ps[i]?.getD default).op (fun _ _=>r) st 0,_,_,_,_,_,_,_,_,_,_,_,_)
     ·exact frI
     ·(simp only[hnxR ‹(ps[i]?.getD default).op=2›,zIg,hRf,hVf,zGk,Bool.false_eq_true,Bool.true_and,Bool.and_true,Bool.false_and,Bool.and_false,Bool.true_or,Bool.false_or,Bool.or_true,Bool.or_false,if_true,if_false,reduceIte,decide_true,decide_false,List.nil_append];repeat' (first|exact trivial|refine⟨by first|rfl|simp [Blk.ent],?_⟩))
     ·try dsimp only
      (refine⟨oO,zDL oO hst hr,?_⟩;simp only[hnxR ‹(ps[i]?.getD default).op=2›,zIg,hRf,hVf,Bool.false_eq_true,Bool.true_and,Bool.and_true,Bool.false_and,Bool.and_false,Bool.true_or,Bool.false_or,Bool.or_true,Bool.or_false,if_true,if_false,reduceIte,decide_true,decide_false,List.nil_append];exact⟨oL1,aA,oF,oT1⟩)
     ·exact rlA
     try dsimp only
     omega
    simp at q20
    exfalso;omega
   simp at q15
   (rw[zGj ‹¬(ps[i]?.getD default).op=1›,zXr (j:=j) (by rw[←hst];exact ‹zG4 st.1=true›),←hst];exact⟨_,⟨_,_,_,_,_,_,_,_,_,_,_,_,rfl,rfl,oL,oX,oF,oT⟩,rlB⟩)
  simp at q14
  (have hke:j=(ps[i]?.getD default).kids.length:=oO;subst hke;rw[List.take_length] at hst;rw[zGj ‹¬(ps[i]?.getD default).op=1›,←hst];exact⟨_,⟨_,_,_,_,_,_,_,_,_,_,_,_,rfl,rfl,oL,oX,oF,oT⟩,rlB⟩)
 simp at q13
 apply zAg (α:=(Nat)×(MkS×Look)×(Hp)×(Option Addr)×(Nat)×(Hp)×(Option Addr)×(Nat)×(Hp)×(Option Addr)×(Nat)×(Hp)×(Option Addr)×(Nat)) zAh [52,53,54,55,56,57,58,59,60,61,62,63,66,67,68,69,70,71,72,9,73,74,94,93,95,96,97,98,99,100,101,102,103,104,105,106,107,108,109,110,111,112,113,114,115,116,117,118,119,120,121,122,123,124,125,126,127,128,130,129,131,132,133,134,135,136,137,138,139,140,141,142,143,144,145,146,147,148,149,75,76,77,78,79,80,81,82,83,84,85,86,87,88,89,90,91,92,64,65,8] (fun z=>[(8,.v (.int .i64 z.1))]) (fun z=>[⟨q,[Value.slice bp ps.length cp,.slice z.2.2.2.1 z.2.1.1.1.length z.2.2.2.2.1,.slice z.2.2.2.2.2.2.1 z.2.1.1.2.length z.2.2.2.2.2.2.2.1,.bool (zG4 z.2.1.1)],230⟩,⟨x0,[Value.slice none (0:Nat) (0:Nat),Value.slice none (0:Nat) (0:Nat),Value.bool false],(232:Nat)⟩,⟨x3,[Value.int IntKind.i64 (ps[i]?.getD default).op,Value.int IntKind.u8 (↑(ps[i]?.getD default).label.toNat:Int),Value.slice b2x2 (ps[i]?.getD default).kids.length c2x2],(210:Nat)⟩,⟨x4,[.slice z.2.2.2.2.2.2.2.2.2.1 z.2.1.2.first.length z.2.2.2.2.2.2.2.2.2.2.1,.slice z.2.2.2.2.2.2.2.2.2.2.2.2.1 z.2.1.2.last.length z.2.2.2.2.2.2.2.2.2.2.2.2.2,.bool z.2.1.2.null],(232:Nat)⟩]) (fun z=>[z.2.2.1,z.2.2.2.2.2.1,z.2.2.2.2.2.2.2.2.1,z.2.2.2.2.2.2.2.2.2.2.2.1,H]) (fun z=>(ps[i]?.getD default).kids.length-z.1) (fun z=>z.1≤(ps[i]?.getD default).kids.length∧z.2.1=(lkK ps n (ps[i]?.getD default).op (lb,xs) ((ps[i]?.getD default).kids.take z.1))∧(gSl 5 gY).ow [.slice z.2.2.2.1 z.2.1.1.1.length z.2.2.2.2.1] z.2.1.1.1 z.2.2.1∧(gSl 248 zEr).ow [.slice z.2.2.2.2.2.2.1 z.2.1.1.2.length z.2.2.2.2.2.2.2.1] z.2.1.1.2 z.2.2.2.2.2.1∧(gSl 3 gI).ow [.slice z.2.2.2.2.2.2.2.2.2.1 z.2.1.2.first.length z.2.2.2.2.2.2.2.2.2.2.1] z.2.1.2.first z.2.2.2.2.2.2.2.2.1∧(gSl 3 gI).ow [.slice z.2.2.2.2.2.2.2.2.2.2.2.2.1 z.2.1.2.last.length z.2.2.2.2.2.2.2.2.2.2.2.2.2] z.2.1.2.last z.2.2.2.2.2.2.2.2.2.2.2.1) ((0,((lb,xs),⟨[],[],decide ((ps[i]?.getD default).op=2)⟩),AL,bl,cl,AX,ba,ca,[],none,0,[],none,0))
 ·exact frI
 ·(simp only[hbf,‹¬(ps[i]?.getD default).op=2›,decide_false,List.length_nil];repeat' (first|exact trivial|refine⟨by first|rfl|simp [Blk.ent],?_⟩))
 ·try dsimp only
  exact⟨Nat.zero_le _,zXq.symm,hL,hX,zAm _ _ _,zAm _ _ _⟩
 ·exact .refl _
 rintro ⟨j,st,L,bl2,cl2,X,ba2,ca2,F,b1,c1,T,b2,c2⟩ hI
 try dsimp only at hI
 obtain⟨hj,hst,oL,oX,oF,oT⟩:=hI
 try dsimp only
 constructor<;>intro q36
 ·simp at q36
  constructor<;>intro q37
  ·simp at q37
   have hkl:=(zBo (xs:=(ps[i]?.getD default).kids) aA).2
   have hkd:=zFB hps hi ‹¬(ps[i]?.getD default).op=1› (by omega:j < (ps[i]?.getD default).kids.length)
   have hfine:zE3 (lb,xs) (zFX (zDe ps n) ((ps[i]?.getD default).kids.take j)) st:=(by rw[hst];exact zOs hps hi hin hg hlb ‹¬(ps[i]?.getD default).op=1› j oO)
   have hbd9:¬zG4 st.1=true:=(by rw[‹zG4 st.1=false›];decide)
   have hnb:=zOr (s:=st.1) hbd9
   have hV:=zFm ps n ((ps[i]?.getD default).kids[j]?.getD 0).toNat (st.1.1,st.1.2) hfine.1 hnb hps oO oO
   obtain⟨hf1,hf2,hf3,hf4,hf5,hf6⟩:=hfine
   have rF:=Gt.owrd _ oF
   have rT:=Gt.owrd _ oT
   refine zAf h2x2 ?_ ?_ fun b38 o38 hb38=>?_
   ·omega
   ·omega
   refine zAd 0 (j) rfl h2x2 ?_ ?_ hb38 rfl (zAa 4 rfl) fun l39 hl39=>?_
   ·omega
   ·omega
   obtain⟨rfl,hw39⟩:=hl39;simp only[zAx,zAs,okI] at hw39
   refine zAr 0 (L++X) [F,T,H] rfl ?_ (hI _ _ _ _ _ _ _ _ _ _ _ _ _ _ (Int.toNat_of_nonneg ?_).symm ?_ ?_ ?_ ?_ ?_ oL oX) (Rp.mono _ (zAa 2 rfl) hp) ?_
   ·exact rlA
   ·omega
   ·omega
   ·omega
   ·trivial
   ·trivial
   ·trivial
   rintro _ A40 ⟨bl1,cl1,ba1,ca1,AL1,AX1,b11,c11,A11,b21,c21,A21,rfl,rfl,oL1,oX1,oF1,oT1⟩
   generalize hr:look ps n ((ps[i]?.getD default).kids[j]?.getD 0).toNat (st.1.1,st.1.2)=r at *
   obtain⟨hv1,hv2,hv3,hv4,hv5,hv6⟩:=hV
   have hnxR:=zXt (op:=(ps[i]?.getD default).op) (r:=r) hbd9
   have hnxA:=zXu (op:=(ps[i]?.getD default).op) (r:=r) hbd9
   have hnxO:=zXv (op:=(ps[i]?.getD default).op) (r:=r) hbd9
   have rL1:=Gt.owrd _ oL1
   have rF1:=Gt.owrd _ oF1
   have rT1:=Gt.owrd _ oT1
   refine⟨_,_,[AL1,AX1,A11,A21],rfl,z4N,?_⟩
   refine⟨fun x41=>?_⟩
   constructor<;>intro q42
   ·simp at q42
    exfalso;omega
   simp at q42
   constructor<;>intro q43
   ·simp at q43
    refine zCH (g:=gI) (T:=3) zAh (by repeat (first|exact zEP|apply zDT|apply zDc)) F [AL1,AX1,A11,A21,T,H] 2 ?_ oF rfl rF1 rfl rfl rfl rfl rfl rfl rfl rfl ?_ fun b44 c44 A44 o44=>?_
    ·exact rlA
    ·omega
    refine zCH (g:=gI) (T:=3) zAh (by repeat (first|exact zEP|apply zDT|apply zDc)) T [A44,AL1,AX1,A11,A21,H] 4 ?_ oT rfl rT1 rfl rfl rfl rfl rfl rfl rfl rfl ?_ fun b45 c45 A45 o45=>?_
    ·exact rlA
    ·omega
    constructor<;>intro q46
    ·(have hRt:st.2.null=true:=q46)
     apply zAM (j+1,zBA (ps[i]?.getD default).op (fun _ _=>r) st 0,_,_,_,_,_,_,_,_,_,_,_,_)
     ·exact frI
     ·(simp only[hnxA ‹¬(ps[i]?.getD default).op=2› ‹(ps[i]?.getD default).op=3›,zOq,hRt,Bool.false_eq_true,Bool.true_and,Bool.and_true,Bool.false_and,Bool.and_false,Bool.true_or,Bool.false_or,Bool.or_true,Bool.or_false,if_true,if_false,reduceIte,decide_true,decide_false,List.nil_append];repeat' (first|exact trivial|refine⟨by first|rfl|simp [Blk.ent],?_⟩))
     ·try dsimp only
      (refine⟨oO,zDL oO hst hr,?_⟩;simp only[hnxA ‹¬(ps[i]?.getD default).op=2› ‹(ps[i]?.getD default).op=3›,zOq];exact⟨oL1,oX1,aA,aA⟩)
     ·exact rlA
     try dsimp only
     omega
    (have hRf:st.2.null=false:=q46)
    apply zAM (j+1,zBA (ps[i]?.getD default).op (fun _ _=>r) st 0,_,_,_,_,_,_,_,_,_,_,_,_)
    ·exact frI
    ·(simp only[hnxA ‹¬(ps[i]?.getD default).op=2› ‹(ps[i]?.getD default).op=3›,zOq,hRf,Bool.false_eq_true,Bool.true_and,Bool.and_true,Bool.false_and,Bool.and_false,Bool.true_or,Bool.false_or,Bool.or_true,Bool.or_false,if_true,if_false,reduceIte,decide_true,decide_false,List.nil_append];repeat' (first|exact trivial|refine⟨by first|rfl|simp [Blk.ent],?_⟩))
    ·try dsimp only
     (refine⟨oO,zDL oO hst hr,?_⟩;simp only[hnxA ‹¬(ps[i]?.getD default).op=2› ‹(ps[i]?.getD default).op=3›,zOq];exact⟨oL1,oX1,aA,aA⟩)
    ·exact rlA
    try dsimp only
    omega
   simp at q43
   constructor<;>intro q47
   ·simp at q47
    refine zAr 0 (AX1) [AL1,A11,A21,F,T,H] rfl ?_ (zOp _ _ _ _ _ _ _ _ _ (r.fst.fst) (r.snd.last) (r.snd.first) _ _ _ _ oX1 ?_ ?_ ?_ ?_) ⟨(Rp.mono _ (zAa 0 rfl) rL1),(Rp.mono _ (zAa 2 rfl) rT1),(Rp.mono _ (zAa 1 rfl) rF1)⟩ ?_
    ·exact rlA
    ·exact hv1.1
    ·exact (fun x hx=>by have:=hv4 x hx;have h9:r.1.1.length=_:=hv2;omega)
    ·trivial
    ·omega
    rintro _ A48 ⟨bj48,cj48,Aj48,rfl,rfl,oj48⟩
    refine⟨_,_,[Aj48],rfl,zBO,?_⟩
    constructor<;>intro q49
    ·(have hVt:r.2.null=true:=q49)
     apply zAM (j+1,zBA (ps[i]?.getD default).op (fun _ _=>r) st 0,_,_,_,_,_,_,_,_,_,_,_,_)
     ·exact frI
     ·(simp only[hnxO ‹¬(ps[i]?.getD default).op=2› ‹¬(ps[i]?.getD default).op=3›,zHF,if_neg ‹¬(ps[i]?.getD default).op=6›,hVt,zGk,Bool.false_eq_true,Bool.true_and,Bool.and_true,Bool.false_and,Bool.and_false,Bool.true_or,Bool.false_or,Bool.or_true,Bool.or_false,if_true,if_false,reduceIte,decide_true,decide_false,List.nil_append];repeat' (first|exact trivial|refine⟨by first|rfl|simp [Blk.ent],?_⟩))
     ·try dsimp only
      (refine⟨oO,zDL oO hst hr,?_⟩;simp only[hnxO ‹¬(ps[i]?.getD default).op=2› ‹¬(ps[i]?.getD default).op=3›,zHF,if_neg ‹¬(ps[i]?.getD default).op=6›];exact⟨oL1,aA,oF1,oT1⟩)
     ·exact rlA
     try dsimp only
     omega
    (have hVf:r.2.null=false:=q49)
    apply zAM (j+1,zBA (ps[i]?.getD default).op (fun _ _=>r) st 0,_,_,_,_,_,_,_,_,_,_,_,_)
    ·exact frI
    ·(simp only[hnxO ‹¬(ps[i]?.getD default).op=2› ‹¬(ps[i]?.getD default).op=3›,zHF,if_neg ‹¬(ps[i]?.getD default).op=6›,hVf,zGk,Bool.false_eq_true,Bool.true_and,Bool.and_true,Bool.false_and,Bool.and_false,Bool.true_or,Bool.false_or,Bool.or_true,Bool.or_false,if_true,if_false,reduceIte,decide_true,decide_false,List.nil_append,zXn];repeat' (first|exact trivial|refine⟨by first|rfl|simp [Blk.ent],?_⟩))
    ·try dsimp only
     (refine⟨oO,zDL oO hst hr,?_⟩;simp only[hnxO ‹¬(ps[i]?.getD default).op=2› ‹¬(ps[i]?.getD default).op=3›,zHF,if_neg ‹¬(ps[i]?.getD default).op=6›];exact⟨oL1,aA,oF1,oT1⟩)
    ·exact rlA
    try dsimp only
    omega
   simp at q47
   constructor<;>intro q50
   ·(have hVt:r.2.null=true:=q50)
    apply zAM (j+1,zBA (ps[i]?.getD default).op (fun _ _=>r) st 0,_,_,_,_,_,_,_,_,_,_,_,_)
    ·exact frI
    ·(simp only[hnxO ‹¬(ps[i]?.getD default).op=2› ‹¬(ps[i]?.getD default).op=3›,zHF,if_pos ‹(ps[i]?.getD default).op=6›,hVt,zGk,Bool.false_eq_true,Bool.true_and,Bool.and_true,Bool.false_and,Bool.and_false,Bool.true_or,Bool.false_or,Bool.or_true,Bool.or_false,if_true,if_false,reduceIte,decide_true,decide_false,List.nil_append];repeat' (first|exact trivial|refine⟨by first|rfl|simp [Blk.ent],?_⟩))
    ·try dsimp only
     (refine⟨oO,zDL oO hst hr,?_⟩;simp only[hnxO ‹¬(ps[i]?.getD default).op=2› ‹¬(ps[i]?.getD default).op=3›,zHF,if_pos ‹(ps[i]?.getD default).op=6›];exact⟨oL1,oX1,oF1,oT1⟩)
    ·exact rlA
    try dsimp only
    omega
   (have hVf:r.2.null=false:=q50)
   apply zAM (j+1,zBA (ps[i]?.getD default).op (fun _ _=>r) st 0,_,_,_,_,_,_,_,_,_,_,_,_)
   ·exact frI
   ·(simp only[hnxO ‹¬(ps[i]?.getD default).op=2› ‹¬(ps[i]?.getD default).op=3›,zHF,if_pos ‹(ps[i]?.getD default).op=6›,hVf,zGk,Bool.false_eq_true,Bool.true_and,Bool.and_true,Bool.false_and,Bool.and_false,Bool.true_or,Bool.false_or,Bool.or_true,Bool.or_false,if_true,if_false,reduceIte,decide_true,decide_false,List.nil_append,zXn];repeat' (first|exact trivial|refine⟨by first|rfl|simp [Blk.ent],?_⟩))
   ·try dsimp only
    (refine⟨oO,zDL oO hst hr,?_⟩;simp only[hnxO ‹¬(ps[i]?.getD default).op=2› ‹¬(ps[i]?.getD default).op=3›,zHF,if_pos ‹(ps[i]?.getD default).op=6›];exact⟨oL1,oX1,oF1,oT1⟩)
   ·exact rlA
   try dsimp only
   omega
  simp at q37
  (rw[zGj ‹¬(ps[i]?.getD default).op=1›,zXr (j:=j) (by rw[←hst];exact ‹zG4 st.1=true›),←hst];exact⟨_,⟨_,_,_,_,_,_,_,_,_,_,_,_,rfl,rfl,oL,oX,oF,oT⟩,rlB⟩)
 simp at q36
 (have hke:j=(ps[i]?.getD default).kids.length:=oO;subst hke;rw[List.take_length] at hst;rw[zGj ‹¬(ps[i]?.getD default).op=1›,←hst];exact⟨_,⟨_,_,_,_,_,_,_,_,_,_,_,_,rfl,rfl,oL,oX,oF,oT⟩,rlB⟩)
end
end Go.Proofs.YtcnclhjhnjpeiaaGreat
namespace Go.SX
open Go.Proofs Go.Sort Go.Shelf
theorem z1j {a b:World} (h1:a.heap=b.heap) (h2:a.tape=b.tape) (h3:a.drawn=b.drawn) (h4:a.os=b.os) (h5:a.output=b.output):a=b:=by
 cases a;cases b;simp only at h1 h2 h3 h4 h5;subst h1 h2 h3 h4 h5;rfl
theorem zP9 {W w':World} {A:Hp} (h:Sat W (A++zJM W) w'):∃ q os',w'=Sort.grow (W.drewN q) os':=by
 have hb:=zJm h
 refine⟨w'.drawn-W.drawn,w'.heap.extract W.heap.size w'.heap.size,z1j ?_ hb.tape ?_ hb.os hb.output⟩
 ·show w'.heap=W.heap++w'.heap.extract W.heap.size w'.heap.size
  apply Array.ext_getElem?
  intro i
  rw[Array.getElem?_append]
  split
  ·rename_i hi;rw[hb.block i hi]
  rename_i hi
  have h2:=hb.size
  rw[Array.getElem?_extract]
  split
  ·congr 1;omega
  rename_i h3
  rw[Array.getElem?_eq_none oO]
 show w'.drawn=W.drawn+(w'.drawn-W.drawn)
 have:=h.dr;omega
theorem Sat.grow {E:World} {H:Hp} {w:World} (h:Sat E H w) (os:Array Obj):Sat E H (Sort.grow w os):=
 ⟨h.os,h.out,h.tape,fun b o hm=>by
  show (w.heap++os)[b]?=some o
  rw[Array.getElem?_append_left (h.lt hm)];exact h.mem b o hm,h.nodup,h.dr⟩
theorem Sat.ahead {E:World} {H:Hp} {w:World} (h:Sat E H w) (n:Nat):Sat E H (Sort.ahead w n):=
 ⟨h.os,h.out,h.tape,h.mem,h.nodup,Nat.le_trans h.dr (Nat.le_add_right _ _)⟩
theorem zQa (F0 sp:List Value) (F:Array Value) (hl:F0.length=F.size):putCells id 0 F (⟨F0++sp⟩:Array Value)=⟨F.toList++sp⟩:=by
 apply Array.ext_getElem?
 intro i
 unfold putCells
 rw[Array.getElem?_mapIdx]
 simp only[List.getElem?_toArray,Nat.zero_add,Nat.zero_le,true_and,Nat.sub_zero,id]
 by_cases hi:i < F.size
 ·rw[List.getElem?_append_left oO,List.getElem?_append_left (by simpa using hi),List.getElem?_eq_getElem (by omega:i < F0.length)]
  simp [hi]
 rw[List.getElem?_append_right oO,List.getElem?_append_right (by simpa using hi)]
 simp [hi,hl]
theorem Sat.putRow {E:World} {B:Hp} {w:World} {b:Nat} {T:TypeId} {F0 sp:List Value} (F:Array Value) (h:Sat E ((b,Obj.cells ⟨F0++sp⟩ T)::B) w) (hl:F0.length=F.size):Sat E ((b,Obj.cells ⟨F.toList++sp⟩ T)::B) (Sort.putRow id w b 0 F):=by
 refine Sat.upd (A:=[]) (o':=Obj.cells ⟨F.toList++sp⟩ T) h rfl rfl rfl ?_ ?_
 ·have h2:=h.mem b _ (List.mem_cons_self ..)
  show (w.heap.modify b (onCells (putCells id 0 F)))[b]?=_
  rw[Array.getElem?_modify,if_pos rfl,h2]
  simp only[Option.map_some,onCells,zQa F0 sp F hl]
 intro i hi
 show (w.heap.modify b _)[i]?=_
 rw[Array.getElem?_modify,if_neg (Ne.symm hi)]
theorem zXw {E:World} {B:Hp} {w:World} {b:Nat} {T:TypeId} {sp:List Value} {F:Array Value} (h:Sat E ((b,Obj.cells ⟨F.toList++sp⟩ T)::B) w):Sort.Holds id w b 0 F:=by
 intro j hj
 have h2:=h.mem b _ (List.mem_cons_self ..)
 refine⟨?_,?_⟩
 ·rw[Nat.zero_add,h.cell (List.mem_cons_self ..)]
  simp only[List.getElem?_toArray,id]
  rw[List.getElem?_append_left (by simpa using hj)]
  simp [hj]
 simp [World.frozen?,h2]
theorem zM8 {α:Type} [Inhabited α] (f:Fl α) (d:Array α):(flatK f.enc f.size d).toList=d.toList.flatMap f.enc:=by
 apply List.ext_getElem?
 intro t
 have hl:=zAQ f d.toList
 by_cases ht:t < d.size * f.size
 ·have hp:=f.pos
  have hq:t / f.size < d.size:=(Nat.div_lt_iff_lt_mul hp).2 ht
  have hm:t % f.size < f.size:=Nat.mod_lt _ hp
  have h1:=zGD f d.toList (t / f.size) (t % f.size) (by simpa using hq) hm
  rw[Nat.mul_comm (t / f.size),Nat.div_add_mod] at h1
  rw[h1]
  have h2:=get_flatK f.enc f.size d t ht
  have h3:t < (flatK f.enc f.size d).size:=by rw[size_flatK];exact ht
  rw[getElem!_pos _ t h3] at h2
  rw[Array.getElem?_toList,Array.getElem?_eq_getElem h3,h2,getElem!_pos d _ hq]
  rw[List.getElem?_eq_getElem (by rw[f.len];exact hm),getElem!_pos _ _ (by rw[f.len];exact hm)]
  rfl
 rw[List.getElem?_eq_none (by simpa using (by omega:d.size * f.size≤t)),List.getElem?_eq_none (by rw[hl];simpa using (by omega:d.size * f.size≤t))]
theorem zXx:∀ {l:List Value},zBP l=true→∀ v∈l,v.oneCell'=true
 | [],_,_,h=>by cases h
 | x::r,h,v,hv=>by
  have h1:x.oneCell'=true∧zBP r=true:=by
   cases x<;>simp_all [zBP,Value.oneCell']
  rcases List.mem_cons.1 hv with rfl|hv
  ·exact h1.1
  exact zXx h1.2 v hv
section
variable {P:Program} {ρ:Ren} {α:Type}
def zFC (f:Fl α):Fl { x:α // f.wf x }:=⟨f.size,fun x=>f.enc x.1,fun _=>True,fun x=>f.len x.1,fun x=>f.one x.1,f.pos⟩
theorem zOt (f:Fl α):∀ l:List { x:α // f.wf x },l.flatMap (zFC f).enc=(l.map (·.1)).flatMap f.enc
 | []=>rfl
 | x::r=>by simp only[List.flatMap_cons,List.map_cons,zOt f r];rfl
theorem z1k {g : FuncId} {B : Func} (h : Bears P g B) (hb : B.body.isSome = true) : ∃ fn, P.funcs[g]? = some fn ∧ fn.name ≠ "runtime.NumGoroutine" ∧ fn.body.isSome = true := by
 obtain⟨nm,h1,h2⟩:=h
 exact⟨_,h2,by simpa using h1,hb⟩
theorem z1l [Inhabited α] (L:SlLaysF0.n6 P ρ) (f:Fl α) (hwd:f.wf default) (aE:∀ w,(isAgg (ρ.t 24)).run P w = .ok true w) (zE:∀ w,(Go.sizeOf (ρ.t 24)).run P w = .ok f.size w)
  (cf:α→α→Int) (hO:SWO (ltOf cf)) (g:Nat) (eg:∀ args w,(callFunc g args).run P w = .ok (.enter g args) w) (T:TypeId)
  (hc:∀ x y,f.wf x→f.wf y→Ct P g [.agg ⟨f.enc x⟩,.agg ⟨f.enc y⟩] [] (fun _=>True) (fun v A=>v = .int .i64 (cf x y)∧A=[]))
  {base:Option Addr} {n cap:Nat} {xs:List α} {A0:Hp} (ho:Ow f T (.slice base n cap) xs A0) (hn:xs.length < 4611686018427387904) :
  CtR P (ρ.f 6) [.slice base n cap,.func (.func g) #[] #[]] A0 (fun _=>True) (fun v A=>v = .tuple #[]∧∃ xs',xs'.Perm xs∧xs'.Pairwise (fun a b=>ltOf cf b a=false)∧Ow f T (.slice base xs'.length cap) xs' A):=by
 refine⟨z1k L.f6 rfl,fun E H w hs _=>?_⟩
 obtain⟨hw,hl,base0,cap0,e,h3⟩:=ho
 cases e
 rcases h3 with ⟨rfl,rfl,rfl⟩|⟨b,sp,rfl,rfl,h4,h5⟩
 ·refine (AnyF.slices_SortFunc_none L base 0 _ w).mono ?_
  rintro e w' ⟨rfl,rfl⟩
  exact⟨_,[],rfl,⟨rfl,[],.refl _,.nil,Ow.nil T base⟩,hs⟩
 letI:Inhabited { x:α // f.wf x }:=⟨⟨default,hwd⟩⟩
 let ys:List { x:α // f.wf x }:=xs.pmap Subtype.mk hw
 have hys:ys.map (·.1)=xs:=by simp [ys,List.map_pmap]
 have hfl:(flatK (zFC f).enc (zFC f).size ys.toArray).toList=xs.flatMap f.enc:=by
  rw[zM8 (zFC f) ys.toArray,zOt,hys]
 have hsz:ys.toArray.size=xs.length:=by simp [ys]
 have hs1:Sat E ((b,Obj.cells ⟨(flatK (zFC f).enc (zFC f).size ys.toArray).toList++sp⟩ T)::H) w:=by rw[hfl];exact hs
 have hHolds:HoldsK (zFC f).enc (zFC f).size w b 0 ys.toArray:=zXw hs1
 have hcmp:CmpLays P g #[] (zFC f).enc (zFC f).size (fun x y=>cf x.1 y.1) b 0 ys.toArray.size w:=by
  intro m os dk _ x y
  have h6:=(hc x.1 y.1 x.2 y.2).2 _ (zJM (sortWorldK (zFC f).enc (zFC f).size w b 0 m dk os)) _ (zPh _) trivial
  refine Calls.mono h6 ?_
  rintro e w' ⟨v,A,rfl,⟨rfl,rfl⟩,h7⟩
  exact⟨rfl,zP9 h7⟩
 have hmain:=AnyQ.slices_SortFunc L (zFC f).size aE zE (zFC f).enc (fun x=>f.len x.1) (fun x=>zXx (f.one x.1)) (fun x y=>cf x.1 y.1)
  ⟨fun x=>hO.irrefl x.1,fun x y z=>hO.trans x.1 y.1 z.1,fun x y z=>hO.ntrans x.1 y.1 z.1⟩ g #[] b 0 cap ys.toArray w eg hcmp hHolds (hs.lt (List.mem_cons_self ..)) (by rw[hsz];exact hn)
 rw[hsz] at hmain
 refine Calls.mono hmain ?_
 rintro e w' ⟨rfl,d',m,os,hp,hso,rfl⟩
 have hds:d'.size=xs.length:=by rw[hp.1,hsz]
 have hperm:d'.toList.Perm ys:=by
  have h8:=hp.2.2
  have e1:d'.extract 0 xs.length=d':=by rw[←hds];simp
  have e2:ys.toArray.extract 0 xs.length=ys.toArray:=by rw[←hsz];simp
  rw[e1,e2] at h8;exact h8
 have hperm2:(d'.toList.map (·.1)).Perm xs:=by rw[←hys];exact hperm.map _
 have hlen:(d'.toList.map (·.1)).length=xs.length:=hperm2.length_eq
 refine⟨_,[(b,Obj.cells ⟨(d'.toList.map (·.1)).flatMap f.enc++sp⟩ T)],rfl,⟨rfl,d'.toList.map (·.1),hperm2,?_,fun x hx=>hw x (hperm2.mem_iff.1 hx),oO,_,_,rfl,.inr ⟨b,sp,rfl,rfl,oO,by rw[hlen];exact h5⟩⟩,?_⟩
 ·rw[List.pairwise_map,List.pairwise_iff_getElem]
  intro i j hi hj hij
  have h9:=hso i j (Nat.zero_le _) hij (by simpa [hds] using hj)
  rw[getElem!_pos d' j (by simpa using hj),getElem!_pos d' i (by simpa using hi)] at h9
  exact h9
 have h10:Sat E ((b,Obj.cells ⟨(flatK (zFC f).enc (zFC f).size d').toList++sp⟩ T)::H) (sortWorldK (zFC f).enc (zFC f).size w b 0 m d' os):=
  (Sat.putRow (F0:=xs.flatMap f.enc) _ (hs.ahead m) (by rw[zAQ,size_flatK,hds];rfl)).grow os
 rw[zM8 (zFC f) d',zOt] at h10
 exact h10
end
end Go.SX
namespace Go.Proofs.YtcnclhjhnjpeiaaGreat
open Go.SX Go.Proofs
open Tryz
section
theorem z4P {a b:Arc} (h1:a.from'=b.from') (h2:a.label=b.label) (h3:a.to=b.to):a=b:=by
 cases a;cases b;simp only at h1 h2 h3;subst h1 h2 h3;rfl
theorem zM9 {a b:Arc} (h:a≠b):zBl a b=true∨zBl b a=true:=by
 by_cases h1:a.from'=b.from'
 ·by_cases h2:a.label=b.label
  ·rw[zGL h1 h2,zGL h1.symm h2.symm,decide_eq_true_iff,decide_eq_true_iff]
   have h3:a.to≠b.to:=fun h3=>h (z4P h1 h2 h3)
   omega
  rw[zEj h1 h2,zEj h1.symm (fun e=>h2 e.symm),decide_eq_true_iff,decide_eq_true_iff]
  have h3:a.label.toNat≠b.label.toNat:=fun e=>h2 (UInt8.toNat_inj.1 e)
  omega
 rw[zET h1,zET (fun e=>h1 e.symm),decide_eq_true_iff,decide_eq_true_iff];omega
theorem z1m {xs:List Arc} {x y:Arc}:y∈zV3 xs x↔y=x∨y∈xs:=by
 unfold zV3
 simp only[List.mem_append,List.mem_filter,List.mem_singleton]
 constructor
 ·rintro (h | h | h)
  ·exact .inr h.1
  ·exact .inl h
  exact .inr h.1
 intro h
 by_cases e:y=x
 ·exact .inr (.inl e)
 rcases h with h|h
 ·exact absurd h e
 rcases zM9 e with h2|h2
 ·exact .inl ⟨h,h2⟩
 exact .inr (.inr ⟨h,h2⟩)
theorem zQb {lb:List UInt8} {f:Int} {y:Arc}:∀ {to:List Int} {xs:List Arc},y∈zIf lb f to xs↔y∈xs∨∃ t∈to,y=zLc lb f t
 | [],xs=>by show y∈xs↔_;simp
 | t::to,xs=>by
  show y∈zIf lb f to (zV3 xs (zLc lb f t))↔_
  rw[zQb,z1m]
  constructor
  ·rintro ((h | h) | ⟨t',h1,h2⟩)
   ·exact .inr ⟨t,List.mem_cons_self ..,h⟩
   ·exact .inl h
   exact .inr ⟨t',List.mem_cons_of_mem _ h1,h2⟩
  rintro (h | ⟨t',h1,h2⟩)
  ·exact .inl (.inr h)
  rcases List.mem_cons.1 h1 with rfl|h1
  ·exact .inl (.inl h2)
  exact .inr ⟨t',h1,h2⟩
theorem zLf {lb:List UInt8} {to:List Int} {y:Arc}:∀ {fr:List Int} {xs:List Arc},y∈zCk lb fr to xs↔y∈xs∨∃ f∈fr,∃ t∈to,y=zLc lb f t
 | [],xs=>by show y∈xs↔_;simp
 | f::fr,xs=>by
  show y∈zCk lb fr to (zIf lb f to xs)↔_
  rw[zLf,zQb]
  constructor
  ·rintro ((h | ⟨t,h1,h2⟩) | ⟨f',h1,h2⟩)
   ·exact .inl h
   ·exact .inr ⟨f,List.mem_cons_self ..,t,h1,h2⟩
   exact .inr ⟨f',List.mem_cons_of_mem _ h1,h2⟩
  rintro (h | ⟨f',h1,h2⟩)
  ·exact .inl (.inl h)
  rcases List.mem_cons.1 h1 with rfl|h1
  ·exact .inl (.inr h2)
  exact .inr ⟨f',h1,h2⟩
theorem zXy {next i j:Nat}:∀ (l:List Int) (fo:List Nat),i < fo.length→(∀ x∈l,0≤x)→((orL fo l next)[i]?.getD 0).testBit j=((fo[i]?.getD 0).testBit j || (decide ((i:Int)∈l) && next.testBit j))
 | [],fo,_,_=>by show (fo[i]?.getD 0).testBit j=_;simp
 | k::l,fo,hi,hp=>by
  show ((orL (zFS next fo k) l next)[i]?.getD 0).testBit j=_
  have hk:=hp k (List.mem_cons_self ..)
  rw[zXy l _ (by unfold zFS;rw[List.length_set];exact hi) (fun x hx=>hp x (List.mem_cons_of_mem _ hx))]
  unfold zFS
  by_cases e:k.toNat=i
  ·have e2:(i:Int)=k:=by omega
   rw[e,List.getElem?_set_self hi]
   simp only[Option.getD_some,Nat.testBit_or,e2,List.mem_cons,true_or,decide_true,Bool.true_and]
   cases (fo[i]?.getD 0).testBit j<;>cases next.testBit j<;>simp
  have e2:¬(i:Int)=k:=by omega
  rw[List.getElem?_set_ne e]
  simp [e2]
theorem zQc {s n i:Nat}:((i:Int)∈zBf s n)↔i < n∧s.testBit i=true:=by
 constructor
 ·intro h;have:=zJ9 h;exact⟨oO,by simpa using this.2.2⟩
 rintro ⟨h1,h2⟩
 unfold zBf
 exact List.mem_map.2 ⟨i,List.mem_filter.2 ⟨List.mem_range.2 h1,h2⟩,rfl⟩
theorem zOu {fo:List Nat} {last next i j:Nat} (hi:i < fo.length) (h32:i < 32):((zRR fo last next)[i]?.getD 0).testBit j=((fo[i]?.getD 0).testBit j || (last.testBit i && next.testBit j)):=by
 unfold zRR
 rw[zXy _ _ hi (fun x hx=>(zJ9 hx).1)]
 congr 2
 rw[Bool.eq_iff_iff,decide_eq_true_iff,zQc]
 exact⟨fun h=>h.2,fun h=>⟨h32,h⟩⟩
def zXz (m:Nat) (l:List Int):Prop:=(∀ x∈l,1≤x)∧∀ k:Nat,m.testBit k=true↔((k:Int)+1)∈l
theorem zRU {m:Nat} {l:List Int} (h:zXz m l) {x:Int} (hx:x∈l):∃ k:Nat,x=(k:Int)+1∧m.testBit k=true:=by
 have h1:=h.1 x hx
 refine⟨(x-1).toNat,oO,(h.2 _).2 ?_⟩
 rwa [show (((x-1).toNat:Nat):Int)+1=x from oO]
theorem zIh:zXz 0 []:=⟨fun _ h=>(by cases h),fun k=>by simp⟩
theorem zOv {a b:Nat} {l r:List Int} (h:zXz a l) (h2:zXz b r):zXz (a ||| b) (l++r):=by
 refine⟨fun x hx=>(List.mem_append.1 hx).elim (h.1 x) (h2.1 x),fun k=>?_⟩
 rw[Nat.testBit_or,Bool.or_eq_true,List.mem_append,h.2,h2.2]
theorem zTo (n:Nat):zXz (2 ^ n) [((n+1:Nat):Int)]:=by
 refine⟨fun x hx=>by rw[List.mem_singleton.1 hx];omega,fun k=>?_⟩
 rw[Nat.testBit_two_pow,decide_eq_true_iff,List.mem_singleton];omega
def zXA (p:Pos) (s:MkS):Prop:=p.1=s.1∧∀ x:Arc,x∈s.2↔∃ i j:Nat,i < p.2.length∧(p.2[i]?.getD 0).testBit j=true∧x=⟨(i:Int)+1,p.1[j]?.getD default,(j:Int)+1⟩
def zO9 (r:Pos×Span) (q:MkS×Look):Prop:=zXA r.1 q.1∧zXz r.2.first q.2.first∧zXz r.2.last q.2.last∧r.2.empty=q.2.null
theorem zIi (lb:List UInt8) (f:Int) (j:Nat):zLc lb f ((j:Int)+1)=⟨f,lb[j]?.getD default,(j:Int)+1⟩:=by
 unfold zLc
 rw[show ((j:Int)+1-1).toNat=j from oO]
theorem zTp {lb:List UInt8} {fo:List Nat} {xs:List Arc} {last first:Nat} {L F:List Int} (h:zXA (lb,fo) (lb,xs)) (hl:zXz last L) (hf:zXz first F) (hb:last < 2 ^ fo.length) (h32:fo.length≤32) :
  zXA (lb,zRR fo last first) (lb,zCk lb L F xs):=by
 refine⟨rfl,fun x=>?_⟩
 show x∈zCk lb L F xs↔_
 rw[zLf,h.2 x]
 have hlen:(zRR fo last first).length=fo.length:=zOl _ _ _
 constructor
 ·rintro (⟨i,j,h1,h2,h3⟩ | ⟨f,h1,t,h2,h3⟩)
  ·refine⟨i,j,by show i < (zRR fo last first).length;rw[hlen];exact h1,?_,h3⟩
   rw[zOu h1 (Nat.lt_of_lt_of_le h1 h32),show (fo[i]?.getD 0).testBit j=true from h2];rfl
  obtain⟨i,rfl,h4⟩:=zRU hl h1
  obtain⟨j,rfl,h5⟩:=zRU hf h2
  have hi:=zTi hb h4
  refine⟨i,j,by show i < (zRR fo last first).length;rw[hlen];exact hi,?_,by rw[h3,zIi]⟩
  rw[zOu hi (Nat.lt_of_lt_of_le hi h32),h4,h5];simp
 rintro ⟨i,j,h1,h2,h3⟩
 have h1:i < fo.length:=by rw[←hlen];exact h1
 rw[zOu h1 (Nat.lt_of_lt_of_le h1 h32),Bool.or_eq_true,Bool.and_eq_true] at h2
 rcases h2 with h2|⟨h4,h5⟩
 ·exact .inl ⟨i,j,h1,h2,h3⟩
 exact .inr ⟨_,(hl.2 i).1 h4,_,(hf.2 j).1 h5,by rw[h3,zIi]⟩
theorem z4Q {st v:Pos×Span} {q r:MkS×Look} (h:zO9 st q) (hv:zO9 v r) (h1:st.2.last < 2 ^ v.1.2.length) (h32:v.1.2.length≤32):zO9 (zP4 st v) (zIg q r):=by
 obtain⟨⟨a1,a2⟩,a3,a4,a5⟩:=h
 obtain⟨⟨vl,vf⟩,vs⟩:=v
 obtain⟨⟨rl,ra⟩,rs⟩:=r
 obtain⟨b1,b3,b4,b5⟩:=hv
 have e:vl=rl:=b1.1
 subst e
 have hj:=zTp b1 a4 b3 h1 h32
 unfold zP4 zIg
 refine⟨hj,?_,?_,?_⟩
 ·dsimp only
  rw[←a5]
  split
  ·exact zOv a3 b3
  exact a3
 ·dsimp only at b5 ⊢
  rw[←b5]
  split
  ·exact zOv a4 b4
  rw[Nat.zero_or];exact b4
 dsimp only at b5 ⊢
 rw[a5,b5]
theorem z4R {st v:Pos×Span} {q r:MkS×Look} (h:zO9 st q) (hv:zO9 v r):zO9 (zXm st v) (zOq q r):=by
 obtain⟨-,a3,a4,a5⟩:=h
 obtain⟨b1,b3,b4,b5⟩:=hv
 exact⟨b1,zOv a3 b3,zOv a4 b4,by show (st.2.empty || v.2.empty)=(q.2.null || r.2.null);rw[a5,b5]⟩
theorem z4S {op:Int} {v:Pos×Span} {r:MkS×Look} (hv:zO9 v r) (h1:v.2.last < 2 ^ v.1.2.length) (h32:v.1.2.length≤32):zO9 (zED op v) (zHF op r):=by
 obtain⟨⟨vl,vf⟩,vs⟩:=v
 obtain⟨⟨rl,ra⟩,rs⟩:=r
 obtain⟨b1,b3,b4,b5⟩:=hv
 have e:vl=rl:=b1.1
 subst e
 unfold zED zHF
 refine⟨?_,b3,b4,?_⟩
 ·dsimp only
  split
  ·exact b1
  exact zTp b1 b4 b3 h1 h32
 dsimp only at b5 ⊢
 rw[b5]
theorem z1n {p:Pos} {s:MkS} {b:UInt8} (h:zXA p s) (hg:zRl p):zXA (p.1++[b],p.2++[0]) (s.1++[b],s.2):=by
 obtain⟨lb,fo⟩:=p
 obtain⟨lb',xs⟩:=s
 obtain⟨rfl,h2⟩:=h
 refine⟨rfl,fun x=>?_⟩
 have hz:∀ i:Nat,(fo++[0])[i]?.getD 0=fo[i]?.getD 0:=by
  intro i
  rcases Nat.lt_or_ge i fo.length with h|h
  ·rw[List.getElem?_append_left h]
  rw[List.getElem?_append_right h,List.getElem?_eq_none h]
  rcases Nat.eq_zero_or_pos (i-fo.length) with e|e
  ·rw[e];rfl
  rw[List.getElem?_eq_none (by rw[List.length_singleton];omega)]
 have hb:∀ i j:Nat,(fo[i]?.getD 0).testBit j=true→j < lb.length∧i < fo.length:=by
  intro i j hj
  rcases Nat.lt_or_ge i fo.length with h|h
  ·rw[List.getElem?_eq_getElem h] at hj
   exact⟨zTi (hg.2 _ (List.getElem_mem h)) hj,h⟩
  rw[List.getElem?_eq_none h] at hj;simp at hj
 have hlb:∀ j,j < lb.length→(lb++[b])[j]?.getD default=lb[j]?.getD default:=fun j hj=>by rw[List.getElem?_append_left hj]
 refine (h2 x).trans ?_
 constructor
 ·rintro ⟨i,j,h3,h4,h5⟩
  refine⟨i,j,?_,?_,?_⟩
  ·show i < (fo++[0]).length
   rw[List.length_append];exact Nat.lt_of_lt_of_le h3 (Nat.le_add_right _ _)
  ·show ((fo++[0])[i]?.getD 0).testBit j=true
   rw[hz];exact h4
  rw[h5]
  show (⟨_,lb[j]?.getD default,_⟩:Arc)=⟨_,(lb++[b])[j]?.getD default,_⟩
  rw[hlb j (hb i j h4).1]
 rintro ⟨i,j,h3,h4,h5⟩
 have h4:((fo++[0])[i]?.getD 0).testBit j=true:=h4
 rw[hz] at h4
 obtain⟨h6,h7⟩:=hb i j h4
 refine⟨i,j,h7,h4,?_⟩
 rw[h5]
 show (⟨_,(lb++[b])[j]?.getD default,_⟩:Arc)=⟨_,lb[j]?.getD default,_⟩
 rw[hlb j h6]
theorem zXB {s:Pos} {c:Nat} {r:Pos×Span} (h:zMq s c r):r.2.last < 2 ^ r.1.2.length:=by
 rw[←h.1.1];exact h.2.2.2
theorem zRV {p:Pos} {s:MkS} (h:zXA p s) (hl:p.1.length≤23):zG4 s=false:=by
 unfold zG4;rw[←h.1];exact decide_eq_false oO
theorem zTq {ps:List Piece} {n i:Nat} (hps:zGg ps) (hi:i < ps.length) (hin:i≤n) (ih:∀ j p s,j < i→zXA p s→zRl p→p.1.length+zDe ps n j≤23→zO9 (zA5 ps n j p) (look ps n j s)) :
  ∀ (l:List Int),(∀ k∈l,k.toNat < i)→∀ (st:Pos×Span) (q:MkS×Look) (s0:Pos) (c:Nat),zMq s0 c st→zO9 st q→st.1.1.length+zFX (zDe ps n) l≤23→zO9 (l.foldl (zHD (zA5 ps n)) st) (l.foldl (zBA 2 (look ps n)) q)
 | [],_,_,_,_,_,_,h,_=>h
 | k::l,hk,st,q,s0,c,hf,h,hc=>by
  have hk0:=hk k (List.mem_cons_self ..)
  simp only[zFX] at hc
  have hv:=ih k.toNat st.1 q.1 hk0 h.1 hf.1 oO
  have hvf:=zB0 ps n k.toNat st.1 hf.1 hps oO oO
  have e1:zHD (zA5 ps n) st k=zP4 st (zA5 ps n k.toNat st.1):=rfl
  have e2:zBA 2 (look ps n) q k=zIg q (look ps n k.toNat q.1):=by
   unfold zBA;rw[zRV h.1 oO];rfl
  have hlen:(zA5 ps n k.toNat st.1).1.1.length=st.1.1.length+zDe ps n k.toNat:=hvf.2.1
  have hl2:=hvf.1.1
  rw[List.foldl_cons,List.foldl_cons,e1,e2]
  refine zTq hps hi hin ih l (fun k hk'=>hk k (List.mem_cons_of_mem _ hk')) _ _ s0 _ (zOm hf hvf) (z4Q h hv ?_ oO) ?_
  ·rw[←hl2];exact Nat.lt_of_lt_of_le hf.2.2.2 (zEi oO)
  show (zA5 ps n k.toNat st.1).1.1.length+_≤23
  omega
theorem zTr {ps:List Piece} {n i:Nat} (hps:zGg ps) (hi:i < ps.length) (hin:i≤n) (ih:∀ j p s,j < i→zXA p s→zRl p→p.1.length+zDe ps n j≤23→zO9 (zA5 ps n j p) (look ps n j s)) :
  ∀ (l:List Int),(∀ k∈l,k.toNat < i)→∀ (st:Pos×Span) (q:MkS×Look) (s0:Pos) (c:Nat),zMq s0 c st→zO9 st q→st.1.1.length+zFX (zDe ps n) l≤23→zO9 (l.foldl (zHE (zA5 ps n)) st) (l.foldl (zBA 3 (look ps n)) q)
 | [],_,_,_,_,_,_,h,_=>h
 | k::l,hk,st,q,s0,c,hf,h,hc=>by
  have hk0:=hk k (List.mem_cons_self ..)
  simp only[zFX] at hc
  have hv:=ih k.toNat st.1 q.1 hk0 h.1 hf.1 oO
  have hvf:=zB0 ps n k.toNat st.1 hf.1 hps oO oO
  have e1:zHE (zA5 ps n) st k=zXm st (zA5 ps n k.toNat st.1):=rfl
  have e2:zBA 3 (look ps n) q k=zOq q (look ps n k.toNat q.1):=by
   unfold zBA;rw[zRV h.1 oO];rfl
  have hlen:(zA5 ps n k.toNat st.1).1.1.length=st.1.1.length+zDe ps n k.toNat:=hvf.2.1
  rw[List.foldl_cons,List.foldl_cons,e1,e2]
  refine zTr hps hi hin ih l (fun k hk'=>hk k (List.mem_cons_of_mem _ hk')) _ _ s0 _ (zOn hf hvf) (z4R h hv) ?_
  show (zA5 ps n k.toNat st.1).1.1.length+_≤23
  omega
theorem zNa {ps:List Piece} (hps:zGg ps):∀ (n i:Nat) (p:Pos) (s:MkS),i < ps.length→i < n→zXA p s→zRl p→p.1.length+zDe ps n i≤23→zO9 (zA5 ps n i p) (look ps n i s)
 | 0,_,_,_,_,h,_,_,_=>by omega
 | n+1,i,p,s,hi,hin,hr,hg,hc=>by
  have ih:∀ j p s,j < i→zXA p s→zRl p→p.1.length+zDe ps n j≤23→zO9 (zA5 ps n j p) (look ps n j s):=
   fun j p s hj h1 h2 h3=>zNa hps n j p s oO oO h1 h2 h3
  by_cases h1:(ps[i]?.getD default).op=1
  ·rw[zM6 h1,zP7 h1]
   have e:=hr.1
   refine⟨z1n hr hg,?_,?_,rfl⟩
   ·rw[←e];exact zTo _
   rw[←e];exact zTo _
  have hk:∀ k∈(ps[i]?.getD default).kids,k.toNat < i:=by
   intro k hk
   obtain⟨j,hj,rfl⟩:=List.mem_iff_getElem.1 hk
   have h3:=zFB hps hi h1 hj
   rw[List.getElem?_eq_getElem hj] at h3
   simp only[Option.getD_some] at h3
   omega
  rw[zKd h1] at hc
  rw[zGj h1]
  by_cases h2:(ps[i]?.getD default).op=2
  ·rw[zPZ h2]
   unfold zDK lkK
   rw[h2]
   exact zTq hps hi oO ih _ hk _ _ p 0 (zFl hg) ⟨hr,zIh,zIh,rfl⟩ hc
  by_cases h3:(ps[i]?.getD default).op=3
  ·rw[zP0 h3]
   unfold zE8 lkK
   rw[h3]
   exact zTr hps hi oO ih _ hk _ _ p 0 (zFl hg) ⟨hr,zIh,zIh,rfl⟩ hc
  rw[zP1 h1 h2 h3]
  have hkl:=zTm hps hi h1 h2 h3
  obtain⟨k,hk1⟩:=List.length_eq_one_iff.1 hkl
  rw[hk1] at hc hk ⊢
  have hk0:=hk k (List.mem_singleton.2 rfl)
  simp only[zFX] at hc
  have hv:=ih k.toNat p s hk0 hr hg oO
  have hvf:=zB0 ps n k.toNat p hg hps oO oO
  have hlen:(zA5 ps n k.toNat p).1.1.length=p.1.length+zDe ps n k.toNat:=hvf.2.1
  have hl2:=hvf.1.1
  have e2:lkK ps n (ps[i]?.getD default).op s [k]=zHF (ps[i]?.getD default).op (look ps n k.toNat s):=by
   show zBA _ _ _ _=_
   unfold zBA
   rw[zRV hr oO,if_neg (by decide),if_neg h2,if_neg h3]
  rw[e2]
  show zO9 (zED _ (zA5 ps n k.toNat p)) _
  exact z4S hv (zXB hvf) oO
end
section
theorem zHG {a b:Arc}:zBl a b=true↔a.from' < b.from'∨(a.from'=b.from'∧(a.label.toNat < b.label.toNat∨(a.label.toNat=b.label.toNat∧a.to < b.to))):=by
 by_cases h1:a.from'=b.from'
 ·by_cases h2:a.label=b.label
  ·rw[zGL h1 h2,decide_eq_true_iff,h1,h2];omega
  rw[zEj h1 h2,decide_eq_true_iff]
  have h3:a.label.toNat≠b.label.toNat:=fun e=>h2 (UInt8.toNat_inj.1 e)
  omega
 rw[zET h1,decide_eq_true_iff];omega
def zV4 (a b:Arc):Int:=zCi [a.from',(a.label.toNat:Int),a.to] [b.from',(b.label.toNat:Int),b.to]
theorem z4T (a b:Arc):decide (zV4 a b < 0)=zBl a b:=by
 rw[Bool.eq_iff_iff,decide_eq_true_iff,zHG]
 unfold zV4
 simp only[zCi]
 split
 ·omega
 split
 ·omega
 split
 ·omega
 split
 ·omega
 split
 ·omega
 split<;>omega
theorem zIj:ltOf zV4=zBl:=by
 funext a b
 rw[←z4T a b];rfl
theorem zNb {a b:Arc}:zBl a b=false↔¬(a.from' < b.from'∨(a.from'=b.from'∧(a.label.toNat < b.label.toNat∨(a.label.toNat=b.label.toNat∧a.to < b.to)))):=by
 rw[←zHG,Bool.not_eq_true]
theorem z1o:Sort.SWO (ltOf zV4) where
 irrefl x:=by rw[zIj,zNb];omega
 trans x y z h1 h2:=by rw[zIj,zHG] at *;omega
 ntrans x y z h1 h2:=by rw[zIj,zNb] at *;omega
theorem zLg:∀ {xs ys:List Arc},xs.Pairwise (fun a b=>zE2 a < zE2 b)→ys.Pairwise (fun a b=>zE2 a < zE2 b)→(∀ x,x∈xs↔x∈ys)→xs=ys
 | [],[],_,_,_=>rfl
 | [],y::ys,_,_,h=>by have:=(h y).2 (List.mem_cons_self ..);cases this
 | x::xs,[],_,_,h=>by have:=(h x).1 (List.mem_cons_self ..);cases this
 | x::xs,y::ys,h1,h2,h=>by
  obtain⟨p1,q1⟩:=List.pairwise_cons.1 h1
  obtain⟨p2,q2⟩:=List.pairwise_cons.1 h2
  have e:x=y:=by
   rcases List.mem_cons.1 ((h x).1 (List.mem_cons_self ..)) with e|e
   ·exact e
   rcases List.mem_cons.1 ((h y).2 (List.mem_cons_self ..)) with e2|e2
   ·exact e2.symm
   have a1:=p2 x e
   have a2:=p1 y e2
   omega
  subst e
  refine congrArg _ (zLg q1 q2 fun z=>?_)
  have hz:=h z
  rw[List.mem_cons,List.mem_cons] at hz
  constructor
  ·intro h3
   rcases hz.1 (.inr h3) with e|e
   ·have:=p1 z h3;rw[e] at this;omega
   exact e
  intro h3
  rcases hz.2 (.inr h3) with e|e
  ·have:=p2 z h3;rw[e] at this;omega
  exact e
def zBy (lb:List UInt8) (f:Int) (m:Nat):List Arc:=(zBf m 32).map fun j=>⟨f,lb[j.toNat]?.getD default,j+1⟩
def zE4 (lb:List UInt8) (fo:List Nat) (first:Nat):Nat→List Arc
 | 0=>zBy lb 0 first
 | k+1=>zE4 lb fo first k++zBy lb ((k:Int)+1) (fo[k]?.getD 0)
theorem zDV {lb:List UInt8} {f:Int} {m:Nat} {x:Arc}:x∈zBy lb f m↔∃ j:Nat,j < 32∧m.testBit j=true∧x=⟨f,lb[j]?.getD default,(j:Int)+1⟩:=by
 unfold zBy
 rw[List.mem_map]
 constructor
 ·rintro ⟨i,h1,rfl⟩
  have h2:=zJ9 h1
  exact⟨i.toNat,oO,h2.2.2,by rw[Int.toNat_of_nonneg h2.1]⟩
 rintro ⟨j,h1,h2,rfl⟩
 exact⟨j,zQc.2 ⟨h1,h2⟩,by simp⟩
theorem zLh {lb:List UInt8} {fo:List Nat} {first:Nat} {x:Arc}:∀ {k:Nat},x∈zE4 lb fo first k↔x∈zBy lb 0 first∨∃ i:Nat,i < k∧x∈zBy lb ((i:Int)+1) (fo[i]?.getD 0)
 | 0=>by show x∈zBy lb 0 first↔_;simp
 | k+1=>by
  show x∈zE4 lb fo first k++_↔_
  rw[List.mem_append,zLh]
  constructor
  ·rintro ((h | ⟨i,h1,h2⟩) | h)
   ·exact .inl h
   ·exact .inr ⟨i,oO,h2⟩
   exact .inr ⟨k,oO,h⟩
  rintro (h | ⟨i,h1,h2⟩)
  ·exact .inl (.inl h)
  rcases (by omega:i < k∨i=k) with h3|rfl
  ·exact .inl (.inr ⟨i,h3,h2⟩)
  exact .inr h2
theorem zLi {lb:List UInt8} {f:Int} {m:Nat} {x:Arc} (h:x∈zBy lb f m):x.from'=f:=by
 obtain⟨j,_,_,rfl⟩:=zDV.1 h;rfl
theorem zRW (m n:Nat):(zBf m n).Nodup:=by
 unfold zBf
 have h:((List.range n).filter fun i=>m.testBit i).Nodup:=List.nodup_range.filter _
 rw[List.nodup_iff_pairwise_ne] at h ⊢
 rw[List.pairwise_map]
 exact h.imp fun h e=>h oO
theorem zHl (lb:List UInt8) (f:Int) (m:Nat):(zBy lb f m).Nodup:=by
 have h:=zRW m 32
 unfold zBy
 rw[List.nodup_iff_pairwise_ne] at h ⊢
 rw[List.pairwise_map]
 exact h.imp fun h e=>h (by have:=congrArg Arc.to e;dsimp only at this;omega)
theorem zLj (lb:List UInt8) (fo:List Nat) (first:Nat):∀ k,(zE4 lb fo first k).Nodup
 | 0=>zHl _ _ _
 | k+1=>by
  show (zE4 lb fo first k++_).Nodup
  rw[List.nodup_append]
  refine⟨zLj lb fo first k,zHl _ _ _,?_⟩
  intro a ha b hb e
  subst e
  have h1:=zLi hb
  rcases zLh.1 ha with h2|⟨i,h2,h3⟩
  ·have:=zLi h2;omega
  have:=zLi h3;omega
theorem zJw (lb:List UInt8) (f:Int) (m:Nat):(zBy lb f m).length≤32:=by
 unfold zBy;rw[List.length_map];exact zFj m 32
theorem zLk (lb:List UInt8) (fo:List Nat) (first:Nat):∀ k,(zE4 lb fo first k).length≤32 * (k+1)
 | 0=>zJw _ _ _
 | k+1=>by
  show (zE4 lb fo first k++_).length≤_
  rw[List.length_append]
  have h1:=zLk lb fo first k
  have h2:=zJw lb ((k:Int)+1) (fo[k]?.getD 0)
  omega
theorem zRX {xs:List Arc} (hn:xs.Nodup) (hs:xs.Pairwise fun a b=>ltOf zV4 b a=false) (hr:∀ x∈xs,z57 x):xs.Pairwise fun a b=>zE2 a < zE2 b:=by
 rw[List.nodup_iff_pairwise_ne] at hn
 refine List.Pairwise.imp_of_mem (fun {a b} ha hb h=>?_) (hn.and hs)
 obtain⟨h1,h2⟩:=h
 rw[zIj] at h2
 rcases zM9 h1 with h3|h3
 ·exact (zIe (hr a ha) (hr b hb)).1 h3
 rw[h2] at h3;cases h3
def zVp (null:Bool) (last:List Int) (n:Nat):List Bool:=null::(List.range n).map fun (i:Nat)=>decide (((i:Int)+1)∈last)
def zG5 (e:Bool) (last:Nat) (n:Nat):List Bool:=e::(List.range n).map fun i=>last.testBit i
theorem zXC {e:Bool} {last:Nat} {L:List Int} (h:zXz last L) (n:Nat):zG5 e last n=zVp e L n:=by
 unfold zG5 zVp
 congr 1
 refine List.map_congr_left fun i _=>?_
 rw[Bool.eq_iff_iff,h.2,decide_eq_true_iff]
def zAW (ps:List Piece):MkS×Look:=look ps ps.length (ps.length-1) ([],[])
def zB1 (ps:List Piece):Pos×Span:=zA5 ps ps.length (ps.length-1) ([],[])
def zJP (ps:List Piece):Nfa:=⟨((zAW ps).1.1.length+1:Nat),zCk (zAW ps).1.1 [0] (zAW ps).2.first (zAW ps).1.2,zVp (zAW ps).2.null (zAW ps).2.last (zAW ps).1.1.length⟩
def zI0 (ps:List Piece):Bool:=decide (zDe ps ps.length (ps.length-1)≤23)
theorem zQd:zIZ ([],[]):=⟨⟨.nil,fun _ h=>by cases h⟩,fun _ h=>(by cases h),fun _ h=>(by cases h)⟩
theorem zOw:zRl ([],[]):=⟨rfl,fun _ h=>by cases h⟩
theorem z4U:zXA ([],[]) ([],[]):=⟨rfl,fun x=>⟨fun h=>(by cases h),fun ⟨i,j,h,_⟩=>(by cases h)⟩⟩
theorem zLl {ps:List Piece} (hps:zGg ps) (h:1≤ps.length):zE3 ([],[]) (zDe ps ps.length (ps.length-1)) (zAW ps):=zFm ps _ _ _ zQd (Nat.zero_le _) hps oO oO
theorem zLm {ps:List Piece} (hps:zGg ps) (h:1≤ps.length):zMq ([],[]) (zDe ps ps.length (ps.length-1)) (zB1 ps):=zB0 ps _ _ _ zOw hps oO oO
theorem zRY {ps:List Piece} (hps:zGg ps) (h:1≤ps.length) (hg:zI0 ps=true):zO9 (zB1 ps) (zAW ps):=by
 have:=of_decide_eq_true hg
 exact zNa hps _ _ _ _ oO oO z4U zOw (by show 0+_≤23;omega)
theorem z1p {ps:List Piece} (hps:zGg ps) (h:1≤ps.length) (hg:zI0 ps=true) {xs:List Arc} (hp:xs.Perm (zE4 (zB1 ps).1.1 (zB1 ps).1.2 (zB1 ps).2.first (zB1 ps).1.2.length)) (hs:xs.Pairwise fun a b=>ltOf zV4 b a=false) :
  xs=(zJP ps).arcs:=by
 have hr:=zRY hps h hg
 have hf:=zLl hps h
 have hv:=zLm hps h
 have hgo:=of_decide_eq_true hg
 obtain⟨hf1,hf2,hf3,hf4,hf5,hf6⟩:=hf
 have hlen:(zAW ps).1.1.length≤23:=by rw[hf2];show min 24 (0+_)≤23;omega
 obtain⟨⟨r1,r2⟩,r3,r4,r5⟩:=hr
 have hsort:zMr (zCk (zAW ps).1.1 [0] (zAW ps).2.first (zAW ps).1.2):=zGM (n:=(zAW ps).1.1.length) oO hf3 (fun f hf=>by rw[List.mem_singleton.1 hf];omega) hf1.1
 have hmem:∀ x,x∈xs↔x∈zCk (zAW ps).1.1 [0] (zAW ps).2.first (zAW ps).1.2:=by
  intro x
  rw[hp.mem_iff,zLh,zLf,r2 x]
  have hfl:(zB1 ps).1.1.length=(zB1 ps).1.2.length:=hv.1.1
  have hl2:(zB1 ps).1.1.length≤23:=by rw[r1];exact hlen
  have b32:∀ {m j:Nat},m < 2 ^ (zB1 ps).1.1.length→m.testBit j=true→j < 32:=fun hm hj=>by have:=zTi hm hj;omega
  constructor
  ·rintro (h1 | ⟨i,h1,h2⟩)
   ·obtain⟨j,h3,h4,rfl⟩:=zDV.1 h1
    refine .inr ⟨0,List.mem_singleton.2 rfl,(j:Int)+1,(r3.2 j).1 h4,?_⟩
    rw[zIi,r1]
   obtain⟨j,h3,h4,rfl⟩:=zDV.1 h2
   exact .inl ⟨i,j,h1,h4,rfl⟩
  rintro (⟨i,j,h1,h2,h3⟩ | ⟨f,h1,t,h2,h3⟩)
  ·refine .inr ⟨i,h1,zDV.2 ⟨j,?_,h2,h3⟩⟩
   rw[List.getElem?_eq_getElem h1] at h2
   exact b32 (hv.1.2 _ (List.getElem_mem h1)) h2
  rw[List.mem_singleton] at h1
  subst h1
  obtain⟨j,rfl,h5⟩:=zRU r3 h2
  exact .inl (zDV.2 ⟨j,b32 hv.2.2.1 h5,h5,by rw[h3,zIi,r1]⟩)
 refine zLg (zRX (hp.nodup_iff.2 (zLj _ _ _ _)) hs (fun x hx=>hsort.2 x ((hmem x).1 hx))) hsort.1 hmem
theorem z1q {ps:List Piece} (hps:zGg ps) (h:1≤ps.length) (hg:zI0 ps=true):zG5 (zB1 ps).2.empty (zB1 ps).2.last (zB1 ps).1.2.length=(zJP ps).ends:=by
 have hr:=zRY hps h hg
 have hv:=zLm hps h
 show _=zVp (zAW ps).2.null (zAW ps).2.last (zAW ps).1.1.length
 rw[←hr.2.2.2,←hr.1.1,show (zB1 ps).1.1.length=(zB1 ps).1.2.length from hv.1.1]
 exact zXC hr.2.2.1 _
end
section
open Go.Proofs Go.Shelf
def zQe:Go.Shelf.Ren:=⟨fun | 6=>214 | 15=>223 | 14=>222 | 28=>232 | 29=>233 | 20=>224 | 21=>225 | 22=>226 | 23=>227 | 24=>228 | 25=>229 | 26=>230 | 27=>231 | 46=>234 | 47=>235 | 48=>236 | 49=>237 | 50=>238 | 57=>239 | n=>n,fun | 22=>196 | 24=>248 | 25=>258 | 3=>3 | 39=>188 | 0=>0 | 53=>186 | 55=>273 | 4=>4 | 46=>266 | 45=>265 | 50=>190 | 5=>5 | 9=>9 | 66=>274 | 70=>278 | 76=>280 | 77=>281 | n=>n,fun | n=>n⟩
theorem z1r:Go.Proofs.SlLaysF0.n6 prog zQe where
 mixed:=by kernel_rfl
 f6 := ⟨ "slices.SortFunc[[]loop.example/g00250/impl.Arc,loop.example/g00250/impl.Arc]", by decide, func214.trans (congrArg some (by kernel_rfl))⟩
 f14 := ⟨ "slices.pdqsortCmpFunc[loop.example/g00250/impl.Arc]", by decide, func222.trans (congrArg some (by kernel_rfl))⟩
 f15:=func223.trans (congrArg some (by kernel_rfl))
 f20 := ⟨ "slices.insertionSortCmpFunc[loop.example/g00250/impl.Arc]", by decide, func224.trans (congrArg some (by kernel_rfl))⟩
 f21 := ⟨ "slices.heapSortCmpFunc[loop.example/g00250/impl.Arc]", by decide, func225.trans (congrArg some (by kernel_rfl))⟩
 f22 := ⟨ "slices.breakPatternsCmpFunc[loop.example/g00250/impl.Arc]", by decide, func226.trans (congrArg some (by kernel_rfl))⟩
 f23 := ⟨ "slices.choosePivotCmpFunc[loop.example/g00250/impl.Arc]", by decide, func227.trans (congrArg some (by kernel_rfl))⟩
 f24 := ⟨ "slices.reverseRangeCmpFunc[loop.example/g00250/impl.Arc]", by decide, func228.trans (congrArg some (by kernel_rfl))⟩
 f25 := ⟨ "slices.partialInsertionSortCmpFunc[loop.example/g00250/impl.Arc]", by decide, func229.trans (congrArg some (by kernel_rfl))⟩
 f26 := ⟨ "slices.partitionEqualCmpFunc[loop.example/g00250/impl.Arc]", by decide, func230.trans (congrArg some (by kernel_rfl))⟩
 f27 := ⟨ "slices.partitionCmpFunc[loop.example/g00250/impl.Arc]", by decide, func231.trans (congrArg some (by kernel_rfl))⟩
 f28:=func232.trans (congrArg some (by kernel_rfl))
 f29:=func233.trans (congrArg some (by kernel_rfl))
 f46 := ⟨ "slices.siftDownCmpFunc[loop.example/g00250/impl.Arc]", by decide, func234.trans (congrArg some (by kernel_rfl))⟩
 f47:=func235.trans (congrArg some (by kernel_rfl))
 f48:=func236.trans (congrArg some (by kernel_rfl))
 f49 := ⟨ "slices.medianAdjacentCmpFunc[loop.example/g00250/impl.Arc]", by decide, func237.trans (congrArg some (by kernel_rfl))⟩
 f50 := ⟨ "slices.medianCmpFunc[loop.example/g00250/impl.Arc]", by decide, func238.trans (congrArg some (by kernel_rfl))⟩
 f57 := ⟨ "slices.order2CmpFunc[loop.example/g00250/impl.Arc]", by decide, func239.trans (congrArg some (by kernel_rfl))⟩
 t0:=underlying0
 a0:=Tryz.isAgg0
 z0:=Tryz.sizeOf0
 v0:=Tryz.zeroValue0
 t3:=underlying3
 a3:=Tryz.isAgg3
 z3:=Tryz.sizeOf3
 v3:=Tryz.zeroValue3
 t4:=underlying4
 a4:=Tryz.isAgg4
 z4:=Tryz.sizeOf4
 v4:=Tryz.zeroValue4
 t5:=underlying5
 a5:=Tryz.isAgg5
 z5:=Tryz.sizeOf5
 v5:=Tryz.zeroValue5
 t9:=underlying9
 a9:=Tryz.isAgg9
 z9:=Tryz.sizeOf9
 v9:=Tryz.zeroValue9
 t22:=underlying196
 a22:=Tryz.isAgg196
 z22:=Tryz.sizeOf196
 v22:=Tryz.zeroValue196
 t25:=underlying258
 a25:=Tryz.isAgg258
 z25:=Tryz.sizeOf258
 v25:=Tryz.zeroValue258
 t39:=underlying188
 a39:=Tryz.isAgg188
 z39:=Tryz.sizeOf188
 v39:=Tryz.zeroValue188
 t45:=underlying265
 a45:=Tryz.isAgg265
 z45:=Tryz.sizeOf265
 v45:=Tryz.zeroValue265
 t46:=underlying266
 a46:=Tryz.isAgg266
 z46:=Tryz.sizeOf266
 v46:=Tryz.zeroValue266
 t50:=underlying190
 a50:=Tryz.isAgg190
 z50:=Tryz.sizeOf190
 v50:=Tryz.zeroValue190
 t53:=underlying186
 a53:=Tryz.isAgg186
 z53:=Tryz.sizeOf186
 v53:=Tryz.zeroValue186
 t55:=underlying273
 a55:=Tryz.isAgg273
 z55:=Tryz.sizeOf273
 v55:=Tryz.zeroValue273
 t66:=underlying274
 a66:=Tryz.isAgg274
 z66:=Tryz.sizeOf274
 v66:=Tryz.zeroValue274
 t70:=underlying278
 a70:=Tryz.isAgg278
 z70:=Tryz.sizeOf278
 v70:=Tryz.zeroValue278
 t76:=underlying280
 a76:=Tryz.isAgg280
 z76:=Tryz.sizeOf280
 v76:=Tryz.zeroValue280
 t77:=underlying281
 a77:=Tryz.isAgg281
 z77:=Tryz.sizeOf281
 v77:=Tryz.zeroValue281
end
section
attribute [local irreducible] IntKind.wrap
def zI1:Fl Arc:=⟨3,fun x=>[.int .i64 x.from',.int .u8 x.label.toNat,.int .i64 x.to],fun x=>okI x.from'∧okI x.to,fun _=>rfl,fun _=>rfl,oO⟩
theorem z7l {T:TypeId} {v:Value} {xs:List Arc} {A:Hp} (h:(gSl T zEr).ow [v] xs A):Ow zI1 T v xs A:=by
 obtain⟨v',ls,A0,As,e,ho,hp,hl⟩:=h
 cases e
 have hA:∀ {ls:List (zC4 zEr.size)} {xs:List Arc} {As:List Hp},OwL zEr ls xs As→As.flatten=[]∧(∀ x∈xs,zI1.wf x)∧ls.flatMap (zBF zEr.size zEr.pos).enc=xs.flatMap zI1.enc:=by
  intro ls xs As h
  induction h with
  | nil=>exact⟨rfl,(fun _ h=>by cases h),rfl⟩
  | cons h hr ih=>
   obtain⟨h1,h2,h3,h4⟩:=zN8.1 h
   refine⟨by rw[List.flatten_cons,h2.eq_nil,ih.1];rfl,?_,?_⟩
   ·intro y hy
    rcases List.mem_cons.1 hy with rfl|hy
    ·exact⟨h3,h4⟩
    exact ih.2.1 y hy
   rw[List.flatMap_cons,List.flatMap_cons,ih.2.2];congr 1
 obtain⟨h1,h2,h3⟩:=hA hl
 rw[h1,List.append_nil] at hp
 obtain⟨e1,_⟩:=hl.len
 obtain⟨_,g1,base,cap,e,g2⟩:=ho
 rw[e1] at g1 e
 refine⟨h2,g1,base,cap,e,?_⟩
 rcases g2 with ⟨rfl,rfl,rfl⟩|⟨b,sp,g3,rfl,g4,g5⟩
 ·have:xs=[]:=by cases hl;rfl
  exact .inl ⟨rfl,this,hp.eq_nil⟩
 refine .inr ⟨b,sp,g3,?_,by rw[←e1];exact g4,by rw[←e1];exact g5⟩
 rw[←h3]
 exact List.perm_singleton.1 hp
theorem z7m {T:TypeId} {v:Value} {xs:List Arc} {A:Hp} (h:Ow zI1 T v xs A):(gSl T zEr).ow [v] xs A:=by
 obtain⟨h1,h2,base,cap,rfl,h3⟩:=h
 have key:∀ (xs:List Arc),(∀ x∈xs,zI1.wf x)→∃ ls As,OwL zEr ls xs As∧As.flatten=[]∧ls.flatMap (zBF zEr.size zEr.pos).enc=xs.flatMap zI1.enc:=by
  intro xs
  induction xs with
  | nil=>intro _;exact⟨[],[],.nil,rfl,rfl⟩
  | cons x r ih=>
   intro hw
   obtain⟨ls,As,g1,g2,g3⟩:=ih (fun y hy=>hw y (List.mem_cons_of_mem _ hy))
   have hx:=hw x (List.mem_cons_self ..)
   refine⟨⟨zI1.enc x,rfl,rfl⟩::ls,[]::As,.cons (zN8.2 ⟨rfl,.refl _,hx.1,hx.2⟩) g1,by rw[List.flatten_cons,g2];rfl,?_⟩
   exact congrArg (fun q=>zI1.enc x++q) g3
 obtain⟨ls,As,g1,g2,g3⟩:=key xs h1
 obtain⟨e1,_⟩:=g1.len
 refine⟨_,ls,A,As,rfl,⟨fun _ _=>trivial,by rw[e1];exact h2,base,cap,by rw[e1],?_⟩,by rw[g2,List.append_nil],g1⟩
 rcases h3 with ⟨rfl,rfl,rfl⟩|⟨b,sp,h4,rfl,h5,h6⟩
 ·have:ls=[]:=by cases g1;rfl
  exact .inl ⟨rfl,this,rfl⟩
 exact .inr ⟨b,sp,h4,by rw[g3],by rw[e1];exact h5,by rw[e1];exact h6⟩
theorem z88 (x:UInt8):IntKind.i64.wrap ((x.toNat:Nat):Int)=(x.toNat:Nat):=by
 have:=x.toNat_lt
 exact zAc oO oO
theorem zHH (x:Int):okI (IntKind.i64.wrap x):=by
 unfold IntKind.wrap okI
 simp [IntKind.bits,IntKind.signed]
 split<;>omega
theorem zMs (a b:Arc) (ha:zI1.wf a) (hb:zI1.wf b) :
  Ct prog 215 [.agg ⟨zI1.enc a⟩,.agg ⟨zI1.enc b⟩] [] (fun _=>True) (fun v A=>v = .int .i64 (zV4 a b)∧A=[]):=by
 show Ct prog 215 [.agg ⟨[.int .i64 a.from',.int .u8 a.label.toNat,.int .i64 a.to]⟩,.agg ⟨[.int .i64 b.from',.int .u8 b.label.toNat,.int .i64 b.to]⟩] [] (fun _=>True) (fun v A=>v = .int .i64 (zV4 a b)∧A=[])
 refine Ct.intro0 zAh func215 rfl rfl rfl fun E H hp=>?_
 obtain⟨ha1,ha2⟩:=ha
 obtain⟨hb1,hb2⟩:=hb
 have k1:okI (IntKind.i64.wrap ((a.label.toNat:Nat):Int)):=zHH _
 have k2:okI (IntKind.i64.wrap ((b.label.toNat:Nat):Int)):=zHH _
 refine⟨fun x0=>?_⟩
 refine⟨fun x1=>?_⟩
 refine⟨fun x2=>?_⟩
 refine⟨fun x3=>?_⟩
 refine zAe (zEv _ _ _ _ _ _ ([a.from',IntKind.i64.wrap (↑a.label.toNat:Int),a.to]) ([b.from',IntKind.i64.wrap (↑b.label.toNat:Int),b.to])) ⟨(Rp.mono _ (zAa 1 rfl) (Ow.rd (Ow.lit (f:=zAs) (T:=3) (b:=x2) (xs:=[a.from',IntKind.i64.wrap (↑a.label.toNat:Int),a.to]) (by first|(simp [zAs,okI];done)|(simp only[List.forall_mem_cons];simp_all [zAs,okI])) sI))),(Rp.mono _ (zAa 0 rfl) (Ow.rd (Ow.lit (f:=zAs) (T:=3) (b:=x3) (xs:=[b.from',IntKind.i64.wrap (↑b.label.toNat:Int),b.to]) (by first|(simp [zAs,okI];done)|(simp only[List.forall_mem_cons];simp_all [zAs,okI])) sI)))⟩ ?_
 rintro _ rfl
 try dsimp only
 exact⟨[],⟨by unfold zV4;rw[z88,z88],rfl⟩,.mem sI⟩
theorem zRZ (T:TypeId) (base:Option Addr) (n cap:Nat) (xs:List Arc) {A0:Hp} (ho:(gSl T zEr).ow [.slice base n cap] xs A0) (hn:xs.length < 4611686018427387904) :
  CtR prog 214 [.slice base n cap,.func (.func 215) #[] #[]] A0 (fun _=>True) (fun v A=>v = .tuple #[]∧∃ xs',xs'.Perm xs∧xs'.Pairwise (fun a b=>ltOf zV4 b a=false)∧(gSl T zEr).ow [.slice base xs'.length cap] xs' A):=by
 have h:=z1l (z1r) zI1 ⟨by unfold okI;decide,by unfold okI;decide⟩ Tryz.isAgg248 Tryz.sizeOf248 zV4 z1o 215 (enters_of func215 (by kernel_rfl) rfl) T (fun x y hx hy=>zMs x y hx hy) (z7l ho) hn
 refine⟨h.1,fun E H w hs hp=>(h.2 E H w hs hp).mono ?_⟩
 rintro e w' ⟨v,A,h1,⟨h2,xs',h3,h4,h5⟩,h6⟩
 exact⟨v,A,h1,⟨h2,xs',h3,h4,z7m h5⟩,h6⟩
end
section
attribute [local irreducible] IntKind.wrap
def zXD (cs:List Int) (a:Int) (kid:Int):Int:=min (a+(cs[kid.toNat]?.getD 0)) 24
def zXE (cs:List Int) (x:Piece):Int:=x.kids.foldl (zXD cs) (if x.op=1 then 1 else 0)
def zIE (ps:List Piece):Nat→List Int
 | 0=>[]
 | k+1=>zIE ps k++[zXE (zIE ps k) (ps[k]?.getD default)]
theorem zC6 (ps:List Piece):∀ k,(zIE ps k).length=k
 | 0=>rfl
 | k+1=>by simp [zIE,zC6 ps k]
def occ (ps:List Piece):Int:=(zIE ps ps.length)[ps.length-1]?.getD 0
def zJx (ps:List Piece) (k:Nat) (a:Int):List Int:=zIE ps k++(a::List.replicate (ps.length-k-1) 0)
theorem zCl {ps:List Piece} {k:Nat} {a:Int} (hk:k < ps.length):(zJx ps k a).length=ps.length:=by
 unfold zJx;simp [zC6];omega
theorem zOx {ps:List Piece} {k:Nat} {a b:Int}:(zJx ps k a).set k b=zJx ps k b:=by
 unfold zJx
 rw[List.set_append_right _ _ (by rw[zC6];omega),zC6,Nat.sub_self];rfl
theorem z1s {ps:List Piece} {k:Nat} {a:Int}:(zJx ps k a)[k]?.getD 0=a:=by
 unfold zJx
 rw[List.getElem?_append_right (by rw[zC6];omega),zC6,Nat.sub_self];rfl
theorem z4V {ps:List Piece} {k i:Nat} {a:Int} (h:i < k):(zJx ps k a)[i]?.getD 0=(zIE ps k)[i]?.getD 0:=by
 unfold zJx
 rw[List.getElem?_append_left (by rw[zC6];exact h)]
theorem zXF {ps:List Piece} {k:Nat} (hk:k+1 < ps.length):zJx ps k (zXE (zIE ps k) (ps[k]?.getD default))=zJx ps (k+1) 0:=by
 unfold zJx
 show _=(zIE ps k++[zXE (zIE ps k) (ps[k]?.getD default)])++_
 rw[List.append_assoc]
 congr 1
 rw[show ps.length-k-1=(ps.length-(k+1)-1)+1 from oO,List.replicate_succ];rfl
theorem z1t {ps:List Piece} {k:Nat} (hk:k+1=ps.length):zJx ps k (zXE (zIE ps k) (ps[k]?.getD default))=zIE ps ps.length:=by
 unfold zJx
 rw[show ps.length-k-1=0 from oO,←hk];rfl
theorem zXG {ps:List Piece} (h:0 < ps.length):zJx ps 0 0=List.replicate ps.length 0:=by
 unfold zJx
 rw[show ps.length=(ps.length-0-1)+1 from oO,List.replicate_succ];rfl
theorem z1u {cs:List Int} {a kid:Int} (ha:0≤a∧a≤24) (hc:∀ c∈cs,0≤c∧c≤24):0≤zXD cs a kid∧zXD cs a kid≤24:=by
 unfold zXD
 have h:0≤(cs[kid.toNat]?.getD 0):=by
  rcases Nat.lt_or_ge kid.toNat cs.length with h2|h2
  ·rw[List.getElem?_eq_getElem h2];exact (hc _ (List.getElem_mem h2)).1
  rw[List.getElem?_eq_none h2];exact Int.le_refl _
 omega
theorem zOy {cs:List Int} (hc:∀ c∈cs,0≤c∧c≤24):∀ (l:List Int) (a:Int),0≤a∧a≤24→0≤l.foldl (zXD cs) a∧l.foldl (zXD cs) a≤24
 | [],_,h=>h
 | _::l,_,h=>zOy hc l _ (z1u h hc)
theorem z1v {cs:List Int} {x:Piece} (hc:∀ c∈cs,0≤c∧c≤24):0≤zXE cs x∧zXE cs x≤24:=by
 unfold zXE;exact zOy hc _ _ (by split<;>omega)
theorem zKe (ps:List Piece):∀ k,∀ c∈zIE ps k,0≤c∧c≤24
 | 0,c,h=>by simp [zIE] at h
 | k+1,c,h=>by
  unfold zIE at h
  rcases List.mem_append.1 h with h1|h1
  ·exact zKe ps k c h1
  rw[List.mem_singleton.1 h1];exact z1v (zKe ps k)
theorem zOz {ps:List Piece} (hps:zGg ps):∀ (n k:Nat),k≤ps.length→∀ i,i < k→i < n→(zIE ps k)[i]?.getD 0=min (zDe ps n i:Int) 24
 | n,0,_,i,h,_=>by omega
 | n,k+1,hk,i,hi,hn=>by
  rcases Nat.lt_or_ge i k with h1|h1
  ·unfold zIE
   rw[List.getElem?_append_left (by rw[zC6];exact h1)]
   exact zOz hps n k oO i h1 hn
  have hik:i=k:=by omega
  subst hik
  unfold zIE
  rw[List.getElem?_append_right (by rw[zC6];omega),zC6,Nat.sub_self]
  show zXE (zIE ps i) (ps[i]?.getD default)=_
  obtain⟨n,rfl⟩:∃ m,n=m+1:=⟨n-1,oO⟩
  have hp:=zAP.1 (hps i oO)
  unfold zXE
  rw[show zDe ps (n+1) i=if (ps[i]?.getD default).op=1 then 1 else zFX (zDe ps n) (ps[i]?.getD default).kids from by conv=>lhs;unfold zDe]
  by_cases h1:(ps[i]?.getD default).op=1
  ·rw[if_pos h1,if_pos h1]
   have h2:(ps[i]?.getD default).kids=[]:=by
    rcases hp with h|h|h
    ·exact List.length_eq_zero_iff.1 h.2.2.2
    ·omega
    omega
   rw[h2];rfl
  rw[if_neg h1,if_neg h1]
  have hkid:∀ k∈(ps[i]?.getD default).kids,k.toNat < i:=by
   intro k hk2
   have h3:zBs (ps[i]?.getD default).kids i=true:=by
    rcases hp with h|h|h
    ·exact absurd h.1 h1
    ·exact h.2.2.2
    exact h.2.2.2
   unfold zBs at h3
   have:=zAq.1 (List.all_eq_true.1 h3 k hk2)
   omega
  have hgen:∀ (l:List Int),(∀ k∈l,k.toNat < i)→∀ (a:Int) (b:Nat),a=min (b:Int) 24→l.foldl (zXD (zIE ps i)) a=min ((b+zFX (zDe ps n) l:Nat):Int) 24:=by
   intro l
   induction l with
   | nil=>intro _ a b h;exact h
   | cons k l ih=>
    intro hl a b h
    rw[List.foldl_cons]
    have h4:=zOz hps n i oO k.toNat (hl k (List.mem_cons_self ..)) (by have:=hl k (List.mem_cons_self ..);omega)
    rw[ih (fun k hk=>hl k (List.mem_cons_of_mem _ hk)) _ (b+zDe ps n k.toNat) (by unfold zXD;rw[h4,h];push_cast;omega)]
    simp only[zFX];congr 2;push_cast;omega
  have:=hgen _ hkid 0 0 (by decide)
  rw[this];simp
theorem zXH {ps:List Piece} (hps:zGg ps) (h:0 < ps.length):occ ps=min (zDe ps ps.length (ps.length-1):Int) 24:=
 zOz hps ps.length ps.length (Nat.le_refl _) (ps.length-1) oO oO
def zNc (ps:List Piece) (k j:Nat):Int:=((ps[k]?.getD default).kids.take j).foldl (zXD (zIE ps k)) (if (ps[k]?.getD default).op=1 then 1 else 0)
theorem zQf (ps:List Piece) (k:Nat):zNc ps k 0=if (ps[k]?.getD default).op=1 then 1 else 0:=rfl
theorem z1w (ps:List Piece) (k:Nat):zNc ps k (ps[k]?.getD default).kids.length=zXE (zIE ps k) (ps[k]?.getD default):=by unfold zNc zXE;rw[List.take_length]
theorem zXI {ps:List Piece} {k j:Nat} (hj:j < (ps[k]?.getD default).kids.length):zNc ps k (j+1)=zXD (zIE ps k) (zNc ps k j) ((ps[k]?.getD default).kids[j]?.getD 0):=by
 unfold zNc;rw[←List.take_append_getElem hj,List.foldl_append,List.getElem?_eq_getElem hj];rfl
theorem zIk (ps:List Piece) (k j:Nat):0≤zNc ps k j∧zNc ps k j≤24:=by
 unfold zNc;exact zOy (zKe ps k) _ _ (by split<;>omega)
def z1x (ps:List Piece) (k:Nat):List Int:=if k < ps.length then zJx ps k 0 else zIE ps ps.length
theorem zXJ {ps:List Piece} {k:Nat} (h:k < ps.length):z1x ps k=zJx ps k 0:=if_pos h
theorem z1y {ps:List Piece}:z1x ps ps.length=zIE ps ps.length:=if_neg oO
theorem zQg {ps:List Piece} {k:Nat} (h:k < ps.length):zJx ps k (zNc ps k (ps[k]?.getD default).kids.length)=z1x ps (k+1):=by
 rw[z1w]
 unfold z1x
 split
 ·rename_i h1;exact zXF h1
 rename_i h1;exact z1t oO
theorem zXK {ps:List Piece} (h:1≤ps.length):z1x ps 0=List.replicate ps.length 0:=by rw[zXJ h,zXG h]
theorem zTs {ps:List Piece} {k:Nat}:(z1x ps k).length=ps.length:=by
 unfold z1x;split
 ·rename_i h;exact zCl h
 exact zC6 _ _
theorem zTt {ps:List Piece} (hps:zGg ps) {i j:Nat} (hi:i < ps.length) (hj:j < (ps[i]?.getD default).kids.length):0≤((ps[i]?.getD default).kids[j]?.getD 0)∧((ps[i]?.getD default).kids[j]?.getD 0) < i:=by
 have h3:zBs (ps[i]?.getD default).kids i=true:=by
  rcases zAP.1 (hps i hi) with h1|h1|h1
  ·omega
  ·exact h1.2.2.2
  exact h1.2.2.2
 unfold zBs at h3
 rw[List.getElem?_eq_getElem hj]
 have:=zAq.1 (List.all_eq_true.1 h3 _ (List.getElem_mem hj))
 simp only[Option.getD_some];omega
theorem zTu {ps:List Piece} {k j:Nat} (hj:j < (ps[k]?.getD default).kids.length) (hk:((ps[k]?.getD default).kids[j]?.getD 0).toNat < k) :
  (if 24 < IntKind.i64.wrap ((zJx ps k (zNc ps k j))[k]?.getD 0+(zJx ps k (zNc ps k j))[((ps[k]?.getD default).kids[j]?.getD 0).toNat]?.getD 0) then 24 else IntKind.i64.wrap ((zJx ps k (zNc ps k j))[k]?.getD 0+(zJx ps k (zNc ps k j))[((ps[k]?.getD default).kids[j]?.getD 0).toNat]?.getD 0))=zNc ps k (j+1):=by
 rw[z1s,z4V hk,zXI hj]
 have h1:=zIk ps k j
 have h2:0≤((zIE ps k)[((ps[k]?.getD default).kids[j]?.getD 0).toNat]?.getD 0)∧((zIE ps k)[((ps[k]?.getD default).kids[j]?.getD 0).toNat]?.getD 0)≤24:=by
  rw[List.getElem?_eq_getElem (by rw[zC6];exact hk)]
  exact zKe ps k _ (List.getElem_mem _)
 unfold zXD
 rw[zAc oO oO]
 split<;>omega
attribute [local irreducible] zJx zNc z1x zIE occ
theorem zMt (l:List Value) (p:Path) (h1:1≤p.pieces.length) (h60:p.pieces.length≤60) (hps:zGg p.pieces):Ct prog 211 [.agg ⟨l⟩] [] (fun H=>zH4.rd H l p) (fun v A=>v = .int .i64 (occ p.pieces)∧A=[]):=by
 refine Ct.intro0 zAh func211 rfl rfl rfl fun E H hp=>?_
 obtain⟨b0p,c0p,rfl,h0p⟩:=zBM.1 hp
 have hwl:IntKind.i64.wrap ((((p.pieces.length:Int).toNat:Nat):Int)-1)=((p.pieces.length-1:Nat):Int):=by
  rw[Int.toNat_natCast,zAc oO oO];omega
 refine⟨fun x0=>?_⟩
 refine VCmake.intro ?_ ?_ ?_ ?_ fun x1=>?_
 ·omega
 ·omega
 ·omega
 ·omega
 apply zAg (α:=(Nat)×(Hp)) zAh [16,17,18,19,5,4,20,21,22,23,24,25,26,27,28,29,30,31,32,7,33,34,35,36,37,38,39,40,41,42,43,44,45,46,47,15] (fun z=>[(15,.v (.int .i64 z.1))]) (fun z=>[{ id:=x0,cs:=[Value.slice b0p p.pieces.length c0p],ty:=(153:Nat) }]) (fun z=>[z.2,H]) (fun z=>p.pieces.length-z.1) (fun z=>z.1≤p.pieces.length∧(gSl 3 gI).ow [.slice (some ⟨x1,0,none⟩) p.pieces.length p.pieces.length] (z1x p.pieces z.1) z.2) ((0,_))
 ·exact frI
 ·exact⟨rfl,trivial⟩
 ·try dsimp only
  (rw[zXK h1];exact⟨Nat.zero_le _,zEY (zCN (x:=0) (by unfold okI;omega)) (Nat.le_refl _) oO⟩)
 ·exact .refl _
 rintro ⟨k,A⟩ hI
 try dsimp only at hI
 obtain⟨hk,oA⟩:=hI
 try dsimp only
 constructor<;>intro q2
 ·simp at q2
  rw[zXJ oO] at oA
  refine zAf h0p ?_ ?_ fun b3 o3 hb3=>?_
  ·omega
  ·omega
  refine zAd default (k) rfl h0p ?_ ?_ hb3 rfl (zAa 1 rfl) fun l4 hl4=>?_
  ·omega
  ·omega
  obtain⟨b2x4,c2x4,rfl,w0x4,h2x4⟩:=zCX.1 hl4
  refine⟨fun x5=>?_⟩
  constructor<;>intro q6
  ·simp at q6
   refine zAf (Gt.owrd _ oA) ?_ ?_ fun b7 o7 hb7=>?_
   ·omega
   ·(rw[zCl oO];omega)
   refine zBq (Fld.id _) 0 (k) 0 rfl rfl oA ?_ ?_ hb7 rfl zHx _ (zCN ?_) fun A8 o8=>?_
   ·omega
   ·(rw[zCl oO];omega)
   ·trivial
   apply zAg (α:=(Nat)×(Hp)) zAh [30,31,32,7,33,34,35,36,37,38,39,40,41,42,43,44,45,46,29] (fun z=>[(29,.v (.int .i64 z.1))]) (fun z=>[{ id:=x0,cs:=[Value.slice b0p p.pieces.length c0p],ty:=(153:Nat) },{ id:=x5,cs:=[Value.int IntKind.i64 (p.pieces[k]?.getD default).op,Value.int IntKind.u8 (↑(p.pieces[k]?.getD default).label.toNat:Int),Value.slice b2x4 (p.pieces[k]?.getD default).kids.length c2x4],ty:=(210:Nat) }]) (fun z=>[z.2,H]) (fun z=>(p.pieces[k]?.getD default).kids.length-z.1) (fun z=>z.1≤(p.pieces[k]?.getD default).kids.length∧(gSl 3 gI).ow [.slice (some ⟨x1,0,none⟩) p.pieces.length p.pieces.length] (zJx p.pieces k (zNc p.pieces k z.1)) z.2) ((0,_))
   ·exact frI
   ·exact⟨rfl,rfl,trivial⟩
   ·try dsimp only
    (rw[zQf,if_pos ‹(p.pieces[k]?.getD default).op=1›,←zOx (a:=0)];exact⟨Nat.zero_le _,aA⟩)
   ·exact .refl _
   rintro ⟨j,B⟩ hI
   try dsimp only at hI
   obtain⟨hj,oB⟩:=hI
   try dsimp only
   constructor<;>intro q9
   ·simp at q9
    have hkd:=zTt hps (by omega:k < p.pieces.length) (by omega:j < (p.pieces[k]?.getD default).kids.length)
    have hkl:=(zBo (xs:=(p.pieces[k]?.getD default).kids) aA).2
    have hq:=zIk p.pieces k j
    refine zAf h2x4 ?_ ?_ fun b10 o10 hb10=>?_
    ·omega
    ·omega
    refine zAd 0 (j) rfl h2x4 ?_ ?_ hb10 rfl (zAa 1 rfl) fun l11 hl11=>?_
    ·omega
    ·omega
    obtain⟨rfl,hw11⟩:=hl11;simp only[zAx,zAs,okI] at hw11
    refine zBr zAh zAK (some 13) (.q 0 (.q 1 (.q 2 (.q 3 (.q 4 (.q 5 (.q 6 (.q 7 (.q 8 (.q 9 (.q 10 (.f 11 (.q 12 (.tl 13 (.nil))))))))))))))) (by decide +kernel) ?_
    refine zAf (Gt.owrd _ oB) ?_ ?_ fun b12 o12 hb12=>?_
    ·omega
    ·(rw[zCl oO];omega)
    refine zAd 0 (k) rfl (Gt.owrd _ oB) ?_ ?_ hb12 rfl (zAa 0 rfl) fun l13 hl13=>?_
    ·omega
    ·(rw[zCl oO];omega)
    obtain⟨rfl,hw13⟩:=hl13;simp only[zAx,zAs,okI] at hw13
    refine zAf (Gt.owrd _ oB) ?_ ?_ fun b14 o14 hb14=>?_
    ·omega
    ·(rw[zCl oO];omega)
    refine zAF 0 (Gt.owrd _ oB) ?_ ?_ hb14 rfl (zAa 0 rfl) fun l15 hl15=>?_
    ·omega
    ·(rw[zCl oO];omega)
    obtain⟨rfl,hw15⟩:=hl15;simp only[zAx,zAs,okI] at hw15
    refine VC.intro ?_ ?_
    ·exact fun _ h=>h
    refine zAf (Gt.owrd _ oB) ?_ ?_ fun b16 o16 hb16=>?_
    ·omega
    ·(rw[zCl oO];omega)
    refine zBq (Fld.id _) 0 (k) 0 rfl rfl oB ?_ ?_ hb16 rfl zHx _ (zCN ?_) fun A17 o17=>?_
    ·omega
    ·(rw[zCl oO];omega)
    ·(rw[zTu oO oO];have h9:=zIk p.pieces k (j+1);unfold okI;omega)
    apply zAb (j+1,_)
    ·exact .refl _
    ·exact frI
    ·exact⟨rfl,rfl,trivial⟩
    ·try dsimp only
     (rw[←zTu oO oO,←zOx (a:=zNc p.pieces k j)];exact⟨oO,aA⟩)
    try dsimp only
    omega
   simp at q9
   obtain rfl:j=(p.pieces[k]?.getD default).kids.length:=by omega
   rw[zQg oO] at oB
   apply zAb (k+1,_)
   ·exact .refl _
   ·exact frI
   ·exact⟨rfl,trivial⟩
   ·try dsimp only
    exact⟨oO,oB⟩
   try dsimp only
   omega
  simp at q6
  apply zAg (α:=(Nat)×(Hp)) zAh [30,31,32,7,33,34,35,36,37,38,39,40,41,42,43,44,45,46,29] (fun z=>[(29,.v (.int .i64 z.1))]) (fun z=>[{ id:=x0,cs:=[Value.slice b0p p.pieces.length c0p],ty:=(153:Nat) },{ id:=x5,cs:=[Value.int IntKind.i64 (p.pieces[k]?.getD default).op,Value.int IntKind.u8 (↑(p.pieces[k]?.getD default).label.toNat:Int),Value.slice b2x4 (p.pieces[k]?.getD default).kids.length c2x4],ty:=(210:Nat) }]) (fun z=>[z.2,H]) (fun z=>(p.pieces[k]?.getD default).kids.length-z.1) (fun z=>z.1≤(p.pieces[k]?.getD default).kids.length∧(gSl 3 gI).ow [.slice (some ⟨x1,0,none⟩) p.pieces.length p.pieces.length] (zJx p.pieces k (zNc p.pieces k z.1)) z.2) ((0,_))
  ·exact frI
  ·exact⟨rfl,rfl,trivial⟩
  ·try dsimp only
   (rw[zQf,if_neg ‹¬(p.pieces[k]?.getD default).op=1›];exact⟨Nat.zero_le _,oA⟩)
  ·exact .refl _
  rintro ⟨j,B⟩ hI
  try dsimp only at hI
  obtain⟨hj,oB⟩:=hI
  try dsimp only
  constructor<;>intro q18
  ·simp at q18
   have hkd:=zTt hps (by omega:k < p.pieces.length) (by omega:j < (p.pieces[k]?.getD default).kids.length)
   have hkl:=(zBo (xs:=(p.pieces[k]?.getD default).kids) aA).2
   have hq:=zIk p.pieces k j
   refine zAf h2x4 ?_ ?_ fun b19 o19 hb19=>?_
   ·omega
   ·omega
   refine zAd 0 (j) rfl h2x4 ?_ ?_ hb19 rfl (zAa 1 rfl) fun l20 hl20=>?_
   ·omega
   ·omega
   obtain⟨rfl,hw20⟩:=hl20;simp only[zAx,zAs,okI] at hw20
   refine zBr zAh zAK (some 13) (.q 0 (.q 1 (.q 2 (.q 3 (.q 4 (.q 5 (.q 6 (.q 7 (.q 8 (.q 9 (.q 10 (.f 11 (.q 12 (.tl 13 (.nil))))))))))))))) (by decide +kernel) ?_
   refine zAf (Gt.owrd _ oB) ?_ ?_ fun b21 o21 hb21=>?_
   ·omega
   ·(rw[zCl oO];omega)
   refine zAd 0 (k) rfl (Gt.owrd _ oB) ?_ ?_ hb21 rfl (zAa 0 rfl) fun l22 hl22=>?_
   ·omega
   ·(rw[zCl oO];omega)
   obtain⟨rfl,hw22⟩:=hl22;simp only[zAx,zAs,okI] at hw22
   refine zAf (Gt.owrd _ oB) ?_ ?_ fun b23 o23 hb23=>?_
   ·omega
   ·(rw[zCl oO];omega)
   refine zAF 0 (Gt.owrd _ oB) ?_ ?_ hb23 rfl (zAa 0 rfl) fun l24 hl24=>?_
   ·omega
   ·(rw[zCl oO];omega)
   obtain⟨rfl,hw24⟩:=hl24;simp only[zAx,zAs,okI] at hw24
   refine VC.intro ?_ ?_
   ·exact fun _ h=>h
   refine zAf (Gt.owrd _ oB) ?_ ?_ fun b25 o25 hb25=>?_
   ·omega
   ·(rw[zCl oO];omega)
   refine zBq (Fld.id _) 0 (k) 0 rfl rfl oB ?_ ?_ hb25 rfl zHx _ (zCN ?_) fun A26 o26=>?_
   ·omega
   ·(rw[zCl oO];omega)
   ·(rw[zTu oO oO];have h9:=zIk p.pieces k (j+1);unfold okI;omega)
   apply zAb (j+1,_)
   ·exact .refl _
   ·exact frI
   ·exact⟨rfl,rfl,trivial⟩
   ·try dsimp only
    (rw[←zTu oO oO,←zOx (a:=zNc p.pieces k j)];exact⟨oO,aA⟩)
   try dsimp only
   omega
  simp at q18
  obtain rfl:j=(p.pieces[k]?.getD default).kids.length:=by omega
  rw[zQg oO] at oB
  apply zAb (k+1,_)
  ·exact .refl _
  ·exact frI
  ·exact⟨rfl,trivial⟩
  ·try dsimp only
   exact⟨oO,oB⟩
  try dsimp only
  omega
 simp at q2
 refine zAf (Gt.owrd _ oA) ?_ ?_ fun b27 o27 hb27=>?_
 ·(simp (disch:=omega) only[zAc];omega)
 ·(rw[zTs];omega)
 refine zAF 0 (Gt.owrd _ oA) ?_ ?_ hb27 rfl (zAa 0 rfl) fun l28 hl28=>?_
 ·(simp (disch:=omega) only[zAc];omega)
 ·(rw[zTs];omega)
 obtain⟨rfl,hw28⟩:=hl28;simp only[zAx,zAs,okI] at hw28
 (have hke:k=p.pieces.length:=oO;subst hke;rw[hwl,Int.toNat_natCast,z1y];exact⟨[],⟨by unfold occ;rfl,rfl⟩,.mem sI⟩)
end
section
attribute [local irreducible] IntKind.wrap
theorem zDq {H:Hp} {b off s:Nat} {cs l:List Value} {T:TypeId} {F:List Value→Prop} (hm:(b,Obj.cells ⟨cs⟩ T)∈H) (hl:off+s≤cs.length) (e:(cs.drop off).take s=l) (c:F l):VCload H b off s F:=by
 subst e
 refine .intro _ ⟨by rw[List.length_take,List.length_drop];omega,_,_,_,hm,fun j hj=>?_⟩ c
 rw[List.getElem?_take_of_lt hj,List.getElem?_drop]
 simp
def zVq (lb:List UInt8) (f:Int) (l:List Int):List Arc:=l.map fun j=>⟨f,lb[j.toNat]?.getD default,j+1⟩
theorem zXL {lb:List UInt8} {f:Int} {l:List Int} {k:Nat} (h:k < l.length):zVq lb f (l.take (k+1))=zVq lb f (l.take k)++[⟨f,lb[(l[k]?.getD 0).toNat]?.getD default,(l[k]?.getD 0)+1⟩]:=by
 unfold zVq
 rw[←List.take_append_getElem h,List.map_append,List.getElem?_eq_getElem h];rfl
theorem zXM (lb:List UInt8) (f:Int) (m:Nat):zVq lb f (zBf m 32)=zBy lb f m:=rfl
theorem zXN {lb:List UInt8} {f:Int} {l:List Int} {xs:List Arc} {k:Nat} (h:k < l.length) (hw:IntKind.i64.wrap ((l[k]?.getD 0)+1)=(l[k]?.getD 0)+1):(xs++zVq lb f (l.take k))++[⟨f,lb[(l[k]?.getD 0).toNat]?.getD default,IntKind.i64.wrap ((l[k]?.getD 0)+1)⟩]=xs++zVq lb f (l.take (k+1)):=by
 rw[hw,zXL h,List.append_assoc]
theorem zXO (q sb:Nat) (st ve v0 v2:Value) (b bl:Option Addr) (c cl:Nat) (xs:List Arc) (A:Hp) (f:Int) (m:Nat) (lb:List UInt8) (ho:(gSl 248 zEr).ow [.slice b xs.length c] xs A) (hf:okI f) (hm:m < 2 ^ lb.length) (hl:lb.length≤23) (hx:xs.length≤1000000) :
  CtR prog 213 [.int .i64 f,.int .u32 (m:Int),.pointer (some ⟨q,0,none⟩),.pointer (some ⟨sb,0,none⟩)] ((q,Obj.cells ⟨[st,.slice b xs.length c,ve]⟩ 198)::A)
   (fun H=>(sb,Obj.cells ⟨[v0,.slice bl lb.length cl,v2]⟩ 252)∈H∧(gSl 5 gY).rd H [.slice bl lb.length cl] lb)
   (fun v D=>∃ b' c' A',v = .tuple #[]∧D=(q,Obj.cells ⟨[st,.slice b' (xs++zBy lb f m).length c',ve]⟩ 198)::A'∧(gSl 248 zEr).ow [.slice b' (xs++zBy lb f m).length c'] (xs++zBy lb f m) A'):=by
 refine CtR.introB zAh [.v (.int .i64 f),.v (.int .u32 (m:Int)),.p 0 0,.v (.pointer (some ⟨sb,0,none⟩))] [⟨q,[st,.slice b xs.length c,ve],198⟩] [A] func213 rfl rfl rfl rfl (by simp [SV.ok]) (by simp [Blk.ent]) fun E H hp=>?_
 obtain⟨hms,hlb⟩:=hp
 have hm2:m < 4294967296:=zFT hm oO
 have hbl:=zFj m 32
 refine zAi (zLb _ ?_) trivial ?_
 ·trivial
 rintro v0 A0 o0
 obtain⟨b0,c0,rfl,o0⟩:=o0
 apply zAg (α:=(Nat)×(Hp)×(Option Addr)×(Nat)) zAh [12,13,14,7,15,16,17,18,19,20,21,22,23,24,25,26,27,28,29,11] (fun z=>[(11,.v (.int .i64 z.1))]) (fun z=>[⟨q,[st,.slice z.2.2.1 (xs++zVq lb f ((zBf m 32).take z.1)).length z.2.2.2,ve],198⟩]) (fun z=>[z.2.1,A0,H]) (fun z=>(zBf m 32).length-z.1) (fun z=>z.1≤(zBf m 32).length∧(gSl 248 zEr).ow [.slice z.2.2.1 (xs++zVq lb f ((zBf m 32).take z.1)).length z.2.2.2] (xs++zVq lb f ((zBf m 32).take z.1)) z.2.1) ((0,A,b,c))
 ·exact frI
 ·(simp only[List.take_zero,zVq,List.map_nil,List.append_nil];repeat' (first|exact trivial|refine⟨by first|rfl|simp [Blk.ent],?_⟩))
 ·try dsimp only
  (simp only[List.take_zero,zVq,List.map_nil,List.append_nil];exact⟨Nat.zero_le _,ho⟩)
 ·exact rlA
 rintro ⟨k,X,by2,cy2⟩ hI
 try dsimp only at hI
 obtain⟨hk,oX⟩:=hI
 try dsimp only
 constructor<;>intro q1
 ·simp at q1
  have hb:=zPP hm (by omega:k < (zBf m 32).length)
  have hst:=zXN (lb:=lb) (f:=f) (xs:=xs) (by omega:k < (zBf m 32).length) (zAc oO oO)
  have hxl:(xs++zVq lb f ((zBf m 32).take k)).length≤1000040:=(by rw[List.length_append];unfold zVq;rw[List.length_map,List.length_take];omega)
  refine zAf (Gt.owrd _ o0) ?_ ?_ fun b2 o2 hb2=>?_
  ·omega
  ·omega
  refine zAd 0 (k) rfl (Gt.owrd _ o0) ?_ ?_ hb2 rfl (zAa 1 rfl) fun l3 hl3=>?_
  ·omega
  ·omega
  obtain⟨rfl,hw3⟩:=hl3;simp only[zAx,zAs,okI] at hw3
  refine zBr zAh zAK (some 12) (.q 0 (.q 1 (.q 2 (.q 3 (.q 4 (.q 5 (.q 6 (.q 7 (.q 8 (.q 9 (.q 10 (.f 11 (.tl 12 (.f 13 (.f 14 (.nil)))))))))))))))) (by decide +kernel) ?_
  refine zDq (l:=[.slice bl lb.length cl]) (zAa 2 rfl _ hms) sI rfl ?_
  refine zAf hlb ?_ ?_ fun b4 o4 hb4=>?_
  ·omega
  ·omega
  refine zAF 0 hlb ?_ ?_ hb4 rfl (zAa 2 rfl) fun l5 hl5=>?_
  ·omega
  ·omega
  obtain⟨rfl,hw5⟩:=hl5
  refine⟨fun x6=>?_⟩
  refine VC.intro ?_ ?_
  ·exact zAA
  refine zAC (g:=zEr) (T:=248) zAh X _ [A0,H] ?_ oX ((zN8 (x:=⟨f,lb[((zBf m 32)[k]?.getD 0).toNat]?.getD default,IntKind.i64.wrap ((zBf m 32)[k]?.getD 0+1)⟩)).2 ⟨rfl,.refl _,hf,zHH _⟩) (List.mem_of_getElem? (i:=0) rfl) rfl rfl rfl rfl rfl rfl rfl rfl ?_ fun b7 c7 A7 o7=>?_
  ·exact .tl
  ·omega
  apply zAb (k+1,_,_,_)
  ·exact .refl _
  ·exact frI
  ·(rw[←hst];repeat' (first|exact trivial|refine⟨by first|rfl|simp [Blk.ent],?_⟩))
  ·try dsimp only
   exact⟨oO,by rw[←hst];assumption⟩
  try dsimp only
  omega
 simp at q1
 (have hke:k=(zBf m 32).length:=oO;rw[hke,List.take_length,zXM] at oX ⊢;exact⟨_,⟨_,_,_,rfl,rfl,oX⟩,rlB⟩)
end
section
attribute [local irreducible] IntKind.wrap zB1 zAW zJP zDe zE4
def zKf (x:Path):Nfa×Bool:=if zAV x=true∧zI0 x.pieces=true then (zJP x.pieces,true) else (z56,false)
theorem zTv {x:Path} (h:zAV x=false):zKf x=(z56,false):=if_neg fun h2=>by rw[h] at h2;cases h2.1
theorem zTw {x:Path} (h:zI0 x.pieces=false):zKf x=(z56,false):=if_neg fun h2=>by rw[h] at h2;cases h2.2
theorem zTx {x:Path} (h:zAV x=true) (h2:zI0 x.pieces=true):zKf x=(zJP x.pieces,true):=if_pos ⟨h,h2⟩
theorem zA7 {x:Path} (h:zAV x=true):1≤x.pieces.length∧x.pieces.length≤60∧zGg x.pieces:=by
 have h1:=h
 unfold zAV at h1
 simp only[Bool.and_eq_true,decide_eq_true_iff] at h1
 exact⟨h1.1,h1.2.1,z4I h⟩
theorem z4W {ps:List Piece} (hps:zGg ps) (h:1≤ps.length) (ho:24≤occ ps):zI0 ps=false:=by
 rw[zXH hps h] at ho
 exact decide_eq_false oO
theorem zXP {ps:List Piece} (hps:zGg ps) (h:1≤ps.length) (ho:occ ps < 24):zI0 ps=true:=by
 rw[zXH hps h] at ho
 exact decide_eq_true oO
theorem zXQ (ps:List Piece) (hps:zGg ps) (hlen:ps.length≤60) (h1:1≤ps.length) (hg:zI0 ps=true) (q:Nat) (ki:Int) (bp bl bf:Option Addr) (cp cl cf:Nat) (hk:ki=((ps.length-1:Nat):Int)) (hL:(gSl 5 gY).ow [.slice bl 0 cl] [] []) (hF:(gSl 186 gU).ow [.slice bf 0 cf] [] []) :
  CtR prog 212 [.pointer (some ⟨q,0,none⟩),.int .i64 ki] [(q,Obj.cells ⟨[.slice bp ps.length cp,.slice bl 0 cl,.slice bf 0 cf]⟩ 252)] (fun H=>(gSl 210 zBp).rd H [.slice bp ps.length cp] ps)
   (fun v D=>∃ bl' cl' bf' cf' AL' AF',v = .agg ⟨[.int .u32 ((zB1 ps).2.first:Nat),.int .u32 ((zB1 ps).2.last:Nat),.bool (zB1 ps).2.empty]⟩ ∧
    D=(q,Obj.cells ⟨[.slice bp ps.length cp,.slice bl' (zB1 ps).1.1.length cl',.slice bf' (zB1 ps).1.2.length cf']⟩ 252)::(AL'++AF') ∧
    (gSl 5 gY).ow [.slice bl' (zB1 ps).1.1.length cl'] (zB1 ps).1.1 AL'∧(gSl 186 gU).ow [.slice bf' (zB1 ps).1.2.length cf'] (zB1 ps).1.2 AF'):=by
 unfold zB1
 exact zXo ps hps hlen ps.length q ki (ps.length-1) [] [] bp bl bf cp cl cf [] [] hk oO oO zOw (by have:=of_decide_eq_true hg;show 0+_≤23;omega) hL hF
theorem zVr {e:Bool} {m n:Nat}:zG5 e m (n+1)=zG5 e m n++[m.testBit n]:=by
 unfold zG5;rw[List.range_succ,List.map_append];rfl
theorem zXR {e:Bool} {m n:Nat}:(zG5 e m n).length=n+1:=by unfold zG5;simp
theorem zVs {lb:List UInt8} {fo:List Nat} {first k:Nat}:zE4 lb fo first (k+1)=zE4 lb fo first k++zBy lb ((k:Int)+1) (fo[k]?.getD 0):=by
 conv=>lhs;unfold zE4
theorem zNd {lb:List UInt8} {fo:List Nat} {first:Nat}:zE4 lb fo first 0=zBy lb 0 first:=by unfold zE4;rfl
theorem zNe (q sb:Nat) (st ve v0 v2:Value) (b bl:Option Addr) (c cl n:Nat) (xs:List Arc) (A:Hp) (f:Int) (m:Nat) (lb:List UInt8) (ho:(gSl 248 zEr).ow [.slice b n c] xs A) (hf:okI f) (hm:m < 2 ^ lb.length) (hl:lb.length≤23) (hx:xs.length≤1000000) :
  CtR prog 213 [.int .i64 f,.int .u32 (m:Int),.pointer (some ⟨q,0,none⟩),.pointer (some ⟨sb,0,none⟩)] ((q,Obj.cells ⟨[st,.slice b n c,ve]⟩ 198)::A)
   (fun H=>(sb,Obj.cells ⟨[v0,.slice bl lb.length cl,v2]⟩ 252)∈H∧(gSl 5 gY).rd H [.slice bl lb.length cl] lb)
   (fun v D=>∃ b' c' A',v = .tuple #[]∧D=(q,Obj.cells ⟨[st,.slice b' (xs++zBy lb f m).length c',ve]⟩ 198)::A'∧(gSl 248 zEr).ow [.slice b' (xs++zBy lb f m).length c'] (xs++zBy lb f m) A'):=by
 obtain⟨rfl,-,-⟩:=zAp (Gt.owrd _ ho)
 exact zXO q sb st ve v0 v2 b bl c cl xs A f m lb ho hf hm hl hx
theorem zAk {A:Hp} {R:List Hp} {bl:List Blk} {fr:Fr} (h:A∈R):∀ p∈A,p∈St.hall ⟨fr,bl,R⟩:=fun p hp=>List.mem_append_right _ (List.mem_flatten.2 ⟨A,h,hp⟩)
theorem z7n {ps:List Piece} (hps:zGg ps) (h:1≤ps.length) (hg:zI0 ps=true):(zB1 ps).1.1.length≤23∧(zB1 ps).1.2.length=(zB1 ps).1.1.length∧(zB1 ps).2.first < 2 ^ (zB1 ps).1.1.length∧(zB1 ps).2.last < 4294967296∧∀ k,k < (zB1 ps).1.2.length→((zB1 ps).1.2[k]?.getD 0) < 2 ^ (zB1 ps).1.1.length:=by
 have h1:=zLm hps h
 have h2:=of_decide_eq_true hg
 obtain⟨⟨a1,a2⟩,a3,a4,a5⟩:=h1
 have h3:(zB1 ps).1.1.length≤23:=by rw[a3];show 0+_≤23;omega
 refine⟨h3,a1.symm,a4,zFT a5 oO,fun k hk=>?_⟩
 rw[List.getElem?_eq_getElem hk]
 exact a2 _ (List.getElem_mem hk)
theorem z1z {ps:List Piece} (hps:zGg ps) (h:1≤ps.length) (hg:zI0 ps=true) {xs:List Arc} (hp:xs.Perm (zE4 (zB1 ps).1.1 (zB1 ps).1.2 (zB1 ps).2.first (zB1 ps).1.2.length)) (hs:xs.Pairwise fun a b=>ltOf zV4 b a=false) :
  zJP ps=⟨((zB1 ps).1.1.length+1:Nat),xs,zG5 (zB1 ps).2.empty (zB1 ps).2.last (zB1 ps).1.2.length⟩:=by
 have e1:=z1p hps h hg hp hs
 have e2:=z1q hps h hg
 have e3:=(zRY hps h hg).1.1
 rw[e1,e2,e3]
 unfold zJP;rfl
theorem z1A {x:Nat} {e:Bool}:(gSl 4 gB).ow [.slice (some ⟨x,0,none⟩) 1 1] [e] [(x,Obj.cells ⟨[.bool e]⟩ 4)]:=
 zN3 (Ow.lit (f:=zEc) (T:=4) (b:=x) (xs:=[e]) (by simp [zEc]) sI)
theorem zNf {e:Bool} {m:Nat}:zG5 e m 0=[e]:=rfl
theorem z7o {s k:Nat} (hs:s < 4294967296) (hk:k < 32):(IntKind.u32.wrap (((BitVec.ofInt IntKind.u32.bits (((s:Nat):Int).fdiv (2 ^ min (IntKind.u64.wrap (k:Int)).toNat IntKind.u32.bits)) &&& BitVec.ofInt IntKind.u32.bits 1).toNat:Nat):Int) == 1)=s.testBit k:=by
 rw[zJu hs hk]
 cases s.testBit k<;>rfl
theorem zXS {lb:List UInt8} {fo:List Nat} {first k:Nat} (h:k < 100):zE4 lb fo first k++zBy lb (IntKind.i64.wrap ((k:Int)+1)) (fo[k]?.getD default)=zE4 lb fo first (k+1):=by
 rw[zVs,zAc oO oO];rfl
theorem zXT {e:Bool} {s k:Nat} (hs:s < 4294967296) (hk:k < 32):zG5 e s k++[IntKind.u32.wrap (((BitVec.ofInt IntKind.u32.bits (((s:Nat):Int).fdiv (2 ^ min (IntKind.u64.wrap (k:Int)).toNat IntKind.u32.bits)) &&& BitVec.ofInt IntKind.u32.bits 1).toNat:Nat):Int) == 1]=zG5 e s (k+1):=by
 rw[zVr,z7o hs hk]
theorem zQh (l:List Value) (x:Path) :
  Ct prog 193 [.agg ⟨l⟩] [] (fun H=>zH4.rd H l x) (fun v A=>∃ b c b2 c2,v = .tuple #[.agg ⟨[.int .i64 (zKf x).1.states,.slice b (zKf x).1.arcs.length c,.slice b2 (zKf x).1.ends.length c2]⟩,.bool (zKf x).2]∧zZT.ow [.int .i64 (zKf x).1.states,.slice b (zKf x).1.arcs.length c,.slice b2 (zKf x).1.ends.length c2] (zKf x).1 A):=by
 refine Ct.intro0 zAh func193 rfl rfl rfl fun E H hp=>?_
 obtain⟨b0p,c0p,rfl,h0p⟩:=zBM.1 hp
 refine⟨fun x0=>?_⟩
 refine⟨fun x1=>?_⟩
 refine zAe (zFz _ (x)) (Rp.mono _ (zAa 0 rfl) hp) ?_
 rintro _ rfl
 constructor<;>intro q3
 ·simp at q3
  (rw[zTv aA];exact⟨[],⟨none,0,none,0,rfl,zKX⟩,.mem sI⟩)
 simp at q3
 have hpo3:=zA7 q3
 refine zAe (zMt _ (x) (zA7 ‹zAV x=true›).1 (zA7 ‹zAV x=true›).2.1 (zA7 ‹zAV x=true›).2.2) (Rp.mono _ (zAa 0 rfl) hp) ?_
 rintro _ rfl
 constructor<;>intro q5
 ·simp at q5
  (rw[zTw (z4W (zA7 ‹zAV x=true›).2.2 (zA7 ‹zAV x=true›).1 oO)];exact⟨[],⟨none,0,none,0,rfl,zKX⟩,.mem sI⟩)
 simp at q5
 have hgo:=zXP (zA7 ‹zAV x=true›).2.2 (zA7 ‹zAV x=true›).1 oO
 obtain⟨ht1,ht2,ht3,ht4,ht5⟩:=z7n (zA7 ‹zAV x=true›).2.2 (zA7 ‹zAV x=true›).1 hgo
 have hst:IntKind.i64.wrap (((zB1 x.pieces).1.1.length:Int)+1)=(((zB1 x.pieces).1.1.length+1:Nat):Int):=(by rw[zAc oO oO];omega)
 refine⟨fun x6=>?_⟩
 refine zAr 2 ([]) [H] rfl ?_ (zXQ x.pieces (zA7 ‹zAV x=true›).2.2 (zA7 ‹zAV x=true›).2.1 (zA7 ‹zAV x=true›).1 (zXP (zA7 ‹zAV x=true›).2.2 (zA7 ‹zAV x=true›).1 oO) _ _ _ _ _ _ _ _ ?_ (zAm _ _ _) (zAm _ _ _)) (Rp.mono _ (zAa 0 rfl) h0p) ?_
 ·exact .refl _
 ·(simp (disch:=omega) only[zAc];omega)
 rintro _ A7 ⟨bl1,cl1,bf1,cf1,AL1,AF1,rfl,rfl,oL1,oF1⟩
 refine⟨_,_,[AL1,AF1],rfl,z1i,?_⟩
 refine⟨fun x8=>?_⟩
 refine⟨fun x9=>?_⟩
 refine⟨fun x10=>?_⟩
 refine zAr 4 ([]) [[(x9,Obj.cells { toList:=Value.bool (zB1 x.pieces).snd.empty::[].append (zAX (nat_lit 0) [Value.bool false]) } 4)],AL1,AF1,H] rfl ?_ (zNe _ _ _ _ (.slice b0p x.pieces.length c0p) (.slice bf1 (zB1 x.pieces).1.2.length cf1) _ bl1 _ cl1 _ _ _ _ _ (zB1 x.pieces).1.1 (zAm _ _ _) ?_ ?_ ?_ ?_) ⟨(by simp [St.hall,zMP,Blk.ent,zJJ]),(Rp.mono _ (zAk sI) (Gt.owrd _ oL1))⟩ ?_
 ·exact .refl _
 ·trivial
 ·trivial
 ·trivial
 ·trivial
 rintro _ A11 ⟨ba11,ca11,AA11,rfl,rfl,oa11⟩
 refine⟨_,_,[AA11],rfl,zBO,?_⟩
 apply zAg (α:=(Nat)×(Hp)×(Option Addr)×(Nat)×(Hp)×(Option Addr)×(Nat)) zAh [43,44,45,46,8,9,47,48,49,50,51,52,53,54,55,56,57,58,59,60,61,62,63,64,42] (fun z=>[(42,.v (.int .i64 z.1))]) (fun z=>[⟨x0,[Value.slice b0p x.pieces.length c0p],(153:Nat)⟩,⟨x1,[Value.int IntKind.i64 (0:Int),Value.slice none (0:Nat) (0:Nat),Value.slice none (0:Nat) (0:Nat)],(198:Nat)⟩,⟨x6,[Value.slice b0p x.pieces.length c0p,Value.slice bl1 (zB1 x.pieces).fst.fst.length cl1,Value.slice bf1 (zB1 x.pieces).fst.snd.length cf1],(252:Nat)⟩,⟨x8,[Value.int IntKind.u32 (↑(zB1 x.pieces).snd.first:Int),Value.int IntKind.u32 (↑(zB1 x.pieces).snd.last:Int),Value.bool (zB1 x.pieces).snd.empty],(254:Nat)⟩,⟨x10,[Value.int IntKind.i64 (IntKind.i64.wrap ((↑(zB1 x.pieces).fst.fst.length:Int)+(1:Int))),.slice z.2.2.1 (zE4 (zB1 x.pieces).1.1 (zB1 x.pieces).1.2 (zB1 x.pieces).2.first z.1).length z.2.2.2.1,.slice z.2.2.2.2.2.1 (zG5 (zB1 x.pieces).2.empty (zB1 x.pieces).2.last z.1).length z.2.2.2.2.2.2],(198:Nat)⟩]) (fun z=>[z.2.1,z.2.2.2.2.1,AL1,AF1,H]) (fun z=>(zB1 x.pieces).1.2.length-z.1) (fun z=>z.1≤(zB1 x.pieces).1.2.length∧(gSl 248 zEr).ow [.slice z.2.2.1 (zE4 (zB1 x.pieces).1.1 (zB1 x.pieces).1.2 (zB1 x.pieces).2.first z.1).length z.2.2.2.1] (zE4 (zB1 x.pieces).1.1 (zB1 x.pieces).1.2 (zB1 x.pieces).2.first z.1) z.2.1∧(gSl 4 gB).ow [.slice z.2.2.2.2.2.1 (zG5 (zB1 x.pieces).2.empty (zB1 x.pieces).2.last z.1).length z.2.2.2.2.2.2] (zG5 (zB1 x.pieces).2.empty (zB1 x.pieces).2.last z.1) z.2.2.2.2.1) ((0,_,_,_,_,_,_))
 ·exact frI
 ·(simp only[zNf,zNd,List.nil_append,List.length_singleton];repeat' (first|exact trivial|refine⟨by first|rfl|simp [Blk.ent],?_⟩))
 ·try dsimp only
  (simp only[zNf,zNd,List.nil_append] at *;exact⟨Nat.zero_le _,aA,z1A⟩)
 ·exact .refl _
 rintro ⟨k,X,by2,cy2,W,bw,cw⟩ hI
 try dsimp only at hI
 obtain⟨hk,oX,oW⟩:=hI
 try dsimp only
 constructor<;>intro q12
 ·simp at q12
  have hal:=zLk (zB1 x.pieces).1.1 (zB1 x.pieces).1.2 (zB1 x.pieces).2.first k
  have hel:(zG5 (zB1 x.pieces).2.empty (zB1 x.pieces).2.last k).length=k+1:=zXR
  have hX9:=zXS (lb:=(zB1 x.pieces).1.1) (fo:=(zB1 x.pieces).1.2) (first:=(zB1 x.pieces).2.first) (k:=k) oO
  have hW9:=zXT (e:=(zB1 x.pieces).2.empty) (s:=(zB1 x.pieces).2.last) (k:=k) ht4 oO
  refine zAf (Gt.owrd _ oF1) ?_ ?_ fun b13 o13 hb13=>?_
  ·omega
  ·omega
  refine zAd default (k) rfl (Gt.owrd _ oF1) ?_ ?_ hb13 rfl (zAa 3 rfl) fun l14 hl14=>?_
  ·omega
  ·omega
  obtain⟨rfl,hw14⟩:=hl14;simp only[flU] at hw14
  refine VC.intro ?_ ?_
  ·(rw[zV2];omega)
  refine⟨fun x15=>?_⟩
  refine zAC (g:=gB) (T:=4) zAh W [] [X,AL1,AF1,H] ?_ oW (zH2 ?_) (List.mem_of_getElem? (i:=0) rfl) rfl rfl rfl rfl rfl rfl rfl rfl ?_ fun b16 c16 A16 o16=>?_
  ·exact rlA
  ·trivial
  ·omega
  refine zAr 4 (X) [A16,AL1,AF1,H] rfl ?_ (zNe _ _ _ _ (.slice b0p x.pieces.length c0p) (.slice bf1 (zB1 x.pieces).1.2.length cf1) _ bl1 _ cl1 _ _ _ _ _ (zB1 x.pieces).1.1 oX ?_ ?_ ?_ ?_) ⟨(by simp [St.hall,zMP,Blk.ent,zJJ]),(Rp.mono _ (zAk sI) (Gt.owrd _ oL1))⟩ ?_
  ·exact rlA
  ·exact zGF _
  ·simp_all
  ·trivial
  ·omega
  rintro _ A17 ⟨ba17,ca17,AA17,rfl,rfl,oa17⟩
  refine⟨_,_,[AA17],rfl,zBO,?_⟩
  apply zAb (k+1,_,_,_,_,_,_)
  ·exact .refl _
  ·exact frI
  ·(rw[←hX9,←hW9];repeat' (first|exact trivial|refine⟨by first|rfl|simp [Blk.ent],?_⟩))
  ·try dsimp only
   exact⟨oO,by rw[←hX9];assumption,by rw[←hW9];assumption⟩
  try dsimp only
  omega
 simp at q12
 have hal:=zLk (zB1 x.pieces).1.1 (zB1 x.pieces).1.2 (zB1 x.pieces).2.first k
 have hke:k=(zB1 x.pieces).1.2.length:=oO
 refine zA1 (X) [W,AL1,AF1,H] (zRZ _ _ _ _ _ oX ?_) ?_ trivial ?_
 ·omega
 ·exact .refl _
 rintro _ A18 ⟨rfl,xs9,hp9,hs9,o9⟩
 have hxl9:=hp9.length_eq
 refine⟨[A18],by simp,?_⟩
 (subst hke;rw[zTx ‹zAV x=true› hgo,z1z (zA7 ‹zAV x=true›).2.2 (zA7 ‹zAV x=true›).1 hgo hp9 hs9,hst,←hxl9];exact⟨_,⟨_,_,_,_,rfl,zRG.2 ⟨_,_,_,_,_,_,rfl,.refl _,(by unfold okI;dsimp only;omega),aA,oW⟩⟩,rlB⟩)
end
section
theorem zTy {p:Nat→Bool}:∀ {n:Nat},(∀ i,i < n→p i=true)→zCd p n=true
 | 0,_=>rfl
 | n+1,h=>zAG (zTy fun i hi=>h i oO) (h n oO)
theorem z1B {n:Nat} {lb:List UInt8} {xs:List Arc} {ends:List Bool} (hg:zIZ (lb,xs)) (hl:lb.length=n) (hn:n≤23) (he:ends.length=n+1):zOo ⟨((n+1:Nat):Int),xs,ends⟩=true:=by
 obtain⟨⟨g1,g2⟩,g3,g4⟩:=hg
 refine zPS (by show (1:Int)≤((n+1:Nat):Int)∧((n+1:Nat):Int)≤24;omega) (by show ((ends.length:Nat):Int)=((n+1:Nat):Int);rw[he]) (zTy fun i hi=>?_)
 have hi:i < xs.length:=hi
 have e1:(xs[i]?.getD default)=xs[i]:=by rw[List.getElem?_eq_getElem hi];rfl
 have hm:=List.getElem_mem hi
 have r:=g2 _ hm
 have q:=g4 _ hm
 unfold z57 at r
 have q2:xs[i].from'≤(n:Int)∧xs[i].to≤(n:Int):=by
  have:=q.2;rw[show (lb,xs).1.length=n from hl] at this;exact this
 unfold zG3
 show (inR 0 (((n+1:Nat):Int)-1) (xs[i]?.getD default).from' && (inR 0 (((n+1:Nat):Int)-1) (xs[i]?.getD default).to && (zBb (xs[i]?.getD default).label && (decide (i=0) || zBl (xs[i-1]?.getD default) (xs[i]?.getD default)))))=true
 rw[e1,zAq.2 oO,zAq.2 oO,q.1,Bool.true_and,Bool.true_and,Bool.true_and]
 rcases Nat.eq_zero_or_pos i with h0|h0
 ·rw[decide_eq_true h0];rfl
 have hi1:i-1 < xs.length:=by omega
 have e2:(xs[i-1]?.getD default)=xs[i-1]:=by rw[List.getElem?_eq_getElem hi1];rfl
 rw[e2,Bool.or_eq_true]
 exact .inr ((zIe (g2 _ (List.getElem_mem hi1)) (g2 _ hm)).2 (List.pairwise_iff_getElem.1 g1 (i-1) i hi1 hi oO))
def zOA (l:List Int) (e:List Bool):List Bool:=l.foldl (fun e i=>e.set i.toNat true) e
theorem zKg:∀ (l:List Int) (e:List Bool),(zOA l e).length=e.length
 | [],_=>rfl
 | i::l,e=>(zKg l (e.set i.toNat true)).trans List.length_set
theorem zXU {l:List Int} {e:List Bool} {k:Nat} (h:k < l.length):zOA (l.take (k+1)) e=(zOA (l.take k) e).set (l[k]?.getD 0).toNat true:=by
 unfold zOA
 rw[←List.take_append_getElem h,List.foldl_append,List.getElem?_eq_getElem h];rfl
theorem zTz:∀ (l:List Int) (e:List Bool) (k:Nat),k < e.length→(zOA l e)[k]?=if (∃ i∈l,i.toNat=k) then some true else e[k]?
 | [],e,k,_=>by rw[if_neg (by rintro ⟨i,h,_⟩;cases h)];rfl
 | i::l,e,k,hk=>by
  show (zOA l (e.set i.toNat true))[k]?=_
  rw[zTz l _ k (by rw[List.length_set];exact hk)]
  by_cases h1:∃ j∈l,j.toNat=k
  ·rw[if_pos h1,if_pos]
   obtain⟨j,h2,h3⟩:=h1
   exact⟨j,List.mem_cons_of_mem _ h2,h3⟩
  rw[if_neg h1]
  by_cases h2:i.toNat=k
  ·rw[if_pos ⟨i,List.mem_cons_self ..,h2⟩,h2,List.getElem?_set,if_pos rfl,if_pos hk]
  rw[if_neg,List.getElem?_set,if_neg h2]
  rintro ⟨j,h3,h4⟩
  rcases List.mem_cons.1 h3 with rfl|h3
  ·exact h2 h4
  exact h1 ⟨j,h3,h4⟩
theorem zXV {n:Nat} {l:List Int} {e:Bool} (h:zO8 n l):zOA l (e::List.replicate n false)=zVp e l n:=by
 apply List.ext_getElem?
 intro k
 unfold zVp
 rcases Nat.lt_or_ge k (n+1) with hk|hk
 ·rw[zTz _ _ _ (by simpa using hk)]
  cases k with
  | zero=>
   rw[if_neg]
   ·rfl
   rintro ⟨i,h1,h2⟩
   have:=h i h1
   omega
  | succ k=>
   have e1:(List.replicate n false)[k]?=some false:=by rw[List.getElem?_replicate,if_pos oO]
   rw[List.getElem?_cons_succ,List.getElem?_cons_succ,e1,List.getElem?_map,List.getElem?_range oO]
   show _=some (decide (((k:Int)+1)∈l))
   by_cases h1:((k:Int)+1)∈l
   ·rw[decide_eq_true h1];exact if_pos ⟨_,h1,oO⟩
   rw[decide_eq_false h1]
   refine if_neg ?_
   rintro ⟨i,h2,h3⟩
   have:=h i h2
   exact h1 (by rw[show (k:Int)+1=i from oO];exact h2)
 rw[List.getElem?_eq_none (by rw[zKg];simpa using hk),List.getElem?_eq_none (by simpa using hk)]
theorem zTA (ps:List Piece) (hps:zGg ps) (hlen:ps.length≤60):∀ n,zXp ps n
 | 0=>by intro q ki i lb xs bp bl ba cp cl ca AL AX bd _ _ h;omega
 | n+1=>z4O ps n hps hlen (zTA ps hps hlen n)
attribute [local irreducible] IntKind.wrap zB1 zAW zJP zDe zE4 zCk zOA
theorem zVt (ps:List Piece) (hps:zGg ps) (hlen:ps.length≤60) (h1:1≤ps.length) (q:Nat) (ki:Int) (bp bl ba:Option Addr) (cp cl ca:Nat) (hk:ki=((ps.length-1:Nat):Int)) (hL:(gSl 5 gY).ow [.slice bl 0 cl] [] []) (hX:(gSl 248 zEr).ow [.slice ba 0 ca] [] []) :
  CtR prog 182 [.pointer (some ⟨q,0,none⟩),.int .i64 ki] [(q,Obj.cells ⟨[.slice bp ps.length cp,.slice bl 0 cl,.slice ba 0 ca,.bool false]⟩ 230)] (fun H=>(gSl 210 zBp).rd H [.slice bp ps.length cp] ps)
   (fun v D=>∃ bl' cl' ba' ca' AL' AX' b1 c1 A1 b2 c2 A2,v = .agg ⟨[.slice b1 (zAW ps).2.first.length c1,.slice b2 (zAW ps).2.last.length c2,.bool (zAW ps).2.null]⟩ ∧
    D=(q,Obj.cells ⟨[.slice bp ps.length cp,.slice bl' (zAW ps).1.1.length cl',.slice ba' (zAW ps).1.2.length ca',.bool (zG4 (zAW ps).1)]⟩ 230)::(AL'++(AX'++(A1++A2))) ∧
    (gSl 5 gY).ow [.slice bl' (zAW ps).1.1.length cl'] (zAW ps).1.1 AL'∧(gSl 248 zEr).ow [.slice ba' (zAW ps).1.2.length ca'] (zAW ps).1.2 AX' ∧
    (gSl 3 gI).ow [.slice b1 (zAW ps).2.first.length c1] (zAW ps).2.first A1∧(gSl 3 gI).ow [.slice b2 (zAW ps).2.last.length c2] (zAW ps).2.last A2):=by
 unfold zAW
 exact zTA ps hps hlen ps.length q ki (ps.length-1) [] [] bp bl ba cp cl ca [] [] false hk oO oO rfl zQd (by show 0≤23;omega) hL hX
theorem z4X {ps:List Piece} (hps:zGg ps) (h:1≤ps.length) (hb:zG4 (zAW ps).1=true):zI0 ps=false:=by
 have hf:=(zLl hps h).2.1
 have h1:=of_decide_eq_true hb
 have hf:(zAW ps).1.1.length=min 24 (0+zDe ps ps.length (ps.length-1)):=hf
 exact decide_eq_false oO
theorem z1C {ps:List Piece} (hps:zGg ps) (h:1≤ps.length) (hb:zG4 (zAW ps).1=false):zI0 ps=true∧(zAW ps).1.1.length≤23∧zIZ (zAW ps).1∧zO8 (zAW ps).1.1.length (zAW ps).2.first∧zO8 (zAW ps).1.1.length (zAW ps).2.last∧(zAW ps).2.first.length≤23∧(zAW ps).2.last.length≤23:=by
 obtain⟨f1,f2,f3,f4,f5,f6⟩:=zLl hps h
 have h1:=of_decide_eq_false hb
 have f2:(zAW ps).1.1.length=min 24 (0+zDe ps ps.length (ps.length-1)):=f2
 have f5:(zAW ps).2.first.length+0≤(zAW ps).1.1.length:=f5
 have f6:(zAW ps).2.last.length+0≤(zAW ps).1.1.length:=f6
 exact⟨decide_eq_true oO,oO,f1,f3,f4,oO,oO⟩
theorem z1D {ps:List Piece} (h:zO8 (zAW ps).1.1.length (zAW ps).2.last):zJP ps=⟨((zAW ps).1.1.length+1:Nat),zCk (zAW ps).1.1 [0] (zAW ps).2.first (zAW ps).1.2,zOA (zAW ps).2.last ((zAW ps).2.null::List.replicate (zAW ps).1.1.length false)⟩:=by
 rw[zXV h];unfold zJP;rfl
theorem zR0 {ps:List Piece} (hl:(zAW ps).1.1.length≤23) (hg:zIZ (zAW ps).1) (hf:zO8 (zAW ps).1.1.length (zAW ps).2.first):zOo ⟨((zAW ps).1.1.length+1:Nat),zCk (zAW ps).1.1 [0] (zAW ps).2.first (zAW ps).1.2,zOA (zAW ps).2.last ((zAW ps).2.null::List.replicate (zAW ps).1.1.length false)⟩=true:=
 z1B (lb:=(zAW ps).1.1) (zLd (xs:=(zAW ps).1.2) hg oO (fun f h=>by rw[List.mem_singleton.1 h];omega) hf) rfl hl (by rw[zKg];simp)
theorem z4Y {n m:Nat} {e:Bool} (h:n=m+1):(List.replicate n false).set 0 e=zOA [] (e::List.replicate m false):=by
 subst h;unfold zOA;rfl
theorem zR1 {ps:List Piece} (hl:(zAW ps).1.1.length≤23):(IntKind.i64.wrap (((zAW ps).1.1.length:Int)+1)).toNat=(zAW ps).1.1.length+1:=by rw[zAc oO oO];omega
theorem zR2 {ps:List Piece} {l:List Int}:(zOA l ((zAW ps).2.null::List.replicate (zAW ps).1.1.length false)).length=(zAW ps).1.1.length+1:=by rw[zKg];simp
theorem zI2 {ps:List Piece} {bj bz:Option Addr} {cj:Nat} (hl:(zAW ps).1.1.length≤23):[Value.int .i64 (IntKind.i64.wrap (((zAW ps).1.1.length:Int)+1)),.slice bj (zCk (zAW ps).1.1 [0] (zAW ps).2.first (zAW ps).1.2).length cj,.slice bz (IntKind.i64.wrap (((zAW ps).1.1.length:Int)+1)).toNat (IntKind.i64.wrap (((zAW ps).1.1.length:Int)+1)).toNat]=[Value.int .i64 (((zAW ps).1.1.length+1:Nat):Int),.slice bj (zCk (zAW ps).1.1 [0] (zAW ps).2.first (zAW ps).1.2).length cj,.slice bz (zOA (zAW ps).2.last ((zAW ps).2.null::List.replicate (zAW ps).1.1.length false)).length (IntKind.i64.wrap (((zAW ps).1.1.length:Int)+1)).toNat]:=by
 have e1:IntKind.i64.wrap (((zAW ps).1.1.length:Int)+1)=(((zAW ps).1.1.length+1:Nat):Int):=by rw[zAc oO oO];omega
 rw[zR2,zR1 hl,e1]
theorem zTB {ps:List Piece} {bj bz:Option Addr} {cj:Nat} {AX V:Hp} (hl:(zAW ps).1.1.length≤23) (oX:(gSl 248 zEr).ow [.slice bj (zCk (zAW ps).1.1 [0] (zAW ps).2.first (zAW ps).1.2).length cj] (zCk (zAW ps).1.1 [0] (zAW ps).2.first (zAW ps).1.2) AX) (oV:(gSl 4 gB).ow [.slice bz (IntKind.i64.wrap (((zAW ps).1.1.length:Int)+1)).toNat (IntKind.i64.wrap (((zAW ps).1.1.length:Int)+1)).toNat] (zOA (zAW ps).2.last ((zAW ps).2.null::List.replicate (zAW ps).1.1.length false)) V) :
  zZT.ow [Value.int .i64 (IntKind.i64.wrap (((zAW ps).1.1.length:Int)+1)),.slice bj (zCk (zAW ps).1.1 [0] (zAW ps).2.first (zAW ps).1.2).length cj,.slice bz (IntKind.i64.wrap (((zAW ps).1.1.length:Int)+1)).toNat (IntKind.i64.wrap (((zAW ps).1.1.length:Int)+1)).toNat] ⟨(((zAW ps).1.1.length+1:Nat):Int),(zCk (zAW ps).1.1 [0] (zAW ps).2.first (zAW ps).1.2),(zOA (zAW ps).2.last ((zAW ps).2.null::List.replicate (zAW ps).1.1.length false))⟩ (AX++V):=
 zRG.2 ⟨bj,cj,AX,bz,(IntKind.i64.wrap (((zAW ps).1.1.length:Int)+1)).toNat,V,zI2 hl,.refl _,by unfold okI;dsimp only;omega,oX,by
  show (gSl 4 gB).ow [.slice bz (zOA (zAW ps).2.last ((zAW ps).2.null::List.replicate (zAW ps).1.1.length false)).length (IntKind.i64.wrap (((zAW ps).1.1.length:Int)+1)).toNat] (zOA (zAW ps).2.last ((zAW ps).2.null::List.replicate (zAW ps).1.1.length false)) V
  rw[zR2,←zR1 hl];exact oV⟩
theorem zXW {A B:Hp} {R:List Hp} {bl:List Blk} {fr:Fr} (h1:A∈R) (h2:B∈R):∀ p∈A++B,p∈St.hall ⟨fr,bl,R⟩:=fun p hp=>(List.mem_append.1 hp).elim (zAk h1 p) (zAk h2 p)
theorem zQi (l:List Value) (x:Path) :
  Ct prog 147 [.agg ⟨l⟩] [] (fun H=>zH4.rd H l x) (fun v A=>∃ b c b2 c2,v = .tuple #[.agg ⟨[.int .i64 (zKf x).1.states,.slice b (zKf x).1.arcs.length c,.slice b2 (zKf x).1.ends.length c2]⟩,.bool (zKf x).2]∧zZT.ow [.int .i64 (zKf x).1.states,.slice b (zKf x).1.arcs.length c,.slice b2 (zKf x).1.ends.length c2] (zKf x).1 A):=by
 refine Ct.intro0 zAh func147 rfl rfl rfl fun E H hp=>?_
 obtain⟨b0p,c0p,rfl,h0p⟩:=zBM.1 hp
 refine⟨fun x0=>?_⟩
 refine⟨fun x1=>?_⟩
 refine zAe (zEh _ (x)) (Rp.mono _ (zAa 0 rfl) hp) ?_
 rintro _ rfl
 constructor<;>intro q3
 ·simp at q3
  (rw[zTv aA];exact⟨[],⟨none,0,none,0,rfl,zKX⟩,.mem sI⟩)
 simp at q3
 have hpo3:=zA7 q3
 refine⟨fun x4=>?_⟩
 refine zAr 2 ([]) [H] rfl ?_ (zVt x.pieces (zA7 ‹zAV x=true›).2.2 (zA7 ‹zAV x=true›).2.1 (zA7 ‹zAV x=true›).1 _ _ _ _ _ _ _ _ ?_ (zAm _ _ _) (zAm _ _ _)) (Rp.mono _ (zAa 0 rfl) h0p) ?_
 ·exact .refl _
 ·(simp (disch:=omega) only[zAc];omega)
 rintro _ A5 ⟨bl1,cl1,ba1,ca1,AL1,AX1,b11,c11,A11,b21,c21,A21,rfl,rfl,oL1,oX1,oF1,oT1⟩
 have rF1:=Gt.owrd _ oF1
 have rT1:=Gt.owrd _ oT1
 refine⟨_,_,[AL1,AX1,A11,A21],rfl,z4N,?_⟩
 refine⟨fun x6=>?_⟩
 constructor<;>intro q7
 ·(rw[zTw (z4X (zA7 ‹zAV x=true›).2.2 (zA7 ‹zAV x=true›).1 aA)];exact⟨[],⟨none,0,none,0,rfl,zKX⟩,.mem sI⟩)
 obtain⟨hgo,ht1,hG,hF9,hL9,ht6,ht7⟩:=z1C (zA7 ‹zAV x=true›).2.2 (zA7 ‹zAV x=true›).1 ‹zG4 (zAW x.pieces).1=false›
 refine⟨fun x8=>?_⟩
 refine zAr 2 (AX1) [[(x8,Obj.cells { toList:=Value.int IntKind.i64 (0:Int)::[].append (zAX (nat_lit 0) [Value.int IntKind.i64 (0:Int)]) } 3)],AL1,A11,A21,H] rfl ?_ (zOp _ _ _ _ _ _ _ _ _ ((zAW x.pieces).fst.fst) ([(0:Int)]) ((zAW x.pieces).snd.first) _ _ _ _ oX1 ?_ ?_ ?_ ?_) ⟨(Rp.mono _ (zAa 1 rfl) (Gt.owrd _ oL1)),(Rp.mono _ (zAa 0 rfl) (Ow.rd (Ow.lit (f:=zAs) (T:=3) (b:=x8) (xs:=[(0:Int)]) (by first|(simp [zAs,okI];done)|(simp only[List.forall_mem_cons];simp_all [zAs,okI])) sI))),(Rp.mono _ (zAa 2 rfl) rF1)⟩ ?_
 ·exact rlA
 ·exact hG.1
 ·exact (fun x hx=>by rw[List.mem_singleton.1 hx];omega)
 ·trivial
 ·omega
 rintro _ A9 ⟨bj9,cj9,Aj9,rfl,rfl,oj9⟩
 refine⟨_,_,[Aj9],rfl,zBO,?_⟩
 refine zUO (α:=(Nat)×(Nat)×(Hp)) [31,32,33,34,35,36,37,38,39,40,41,42,43,44,45,46,47,48,6] (fun z=>[(6,.p 4 0)]) (fun z=>[⟨x0,[.slice b0p x.pieces.length c0p],153⟩,⟨x1,[.int .i64 0,.slice none 0 0,.slice none 0 0],198⟩,⟨x4,[.slice b0p x.pieces.length c0p,.slice bl1 (zAW x.pieces).1.1.length cl1,.slice bj9 (zCk (zAW x.pieces).1.1 [0] (zAW x.pieces).2.first (zAW x.pieces).1.2).length cj9,.bool (zG4 (zAW x.pieces).1)],230⟩,⟨x6,[.slice b11 (zAW x.pieces).2.first.length c11,.slice b21 (zAW x.pieces).2.last.length c21,.bool (zAW x.pieces).2.null],232⟩,⟨z.1,[.int .i64 (IntKind.i64.wrap (((zAW x.pieces).1.1.length:Int)+1)),.slice bj9 (zCk (zAW x.pieces).1.1 [0] (zAW x.pieces).2.first (zAW x.pieces).1.2).length cj9,.slice (some ⟨z.2.1,0,none⟩) (IntKind.i64.wrap (((zAW x.pieces).1.1.length:Int)+1)).toNat (IntKind.i64.wrap (((zAW x.pieces).1.1.length:Int)+1)).toNat],198⟩]) (fun z=>[z.2.2,Aj9,AL1,A11,A21,H]) (fun z=>(gSl 4 gB).ow [.slice (some ⟨z.2.1,0,none⟩) (IntKind.i64.wrap (((zAW x.pieces).1.1.length:Int)+1)).toNat (IntKind.i64.wrap (((zAW x.pieces).1.1.length:Int)+1)).toNat] (List.replicate (IntKind.i64.wrap (((zAW x.pieces).1.1.length:Int)+1)).toNat false) z.2.2) ?_ ?_
 ·refine zBr zAh zAK (some 19) (.q 0 (.q 1 (.q 2 (.q 3 (.q 4 (.q 5 (.q 6 (.q 7 (.q 8 (.q 9 (.q 10 (.q 11 (.q 12 (.q 13 (.q 14 (.q 15 (.hd (.alt 16 (.q 17 (.f 18 (.tl 19 (.nil)))) (.alt 18 (.f 16 (.q 17 (.tl 19 (.nil)))) (.nil)))))))))))))))))))) (by decide +kernel) ?_
  refine VC.intro ?_ ?_
  ·refine VCmake.intro ?_ ?_ ?_ ?_ fun x10=>?_
   ·(simp (disch:=omega) only[zAc];omega)
   ·(simp (disch:=omega) only[zAc];omega)
   ·(simp (disch:=omega) only[zAc];omega)
   ·(simp (disch:=omega) only[zAc];omega)
   refine VC.intro ?_ ?_
   ·exact zAA
   refine⟨fun x11=>?_⟩
   refine VC.intro ?_ ?_
   ·exact zAl sI sI
   apply zMQ (_,_,_)
   ·exact .sub (by repeat (first|exact .slnil|apply List.Sublist.cons_cons|apply List.Sublist.cons))
   ·exact frI
   ·repeat' (first|exact trivial|refine⟨by first|rfl|simp [Blk.ent],?_⟩)
   try dsimp only
   exact zEY (zH2 (x:=false) trivial) (Nat.le_refl _) (by rw[zAc oO oO];omega)
  refine VC.intro ?_ ?_
  ·refine⟨fun x12=>?_⟩
   refine VC.intro ?_ ?_
   ·exact zAl sI sI
   refine VCmake.intro ?_ ?_ ?_ ?_ fun x13=>?_
   ·(simp (disch:=omega) only[zAc];omega)
   ·(simp (disch:=omega) only[zAc];omega)
   ·(simp (disch:=omega) only[zAc];omega)
   ·(simp (disch:=omega) only[zAc];omega)
   refine VC.intro ?_ ?_
   ·exact zAl sI sI
   apply zMQ (_,_,_)
   ·exact .sub (by repeat (first|exact .slnil|apply List.Sublist.cons_cons|apply List.Sublist.cons))
   ·exact frI
   ·repeat' (first|exact trivial|refine⟨by first|rfl|simp [Blk.ent],?_⟩)
   try dsimp only
   exact zEY (zH2 (x:=false) trivial) (Nat.le_refl _) (by rw[zAc oO oO];omega)
  exact trivial
 rintro ⟨y,zb,W⟩ hI
 try dsimp only at hI
 obtain oW:=hI
 try dsimp only
 have hn9:=zR1 ht1
 refine zAf (Gt.owrd _ hI) ?_ ?_ fun b14 o14 hb14=>?_
 ·trivial
 ·simp;omega
 refine zBq (Fld.id _) false (0) 0 rfl rfl hI ?_ ?_ hb14 rfl zN4 _ (zH2 trivial) fun A15 o15=>?_
 ·trivial
 ·simp;omega
 apply zAg (α:=(Nat)×(Hp)) zAh [54,55,56,57,58,61,62,63,64,65,66,67,68,59,60,7] (fun z=>[(7,.v (.int .i64 z.1))]) (fun z=>[{ id:=x0,cs:=[Value.slice b0p x.pieces.length c0p],ty:=153 },{ id:=x1,cs:=[Value.int IntKind.i64 (0:Int),Value.slice none (0:Nat) (0:Nat),Value.slice none (0:Nat) (0:Nat)],ty:=198 },{ id:=x4,cs:=[Value.slice b0p x.pieces.length c0p,Value.slice bl1 (zAW x.pieces).fst.fst.length cl1,Value.slice bj9 (zCk (zAW x.pieces).fst.fst [(0:Int)] (zAW x.pieces).snd.first (zAW x.pieces).fst.snd).length cj9,Value.bool (zG4 (zAW x.pieces).fst)],ty:=230 },{ id:=x6,cs:=[Value.slice b11 (zAW x.pieces).snd.first.length c11,Value.slice b21 (zAW x.pieces).snd.last.length c21,Value.bool (zAW x.pieces).snd.null],ty:=232 },{ id:=y,cs:=[Value.int IntKind.i64 (IntKind.i64.wrap ((↑(zAW x.pieces).fst.fst.length:Int)+(1:Int))),Value.slice bj9 (zCk (zAW x.pieces).fst.fst [(0:Int)] (zAW x.pieces).snd.first (zAW x.pieces).fst.snd).length cj9,Value.slice (some { block:=zb,off:=(0:Nat) }) (IntKind.i64.wrap ((↑(zAW x.pieces).fst.fst.length:Int)+(1:Int))).toNat (IntKind.i64.wrap ((↑(zAW x.pieces).fst.fst.length:Int)+(1:Int))).toNat],ty:=198 }]) (fun z=>[z.2,Aj9,AL1,A11,A21,H]) (fun z=>(zAW x.pieces).2.last.length-z.1) (fun z=>z.1≤(zAW x.pieces).2.last.length∧(gSl 4 gB).ow [.slice (some ⟨zb,0,none⟩) (IntKind.i64.wrap (((zAW x.pieces).1.1.length:Int)+1)).toNat (IntKind.i64.wrap (((zAW x.pieces).1.1.length:Int)+1)).toNat] (zOA ((zAW x.pieces).2.last.take z.1) ((zAW x.pieces).2.null::List.replicate (zAW x.pieces).1.1.length false)) z.2) ((0,_))
 ·exact frI
 ·repeat' (first|exact trivial|refine⟨by first|rfl|simp [Blk.ent],?_⟩)
 ·try dsimp only
  exact⟨Nat.zero_le _,by rw[List.take_zero,←z4Y hn9];assumption⟩
 ·exact .refl _
 rintro ⟨k,V⟩ hI
 try dsimp only at hI
 obtain⟨hk,oV⟩:=hI
 try dsimp only
 constructor<;>intro q16
 ·simp at q16
  have hlk:=zRS hL9 (by omega:k < (zAW x.pieces).2.last.length)
  have hel:=zR2 (ps:=x.pieces) (l:=(zAW x.pieces).2.last.take k)
  refine zBr zAh zAK (some 8) (.q 0 (.q 1 (.q 2 (.q 3 (.q 4 (.q 5 (.q 6 (.q 7 (.tl 8 (.nil)))))))))) (by decide +kernel) ?_
  refine zAf rT1 ?_ ?_ fun b17 o17 hb17=>?_
  ·omega
  ·omega
  refine zAd 0 (k) rfl rT1 ?_ ?_ hb17 rfl (zAa 4 rfl) fun l18 hl18=>?_
  ·omega
  ·omega
  obtain⟨rfl,hw18⟩:=hl18;simp only[zAx,zAs,okI] at hw18
  refine zAf (Gt.owrd _ oV) ?_ ?_ fun b19 o19 hb19=>?_
  ·omega
  ·omega
  refine zBq (Fld.id _) false (Int.toNat ((zAW x.pieces).snd.last[k]?.getD (0:Int))) 0 rfl (Int.toNat_of_nonneg ?_).symm oV ?_ ?_ hb19 rfl zN4 _ (zH2 trivial) fun A20 o20=>?_
  ·omega
  ·omega
  ·omega
  apply zAb (k+1,_)
  ·exact .refl _
  ·exact frI
  ·repeat' (first|exact trivial|refine⟨by first|rfl|simp [Blk.ent],?_⟩)
  ·try dsimp only
   exact⟨oO,by rw[zXU oO];assumption⟩
  try dsimp only
  omega
 simp at q16
 have hke:k=(zAW x.pieces).2.last.length:=oO
 subst hke
 rw[List.take_length] at oV
 refine zAe (zPV _ _) (zZT.mono (zXW sI sI) (zZT.owrd (zTB ht1 oj9 oV))) ?_
 rintro _ rfl
 constructor<;>intro q22
 ·simp at q22
  exact absurd (q22.symm.trans (zR0 ht1 hG hF9)) (by decide)
 simp at q22
 (rw[zTx ‹zAV x=true› hgo,z1D hL9];exact⟨_,⟨bj9,cj9,some ⟨zb,0,none⟩,(IntKind.i64.wrap (((zAW x.pieces).1.1.length:Int)+1)).toNat,congrArg (fun l=>Value.tuple #[.agg ⟨l⟩,.bool true]) (zI2 ht1),by rw[←zI2 ht1];exact zTB ht1 oj9 oV⟩,rlB⟩)
end
section
attribute [local irreducible] IntKind.wrap zKf zBG zBd
def tnR (t:ByteArray):Nfa×Bool:=if (zBG t).isSome=true then zKf (zBd t) else (z56,false)
theorem z3k {t:ByteArray} (h:(zBG t).isSome=false):tnR t=(z56,false):=if_neg (by rw[h];decide)
theorem zXX {t:ByteArray} (h:(zBG t).isSome=true):tnR t=zKf (zBd t):=if_pos h
theorem zQj (t:ByteArray) (ht:t.size≤1152921504606846976) :
  Ct prog 169 [.string t] [] (fun _=>True) (fun v A=>∃ b c b2 c2,v = .tuple #[.agg ⟨[.int .i64 (tnR t).1.states,.slice b (tnR t).1.arcs.length c,.slice b2 (tnR t).1.ends.length c2]⟩,.bool (tnR t).2]∧zZT.ow [.int .i64 (tnR t).1.states,.slice b (tnR t).1.arcs.length c,.slice b2 (tnR t).1.ends.length c2] (tnR t).1 A):=by
 refine Ct.intro0 zAh func169 rfl rfl rfl fun E H hp=>?_
 refine⟨fun x0=>?_⟩
 refine zAi (zEz _ ?_) trivial ?_
 ·trivial
 rintro v1 A1 o1
 obtain⟨bP,cP,rfl,oP⟩:=o1
 refine⟨fun x2=>?_⟩
 constructor<;>intro q3
 ·simp at q3
  (rw[z3k (by rw[‹zBG _=none›];rfl)];exact⟨[],⟨none,0,none,0,rfl,zKX⟩,.mem sI⟩)
 simp at q3
 refine zAi (zQh _ (zBd t)) (zBM.2 ⟨_,_,rfl,Rp.mono _ (zAk sI) (Gt.owrd _ oP)⟩) ?_
 rintro v4 A4 o4
 obtain⟨bN,cN,bbN,ccN,rfl,oN⟩:=o4
 (rw[zXX aA];exact⟨_,⟨_,_,_,_,rfl,oN⟩,rlB⟩)
def zCY (a:Atom):Bool:=zBY a.from' && (zBY a.to && (tnR a.path).2)
theorem zTC {a:Atom} (h:zBY a.from'=false):zCY a=false:=by unfold zCY;rw[h];rfl
theorem zTD {a:Atom} (h:zBY a.to=false):zCY a=false:=by unfold zCY;rw[h];simp
theorem z1E {a:Atom} (h:(tnR a.path).2=false):zCY a=false:=by unfold zCY;rw[h];simp
theorem zTE {a:Atom} (h:zBY a.from'=true) (h1:zBY a.to=true):zCY a=(tnR a.path).2:=by unfold zCY;rw[h,h1];rfl
theorem zQk (l:List Value) (a:Atom) (ht:a.path.size≤1152921504606846976):Ct prog 130 [.agg ⟨l⟩] [] (fun H=>zA9.rd H l a) (fun v A=>v = .bool (zCY a)∧A=[]):=by
 refine Ct.intro0 zAh func130 rfl rfl rfl fun E H hp=>?_
 obtain⟨rfl,w0p,w1p,w2p⟩:=zAT.1 hp
 refine⟨fun x0=>?_⟩
 refine zAe (zD4 _ ?_) trivial ?_
 ·trivial
 rintro _ rfl
 constructor<;>intro q2
 ·simp at q2
  exact⟨[],⟨by rw[zTC aA],rfl⟩,.mem sI⟩
 simp at q2
 refine zAe (zD4 _ ?_) trivial ?_
 ·trivial
 rintro _ rfl
 constructor<;>intro q4
 ·simp at q4
  exact⟨[],⟨by rw[zTD aA],rfl⟩,.mem sI⟩
 simp at q4
 refine zAi (zQj _ ?_) trivial ?_
 ·trivial
 rintro v5 A5 o5
 obtain⟨b5,c5,bb5,cc5,rfl,o5⟩:=o5
 refine⟨fun x6=>?_⟩
 exact⟨[],⟨by rw[zTE aA aA],rfl⟩,.mem sI⟩
theorem zNg (l:List Value) (a:Atom) (ht:a.path.size≤1152921504606846976):Ct prog 95 [.agg ⟨l⟩] [] (fun H=>zA9.rd H l a) (fun v A=>v = .bool (zCY a)∧A=[]):=by
 refine Ct.intro0 zAh func95 rfl rfl rfl fun E H hp=>?_
 obtain⟨rfl,w0p,w1p,w2p⟩:=zAT.1 hp
 refine⟨fun x0=>?_⟩
 refine zAi (zEC _ ?_) trivial ?_
 ·trivial
 rintro v1 A1 o1
 obtain⟨bP,cP,rfl,oP⟩:=o1
 refine⟨fun x2=>?_⟩
 constructor<;>intro q3
 ·simp at q3
  exact⟨[],⟨by rw[z1E (by rw[z3k (by rw[‹zBG _=none›];rfl)])],rfl⟩,.mem sI⟩
 simp at q3
 refine zAe (zD5 _ ?_) trivial ?_
 ·trivial
 rintro _ rfl
 constructor<;>intro q5
 ·simp at q5
  exact⟨[],⟨by rw[zTC aA],rfl⟩,.mem sI⟩
 simp at q5
 refine zAe (zD5 _ ?_) trivial ?_
 ·trivial
 rintro _ rfl
 constructor<;>intro q7
 ·simp at q7
  exact⟨[],⟨by rw[zTD aA],rfl⟩,.mem sI⟩
 simp at q7
 refine zAi (zQi _ (zBd a.path)) (zBM.2 ⟨_,_,rfl,Rp.mono _ (zAk sI) (Gt.owrd _ oP)⟩) ?_
 rintro v8 A8 o8
 obtain⟨bN,cN,bbN,ccN,rfl,oN⟩:=o8
 refine⟨fun x9=>?_⟩
 exact⟨[],⟨by rw[zTE aA aA,zXX aA],rfl⟩,.mem sI⟩
def zKh (l:List ByteArray) (s:ByteArray):List ByteArray:=if zBI l s=true then l else l++[s]
theorem zDr {l:List ByteArray} {s:ByteArray} (h:zBI l s=true):zKh l s=l:=if_pos h
theorem zFD {l:List ByteArray} {s:ByteArray} (h:zBI l s=false):zKh l s=l++[s]:=if_neg (by rw[h];decide)
def zAj (ats:List Atom):List ByteArray:=ats.foldl (fun l a=>zKh (zKh l a.from') a.to) []
theorem zBT {ats:List Atom} {k:Nat} (h:k < ats.length):zAj (ats.take (k+1))=zKh (zKh (zAj (ats.take k)) (ats[k]?.getD default).from') (ats[k]?.getD default).to:=by
 unfold zAj
 rw[←List.take_append_getElem h,List.foldl_append,List.getElem?_eq_getElem h];rfl
theorem zIl (l:List ByteArray) (s:ByteArray):(zKh l s).length≤l.length+1:=by
 unfold zKh;split
 ·omega
 rw[List.length_append];exact Nat.le_refl _
theorem zI3:∀ (ats:List Atom) (k:Nat),k≤ats.length→(zAj (ats.take k)).length≤2 * k
 | ats,0,_=>Nat.le_refl _
 | ats,k+1,h=>by
  have h1:=zI3 ats k oO
  rw[zBT oO]
  have h2:=zIl (zAj (ats.take k)) (ats[k]?.getD default).from'
  have h3:=zIl (zKh (zAj (ats.take k)) (ats[k]?.getD default).from') (ats[k]?.getD default).to
  omega
theorem zCu (l:List Value) (x:Query) (hx:x.atoms.length≤1048576):Ct prog 44 [.agg ⟨l⟩] [] (fun H=>zAL.rd H l x) (fun v A=>∃ b c,v = .slice b (zAj x.atoms).length c∧(gSl 9 gS).ow [.slice b (zAj x.atoms).length c] (zAj x.atoms) A):=by
 refine Ct.intro0 zAh func44 rfl rfl rfl fun E H hp=>?_
 obtain⟨b1p,c1p,b2p,c2p,b3p,c3p,rfl,h1p,h2p,h3p⟩:=zAy.1 hp
 refine⟨fun x0=>?_⟩
 refine⟨fun x1=>?_⟩
 apply zAg (α:=(Nat)×(List ByteArray)×(Hp)×(Option Addr)×(Nat)) zAh [6,7,8,9,10,13,14,15,16,17,18,19,20,21,22,23,24,25,26,27,28,29,30,3,31,32,33,34,35,36,37,38,39,40,41,42,43,44,45,46,47,48,11,12,4] (fun z=>[(4,.v (.int .i64 z.1)),(3,.v (.slice z.2.2.2.1 z.2.1.length z.2.2.2.2))]) (fun z=>[{ id:=x0,cs:=[Value.bool x.each,Value.slice b1p x.out.length c1p,Value.slice b2p x.atoms.length c2p,Value.slice b3p x.filters.length c3p],ty:=(43:Nat) }]) (fun z=>[z.2.2.1,H]) (fun z=>x.atoms.length-z.1) (fun z=>z.1≤x.atoms.length∧z.2.1=zAj (x.atoms.take z.1)∧(gSl 9 gS).ow [.slice z.2.2.2.1 z.2.1.length z.2.2.2.2] z.2.1 z.2.2.1) ((0,[],[],_,0))
 ·exact frI
 ·exact⟨rfl,trivial⟩
 ·try dsimp only
  exact⟨Nat.zero_le _,rfl,zAm _ _ _⟩
 ·exact .tl
 rintro ⟨k,o,A,lb,lc⟩ hI
 try dsimp only at hI
 obtain⟨hk,ho,oA⟩:=hI
 try dsimp only
 constructor<;>intro q2
 ·simp at q2
  have hlen:=zI3 x.atoms k oO
  have hol:o.length≤2 * k:=(by rw[ho];exact hlen)
  refine zAf h2p ?_ ?_ fun b3 o3 hb3=>?_
  ·omega
  ·omega
  refine zAw default (k) 0 rfl h2p ?_ ?_ hb3 rfl (by decide) (zAa 1 rfl) fun l4 hl4=>?_
  ·omega
  ·omega
  obtain⟨rfl,w0x4,w1x4,w2x4⟩:=zAT.1 hl4
  refine zAe (zCP _ _ _ (o) _) (Rp.mono _ (zAa 0 rfl) (Gt.owrd _ oA)) ?_
  rintro _ rfl
  constructor<;>intro q6
  ·simp at q6
   refine zAf h2p ?_ ?_ fun b7 o7 hb7=>?_
   ·omega
   ·omega
   refine zAw default (k) 0 rfl h2p ?_ ?_ hb7 rfl (by decide) (zAa 1 rfl) fun l8 hl8=>?_
   ·omega
   ·omega
   obtain⟨rfl,w0x8,w1x8,w2x8⟩:=zAT.1 hl8
   refine⟨fun x9=>?_⟩
   refine zAC (g:=gS) (T:=9) zAh A [] [H] ?_ oA (zN5 ?_) (List.mem_of_getElem? (i:=0) rfl) rfl rfl rfl rfl rfl rfl rfl rfl ?_ fun b10 c10 A10 o10=>?_
   ·exact .tl
   ·trivial
   ·omega
   refine zAf h2p ?_ ?_ fun b11 o11 hb11=>?_
   ·omega
   ·omega
   refine zAw default (k) 2 rfl h2p ?_ ?_ hb11 rfl (by decide) (zAa 1 rfl) fun l12 hl12=>?_
   ·omega
   ·omega
   obtain⟨rfl,w0x12,w1x12,w2x12⟩:=zAT.1 hl12
   refine zAe (zCP _ _ _ (o++[(x.atoms[k]?.getD default).from']) _) (Rp.mono _ (zAa 0 rfl) (Gt.owrd _ o10)) ?_
   rintro _ rfl
   constructor<;>intro q14
   ·simp at q14
    refine zAf h2p ?_ ?_ fun b15 o15 hb15=>?_
    ·omega
    ·omega
    refine zAw default (k) 2 rfl h2p ?_ ?_ hb15 rfl (by decide) (zAa 1 rfl) fun l16 hl16=>?_
    ·omega
    ·omega
    obtain⟨rfl,w0x16,w1x16,w2x16⟩:=zAT.1 hl16
    refine⟨fun x17=>?_⟩
    refine zAC (g:=gS) (T:=9) zAh A10 [] [H] ?_ o10 (zN5 ?_) (List.mem_of_getElem? (i:=0) rfl) rfl rfl rfl rfl rfl rfl rfl rfl ?_ fun b18 c18 A18 o18=>?_
    ·exact .tl
    ·trivial
    ·simp;omega
    apply zAb (k+1,_,_,_,_)
    ·exact .refl _
    ·exact frI
    ·exact⟨rfl,trivial⟩
    ·try dsimp only
     exact⟨oO,by rw[zBT oO,←ho,zFD (l:=o) (s:=(x.atoms[k]?.getD default).from') aA,zFD aA],aA⟩
    try dsimp only
    omega
   simp at q14
   apply zAb (k+1,_,_,_,_)
   ·exact .refl _
   ·exact frI
   ·exact⟨rfl,trivial⟩
   ·try dsimp only
    exact⟨oO,by rw[zBT oO,←ho,zFD (l:=o) (s:=(x.atoms[k]?.getD default).from') aA,zDr aA],aA⟩
   try dsimp only
   omega
  simp at q6
  refine zAf h2p ?_ ?_ fun b19 o19 hb19=>?_
  ·omega
  ·omega
  refine zAw default (k) 2 rfl h2p ?_ ?_ hb19 rfl (by decide) (zAa 1 rfl) fun l20 hl20=>?_
  ·omega
  ·omega
  obtain⟨rfl,w0x20,w1x20,w2x20⟩:=zAT.1 hl20
  refine zAe (zCP _ _ _ (o) _) (Rp.mono _ (zAa 0 rfl) (Gt.owrd _ oA)) ?_
  rintro _ rfl
  constructor<;>intro q22
  ·simp at q22
   refine zAf h2p ?_ ?_ fun b23 o23 hb23=>?_
   ·omega
   ·omega
   refine zAw default (k) 2 rfl h2p ?_ ?_ hb23 rfl (by decide) (zAa 1 rfl) fun l24 hl24=>?_
   ·omega
   ·omega
   obtain⟨rfl,w0x24,w1x24,w2x24⟩:=zAT.1 hl24
   refine⟨fun x25=>?_⟩
   refine zAC (g:=gS) (T:=9) zAh A [] [H] ?_ oA (zN5 ?_) (List.mem_of_getElem? (i:=0) rfl) rfl rfl rfl rfl rfl rfl rfl rfl ?_ fun b26 c26 A26 o26=>?_
   ·exact .tl
   ·trivial
   ·omega
   apply zAb (k+1,_,_,_,_)
   ·exact .refl _
   ·exact frI
   ·exact⟨rfl,trivial⟩
   ·try dsimp only
    exact⟨oO,by rw[zBT oO,←ho,zDr (l:=o) (s:=(x.atoms[k]?.getD default).from') aA,zFD aA],aA⟩
   try dsimp only
   omega
  simp at q22
  apply zAb (k+1,_,_,_,_)
  ·exact .refl _
  ·exact frI
  ·exact⟨rfl,trivial⟩
  ·try dsimp only
   exact⟨oO,by rw[zBT oO,←ho,zDr (l:=o) (s:=(x.atoms[k]?.getD default).from') aA,zDr aA],aA⟩
  try dsimp only
  omega
 simp at q2
 (have hke:k=x.atoms.length:=oO;subst hke;rw[List.take_length] at ho;subst ho;exact⟨_,⟨_,_,rfl,aA⟩,rlB⟩)
end
section
attribute [local irreducible] IntKind.wrap zCY
theorem zFE {s:ByteArray}:s.toList=[]↔s.size=0:=by
 have e:(ByteArray.empty).toList=[]:=by simp
 constructor
 ·intro h
  have h2:s=ByteArray.empty:=zAR.1 (h.trans e.symm)
  rw[h2];rfl
 intro h
 have h2:=zF6 s
 rw[h] at h2
 have h3:s=ByteArray.empty:=z7f.1 (by rw[List.length_eq_zero_iff.1 h2];rfl)
 rw[h3,e]
theorem zR3 {x:Nat} {a b:ByteArray} (h1:a.size≤9223372036854775807) (h2:b.size≤9223372036854775807):(gSl 9 gS).ow [.slice (some ⟨x,0,none⟩) 2 2] [a,b] [(x,Obj.cells ⟨[.string a,.string b]⟩ 9)]:=
 zN3 (Ow.lit (f:=zAx) (T:=9) (b:=x) (xs:=[a,b]) (fun y hy=>(List.mem_cons.1 hy).elim (fun e=>by rw[e];exact h1) (fun hy=>by rw[List.mem_singleton.1 hy];exact h2)) sI)
def z71 (o:List ByteArray) (a b:ByteArray):Nat→List ByteArray
 | 0=>o
 | 1=>zKh o a
 | _+2=>zKh (zKh o a) b
theorem zQl {o:List ByteArray} {a b:ByteArray} {j:Nat} (h:j < 2):z71 o a b (j+1)=zKh (z71 o a b j) ([a,b][j]?.getD ByteArray.empty):=by
 rcases (by omega:j=0∨j=1) with rfl|rfl<;>rfl
theorem z1F (o:List ByteArray) (a b:ByteArray) {j:Nat} (h:j≤2):(z71 o a b j).length≤o.length+j:=by
 rcases (by omega:j=0∨j=1∨j=2) with rfl|rfl|rfl
 ·exact Nat.le_refl _
 ·exact zIl o a
 have h1:=zIl o a
 have h2:=zIl (zKh o a) b
 show (zKh (zKh o a) b).length≤_;omega
theorem zCZ (l:List Value) (x:Query) (hx:x.atoms.length≤1048576):Ct prog 78 [.agg ⟨l⟩] [] (fun H=>zAL.rd H l x) (fun v A=>∃ b c,v = .slice b (zAj x.atoms).length c∧(gSl 9 gS).ow [.slice b (zAj x.atoms).length c] (zAj x.atoms) A):=by
 refine Ct.intro0 zAh func78 rfl rfl rfl fun E H hp=>?_
 obtain⟨b1p,c1p,b2p,c2p,b3p,c3p,rfl,h1p,h2p,h3p⟩:=zAy.1 hp
 refine⟨fun x0=>?_⟩
 apply zAg (α:=(Nat)×(List ByteArray)×(Hp)×(Option Addr)×(Nat)) zAh [12,13,14,5,15,16,17,18,19,20,21,22,23,24,7,25,26,27,28,29,30,31,32,3,33,34,11] (fun z=>[(11,.v (.int .i64 z.1)),(3,.v (.slice z.2.2.2.1 z.2.1.length z.2.2.2.2))]) (fun z=>[{ id:=x0,cs:=[Value.bool x.each,Value.slice b1p x.out.length c1p,Value.slice b2p x.atoms.length c2p,Value.slice b3p x.filters.length c3p],ty:=(43:Nat) }]) (fun z=>[z.2.2.1,H]) (fun z=>x.atoms.length-z.1) (fun z=>z.1≤x.atoms.length∧z.2.1=zAj (x.atoms.take z.1)∧(gSl 9 gS).ow [.slice z.2.2.2.1 z.2.1.length z.2.2.2.2] z.2.1 z.2.2.1) ((0,[],[],_,0))
 ·exact frI
 ·exact⟨rfl,trivial⟩
 ·try dsimp only
  exact⟨Nat.zero_le _,rfl,zAm _ _ _⟩
 ·exact .refl _
 rintro ⟨k,o,A,lb,lc⟩ hI
 try dsimp only at hI
 obtain⟨hk,ho,oA⟩:=hI
 try dsimp only
 constructor<;>intro q1
 ·simp at q1
  have hlen:=zI3 x.atoms k oO
  have hol:o.length≤2 * k:=(by rw[ho];exact hlen)
  refine zAf h2p ?_ ?_ fun b2 o2 hb2=>?_
  ·omega
  ·omega
  refine zAd default (k) rfl h2p ?_ ?_ hb2 rfl (zAa 1 rfl) fun l3 hl3=>?_
  ·omega
  ·omega
  obtain⟨rfl,w0x3,w1x3,w2x3⟩:=zAT.1 hl3
  refine⟨fun x4=>?_⟩
  refine⟨fun x5=>?_⟩
  apply zAg (α:=(Nat)×(List ByteArray)×(Hp)×(Option Addr)×(Nat)) zAh [22,23,24,7,25,26,27,28,29,30,31,32,3,33,21] (fun z=>[(21,.v (.int .i64 z.1)),(3,.v (.slice z.2.2.2.1 z.2.1.length z.2.2.2.2))]) (fun z=>[{ id:=x0,cs:=[Value.bool x.each,Value.slice b1p x.out.length c1p,Value.slice b2p x.atoms.length c2p,Value.slice b3p x.filters.length c3p],ty:=(43:Nat) },{ id:=x4,cs:=[Value.string (x.atoms[k]?.getD default).from',Value.string (x.atoms[k]?.getD default).path,Value.string (x.atoms[k]?.getD default).to],ty:=(97:Nat) }]) (fun z=>[z.2.2.1,[(x5,Obj.cells ⟨[.string (x.atoms[k]?.getD default).from',.string (x.atoms[k]?.getD default).to]⟩ 9)],H]) (fun z=>2-z.1) (fun z=>z.1≤2∧z.2.1=z71 o (x.atoms[k]?.getD default).from' (x.atoms[k]?.getD default).to z.1∧(gSl 9 gS).ow [.slice z.2.2.2.1 z.2.1.length z.2.2.2.2] z.2.1 z.2.2.1) ((0,o,A,lb,lc))
  ·exact frI
  ·exact⟨rfl,rfl,trivial⟩
  ·try dsimp only
   exact⟨Nat.zero_le _,rfl,oA⟩
  ·exact .le fun a=>by simp [List.count_cons,List.count_append,Blk.ent,St.hall,zNZ,zAX,List.append];omega
  rintro ⟨j,o2,A2,lb2,lc2⟩ hI
  try dsimp only at hI
  obtain⟨hj,ho2,oA2⟩:=hI
  try dsimp only
  constructor<;>intro q6
  ·simp at q6
   have hlit:=zR3 (x:=x5) (a:=(x.atoms[k]?.getD default).from') (b:=(x.atoms[k]?.getD default).to) aA aA
   have hlen2:o2.length≤2 * k+2:=(by have:=z1F o (x.atoms[k]?.getD default).from' (x.atoms[k]?.getD default).to (j:=j) oO;rw[ho2];omega)
   refine zAf (Gt.owrd _ hlit) ?_ ?_ fun b7 o7 hb7=>?_
   ·omega
   ·trivial
   refine zAd ByteArray.empty (j) rfl (Gt.owrd _ hlit) ?_ ?_ hb7 rfl (zAa 1 rfl) fun l8 hl8=>?_
   ·omega
   ·trivial
   obtain⟨rfl,hw8⟩:=hl8;simp only[zAx,zAs,okI] at hw8
   refine zAe (zCj _ _ _ (o2) _) (Rp.mono _ (zAa 0 rfl) (Gt.owrd _ oA2)) ?_
   rintro _ rfl
   constructor<;>intro q10
   ·simp at q10
    refine⟨fun x11=>?_⟩
    refine zAC (g:=gS) (T:=9) zAh A2 [] [[(x5,Obj.cells { toList:=[Value.string (x.atoms[k]?.getD default).from',Value.string (x.atoms[k]?.getD default).to] } 9)],H] ?_ oA2 (zN5 ?_) (List.mem_of_getElem? (i:=0) rfl) rfl rfl rfl rfl rfl rfl rfl rfl ?_ fun b12 c12 A12 o12=>?_
    ·exact .tl
    ·trivial
    ·omega
    apply zAb (j+1,_,_,_,_)
    ·exact .refl _
    ·exact frI
    ·exact⟨rfl,rfl,trivial⟩
    ·try dsimp only
     exact⟨oO,by rw[zQl oO,←ho2,zFD aA],aA⟩
    try dsimp only
    omega
   simp at q10
   apply zAb (j+1,_,_,_,_)
   ·exact .refl _
   ·exact frI
   ·exact⟨rfl,rfl,trivial⟩
   ·try dsimp only
    exact⟨oO,by rw[zQl oO,←ho2,zDr aA],aA⟩
   try dsimp only
   omega
  simp at q6
  apply zAb (k+1,_,_,_,_)
  ·exact .sub (by repeat (first|exact .slnil|apply List.Sublist.cons_cons|apply List.Sublist.cons))
  ·exact frI
  ·exact⟨rfl,trivial⟩
  ·try dsimp only
   (have hje:j=2:=oO;subst hje;exact⟨oO,by rw[ho2,ho,zBT oO];rfl,aA⟩)
  try dsimp only
  omega
 simp at q1
 (have hke:k=x.atoms.length:=oO;subst hke;rw[List.take_length] at ho;subst ho;exact⟨_,⟨_,_,rfl,aA⟩,rlB⟩)
def zD7 (l:List ByteArray):Bool:=zCd (fun i=>!zBI (l.take i) (l[i]?.getD ByteArray.empty)) l.length
theorem z4Z {l:List ByteArray} {k:Nat} (hk:k < l.length) (h:zBI (l.take k) (l[k]?.getD ByteArray.empty)=true):zD7 l=false:=by
 unfold zD7;rw[zDz (p:=fun i=>!zBI (l.take i) (l[i]?.getD ByteArray.empty)) (k:=k) (by simp [h]) _ hk]
theorem zOB {l:List ByteArray} {k:Nat} (hk:k < l.length) (h:zBI ((l.take ((k:Nat):Int).toNat).drop 0) (l[k]?.getD ByteArray.empty)=true):zD7 l=false:=z4Z hk h
theorem zLn {l:List ByteArray} {k:Nat} (h:zBI ((l.take ((k:Nat):Int).toNat).drop 0) (l[k]?.getD ByteArray.empty)=false):(!zBI (l.take k) (l[k]?.getD ByteArray.empty))=true:=by
 have h:zBI (l.take k) (l[k]?.getD ByteArray.empty)=false:=h
 rw[h];rfl
theorem zE5 (b:Option Addr) (m c:Nat) (xs:List ByteArray):Ct prog 131 [.slice b m c] [] (fun H=>(gSl 9 gS).rd H [.slice b m c] xs) (fun v A=>v = .bool (zD7 xs)∧A=[]):=by
 refine Ct.intro0 zAh func131 rfl rfl rfl fun E H hp=>?_
 obtain⟨rfl,hcl,hl⟩:=zAp hp
 apply zAg (α:=(Nat)) zAh [8,9,10,11,3,4,12,13,14,15,16,2,17,7] (fun z=>[(7,.v (.int .i64 z))]) (fun z=>[]) (fun z=>[H]) (fun z=>xs.length-z) (fun z=>z≤xs.length∧zCd (fun i=>!zBI (xs.take i) (xs[i]?.getD ByteArray.empty)) z=true) ((0))
 ·exact frI
 ·exact trivial
 ·exact⟨Nat.zero_le _,rfl⟩
 ·exact .refl _
 rintro k hI
 try dsimp only at hI
 obtain⟨hk,ha⟩:=hI
 try dsimp only
 constructor<;>intro q0
 ·simp at q0
  refine zAf hp ?_ ?_ fun b1 o1 hb1=>?_
  ·omega
  ·omega
  refine zAd ByteArray.empty (k) rfl hp ?_ ?_ hb1 rfl (zAa 0 rfl) fun l2 hl2=>?_
  ·omega
  ·omega
  obtain⟨rfl,hw2⟩:=hl2;simp only[zAx,zAs,okI] at hw2
  refine VC.intro ?_ ?_
  ·omega
  refine zAe (zCj _ _ _ ((xs.take ((k:Nat):Int).toNat).drop 0) _) (Rp.mono _ (zAa 0 rfl) (zJo (r:=gS.toRp) (l:=0) (h:=((k:Nat):Int).toNat) hp oO oO)) ?_
  rintro _ rfl
  constructor<;>intro q4
  ·simp at q4
   exact⟨[],⟨by rw[zOB (k:=k) oO aA],rfl⟩,.mem sI⟩
  simp at q4
  apply zAb (k+1)
  ·exact .refl _
  ·exact frI
  ·exact trivial
  ·exact⟨oO,zAG ha (zLn aA)⟩
  omega
 simp at q0
 (have hke:k=xs.length:=oO;subst hke;exact⟨[],⟨congrArg Value.bool ha.symm,rfl⟩,.mem sI⟩)
def zVu (l s:List ByteArray):Bool:=zCd (fun i=>zBI l (s[i]?.getD ByteArray.empty)) s.length
theorem zTF {l s:List ByteArray} {k:Nat} (hk:k < s.length) (h:zBI l (s[k]?.getD ByteArray.empty)=false):zVu l s=false:=by
 unfold zVu;rw[zDz (p:=fun i=>zBI l (s[i]?.getD ByteArray.empty)) (k:=k) h _ hk]
theorem zHm (b:Option Addr) (m c:Nat) (b2:Option Addr) (m2 c2:Nat) (xs ys:List ByteArray):Ct prog 132 [.slice b m c,.slice b2 m2 c2] [] (fun H=>(gSl 9 gS).rd H [.slice b m c] xs∧(gSl 9 gS).rd H [.slice b2 m2 c2] ys) (fun v A=>v = .bool (zVu xs ys)∧A=[]):=by
 refine Ct.intro0 zAh func132 rfl rfl rfl fun E H hp=>?_
 obtain⟨hp,hq⟩:=hp
 obtain⟨rfl,hcl,hl⟩:=zAp hp
 obtain⟨rfl,hcl2,hl2⟩:=zAp hq
 apply zAg (α:=(Nat)) zAh [10,11,12,6,13,14,15,16,4,17,9] (fun z=>[(9,.v (.int .i64 z))]) (fun z=>[]) (fun z=>[H]) (fun z=>ys.length-z) (fun z=>z≤ys.length∧zCd (fun i=>zBI xs (ys[i]?.getD ByteArray.empty)) z=true) ((0))
 ·exact frI
 ·exact trivial
 ·exact⟨Nat.zero_le _,rfl⟩
 ·exact .refl _
 rintro k hI
 try dsimp only at hI
 obtain⟨hk,ha⟩:=hI
 try dsimp only
 constructor<;>intro q0
 ·simp at q0
  refine zAf hq ?_ ?_ fun b1 o1 hb1=>?_
  ·omega
  ·omega
  refine zAd ByteArray.empty (k) rfl hq ?_ ?_ hb1 rfl (zAa 0 rfl) fun l2 hl2=>?_
  ·omega
  ·omega
  obtain⟨rfl,hw2⟩:=hl2;simp only[zAx,zAs,okI] at hw2
  refine zAe (zCj _ _ _ (xs) _) (Rp.mono _ (zAa 0 rfl) hp) ?_
  rintro _ rfl
  constructor<;>intro q4
  ·simp at q4
   exact⟨[],⟨by rw[zTF (k:=k) oO aA],rfl⟩,.mem sI⟩
  simp at q4
  apply zAb (k+1)
  ·exact .refl _
  ·exact frI
  ·exact trivial
  ·exact⟨oO,zAG ha aA⟩
  omega
 simp at q0
 (have hke:k=ys.length:=oO;subst hke;exact⟨[],⟨congrArg Value.bool ha.symm,rfl⟩,.mem sI⟩)
theorem z40 (n:Int):Ct prog 170 [.int .i64 n] [] (fun _=>True) (fun v A=>v = .bool (inR 1 2 n)∧A=[]):=by
 refine Ct.intro0 zAh func170 rfl rfl rfl fun E H hp=>?_
 constructor<;>intro q0
 ·simp at q0
  exact⟨[],⟨congrArg Value.bool (by unfold inR;rw[Bool.eq_iff_iff];simp;omega),rfl⟩,.mem sI⟩
 simp at q0
 exact⟨[],⟨congrArg Value.bool (by unfold inR;rw[Bool.eq_iff_iff];simp;omega),rfl⟩,.mem sI⟩
def zBC (ns:List ByteArray) (f:Filter):Bool:=zBI ns f.left && (inR 1 2 f.op && (if f.right.size=0 then inR 0 99 f.num else decide (f.num=0) && zBI ns f.right))
theorem zR4 (l:List Value) (b:Option Addr) (m c:Nat) (f:Filter) (ns:List ByteArray):Ct prog 133 [.agg ⟨l⟩,.slice b m c] [] (fun H=>zAE.rd H l f∧(gSl 9 gS).rd H [.slice b m c] ns) (fun v A=>v = .bool (zBC ns f)∧A=[]):=by
 refine Ct.intro0 zAh func133 rfl rfl rfl fun E H hp=>?_
 obtain⟨hp,hq⟩:=hp
 obtain⟨rfl,w0p,w1p,w2p,w3p⟩:=zBj.1 hp
 refine⟨fun x0=>?_⟩
 refine zAe (zCj _ _ _ (ns) _) (Rp.mono _ (zAa 0 rfl) hq) ?_
 rintro _ rfl
 constructor<;>intro q2
 ·simp at q2
  exact⟨[],⟨congrArg Value.bool (by unfold zBC;rw[‹zBI ns f.left=false›];rfl),rfl⟩,.mem sI⟩
 simp at q2
 refine zAe (z40 _) trivial ?_
 rintro _ rfl
 constructor<;>intro q4
 ·simp at q4
  exact⟨[],⟨congrArg Value.bool (by unfold zBC;rw[‹inR 1 2 f.op=false›];simp),rfl⟩,.mem sI⟩
 simp at q4
 constructor<;>intro q5
 ·simp at q5
  have iq5:=zFE.1 q5
  constructor<;>intro q6
  ·simp at q6
   exact⟨[],⟨congrArg Value.bool (by unfold zBC;rw[‹zBI ns f.left=true›,‹inR 1 2 f.op=true›,if_pos aA];unfold inR;rw[Bool.eq_iff_iff];simp;omega),rfl⟩,.mem sI⟩
  simp at q6
  exact⟨[],⟨congrArg Value.bool (by unfold zBC;rw[‹zBI ns f.left=true›,‹inR 1 2 f.op=true›,if_pos aA];unfold inR;rw[Bool.eq_iff_iff];simp;omega),rfl⟩,.mem sI⟩
 simp at q5
 have iq5:=mt zFE.2 q5
 constructor<;>intro q7
 ·simp at q7
  refine zAe (zCj _ _ _ (ns) _) (Rp.mono _ (zAa 0 rfl) hq) ?_
  rintro _ rfl
  exact⟨[],⟨congrArg Value.bool (by unfold zBC;rw[‹zBI ns f.left=true›,‹inR 1 2 f.op=true›,if_neg aA,decide_eq_true aA];rfl),rfl⟩,.mem sI⟩
 simp at q7
 exact⟨[],⟨congrArg Value.bool (by unfold zBC;rw[‹zBI ns f.left=true›,‹inR 1 2 f.op=true›,if_neg aA,decide_eq_false aA];rfl),rfl⟩,.mem sI⟩
end
end Go.Proofs.YtcnclhjhnjpeiaaGreat
