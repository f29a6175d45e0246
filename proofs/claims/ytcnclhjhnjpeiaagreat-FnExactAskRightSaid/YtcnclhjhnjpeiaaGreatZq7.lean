/-
 Parts of the law, put together. Conditions: none.
-/
import Derived.Test.YtcnclhjhnjpeiaaGreatZq6
set_option maxHeartbeats 4000000
set_option linter.unusedSimpArgs false
set_option linter.unusedVariables false
namespace Go.Proofs.YtcnclhjhnjpeiaaGreat
open Go.SX Go.Proofs
open Tryz
section
def bt (m:List Nat) (u v:Nat):Prop:=(m[u]?.getD 0).testBit v=true
structure RepI (n:Nat) (m:List Nat) (R:Nat→Nat→Prop):Prop where
 len:m.length=n
 small:∀ u:Nat,(m[u]?.getD 0) < 2 ^ n
 rows:∀ u v:Nat,u < n→v < n→(bt m u v↔R u v)
theorem zFO {m:List Nat} {i y:Nat} (hi:i < m.length) (u:Nat):((m.set i y)[u]?.getD 0)=if u=i then y else (m[u]?.getD 0):=by
 rw[List.getElem?_set]
 split
 ·rename_i h;subst h;simp [hi]
 rename_i h;rw[if_neg (Ne.symm h)]
theorem zGy {n u:Nat}:((List.replicate n 0)[u]?.getD 0)=0:=by
 rw[List.getElem?_replicate];split<;>rfl
theorem zKt {n a b:Nat} (ha:a < 2 ^ n) (hb:b < 2 ^ n):a ||| b < 2 ^ n:=Nat.or_lt_two_pow ha hb
theorem z2p {a b v:Nat}:(a ||| b).testBit v=true↔a.testBit v=true∨b.testBit v=true:=by rw[Nat.testBit_or,Bool.or_eq_true]
structure IdI (n i:Nat) (m:List Nat):Prop where
 len:m.length=n
 rows:∀ u:Nat,(m[u]?.getD 0)=if u < i then 2 ^ u else 0
theorem z5x (n:Nat):IdI n 0 (List.replicate n 0):=⟨List.length_replicate,fun u=>by rw[zGy,if_neg oO]⟩
theorem z5y {n i:Nat} {m:List Nat} (hi:i < n) (h:IdI n i m):IdI n (i+1) (m.set i (2 ^ i)):=by
 refine⟨by rw[List.length_set];exact h.len,fun u=>?_⟩
 rw[zFO (by rw[h.len];exact hi),h.rows]
 split
 ·rename_i e;subst e;rw[if_pos oO]
 split
 ·rw[if_pos oO]
 rw[if_neg oO]
theorem z7R {n:Nat} {m:List Nat} (h:IdI n n m):RepI n m (fun u v=>u=v):=by
 refine⟨h.len,fun u=>?_,fun u v hu hv=>?_⟩
 ·rw[h.rows];split
  ·exact Nat.pow_lt_pow_right oO aA
  exact Nat.two_pow_pos n
 unfold bt;rw[h.rows,if_pos hu,Nat.testBit_two_pow,decide_eq_true_iff]
structure ThenI (n:Nat) (A B:Nat→Nat→Prop) (i j:Nat) (m:List Nat):Prop where
 len:m.length=n
 small:∀ u:Nat,(m[u]?.getD 0) < 2 ^ n
 rows:∀ u v:Nat,u < n→v < n→(bt m u v↔(u < i∧zJS n A B u v)∨(u=i∧∃ w,w < j∧A u w∧B w v))
theorem zYY (n:Nat) (A B:Nat→Nat→Prop):ThenI n A B 0 0 (List.replicate n 0):=by
 refine⟨List.length_replicate,fun u=>by rw[zGy];exact Nat.two_pow_pos n,fun u v _ _=>?_⟩
 unfold bt
 rw[zGy,Nat.zero_testBit]
 constructor
 ·intro h;cases h
 rintro (⟨h,_⟩ | ⟨_,w,h,_⟩)<;>omega
theorem z2q {n:Nat} {A B:Nat→Nat→Prop} {i j:Nat} {m mb:List Nat} (hi:i < n) (hj:j < n) (hb:RepI n mb B) (h:ThenI n A B i j m) (h2:A i j):ThenI n A B i (j+1) (m.set i ((m[i]?.getD 0) ||| (mb[j]?.getD 0))):=by
 have hl:i < m.length:=by rw[h.len];exact hi
 refine⟨by rw[List.length_set];exact h.len,fun u=>?_,fun u v hu hv=>?_⟩
 ·rw[zFO hl];split
  ·exact zKt (h.small i) (hb.small j)
  exact h.small u
 unfold bt
 rw[zFO hl]
 split
 ·rename_i e
  subst e
  rw[z2p,show (m[u]?.getD 0).testBit v=true↔_ from h.rows u v hu hv,show (mb[j]?.getD 0).testBit v=true↔_ from hb.rows j v hj hv]
  constructor
  ·rintro ((⟨h3,_⟩ | ⟨_,w,h3,h4⟩) | h3)
   ·omega
   ·exact .inr ⟨rfl,w,oO,h4⟩
   exact .inr ⟨rfl,j,oO,h2,h3⟩
  rintro (⟨h3,_⟩ | ⟨_,w,h3,h4,h5⟩)
  ·omega
  rcases (by omega:w < j∨w=j) with h6|rfl
  ·exact .inl (.inr ⟨rfl,w,h6,h4,h5⟩)
  exact .inr h5
 rename_i e
 rw[show (m[u]?.getD 0).testBit v=true↔_ from h.rows u v hu hv]
 constructor
 ·rintro (h3 | ⟨h3,_⟩)
  ·exact .inl h3
  exact absurd h3 e
 rintro (h3 | ⟨h3,_⟩)
 ·exact .inl h3
 exact absurd h3 e
theorem zYZ {n:Nat} {A B:Nat→Nat→Prop} {i j:Nat} {m:List Nat} (h:ThenI n A B i j m) (h2:¬A i j):ThenI n A B i (j+1) m:=by
 refine⟨h.len,h.small,fun u v hu hv=>?_⟩
 rw[h.rows u v hu hv]
 constructor
 ·rintro (h3 | ⟨h3,w,h4,h5⟩)
  ·exact .inl h3
  exact .inr ⟨h3,w,oO,h5⟩
 rintro (h3 | ⟨rfl,w,h4,h5,h6⟩)
 ·exact .inl h3
 rcases (by omega:w < j∨w=j) with h7|rfl
 ·exact .inr ⟨rfl,w,h7,h5,h6⟩
 exact absurd h5 h2
theorem zY0 {n:Nat} {A B:Nat→Nat→Prop} {i:Nat} {m:List Nat} (h:ThenI n A B i n m):ThenI n A B (i+1) 0 m:=by
 refine⟨h.len,h.small,fun u v hu hv=>?_⟩
 rw[h.rows u v hu hv]
 constructor
 ·rintro (⟨h3,h4⟩ | ⟨rfl,w,h4,h5⟩)
  ·exact .inl ⟨oO,h4⟩
  exact .inl ⟨oO,w,h4,h5⟩
 rintro (⟨h3,w,h4,h5⟩ | ⟨_,w,h4,_⟩)
 ·rcases (by omega:u < i∨u=i) with h6|rfl
  ·exact .inl ⟨h6,w,h4,h5⟩
  exact .inr ⟨rfl,w,h4,h5⟩
 omega
theorem z2r {n:Nat} {A B:Nat→Nat→Prop} {m:List Nat} (h:ThenI n A B n 0 m):RepI n m (zJS n A B):=by
 refine⟨h.len,h.small,fun u v hu hv=>?_⟩
 rw[h.rows u v hu hv]
 constructor
 ·rintro (⟨_,h4⟩ | ⟨_,w,h4,_⟩)
  ·exact h4
  omega
 intro h3;exact .inl ⟨hu,h3⟩
structure OrI (n:Nat) (A B:Nat→Nat→Prop) (i:Nat) (m:List Nat):Prop where
 len:m.length=n
 small:∀ u:Nat,(m[u]?.getD 0) < 2 ^ n
 rows:∀ u v:Nat,u < i→u < n→v < n→(bt m u v↔A u v∨B u v)
theorem z5z (n:Nat) (A B:Nat→Nat→Prop):OrI n A B 0 (List.replicate n 0):=
 ⟨List.length_replicate,fun u=>by rw[zGy];exact Nat.two_pow_pos n,fun u v h _ _=>absurd h oO⟩
theorem z5A {n:Nat} {A B:Nat→Nat→Prop} {i:Nat} {m ma mb:List Nat} (hi:i < n) (ha:RepI n ma A) (hb:RepI n mb B) (h:OrI n A B i m):OrI n A B (i+1) (m.set i ((ma[i]?.getD 0) ||| (mb[i]?.getD 0))):=by
 have hl:i < m.length:=by rw[h.len];exact hi
 refine⟨by rw[List.length_set];exact h.len,fun u=>?_,fun u v h1 hu hv=>?_⟩
 ·rw[zFO hl];split
  ·exact zKt (ha.small i) (hb.small i)
  exact h.small u
 unfold bt
 rw[zFO hl]
 split
 ·rename_i e
  subst e
  rw[z2p,show (ma[u]?.getD 0).testBit v=true↔_ from ha.rows u v hu hv,show (mb[u]?.getD 0).testBit v=true↔_ from hb.rows u v hu hv]
 exact h.rows u v oO hu hv
theorem z7S {n:Nat} {A B:Nat→Nat→Prop} {m:List Nat} (h:OrI n A B n m):RepI n m (fun u v=>A u v∨B u v):=
 ⟨h.len,h.small,fun u v hu hv=>h.rows u v hu hu hv⟩
structure PlusI (n:Nat) (R:Nat→Nat→Prop) (k i:Nat) (m:List Nat):Prop where
 len:m.length=n
 small:∀ u:Nat,(m[u]?.getD 0) < 2 ^ n
 rows:∀ u v:Nat,u < n→v < n→(bt m u v↔if u < i then zFW R (k+1) u v else zFW R k u v)
theorem zY1 {n:Nat} {R:Nat→Nat→Prop} {m:List Nat} (h:RepI n m R):PlusI n R 0 0 m:=
 ⟨h.len,h.small,fun u v hu hv=>by rw[h.rows u v hu hv,if_neg oO];rfl⟩
theorem zQV {n:Nat} {R:Nat→Nat→Prop} {k i:Nat} {m:List Nat} (h:PlusI n R k i m) (hk:k < n) (hi:i < n):bt m i k↔zFW R k i k:=by
 rw[h.rows i k hi hk,if_neg oO]
theorem z2s {n:Nat} {R:Nat→Nat→Prop} {k i:Nat} {m:List Nat} (h:PlusI n R k i m) (hk:k < n) (hi:i < n) (h2:bt m i k):PlusI n R k (i+1) (m.set i ((m[i]?.getD 0) ||| (m[k]?.getD 0))):=by
 have hl:i < m.length:=by rw[h.len];exact hi
 have h3:=(zQV h hk hi).1 h2
 refine⟨by rw[List.length_set];exact h.len,fun u=>?_,fun u v hu hv=>?_⟩
 ·rw[zFO hl];split
  ·exact zKt (h.small i) (h.small k)
  exact h.small u
 unfold bt
 rw[zFO hl]
 split
 ·rename_i e
  subst e
  have h4:bt m k v↔zFW R k k v:=by
   rw[h.rows k v hk hv];split
   ·exact zQP
   exact Iff.rfl
  rw[z2p,show (m[u]?.getD 0).testBit v=true↔_ from h.rows u v hu hv,show (m[k]?.getD 0).testBit v=true↔_ from h4,if_neg oO,if_pos oO]
  constructor
  ·rintro (h5 | h5)
   ·exact .inl h5
   exact .inr ⟨h3,h5⟩
  rintro (h5 | ⟨_,h5⟩)
  ·exact .inl h5
  exact .inr h5
 rename_i e
 rw[show (m[u]?.getD 0).testBit v=true↔_ from h.rows u v hu hv]
 by_cases h5:u < i
 ·rw[if_pos h5,if_pos oO]
 rw[if_neg h5,if_neg oO]
theorem zY2 {n:Nat} {R:Nat→Nat→Prop} {k i:Nat} {m:List Nat} (h:PlusI n R k i m) (hk:k < n) (hi:i < n) (h2:¬bt m i k):PlusI n R k (i+1) m:=by
 have h3:¬zFW R k i k:=fun e=>h2 ((zQV h hk hi).2 e)
 refine⟨h.len,h.small,fun u v hu hv=>?_⟩
 rw[h.rows u v hu hv]
 rcases Nat.lt_trichotomy u i with h5|rfl|h5
 ·rw[if_pos h5,if_pos oO]
 ·rw[if_neg oO,if_pos oO]
  exact⟨.inl,fun h6=>h6.elim id fun h6=>absurd h6.1 h3⟩
 rw[if_neg oO,if_neg oO]
theorem zY3 {n:Nat} {R:Nat→Nat→Prop} {k:Nat} {m:List Nat} (h:PlusI n R k n m):PlusI n R (k+1) 0 m:=
 ⟨h.len,h.small,fun u v hu hv=>by rw[h.rows u v hu hv,if_pos hu,if_neg oO]⟩
theorem z2t {n:Nat} {R:Nat→Nat→Prop} {m:List Nat} (h:PlusI n R n 0 m):RepI n m (TC n R):=
 ⟨h.len,h.small,fun u v hu hv=>by rw[h.rows u v hu hv,if_neg oO,z2l]⟩
structure StepI (n:Nat) (es:List Edge) (lb:UInt8) (i:Nat) (m:List Nat):Prop where
 len:m.length=n
 small:∀ u:Nat,(m[u]?.getD 0) < 2 ^ n
 rows:∀ u v:Nat,u < n→v < n→(bt m u v↔zEJ (es.take i) lb u v)
theorem zC9 {es:List Edge} {i:Nat} {e:Edge} (hi:i < es.length):e∈es.take (i+1)↔e∈es.take i∨e=(es[i]?.getD default):=by
 rw[←List.take_append_getElem hi,List.mem_append,List.mem_singleton,List.getElem?_eq_getElem hi];rfl
theorem zY4 (n:Nat) (es:List Edge) (lb:UInt8):StepI n es lb 0 (List.replicate n 0):=by
 refine⟨List.length_replicate,fun u=>by rw[zGy];exact Nat.two_pow_pos n,fun u v _ _=>?_⟩
 unfold bt
 rw[zGy,Nat.zero_testBit]
 exact⟨fun h=>(by cases h),fun ⟨e,h,_⟩=>by rw[List.take_zero] at h;cases h⟩
theorem z2u {n:Nat} {es:List Edge} {lb:UInt8} {i:Nat} {m:List Nat} (hE:z2k n es) (hi:i < es.length) (h:StepI n es lb i m) (h2:(es[i]?.getD default).label=lb) :
  StepI n es lb (i+1) (m.set (es[i]?.getD default).from'.toNat ((m[(es[i]?.getD default).from'.toNat]?.getD 0) ||| 2 ^ (es[i]?.getD default).to.toNat)):=by
 have hr:0≤(es[i]?.getD default).from'∧(es[i]?.getD default).from' < n∧0≤(es[i]?.getD default).to∧(es[i]?.getD default).to < n:=by
  rw[List.getElem?_eq_getElem hi];exact hE _ (List.getElem_mem hi)
 have hl:(es[i]?.getD default).from'.toNat < m.length:=by rw[h.len];omega
 refine⟨by rw[List.length_set];exact h.len,fun u=>?_,fun u v hu hv=>?_⟩
 ·rw[zFO hl];split
  ·exact zKt (h.small _) (Nat.pow_lt_pow_right oO oO)
  exact h.small u
 unfold bt
 rw[zFO hl]
 split
 ·rename_i e
  rw[z2p,←e,show (m[u]?.getD 0).testBit v=true↔_ from h.rows u v hu hv,Nat.testBit_two_pow,decide_eq_true_iff]
  constructor
  ·rintro (⟨x,h3,h4⟩ | h3)
   ·exact⟨x,(zC9 hi).2 (.inl h3),h4⟩
   exact⟨_,(zC9 hi).2 (.inr rfl),h2,oO,oO⟩
  rintro ⟨x,h3,h4,h5,h6⟩
  rcases (zC9 hi).1 h3 with h7|rfl
  ·exact .inl ⟨x,h7,h4,h5,h6⟩
  exact .inr oO
 rename_i e
 rw[show (m[u]?.getD 0).testBit v=true↔_ from h.rows u v hu hv]
 constructor
 ·rintro ⟨x,h3,h4⟩;exact⟨x,(zC9 hi).2 (.inl h3),h4⟩
 rintro ⟨x,h3,h4,h5,h6⟩
 rcases (zC9 hi).1 h3 with h7|rfl
 ·exact⟨x,h7,h4,h5,h6⟩
 exact absurd oO e
theorem zY5 {n:Nat} {es:List Edge} {lb:UInt8} {i:Nat} {m:List Nat} (hi:i < es.length) (h:StepI n es lb i m) (h2:¬(es[i]?.getD default).label=lb):StepI n es lb (i+1) m:=by
 refine⟨h.len,h.small,fun u v hu hv=>?_⟩
 rw[h.rows u v hu hv]
 constructor
 ·rintro ⟨x,h3,h4⟩;exact⟨x,(zC9 hi).2 (.inl h3),h4⟩
 rintro ⟨x,h3,h4,h5⟩
 rcases (zC9 hi).1 h3 with h7|rfl
 ·exact⟨x,h7,h4,h5⟩
 exact absurd h4 h2
theorem z2v {n:Nat} {es:List Edge} {lb:UInt8} {m:List Nat} (h:StepI n es lb es.length m):RepI n m (zEJ es lb):=
 ⟨h.len,h.small,fun u v hu hv=>by rw[h.rows u v hu hv,List.take_length]⟩
structure RepS (n:Nat) (m:List Bool) (R:Nat→Nat→Prop):Prop where
 len:m.length=n * n
 rows:∀ u v:Nat,u < n→v < n→(zLS m (u * n+v)↔R u v)
theorem z2w {n u v:Nat} (hu:u < n) (hv:v < n):u * n+v < n * n:=by
 have h1:(u+1) * n≤n * n:=Nat.mul_le_mul_right n hu
 rw[Nat.succ_mul] at h1
 omega
theorem zUc {n u v a b:Nat} (hv:v < n) (hb:b < n) (h:u * n+v=a * n+b):u=a∧v=b:=by
 have hn:0 < n:=by omega
 have h1:(v+n * u) / n=(b+n * a) / n:=by rw[Nat.add_comm v,Nat.mul_comm n u,h,Nat.add_comm _ b,Nat.mul_comm a n]
 rw[Nat.add_mul_div_left _ _ hn,Nat.add_mul_div_left _ _ hn,Nat.div_eq_of_lt hv,Nat.div_eq_of_lt hb] at h1
 have h2:u=a:=by omega
 subst h2
 exact⟨rfl,oO⟩
theorem zLX {l:List Bool} {i j:Nat} {b:Bool} (hi:i < l.length):zLS (l.set i b) j↔(j=i∧b=true)∨(j≠i∧zLS l j):=by
 unfold zLS
 rw[List.getElem?_set]
 split
 ·rename_i h;subst h;simp [hi]
 rename_i h;simp [Ne.symm h]
theorem zUd {n j:Nat}:¬zLS (List.replicate n false) j:=fun h=>by
 unfold zLS at h
 rw[List.getElem?_replicate] at h
 split at h<;>cases h
end
section
def eOk (n:Int) (e:Edge):Bool:=inR 0 (n-1) e.from' && (inR 0 (n-1) e.to && zBb e.label)
theorem zVS {g:Graph} {i:Nat}:zDs g i=true↔eOk g.size (g.edges[i]?.getD default)=true∧(i=0∨zCS (g.edges[i-1]?.getD default) (g.edges[i]?.getD default)=true):=by
 unfold zDs eOk;simp only[Bool.and_eq_true,Bool.or_eq_true,decide_eq_true_iff,and_assoc]
theorem zQW {g:Graph}:∀ {n:Nat},zHO g n=true↔∀ i,i < n→zDs g i=true
 | 0=>by unfold zHO;simp
 | n+1=>by
  unfold zHO;rw[Bool.and_eq_true,zQW]
  constructor
  ·rintro ⟨h1,h2⟩ i hi
   rcases Nat.lt_or_ge i n with h|h
   ·exact h1 i h
   rw[show i=n from oO];exact h2
  exact fun h=>⟨fun i hi=>h i oO,h n oO⟩
end
section
attribute [local irreducible] IntKind.wrap
attribute [local irreducible] zJP zAS zAj
theorem zSt {x:Query} (h:zAS x=true) {k:Nat} (hk:k < x.atoms.length):zCY (x.atoms[k]?.getD default)=true:=by
 by_cases hq:zNh x
 ·exact hq.2.1 k hk
 rw[zJQ hq] at h;cases h
end
section
attribute [local irreducible] IntKind.wrap
theorem zEa {g:Graph} (h:zAH g=true):(1≤g.size∧g.size≤12)∧g.edges.length≤40∧z2k g.size.toNat g.edges:=by
 unfold zAH at h
 rw[Bool.and_eq_true,Bool.and_eq_true,zAq,decide_eq_true_iff] at h
 refine⟨h.1,h.2.1,fun e he=>?_⟩
 obtain⟨i,hi,rfl⟩:=List.getElem_of_mem he
 have h1:=(zVS.1 (zQW.1 h.2.2 i hi)).1
 rw[List.getElem?_eq_getElem hi] at h1
 have h2:eOk g.size (g.edges[i]'hi)=true:=h1
 unfold eOk at h2
 simp only[Bool.and_eq_true,zAq] at h2
 omega
theorem zY6 {s:Nat} {t:Int} (hs:s < 4294967296) (ht:0≤t∧t < 32):IntKind.u32.wrap (((BitVec.ofInt IntKind.u32.bits (((s:Nat):Int).fdiv (2 ^ min (IntKind.u64.wrap t).toNat IntKind.u32.bits)) &&& BitVec.ofInt IntKind.u32.bits 1).toNat:Nat):Int)=if s.testBit t.toNat=true then 1 else 0:=by
 obtain⟨k,rfl⟩:∃ k:Nat,t=k:=⟨t.toNat,oO⟩
 rw[Int.toNat_natCast]
 exact zJu hs oO
theorem z3C {m:Nat} {t:Int} (hm:m < 4294967296) (ht:0≤t∧t < 24):IntKind.u32.wrap (((BitVec.ofInt IntKind.u32.bits ((m:Nat):Int) ||| BitVec.ofInt IntKind.u32.bits (IntKind.u32.wrap (1 * 2 ^ min (IntKind.u64.wrap t).toNat IntKind.u32.bits))).toNat:Nat):Int)=((m ||| 2 ^ t.toNat:Nat):Int):=by
 obtain⟨k,rfl⟩:∃ k:Nat,t=k:=⟨t.toNat,oO⟩
 have e1:(IntKind.u64.wrap (k:Int)).toNat=k:=by rw[zV2];omega
 have e2:(1:Int) * 2 ^ min k IntKind.u32.bits=((2 ^ k:Nat):Int):=by
  rw[show min k IntKind.u32.bits=k from Nat.min_eq_left (by show k≤32;omega),Int.one_mul];push_cast;rfl
 have h2:2 ^ k < 4294967296:=Nat.pow_lt_pow_right (a:=2) oO (show k < 32 from oO)
 have e3:IntKind.u32.wrap ((2 ^ k:Nat):Int)=((2 ^ k:Nat):Int):=by rw[zC5];generalize 2 ^ k=z at *;omega
 rw[e1,e2,Int.toNat_natCast,e3]
 exact zDu hm h2
theorem zO1 {n i:Nat} {es:List Edge} (hE:z2k n es) (hi:i < es.length):0≤(es[i]?.getD default).from'∧(es[i]?.getD default).from' < n∧0≤(es[i]?.getD default).to∧(es[i]?.getD default).to < n:=by
 rw[List.getElem?_eq_getElem hi]
 exact hE _ (List.getElem_mem hi)
theorem zY7 {a b:Nat} (ha:a < 4294967296) (hb:b < 4294967296):0≤IntKind.u32.wrap (((BitVec.ofInt IntKind.u32.bits ((a:Nat):Int) ||| BitVec.ofInt IntKind.u32.bits ((b:Nat):Int)).toNat:Nat):Int)∧IntKind.u32.wrap (((BitVec.ofInt IntKind.u32.bits ((a:Nat):Int) ||| BitVec.ofInt IntKind.u32.bits ((b:Nat):Int)).toNat:Nat):Int) < 4294967296:=by
 rw[zDu ha hb]
 have h9:=Nat.or_lt_two_pow (n:=32) ha hb
 omega
theorem zY8 {a b:Nat} (ha:a < 4294967296) (hb:b < 4294967296):(IntKind.u32.wrap (((BitVec.ofInt IntKind.u32.bits ((a:Nat):Int) ||| BitVec.ofInt IntKind.u32.bits ((b:Nat):Int)).toNat:Nat):Int)).toNat=a ||| b:=by
 rw[zDu ha hb,Int.toNat_natCast]
theorem zQX {T:TypeId} {s:Value} {at1:List Nat} {i y z:Nat} {A:Hp} (o:(gSl T gU).ow [s] (at1.set i y) A) (h:y=z):(gSl T gU).ow [s] (at1.set i z) A:=h ▸ o
end
section
attribute [local irreducible] IntKind.wrap
abbrev zZW:Gt (List Nat):=gSl 186 gU
theorem zO2 {n:Nat} {m:List Nat} {R:Nat→Nat→Prop} (h:RepI n m R) (hn:n≤12) (u:Nat):(m[u]?.getD 0) < 4294967296:=Nat.lt_of_lt_of_le (h.small u) (Nat.pow_le_pow_right (n:=2) oO (show n≤32 from oO))
theorem zG1 {n:Nat} {m:List Nat} (h:∀ u:Nat,(m[u]?.getD 0) < 2 ^ n) (hn:n≤12) (u:Nat):(m[u]?.getD 0) < 4294967296:=Nat.lt_of_lt_of_le (h u) (Nat.pow_le_pow_right (n:=2) oO (show n≤32 from oO))
theorem zY9 {k:Nat} (hk:k < 24):IntKind.u32.wrap (1 * 2 ^ min (IntKind.u64.wrap (k:Int)).toNat IntKind.u32.bits)=((2 ^ k:Nat):Int):=by
 have e1:(IntKind.u64.wrap (k:Int)).toNat=k:=by rw[zV2];omega
 have e2:(1:Int) * 2 ^ min k IntKind.u32.bits=((2 ^ k:Nat):Int):=by
  rw[show min k IntKind.u32.bits=k from Nat.min_eq_left (by show k≤32;omega),Int.one_mul];push_cast;rfl
 have h2:2 ^ k < 4294967296:=Nat.pow_lt_pow_right (a:=2) oO (show k < 32 from oO)
 rw[e1,e2,zC5]
 generalize 2 ^ k=z at *
 omega
theorem z5B {k:Nat} (hk:k < 24):0≤IntKind.u32.wrap (1 * 2 ^ min (IntKind.u64.wrap (k:Int)).toNat IntKind.u32.bits)∧IntKind.u32.wrap (1 * 2 ^ min (IntKind.u64.wrap (k:Int)).toNat IntKind.u32.bits) < 4294967296:=by
 rw[zY9 hk]
 have h2:2 ^ k < 4294967296:=Nat.pow_lt_pow_right (a:=2) oO (show k < 32 from oO)
 generalize 2 ^ k=z at *
 omega
theorem z5C {k:Nat} (hk:k < 24):(IntKind.u32.wrap (1 * 2 ^ min (IntKind.u64.wrap (k:Int)).toNat IntKind.u32.bits)).toNat=2 ^ k:=by rw[zY9 hk,Int.toNat_natCast]
theorem zHP (s:Int) (hs:1≤s∧s≤12) :
  Ct prog 198 [.int .i64 s] [] (fun _=>True) (fun v A=>∃ b c m,v = .slice b m.length c∧(gSl 186 gU).ow [.slice b m.length c] m A∧RepI s.toNat m (fun u v=>u=v)):=by
 refine Ct.intro0 zAh func198 rfl rfl rfl fun E H hp=>?_
 obtain⟨n,hn⟩:∃ n:Nat,s.toNat=n:=⟨_,rfl⟩
 rw[hn]
 refine VCmake.intro ?_ ?_ ?_ ?_ fun x0=>?_
 ·omega
 ·omega
 ·omega
 ·omega
 apply zAg (α:=(Nat)×(List Nat)×(Hp)) zAh [10,11,4,12,13,14,15,16,17,18,9] (fun z=>[(9,.v (.int .i64 z.1))]) (fun z=>[]) (fun z=>[z.2.2,H]) (fun z=>n-z.1) (fun z=>z.1≤n∧IdI n z.1 z.2.1∧(gSl 186 gU).ow [.slice (some ⟨x0,0,none⟩) s.toNat s.toNat] z.2.1 z.2.2) ((0,List.replicate s.toNat 0,_))
 ·exact frI
 ·exact trivial
 ·try dsimp only
  exact⟨Nat.zero_le _,hn ▸ z5x _,zEY (g:=gU) (T:=186) (z:=0) (zVk (x:=0) (by decide)) (Nat.le_refl _) oO⟩
 ·exact .refl _
 rintro ⟨i,m,W⟩ hI
 try dsimp only at hI
 obtain⟨hi,hI,oW⟩:=hI
 try dsimp only
 constructor<;>intro q1
 ·simp at q1
  have hml:=hI.len
  refine VC.intro ?_ ?_
  ·(rw[zV2];omega)
  refine zAf (Gt.owrd _ oW) ?_ ?_ fun b2 o2 hb2=>?_
  ·omega
  ·omega
  refine zBq (Fld.id _) default (i) 0 rfl rfl oW ?_ ?_ hb2 rfl zVl _ (zVm ?_) fun A3 o3=>?_
  ·omega
  ·omega
  ·exact z5B oO
  apply zAb (i+1,m.set i (2 ^ i),_)
  ·exact .refl _
  ·exact frI
  ·exact trivial
  ·try dsimp only
   exact⟨oO,z5y oO hI,zQX aA (z5C oO)⟩
  try dsimp only
  omega
 simp at q1
 (have hie:i=n:=oO;subst hie;have hal:s.toNat=m.length:=(by rw[hI.len];omega);rw[hal] at oW ⊢;exact⟨W,⟨_,_,m,rfl,oW,z7R hI⟩,rlB⟩)
theorem zZa {m:List Nat} {u v:Nat} (h:(m[u]?.getD 0).testBit v=true):bt m u v:=h
theorem z5D {m:List Nat} {u v:Nat} (h:(m[u]?.getD 0).testBit v=false):¬bt m u v:=fun h2=>by unfold bt at h2;rw[h] at h2;cases h2
theorem z5E (ba:Option Addr) (ma ca:Nat) (bb:Option Addr) (mb cb:Nat) (n:Nat) (xa xb:List Nat) (A B:Nat→Nat→Prop) (hn:1≤n∧n≤12) (ra:RepI n xa A) (rb:RepI n xb B) :
  Ct prog 199 [.slice ba ma ca,.slice bb mb cb] [] (fun H=>(gSl 186 gU).rd H [.slice ba ma ca] xa∧(gSl 186 gU).rd H [.slice bb mb cb] xb)
   (fun v D=>∃ b c m,v = .slice b m.length c∧(gSl 186 gU).ow [.slice b m.length c] m D∧RepI n m (zJS n A B)):=by
 refine Ct.intro0 zAh func199 rfl rfl rfl fun E H hp=>?_
 obtain⟨hp,hq⟩:=hp
 obtain⟨rfl,hca,hla⟩:=zAp hp
 obtain⟨rfl,hcb,hlb⟩:=zAp hq
 have hna:=ra.len
 have hnb:=rb.len
 refine VCmake.intro ?_ ?_ ?_ ?_ fun x0=>?_
 ·omega
 ·omega
 ·omega
 ·omega
 apply zAg (α:=(Nat)×(List Nat)×(Hp)) zAh [15,16,17,18,6,7,19,20,21,22,23,8,24,25,26,27,28,29,30,31,32,33,34,35,36,37,38,39,40,41,14] (fun z=>[(14,.v (.int .i64 z.1))]) (fun z=>[]) (fun z=>[z.2.2,H]) (fun z=>xa.length-z.1) (fun z=>z.1≤xa.length∧ThenI n A B z.1 0 z.2.1∧(gSl 186 gU).ow [.slice (some ⟨x0,0,none⟩) xa.length xa.length] z.2.1 z.2.2) ((0,List.replicate xa.length 0,_))
 ·exact frI
 ·exact trivial
 ·try dsimp only
  exact⟨Nat.zero_le _,hna ▸ zYY _ _ _,zEY (g:=gU) (T:=186) (z:=0) (zVk (x:=0) (by decide)) (Nat.le_refl _) oO⟩
 ·exact .refl _
 rintro ⟨i,m,W⟩ hI
 try dsimp only at hI
 obtain⟨hi,hI,oW⟩:=hI
 try dsimp only
 constructor<;>intro q1
 ·simp at q1
  refine zAf hp ?_ ?_ fun b2 o2 hb2=>?_
  ·omega
  ·omega
  refine zAd default (i) rfl hp ?_ ?_ hb2 rfl (zAa 1 rfl) fun l3 hl3=>?_
  ·omega
  ·omega
  obtain⟨rfl,hw3⟩:=hl3;simp only[flU] at hw3
  apply zAg (α:=(Nat)×(List Nat)×(Hp)) zAh [22,23,8,24,25,26,27,28,29,30,31,32,33,34,35,36,37,38,39,40,21] (fun z=>[(21,.v (.int .i64 z.1))]) (fun z=>[]) (fun z=>[z.2.2,H]) (fun z=>xb.length-z.1) (fun z=>z.1≤xb.length∧ThenI n A B i z.1 z.2.1∧(gSl 186 gU).ow [.slice (some ⟨x0,0,none⟩) xa.length xa.length] z.2.1 z.2.2) ((0,m,W))
  ·exact frI
  ·exact trivial
  ·try dsimp only
   exact⟨Nat.zero_le _,hI,oW⟩
  ·exact .refl _
  rintro ⟨j,m1,W⟩ hI
  try dsimp only at hI
  obtain⟨hj,hJ,oW1⟩:=hI
  try dsimp only
  constructor<;>intro q4
  ·simp at q4
   have hml:=hJ.len
   have hx1:(m1[i]?.getD default) < 4294967296:=zG1 hJ.small hn.2 i
   have hx2:(xb[j]?.getD default) < 4294967296:=zO2 rb hn.2 j
   have hxa:(xa[i]?.getD default) < 4294967296:=zO2 ra hn.2 i
   have hrw:=ra.rows i j oO oO
   refine VC.intro ?_ ?_
   ·(rw[zV2];omega)
   constructor<;>intro q5
   ·rw[zJu hxa oO] at q5
    simp at q5
    refine zBr zAh zAK (some 10) (.q 0 (.q 1 (.q 2 (.q 3 (.q 4 (.q 5 (.q 6 (.q 7 (.q 8 (.q 9 (.tl 10 (.nil)))))))))))) (by decide +kernel) ?_
    refine zAf (Gt.owrd _ oW1) ?_ ?_ fun b6 o6 hb6=>?_
    ·omega
    ·omega
    refine zAd default (i) rfl (Gt.owrd _ oW1) ?_ ?_ hb6 rfl (zAa 0 rfl) fun l7 hl7=>?_
    ·omega
    ·omega
    obtain⟨rfl,hw7⟩:=hl7;simp only[flU] at hw7
    refine zAf hq ?_ ?_ fun b8 o8 hb8=>?_
    ·omega
    ·omega
    refine zAd default (j) rfl hq ?_ ?_ hb8 rfl (zAa 1 rfl) fun l9 hl9=>?_
    ·omega
    ·omega
    obtain⟨rfl,hw9⟩:=hl9;simp only[flU] at hw9
    refine zAf (Gt.owrd _ oW1) ?_ ?_ fun b10 o10 hb10=>?_
    ·omega
    ·omega
    refine zBq (Fld.id _) default (i) 0 rfl rfl oW1 ?_ ?_ hb10 rfl zVl _ (zVm ?_) fun A11 o11=>?_
    ·omega
    ·omega
    ·exact zY7 hx1 hx2
    apply zAb (j+1,m1.set i ((m1[i]?.getD 0) ||| (xb[j]?.getD 0)),_)
    ·exact .refl _
    ·exact frI
    ·exact trivial
    ·try dsimp only
     exact⟨oO,z2q oO oO rb hJ (hrw.1 (zZa aA)),zQX aA (zY8 hx1 hx2)⟩
    try dsimp only
    omega
   rw[zJu hxa oO] at q5
   simp at q5
   apply zAb (j+1,m1,W)
   ·exact .refl _
   ·exact frI
   ·exact trivial
   ·try dsimp only
    exact⟨oO,zYZ hJ (mt hrw.2 (z5D aA)),oW1⟩
   try dsimp only
   omega
  simp at q4
  apply zAb (i+1,m1,W)
  ·exact .refl _
  ·exact frI
  ·exact trivial
  ·try dsimp only
   (have hje:j=n:=oO;rw[hje] at hJ;exact⟨oO,zY0 hJ,oW1⟩)
  try dsimp only
  omega
 simp at q1
 (have hie:i=n:=oO;have hal:xa.length=m.length:=(by rw[hI.len];omega);rw[hie] at hI;rw[hal] at oW ⊢;exact⟨W,⟨_,_,m,rfl,oW,z2r hI⟩,rlB⟩)
theorem z5F (ba:Option Addr) (ma ca:Nat) (bb:Option Addr) (mb cb:Nat) (n:Nat) (xa xb:List Nat) (A B:Nat→Nat→Prop) (hn:1≤n∧n≤12) (ra:RepI n xa A) (rb:RepI n xb B) :
  Ct prog 200 [.slice ba ma ca,.slice bb mb cb] [] (fun H=>(gSl 186 gU).rd H [.slice ba ma ca] xa∧(gSl 186 gU).rd H [.slice bb mb cb] xb)
   (fun v D=>∃ b c m,v = .slice b m.length c∧(gSl 186 gU).ow [.slice b m.length c] m D∧RepI n m (fun u v=>A u v∨B u v)):=by
 refine Ct.intro0 zAh func200 rfl rfl rfl fun E H hp=>?_
 obtain⟨hp,hq⟩:=hp
 obtain⟨rfl,hca,hla⟩:=zAp hp
 obtain⟨rfl,hcb,hlb⟩:=zAp hq
 have hna:=ra.len
 have hnb:=rb.len
 refine VCmake.intro ?_ ?_ ?_ ?_ fun x0=>?_
 ·omega
 ·omega
 ·omega
 ·omega
 apply zAg (α:=(Nat)×(List Nat)×(Hp)) zAh [13,14,6,15,16,17,18,19,20,21,22,23,24,25,26,27,12] (fun z=>[(12,.v (.int .i64 z.1))]) (fun z=>[]) (fun z=>[z.2.2,H]) (fun z=>xa.length-z.1) (fun z=>z.1≤xa.length∧OrI n A B z.1 z.2.1∧(gSl 186 gU).ow [.slice (some ⟨x0,0,none⟩) xa.length xa.length] z.2.1 z.2.2) ((0,List.replicate xa.length 0,_))
 ·exact frI
 ·exact trivial
 ·try dsimp only
  exact⟨Nat.zero_le _,hna ▸ z5z _ _ _,zEY (g:=gU) (T:=186) (z:=0) (zVk (x:=0) (by decide)) (Nat.le_refl _) oO⟩
 ·exact .refl _
 rintro ⟨i,m,W⟩ hI
 try dsimp only at hI
 obtain⟨hi,hI,oW⟩:=hI
 try dsimp only
 constructor<;>intro q1
 ·simp at q1
  have hml:=hI.len
  have hx1:=zO2 ra hn.2 i
  have hx2:=zO2 rb hn.2 i
  refine zBr zAh zAK (some 12) (.q 0 (.q 1 (.q 2 (.q 3 (.q 4 (.q 5 (.q 6 (.q 7 (.q 8 (.q 9 (.q 10 (.q 11 (.tl 12 (.nil)))))))))))))) (by decide +kernel) ?_
  refine zAf hp ?_ ?_ fun b2 o2 hb2=>?_
  ·omega
  ·omega
  refine zAd default (i) rfl hp ?_ ?_ hb2 rfl (zAa 1 rfl) fun l3 hl3=>?_
  ·omega
  ·omega
  obtain⟨rfl,hw3⟩:=hl3;simp only[flU] at hw3
  refine zAf hq ?_ ?_ fun b4 o4 hb4=>?_
  ·omega
  ·omega
  refine zAd default (i) rfl hq ?_ ?_ hb4 rfl (zAa 1 rfl) fun l5 hl5=>?_
  ·omega
  ·omega
  obtain⟨rfl,hw5⟩:=hl5;simp only[flU] at hw5
  refine zAf (Gt.owrd _ oW) ?_ ?_ fun b6 o6 hb6=>?_
  ·omega
  ·omega
  refine zBq (Fld.id _) default (i) 0 rfl rfl oW ?_ ?_ hb6 rfl zVl _ (zVm ?_) fun A7 o7=>?_
  ·omega
  ·omega
  ·exact zY7 hx1 hx2
  apply zAb (i+1,m.set i ((xa[i]?.getD 0) ||| (xb[i]?.getD 0)),_)
  ·exact .refl _
  ·exact frI
  ·exact trivial
  ·try dsimp only
   exact⟨oO,z5A oO ra rb hI,zQX aA (zY8 hx1 hx2)⟩
  try dsimp only
  omega
 simp at q1
 (have hie:i=xa.length:=oO;subst hie;have hal:xa.length=m.length:=(by rw[hI.len];omega);rw[hna] at hI;rw[hal] at oW ⊢;exact⟨W,⟨_,_,m,rfl,oW,z7S hI⟩,rlB⟩)
theorem zSu (b:Option Addr) (m c:Nat) (xs:List Nat) (hx:xs.length≤1048576) :
  Ct prog 218 [.slice b m c] [] (fun H=>(gSl 186 gU).rd H [.slice b m c] xs) (fun v A=>∃ b c,v = .slice b xs.length c∧(gSl 186 gU).ow [.slice b xs.length c] xs A):=by
 refine Ct.intro0 zAh func218 rfl rfl rfl fun E H hp=>?_
 obtain⟨rfl,hcl,hl⟩:=zAp hp
 constructor<;>intro q0
 ·simp at q0
  (obtain rfl:=zRP hp ‹_=none›;exact⟨[],⟨none,0,rfl,zAm _ _ _⟩,.mem sI⟩)
 simp at q0
 refine⟨fun x1=>?_⟩
 refine zAn (g:=gU) (T:=186) zAh 1 hp (zAm _ _ _) ?_ fun b2 c2 A2 o2=>?_
 ·simp;omega
 exact⟨_,⟨_,_,rfl,aA⟩,rlA⟩
theorem zZb (ba:Option Addr) (ma ca:Nat) (n:Nat) (xa:List Nat) (R:Nat→Nat→Prop) (hn:1≤n∧n≤12) (ra:RepI n xa R) :
  Ct prog 201 [.slice ba ma ca] [] (fun H=>(gSl 186 gU).rd H [.slice ba ma ca] xa)
   (fun v D=>∃ b c m,v = .slice b m.length c∧(gSl 186 gU).ow [.slice b m.length c] m D∧RepI n m (TC n R)):=by
 refine Ct.intro0 zAh func201 rfl rfl rfl fun E H hp=>?_
 obtain⟨rfl,hca,hla⟩:=zAp hp
 have hna:=ra.len
 refine zAi (zSu _ _ _ xa ?_) (Rp.mono _ (zAa 0 rfl) hp) ?_
 ·omega
 rintro v0 A0 o0
 obtain⟨bK,cK,rfl,oK⟩:=o0
 apply zAg (α:=(Nat)×(List Nat)×(Hp)) zAh [11,12,4,13,14,15,16,17,5,18,19,20,21,22,23,24,25,26,27,28,29,30,31,32,33,34,35,36,37,38,10] (fun z=>[(10,.v (.int .i64 z.1))]) (fun z=>[]) (fun z=>[z.2.2,H]) (fun z=>xa.length-z.1) (fun z=>z.1≤xa.length∧PlusI n R z.1 0 z.2.1∧(gSl 186 gU).ow [.slice bK xa.length cK] z.2.1 z.2.2) ((0,xa,_))
 ·exact frI
 ·exact trivial
 ·try dsimp only
  exact⟨Nat.zero_le _,zY1 ra,oK⟩
 ·exact .refl _
 rintro ⟨k,m,W⟩ hI
 try dsimp only at hI
 obtain⟨hk,hI,oW⟩:=hI
 try dsimp only
 constructor<;>intro q1
 ·simp at q1
  apply zAg (α:=(Nat)×(List Nat)×(Hp)) zAh [16,17,5,18,19,20,21,22,23,24,25,26,27,28,29,30,31,32,33,34,35,36,37,15] (fun z=>[(15,.v (.int .i64 z.1))]) (fun z=>[]) (fun z=>[z.2.2,H]) (fun z=>xa.length-z.1) (fun z=>z.1≤xa.length∧PlusI n R k z.1 z.2.1∧(gSl 186 gU).ow [.slice bK xa.length cK] z.2.1 z.2.2) ((0,m,W))
  ·exact frI
  ·exact trivial
  ·try dsimp only
   exact⟨Nat.zero_le _,hI,oW⟩
  ·exact .refl _
  rintro ⟨i,m1,W⟩ hI
  try dsimp only at hI
  obtain⟨hi,hJ,oW1⟩:=hI
  try dsimp only
  constructor<;>intro q2
  ·simp at q2
   have hml:=hJ.len
   have hx1:(m1[i]?.getD default) < 4294967296:=zG1 hJ.small hn.2 i
   have hx2:(m1[k]?.getD default) < 4294967296:=zG1 hJ.small hn.2 k
   refine zAf (Gt.owrd _ oW1) ?_ ?_ fun b3 o3 hb3=>?_
   ·omega
   ·omega
   refine zAd default (i) rfl (Gt.owrd _ oW1) ?_ ?_ hb3 rfl (zAa 0 rfl) fun l4 hl4=>?_
   ·omega
   ·omega
   obtain⟨rfl,hw4⟩:=hl4;simp only[flU] at hw4
   refine VC.intro ?_ ?_
   ·(rw[zV2];omega)
   constructor<;>intro q5
   ·rw[zJu hx1 oO] at q5
    simp at q5
    refine zBr zAh zAK (some 10) (.q 0 (.q 1 (.q 2 (.q 3 (.q 4 (.q 5 (.q 6 (.q 7 (.q 8 (.q 9 (.tl 10 (.nil)))))))))))) (by decide +kernel) ?_
    refine zAf (Gt.owrd _ oW1) ?_ ?_ fun b6 o6 hb6=>?_
    ·omega
    ·omega
    refine zAd default (i) rfl (Gt.owrd _ oW1) ?_ ?_ hb6 rfl (zAa 0 rfl) fun l7 hl7=>?_
    ·omega
    ·omega
    obtain⟨rfl,hw7⟩:=hl7;simp only[flU] at hw7
    refine zAf (Gt.owrd _ oW1) ?_ ?_ fun b8 o8 hb8=>?_
    ·omega
    ·omega
    refine zAd default (k) rfl (Gt.owrd _ oW1) ?_ ?_ hb8 rfl (zAa 0 rfl) fun l9 hl9=>?_
    ·omega
    ·omega
    obtain⟨rfl,hw9⟩:=hl9;simp only[flU] at hw9
    refine zAf (Gt.owrd _ oW1) ?_ ?_ fun b10 o10 hb10=>?_
    ·omega
    ·omega
    refine zBq (Fld.id _) default (i) 0 rfl rfl oW1 ?_ ?_ hb10 rfl zVl _ (zVm ?_) fun A11 o11=>?_
    ·omega
    ·omega
    ·exact zY7 hx1 hx2
    apply zAb (i+1,m1.set i ((m1[i]?.getD 0) ||| (m1[k]?.getD 0)),_)
    ·exact .refl _
    ·exact frI
    ·exact trivial
    ·try dsimp only
     exact⟨oO,z2s hJ oO oO (zZa aA),zQX aA (zY8 hx1 hx2)⟩
    try dsimp only
    omega
   rw[zJu hx1 oO] at q5
   simp at q5
   apply zAb (i+1,m1,W)
   ·exact .refl _
   ·exact frI
   ·exact trivial
   ·try dsimp only
    exact⟨oO,zY2 hJ oO oO (z5D aA),oW1⟩
   try dsimp only
   omega
  simp at q2
  apply zAb (k+1,m1,W)
  ·exact .refl _
  ·exact frI
  ·exact trivial
  ·try dsimp only
   (have hie:i=n:=oO;rw[hie] at hJ;exact⟨oO,zY3 hJ,oW1⟩)
  try dsimp only
  omega
 simp at q1
 (have hke:k=n:=oO;have hal:xa.length=m.length:=(by rw[hI.len];omega);rw[hke] at hI;rw[hal] at oW ⊢;exact⟨W,⟨_,_,m,rfl,oW,z2t hI⟩,rlB⟩)
end
section
attribute [local irreducible] IntKind.wrap
theorem zVT {m:Nat} {t:Int} (hm:m < 4294967296) (ht:0≤t∧t < 24):0≤IntKind.u32.wrap (((BitVec.ofInt IntKind.u32.bits ((m:Nat):Int) ||| BitVec.ofInt IntKind.u32.bits (IntKind.u32.wrap (1 * 2 ^ min (IntKind.u64.wrap t).toNat IntKind.u32.bits))).toNat:Nat):Int)∧IntKind.u32.wrap (((BitVec.ofInt IntKind.u32.bits ((m:Nat):Int) ||| BitVec.ofInt IntKind.u32.bits (IntKind.u32.wrap (1 * 2 ^ min (IntKind.u64.wrap t).toNat IntKind.u32.bits))).toNat:Nat):Int) < 4294967296:=by
 rw[z3C hm ht]
 have h2:2 ^ t.toNat < 2 ^ 32:=Nat.pow_lt_pow_right (a:=2) oO (show t.toNat < 32 from oO)
 have h9:=Nat.or_lt_two_pow (n:=32) (show m < 2 ^ 32 from hm) h2
 omega
theorem zVU {m:Nat} {t:Int} (hm:m < 4294967296) (ht:0≤t∧t < 24):(IntKind.u32.wrap (((BitVec.ofInt IntKind.u32.bits ((m:Nat):Int) ||| BitVec.ofInt IntKind.u32.bits (IntKind.u32.wrap (1 * 2 ^ min (IntKind.u64.wrap t).toNat IntKind.u32.bits))).toNat:Nat):Int)).toNat=m ||| 2 ^ t.toNat:=by rw[z3C hm ht,Int.toNat_natCast]
theorem zZc (q:Nat) (b:Option Addr) (cp:Nat) (g:Graph) (lb:UInt8) (hg:zAH g=true) :
  Ct prog 174 [.int .u8 (lb.toNat:Int),.pointer (some ⟨q,0,none⟩)] [] (fun H=>(q,Obj.cells ⟨[.int .i64 g.size,.slice b g.edges.length cp]⟩ 53)∈H∧(gSl 126 zCq).rd H [.slice b g.edges.length cp] g.edges)
   (fun v D=>∃ b c m,v = .slice b m.length c∧(gSl 186 gU).ow [.slice b m.length c] m D∧RepI g.size.toNat m (zEJ g.edges lb)):=by
 refine Ct.intro0 zAh func174 rfl rfl rfl fun E H hp=>?_
 obtain⟨hm,hp⟩:=hp
 obtain⟨hg1,hg2,hE⟩:=zEa hg
 obtain⟨n,hn⟩:∃ n:Nat,g.size.toNat=n:=⟨_,rfl⟩
 rw[hn] at hE ⊢
 refine zDq (l:=[.int .i64 g.size]) (zAa 0 rfl _ hm) sI rfl ?_
 refine VCmake.intro ?_ ?_ ?_ ?_ fun x0=>?_
 ·omega
 ·omega
 ·omega
 ·omega
 refine zDq (l:=[.slice b g.edges.length cp]) (zAa 1 rfl _ hm) sI rfl ?_
 apply zAg (α:=(Nat)×(List Nat)×(Hp)) zAh [14,15,16,6,17,18,19,20,21,22,23,24,25,26,27,28,29,30,31,32,13] (fun z=>[(13,.v (.int .i64 z.1))]) (fun z=>[]) (fun z=>[z.2.2,H]) (fun z=>g.edges.length-z.1) (fun z=>z.1≤g.edges.length∧StepI n g.edges lb z.1 z.2.1∧(gSl 186 gU).ow [.slice (some ⟨x0,0,none⟩) g.size.toNat g.size.toNat] z.2.1 z.2.2) ((0,List.replicate g.size.toNat 0,_))
 ·exact frI
 ·exact trivial
 ·try dsimp only
  exact⟨Nat.zero_le _,hn ▸ zY4 _ _ _,zEY (g:=gU) (T:=186) (z:=0) (zVk (x:=0) (by decide)) (Nat.le_refl _) oO⟩
 ·exact .refl _
 rintro ⟨i,m,W⟩ hI
 try dsimp only at hI
 obtain⟨hi,hI,oW⟩:=hI
 try dsimp only
 constructor<;>intro q1
 ·simp at q1
  have hre:=zO1 hE (i:=i) oO
  have hml:=hI.len
  have hx1:(m[(g.edges[i]?.getD default).from'.toNat]?.getD default) < 4294967296:=zG1 hI.small oO _
  refine zAf hp ?_ ?_ fun b2 o2 hb2=>?_
  ·omega
  ·omega
  refine zAd default (i) rfl hp ?_ ?_ hb2 rfl (zAa 1 rfl) fun l3 hl3=>?_
  ·omega
  ·omega
  obtain⟨rfl,w0x3,w2x3⟩:=zBB.1 hl3
  refine⟨fun x4=>?_⟩
  constructor<;>intro q5
  ·simp at q5
   simp only[zAR,zBn,zAZ] at q5
   refine zBr zAh zAK (some 11) (.q 0 (.q 1 (.q 2 (.q 3 (.q 4 (.q 5 (.q 6 (.q 7 (.q 8 (.q 9 (.q 10 (.tl 11 (.nil))))))))))))) (by decide +kernel) ?_
   refine zAf (Gt.owrd _ oW) ?_ ?_ fun b6 o6 hb6=>?_
   ·omega
   ·omega
   refine zAF default (Gt.owrd _ oW) ?_ ?_ hb6 rfl (zAa 0 rfl) fun l7 hl7=>?_
   ·omega
   ·omega
   obtain⟨rfl,hw7⟩:=hl7;simp only[flU] at hw7
   refine VC.intro ?_ ?_
   ·(rw[zV2];omega)
   refine zAf (Gt.owrd _ oW) ?_ ?_ fun b8 o8 hb8=>?_
   ·omega
   ·omega
   refine zBq (Fld.id _) default (Int.toNat ((g.edges[i]?.getD default).from')) 0 rfl (Int.toNat_of_nonneg ?_).symm oW ?_ ?_ hb8 rfl zVl _ (zVm ?_) fun A9 o9=>?_
   ·omega
   ·omega
   ·omega
   ·exact zVT hx1 oO
   apply zAb (i+1,m.set (g.edges[i]?.getD default).from'.toNat ((m[(g.edges[i]?.getD default).from'.toNat]?.getD 0) ||| 2 ^ (g.edges[i]?.getD default).to.toNat),_)
   ·exact .refl _
   ·exact frI
   ·exact trivial
   ·try dsimp only
    exact⟨oO,z2u hE oO hI aA,zQX aA (zVU hx1 oO)⟩
   try dsimp only
   omega
  simp at q5
  simp only[zAR,zBn,zAZ] at q5
  apply zAb (i+1,m,W)
  ·exact .refl _
  ·exact frI
  ·exact trivial
  ·try dsimp only
   exact⟨oO,zY5 oO hI aA,oW⟩
  try dsimp only
  omega
 simp at q1
 (have hie:i=g.edges.length:=oO;subst hie;have hal:g.size.toNat=m.length:=(by rw[hI.len];omega);rw[hal] at oW ⊢;exact⟨W,⟨_,_,m,rfl,oW,z2v hI⟩,rlB⟩)
end
section
attribute [local irreducible] IntKind.wrap zA2
structure AllI (n:Nat) (es:List Edge) (ps:List Piece) (i:Nat) (all:List (List Nat)):Prop where
 len:all.length=ps.length
 rel:∀ q:Nat,q < i→RepI n (all[q]?.getD []) (zA2 es n ps q)
theorem zUe {ps:List Piece} (h:zGg ps):zDt ps:=by
 intro i hi
 have h1:=h i hi
 unfold zBR at h1
 split at h1
 ·rename_i e
  rw[Bool.and_eq_true,decide_eq_true_iff] at h1
  have h2:(ps[i]?.getD default).kids=[]:=List.length_eq_zero_iff.1 h1.2
  exact⟨fun h3=>absurd e h3,fun k hk=>by rw[h2] at hk;cases hk⟩
 have key:∀ {ks:List Int},zBs ks i=true→∀ k∈ks,0≤k∧k.toNat < i:=by
  intro ks hk k hkm
  have:=zAq.1 (List.all_eq_true.1 hk k hkm)
  omega
 split at h1
 ·rw[Bool.and_eq_true,Bool.and_eq_true,decide_eq_true_iff] at h1
  exact⟨fun _=>by have:=of_decide_eq_true h1.2.1;omega,key h1.2.2⟩
 split at h1
 ·rw[Bool.and_eq_true,Bool.and_eq_true,decide_eq_true_iff] at h1
  exact⟨fun _=>by have:=of_decide_eq_true h1.2.1;omega,key h1.2.2⟩
 cases h1
theorem zND {x:Piece} {i:Nat} (h:zBR x i=true):x.op=1∨(2≤x.op∧x.op≤6):=by
 unfold zBR at h
 split at h
 ·exact .inl aA
 split at h
 ·omega
 split at h
 ·omega
 cases h
theorem RepI.congr {n:Nat} {m:List Nat} {R S:Nat→Nat→Prop} (h:RepI n m R) (e:∀ u v,R u v↔S u v):RepI n m S:=⟨h.len,h.small,fun u v hu hv=>(h.rows u v hu hv).trans (e u v)⟩
theorem zLY {all:List (List Nat)} {i:Nat} {m:List Nat} (hi:i < all.length) (q:Nat):((all.set i m)[q]?.getD [])=if q=i then m else (all[q]?.getD []):=by
 rw[List.getElem?_set]
 split
 ·rename_i h;subst h;simp [hi]
 rename_i h;rw[if_neg (Ne.symm h)]
theorem z2x (n:Nat) (es:List Edge) (ps:List Piece):AllI n es ps 0 (List.replicate (ps.length:Int).toNat []):=
 ⟨by rw[List.length_replicate];omega,fun q h=>absurd h oO⟩
theorem zKu {n:Nat} {es:List Edge} {ps:List Piece} {i:Nat} {all:List (List Nat)} {m:List Nat} (h:AllI n es ps i all) (hi:i < ps.length) (hm:RepI n m (zA2 es n ps i)):AllI n es ps (i+1) (all.set i m):=by
 have hl:i < all.length:=by rw[h.len];exact hi
 refine⟨by rw[List.length_set];exact h.len,fun q hq=>?_⟩
 rw[zLY hl]
 split
 ·rename_i e;subst e;exact hm
 exact h.rel q oO
structure RowI (n:Nat) (es:List Edge) (ps:List Piece) (i:Nat) (R:Nat→Nat→Prop) (al:List (List Nat)):Prop where
 len:al.length=ps.length
 old:∀ q:Nat,q < i→RepI n (al[q]?.getD []) (zA2 es n ps q)
 cur:RepI n (al[i]?.getD []) R
def z5G (es:List Edge) (n:Nat) (ps:List Piece) (ks:List Int):Nat→Nat→Prop:=ks.foldl (fun acc k=>zJS n acc (zA2 es n ps k.toNat)) (fun u v=>u=v)
def z6a (es:List Edge) (n:Nat) (ps:List Piece) (ks:List Int) (u v:Nat):Prop:=∃ k∈ks,zA2 es n ps k.toNat u v
theorem zLZ {es:List Edge} {n:Nat} {ps:List Piece} {ks:List Int} {j:Nat} (hj:j < ks.length):z5G es n ps (ks.take (j+1))=zJS n (z5G es n ps (ks.take j)) (zA2 es n ps (ks[j]?.getD 0).toNat):=by
 unfold z5G
 rw[←List.take_append_getElem hj,List.foldl_append,List.getElem?_eq_getElem hj];rfl
theorem zQY {es:List Edge} {n:Nat} {ps:List Piece} {ks:List Int} {j:Nat} (hj:j < ks.length) (u v:Nat):z6a es n ps (ks.take (j+1)) u v↔z6a es n ps (ks.take j) u v∨zA2 es n ps (ks[j]?.getD 0).toNat u v:=by
 unfold z6a
 rw[←List.take_append_getElem hj,List.getElem?_eq_getElem hj]
 simp only[List.mem_append,List.mem_singleton,Option.getD_some]
 constructor
 ·rintro ⟨k,h1 | rfl,h2⟩
  ·exact .inl ⟨k,h1,h2⟩
  exact .inr h2
 rintro (⟨k,h1,h2⟩ | h2)
 ·exact⟨k,.inl h1,h2⟩
 exact⟨_,.inr rfl,h2⟩
theorem zUf {n:Nat} {es:List Edge} {ps:List Piece} {i:Nat} {all:List (List Nat)} {m:List Nat} {R:Nat→Nat→Prop} (h:AllI n es ps i all) (hi:i < ps.length) (hm:RepI n m R):RowI n es ps i R (all.set i m):=by
 have hl:i < all.length:=by rw[h.len];exact hi
 refine⟨by rw[List.length_set];exact h.len,fun q hq=>?_,?_⟩
 ·rw[zLY hl,if_neg oO];exact h.rel q hq
 rw[zLY hl,if_pos rfl];exact hm
theorem zZd {n:Nat} {es:List Edge} {ps:List Piece} {i:Nat} {al:List (List Nat)} {m:List Nat} {R S:Nat→Nat→Prop} (h:RowI n es ps i R al) (hi:i < ps.length) (hm:RepI n m S):RowI n es ps i S (al.set i m):=by
 have hl:i < al.length:=by rw[h.len];exact hi
 refine⟨by rw[List.length_set];exact h.len,fun q hq=>?_,?_⟩
 ·rw[zLY hl,if_neg oO];exact h.old q hq
 rw[zLY hl,if_pos rfl];exact hm
theorem zZe {n:Nat} {es:List Edge} {ps:List Piece} {i:Nat} {al:List (List Nat)} {R:Nat→Nat→Prop} (h:RowI n es ps i R al) (e:R=zA2 es n ps i):AllI n es ps (i+1) al:=by
 refine⟨h.len,fun q hq=>?_⟩
 rcases (by omega:q < i∨q=i) with h1|rfl
 ·exact h.old q h1
 rw[←e];exact h.cur
theorem z7T:zZW.ow [.slice none 0 0] [] []:=zAm _ _ _
theorem z2y {n m:Nat} (h:m=n) (es:List Edge) (ps:List Piece) (ks:List Int):RepI n (List.replicate m 0) (z6a es n ps (ks.take 0)):=by
 subst h
 refine⟨List.length_replicate,fun u=>by rw[zGy];exact Nat.two_pow_pos m,fun u v _ _=>?_⟩
 unfold bt
 rw[zGy,Nat.zero_testBit]
 constructor
 ·intro h;cases h
 rintro ⟨k,hk,_⟩;rw[List.take_zero] at hk;cases hk
theorem z2z {ls:List (zC4 zZW.size)} {xs:List (List Nat)} {As:List Hp} (hL:OwL zZW ls xs As) (k:Nat) (hk:k < xs.length):∃ u w A,((ls.zip xs)[k]?.getD default).1.1=[.slice u (xs[k]?.getD []).length w]∧(gSl 186 gU).ow [.slice u (xs[k]?.getD []).length w] (xs[k]?.getD []) A∧As.flatten.Perm (A++(As.set k []).flatten):=by
 obtain⟨e1,e2⟩:=hL.len
 have hg:=hL.get k hk oO oO
 have hg0:=hg
 obtain⟨v,l1,A0,As1,ev,ho,hp,hl⟩:=hg0
 obtain⟨base,cap,e,_,_⟩:=ho.rd
 have e3:=hl.len.1
 have e4:(ls[k]'oO).1=[.slice base (xs[k]?.getD []).length cap]:=by
  rw[List.getElem?_eq_getElem hk,Option.getD_some,←e3,ev];exact e
 refine⟨base,cap,As[k],?_,?_,zFd As k oO⟩
 ·have h1:k < (ls.zip xs).length:=by rw[List.length_zip];omega
  rw[List.getElem?_eq_getElem h1,Option.getD_some,List.getElem_zip];exact e4
 rw[←e4,List.getElem?_eq_getElem hk];exact hg
open Classical in
theorem z2A {X W A0 Z A R H:Hp} (hp:W.Perm (A0++Z)) (hz:Z.Perm (A++R)):RLe [X,W,H] [A,H]:=.le fun a=>by
 have h1:=hp.count_eq a
 have h2:=hz.count_eq a
 simp only[List.flatten_cons,List.flatten_nil,List.append_nil,List.count_append] at h1 h2 ⊢
 omega
theorem zBX {α:Type} {l:List α} {j:Nat} {d:α} (h:j < l.length):(l[j]?.getD d)∈l:=by
 rw[List.getElem?_eq_getElem h];exact List.getElem_mem h
theorem zQZ (lp:List Value) (x:Path) (q:Nat) (b:Option Addr) (cp:Nat) (g:Graph) (hg:zAH g=true) (hx:zAV x=true) :
  Ct prog 173 [.agg ⟨lp⟩,.int .i64 g.size,.func (.func 174) ⟨[]⟩ ⟨[.pointer (some ⟨q,0,none⟩)]⟩] [] (fun H=>zH4.rd H lp x∧(q,Obj.cells ⟨[.int .i64 g.size,.slice b g.edges.length cp]⟩ 53)∈H∧(gSl 126 zCq).rd H [.slice b g.edges.length cp] g.edges)
   (fun v D=>∃ b c m,v = .slice b m.length c∧(gSl 186 gU).ow [.slice b m.length c] m D∧RepI g.size.toNat m (zA2 g.edges g.size.toNat x.pieces (x.pieces.length-1))):=by
 refine Ct.intro0 zAh func173 rfl rfl rfl fun E H hp=>?_
 obtain⟨hp,hm,hpe⟩:=hp
 obtain⟨hp1,hp2,hps⟩:=zA7 hx
 have hkb:=zUe hps
 obtain⟨hg1,hg2,hE⟩:=zEa hg
 obtain⟨n,hn⟩:∃ n:Nat,g.size.toNat=n:=⟨_,rfl⟩
 rw[hn] at hE ⊢
 obtain⟨b0p,c0p,rfl,h0p⟩:=zBM.1 hp
 refine⟨fun x0=>?_⟩
 refine VCmake.intro ?_ ?_ ?_ ?_ fun x1=>?_
 ·omega
 ·omega
 ·omega
 ·omega
 apply zAg (α:=(Nat)×(List (List Nat))×(Hp)) zAh [22,23,24,25,9,8,26,27,29,28,30,31,32,33,34,35,36,38,37,39,40,41,42,43,44,45,46,47,48,49,50,11,51,52,53,54,55,56,57,58,59,60,61,62,63,65,64,66,67,68,69,70,71,72,73,74,75,76,77,13,78,79,80,81,82,83,84,85,86,87,88,89,90,92,91,93,94,95,96,97,98,99,100,101,102,103,104,105,106,108,107,109,110,111,112,113,114,115,116,117,118,119,121,120,122,123,124,125,126,127,128,129,130,131,132,133,134,135,21] (fun z=>[(21,.v (.int .i64 z.1))]) (fun z=>[{ id:=x0,cs:=[Value.slice b0p x.pieces.length c0p],ty:=(153:Nat) }]) (fun z=>[z.2.2,H]) (fun z=>x.pieces.length-z.1) (fun z=>z.1≤x.pieces.length∧AllI n g.edges x.pieces z.1 z.2.1∧(gSl 184 zZW).ow [.slice (some ⟨x1,0,none⟩) (x.pieces.length:Int).toNat (x.pieces.length:Int).toNat] z.2.1 z.2.2) ((0,List.replicate (x.pieces.length:Int).toNat [],_))
 ·exact frI
 ·exact⟨rfl,trivial⟩
 ·try dsimp only
  exact⟨Nat.zero_le _,z2x _ _ _,zEY (g:=zZW) (T:=184) (z:=[]) (lz:=[.slice none 0 0]) z7T (Nat.le_refl _) oO⟩
 ·exact .refl _
 rintro ⟨i,all,W⟩ hI
 try dsimp only at hI
 obtain⟨hi,hA,oW⟩:=hI
 try dsimp only
 constructor<;>intro q2
 ·simp at q2
  have hpk:=zND (hps i oO)
  have hAl:=hA.len
  obtain⟨hkl,hkk⟩:=hkb i oO
  refine zAf h0p ?_ ?_ fun b3 o3 hb3=>?_
  ·omega
  ·omega
  refine zAd default (i) rfl h0p ?_ ?_ hb3 rfl (zAa 1 rfl) fun l4 hl4=>?_
  ·omega
  ·omega
  obtain⟨b2x4,c2x4,rfl,w0x4,h2x4⟩:=zCX.1 hl4
  refine⟨fun x5=>?_⟩
  constructor<;>intro q6
  ·simp at q6
   refine zAi (zZc q b cp g (x.pieces[i]?.getD default).label hg) ⟨zAa 1 rfl _ hm,Rp.mono _ (zAa 1 rfl) hpe⟩ ?_
   rintro v7 A7 o7
   obtain⟨bS,cS,mS,rfl,oS,hrS⟩:=o7
   rw[hn] at hrS
   refine zAf (Gt.owrd _ oW) ?_ ?_ fun b8 o8 hb8=>?_
   ·omega
   ·omega
   refine zCO (i) (W) (A7) [H] rlA rfl oW ?_ ?_ hb8 rfl _ oS fun A9 o9=>?_
   ·omega
   ·omega
   apply zAb (i+1,all.set i mS,_)
   ·exact .refl _
   ·exact frI
   ·exact⟨rfl,trivial⟩
   ·try dsimp only
    exact⟨oO,zKu hA oO (by rw[zNA aA];exact hrS),aA⟩
   try dsimp only
   omega
  simp at q6
  constructor<;>intro q10
  ·simp at q10
   obtain⟨_,hkc,hkn⟩:=zAp h2x4
   refine zAi (zHP g.size hg1) trivial ?_
   rintro v11 A11 o11
   obtain⟨bI,cI,mI,rfl,oI,hrI⟩:=o11
   rw[hn] at hrI
   refine zAf (Gt.owrd _ oW) ?_ ?_ fun b12 o12 hb12=>?_
   ·omega
   ·omega
   refine zCO (i) (W) (A11) [H] rlA rfl oW ?_ ?_ hb12 rfl _ oI fun A13 o13=>?_
   ·omega
   ·omega
   apply zAg (α:=(Nat)×(List (List Nat))×(Hp)) zAh [48,49,50,11,51,52,53,54,55,56,57,58,59,60,61,62,63,47] (fun z=>[(47,.v (.int .i64 z.1))]) (fun z=>[{ id:=x0,cs:=[Value.slice b0p x.pieces.length c0p],ty:=(153:Nat) },{ id:=x5,cs:=[Value.int IntKind.i64 (x.pieces[i]?.getD default).op,Value.int IntKind.u8 (↑(x.pieces[i]?.getD default).label.toNat:Int),Value.slice b2x4 (x.pieces[i]?.getD default).kids.length c2x4],ty:=(210:Nat) }]) (fun z=>[z.2.2,H]) (fun z=>(x.pieces[i]?.getD default).kids.length-z.1) (fun z=>z.1≤(x.pieces[i]?.getD default).kids.length∧RowI n g.edges x.pieces i (z5G g.edges n x.pieces ((x.pieces[i]?.getD default).kids.take z.1)) z.2.1∧(gSl 184 zZW).ow [.slice (some ⟨x1,0,none⟩) (x.pieces.length:Int).toNat (x.pieces.length:Int).toNat] z.2.1 z.2.2) ((0,all.set i mI,_))
   ·exact frI
   ·exact⟨rfl,rfl,trivial⟩
   ·try dsimp only
    exact⟨Nat.zero_le _,zUf hA oO hrI,aA⟩
   ·exact .refl _
   rintro ⟨j,al,W⟩ hI
   try dsimp only at hI
   obtain⟨hj,hJ,oW1⟩:=hI
   try dsimp only
   constructor<;>intro q14
   ·simp at q14
    have hJl:=hJ.len
    have hkj:=hkk ((x.pieces[i]?.getD default).kids[j]?.getD 0) (zBX oO)
    refine zAf h2x4 ?_ ?_ fun b15 o15 hb15=>?_
    ·omega
    ·omega
    refine zAd 0 (j) rfl h2x4 ?_ ?_ hb15 rfl (zAa 1 rfl) fun l16 hl16=>?_
    ·omega
    ·omega
    obtain⟨rfl,hw16⟩:=hl16;simp only[zAx,zAs,okI] at hw16
    refine zBr zAh zAK (some 12) (.q 0 (.q 1 (.q 2 (.q 3 (.q 4 (.q 5 (.q 6 (.q 7 (.q 8 (.q 9 (.f 10 (.q 11 (.tl 12 (.nil)))))))))))))) (by decide +kernel) ?_
    refine zAf (Gt.owrd _ oW1) ?_ ?_ fun b17 o17 hb17=>?_
    ·omega
    ·omega
    refine zAd [] (i) rfl (Gt.owrd _ oW1) ?_ ?_ hb17 rfl (zAa 0 rfl) fun l18 hl18=>?_
    ·omega
    ·omega
    obtain⟨u18,w18,rfl,hl18⟩:=zCD hl18
    refine zAf (Gt.owrd _ oW1) ?_ ?_ fun b19 o19 hb19=>?_
    ·omega
    ·omega
    refine zAF [] (Gt.owrd _ oW1) ?_ ?_ hb19 rfl (zAa 0 rfl) fun l20 hl20=>?_
    ·omega
    ·omega
    obtain⟨u20,w20,rfl,hl20⟩:=zCD hl20
    refine zAi (z5E _ _ _ _ _ _ n (al[i]?.getD []) (al[((x.pieces[i]?.getD default).kids[j]?.getD 0).toNat]?.getD []) (z5G g.edges n x.pieces ((x.pieces[i]?.getD default).kids.take j)) (zA2 g.edges n x.pieces ((x.pieces[i]?.getD default).kids[j]?.getD 0).toNat) oO hJ.cur (hJ.old _ hkj.2)) ⟨(Rp.mono _ (zAa 0 rfl) hl18),(Rp.mono _ (zAa 0 rfl) hl20)⟩ ?_
    rintro v21 A21 o21
    obtain⟨bT,cT,mT,rfl,oT,hrT⟩:=o21
    refine VC.intro ?_ ?_
    ·exact zAA
    refine zAf (Gt.owrd _ oW1) ?_ ?_ fun b22 o22 hb22=>?_
    ·omega
    ·omega
    refine zCO (i) (W) (A21) [H] rlA rfl oW1 ?_ ?_ hb22 rfl _ oT fun A23 o23=>?_
    ·omega
    ·omega
    apply zAb (j+1,al.set i mT,_)
    ·exact .refl _
    ·exact frI
    ·exact⟨rfl,rfl,trivial⟩
    ·try dsimp only
     exact⟨oO,zZd hJ oO (by rw[zLZ oO];exact hrT),aA⟩
    try dsimp only
    omega
   simp at q14
   apply zAb (i+1,al,W)
   ·exact .refl _
   ·exact frI
   ·exact⟨rfl,trivial⟩
   ·try dsimp only
    (have hje:j=(x.pieces[i]?.getD default).kids.length:=oO;subst hje;rw[List.take_length] at hJ;exact⟨oO,zZe hJ (by rw[zQN hkb oO aA];rfl),oW1⟩)
   try dsimp only
   omega
  simp at q10
  constructor<;>intro q24
  ·simp at q24
   obtain⟨_,hkc,hkn⟩:=zAp h2x4
   refine VCmake.intro ?_ ?_ ?_ ?_ fun x25=>?_
   ·omega
   ·omega
   ·omega
   ·omega
   have o25:=zEY (g:=gU) (T:=186) (z:=0) (lz:=[.int .u32 0]) (b:=x25) (k:=g.size.toNat) (c:=g.size.toNat) (zVk (x:=0) (by decide)) (Nat.le_refl _) oO
   refine zAf (Gt.owrd _ oW) ?_ ?_ fun b26 o26 hb26=>?_
   ·omega
   ·omega
   refine zCO (i) (W) ([(x25,Obj.cells { toList:=zAX g.size.toNat [Value.int IntKind.u32 (0:Int)] } 186)]) [H] rlA rfl oW ?_ ?_ hb26 rfl _ o25 fun A27 o27=>?_
   ·omega
   ·omega
   apply zAg (α:=(Nat)×(List (List Nat))×(Hp)) zAh [75,76,77,13,78,79,80,81,82,83,84,85,86,87,88,89,90,74] (fun z=>[(74,.v (.int .i64 z.1))]) (fun z=>[{ id:=x0,cs:=[Value.slice b0p x.pieces.length c0p],ty:=(153:Nat) },{ id:=x5,cs:=[Value.int IntKind.i64 (x.pieces[i]?.getD default).op,Value.int IntKind.u8 (↑(x.pieces[i]?.getD default).label.toNat:Int),Value.slice b2x4 (x.pieces[i]?.getD default).kids.length c2x4],ty:=(210:Nat) }]) (fun z=>[z.2.2,H]) (fun z=>(x.pieces[i]?.getD default).kids.length-z.1) (fun z=>z.1≤(x.pieces[i]?.getD default).kids.length∧RowI n g.edges x.pieces i (z6a g.edges n x.pieces ((x.pieces[i]?.getD default).kids.take z.1)) z.2.1∧(gSl 184 zZW).ow [.slice (some ⟨x1,0,none⟩) (x.pieces.length:Int).toNat (x.pieces.length:Int).toNat] z.2.1 z.2.2) ((0,all.set i (List.replicate g.size.toNat 0),_))
   ·exact frI
   ·exact⟨rfl,rfl,trivial⟩
   ·try dsimp only
    exact⟨Nat.zero_le _,zUf hA oO (z2y hn _ _ _),aA⟩
   ·exact .refl _
   rintro ⟨j,al,W⟩ hI
   try dsimp only at hI
   obtain⟨hj,hJ,oW2⟩:=hI
   try dsimp only
   constructor<;>intro q28
   ·simp at q28
    have hJl:=hJ.len
    have hkj:=hkk ((x.pieces[i]?.getD default).kids[j]?.getD 0) (zBX oO)
    have hr1:=hJ.cur
    have hr2:=hJ.old _ hkj.2
    refine zAf h2x4 ?_ ?_ fun b29 o29 hb29=>?_
    ·omega
    ·omega
    refine zAd 0 (j) rfl h2x4 ?_ ?_ hb29 rfl (zAa 1 rfl) fun l30 hl30=>?_
    ·omega
    ·omega
    obtain⟨rfl,hw30⟩:=hl30;simp only[zAx,zAs,okI] at hw30
    refine zBr zAh zAK (some 12) (.q 0 (.q 1 (.q 2 (.q 3 (.q 4 (.q 5 (.q 6 (.q 7 (.q 8 (.q 9 (.f 10 (.q 11 (.tl 12 (.nil)))))))))))))) (by decide +kernel) ?_
    refine zAf (Gt.owrd _ oW2) ?_ ?_ fun b31 o31 hb31=>?_
    ·omega
    ·omega
    refine zAd [] (i) rfl (Gt.owrd _ oW2) ?_ ?_ hb31 rfl (zAa 0 rfl) fun l32 hl32=>?_
    ·omega
    ·omega
    obtain⟨u32,w32,rfl,hl32⟩:=zCD hl32
    refine zAf (Gt.owrd _ oW2) ?_ ?_ fun b33 o33 hb33=>?_
    ·omega
    ·omega
    refine zAF [] (Gt.owrd _ oW2) ?_ ?_ hb33 rfl (zAa 0 rfl) fun l34 hl34=>?_
    ·omega
    ·omega
    obtain⟨u34,w34,rfl,hl34⟩:=zCD hl34
    refine zAi (z5F _ _ _ _ _ _ n ((al[i]?.getD [])) ((al[((x.pieces[i]?.getD default).kids[j]?.getD (0:Int)).toNat]?.getD [])) _ _ oO aA aA) ⟨(Rp.mono _ (zAa 0 rfl) hl32),(Rp.mono _ (zAa 0 rfl) hl34)⟩ ?_
    rintro v35 A35 o35
    obtain⟨bO,cO,mO,rfl,oOx,hrO⟩:=o35
    refine VC.intro ?_ ?_
    ·exact zAA
    refine zAf (Gt.owrd _ oW2) ?_ ?_ fun b36 o36 hb36=>?_
    ·omega
    ·omega
    refine zCO (i) (W) (A35) [H] rlA rfl oW2 ?_ ?_ hb36 rfl _ oOx fun A37 o37=>?_
    ·omega
    ·omega
    apply zAb (j+1,al.set i mO,_)
    ·exact .refl _
    ·exact frI
    ·exact⟨rfl,rfl,trivial⟩
    ·try dsimp only
     exact⟨oO,zZd hJ oO (hrO.congr fun u v=>(zQY oO u v).symm),aA⟩
    try dsimp only
    omega
   simp at q28
   apply zAb (i+1,al,W)
   ·exact .refl _
   ·exact frI
   ·exact⟨rfl,trivial⟩
   ·try dsimp only
    (have hje:j=(x.pieces[i]?.getD default).kids.length:=oO;subst hje;rw[List.take_length] at hJ;exact⟨oO,zZe hJ (by rw[zQO hkb oO aA];rfl),oW2⟩)
   try dsimp only
   omega
  simp at q24
  constructor<;>intro q38
  ·simp at q38
   refine zAf h2x4 ?_ ?_ fun b39 o39 hb39=>?_
   ·trivial
   ·omega
   refine zAd 0 (0) rfl h2x4 ?_ ?_ hb39 rfl (zAa 1 rfl) fun l40 hl40=>?_
   ·trivial
   ·omega
   obtain⟨rfl,hw40⟩:=hl40;simp only[zAx,zAs,okI] at hw40
   refine zAf (Gt.owrd _ oW) ?_ ?_ fun b41 o41 hb41=>?_
   ·exact (hkk _ (zBX (hkl oO))).1
   ·(have:=(hkk _ (zBX (d:=0) (hkl oO)));omega)
   refine zAF [] (Gt.owrd _ oW) ?_ ?_ hb41 rfl (zAa 0 rfl) fun l42 hl42=>?_
   ·exact (hkk _ (zBX (hkl oO))).1
   ·(have:=(hkk _ (zBX (d:=0) (hkl oO)));omega)
   obtain⟨u42,w42,rfl,hl42⟩:=zCD hl42
   refine zAi (zZb _ _ _ n (all[((x.pieces[i]?.getD default).kids[0]?.getD 0).toNat]?.getD []) (zA2 g.edges n x.pieces ((x.pieces[i]?.getD default).kids[0]?.getD 0).toNat) oO (hA.rel _ (hkk _ (zBX (hkl oO))).2)) (Rp.mono _ (zAa 0 rfl) hl42) ?_
   rintro v43 A43 o43
   obtain⟨bQ,cQ,mQ,rfl,oQ,hrQ⟩:=o43
   refine zAi (zHP g.size hg1) trivial ?_
   rintro v44 A44 o44
   obtain⟨bI,cI,mI,rfl,oI,hrI⟩:=o44
   rw[hn] at hrI
   refine zAi (z5F _ _ _ _ _ _ n ((mQ)) ((mI)) _ _ oO aA aA) ⟨(Rp.mono _ (zAa 1 rfl) (Gt.owrd _ oQ)),(Rp.mono _ (zAa 0 rfl) (Gt.owrd _ oI))⟩ ?_
   rintro v45 A45 o45
   obtain⟨bO,cO,mO,rfl,oOx,hrO⟩:=o45
   refine zAf (Gt.owrd _ oW) ?_ ?_ fun b46 o46 hb46=>?_
   ·omega
   ·omega
   refine zCO (i) (W) (A45) [A44,A43,H] rlA rfl oW ?_ ?_ hb46 rfl _ oOx fun A47 o47=>?_
   ·omega
   ·omega
   apply zAb (i+1,all.set i mO,_)
   ·exact .sub (by repeat (first|exact .slnil|apply List.Sublist.cons_cons|apply List.Sublist.cons))
   ·exact frI
   ·exact⟨rfl,trivial⟩
   ·try dsimp only
    exact⟨oO,zKu hA oO (hrO.congr fun u v=>by rw[zJg (i:=i) hkb oO aA];exact or_comm),aA⟩
   try dsimp only
   omega
  simp at q38
  constructor<;>intro q48
  ·simp at q48
   refine zAf h2x4 ?_ ?_ fun b49 o49 hb49=>?_
   ·trivial
   ·omega
   refine zAd 0 (0) rfl h2x4 ?_ ?_ hb49 rfl (zAa 1 rfl) fun l50 hl50=>?_
   ·trivial
   ·omega
   obtain⟨rfl,hw50⟩:=hl50;simp only[zAx,zAs,okI] at hw50
   refine zAf (Gt.owrd _ oW) ?_ ?_ fun b51 o51 hb51=>?_
   ·exact (hkk _ (zBX (hkl oO))).1
   ·(have:=(hkk _ (zBX (d:=0) (hkl oO)));omega)
   refine zAF [] (Gt.owrd _ oW) ?_ ?_ hb51 rfl (zAa 0 rfl) fun l52 hl52=>?_
   ·exact (hkk _ (zBX (hkl oO))).1
   ·(have:=(hkk _ (zBX (d:=0) (hkl oO)));omega)
   obtain⟨u52,w52,rfl,hl52⟩:=zCD hl52
   refine zAi (zZb _ _ _ n (all[((x.pieces[i]?.getD default).kids[0]?.getD 0).toNat]?.getD []) (zA2 g.edges n x.pieces ((x.pieces[i]?.getD default).kids[0]?.getD 0).toNat) oO (hA.rel _ (hkk _ (zBX (hkl oO))).2)) (Rp.mono _ (zAa 0 rfl) hl52) ?_
   rintro v53 A53 o53
   obtain⟨bQ,cQ,mQ,rfl,oQ,hrQ⟩:=o53
   refine zAf (Gt.owrd _ oW) ?_ ?_ fun b54 o54 hb54=>?_
   ·omega
   ·omega
   refine zCO (i) (W) (A53) [H] rlA rfl oW ?_ ?_ hb54 rfl _ oQ fun A55 o55=>?_
   ·omega
   ·omega
   apply zAb (i+1,all.set i mQ,_)
   ·exact .refl _
   ·exact frI
   ·exact⟨rfl,trivial⟩
   ·try dsimp only
    exact⟨oO,zKu hA oO (by rw[zNB hkb oO aA];exact hrQ),aA⟩
   try dsimp only
   omega
  simp at q48
  constructor<;>intro q56
  ·simp at q56
   have hr1:=hA.rel ((x.pieces[i]?.getD default).kids[0]?.getD 0).toNat (hkk _ (zBX (d:=0) (hkl oO))).2
   refine zBr zAh zAK (some 13) (.q 0 (.q 1 (.q 2 (.q 3 (.q 4 (.q 5 (.q 6 (.q 7 (.q 8 (.q 9 (.f 10 (.f 11 (.q 12 (.tl 13 (.nil))))))))))))))) (by decide +kernel) ?_
   refine zAf h2x4 ?_ ?_ fun b57 o57 hb57=>?_
   ·trivial
   ·omega
   refine zAd 0 (0) rfl h2x4 ?_ ?_ hb57 rfl (zAa 1 rfl) fun l58 hl58=>?_
   ·trivial
   ·omega
   obtain⟨rfl,hw58⟩:=hl58;simp only[zAx,zAs,okI] at hw58
   refine zAf (Gt.owrd _ oW) ?_ ?_ fun b59 o59 hb59=>?_
   ·grind
   ·grind
   refine zAF [] (Gt.owrd _ oW) ?_ ?_ hb59 rfl (zAa 0 rfl) fun l60 hl60=>?_
   ·grind
   ·grind
   obtain⟨u60,w60,rfl,hl60⟩:=zCD hl60
   refine zAi (zHP g.size hg1) trivial ?_
   rintro v61 A61 o61
   obtain⟨bI,cI,mI,rfl,oI,hrI⟩:=o61
   rw[hn] at hrI
   refine VC.intro ?_ ?_
   ·exact zAA
   refine zAi (z5F _ _ _ _ _ _ n ((all[((x.pieces[i]?.getD default).kids[(0:Nat)]?.getD (0:Int)).toNat]?.getD [])) ((mI)) _ _ oO aA aA) ⟨(Rp.mono _ (zAa 1 rfl) hl60),(Rp.mono _ (zAa 0 rfl) (Gt.owrd _ oI))⟩ ?_
   rintro v62 A62 o62
   obtain⟨bO,cO,mO,rfl,oOx,hrO⟩:=o62
   refine VC.intro ?_ ?_
   ·exact zAl sI sI
   refine zAf (Gt.owrd _ oW) ?_ ?_ fun b63 o63 hb63=>?_
   ·omega
   ·omega
   refine zCO (i) (W) (A62) [A61,H] rlA rfl oW ?_ ?_ hb63 rfl _ oOx fun A64 o64=>?_
   ·omega
   ·omega
   apply zAb (i+1,all.set i mO,_)
   ·exact .sub (by repeat (first|exact .slnil|apply List.Sublist.cons_cons|apply List.Sublist.cons))
   ·exact frI
   ·exact⟨rfl,trivial⟩
   ·try dsimp only
    exact⟨oO,zKu hA oO (hrO.congr fun u v=>by rw[zLT (i:=i) hkb oO aA];exact or_comm),aA⟩
   try dsimp only
   omega
  simp at q56
  exfalso;omega
 simp at q2
 have hiw:IntKind.i64.wrap (((x.pieces.length:Int).toNat:Int)-1)=(x.pieces.length:Int)-1:=by rw[zAc oO oO];omega
 have hix:(IntKind.i64.wrap (((x.pieces.length:Int).toNat:Int)-1)).toNat=x.pieces.length-1:=by omega
 have hAl:=hA.len
 obtain⟨v9,ls,A0,As,ev9,hoB,hpB,hLB⟩:=oW
 cases ev9
 have rz:=z3s hoB hpB hLB
 have hzl:(ls.zip all).length=x.pieces.length:=by rw[List.length_zip,hLB.len.1,hAl,Nat.min_self]
 obtain⟨ur,wr,Ar,hzi,hri,hfl⟩:=z2z hLB (x.pieces.length-1) oO
 refine zAf rz ?_ ?_ fun b65 o65 hb65=>?_
 ·(simp (disch:=omega) only[zAc];omega)
 ·(simp (disch:=omega) only[zAc];omega)
 refine zAF default rz ?_ ?_ hb65 rfl (zAa 0 rfl) fun l66 hl66=>?_
 ·(simp (disch:=omega) only[zAc];omega)
 ·(simp (disch:=omega) only[zAc];omega)
 (obtain⟨e66,_⟩:=hl66;rw[e66,hix,hzi])
 exact⟨_,⟨_,_,_,rfl,hri,hA.rel _ oO⟩,z2A hpB hfl⟩
end
section
attribute [local irreducible] IntKind.wrap zAj zAS zJP
theorem zVV (l:List Value) (q:Query) (i:Int):Ct prog 114 [.agg ⟨l⟩,.int .i64 i] [] (fun H=>zAL.rd H l q) (fun v A=>v = .bool (inR 0 ((q.atoms.length:Int)-1) i)∧A=[]):=by
 refine Ct.intro0 zAh func114 rfl rfl rfl fun E H hp=>?_
 obtain⟨b1p,c1p,b2p,c2p,b3p,c3p,rfl,h1p,h2p,h3p⟩:=zAy.1 hp
 refine⟨fun x0=>?_⟩
 constructor<;>intro q1
 ·simp at q1
  exact⟨[],⟨by unfold inR;rw[decide_eq_true (by omega:(0:Int)≤i),Bool.true_and];congr 1;rw[decide_eq_decide];omega,rfl⟩,.mem sI⟩
 simp at q1
 exact⟨[],⟨by unfold inR;rw[decide_eq_false (by omega:¬(0:Int)≤i),Bool.false_and],rfl⟩,.mem sI⟩
theorem zUg {x:Nat} {T:TypeId} {a b:Int} (ha:okI a) (hb:okI b):(gSl T gI).ow [.slice (some ⟨x,0,none⟩) 2 2] [a,b] [(x,Obj.cells ⟨[.int .i64 a,.int .i64 b]⟩ T)]:=by
 refine zN3 (f:=zAs) ⟨fun y hy=>?_,by simp,some ⟨x,0,none⟩,2,rfl,.inr ⟨x,[],rfl,rfl,Nat.le_refl _,Nat.zero_le _⟩⟩
 rcases List.mem_cons.1 hy with rfl|hy
 ·exact ha
 rw[List.mem_singleton.1 hy];exact hb
end
section
attribute [local irreducible] IntKind.wrap zA2
open Classical in
noncomputable def zD0 (n:Nat) (R:Nat→Nat→Prop) (u:Nat):List Int:=((List.range n).filter fun v=>decide (R u v)).map fun v=>((v:Nat):Int)
noncomputable def zD1 (n:Nat) (R:Nat→Nat→Prop):List (List Int):=(List.range n).flatMap fun u=>(zD0 n R u).map fun w=>[((u:Nat):Int),w]
def prT (L:Nat→List Int) (u k:Nat):List (List Int):=((List.range u).flatMap fun u=>(L u).map fun w=>[((u:Nat):Int),w])++((L u).take k).map fun w=>[((u:Nat):Int),w]
theorem zUh {L:Nat→List Int} {u k:Nat} (h:k < (L u).length):prT L u (k+1)=prT L u k++[[((u:Nat):Int),(L u)[k]?.getD 0]]:=by
 unfold prT
 rw[←List.take_append_getElem h,List.map_append,List.append_assoc,List.getElem?_eq_getElem h];rfl
theorem zUi {L:Nat→List Int} {u k:Nat} (h:k=(L u).length):prT L (u+1) 0=prT L u k:=by
 subst h
 unfold prT
 rw[List.take_length,List.take_zero,List.map_nil,List.append_nil,List.range_succ,List.flatMap_append]
 simp
theorem zZf {L:Nat→List Int} (n:Nat):prT L n 0=(List.range n).flatMap fun u=>(L u).map fun w=>[((u:Nat):Int),w]:=by
 unfold prT;rw[List.take_zero,List.map_nil,List.append_nil]
theorem zMA {α β:Type} {l:List α} {f g:α→List β} (h:∀ a∈l,f a=g a):l.flatMap f=l.flatMap g:=by
 induction l with
 | nil=>rfl
 | cons a l ih=>rw[List.flatMap_cons,List.flatMap_cons,h a List.mem_cons_self,ih fun b hb=>h b (List.mem_cons_of_mem _ hb)]
theorem zZg {s n:Nat} (h:s < 2 ^ n) (j:Nat):zBf s (n+j)=zBf s n:=by
 induction j with
 | zero=>rfl
 | succ j ih=>
  rw[←ih]
  exact zIc (Nat.testBit_lt_two_pow (Nat.lt_of_lt_of_le h (Nat.pow_le_pow_right oO (Nat.le_add_right _ _))))
open Classical in
theorem zZh {n:Nat} {m:List Nat} {R:Nat→Nat→Prop} (h:RepI n m R) (hn:n≤32) {u:Nat} (hu:u < n):zBf (m[u]?.getD 0) 32=zD0 n R u:=by
 have h1:=zZg (h.small u) (32-n)
 rw[show n+(32-n)=32 from oO] at h1
 rw[h1]
 unfold zBf zD0
 congr 1
 refine List.filter_congr fun v hv=>?_
 have h2:=h.rows u v hu (List.mem_range.1 hv)
 unfold bt at h2
 rw[Bool.eq_iff_iff,h2,decide_eq_true_iff]
theorem zZi {n:Nat} {m:List Nat} {R:Nat→Nat→Prop} (h:RepI n m R) (hn:n≤32):prT (fun u=>zBf (m[u]?.getD default) 32) n 0=zD1 n R:=by
 show prT (fun u=>zBf (m[u]?.getD 0) 32) n 0=_
 rw[zZf]
 unfold zD1
 exact zMA fun u hu=>by rw[zZh h hn (List.mem_range.1 hu)]
theorem z5H {s k:Nat}:0≤((zBf s 32)[k]?.getD 0)∧((zBf s 32)[k]?.getD 0) < 32:=by
 by_cases h:k < (zBf s 32).length
 ·rw[List.getElem?_eq_getElem h,Option.getD_some]
  have h1:=List.getElem_mem h
  unfold zBf at h1
  obtain⟨v,h2,h3⟩:=List.mem_map.1 h1
  have h4:=List.mem_range.1 (List.mem_filter.1 h2).1
  show 0≤(zBf s 32)[k]∧(zBf s 32)[k] < 32
  unfold zBf
  rw[←h3];omega
 rw[List.getElem?_eq_none oO];simp
theorem zNE (lg lp:List Value) (g:Graph) (x:Path) (hg:zAH g=true) (hx:zAV x=true) :
  Ct prog 135 [.agg ⟨lg⟩,.agg ⟨lp⟩] [] (fun H=>zBz.rd H lg g∧zH4.rd H lp x)
   (fun v D=>∃ b c m,v = .slice b m.length c∧(gSl 186 gU).ow [.slice b m.length c] m D∧RepI g.size.toNat m (zA2 g.edges g.size.toNat x.pieces (x.pieces.length-1))):=by
 refine Ct.intro0 zAh func135 rfl rfl rfl fun E H hp=>?_
 obtain⟨hp,hq⟩:=hp
 obtain⟨b1p,c1p,rfl,w0p,h1p⟩:=zAY.1 hp
 obtain⟨b0r,c0r,rfl,h0r⟩:=zBM.1 hq
 refine⟨fun x0=>?_⟩
 refine⟨fun x1=>?_⟩
 refine zAi (zQZ _ x x0 _ _ g hg hx) ⟨Rp.mono _ (zAa 0 rfl) hq,(by simp [St.hall,Blk.ent,zJJ]),Rp.mono _ (zAa 0 rfl) h1p⟩ ?_
 rintro v2 A2 o2
 obtain⟨bM,cM,mM,rfl,oM,hrM⟩:=o2
 exact⟨_,⟨_,_,_,rfl,oM,hrM⟩,rlB⟩
theorem zJT (lg lp:List Value) (g:Graph) (x:Path) (hg:zAH g=true) (hx:zAV x=true) :
  Ct prog 157 [.agg ⟨lg⟩,.agg ⟨lp⟩] [] (fun H=>zBz.rd H lg g∧zH4.rd H lp x)
   (fun v D=>∃ b c,v = .slice b (zD1 g.size.toNat (zA2 g.edges g.size.toNat x.pieces (x.pieces.length-1))).length c∧(gSl 27 (gSl 3 gI)).ow [.slice b (zD1 g.size.toNat (zA2 g.edges g.size.toNat x.pieces (x.pieces.length-1))).length c] (zD1 g.size.toNat (zA2 g.edges g.size.toNat x.pieces (x.pieces.length-1))) D):=by
 refine Ct.intro0 zAh func157 rfl rfl rfl fun E H hp=>?_
 obtain⟨hp,hq⟩:=hp
 obtain⟨hg1,hg2,hE⟩:=zEa hg
 obtain⟨n,hn⟩:∃ n:Nat,g.size.toNat=n:=⟨_,rfl⟩
 rw[hn]
 obtain⟨b1p,c1p,rfl,w0p,h1p⟩:=zAY.1 hp
 obtain⟨b0r,c0r,rfl,h0r⟩:=zBM.1 hq
 refine⟨fun x0=>?_⟩
 refine⟨fun x1=>?_⟩
 refine zAe (zDO _ (g)) (Rp.mono _ (zAa 0 rfl) hp) ?_
 rintro _ rfl
 constructor<;>intro q3
 ·simp at q3
  (rw[‹zAH g=false›] at hg;cases hg)
 simp at q3
 refine zAe (zFz _ (x)) (Rp.mono _ (zAa 0 rfl) hq) ?_
 rintro _ rfl
 constructor<;>intro q5
 ·simp at q5
  (rw[‹zAV x=false›] at hx;cases hx)
 simp at q5
 refine zAi (zNE _ _ g x hg hx) ⟨(Rp.mono _ (zAa 0 rfl) hp),(Rp.mono _ (zAa 0 rfl) hq)⟩ ?_
 rintro v6 A6 o6
 obtain⟨bM,cM,m,rfl,oM,hrM⟩:=o6
 rw[hn] at hrM
 have hml:=hrM.len
 have hlt:∀ u:Nat,m[u]?.getD 0 < 4294967296:=zG1 hrM.small oO
 apply zAg (α:=(Nat)×(List (List Int))×(Hp)×(Option Addr)×(Nat)) zAh [23,24,25,26,6,7,27,28,29,30,31,32,33,9,34,35,36,37,38,39,5,40,41,22] (fun z=>[(22,.v (.int .i64 z.1)),(5,.v (.slice z.2.2.2.1 z.2.1.length z.2.2.2.2))]) (fun z=>[{ id:=x0,cs:=[Value.int IntKind.i64 g.size,Value.slice b1p g.edges.length c1p],ty:=(53:Nat) },{ id:=x1,cs:=[Value.slice b0r x.pieces.length c0r],ty:=(153:Nat) }]) (fun z=>[z.2.2.1,A6,H]) (fun z=>m.length-z.1) (fun z=>z.1≤m.length∧z.2.1=prT (fun u=>zBf (m[u]?.getD default) 32) z.1 0∧z.2.1.length≤32 * z.1∧(gSl 27 (gSl 3 gI)).ow [.slice z.2.2.2.1 z.2.1.length z.2.2.2.2] z.2.1 z.2.2.1) ((0,[],[],none,0))
 ·exact frI
 ·exact⟨rfl,rfl,trivial⟩
 ·try dsimp only
  exact⟨Nat.zero_le _,rfl,by simp,zAm _ _ _⟩
 ·exact .refl _
 rintro ⟨u,ps,D,lb,lc⟩ hI
 try dsimp only at hI
 obtain⟨hu,hps,hpl,oD⟩:=hI
 try dsimp only
 constructor<;>intro q7
 ·simp at q7
  refine zAf (Gt.owrd _ oM) ?_ ?_ fun b8 o8 hb8=>?_
  ·omega
  ·omega
  refine zAd default (u) rfl (Gt.owrd _ oM) ?_ ?_ hb8 rfl (zAa 1 rfl) fun l9 hl9=>?_
  ·omega
  ·omega
  obtain⟨rfl,hw9⟩:=hl9;simp only[flU] at hw9
  refine zAi (zLb _ ?_) trivial ?_
  ·trivial
  rintro v10 A10 o10
  obtain⟨b10,c10,rfl,o10⟩:=o10
  apply zAg (α:=(Nat)×(List (List Int))×(Hp)×(Option Addr)×(Nat)) zAh [31,32,33,9,34,35,36,37,38,39,5,40,30] (fun z=>[(30,.v (.int .i64 z.1)),(5,.v (.slice z.2.2.2.1 z.2.1.length z.2.2.2.2))]) (fun z=>[{ id:=x0,cs:=[Value.int IntKind.i64 g.size,Value.slice b1p g.edges.length c1p],ty:=(53:Nat) },{ id:=x1,cs:=[Value.slice b0r x.pieces.length c0r],ty:=(153:Nat) }]) (fun z=>[z.2.2.1,A10,A6,H]) (fun z=>(zBf (m[u]?.getD default) 32).length-z.1) (fun z=>z.1≤(zBf (m[u]?.getD default) 32).length∧z.2.1=prT (fun u=>zBf (m[u]?.getD default) 32) u z.1∧z.2.1.length≤32 * u+z.1∧(gSl 27 (gSl 3 gI)).ow [.slice z.2.2.2.1 z.2.1.length z.2.2.2.2] z.2.1 z.2.2.1) ((0,ps,D,lb,lc))
  ·exact frI
  ·exact⟨rfl,rfl,trivial⟩
  ·try dsimp only
   exact⟨Nat.zero_le _,hps,oO,oD⟩
  ·exact rlA
  rintro ⟨k,ps1,D1,lb1,lc1⟩ hI
  try dsimp only at hI
  obtain⟨hk,hps1,hpl1,oD1⟩:=hI
  try dsimp only
  constructor<;>intro q11
  ·simp at q11
   have hbl:=zFj (m[u]?.getD default) 32
   have hbd:(zBf (m[u]?.getD default) 32).length=(zBf (m[u]?.getD 0) 32).length:=rfl
   refine zAf (Gt.owrd _ o10) ?_ ?_ fun b12 o12 hb12=>?_
   ·omega
   ·omega
   refine zAd 0 (k) rfl (Gt.owrd _ o10) ?_ ?_ hb12 rfl (zAa 1 rfl) fun l13 hl13=>?_
   ·omega
   ·omega
   obtain⟨rfl,hw13⟩:=hl13;simp only[zAx,zAs,okI] at hw13
   refine⟨fun x14=>?_⟩
   refine⟨fun x15=>?_⟩
   refine zAC (g:=(gSl 3 gI)) (T:=27) zAh D1 _ [A10,A6,H] ?_ oD1 ((zUg (a:=((u:Nat):Int)) (b:=((zBf (m[u]?.getD default) 32)[k]?.getD 0)) (by unfold okI;omega) (by have:=z5H (s:=m[u]?.getD default) (k:=k);unfold okI;omega))) (List.mem_of_getElem? (i:=0) rfl) rfl rfl rfl rfl rfl rfl rfl rfl ?_ fun b16 c16 A16 o16=>?_
   ·exact .le fun a=>by simp [List.count_cons,List.count_append,Blk.ent,St.hall,zNZ,zAX,List.append];omega
   ·omega
   apply zAb (k+1,_,_,_,_)
   ·exact .refl _
   ·exact frI
   ·exact⟨rfl,rfl,trivial⟩
   ·try dsimp only
    exact⟨oO,by rw[zUh oO,←hps1],by rw[List.length_append,List.length_singleton];omega,aA⟩
   try dsimp only
   omega
  simp at q11
  have hbl:=zFj (m[u]?.getD default) 32
  have hbd:(zBf (m[u]?.getD default) 32).length=(zBf (m[u]?.getD 0) 32).length:=rfl
  apply zAb (u+1,_,_,_,_)
  ·exact .sub (by repeat (first|exact .slnil|apply List.Sublist.cons_cons|apply List.Sublist.cons))
  ·exact frI
  ·exact⟨rfl,rfl,trivial⟩
  ·try dsimp only
   exact⟨oO,by rw[zUi (k:=k) oO];exact hps1,oO,oD1⟩
  try dsimp only
  omega
 simp at q7
 (have hue:u=n:=oO;subst hue;rw[zZi hrM oO] at hps;subst hps;exact⟨_,⟨_,_,rfl,oD⟩,rlB⟩)
end
section
attribute [local irreducible] IntKind.wrap zA2
theorem zL0 (n:Nat) (R:Nat→Nat→Prop) (u:Nat):(zD0 n R u).length≤n:=by
 unfold zD0;rw[List.length_map];exact Nat.le_trans (List.length_filter_le _ _) sI
theorem zUj {k:Nat} (f:Nat→List (List Int)) (h:∀ u,(f u).length≤k):∀ m:Nat,((List.range m).flatMap f).length≤k * m
 | 0=>by simp
 | m+1=>by
  have h1:=zUj f h m
  have h2:=h m
  rw[List.range_succ,List.flatMap_append,List.length_append,Nat.mul_add]
  simp only[List.flatMap_cons,List.flatMap_nil,List.append_nil]
  omega
theorem zVW {n:Nat} (hn:n≤12) (R:Nat→Nat→Prop):(zD1 n R).length≤144:=by
 have h1:=zUj (k:=n) (fun u=>(zD0 n R u).map fun w=>[((u:Nat):Int),w]) (fun u=>by rw[List.length_map];exact zL0 n R u) n
 have h2:n * n≤12 * 12:=Nat.mul_le_mul hn hn
 unfold zD1
 omega
theorem z3D {x:Query} (h:zAS x=true) {k:Nat} (hk:k < x.atoms.length):zAV (zBd (x.atoms[k]?.getD default).path)=true:=by
 have h1:=zSt h hk
 unfold zCY at h1
 rw[Bool.and_eq_true,Bool.and_eq_true] at h1
 have h2:=h1.2.2
 unfold tnR at h2
 split at h2
 ·unfold zKf at h2
  split at h2
  ·rename_i h3;exact h3.1
  cases h2
 cases h2
end
section
def zSv (a:Atom) (p:List Int):Item:=⟨zBD a p,1⟩
noncomputable def zEk (a:Atom) (ps:List (List Int)) (k:Nat):List Item:=zBh [] (((ps.take k).filter (zEV a)).map (zSv a))
def zNF (n:Int) (ps:List (List Int)):Prop:=ps.length≤144∧∀ p∈ps,∃ u v:Int,p=[u,v]∧(0≤u∧u < n)∧(0≤v∧v < n)
theorem zO3 {n:Int} (hn:1≤n∧n≤12) (R:Nat→Nat→Prop):zNF n (zD1 n.toNat R):=by
 refine⟨zVW oO R,fun p hp=>?_⟩
 obtain⟨u,hu,h2⟩:=List.mem_flatMap.1 hp
 obtain⟨w,hw,rfl⟩:=List.mem_map.1 h2
 obtain⟨v,hv,rfl⟩:=List.mem_map.1 hw
 have h3:=List.mem_range.1 hu
 have h4:=List.mem_range.1 (List.mem_filter.1 hv).1
 exact⟨_,_,rfl,oO,oO⟩
theorem zUk {n:Int} (hn:n≤12) {a:Atom} {p:List Int} (h:∃ u v:Int,p=[u,v]∧(0≤u∧u < n)∧(0≤v∧v < n)):pOk (zBg a).length (zSv a p):=by
 obtain⟨u,v,rfl,hu,hv⟩:=h
 refine⟨⟨Int.le_refl _,by show (1:Int)≤1000000;decide⟩,?_⟩
 show zDo (zBD a [u,v])=true∧(zBD a [u,v]).length=_
 unfold zBD zBg
 split
 ·exact⟨zLE sI fun x hx=>by simp at hx;omega,rfl⟩
 exact⟨zLE sI fun x hx=>by simp at hx;omega,rfl⟩
theorem zUl {n:Int} (hn:n≤12) {a:Atom} {ps:List (List Int)} (hp:zNF n ps) (k:Nat):∀ q∈((ps.take k).filter (zEV a)).map (zSv a),pOk (zBg a).length q:=fun q hq=>by
 obtain⟨p,h1,rfl⟩:=List.mem_map.1 hq
 exact zUk hn (hp.2 p (List.mem_of_mem_take (List.mem_filter.1 h1).1))
theorem zL1 {n:Int} (hn:n≤12) {a:Atom} {ps:List (List Int)} (hp:zNF n ps) (k:Nat):BW (zBg a).length (zEk a ps k)∧(zEk a ps k).length≤144:=by
 have h1:=zEG (ps:=((ps.take k).filter (zEV a)).map (zSv a)) zGR fun q hq=>(zUl hn hp k q hq).1
 have h3:([]:List Item).length=0:=rfl
 have h4:(((ps.take k).filter (zEV a)).map (zSv a)).length≤ps.length:=by
  rw[List.length_map];exact Nat.le_trans (List.length_filter_le _ _) (List.length_take_le' ..)
 have h5:=hp.1
 refine⟨zGU (zNp _) (zUl hn hp k),?_⟩
 unfold zEk;omega
theorem zUm {a:Atom} {ps:List (List Int)} {k:Nat} (hk:k < ps.length) (h:zEV a (ps[k]?.getD [])=true):zEk a ps (k+1)=zNo (zEk a ps k) (zSv a (ps[k]?.getD [])):=by
 unfold zEk
 rw[zGq [] hk h,List.map_append,List.map_singleton,zEp]
theorem zZj {a:Atom} {ps:List (List Int)} {k:Nat} (hk:k < ps.length) (h:zEV a (ps[k]?.getD [])=false):zEk a ps (k+1)=zEk a ps k:=by
 unfold zEk
 rw[zKm [] hk h]
theorem zZk {n:Int} (hn:n≤12) {a:Atom} {ps:List (List Int)} (hp:zNF n ps) {k kp:Nat} (hk:k < ps.length) (h:zEV a (ps[k]?.getD [])=true) {r:List Int} (er:r=zBD a (ps[k]?.getD []))
  (hat:zDo r=true∧(0 < (zEk a ps k).length→(zBE (zEk a ps k) 0).length=r.length)→atR (zEk a ps k) r kp):zEE (zEk a ps k) r 1 kp=(zEk a ps (k+1),true):=by
 have hbw:=zL1 hn hp (a:=a) k
 have hb2:=zL1 hn hp (a:=a) (k+1)
 have hq:pOk (zBg a).length (zSv a (ps[k]?.getD [])):=zUk hn (hp.2 _ (by rw[List.getElem?_eq_getElem hk];exact List.getElem_mem hk))
 subst er
 have hw:zDo (zBD a (ps[k]?.getD []))=true∧(0 < (zEk a ps k).length→(zBE (zEk a ps k) 0).length=(zBD a (ps[k]?.getD [])).length):=
  ⟨hq.2.1,fun h0=>by rw[(hbw.1.rows _ (zBU.2 ⟨0,h0,rfl⟩)).2];exact hq.2.2.symm⟩
 have h2:=zIu hbw.1 oO hq (k:=kp) (hat hw)
 rw[←zUm hk h,if_pos oO] at h2
 exact h2
noncomputable def zJU (g:Graph) (a:Atom):Table:=⟨zBg a,⟨zEk a (zD1 g.size.toNat (zA2 g.edges g.size.toNat (zBd a.path).pieces ((zBd a.path).pieces.length-1))) (zD1 g.size.toNat (zA2 g.edges g.size.toNat (zBd a.path).pieces ((zBd a.path).pieces.length-1))).length⟩⟩
noncomputable def zHQ (g:Graph) (a:Atom):Table×Bool:=if zAH g=true∧zCY a=true then (zJU g a,true) else (⟨[],⟨[]⟩⟩,false)
theorem zQ0 {g:Graph} {a:Atom} (h:zAH g=false):zHQ g a=(⟨[],⟨[]⟩⟩,false):=if_neg fun e=>by rw[h] at e;cases e.1
theorem zQ1 {g:Graph} {a:Atom} (h:zCY a=false):zHQ g a=(⟨[],⟨[]⟩⟩,false):=if_neg fun e=>by rw[h] at e;cases e.2
theorem zL2 {g:Graph} {a:Atom} (h1:zAH g=true) (h2:zCY a=true):zHQ g a=(zJU g a,true):=if_pos ⟨h1,h2⟩
theorem z2B {a:Atom} (h:zCY a=true):zB9 (zBg a)=true:=by
 unfold zCY at h
 rw[Bool.and_eq_true,Bool.and_eq_true] at h
 obtain⟨h1,h2,_⟩:=h
 unfold zBg
 split
 ·exact zOQ sI (zFo.2 sI) fun s hs=>by rw[List.mem_singleton.1 hs];exact h1
 rename_i hne
 exact zOQ sI (zFo.2 (by simpa using hne)) fun s hs=>by
  rcases List.mem_cons.1 hs with rfl|hs
  ·exact h1
  rw[List.mem_singleton.1 hs];exact h2
theorem zO4 {g:Graph} (hg:1≤g.size∧g.size≤12) {a:Atom} (h:zCY a=true):zAv (zJU g a)=true:=by
 have h1:=zL1 hg.2 (zO3 hg (zA2 g.edges g.size.toNat (zBd a.path).pieces ((zBd a.path).pieces.length-1))) (a:=a) (zD1 g.size.toNat (zA2 g.edges g.size.toNat (zBd a.path).pieces ((zBd a.path).pieces.length-1))).length
 exact zAJ.2 ⟨z2B h,Nat.le_trans h1.2 (by decide),h1.1⟩
def zSw (x:Query) (s:List Int) (a:Atom) (c:Int) (p:Item):Bool:=z8m x s a c p.row
noncomputable def zZl (g:Graph) (x:Query) (s:List Int) (i:Nat) (c:Int):Table:=⟨zBg (x.atoms[i]?.getD default),⟨(zJU g (x.atoms[i]?.getD default)).bag.items.filter (zSw x s (x.atoms[i]?.getD default) c)⟩⟩
noncomputable def zC2 (g:Graph) (x:Query) (s:List Int) (i c:Int):Table×Bool:=if (zAH g=true∧zAU x s=true)∧inR 0 ((x.atoms.length:Int)-1) i=true∧inR 0 (zA8 s-1) c=true then (zZl g x s i.toNat c,true) else (⟨[],⟨[]⟩⟩,false)
theorem zNG {g:Graph} {x:Query} {s:List Int} {i c:Int} (h:zAH g=false):zC2 g x s i c=(⟨[],⟨[]⟩⟩,false):=if_neg fun e=>by rw[h] at e;cases e.1.1
theorem zNH {g:Graph} {x:Query} {s:List Int} {i c:Int} (h:zAU x s=false):zC2 g x s i c=(⟨[],⟨[]⟩⟩,false):=if_neg fun e=>by rw[h] at e;cases e.1.2
theorem zNI {g:Graph} {x:Query} {s:List Int} {i c:Int} (h:inR 0 ((x.atoms.length:Int)-1) i=false):zC2 g x s i c=(⟨[],⟨[]⟩⟩,false):=if_neg fun e=>by rw[h] at e;cases e.2.1
theorem zNJ {g:Graph} {x:Query} {s:List Int} {i c:Int} (h:inR 0 (zA8 s-1) c=false):zC2 g x s i c=(⟨[],⟨[]⟩⟩,false):=if_neg fun e=>by rw[h] at e;cases e.2.2
theorem zG2 {g:Graph} {x:Query} {s:List Int} {i c:Int} (h1:zAH g=true) (h2:zAU x s=true) (h3:inR 0 ((x.atoms.length:Int)-1) i=true) (h4:inR 0 (zA8 s-1) c=true):zC2 g x s i c=(zZl g x s i.toNat c,true):=if_pos ⟨⟨h1,h2⟩,h3,h4⟩
theorem zZm {x:Query} {s:List Int} {a:Atom} {c:Int} {row:List Int} (hs:zAU x s=true) (hc:inR 0 (zA8 s-1) c=true):zZV (zG6 s (alM (zAj x.atoms) (zBg a) row s) (zA8 s).toNat) c=z8m x s a c row:=by
 have h1:=zAq.1 hc
 have h2:=hs
 unfold zAU at h2
 rw[Bool.and_eq_true,Bool.and_eq_true,decide_eq_true_iff] at h2
 have h3:=zDD h2.1
 exact zYj h2.2.1 oO oO
end
section
noncomputable def zG9 (g:Graph) (x:Query) (s:List Int) (c:Int) (k:Nat):List Table:=(List.range k).map fun i=>zZl g x s i c
theorem zKv (g:Graph) (x:Query) (s:List Int) (c:Int) (k:Nat):(zG9 g x s c k).length=k:=by unfold zG9;rw[List.length_map,List.length_range]
theorem zBt (g:Graph) (x:Query) (s:List Int) (c:Int) (k:Nat):zG9 g x s c (k+1)=zG9 g x s c k++[zZl g x s k c]:=by
 unfold zG9;rw[List.range_succ,List.map_append,List.map_singleton]
def zZn (g:Graph) (x:Query) (s:List Int) (c:Int):Prop:=zAH g=true∧zAU x s=true∧inR 0 (zA8 s-1) c=true
open Classical in
noncomputable def zPa (g:Graph) (x:Query) (s:List Int) (c:Int):Bag×Bool:=if zZn g x s c then caM x s c (zG9 g x s c x.atoms.length) else (⟨[]⟩,false)
theorem zUn {g:Graph} {x:Query} {s:List Int} {c:Int} (h:¬zZn g x s c):zPa g x s c=(⟨[]⟩,false):=if_neg h
theorem zZo {g:Graph} {x:Query} {s:List Int} {c:Int} (h:zZn g x s c):zPa g x s c=caM x s c (zG9 g x s c x.atoms.length):=if_pos h
theorem zL3 {g:Graph} {x:Query} {s:List Int} {i c:Int} (h:(zC2 g x s i c).2=true):zZn g x s c:=by
 unfold zC2 at h
 split at h
 ·rename_i h1;exact⟨h1.1.1,h1.1.2,h1.2.2⟩
 cases h
theorem zJi {g:Graph} {x:Query} {s:List Int} {i c:Int} (hi:0≤i∧i < x.atoms.length) (h:(zC2 g x s i c).2=false):¬zZn g x s c:=fun e=>by
 rw[zG2 e.1 e.2.1 (zAq.2 oO) e.2.2] at h;cases h
theorem zJj {g:Graph} {x:Query} {s:List Int} {i:Nat} {c:Int} (hi:i < x.atoms.length) (h:zZn g x s c):zC2 g x s (i:Int) c=(zZl g x s i c,true):=by
 have h2:=zG2 h.1 h.2.1 (zAq.2 oO:inR 0 ((x.atoms.length:Int)-1) (i:Int)=true) h.2.2
 rwa [Int.toNat_natCast] at h2
theorem zZp {g:Graph} {x:Query} {s:List Int} {c:Int} (h:0 < x.atoms.length→zZn g x s c):zPa g x s c=caM x s c (zG9 g x s c x.atoms.length):=by
 by_cases h1:0 < x.atoms.length
 ·exact zZo (h h1)
 by_cases h2:zZn g x s c
 ·exact zZo h2
 rw[zUn h2]
 refine (zQI ?_).symm
 rw[←Bool.not_eq_true]
 intro h3
 have:=(zBW (zCf h3).1).1
 omega
def z3E (g:Graph) (x:Query) (s:List Int) (gs:List Got) (i:Nat):Prop:=(zPa g x s (gs[i]?.getD default).from').2=true∧(zPa g x s (gs[i]?.getD default).from').1.items=(gs[i]?.getD default).bag.items
def z9d (g:Graph) (x:Query) (s:List Int) (gs:List Got) (over:Bool) (ans:Bag):Prop:=(∀ i,i < gs.length→z3E g x s gs i)∧(over=true→(zCU g x).2=true∧(zCU g x).1.items=ans.items)
open Classical in
noncomputable def zV8 (g:Graph) (x:Query) (s:List Int) (gs:List Got) (over:Bool) (ans:Bag):Bool:=decide (z9d g x s gs over ans)
open Classical in
theorem zZq {g:Graph} {x:Query} {s:List Int} {gs:List Got} {over:Bool} {ans:Bag} {i:Nat} (hi:i < gs.length) (h:¬z3E g x s gs i):zV8 g x s gs over ans=false:=decide_eq_false fun e=>h (e.1 i hi)
open Classical in
theorem z2C {g:Graph} {x:Query} {s:List Int} {gs:List Got} {ans:Bag} (h:∀ i,i < gs.length→z3E g x s gs i):zV8 g x s gs false ans=true:=decide_eq_true ⟨h,fun e=>nomatch e⟩
open Classical in
theorem z5I {g:Graph} {x:Query} {s:List Int} {gs:List Got} {ans:Bag} (h:(zCU g x).2=false):zV8 g x s gs true ans=false:=decide_eq_false fun e=>by have:=(e.2 rfl).1;rw[h] at this;cases this
open Classical in
theorem z5J {g:Graph} {x:Query} {s:List Int} {gs:List Got} {ans:Bag} (h:∀ i,i < gs.length→z3E g x s gs i) (h2:(zCU g x).2=true):zV8 g x s gs true ans=decide ((zCU g x).1.items=ans.items):=by
 unfold zV8
 by_cases h3:(zCU g x).1.items=ans.items
 ·rw[decide_eq_true h3];exact decide_eq_true ⟨h,fun _=>⟨h2,h3⟩⟩
 rw[decide_eq_false h3];exact decide_eq_false fun e=>h3 (e.2 rfl).2
end
section
attribute [local irreducible] IntKind.wrap zA0 zAj zAS
theorem zZr (b:Option Addr) (m c:Nat) (b2:Option Addr) (m2 c2:Nat) (l:List Value) (ns:List ByteArray) (vs:List Int) (f:Filter) (hf:zYL ns f) (hl:ns.length≤vs.length) (hv:∀ x∈vs,okI x) :
  Ct prog 166 [.agg ⟨[.slice b m c,.slice b2 m2 c2]⟩,.agg ⟨l⟩] [] (fun H=>(gSl 9 gS).rd H [.slice b m c] ns∧(gSl 3 gI).rd H [.slice b2 m2 c2] vs∧zAE.rd H l f) (fun v A=>v = .bool (zHJ ns vs f)∧A=[]):=by
 refine Ct.intro0 zAh func166 rfl rfl rfl fun E H hp=>?_
 obtain⟨hq,hr,hp⟩:=hp
 obtain⟨rfl,w0p,w1p,w2p,w3p⟩:=zBj.1 hp
 refine⟨fun x0=>?_⟩
 refine⟨fun x1=>?_⟩
 constructor<;>intro q2
 ·simp at q2
  refine zAe (zCo _ _ _ _ _ _ ns vs _ ?_ hl) ⟨Rp.mono _ (zAk sI) hq,Rp.mono _ (zAk sI) hr⟩ ?_
  ·exact zFp hf aA
  rintro _ rfl
  constructor<;>intro q4
  ·simp at q4
   refine zAe (zCo _ _ _ _ _ _ ns vs _ ?_ hl) ⟨Rp.mono _ (zAk sI) hq,Rp.mono _ (zAk sI) hr⟩ ?_
   ·exact hf.1
   rintro _ rfl
   exact⟨[],⟨by first|(rw[zBu aA,zBJ aA];rfl)|(rw[zBu aA,zBK aA];rfl)|(rw[zBv aA,zBJ aA,←zCm];rfl)|(rw[zBv aA,zBK aA,←zCm];rfl),rfl⟩,.mem sI⟩
  simp at q4
  refine zAe (zCo _ _ _ _ _ _ ns vs _ ?_ hl) ⟨Rp.mono _ (zAk sI) hq,Rp.mono _ (zAk sI) hr⟩ ?_
  ·exact hf.1
  rintro _ rfl
  exact⟨[],⟨by first|(rw[zBu aA,zBJ aA];rfl)|(rw[zBu aA,zBK aA];rfl)|(rw[zBv aA,zBJ aA,←zCm];rfl)|(rw[zBv aA,zBK aA,←zCm];rfl),rfl⟩,.mem sI⟩
 simp at q2
 constructor<;>intro q7
 ·simp at q7
  refine zAe (zCo _ _ _ _ _ _ ns vs _ ?_ hl) ⟨Rp.mono _ (zAk sI) hq,Rp.mono _ (zAk sI) hr⟩ ?_
  ·exact hf.1
  rintro _ rfl
  exact⟨[],⟨by first|(rw[zBu aA,zBJ aA];rfl)|(rw[zBu aA,zBK aA];rfl)|(rw[zBv aA,zBJ aA,←zCm];rfl)|(rw[zBv aA,zBK aA,←zCm];rfl),rfl⟩,.mem sI⟩
 simp at q7
 refine zAe (zCo _ _ _ _ _ _ ns vs _ ?_ hl) ⟨Rp.mono _ (zAk sI) hq,Rp.mono _ (zAk sI) hr⟩ ?_
 ·exact hf.1
 rintro _ rfl
 exact⟨[],⟨by first|(rw[zBu aA,zBJ aA];rfl)|(rw[zBu aA,zBK aA];rfl)|(rw[zBv aA,zBJ aA,←zCm];rfl)|(rw[zBv aA,zBK aA,←zCm];rfl),rfl⟩,.mem sI⟩
theorem zUo {cs:List ByteArray} {fs:List Filter} {row:List Int} {k n:Nat} (hk:k < n) (h:zHJ cs row (fs[k]?.getD default)=false):zFK cs fs row n=false:=zDz h _ hk
theorem zJG (b:Option Addr) (m c:Nat) (b2:Option Addr) (m2 c2:Nat) (b3:Option Addr) (m3 c3:Nat) (ns:List ByteArray) (vs:List Int) (fs:List Filter) (hf:∀ i,i < fs.length→zYL ns (fs[i]?.getD default)) (hl:ns.length≤vs.length) (hv:∀ x∈vs,okI x) :
  Ct prog 124 [.agg ⟨[.slice b m c,.slice b2 m2 c2]⟩,.slice b3 m3 c3] [] (fun H=>(gSl 9 gS).rd H [.slice b m c] ns∧(gSl 3 gI).rd H [.slice b2 m2 c2] vs∧(gSl 165 zAE).rd H [.slice b3 m3 c3] fs) (fun v A=>v = .bool (zFK ns fs vs fs.length)∧A=[]):=by
 refine Ct.intro0 zAh func124 rfl rfl rfl fun E H hp=>?_
 obtain⟨hq,hr,hp⟩:=hp
 obtain⟨rfl,hcp,hlp⟩:=zAp hp
 refine⟨fun x0=>?_⟩
 apply zAg (α:=(Nat)) zAh [10,11,12,6,13,14,15,16,4,17,9] (fun z=>[(9,.v (.int .i64 z))]) (fun z=>[{ id:=x0,cs:=[Value.slice b m c,Value.slice b2 m2 c2],ty:=(134:Nat) }]) (fun z=>[H]) (fun z=>fs.length-z) (fun z=>z≤fs.length∧zFK ns fs vs z=true) ((0))
 ·exact frI
 ·exact⟨rfl,trivial⟩
 ·exact⟨Nat.zero_le _,rfl⟩
 ·exact .refl _
 rintro k hI
 obtain⟨hk,ha⟩:k≤fs.length∧zFK ns fs vs k=true:=hI
 try dsimp only
 constructor<;>intro q1
 ·simp at q1
  refine zAf hp ?_ ?_ fun b2 o2 hb2=>?_
  ·omega
  ·omega
  refine zAd default (k) rfl hp ?_ ?_ hb2 rfl (zAa 0 rfl) fun l3 hl3=>?_
  ·omega
  ·omega
  obtain⟨rfl,w0x3,w1x3,w2x3,w3x3⟩:=zBj.1 hl3
  refine⟨fun x4=>?_⟩
  refine zAe (zZr _ _ _ _ _ _ _ ns vs (fs[k]?.getD default) (hf k oO) hl hv) ⟨Rp.mono _ (zAk sI) hq,Rp.mono _ (zAk sI) hr,(Rp.mono _ (zAa 0 rfl) hl3)⟩ ?_
  rintro _ rfl
  constructor<;>intro q6
  ·simp at q6
   exact⟨[],⟨by rw[zUo (k:=k) oO aA],rfl⟩,.mem sI⟩
  simp at q6
  apply zAb (k+1)
  ·exact .refl _
  ·exact frI
  ·exact⟨rfl,trivial⟩
  ·exact⟨oO,by rw[zJb,ha,‹zHJ ns vs _=true›];rfl⟩
  omega
 simp at q1
 (have hke:k=fs.length:=oO;subst hke;exact⟨[],⟨by rw[ha],rfl⟩,.mem sI⟩)
theorem z5K (q1 q2 q3 q4:Nat) (b:Option Addr) (c:Nat) (b2:Option Addr) (m2 c2:Nat) (e1:Bool) (b3:Option Addr) (m3 c3:Nat) (b4:Option Addr) (m4 c4:Nat) (b5:Option Addr) (c5:Nat) (b6:Option Addr) (m6 c6:Nat) (b7:Option Addr) (c7:Nat) (ce:Int) (ns:List ByteArray) (vs:List Int) (fs:List Filter) (s:List Int)
  (hf:∀ i,i < fs.length→zYL ns (fs[i]?.getD default)) (hd:zD7 ns=true) (hn:ns.length≤4) (hl:vs.length=ns.length) (hv:∀ x∈vs,okI x) :
  Ct prog 123 [.agg ⟨[.slice b ns.length c,.slice b2 m2 c2]⟩,.pointer (some ⟨q1,0,none⟩),.pointer (some ⟨q2,0,none⟩),.pointer (some ⟨q3,0,none⟩),.pointer (some ⟨q4,0,none⟩)] []
   (fun H=>((gSl 9 gS).rd H [.slice b ns.length c] ns∧(gSl 3 gI).rd H [.slice b2 m2 c2] vs∧(gSl 165 zAE).rd H [.slice b5 fs.length c5] fs∧(gSl 3 gI).rd H [.slice b6 m6 c6] s∧(gSl 9 gS).rd H [.slice b7 ns.length c7] ns) ∧
    (q1,Obj.cells ⟨[.bool e1,.slice b3 m3 c3,.slice b4 m4 c4,.slice b5 fs.length c5]⟩ 43)∈H∧(q2,Obj.cells ⟨[.slice b6 m6 c6]⟩ 27)∈H∧(q3,Obj.cells ⟨[.slice b7 ns.length c7]⟩ 22)∈H∧(q4,Obj.cells ⟨[.int .i64 ce]⟩ 3)∈H)
   (fun v A=>v = .bool (zFK ns fs vs fs.length && decide (zDX s vs=ce))∧A=[]):=by
 refine Ct.intro0 zAh func123 rfl rfl rfl fun E H hp=>?_
 obtain⟨⟨hq,hr,hp,hs,hns⟩,hm1,hm2,hm3,hm4⟩:=hp
 refine⟨fun x0=>?_⟩
 refine zBr zAh zAK none (.q 0 (.q 1 (.q 2 (.f 3 (.q 4 (.q 5 (.q 6 (.q 7 (.q 10 (.f 8 (.f 9 (.q 11 (.q 12 (.q 13 (.nil))))))))))))))) (by decide +kernel) ?_
 refine zDq (l:=[.slice b5 fs.length c5]) (by first|exact zAa 0 rfl _ hm1|exact zAa 1 rfl _ hm1|exact zAa 2 rfl _ hm1) sI rfl ?_
 refine zAe (zJG _ _ _ _ _ _ _ _ _ ns vs fs hf oO hv) ⟨Rp.mono _ (zAk sI) hq,Rp.mono _ (zAk sI) hr,Rp.mono _ (zAk sI) hp⟩ ?_
 rintro _ rfl
 refine VC.intro ?_ ?_
 ·exact fun _ h=>h
 constructor<;>intro q2
 ·refine zDq (l:=[.slice b6 m6 c6]) (by first|exact zAa 0 rfl _ hm2|exact zAa 1 rfl _ hm2|exact zAa 2 rfl _ hm2) sI rfl ?_
  refine zDq (l:=[.slice b7 ns.length c7]) (by first|exact zAa 0 rfl _ hm3|exact zAa 1 rfl _ hm3|exact zAa 2 rfl _ hm3) sI rfl ?_
  refine zDq (l:=[.int .i64 ce]) (by first|exact zAa 0 rfl _ hm4|exact zAa 1 rfl _ hm4|exact zAa 2 rfl _ hm4) sI rfl ?_
  refine zAi (zDg _ _ _ _ _ _ _ _ _ ns vs ns (fun s hs=>zC8.2 hs) oO oO hv) ⟨Rp.mono _ (zAk sI) hq,Rp.mono _ (zAk sI) hr,Rp.mono _ (zAk sI) hns⟩ ?_
  rintro v3 A3 o3
  obtain⟨b3,c3,rfl,o3⟩:=o3
  rw[zYs hd hl] at *
  refine VC.intro ?_ ?_
  ·exact zAA
  refine zAe (zOV _ _ _ _ _ _ (s) (vs)) ⟨(Rp.mono _ (zAa 1 rfl) hs),(Rp.mono _ (zAa 0 rfl) (Gt.owrd _ o3))⟩ ?_
  rintro _ rfl
  refine VC.intro ?_ ?_
  ·exact zAA
  exact⟨[],⟨by rw[‹zFK ns fs vs fs.length=true›,Bool.true_and];first|rfl|rw[zCm],rfl⟩,.mem sI⟩
 exact⟨[],⟨by rw[‹zFK ns fs vs fs.length=false›];rfl,rfl⟩,.mem sI⟩
end
section
attribute [local irreducible] IntKind.wrap zA0 zAj zAS zA2
theorem zIz {l:List ByteArray} {s t:ByteArray} (h:t∈l∨t=s):t∈zKh l s:=by
 unfold zKh
 split
 ·rename_i h1
  rcases h with h|rfl
  ·exact h
  exact zC8.1 h1
 rcases h with h|rfl
 ·exact List.mem_append_left _ h
 exact List.mem_append_right _ (List.mem_singleton.2 rfl)
theorem zNK {ats:List Atom} {s:ByteArray} {k:Nat}:∀ {j:Nat},k+j≤ats.length→s∈zAj (ats.take k)→s∈zAj (ats.take (k+j))
 | 0,_,h=>h
 | j+1,hk,h=>by
  have ih:=zNK (j:=j) oO h
  show s∈zAj (ats.take (k+j+1))
  rw[zBT oO]
  exact zIz (.inl (zIz (.inl ih)))
theorem zQ2 {ats:List Atom} {k:Nat} (hk:k < ats.length):zBI (zAj ats) (ats[k]?.getD default).from'=true∧zBI (zAj ats) (ats[k]?.getD default).to=true:=by
 have h1:∀ {s},s∈zAj (ats.take (k+1))→s∈zAj ats:=fun {s} h=>by
  have h2:=zNK (k:=k+1) (j:=ats.length-(k+1)) oO h
  rwa [show k+1+(ats.length-(k+1))=ats.length from oO,List.take_length] at h2
 rw[zC8,zC8]
 refine⟨h1 ?_,h1 ?_⟩
 ·rw[zBT hk];exact zIz (.inl (zIz (.inr rfl)))
 rw[zBT hk];exact zIz (.inr rfl)
theorem zDP {vs:List Int} {n:Int} (hn:1≤n) (h:∀ y∈vs,0≤y∧y < n) (k:Nat):0≤vs[k]?.getD 0∧vs[k]?.getD 0 < n:=by
 by_cases hk:k < vs.length
 ·rw[List.getElem?_eq_getElem hk];exact h _ (List.getElem_mem hk)
 rw[List.getElem?_eq_none oO]
 show (0:Int)≤0∧(0:Int) < n
 omega
def z5L (b n j:Nat) (w:List Int):Value→Prop:=fun v=>(v = .bool true∧j+1 < b ^ n∧w=zHR b n (j+1))∨(v = .bool false∧j+1=b ^ n)
theorem z3F {b n j p:Nat} {w:List Int} (hb:1≤b∧b≤12) (h1:1≤p) (hp:p≤n) (hS:zFN b (zHR b n j) (n-p) w):IntKind.i64.wrap (w[p-1]?.getD 0+1)=(zHR b n j)[p-1]?.getD 0+1∧(w.set (p-1) (IntKind.i64.wrap (w[p-1]?.getD 0+1)))[p-1]?.getD 0=(zHR b n j)[p-1]?.getD 0+1:=by
 have hl:=zCR b n j
 have hwl:=zIx hS
 have hwv:=zJe hS (p:=p-1) oO
 have hv:=zDP (n:=b) oO (zGY hb.1 n j) (p-1)
 have e1:IntKind.i64.wrap (w[p-1]?.getD 0+1)=(zHR b n j)[p-1]?.getD 0+1:=by rw[hwv,zAc oO oO]
 refine⟨e1,?_⟩
 rw[e1,List.getElem?_set_self oO];rfl
theorem z7U {b n j p:Nat} {w:List Int} (hb:1≤b∧b≤12) (hj:j < b ^ n) (h1:1≤p) (hp:p≤n) (hS:zFN b (zHR b n j) (n-p) w) (h:(w.set (p-1) (IntKind.i64.wrap (w[p-1]?.getD 0+1)))[p-1]?.getD 0 < (b:Int)) :
  w.set (p-1) (IntKind.i64.wrap (w[p-1]?.getD 0+1))=zHR b n (j+1)∧j+1 < b ^ n:=by
 obtain⟨e1,e2⟩:=z3F hb h1 hp hS
 rw[e2] at h
 rw[e1]
 exact zQL hb.1 hj hS (p:=p-1) oO h
theorem z8o {b n j p:Nat} {w:List Int} (hb:1≤b∧b≤12) (h1:1≤p) (hp:p≤n) (hS:zFN b (zHR b n j) (n-p) w) (h:(b:Int)≤(w.set (p-1) (IntKind.i64.wrap (w[p-1]?.getD 0+1)))[p-1]?.getD 0) :
  zFN b (zHR b n j) (n-(p-1)) ((w.set (p-1) (IntKind.i64.wrap (w[p-1]?.getD 0+1))).set (p-1) 0):=by
 obtain⟨e1,e2⟩:=z3F hb h1 hp hS
 have hv:=zDP (n:=b) oO (zGY hb.1 n j) (p-1)
 rw[e2] at h
 have hl:=zCR b n j
 rw[List.set_set,show n-(p-1)=n-p+1 from oO]
 exact zQK hS oO oO
theorem zSx (bs:Option Addr) (cp:Nat) (b n j:Nat) (A:Hp) (ho:(gSl 3 gI).ow [.slice bs n cp] (zHR b n j) A) (hb:1≤b∧b≤12) (hj:j < b ^ n) :
  CtR prog 79 [.slice bs n cp,.int .i64 b] A (fun _=>True)
   (fun v D=>∃ w,z5L b n j w v∧w.length=n∧(gSl 3 gI).ow [.slice bs n cp] w D):=by
 refine CtR.intro zAh [A] func79 rfl rfl rfl sI fun E H _=>?_
 have hl:=zCR b n j
 have hr:=zGY hb.1 n j
 obtain⟨_,hcs,hls⟩:=zAp (Gt.owrd _ ho)
 apply zAg (α:=(Nat)×(List Int)×(Hp)) zAh [9,10,13,14,15,16,17,18,19,20,21,22,23,24,4,25,26,27,11,12,5] (fun z=>[(5,.v (.int .i64 ((z.1:Int)-1)))]) (fun z=>[]) (fun z=>[z.2.2,H]) (fun z=>z.1) (fun z=>z.1≤n∧zFN b (zHR b n j) (n-z.1) z.2.1∧(gSl 3 gI).ow [.slice bs n cp] z.2.1 z.2.2) ((n,zHR b n j,A))
 ·repeat' (first|exact trivial|refine⟨⟨_,rfl,by first|exact frE|(refine zAz ?_;simp;done)|exact congrArg (fun v=>SV.v (Value.int .i64 v)) hwp|exact congrArg (fun v=>Value.int .i64 v) hwp|exact congrArg (fun v=>SV.v (Value.int .i64 v)) (zAc oO oO)|exact congrArg (fun v=>Value.int .i64 v) (zAc oO oO),frO⟩,?_⟩)
 ·exact trivial
 ·try dsimp only
  exact⟨Nat.le_refl _,by rw[Nat.sub_self];exact zLN _ _,ho⟩
 ·exact .refl _
 rintro ⟨p,w,W⟩ hI
 try dsimp only at hI
 obtain⟨hp,hS,oW⟩:=hI
 try dsimp only
 constructor<;>intro q0
 ·simp at q0
  have hq:((p:Int)-1).toNat=p-1:=oO
  have hwl:=zIx hS
  have hwv:w[((p:Int)-1).toNat]?.getD 0=(zHR b n j)[p-1]?.getD 0:=(by rw[hq];exact zJe hS oO)
  have hv:=zDP (n:=b) oO hr (p-1)
  have hwp:IntKind.i64.wrap ((p:Int)-1-1)=((p-1:Nat):Int)-1:=(by rw[zAc oO oO];omega)
  refine zAf (Gt.owrd _ oW) ?_ ?_ fun b1 o1 hb1=>?_
  ·omega
  ·omega
  refine zAF 0 (Gt.owrd _ oW) ?_ ?_ hb1 rfl (zAa 0 rfl) fun l2 hl2=>?_
  ·omega
  ·omega
  obtain⟨rfl,hw2⟩:=hl2;simp only[zAx,zAs,okI] at hw2
  refine zAf (Gt.owrd _ oW) ?_ ?_ fun b3 o3 hb3=>?_
  ·omega
  ·omega
  refine zBq (Fld.id _) 0 (Int.toNat ((↑p:Int)-(1:Int))) 0 rfl (Int.toNat_of_nonneg ?_).symm oW ?_ ?_ hb3 rfl zHx _ (zCN ?_) fun A4 o4=>?_
  ·omega
  ·omega
  ·omega
  ·exact zGF _
  refine zAf (Gt.owrd _ o4) ?_ ?_ fun b5 o5 hb5=>?_
  ·omega
  ·simp;omega
  refine zAF 0 (Gt.owrd _ o4) ?_ ?_ hb5 rfl (zAa 0 rfl) fun l6 hl6=>?_
  ·omega
  ·simp;omega
  obtain⟨rfl,hw6⟩:=hl6;simp only[zAx,zAs,okI] at hw6
  constructor<;>intro q7
  ·simp at q7
   (obtain⟨e1,e2⟩:=z7U hb hj oO hp hS aA;rw[hq,e1] at o4;exact⟨A4,⟨_,.inl ⟨rfl,e2,rfl⟩,zCR _ _ _,o4⟩,rlB⟩)
  simp at q7
  refine zAf (Gt.owrd _ o4) ?_ ?_ fun b8 o8 hb8=>?_
  ·omega
  ·simp;omega
  refine zBq (Fld.id _) 0 (Int.toNat ((↑p:Int)-(1:Int))) 0 rfl (Int.toNat_of_nonneg ?_).symm o4 ?_ ?_ hb8 rfl zHx _ (zCN ?_) fun A9 o9=>?_
  ·omega
  ·omega
  ·simp;omega
  ·trivial
  apply zAb (p-1,(w.set ((p:Int)-1).toNat (IntKind.i64.wrap (w[((p:Int)-1).toNat]?.getD 0+1))).set ((p:Int)-1).toNat 0,_)
  ·exact .refl _
  ·repeat' (first|exact trivial|refine⟨⟨_,rfl,by first|exact frE|(refine zAz ?_;simp;done)|exact congrArg (fun v=>SV.v (Value.int .i64 v)) hwp|exact congrArg (fun v=>Value.int .i64 v) hwp|exact congrArg (fun v=>SV.v (Value.int .i64 v)) (zAc oO oO)|exact congrArg (fun v=>Value.int .i64 v) (zAc oO oO),frO⟩,?_⟩)
  ·exact trivial
  ·try dsimp only
   exact⟨oO,by rw[hq];exact z8o hb oO hp hS aA,aA⟩
  try dsimp only
  omega
 simp at q0
 (have hp0:p=0:=oO;subst hp0;exact⟨W,⟨w,.inr ⟨rfl,zQM hb.1 hj hS⟩,by rw[zIx hS,hl],oW⟩,rlB⟩)
def zZs (g:Graph) (x:Query) (ms:List (List Nat)) (k:Nat):Prop:=ms.length=k∧∀ i,i < k→RepI g.size.toNat (ms[i]?.getD []) (z5v g x i)
theorem zZt {g:Graph} {x:Query} {ms:List (List Nat)} {k:Nat} {m:List Nat} (h:zZs g x ms k) (hm:RepI g.size.toNat m (z5v g x k)):zZs g x (ms++[m]) (k+1):=by
 obtain⟨h1,h2⟩:=h
 refine⟨by rw[List.length_append,h1];rfl,fun i hi=>?_⟩
 by_cases e:i=k
 ·subst e
  rw[List.getElem?_append_right oO,h1,Nat.sub_self]
  exact hm
 rw[List.getElem?_append_left oO]
 exact h2 i oO
theorem zMB (lg lq:List Value) (g:Graph) (x:Query) (hg:zAH g=true) (hx:zAS x=true) (hz:zAL.sz x≤1048576) :
  Ct prog 77 [.agg ⟨lg⟩,.agg ⟨lq⟩] [] (fun H=>zBz.rd H lg g∧zAL.rd H lq x)
   (fun v D=>∃ b c ms,v = .slice b ms.length c∧(gSl 184 zZW).ow [.slice b ms.length c] ms D∧zZs g x ms x.atoms.length):=by
 refine Ct.intro0 zAh func77 rfl rfl rfl fun E H hp=>?_
 obtain⟨hp,hq⟩:=hp
 obtain⟨b1g,c1g,rfl,w0g,h1g⟩:=zAY.1 hp
 obtain⟨b1p,c1p,b2p,c2p,b3p,c3p,rfl,h1p,h2p,h3p⟩:=zAy.1 hq
 have hal:=(zBW hx).1
 refine⟨fun x0=>?_⟩
 refine⟨fun x1=>?_⟩
 apply zAg (α:=(Nat)×(List (List Nat))×(Hp)×(Option Addr)×(Nat)) zAh [14,15,16,7,18,19,20,17,21,22,8,9,23,24,25,26,27,28,5,29,13] (fun z=>[(13,.v (.int .i64 z.1)),(5,.v (.slice z.2.2.2.1 z.2.1.length z.2.2.2.2))]) (fun z=>[{ id:=x0,cs:=[Value.int IntKind.i64 g.size,Value.slice b1g g.edges.length c1g],ty:=(53:Nat) },{ id:=x1,cs:=[Value.bool x.each,Value.slice b1p x.out.length c1p,Value.slice b2p x.atoms.length c2p,Value.slice b3p x.filters.length c3p],ty:=(43:Nat) }]) (fun z=>[z.2.2.1,H]) (fun z=>x.atoms.length-z.1) (fun z=>z.1≤x.atoms.length∧zZs g x z.2.1 z.1∧(gSl 184 zZW).ow [.slice z.2.2.2.1 z.2.1.length z.2.2.2.2] z.2.1 z.2.2.1) ((0,[],[],none,0))
 ·exact frI
 ·exact⟨rfl,rfl,trivial⟩
 ·try dsimp only
  exact⟨Nat.zero_le _,⟨rfl,fun i hi=>absurd hi (Nat.not_lt_zero _)⟩,zAm _ _ _⟩
 ·exact .refl _
 rintro ⟨i,ms,D,lb,lc⟩ hI
 try dsimp only at hI
 obtain⟨hi,hR,oD⟩:=hI
 try dsimp only
 constructor<;>intro q2
 ·simp at q2
  have hml:=hR.1
  refine zAf h2p ?_ ?_ fun b3 o3 hb3=>?_
  ·omega
  ·omega
  refine zAd default (i) rfl h2p ?_ ?_ hb3 rfl (zAa 1 rfl) fun l4 hl4=>?_
  ·omega
  ·omega
  obtain⟨rfl,w0x4,w1x4,w2x4⟩:=zAT.1 hl4
  refine⟨fun x5=>?_⟩
  refine zAi (zEz _ ?_) trivial ?_
  ·exact Nat.le_trans (zDC hz oO) (by decide)
  rintro v6 A6 o6
  obtain⟨bR,cR,rfl,oR⟩:=o6
  refine⟨fun x7=>?_⟩
  refine zAi (zNE _ _ g (zBd (x.atoms[i]?.getD default).path) hg (z3D hx oO)) ⟨Rp.mono _ (zAk sI) hp,zBM.2 ⟨_,_,rfl,Rp.mono _ (zAk sI) (Gt.owrd _ oR)⟩⟩ ?_
  rintro v8 A8 o8
  obtain⟨bM,cM,mM,rfl,oM,hrM⟩:=o8
  refine⟨fun x9=>?_⟩
  refine zAC (g:=(gSl 186 gU)) (T:=184) zAh D _ [A6,H] ?_ oD (oM) (List.mem_of_getElem? (i:=0) rfl) rfl rfl rfl rfl rfl rfl rfl rfl ?_ fun b10 c10 A10 o10=>?_
  ·exact rlA
  ·omega
  apply zAb (i+1,_,_,_,_)
  ·exact .sub (by repeat (first|exact .slnil|apply List.Sublist.cons_cons|apply List.Sublist.cons))
  ·exact frI
  ·exact⟨rfl,rfl,trivial⟩
  ·try dsimp only
   exact⟨oO,zZt hR hrM,aA⟩
  try dsimp only
  omega
 simp at q2
 (have hie:i=x.atoms.length:=oO;subst hie;exact⟨_,⟨_,_,_,rfl,oD,hR⟩,rlB⟩)
end
section
attribute [local irreducible] IntKind.wrap zA0 zAj zAS zA2
theorem zQ3 {a:Atom} (h1:zCY a=true):zAV (zBd a.path)=true:=by
 unfold zCY at h1
 rw[Bool.and_eq_true,Bool.and_eq_true] at h1
 have h2:=h1.2.2
 unfold tnR at h2
 split at h2
 ·unfold zKf at h2
  split at h2
  ·rename_i h3;exact h3.1
  cases h2
 cases h2
theorem zQ4 {g:Graph} {a:Atom} {ps:List (List Int)} {xs:List Item} {b0 b1:Option Addr} {c0 c1:Nat} {Ac B:Hp} (h1:zAH g=true) (h2:zCY a=true) (hps:ps=zD1 g.size.toNat (zA2 g.edges g.size.toNat (zBd a.path).pieces ((zBd a.path).pieces.length-1))) (hx:xs=zEk a ps ps.length)
  (oc:(gSl 9 gS).ow [.slice b0 (zBg a).length c0] (zBg a) Ac) (oB:(gSl 100 zAo).ow [.slice b1 xs.length c1] xs B) :
  ∃ (b0':Option Addr) (c0':Nat) (b1':Option Addr) (c1':Nat),Value.tuple ⟨[.agg ⟨[.slice b0 (zBg a).length c0,.slice b1 xs.length c1]⟩,.bool true]⟩ = .tuple #[.agg ⟨[.slice b0' (zHQ g a).1.cols.length c0',.slice b1' (zHQ g a).1.bag.items.length c1']⟩,.bool (zHQ g a).2]∧OwT b0' c0' b1' c1' (zHQ g a).1 (Ac++B):=by
 have e:xs=(zJU g a).bag.items:=by rw[hx,hps];rfl
 subst e
 rw[zL2 h1 h2]
 exact⟨b0,c0,b1,c1,rfl,Ac,B,.refl _,oc,oB⟩
theorem z2D {n:Int} (hn:n≤12) {a:Atom} {ps:List (List Int)} (hp:zNF n ps) {k kp:Nat} (hk:k < ps.length) {xs:List Item} (hx:xs=zEk a ps k) (h:zEV a (ps[k]?.getD [])=true)
  (hat:zDo (zBD a (ps[k]?.getD []))=true∧(0 < xs.length→(zBE xs 0).length=(zBD a (ps[k]?.getD [])).length)→atR xs (zBD a (ps[k]?.getD [])) kp):(zEE xs (zBD a (ps[k]?.getD [])) 1 kp).1=zEk a ps (k+1):=by
 subst hx
 rw[zZk hn hp hk h rfl hat]
theorem zQ5 {n:Int} {ps:List (List Int)} (hp:zNF n ps) {k:Nat} (hk:k < ps.length):(ps[k]?.getD []).length=2:=by
 obtain⟨u,v,e,_⟩:=hp.2 (ps[k]?.getD []) (by rw[List.getElem?_eq_getElem hk];exact List.getElem_mem hk)
 rw[e];rfl
theorem zSy (lg la:List Value) (g:Graph) (a:Atom) (hz:a.path.size≤1048576) :
  Ct prog 116 [.agg ⟨lg⟩,.agg ⟨la⟩] [] (fun H=>zBz.rd H lg g∧zA9.rd H la a)
   (fun v D=>∃ (b0:Option Addr) (c0:Nat) (b1:Option Addr) (c1:Nat),v = .tuple #[.agg ⟨[.slice b0 (zHQ g a).1.cols.length c0,.slice b1 (zHQ g a).1.bag.items.length c1]⟩,.bool (zHQ g a).2]∧OwT b0 c0 b1 c1 (zHQ g a).1 D):=by
 refine Ct.intro0 zAh func116 rfl rfl rfl fun E H hp=>?_
 obtain⟨hp,hq⟩:=hp
 obtain⟨b1g,c1g,rfl,w0g,h1g⟩:=zAY.1 hp
 obtain⟨rfl,w0p,w1p,w2p⟩:=zAT.1 hq
 refine⟨fun x0=>?_⟩
 refine⟨fun x1=>?_⟩
 refine⟨fun x2=>?_⟩
 refine zAe (zDO _ (g)) (Rp.mono _ (zAa 0 rfl) hp) ?_
 rintro _ rfl
 constructor<;>intro q4
 ·simp at q4
  (rw[zQ0 aA];exact⟨[],⟨_,_,_,_,rfl,zCc⟩,.mem sI⟩)
 simp at q4
 refine zAe (zQk _ (a) ?_) (Rp.mono _ (zAa 0 rfl) hq) ?_
 ·omega
 rintro _ rfl
 constructor<;>intro q6
 ·simp at q6
  (rw[zQ1 aA];exact⟨[],⟨_,_,_,_,rfl,zCc⟩,.mem sI⟩)
 simp at q6
 obtain⟨hg1,hg2,hE⟩:=zEa ‹zAH g=true›
 have hg:1≤g.size∧g.size≤12:=oO
 have hpo:=zQ3 ‹zCY a=true›
 refine zAi (zEz _ ?_) trivial ?_
 ·omega
 rintro v7 A7 o7
 obtain⟨bR,cR,rfl,oR⟩:=o7
 refine⟨fun x8=>?_⟩
 refine zAi (zFF _ (a)) (Rp.mono _ (zAa 1 rfl) hq) ?_
 rintro v9 A9 o9
 obtain⟨b9,c9,rfl,o9⟩:=o9
 refine⟨fun x10=>?_⟩
 refine zAi (zJT _ _ g (zBd a.path) ‹zAH g=true› hpo) ⟨(Rp.mono _ (zAa 2 rfl) hp),zBM.2 ⟨_,_,rfl,Rp.mono _ (zAk sI) (Gt.owrd _ oR)⟩⟩ ?_
 rintro v11 A11 o11
 obtain⟨bP,cP,rfl,oP⟩:=o11
 have hpp:=zO3 hg (zA2 g.edges g.size.toNat (zBd a.path).pieces ((zBd a.path).pieces.length-1))
 obtain⟨ps,hps⟩:∃ ps,ps=zD1 g.size.toNat (zA2 g.edges g.size.toNat (zBd a.path).pieces ((zBd a.path).pieces.length-1)):=⟨_,rfl⟩
 rw[←hps] at oP hpp ⊢
 have hpl:=hpp.1
 apply zAg (α:=(Nat)×(List Item)×(Hp)×(Option Addr)×(Nat)) zAh [36,37,38,10,40,41,42,39,43,44,11,12,45,46,47,48,49,35] (fun z=>[(35,.v (.int .i64 z.1))]) (fun z=>[⟨x0,[Value.int IntKind.i64 g.size,Value.slice b1g g.edges.length c1g],(53:Nat)⟩,⟨x1,[Value.string a.from',Value.string a.path,Value.string a.to],(97:Nat)⟩,⟨x2,[Value.slice none (0:Nat) (0:Nat),Value.slice none (0:Nat) (0:Nat)],(65:Nat)⟩,⟨x8,[Value.slice bR (zBd a.path).pieces.length cR],(153:Nat)⟩,⟨x10,[Value.slice b9 (zBg a).length c9,.slice z.2.2.2.1 z.2.1.length z.2.2.2.2],(65:Nat)⟩]) (fun z=>[z.2.2.1,A11,A9,A7,H]) (fun z=>ps.length-z.1) (fun z=>z.1≤ps.length∧z.2.1=zEk a ps z.1∧(gSl 100 zAo).ow [.slice z.2.2.2.1 z.2.1.length z.2.2.2.2] z.2.1 z.2.2.1) ((0,[],[],none,0))
 ·exact frI
 ·repeat' (first|exact trivial|refine⟨by first|rfl|simp [Blk.ent],?_⟩)
 ·try dsimp only
  exact⟨Nat.zero_le _,rfl,zAm _ _ _⟩
 ·exact .refl _
 rintro ⟨k,xs,B,ib,ic⟩ hI
 try dsimp only at hI
 obtain⟨hk,hxs,oB⟩:=hI
 try dsimp only
 constructor<;>intro q12
 ·simp at q12
  have h2:=zQ5 hpp (k:=k) oO
  obtain⟨hbw,hxl⟩:=zL1 hg.2 hpp (a:=a) k
  rw[←hxs] at hbw hxl
  refine zAf (Gt.owrd _ oP) ?_ ?_ fun b13 o13 hb13=>?_
  ·omega
  ·omega
  refine zAd [] (k) rfl (Gt.owrd _ oP) ?_ ?_ hb13 rfl (zAa 1 rfl) fun l14 hl14=>?_
  ·omega
  ·omega
  obtain⟨u14,w14,rfl,hl14⟩:=zCD hl14
  refine zAe (zVz _ _ _ _ a (ps[k]?.getD []) h2) ⟨(Rp.mono _ (zAa 4 rfl) hq),(Rp.mono _ (zAa 1 rfl) hl14)⟩ ?_
  rintro _ ⟨bR2,cR2,rfl,hRR⟩
  have rR:=hRR _ ‹(gSl 3 gI).rd _ _ (ps[k]?.getD [])›
  constructor<;>intro q16
  ·refine zAr 4 (B) [A11,A9,A7,H] rfl ?_ (zNv _ _ _ _ _ _ xs _ _ _ _ (zBD a (ps[k]?.getD [])) 1 oB ?_ ?_ ?_ ?_) (Rp.mono _ (zAa 0 rfl) rR) ?_
   ·exact .refl _
   ·exact hbw.inv.1
   ·omega
   ·trivial
   ·exact hbw.inv.2
   rintro _ A17 ⟨kp,bP2,cP2,AP,hat,rfl,rfl,oP2⟩
   refine⟨_,_,[AP],rfl,zBO,?_⟩
   apply zAb (k+1,_,_,_,_)
   ·exact .refl _
   ·exact frI
   ·repeat' (first|exact trivial|refine⟨by first|rfl|simp [Blk.ent],?_⟩)
   ·try dsimp only
    exact⟨oO,z2D hg.2 hpp oO hxs aA hat,aA⟩
   try dsimp only
   omega
  apply zAb (k+1,xs,B,ib,ic)
  ·exact .refl _
  ·exact frI
  ·repeat' (first|exact trivial|refine⟨by first|rfl|simp [Blk.ent],?_⟩)
  ·try dsimp only
   exact⟨oO,by rw[zZj oO aA];exact hxs,oB⟩
  try dsimp only
  omega
 simp at q12
 (have hke:k=ps.length:=oO;subst hke;exact⟨A9++B,zQ4 ‹zAH g=true› ‹zCY a=true› hps hxs aA oB,rlB⟩)
end
section
attribute [local irreducible] IntKind.wrap zA2
structure OrB (xs ys m:List Bool) (i:Nat):Prop where
 len:m.length=xs.length
 all:∀ j,zLS m j↔zLS xs j∨(j < i∧zLS ys j)
theorem z2E (xs ys:List Bool):OrB xs ys xs 0:=⟨rfl,fun j=>⟨.inl,fun h=>h.elim id fun h=>absurd h.1 oO⟩⟩
theorem zUp {xs ys m:List Bool} {i:Nat} {v:Bool} (h:OrB xs ys m i) (hi:i < xs.length) (hv:v=true↔zLS m i∨zLS ys i):OrB xs ys (m.set i v) (i+1):=by
 have hl:i < m.length:=by rw[h.len];exact hi
 refine⟨by rw[List.length_set];exact h.len,fun j=>?_⟩
 rw[zLX hl,h.all j,hv,h.all i]
 constructor
 ·rintro (⟨rfl,(h1 | h1) | h1⟩ | ⟨h0,h1 | h1⟩)
  ·exact .inl h1
  ·exact .inr ⟨oO,h1.2⟩
  ·exact .inr ⟨oO,h1⟩
  ·exact .inl h1
  exact .inr ⟨oO,h1.2⟩
 rintro (h1 | ⟨h1,h2⟩)
 ·by_cases e:j=i
  ·subst e;exact .inl ⟨rfl,.inl (.inl h1)⟩
  exact .inr ⟨e,.inl h1⟩
 by_cases e:j=i
 ·subst e;exact .inl ⟨rfl,.inr h2⟩
 exact .inr ⟨e,.inr ⟨oO,h2⟩⟩
theorem zSz {n:Nat} {xs ys m:List Bool} {A B:Nat→Nat→Prop} (ha:RepS n xs A) (hb:RepS n ys B) (h:OrB xs ys m xs.length):RepS n m (fun u v=>A u v∨B u v):=by
 refine⟨by rw[h.len];exact ha.len,fun u v hu hv=>?_⟩
 rw[h.all,ha.rows u v hu hv,hb.rows u v hu hv]
 have:=z2w hu hv
 rw[←ha.len] at this
 exact⟨fun h=>h.elim .inl fun h=>.inr h.2,fun h=>h.elim .inl fun h=>.inr ⟨this,h⟩⟩
theorem z5M {m ys:List Bool} {i:Nat} (h:(m[i]?.getD false)=true):true=true↔zLS m i∨zLS ys i:=⟨fun _=>.inl h,fun _=>rfl⟩
theorem z7V {m ys:List Bool} {i:Nat} (h:(m[i]?.getD false)=false):(ys[i]?.getD false)=true↔zLS m i∨zLS ys i:=⟨.inr,fun h9=>h9.elim (fun h8=>by unfold zLS at h8;rw[h] at h8;cases h8) id⟩
theorem z2F (b:Option Addr) (c:Nat) (b2:Option Addr) (m2 c2:Nat) (xs ys:List Bool) {A:Hp} (ho:(gSl 4 gB).ow [.slice b xs.length c] xs A) (hl:xs.length=ys.length) (hm:xs.length≤1000) :
  CtR prog 154 [.slice b xs.length c,.slice b2 m2 c2] A (fun H=>(gSl 4 gB).rd H [.slice b2 m2 c2] ys)
   (fun v D=>v = .tuple #[]∧∃ m,OrB xs ys m xs.length∧(gSl 4 gB).ow [.slice b xs.length c] m D):=by
 refine CtR.intro zAh [A] func154 rfl rfl rfl sI fun E H hq=>?_
 obtain⟨rfl,hcb,hlb⟩:=zAp hq
 apply zAg (α:=(Nat)×(List Bool)×(Hp)) zAh [5,6,7,8,11,12,13,14,15,16,17,18,19,20,21,22,23,9,10,4] (fun z=>[(4,.v (.int .i64 z.1))]) (fun z=>[]) (fun z=>[z.2.2,H]) (fun z=>xs.length-z.1) (fun z=>z.1≤xs.length∧OrB xs ys z.2.1 z.1∧(gSl 4 gB).ow [.slice b xs.length c] z.2.1 z.2.2) ((0,xs,A))
 ·exact frI
 ·exact trivial
 ·try dsimp only
  exact⟨Nat.zero_le _,z2E _ _,ho⟩
 ·exact .refl _
 rintro ⟨i,m,W⟩ hI
 try dsimp only at hI
 obtain⟨hi,hI,oW⟩:=hI
 try dsimp only
 constructor<;>intro q0
 ·simp at q0
  have hml:=hI.len
  refine zAf (Gt.owrd _ oW) ?_ ?_ fun b1 o1 hb1=>?_
  ·omega
  ·omega
  refine zAd false (i) rfl (Gt.owrd _ oW) ?_ ?_ hb1 rfl (zAa 0 rfl) fun l2 hl2=>?_
  ·omega
  ·omega
  obtain⟨rfl,hw2⟩:=hl2
  constructor<;>intro q3
  ·refine zAf (Gt.owrd _ oW) ?_ ?_ fun b4 o4 hb4=>?_
   ·omega
   ·omega
   refine zBq (Fld.id _) false (i) 0 rfl rfl oW ?_ ?_ hb4 rfl zN4 _ (zH2 trivial) fun A5 o5=>?_
   ·omega
   ·omega
   apply zAb (i+1,m.set i true,_)
   ·exact .refl _
   ·exact frI
   ·exact trivial
   ·try dsimp only
    exact⟨oO,zUp hI oO (z5M aA),aA⟩
   try dsimp only
   omega
  refine zAf hq ?_ ?_ fun b6 o6 hb6=>?_
  ·omega
  ·omega
  refine zAd false (i) rfl hq ?_ ?_ hb6 rfl (zAa 1 rfl) fun l7 hl7=>?_
  ·omega
  ·omega
  obtain⟨rfl,hw7⟩:=hl7
  refine zAf (Gt.owrd _ oW) ?_ ?_ fun b8 o8 hb8=>?_
  ·omega
  ·omega
  refine zBq (Fld.id _) false (i) 0 rfl rfl oW ?_ ?_ hb8 rfl zN4 _ (zH2 trivial) fun A9 o9=>?_
  ·omega
  ·omega
  apply zAb (i+1,m.set i (ys[i]?.getD false),_)
  ·exact .refl _
  ·exact frI
  ·exact trivial
  ·try dsimp only
   exact⟨oO,zUp hI oO (z7V aA),aA⟩
  try dsimp only
  omega
 simp at q0
 (have hie:i=xs.length:=oO;subst hie;exact⟨W,⟨rfl,m,hI,oW⟩,rlB⟩)
end
section
attribute [local irreducible] IntKind.wrap zA2
structure BehI (n:Nat) (A B:Nat→Nat→Prop) (i k j:Nat) (m:List Bool):Prop where
 len:m.length=n * n
 rows:∀ u v:Nat,u < n→v < n→(zLS m (u * n+v)↔∃ w,w < n∧A u w∧B w v∧(u < i∨(u=i∧(w < k∨(w=k∧v < j)))))
theorem z2G {n N:Nat} (hN:N=n * n) (A B:Nat→Nat→Prop):BehI n A B 0 0 0 (List.replicate N false):=
 ⟨by rw[List.length_replicate];exact hN,fun u v _ _=>⟨fun h=>absurd h zUd,fun ⟨w,_,_,_,h⟩=>absurd h oO⟩⟩
theorem zUq {n:Nat} {A B:Nat→Nat→Prop} {i k j:Nat} {m:List Bool} {x:Bool} (h:BehI n A B i k j m) (hi:i < n) (hk:k < n) (hj:j < n) (ha:A i k) (hx:x=true↔zLS m (i * n+j)∨B k j):BehI n A B i k (j+1) (m.set (i * n+j) x):=by
 have hl:i * n+j < m.length:=by rw[h.len];exact z2w hi hj
 refine⟨by rw[List.length_set];exact h.len,fun u v hu hv=>?_⟩
 rw[zLX hl,hx,h.rows u v hu hv,h.rows i j hi hj]
 constructor
 ·rintro (⟨e,⟨w,h1,h2,h3,h4⟩ | h5⟩ | ⟨_,w,h1,h2,h3,h4⟩)
  ·obtain⟨rfl,rfl⟩:=zUc hv hj e
   exact⟨w,h1,h2,h3,oO⟩
  ·obtain⟨rfl,rfl⟩:=zUc hv hj e
   exact⟨k,hk,ha,h5,oO⟩
  exact⟨w,h1,h2,h3,oO⟩
 rintro ⟨w,h1,h2,h3,h4⟩
 by_cases e:u * n+v=i * n+j
 ·obtain⟨rfl,rfl⟩:=zUc hv hj e
  refine .inl ⟨rfl,?_⟩
  rcases (by omega:w < k∨w=k) with h5|rfl
  ·exact .inl ⟨w,h1,h2,h3,oO⟩
  exact .inr h3
 refine .inr ⟨e,w,h1,h2,h3,?_⟩
 rcases (by omega:u < i∨(u=i∧w < k)∨(u=i∧w=k∧v < j)∨(u=i∧w=k∧v=j)) with h5|h5|h5|h5
 ·omega
 ·omega
 ·omega
 obtain⟨rfl,_,rfl⟩:=h5;exact absurd rfl e
theorem z2H {n:Nat} {A B:Nat→Nat→Prop} {i k j:Nat} {m:List Bool} (h:BehI n A B i k j m) (hj:n≤j):BehI n A B i (k+1) 0 m:=
 ⟨h.len,fun u v hu hv=>(h.rows u v hu hv).trans ⟨fun ⟨w,h1,h2,h3,h4⟩=>⟨w,h1,h2,h3,oO⟩,fun ⟨w,h1,h2,h3,h4⟩=>⟨w,h1,h2,h3,oO⟩⟩⟩
theorem z2I {n:Nat} {A B:Nat→Nat→Prop} {i k j:Nat} {m:List Bool} (h:BehI n A B i k j m) (hn:¬A i k):BehI n A B i (k+1) 0 m:=
 ⟨h.len,fun u v hu hv=>(h.rows u v hu hv).trans ⟨fun ⟨w,h1,h2,h3,h4⟩=>⟨w,h1,h2,h3,oO⟩,fun ⟨w,h1,h2,h3,h4⟩=>⟨w,h1,h2,h3,by
  rcases (by omega:u < i∨(u=i∧w < k)∨(u=i∧w=k)) with h5|h5|⟨rfl,rfl⟩
  ·exact .inl h5
  ·exact .inr ⟨h5.1,.inl h5.2⟩
  exact absurd h2 hn⟩⟩⟩
theorem z5N {n:Nat} {A B:Nat→Nat→Prop} {i k:Nat} {m:List Bool} (h:BehI n A B i k 0 m) (hk:n≤k):BehI n A B (i+1) 0 0 m:=
 ⟨h.len,fun u v hu hv=>(h.rows u v hu hv).trans ⟨fun ⟨w,h1,h2,h3,h4⟩=>⟨w,h1,h2,h3,oO⟩,fun ⟨w,h1,h2,h3,h4⟩=>⟨w,h1,h2,h3,oO⟩⟩⟩
theorem z5O {n:Nat} {A B:Nat→Nat→Prop} {i:Nat} {m:List Bool} (h:BehI n A B i 0 0 m) (hi:n≤i):RepS n m (zJS n A B):=
 ⟨h.len,fun u v hu hv=>(h.rows u v hu hv).trans ⟨fun ⟨w,h1,h2,h3,_⟩=>⟨w,h1,h2,h3⟩,fun ⟨w,h1,h2,h3⟩=>⟨w,h1,h2,h3,oO⟩⟩⟩
theorem zQ6 {n u v:Nat} (hn:n≤12) (hu:u < n) (hv:v < n):u * n+v < n * n∧n * n≤144:=⟨z2w hu hv,Nat.mul_le_mul hn hn⟩
theorem zUr {n i k:Nat} (h:i * n+k < 144):IntKind.i64.wrap (IntKind.i64.wrap ((i:Int) * (n:Int))+(k:Int))=((i * n+k:Nat):Int):=by
 have h1:(i:Int) * (n:Int)=((i * n:Nat):Int):=(Int.natCast_mul ..).symm
 have h2:IntKind.i64.wrap ((i * n:Nat):Int)=((i * n:Nat):Int):=zAc oO oO
 rw[h1,h2,zAc oO oO];omega
theorem zNL (n i k:Nat):((i:Int) * (n:Int)+(k:Int)).toNat=i * n+k:=by
 have h1:(i:Int) * (n:Int)=((i * n:Nat):Int):=(Int.natCast_mul ..).symm
 rw[h1];omega
theorem zL4 {m:List Bool} {p q:Nat} (h:(m[p]?.getD false)=true) (e:p=q):zLS m q:=by subst e;exact h
theorem zKw {m:List Bool} {p q:Nat} (h:(m[p]?.getD false)=false) (e:p=q):¬zLS m q:=by subst e;unfold zLS;rw[h];decide
theorem z7W {m xb:List Bool} {p q p' q':Nat} {B:Prop} (h:(m[p]?.getD false)=false) (e:p=p') (hb:zLS xb q'↔B) (e2:q=q'):(xb[q]?.getD false)=true↔zLS m p'∨B:=by
 subst e2
 exact⟨fun h1=>.inr (hb.1 h1),fun h1=>h1.elim (fun h2=>absurd h2 (zKw h e)) hb.2⟩
theorem zQ7 (b1:Option Addr) (m1 c1:Nat) (b2:Option Addr) (m2 c2:Nat) (n:Nat) (xa xb:List Bool) (A B:Nat→Nat→Prop) (hn:1≤n∧n≤12) (ra:RepS n xa A) (rb:RepS n xb B) :
  Ct prog 153 [.slice b1 m1 c1,.slice b2 m2 c2,.int .i64 (n:Int)] [] (fun H=>(gSl 4 gB).rd H [.slice b1 m1 c1] xa∧(gSl 4 gB).rd H [.slice b2 m2 c2] xb)
   (fun v D=>∃ b c m,v = .slice b m.length c∧(gSl 4 gB).ow [.slice b m.length c] m D∧RepS n m (zJS n A B)):=by
 refine Ct.intro0 zAh func153 rfl rfl rfl fun E H hp=>?_
 obtain⟨hp,hq⟩:=hp
 obtain⟨rfl,hca,hla⟩:=zAp hp
 obtain⟨rfl,hcb,hlb⟩:=zAp hq
 have hna:=ra.len
 have hnb:=rb.len
 have hnn:n * n≤144:=Nat.mul_le_mul hn.2 hn.2
 have hw0:IntKind.i64.wrap ((n:Int) * (n:Int))=((n * n:Nat):Int):=by rw[Int.natCast_mul,zAc]<;>(rw[←Int.natCast_mul];omega)
 have hNN:(IntKind.i64.wrap ((n:Int) * (n:Int))).toNat=n * n:=by rw[hw0];omega
 refine VCmake.intro ?_ ?_ ?_ ?_ fun x0=>?_
 ·(simp (disch:=omega) only[zAc];omega)
 ·(simp (disch:=omega) only[zAc];omega)
 ·(simp (disch:=omega) only[zAc];omega)
 ·(simp (disch:=omega) only[zAc];omega)
 apply zAg (α:=(Nat)×(List Bool)×(Hp)) zAh [15,16,17,9,20,21,22,10,25,26,27,28,29,30,31,32,33,34,35,36,37,40,41,42,43,44,45,46,47,48,49,50,51,52,53,54,55,56,57,58,59,60,61,62,63,64,38,39,23,24,18,19,8] (fun z=>[(8,.v (.int .i64 z.1))]) (fun z=>[]) (fun z=>[z.2.2,H]) (fun z=>n-z.1) (fun z=>z.1≤n∧BehI n A B z.1 0 0 z.2.1∧(gSl 4 gB).ow [.slice (some ⟨x0,0,none⟩) (IntKind.i64.wrap ((n:Int) * (n:Int))).toNat (IntKind.i64.wrap ((n:Int) * (n:Int))).toNat] z.2.1 z.2.2) ((0,List.replicate (IntKind.i64.wrap ((n:Int) * (n:Int))).toNat false,_))
 ·exact frI
 ·exact trivial
 ·try dsimp only
  exact⟨Nat.zero_le _,z2G hNN _ _,zEY (g:=gB) (T:=4) (z:=false) (lz:=[.bool false]) (zH2 (x:=false) trivial) (Nat.le_refl _) oO⟩
 ·exact .refl _
 rintro ⟨i,m,W⟩ hI
 try dsimp only at hI
 obtain⟨hi,hI,oW⟩:=hI
 try dsimp only
 constructor<;>intro q1
 ·simp at q1
  apply zAg (α:=(Nat)×(List Bool)×(Hp)) zAh [20,21,22,10,25,26,27,28,29,30,31,32,33,34,35,36,37,40,41,42,43,44,45,46,47,48,49,50,51,52,53,54,55,56,57,58,59,60,61,62,63,64,38,39,23,24,9] (fun z=>[(9,.v (.int .i64 z.1))]) (fun z=>[]) (fun z=>[z.2.2,H]) (fun z=>n-z.1) (fun z=>z.1≤n∧BehI n A B i z.1 0 z.2.1∧(gSl 4 gB).ow [.slice (some ⟨x0,0,none⟩) (IntKind.i64.wrap ((n:Int) * (n:Int))).toNat (IntKind.i64.wrap ((n:Int) * (n:Int))).toNat] z.2.1 z.2.2) ((0,m,W))
  ·exact frI
  ·exact trivial
  ·try dsimp only
   exact⟨Nat.zero_le _,hI,oW⟩
  ·exact .refl _
  rintro ⟨k,m1,W1⟩ hI
  try dsimp only at hI
  obtain⟨hk,hK,oW1⟩:=hI
  try dsimp only
  constructor<;>intro q2
  ·simp at q2
   have hsk:=zQ6 hn.2 (u:=i) (v:=k) oO oO
   have hwk:=zUr (n:=n) (i:=i) (k:=k) oO
   have hwkn:(IntKind.i64.wrap (IntKind.i64.wrap ((i:Int) * (n:Int))+(k:Int))).toNat=i * n+k:=by rw[hwk];omega
   apply zAg (α:=(Nat)×(List Bool)×(Hp)) zAh [25,26,27,28,29,30,31,32,33,34,35,36,37,40,41,42,43,44,45,46,47,48,49,50,51,52,53,54,55,56,57,58,59,60,61,62,63,64,38,39,10] (fun z=>[(10,.v (.int .i64 z.1))]) (fun z=>[]) (fun z=>[z.2.2,H]) (fun z=>n-z.1) (fun z=>z.1≤n∧BehI n A B i k z.1 z.2.1∧(gSl 4 gB).ow [.slice (some ⟨x0,0,none⟩) (IntKind.i64.wrap ((n:Int) * (n:Int))).toNat (IntKind.i64.wrap ((n:Int) * (n:Int))).toNat] z.2.1 z.2.2) ((0,m1,W1))
   ·exact frI
   ·exact trivial
   ·try dsimp only
    exact⟨Nat.zero_le _,hK,oW1⟩
   ·exact .refl _
   rintro ⟨j,m2,W2⟩ hI
   try dsimp only at hI
   obtain⟨hj,hJ,oW2⟩:=hI
   try dsimp only
   constructor<;>intro q3
   ·simp at q3
    have hsj:=zQ6 hn.2 (u:=i) (v:=j) oO oO
    have hwj:=zUr (n:=n) (i:=i) (k:=j) oO
    have hwjn:(IntKind.i64.wrap (IntKind.i64.wrap ((i:Int) * (n:Int))+(j:Int))).toNat=i * n+j:=(by rw[hwj];omega)
    have hsb:=zQ6 hn.2 (u:=k) (v:=j) oO oO
    have hwb:=zUr (n:=n) (i:=k) (k:=j) oO
    have hwbn:(IntKind.i64.wrap (IntKind.i64.wrap ((k:Int) * (n:Int))+(j:Int))).toNat=k * n+j:=(by rw[hwb];omega)
    have hml:=hJ.len
    refine zAf hp ?_ ?_ fun b4 o4 hb4=>?_
    ·(simp (disch:=omega) only[zAc];omega)
    ·(simp (disch:=omega) only[zAc];omega)
    refine zAF false hp ?_ ?_ hb4 rfl (zAa 1 rfl) fun l5 hl5=>?_
    ·(simp (disch:=omega) only[zAc];omega)
    ·(simp (disch:=omega) only[zAc];omega)
    obtain⟨rfl,hw5⟩:=hl5
    constructor<;>intro q6
    ·simp (disch:=omega) only[zAc] at q6
     refine zAf (Gt.owrd _ oW2) ?_ ?_ fun b7 o7 hb7=>?_
     ·(simp (disch:=omega) only[zAc];omega)
     ·(simp (disch:=omega) only[zAc];omega)
     refine zAF false (Gt.owrd _ oW2) ?_ ?_ hb7 rfl (zAa 0 rfl) fun l8 hl8=>?_
     ·(simp (disch:=omega) only[zAc];omega)
     ·(simp (disch:=omega) only[zAc];omega)
     obtain⟨rfl,hw8⟩:=hl8
     constructor<;>intro q9
     ·simp (disch:=omega) only[zAc] at q9
      refine zAf (Gt.owrd _ oW2) ?_ ?_ fun b10 o10 hb10=>?_
      ·(simp (disch:=omega) only[zAc];omega)
      ·(simp (disch:=omega) only[zAc];omega)
      refine zBq (Fld.id _) false (Int.toNat (IntKind.i64.wrap (IntKind.i64.wrap ((↑i:Int) * (↑n:Int))+(↑j:Int)))) 0 rfl (Int.toNat_of_nonneg ?_).symm oW2 ?_ ?_ hb10 rfl zN4 _ (zH2 trivial) fun A11 o11=>?_
      ·(simp (disch:=omega) only[zAc];omega)
      ·(simp (disch:=omega) only[zAc];omega)
      ·(simp (disch:=omega) only[zAc];omega)
      apply zAb (j+1,m2.set (IntKind.i64.wrap (IntKind.i64.wrap ((i:Int) * (n:Int))+(j:Int))).toNat true,_)
      ·exact .refl _
      ·exact frI
      ·exact trivial
      ·try dsimp only
       exact⟨oO,by rw[hwjn];exact zUq hJ oO oO oO ((ra.rows i k oO oO).1 (zL4 aA (zNL n i k))) ⟨fun _=>.inl (zL4 aA (zNL n i j)),fun _=>rfl⟩,aA⟩
      try dsimp only
      omega
     simp (disch:=omega) only[zAc] at q9
     refine zAf hq ?_ ?_ fun b12 o12 hb12=>?_
     ·(simp (disch:=omega) only[zAc];omega)
     ·(simp (disch:=omega) only[zAc];omega)
     refine zAF false hq ?_ ?_ hb12 rfl (zAa 1 rfl) fun l13 hl13=>?_
     ·(simp (disch:=omega) only[zAc];omega)
     ·(simp (disch:=omega) only[zAc];omega)
     obtain⟨rfl,hw13⟩:=hl13
     refine zAf (Gt.owrd _ oW2) ?_ ?_ fun b14 o14 hb14=>?_
     ·(simp (disch:=omega) only[zAc];omega)
     ·(simp (disch:=omega) only[zAc];omega)
     refine zBq (Fld.id _) false (Int.toNat (IntKind.i64.wrap (IntKind.i64.wrap ((↑i:Int) * (↑n:Int))+(↑j:Int)))) 0 rfl (Int.toNat_of_nonneg ?_).symm oW2 ?_ ?_ hb14 rfl zN4 _ (zH2 trivial) fun A15 o15=>?_
     ·(simp (disch:=omega) only[zAc];omega)
     ·(simp (disch:=omega) only[zAc];omega)
     ·(simp (disch:=omega) only[zAc];omega)
     apply zAb (j+1,m2.set (IntKind.i64.wrap (IntKind.i64.wrap ((i:Int) * (n:Int))+(j:Int))).toNat (xb[(IntKind.i64.wrap (IntKind.i64.wrap ((k:Int) * (n:Int))+(j:Int))).toNat]?.getD false),_)
     ·exact .refl _
     ·exact frI
     ·exact trivial
     ·try dsimp only
      exact⟨oO,by rw[hwjn];exact zUq hJ oO oO oO ((ra.rows i k oO oO).1 (zL4 aA (zNL n i k))) (z7W aA (zNL n i j) (rb.rows k j oO oO) hwbn),aA⟩
     try dsimp only
     omega
    simp (disch:=omega) only[zAc] at q6
    apply zAb (k+1,m2,W2)
    ·exact .refl _
    ·exact frI
    ·exact trivial
    ·try dsimp only
     exact⟨oO,z2I hJ (mt (ra.rows i k oO oO).2 (zKw aA (zNL n i k))),oW2⟩
    try dsimp only
    omega
   simp at q3
   apply zAb (k+1,m2,W2)
   ·exact .refl _
   ·exact frI
   ·exact trivial
   ·try dsimp only
    exact⟨oO,z2H hJ oO,oW2⟩
   try dsimp only
   omega
  simp at q2
  apply zAb (i+1,m1,W1)
  ·exact .refl _
  ·exact frI
  ·exact trivial
  ·try dsimp only
   exact⟨oO,z5N hK oO,oW1⟩
  try dsimp only
  omega
 simp at q1
 (have hal:(IntKind.i64.wrap ((n:Int) * (n:Int))).toNat=m.length:=(by rw[hI.len];exact hNN);rw[hal] at oW ⊢;exact⟨W,⟨_,_,m,rfl,oW,z5O hI oO⟩,rlB⟩)
end
section
attribute [local irreducible] zA2
theorem RepS.congr {n:Nat} {m:List Bool} {R S:Nat→Nat→Prop} (h:RepS n m R) (e:∀ u v,u < n→v < n→(R u v↔S u v)):RepS n m S:=⟨h.len,fun u v hu hv=>(h.rows u v hu hv).trans (e u v hu hv)⟩
theorem zSA {n N:Nat} (hN:N=n * n) {R:Nat→Nat→Prop} (h:∀ u v,¬R u v):RepS n (List.replicate N false) R:=
 ⟨by rw[List.length_replicate];exact hN,fun u v _ _=>⟨fun h1=>absurd h1 zUd,fun h1=>absurd h1 (h u v)⟩⟩
theorem z3G {n a b:Nat} {m:List Bool} {R:Nat→Nat→Prop} (h:RepS n m R) (ha:a < n) (hb:b < n):RepS n (m.set (a * n+b) true) (fun u v=>R u v∨(u=a∧v=b)):=by
 have hl:a * n+b < m.length:=by rw[h.len];exact z2w ha hb
 refine⟨by rw[List.length_set];exact h.len,fun u v hu hv=>?_⟩
 rw[zLX hl,h.rows u v hu hv]
 constructor
 ·rintro (⟨e,_⟩ | ⟨_,h1⟩)
  ·exact .inr (zUc hv hb e)
  exact .inl h1
 rintro (h1 | ⟨rfl,rfl⟩)
 ·by_cases e:u * n+v=a * n+b
  ·exact .inl ⟨e,rfl⟩
  exact .inr ⟨e,h1⟩
 exact .inl ⟨rfl,rfl⟩
theorem z2J {n N:Nat} (hN:N=n * n) (es:List Edge) (lb:UInt8):RepS n (List.replicate N false) (zEJ (es.take 0) lb):=
 zSA hN fun u v ⟨e,h,_⟩=>by rw[List.take_zero] at h;cases h
theorem z2K {n:Nat} {es:List Edge} {lb:UInt8} {i:Nat} {m:List Bool} (hi:i < es.length) (h:RepS n m (zEJ (es.take i) lb)) (h2:¬(es[i]?.getD default).label=lb):RepS n m (zEJ (es.take (i+1)) lb):=
 h.congr fun u v _ _=>by
  constructor
  ·rintro ⟨x,h3,h4⟩;exact⟨x,(zC9 hi).2 (.inl h3),h4⟩
  rintro ⟨x,h3,h4,h5⟩
  rcases (zC9 hi).1 h3 with h7|rfl
  ·exact⟨x,h7,h4,h5⟩
  exact absurd h4 h2
theorem z5P {n:Nat} {es:List Edge} {lb:UInt8} {i:Nat} {m:List Bool} (hE:z2k n es) (hi:i < es.length) (h:RepS n m (zEJ (es.take i) lb)) (h2:(es[i]?.getD default).label=lb) :
  RepS n (m.set ((es[i]?.getD default).from'.toNat * n+(es[i]?.getD default).to.toNat) true) (zEJ (es.take (i+1)) lb):=by
 obtain⟨r1,r2,r3,r4⟩:=zO1 hE hi
 refine (z3G h (a:=(es[i]?.getD default).from'.toNat) (b:=(es[i]?.getD default).to.toNat) oO oO).congr fun u v _ _=>?_
 constructor
 ·rintro (⟨x,h3,h4⟩ | ⟨rfl,rfl⟩)
  ·exact⟨x,(zC9 hi).2 (.inl h3),h4⟩
  exact⟨_,(zC9 hi).2 (.inr rfl),h2,oO,oO⟩
 rintro ⟨x,h3,h4,h5,h6⟩
 rcases (zC9 hi).1 h3 with h7|rfl
 ·exact .inl ⟨x,h7,h4,h5,h6⟩
 exact .inr ⟨oO,oO⟩
def zSB (R:Nat→Nat→Prop) (k u v:Nat):Prop:=R u v∨(u=v∧u < k)
theorem zQ8 {n:Nat} {m:List Bool} {R:Nat→Nat→Prop} (h:RepS n m R):RepS n m (zSB R 0):=h.congr fun u v _ _=>⟨.inl,fun h=>h.elim id fun h=>absurd h.2 oO⟩
theorem zQ9 {n k:Nat} {m:List Bool} {R:Nat→Nat→Prop} (h:RepS n m (zSB R k)) (hk:k < n):RepS n (m.set (k * n+k) true) (zSB R (k+1)):=
 (z3G h hk hk).congr fun u v _ _=>by
  unfold zSB
  constructor
  ·rintro ((h1 | h1) | ⟨rfl,rfl⟩)
   ·exact .inl h1
   ·exact .inr ⟨h1.1,oO⟩
   exact .inr ⟨rfl,oO⟩
  rintro (h1 | ⟨rfl,h1⟩)
  ·exact .inl (.inl h1)
  rcases (by omega:u < k∨u=k) with h2|rfl
  ·exact .inl (.inr ⟨rfl,h2⟩)
  exact .inr ⟨rfl,rfl⟩
theorem zKx {n k:Nat} {m:List Bool} {R:Nat→Nat→Prop} (h:RepS n m (zSB R k)) (hk:n≤k):RepS n m (fun u v=>u=v∨R u v):=
 h.congr fun u v hu _=>⟨fun h1=>h1.elim .inr fun h2=>.inl h2.1,fun h1=>h1.elim (fun h2=>.inr ⟨h2,oO⟩) .inl⟩
structure AllS (n:Nat) (es:List Edge) (ps:List Piece) (i:Nat) (all:List (List Bool)):Prop where
 len:all.length=i
 rel:∀ q:Nat,q < i→RepS n (all[q]?.getD []) (zA2 es n ps q)
theorem zZu (n:Nat) (es:List Edge) (ps:List Piece):AllS n es ps 0 []:=⟨rfl,fun q h=>absurd h oO⟩
theorem zD2 {n:Nat} {es:List Edge} {ps:List Piece} {i:Nat} {all:List (List Bool)} {m:List Bool} (h:AllS n es ps i all) (hm:RepS n m (zA2 es n ps i)):AllS n es ps (i+1) (all++[m]):=by
 have hl:=h.len
 refine⟨by rw[List.length_append,hl];rfl,fun q hq=>?_⟩
 rcases (by omega:q < i∨q=i) with h1|rfl
 ·rw[List.getElem?_append_left oO];exact h.rel q h1
 rw[List.getElem?_append_right oO,hl,Nat.sub_self];exact hm
theorem z2L {es:List Edge} {n:Nat} {ps:List Piece} {ks:List Int} {m:List Bool} (hk:0 < ks.length) (h:RepS n m (zA2 es n ps (ks[0]?.getD 0).toNat)):RepS n m (z5G es n ps (ks.take 1)):=by
 have h1:=zLZ (es:=es) (n:=n) (ps:=ps) hk
 rw[Nat.zero_add] at h1
 rw[h1]
 refine h.congr fun u v hu _=>?_
 constructor
 ·intro h2;exact⟨u,hu,by rw[List.take_zero];rfl,h2⟩
 rintro ⟨w,_,h3,h4⟩
 rw[List.take_zero] at h3
 have h5:u=w:=h3
 rw[h5];exact h4
def z6b (n:Nat) (R:Nat→Nat→Prop) (u v:Nat):Prop:=u < n∧v < n∧R u v
theorem z8p {n:Nat} {R:Nat→Nat→Prop} {u v:Nat} (hu:u < n) (hv:v < n):TC n (z6b n R) u v↔TC n R u v:=by
 constructor
 ·intro h
  clear hv
  induction h with
  | one h=>exact .one h.2.2
  | more _ hw h2 ih=>exact .more ih hw h2.2.2
 intro h
 induction h with
 | one h=>exact .one ⟨hu,hv,h⟩
 | more _ hw h2 ih=>exact .more (ih hw) hw ⟨hw,hv,h2⟩
theorem z3H {n:Nat} {m:List Bool} {R:Nat→Nat→Prop} (h:RepS n m R):RepS n m (z6b n R):=h.congr fun u v hu hv=>⟨fun h=>⟨hu,hv,h⟩,fun h=>h.2.2⟩
theorem zZv {n:Nat} {m:List Bool} {R:Nat→Nat→Prop} (h:RepS n m R):RepS n m (zDI n (z6b n R) 0):=z3H h
theorem z2M {n:Nat} {m:List Bool} {R:Nat→Nat→Prop} (h:RepS n m (zDI n (z6b n R) 0)):RepS n m R:=h.congr fun u v hu hv=>⟨fun h=>h.2.2,fun h=>⟨hu,hv,h⟩⟩
theorem z2N {n:Nat} {m:List Bool} {R:Nat→Nat→Prop} (h:RepS n m (zDI n (z6b n R) n)):RepS n m (TC n R):=
 h.congr fun u v hu hv=>(z2m fun _ _ h=>⟨h.1,h.2.1⟩).trans (z8p hu hv)
theorem zZw {n k:Nat} {m mB mO:List Bool} {R:Nat→Nat→Prop} (h:RepS n m (zDI n R k)) (hB:RepS n mB (zJS n (zDI n R k) R)) (hO:OrB m mB mO m.length):RepS n mO (zDI n R (k+1)):=zSz h hB hO
end
section
attribute [local irreducible] IntKind.wrap zA2
theorem zUs {n:Nat} {a s b:Int} (hs:s=n) (hn:n≤12) (ha:0≤a∧a < n) (hb:0≤b∧b < n):IntKind.i64.wrap (IntKind.i64.wrap (a * s)+b)=((a.toNat * n+b.toNat:Nat):Int):=by
 obtain⟨a',rfl⟩:=Int.eq_ofNat_of_zero_le ha.1
 obtain⟨b',rfl⟩:=Int.eq_ofNat_of_zero_le hb.1
 subst hs
 have h1:=zQ6 hn (u:=a') (v:=b') oO oO
 rw[Int.toNat_natCast,Int.toNat_natCast]
 exact zUr oO
theorem zIA (b1:Option Addr) (m1 c1:Nat) (b2:Option Addr) (m2 c2:Nat) (s:Int) (n:Nat) (hs:s=n) (xa xb:List Bool) (A B:Nat→Nat→Prop) (hn:1≤n∧n≤12) (ra:RepS n xa A) (rb:RepS n xb B) :
  Ct prog 153 [.slice b1 m1 c1,.slice b2 m2 c2,.int .i64 s] [] (fun H=>(gSl 4 gB).rd H [.slice b1 m1 c1] xa∧(gSl 4 gB).rd H [.slice b2 m2 c2] xb)
   (fun v D=>∃ b c m,v = .slice b m.length c∧(gSl 4 gB).ow [.slice b m.length c] m D∧RepS n m (zJS n A B)):=by
 subst hs;exact zQ7 b1 m1 c1 b2 m2 c2 n xa xb A B hn ra rb
theorem zL5 (N:Nat) (b:Option Addr) (c:Nat) (b2:Option Addr) (m2 c2:Nat) (xs ys:List Bool) {A:Hp} (ho:(gSl 4 gB).ow [.slice b N c] xs A) (hN:N=xs.length) (hl:xs.length=ys.length) (hm:xs.length≤1000) :
  CtR prog 154 [.slice b N c,.slice b2 m2 c2] A (fun H=>(gSl 4 gB).rd H [.slice b2 m2 c2] ys)
   (fun v D=>v = .tuple #[]∧∃ m,OrB xs ys m xs.length∧(gSl 4 gB).ow [.slice b N c] m D):=by
 subst hN;exact z2F b c b2 m2 c2 xs ys ho hl hm
theorem zNM (lg lp:List Value) (g:Graph) (x:Path) (hg:zAH g=true) (hx:zAV x=true) :
  Ct prog 107 [.agg ⟨lg⟩,.agg ⟨lp⟩] [] (fun H=>zBz.rd H lg g∧zH4.rd H lp x)
   (fun v D=>∃ b c all,v = .slice b all.length c∧(gSl 167 (gSl 4 gB)).ow [.slice b all.length c] all D∧AllS g.size.toNat g.edges x.pieces x.pieces.length all):=by
 refine Ct.intro0 zAh func107 rfl rfl rfl fun E H hp=>?_
 obtain⟨hp,hq⟩:=hp
 obtain⟨hp1,hp2,hps⟩:=zA7 hx
 have hkb:=zUe hps
 obtain⟨hg1,hg2,hE⟩:=zEa hg
 obtain⟨n,hn⟩:∃ n:Nat,g.size.toNat=n:=⟨_,rfl⟩
 have hgs:g.size=(n:Int):=by omega
 rw[hn] at hE ⊢
 have h12:n≤12:=by omega
 have hnn:n * n≤144:=Nat.mul_le_mul h12 h12
 have hw0:IntKind.i64.wrap (g.size * g.size)=((n * n:Nat):Int):=by rw[hgs,Int.natCast_mul,zAc]<;>(rw[←Int.natCast_mul];omega)
 have hNN:(IntKind.i64.wrap (g.size * g.size)).toNat=n * n:=by rw[hw0];omega
 obtain⟨b1p,c1p,rfl,w0p,h1p⟩:=zAY.1 hp
 obtain⟨b0r,c0r,rfl,h0r⟩:=zBM.1 hq
 refine⟨fun x0=>?_⟩
 refine⟨fun x1=>?_⟩
 refine⟨fun x2=>?_⟩
 apply zAg (α:=(Nat)×(List (List Bool))×(Hp)×(Option Addr)×(Nat)) zAh [18,19,20,21,22,25,26,27,28,29,8,30,31,32,33,9,34,35,85,84,10,86,87,88,89,90,93,94,95,96,97,98,99,100,101,102,103,104,105,106,107,108,109,110,111,112,113,114,115,116,117,118,91,92,120,119,121,122,123,124,125,126,127,128,129,11,130,131,132,133,134,137,138,139,140,141,142,143,144,145,146,147,135,136,149,148,12,150,151,152,153,154,157,158,159,160,161,162,163,164,165,166,155,156,36,37,38,39,40,41,42,43,44,13,45,46,47,48,49,50,51,52,55,56,57,58,59,60,61,62,63,64,65,66,53,54,14,67,68,69,70,71,72,73,74,77,78,79,80,81,82,83,75,76,167,168,169,170,6,23,24,7] (fun z=>[(7,.v (.int .i64 z.1)),(6,.v (.slice z.2.2.2.1 z.2.1.length z.2.2.2.2))]) (fun z=>[{ id:=x0,cs:=[Value.int IntKind.i64 g.size,Value.slice b1p g.edges.length c1p],ty:=(53:Nat) },{ id:=x1,cs:=[Value.slice b0r x.pieces.length c0r],ty:=(153:Nat) }]) (fun z=>[z.2.2.1,H]) (fun z=>x.pieces.length-z.1) (fun z=>z.1≤x.pieces.length∧AllS n g.edges x.pieces z.1 z.2.1∧(gSl 167 (gSl 4 gB)).ow [.slice z.2.2.2.1 z.2.1.length z.2.2.2.2] z.2.1 z.2.2.1) ((0,[],[],some ⟨x2,0,none⟩,0))
 ·exact frI
 ·exact⟨rfl,rfl,trivial⟩
 ·try dsimp only
  exact⟨Nat.zero_le _,zZu _ _ _,zAm _ _ _⟩
 ·exact .tl
 rintro ⟨i,all,W,lb,lc⟩ hI
 try dsimp only at hI
 obtain⟨hi,hA,oW⟩:=hI
 try dsimp only
 constructor<;>intro q3
 ·simp at q3
  have hpk:=zND (hps i oO)
  have hAl:=hA.len
  obtain⟨hkl,hkk⟩:=hkb i oO
  refine zAf h0r ?_ ?_ fun b4 o4 hb4=>?_
  ·omega
  ·omega
  refine zAd default (i) rfl h0r ?_ ?_ hb4 rfl (zAa 1 rfl) fun l5 hl5=>?_
  ·omega
  ·omega
  obtain⟨b2x5,c2x5,rfl,w0x5,h2x5⟩:=zCX.1 hl5
  refine⟨fun x6=>?_⟩
  refine VCmake.intro ?_ ?_ ?_ ?_ fun x7=>?_
  ·omega
  ·omega
  ·omega
  ·omega
  have o7:=zEY (g:=gB) (T:=4) (z:=false) (lz:=[.bool false]) (b:=x7) (k:=(IntKind.i64.wrap (g.size * g.size)).toNat) (c:=(IntKind.i64.wrap (g.size * g.size)).toNat) (zH2 (x:=false) trivial) (Nat.le_refl _) (by rw[hNN];omega)
  constructor<;>intro q8
  ·simp at q8
   apply zAg (α:=(Nat)×(List Bool)×(Hp)) zAh [86,87,88,89,90,93,94,95,96,97,98,99,100,101,102,103,104,105,106,107,108,109,110,111,112,113,114,115,116,117,118,91,92,10] (fun z=>[(10,.v (.int .i64 z.1))]) (fun z=>[{ id:=x0,cs:=[Value.int IntKind.i64 g.size,Value.slice b1p g.edges.length c1p],ty:=(53:Nat) },{ id:=x1,cs:=[Value.slice b0r x.pieces.length c0r],ty:=(153:Nat) },{ id:=x6,cs:=[Value.int IntKind.i64 (x.pieces[i]?.getD default).op,Value.int IntKind.u8 (↑(x.pieces[i]?.getD default).label.toNat:Int),Value.slice b2x5 (x.pieces[i]?.getD default).kids.length c2x5],ty:=(210:Nat) }]) (fun z=>[z.2.2,W,H]) (fun z=>g.edges.length-z.1) (fun z=>z.1≤g.edges.length∧RepS n z.2.1 (zEJ (g.edges.take z.1) (x.pieces[i]?.getD default).label)∧(gSl 4 gB).ow [.slice (some ⟨x7,0,none⟩) (IntKind.i64.wrap (g.size * g.size)).toNat (IntKind.i64.wrap (g.size * g.size)).toNat] z.2.1 z.2.2) ((0,List.replicate (IntKind.i64.wrap (g.size * g.size)).toNat false,_))
   ·exact frI
   ·exact⟨rfl,rfl,rfl,trivial⟩
   ·try dsimp only
    exact⟨Nat.zero_le _,z2J hNN _ _,aA⟩
   ·exact .refl _
   rintro ⟨k,m,D⟩ hI
   try dsimp only at hI
   obtain⟨hk,hK,oD⟩:=hI
   try dsimp only
   constructor<;>intro q9
   ·simp at q9
    obtain⟨r1,r2,r3,r4⟩:=zO1 hE (i:=k) oO
    have hid:=zUs hgs h12 ⟨r1,r2⟩ ⟨r3,r4⟩
    have hsl:=zQ6 h12 (u:=(g.edges[k]?.getD default).from'.toNat) (v:=(g.edges[k]?.getD default).to.toNat) oO oO
    have hidn:(IntKind.i64.wrap (IntKind.i64.wrap ((g.edges[k]?.getD default).from' * g.size)+(g.edges[k]?.getD default).to)).toNat=(g.edges[k]?.getD default).from'.toNat * n+(g.edges[k]?.getD default).to.toNat:=(by rw[hid];omega)
    have hml:=hK.len
    refine zBr zAh zAK none (.q 0 (.q 1 (.q 2 (.q 3 (.q 4 (.q 5 (.q 6 (.q 7 (.q 8 (.nil)))))))))) (by decide +kernel) ?_
    refine zAf h1p ?_ ?_ fun b10 o10 hb10=>?_
    ·omega
    ·omega
    refine zAw default (k) 1 rfl h1p ?_ ?_ hb10 rfl (by decide) (zAa 2 rfl) fun l11 hl11=>?_
    ·omega
    ·omega
    obtain⟨rfl,w0x11,w2x11⟩:=zBB.1 hl11
    constructor<;>intro q12
    ·simp at q12
     simp only[zAR,zBn,zAZ] at q12
     refine zBr zAh zAK (some 17) (.q 0 (.q 1 (.q 2 (.q 3 (.q 4 (.q 5 (.q 6 (.q 7 (.q 8 (.q 9 (.q 10 (.q 11 (.q 12 (.q 13 (.q 14 (.q 15 (.q 16 (.tl 17 (.nil))))))))))))))))))) (by decide +kernel) ?_
     refine zAf h1p ?_ ?_ fun b13 o13 hb13=>?_
     ·omega
     ·omega
     refine zAw default (k) 0 rfl h1p ?_ ?_ hb13 rfl (by decide) (zAa 2 rfl) fun l14 hl14=>?_
     ·omega
     ·omega
     obtain⟨rfl,w0x14,w2x14⟩:=zBB.1 hl14
     refine zAf h1p ?_ ?_ fun b15 o15 hb15=>?_
     ·omega
     ·omega
     refine zAw default (k) 2 rfl h1p ?_ ?_ hb15 rfl (by decide) (zAa 2 rfl) fun l16 hl16=>?_
     ·omega
     ·omega
     obtain⟨rfl,w0x16,w2x16⟩:=zBB.1 hl16
     refine zAf (Gt.owrd _ oD) ?_ ?_ fun b17 o17 hb17=>?_
     ·omega
     ·omega
     refine zBq (Fld.id _) false (Int.toNat (IntKind.i64.wrap (IntKind.i64.wrap ((g.edges[k]?.getD default).from' * g.size)+(g.edges[k]?.getD default).to))) 0 rfl (Int.toNat_of_nonneg ?_).symm oD ?_ ?_ hb17 rfl zN4 _ (zH2 trivial) fun A18 o18=>?_
     ·omega
     ·omega
     ·omega
     apply zAb (k+1,m.set (IntKind.i64.wrap (IntKind.i64.wrap ((g.edges[k]?.getD default).from' * g.size)+(g.edges[k]?.getD default).to)).toNat true,_)
     ·exact .refl _
     ·exact frI
     ·exact⟨rfl,rfl,rfl,trivial⟩
     ·try dsimp only
      exact⟨oO,by rw[hidn];exact z5P hE oO hK aA,aA⟩
     try dsimp only
     omega
    simp at q12
    simp only[zAR,zBn,zAZ] at q12
    apply zAb (k+1,m,D)
    ·exact .refl _
    ·exact frI
    ·exact⟨rfl,rfl,rfl,trivial⟩
    ·try dsimp only
     exact⟨oO,z2K oO hK aA,oD⟩
    try dsimp only
    omega
   simp at q9
   refine⟨fun x19=>?_⟩
   refine zAC (g:=(gSl 4 gB)) (T:=167) zAh W _ [H] ?_ oW (aA) (List.mem_of_getElem? (i:=0) rfl) rfl rfl rfl rfl rfl rfl rfl rfl ?_ fun b20 c20 A20 o20=>?_
   ·exact rlA
   ·omega
   apply zAb (i+1,all++[m],_,_,_)
   ·exact .refl _
   ·exact frI
   ·exact⟨rfl,rfl,trivial⟩
   ·try dsimp only
    (have hke:k=g.edges.length:=oO;subst hke;rw[List.take_length] at hK;exact⟨oO,zD2 hA (by rw[zNA aA];exact hK),aA⟩)
   try dsimp only
   omega
  simp at q8
  constructor<;>intro q21
  ·simp at q21
   obtain⟨_,hkc,hkn⟩:=zAp h2x5
   have hr0:=(hA.rel _ (hkk _ (zBX (d:=0) (hkl oO))).2).len
   refine⟨fun x22=>?_⟩
   refine zAf h2x5 ?_ ?_ fun b23 o23 hb23=>?_
   ·trivial
   ·omega
   refine zAd 0 (0) rfl h2x5 ?_ ?_ hb23 rfl (zAa 3 rfl) fun l24 hl24=>?_
   ·trivial
   ·omega
   obtain⟨rfl,hw24⟩:=hl24;simp only[zAx,zAs,okI] at hw24
   refine zAf (Gt.owrd _ oW) ?_ ?_ fun b25 o25 hb25=>?_
   ·grind
   ·grind
   refine zAF [] (Gt.owrd _ oW) ?_ ?_ hb25 rfl (zAa 2 rfl) fun l26 hl26=>?_
   ·grind
   ·grind
   obtain⟨u26,w26,rfl,hl26⟩:=zCD hl26
   refine zAn (g:=gB) (T:=4) zAh 2 hl26 (zAm _ _ _) ?_ fun b27 c27 A27 o27=>?_
   ·simp;omega
   apply zAg (α:=(Nat)×(List Bool)×(Hp)×(Option Addr)×(Nat)) zAh [130,131,132,133,134,137,138,139,140,141,142,143,144,145,146,147,9,135,136,11] (fun z=>[(11,.v (.int .i64 z.1)),(9,.v (.slice z.2.2.2.1 z.2.1.length z.2.2.2.2))]) (fun z=>[{ id:=x0,cs:=[Value.int IntKind.i64 g.size,Value.slice b1p g.edges.length c1p],ty:=(53:Nat) },{ id:=x1,cs:=[Value.slice b0r x.pieces.length c0r],ty:=(153:Nat) },{ id:=x6,cs:=[Value.int IntKind.i64 (x.pieces[i]?.getD default).op,Value.int IntKind.u8 (↑(x.pieces[i]?.getD default).label.toNat:Int),Value.slice b2x5 (x.pieces[i]?.getD default).kids.length c2x5],ty:=(210:Nat) }]) (fun z=>[z.2.2.1,W,H]) (fun z=>(x.pieces[i]?.getD default).kids.length-z.1) (fun z=>1≤z.1∧z.1≤(x.pieces[i]?.getD default).kids.length∧RepS n z.2.1 (z5G g.edges n x.pieces ((x.pieces[i]?.getD default).kids.take z.1))∧(gSl 4 gB).ow [.slice z.2.2.2.1 z.2.1.length z.2.2.2.2] z.2.1 z.2.2.1) ((1,[]++(all[((x.pieces[i]?.getD default).kids[0]?.getD 0).toNat]?.getD []),_,_,_))
   ·exact frI
   ·exact⟨rfl,rfl,rfl,trivial⟩
   ·try dsimp only
    exact⟨Nat.le_refl _,hkl oO,z2L (hkl oO) (hA.rel _ (hkk _ (zBX (hkl oO))).2),aA⟩
   ·exact rlA
   rintro ⟨k,m,D,ob,oc⟩ hI
   try dsimp only at hI
   obtain⟨h1k,hk,hK,oD⟩:=hI
   try dsimp only
   constructor<;>intro q28
   ·simp at q28
    have hkj:=hkk ((x.pieces[i]?.getD default).kids[k]?.getD 0) (zBX oO)
    have hr2:=hA.rel _ hkj.2
    refine zAf h2x5 ?_ ?_ fun b29 o29 hb29=>?_
    ·omega
    ·omega
    refine zAd 0 (k) rfl h2x5 ?_ ?_ hb29 rfl (zAa 2 rfl) fun l30 hl30=>?_
    ·omega
    ·omega
    obtain⟨rfl,hw30⟩:=hl30;simp only[zAx,zAs,okI] at hw30
    refine zAf (Gt.owrd _ oW) ?_ ?_ fun b31 o31 hb31=>?_
    ·omega
    ·omega
    refine zAF [] (Gt.owrd _ oW) ?_ ?_ hb31 rfl (zAa 1 rfl) fun l32 hl32=>?_
    ·omega
    ·omega
    obtain⟨u32,w32,rfl,hl32⟩:=zCD hl32
    refine zAi (zIA _ _ _ _ _ _ _ n hgs ((m)) ((all[((x.pieces[i]?.getD default).kids[k]?.getD (0:Int)).toNat]?.getD [])) _ _ ⟨oO,h12⟩ aA aA) ⟨(Rp.mono _ (zAa 0 rfl) (Gt.owrd _ oD)),(Rp.mono _ (zAa 1 rfl) hl32)⟩ ?_
    rintro v33 A33 o33
    obtain⟨bB,cB,mB,rfl,oB,hB⟩:=o33
    apply zAb (k+1,mB,_,bB,cB)
    ·exact .sub (by repeat (first|exact .slnil|apply List.Sublist.cons_cons|apply List.Sublist.cons))
    ·exact frI
    ·exact⟨rfl,rfl,rfl,trivial⟩
    ·try dsimp only
     exact⟨oO,oO,by rw[zLZ oO];exact hB,oB⟩
    try dsimp only
    omega
   simp at q28
   refine⟨fun x34=>?_⟩
   refine zAC (g:=(gSl 4 gB)) (T:=167) zAh W _ [H] ?_ oW (aA) (List.mem_of_getElem? (i:=0) rfl) rfl rfl rfl rfl rfl rfl rfl rfl ?_ fun b35 c35 A35 o35=>?_
   ·exact rlA
   ·omega
   apply zAb (i+1,all++[m],_,_,_)
   ·exact .refl _
   ·exact frI
   ·exact⟨rfl,rfl,trivial⟩
   ·try dsimp only
    (have hke:k=(x.pieces[i]?.getD default).kids.length:=oO;subst hke;rw[List.take_length] at hK;exact⟨oO,zD2 hA (by rw[zQN hkb oO aA];exact hK),aA⟩)
   try dsimp only
   omega
  simp at q21
  constructor<;>intro q36
  ·simp at q36
   obtain⟨_,hkc,hkn⟩:=zAp h2x5
   apply zAg (α:=(Nat)×(List Bool)×(Hp)) zAh [150,151,152,153,154,157,158,159,160,161,162,163,164,165,166,155,156,12] (fun z=>[(12,.v (.int .i64 z.1))]) (fun z=>[{ id:=x0,cs:=[Value.int IntKind.i64 g.size,Value.slice b1p g.edges.length c1p],ty:=(53:Nat) },{ id:=x1,cs:=[Value.slice b0r x.pieces.length c0r],ty:=(153:Nat) },{ id:=x6,cs:=[Value.int IntKind.i64 (x.pieces[i]?.getD default).op,Value.int IntKind.u8 (↑(x.pieces[i]?.getD default).label.toNat:Int),Value.slice b2x5 (x.pieces[i]?.getD default).kids.length c2x5],ty:=(210:Nat) }]) (fun z=>[z.2.2,W,H]) (fun z=>(x.pieces[i]?.getD default).kids.length-z.1) (fun z=>z.1≤(x.pieces[i]?.getD default).kids.length∧RepS n z.2.1 (z6a g.edges n x.pieces ((x.pieces[i]?.getD default).kids.take z.1))∧(gSl 4 gB).ow [.slice (some ⟨x7,0,none⟩) (IntKind.i64.wrap (g.size * g.size)).toNat (IntKind.i64.wrap (g.size * g.size)).toNat] z.2.1 z.2.2) ((0,List.replicate (IntKind.i64.wrap (g.size * g.size)).toNat false,_))
   ·exact frI
   ·exact⟨rfl,rfl,rfl,trivial⟩
   ·try dsimp only
    exact⟨Nat.zero_le _,zSA hNN (fun u v ⟨e,h,_⟩=>by rw[List.take_zero] at h;cases h),aA⟩
   ·exact .refl _
   rintro ⟨k,m,D⟩ hI
   try dsimp only at hI
   obtain⟨hk,hK,oD⟩:=hI
   try dsimp only
   constructor<;>intro q37
   ·simp at q37
    have hkj:=hkk ((x.pieces[i]?.getD default).kids[k]?.getD 0) (zBX oO)
    have hr2:=hA.rel _ hkj.2
    have hml:=hK.len
    have hal2:=hr2.len
    refine zAf h2x5 ?_ ?_ fun b38 o38 hb38=>?_
    ·omega
    ·omega
    refine zAd 0 (k) rfl h2x5 ?_ ?_ hb38 rfl (zAa 2 rfl) fun l39 hl39=>?_
    ·omega
    ·omega
    obtain⟨rfl,hw39⟩:=hl39;simp only[zAx,zAs,okI] at hw39
    refine zAf (Gt.owrd _ oW) ?_ ?_ fun b40 o40 hb40=>?_
    ·omega
    ·omega
    refine zAF [] (Gt.owrd _ oW) ?_ ?_ hb40 rfl (zAa 1 rfl) fun l41 hl41=>?_
    ·omega
    ·omega
    obtain⟨u41,w41,rfl,hl41⟩:=zCD hl41
    refine zA1 (D) [W,H] (zL5 _ _ _ _ _ _ _ ((all[((x.pieces[i]?.getD default).kids[k]?.getD (0:Int)).toNat]?.getD [])) oD ?_ ?_ ?_) ?_ (Rp.mono _ (zAa 0 rfl) hl41) ?_
    ·omega
    ·omega
    ·omega
    ·exact .refl _
    rintro _ A42 ⟨rfl,mO,hO,oOx⟩
    refine⟨[A42],by simp,?_⟩
    apply zAb (k+1,mO,_)
    ·exact .refl _
    ·exact frI
    ·exact⟨rfl,rfl,rfl,trivial⟩
    ·try dsimp only
     exact⟨oO,(zSz hK hr2 hO).congr fun u v _ _=>(zQY oO u v).symm,oOx⟩
    try dsimp only
    omega
   simp at q37
   refine⟨fun x43=>?_⟩
   refine zAC (g:=(gSl 4 gB)) (T:=167) zAh W _ [H] ?_ oW (aA) (List.mem_of_getElem? (i:=0) rfl) rfl rfl rfl rfl rfl rfl rfl rfl ?_ fun b44 c44 A44 o44=>?_
   ·exact rlA
   ·omega
   apply zAb (i+1,all++[m],_,_,_)
   ·exact .refl _
   ·exact frI
   ·exact⟨rfl,rfl,trivial⟩
   ·try dsimp only
    (have hke:k=(x.pieces[i]?.getD default).kids.length:=oO;subst hke;rw[List.take_length] at hK;exact⟨oO,zD2 hA (hK.congr fun u v _ _=>by rw[zQO hkb oO aA];exact Iff.rfl),aA⟩)
   try dsimp only
   omega
  simp at q36
  have hr0:=(hA.rel _ (hkk _ (zBX (d:=0) (hkl oO))).2)
  have hr0l:=hr0.len
  have hrl:(List.replicate (IntKind.i64.wrap (g.size * g.size)).toNat false).length=n * n:=(by rw[List.length_replicate];exact hNN)
  refine zAf h2x5 ?_ ?_ fun b45 o45 hb45=>?_
  ·trivial
  ·omega
  refine zAd 0 (0) rfl h2x5 ?_ ?_ hb45 rfl (zAa 2 rfl) fun l46 hl46=>?_
  ·trivial
  ·omega
  obtain⟨rfl,hw46⟩:=hl46;simp only[zAx,zAs,okI] at hw46
  refine zAf (Gt.owrd _ oW) ?_ ?_ fun b47 o47 hb47=>?_
  ·grind
  ·grind
  refine zAF [] (Gt.owrd _ oW) ?_ ?_ hb47 rfl (zAa 1 rfl) fun l48 hl48=>?_
  ·grind
  ·grind
  obtain⟨u48,w48,rfl,hl48⟩:=zCD hl48
  refine zA1 ([(x7,Obj.cells { toList:=zAX (IntKind.i64.wrap (g.size * g.size)).toNat [Value.bool false] } 4)]) [W,H] (zL5 _ _ _ _ _ _ _ ((all[((x.pieces[i]?.getD default).kids[(0:Nat)]?.getD (0:Int)).toNat]?.getD [])) o7 ?_ ?_ ?_) ?_ (Rp.mono _ (zAa 0 rfl) hl48) ?_
  ·omega
  ·omega
  ·omega
  ·exact .refl _
  rintro _ A49 ⟨rfl,mO,hO,oOx⟩
  refine⟨[A49],by simp,?_⟩
  apply zAg (α:=(Nat)×(List Bool)×(Hp)) zAh [45,46,47,48,49,50,51,52,55,56,57,58,59,60,61,62,63,64,65,66,53,54,13] (fun z=>[(13,.v (.int .i64 z.1))]) (fun z=>[{ id:=x0,cs:=[Value.int IntKind.i64 g.size,Value.slice b1p g.edges.length c1p],ty:=(53:Nat) },{ id:=x1,cs:=[Value.slice b0r x.pieces.length c0r],ty:=(153:Nat) },{ id:=x6,cs:=[Value.int IntKind.i64 (x.pieces[i]?.getD default).op,Value.int IntKind.u8 (↑(x.pieces[i]?.getD default).label.toNat:Int),Value.slice b2x5 (x.pieces[i]?.getD default).kids.length c2x5],ty:=(210:Nat) }]) (fun z=>[z.2.2,W,H]) (fun z=>n-z.1) (fun z=>z.1≤n∧((x.pieces[i]?.getD default).op=6→z.1=0)∧RepS n z.2.1 (zDI n (z6b n (zA2 g.edges n x.pieces ((x.pieces[i]?.getD default).kids[0]?.getD 0).toNat)) z.1)∧(gSl 4 gB).ow [.slice (some ⟨x7,0,none⟩) (IntKind.i64.wrap (g.size * g.size)).toNat (IntKind.i64.wrap (g.size * g.size)).toNat] z.2.1 z.2.2) ((0,mO,_))
  ·exact frI
  ·exact⟨rfl,rfl,rfl,trivial⟩
  ·try dsimp only
   exact⟨Nat.zero_le _,fun _=>rfl,zZv ((zSz (zSA hNN (R:=fun _ _=>False) (fun _ _=>id)) hr0 hO).congr fun u v _ _=>⟨fun h=>h.elim False.elim id,.inr⟩),oOx⟩
  ·exact .refl _
  rintro ⟨r,m,D⟩ hI
  try dsimp only at hI
  obtain⟨hr,hr6,hG,oG⟩:=hI
  try dsimp only
  constructor<;>intro q50
  ·simp at q50
   constructor<;>intro q51
   ·simp at q51
    have hr2:=z3H hr0
    have hml:=hG.len
    refine zAf h2x5 ?_ ?_ fun b52 o52 hb52=>?_
    ·trivial
    ·omega
    refine zAd 0 (0) rfl h2x5 ?_ ?_ hb52 rfl (zAa 2 rfl) fun l53 hl53=>?_
    ·trivial
    ·omega
    obtain⟨rfl,hw53⟩:=hl53;simp only[zAx,zAs,okI] at hw53
    refine zAf (Gt.owrd _ oW) ?_ ?_ fun b54 o54 hb54=>?_
    ·grind
    ·grind
    refine zAF [] (Gt.owrd _ oW) ?_ ?_ hb54 rfl (zAa 1 rfl) fun l55 hl55=>?_
    ·grind
    ·grind
    obtain⟨u55,w55,rfl,hl55⟩:=zCD hl55
    refine zAi (zIA _ _ _ _ _ _ _ n hgs ((m)) ((all[((x.pieces[i]?.getD default).kids[(0:Nat)]?.getD (0:Int)).toNat]?.getD [])) _ _ ⟨oO,h12⟩ aA aA) ⟨(Rp.mono _ (zAa 0 rfl) (Gt.owrd _ oG)),(Rp.mono _ (zAa 1 rfl) hl55)⟩ ?_
    rintro v56 A56 o56
    obtain⟨bB,cB,mB,rfl,oB,hB⟩:=o56
    refine zA1 (D) [A56,W,H] (zL5 _ _ _ _ _ _ _ ((mB)) oG ?_ ?_ ?_) ?_ (Rp.mono _ (zAa 0 rfl) (Gt.owrd _ oB)) ?_
    ·omega
    ·(rw[hml,hB.len])
    ·omega
    ·exact rlA
    rintro _ A57 ⟨rfl,mO,hO,oOx⟩
    refine⟨[A57],by simp,?_⟩
    apply zAb (r+1,mO,_)
    ·exact .sub (by repeat (first|exact .slnil|apply List.Sublist.cons_cons|apply List.Sublist.cons))
    ·exact frI
    ·exact⟨rfl,rfl,rfl,trivial⟩
    ·try dsimp only
     exact⟨oO,fun h=>absurd h oO,zZw hG hB hO,oOx⟩
    try dsimp only
    omega
   simp at q51
   obtain⟨R1,hR1,hm1⟩:∃ R1,RepS n m R1∧(((x.pieces[i]?.getD default).op≠6∧R1=TC n (zA2 g.edges n x.pieces ((x.pieces[i]?.getD default).kids[0]?.getD 0).toNat))∨((x.pieces[i]?.getD default).op=6∧R1=(zA2 g.edges n x.pieces ((x.pieces[i]?.getD default).kids[0]?.getD 0).toNat))):=⟨(zA2 g.edges n x.pieces ((x.pieces[i]?.getD default).kids[0]?.getD 0).toNat),(by have hrn:=hr6 aA;subst hrn;exact z2M hG),.inr ⟨aA,rfl⟩⟩
   apply zAg (α:=(Nat)×(List Bool)×(Hp)) zAh [67,68,69,70,71,72,73,74,77,78,79,80,81,82,83,75,76,14] (fun z=>[(14,.v (.int .i64 z.1))]) (fun z=>[{ id:=x0,cs:=[Value.int IntKind.i64 g.size,Value.slice b1p g.edges.length c1p],ty:=(53:Nat) },{ id:=x1,cs:=[Value.slice b0r x.pieces.length c0r],ty:=(153:Nat) },{ id:=x6,cs:=[Value.int IntKind.i64 (x.pieces[i]?.getD default).op,Value.int IntKind.u8 (↑(x.pieces[i]?.getD default).label.toNat:Int),Value.slice b2x5 (x.pieces[i]?.getD default).kids.length c2x5],ty:=(210:Nat) }]) (fun z=>[z.2.2,W,H]) (fun z=>n-z.1) (fun z=>z.1≤n∧((x.pieces[i]?.getD default).op=5→z.1=0)∧RepS n z.2.1 (zSB R1 z.1)∧(gSl 4 gB).ow [.slice (some ⟨x7,0,none⟩) (IntKind.i64.wrap (g.size * g.size)).toNat (IntKind.i64.wrap (g.size * g.size)).toNat] z.2.1 z.2.2) ((0,m,D))
   ·exact frI
   ·exact⟨rfl,rfl,rfl,trivial⟩
   ·try dsimp only
    exact⟨Nat.zero_le _,fun _=>rfl,zQ8 hR1,oG⟩
   ·exact .refl _
   rintro ⟨v,m5,D5⟩ hI
   try dsimp only at hI
   obtain⟨hv,hv5,hV,oV⟩:=hI
   try dsimp only
   constructor<;>intro q58
   ·simp at q58
    constructor<;>intro q59
    ·simp at q59
     have hid:IntKind.i64.wrap (IntKind.i64.wrap ((v:Int) * g.size)+(v:Int))=((v * n+v:Nat):Int):=(by have h9:=zUs (a:=(v:Int)) (b:=(v:Int)) hgs h12 ⟨oO,oO⟩ ⟨oO,oO⟩;rw[Int.toNat_natCast] at h9;exact h9)
     have hsl:=zQ6 h12 (u:=v) (v:=v) oO oO
     have hml:=hV.len
     have hidn:(IntKind.i64.wrap (IntKind.i64.wrap ((v:Int) * g.size)+(v:Int))).toNat=v * n+v:=(by rw[hid];omega)
     refine zAf (Gt.owrd _ oV) ?_ ?_ fun b60 o60 hb60=>?_
     ·omega
     ·omega
     refine zBq (Fld.id _) false (Int.toNat (IntKind.i64.wrap (IntKind.i64.wrap ((↑v:Int) * g.size)+(↑v:Int)))) 0 rfl (Int.toNat_of_nonneg ?_).symm oV ?_ ?_ hb60 rfl zN4 _ (zH2 trivial) fun A61 o61=>?_
     ·omega
     ·omega
     ·omega
     apply zAb (v+1,m5.set (IntKind.i64.wrap (IntKind.i64.wrap ((v:Int) * g.size)+(v:Int))).toNat true,_)
     ·exact .refl _
     ·exact frI
     ·exact⟨rfl,rfl,rfl,trivial⟩
     ·try dsimp only
      exact⟨oO,fun h=>absurd h oO,by rw[hidn];exact zQ9 hV oO,aA⟩
     try dsimp only
     omega
    simp at q59
    exfalso;omega
   simp at q58
   refine⟨fun x62=>?_⟩
   refine zAC (g:=(gSl 4 gB)) (T:=167) zAh W _ [H] ?_ oW (aA) (List.mem_of_getElem? (i:=0) rfl) rfl rfl rfl rfl rfl rfl rfl rfl ?_ fun b63 c63 A63 o63=>?_
   ·exact rlA
   ·omega
   apply zAb (i+1,all++[m5],_,_,_)
   ·exact .refl _
   ·exact frI
   ·exact⟨rfl,rfl,trivial⟩
   ·try dsimp only
    (have h5:¬(x.pieces[i]?.getD default).op=5:=(fun h=>by have:=hv5 h;omega);rcases hm1 with ⟨h1,rfl⟩|⟨h1,rfl⟩<;>first|exact⟨oO,zD2 hA (by rw[zJg hkb oO oO];exact zKx hV oO),aA⟩|exact⟨oO,zD2 hA (by rw[zLT hkb oO oO];exact zKx hV oO),aA⟩)
   try dsimp only
   omega
  simp at q50
  obtain⟨R1,hR1,hm1⟩:∃ R1,RepS n m R1∧(((x.pieces[i]?.getD default).op≠6∧R1=TC n (zA2 g.edges n x.pieces ((x.pieces[i]?.getD default).kids[0]?.getD 0).toNat))∨((x.pieces[i]?.getD default).op=6∧R1=(zA2 g.edges n x.pieces ((x.pieces[i]?.getD default).kids[0]?.getD 0).toNat))):=⟨TC n (zA2 g.edges n x.pieces ((x.pieces[i]?.getD default).kids[0]?.getD 0).toNat),by (have hrn:r=n:=oO);subst hrn;exact z2N hG,.inl ⟨fun h=>absurd (hr6 h) oO,rfl⟩⟩
  apply zAg (α:=(Nat)×(List Bool)×(Hp)) zAh [67,68,69,70,71,72,73,74,77,78,79,80,81,82,83,75,76,14] (fun z=>[(14,.v (.int .i64 z.1))]) (fun z=>[{ id:=x0,cs:=[Value.int IntKind.i64 g.size,Value.slice b1p g.edges.length c1p],ty:=(53:Nat) },{ id:=x1,cs:=[Value.slice b0r x.pieces.length c0r],ty:=(153:Nat) },{ id:=x6,cs:=[Value.int IntKind.i64 (x.pieces[i]?.getD default).op,Value.int IntKind.u8 (↑(x.pieces[i]?.getD default).label.toNat:Int),Value.slice b2x5 (x.pieces[i]?.getD default).kids.length c2x5],ty:=(210:Nat) }]) (fun z=>[z.2.2,W,H]) (fun z=>n-z.1) (fun z=>z.1≤n∧((x.pieces[i]?.getD default).op=5→z.1=0)∧RepS n z.2.1 (zSB R1 z.1)∧(gSl 4 gB).ow [.slice (some ⟨x7,0,none⟩) (IntKind.i64.wrap (g.size * g.size)).toNat (IntKind.i64.wrap (g.size * g.size)).toNat] z.2.1 z.2.2) ((0,m,D))
  ·exact frI
  ·exact⟨rfl,rfl,rfl,trivial⟩
  ·try dsimp only
   exact⟨Nat.zero_le _,fun _=>rfl,zQ8 hR1,oG⟩
  ·exact .refl _
  rintro ⟨v,m5,D5⟩ hI
  try dsimp only at hI
  obtain⟨hv,hv5,hV,oV⟩:=hI
  try dsimp only
  constructor<;>intro q64
  ·simp at q64
   constructor<;>intro q65
   ·simp at q65
    have hid:IntKind.i64.wrap (IntKind.i64.wrap ((v:Int) * g.size)+(v:Int))=((v * n+v:Nat):Int):=(by have h9:=zUs (a:=(v:Int)) (b:=(v:Int)) hgs h12 ⟨oO,oO⟩ ⟨oO,oO⟩;rw[Int.toNat_natCast] at h9;exact h9)
    have hsl:=zQ6 h12 (u:=v) (v:=v) oO oO
    have hml:=hV.len
    have hidn:(IntKind.i64.wrap (IntKind.i64.wrap ((v:Int) * g.size)+(v:Int))).toNat=v * n+v:=(by rw[hid];omega)
    refine zAf (Gt.owrd _ oV) ?_ ?_ fun b66 o66 hb66=>?_
    ·omega
    ·omega
    refine zBq (Fld.id _) false (Int.toNat (IntKind.i64.wrap (IntKind.i64.wrap ((↑v:Int) * g.size)+(↑v:Int)))) 0 rfl (Int.toNat_of_nonneg ?_).symm oV ?_ ?_ hb66 rfl zN4 _ (zH2 trivial) fun A67 o67=>?_
    ·omega
    ·omega
    ·omega
    apply zAb (v+1,m5.set (IntKind.i64.wrap (IntKind.i64.wrap ((v:Int) * g.size)+(v:Int))).toNat true,_)
    ·exact .refl _
    ·exact frI
    ·exact⟨rfl,rfl,rfl,trivial⟩
    ·try dsimp only
     exact⟨oO,fun h=>absurd h oO,by rw[hidn];exact zQ9 hV oO,aA⟩
    try dsimp only
    omega
   simp at q65
   refine⟨fun x68=>?_⟩
   refine zAC (g:=(gSl 4 gB)) (T:=167) zAh W _ [H] ?_ oW (aA) (List.mem_of_getElem? (i:=0) rfl) rfl rfl rfl rfl rfl rfl rfl rfl ?_ fun b69 c69 A69 o69=>?_
   ·exact rlA
   ·omega
   apply zAb (i+1,all++[m5],_,_,_)
   ·exact .refl _
   ·exact frI
   ·exact⟨rfl,rfl,trivial⟩
   ·try dsimp only
    (have hv0:=hv5 aA;subst hv0;rcases hm1 with ⟨h1,rfl⟩|⟨h1,rfl⟩<;>first|(exfalso;omega)|exact⟨oO,zD2 hA (by rw[zNB hkb oO aA];exact hV.congr fun u w _ _=>⟨fun h=>h.elim id fun h=>absurd h.2 oO,.inl⟩),aA⟩)
   try dsimp only
   omega
  simp at q64
  refine⟨fun x70=>?_⟩
  refine zAC (g:=(gSl 4 gB)) (T:=167) zAh W _ [H] ?_ oW (aA) (List.mem_of_getElem? (i:=0) rfl) rfl rfl rfl rfl rfl rfl rfl rfl ?_ fun b71 c71 A71 o71=>?_
  ·exact rlA
  ·omega
  apply zAb (i+1,all++[m5],_,_,_)
  ·exact .refl _
  ·exact frI
  ·exact⟨rfl,rfl,trivial⟩
  ·try dsimp only
   (have h5:¬(x.pieces[i]?.getD default).op=5:=(fun h=>by have:=hv5 h;omega);rcases hm1 with ⟨h1,rfl⟩|⟨h1,rfl⟩<;>first|exact⟨oO,zD2 hA (by rw[zJg hkb oO oO];exact zKx hV oO),aA⟩|exact⟨oO,zD2 hA (by rw[zLT hkb oO oO];exact zKx hV oO),aA⟩)
  try dsimp only
  omega
 simp at q3
 (have hie:i=x.pieces.length:=oO;subst hie;exact⟨W,⟨_,_,all,rfl,oW,hA⟩,rlB⟩)
end
section
attribute [local irreducible] IntKind.wrap zA2
theorem z2O {k u:Nat} {R:Nat→Nat→Prop} (h:R u k):zD0 (k+1) R u=zD0 k R u++[((k:Nat):Int)]:=by
 unfold zD0
 rw[List.range_succ,List.filter_append,List.map_append]
 simp [h]
theorem z5Q {k u:Nat} {R:Nat→Nat→Prop} (h:¬R u k):zD0 (k+1) R u=zD0 k R u:=by
 unfold zD0
 rw[List.range_succ,List.filter_append,List.map_append]
 simp [h]
theorem z2P {n u k:Nat} {R:Nat→Nat→Prop} (hn:1≤n):0≤((zD0 n R u)[k]?.getD 0)∧((zD0 n R u)[k]?.getD 0) < n:=by
 by_cases h:k < (zD0 n R u).length
 ·rw[List.getElem?_eq_getElem h,Option.getD_some]
  have h1:=List.getElem_mem h
  generalize (zD0 n R u)[k]=z at h1 ⊢
  unfold zD0 at h1
  obtain⟨v,h2,h3⟩:=List.mem_map.1 h1
  have h4:=List.mem_range.1 (List.mem_filter.1 h2).1
  omega
 rw[List.getElem?_eq_none oO];simp;omega
theorem z5R {n:Nat} {es:List Edge} {ps:List Piece} {all:List (List Bool)} {p i u v:Nat} (hA:AllS n es ps ps.length all) (hp:p=ps.length-1) (hl:1≤ps.length) (hi:i=u * n+v) (hu:u < n) (hv:v < n) (h:((all[p]?.getD [])[i]?.getD false)=true):zA2 es n ps (ps.length-1) u v:=by
 subst hp
 exact ((hA.rel _ oO).rows u v hu hv).1 (zL4 h hi)
theorem z2Q {n:Nat} {es:List Edge} {ps:List Piece} {all:List (List Bool)} {p i u v:Nat} (hA:AllS n es ps ps.length all) (hp:p=ps.length-1) (hl:1≤ps.length) (hi:i=u * n+v) (hu:u < n) (hv:v < n) (h:((all[p]?.getD [])[i]?.getD false)=false):¬zA2 es n ps (ps.length-1) u v:=by
 subst hp
 exact mt ((hA.rel _ oO).rows u v hu hv).2 (zKw h hi)
theorem z7X {n:Nat} {s:Int} (hs:s=n) (u v:Nat):((u:Int) * s+(v:Int)).toNat=u * n+v:=by subst hs;exact zNL n u v
theorem zSC (lg lp:List Value) (g:Graph) (x:Path) (u:Nat) (hg:zAH g=true) (hx:zAV x=true) (hu:u < g.size.toNat) :
  Ct prog 150 [.agg ⟨lg⟩,.agg ⟨lp⟩,.int .i64 (u:Int)] [] (fun H=>zBz.rd H lg g∧zH4.rd H lp x)
   (fun v D=>∃ b c,v = .slice b (zD0 g.size.toNat (zA2 g.edges g.size.toNat x.pieces (x.pieces.length-1)) u).length c∧(gSl 3 gI).ow [.slice b (zD0 g.size.toNat (zA2 g.edges g.size.toNat x.pieces (x.pieces.length-1)) u).length c] (zD0 g.size.toNat (zA2 g.edges g.size.toNat x.pieces (x.pieces.length-1)) u) D):=by
 refine Ct.intro0 zAh func150 rfl rfl rfl fun E H hp=>?_
 obtain⟨hp,hq⟩:=hp
 obtain⟨hp1,hp2,hps⟩:=zA7 hx
 obtain⟨hg1,hg2,hE⟩:=zEa hg
 obtain⟨n,hn⟩:∃ n:Nat,g.size.toNat=n:=⟨_,rfl⟩
 have hgs:g.size=(n:Int):=by omega
 rw[hn] at hu ⊢
 have h12:n≤12:=by omega
 have hnn:n * n≤144:=Nat.mul_le_mul h12 h12
 have hwG:IntKind.i64.wrap (g.size-1)=g.size-1:=zAc oO oO
 have hwP:IntKind.i64.wrap ((x.pieces.length:Int)-1)=(x.pieces.length:Int)-1:=zAc oO oO
 have hui:inR 0 (g.size-1) (u:Int)=true:=zAq.2 oO
 obtain⟨b1p,c1p,rfl,w0p,h1p⟩:=zAY.1 hp
 obtain⟨b0r,c0r,rfl,h0r⟩:=zBM.1 hq
 refine⟨fun x0=>?_⟩
 refine⟨fun x1=>?_⟩
 refine⟨fun x2=>?_⟩
 refine zAe (zC1 _ (g)) (Rp.mono _ (zAa 1 rfl) hp) ?_
 rintro _ rfl
 constructor<;>intro q4
 ·simp at q4
  (rw[‹zAH g=false›] at hg;cases hg)
 simp at q4
 refine zAe (zEh _ (x)) (Rp.mono _ (zAa 1 rfl) hq) ?_
 rintro _ rfl
 constructor<;>intro q6
 ·simp at q6
  (rw[‹zAV x=false›] at hx;cases hx)
 simp at q6
 refine zAe (zA3 _ _ _) trivial ?_
 rintro _ rfl
 constructor<;>intro q8
 ·simp at q8
  simp (disch:=omega) only[zAc] at q8
  (rw[‹inR 0 _ (u:Int)=false›] at hui;cases hui)
 simp at q8
 simp (disch:=omega) only[zAc] at q8
 refine zAi (zNM _ _ g x hg hx) ⟨(Rp.mono _ (zAa 1 rfl) hp),(Rp.mono _ (zAa 1 rfl) hq)⟩ ?_
 rintro v9 A9 o9
 obtain⟨bA,cA,all,rfl,oA,hA⟩:=o9
 rw[hn] at hA
 have hAl:=hA.len
 have hAr:=(hA.rel (x.pieces.length-1) oO).len
 apply zAg (α:=(Nat)×(List Int)×(Hp)×(Option Addr)×(Nat)) zAh [31,32,33,34,37,38,39,40,41,42,43,44,45,46,47,48,49,50,51,52,53,54,55,7,35,36,9] (fun z=>[(9,.v (.int .i64 z.1)),(7,.v (.slice z.2.2.2.1 z.2.1.length z.2.2.2.2))]) (fun z=>[{ id:=x0,cs:=[Value.int IntKind.i64 g.size,Value.slice b1p g.edges.length c1p],ty:=(53:Nat) },{ id:=x1,cs:=[Value.slice b0r x.pieces.length c0r],ty:=(153:Nat) }]) (fun z=>[z.2.2.1,A9,[(x2,Obj.cells { toList:=zAX 0 [Value.int IntKind.i64 (0:Int)] } 3)],H]) (fun z=>n-z.1) (fun z=>z.1≤n∧z.2.1=zD0 z.1 (zA2 g.edges n x.pieces (x.pieces.length-1)) u∧(gSl 3 gI).ow [.slice z.2.2.2.1 z.2.1.length z.2.2.2.2] z.2.1 z.2.2.1) ((0,[],[],_,0))
 ·exact frI
 ·exact⟨rfl,rfl,trivial⟩
 ·try dsimp only
  exact⟨Nat.zero_le _,rfl,zAm _ _ _⟩
 ·exact .refl _
 rintro ⟨v,out,D,lb,lc⟩ hI
 try dsimp only at hI
 obtain⟨hv,ho,oD⟩:=hI
 try dsimp only
 constructor<;>intro q10
 ·simp at q10
  have hid:IntKind.i64.wrap (IntKind.i64.wrap ((u:Int) * g.size)+(v:Int))=((u * n+v:Nat):Int):=(by have h9:=zUs (a:=(u:Int)) (b:=(v:Int)) hgs h12 ⟨oO,oO⟩ ⟨oO,oO⟩;rw[Int.toNat_natCast,Int.toNat_natCast] at h9;exact h9)
  have hsl:=zQ6 h12 (u:=u) (v:=v) oO oO
  have hel:out.length≤v:=(by rw[ho];exact zL0 v (zA2 g.edges n x.pieces (x.pieces.length-1)) u)
  have hwn:(IntKind.i64.wrap ((x.pieces.length:Int)-1)).toNat=x.pieces.length-1:=oO
  have hidn:(IntKind.i64.wrap (IntKind.i64.wrap ((u:Int) * g.size)+(v:Int))).toNat=u * n+v:=(by rw[hid];omega)
  refine zBr zAh zAK none (.q 0 (.q 1 (.q 2 (.q 3 (.q 4 (.q 5 (.q 6 (.q 7 (.q 8 (.q 9 (.q 10 (.q 11 (.q 12 (.q 13 (.q 14 (.nil)))))))))))))))) (by decide +kernel) ?_
  refine zAf (Gt.owrd _ oA) ?_ ?_ fun b11 o11 hb11=>?_
  ·(simp (disch:=omega) only[zAc];omega)
  ·(simp (disch:=omega) only[zAc];omega)
  refine zAF [] (Gt.owrd _ oA) ?_ ?_ hb11 rfl (zAa 1 rfl) fun l12 hl12=>?_
  ·(simp (disch:=omega) only[zAc];omega)
  ·(simp (disch:=omega) only[zAc];omega)
  obtain⟨u12,w12,rfl,hl12⟩:=zCD hl12
  refine zAf hl12 ?_ ?_ fun b13 o13 hb13=>?_
  ·omega
  ·simp_all;omega
  refine zAF false hl12 ?_ ?_ hb13 rfl (zAa 1 rfl) fun l14 hl14=>?_
  ·omega
  ·simp_all;omega
  obtain⟨rfl,hw14⟩:=hl14
  constructor<;>intro q15
  ·simp (disch:=omega) only[zAc] at q15
   refine⟨fun x16=>?_⟩
   refine zAC (g:=gI) (T:=3) zAh D [] [A9,[(x2,Obj.cells { toList:=zAX 0 [Value.int IntKind.i64 (0:Int)] } 3)],H] ?_ oD (zCN ?_) (List.mem_of_getElem? (i:=0) rfl) rfl rfl rfl rfl rfl rfl rfl rfl ?_ fun b17 c17 A17 o17=>?_
   ·exact .tl
   ·unfold okI;omega
   ·omega
   apply zAb (v+1,_,_,_,_)
   ·exact .refl _
   ·exact frI
   ·exact⟨rfl,rfl,trivial⟩
   ·try dsimp only
    exact⟨oO,by rw[z2O (z5R (p:=((x.pieces.length:Int)-1).toNat) hA oO hp1 hidn hu oO aA),ho],aA⟩
   try dsimp only
   omega
  simp (disch:=omega) only[zAc] at q15
  apply zAb (v+1,out,D,lb,lc)
  ·exact .refl _
  ·exact frI
  ·exact⟨rfl,rfl,trivial⟩
  ·try dsimp only
   exact⟨oO,by rw[z5Q (z2Q (p:=((x.pieces.length:Int)-1).toNat) hA oO hp1 hidn hu oO aA),ho],oD⟩
  try dsimp only
  omega
 simp at q10
 (obtain rfl:v=n:=oO;subst ho;exact⟨_,⟨_,_,rfl,oD⟩,rlB⟩)
theorem zJV (lg lp:List Value) (g:Graph) (x:Path) (hg:zAH g=true) (hx:zAV x=true) :
  Ct prog 97 [.agg ⟨lg⟩,.agg ⟨lp⟩] [] (fun H=>zBz.rd H lg g∧zH4.rd H lp x)
   (fun v D=>∃ b c,v = .slice b (zD1 g.size.toNat (zA2 g.edges g.size.toNat x.pieces (x.pieces.length-1))).length c∧(gSl 27 (gSl 3 gI)).ow [.slice b (zD1 g.size.toNat (zA2 g.edges g.size.toNat x.pieces (x.pieces.length-1))).length c] (zD1 g.size.toNat (zA2 g.edges g.size.toNat x.pieces (x.pieces.length-1))) D):=by
 refine Ct.intro0 zAh func97 rfl rfl rfl fun E H hp=>?_
 obtain⟨hp,hq⟩:=hp
 obtain⟨hg1,hg2,hE⟩:=zEa hg
 obtain⟨n,hn⟩:∃ n:Nat,g.size.toNat=n:=⟨_,rfl⟩
 rw[hn]
 obtain⟨R,hR⟩:∃ R,zA2 g.edges n x.pieces (x.pieces.length-1)=R:=⟨_,rfl⟩
 rw[hR]
 obtain⟨b1p,c1p,rfl,w0p,h1p⟩:=zAY.1 hp
 obtain⟨b0r,c0r,rfl,h0r⟩:=zBM.1 hq
 refine⟨fun x0=>?_⟩
 refine⟨fun x1=>?_⟩
 refine⟨fun x2=>?_⟩
 refine zAe (zC1 _ (g)) (Rp.mono _ (zAa 1 rfl) hp) ?_
 rintro _ rfl
 constructor<;>intro q4
 ·simp at q4
  (rw[‹zAH g=false›] at hg;cases hg)
 simp at q4
 refine zAe (zEh _ (x)) (Rp.mono _ (zAa 1 rfl) hq) ?_
 rintro _ rfl
 constructor<;>intro q6
 ·simp at q6
  (rw[‹zAV x=false›] at hx;cases hx)
 simp at q6
 apply zAg (α:=(Nat)×(List (List Int))×(Hp)×(Option Addr)×(Nat)) zAh [19,20,21,22,25,26,27,28,7,8,29,30,31,32,35,36,37,38,39,40,41,42,43,5,33,34,23,24,6] (fun z=>[(6,.v (.int .i64 z.1)),(5,.v (.slice z.2.2.2.1 z.2.1.length z.2.2.2.2))]) (fun z=>[{ id:=x0,cs:=[Value.int IntKind.i64 g.size,Value.slice b1p g.edges.length c1p],ty:=(53:Nat) },{ id:=x1,cs:=[Value.slice b0r x.pieces.length c0r],ty:=(153:Nat) }]) (fun z=>[z.2.2.1,H]) (fun z=>n-z.1) (fun z=>z.1≤n∧z.2.1=prT (fun u=>zD0 n R u) z.1 0∧z.2.1.length≤12 * z.1∧(gSl 27 (gSl 3 gI)).ow [.slice z.2.2.2.1 z.2.1.length z.2.2.2.2] z.2.1 z.2.2.1) ((0,[],[],_,0))
 ·exact frI
 ·exact⟨rfl,rfl,trivial⟩
 ·try dsimp only
  exact⟨Nat.zero_le _,rfl,by simp,zAm _ _ _⟩
 ·exact .tl
 rintro ⟨u,ps,D,lb,lc⟩ hI
 try dsimp only at hI
 obtain⟨hu,hps,hpl,oD⟩:=hI
 try dsimp only
 constructor<;>intro q7
 ·simp at q7
  refine zAi (zSC _ _ g x u hg hx oO) ⟨(Rp.mono _ (zAa 1 rfl) hp),(Rp.mono _ (zAa 1 rfl) hq)⟩ ?_
  rintro v8 A8 o8
  obtain⟨bL,cL,rfl,oL⟩:=o8
  rw[hn,hR] at oL ⊢
  have hel:=zL0 n R u
  apply zAg (α:=(Nat)×(List (List Int))×(Hp)×(Option Addr)×(Nat)) zAh [29,30,31,32,35,36,37,38,39,40,41,42,43,5,33,34,8] (fun z=>[(8,.v (.int .i64 z.1)),(5,.v (.slice z.2.2.2.1 z.2.1.length z.2.2.2.2))]) (fun z=>[{ id:=x0,cs:=[Value.int IntKind.i64 g.size,Value.slice b1p g.edges.length c1p],ty:=(53:Nat) },{ id:=x1,cs:=[Value.slice b0r x.pieces.length c0r],ty:=(153:Nat) }]) (fun z=>[z.2.2.1,A8,H]) (fun z=>(zD0 n R u).length-z.1) (fun z=>z.1≤(zD0 n R u).length∧z.2.1=prT (fun u=>zD0 n R u) u z.1∧z.2.1.length≤12 * u+z.1∧(gSl 27 (gSl 3 gI)).ow [.slice z.2.2.2.1 z.2.1.length z.2.2.2.2] z.2.1 z.2.2.1) ((0,ps,D,lb,lc))
  ·exact frI
  ·exact⟨rfl,rfl,trivial⟩
  ·try dsimp only
   exact⟨Nat.zero_le _,hps,oO,oD⟩
  ·exact rlA
  rintro ⟨k,ps1,D1,lb1,lc1⟩ hI
  try dsimp only at hI
  obtain⟨hk,hps1,hpl1,oD1⟩:=hI
  try dsimp only
  constructor<;>intro q9
  ·simp at q9
   refine zAf (Gt.owrd _ oL) ?_ ?_ fun b10 o10 hb10=>?_
   ·omega
   ·omega
   refine zAd 0 (k) rfl (Gt.owrd _ oL) ?_ ?_ hb10 rfl (zAa 1 rfl) fun l11 hl11=>?_
   ·omega
   ·omega
   obtain⟨rfl,hw11⟩:=hl11;simp only[zAx,zAs,okI] at hw11
   refine⟨fun x12=>?_⟩
   refine⟨fun x13=>?_⟩
   refine zAC (g:=(gSl 3 gI)) (T:=27) zAh D1 _ [A8,H] ?_ oD1 ((zUg (a:=((u:Nat):Int)) (b:=((zD0 n R u)[k]?.getD 0)) (by unfold okI;omega) (by have:=z2P (n:=n) (R:=R) (u:=u) (k:=k) oO;unfold okI;omega))) (List.mem_of_getElem? (i:=0) rfl) rfl rfl rfl rfl rfl rfl rfl rfl ?_ fun b14 c14 A14 o14=>?_
   ·exact .le fun a=>by simp [List.count_cons,List.count_append,Blk.ent,St.hall,zNZ,zAX,List.append];omega
   ·omega
   apply zAb (k+1,_,_,_,_)
   ·exact .refl _
   ·exact frI
   ·exact⟨rfl,rfl,trivial⟩
   ·try dsimp only
    exact⟨oO,by rw[zUh oO,←hps1],by rw[List.length_append,List.length_singleton];omega,aA⟩
   try dsimp only
   omega
  simp at q9
  apply zAb (u+1,_,_,_,_)
  ·exact .sub (by repeat (first|exact .slnil|apply List.Sublist.cons_cons|apply List.Sublist.cons))
  ·exact frI
  ·exact⟨rfl,rfl,trivial⟩
  ·try dsimp only
   exact⟨oO,by rw[zUi (k:=k) oO];exact hps1,oO,oD1⟩
  try dsimp only
  omega
 simp at q7
 (have hue:u=n:=oO;subst hue;rw[zZf] at hps;subst hps;exact⟨_,⟨_,_,rfl,oD⟩,rlB⟩)
end
section
attribute [local irreducible] IntKind.wrap zA0 zAj zAS zA2
theorem zRa {a:Atom} {ps:List (List Int)} {k:Nat} (hk:k < ps.length) {xs:List Item} {r:List Int} (hx:xs=zEk a ps k) (hr:r=zBD a (ps[k]?.getD [])) (h:zEV a (ps[k]?.getD [])=true):zVC xs r 1 (plR xs r)=zEk a ps (k+1):=by
 subst hx;subst hr
 rw[zUm hk h];rfl
theorem zUt {a:Atom}:(zBg a).length=2↔¬a.from'=a.to:=by
 unfold zBg
 split
 ·rename_i h;exact⟨fun e=>(by cases e),fun e=>absurd h e⟩
 rename_i h;exact⟨fun _=>h,fun _=>rfl⟩
theorem z2R {a:Atom} (h:¬(zBg a).length=2):a.from'=a.to:=by
 by_cases e:a.from'=a.to
 ·exact e
 exact absurd (zUt.2 e) h
theorem zSD (lg la:List Value) (g:Graph) (a:Atom) (hz:a.path.size≤1048576) :
  Ct prog 43 [.agg ⟨lg⟩,.agg ⟨la⟩] [] (fun H=>zBz.rd H lg g∧zA9.rd H la a)
   (fun v D=>∃ (b0:Option Addr) (c0:Nat) (b1:Option Addr) (c1:Nat),v = .tuple #[.agg ⟨[.slice b0 (zHQ g a).1.cols.length c0,.slice b1 (zHQ g a).1.bag.items.length c1]⟩,.bool (zHQ g a).2]∧OwT b0 c0 b1 c1 (zHQ g a).1 D):=by
 refine Ct.intro0 zAh func43 rfl rfl rfl fun E H hp=>?_
 obtain⟨hp,hq⟩:=hp
 obtain⟨b1g,c1g,rfl,w0g,h1g⟩:=zAY.1 hp
 obtain⟨rfl,w0p,w1p,w2p⟩:=zAT.1 hq
 refine⟨fun x0=>?_⟩
 refine⟨fun x1=>?_⟩
 refine⟨fun x2=>?_⟩
 refine zAe (zC1 _ (g)) (Rp.mono _ (zAa 0 rfl) hp) ?_
 rintro _ rfl
 constructor<;>intro q4
 ·simp at q4
  (rw[zQ0 aA];exact⟨[],⟨_,_,_,_,rfl,zCc⟩,.mem sI⟩)
 simp at q4
 refine zAe (zNg _ (a) ?_) (Rp.mono _ (zAa 0 rfl) hq) ?_
 ·omega
 rintro _ rfl
 constructor<;>intro q6
 ·simp at q6
  (rw[zQ1 aA];exact⟨[],⟨_,_,_,_,rfl,zCc⟩,.mem sI⟩)
 simp at q6
 obtain⟨hg1,hg2,hE⟩:=zEa ‹zAH g=true›
 have hg:1≤g.size∧g.size≤12:=oO
 have hpo:=zQ3 ‹zCY a=true›
 refine zAi (zFG _ (a)) (Rp.mono _ (zAa 0 rfl) hq) ?_
 rintro v7 A7 o7
 obtain⟨b7,c7,rfl,o7⟩:=o7
 refine⟨fun x8=>?_⟩
 refine zAi (zEC _ ?_) trivial ?_
 ·omega
 rintro v9 A9 o9
 obtain⟨bR,cR,rfl,oR⟩:=o9
 refine⟨fun x10=>?_⟩
 refine zAi (zJV _ _ g (zBd a.path) ‹zAH g=true› hpo) ⟨(Rp.mono _ (zAa 2 rfl) hp),zBM.2 ⟨_,_,rfl,Rp.mono _ (zAk sI) (Gt.owrd _ oR)⟩⟩ ?_
 rintro v11 A11 o11
 obtain⟨bP,cP,rfl,oP⟩:=o11
 have hpp:=zO3 hg (zA2 g.edges g.size.toNat (zBd a.path).pieces ((zBd a.path).pieces.length-1))
 obtain⟨ps,hps⟩:∃ ps,ps=zD1 g.size.toNat (zA2 g.edges g.size.toNat (zBd a.path).pieces ((zBd a.path).pieces.length-1)):=⟨_,rfl⟩
 rw[←hps] at oP hpp ⊢
 have hpl:=hpp.1
 apply zAg (α:=(Nat)×(List Item)×(Hp)×(Option Addr)×(Nat)) zAh [32,33,34,35,38,39,40,41,42,43,44,45,46,47,48,49,50,51,52,53,54,55,56,57,58,59,60,61,62,63,64,65,66,67,68,69,70,71,36,37,10] (fun z=>[(10,.v (.int .i64 z.1))]) (fun z=>[⟨x0,[Value.int IntKind.i64 g.size,Value.slice b1g g.edges.length c1g],(53:Nat)⟩,⟨x1,[Value.string a.from',Value.string a.path,Value.string a.to],(97:Nat)⟩,⟨x2,[Value.slice none (0:Nat) (0:Nat),Value.slice none (0:Nat) (0:Nat)],(65:Nat)⟩,⟨x8,[Value.slice b7 (zBg a).length c7,.slice z.2.2.2.1 z.2.1.length z.2.2.2.2],(65:Nat)⟩,⟨x10,[Value.slice bR (zBd a.path).pieces.length cR],(153:Nat)⟩]) (fun z=>[z.2.2.1,A11,A9,A7,H]) (fun z=>ps.length-z.1) (fun z=>z.1≤ps.length∧z.2.1=zEk a ps z.1∧(gSl 100 zAo).ow [.slice z.2.2.2.1 z.2.1.length z.2.2.2.2] z.2.1 z.2.2.1) ((0,[],[],none,0))
 ·exact frI
 ·repeat' (first|exact trivial|refine⟨by first|rfl|simp [Blk.ent],?_⟩)
 ·try dsimp only
  exact⟨Nat.zero_le _,rfl,zAm _ _ _⟩
 ·exact .refl _
 rintro ⟨k,xs,B,ib,ic⟩ hI
 try dsimp only at hI
 obtain⟨hk,hxs,oB⟩:=hI
 try dsimp only
 constructor<;>intro q12
 ·simp at q12
  have h2:=zQ5 hpp (k:=k) oO
  obtain⟨hbw,hxl⟩:=zL1 hg.2 hpp (a:=a) k
  rw[←hxs] at hbw hxl
  constructor<;>intro q13
  ·simp at q13
   obtain⟨hpr,hpk⟩:=z3q (a:=a) (p:=ps[k]?.getD []) ((zUt (a:=a)).1 oO)
   have hrl:(zBD a (ps[k]?.getD [])).length≤1000:=(by rw[hpr];omega)
   refine zBr zAh zAK (some 6) (.q 0 (.q 1 (.q 2 (.q 3 (.q 4 (.q 5 (.tl 6 (.f 7 (.f 8 (.nil)))))))))) (by decide +kernel) ?_
   refine zAf (Gt.owrd _ oP) ?_ ?_ fun b14 o14 hb14=>?_
   ·omega
   ·omega
   refine zAd [] (k) rfl (Gt.owrd _ oP) ?_ ?_ hb14 rfl (zAa 1 rfl) fun l15 hl15=>?_
   ·omega
   ·omega
   obtain⟨u15,w15,rfl,hl15⟩:=zCD hl15
   refine zA1 (B) [A11,A9,A7,H] (zC0 _ _ _ _ _ _ xs _ (zBD a (ps[k]?.getD [])) 1 (plR xs (zBD a (ps[k]?.getD []))) oB ?_ ?_ ?_ ?_ ?_) ?_ (by rw[hpr];(try exact Rp.mono _ (zAa 0 rfl) hl15);(try exact zSa h2 (Rp.mono _ (zAa 0 rfl) hl27))) ?_
   ·omega
   ·trivial
   ·trivial
   ·exact hbw.inv.2
   ·exact zEF hbw.inv.1
   ·exact .refl _
   rintro _ A16 ⟨b16,c16,rfl,o16⟩
   refine⟨[A16],by simp,?_⟩
   apply zAb (k+1,_,_,_,_)
   ·exact .refl _
   ·exact frI
   ·repeat' (first|exact trivial|refine⟨by first|rfl|simp [Blk.ent],?_⟩)
   ·try dsimp only
    exact⟨oO,zRa oO hxs rfl hpk,aA⟩
   try dsimp only
   omega
  simp at q13
  obtain⟨hpr,hpk⟩:=z3r (a:=a) (p:=ps[k]?.getD []) (z2R (a:=a) oO)
  have hrl:(zBD a (ps[k]?.getD [])).length≤1000:=(by rw[hpr,List.length_take];omega)
  refine zBr zAh zAK none (.q 0 (.q 1 (.q 2 (.q 3 (.q 4 (.q 5 (.q 6 (.q 7 (.q 8 (.q 9 (.q 10 (.q 11 (.q 12 (.nil)))))))))))))) (by decide +kernel) ?_
  refine zAf (Gt.owrd _ oP) ?_ ?_ fun b17 o17 hb17=>?_
  ·omega
  ·omega
  refine zAd [] (k) rfl (Gt.owrd _ oP) ?_ ?_ hb17 rfl (zAa 1 rfl) fun l18 hl18=>?_
  ·omega
  ·omega
  obtain⟨u18,w18,rfl,hl18⟩:=zCD hl18
  refine zAf hl18 ?_ ?_ fun b19 o19 hb19=>?_
  ·trivial
  ·omega
  refine zAd 0 (0) rfl hl18 ?_ ?_ hb19 rfl (zAa 1 rfl) fun l20 hl20=>?_
  ·trivial
  ·omega
  obtain⟨rfl,hw20⟩:=hl20;simp only[zAx,zAs,okI] at hw20
  refine zAf (Gt.owrd _ oP) ?_ ?_ fun b21 o21 hb21=>?_
  ·omega
  ·omega
  refine zAd [] (k) rfl (Gt.owrd _ oP) ?_ ?_ hb21 rfl (zAa 1 rfl) fun l22 hl22=>?_
  ·omega
  ·omega
  obtain⟨u22,w22,rfl,hl22⟩:=zCD hl22
  refine zAf hl22 ?_ ?_ fun b23 o23 hb23=>?_
  ·trivial
  ·omega
  refine zAd 0 (1) rfl hl22 ?_ ?_ hb23 rfl (zAa 1 rfl) fun l24 hl24=>?_
  ·trivial
  ·omega
  obtain⟨rfl,hw24⟩:=hl24;simp only[zAx,zAs,okI] at hw24
  constructor<;>intro q25
  ·simp at q25
   refine zBr zAh zAK (some 7) (.q 0 (.q 1 (.q 2 (.q 3 (.q 4 (.q 5 (.q 6 (.tl 7 (.f 8 (.f 9 (.nil))))))))))) (by decide +kernel) ?_
   refine zAf (Gt.owrd _ oP) ?_ ?_ fun b26 o26 hb26=>?_
   ·omega
   ·omega
   refine zAd [] (k) rfl (Gt.owrd _ oP) ?_ ?_ hb26 rfl (zAa 1 rfl) fun l27 hl27=>?_
   ·omega
   ·omega
   obtain⟨u27,w27,rfl,hl27⟩:=zCD hl27
   refine VC.intro ?_ ?_
   ·(have:=(zAp ‹(gSl 3 gI).rd _ _ (ps[k]?.getD [])›).2.1;omega)
   refine zA1 (B) [A11,A9,A7,H] (zC0 _ _ _ _ _ _ xs _ (zBD a (ps[k]?.getD [])) 1 (plR xs (zBD a (ps[k]?.getD []))) oB ?_ ?_ ?_ ?_ ?_) ?_ (by rw[hpr];(try exact Rp.mono _ (zAa 0 rfl) hl15);(try exact zSa h2 (Rp.mono _ (zAa 0 rfl) hl27))) ?_
   ·omega
   ·trivial
   ·trivial
   ·exact hbw.inv.2
   ·exact zEF hbw.inv.1
   ·exact .refl _
   rintro _ A28 ⟨b28,c28,rfl,o28⟩
   refine⟨[A28],by simp,?_⟩
   apply zAb (k+1,_,_,_,_)
   ·exact .refl _
   ·exact frI
   ·repeat' (first|exact trivial|refine⟨by first|rfl|simp [Blk.ent],?_⟩)
   ·try dsimp only
    exact⟨oO,zRa oO hxs rfl (by rw[hpk];exact beq_iff_eq.2 aA),aA⟩
   try dsimp only
   omega
  simp at q25
  apply zAb (k+1,xs,B,ib,ic)
  ·exact .refl _
  ·exact frI
  ·repeat' (first|exact trivial|refine⟨by first|rfl|simp [Blk.ent],?_⟩)
  ·try dsimp only
   exact⟨oO,by rw[zZj oO (by rw[hpk];exact beq_false_of_ne aA)];exact hxs,oB⟩
  try dsimp only
  omega
 simp at q12
 (have hke:k=ps.length:=oO;subst hke;exact⟨A7++B,zQ4 ‹zAH g=true› ‹zCY a=true› hps hxs aA oB,rlB⟩)
end
section
attribute [local irreducible] IntKind.wrap zA0 zAj zAS
theorem zRb {w:Nat} {ys:List Item} (h:BW w ys) (hl:ys.length≤300) (p:Item→Bool) {i k:Nat} (hi:i < ys.length) {xs:List Item} (hx:xs=zBh [] ((ys.take i).filter p)) (hp:p (ys[i]?.getD default)=true)
  (hat:zDo (ys[i]?.getD default).row=true∧(0 < xs.length→(zBE xs 0).length=(ys[i]?.getD default).row.length)→atR xs (ys[i]?.getD default).row k):(zEE xs (ys[i]?.getD default).row (ys[i]?.getD default).times k).1=zBh [] ((ys.take (i+1)).filter p):=by
 subst hx
 have hm:ys[i]?.getD default∈ys:=by rw[List.getElem?_eq_getElem hi];exact List.getElem_mem hi
 have hok:=zCQ h _ hm
 have hb:BW w (zBh [] ((ys.take i).filter p)):=zGU (zNp _) fun q hq=>zCQ h q (List.mem_of_mem_take (List.mem_filter.1 hq).1)
 have hlen:=zDZ h p (i:=i) hi
 have hw:zDo (ys[i]?.getD default).row=true∧(0 < (zBh [] ((ys.take i).filter p)).length→(zBE (zBh [] ((ys.take i).filter p)) 0).length=(ys[i]?.getD default).row.length):=
  ⟨hok.2.1,fun h0=>by rw[(hb.rows _ (zBU.2 ⟨0,h0,rfl⟩)).2];exact hok.2.2.symm⟩
 have e:zBh [] ((ys.take (i+1)).filter p)=zNo (zBh [] ((ys.take i).filter p)) (ys[i]?.getD default):=by rw[zGq default hi hp,zEp]
 have h2:=zIu hb oO hok (k:=k) (hat hw)
 have h3:=zIt (p:=ys[i]?.getD default) hb.inv
 rw[if_pos oO] at h2
 rw[h2,e]
theorem z2S {a:Bool} {P:Prop} [Decidable P] (h:a=true∧P):(a && decide P)=true:=by rw[h.1,decide_eq_true h.2];rfl
theorem z5S {a:Bool} {P:Prop} [Decidable P] (h:a=true→¬P):(a && decide P)=false:=by
 cases a with
 | false=>rfl
 | true=>rw[decide_eq_false (h rfl)];rfl
def zJW (t:Table) (fs:List Filter) (s:List Int) (ce:Int):Table:=⟨t.cols,⟨t.bag.items.filter fun p=>zFK t.cols fs p.row fs.length && decide (zDX s p.row=ce)⟩⟩
theorem zSE (l:List Value) (qa qb qc qd:Nat) (e1:Bool) (u3:Option Addr) (v3 w3:Nat) (u4:Option Addr) (v4 w4:Nat) (u5:Option Addr) (w5:Nat) (u6:Option Addr) (v6 w6:Nat) (u7:Option Addr) (w7:Nat) (ce:Int) (t:Table) (fs:List Filter) (s:List Int)
  (ht:zAv t=true) (hf:∀ i,i < fs.length→zYL t.cols (fs[i]?.getD default)) :
  Ct prog 117 [.agg ⟨l⟩,.func (.func 123) ⟨[]⟩ ⟨[.pointer (some ⟨qa,0,none⟩),.pointer (some ⟨qb,0,none⟩),.pointer (some ⟨qc,0,none⟩),.pointer (some ⟨qd,0,none⟩)]⟩] []
   (fun H=>(zBw.rd H l t∧(gSl 165 zAE).rd H [.slice u5 fs.length w5] fs∧(gSl 3 gI).rd H [.slice u6 v6 w6] s∧(gSl 9 gS).rd H [.slice u7 t.cols.length w7] t.cols) ∧
    (qa,Obj.cells ⟨[.bool e1,.slice u3 v3 w3,.slice u4 v4 w4,.slice u5 fs.length w5]⟩ 43)∈H∧(qb,Obj.cells ⟨[.slice u6 v6 w6]⟩ 27)∈H∧(qc,Obj.cells ⟨[.slice u7 t.cols.length w7]⟩ 22)∈H∧(qd,Obj.cells ⟨[.int .i64 ce]⟩ 3)∈H)
   (fun v D=>∃ (b0:Option Addr) (c0:Nat) (b1:Option Addr) (c1:Nat),v = .agg ⟨[.slice b0 (zJW t fs s ce).cols.length c0,.slice b1 (zJW t fs s ce).bag.items.length c1]⟩∧OwT b0 c0 b1 c1 (zJW t fs s ce) D):=by
 refine Ct.intro0 zAh func117 rfl rfl rfl fun E H hp=>?_
 obtain⟨⟨hp,hr5,hr6,hr7⟩,hm1,hm2,hm3,hm4⟩:=hp
 obtain⟨b0p,c0p,l1p,rfl,h0p,h1p⟩:=zA6.1 hp
 obtain⟨b0_1p,c0_1p,rfl,h0_1p⟩:=zAD.1 h1p
 obtain⟨⟨ha1,ha2⟩,ha3⟩:=zBV ht
 have hW:=(zAJ.1 ht).2.2
 obtain⟨hcl1,hcl2,hcl3⟩:=zCa (zAJ.1 ht).1
 have hcz:=zOT (zAJ.1 ht).1
 refine⟨fun x0=>?_⟩
 refine⟨fun x1=>?_⟩
 refine zAi (zH7 _ _ _ (t.cols) ?_) (Rp.mono _ (zAa 0 rfl) h0p) ?_
 ·trivial
 rintro v2 A2 o2
 obtain⟨b2,c2,rfl,o2⟩:=o2
 refine⟨fun x3=>?_⟩
 apply zAg (α:=(Nat)×(List Item)×(Hp)×(Option Addr)×(Nat)) zAh [17,18,19,7,20,21,22,23,24,25,26,27,28,29,30,31,32,33,16] (fun z=>[(16,.v (.int .i64 z.1))]) (fun z=>[⟨x0,[Value.slice b0p t.cols.length c0p,Value.slice b0_1p t.bag.items.length c0_1p],(65:Nat)⟩,⟨x1,[Value.slice none (0:Nat) (0:Nat),Value.slice none (0:Nat) (0:Nat)],(65:Nat)⟩,⟨x3,[Value.slice b2 t.cols.length c2,.slice z.2.2.2.1 z.2.1.length z.2.2.2.2],(65:Nat)⟩]) (fun z=>[z.2.2.1,A2,H]) (fun z=>t.bag.items.length-z.1) (fun z=>z.1≤t.bag.items.length∧z.2.1=zBh [] ((t.bag.items.take z.1).filter fun p=>zFK t.cols fs p.row fs.length && decide (zDX s p.row=ce))∧(gSl 100 zAo).ow [.slice z.2.2.2.1 z.2.1.length z.2.2.2.2] z.2.1 z.2.2.1) ((0,[],[],none,0))
 ·exact frI
 ·exact⟨rfl,rfl,rfl,trivial⟩
 ·try dsimp only
  exact⟨Nat.zero_le _,rfl,zAm _ _ _⟩
 ·exact .refl _
 rintro ⟨k,xs,B,ib,ic⟩ hI
 try dsimp only at hI
 obtain⟨hk,hxs,oB⟩:=hI
 try dsimp only
 constructor<;>intro q4
 ·simp at q4
  obtain⟨ta1,ta2,ta3⟩:=zCb ht (i:=k) oO
  obtain⟨hiv,hln⟩:=zDZ hW (fun p=>zFK t.cols fs p.row fs.length && decide (zDX s p.row=ce)) (i:=k) oO
  rw[←hxs] at hiv hln
  refine zAf h0_1p ?_ ?_ fun b5 o5 hb5=>?_
  ·omega
  ·omega
  refine zAd default (k) rfl h0_1p ?_ ?_ hb5 rfl (zAa 2 rfl) fun l6 hl6=>?_
  ·omega
  ·omega
  obtain⟨b0x6,c0x6,rfl,h0x6,w1x6⟩:=zAB.1 hl6
  refine⟨fun x7=>?_⟩
  refine zAe (z5K _ _ _ _ _ _ _ _ _ e1 u3 v3 w3 u4 v4 w4 u5 w5 u6 v6 w6 u7 w7 ce t.cols (t.bag.items[k]?.getD default).row fs s hf hcl2 oO ta1 (zKp ta3)) ⟨⟨Rp.mono _ (zAk sI) h0p,Rp.mono _ (zAk sI) ‹(gSl 3 gI).rd H [Value.slice _ (t.bag.items[k]?.getD default).row.length _] _›,Rp.mono _ (zAk sI) hr5,Rp.mono _ (zAk sI) hr6,Rp.mono _ (zAk sI) hr7⟩,zAa 2 rfl _ hm1,zAa 2 rfl _ hm2,zAa 2 rfl _ hm3,zAa 2 rfl _ hm4⟩ ?_
  rintro _ rfl
  constructor<;>intro q9
  ·simp at q9
   refine zAr 2 (B) [A2,H] rfl ?_ (zGW _ _ _ _ _ _ xs _ _ _ _ (t.bag.items[k]?.getD default).row (t.bag.items[k]?.getD default).times _ rfl oB ?_ ?_ ?_ ?_) (Rp.mono _ (zAa 1 rfl) h0x6) ?_
   ·exact .refl _
   ·exact hiv.1
   ·omega
   ·trivial
   ·exact hiv.2
   rintro _ A10 ⟨kp,bP,cP,AP,hat,rfl,rfl,oP⟩
   refine⟨_,_,[AP],rfl,zBO,?_⟩
   apply zAb (k+1,_,_,_,_)
   ·exact .refl _
   ·exact frI
   ·exact⟨rfl,rfl,rfl,trivial⟩
   ·try dsimp only
    exact⟨oO,zRb hW ha3 (fun p=>zFK t.cols fs p.row fs.length && decide (zDX s p.row=ce)) oO hxs (z2S aA) hat,aA⟩
   try dsimp only
   omega
  simp at q9
  apply zAb (k+1,xs,B,ib,ic)
  ·exact .refl _
  ·exact frI
  ·exact⟨rfl,rfl,rfl,trivial⟩
  ·try dsimp only
   exact⟨oO,by rw[←zFL (p:=fun p=>zFK t.cols fs p.row fs.length && decide (zDX s p.row=ce)) oO (z5S aA)];exact hxs,oB⟩
  try dsimp only
  omega
 simp at q4
 (have hke:k=t.bag.items.length:=oO;rw[hke,List.take_length,zDG hW] at hxs;subst hxs;exact⟨A2++B,⟨_,_,_,_,rfl,A2,B,.refl _,o2,oB⟩,rlB⟩)
end
section
attribute [local irreducible] IntKind.wrap zA0 zAj zAS zA2
theorem z5T (q1 q2 q3 q4:Nat) (b:Option Addr) (m c:Nat) (b2:Option Addr) (m2 c2:Nat) (e1:Bool) (b3:Option Addr) (m3 c3:Nat) (b4:Option Addr) (m4 c4:Nat) (b5:Option Addr) (m5 c5:Nat) (b6:Option Addr) (m6 c6:Nat) (ce:Int) (x:Query) (s:List Int) (a:Atom) (row:List Int)
  (hx:zAL.sz x≤1048576) (hs:zAU x s=true) (hr:(zBg a).length≤row.length) (hc:inR 0 (zA8 s-1) ce=true) :
  Ct prog 118 [.agg ⟨[.slice b m c,.slice b2 m2 c2]⟩,.pointer (some ⟨q1,0,none⟩),.pointer (some ⟨q2,0,none⟩),.pointer (some ⟨q3,0,none⟩),.pointer (some ⟨q4,0,none⟩)] []
   (fun H=>(zAL.rd H [.bool e1,.slice b3 m3 c3,.slice b4 m4 c4,.slice b5 m5 c5] x∧(gSl 3 gI).rd H [.slice b6 m6 c6] s∧(gSl 3 gI).rd H [.slice b2 m2 c2] row∧zA9.rd H [.string a.from',.string a.path,.string a.to] a) ∧
    (q1,Obj.cells ⟨[.bool e1,.slice b3 m3 c3,.slice b4 m4 c4,.slice b5 m5 c5]⟩ 43)∈H∧(q2,Obj.cells ⟨[.slice b6 m6 c6]⟩ 27)∈H∧(q3,Obj.cells ⟨[.string a.from',.string a.path,.string a.to]⟩ 97)∈H∧(q4,Obj.cells ⟨[.int .i64 ce]⟩ 3)∈H)
   (fun v A=>v = .bool (z8m x s a ce row)∧A=[]):=by
 refine Ct.intro0 zAh func118 rfl rfl rfl fun E H hp=>?_
 obtain⟨⟨hp,hsr,hrow,hat⟩,hm1,hm2,hm3,hm4⟩:=hp
 obtain⟨rfl,hcw,hlw⟩:=zAp hrow
 refine⟨fun x0=>?_⟩
 refine zBr zAh zAK none (.q 0 (.q 1 (.q 2 (.q 3 (.q 4 (.q 6 (.f 5 (.f 7 (.q 8 (.nil)))))))))) (by decide +kernel) ?_
 refine zDq (l:=[.bool e1,.slice b3 m3 c3,.slice b4 m4 c4,.slice b5 m5 c5]) (by first|exact zAa 0 rfl _ hm1|exact zAa 1 rfl _ hm1|exact zAa 2 rfl _ hm1) (by first|exact Nat.le_refl _|simp) rfl ?_
 refine zDq (l:=[.slice b6 m6 c6]) (by first|exact zAa 0 rfl _ hm2|exact zAa 1 rfl _ hm2|exact zAa 2 rfl _ hm2) (by first|exact Nat.le_refl _|simp) rfl ?_
 refine zDq (l:=[.string a.from',.string a.path,.string a.to]) (by first|exact zAa 0 rfl _ hm3|exact zAa 1 rfl _ hm3|exact zAa 2 rfl _ hm3) (by first|exact Nat.le_refl _|simp) rfl ?_
 refine zDq (l:=[.int .i64 ce]) (by first|exact zAa 0 rfl _ hm4|exact zAa 1 rfl _ hm4|exact zAa 2 rfl _ hm4) (by first|exact Nat.le_refl _|simp) rfl ?_
 refine zAi (zVy _ _ _ _ _ _ _ _ x s a row hx hs hr) ⟨Rp.mono _ (zAk sI) hp,Rp.mono _ (zAk sI) hsr,Rp.mono _ (zAk sI) hat,Rp.mono _ (zAk sI) hrow⟩ ?_
 rintro v1 A1 o1
 obtain⟨bT,cT,rfl,oT⟩:=o1
 have rT:=Gt.owrd _ oT
 refine VC.intro ?_ ?_
 ·exact zAA
 refine zAe (zOM _ _ _ (zG6 s (alM (zAj x.atoms) (zBg a) row s) (zA8 s).toNat) _) (Rp.mono _ (zAa 0 rfl) rT) ?_
 rintro _ rfl
 refine VC.intro ?_ ?_
 ·exact zAA
 exact⟨_,⟨by rw[zZm hs hc],rfl⟩,rlB⟩
end
section
attribute [local irreducible] IntKind.wrap zA0 zAj zAS zA2
def zZx (x:Query) (s:List Int) (a:Atom) (ce:Int) (t:Table):Table:=⟨t.cols,⟨t.bag.items.filter (zSw x s a ce)⟩⟩
theorem zRc (l:List Value) (qa qb qc qd:Nat) (e1:Bool) (u3:Option Addr) (v3 w3:Nat) (u4:Option Addr) (v4 w4:Nat) (u5:Option Addr) (v5 w5:Nat) (u6:Option Addr) (v6 w6:Nat) (ce:Int) (x:Query) (s:List Int) (a:Atom) (t:Table)
  (ht:zAv t=true) (hx:zAL.sz x≤1048576) (hs:zAU x s=true) (hc:inR 0 (zA8 s-1) ce=true) (hta:t.cols=zBg a) :
  Ct prog 117 [.agg ⟨l⟩,.func (.func 118) ⟨[]⟩ ⟨[.pointer (some ⟨qa,0,none⟩),.pointer (some ⟨qb,0,none⟩),.pointer (some ⟨qc,0,none⟩),.pointer (some ⟨qd,0,none⟩)]⟩] []
   (fun H=>(zBw.rd H l t∧zAL.rd H [.bool e1,.slice u3 v3 w3,.slice u4 v4 w4,.slice u5 v5 w5] x∧(gSl 3 gI).rd H [.slice u6 v6 w6] s∧zA9.rd H [.string a.from',.string a.path,.string a.to] a) ∧
    (qa,Obj.cells ⟨[.bool e1,.slice u3 v3 w3,.slice u4 v4 w4,.slice u5 v5 w5]⟩ 43)∈H∧(qb,Obj.cells ⟨[.slice u6 v6 w6]⟩ 27)∈H∧(qc,Obj.cells ⟨[.string a.from',.string a.path,.string a.to]⟩ 97)∈H∧(qd,Obj.cells ⟨[.int .i64 ce]⟩ 3)∈H)
   (fun v D=>∃ (b0:Option Addr) (c0:Nat) (b1:Option Addr) (c1:Nat),v = .agg ⟨[.slice b0 (zZx x s a ce t).cols.length c0,.slice b1 (zZx x s a ce t).bag.items.length c1]⟩∧OwT b0 c0 b1 c1 (zZx x s a ce t) D):=by
 refine Ct.intro0 zAh func117 rfl rfl rfl fun E H hp=>?_
 obtain⟨⟨hp,hrq,hrs,hat⟩,hm1,hm2,hm3,hm4⟩:=hp
 obtain⟨b0p,c0p,l1p,rfl,h0p,h1p⟩:=zA6.1 hp
 obtain⟨b0_1p,c0_1p,rfl,h0_1p⟩:=zAD.1 h1p
 obtain⟨⟨ha1,ha2⟩,ha3⟩:=zBV ht
 have hW:=(zAJ.1 ht).2.2
 obtain⟨hcl1,hcl2,hcl3⟩:=zCa (zAJ.1 ht).1
 have hcz:=zOT (zAJ.1 ht).1
 refine⟨fun x0=>?_⟩
 refine⟨fun x1=>?_⟩
 refine zAi (zH7 _ _ _ (t.cols) ?_) (Rp.mono _ (zAa 0 rfl) h0p) ?_
 ·trivial
 rintro v2 A2 o2
 obtain⟨b2,c2,rfl,o2⟩:=o2
 refine⟨fun x3=>?_⟩
 apply zAg (α:=(Nat)×(List Item)×(Hp)×(Option Addr)×(Nat)) zAh [17,18,19,7,20,21,22,23,24,25,26,27,28,29,30,31,32,33,16] (fun z=>[(16,.v (.int .i64 z.1))]) (fun z=>[⟨x0,[Value.slice b0p t.cols.length c0p,Value.slice b0_1p t.bag.items.length c0_1p],(65:Nat)⟩,⟨x1,[Value.slice none (0:Nat) (0:Nat),Value.slice none (0:Nat) (0:Nat)],(65:Nat)⟩,⟨x3,[Value.slice b2 t.cols.length c2,.slice z.2.2.2.1 z.2.1.length z.2.2.2.2],(65:Nat)⟩]) (fun z=>[z.2.2.1,A2,H]) (fun z=>t.bag.items.length-z.1) (fun z=>z.1≤t.bag.items.length∧z.2.1=zBh [] ((t.bag.items.take z.1).filter (zSw x s a ce))∧(gSl 100 zAo).ow [.slice z.2.2.2.1 z.2.1.length z.2.2.2.2] z.2.1 z.2.2.1) ((0,[],[],none,0))
 ·exact frI
 ·exact⟨rfl,rfl,rfl,trivial⟩
 ·try dsimp only
  exact⟨Nat.zero_le _,rfl,zAm _ _ _⟩
 ·exact .refl _
 rintro ⟨k,xs,B,ib,ic⟩ hI
 try dsimp only at hI
 obtain⟨hk,hxs,oB⟩:=hI
 try dsimp only
 constructor<;>intro q4
 ·simp at q4
  obtain⟨ta1,ta2,ta3⟩:=zCb ht (i:=k) oO
  obtain⟨hiv,hln⟩:=zDZ hW (zSw x s a ce) (i:=k) oO
  rw[←hxs] at hiv hln
  refine zAf h0_1p ?_ ?_ fun b5 o5 hb5=>?_
  ·omega
  ·omega
  refine zAd default (k) rfl h0_1p ?_ ?_ hb5 rfl (zAa 2 rfl) fun l6 hl6=>?_
  ·omega
  ·omega
  obtain⟨b0x6,c0x6,rfl,h0x6,w1x6⟩:=zAB.1 hl6
  refine⟨fun x7=>?_⟩
  refine zAe (z5T _ _ _ _ _ _ _ _ _ _ e1 u3 v3 w3 u4 v4 w4 u5 v5 w5 u6 v6 w6 ce x s a (t.bag.items[k]?.getD default).row hx hs (by rw[←hta];omega) hc) ⟨⟨Rp.mono _ (zAk sI) hrq,Rp.mono _ (zAk sI) hrs,Rp.mono _ (zAk sI) ‹(gSl 3 gI).rd H [Value.slice _ (t.bag.items[k]?.getD default).row.length _] _›,Rp.mono _ (zAk sI) hat⟩,zAa 2 rfl _ hm1,zAa 2 rfl _ hm2,zAa 2 rfl _ hm3,zAa 2 rfl _ hm4⟩ ?_
  rintro _ rfl
  constructor<;>intro q9
  ·refine zAr 2 (B) [A2,H] rfl ?_ (zGW _ _ _ _ _ _ xs _ _ _ _ (t.bag.items[k]?.getD default).row (t.bag.items[k]?.getD default).times _ rfl oB ?_ ?_ ?_ ?_) (Rp.mono _ (zAa 1 rfl) h0x6) ?_
   ·exact .refl _
   ·exact hiv.1
   ·omega
   ·trivial
   ·exact hiv.2
   rintro _ A10 ⟨kp,bP,cP,AP,hat,rfl,rfl,oP⟩
   refine⟨_,_,[AP],rfl,zBO,?_⟩
   apply zAb (k+1,_,_,_,_)
   ·exact .refl _
   ·exact frI
   ·exact⟨rfl,rfl,rfl,trivial⟩
   ·try dsimp only
    exact⟨oO,zRb hW ha3 (zSw x s a ce) oO hxs aA hat,aA⟩
   try dsimp only
   omega
  apply zAb (k+1,xs,B,ib,ic)
  ·exact .refl _
  ·exact frI
  ·exact⟨rfl,rfl,rfl,trivial⟩
  ·try dsimp only
   exact⟨oO,by rw[←zFL (p:=zSw x s a ce) oO aA];exact hxs,oB⟩
  try dsimp only
  omega
 simp at q4
 (have hke:k=t.bag.items.length:=oO;rw[hke,List.take_length,zDG hW] at hxs;subst hxs;exact⟨A2++B,⟨_,_,_,_,rfl,A2,B,.refl _,o2,oB⟩,rlB⟩)
theorem zJX (lg lq:List Value) (b:Option Addr) (m c:Nat) (g:Graph) (x:Query) (s:List Int) (i ce:Int) (hx:zAL.sz x≤1048576) :
  Ct prog 70 [.agg ⟨lg⟩,.agg ⟨lq⟩,.slice b m c,.int .i64 i,.int .i64 ce] [] (fun H=>zBz.rd H lg g∧zAL.rd H lq x∧(gSl 3 gI).rd H [.slice b m c] s)
   (fun v D=>∃ (b0:Option Addr) (c0:Nat) (b1:Option Addr) (c1:Nat),v = .tuple #[.agg ⟨[.slice b0 (zC2 g x s i ce).1.cols.length c0,.slice b1 (zC2 g x s i ce).1.bag.items.length c1]⟩,.bool (zC2 g x s i ce).2]∧OwT b0 c0 b1 c1 (zC2 g x s i ce).1 D):=by
 refine Ct.intro0 zAh func70 rfl rfl rfl fun E H hp=>?_
 obtain⟨hp,hq,hs⟩:=hp
 obtain⟨rfl,hcs,hls⟩:=zAp hs
 obtain⟨b1g,c1g,rfl,w0g,h1g⟩:=zAY.1 hp
 obtain⟨b1r,c1r,b2r,c2r,b3r,c3r,rfl,h1r,h2r,h3r⟩:=zAy.1 hq
 have hal:=zCI hx
 have hcr:=zIp s
 refine⟨fun x0=>?_⟩
 refine⟨fun x1=>?_⟩
 refine⟨fun x2=>?_⟩
 refine⟨fun x3=>?_⟩
 refine⟨fun x4=>?_⟩
 refine zAe (zDO _ (g)) (Rp.mono _ (zAa 0 rfl) hp) ?_
 rintro _ rfl
 constructor<;>intro q6
 ·simp at q6
  (rw[zNG aA];exact⟨[],⟨_,_,_,_,rfl,zCc⟩,.mem sI⟩)
 simp at q6
 refine zAe (zGm _ _ _ _ (x) (s) ?_) ⟨(Rp.mono _ (zAa 0 rfl) hq),(Rp.mono _ (zAa 0 rfl) hs)⟩ ?_
 ·trivial
 rintro _ rfl
 constructor<;>intro q8
 ·simp at q8
  (rw[zNH aA];exact⟨[],⟨_,_,_,_,rfl,zCc⟩,.mem sI⟩)
 simp at q8
 refine zAe (zVV _ x _) (Rp.mono _ (zAa 0 rfl) hq) ?_
 rintro _ rfl
 constructor<;>intro q10
 ·simp at q10
  (rw[zNI aA];exact⟨[],⟨_,_,_,_,rfl,zCc⟩,.mem sI⟩)
 simp at q10
 refine zAe (zQm _ _ _ (s) _) (Rp.mono _ (zAa 0 rfl) hs) ?_
 rintro _ rfl
 constructor<;>intro q12
 ·simp at q12
  (rw[zNJ aA];exact⟨[],⟨_,_,_,_,rfl,zCc⟩,.mem sI⟩)
 simp at q12
 have hai:=zAq.1 ‹inR 0 ((x.atoms.length:Int)-1) i=true›
 have hsh:=‹zAU x s=true›
 have hatm:=zSt (zCf hsh).1 (k:=i.toNat) oO
 obtain⟨hg1,hg2,hE⟩:=zEa ‹zAH g=true›
 refine zAf h2r ?_ ?_ fun b13 o13 hb13=>?_
 ·omega
 ·omega
 refine zAF default h2r ?_ ?_ hb13 rfl (zAa 0 rfl) fun l14 hl14=>?_
 ·omega
 ·omega
 obtain⟨rfl,w0x14,w1x14,w2x14⟩:=zAT.1 hl14
 refine⟨fun x15=>?_⟩
 refine zAi (zSy _ _ g (x.atoms[i.toNat]?.getD default) ?_) ⟨(Rp.mono _ (zAa 0 rfl) hp),(Rp.mono _ (zAa 0 rfl) hl14)⟩ ?_
 ·exact zDC hx oO
 rintro v16 A16 o16
 obtain⟨b0S,c0S,b1S,c1S,rfl,oS⟩:=o16
 rw[zL2 ‹zAH g=true› hatm] at oS ⊢
 refine⟨fun x17=>?_⟩
 refine zAi (zRc _ _ _ _ _ x.each b1r x.out.length c1r b2r x.atoms.length c2r b3r x.filters.length c3r b s.length c ce x s (x.atoms[i.toNat]?.getD default) (zJU g (x.atoms[i.toNat]?.getD default)) (zO4 oO hatm) hx hsh ‹inR 0 (zA8 s-1) ce=true› rfl) ⟨⟨zLJ oS (zAk sI),Rp.mono _ (zAk sI) hq,Rp.mono _ (zAk sI) hs,Rp.mono _ (zAk sI) ‹zA9.rd H [Value.string (x.atoms[i.toNat]?.getD default).from',Value.string (x.atoms[i.toNat]?.getD default).path,Value.string (x.atoms[i.toNat]?.getD default).to] (x.atoms[i.toNat]?.getD default)›⟩,(by simp [St.hall,Blk.ent,zJJ]),(by simp [St.hall,Blk.ent,zJJ]),(by simp [St.hall,Blk.ent,zJJ]),(by simp [St.hall,Blk.ent,zJJ])⟩ ?_
 rintro v18 A18 o18
 obtain⟨b018,c018,b118,c118,rfl,o18⟩:=o18
 try dsimp only
 (rw[zG2 ‹zAH g=true› hsh ‹inR 0 ((x.atoms.length:Int)-1) i=true› ‹inR 0 (zA8 s-1) ce=true›];exact⟨_,⟨_,_,_,_,rfl,aA⟩,rlB⟩)
end
end Go.Proofs.YtcnclhjhnjpeiaaGreat
