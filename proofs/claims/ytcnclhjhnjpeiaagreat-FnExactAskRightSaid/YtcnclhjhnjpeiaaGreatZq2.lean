/-
 Parts of the law, put together. Conditions: none.
-/
import Derived.Test.YtcnclhjhnjpeiaaGreatZq1
set_option maxHeartbeats 4000000
set_option linter.unusedSimpArgs false
set_option linter.unusedVariables false
namespace Go.SX
def CtR (P:Program) (f:FuncId) (args:List Value) (A0:Hp) (pre:Hp→Prop) (post:Value→Hp→Prop):Prop:=
 (∃ fn, P.funcs[f]? = some fn ∧ fn.name ≠ "runtime.NumGoroutine" ∧ fn.body.isSome = true) ∧
 ∀ E H w,Sat E (A0++H) w→pre H→Calls P f ⟨args⟩ w fun e w'=>∃ v A,e = .returned v∧post v A∧Sat E (A++H) w'
def zMP:List Blk→Nat→List Blk
 | [],_=>[]
 | _::r,0=>r
 | b::r,i+1=>b::zMP r i
theorem zKU:∀ {bl:List Blk} {h:Nat} {b:Blk},zE9 bl h=some b→bl.Perm (b::zMP bl h)
 | [],_,_,e=>by simp [zE9] at e
 | b::r,0,_,e=>by cases e;exact .refl _
 | c::r,i+1,b,e=>by
  have:=zKU (bl:=r) (h:=i) (b:=b) e
  exact (this.cons c).trans (.swap _ _ _)
theorem zKV:∀ {bl bl':List Blk} {h:Nat} {b:Blk} {cs:List Value},zE9 bl h=some b→zHa bl h cs=some bl'→bl'.Perm (⟨b.id,cs,b.ty⟩::zMP bl h)∧bl'.map Blk.id=bl.map Blk.id
 | [],_,_,_,_,e,_=>by simp [zE9] at e
 | b::r,bl',0,_,cs,e,e'=>by
  cases e
  obtain⟨i,c0,t⟩:=b
  simp only[zHa,Option.some.injEq] at e'
  subst e'
  exact⟨.refl _,rfl⟩
 | c::r,bl',i+1,b,cs,e,e'=>by
  simp only[zHa] at e'
  split at e'
  ·rename_i r' hr'
   cases e'
   obtain⟨h1,h2⟩:=zKV (bl:=r) (h:=i) (b:=b) e hr'
   exact⟨(h1.cons c).trans (.swap _ _ _),by simp [h2]⟩
  cases e'
section
variable {P:Program} {E:World} {Γ:Ty}
theorem Ct.toR {f:FuncId} {args:List Value} {pre:Hp→Prop} {post:Value→Hp→Prop} (h:Ct P f args [] pre post):CtR P f args [] pre post:=h
theorem CtR.intro (hΓ : zD3 P Γ) {f : FuncId} {fn : Func} (L : List Hp) (hf : P.funcs[f]? = some fn) (hn : decide (fn.name = "runtime.NumGoroutine") = false) (hb : fn.body.isSome = true) {args : List Value} (ha : Nat.ble args.length fn.ntmps = true) {A0 : Hp} {pre : Hp → Prop} {post : Value → Hp → Prop}
  (hL:L.flatten=A0) (h:∀ E H,pre H→z68 P E Γ fn args (L++[H]) fun v bl R=>∃ A,post v A∧RLe (bl.map Blk.ent::R) [A,H]):CtR P f args A0 pre post:=by
 refine⟨⟨fn,hf,of_decide_eq_false hn,hb⟩,fun E H w hs hp=>?_⟩
 refine (zIO hΓ hf ha (h E H hp) (by simpa [hL] using hs)).mono ?_
 rintro e w' ⟨v,bl,R',h1,h2,A,h3,L,h4⟩
 refine⟨v,A,h1,h3,?_⟩
 have:(St.hall ⟨[],bl,R'⟩).Perm ((A++H)++L):=by simpa [St.hall] using h4
 exact (h2.perm this).drop
theorem CtR.introB (hΓ : zD3 P Γ) {f : FuncId} {fn : Func} (svs : List SV) (bl : List Blk) (L : List Hp) (hf : P.funcs[f]? = some fn) (hn : decide (fn.name = "runtime.NumGoroutine") = false) (hb : fn.body.isSome = true) {args : List Value} (ha : Nat.ble svs.length fn.ntmps = true)
  (hargs:svs.map (SV.den bl)=args) (hok:∀ s∈svs,s.ok bl) {A0:Hp} {pre:Hp→Prop} {post:Value→Hp→Prop}
  (hL:A0.Perm (bl.map Blk.ent++L.flatten)) (h:∀ E H,pre H→z0O P E Γ fn svs bl (L++[H]) fun v bl R=>∃ A,post v A∧RLe (bl.map Blk.ent::R) [A,H]):CtR P f args A0 pre post:=by
 refine⟨⟨fn,hf,of_decide_eq_false hn,hb⟩,fun E H w hs hp=>?_⟩
 subst hargs
 have hs':Sat E (St.hall ⟨[],bl,L++[H]⟩) w:=by
  refine hs.perm ?_
  have:=hL.append_right H
  simpa [St.hall,List.append_assoc] using this
 refine (zKS hΓ hf ha hok (h E H hp) hs').mono ?_
 rintro e w' ⟨v,bl,R',h1,h2,A,h3,L,h4⟩
 refine⟨v,A,h1,h3,?_⟩
 have:(St.hall ⟨[],bl,R'⟩).Perm ((A++H)++L):=by simpa [St.hall] using h4
 exact (h2.perm this).drop
theorem z28 {X:Hp} {R R':List Hp} {w:World} (hs:Sat E (X++R.flatten) w) (h:RLe R R'):Sat E (X++R'.flatten) w:=by
 obtain⟨L,hL⟩:=h
 have:(X++R.flatten).Perm ((X++R'.flatten)++L):=by
  rw[List.append_assoc];exact hL.append_left X
 exact (hs.perm this).drop
theorem zA1 {f:FuncId} {args:List Value} {bl:List Blk} {R:List Hp} (A0:Hp) (R0:List Hp) {pre:Hp→Prop} {post:Value→Hp→Prop} {K:Value→List Blk→List Hp→Prop} (hc:CtR P f args A0 pre post)
  (hR:RLe R (A0::R0)) (hp:pre (St.hall ⟨[],bl,R0⟩)) (hk:∀ v A,post v A→∃ L,A.Perm L.flatten∧K v bl (L++R0)):VCcall P E f args ⟨[],bl,R⟩ K:=by
 have perm:∀ A:Hp,(bl.map Blk.ent++(A::R0).flatten).Perm (A++St.hall ⟨[],bl,R0⟩):=by
  intro A
  simp only[St.hall,List.flatten_cons]
  rw[←List.append_assoc,←List.append_assoc]
  exact List.perm_append_comm.append_right _
 refine .intro hc.1 (fun w hs=>(hc.2 E _ w ((z28 hs hR).perm (perm A0)) hp).mono ?_)
 rintro e w' ⟨v,A,h1,h2,h3⟩
 obtain⟨L,h4,h5⟩:=hk v A h2
 refine⟨v,bl,L++R0,h1,h3.perm ((perm A).symm.trans ?_),rfl,h5⟩
 simp only[St.hall,List.flatten_cons,List.flatten_append]
 exact (h4.append_right _).append_left _
theorem zCW {f:FuncId} {args:List Value} {bl:List Blk} {R:List Hp} {pre:Hp→Prop} {post:Value→Hp→Prop} {K:Value→List Blk→List Hp→Prop} (hc:Ct P f args [] pre post)
  (hp:pre (St.hall ⟨[],bl,R⟩)) (hk:∀ v A,post v A→∃ L,A.Perm L.flatten∧K v bl (L++R)):VCcall P E f args ⟨[],bl,R⟩ K:=
 zA1 [] R hc.toR (.refl _) hp hk
theorem zAr (h:Nat) {f:FuncId} {args:List Value} {bl:List Blk} {R:List Hp} (A1:Hp) (R0:List Hp) {b:Blk} {pre:Hp→Prop} {post:Value→Hp→Prop} {K:Value→List Blk→List Hp→Prop} (hb:zE9 bl h=some b)
  (hR:RLe R (A1::R0)) (hc:CtR P f args ((b.id,Obj.cells ⟨b.cs⟩ b.ty)::A1) pre post) (hp:pre (St.hall ⟨[],zMP bl h,R0⟩))
  (hk:∀ v A,post v A→∃ cs' bl' L,zHa bl h cs'=some bl'∧A.Perm ((b.id,Obj.cells ⟨cs'⟩ b.ty)::L.flatten)∧K v bl' (L++R0)):VCcall P E f args ⟨[],bl,R⟩ K:=by
 have hbl:=(zKU hb).map Blk.ent
 refine .intro hc.1 (fun w hs=>(hc.2 E _ w ((z28 hs hR).perm ?_) hp).mono ?_)
 ·refine (hbl.append_right _).trans ?_
  simp only[List.map_cons,St.hall,List.flatten_cons,List.cons_append]
  refine .cons _ ?_
  rw[←List.append_assoc,←List.append_assoc]
  exact List.perm_append_comm.append_right _
 rintro e w' ⟨v,A,h1,h2,h3⟩
 obtain⟨cs',bl',L,h4,h5,h6⟩:=hk v A h2
 obtain⟨g1,g2⟩:=zKV hb h4
 refine⟨v,bl',L++R0,h1,h3.perm ?_,g2,h6⟩
 have g3:=(g1.map Blk.ent).symm
 refine List.Perm.trans ?_ (g3.append_right _)
 refine (h5.append_right _).trans ?_
 simp only[List.map_cons,St.hall,List.flatten_append,List.cons_append,Blk.ent]
 refine .cons _ ?_
 rw[←List.append_assoc,←List.append_assoc]
 exact List.perm_append_comm.append_right _
theorem zUO {α:Type} {n id:Nat} {ops:Array Oper} {fr:Fr} {bl:List Blk} {R:List Hp} {K:St→Prop} (ws:List Nat) (mods:α→Fr) (bls:α→List Blk) (Rs:α→List Hp) (I:α→Prop)
  (h1:VCdraw P E n id ops ⟨fr,bl,R⟩ (fun st'=>∃ z,I z∧zWs st' ⟨mods z++zN2 ws fr,bls z,Rs z⟩)) (h2:∀ z,I z→K ⟨mods z++zN2 ws fr,bls z,Rs z⟩):VCdraw P E n id ops ⟨fr,bl,R⟩ K:=
 zWz (fun z=>⟨mods z++zN2 ws fr,bls z,Rs z⟩) I h1 h2
end
end Go.SX
namespace Go.SX
theorem zHg {a b:Int} (h:a=b):Value.int .i64 a=Value.int .i64 b:=by rw[h]
theorem zAZ (x:Int):IntKind.u8.wrap x=x % 256:=by
 unfold IntKind.wrap
 simp [IntKind.bits,IntKind.signed]
theorem zAR {a b:ByteArray}:a.toList=b.toList↔a=b:=by
 constructor
 ·intro h
  rw[ByteArray.toList_eq,ByteArray.toList_eq] at h
  obtain⟨⟨a⟩⟩:=a;obtain⟨⟨b⟩⟩:=b
  cases h;rfl
 rintro rfl;rfl
theorem zBn {a b:UInt8}:((a.toNat:Nat):Int)=(b.toNat:Nat)↔a=b:=by
 constructor
 ·intro h
  exact UInt8.toNat_inj.1 oO
 rintro rfl;rfl
theorem zRC (l1 l2 l:List Value) (d:Nat) (h:d+l.length≤l1.length):zB2 (l1++l2) d l=zB2 l1 d l++l2:=by
 rw[zC3 _ _ _ (by rw[List.length_append];omega),zC3 _ _ _ h]
 rw[List.take_append_of_le_length oO,List.drop_append_of_le_length oO]
 simp
theorem zRD (l1 l2 l:List Value) (d:Nat) (h:d+l.length≤l2.length):zB2 (l1++l2) (l1.length+d) l=l1++zB2 l2 d l:=by
 rw[zC3 _ _ _ (by rw[List.length_append];omega),zC3 _ _ _ h]
 rw[List.take_append,List.drop_append,List.take_of_length_le oO,List.drop_eq_nil_of_le (by omega:l1.length≤l1.length+d+l.length)]
 rw[show l1.length+d-l1.length=d from oO,show l1.length+d+l.length-l1.length=d+l.length from oO]
 simp
theorem zHw (l l':List Value) (h:l'.length=l.length):zB2 l 0 l'=l':=by
 rw[zC3 _ _ _ oO]
 simp [h]
section
variable {α β γ:Type}
structure Fld (g:Gt α) (h:Gt β) (get:α→β) (upd:α→β→α) (d:Nat):Prop where
 fit:d+h.size≤g.size
 rd:∀ {H:Hp} {l:List Value} {x:α},g.rd H l x→h.rd H ((l.drop d).take h.size) (get x)
 ow:∀ {l:List Value} {x:α} {A:Hp},g.ow l x A→∃ Af Ar,A.Perm (Af++Ar)∧h.ow ((l.drop d).take h.size) (get x) Af∧∀ l' y B,h.ow l' y B→g.ow (zB2 l d l') (upd x y) (B++Ar)
theorem Fld.id (g:Gt α):Fld g g (fun x=>x) (fun _ y=>y) 0 where
 fit:=by omega
 rd h:=by
  have e:=g.len h
  rw[List.drop_zero,←e,List.take_length];exact h
 ow h:=by
  have e:=g.len (g.owrd h)
  refine⟨_,[],by rw[List.append_nil],by rw[List.drop_zero,←e,List.take_length];exact h,fun l' y B hB=>?_⟩
  have e':=g.len (g.owrd hB)
  rw[zHw _ _ oO,List.append_nil];exact hB
theorem Fld.fst (g:Gt α) (h:Gt β):Fld (gPair g h) g (fun x=>x.1) (fun x y=>(y,x.2)) 0 where
 fit:=by show 0+g.size≤g.size+h.size;omega
 rd:=by
  rintro H l x ⟨l1,l2,rfl,h1,h2⟩
  have e:=g.len h1
  rw[List.drop_zero,←e,List.take_left];exact h1
 ow:=by
  rintro l x A ⟨l1,l2,A1,A2,rfl,hp,h1,h2⟩
  have e:=g.len (g.owrd h1)
  refine⟨A1,A2,hp,by rw[List.drop_zero,←e,List.take_left];exact h1,fun l' y B hB=>?_⟩
  have e':=g.len (g.owrd hB)
  rw[zRC _ _ _ _ oO,zHw _ _ oO]
  exact⟨l',l2,B,A2,rfl,.refl _,hB,h2⟩
theorem Fld.snd (g:Gt α) (h:Gt β):Fld (gPair g h) h (fun x=>x.2) (fun x y=>(x.1,y)) g.size where
 fit:=by show g.size+h.size≤g.size+h.size;omega
 rd:=by
  rintro H l x ⟨l1,l2,rfl,h1,h2⟩
  have e:=g.len h1
  have e2:=h.len h2
  rw[←e,List.drop_left,←e2,List.take_length];exact h2
 ow:=by
  rintro l x A ⟨l1,l2,A1,A2,rfl,hp,h1,h2⟩
  have e:=g.len (g.owrd h1)
  have e2:=h.len (h.owrd h2)
  refine⟨A2,A1,hp.trans List.perm_append_comm,by rw[←e,List.drop_left,←e2,List.take_length];exact h2,fun l' y B hB=>?_⟩
  have e':=h.len (h.owrd hB)
  have:=zRD l1 l2 l' 0 oO
  rw[Nat.add_zero,e] at this
  rw[this,zHw _ _ oO]
  exact⟨l1,l',A1,B,rfl,List.perm_append_comm,h1,hB⟩
theorem Fld.iso {g:Gt α} {h:Gt β} {get:α→β} {upd:α→β→α} {d:Nat} {f:γ→α} {f':α→γ} (F:Fld g h get upd d) {get':γ→β} {upd':γ→β→γ} (hg:∀ x,get' x=get (f x)) (hu:∀ x y,f (upd' x y)=upd (f x) y):Fld (zRk g f f') h get' upd' d where
 fit:=F.fit
 rd hh:=by rw[hg];exact F.rd hh
 ow hh:=by
  obtain⟨Af,Ar,h1,h2,h3⟩:=F.ow hh
  refine⟨Af,Ar,h1,by rw[hg];exact h2,fun l' y B hB=>?_⟩
  show g.ow _ (f _) _
  rw[hu];exact h3 l' y B hB
variable {P:Program} {E:World} {Γ:Ty} {n:Nat} {g:Gt α} {T:TypeId}
theorem zDS {Q:Value→Prop} {f:FuncId} {args:List Value} {bl:List Blk} {R:List Hp} {pre:Hp→Prop} {K:Value→List Blk→List Hp→Prop} (hc:Ct P f args [] pre (fun v A=>Q v∧A=[]))
  (hp:pre (St.hall ⟨[],bl,R⟩)) (hk:∀ v,Q v→K v bl R):VCcall P E f args ⟨[],bl,R⟩ K:=by
 refine zCW hc hp ?_
 rintro v A ⟨h,rfl⟩
 exact⟨[],by simp,hk v h⟩
theorem Fld.st {h:Gt β} {get:α→β} {upd:α→β→α} {d:Nat} (F:Fld g h get upd d) {x:α} {v:β} {l:List Value} (hpl:∀ l y A,h.ow l y A→A=[]) (ho:h.ow l v []) :
  ∀ lx Ax,g.ow lx x Ax→d+l.length≤g.size∧∃ Ay,g.ow (zB2 lx d l) (upd x v) Ay∧Ax.Perm Ay:=by
 intro lx Ax hx
 have e:=h.len (h.owrd ho)
 obtain⟨Af,Ar,h1,h2,h3⟩:=F.ow hx
 have:=hpl _ _ _ h2
 subst this
 exact⟨by rw[e];exact F.fit,_,h3 l v [] ho,h1⟩
theorem zBq {h:Gt β} {get:α→β} {upd:α→β→α} {d:Nat} (F:Fld g h get upd d) (z:α) (k:Nat) {R:List Hp} {A:Hp} {base:Option Addr} {m cap:Nat} {xs:List α} {i:Int} {b o off:Nat} {l:List Value} {G:List Hp→Prop} (j:Nat) (hj:zV0 R j=some A) (hk:i=(k:Int)) (ho:(gSl T g).ow [.slice base m cap] xs A)
  (h0:0≤i) (h1:i < xs.length) (hb:base=some ⟨b,o,none⟩) (hoff:off=o+i.toNat * g.size+d) (hpl:∀ l y A,h.ow l y A→A=[]) (y:β) (hy:h.ow l y [])
  (c:∀ A',(gSl T g).ow [.slice base m cap] (xs.set k (upd (xs[k]?.getD z) y)) A'→G (zNZ R j A')):VCstore R b off l G:=by
 subst hk
 refine z7c j hj ho h0 h1 hb d hoff (upd (xs[k]?.getD z) y) ?_ fun A' _ o=>c A' (by simpa using o)
 have:xs[(k:Int).toNat]'oO=xs[k]?.getD z:=by
  have hlt:k < xs.length:=by omega
  simp [List.getElem?_eq_getElem hlt]
 rw[this]
 exact F.st hpl hy
theorem zCO (k:Nat) {R:List Hp} (A B:Hp) (Rr:List Hp) {base:Option Addr} {m cap:Nat} {xs:List α} {i:Int} {b o off:Nat} {l:List Value} {G:List Hp→Prop} (hR:RLe R (A::B::Rr)) (hk:i=(k:Int)) (h:(gSl T g).ow [.slice base m cap] xs A)
  (h0:0≤i) (h1:i < xs.length) (hb:base=some ⟨b,o,none⟩) (hoff:off=o+i.toNat * g.size) (y:α) (hy:g.ow l y B)
  (c:∀ A',(gSl T g).ow [.slice base m cap] (xs.set k y) A'→G (A'::Rr)):VCstore R b off l G:=by
 subst hk
 exact z4n A B Rr hR h h0 h1 hb hoff y hy fun A' o=>c A' (by simpa using o)
def OwE (T:TypeId) (g:Gt α) (base:Option Addr) (m cap:Nat) (xs:List α) (k:Nat) (x:α) (A:Hp):Prop:=
 k < xs.length∧(gSl T g).ow [.slice base m cap] (xs.set k x) A
theorem OwE.mk {base:Option Addr} {m cap:Nat} {xs:List α} {A:Hp} (z:α) (k:Nat) (h:(gSl T g).ow [.slice base m cap] xs A) (hk:k < xs.length) :
  ∃ x,x=xs[k]?.getD z∧OwE T g base m cap xs k x A:=by
 refine⟨_,rfl,hk,?_⟩
 have:xs.set k (xs[k]?.getD z)=xs:=by
  rw[List.getElem?_eq_getElem hk,Option.getD_some,List.set_getElem_self]
 rw[this];exact h
theorem OwE.done {base:Option Addr} {m cap:Nat} {xs:List α} {A:Hp} {k:Nat} {x:α} {ys:List α} (h:OwE T g base m cap xs k x A) (e:xs.set k x=ys):(gSl T g).ow [.slice base m cap] ys A:=e ▸ h.2
theorem zAb {ε:Type} {st':St} {I:ε→Prop} {μ:ε→Nat} {J:ε→St} {m0:Nat} (x:ε) (h3:RLe st'.R (J x).R) (h1:z4j st'.bl (J x).bl st'.fr (J x).fr) (h2:zZS st'.bl (J x).bl) (h4:I x) (h5:μ x < m0) :
  ∃ x',I x'∧μ x' < m0∧zWs st' (J x'):=⟨x,h4,h5,h1,h2,h3⟩
theorem zMQ {ε:Type} {st':St} {I:ε→Prop} {J:ε→St} (x:ε) (h3:RLe st'.R (J x).R) (h1:z4j st'.bl (J x).bl st'.fr (J x).fr) (h2:zZS st'.bl (J x).bl) (h4:I x) :
  ∃ x',I x'∧zWs st' (J x'):=⟨x,h4,h1,h2,h3⟩
theorem zAl {fr fr':Fr} {bl bl':List Blk} {R R':List Hp} (h1:∀ b∈bl,b∈bl') (h2:∀ A∈R,A∈R'):∀ p∈St.hall ⟨fr,bl,R⟩,p∈St.hall ⟨fr',bl',R'⟩:=by
 intro p hp
 simp only[St.hall,List.mem_append,List.mem_map,List.mem_flatten] at hp ⊢
 rcases hp with ⟨b,hb,rfl⟩|⟨A,hA,hp⟩
 ·exact .inl ⟨b,h1 b hb,rfl⟩
 exact .inr ⟨A,h2 A hA,hp⟩
theorem zHx:∀ l y A,gI.ow l y A→A=[]:=fun _ _ _ h=>h.2.2
theorem zN4:∀ l y A,gB.ow l y A→A=[]:=fun _ _ _ h=>h.2.2
theorem z8b {f:Fl α} {mk:Int→α} {sz:α→Nat}:∀ l y A,(f.gt mk sz).ow l y A→A=[]:=fun _ _ _ h=>h.2.2
end
end Go.SX
namespace Go.SX
theorem zPo (xs:List UInt8):strOfNums (xs.map fun x=>(x.toNat:Int))=⟨xs.toArray⟩:=by
 unfold strOfNums
 congr 2
 rw[List.map_map]
 conv=>rhs;rw[←List.map_id xs]
 apply List.map_congr_left
 intro x _
 simp
section
variable {P:Program} {E:World} {Γ:Ty} {n:Nat}
theorem zWA (hΓ:zD3 P Γ) (xs:List UInt8) {dst:Option Nat} {x:Operand} {t u e ty:TypeId} {pos:String} {after:Array Edge} {guard:Option (Nat×Bool)} {fr:Fr} {bl:List Blk} {R:List Hp} {K:St→Prop}
  {base:Option Addr} {m cap:Nat} (hx1:zCK fr x fun sv=>sv = .v (.slice base m cap)) (hr:(zF0 zEd.rp).rd (St.hall ⟨[],bl,R⟩) [.slice base m cap] xs)
  (ht:zCp Γ t=some (.slice e)) (he:zCp Γ e=some (.int .u8)) (hu:zCp Γ u=some .string)
  (hk:zFs n fr dst (.v (.string ⟨xs.toArray⟩)) fun fr=>K ⟨fr,bl,R⟩):VCraw P E n ⟨dst,.convert t u x,ty,pos,after,guard⟩ ⟨fr,bl,R⟩ K:=by
 refine⟨fun a w hrel Q=>?_⟩
 obtain⟨sv,g1,_,rfl⟩:=zBi hrel hx1
 refine zCM (s:=.v _) (v:=.string ⟨xs.toArray⟩) ?_ hrel rfl trivial hk
 have key:(convert t u (.slice base m cap)).run P w = .ok (.string ⟨xs.toArray⟩) w:=by
  obtain⟨base',cap',e1,h1,h2⟩:=hr
  cases e1
  have ht':=zBa hΓ ht
  have he':=zBa hΓ he
  have hu':=zBa hΓ hu
  cases xs with
  | nil=>
   rw[run_convert_bytes_string w t u e _ _ _ ht' he' hu']
   cases base with
   | none=>rfl
   | some a=>exact run_bytesToString w a 0 cap [] rfl
  | cons x0 r=>
   obtain⟨b,o,l',hb,hc,_⟩:=h2 0 sI
   subst hb
   rw[←zPo]
   refine run_convert_bytes_arg w t e ht' he' b o (x0::r).length cap ((x0::r).map fun x=>(x.toNat:Int)) sI (fun i hi=>?_) u hu'
   obtain⟨b2,o2,l2,hb2,hc2,hl2,_⟩:=h2 i hi
   cases hb2
   obtain⟨_,cs,T,fz,k1,k2⟩:=hc2
   have k3:=k2 0 (by show 0 < 1;omega)
   rw[hrel.sat.cell k1]
   have e2:zEd.rp.size=1:=rfl
   rw[e2,Nat.mul_one,Nat.add_zero] at k3
   rw[k3,hl2,List.getD_eq_getElem?_getD,List.getElem?_map,List.getElem?_eq_getElem hi]
   rfl
 simp only[execOp,g1,SV.den,Sem.run_bind,key,Sem.run_pure,Result.andThen_ok]
end
end Go.SX
namespace Go.Proofs.YtcnclhjhnjpeiaaGreat
open Go.SX Go.Proofs
open Tryz
section
theorem zAK:prog.follows .mixedOrders=true:=by kernel_rfl
theorem zBo {α:Type} {r:Rp α} {H:Hp} {base:Option Addr} {m cap:Nat} {xs:List α} (h:(zF0 r).rd H [.slice base m cap] xs):m=xs.length∧xs.length≤9223372036854775807:=by
 obtain⟨_,_,e,h1,_⟩:=h;cases e;exact⟨rfl,h1.2⟩
theorem z29 {α:Type} {r:Rp α} {H:Hp} {base:Option Addr} {m cap:Nat} {xs:List α} (h:(zF0 r).rd H [.slice base m cap] xs):xs.length≤cap:=by
 obtain⟨_,_,e,h1,_⟩:=h;cases e;exact h1.1
theorem zKW {α:Type} (xs:List α) (k:Nat) (z:α) (h:k < xs.length):(xs.take k++List.replicate (xs.length-k) z).set k (xs[k]?.getD z)=xs.take (k+1)++List.replicate (xs.length-(k+1)) z:=by
 rw[List.getElem?_eq_getElem h,Option.getD_some]
 obtain⟨j,hj⟩:∃ j,xs.length-k=j+1:=⟨xs.length-k-1,oO⟩
 rw[List.set_append_right _ _ (by rw[List.length_take];omega),hj,show xs.length-(k+1)=j from oO,List.length_take,show k-min k xs.length=0 from oO,List.replicate_succ,List.set_cons_zero,←List.take_append_getElem h,List.append_assoc,List.singleton_append]
theorem zFe {α:Type} (xs:List α) (k:Nat) (z z':α) (h:k < xs.length):(xs.take k++List.replicate (xs.length-k) z').set k (xs[k]?.getD z)=xs.take (k+1)++List.replicate (xs.length-(k+1)) z':=by
 rw[←zKW xs k z' h,List.getElem?_eq_getElem h,Option.getD_some,Option.getD_some]
theorem zHy {α:Type} {xs ys:List α} {k:Nat} (z:α) (h:xs.length=ys.length) (he:xs.take k=ys.take k) (hk:k < xs.length) (e:xs[k]?.getD z=ys[k]?.getD z):xs.take (k+1)=ys.take (k+1):=by
 rw[List.getElem?_eq_getElem hk,List.getElem?_eq_getElem oO] at e
 rw[←List.take_append_getElem hk,←List.take_append_getElem (by omega:k < ys.length),he]
 have e':xs[k]=ys[k]'oO:=e
 rw[e']
def dgs:Nat→Nat→ByteArray→ByteArray
 | 0,_,out=>out
 | f+1,k,out=>if k=0 then out else dgs f (k / 10) (⟨#[UInt8.ofNat (48+k % 10)]⟩++out)
def mtx (k:Int):ByteArray:=if k≤0 then ⟨#[109,48]⟩ else ⟨#[109]⟩++dgs 20 k.toNat .empty
def gS:Gt ByteArray:=zAx.gt mtx fun s=>s.size
theorem zN5 {x:ByteArray} (h:x.size≤9223372036854775807):gS.ow [.string x] x []:=⟨rfl,h,rfl⟩
theorem zSU (k:Int):gY.ow [.int .u8 (IntKind.u8.wrap k)] (UInt8.ofNat (k % 256).toNat) []:=by
 refine⟨?_,trivial,rfl⟩
 show [Value.int .u8 _]=[Value.int .u8 _]
 have:IntKind.u8.wrap k=((UInt8.ofNat (k % 256).toNat).toNat:Int):=by
  unfold IntKind.wrap
  simp only[IntKind.bits,IntKind.signed]
  simp
  omega
 rw[this]
section
variable {α:Type}
def szE (g:Gt α):List α→Nat
 | []=>0
 | x::r=>g.sz x+szE g r
theorem zEO (g:Gt α):∀ xs,szL g xs=xs.length+szE g xs
 | []=>rfl
 | x::r=>by rw[szL,szE,zEO g r,List.length_cons];omega
theorem zRE (g:Gt α):∀ xs ys,szE g (xs++ys)=szE g xs+szE g ys
 | [],ys=>by simp [szE]
 | x::r,ys=>by simp [szE,zRE g r];omega
theorem zDm (g:Gt α) (xs:List α) (k:Nat) (z:α) (h:k < xs.length):szE g (xs.take (k+1))=szE g (xs.take k)+g.sz (xs[k]?.getD z):=by
 rw[←List.take_append_getElem h,zRE,List.getElem?_eq_getElem h];rfl
theorem zF4 (g:Gt α) (xs:List α) (k:Nat):szE g (xs.take k)≤szE g xs:=by
 conv=>rhs;rw[←List.take_append_drop k xs]
 rw[zRE];omega
theorem zN6 (g:Gt α) (h:∀ x,g.sz x=0):∀ xs,szE g xs=0
 | []=>rfl
 | x::r=>by rw[szE,h,zN6 g h r]
theorem zB7 {β:Type} {g:Gt α} {h:Gt β} {H:Hp} {cs:List Value} {off:Nat} {x:α} {y:β} (h1:g.rd H ((cs.drop off).take g.size) x) (h2:h.rd H ((cs.drop (off+g.size)).take h.size) y) :
  (gPair g h).rd H ((cs.drop off).take (g.size+h.size)) (x,y):=by
 refine⟨_,_,?_,h1,h2⟩
 rw[List.take_add,List.drop_drop]
end
end
section
structure Item where
 row:List Int
 times:Int
deriving DecidableEq,Inhabited
def zAo:Gt Item:=zRk (SX.gPair (gSl 3 gI) gI) (fun x=>(x.row,x.times)) (fun p=>⟨p.1,p.2⟩)
theorem zAB {H:Hp} {l:List Value} {x:Item}:zAo.rd H l x↔∃ (b0:Option Addr) (c0:Nat),l = .slice b0 x.row.length c0 :: .int .i64 x.times::[]∧(gSl 3 gI).rd H [.slice b0 x.row.length c0] x.row∧okI x.times:=by
 constructor
 ·rintro ⟨m0,q0,rfl,h0,h1⟩
  obtain⟨b0,c0,rfl,h0⟩:=zCD h0
  obtain⟨rfl,w1⟩:=h1
  exact⟨b0,c0,rfl,h0,w1⟩
 rintro ⟨b0,c0,rfl,h0,w1⟩
 exact⟨[.slice b0 x.row.length c0],[.int .i64 x.times],rfl,h0,⟨rfl,w1⟩⟩
open Classical in
theorem zFx {A:Hp} {l:List Value} {x:Item}:zAo.ow l x A↔∃ (b0:Option Addr) (c0:Nat) (A0:Hp),l = .slice b0 x.row.length c0 :: .int .i64 x.times::[]∧A.Perm A0∧(gSl 3 gI).ow [.slice b0 x.row.length c0] x.row A0∧okI x.times:=by
 constructor
 ·rintro ⟨m0,q0,D0,E0,rfl,p0,h0,h1⟩
  obtain⟨b0,c0,rfl,h0⟩:=zJN h0
  obtain⟨rfl,w1,e1⟩:=h1
  subst e1
  exact⟨b0,c0,D0,rfl,(zBm fun a=>by have e0:=p0.count_eq a;simp only[List.count_append,List.count_nil] at *;omega),h0,w1⟩
 rintro ⟨b0,c0,A0,rfl,hp,h0,w1⟩
 exact⟨[.slice b0 x.row.length c0],[.int .i64 x.times],A0,[],rfl,(zBm fun a=>by have e:=hp.count_eq a;simp only[List.count_append,List.count_nil] at *;omega),h0,⟨rfl,w1,rfl⟩⟩
theorem zUP:zFc prog zAo.toRp 149:=by
 intro H' enc w H sp hd fuel cs d ps hcov ht
 obtain⟨h1,h2⟩:=zCg zSO.1 ht
 obtain⟨_,_,t0⟩:=h2 0 0 27 rfl
 obtain⟨x0,r0⟩:=(zEN zRq.1 (by kernel_rfl) (by decide) (zDk zFR.1)) _ _ H _ _ _ _ _ _ hcov t0
 rw[show prog.cellsOf 27=1 by kernel_rfl] at r0
 obtain⟨_,_,t1⟩:=h2 1 1 3 rfl
 obtain⟨x1,r1⟩:=(zDk zFR.1) _ _ H _ _ _ _ _ _ hcov t1
 rw[show prog.cellsOf 3=1 by kernel_rfl] at r1
 rw[show prog.cellsOf 149=2 by kernel_rfl] at h1
 have key:zAo.rd H ((cs.drop 0).take 2) ⟨x0,x1⟩:=(zB7 (g:=(gSl 3 gI)) (h:=gI) (off:=0) r0 r1)
 rw[List.drop_zero,List.take_of_length_le oO] at key
 exact⟨_,key⟩
def z4o:Item:=⟨[],0⟩
theorem zN7:zAo.ow [.slice none 0 0,.int .i64 0] z4o []:=zFx.2 ⟨none,0,[],rfl,by simp,zAm _ _ _,by first|(unfold okI;decide)|decide⟩
theorem zFy:Fld zAo gI (fun x=>x.times) (fun x y=>{ x with times:=y }) 1:=(Fld.snd _ _).iso (fun _=>rfl) (fun _ _=>rfl)
theorem zH3 (x:Item):zAo.sz x=szL gI x.row+(0):=rfl
theorem Item.eq_iff {x y:Item}:x=y↔x.row=y.row∧x.times=y.times:=by cases x;cases y;simp
structure Bag where
 items:List Item
deriving DecidableEq,Inhabited
def zDj:Gt Bag:=zRk (gSl 100 zAo) (fun x=>x.items) (fun p=>⟨p⟩)
theorem zAD {H:Hp} {l:List Value} {x:Bag}:zDj.rd H l x↔∃ (b0:Option Addr) (c0:Nat),l = .slice b0 x.items.length c0::[]∧(gSl 100 zAo).rd H [.slice b0 x.items.length c0] x.items:=by
 constructor
 ·rintro h0
  obtain⟨b0,c0,rfl,h0⟩:=zCD h0
  exact⟨b0,c0,rfl,h0⟩
 rintro ⟨b0,c0,rfl,h0⟩
 exact h0
open Classical in
theorem zF5 {A:Hp} {l:List Value} {x:Bag}:zDj.ow l x A↔∃ (b0:Option Addr) (c0:Nat) (A0:Hp),l = .slice b0 x.items.length c0::[]∧A.Perm A0∧(gSl 100 zAo).ow [.slice b0 x.items.length c0] x.items A0:=by
 constructor
 ·rintro h0
  obtain⟨b0,c0,rfl,h0⟩:=zJN h0
  exact⟨b0,c0,A,rfl,.refl _,h0⟩
 rintro ⟨b0,c0,A0,rfl,hp,h0⟩
 exact zDj.owp (l:=_) (x:=x) h0 hp
theorem zPp:zFc prog zDj.toRp 31:=by
 intro H' enc w H sp hd fuel cs d ps hcov ht
 obtain⟨h1,h2⟩:=zCg zWj.1 ht
 obtain⟨_,_,t0⟩:=h2 0 0 29 rfl
 obtain⟨x0,r0⟩:=(zEN zWi.1 (by kernel_rfl) (by decide) zUP) _ _ H _ _ _ _ _ _ hcov t0
 rw[show prog.cellsOf 29=1 by kernel_rfl] at r0
 rw[show prog.cellsOf 31=1 by kernel_rfl] at h1
 have key:zDj.rd H ((cs.drop 0).take 1) ⟨x0⟩:=r0
 rw[List.drop_zero,List.take_of_length_le oO] at key
 exact⟨_,key⟩
def z87:Bag:=⟨[]⟩
theorem z4p:zDj.ow [.slice none 0 0] z87 []:=zF5.2 ⟨none,0,[],rfl,by simp,zAm _ _ _⟩
theorem zIQ (x:Bag):zDj.sz x=szL zAo x.items:=rfl
theorem Bag.eq_iff {x y:Bag}:x=y↔x.items=y.items:=by cases x;cases y;simp
structure Edge where
 from':Int
 label:UInt8
 to:Int
deriving DecidableEq,Inhabited
def zCq:Gt Edge:=zRk (SX.gPair gI (SX.gPair gY gI)) (fun x=>(x.from',(x.label,x.to))) (fun p=>⟨p.1,p.2.1,p.2.2⟩)
theorem zBB {H:Hp} {l:List Value} {x:Edge}:zCq.rd H l x↔l = .int .i64 x.from' :: .int .u8 (x.label).toNat :: .int .i64 x.to::[]∧okI x.from'∧okI x.to:=by
 constructor
 ·rintro ⟨m0,q0,rfl,h0,m1,q1,rfl,h1,h2⟩
  obtain⟨rfl,w0⟩:=h0
  obtain⟨rfl,w1⟩:=h1
  obtain⟨rfl,w2⟩:=h2
  exact⟨rfl,w0,w2⟩
 rintro ⟨rfl,w0,w2⟩
 exact⟨[.int .i64 x.from'],.int .u8 (x.label).toNat :: .int .i64 x.to::[],rfl,⟨rfl,w0⟩,⟨[.int .u8 (x.label).toNat],[.int .i64 x.to],rfl,⟨rfl,trivial⟩,⟨rfl,w2⟩⟩⟩
open Classical in
theorem zSV {A:Hp} {l:List Value} {x:Edge}:zCq.ow l x A↔l = .int .i64 x.from' :: .int .u8 (x.label).toNat :: .int .i64 x.to::[]∧A.Perm []∧okI x.from'∧okI x.to:=by
 constructor
 ·rintro ⟨m0,q0,D0,E0,rfl,p0,h0,m1,q1,D1,E1,rfl,p1,h1,h2⟩
  obtain⟨rfl,w0,e0⟩:=h0
  subst e0
  obtain⟨rfl,w1,e1⟩:=h1
  subst e1
  obtain⟨rfl,w2,e2⟩:=h2
  subst e2
  exact⟨rfl,(zBm fun a=>by have e0:=p0.count_eq a;have e1:=p1.count_eq a;simp only[List.count_append,List.count_nil] at *;omega),w0,w2⟩
 rintro ⟨rfl,hp,w0,w2⟩
 exact⟨[.int .i64 x.from'],.int .u8 (x.label).toNat :: .int .i64 x.to::[],[],([]++[]),rfl,(zBm fun a=>by have e:=hp.count_eq a;simp only[List.count_append,List.count_nil] at *;omega),⟨rfl,w0,rfl⟩,⟨[.int .u8 (x.label).toNat],[.int .i64 x.to],[],[],rfl,.refl _,⟨rfl,trivial,rfl⟩,⟨rfl,w2,rfl⟩⟩⟩
theorem zUQ:zFc prog zCq.toRp 128:=by
 intro H' enc w H sp hd fuel cs d ps hcov ht
 obtain⟨h1,h2⟩:=zCg zSL.1 ht
 obtain⟨_,_,t0⟩:=h2 0 0 3 rfl
 obtain⟨x0,r0⟩:=(zDk zFR.1) _ _ H _ _ _ _ _ _ hcov t0
 rw[show prog.cellsOf 3=1 by kernel_rfl] at r0
 obtain⟨_,_,t1⟩:=h2 1 1 5 rfl
 obtain⟨x1,r1⟩:=(z0N z21.1) _ _ H _ _ _ _ _ _ hcov t1
 rw[show prog.cellsOf 5=1 by kernel_rfl] at r1
 obtain⟨_,_,t2⟩:=h2 2 2 3 rfl
 obtain⟨x2,r2⟩:=(zDk zFR.1) _ _ H _ _ _ _ _ _ hcov t2
 rw[show prog.cellsOf 3=1 by kernel_rfl] at r2
 rw[show prog.cellsOf 128=3 by kernel_rfl] at h1
 have key:zCq.rd H ((cs.drop 0).take 3) ⟨x0,x1,x2⟩:=(zB7 (g:=gI) (h:=(SX.gPair gY gI)) (off:=0) r0 (zB7 (g:=gY) (h:=gI) (off:=1) r1 r2))
 rw[List.drop_zero,List.take_of_length_le oO] at key
 exact⟨_,key⟩
def z4q:Edge:=⟨0,0,0⟩
theorem z0R:zCq.ow [.int .i64 0,.int .u8 0,.int .i64 0] z4q []:=zSV.2 ⟨rfl,by simp,by first|(unfold okI;decide)|decide,by first|(unfold okI;decide)|decide⟩
theorem z0S (x:Edge):zCq.sz x=0+(0+(0)):=rfl
theorem Edge.eq_iff {x y:Edge}:x=y↔x.from'=y.from'∧x.label=y.label∧x.to=y.to:=by cases x;cases y;simp
structure Graph where
 size:Int
 edges:List Edge
deriving DecidableEq,Inhabited
def zBz:Gt Graph:=zRk (SX.gPair gI (gSl 126 zCq)) (fun x=>(x.size,x.edges)) (fun p=>⟨p.1,p.2⟩)
theorem zAY {H:Hp} {l:List Value} {x:Graph}:zBz.rd H l x↔∃ (b1:Option Addr) (c1:Nat),l = .int .i64 x.size :: .slice b1 x.edges.length c1::[]∧okI x.size∧(gSl 126 zCq).rd H [.slice b1 x.edges.length c1] x.edges:=by
 constructor
 ·rintro ⟨m0,q0,rfl,h0,h1⟩
  obtain⟨rfl,w0⟩:=h0
  obtain⟨b1,c1,rfl,h1⟩:=zCD h1
  exact⟨b1,c1,rfl,w0,h1⟩
 rintro ⟨b1,c1,rfl,w0,h1⟩
 exact⟨[.int .i64 x.size],[.slice b1 x.edges.length c1],rfl,⟨rfl,w0⟩,h1⟩
open Classical in
theorem zWB {A:Hp} {l:List Value} {x:Graph}:zBz.ow l x A↔∃ (b1:Option Addr) (c1:Nat) (A1:Hp),l = .int .i64 x.size :: .slice b1 x.edges.length c1::[]∧A.Perm A1∧okI x.size∧(gSl 126 zCq).ow [.slice b1 x.edges.length c1] x.edges A1:=by
 constructor
 ·rintro ⟨m0,q0,D0,E0,rfl,p0,h0,h1⟩
  obtain⟨rfl,w0,e0⟩:=h0
  subst e0
  obtain⟨b1,c1,rfl,h1⟩:=zJN h1
  exact⟨b1,c1,E0,rfl,(zBm fun a=>by have e0:=p0.count_eq a;simp only[List.count_append,List.count_nil] at *;omega),w0,h1⟩
 rintro ⟨b1,c1,A1,rfl,hp,w0,h1⟩
 exact⟨[.int .i64 x.size],[.slice b1 x.edges.length c1],[],A1,rfl,(zBm fun a=>by have e:=hp.count_eq a;simp only[List.count_append,List.count_nil] at *;omega),⟨rfl,w0,rfl⟩,h1⟩
theorem zRF:zFc prog zBz.toRp 36:=by
 intro H' enc w H sp hd fuel cs d ps hcov ht
 obtain⟨h1,h2⟩:=zCg zWm.1 ht
 obtain⟨_,_,t0⟩:=h2 0 0 3 rfl
 obtain⟨x0,r0⟩:=(zDk zFR.1) _ _ H _ _ _ _ _ _ hcov t0
 rw[show prog.cellsOf 3=1 by kernel_rfl] at r0
 obtain⟨_,_,t1⟩:=h2 1 1 34 rfl
 obtain⟨x1,r1⟩:=(zEN zWl.1 (by kernel_rfl) (by decide) zUQ) _ _ H _ _ _ _ _ _ hcov t1
 rw[show prog.cellsOf 34=1 by kernel_rfl] at r1
 rw[show prog.cellsOf 36=2 by kernel_rfl] at h1
 have key:zBz.rd H ((cs.drop 0).take 2) ⟨x0,x1⟩:=(zB7 (g:=gI) (h:=(gSl 126 zCq)) (off:=0) r0 r1)
 rw[List.drop_zero,List.take_of_length_le oO] at key
 exact⟨_,key⟩
theorem zPq (x:Graph):zBz.sz x=0+(szL zCq x.edges):=rfl
theorem Graph.eq_iff {x y:Graph}:x=y↔x.size=y.size∧x.edges=y.edges:=by cases x;cases y;simp
structure Piece where
 op:Int
 label:UInt8
 kids:List Int
deriving DecidableEq,Inhabited
def zBp:Gt Piece:=zRk (SX.gPair gI (SX.gPair gY (gSl 3 gI))) (fun x=>(x.op,(x.label,x.kids))) (fun p=>⟨p.1,p.2.1,p.2.2⟩)
theorem zCX {H:Hp} {l:List Value} {x:Piece}:zBp.rd H l x↔∃ (b2:Option Addr) (c2:Nat),l = .int .i64 x.op :: .int .u8 (x.label).toNat :: .slice b2 x.kids.length c2::[]∧okI x.op∧(gSl 3 gI).rd H [.slice b2 x.kids.length c2] x.kids:=by
 constructor
 ·rintro ⟨m0,q0,rfl,h0,m1,q1,rfl,h1,h2⟩
  obtain⟨rfl,w0⟩:=h0
  obtain⟨rfl,w1⟩:=h1
  obtain⟨b2,c2,rfl,h2⟩:=zCD h2
  exact⟨b2,c2,rfl,w0,h2⟩
 rintro ⟨b2,c2,rfl,w0,h2⟩
 exact⟨[.int .i64 x.op],.int .u8 (x.label).toNat :: .slice b2 x.kids.length c2::[],rfl,⟨rfl,w0⟩,⟨[.int .u8 (x.label).toNat],[.slice b2 x.kids.length c2],rfl,⟨rfl,trivial⟩,h2⟩⟩
open Classical in
theorem zWC {A:Hp} {l:List Value} {x:Piece}:zBp.ow l x A↔∃ (b2:Option Addr) (c2:Nat) (A2:Hp),l = .int .i64 x.op :: .int .u8 (x.label).toNat :: .slice b2 x.kids.length c2::[]∧A.Perm A2∧okI x.op∧(gSl 3 gI).ow [.slice b2 x.kids.length c2] x.kids A2:=by
 constructor
 ·rintro ⟨m0,q0,D0,E0,rfl,p0,h0,m1,q1,D1,E1,rfl,p1,h1,h2⟩
  obtain⟨rfl,w0,e0⟩:=h0
  subst e0
  obtain⟨rfl,w1,e1⟩:=h1
  subst e1
  obtain⟨b2,c2,rfl,h2⟩:=zJN h2
  exact⟨b2,c2,E1,rfl,(zBm fun a=>by have e0:=p0.count_eq a;have e1:=p1.count_eq a;simp only[List.count_append,List.count_nil] at *;omega),w0,h2⟩
 rintro ⟨b2,c2,A2,rfl,hp,w0,h2⟩
 exact⟨[.int .i64 x.op],.int .u8 (x.label).toNat :: .slice b2 x.kids.length c2::[],[],([]++A2),rfl,(zBm fun a=>by have e:=hp.count_eq a;simp only[List.count_append,List.count_nil] at *;omega),⟨rfl,w0,rfl⟩,⟨[.int .u8 (x.label).toNat],[.slice b2 x.kids.length c2],[],A2,rfl,.refl _,⟨rfl,trivial,rfl⟩,h2⟩⟩
theorem Piece.eq_iff {x y:Piece}:x=y↔x.op=y.op∧x.label=y.label∧x.kids=y.kids:=by cases x;cases y;simp
structure Path where
 pieces:List Piece
deriving DecidableEq,Inhabited
def zH4:Gt Path:=zRk (gSl 210 zBp) (fun x=>x.pieces) (fun p=>⟨p⟩)
theorem zBM {H:Hp} {l:List Value} {x:Path}:zH4.rd H l x↔∃ (b0:Option Addr) (c0:Nat),l = .slice b0 x.pieces.length c0::[]∧(gSl 210 zBp).rd H [.slice b0 x.pieces.length c0] x.pieces:=by
 constructor
 ·rintro h0
  obtain⟨b0,c0,rfl,h0⟩:=zCD h0
  exact⟨b0,c0,rfl,h0⟩
 rintro ⟨b0,c0,rfl,h0⟩
 exact h0
theorem Path.eq_iff {x y:Path}:x=y↔x.pieces=y.pieces:=by cases x;cases y;simp
structure Arc where
 from':Int
 label:UInt8
 to:Int
deriving DecidableEq,Inhabited
def zEr:Gt Arc:=zRk (SX.gPair gI (SX.gPair gY gI)) (fun x=>(x.from',(x.label,x.to))) (fun p=>⟨p.1,p.2.1,p.2.2⟩)
theorem zEs {H:Hp} {l:List Value} {x:Arc}:zEr.rd H l x↔l = .int .i64 x.from' :: .int .u8 (x.label).toNat :: .int .i64 x.to::[]∧okI x.from'∧okI x.to:=by
 constructor
 ·rintro ⟨m0,q0,rfl,h0,m1,q1,rfl,h1,h2⟩
  obtain⟨rfl,w0⟩:=h0
  obtain⟨rfl,w1⟩:=h1
  obtain⟨rfl,w2⟩:=h2
  exact⟨rfl,w0,w2⟩
 rintro ⟨rfl,w0,w2⟩
 exact⟨[.int .i64 x.from'],.int .u8 (x.label).toNat :: .int .i64 x.to::[],rfl,⟨rfl,w0⟩,⟨[.int .u8 (x.label).toNat],[.int .i64 x.to],rfl,⟨rfl,trivial⟩,⟨rfl,w2⟩⟩⟩
open Classical in
theorem zN8 {A:Hp} {l:List Value} {x:Arc}:zEr.ow l x A↔l = .int .i64 x.from' :: .int .u8 (x.label).toNat :: .int .i64 x.to::[]∧A.Perm []∧okI x.from'∧okI x.to:=by
 constructor
 ·rintro ⟨m0,q0,D0,E0,rfl,p0,h0,m1,q1,D1,E1,rfl,p1,h1,h2⟩
  obtain⟨rfl,w0,e0⟩:=h0
  subst e0
  obtain⟨rfl,w1,e1⟩:=h1
  subst e1
  obtain⟨rfl,w2,e2⟩:=h2
  subst e2
  exact⟨rfl,(zBm fun a=>by have e0:=p0.count_eq a;have e1:=p1.count_eq a;simp only[List.count_append,List.count_nil] at *;omega),w0,w2⟩
 rintro ⟨rfl,hp,w0,w2⟩
 exact⟨[.int .i64 x.from'],.int .u8 (x.label).toNat :: .int .i64 x.to::[],[],([]++[]),rfl,(zBm fun a=>by have e:=hp.count_eq a;simp only[List.count_append,List.count_nil] at *;omega),⟨rfl,w0,rfl⟩,⟨[.int .u8 (x.label).toNat],[.int .i64 x.to],[],[],rfl,.refl _,⟨rfl,trivial,rfl⟩,⟨rfl,w2,rfl⟩⟩⟩
theorem Arc.eq_iff {x y:Arc}:x=y↔x.from'=y.from'∧x.label=y.label∧x.to=y.to:=by cases x;cases y;simp
theorem zN9 {H:Hp} {l:List Value} {x:Arc} (h:zEr.rd H l x):zEr.ow l x []:=by
 obtain⟨rfl,w0,w2⟩:=zEs.1 h
 exact zN8.2 ⟨rfl,by simp,w0,w2⟩
structure Nfa where
 states:Int
 arcs:List Arc
 ends:List Bool
deriving DecidableEq,Inhabited
def zZT:Gt Nfa:=zRk (SX.gPair gI (SX.gPair (gSl 248 zEr) (gSl 4 gB))) (fun x=>(x.states,(x.arcs,x.ends))) (fun p=>⟨p.1,p.2.1,p.2.2⟩)
theorem z4r {H:Hp} {l:List Value} {x:Nfa}:zZT.rd H l x↔∃ (b1:Option Addr) (c1:Nat) (b2:Option Addr) (c2:Nat),l = .int .i64 x.states :: .slice b1 x.arcs.length c1 :: .slice b2 x.ends.length c2::[]∧okI x.states∧(gSl 248 zEr).rd H [.slice b1 x.arcs.length c1] x.arcs∧(gSl 4 gB).rd H [.slice b2 x.ends.length c2] x.ends:=by
 constructor
 ·rintro ⟨m0,q0,rfl,h0,m1,q1,rfl,h1,h2⟩
  obtain⟨rfl,w0⟩:=h0
  obtain⟨b1,c1,rfl,h1⟩:=zCD h1
  obtain⟨b2,c2,rfl,h2⟩:=zCD h2
  exact⟨b1,c1,b2,c2,rfl,w0,h1,h2⟩
 rintro ⟨b1,c1,b2,c2,rfl,w0,h1,h2⟩
 exact⟨[.int .i64 x.states],.slice b1 x.arcs.length c1 :: .slice b2 x.ends.length c2::[],rfl,⟨rfl,w0⟩,⟨[.slice b1 x.arcs.length c1],[.slice b2 x.ends.length c2],rfl,h1,h2⟩⟩
open Classical in
theorem zRG {A:Hp} {l:List Value} {x:Nfa}:zZT.ow l x A↔∃ (b1:Option Addr) (c1:Nat) (A1:Hp) (b2:Option Addr) (c2:Nat) (A2:Hp),l = .int .i64 x.states :: .slice b1 x.arcs.length c1 :: .slice b2 x.ends.length c2::[]∧A.Perm (A1++A2)∧okI x.states∧(gSl 248 zEr).ow [.slice b1 x.arcs.length c1] x.arcs A1∧(gSl 4 gB).ow [.slice b2 x.ends.length c2] x.ends A2:=by
 constructor
 ·rintro ⟨m0,q0,D0,E0,rfl,p0,h0,m1,q1,D1,E1,rfl,p1,h1,h2⟩
  obtain⟨rfl,w0,e0⟩:=h0
  subst e0
  obtain⟨b1,c1,rfl,h1⟩:=zJN h1
  obtain⟨b2,c2,rfl,h2⟩:=zJN h2
  exact⟨b1,c1,D1,b2,c2,E1,rfl,(zBm fun a=>by have e0:=p0.count_eq a;have e1:=p1.count_eq a;simp only[List.count_append,List.count_nil] at *;omega),w0,h1,h2⟩
 rintro ⟨b1,c1,A1,b2,c2,A2,rfl,hp,w0,h1,h2⟩
 exact⟨[.int .i64 x.states],.slice b1 x.arcs.length c1 :: .slice b2 x.ends.length c2::[],[],(A1++A2),rfl,(zBm fun a=>by have e:=hp.count_eq a;simp only[List.count_append,List.count_nil] at *;omega),⟨rfl,w0,rfl⟩,⟨[.slice b1 x.arcs.length c1],[.slice b2 x.ends.length c2],A1,A2,rfl,.refl _,h1,h2⟩⟩
def z56:Nfa:=⟨0,[],[]⟩
theorem zKX:zZT.ow [.int .i64 0,.slice none 0 0,.slice none 0 0] z56 []:=zRG.2 ⟨none,0,[],none,0,[],rfl,by simp,by first|(unfold okI;decide)|decide,zAm _ _ _,zAm _ _ _⟩
theorem Nfa.eq_iff {x y:Nfa}:x=y↔x.states=y.states∧x.arcs=y.arcs∧x.ends=y.ends:=by cases x;cases y;simp
structure Atom where
 from':ByteArray
 path:ByteArray
 to:ByteArray
deriving DecidableEq,Inhabited
def zA9:Gt Atom:=zRk (SX.gPair gS (SX.gPair gS gS)) (fun x=>(x.from',(x.path,x.to))) (fun p=>⟨p.1,p.2.1,p.2.2⟩)
theorem zAT {H:Hp} {l:List Value} {x:Atom}:zA9.rd H l x↔l = .string x.from' :: .string x.path :: .string x.to::[]∧x.from'.size≤9223372036854775807∧x.path.size≤9223372036854775807∧x.to.size≤9223372036854775807:=by
 constructor
 ·rintro ⟨m0,q0,rfl,h0,m1,q1,rfl,h1,h2⟩
  obtain⟨rfl,w0⟩:=h0
  obtain⟨rfl,w1⟩:=h1
  obtain⟨rfl,w2⟩:=h2
  exact⟨rfl,w0,w1,w2⟩
 rintro ⟨rfl,w0,w1,w2⟩
 exact⟨[.string x.from'],.string x.path :: .string x.to::[],rfl,⟨rfl,w0⟩,⟨[.string x.path],[.string x.to],rfl,⟨rfl,w1⟩,⟨rfl,w2⟩⟩⟩
open Classical in
theorem zSW {A:Hp} {l:List Value} {x:Atom}:zA9.ow l x A↔l = .string x.from' :: .string x.path :: .string x.to::[]∧A.Perm []∧x.from'.size≤9223372036854775807∧x.path.size≤9223372036854775807∧x.to.size≤9223372036854775807:=by
 constructor
 ·rintro ⟨m0,q0,D0,E0,rfl,p0,h0,m1,q1,D1,E1,rfl,p1,h1,h2⟩
  obtain⟨rfl,w0,e0⟩:=h0
  subst e0
  obtain⟨rfl,w1,e1⟩:=h1
  subst e1
  obtain⟨rfl,w2,e2⟩:=h2
  subst e2
  exact⟨rfl,(zBm fun a=>by have e0:=p0.count_eq a;have e1:=p1.count_eq a;simp only[List.count_append,List.count_nil] at *;omega),w0,w1,w2⟩
 rintro ⟨rfl,hp,w0,w1,w2⟩
 exact⟨[.string x.from'],.string x.path :: .string x.to::[],[],([]++[]),rfl,(zBm fun a=>by have e:=hp.count_eq a;simp only[List.count_append,List.count_nil] at *;omega),⟨rfl,w0,rfl⟩,⟨[.string x.path],[.string x.to],[],[],rfl,.refl _,⟨rfl,w1,rfl⟩,⟨rfl,w2,rfl⟩⟩⟩
theorem zUR:zFc prog zA9.toRp 144:=by
 intro H' enc w H sp hd fuel cs d ps hcov ht
 obtain⟨h1,h2⟩:=zCg zSM.1 ht
 obtain⟨_,_,t0⟩:=h2 0 0 9 rfl
 obtain⟨x0,r0⟩:=(zGE zKD.1) _ _ H _ _ _ _ _ _ hcov t0
 rw[show prog.cellsOf 9=1 by kernel_rfl] at r0
 obtain⟨_,_,t1⟩:=h2 1 1 9 rfl
 obtain⟨x1,r1⟩:=(zGE zKD.1) _ _ H _ _ _ _ _ _ hcov t1
 rw[show prog.cellsOf 9=1 by kernel_rfl] at r1
 obtain⟨_,_,t2⟩:=h2 2 2 9 rfl
 obtain⟨x2,r2⟩:=(zGE zKD.1) _ _ H _ _ _ _ _ _ hcov t2
 rw[show prog.cellsOf 9=1 by kernel_rfl] at r2
 rw[show prog.cellsOf 144=3 by kernel_rfl] at h1
 have key:zA9.rd H ((cs.drop 0).take 3) ⟨x0,x1,x2⟩:=(zB7 (g:=gS) (h:=(SX.gPair gS gS)) (off:=0) r0 (zB7 (g:=gS) (h:=gS) (off:=1) r1 r2))
 rw[List.drop_zero,List.take_of_length_le oO] at key
 exact⟨_,key⟩
def z4s:Atom:=⟨ByteArray.empty,ByteArray.empty,ByteArray.empty⟩
theorem z0T:zA9.ow [.string .empty,.string .empty,.string .empty] z4s []:=zSW.2 ⟨rfl,by simp,by first|(unfold okI;decide)|decide,by first|(unfold okI;decide)|decide,by first|(unfold okI;decide)|decide⟩
theorem zOa (x:Atom):zA9.sz x=x.from'.size+(x.path.size+(x.to.size)):=rfl
theorem Atom.eq_iff {x y:Atom}:x=y↔x.from'=y.from'∧x.path=y.path∧x.to=y.to:=by cases x;cases y;simp
structure Filter where
 left:ByteArray
 op:Int
 right:ByteArray
 num:Int
deriving DecidableEq,Inhabited
def zAE:Gt Filter:=zRk (SX.gPair gS (SX.gPair gI (SX.gPair gS gI))) (fun x=>(x.left,(x.op,(x.right,x.num)))) (fun p=>⟨p.1,p.2.1,p.2.2.1,p.2.2.2⟩)
theorem zBj {H:Hp} {l:List Value} {x:Filter}:zAE.rd H l x↔l = .string x.left :: .int .i64 x.op :: .string x.right :: .int .i64 x.num::[]∧x.left.size≤9223372036854775807∧okI x.op∧x.right.size≤9223372036854775807∧okI x.num:=by
 constructor
 ·rintro ⟨m0,q0,rfl,h0,m1,q1,rfl,h1,m2,q2,rfl,h2,h3⟩
  obtain⟨rfl,w0⟩:=h0
  obtain⟨rfl,w1⟩:=h1
  obtain⟨rfl,w2⟩:=h2
  obtain⟨rfl,w3⟩:=h3
  exact⟨rfl,w0,w1,w2,w3⟩
 rintro ⟨rfl,w0,w1,w2,w3⟩
 exact⟨[.string x.left],.int .i64 x.op :: .string x.right :: .int .i64 x.num::[],rfl,⟨rfl,w0⟩,⟨[.int .i64 x.op],.string x.right :: .int .i64 x.num::[],rfl,⟨rfl,w1⟩,⟨[.string x.right],[.int .i64 x.num],rfl,⟨rfl,w2⟩,⟨rfl,w3⟩⟩⟩⟩
open Classical in
theorem zMR {A:Hp} {l:List Value} {x:Filter}:zAE.ow l x A↔l = .string x.left :: .int .i64 x.op :: .string x.right :: .int .i64 x.num::[]∧A.Perm []∧x.left.size≤9223372036854775807∧okI x.op∧x.right.size≤9223372036854775807∧okI x.num:=by
 constructor
 ·rintro ⟨m0,q0,D0,E0,rfl,p0,h0,m1,q1,D1,E1,rfl,p1,h1,m2,q2,D2,E2,rfl,p2,h2,h3⟩
  obtain⟨rfl,w0,e0⟩:=h0
  subst e0
  obtain⟨rfl,w1,e1⟩:=h1
  subst e1
  obtain⟨rfl,w2,e2⟩:=h2
  subst e2
  obtain⟨rfl,w3,e3⟩:=h3
  subst e3
  exact⟨rfl,(zBm fun a=>by have e0:=p0.count_eq a;have e1:=p1.count_eq a;have e2:=p2.count_eq a;simp only[List.count_append,List.count_nil] at *;omega),w0,w1,w2,w3⟩
 rintro ⟨rfl,hp,w0,w1,w2,w3⟩
 exact⟨[.string x.left],.int .i64 x.op :: .string x.right :: .int .i64 x.num::[],[],([]++([]++[])),rfl,(zBm fun a=>by have e:=hp.count_eq a;simp only[List.count_append,List.count_nil] at *;omega),⟨rfl,w0,rfl⟩,⟨[.int .i64 x.op],.string x.right :: .int .i64 x.num::[],[],([]++[]),rfl,.refl _,⟨rfl,w1,rfl⟩,⟨[.string x.right],[.int .i64 x.num],[],[],rfl,.refl _,⟨rfl,w2,rfl⟩,⟨rfl,w3,rfl⟩⟩⟩⟩
theorem zPr:zFc prog zAE.toRp 147:=by
 intro H' enc w H sp hd fuel cs d ps hcov ht
 obtain⟨h1,h2⟩:=zCg zSN.1 ht
 obtain⟨_,_,t0⟩:=h2 0 0 9 rfl
 obtain⟨x0,r0⟩:=(zGE zKD.1) _ _ H _ _ _ _ _ _ hcov t0
 rw[show prog.cellsOf 9=1 by kernel_rfl] at r0
 obtain⟨_,_,t1⟩:=h2 1 1 3 rfl
 obtain⟨x1,r1⟩:=(zDk zFR.1) _ _ H _ _ _ _ _ _ hcov t1
 rw[show prog.cellsOf 3=1 by kernel_rfl] at r1
 obtain⟨_,_,t2⟩:=h2 2 2 9 rfl
 obtain⟨x2,r2⟩:=(zGE zKD.1) _ _ H _ _ _ _ _ _ hcov t2
 rw[show prog.cellsOf 9=1 by kernel_rfl] at r2
 obtain⟨_,_,t3⟩:=h2 3 3 3 rfl
 obtain⟨x3,r3⟩:=(zDk zFR.1) _ _ H _ _ _ _ _ _ hcov t3
 rw[show prog.cellsOf 3=1 by kernel_rfl] at r3
 rw[show prog.cellsOf 147=4 by kernel_rfl] at h1
 have key:zAE.rd H ((cs.drop 0).take 4) ⟨x0,x1,x2,x3⟩:=(zB7 (g:=gS) (h:=(SX.gPair gI (SX.gPair gS gI))) (off:=0) r0 (zB7 (g:=gI) (h:=(SX.gPair gS gI)) (off:=1) r1 (zB7 (g:=gS) (h:=gI) (off:=2) r2 r3)))
 rw[List.drop_zero,List.take_of_length_le oO] at key
 exact⟨_,key⟩
def zRH:Filter:=⟨ByteArray.empty,0,ByteArray.empty,0⟩
theorem zUS:zAE.ow [.string .empty,.int .i64 0,.string .empty,.int .i64 0] zRH []:=zMR.2 ⟨rfl,by simp,by first|(unfold okI;decide)|decide,by first|(unfold okI;decide)|decide,by first|(unfold okI;decide)|decide,by first|(unfold okI;decide)|decide⟩
theorem zMS (x:Filter):zAE.sz x=x.left.size+(0+(x.right.size+(0))):=rfl
theorem Filter.eq_iff {x y:Filter}:x=y↔x.left=y.left∧x.op=y.op∧x.right=y.right∧x.num=y.num:=by cases x;cases y;simp
structure Query where
 each:Bool
 out:List ByteArray
 atoms:List Atom
 filters:List Filter
deriving DecidableEq,Inhabited
def zAL:Gt Query:=zRk (SX.gPair gB (SX.gPair (gSl 9 gS) (SX.gPair (gSl 97 zA9) (gSl 165 zAE)))) (fun x=>(x.each,(x.out,(x.atoms,x.filters)))) (fun p=>⟨p.1,p.2.1,p.2.2.1,p.2.2.2⟩)
theorem zAy {H:Hp} {l:List Value} {x:Query}:zAL.rd H l x↔∃ (b1:Option Addr) (c1:Nat) (b2:Option Addr) (c2:Nat) (b3:Option Addr) (c3:Nat),l = .bool x.each :: .slice b1 x.out.length c1 :: .slice b2 x.atoms.length c2 :: .slice b3 x.filters.length c3::[]∧(gSl 9 gS).rd H [.slice b1 x.out.length c1] x.out∧(gSl 97 zA9).rd H [.slice b2 x.atoms.length c2] x.atoms∧(gSl 165 zAE).rd H [.slice b3 x.filters.length c3] x.filters:=by
 constructor
 ·rintro ⟨m0,q0,rfl,h0,m1,q1,rfl,h1,m2,q2,rfl,h2,h3⟩
  obtain⟨rfl,w0⟩:=h0
  obtain⟨b1,c1,rfl,h1⟩:=zCD h1
  obtain⟨b2,c2,rfl,h2⟩:=zCD h2
  obtain⟨b3,c3,rfl,h3⟩:=zCD h3
  exact⟨b1,c1,b2,c2,b3,c3,rfl,h1,h2,h3⟩
 rintro ⟨b1,c1,b2,c2,b3,c3,rfl,h1,h2,h3⟩
 exact⟨[.bool x.each],.slice b1 x.out.length c1 :: .slice b2 x.atoms.length c2 :: .slice b3 x.filters.length c3::[],rfl,⟨rfl,trivial⟩,⟨[.slice b1 x.out.length c1],.slice b2 x.atoms.length c2 :: .slice b3 x.filters.length c3::[],rfl,h1,⟨[.slice b2 x.atoms.length c2],[.slice b3 x.filters.length c3],rfl,h2,h3⟩⟩⟩
open Classical in
theorem zBH {A:Hp} {l:List Value} {x:Query}:zAL.ow l x A↔∃ (b1:Option Addr) (c1:Nat) (A1:Hp) (b2:Option Addr) (c2:Nat) (A2:Hp) (b3:Option Addr) (c3:Nat) (A3:Hp),l = .bool x.each :: .slice b1 x.out.length c1 :: .slice b2 x.atoms.length c2 :: .slice b3 x.filters.length c3::[]∧A.Perm (A1++(A2++A3))∧(gSl 9 gS).ow [.slice b1 x.out.length c1] x.out A1∧(gSl 97 zA9).ow [.slice b2 x.atoms.length c2] x.atoms A2∧(gSl 165 zAE).ow [.slice b3 x.filters.length c3] x.filters A3:=by
 constructor
 ·rintro ⟨m0,q0,D0,E0,rfl,p0,h0,m1,q1,D1,E1,rfl,p1,h1,m2,q2,D2,E2,rfl,p2,h2,h3⟩
  obtain⟨rfl,w0,e0⟩:=h0
  subst e0
  obtain⟨b1,c1,rfl,h1⟩:=zJN h1
  obtain⟨b2,c2,rfl,h2⟩:=zJN h2
  obtain⟨b3,c3,rfl,h3⟩:=zJN h3
  exact⟨b1,c1,D1,b2,c2,D2,b3,c3,E2,rfl,(zBm fun a=>by have e0:=p0.count_eq a;have e1:=p1.count_eq a;have e2:=p2.count_eq a;simp only[List.count_append,List.count_nil] at *;omega),h1,h2,h3⟩
 rintro ⟨b1,c1,A1,b2,c2,A2,b3,c3,A3,rfl,hp,h1,h2,h3⟩
 exact⟨[.bool x.each],.slice b1 x.out.length c1 :: .slice b2 x.atoms.length c2 :: .slice b3 x.filters.length c3::[],[],(A1++(A2++A3)),rfl,(zBm fun a=>by have e:=hp.count_eq a;simp only[List.count_append,List.count_nil] at *;omega),⟨rfl,trivial,rfl⟩,⟨[.slice b1 x.out.length c1],.slice b2 x.atoms.length c2 :: .slice b3 x.filters.length c3::[],A1,(A2++A3),rfl,.refl _,h1,⟨[.slice b2 x.atoms.length c2],[.slice b3 x.filters.length c3],A2,A3,rfl,.refl _,h2,h3⟩⟩⟩
theorem zRI:zFc prog zAL.toRp 26:=by
 intro H' enc w H sp hd fuel cs d ps hcov ht
 obtain⟨h1,h2⟩:=zCg zWg.1 ht
 obtain⟨_,_,t0⟩:=h2 0 0 4 rfl
 obtain⟨x0,r0⟩:=(zN0 zPc.1) _ _ H _ _ _ _ _ _ hcov t0
 rw[show prog.cellsOf 4=1 by kernel_rfl] at r0
 obtain⟨_,_,t1⟩:=h2 1 1 22 rfl
 obtain⟨x1,r1⟩:=(zEN zWd.1 (by kernel_rfl) (by decide) (zGE zKD.1)) _ _ H _ _ _ _ _ _ hcov t1
 rw[show prog.cellsOf 22=1 by kernel_rfl] at r1
 obtain⟨_,_,t2⟩:=h2 2 2 23 rfl
 obtain⟨x2,r2⟩:=(zEN zWe.1 (by kernel_rfl) (by decide) zUR) _ _ H _ _ _ _ _ _ hcov t2
 rw[show prog.cellsOf 23=1 by kernel_rfl] at r2
 obtain⟨_,_,t3⟩:=h2 3 3 24 rfl
 obtain⟨x3,r3⟩:=(zEN zWf.1 (by kernel_rfl) (by decide) zPr) _ _ H _ _ _ _ _ _ hcov t3
 rw[show prog.cellsOf 24=1 by kernel_rfl] at r3
 rw[show prog.cellsOf 26=4 by kernel_rfl] at h1
 have key:zAL.rd H ((cs.drop 0).take 4) ⟨x0,x1,x2,x3⟩:=(zB7 (g:=gB) (h:=(SX.gPair (gSl 9 gS) (SX.gPair (gSl 97 zA9) (gSl 165 zAE)))) (off:=0) r0 (zB7 (g:=(gSl 9 gS)) (h:=(SX.gPair (gSl 97 zA9) (gSl 165 zAE))) (off:=1) r1 (zB7 (g:=(gSl 97 zA9)) (h:=(gSl 165 zAE)) (off:=2) r2 r3)))
 rw[List.drop_zero,List.take_of_length_le oO] at key
 exact⟨_,key⟩
theorem zEt (x:Query):zAL.sz x=0+(szL gS x.out+(szL zA9 x.atoms+(szL zAE x.filters))):=rfl
theorem Query.eq_iff {x y:Query}:x=y↔x.each=y.each∧x.out=y.out∧x.atoms=y.atoms∧x.filters=y.filters:=by cases x;cases y;simp
structure Table where
 cols:List ByteArray
 bag:Bag
deriving DecidableEq,Inhabited
def zBw:Gt Table:=zRk (SX.gPair (gSl 9 gS) zDj) (fun x=>(x.cols,x.bag)) (fun p=>⟨p.1,p.2⟩)
theorem zA6 {H:Hp} {l:List Value} {x:Table}:zBw.rd H l x↔∃ (b0:Option Addr) (c0:Nat) (l1:List Value),l = .slice b0 x.cols.length c0::l1++([])∧(gSl 9 gS).rd H [.slice b0 x.cols.length c0] x.cols∧zDj.rd H l1 x.bag:=by
 constructor
 ·rintro ⟨m0,q0,rfl,h0,h1⟩
  obtain⟨b0,c0,rfl,h0⟩:=zCD h0
  exact⟨b0,c0,q0,(by simp [zAs,zEc,zEd,zAx]),h0,h1⟩
 rintro ⟨b0,c0,l1,rfl,h0,h1⟩
 exact⟨[.slice b0 x.cols.length c0],l1,(by simp [zAs,zEc,zEd,zAx]),h0,h1⟩
open Classical in
theorem zWD {A:Hp} {l:List Value} {x:Table}:zBw.ow l x A↔∃ (b0:Option Addr) (c0:Nat) (A0:Hp) (l1:List Value) (A1:Hp),l = .slice b0 x.cols.length c0::l1++([])∧A.Perm (A0++A1)∧(gSl 9 gS).ow [.slice b0 x.cols.length c0] x.cols A0∧zDj.ow l1 x.bag A1:=by
 constructor
 ·rintro ⟨m0,q0,D0,E0,rfl,p0,h0,h1⟩
  obtain⟨b0,c0,rfl,h0⟩:=zJN h0
  exact⟨b0,c0,D0,q0,E0,(by simp [zAs,zEc,zEd,zAx]),(zBm fun a=>by have e0:=p0.count_eq a;simp only[List.count_append,List.count_nil] at *;omega),h0,h1⟩
 rintro ⟨b0,c0,A0,l1,A1,rfl,hp,h0,h1⟩
 exact⟨[.slice b0 x.cols.length c0],l1,A0,A1,(by simp [zAs,zEc,zEd,zAx]),(zBm fun a=>by have e:=hp.count_eq a;simp only[List.count_append,List.count_nil] at *;omega),h0,h1⟩
theorem Table.eq_iff {x y:Table}:x=y↔x.cols=y.cols∧x.bag=y.bag:=by cases x;cases y;simp
structure Got where
 from':Int
 atom:Int
 bag:Bag
deriving DecidableEq,Inhabited
def zEZ:Gt Got:=zRk (SX.gPair gI (SX.gPair gI zDj)) (fun x=>(x.from',(x.atom,x.bag))) (fun p=>⟨p.1,p.2.1,p.2.2⟩)
theorem zDn {H:Hp} {l:List Value} {x:Got}:zEZ.rd H l x↔∃ (l2:List Value),l = .int .i64 x.from' :: .int .i64 x.atom::l2++([])∧okI x.from'∧okI x.atom∧zDj.rd H l2 x.bag:=by
 constructor
 ·rintro ⟨m0,q0,rfl,h0,m1,q1,rfl,h1,h2⟩
  obtain⟨rfl,w0⟩:=h0
  obtain⟨rfl,w1⟩:=h1
  exact⟨q1,(by simp [zAs,zEc,zEd,zAx]),w0,w1,h2⟩
 rintro ⟨l2,rfl,w0,w1,h2⟩
 exact⟨[.int .i64 x.from'],.int .i64 x.atom::l2++([]),rfl,⟨rfl,w0⟩,⟨[.int .i64 x.atom],l2,(by simp [zAs,zEc,zEd,zAx]),⟨rfl,w1⟩,h2⟩⟩
open Classical in
theorem zWE {A:Hp} {l:List Value} {x:Got}:zEZ.ow l x A↔∃ (l2:List Value) (A2:Hp),l = .int .i64 x.from' :: .int .i64 x.atom::l2++([])∧A.Perm A2∧okI x.from'∧okI x.atom∧zDj.ow l2 x.bag A2:=by
 constructor
 ·rintro ⟨m0,q0,D0,E0,rfl,p0,h0,m1,q1,D1,E1,rfl,p1,h1,h2⟩
  obtain⟨rfl,w0,e0⟩:=h0
  subst e0
  obtain⟨rfl,w1,e1⟩:=h1
  subst e1
  exact⟨q1,E1,(by simp [zAs,zEc,zEd,zAx]),(zBm fun a=>by have e0:=p0.count_eq a;have e1:=p1.count_eq a;simp only[List.count_append,List.count_nil] at *;omega),w0,w1,h2⟩
 rintro ⟨l2,A2,rfl,hp,w0,w1,h2⟩
 exact⟨[.int .i64 x.from'],.int .i64 x.atom::l2++([]),[],([]++A2),rfl,(zBm fun a=>by have e:=hp.count_eq a;simp only[List.count_append,List.count_nil] at *;omega),⟨rfl,w0,rfl⟩,⟨[.int .i64 x.atom],l2,[],A2,(by simp [zAs,zEc,zEd,zAx]),.refl _,⟨rfl,w1,rfl⟩,h2⟩⟩
theorem zWF:zFc prog zEZ.toRp 89:=by
 intro H' enc w H sp hd fuel cs d ps hcov ht
 obtain⟨h1,h2⟩:=zCg zWn.1 ht
 obtain⟨_,_,t0⟩:=h2 0 0 3 rfl
 obtain⟨x0,r0⟩:=(zDk zFR.1) _ _ H _ _ _ _ _ _ hcov t0
 rw[show prog.cellsOf 3=1 by kernel_rfl] at r0
 obtain⟨_,_,t1⟩:=h2 1 1 3 rfl
 obtain⟨x1,r1⟩:=(zDk zFR.1) _ _ H _ _ _ _ _ _ hcov t1
 rw[show prog.cellsOf 3=1 by kernel_rfl] at r1
 obtain⟨_,_,t2⟩:=h2 2 2 31 rfl
 obtain⟨x2,r2⟩:=zPp _ _ H _ _ _ _ _ _ hcov t2
 rw[show prog.cellsOf 31=1 by kernel_rfl] at r2
 rw[show prog.cellsOf 89=3 by kernel_rfl] at h1
 have key:zEZ.rd H ((cs.drop 0).take 3) ⟨x0,x1,x2⟩:=(zB7 (g:=gI) (h:=(SX.gPair gI zDj)) (off:=0) r0 (zB7 (g:=gI) (h:=zDj) (off:=1) r1 r2))
 rw[List.drop_zero,List.take_of_length_le oO] at key
 exact⟨_,key⟩
def z8c:Got:=⟨0,0,z87⟩
theorem z4t:zEZ.ow [.int .i64 0,.int .i64 0,.slice none 0 0] z8c []:=zWE.2 ⟨_,[],rfl,by simp,by first|(unfold okI;decide)|decide,by first|(unfold okI;decide)|decide,z4p⟩
theorem zWG (x:Got):zEZ.sz x=0+(0+(zDj.sz x.bag)):=rfl
theorem Got.eq_iff {x y:Got}:x=y↔x.from'=y.from'∧x.atom=y.atom∧x.bag=y.bag:=by cases x;cases y;simp
structure Ask where
 on:Bool
 query:Query
 shares:List Int
 count:Int
 results:List Got
 over:Bool
 answer:Bag
deriving DecidableEq,Inhabited
def zO7:Gt Ask:=zRk (SX.gPair gB (SX.gPair zAL (SX.gPair (gSl 3 gI) (SX.gPair gI (SX.gPair (gSl 69 zEZ) (SX.gPair gB zDj)))))) (fun x=>(x.on,(x.query,(x.shares,(x.count,(x.results,(x.over,x.answer))))))) (fun p=>⟨p.1,p.2.1,p.2.2.1,p.2.2.2.1,p.2.2.2.2.1,p.2.2.2.2.2.1,p.2.2.2.2.2.2⟩)
theorem zE0 {H:Hp} {l:List Value} {x:Ask}:zO7.rd H l x↔∃ (l1:List Value) (b2:Option Addr) (c2:Nat) (b4:Option Addr) (c4:Nat) (l6:List Value),l = .bool x.on::l1++(.slice b2 x.shares.length c2 :: .int .i64 x.count :: .slice b4 x.results.length c4 :: .bool x.over::l6++([]))∧zAL.rd H l1 x.query∧(gSl 3 gI).rd H [.slice b2 x.shares.length c2] x.shares∧okI x.count∧(gSl 69 zEZ).rd H [.slice b4 x.results.length c4] x.results∧zDj.rd H l6 x.answer:=by
 constructor
 ·rintro ⟨m0,q0,rfl,h0,m1,q1,rfl,h1,m2,q2,rfl,h2,m3,q3,rfl,h3,m4,q4,rfl,h4,m5,q5,rfl,h5,h6⟩
  obtain⟨rfl,w0⟩:=h0
  obtain⟨b2,c2,rfl,h2⟩:=zCD h2
  obtain⟨rfl,w3⟩:=h3
  obtain⟨b4,c4,rfl,h4⟩:=zCD h4
  obtain⟨rfl,w5⟩:=h5
  exact⟨m1,b2,c2,b4,c4,q5,(by simp [zAs,zEc,zEd,zAx]),h1,h2,w3,h4,h6⟩
 rintro ⟨l1,b2,c2,b4,c4,l6,rfl,h1,h2,w3,h4,h6⟩
 exact⟨[.bool x.on],l1++(.slice b2 x.shares.length c2 :: .int .i64 x.count :: .slice b4 x.results.length c4 :: .bool x.over::l6++([])),rfl,⟨rfl,trivial⟩,⟨l1,.slice b2 x.shares.length c2 :: .int .i64 x.count :: .slice b4 x.results.length c4 :: .bool x.over::l6++([]),rfl,h1,⟨[.slice b2 x.shares.length c2],.int .i64 x.count :: .slice b4 x.results.length c4 :: .bool x.over::l6++([]),rfl,h2,⟨[.int .i64 x.count],.slice b4 x.results.length c4 :: .bool x.over::l6++([]),rfl,⟨rfl,w3⟩,⟨[.slice b4 x.results.length c4],.bool x.over::l6++([]),rfl,h4,⟨[.bool x.over],l6,(by simp [zAs,zEc,zEd,zAx]),⟨rfl,trivial⟩,h6⟩⟩⟩⟩⟩⟩
open Classical in
theorem z4u {A:Hp} {l:List Value} {x:Ask}:zO7.ow l x A↔∃ (l1:List Value) (A1:Hp) (b2:Option Addr) (c2:Nat) (A2:Hp) (b4:Option Addr) (c4:Nat) (A4:Hp) (l6:List Value) (A6:Hp),l = .bool x.on::l1++(.slice b2 x.shares.length c2 :: .int .i64 x.count :: .slice b4 x.results.length c4 :: .bool x.over::l6++([]))∧A.Perm (A1++(A2++(A4++A6)))∧zAL.ow l1 x.query A1∧(gSl 3 gI).ow [.slice b2 x.shares.length c2] x.shares A2∧okI x.count∧(gSl 69 zEZ).ow [.slice b4 x.results.length c4] x.results A4∧zDj.ow l6 x.answer A6:=by
 constructor
 ·rintro ⟨m0,q0,D0,E0,rfl,p0,h0,m1,q1,D1,E1,rfl,p1,h1,m2,q2,D2,E2,rfl,p2,h2,m3,q3,D3,E3,rfl,p3,h3,m4,q4,D4,E4,rfl,p4,h4,m5,q5,D5,E5,rfl,p5,h5,h6⟩
  obtain⟨rfl,w0,e0⟩:=h0
  subst e0
  obtain⟨b2,c2,rfl,h2⟩:=zJN h2
  obtain⟨rfl,w3,e3⟩:=h3
  subst e3
  obtain⟨b4,c4,rfl,h4⟩:=zJN h4
  obtain⟨rfl,w5,e5⟩:=h5
  subst e5
  exact⟨m1,D1,b2,c2,D2,b4,c4,D4,q5,E5,(by simp [zAs,zEc,zEd,zAx]),(zBm fun a=>by have e0:=p0.count_eq a;have e1:=p1.count_eq a;have e2:=p2.count_eq a;have e3:=p3.count_eq a;have e4:=p4.count_eq a;have e5:=p5.count_eq a;simp only[List.count_append,List.count_nil] at *;omega),h1,h2,w3,h4,h6⟩
 rintro ⟨l1,A1,b2,c2,A2,b4,c4,A4,l6,A6,rfl,hp,h1,h2,w3,h4,h6⟩
 exact⟨[.bool x.on],l1++(.slice b2 x.shares.length c2 :: .int .i64 x.count :: .slice b4 x.results.length c4 :: .bool x.over::l6++([])),[],(A1++(A2++([]++(A4++([]++A6))))),rfl,(zBm fun a=>by have e:=hp.count_eq a;simp only[List.count_append,List.count_nil] at *;omega),⟨rfl,trivial,rfl⟩,⟨l1,.slice b2 x.shares.length c2 :: .int .i64 x.count :: .slice b4 x.results.length c4 :: .bool x.over::l6++([]),A1,(A2++([]++(A4++([]++A6)))),rfl,.refl _,h1,⟨[.slice b2 x.shares.length c2],.int .i64 x.count :: .slice b4 x.results.length c4 :: .bool x.over::l6++([]),A2,([]++(A4++([]++A6))),rfl,.refl _,h2,⟨[.int .i64 x.count],.slice b4 x.results.length c4 :: .bool x.over::l6++([]),[],(A4++([]++A6)),rfl,.refl _,⟨rfl,w3,rfl⟩,⟨[.slice b4 x.results.length c4],.bool x.over::l6++([]),A4,([]++A6),rfl,.refl _,h4,⟨[.bool x.over],l6,[],A6,(by simp [zAs,zEc,zEd,zAx]),.refl _,⟨rfl,trivial,rfl⟩,h6⟩⟩⟩⟩⟩⟩
theorem zWH:zFc prog zO7.toRp 33:=by
 intro H' enc w H sp hd fuel cs d ps hcov ht
 obtain⟨h1,h2⟩:=zCg zWk.1 ht
 obtain⟨_,_,t0⟩:=h2 0 0 4 rfl
 obtain⟨x0,r0⟩:=(zN0 zPc.1) _ _ H _ _ _ _ _ _ hcov t0
 rw[show prog.cellsOf 4=1 by kernel_rfl] at r0
 obtain⟨_,_,t1⟩:=h2 1 1 26 rfl
 obtain⟨x1,r1⟩:=zRI _ _ H _ _ _ _ _ _ hcov t1
 rw[show prog.cellsOf 26=4 by kernel_rfl] at r1
 obtain⟨_,_,t2⟩:=h2 2 5 27 rfl
 obtain⟨x2,r2⟩:=(zEN zRq.1 (by kernel_rfl) (by decide) (zDk zFR.1)) _ _ H _ _ _ _ _ _ hcov t2
 rw[show prog.cellsOf 27=1 by kernel_rfl] at r2
 obtain⟨_,_,t3⟩:=h2 3 6 3 rfl
 obtain⟨x3,r3⟩:=(zDk zFR.1) _ _ H _ _ _ _ _ _ hcov t3
 rw[show prog.cellsOf 3=1 by kernel_rfl] at r3
 obtain⟨_,_,t4⟩:=h2 4 7 28 rfl
 obtain⟨x4,r4⟩:=(zEN zWh.1 (by kernel_rfl) (by decide) zWF) _ _ H _ _ _ _ _ _ hcov t4
 rw[show prog.cellsOf 28=1 by kernel_rfl] at r4
 obtain⟨_,_,t5⟩:=h2 5 8 4 rfl
 obtain⟨x5,r5⟩:=(zN0 zPc.1) _ _ H _ _ _ _ _ _ hcov t5
 rw[show prog.cellsOf 4=1 by kernel_rfl] at r5
 obtain⟨_,_,t6⟩:=h2 6 9 31 rfl
 obtain⟨x6,r6⟩:=zPp _ _ H _ _ _ _ _ _ hcov t6
 rw[show prog.cellsOf 31=1 by kernel_rfl] at r6
 rw[show prog.cellsOf 33=10 by kernel_rfl] at h1
 have key:zO7.rd H ((cs.drop 0).take 10) ⟨x0,x1,x2,x3,x4,x5,x6⟩:=(zB7 (g:=gB) (h:=(SX.gPair zAL (SX.gPair (gSl 3 gI) (SX.gPair gI (SX.gPair (gSl 69 zEZ) (SX.gPair gB zDj)))))) (off:=0) r0 (zB7 (g:=zAL) (h:=(SX.gPair (gSl 3 gI) (SX.gPair gI (SX.gPair (gSl 69 zEZ) (SX.gPair gB zDj))))) (off:=1) r1 (zB7 (g:=(gSl 3 gI)) (h:=(SX.gPair gI (SX.gPair (gSl 69 zEZ) (SX.gPair gB zDj)))) (off:=5) r2 (zB7 (g:=gI) (h:=(SX.gPair (gSl 69 zEZ) (SX.gPair gB zDj))) (off:=6) r3 (zB7 (g:=(gSl 69 zEZ)) (h:=(SX.gPair gB zDj)) (off:=7) r4 (zB7 (g:=gB) (h:=zDj) (off:=8) r5 r6))))))
 rw[List.drop_zero,List.take_of_length_le oO] at key
 exact⟨_,key⟩
theorem zOb (x:Ask):zO7.sz x=0+(zAL.sz x.query+(szL gI x.shares+(0+(szL zEZ x.results+(0+(zDj.sz x.answer)))))):=rfl
theorem Ask.eq_iff {x y:Ask}:x=y↔x.on=y.on∧x.query=y.query∧x.shares=y.shares∧x.count=y.count∧x.results=y.results∧x.over=y.over∧x.answer=y.answer:=by cases x;cases y;simp
end
section
theorem zPs (b:Option Addr) (m c:Nat) (xs:List Int) (left:Int) (h0:0≤left) (h1:left≤1048576) :
  Ct prog 13 [.slice b m c,.int .i64 left] [] (fun H=>(gSl 3 gI).rd H [.slice b m c] xs) (fun v A=>(∃ r:Int,v = .int .i64 r∧((r = -1∧left < (szL gI xs:Int))∨(r=left-(szL gI xs:Int)∧(szL gI xs:Int)≤left)))∧A=[]):=by
 refine Ct.intro0 zAh func13 rfl rfl rfl fun E H hp=>?_
 obtain⟨rfl,hcl,hl⟩:=zAp hp
 have hq:=zEO gI xs
 have hz:=zN6 gI (fun _=>rfl) xs
 constructor<;>intro q0
 ·simp at q0
  simp (disch:=omega) only[zAc] at q0
  exact⟨[],⟨⟨-1,rfl,.inl ⟨rfl,woI⟩⟩,rfl⟩,.mem sI⟩
 simp at q0
 simp (disch:=omega) only[zAc] at q0
 exact⟨[],⟨⟨_,rfl,.inr ⟨woI,oO⟩⟩,rfl⟩,.mem sI⟩
theorem zPt (b:Option Addr) (m c:Nat) (xs:List Int) (hx:szL gI xs≤1048576) :
  Ct prog 22 [.slice b m c] [] (fun H=>(gSl 3 gI).rd H [.slice b m c] xs) (fun v A=>∃ b c,v = .slice b xs.length c∧(gSl 3 gI).ow [.slice b xs.length c] xs A):=by
 refine Ct.intro0 zAh func22 rfl rfl rfl fun E H hp=>?_
 obtain⟨rfl,hcl,hl⟩:=zAp hp
 have hls:=zBL gI xs
 refine VCmake.intro ?_ ?_ ?_ ?_ fun x0=>?_
 ·omega
 ·omega
 ·omega
 ·omega
 apply zAg (α:=(Nat)×(Hp)) zAh [8,9,10,11,14,15,16,17,18,19,20,12,13,4] (fun z=>[(4,.v (.int .i64 z.1))]) (fun z=>[]) (fun z=>[z.2,H]) (fun z=>xs.length-z.1) (fun z=>z.1≤xs.length∧(gSl 3 gI).ow [.slice (some ⟨x0,0,none⟩) xs.length xs.length] (xs.take z.1++List.replicate (xs.length-z.1) 0) z.2) ((0,_))
 ·exact frI
 ·exact trivial
 ·try dsimp only
  exact⟨oO,by simpa using zEY (g:=gI) (T:=3) (b:=x0) (zCN (by unfold okI;decide)) (Nat.le_refl xs.length) oO⟩
 ·exact .refl _
 rintro ⟨k,A⟩ hI
 try dsimp only at hI
 obtain⟨hk,oA⟩:=hI
 try dsimp only
 constructor<;>intro q1
 ·simp at q1
  refine zAf hp ?_ ?_ fun b2 o2 hb2=>?_
  ·omega
  ·omega
  refine zAd 0 (k) rfl hp ?_ ?_ hb2 rfl (zAa 1 rfl) fun l3 hl3=>?_
  ·omega
  ·omega
  obtain⟨rfl,hw3⟩:=hl3;simp only[zAx,zAs,okI] at hw3
  refine zAf (Gt.owrd _ oA) ?_ ?_ fun b4 o4 hb4=>?_
  ·omega
  ·simp;omega
  refine zBq (Fld.id _) 0 (k) 0 rfl rfl oA ?_ ?_ hb4 rfl zHx _ (zCN ?_) fun A5 o5=>?_
  ·omega
  ·simp;omega
  ·trivial
  apply zAb (k+1,_)
  ·exact .refl _
  ·exact frI
  ·exact trivial
  ·try dsimp only
   exact⟨oO,by rw[←zKW xs k 0 oO] ;assumption⟩
  try dsimp only
  omega
 simp at q1
 obtain rfl:k=xs.length:=by omega
 rw[List.take_length,Nat.sub_self,List.replicate_zero,List.append_nil] at oA
 exact⟨_,⟨_,_,rfl,oA⟩,rlA⟩
theorem zPu (b1:Option Addr) (m1 c1:Nat) (b2:Option Addr) (m2 c2:Nat) (xs ys:List Int) :
  Ct prog 30 [.slice b1 m1 c1,.slice b2 m2 c2] [] (fun H=>(gSl 3 gI).rd H [.slice b1 m1 c1] xs∧(gSl 3 gI).rd H [.slice b2 m2 c2] ys) (fun v A=>v = .bool (decide (xs=ys))∧A=[]):=by
 refine Ct.intro0 zAh func30 rfl rfl rfl fun E H hp=>?_
 obtain⟨hp1,hp2⟩:=hp
 obtain⟨rfl,hc1,hl1⟩:=zAp hp1
 obtain⟨rfl,hc2,hl2⟩:=zAp hp2
 constructor<;>intro q0
 ·simp at q0
  exact⟨[],⟨by rw[decide_eq_false (fun e=>by subst e;omega)],rfl⟩,.mem sI⟩
 simp at q0
 apply zAg (α:=(Nat)) zAh [11,12,13,14,17,18,19,20,21,22,23,24,25,4,15,16,5] (fun z=>[(5,.v (.int .i64 z))]) (fun z=>[]) (fun z=>[H]) (fun z=>xs.length-z) (fun z=>z≤xs.length∧xs.take z=ys.take z) (0)
 ·exact frI
 ·exact trivial
 ·exact⟨oO,by simp⟩
 ·exact .refl _
 rintro k hI
 obtain⟨hk,he⟩:k≤xs.length∧xs.take k=ys.take k:=hI
 try dsimp only
 constructor<;>intro q1
 ·simp at q1
  refine zBr zAh zAK none (.q 0 (.q 1 (.q 2 (.q 3 (.q 4 (.q 5 (.q 6 (.q 7 (.q 8 (.nil)))))))))) (by decide +kernel) ?_
  refine zAf hp1 ?_ ?_ fun b2 o2 hb2=>?_
  ·omega
  ·omega
  refine zAd 0 (k) rfl hp1 ?_ ?_ hb2 rfl (zAa 0 rfl) fun l3 hl3=>?_
  ·omega
  ·omega
  obtain⟨rfl,hw3⟩:=hl3;simp only[zAx,zAs,okI] at hw3
  refine zAf hp2 ?_ ?_ fun b4 o4 hb4=>?_
  ·omega
  ·omega
  refine zAd 0 (k) rfl hp2 ?_ ?_ hb4 rfl (zAa 0 rfl) fun l5 hl5=>?_
  ·omega
  ·omega
  obtain⟨rfl,hw5⟩:=hl5;simp only[zAx,zAs,okI] at hw5
  constructor<;>intro q6
  ·simp at q6
   exact⟨[],⟨by rw[decide_eq_false (fun e=>by subst e;omega)],rfl⟩,.mem sI⟩
  simp at q6
  apply zAb (k+1)
  ·exact .refl _
  ·exact frI
  ·exact trivial
  ·exact⟨oO,zHy 0 oO he oO (by simpa using ‹_›)⟩
  omega
 simp at q1
 exact⟨[],⟨by rw[decide_eq_true];rw[←List.take_length (l:=xs),←List.take_length (l:=ys),←(by omega:xs.length=ys.length),show xs.length=k from oO];exact he,rfl⟩,.mem sI⟩
theorem zPv (b:Option Addr) (m c:Nat) (xs:List ByteArray) (left:Int) (h0:0≤left) (h1:left≤1048576) :
  Ct prog 34 [.slice b m c,.int .i64 left] [] (fun H=>(gSl 9 gS).rd H [.slice b m c] xs) (fun v A=>(∃ r:Int,v = .int .i64 r∧((r = -1∧left < (szL gS xs:Int))∨(r=left-(szL gS xs:Int)∧(szL gS xs:Int)≤left)))∧A=[]):=by
 refine Ct.intro0 zAh func34 rfl rfl rfl fun E H hp=>?_
 obtain⟨rfl,hcl,hl⟩:=zAp hp
 have hq:=zEO gS xs
 have ht:=List.take_length (l:=xs)
 constructor<;>intro q0
 ·simp at q0
  simp (disch:=omega) only[zAc] at q0
  exact⟨[],⟨⟨-1,rfl,.inl ⟨rfl,woI⟩⟩,rfl⟩,.mem sI⟩
 simp at q0
 simp (disch:=omega) only[zAc] at q0
 apply zAg (α:=(Nat)×(Int)) zAh [12,13,14,15,18,19,20,21,22,23,24,1,25,26,4,16,17,5] (fun z=>[(5,.v (.int .i64 z.1)),(1,.v (.int .i64 z.2))]) (fun z=>[]) (fun z=>[H]) (fun z=>xs.length-z.1) (fun z=>z.1≤xs.length∧z.2=left-xs.length-szE gS (xs.take z.1)∧0≤z.2) ((0,left-xs.length))
 ·repeat' (first|exact trivial|refine⟨⟨_,rfl,by first|exact frE|(refine zAz ?_;simp;done)|(simp (disch:=omega) only[zAc]),frO⟩,?_⟩)
 ·exact trivial
 ·try dsimp only
  exact⟨oO,by simp [szE],oO⟩
 ·exact .refl _
 rintro ⟨k,lf⟩ hI
 try dsimp only at hI
 obtain⟨hk,hlf,hnn⟩:=hI
 try dsimp only
 constructor<;>intro q1
 ·simp at q1
  have hs:=zDm gS xs k ByteArray.empty oO
  have hs2:=zF4 gS xs (k+1)
  refine zAf hp ?_ ?_ fun b2 o2 hb2=>?_
  ·omega
  ·omega
  refine zAd ByteArray.empty (k) rfl hp ?_ ?_ hb2 rfl (zAa 0 rfl) fun l3 hl3=>?_
  ·omega
  ·omega
  have hss:gS.sz (xs[k]?.getD ByteArray.empty)=(xs[k]?.getD ByteArray.empty).size:=rfl
  obtain⟨rfl,hw3⟩:=hl3;simp only[zAx,zAs,okI] at hw3
  constructor<;>intro q4
  ·simp at q4
   simp (disch:=omega) only[zAc] at q4
   exact⟨[],⟨⟨-1,rfl,.inl ⟨rfl,woI⟩⟩,rfl⟩,.mem sI⟩
  simp at q4
  simp (disch:=omega) only[zAc] at q4
  apply zAb (k+1,lf-((xs[k]?.getD ByteArray.empty).size:Int))
  ·exact .refl _
  ·repeat' (first|exact trivial|refine⟨⟨_,rfl,by first|exact frE|(refine zAz ?_;simp;done)|(simp (disch:=omega) only[zAc]),frO⟩,?_⟩)
  ·exact trivial
  ·try dsimp only
   ((try simp (disch:=omega) only[zAc] at *);refine⟨oO,oO,oO⟩)
  try dsimp only
  omega
 simp at q1
 obtain rfl:k=xs.length:=by omega
 rw[List.take_length] at hlf
 exact⟨[],⟨⟨_,rfl,.inr ⟨woI,oO⟩⟩,rfl⟩,.mem sI⟩
theorem zPw (b:Option Addr) (m c:Nat) (xs:List ByteArray) (hx:szL gS xs≤1048576) :
  Ct prog 64 [.slice b m c] [] (fun H=>(gSl 9 gS).rd H [.slice b m c] xs) (fun v A=>∃ b c,v = .slice b xs.length c∧(gSl 9 gS).ow [.slice b xs.length c] xs A):=by
 refine Ct.intro0 zAh func64 rfl rfl rfl fun E H hp=>?_
 obtain⟨rfl,hcl,hl⟩:=zAp hp
 have hls:=zBL gS xs
 refine VCmake.intro ?_ ?_ ?_ ?_ fun x0=>?_
 ·omega
 ·omega
 ·omega
 ·omega
 apply zAg (α:=(Nat)×(Hp)) zAh [8,9,10,11,14,15,16,17,18,19,20,12,13,4] (fun z=>[(4,.v (.int .i64 z.1))]) (fun z=>[]) (fun z=>[z.2,H]) (fun z=>xs.length-z.1) (fun z=>z.1≤xs.length∧(gSl 9 gS).ow [.slice (some ⟨x0,0,none⟩) xs.length xs.length] (xs.take z.1++List.replicate (xs.length-z.1) ByteArray.empty) z.2) ((0,_))
 ·exact frI
 ·exact trivial
 ·try dsimp only
  exact⟨oO,by simpa using zEY (g:=gS) (T:=9) (b:=x0) (zN5 (by decide)) (Nat.le_refl xs.length) oO⟩
 ·exact .refl _
 rintro ⟨k,A⟩ hI
 try dsimp only at hI
 obtain⟨hk,oA⟩:=hI
 try dsimp only
 constructor<;>intro q1
 ·simp at q1
  refine zAf hp ?_ ?_ fun b2 o2 hb2=>?_
  ·omega
  ·omega
  refine zAd ByteArray.empty (k) rfl hp ?_ ?_ hb2 rfl (zAa 1 rfl) fun l3 hl3=>?_
  ·omega
  ·omega
  obtain⟨rfl,hw3⟩:=hl3;simp only[zAx,zAs,okI] at hw3
  refine zAf (Gt.owrd _ oA) ?_ ?_ fun b4 o4 hb4=>?_
  ·omega
  ·simp;omega
  refine zBq (Fld.id _) ByteArray.empty (k) 0 rfl rfl oA ?_ ?_ hb4 rfl z8b _ (zN5 ?_) fun A5 o5=>?_
  ·omega
  ·simp;omega
  ·trivial
  apply zAb (k+1,_)
  ·exact .refl _
  ·exact frI
  ·exact trivial
  ·try dsimp only
   exact⟨oO,by rw[←zKW xs k ByteArray.empty oO] ;assumption⟩
  try dsimp only
  omega
 simp at q1
 obtain rfl:k=xs.length:=by omega
 rw[List.take_length,Nat.sub_self,List.replicate_zero,List.append_nil] at oA
 exact⟨_,⟨_,_,rfl,oA⟩,rlA⟩
theorem zPx (b1:Option Addr) (m1 c1:Nat) (b2:Option Addr) (m2 c2:Nat) (xs ys:List ByteArray) :
  Ct prog 84 [.slice b1 m1 c1,.slice b2 m2 c2] [] (fun H=>(gSl 9 gS).rd H [.slice b1 m1 c1] xs∧(gSl 9 gS).rd H [.slice b2 m2 c2] ys) (fun v A=>v = .bool (decide (xs=ys))∧A=[]):=by
 refine Ct.intro0 zAh func84 rfl rfl rfl fun E H hp=>?_
 obtain⟨hp1,hp2⟩:=hp
 obtain⟨rfl,hc1,hl1⟩:=zAp hp1
 obtain⟨rfl,hc2,hl2⟩:=zAp hp2
 constructor<;>intro q0
 ·simp at q0
  exact⟨[],⟨by rw[decide_eq_false (fun e=>by subst e;omega)],rfl⟩,.mem sI⟩
 simp at q0
 apply zAg (α:=(Nat)) zAh [11,12,13,14,17,18,19,20,21,22,23,24,25,4,15,16,5] (fun z=>[(5,.v (.int .i64 z))]) (fun z=>[]) (fun z=>[H]) (fun z=>xs.length-z) (fun z=>z≤xs.length∧xs.take z=ys.take z) (0)
 ·exact frI
 ·exact trivial
 ·exact⟨oO,by simp⟩
 ·exact .refl _
 rintro k hI
 obtain⟨hk,he⟩:k≤xs.length∧xs.take k=ys.take k:=hI
 try dsimp only
 constructor<;>intro q1
 ·simp at q1
  refine zBr zAh zAK none (.q 0 (.q 1 (.q 2 (.q 3 (.q 4 (.q 5 (.q 6 (.q 7 (.q 8 (.nil)))))))))) (by decide +kernel) ?_
  refine zAf hp1 ?_ ?_ fun b2 o2 hb2=>?_
  ·omega
  ·omega
  refine zAd ByteArray.empty (k) rfl hp1 ?_ ?_ hb2 rfl (zAa 0 rfl) fun l3 hl3=>?_
  ·omega
  ·omega
  obtain⟨rfl,hw3⟩:=hl3;simp only[zAx,zAs,okI] at hw3
  refine zAf hp2 ?_ ?_ fun b4 o4 hb4=>?_
  ·omega
  ·omega
  refine zAd ByteArray.empty (k) rfl hp2 ?_ ?_ hb4 rfl (zAa 0 rfl) fun l5 hl5=>?_
  ·omega
  ·omega
  obtain⟨rfl,hw5⟩:=hl5;simp only[zAx,zAs,okI] at hw5
  constructor<;>intro q6
  ·simp at q6
   simp only[zAR,zBn,zAZ] at q6
   exact⟨[],⟨by rw[decide_eq_false (fun e=>by subst e;simp at *)],rfl⟩,.mem sI⟩
  simp at q6
  simp only[zAR,zBn,zAZ] at q6
  apply zAb (k+1)
  ·exact .refl _
  ·exact frI
  ·exact trivial
  ·exact⟨oO,zHy ByteArray.empty oO he oO (by simpa using ‹_›)⟩
  omega
 simp at q1
 exact⟨[],⟨by rw[decide_eq_true];rw[←List.take_length (l:=xs),←List.take_length (l:=ys),←(by omega:xs.length=ys.length),show xs.length=k from oO];exact he,rfl⟩,.mem sI⟩
theorem zWI (l:List Value) (x:Item) (left:Int) (h0:0≤left) (h1:left≤1048576) :
  Ct prog 92 [.agg ⟨l⟩,.int .i64 left] [] (fun H=>zAo.rd H l x) (fun v A=>(∃ r:Int,v = .int .i64 r∧((r = -1∧left < (zAo.sz x:Int))∨(r=left-(zAo.sz x:Int)∧(zAo.sz x:Int)≤left)))∧A=[]):=by
 refine Ct.intro0 zAh func92 rfl rfl rfl fun E H hp=>?_
 obtain⟨b0,c0,rfl,h0,w1⟩:=zAB.1 hp
 have hz:=zH3 x
 refine⟨fun x0=>?_⟩
 refine zDS (zPs _ _ _ (x.row) _ ?_ ?_) (Rp.mono _ (zAa 0 rfl) h0) ?_
 ·trivial
 ·trivial
 rintro _ ⟨r1,rfl,hr1⟩
 constructor<;>intro q2
 ·simp at q2
  exact⟨[],⟨⟨-1,rfl,.inl ⟨rfl,woI⟩⟩,rfl⟩,.mem sI⟩
 simp at q2
 exact⟨[],⟨⟨_,rfl,.inr ⟨woI,oO⟩⟩,rfl⟩,.mem sI⟩
theorem zWJ (l:List Value) (x:Item) (hx:zAo.sz x≤1048576) :
  Ct prog 112 [.agg ⟨l⟩] [] (fun H=>zAo.rd H l x) (fun v A=>∃ l,v = .agg ⟨l⟩∧zAo.ow l x A):=by
 refine Ct.intro0 zAh func112 rfl rfl rfl fun E H hp=>?_
 obtain⟨b0,c0,rfl,h0,w1⟩:=zAB.1 hp
 have hz:=zH3 x
 refine⟨fun x0=>?_⟩
 refine⟨fun x1=>?_⟩
 refine⟨fun x2=>?_⟩
 refine zAi (zPt _ _ _ (x.row) ?_) (Rp.mono _ (zAa 0 rfl) h0) ?_
 ·trivial
 rintro v3 A3 o3
 obtain⟨b3,c3,rfl,o3⟩:=o3
 exact⟨_,⟨_,rfl,zFx.2 ⟨_,_,_,rfl,.refl _,aA,aA⟩⟩,rlA⟩
theorem zWK (l1 l2:List Value) (x y:Item) :
  Ct prog 145 [.agg ⟨l1⟩,.agg ⟨l2⟩] [] (fun H=>zAo.rd H l1 x∧zAo.rd H l2 y) (fun v A=>v = .bool (decide (x=y))∧A=[]):=by
 refine Ct.intro0 zAh func145 rfl rfl rfl fun E H hp=>?_
 obtain⟨hp1,hp2⟩:=hp
 obtain⟨b0p,c0p,rfl,h0p,w1p⟩:=zAB.1 hp1
 obtain⟨b0q,c0q,rfl,h0q,w1q⟩:=zAB.1 hp2
 refine⟨fun x0=>?_⟩
 refine⟨fun x1=>?_⟩
 refine zAe (zPu _ _ _ _ _ _ (x.row) (y.row)) ⟨(Rp.mono _ (zAa 0 rfl) h0p),(Rp.mono _ (zAa 0 rfl) h0q)⟩ ?_
 rintro _ rfl
 constructor<;>intro q3
 ·simp at q3
  exact⟨[],⟨by rw[decide_eq_false (fun e=>by subst e;simp at *)],rfl⟩,.mem sI⟩
 simp at q3
 constructor<;>intro q4
 ·simp at q4
  exact⟨[],⟨by rw[decide_eq_false (fun e=>by subst e;simp at *)],rfl⟩,.mem sI⟩
 simp at q4
 exact⟨[],⟨by rw[decide_eq_true (Item.eq_iff.2 (by simp_all))],rfl⟩,.mem sI⟩
theorem zUT (b:Option Addr) (m c:Nat) (xs:List Item) (left:Int) (h0:0≤left) (h1:left≤1048576) :
  Ct prog 38 [.slice b m c,.int .i64 left] [] (fun H=>(gSl 100 zAo).rd H [.slice b m c] xs) (fun v A=>(∃ r:Int,v = .int .i64 r∧((r = -1∧left < (szL zAo xs:Int))∨(r=left-(szL zAo xs:Int)∧(szL zAo xs:Int)≤left)))∧A=[]):=by
 refine Ct.intro0 zAh func38 rfl rfl rfl fun E H hp=>?_
 obtain⟨rfl,hcl,hl⟩:=zAp hp
 have hq:=zEO zAo xs
 have ht:=List.take_length (l:=xs)
 constructor<;>intro q0
 ·simp at q0
  simp (disch:=omega) only[zAc] at q0
  exact⟨[],⟨⟨-1,rfl,.inl ⟨rfl,woI⟩⟩,rfl⟩,.mem sI⟩
 simp at q0
 simp (disch:=omega) only[zAc] at q0
 apply zAg (α:=(Nat)×(Int)) zAh [12,13,14,15,18,19,20,21,22,23,1,24,25,4,16,17,5] (fun z=>[(5,.v (.int .i64 z.1)),(1,.v (.int .i64 z.2))]) (fun z=>[]) (fun z=>[H]) (fun z=>xs.length-z.1) (fun z=>z.1≤xs.length∧z.2=left-xs.length-szE zAo (xs.take z.1)∧0≤z.2) ((0,left-xs.length))
 ·repeat' (first|exact trivial|refine⟨⟨_,rfl,by first|exact frE|(refine zAz ?_;simp;done)|(simp (disch:=omega) only[zAc]),frO⟩,?_⟩)
 ·exact trivial
 ·try dsimp only
  exact⟨oO,by simp [szE],oO⟩
 ·exact .refl _
 rintro ⟨k,lf⟩ hI
 try dsimp only at hI
 obtain⟨hk,hlf,hnn⟩:=hI
 try dsimp only
 constructor<;>intro q1
 ·simp at q1
  have hs:=zDm zAo xs k default oO
  have hs2:=zF4 zAo xs (k+1)
  refine zAf hp ?_ ?_ fun b2 o2 hb2=>?_
  ·omega
  ·omega
  refine zAd default (k) rfl hp ?_ ?_ hb2 rfl (zAa 0 rfl) fun l3 hl3=>?_
  ·omega
  ·omega
  obtain⟨b0x3,c0x3,rfl,h0x3,w1x3⟩:=zAB.1 hl3
  refine zDS (zWI _ (xs[k]?.getD default) _ ?_ ?_) (Rp.mono _ (zAa 0 rfl) hl3) ?_
  ·trivial
  ·omega
  rintro _ ⟨r4,rfl,hr4⟩
  constructor<;>intro q5
  ·simp at q5
   exact⟨[],⟨⟨-1,rfl,.inl ⟨rfl,woI⟩⟩,rfl⟩,.mem sI⟩
  simp at q5
  apply zAb (k+1,_)
  ·exact .refl _
  ·repeat' (first|exact trivial|refine⟨⟨_,rfl,by first|exact frE|(refine zAz ?_;simp;done)|(simp (disch:=omega) only[zAc]),frO⟩,?_⟩)
  ·exact trivial
  ·try dsimp only
   ((try simp (disch:=omega) only[zAc] at *);refine⟨oO,oO,oO⟩)
  try dsimp only
  omega
 simp at q1
 obtain rfl:k=xs.length:=by omega
 rw[List.take_length] at hlf
 exact⟨[],⟨⟨_,rfl,.inr ⟨woI,oO⟩⟩,rfl⟩,.mem sI⟩
theorem zUU (b:Option Addr) (m c:Nat) (xs:List Item) (hx:szL zAo xs≤1048576) :
  Ct prog 68 [.slice b m c] [] (fun H=>(gSl 100 zAo).rd H [.slice b m c] xs) (fun v A=>∃ b c,v = .slice b xs.length c∧(gSl 100 zAo).ow [.slice b xs.length c] xs A):=by
 refine Ct.intro0 zAh func68 rfl rfl rfl fun E H hp=>?_
 obtain⟨rfl,hcl,hl⟩:=zAp hp
 have hls:=zBL zAo xs
 have hq:=zEO zAo xs
 refine VCmake.intro ?_ ?_ ?_ ?_ fun x0=>?_
 ·omega
 ·omega
 ·omega
 ·omega
 apply zAg (α:=(Nat)×(Hp)) zAh [8,9,10,11,14,15,16,17,18,19,20,21,12,13,4] (fun z=>[(4,.v (.int .i64 z.1))]) (fun z=>[]) (fun z=>[z.2,H]) (fun z=>xs.length-z.1) (fun z=>z.1≤xs.length∧(gSl 100 zAo).ow [.slice (some ⟨x0,0,none⟩) xs.length xs.length] (xs.take z.1++List.replicate (xs.length-z.1) z4o) z.2) ((0,_))
 ·exact frI
 ·exact trivial
 ·try dsimp only
  exact⟨oO,by simpa using zEY (g:=zAo) (T:=100) (b:=x0) (zN7) (Nat.le_refl xs.length) oO⟩
 ·exact .refl _
 rintro ⟨k,A⟩ hI
 try dsimp only at hI
 obtain⟨hk,oA⟩:=hI
 try dsimp only
 constructor<;>intro q1
 ·simp at q1
  have hs:=zDm zAo xs k default oO
  have hs2:=zF4 zAo xs (k+1)
  refine zAf hp ?_ ?_ fun b2 o2 hb2=>?_
  ·omega
  ·omega
  refine zAd default (k) rfl hp ?_ ?_ hb2 rfl (zAa 1 rfl) fun l3 hl3=>?_
  ·omega
  ·omega
  obtain⟨b0x3,c0x3,rfl,h0x3,w1x3⟩:=zAB.1 hl3
  refine zAi (zWJ _ (xs[k]?.getD default) ?_) (Rp.mono _ (zAa 1 rfl) hl3) ?_
  ·omega
  rintro v4 A4 o4
  obtain⟨l4,rfl,o4⟩:=o4
  have r4:=Gt.owrd _ o4
  obtain⟨b0x4,c0x4,rfl,h0x4,w1x4⟩:=zAB.1 r4
  refine zAf (Gt.owrd _ oA) ?_ ?_ fun b5 o5 hb5=>?_
  ·omega
  ·simp;omega
  refine zCO (k) (A) (A4) [H] rlA rfl oA ?_ ?_ hb5 rfl _ o4 fun A6 o6=>?_
  ·omega
  ·simp;omega
  apply zAb (k+1,_)
  ·exact .refl _
  ·exact frI
  ·exact trivial
  ·try dsimp only
   exact⟨oO,by rw[←zFe xs k default z4o oO] ;assumption⟩
  try dsimp only
  omega
 simp at q1
 obtain rfl:k=xs.length:=by omega
 rw[List.take_length,Nat.sub_self,List.replicate_zero,List.append_nil] at oA
 exact⟨_,⟨_,_,rfl,oA⟩,rlA⟩
theorem zUV (b1:Option Addr) (m1 c1:Nat) (b2:Option Addr) (m2 c2:Nat) (xs ys:List Item) :
  Ct prog 88 [.slice b1 m1 c1,.slice b2 m2 c2] [] (fun H=>(gSl 100 zAo).rd H [.slice b1 m1 c1] xs∧(gSl 100 zAo).rd H [.slice b2 m2 c2] ys) (fun v A=>v = .bool (decide (xs=ys))∧A=[]):=by
 refine Ct.intro0 zAh func88 rfl rfl rfl fun E H hp=>?_
 obtain⟨hp1,hp2⟩:=hp
 obtain⟨rfl,hc1,hl1⟩:=zAp hp1
 obtain⟨rfl,hc2,hl2⟩:=zAp hp2
 constructor<;>intro q0
 ·simp at q0
  exact⟨[],⟨by rw[decide_eq_false (fun e=>by subst e;omega)],rfl⟩,.mem sI⟩
 simp at q0
 apply zAg (α:=(Nat)) zAh [11,12,13,14,17,18,19,20,21,22,23,24,25,26,4,15,16,5] (fun z=>[(5,.v (.int .i64 z))]) (fun z=>[]) (fun z=>[H]) (fun z=>xs.length-z) (fun z=>z≤xs.length∧xs.take z=ys.take z) (0)
 ·exact frI
 ·exact trivial
 ·exact⟨oO,by simp⟩
 ·exact .refl _
 rintro k hI
 obtain⟨hk,he⟩:k≤xs.length∧xs.take k=ys.take k:=hI
 try dsimp only
 constructor<;>intro q1
 ·simp at q1
  refine zBr zAh zAK none (.q 0 (.q 1 (.q 2 (.q 3 (.q 4 (.q 5 (.q 6 (.q 7 (.f 8 (.q 9 (.nil))))))))))) (by decide +kernel) ?_
  refine zAf hp1 ?_ ?_ fun b2 o2 hb2=>?_
  ·omega
  ·omega
  refine zAd default (k) rfl hp1 ?_ ?_ hb2 rfl (zAa 0 rfl) fun l3 hl3=>?_
  ·omega
  ·omega
  obtain⟨b0x3,c0x3,rfl,h0x3,w1x3⟩:=zAB.1 hl3
  refine zAf hp2 ?_ ?_ fun b4 o4 hb4=>?_
  ·omega
  ·omega
  refine zAd default (k) rfl hp2 ?_ ?_ hb4 rfl (zAa 0 rfl) fun l5 hl5=>?_
  ·omega
  ·omega
  obtain⟨b0x5,c0x5,rfl,h0x5,w1x5⟩:=zAB.1 hl5
  refine zAe (zWK _ _ (xs[k]?.getD default) (ys[k]?.getD default)) ⟨(Rp.mono _ (zAa 0 rfl) hl3),(Rp.mono _ (zAa 0 rfl) hl5)⟩ ?_
  rintro _ rfl
  refine VC.intro ?_ ?_
  ·exact fun _ h=>h
  constructor<;>intro q7
  ·simp at q7
   exact⟨[],⟨by rw[decide_eq_false (fun e=>by subst e;simp at *)],rfl⟩,.mem sI⟩
  simp at q7
  apply zAb (k+1)
  ·exact .refl _
  ·exact frI
  ·exact trivial
  ·exact⟨oO,zHy default oO he oO (by simpa using ‹_›)⟩
  omega
 simp at q1
 exact⟨[],⟨by rw[decide_eq_true];rw[←List.take_length (l:=xs),←List.take_length (l:=ys),←(by omega:xs.length=ys.length),show xs.length=k from oO];exact he,rfl⟩,.mem sI⟩
theorem zSX (l:List Value) (x:Bag) (left:Int) (h0:0≤left) (h1:left≤1048576) :
  Ct prog 15 [.agg ⟨l⟩,.int .i64 left] [] (fun H=>zDj.rd H l x) (fun v A=>(∃ r:Int,v = .int .i64 r∧((r = -1∧left < (zDj.sz x:Int))∨(r=left-(zDj.sz x:Int)∧(zDj.sz x:Int)≤left)))∧A=[]):=by
 refine Ct.intro0 zAh func15 rfl rfl rfl fun E H hp=>?_
 obtain⟨b0,c0,rfl,h0⟩:=zAD.1 hp
 have hz:=zIQ x
 refine⟨fun x0=>?_⟩
 refine zDS (zUT _ _ _ (x.items) _ ?_ ?_) (Rp.mono _ (zAa 0 rfl) h0) ?_
 ·trivial
 ·trivial
 rintro _ ⟨r1,rfl,hr1⟩
 constructor<;>intro q2
 ·simp at q2
  exact⟨[],⟨⟨-1,rfl,.inl ⟨rfl,woI⟩⟩,rfl⟩,.mem sI⟩
 simp at q2
 exact⟨[],⟨⟨_,rfl,.inr ⟨woI,oO⟩⟩,rfl⟩,.mem sI⟩
theorem zSY (l:List Value) (x:Bag) (hx:zDj.sz x≤1048576) :
  Ct prog 24 [.agg ⟨l⟩] [] (fun H=>zDj.rd H l x) (fun v A=>∃ l,v = .agg ⟨l⟩∧zDj.ow l x A):=by
 refine Ct.intro0 zAh func24 rfl rfl rfl fun E H hp=>?_
 obtain⟨b0,c0,rfl,h0⟩:=zAD.1 hp
 have hz:=zIQ x
 refine⟨fun x0=>?_⟩
 refine⟨fun x1=>?_⟩
 refine⟨fun x2=>?_⟩
 refine zAi (zUU _ _ _ (x.items) ?_) (Rp.mono _ (zAa 0 rfl) h0) ?_
 ·trivial
 rintro v3 A3 o3
 obtain⟨b3,c3,rfl,o3⟩:=o3
 exact⟨_,⟨_,rfl,zF5.2 ⟨_,_,_,rfl,.refl _,aA⟩⟩,rlA⟩
theorem zSZ (l1 l2:List Value) (x y:Bag) :
  Ct prog 32 [.agg ⟨l1⟩,.agg ⟨l2⟩] [] (fun H=>zDj.rd H l1 x∧zDj.rd H l2 y) (fun v A=>v = .bool (decide (x=y))∧A=[]):=by
 refine Ct.intro0 zAh func32 rfl rfl rfl fun E H hp=>?_
 obtain⟨hp1,hp2⟩:=hp
 obtain⟨b0p,c0p,rfl,h0p⟩:=zAD.1 hp1
 obtain⟨b0q,c0q,rfl,h0q⟩:=zAD.1 hp2
 refine⟨fun x0=>?_⟩
 refine⟨fun x1=>?_⟩
 refine zAe (zUV _ _ _ _ _ _ (x.items) (y.items)) ⟨(Rp.mono _ (zAa 0 rfl) h0p),(Rp.mono _ (zAa 0 rfl) h0q)⟩ ?_
 rintro _ rfl
 constructor<;>intro q3
 ·simp at q3
  exact⟨[],⟨by rw[decide_eq_false (fun e=>by subst e;simp at *)],rfl⟩,.mem sI⟩
 simp at q3
 exact⟨[],⟨by rw[decide_eq_true (Bag.eq_iff.2 (by simp_all))],rfl⟩,.mem sI⟩
theorem zWL (l:List Value) (x:Edge) (hx:zCq.sz x≤1048576) :
  Ct prog 69 [.agg ⟨l⟩] [] (fun H=>zCq.rd H l x) (fun v A=>∃ l,v = .agg ⟨l⟩∧zCq.ow l x A):=by
 refine Ct.intro0 zAh func69 rfl rfl rfl fun E H hp=>?_
 obtain⟨rfl,w0,w2⟩:=zBB.1 hp
 have hz:=z0S x
 refine⟨fun x0=>?_⟩
 refine⟨fun x1=>?_⟩
 refine⟨fun x2=>?_⟩
 exact⟨_,⟨_,rfl,zSV.2 ⟨rfl,.refl _,aA,aA⟩⟩,rlA⟩
theorem zWM (l1 l2:List Value) (x y:Edge) :
  Ct prog 89 [.agg ⟨l1⟩,.agg ⟨l2⟩] [] (fun H=>zCq.rd H l1 x∧zCq.rd H l2 y) (fun v A=>v = .bool (decide (x=y))∧A=[]):=by
 refine Ct.intro0 zAh func89 rfl rfl rfl fun E H hp=>?_
 obtain⟨hp1,hp2⟩:=hp
 obtain⟨rfl,w0p,w2p⟩:=zBB.1 hp1
 obtain⟨rfl,w0q,w2q⟩:=zBB.1 hp2
 refine⟨fun x0=>?_⟩
 refine⟨fun x1=>?_⟩
 constructor<;>intro q2
 ·simp at q2
  exact⟨[],⟨by rw[decide_eq_false (fun e=>by subst e;simp at *)],rfl⟩,.mem sI⟩
 simp at q2
 constructor<;>intro q3
 ·simp at q3
  simp only[zAR,zBn,zAZ] at q3
  exact⟨[],⟨by rw[decide_eq_false (fun e=>by subst e;simp at *)],rfl⟩,.mem sI⟩
 simp at q3
 simp only[zAR,zBn,zAZ] at q3
 constructor<;>intro q4
 ·simp at q4
  exact⟨[],⟨by rw[decide_eq_false (fun e=>by subst e;simp at *)],rfl⟩,.mem sI⟩
 simp at q4
 exact⟨[],⟨by rw[decide_eq_true (Edge.eq_iff.2 (by simp_all))],rfl⟩,.mem sI⟩
theorem zUW (b:Option Addr) (m c:Nat) (xs:List Edge) (left:Int) (h0:0≤left) (h1:left≤1048576) :
  Ct prog 16 [.slice b m c,.int .i64 left] [] (fun H=>(gSl 126 zCq).rd H [.slice b m c] xs) (fun v A=>(∃ r:Int,v = .int .i64 r∧((r = -1∧left < (szL zCq xs:Int))∨(r=left-(szL zCq xs:Int)∧(szL zCq xs:Int)≤left)))∧A=[]):=by
 refine Ct.intro0 zAh func16 rfl rfl rfl fun E H hp=>?_
 obtain⟨rfl,hcl,hl⟩:=zAp hp
 have hq:=zEO zCq xs
 have hz:=zN6 zCq (fun _=>rfl) xs
 constructor<;>intro q0
 ·simp at q0
  simp (disch:=omega) only[zAc] at q0
  exact⟨[],⟨⟨-1,rfl,.inl ⟨rfl,woI⟩⟩,rfl⟩,.mem sI⟩
 simp at q0
 simp (disch:=omega) only[zAc] at q0
 exact⟨[],⟨⟨_,rfl,.inr ⟨woI,oO⟩⟩,rfl⟩,.mem sI⟩
theorem zUX (b:Option Addr) (m c:Nat) (xs:List Edge) (hx:szL zCq xs≤1048576) :
  Ct prog 25 [.slice b m c] [] (fun H=>(gSl 126 zCq).rd H [.slice b m c] xs) (fun v A=>∃ b c,v = .slice b xs.length c∧(gSl 126 zCq).ow [.slice b xs.length c] xs A):=by
 refine Ct.intro0 zAh func25 rfl rfl rfl fun E H hp=>?_
 obtain⟨rfl,hcl,hl⟩:=zAp hp
 have hls:=zBL zCq xs
 refine VCmake.intro ?_ ?_ ?_ ?_ fun x0=>?_
 ·omega
 ·omega
 ·omega
 ·omega
 apply zAg (α:=(Nat)×(Hp)) zAh [8,9,10,11,14,15,16,17,18,19,20,21,12,13,4] (fun z=>[(4,.v (.int .i64 z.1))]) (fun z=>[]) (fun z=>[z.2,H]) (fun z=>xs.length-z.1) (fun z=>z.1≤xs.length∧(gSl 126 zCq).ow [.slice (some ⟨x0,0,none⟩) xs.length xs.length] (xs.take z.1++List.replicate (xs.length-z.1) z4q) z.2) ((0,_))
 ·exact frI
 ·exact trivial
 ·try dsimp only
  exact⟨oO,by simpa using zEY (g:=zCq) (T:=126) (b:=x0) (z0R) (Nat.le_refl xs.length) oO⟩
 ·exact .refl _
 rintro ⟨k,A⟩ hI
 try dsimp only at hI
 obtain⟨hk,oA⟩:=hI
 try dsimp only
 constructor<;>intro q1
 ·simp at q1
  refine zAf hp ?_ ?_ fun b2 o2 hb2=>?_
  ·omega
  ·omega
  refine zAd default (k) rfl hp ?_ ?_ hb2 rfl (zAa 1 rfl) fun l3 hl3=>?_
  ·omega
  ·omega
  obtain⟨rfl,w0x3,w2x3⟩:=zBB.1 hl3
  refine zAi (zWL _ (xs[k]?.getD default) ?_) (Rp.mono _ (zAa 1 rfl) hl3) ?_
  ·exact Nat.zero_le 1048576
  rintro v4 A4 o4
  obtain⟨l4,rfl,o4⟩:=o4
  have r4:=Gt.owrd _ o4
  obtain⟨rfl,w0x4,w2x4⟩:=zBB.1 r4
  refine zAf (Gt.owrd _ oA) ?_ ?_ fun b5 o5 hb5=>?_
  ·omega
  ·simp;omega
  refine zCO (k) (A) (A4) [H] rlA rfl oA ?_ ?_ hb5 rfl _ o4 fun A6 o6=>?_
  ·omega
  ·simp;omega
  apply zAb (k+1,_)
  ·exact .refl _
  ·exact frI
  ·exact trivial
  ·try dsimp only
   exact⟨oO,by rw[←zFe xs k default z4q oO] ;assumption⟩
  try dsimp only
  omega
 simp at q1
 obtain rfl:k=xs.length:=by omega
 rw[List.take_length,Nat.sub_self,List.replicate_zero,List.append_nil] at oA
 exact⟨_,⟨_,_,rfl,oA⟩,rlA⟩
theorem zUY (b1:Option Addr) (m1 c1:Nat) (b2:Option Addr) (m2 c2:Nat) (xs ys:List Edge) :
  Ct prog 33 [.slice b1 m1 c1,.slice b2 m2 c2] [] (fun H=>(gSl 126 zCq).rd H [.slice b1 m1 c1] xs∧(gSl 126 zCq).rd H [.slice b2 m2 c2] ys) (fun v A=>v = .bool (decide (xs=ys))∧A=[]):=by
 refine Ct.intro0 zAh func33 rfl rfl rfl fun E H hp=>?_
 obtain⟨hp1,hp2⟩:=hp
 obtain⟨rfl,hc1,hl1⟩:=zAp hp1
 obtain⟨rfl,hc2,hl2⟩:=zAp hp2
 constructor<;>intro q0
 ·simp at q0
  exact⟨[],⟨by rw[decide_eq_false (fun e=>by subst e;omega)],rfl⟩,.mem sI⟩
 simp at q0
 apply zAg (α:=(Nat)) zAh [11,12,13,14,17,18,19,20,21,22,23,24,25,26,4,15,16,5] (fun z=>[(5,.v (.int .i64 z))]) (fun z=>[]) (fun z=>[H]) (fun z=>xs.length-z) (fun z=>z≤xs.length∧xs.take z=ys.take z) (0)
 ·exact frI
 ·exact trivial
 ·exact⟨oO,by simp⟩
 ·exact .refl _
 rintro k hI
 obtain⟨hk,he⟩:k≤xs.length∧xs.take k=ys.take k:=hI
 try dsimp only
 constructor<;>intro q1
 ·simp at q1
  refine zBr zAh zAK none (.q 0 (.q 1 (.q 2 (.q 3 (.q 4 (.q 5 (.q 6 (.q 7 (.f 8 (.q 9 (.nil))))))))))) (by decide +kernel) ?_
  refine zAf hp1 ?_ ?_ fun b2 o2 hb2=>?_
  ·omega
  ·omega
  refine zAd default (k) rfl hp1 ?_ ?_ hb2 rfl (zAa 0 rfl) fun l3 hl3=>?_
  ·omega
  ·omega
  obtain⟨rfl,w0x3,w2x3⟩:=zBB.1 hl3
  refine zAf hp2 ?_ ?_ fun b4 o4 hb4=>?_
  ·omega
  ·omega
  refine zAd default (k) rfl hp2 ?_ ?_ hb4 rfl (zAa 0 rfl) fun l5 hl5=>?_
  ·omega
  ·omega
  obtain⟨rfl,w0x5,w2x5⟩:=zBB.1 hl5
  refine zAe (zWM _ _ (xs[k]?.getD default) (ys[k]?.getD default)) ⟨(Rp.mono _ (zAa 0 rfl) hl3),(Rp.mono _ (zAa 0 rfl) hl5)⟩ ?_
  rintro _ rfl
  refine VC.intro ?_ ?_
  ·exact fun _ h=>h
  constructor<;>intro q7
  ·simp at q7
   exact⟨[],⟨by rw[decide_eq_false (fun e=>by subst e;simp at *)],rfl⟩,.mem sI⟩
  simp at q7
  apply zAb (k+1)
  ·exact .refl _
  ·exact frI
  ·exact trivial
  ·exact⟨oO,zHy default oO he oO (by simpa using ‹_›)⟩
  omega
 simp at q1
 exact⟨[],⟨by rw[decide_eq_true];rw[←List.take_length (l:=xs),←List.take_length (l:=ys),←(by omega:xs.length=ys.length),show xs.length=k from oO];exact he,rfl⟩,.mem sI⟩
theorem zUZ (l:List Value) (x:Graph) (left:Int) (h0:0≤left) (h1:left≤1048576) :
  Ct prog 5 [.agg ⟨l⟩,.int .i64 left] [] (fun H=>zBz.rd H l x) (fun v A=>(∃ r:Int,v = .int .i64 r∧((r = -1∧left < (zBz.sz x:Int))∨(r=left-(zBz.sz x:Int)∧(zBz.sz x:Int)≤left)))∧A=[]):=by
 refine Ct.intro0 zAh func5 rfl rfl rfl fun E H hp=>?_
 obtain⟨b1,c1,rfl,w0,h1⟩:=zAY.1 hp
 have hz:=zPq x
 refine⟨fun x0=>?_⟩
 refine zDS (zUW _ _ _ (x.edges) _ ?_ ?_) (Rp.mono _ (zAa 0 rfl) h1) ?_
 ·trivial
 ·trivial
 rintro _ ⟨r1,rfl,hr1⟩
 constructor<;>intro q2
 ·simp at q2
  exact⟨[],⟨⟨-1,rfl,.inl ⟨rfl,woI⟩⟩,rfl⟩,.mem sI⟩
 simp at q2
 exact⟨[],⟨⟨_,rfl,.inr ⟨woI,oO⟩⟩,rfl⟩,.mem sI⟩
theorem zIR (l:List Value) (x:Graph) (hx:zBz.sz x≤1048576) :
  Ct prog 8 [.agg ⟨l⟩] [] (fun H=>zBz.rd H l x) (fun v A=>∃ l,v = .agg ⟨l⟩∧zBz.ow l x A):=by
 refine Ct.intro0 zAh func8 rfl rfl rfl fun E H hp=>?_
 obtain⟨b1,c1,rfl,w0,h1⟩:=zAY.1 hp
 have hz:=zPq x
 refine⟨fun x0=>?_⟩
 refine⟨fun x1=>?_⟩
 refine⟨fun x2=>?_⟩
 refine zAi (zUX _ _ _ (x.edges) ?_) (Rp.mono _ (zAa 0 rfl) h1) ?_
 ·omega
 rintro v3 A3 o3
 obtain⟨b3,c3,rfl,o3⟩:=o3
 exact⟨_,⟨_,rfl,zWB.2 ⟨_,_,_,rfl,.refl _,aA,aA⟩⟩,rlA⟩
theorem zU0 (l1 l2:List Value) (x y:Graph) :
  Ct prog 11 [.agg ⟨l1⟩,.agg ⟨l2⟩] [] (fun H=>zBz.rd H l1 x∧zBz.rd H l2 y) (fun v A=>v = .bool (decide (x=y))∧A=[]):=by
 refine Ct.intro0 zAh func11 rfl rfl rfl fun E H hp=>?_
 obtain⟨hp1,hp2⟩:=hp
 obtain⟨b1p,c1p,rfl,w0p,h1p⟩:=zAY.1 hp1
 obtain⟨b1q,c1q,rfl,w0q,h1q⟩:=zAY.1 hp2
 refine⟨fun x0=>?_⟩
 refine⟨fun x1=>?_⟩
 constructor<;>intro q2
 ·simp at q2
  exact⟨[],⟨by rw[decide_eq_false (fun e=>by subst e;simp at *)],rfl⟩,.mem sI⟩
 simp at q2
 refine zAe (zUY _ _ _ _ _ _ (x.edges) (y.edges)) ⟨(Rp.mono _ (zAa 0 rfl) h1p),(Rp.mono _ (zAa 0 rfl) h1q)⟩ ?_
 rintro _ rfl
 constructor<;>intro q4
 ·simp at q4
  exact⟨[],⟨by rw[decide_eq_false (fun e=>by subst e;simp at *)],rfl⟩,.mem sI⟩
 simp at q4
 exact⟨[],⟨by rw[decide_eq_true (Graph.eq_iff.2 (by simp_all))],rfl⟩,.mem sI⟩
theorem zWN (l:List Value) (x:Atom) (left:Int) (h0:0≤left) (h1:left≤1048576) :
  Ct prog 90 [.agg ⟨l⟩,.int .i64 left] [] (fun H=>zA9.rd H l x) (fun v A=>(∃ r:Int,v = .int .i64 r∧((r = -1∧left < (zA9.sz x:Int))∨(r=left-(zA9.sz x:Int)∧(zA9.sz x:Int)≤left)))∧A=[]):=by
 refine Ct.intro0 zAh func90 rfl rfl rfl fun E H hp=>?_
 obtain⟨rfl,w0,w1,w2⟩:=zAT.1 hp
 have hz:=zOa x
 refine⟨fun x0=>?_⟩
 constructor<;>intro q1
 ·simp at q1
  simp (disch:=omega) only[zAc] at q1
  exact⟨[],⟨⟨-1,rfl,.inl ⟨rfl,woI⟩⟩,rfl⟩,.mem sI⟩
 simp at q1
 simp (disch:=omega) only[zAc] at q1
 constructor<;>intro q2
 ·simp at q2
  simp (disch:=omega) only[zAc] at q2
  exact⟨[],⟨⟨-1,rfl,.inl ⟨rfl,woI⟩⟩,rfl⟩,.mem sI⟩
 simp at q2
 simp (disch:=omega) only[zAc] at q2
 constructor<;>intro q3
 ·simp at q3
  simp (disch:=omega) only[zAc] at q3
  exact⟨[],⟨⟨-1,rfl,.inl ⟨rfl,woI⟩⟩,rfl⟩,.mem sI⟩
 simp at q3
 simp (disch:=omega) only[zAc] at q3
 exact⟨[],⟨⟨_,rfl,.inr ⟨woI,oO⟩⟩,rfl⟩,.mem sI⟩
theorem zWO (l:List Value) (x:Atom) (hx:zA9.sz x≤1048576) :
  Ct prog 110 [.agg ⟨l⟩] [] (fun H=>zA9.rd H l x) (fun v A=>∃ l,v = .agg ⟨l⟩∧zA9.ow l x A):=by
 refine Ct.intro0 zAh func110 rfl rfl rfl fun E H hp=>?_
 obtain⟨rfl,w0,w1,w2⟩:=zAT.1 hp
 have hz:=zOa x
 refine⟨fun x0=>?_⟩
 refine⟨fun x1=>?_⟩
 refine⟨fun x2=>?_⟩
 exact⟨_,⟨_,rfl,zSW.2 ⟨rfl,.refl _,aA,aA,aA⟩⟩,rlA⟩
theorem zWP (l1 l2:List Value) (x y:Atom) :
  Ct prog 143 [.agg ⟨l1⟩,.agg ⟨l2⟩] [] (fun H=>zA9.rd H l1 x∧zA9.rd H l2 y) (fun v A=>v = .bool (decide (x=y))∧A=[]):=by
 refine Ct.intro0 zAh func143 rfl rfl rfl fun E H hp=>?_
 obtain⟨hp1,hp2⟩:=hp
 obtain⟨rfl,w0p,w1p,w2p⟩:=zAT.1 hp1
 obtain⟨rfl,w0q,w1q,w2q⟩:=zAT.1 hp2
 refine⟨fun x0=>?_⟩
 refine⟨fun x1=>?_⟩
 constructor<;>intro q2
 ·simp at q2
  simp only[zAR,zBn,zAZ] at q2
  exact⟨[],⟨by rw[decide_eq_false (fun e=>by subst e;simp at *)],rfl⟩,.mem sI⟩
 simp at q2
 simp only[zAR,zBn,zAZ] at q2
 constructor<;>intro q3
 ·simp at q3
  simp only[zAR,zBn,zAZ] at q3
  exact⟨[],⟨by rw[decide_eq_false (fun e=>by subst e;simp at *)],rfl⟩,.mem sI⟩
 simp at q3
 simp only[zAR,zBn,zAZ] at q3
 constructor<;>intro q4
 ·simp at q4
  simp only[zAR,zBn,zAZ] at q4
  exact⟨[],⟨by rw[decide_eq_false (fun e=>by subst e;simp at *)],rfl⟩,.mem sI⟩
 simp at q4
 simp only[zAR,zBn,zAZ] at q4
 exact⟨[],⟨by rw[decide_eq_true (Atom.eq_iff.2 (by simp_all))],rfl⟩,.mem sI⟩
theorem zRJ (l:List Value) (x:Filter) (left:Int) (h0:0≤left) (h1:left≤1048576) :
  Ct prog 91 [.agg ⟨l⟩,.int .i64 left] [] (fun H=>zAE.rd H l x) (fun v A=>(∃ r:Int,v = .int .i64 r∧((r = -1∧left < (zAE.sz x:Int))∨(r=left-(zAE.sz x:Int)∧(zAE.sz x:Int)≤left)))∧A=[]):=by
 refine Ct.intro0 zAh func91 rfl rfl rfl fun E H hp=>?_
 obtain⟨rfl,w0,w1,w2,w3⟩:=zBj.1 hp
 have hz:=zMS x
 refine⟨fun x0=>?_⟩
 constructor<;>intro q1
 ·simp at q1
  simp (disch:=omega) only[zAc] at q1
  exact⟨[],⟨⟨-1,rfl,.inl ⟨rfl,woI⟩⟩,rfl⟩,.mem sI⟩
 simp at q1
 simp (disch:=omega) only[zAc] at q1
 constructor<;>intro q2
 ·simp at q2
  simp (disch:=omega) only[zAc] at q2
  exact⟨[],⟨⟨-1,rfl,.inl ⟨rfl,woI⟩⟩,rfl⟩,.mem sI⟩
 simp at q2
 simp (disch:=omega) only[zAc] at q2
 exact⟨[],⟨⟨_,rfl,.inr ⟨woI,oO⟩⟩,rfl⟩,.mem sI⟩
theorem zRK (l:List Value) (x:Filter) (hx:zAE.sz x≤1048576) :
  Ct prog 111 [.agg ⟨l⟩] [] (fun H=>zAE.rd H l x) (fun v A=>∃ l,v = .agg ⟨l⟩∧zAE.ow l x A):=by
 refine Ct.intro0 zAh func111 rfl rfl rfl fun E H hp=>?_
 obtain⟨rfl,w0,w1,w2,w3⟩:=zBj.1 hp
 have hz:=zMS x
 refine⟨fun x0=>?_⟩
 refine⟨fun x1=>?_⟩
 refine⟨fun x2=>?_⟩
 exact⟨_,⟨_,rfl,zMR.2 ⟨rfl,.refl _,aA,aA,aA,aA⟩⟩,rlA⟩
theorem zRL (l1 l2:List Value) (x y:Filter) :
  Ct prog 144 [.agg ⟨l1⟩,.agg ⟨l2⟩] [] (fun H=>zAE.rd H l1 x∧zAE.rd H l2 y) (fun v A=>v = .bool (decide (x=y))∧A=[]):=by
 refine Ct.intro0 zAh func144 rfl rfl rfl fun E H hp=>?_
 obtain⟨hp1,hp2⟩:=hp
 obtain⟨rfl,w0p,w1p,w2p,w3p⟩:=zBj.1 hp1
 obtain⟨rfl,w0q,w1q,w2q,w3q⟩:=zBj.1 hp2
 refine⟨fun x0=>?_⟩
 refine⟨fun x1=>?_⟩
 constructor<;>intro q2
 ·simp at q2
  simp only[zAR,zBn,zAZ] at q2
  exact⟨[],⟨by rw[decide_eq_false (fun e=>by subst e;simp at *)],rfl⟩,.mem sI⟩
 simp at q2
 simp only[zAR,zBn,zAZ] at q2
 constructor<;>intro q3
 ·simp at q3
  exact⟨[],⟨by rw[decide_eq_false (fun e=>by subst e;simp at *)],rfl⟩,.mem sI⟩
 simp at q3
 constructor<;>intro q4
 ·simp at q4
  simp only[zAR,zBn,zAZ] at q4
  exact⟨[],⟨by rw[decide_eq_false (fun e=>by subst e;simp at *)],rfl⟩,.mem sI⟩
 simp at q4
 simp only[zAR,zBn,zAZ] at q4
 constructor<;>intro q5
 ·simp at q5
  exact⟨[],⟨by rw[decide_eq_false (fun e=>by subst e;simp at *)],rfl⟩,.mem sI⟩
 simp at q5
 exact⟨[],⟨by rw[decide_eq_true (Filter.eq_iff.2 (by simp_all))],rfl⟩,.mem sI⟩
theorem zU1 (b:Option Addr) (m c:Nat) (xs:List Atom) (left:Int) (h0:0≤left) (h1:left≤1048576) :
  Ct prog 35 [.slice b m c,.int .i64 left] [] (fun H=>(gSl 97 zA9).rd H [.slice b m c] xs) (fun v A=>(∃ r:Int,v = .int .i64 r∧((r = -1∧left < (szL zA9 xs:Int))∨(r=left-(szL zA9 xs:Int)∧(szL zA9 xs:Int)≤left)))∧A=[]):=by
 refine Ct.intro0 zAh func35 rfl rfl rfl fun E H hp=>?_
 obtain⟨rfl,hcl,hl⟩:=zAp hp
 have hq:=zEO zA9 xs
 have ht:=List.take_length (l:=xs)
 constructor<;>intro q0
 ·simp at q0
  simp (disch:=omega) only[zAc] at q0
  exact⟨[],⟨⟨-1,rfl,.inl ⟨rfl,woI⟩⟩,rfl⟩,.mem sI⟩
 simp at q0
 simp (disch:=omega) only[zAc] at q0
 apply zAg (α:=(Nat)×(Int)) zAh [12,13,14,15,18,19,20,21,22,23,1,24,25,4,16,17,5] (fun z=>[(5,.v (.int .i64 z.1)),(1,.v (.int .i64 z.2))]) (fun z=>[]) (fun z=>[H]) (fun z=>xs.length-z.1) (fun z=>z.1≤xs.length∧z.2=left-xs.length-szE zA9 (xs.take z.1)∧0≤z.2) ((0,left-xs.length))
 ·repeat' (first|exact trivial|refine⟨⟨_,rfl,by first|exact frE|(refine zAz ?_;simp;done)|(simp (disch:=omega) only[zAc]),frO⟩,?_⟩)
 ·exact trivial
 ·try dsimp only
  exact⟨oO,by simp [szE],oO⟩
 ·exact .refl _
 rintro ⟨k,lf⟩ hI
 try dsimp only at hI
 obtain⟨hk,hlf,hnn⟩:=hI
 try dsimp only
 constructor<;>intro q1
 ·simp at q1
  have hs:=zDm zA9 xs k default oO
  have hs2:=zF4 zA9 xs (k+1)
  refine zAf hp ?_ ?_ fun b2 o2 hb2=>?_
  ·omega
  ·omega
  refine zAd default (k) rfl hp ?_ ?_ hb2 rfl (zAa 0 rfl) fun l3 hl3=>?_
  ·omega
  ·omega
  obtain⟨rfl,w0x3,w1x3,w2x3⟩:=zAT.1 hl3
  refine zDS (zWN _ (xs[k]?.getD default) _ ?_ ?_) (Rp.mono _ (zAa 0 rfl) hl3) ?_
  ·trivial
  ·omega
  rintro _ ⟨r4,rfl,hr4⟩
  constructor<;>intro q5
  ·simp at q5
   exact⟨[],⟨⟨-1,rfl,.inl ⟨rfl,woI⟩⟩,rfl⟩,.mem sI⟩
  simp at q5
  apply zAb (k+1,_)
  ·exact .refl _
  ·repeat' (first|exact trivial|refine⟨⟨_,rfl,by first|exact frE|(refine zAz ?_;simp;done)|(simp (disch:=omega) only[zAc]),frO⟩,?_⟩)
  ·exact trivial
  ·try dsimp only
   ((try simp (disch:=omega) only[zAc] at *);refine⟨oO,oO,oO⟩)
  try dsimp only
  omega
 simp at q1
 obtain rfl:k=xs.length:=by omega
 rw[List.take_length] at hlf
 exact⟨[],⟨⟨_,rfl,.inr ⟨woI,oO⟩⟩,rfl⟩,.mem sI⟩
theorem zU2 (b:Option Addr) (m c:Nat) (xs:List Atom) (hx:szL zA9 xs≤1048576) :
  Ct prog 65 [.slice b m c] [] (fun H=>(gSl 97 zA9).rd H [.slice b m c] xs) (fun v A=>∃ b c,v = .slice b xs.length c∧(gSl 97 zA9).ow [.slice b xs.length c] xs A):=by
 refine Ct.intro0 zAh func65 rfl rfl rfl fun E H hp=>?_
 obtain⟨rfl,hcl,hl⟩:=zAp hp
 have hls:=zBL zA9 xs
 have hq:=zEO zA9 xs
 refine VCmake.intro ?_ ?_ ?_ ?_ fun x0=>?_
 ·omega
 ·omega
 ·omega
 ·omega
 apply zAg (α:=(Nat)×(Hp)) zAh [8,9,10,11,14,15,16,17,18,19,20,21,12,13,4] (fun z=>[(4,.v (.int .i64 z.1))]) (fun z=>[]) (fun z=>[z.2,H]) (fun z=>xs.length-z.1) (fun z=>z.1≤xs.length∧(gSl 97 zA9).ow [.slice (some ⟨x0,0,none⟩) xs.length xs.length] (xs.take z.1++List.replicate (xs.length-z.1) z4s) z.2) ((0,_))
 ·exact frI
 ·exact trivial
 ·try dsimp only
  exact⟨oO,by simpa using zEY (g:=zA9) (T:=97) (b:=x0) (z0T) (Nat.le_refl xs.length) oO⟩
 ·exact .refl _
 rintro ⟨k,A⟩ hI
 try dsimp only at hI
 obtain⟨hk,oA⟩:=hI
 try dsimp only
 constructor<;>intro q1
 ·simp at q1
  have hs:=zDm zA9 xs k default oO
  have hs2:=zF4 zA9 xs (k+1)
  refine zAf hp ?_ ?_ fun b2 o2 hb2=>?_
  ·omega
  ·omega
  refine zAd default (k) rfl hp ?_ ?_ hb2 rfl (zAa 1 rfl) fun l3 hl3=>?_
  ·omega
  ·omega
  obtain⟨rfl,w0x3,w1x3,w2x3⟩:=zAT.1 hl3
  refine zAi (zWO _ (xs[k]?.getD default) ?_) (Rp.mono _ (zAa 1 rfl) hl3) ?_
  ·omega
  rintro v4 A4 o4
  obtain⟨l4,rfl,o4⟩:=o4
  have r4:=Gt.owrd _ o4
  obtain⟨rfl,w0x4,w1x4,w2x4⟩:=zAT.1 r4
  refine zAf (Gt.owrd _ oA) ?_ ?_ fun b5 o5 hb5=>?_
  ·omega
  ·simp;omega
  refine zCO (k) (A) (A4) [H] rlA rfl oA ?_ ?_ hb5 rfl _ o4 fun A6 o6=>?_
  ·omega
  ·simp;omega
  apply zAb (k+1,_)
  ·exact .refl _
  ·exact frI
  ·exact trivial
  ·try dsimp only
   exact⟨oO,by rw[←zFe xs k default z4s oO] ;assumption⟩
  try dsimp only
  omega
 simp at q1
 obtain rfl:k=xs.length:=by omega
 rw[List.take_length,Nat.sub_self,List.replicate_zero,List.append_nil] at oA
 exact⟨_,⟨_,_,rfl,oA⟩,rlA⟩
theorem zU3 (b1:Option Addr) (m1 c1:Nat) (b2:Option Addr) (m2 c2:Nat) (xs ys:List Atom) :
  Ct prog 85 [.slice b1 m1 c1,.slice b2 m2 c2] [] (fun H=>(gSl 97 zA9).rd H [.slice b1 m1 c1] xs∧(gSl 97 zA9).rd H [.slice b2 m2 c2] ys) (fun v A=>v = .bool (decide (xs=ys))∧A=[]):=by
 refine Ct.intro0 zAh func85 rfl rfl rfl fun E H hp=>?_
 obtain⟨hp1,hp2⟩:=hp
 obtain⟨rfl,hc1,hl1⟩:=zAp hp1
 obtain⟨rfl,hc2,hl2⟩:=zAp hp2
 constructor<;>intro q0
 ·simp at q0
  exact⟨[],⟨by rw[decide_eq_false (fun e=>by subst e;omega)],rfl⟩,.mem sI⟩
 simp at q0
 apply zAg (α:=(Nat)) zAh [11,12,13,14,17,18,19,20,21,22,23,24,25,26,4,15,16,5] (fun z=>[(5,.v (.int .i64 z))]) (fun z=>[]) (fun z=>[H]) (fun z=>xs.length-z) (fun z=>z≤xs.length∧xs.take z=ys.take z) (0)
 ·exact frI
 ·exact trivial
 ·exact⟨oO,by simp⟩
 ·exact .refl _
 rintro k hI
 obtain⟨hk,he⟩:k≤xs.length∧xs.take k=ys.take k:=hI
 try dsimp only
 constructor<;>intro q1
 ·simp at q1
  refine zBr zAh zAK none (.q 0 (.q 1 (.q 2 (.q 3 (.q 4 (.q 5 (.q 6 (.q 7 (.f 8 (.q 9 (.nil))))))))))) (by decide +kernel) ?_
  refine zAf hp1 ?_ ?_ fun b2 o2 hb2=>?_
  ·omega
  ·omega
  refine zAd default (k) rfl hp1 ?_ ?_ hb2 rfl (zAa 0 rfl) fun l3 hl3=>?_
  ·omega
  ·omega
  obtain⟨rfl,w0x3,w1x3,w2x3⟩:=zAT.1 hl3
  refine zAf hp2 ?_ ?_ fun b4 o4 hb4=>?_
  ·omega
  ·omega
  refine zAd default (k) rfl hp2 ?_ ?_ hb4 rfl (zAa 0 rfl) fun l5 hl5=>?_
  ·omega
  ·omega
  obtain⟨rfl,w0x5,w1x5,w2x5⟩:=zAT.1 hl5
  refine zAe (zWP _ _ (xs[k]?.getD default) (ys[k]?.getD default)) ⟨(Rp.mono _ (zAa 0 rfl) hl3),(Rp.mono _ (zAa 0 rfl) hl5)⟩ ?_
  rintro _ rfl
  refine VC.intro ?_ ?_
  ·exact fun _ h=>h
  constructor<;>intro q7
  ·simp at q7
   exact⟨[],⟨by rw[decide_eq_false (fun e=>by subst e;simp at *)],rfl⟩,.mem sI⟩
  simp at q7
  apply zAb (k+1)
  ·exact .refl _
  ·exact frI
  ·exact trivial
  ·exact⟨oO,zHy default oO he oO (by simpa using ‹_›)⟩
  omega
 simp at q1
 exact⟨[],⟨by rw[decide_eq_true];rw[←List.take_length (l:=xs),←List.take_length (l:=ys),←(by omega:xs.length=ys.length),show xs.length=k from oO];exact he,rfl⟩,.mem sI⟩
theorem zPy (b:Option Addr) (m c:Nat) (xs:List Filter) (left:Int) (h0:0≤left) (h1:left≤1048576) :
  Ct prog 36 [.slice b m c,.int .i64 left] [] (fun H=>(gSl 165 zAE).rd H [.slice b m c] xs) (fun v A=>(∃ r:Int,v = .int .i64 r∧((r = -1∧left < (szL zAE xs:Int))∨(r=left-(szL zAE xs:Int)∧(szL zAE xs:Int)≤left)))∧A=[]):=by
 refine Ct.intro0 zAh func36 rfl rfl rfl fun E H hp=>?_
 obtain⟨rfl,hcl,hl⟩:=zAp hp
 have hq:=zEO zAE xs
 have ht:=List.take_length (l:=xs)
 constructor<;>intro q0
 ·simp at q0
  simp (disch:=omega) only[zAc] at q0
  exact⟨[],⟨⟨-1,rfl,.inl ⟨rfl,woI⟩⟩,rfl⟩,.mem sI⟩
 simp at q0
 simp (disch:=omega) only[zAc] at q0
 apply zAg (α:=(Nat)×(Int)) zAh [12,13,14,15,18,19,20,21,22,23,1,24,25,4,16,17,5] (fun z=>[(5,.v (.int .i64 z.1)),(1,.v (.int .i64 z.2))]) (fun z=>[]) (fun z=>[H]) (fun z=>xs.length-z.1) (fun z=>z.1≤xs.length∧z.2=left-xs.length-szE zAE (xs.take z.1)∧0≤z.2) ((0,left-xs.length))
 ·repeat' (first|exact trivial|refine⟨⟨_,rfl,by first|exact frE|(refine zAz ?_;simp;done)|(simp (disch:=omega) only[zAc]),frO⟩,?_⟩)
 ·exact trivial
 ·try dsimp only
  exact⟨oO,by simp [szE],oO⟩
 ·exact .refl _
 rintro ⟨k,lf⟩ hI
 try dsimp only at hI
 obtain⟨hk,hlf,hnn⟩:=hI
 try dsimp only
 constructor<;>intro q1
 ·simp at q1
  have hs:=zDm zAE xs k default oO
  have hs2:=zF4 zAE xs (k+1)
  refine zAf hp ?_ ?_ fun b2 o2 hb2=>?_
  ·omega
  ·omega
  refine zAd default (k) rfl hp ?_ ?_ hb2 rfl (zAa 0 rfl) fun l3 hl3=>?_
  ·omega
  ·omega
  obtain⟨rfl,w0x3,w1x3,w2x3,w3x3⟩:=zBj.1 hl3
  refine zDS (zRJ _ (xs[k]?.getD default) _ ?_ ?_) (Rp.mono _ (zAa 0 rfl) hl3) ?_
  ·trivial
  ·omega
  rintro _ ⟨r4,rfl,hr4⟩
  constructor<;>intro q5
  ·simp at q5
   exact⟨[],⟨⟨-1,rfl,.inl ⟨rfl,woI⟩⟩,rfl⟩,.mem sI⟩
  simp at q5
  apply zAb (k+1,_)
  ·exact .refl _
  ·repeat' (first|exact trivial|refine⟨⟨_,rfl,by first|exact frE|(refine zAz ?_;simp;done)|(simp (disch:=omega) only[zAc]),frO⟩,?_⟩)
  ·exact trivial
  ·try dsimp only
   ((try simp (disch:=omega) only[zAc] at *);refine⟨oO,oO,oO⟩)
  try dsimp only
  omega
 simp at q1
 obtain rfl:k=xs.length:=by omega
 rw[List.take_length] at hlf
 exact⟨[],⟨⟨_,rfl,.inr ⟨woI,oO⟩⟩,rfl⟩,.mem sI⟩
theorem zPz (b:Option Addr) (m c:Nat) (xs:List Filter) (hx:szL zAE xs≤1048576) :
  Ct prog 66 [.slice b m c] [] (fun H=>(gSl 165 zAE).rd H [.slice b m c] xs) (fun v A=>∃ b c,v = .slice b xs.length c∧(gSl 165 zAE).ow [.slice b xs.length c] xs A):=by
 refine Ct.intro0 zAh func66 rfl rfl rfl fun E H hp=>?_
 obtain⟨rfl,hcl,hl⟩:=zAp hp
 have hls:=zBL zAE xs
 have hq:=zEO zAE xs
 refine VCmake.intro ?_ ?_ ?_ ?_ fun x0=>?_
 ·omega
 ·omega
 ·omega
 ·omega
 apply zAg (α:=(Nat)×(Hp)) zAh [8,9,10,11,14,15,16,17,18,19,20,21,12,13,4] (fun z=>[(4,.v (.int .i64 z.1))]) (fun z=>[]) (fun z=>[z.2,H]) (fun z=>xs.length-z.1) (fun z=>z.1≤xs.length∧(gSl 165 zAE).ow [.slice (some ⟨x0,0,none⟩) xs.length xs.length] (xs.take z.1++List.replicate (xs.length-z.1) zRH) z.2) ((0,_))
 ·exact frI
 ·exact trivial
 ·try dsimp only
  exact⟨oO,by simpa using zEY (g:=zAE) (T:=165) (b:=x0) (zUS) (Nat.le_refl xs.length) oO⟩
 ·exact .refl _
 rintro ⟨k,A⟩ hI
 try dsimp only at hI
 obtain⟨hk,oA⟩:=hI
 try dsimp only
 constructor<;>intro q1
 ·simp at q1
  have hs:=zDm zAE xs k default oO
  have hs2:=zF4 zAE xs (k+1)
  refine zAf hp ?_ ?_ fun b2 o2 hb2=>?_
  ·omega
  ·omega
  refine zAd default (k) rfl hp ?_ ?_ hb2 rfl (zAa 1 rfl) fun l3 hl3=>?_
  ·omega
  ·omega
  obtain⟨rfl,w0x3,w1x3,w2x3,w3x3⟩:=zBj.1 hl3
  refine zAi (zRK _ (xs[k]?.getD default) ?_) (Rp.mono _ (zAa 1 rfl) hl3) ?_
  ·omega
  rintro v4 A4 o4
  obtain⟨l4,rfl,o4⟩:=o4
  have r4:=Gt.owrd _ o4
  obtain⟨rfl,w0x4,w1x4,w2x4,w3x4⟩:=zBj.1 r4
  refine zAf (Gt.owrd _ oA) ?_ ?_ fun b5 o5 hb5=>?_
  ·omega
  ·simp;omega
  refine zCO (k) (A) (A4) [H] rlA rfl oA ?_ ?_ hb5 rfl _ o4 fun A6 o6=>?_
  ·omega
  ·simp;omega
  apply zAb (k+1,_)
  ·exact .refl _
  ·exact frI
  ·exact trivial
  ·try dsimp only
   exact⟨oO,by rw[←zFe xs k default zRH oO] ;assumption⟩
  try dsimp only
  omega
 simp at q1
 obtain rfl:k=xs.length:=by omega
 rw[List.take_length,Nat.sub_self,List.replicate_zero,List.append_nil] at oA
 exact⟨_,⟨_,_,rfl,oA⟩,rlA⟩
theorem zPA (b1:Option Addr) (m1 c1:Nat) (b2:Option Addr) (m2 c2:Nat) (xs ys:List Filter) :
  Ct prog 86 [.slice b1 m1 c1,.slice b2 m2 c2] [] (fun H=>(gSl 165 zAE).rd H [.slice b1 m1 c1] xs∧(gSl 165 zAE).rd H [.slice b2 m2 c2] ys) (fun v A=>v = .bool (decide (xs=ys))∧A=[]):=by
 refine Ct.intro0 zAh func86 rfl rfl rfl fun E H hp=>?_
 obtain⟨hp1,hp2⟩:=hp
 obtain⟨rfl,hc1,hl1⟩:=zAp hp1
 obtain⟨rfl,hc2,hl2⟩:=zAp hp2
 constructor<;>intro q0
 ·simp at q0
  exact⟨[],⟨by rw[decide_eq_false (fun e=>by subst e;omega)],rfl⟩,.mem sI⟩
 simp at q0
 apply zAg (α:=(Nat)) zAh [11,12,13,14,17,18,19,20,21,22,23,24,25,26,4,15,16,5] (fun z=>[(5,.v (.int .i64 z))]) (fun z=>[]) (fun z=>[H]) (fun z=>xs.length-z) (fun z=>z≤xs.length∧xs.take z=ys.take z) (0)
 ·exact frI
 ·exact trivial
 ·exact⟨oO,by simp⟩
 ·exact .refl _
 rintro k hI
 obtain⟨hk,he⟩:k≤xs.length∧xs.take k=ys.take k:=hI
 try dsimp only
 constructor<;>intro q1
 ·simp at q1
  refine zBr zAh zAK none (.q 0 (.q 1 (.q 2 (.q 3 (.q 4 (.q 5 (.q 6 (.q 7 (.f 8 (.q 9 (.nil))))))))))) (by decide +kernel) ?_
  refine zAf hp1 ?_ ?_ fun b2 o2 hb2=>?_
  ·omega
  ·omega
  refine zAd default (k) rfl hp1 ?_ ?_ hb2 rfl (zAa 0 rfl) fun l3 hl3=>?_
  ·omega
  ·omega
  obtain⟨rfl,w0x3,w1x3,w2x3,w3x3⟩:=zBj.1 hl3
  refine zAf hp2 ?_ ?_ fun b4 o4 hb4=>?_
  ·omega
  ·omega
  refine zAd default (k) rfl hp2 ?_ ?_ hb4 rfl (zAa 0 rfl) fun l5 hl5=>?_
  ·omega
  ·omega
  obtain⟨rfl,w0x5,w1x5,w2x5,w3x5⟩:=zBj.1 hl5
  refine zAe (zRL _ _ (xs[k]?.getD default) (ys[k]?.getD default)) ⟨(Rp.mono _ (zAa 0 rfl) hl3),(Rp.mono _ (zAa 0 rfl) hl5)⟩ ?_
  rintro _ rfl
  refine VC.intro ?_ ?_
  ·exact fun _ h=>h
  constructor<;>intro q7
  ·simp at q7
   exact⟨[],⟨by rw[decide_eq_false (fun e=>by subst e;simp at *)],rfl⟩,.mem sI⟩
  simp at q7
  apply zAb (k+1)
  ·exact .refl _
  ·exact frI
  ·exact trivial
  ·exact⟨oO,zHy default oO he oO (by simpa using ‹_›)⟩
  omega
 simp at q1
 exact⟨[],⟨by rw[decide_eq_true];rw[←List.take_length (l:=xs),←List.take_length (l:=ys),←(by omega:xs.length=ys.length),show xs.length=k from oO];exact he,rfl⟩,.mem sI⟩
theorem zU4 (l:List Value) (x:Query) (left:Int) (h0:0≤left) (h1:left≤1048576) :
  Ct prog 12 [.agg ⟨l⟩,.int .i64 left] [] (fun H=>zAL.rd H l x) (fun v A=>(∃ r:Int,v = .int .i64 r∧((r = -1∧left < (zAL.sz x:Int))∨(r=left-(zAL.sz x:Int)∧(zAL.sz x:Int)≤left)))∧A=[]):=by
 refine Ct.intro0 zAh func12 rfl rfl rfl fun E H hp=>?_
 obtain⟨b1,c1,b2,c2,b3,c3,rfl,h1,h2,h3⟩:=zAy.1 hp
 have hz:=zEt x
 refine⟨fun x0=>?_⟩
 refine zDS (zPv _ _ _ (x.out) _ ?_ ?_) (Rp.mono _ (zAa 0 rfl) h1) ?_
 ·trivial
 ·trivial
 rintro _ ⟨r1,rfl,hr1⟩
 constructor<;>intro q2
 ·simp at q2
  exact⟨[],⟨⟨-1,rfl,.inl ⟨rfl,woI⟩⟩,rfl⟩,.mem sI⟩
 simp at q2
 refine zDS (zU1 _ _ _ (x.atoms) _ ?_ ?_) (Rp.mono _ (zAa 0 rfl) h2) ?_
 ·trivial
 ·omega
 rintro _ ⟨r3,rfl,hr3⟩
 constructor<;>intro q4
 ·simp at q4
  exact⟨[],⟨⟨-1,rfl,.inl ⟨rfl,woI⟩⟩,rfl⟩,.mem sI⟩
 simp at q4
 refine zDS (zPy _ _ _ (x.filters) _ ?_ ?_) (Rp.mono _ (zAa 0 rfl) h3) ?_
 ·trivial
 ·omega
 rintro _ ⟨r5,rfl,hr5⟩
 constructor<;>intro q6
 ·simp at q6
  exact⟨[],⟨⟨-1,rfl,.inl ⟨rfl,woI⟩⟩,rfl⟩,.mem sI⟩
 simp at q6
 exact⟨[],⟨⟨_,rfl,.inr ⟨woI,oO⟩⟩,rfl⟩,.mem sI⟩
theorem zU5 (l:List Value) (x:Query) (hx:zAL.sz x≤1048576) :
  Ct prog 21 [.agg ⟨l⟩] [] (fun H=>zAL.rd H l x) (fun v A=>∃ l,v = .agg ⟨l⟩∧zAL.ow l x A):=by
 refine Ct.intro0 zAh func21 rfl rfl rfl fun E H hp=>?_
 obtain⟨b1,c1,b2,c2,b3,c3,rfl,h1,h2,h3⟩:=zAy.1 hp
 have hz:=zEt x
 refine⟨fun x0=>?_⟩
 refine⟨fun x1=>?_⟩
 refine⟨fun x2=>?_⟩
 refine zAi (zPw _ _ _ (x.out) ?_) (Rp.mono _ (zAa 0 rfl) h1) ?_
 ·omega
 rintro v3 A3 o3
 obtain⟨b3,c3,rfl,o3⟩:=o3
 refine zAi (zU2 _ _ _ (x.atoms) ?_) (Rp.mono _ (zAa 1 rfl) h2) ?_
 ·omega
 rintro v4 A4 o4
 obtain⟨b4,c4,rfl,o4⟩:=o4
 refine zAi (zPz _ _ _ (x.filters) ?_) (Rp.mono _ (zAa 2 rfl) h3) ?_
 ·omega
 rintro v5 A5 o5
 obtain⟨b5,c5,rfl,o5⟩:=o5
 exact⟨_,⟨_,rfl,zBH.2 ⟨_,_,_,_,_,_,_,_,_,rfl,.refl _,aA,aA,aA⟩⟩,rlA⟩
theorem zU6 (l1 l2:List Value) (x y:Query) :
  Ct prog 29 [.agg ⟨l1⟩,.agg ⟨l2⟩] [] (fun H=>zAL.rd H l1 x∧zAL.rd H l2 y) (fun v A=>v = .bool (decide (x=y))∧A=[]):=by
 refine Ct.intro0 zAh func29 rfl rfl rfl fun E H hp=>?_
 obtain⟨hp1,hp2⟩:=hp
 obtain⟨b1p,c1p,b2p,c2p,b3p,c3p,rfl,h1p,h2p,h3p⟩:=zAy.1 hp1
 obtain⟨b1q,c1q,b2q,c2q,b3q,c3q,rfl,h1q,h2q,h3q⟩:=zAy.1 hp2
 refine⟨fun x0=>?_⟩
 refine⟨fun x1=>?_⟩
 constructor<;>intro q2
 ·simp at q2
  exact⟨[],⟨by rw[decide_eq_false (fun e=>by subst e;simp at *)],rfl⟩,.mem sI⟩
 simp at q2
 refine zAe (zPx _ _ _ _ _ _ (x.out) (y.out)) ⟨(Rp.mono _ (zAa 0 rfl) h1p),(Rp.mono _ (zAa 0 rfl) h1q)⟩ ?_
 rintro _ rfl
 constructor<;>intro q4
 ·simp at q4
  exact⟨[],⟨by rw[decide_eq_false (fun e=>by subst e;simp at *)],rfl⟩,.mem sI⟩
 simp at q4
 refine zAe (zU3 _ _ _ _ _ _ (x.atoms) (y.atoms)) ⟨(Rp.mono _ (zAa 0 rfl) h2p),(Rp.mono _ (zAa 0 rfl) h2q)⟩ ?_
 rintro _ rfl
 constructor<;>intro q6
 ·simp at q6
  exact⟨[],⟨by rw[decide_eq_false (fun e=>by subst e;simp at *)],rfl⟩,.mem sI⟩
 simp at q6
 refine zAe (zPA _ _ _ _ _ _ (x.filters) (y.filters)) ⟨(Rp.mono _ (zAa 0 rfl) h3p),(Rp.mono _ (zAa 0 rfl) h3q)⟩ ?_
 rintro _ rfl
 constructor<;>intro q8
 ·simp at q8
  exact⟨[],⟨by rw[decide_eq_false (fun e=>by subst e;simp at *)],rfl⟩,.mem sI⟩
 simp at q8
 exact⟨[],⟨by rw[decide_eq_true (Query.eq_iff.2 (by simp_all))],rfl⟩,.mem sI⟩
theorem z0U (l:List Value) (x:Got) (left:Int) (h0:0≤left) (h1:left≤1048576) :
  Ct prog 37 [.agg ⟨l⟩,.int .i64 left] [] (fun H=>zEZ.rd H l x) (fun v A=>(∃ r:Int,v = .int .i64 r∧((r = -1∧left < (zEZ.sz x:Int))∨(r=left-(zEZ.sz x:Int)∧(zEZ.sz x:Int)≤left)))∧A=[]):=by
 refine Ct.intro0 zAh func37 rfl rfl rfl fun E H hp=>?_
 obtain⟨l2,rfl,w0,w1,h2⟩:=zDn.1 hp
 obtain⟨b0_2,c0_2,rfl,h0_2⟩:=zAD.1 h2
 have hz:=zWG x
 refine⟨fun x0=>?_⟩
 refine zDS (zSX _ (x.bag) _ ?_ ?_) (Rp.mono _ (zAa 0 rfl) h2) ?_
 ·trivial
 ·trivial
 rintro _ ⟨r1,rfl,hr1⟩
 constructor<;>intro q2
 ·simp at q2
  exact⟨[],⟨⟨-1,rfl,.inl ⟨rfl,woI⟩⟩,rfl⟩,.mem sI⟩
 simp at q2
 exact⟨[],⟨⟨_,rfl,.inr ⟨woI,oO⟩⟩,rfl⟩,.mem sI⟩
theorem z0V (l:List Value) (x:Got) (hx:zEZ.sz x≤1048576) :
  Ct prog 67 [.agg ⟨l⟩] [] (fun H=>zEZ.rd H l x) (fun v A=>∃ l,v = .agg ⟨l⟩∧zEZ.ow l x A):=by
 refine Ct.intro0 zAh func67 rfl rfl rfl fun E H hp=>?_
 obtain⟨l2,rfl,w0,w1,h2⟩:=zDn.1 hp
 obtain⟨b0_2,c0_2,rfl,h0_2⟩:=zAD.1 h2
 have hz:=zWG x
 refine⟨fun x0=>?_⟩
 refine⟨fun x1=>?_⟩
 refine⟨fun x2=>?_⟩
 refine zAi (zSY _ (x.bag) ?_) (Rp.mono _ (zAa 0 rfl) h2) ?_
 ·omega
 rintro v3 A3 o3
 obtain⟨l3,rfl,o3⟩:=o3
 have r3:=Gt.owrd _ o3
 obtain⟨b0x3,c0x3,rfl,h0x3⟩:=zAD.1 r3
 exact⟨_,⟨_,rfl,zWE.2 ⟨_,_,rfl,.refl _,aA,aA,aA⟩⟩,rlA⟩
theorem z0W (l1 l2:List Value) (x y:Got) :
  Ct prog 87 [.agg ⟨l1⟩,.agg ⟨l2⟩] [] (fun H=>zEZ.rd H l1 x∧zEZ.rd H l2 y) (fun v A=>v = .bool (decide (x=y))∧A=[]):=by
 refine Ct.intro0 zAh func87 rfl rfl rfl fun E H hp=>?_
 obtain⟨hp1,hp2⟩:=hp
 obtain⟨l2p,rfl,w0p,w1p,h2p⟩:=zDn.1 hp1
 obtain⟨b0_2p,c0_2p,rfl,h0_2p⟩:=zAD.1 h2p
 obtain⟨l2q,rfl,w0q,w1q,h2q⟩:=zDn.1 hp2
 obtain⟨b0_2q,c0_2q,rfl,h0_2q⟩:=zAD.1 h2q
 refine⟨fun x0=>?_⟩
 refine⟨fun x1=>?_⟩
 constructor<;>intro q2
 ·simp at q2
  exact⟨[],⟨by rw[decide_eq_false (fun e=>by subst e;simp at *)],rfl⟩,.mem sI⟩
 simp at q2
 constructor<;>intro q3
 ·simp at q3
  exact⟨[],⟨by rw[decide_eq_false (fun e=>by subst e;simp at *)],rfl⟩,.mem sI⟩
 simp at q3
 refine zAe (zSZ _ _ (x.bag) (y.bag)) ⟨(Rp.mono _ (zAa 0 rfl) h2p),(Rp.mono _ (zAa 0 rfl) h2q)⟩ ?_
 rintro _ rfl
 constructor<;>intro q5
 ·simp at q5
  exact⟨[],⟨by rw[decide_eq_false (fun e=>by subst e;simp at *)],rfl⟩,.mem sI⟩
 simp at q5
 exact⟨[],⟨by rw[decide_eq_true (Got.eq_iff.2 (by simp_all))],rfl⟩,.mem sI⟩
theorem zWQ (b:Option Addr) (m c:Nat) (xs:List Got) (left:Int) (h0:0≤left) (h1:left≤1048576) :
  Ct prog 14 [.slice b m c,.int .i64 left] [] (fun H=>(gSl 69 zEZ).rd H [.slice b m c] xs) (fun v A=>(∃ r:Int,v = .int .i64 r∧((r = -1∧left < (szL zEZ xs:Int))∨(r=left-(szL zEZ xs:Int)∧(szL zEZ xs:Int)≤left)))∧A=[]):=by
 refine Ct.intro0 zAh func14 rfl rfl rfl fun E H hp=>?_
 obtain⟨rfl,hcl,hl⟩:=zAp hp
 have hq:=zEO zEZ xs
 have ht:=List.take_length (l:=xs)
 constructor<;>intro q0
 ·simp at q0
  simp (disch:=omega) only[zAc] at q0
  exact⟨[],⟨⟨-1,rfl,.inl ⟨rfl,woI⟩⟩,rfl⟩,.mem sI⟩
 simp at q0
 simp (disch:=omega) only[zAc] at q0
 apply zAg (α:=(Nat)×(Int)) zAh [12,13,14,15,18,19,20,21,22,23,1,24,25,4,16,17,5] (fun z=>[(5,.v (.int .i64 z.1)),(1,.v (.int .i64 z.2))]) (fun z=>[]) (fun z=>[H]) (fun z=>xs.length-z.1) (fun z=>z.1≤xs.length∧z.2=left-xs.length-szE zEZ (xs.take z.1)∧0≤z.2) ((0,left-xs.length))
 ·repeat' (first|exact trivial|refine⟨⟨_,rfl,by first|exact frE|(refine zAz ?_;simp;done)|(simp (disch:=omega) only[zAc]),frO⟩,?_⟩)
 ·exact trivial
 ·try dsimp only
  exact⟨oO,by simp [szE],oO⟩
 ·exact .refl _
 rintro ⟨k,lf⟩ hI
 try dsimp only at hI
 obtain⟨hk,hlf,hnn⟩:=hI
 try dsimp only
 constructor<;>intro q1
 ·simp at q1
  have hs:=zDm zEZ xs k default oO
  have hs2:=zF4 zEZ xs (k+1)
  refine zAf hp ?_ ?_ fun b2 o2 hb2=>?_
  ·omega
  ·omega
  refine zAd default (k) rfl hp ?_ ?_ hb2 rfl (zAa 0 rfl) fun l3 hl3=>?_
  ·omega
  ·omega
  obtain⟨l2x3,rfl,w0x3,w1x3,h2x3⟩:=zDn.1 hl3 ;obtain⟨b0_2x3,c0_2x3,rfl,h0_2x3⟩:=zAD.1 h2x3
  refine zDS (z0U _ (xs[k]?.getD default) _ ?_ ?_) (Rp.mono _ (zAa 0 rfl) hl3) ?_
  ·trivial
  ·omega
  rintro _ ⟨r4,rfl,hr4⟩
  constructor<;>intro q5
  ·simp at q5
   exact⟨[],⟨⟨-1,rfl,.inl ⟨rfl,woI⟩⟩,rfl⟩,.mem sI⟩
  simp at q5
  apply zAb (k+1,_)
  ·exact .refl _
  ·repeat' (first|exact trivial|refine⟨⟨_,rfl,by first|exact frE|(refine zAz ?_;simp;done)|(simp (disch:=omega) only[zAc]),frO⟩,?_⟩)
  ·exact trivial
  ·try dsimp only
   ((try simp (disch:=omega) only[zAc] at *);refine⟨oO,oO,oO⟩)
  try dsimp only
  omega
 simp at q1
 obtain rfl:k=xs.length:=by omega
 rw[List.take_length] at hlf
 exact⟨[],⟨⟨_,rfl,.inr ⟨woI,oO⟩⟩,rfl⟩,.mem sI⟩
theorem zWR (b:Option Addr) (m c:Nat) (xs:List Got) (hx:szL zEZ xs≤1048576) :
  Ct prog 23 [.slice b m c] [] (fun H=>(gSl 69 zEZ).rd H [.slice b m c] xs) (fun v A=>∃ b c,v = .slice b xs.length c∧(gSl 69 zEZ).ow [.slice b xs.length c] xs A):=by
 refine Ct.intro0 zAh func23 rfl rfl rfl fun E H hp=>?_
 obtain⟨rfl,hcl,hl⟩:=zAp hp
 have hls:=zBL zEZ xs
 have hq:=zEO zEZ xs
 refine VCmake.intro ?_ ?_ ?_ ?_ fun x0=>?_
 ·omega
 ·omega
 ·omega
 ·omega
 apply zAg (α:=(Nat)×(Hp)) zAh [8,9,10,11,14,15,16,17,18,19,20,21,12,13,4] (fun z=>[(4,.v (.int .i64 z.1))]) (fun z=>[]) (fun z=>[z.2,H]) (fun z=>xs.length-z.1) (fun z=>z.1≤xs.length∧(gSl 69 zEZ).ow [.slice (some ⟨x0,0,none⟩) xs.length xs.length] (xs.take z.1++List.replicate (xs.length-z.1) z8c) z.2) ((0,_))
 ·exact frI
 ·exact trivial
 ·try dsimp only
  exact⟨oO,by simpa using zEY (g:=zEZ) (T:=69) (b:=x0) (z4t) (Nat.le_refl xs.length) oO⟩
 ·exact .refl _
 rintro ⟨k,A⟩ hI
 try dsimp only at hI
 obtain⟨hk,oA⟩:=hI
 try dsimp only
 constructor<;>intro q1
 ·simp at q1
  have hs:=zDm zEZ xs k default oO
  have hs2:=zF4 zEZ xs (k+1)
  refine zAf hp ?_ ?_ fun b2 o2 hb2=>?_
  ·omega
  ·omega
  refine zAd default (k) rfl hp ?_ ?_ hb2 rfl (zAa 1 rfl) fun l3 hl3=>?_
  ·omega
  ·omega
  obtain⟨l2x3,rfl,w0x3,w1x3,h2x3⟩:=zDn.1 hl3 ;obtain⟨b0_2x3,c0_2x3,rfl,h0_2x3⟩:=zAD.1 h2x3
  refine zAi (z0V _ (xs[k]?.getD default) ?_) (Rp.mono _ (zAa 1 rfl) hl3) ?_
  ·omega
  rintro v4 A4 o4
  obtain⟨l4,rfl,o4⟩:=o4
  have r4:=Gt.owrd _ o4
  obtain⟨l2x4,rfl,w0x4,w1x4,h2x4⟩:=zDn.1 r4
  obtain⟨b0_2x4,c0_2x4,rfl,h0_2x4⟩:=zAD.1 h2x4
  refine zAf (Gt.owrd _ oA) ?_ ?_ fun b5 o5 hb5=>?_
  ·omega
  ·simp;omega
  refine zCO (k) (A) (A4) [H] rlA rfl oA ?_ ?_ hb5 rfl _ o4 fun A6 o6=>?_
  ·omega
  ·simp;omega
  apply zAb (k+1,_)
  ·exact .refl _
  ·exact frI
  ·exact trivial
  ·try dsimp only
   exact⟨oO,by rw[←zFe xs k default z8c oO] ;assumption⟩
  try dsimp only
  omega
 simp at q1
 obtain rfl:k=xs.length:=by omega
 rw[List.take_length,Nat.sub_self,List.replicate_zero,List.append_nil] at oA
 exact⟨_,⟨_,_,rfl,oA⟩,rlA⟩
theorem zWS (b1:Option Addr) (m1 c1:Nat) (b2:Option Addr) (m2 c2:Nat) (xs ys:List Got) :
  Ct prog 31 [.slice b1 m1 c1,.slice b2 m2 c2] [] (fun H=>(gSl 69 zEZ).rd H [.slice b1 m1 c1] xs∧(gSl 69 zEZ).rd H [.slice b2 m2 c2] ys) (fun v A=>v = .bool (decide (xs=ys))∧A=[]):=by
 refine Ct.intro0 zAh func31 rfl rfl rfl fun E H hp=>?_
 obtain⟨hp1,hp2⟩:=hp
 obtain⟨rfl,hc1,hl1⟩:=zAp hp1
 obtain⟨rfl,hc2,hl2⟩:=zAp hp2
 constructor<;>intro q0
 ·simp at q0
  exact⟨[],⟨by rw[decide_eq_false (fun e=>by subst e;omega)],rfl⟩,.mem sI⟩
 simp at q0
 apply zAg (α:=(Nat)) zAh [11,12,13,14,17,18,19,20,21,22,23,24,25,26,4,15,16,5] (fun z=>[(5,.v (.int .i64 z))]) (fun z=>[]) (fun z=>[H]) (fun z=>xs.length-z) (fun z=>z≤xs.length∧xs.take z=ys.take z) (0)
 ·exact frI
 ·exact trivial
 ·exact⟨oO,by simp⟩
 ·exact .refl _
 rintro k hI
 obtain⟨hk,he⟩:k≤xs.length∧xs.take k=ys.take k:=hI
 try dsimp only
 constructor<;>intro q1
 ·simp at q1
  refine zBr zAh zAK none (.q 0 (.q 1 (.q 2 (.q 3 (.q 4 (.q 5 (.q 6 (.q 7 (.f 8 (.q 9 (.nil))))))))))) (by decide +kernel) ?_
  refine zAf hp1 ?_ ?_ fun b2 o2 hb2=>?_
  ·omega
  ·omega
  refine zAd default (k) rfl hp1 ?_ ?_ hb2 rfl (zAa 0 rfl) fun l3 hl3=>?_
  ·omega
  ·omega
  obtain⟨l2x3,rfl,w0x3,w1x3,h2x3⟩:=zDn.1 hl3 ;obtain⟨b0_2x3,c0_2x3,rfl,h0_2x3⟩:=zAD.1 h2x3
  refine zAf hp2 ?_ ?_ fun b4 o4 hb4=>?_
  ·omega
  ·omega
  refine zAd default (k) rfl hp2 ?_ ?_ hb4 rfl (zAa 0 rfl) fun l5 hl5=>?_
  ·omega
  ·omega
  obtain⟨l2x5,rfl,w0x5,w1x5,h2x5⟩:=zDn.1 hl5 ;obtain⟨b0_2x5,c0_2x5,rfl,h0_2x5⟩:=zAD.1 h2x5
  refine zAe (z0W _ _ (xs[k]?.getD default) (ys[k]?.getD default)) ⟨(Rp.mono _ (zAa 0 rfl) hl3),(Rp.mono _ (zAa 0 rfl) hl5)⟩ ?_
  rintro _ rfl
  refine VC.intro ?_ ?_
  ·exact fun _ h=>h
  constructor<;>intro q7
  ·simp at q7
   exact⟨[],⟨by rw[decide_eq_false (fun e=>by subst e;simp at *)],rfl⟩,.mem sI⟩
  simp at q7
  apply zAb (k+1)
  ·exact .refl _
  ·exact frI
  ·exact trivial
  ·exact⟨oO,zHy default oO he oO (by simpa using ‹_›)⟩
  omega
 simp at q1
 exact⟨[],⟨by rw[decide_eq_true];rw[←List.take_length (l:=xs),←List.take_length (l:=ys),←(by omega:xs.length=ys.length),show xs.length=k from oO];exact he,rfl⟩,.mem sI⟩
theorem z0X (l:List Value) (x:Ask) (left:Int) (h0:0≤left) (h1:left≤1048576) :
  Ct prog 4 [.agg ⟨l⟩,.int .i64 left] [] (fun H=>zO7.rd H l x) (fun v A=>(∃ r:Int,v = .int .i64 r∧((r = -1∧left < (zO7.sz x:Int))∨(r=left-(zO7.sz x:Int)∧(zO7.sz x:Int)≤left)))∧A=[]):=by
 refine Ct.intro0 zAh func4 rfl rfl rfl fun E H hp=>?_
 obtain⟨l1,b2,c2,b4,c4,l6,rfl,h1,h2,w3,h4,h6⟩:=zE0.1 hp
 obtain⟨b1_1,c1_1,b2_1,c2_1,b3_1,c3_1,rfl,h1_1,h2_1,h3_1⟩:=zAy.1 h1
 obtain⟨b0_6,c0_6,rfl,h0_6⟩:=zAD.1 h6
 have hz:=zOb x
 refine⟨fun x0=>?_⟩
 refine zDS (zU4 _ (x.query) _ ?_ ?_) (Rp.mono _ (zAa 0 rfl) h1) ?_
 ·trivial
 ·trivial
 rintro _ ⟨r1,rfl,hr1⟩
 constructor<;>intro q2
 ·simp at q2
  exact⟨[],⟨⟨-1,rfl,.inl ⟨rfl,woI⟩⟩,rfl⟩,.mem sI⟩
 simp at q2
 refine zDS (zPs _ _ _ (x.shares) _ ?_ ?_) (Rp.mono _ (zAa 0 rfl) h2) ?_
 ·trivial
 ·omega
 rintro _ ⟨r3,rfl,hr3⟩
 constructor<;>intro q4
 ·simp at q4
  exact⟨[],⟨⟨-1,rfl,.inl ⟨rfl,woI⟩⟩,rfl⟩,.mem sI⟩
 simp at q4
 refine zDS (zWQ _ _ _ (x.results) _ ?_ ?_) (Rp.mono _ (zAa 0 rfl) h4) ?_
 ·trivial
 ·omega
 rintro _ ⟨r5,rfl,hr5⟩
 constructor<;>intro q6
 ·simp at q6
  exact⟨[],⟨⟨-1,rfl,.inl ⟨rfl,woI⟩⟩,rfl⟩,.mem sI⟩
 simp at q6
 refine zDS (zSX _ (x.answer) _ ?_ ?_) (Rp.mono _ (zAa 0 rfl) h6) ?_
 ·trivial
 ·omega
 rintro _ ⟨r7,rfl,hr7⟩
 constructor<;>intro q8
 ·simp at q8
  exact⟨[],⟨⟨-1,rfl,.inl ⟨rfl,woI⟩⟩,rfl⟩,.mem sI⟩
 simp at q8
 exact⟨[],⟨⟨_,rfl,.inr ⟨woI,oO⟩⟩,rfl⟩,.mem sI⟩
theorem zOc (l:List Value) (x:Ask) (hx:zO7.sz x≤1048576) :
  Ct prog 7 [.agg ⟨l⟩] [] (fun H=>zO7.rd H l x) (fun v A=>∃ l,v = .agg ⟨l⟩∧zO7.ow l x A):=by
 refine Ct.intro0 zAh func7 rfl rfl rfl fun E H hp=>?_
 obtain⟨l1,b2,c2,b4,c4,l6,rfl,h1,h2,w3,h4,h6⟩:=zE0.1 hp
 obtain⟨b1_1,c1_1,b2_1,c2_1,b3_1,c3_1,rfl,h1_1,h2_1,h3_1⟩:=zAy.1 h1
 obtain⟨b0_6,c0_6,rfl,h0_6⟩:=zAD.1 h6
 have hz:=zOb x
 refine⟨fun x0=>?_⟩
 refine⟨fun x1=>?_⟩
 refine⟨fun x2=>?_⟩
 refine zAi (zU5 _ (x.query) ?_) (Rp.mono _ (zAa 0 rfl) h1) ?_
 ·omega
 rintro v3 A3 o3
 obtain⟨l3,rfl,o3⟩:=o3
 have r3:=Gt.owrd _ o3
 obtain⟨b1x3,c1x3,b2x3,c2x3,b3x3,c3x3,rfl,h1x3,h2x3,h3x3⟩:=zAy.1 r3
 refine zAi (zPt _ _ _ (x.shares) ?_) (Rp.mono _ (zAa 1 rfl) h2) ?_
 ·omega
 rintro v4 A4 o4
 obtain⟨b4,c4,rfl,o4⟩:=o4
 refine zAi (zWR _ _ _ (x.results) ?_) (Rp.mono _ (zAa 2 rfl) h4) ?_
 ·omega
 rintro v5 A5 o5
 obtain⟨b5,c5,rfl,o5⟩:=o5
 refine zAi (zSY _ (x.answer) ?_) (Rp.mono _ (zAa 3 rfl) h6) ?_
 ·omega
 rintro v6 A6 o6
 obtain⟨l6,rfl,o6⟩:=o6
 have r6:=Gt.owrd _ o6
 obtain⟨b0x6,c0x6,rfl,h0x6⟩:=zAD.1 r6
 exact⟨_,⟨_,rfl,z4u.2 ⟨_,_,_,_,_,_,_,_,_,_,rfl,.refl _,aA,aA,aA,aA,aA⟩⟩,rlA⟩
theorem z0Y (l1 l2:List Value) (x y:Ask) :
  Ct prog 10 [.agg ⟨l1⟩,.agg ⟨l2⟩] [] (fun H=>zO7.rd H l1 x∧zO7.rd H l2 y) (fun v A=>v = .bool (decide (x=y))∧A=[]):=by
 refine Ct.intro0 zAh func10 rfl rfl rfl fun E H hp=>?_
 obtain⟨hp1,hp2⟩:=hp
 obtain⟨l1p,b2p,c2p,b4p,c4p,l6p,rfl,h1p,h2p,w3p,h4p,h6p⟩:=zE0.1 hp1
 obtain⟨b1_1p,c1_1p,b2_1p,c2_1p,b3_1p,c3_1p,rfl,h1_1p,h2_1p,h3_1p⟩:=zAy.1 h1p
 obtain⟨b0_6p,c0_6p,rfl,h0_6p⟩:=zAD.1 h6p
 obtain⟨l1q,b2q,c2q,b4q,c4q,l6q,rfl,h1q,h2q,w3q,h4q,h6q⟩:=zE0.1 hp2
 obtain⟨b1_1q,c1_1q,b2_1q,c2_1q,b3_1q,c3_1q,rfl,h1_1q,h2_1q,h3_1q⟩:=zAy.1 h1q
 obtain⟨b0_6q,c0_6q,rfl,h0_6q⟩:=zAD.1 h6q
 refine⟨fun x0=>?_⟩
 refine⟨fun x1=>?_⟩
 constructor<;>intro q2
 ·simp at q2
  exact⟨[],⟨by rw[decide_eq_false (fun e=>by subst e;simp at *)],rfl⟩,.mem sI⟩
 simp at q2
 refine zAe (zU6 _ _ (x.query) (y.query)) ⟨(Rp.mono _ (zAa 0 rfl) h1p),(Rp.mono _ (zAa 0 rfl) h1q)⟩ ?_
 rintro _ rfl
 constructor<;>intro q4
 ·simp at q4
  exact⟨[],⟨by rw[decide_eq_false (fun e=>by subst e;simp at *)],rfl⟩,.mem sI⟩
 simp at q4
 refine zAe (zPu _ _ _ _ _ _ (x.shares) (y.shares)) ⟨(Rp.mono _ (zAa 0 rfl) h2p),(Rp.mono _ (zAa 0 rfl) h2q)⟩ ?_
 rintro _ rfl
 constructor<;>intro q6
 ·simp at q6
  exact⟨[],⟨by rw[decide_eq_false (fun e=>by subst e;simp at *)],rfl⟩,.mem sI⟩
 simp at q6
 constructor<;>intro q7
 ·simp at q7
  exact⟨[],⟨by rw[decide_eq_false (fun e=>by subst e;simp at *)],rfl⟩,.mem sI⟩
 simp at q7
 refine zAe (zWS _ _ _ _ _ _ (x.results) (y.results)) ⟨(Rp.mono _ (zAa 0 rfl) h4p),(Rp.mono _ (zAa 0 rfl) h4q)⟩ ?_
 rintro _ rfl
 constructor<;>intro q9
 ·simp at q9
  exact⟨[],⟨by rw[decide_eq_false (fun e=>by subst e;simp at *)],rfl⟩,.mem sI⟩
 simp at q9
 constructor<;>intro q10
 ·simp at q10
  exact⟨[],⟨by rw[decide_eq_false (fun e=>by subst e;simp at *)],rfl⟩,.mem sI⟩
 simp at q10
 refine zAe (zSZ _ _ (x.answer) (y.answer)) ⟨(Rp.mono _ (zAa 0 rfl) h6p),(Rp.mono _ (zAa 0 rfl) h6q)⟩ ?_
 rintro _ rfl
 constructor<;>intro q12
 ·simp at q12
  exact⟨[],⟨by rw[decide_eq_false (fun e=>by subst e;simp at *)],rfl⟩,.mem sI⟩
 simp at q12
 exact⟨[],⟨by rw[decide_eq_true (Ask.eq_iff.2 (by simp_all))],rfl⟩,.mem sI⟩
end
section
def inR (a b n:Int):Bool:=decide (a≤n) && decide (n≤b)
theorem zAq {a b n:Int}:inR a b n=true↔a≤n∧n≤b:=by unfold inR;simp
theorem zA3 (n a b:Int):Ct prog 41 [.int .i64 n,.int .i64 a,.int .i64 b] [] (fun _=>True) (fun v A=>v = .bool (inR a b n)∧A=[]):=by
 refine Ct.intro0 zAh func41 rfl rfl rfl fun E H hp=>?_
 constructor<;>intro q0
 ·simp at q0
  exact⟨[],⟨by unfold inR;first|rw[decide_eq_true (by omega:a≤n),Bool.true_and]|rw[decide_eq_false (by omega:¬a≤n),Bool.false_and],rfl⟩,.mem sI⟩
 simp at q0
 exact⟨[],⟨by unfold inR;first|rw[decide_eq_true (by omega:a≤n),Bool.true_and]|rw[decide_eq_false (by omega:¬a≤n),Bool.false_and],rfl⟩,.mem sI⟩
end
section
def by' (s:ByteArray):List UInt8:=s.data.toList
def tx (l:List UInt8):ByteArray:=⟨l.toArray⟩
theorem z7e (s:ByteArray):tx (by' s)=s:=by unfold tx by';rfl
theorem z8d (l:List UInt8):by' (tx l)=l:=by unfold tx by';simp
theorem z7f {a b:ByteArray}:by' a=by' b↔a=b:=⟨fun h=>by rw[←z7e a,h,z7e],fun h=>by rw[h]⟩
theorem zF6 (s:ByteArray):(by' s).length=s.size:=by unfold by';simp
theorem z7g (s:ByteArray) (i:Nat):(s[i]?).getD 0=((by' s)[i]?).getD 0:=by
 by_cases h:i < s.size
 ·have h2:i < s.data.size:=h
  rw[getElem?_pos s i h,List.getElem?_eq_getElem (by rw[zF6];exact h)]
  simp [by'];rfl
 rw[getElem?_neg s i h,List.getElem?_eq_none (by rw[zF6];omega)]
def xu (x y:Int):Int:=IntKind.u32.wrap (BitVec.ofInt IntKind.u32.bits x ^^^ BitVec.ofInt IntKind.u32.bits y).toNat
theorem zC5 (x:Int):IntKind.u32.wrap x=x % 4294967296:=by
 unfold IntKind.wrap
 simp [IntKind.bits,IntKind.signed]
theorem zS0 (x y:Int):0≤xu x y∧xu x y < 4294967296:=by unfold xu;rw[zC5];omega
def zDy (s:Int):Int:=if s % 2=1 then xu (s / 2) 3558460437 else s / 2
theorem zRM {s:Int} (h:0≤s∧s < 4294967296):0≤zDy s∧zDy s < 4294967296:=by
 unfold zDy;split
 ·exact zS0 _ _
 omega
def bits:Nat→Int→Int
 | 0,s=>s
 | n+1,s=>zDy (bits n s)
theorem zJ1 {s:Int} (h:0≤s∧s < 4294967296):∀ n,0≤bits n s∧bits n s < 4294967296
 | 0=>h
 | n+1=>zRM (zJ1 h n)
def zJ2 (s:Int) (b:UInt8):Int:=bits 8 (xu s b.toNat)
def zCh (s:Int) (l:List UInt8):Int:=l.foldl zJ2 s
theorem zPB (s:Int) (b:UInt8):0≤zJ2 s b∧zJ2 s b < 4294967296:=zJ1 (zS0 _ _) 8
theorem zHz {s:Int} (h:0≤s∧s < 4294967296) (l:List UInt8):0≤zCh s l∧zCh s l < 4294967296:=by
 unfold zCh
 induction l generalizing s with
 | nil=>exact h
 | cons b r ih=>exact ih (zPB s b)
theorem zPC (s:Int) (t:ByteArray) (k:Nat) (h:k < t.size):zCh s ((by' t).take (k+1))=zJ2 (zCh s ((by' t).take k)) ((t[k]?).getD 0):=by
 unfold zCh
 rw[z7g,List.getElem?_eq_getElem (by rw[zF6];exact h),←List.take_append_getElem (by rw[zF6];exact h),List.foldl_append]
 rfl
def zPD (t:ByteArray):Int:=zCh 4294967295 (by' t)
theorem zKY (t:ByteArray):0≤zPD t∧zPD t < 4294967296:=zHz oO _
theorem zMh (S:Int) (b:UInt8):Value.int .u32 (IntKind.u32.wrap (BitVec.ofInt IntKind.u32.bits S ^^^ BitVec.ofInt IntKind.u32.bits (IntKind.u32.wrap (b.toNat:Nat))).toNat)=Value.int .u32 (bits 0 (xu S b.toNat)):=by
 have:IntKind.u32.wrap (b.toNat:Nat)=(b.toNat:Nat):=by rw[zC5];have:=b.toNat_lt;omega
 rw[this];rfl
theorem zE1 (s:Int) (t:ByteArray) (k:Nat) (h:k < t.size):Value.int .u32 (bits 8 (xu (zCh s ((by' t).take k)) ((t[k]?).getD 0).toNat))=Value.int .u32 (zCh s ((by' t).take (k+1))):=by
 rw[zPC s t k h];rfl
theorem zWT {s:Int} (h:0≤s∧s < 4294967296):IntKind.u32.wrap (BitVec.ofInt IntKind.u32.bits s &&& BitVec.ofInt IntKind.u32.bits 1).toNat=s % 2:=by
 obtain⟨n,rfl⟩:=Int.eq_ofNat_of_zero_le h.1
 have hn:n < 4294967296:=by omega
 rw[zC5]
 show (((BitVec.ofInt 32 (n:Int) &&& BitVec.ofInt 32 1).toNat:Nat):Int) % 4294967296=_
 have e1:BitVec.ofInt 32 (n:Int)=BitVec.ofNat 32 n:=by simp
 have e2:BitVec.ofInt 32 1=BitVec.ofNat 32 1:=by decide
 rw[e1,e2,BitVec.toNat_and,BitVec.toNat_ofNat,BitVec.toNat_ofNat,Nat.mod_eq_of_lt (by omega:n < 2 ^ 32)]
 rw[show 1 % 2 ^ 32=1 from rfl,Nat.and_one_is_mod]
 omega
theorem zAI (j:Nat) (s:Int):bits (j+1) s=zDy (bits j s):=rfl
theorem zHh (s:Int) (t:ByteArray):Value.int .u32 s=Value.int .u32 (zCh s ((by' t).take 0)):=rfl
theorem z3a (B:Int):B.fdiv (2 ^ min (Int.toNat 1) IntKind.u32.bits)=B / 2:=by
 rw[show (2:Int) ^ min (Int.toNat 1) IntKind.u32.bits=2 from by decide,Int.fdiv_eq_ediv_of_nonneg _ oO]
theorem z3b {B:Int} (hB:0≤B∧B < 4294967296):IntKind.u32.wrap (B.tdiv 2)=B / 2:=by
 rw[Int.tdiv_eq_ediv_of_nonneg hB.1,zC5];omega
theorem zMi {B:Int} (h:B % 2=1):Value.int .u32 (IntKind.u32.wrap (BitVec.ofInt IntKind.u32.bits (B.fdiv (2 ^ min (Int.toNat 1) IntKind.u32.bits)) ^^^ BitVec.ofInt IntKind.u32.bits 3558460437).toNat)=Value.int .u32 (zDy B):=by
 rw[z3a];unfold zDy;rw[if_pos h];rfl
theorem zHi {B:Int} (h:¬B % 2=1):Value.int .u32 (B.fdiv (2 ^ min (Int.toNat 1) IntKind.u32.bits))=Value.int .u32 (zDy B):=by
 rw[z3a];unfold zDy;rw[if_neg h]
theorem zMj {B:Int} (hB:0≤B∧B < 4294967296) (h:B % 2=1):Value.int .u32 (IntKind.u32.wrap (BitVec.ofInt IntKind.u32.bits (IntKind.u32.wrap (B.tdiv 2)) ^^^ BitVec.ofInt IntKind.u32.bits 3558460437).toNat)=Value.int .u32 (zDy B):=by
 rw[z3b hB];unfold zDy;rw[if_pos h];rfl
theorem zHj {B:Int} (hB:0≤B∧B < 4294967296) (h:¬B % 2=1):Value.int .u32 (IntKind.u32.wrap (B.tdiv 2))=Value.int .u32 (zDy B):=by
 rw[z3b hB];unfold zDy;rw[if_neg h]
theorem z7h {B:Int} (hB:0≤B∧B < 4294967296):B.tmod 2=B % 2:=Int.tmod_eq_emod_of_nonneg hB.1
attribute [irreducible] xu bits zCh
attribute [local irreducible] IntKind.wrap
theorem zMk (s:Int) (t:ByteArray) (hs:0≤s∧s < 4294967296) (ht:t.size≤9223372036854775807) :
  Ct prog 207 [.int .u32 s,.string t] [] (fun _=>True) (fun v A=>v = .int .u32 (zCh s (by' t))∧A=[]):=by
 refine Ct.intro0 zAh func207 rfl rfl rfl fun E H hp=>?_
 apply zAg (α:=(Nat)) zAh [7,8,9,10,13,14,15,16,17,18,0,19,20,21,22,6,23,24,25,26,27,28,29,11,12,5] (fun z=>[(5,.v (.int .i64 z)),(0,.v (.int .u32 (zCh s ((by' t).take z))))]) (fun z=>[]) (fun z=>[H]) (fun z=>t.size-z) (fun z=>z≤t.size) (0)
 ·repeat' (first|exact trivial|refine⟨⟨_,rfl,by first|exact frE|(refine zAz ?_;simp;done)|exact zMh _ _|exact zHh _ _|(rw[zAI];exact zMi ‹_›)|(rw[zAI];exact zHi ‹_›)|(rw[zAI];exact zMj hB ‹_›)|(rw[zAI];exact zHj hB ‹_›)|exact zE1 s t k oO,frO⟩,?_⟩)
 ·exact trivial
 ·omega
 ·exact .refl _
 rintro k hI
 obtain hk:k≤t.size:=hI
 try dsimp only
 constructor<;>intro q0
 ·simp at q0
  have hS:=zHz hs ((by' t).take k)
  have hX:=zS0 (zCh s ((by' t).take k)) ((t[k]?).getD 0).toNat
  refine VC.intro ?_ ?_
  ·omega
  apply zAg (α:=(Nat)) zAh [20,21,22,6,23,24,0,25,26,27,28,29,19] (fun z=>[(19,.v (.int .i64 z)),(0,.v (.int .u32 (bits z (xu (zCh s ((by' t).take k)) ((t[k]?).getD 0).toNat))))]) (fun z=>[]) (fun z=>[H]) (fun z=>8-z) (fun z=>z≤8) (0)
  ·repeat' (first|exact trivial|refine⟨⟨_,rfl,by first|exact frE|(refine zAz ?_;simp;done)|exact zMh _ _|exact zHh _ _|(rw[zAI];exact zMi ‹_›)|(rw[zAI];exact zHi ‹_›)|(rw[zAI];exact zMj hB ‹_›)|(rw[zAI];exact zHj hB ‹_›)|exact zE1 s t k oO,frO⟩,?_⟩)
  ·exact trivial
  ·trivial
  ·exact .refl _
  rintro j hI
  obtain hj:j≤8:=hI
  try dsimp only
  constructor<;>intro q1
  ·simp at q1
   have hB:=zJ1 hX j
   refine VC.intro ?_ ?_
   ·trivial
   constructor<;>intro q2
   ·rw[zWT hB] at q2
    simp at q2
    apply zAb (j+1)
    ·exact .refl _
    ·repeat' (first|exact trivial|refine⟨⟨_,rfl,by first|exact frE|(refine zAz ?_;simp;done)|exact zMh _ _|exact zHh _ _|(rw[zAI];exact zMi ‹_›)|(rw[zAI];exact zHi ‹_›)|(rw[zAI];exact zMj hB ‹_›)|(rw[zAI];exact zHj hB ‹_›)|exact zE1 s t k oO,frO⟩,?_⟩)
    ·exact trivial
    ·omega
    omega
   rw[zWT hB] at q2
   simp at q2
   apply zAb (j+1)
   ·exact .refl _
   ·repeat' (first|exact trivial|refine⟨⟨_,rfl,by first|exact frE|(refine zAz ?_;simp;done)|exact zMh _ _|exact zHh _ _|(rw[zAI];exact zMi ‹_›)|(rw[zAI];exact zHi ‹_›)|(rw[zAI];exact zMj hB ‹_›)|(rw[zAI];exact zHj hB ‹_›)|exact zE1 s t k oO,frO⟩,?_⟩)
   ·exact trivial
   ·omega
   omega
  simp at q1
  obtain rfl:j=8:=by omega
  apply zAb (k+1)
  ·exact .refl _
  ·repeat' (first|exact trivial|refine⟨⟨_,rfl,by first|exact frE|(refine zAz ?_;simp;done)|exact zMh _ _|exact zHh _ _|(rw[zAI];exact zMi ‹_›)|(rw[zAI];exact zHi ‹_›)|(rw[zAI];exact zMj hB ‹_›)|(rw[zAI];exact zHj hB ‹_›)|exact zE1 s t k oO,frO⟩,?_⟩)
  ·exact trivial
  ·trivial
  omega
 simp at q0
 obtain rfl:k=t.size:=by omega
 have hF:(by' t).take t.size=by' t:=by rw[←zF6,List.take_length]
 exact⟨[],⟨by rw[hF],rfl⟩,.mem sI⟩
theorem zMl (s:Int) (t:ByteArray) (hs:0≤s∧s < 4294967296) (ht:t.size≤9223372036854775807) :
  Ct prog 187 [.int .u32 s,.string t] [] (fun _=>True) (fun v A=>v = .int .u32 (zCh s (by' t))∧A=[]):=by
 refine Ct.intro0 zAh func187 rfl rfl rfl fun E H hp=>?_
 apply zAg (α:=(Nat)) zAh [8,9,10,11,14,15,16,17,18,19,0,6,20,21,24,25,26,7,27,28,29,30,31,22,23,12,13,5] (fun z=>[(5,.v (.int .i64 z)),(0,.v (.int .u32 (zCh s ((by' t).take z))))]) (fun z=>[]) (fun z=>[H]) (fun z=>t.size-z) (fun z=>z≤t.size) (0)
 ·repeat' (first|exact trivial|refine⟨⟨_,rfl,by first|exact frE|(refine zAz ?_;simp;done)|exact zMh _ _|exact zHh _ _|(rw[zAI];exact zMi ‹_›)|(rw[zAI];exact zHi ‹_›)|(rw[zAI];exact zMj hB ‹_›)|(rw[zAI];exact zHj hB ‹_›)|exact zE1 s t k oO,frO⟩,?_⟩)
 ·exact trivial
 ·omega
 ·exact .refl _
 rintro k hI
 obtain hk:k≤t.size:=hI
 try dsimp only
 constructor<;>intro q0
 ·simp at q0
  have hS:=zHz hs ((by' t).take k)
  have hX:=zS0 (zCh s ((by' t).take k)) ((t[k]?).getD 0).toNat
  refine VC.intro ?_ ?_
  ·omega
  apply zAg (α:=(Nat)) zAh [20,21,24,25,26,7,27,28,0,29,30,31,22,23,6] (fun z=>[(6,.v (.int .i64 z)),(0,.v (.int .u32 (bits z (xu (zCh s ((by' t).take k)) ((t[k]?).getD 0).toNat))))]) (fun z=>[]) (fun z=>[H]) (fun z=>8-z) (fun z=>z≤8) (0)
  ·repeat' (first|exact trivial|refine⟨⟨_,rfl,by first|exact frE|(refine zAz ?_;simp;done)|exact zMh _ _|exact zHh _ _|(rw[zAI];exact zMi ‹_›)|(rw[zAI];exact zHi ‹_›)|(rw[zAI];exact zMj hB ‹_›)|(rw[zAI];exact zHj hB ‹_›)|exact zE1 s t k oO,frO⟩,?_⟩)
  ·exact trivial
  ·trivial
  ·exact .refl _
  rintro j hI
  obtain hj:j≤8:=hI
  try dsimp only
  constructor<;>intro q1
  ·simp at q1
   have hB:=zJ1 hX j
   refine VC.intro ?_ ?_
   ·trivial
   refine VC.intro ?_ ?_
   ·trivial
   constructor<;>intro q2
   ·rw[z7h hB] at q2
    simp at q2
    apply zAb (j+1)
    ·exact .refl _
    ·repeat' (first|exact trivial|refine⟨⟨_,rfl,by first|exact frE|(refine zAz ?_;simp;done)|exact zMh _ _|exact zHh _ _|(rw[zAI];exact zMi ‹_›)|(rw[zAI];exact zHi ‹_›)|(rw[zAI];exact zMj hB ‹_›)|(rw[zAI];exact zHj hB ‹_›)|exact zE1 s t k oO,frO⟩,?_⟩)
    ·exact trivial
    ·omega
    omega
   rw[z7h hB] at q2
   simp at q2
   apply zAb (j+1)
   ·exact .refl _
   ·repeat' (first|exact trivial|refine⟨⟨_,rfl,by first|exact frE|(refine zAz ?_;simp;done)|exact zMh _ _|exact zHh _ _|(rw[zAI];exact zMi ‹_›)|(rw[zAI];exact zHi ‹_›)|(rw[zAI];exact zMj hB ‹_›)|(rw[zAI];exact zHj hB ‹_›)|exact zE1 s t k oO,frO⟩,?_⟩)
   ·exact trivial
   ·omega
   omega
  simp at q1
  obtain rfl:j=8:=by omega
  apply zAb (k+1)
  ·exact .refl _
  ·repeat' (first|exact trivial|refine⟨⟨_,rfl,by first|exact frE|(refine zAz ?_;simp;done)|exact zMh _ _|exact zHh _ _|(rw[zAI];exact zMi ‹_›)|(rw[zAI];exact zHi ‹_›)|(rw[zAI];exact zMj hB ‹_›)|(rw[zAI];exact zHj hB ‹_›)|exact zE1 s t k oO,frO⟩,?_⟩)
  ·exact trivial
  ·trivial
  omega
 simp at q0
 obtain rfl:k=t.size:=by omega
 have hF:(by' t).take t.size=by' t:=by rw[←zF6,List.take_length]
 exact⟨[],⟨by rw[hF],rfl⟩,.mem sI⟩
end
section
attribute [local irreducible] IntKind.wrap
theorem zPE (t:ByteArray) (ht:t.size≤9223372036854775807):Ct prog 189 [.string t] [] (fun _=>True) (fun v A=>v = .int .u32 (zPD t)∧A=[]):=by
 refine Ct.intro0 zAh func189 rfl rfl rfl fun E H hp=>?_
 refine zAe (zMk _ _ ?_ ?_) trivial ?_
 ·trivial
 ·trivial
 rintro _ rfl
 exact⟨[],⟨rfl,rfl⟩,.mem sI⟩
theorem zPF (t:ByteArray) (ht:t.size≤9223372036854775807):Ct prog 151 [.string t] [] (fun _=>True) (fun v A=>v = .int .u32 (zPD t)∧A=[]):=by
 refine Ct.intro0 zAh func151 rfl rfl rfl fun E H hp=>?_
 refine zAe (zMl _ _ ?_ ?_) trivial ?_
 ·trivial
 ·trivial
 rintro _ rfl
 exact⟨[],⟨rfl,rfl⟩,.mem sI⟩
def zWU:Nat→Nat→List UInt8
 | 0,n=>[UInt8.ofNat n]
 | f+1,n=>if 127 < n then UInt8.ofNat (128+n % 128)::zWU f (n / 128) else [UInt8.ofNat n]
def z8e (n:Int):List UInt8:=zWU 9 n.toNat
def zEu (n:Int):ByteArray:=tx (z8e n)
theorem zS1:∀ f n,(zWU f n).length≤f+1
 | 0,n=>by simp [zWU]
 | f+1,n=>by
  unfold zWU;split
  ·have:=zS1 f (n / 128);simp only[List.length_cons];omega
  simp
theorem zS2 (f n:Nat) (h:n≤127):zWU f n=[UInt8.ofNat n]:=by
 cases f with
 | zero=>rfl
 | succ f=>unfold zWU;rw[if_neg oO]
theorem zJq (n:Int):(zEu n).size≤10:=by
 rw[←zF6];unfold zEu;rw[z8d];exact zS1 9 _
theorem z7i (q:Nat):UInt8.ofNat (IntKind.i64.wrap (128+(q:Int).tmod 128) % 256).toNat=UInt8.ofNat (128+q % 128):=by
 rw[Int.tmod_eq_emod_of_nonneg oO,zAc oO oO];congr 1;omega
theorem z4v (q:Nat):UInt8.ofNat (IntKind.i64.wrap ((q:Int).tmod 128+128) % 256).toNat=UInt8.ofNat (128+q % 128):=by
 rw[Int.tmod_eq_emod_of_nonneg oO,zAc oO oO];congr 1;omega
theorem z3c (q:Nat) (h:q≤127):UInt8.ofNat ((q:Int) % 256).toNat=UInt8.ofNat q:=by congr 1;omega
theorem z0Z (q:Nat) (h:q≤4611686018427387904):Value.int .i64 (IntKind.i64.wrap ((q:Int).tdiv 128))=Value.int .i64 ((q / 128:Nat):Int):=by
 rw[Int.tdiv_eq_ediv_of_nonneg oO,zAc oO oO];congr 1
theorem z3d (f q:Nat) (h:q < 128 ^ (f+1)) (h1:127 < q):∃ f',f=f'+1:=by
 cases f with
 | zero=>simp at h;omega
 | succ f'=>exact⟨f',rfl⟩
theorem zU7 (n:Int) (h0:0≤n) (h1:n≤4611686018427387904):Ct prog 190 [.int .i64 n] [] (fun _=>True) (fun v A=>v = .string (zEu n)∧A=[]):=by
 refine Ct.intro0 zAh func190 rfl rfl rfl fun E H hp=>?_
 apply zAg (α:=(Nat)×(Nat)×(List UInt8)×(Hp)×(Option Addr)×(Nat)) zAh [4,5,6,7,8,9,10,11,12,3,13,14,0] (fun z=>[(3,.v (.slice z.2.2.2.2.1 z.2.2.1.length z.2.2.2.2.2)),(0,.v (.int .i64 z.2.1))]) (fun z=>[]) (fun z=>[z.2.2.2.1,H]) (fun z=>z.2.1) (fun z=>(gSl 5 gY).ow [.slice z.2.2.2.2.1 z.2.2.1.length z.2.2.2.2.2] z.2.2.1 z.2.2.2.1∧z.2.2.1++zWU z.1 z.2.1=z8e n∧z.2.1 < 128 ^ (z.1+1)∧z.2.2.1.length+z.1≤9∧z.2.1≤4611686018427387904) ((9,n.toNat,[],[],none,0))
 ·repeat' (first|exact trivial|refine⟨⟨_,rfl,by first|exact frE|(refine zAz ?_;simp;done)|(refine zHg ?_;(try dsimp only);omega)|exact z0Z q oO,frO⟩,?_⟩)
 ·exact trivial
 ·try dsimp only
  exact⟨zAm _ _ _,rfl,oO,by simp,oO⟩
 ·exact .refl _
 rintro ⟨f,q,o,A,b,c⟩ hI
 try dsimp only at hI
 obtain⟨oo,hv,hq,hl,hm⟩:=hI
 try dsimp only
 constructor<;>intro q0
 ·simp at q0
  obtain⟨f,rfl⟩:=z3d f q hq oO
  refine VC.intro ?_ ?_
  ·trivial
  refine⟨fun x1=>?_⟩
  refine zAC (g:=gY) (T:=5) zAh A [] [H] ?_ oo (zSU _) (List.mem_of_getElem? (i:=0) rfl) rfl rfl rfl rfl rfl rfl rfl rfl ?_ fun b2 c2 A2 o2=>?_
  ·exact .tl
  ·omega
  refine VC.intro ?_ ?_
  ·trivial
  apply zAb (f,q / 128,_,_,_,_)
  ·exact .refl _
  ·repeat' (first|exact trivial|refine⟨⟨_,rfl,by first|exact frE|(refine zAz ?_;simp;done)|(refine zHg ?_;(try dsimp only);omega)|exact z0Z q oO,frO⟩,?_⟩)
  ·exact trivial
  ·try dsimp only
   exact⟨‹_›,by rw[z7i,←hv];(conv=>rhs;unfold zWU;rw[if_pos oO]);rw[List.append_assoc,List.singleton_append],by rw[Nat.pow_succ] at hq;omega,by simp;omega,oO⟩
  try dsimp only
  omega
 simp at q0
 refine⟨fun x3=>?_⟩
 refine zAC (g:=gY) (T:=5) zAh A [] [H] ?_ oo (zSU _) (List.mem_of_getElem? (i:=0) rfl) rfl rfl rfl rfl rfl rfl rfl rfl ?_ fun b4 c4 A4 o4=>?_
 ·exact .tl
 ·omega
 refine zWA zAh (o++[UInt8.ofNat ((↑q:Int) % (256:Int)).toNat]) rfl (Rp.mono _ (zAa 0 rfl) (Gt.owrd _ o4)) rfl rfl rfl ?_
 exact⟨[],⟨by rw[z3c q oO,←zS2 f q oO,hv];rfl,rfl⟩,.mem sI⟩
theorem zWV (n:Int) (h0:0≤n) (h1:n≤4611686018427387904):Ct prog 152 [.int .i64 n] [] (fun _=>True) (fun v A=>v = .string (zEu n)∧A=[]):=by
 refine Ct.intro0 zAh func152 rfl rfl rfl fun E H hp=>?_
 refine⟨fun x0=>?_⟩
 apply zAg (α:=(Nat)×(Nat)×(List UInt8)×(Hp)×(Option Addr)×(Nat)) zAh [5,6,7,8,9,10,11,12,13,3,14,15,0] (fun z=>[(3,.v (.slice z.2.2.2.2.1 z.2.2.1.length z.2.2.2.2.2)),(0,.v (.int .i64 z.2.1))]) (fun z=>[]) (fun z=>[z.2.2.2.1,H]) (fun z=>z.2.1) (fun z=>(gSl 5 gY).ow [.slice z.2.2.2.2.1 z.2.2.1.length z.2.2.2.2.2] z.2.2.1 z.2.2.2.1∧z.2.2.1++zWU z.1 z.2.1=z8e n∧z.2.1 < 128 ^ (z.1+1)∧z.2.2.1.length+z.1≤9∧z.2.1≤4611686018427387904) ((9,n.toNat,[],[],some ⟨x0,0,none⟩,0))
 ·repeat' (first|exact trivial|refine⟨⟨_,rfl,by first|exact frE|(refine zAz ?_;simp;done)|(refine zHg ?_;(try dsimp only);omega)|exact z0Z q oO,frO⟩,?_⟩)
 ·exact trivial
 ·try dsimp only
  exact⟨zAm _ _ _,rfl,oO,by simp,oO⟩
 ·exact .tl
 rintro ⟨f,q,o,A,b,c⟩ hI
 try dsimp only at hI
 obtain⟨oo,hv,hq,hl,hm⟩:=hI
 try dsimp only
 constructor<;>intro q1
 ·simp at q1
  obtain⟨f,rfl⟩:=z3d f q hq oO
  refine VC.intro ?_ ?_
  ·trivial
  refine⟨fun x2=>?_⟩
  refine zAC (g:=gY) (T:=5) zAh A [] [H] ?_ oo (zSU _) (List.mem_of_getElem? (i:=0) rfl) rfl rfl rfl rfl rfl rfl rfl rfl ?_ fun b3 c3 A3 o3=>?_
  ·exact .tl
  ·omega
  refine VC.intro ?_ ?_
  ·trivial
  apply zAb (f,q / 128,_,_,_,_)
  ·exact .refl _
  ·repeat' (first|exact trivial|refine⟨⟨_,rfl,by first|exact frE|(refine zAz ?_;simp;done)|(refine zHg ?_;(try dsimp only);omega)|exact z0Z q oO,frO⟩,?_⟩)
  ·exact trivial
  ·try dsimp only
   exact⟨‹_›,by rw[z4v,←hv];(conv=>rhs;unfold zWU;rw[if_pos oO]);rw[List.append_assoc,List.singleton_append],by rw[Nat.pow_succ] at hq;omega,by simp;omega,oO⟩
  try dsimp only
  omega
 simp at q1
 refine⟨fun x4=>?_⟩
 refine zAC (g:=gY) (T:=5) zAh A [] [H] ?_ oo (zSU _) (List.mem_of_getElem? (i:=0) rfl) rfl rfl rfl rfl rfl rfl rfl rfl ?_ fun b5 c5 A5 o5=>?_
 ·exact .tl
 ·omega
 refine zWA zAh (o++[UInt8.ofNat ((↑q:Int) % (256:Int)).toNat]) rfl (Rp.mono _ (zAa 0 rfl) (Gt.owrd _ o5)) rfl rfl rfl ?_
 exact⟨[],⟨by rw[z3c q oO,←zS2 f q oO,hv];rfl,rfl⟩,.mem sI⟩
end
section
attribute [local irreducible] IntKind.wrap
def zWW (a b:Int):Int:=if a < b then -1 else if b < a then 1 else 0
def zCi:List Int→List Int→Int
 | [],[]=>0
 | [],_::_=>-1
 | _::_,[]=>1
 | a::r,b::s=>if a < b then -1 else if b < a then 1 else zCi r s
theorem zS3 (a:Int):Ct prog 219 [.int .i64 a] [] (fun _=>True) (fun v A=>v = .bool false∧A=[]):=by
 refine Ct.intro0 zAh func219 rfl rfl rfl fun E H hp=>?_
 exact⟨[],⟨by simp,rfl⟩,.mem sI⟩
theorem zOd (a b:Int):Ct prog 202 [.int .i64 a,.int .i64 b] [] (fun _=>True) (fun v A=>v = .int .i64 (zWW a b)∧A=[]):=by
 refine Ct.intro0 zAh func202 rfl rfl rfl fun E H hp=>?_
 refine zAe (zS3 _) trivial ?_
 rintro _ rfl
 refine zAe (zS3 _) trivial ?_
 rintro _ rfl
 constructor<;>intro q2
 ·simp at q2
 simp at q2
 constructor<;>intro q3
 ·simp at q3
 simp at q3
 constructor<;>intro q4
 ·simp at q4
  exact⟨[],⟨by unfold zWW;rw[if_pos oO],rfl⟩,.mem sI⟩
 simp at q4
 constructor<;>intro q5
 ·simp at q5
  exact⟨[],⟨by unfold zWW;rw[if_neg oO,if_pos oO],rfl⟩,.mem sI⟩
 simp at q5
 exact⟨[],⟨by unfold zWW;rw[if_neg oO,if_neg oO],rfl⟩,.mem sI⟩
theorem zH5 {xs ys:List Int} (k:Nat) (h1:k < xs.length) (h2:k < ys.length) :
  zCi (xs.drop k) (ys.drop k)=if zWW (xs[k]?.getD 0) (ys[k]?.getD 0)=0 then zCi (xs.drop (k+1)) (ys.drop (k+1)) else zWW (xs[k]?.getD 0) (ys[k]?.getD 0):=by
 rw[List.drop_eq_getElem_cons h1,List.drop_eq_getElem_cons h2,List.getElem?_eq_getElem h1,List.getElem?_eq_getElem h2]
 simp only[Option.getD_some,zCi,zWW]
 split
 ·simp
 split
 ·simp
 simp
theorem zEv (b1:Option Addr) (m1 c1:Nat) (b2:Option Addr) (m2 c2:Nat) (xs ys:List Int) :
  Ct prog 178 [.slice b1 m1 c1,.slice b2 m2 c2] [] (fun H=>(gSl 3 gI).rd H [.slice b1 m1 c1] xs∧(gSl 3 gI).rd H [.slice b2 m2 c2] ys) (fun v A=>v = .int .i64 (zCi xs ys)∧A=[]):=by
 refine Ct.intro0 zAh func178 rfl rfl rfl fun E H hp=>?_
 obtain⟨hp1,hp2⟩:=hp
 obtain⟨rfl,hc1,hl1⟩:=zAp hp1
 obtain⟨rfl,hc2,hl2⟩:=zAp hp2
 apply zAg (α:=(Nat)) zAh [12,13,14,15,5,6,16,17,18,19,4,20,21,22,23,7,24,25,26,8,27,28,29,30,11] (fun z=>[(11,.v (.int .i64 z))]) (fun z=>[]) (fun z=>[H]) (fun z=>xs.length-z) (fun z=>z≤xs.length∧z≤ys.length∧zCi xs ys=zCi (xs.drop z) (ys.drop z)) (0)
 ·exact frI
 ·exact trivial
 ·exact⟨oO,oO,by simp⟩
 ·exact .refl _
 rintro k hI
 try dsimp only at hI
 obtain⟨hk,hk2,he⟩:=hI
 try dsimp only
 constructor<;>intro q0
 ·simp at q0
  refine zAf hp1 ?_ ?_ fun b1 o1 hb1=>?_
  ·omega
  ·omega
  refine zAd 0 (k) rfl hp1 ?_ ?_ hb1 rfl (zAa 0 rfl) fun l2 hl2=>?_
  ·omega
  ·omega
  obtain⟨rfl,hw2⟩:=hl2;simp only[zAx,zAs,okI] at hw2
  constructor<;>intro q3
  ·simp at q3
   exact⟨[],⟨by rw[he,List.drop_eq_getElem_cons (by omega:k < xs.length),List.drop_eq_nil_of_le (by omega:ys.length≤k)];rfl,rfl⟩,.mem sI⟩
  simp at q3
  refine zAf hp2 ?_ ?_ fun b4 o4 hb4=>?_
  ·omega
  ·omega
  refine zAd 0 (k) rfl hp2 ?_ ?_ hb4 rfl (zAa 0 rfl) fun l5 hl5=>?_
  ·omega
  ·omega
  obtain⟨rfl,hw5⟩:=hl5;simp only[zAx,zAs,okI] at hw5
  refine zAe (zOd _ _) trivial ?_
  rintro _ rfl
  constructor<;>intro q7
  ·simp at q7
   exact⟨[],⟨by rw[he,zH5 k oO oO,if_neg aA],rfl⟩,.mem sI⟩
  simp at q7
  apply zAb (k+1)
  ·exact .refl _
  ·exact frI
  ·exact trivial
  ·exact⟨oO,oO,by rw[he,zH5 k oO oO,if_pos aA]⟩
  omega
 simp at q0
 constructor<;>intro q8
 ·simp at q8
  exact⟨[],⟨by rw[he,List.drop_eq_getElem_cons (by omega:k < ys.length),List.drop_eq_nil_of_le (by omega:xs.length≤k)];rfl,rfl⟩,.mem sI⟩
 simp at q8
 exact⟨[],⟨by rw[he,List.drop_eq_nil_of_le (by omega:ys.length≤k),List.drop_eq_nil_of_le (by omega:xs.length≤k)];rfl,rfl⟩,.mem sI⟩
def zBb (b:UInt8):Bool:=decide (97≤(b.toNat:Int)) && decide ((b.toNat:Int)≤100)
theorem zIS (b:UInt8):Ct prog 128 [.int .u8 b.toNat] [] (fun _=>True) (fun v A=>v = .bool (zBb b)∧A=[]):=by
 refine Ct.intro0 zAh func128 rfl rfl rfl fun E H hp=>?_
 constructor<;>intro q0
 ·simp at q0
  exact⟨[],⟨by unfold zBb;first|rw[decide_eq_true (by omega:(97:Int)≤b.toNat),Bool.true_and]|rw[decide_eq_false (by omega:¬(97:Int)≤b.toNat),Bool.false_and],rfl⟩,.mem sI⟩
 simp at q0
 exact⟨[],⟨by unfold zBb;first|rw[decide_eq_true (by omega:(97:Int)≤b.toNat),Bool.true_and]|rw[decide_eq_false (by omega:¬(97:Int)≤b.toNat),Bool.false_and],rfl⟩,.mem sI⟩
end
section
attribute [local irreducible] IntKind.wrap
def zCd (p:Nat→Bool):Nat→Bool
 | 0=>true
 | k+1=>zCd p k && p k
theorem zDz {p:Nat→Bool} {k:Nat} (h:p k=false):∀ n,k < n→zCd p n=false
 | 0,h1=>by omega
 | n+1,h1=>by
  unfold zCd
  rcases Nat.lt_or_ge k n with h2|h2
  ·rw[zDz h n h2];rfl
  rw[show n=k from oO,h];simp
theorem zAG {p:Nat→Bool} {k:Nat} (h:zCd p k=true) (h1:p k=true):zCd p (k+1)=true:=by unfold zCd;rw[h,h1];rfl
theorem zBe {p:Nat→Bool}:∀ {n:Nat},zCd p n=true→∀ k,k < n→p k=true
 | 0,_,k,hk=>by omega
 | n+1,h,k,hk=>by
  unfold zCd at h
  rw[Bool.and_eq_true] at h
  rcases Nat.lt_or_ge k n with h1|h1
  ·exact zBe h.1 k h1
  rw[show k=n from oO];exact h.2
theorem zPG {a b:Int}:zWW a b=0↔a=b:=by
 unfold zWW;split
 ·omega
 split<;>omega
theorem z00 {a b:Int}:zWW a b < 0↔a < b:=by
 unfold zWW;split
 ·omega
 split<;>omega
theorem zS4 {xs ys:List Int} {k:Nat} (h:xs.length≤k∨ys.length≤k) (h1:k≤xs.length) (h2:k≤ys.length):decide (zCi (xs.drop k) (ys.drop k) < 0)=decide (xs.length < ys.length):=by
 rcases Nat.lt_or_ge k xs.length with h3|h3
 ·rw[List.drop_eq_nil_of_le (by omega:ys.length≤k),List.drop_eq_getElem_cons h3,decide_eq_decide]
  simp only[zCi];omega
 rw[List.drop_eq_nil_of_le h3]
 rcases Nat.lt_or_ge k ys.length with h4|h4
 ·rw[List.drop_eq_getElem_cons h4,decide_eq_decide];simp only[zCi];omega
 rw[List.drop_eq_nil_of_le h4,decide_eq_decide];simp only[zCi];omega
theorem z4w {xs ys:List Int} {k:Nat} (h1:k < xs.length) (h2:k < ys.length) (h:¬(xs[k]?.getD 0)=(ys[k]?.getD 0)):decide (zCi (xs.drop k) (ys.drop k) < 0)=decide ((xs[k]?.getD 0) < (ys[k]?.getD 0)):=by
 rw[zH5 k h1 h2,if_neg (by rw[zPG];exact h),decide_eq_decide];exact z00
theorem z4x {xs ys:List Int} {k:Nat} (h1:k < xs.length) (h2:k < ys.length) (h:(xs[k]?.getD 0)=(ys[k]?.getD 0)):zCi (xs.drop k) (ys.drop k)=zCi (xs.drop (k+1)) (ys.drop (k+1)):=by
 rw[zH5 k h1 h2,if_pos (by rw[zPG];exact h)]
def zCE (a b:List Int):Bool:=decide (zCi a b < 0)
def zDo (r:List Int):Bool:=decide (r.length≤4) && zCd (fun i=>inR 0 99 (r[i]?.getD 0)) r.length
def zEg (b:Bag) (i:Nat):List Int:=(b.items[i]?.getD default).row
def zEK (b:Bag) (i:Nat):Bool:=
 zDo (zEg b i) && (inR 1 1000000 (b.items[i]?.getD default).times && (decide ((zEg b i).length=(zEg b 0).length) && (decide (i=0) || zCE (zEg b (i-1)) (zEg b i))))
def zJO (b:Bag):Bool:=decide (b.items.length≤300) && zCd (zEK b) b.items.length
theorem zRN {r:List Int} {k:Nat} (h1:k < r.length) (h:¬(0≤(r[k]?.getD 0)∧(r[k]?.getD 0)≤99)):zDo r=false:=by
 unfold zDo;rw[zDz (p:=fun i=>inR 0 99 (r[i]?.getD 0)) (k:=k) (by rw[←Bool.not_eq_true,zAq];exact h) _ h1];simp
theorem zWX {r:List Int} (h:¬r.length≤4):zDo r=false:=by unfold zDo;rw[decide_eq_false h];rfl
theorem zS5 {r:List Int} (h:r.length≤4) (h2:zCd (fun i=>inR 0 99 (r[i]?.getD 0)) r.length=true):zDo r=true:=by unfold zDo;rw[h2,decide_eq_true h];rfl
theorem zF7 {b:Bag} {k:Nat} (h1:k < b.items.length) (h:zEK b k=false):zJO b=false:=by unfold zJO;rw[zDz h _ h1];simp
theorem zWY {b:Bag} (h:¬b.items.length≤300):zJO b=false:=by unfold zJO;rw[decide_eq_false h];rfl
theorem zS6 {b:Bag} (h:b.items.length≤300) (h2:zCd (zEK b) b.items.length=true):zJO b=true:=by unfold zJO;rw[h2,decide_eq_true h];rfl
theorem zKZ {b:Bag} {i:Nat} (h:zEK b i=true):(zEg b i).length=(zEg b 0).length:=by
 unfold zEK at h;simp only[Bool.and_eq_true,decide_eq_true_iff] at h;exact h.2.2.1
theorem zS7 {b:Bag} {i:Nat} (h:zDo (zEg b i)=false):zEK b i=false:=by unfold zEK;rw[h];rfl
theorem zS8 {b:Bag} {i:Nat} (h:¬(1≤(b.items[i]?.getD default).times∧(b.items[i]?.getD default).times≤1000000)):zEK b i=false:=by
 unfold zEK;rw[show inR 1 1000000 (b.items[i]?.getD default).times=false by rw[←Bool.not_eq_true,zAq];exact h];simp
theorem zS9 {b:Bag} {i:Nat} (h:¬(zEg b i).length=(zEg b 0).length):zEK b i=false:=by unfold zEK;rw[decide_eq_false h];simp
theorem zTa {b:Bag} {i:Nat} (h0:¬i=0) (h:zCE (zEg b (i-1)) (zEg b i)=false):zEK b i=false:=by unfold zEK;rw[h,decide_eq_false h0];simp
theorem zH6 {b:Bag} {i:Nat} (h1:zDo (zEg b i)=true) (h2:1≤(b.items[i]?.getD default).times∧(b.items[i]?.getD default).times≤1000000) (h3:(zEg b i).length=(zEg b 0).length) (h4:i=0∨zCE (zEg b (i-1)) (zEg b i)=true):zEK b i=true:=by
 unfold zEK;rw[h1,decide_eq_true h3,show inR 1 1000000 (b.items[i]?.getD default).times=true from zAq.2 h2]
 rcases h4 with h4|h4
 ·rw[decide_eq_true h4];rfl
 rw[h4];simp
theorem zMm (b1:Option Addr) (m1 c1:Nat) (b2:Option Addr) (m2 c2:Nat) (xs ys:List Int) :
  Ct prog 209 [.slice b1 m1 c1,.slice b2 m2 c2] [] (fun H=>(gSl 3 gI).rd H [.slice b1 m1 c1] xs∧(gSl 3 gI).rd H [.slice b2 m2 c2] ys) (fun v A=>v = .bool (zCE xs ys)∧A=[]):=by
 refine Ct.intro0 zAh func209 rfl rfl rfl fun E H hp=>?_
 obtain⟨hp1,hp2⟩:=hp
 obtain⟨rfl,hc1,hl1⟩:=zAp hp1
 obtain⟨rfl,hc2,hl2⟩:=zAp hp2
 refine zAe (zEv _ _ _ _ _ _ (xs) (ys)) ⟨(Rp.mono _ (zAa 0 rfl) hp1),(Rp.mono _ (zAa 0 rfl) hp2)⟩ ?_
 rintro _ rfl
 exact⟨[],⟨rfl,rfl⟩,.mem sI⟩
theorem zHk (b1:Option Addr) (m1 c1:Nat) (b2:Option Addr) (m2 c2:Nat) (xs ys:List Int) :
  Ct prog 101 [.slice b1 m1 c1,.slice b2 m2 c2] [] (fun H=>(gSl 3 gI).rd H [.slice b1 m1 c1] xs∧(gSl 3 gI).rd H [.slice b2 m2 c2] ys) (fun v A=>v = .bool (zCE xs ys)∧A=[]):=by
 refine Ct.intro0 zAh func101 rfl rfl rfl fun E H hp=>?_
 obtain⟨hp1,hp2⟩:=hp
 obtain⟨rfl,hc1,hl1⟩:=zAp hp1
 obtain⟨rfl,hc2,hl2⟩:=zAp hp2
 apply zAg (α:=(Nat)) zAh [6,7,8,9,10,11,12,13,14,15,18,19,20,21,22,23,24,25,26,27,28,29,30,31,32,33,34,35,4,16,17,5] (fun z=>[(5,.v (.int .i64 z))]) (fun z=>[]) (fun z=>[H]) (fun z=>xs.length-z) (fun z=>z≤xs.length∧z≤ys.length∧zCi xs ys=zCi (xs.drop z) (ys.drop z)) (0)
 ·exact frI
 ·exact trivial
 ·exact⟨oO,oO,by simp⟩
 ·exact .refl _
 rintro k hI
 try dsimp only at hI
 obtain⟨hk,hk2,he⟩:=hI
 try dsimp only
 constructor<;>intro q0
 ·simp at q0
  constructor<;>intro q1
  ·simp at q1
   refine zBr zAh zAK none (.q 0 (.q 1 (.q 2 (.q 3 (.q 4 (.q 5 (.q 6 (.q 7 (.q 8 (.nil)))))))))) (by decide +kernel) ?_
   refine zAf hp1 ?_ ?_ fun b2 o2 hb2=>?_
   ·omega
   ·omega
   refine zAd 0 (k) rfl hp1 ?_ ?_ hb2 rfl (zAa 0 rfl) fun l3 hl3=>?_
   ·omega
   ·omega
   obtain⟨rfl,hw3⟩:=hl3;simp only[zAx,zAs,okI] at hw3
   refine zAf hp2 ?_ ?_ fun b4 o4 hb4=>?_
   ·omega
   ·omega
   refine zAd 0 (k) rfl hp2 ?_ ?_ hb4 rfl (zAa 0 rfl) fun l5 hl5=>?_
   ·omega
   ·omega
   obtain⟨rfl,hw5⟩:=hl5;simp only[zAx,zAs,okI] at hw5
   constructor<;>intro q6
   ·simp at q6
    refine zBr zAh zAK none (.q 0 (.q 1 (.q 2 (.q 3 (.q 4 (.q 5 (.q 6 (.q 7 (.q 8 (.q 9 (.nil))))))))))) (by decide +kernel) ?_
    refine zAf hp1 ?_ ?_ fun b7 o7 hb7=>?_
    ·omega
    ·omega
    refine zAd 0 (k) rfl hp1 ?_ ?_ hb7 rfl (zAa 0 rfl) fun l8 hl8=>?_
    ·omega
    ·omega
    obtain⟨rfl,hw8⟩:=hl8;simp only[zAx,zAs,okI] at hw8
    refine zAf hp2 ?_ ?_ fun b9 o9 hb9=>?_
    ·omega
    ·omega
    refine zAd 0 (k) rfl hp2 ?_ ?_ hb9 rfl (zAa 0 rfl) fun l10 hl10=>?_
    ·omega
    ·omega
    obtain⟨rfl,hw10⟩:=hl10;simp only[zAx,zAs,okI] at hw10
    exact⟨[],⟨by unfold zCE;rw[he,z4w oO oO ‹¬_=_›],rfl⟩,.mem sI⟩
   simp at q6
   apply zAb (k+1)
   ·exact .refl _
   ·exact frI
   ·exact trivial
   ·exact⟨oO,oO,by rw[he,z4x oO oO ‹_=_›]⟩
   omega
  simp at q1
  exact⟨[],⟨by unfold zCE;rw[he,zS4 oO oO oO];congr 1;rw[decide_eq_decide];omega,rfl⟩,.mem sI⟩
 simp at q0
 exact⟨[],⟨by unfold zCE;rw[he,zS4 oO oO oO];congr 1;rw[decide_eq_decide];omega,rfl⟩,.mem sI⟩
theorem zF8 (b:Option Addr) (m c:Nat) (r:List Int) :
  Ct prog 138 [.slice b m c] [] (fun H=>(gSl 3 gI).rd H [.slice b m c] r) (fun v A=>v = .bool (zDo r)∧A=[]):=by
 refine Ct.intro0 zAh func138 rfl rfl rfl fun E H hp=>?_
 obtain⟨rfl,hc1,hl1⟩:=zAp hp
 constructor<;>intro q0
 ·simp at q0
  exact⟨[],⟨by rw[zWX oO],rfl⟩,.mem sI⟩
 simp at q0
 apply zAg (α:=(Nat)) zAh [11,12,13,4,14,15,16,17,18,19,2,20,10] (fun z=>[(10,.v (.int .i64 z))]) (fun z=>[]) (fun z=>[H]) (fun z=>r.length-z) (fun z=>z≤r.length∧zCd (fun i=>inR 0 99 (r[i]?.getD 0)) z=true) (0)
 ·exact frI
 ·exact trivial
 ·exact⟨oO,rfl⟩
 ·exact .refl _
 rintro k hI
 try dsimp only at hI
 obtain⟨hk,ha⟩:=hI
 try dsimp only
 constructor<;>intro q1
 ·simp at q1
  refine zAf hp ?_ ?_ fun b2 o2 hb2=>?_
  ·omega
  ·omega
  refine zAd 0 (k) rfl hp ?_ ?_ hb2 rfl (zAa 0 rfl) fun l3 hl3=>?_
  ·omega
  ·omega
  obtain⟨rfl,hw3⟩:=hl3;simp only[zAx,zAs,okI] at hw3
  constructor<;>intro q4
  ·simp at q4
   exact⟨[],⟨by rw[zRN (k:=k) oO oO],rfl⟩,.mem sI⟩
  simp at q4
  constructor<;>intro q5
  ·simp at q5
   exact⟨[],⟨by rw[zRN (k:=k) oO oO],rfl⟩,.mem sI⟩
  simp at q5
  apply zAb (k+1)
  ·exact .refl _
  ·exact frI
  ·exact trivial
  ·exact⟨oO,zAG ha (zAq.2 oO)⟩
  omega
 simp at q1
 (have hke:k=r.length:=oO;subst hke;exact⟨[],⟨by rw[zS5 oO ha],rfl⟩,.mem sI⟩)
theorem zWZ (b:Option Addr) (m c:Nat) (r:List Int) :
  Ct prog 109 [.slice b m c] [] (fun H=>(gSl 3 gI).rd H [.slice b m c] r) (fun v A=>v = .bool (zDo r)∧A=[]):=by
 refine Ct.intro0 zAh func109 rfl rfl rfl fun E H hp=>?_
 obtain⟨rfl,hc1,hl1⟩:=zAp hp
 apply zAg (α:=(Nat)) zAh [4,5,6,7,10,11,12,13,14,15,2,8,9,3] (fun z=>[(3,.v (.int .i64 z))]) (fun z=>[]) (fun z=>[H]) (fun z=>r.length-z) (fun z=>z≤r.length∧zCd (fun i=>inR 0 99 (r[i]?.getD 0)) z=true) (0)
 ·exact frI
 ·exact trivial
 ·exact⟨oO,rfl⟩
 ·exact .refl _
 rintro k hI
 try dsimp only at hI
 obtain⟨hk,ha⟩:=hI
 try dsimp only
 constructor<;>intro q0
 ·simp at q0
  refine zAf hp ?_ ?_ fun b1 o1 hb1=>?_
  ·omega
  ·omega
  refine zAd 0 (k) rfl hp ?_ ?_ hb1 rfl (zAa 0 rfl) fun l2 hl2=>?_
  ·omega
  ·omega
  obtain⟨rfl,hw2⟩:=hl2;simp only[zAx,zAs,okI] at hw2
  refine zAe (zA3 _ _ _) trivial ?_
  rintro _ rfl
  constructor<;>intro q4
  ·simp at q4
   have iq4:=mt zAq.2 (Bool.eq_false_iff.1 q4)
   exact⟨[],⟨by rw[zRN (k:=k) oO oO],rfl⟩,.mem sI⟩
  simp at q4
  have iq4:=zAq.1 q4
  apply zAb (k+1)
  ·exact .refl _
  ·exact frI
  ·exact trivial
  ·exact⟨oO,zAG ha (zAq.2 oO)⟩
  omega
 simp at q0
 (have hke:k=r.length:=oO;subst hke;exact⟨[],⟨by unfold zDo;rw[ha,Bool.and_true];congr 1;rw[decide_eq_decide];omega,rfl⟩,.mem sI⟩)
theorem zU8 (a:Int):Ct prog 208 [.int .i64 a] [] (fun _=>True) (fun v A=>v = .bool (inR 1 1000000 a)∧A=[]):=by
 refine Ct.intro0 zAh func208 rfl rfl rfl fun E H hp=>?_
 constructor<;>intro q0
 ·simp at q0
  exact⟨[],⟨by unfold inR;rw[decide_eq_true (by omega:(1:Int)≤a),Bool.true_and],rfl⟩,.mem sI⟩
 simp at q0
 exact⟨[],⟨by unfold inR;rw[decide_eq_false (by omega:¬(1:Int)≤a),Bool.false_and],rfl⟩,.mem sI⟩
theorem zPH (l:List Value) (x:Bag):Ct prog 191 [.agg ⟨l⟩] [] (fun H=>zDj.rd H l x) (fun v A=>v = .bool (zJO x)∧A=[]):=by
 refine Ct.intro0 zAh func191 rfl rfl rfl fun E H hp=>?_
 obtain⟨b0p,c0p,rfl,h0p⟩:=zAD.1 hp
 have hl:=(zBo h0p).2
 refine⟨fun x0=>?_⟩
 constructor<;>intro q1
 ·simp at q1
  exact⟨[],⟨by rw[zWY oO],rfl⟩,.mem sI⟩
 simp at q1
 apply zAg (α:=(Nat)) zAh [13,14,15,16,4,3,17,18,19,20,21,22,23,24,25,26,27,28,29,30,31,32,33,34,35,36,37,38,2,39,40,41,42,43,44,45,46,47,48,49,50,51,52,53,54,12] (fun z=>[(12,.v (.int .i64 z))]) (fun z=>[{ id:=x0,cs:=[Value.slice b0p x.items.length c0p],ty:=(47:Nat) }]) (fun z=>[H]) (fun z=>x.items.length-z) (fun z=>z≤x.items.length∧zCd (zEK x) z=true) (0)
 ·exact frI
 ·exact⟨rfl,trivial⟩
 ·exact⟨oO,rfl⟩
 ·exact .refl _
 rintro k hI
 obtain⟨hk,ha⟩:k≤x.items.length∧zCd (zEK x) k=true:=hI
 try dsimp only
 constructor<;>intro q2
 ·simp at q2
  refine zAf h0p ?_ ?_ fun b3 o3 hb3=>?_
  ·omega
  ·omega
  refine zAd default (k) rfl h0p ?_ ?_ hb3 rfl (zAa 0 rfl) fun l4 hl4=>?_
  ·omega
  ·omega
  obtain⟨b0x4,c0x4,rfl,h0x4,w1x4⟩:=zAB.1 hl4
  refine⟨fun x5=>?_⟩
  refine zBr zAh zAK none (.q 0 (.q 1 (.f 2 (.q 3 (.q 4 (.q 5 (.q 6 (.f 7 (.q 8 (.q 9 (.q 10 (.q 11 (.q 12 (.q 13 (.q 14 (.q 15 (.q 16 (.q 17 (.q 18 (.q 19 (.q 20 (.q 21 (.nil))))))))))))))))))))))) (by decide +kernel) ?_
  refine zAe (zF8 _ _ _ ((x.items[k]?.getD default).row)) (Rp.mono _ (zAa 0 rfl) h0x4) ?_
  rintro _ rfl
  refine VC.intro ?_ ?_
  ·exact fun _ h=>h
  constructor<;>intro q7
  ·simp at q7
   exact⟨[],⟨by rw[zF7 (k:=k) oO (zS7 aA)],rfl⟩,.mem sI⟩
  simp at q7
  refine zAe (zU8 _) trivial ?_
  rintro _ rfl
  refine VC.intro ?_ ?_
  ·exact fun _ h=>h
  constructor<;>intro q9
  ·simp at q9
   exact⟨[],⟨by rw[zF7 (k:=k) oO (zS8 (mt zAq.2 (by simp_all)))],rfl⟩,.mem sI⟩
  simp at q9
  have iq9:=zAq.1 q9
  refine zAf h0p ?_ ?_ fun b10 o10 hb10=>?_
  ·trivial
  ·omega
  refine zAw default (0) 0 rfl h0p ?_ ?_ hb10 rfl (by decide) (zAa 0 rfl) fun l11 hl11=>?_
  ·trivial
  ·omega
  obtain⟨b0x11,c0x11,rfl,h0x11,w1x11⟩:=zAB.1 hl11
  constructor<;>intro q12
  ·simp at q12
   exact⟨[],⟨by rw[zF7 (k:=k) oO (zS9 (by unfold zEg;omega))],rfl⟩,.mem sI⟩
  simp at q12
  refine zBr zAh zAK none (.q 0 (.q 1 (.q 2 (.q 3 (.q 4 (.q 5 (.q 6 (.q 7 (.q 8 (.q 9 (.q 10 (.q 11 (.f 12 (.q 13 (.q 14 (.nil)))))))))))))))) (by decide +kernel) ?_
  constructor<;>intro q13
  ·simp at q13
   refine zAf h0p ?_ ?_ fun b14 o14 hb14=>?_
   ·(simp (disch:=omega) only[zAc];omega)
   ·(simp (disch:=omega) only[zAc];omega)
   refine zF3 default 0 h0p ?_ ?_ hb14 rfl (by decide) (zAa 0 rfl) fun l15 hl15=>?_
   ·(simp (disch:=omega) only[zAc];omega)
   ·(simp (disch:=omega) only[zAc];omega)
   rw[show (IntKind.i64.wrap ((k:Int)-1)).toNat=k-1 by (simp (disch:=omega) only[zAc];omega)] at hl15
   obtain⟨b0x15,c0x15,rfl,h0x15,w1x15⟩:=zAB.1 hl15
   refine zAe (zMm _ _ _ _ _ _ ((x.items[k-(1:Nat)]?.getD default).row) ((x.items[k]?.getD default).row)) ⟨(Rp.mono _ (zAa 0 rfl) h0x15),(Rp.mono _ (zAa 0 rfl) h0x4)⟩ ?_
   rintro _ rfl
   refine VC.intro ?_ ?_
   ·exact fun _ h=>h
   constructor<;>intro q17
   ·simp at q17
    exact⟨[],⟨by rw[zF7 (k:=k) oO (zTa oO aA)],rfl⟩,.mem sI⟩
   simp at q17
   apply zAb (k+1)
   ·exact .refl _
   ·exact frI
   ·exact⟨rfl,trivial⟩
   ·exact⟨oO,zAG ha (zH6 aA oO (by first|assumption|(unfold zEg;omega)) (by first|exact .inl oO|exact .inr aA))⟩
   omega
  simp at q13
  apply zAb (k+1)
  ·exact .refl _
  ·exact frI
  ·exact⟨rfl,trivial⟩
  ·exact⟨oO,zAG ha (zH6 aA oO (by first|assumption|(unfold zEg;omega)) (by first|exact .inl oO|exact .inr aA))⟩
  omega
 simp at q2
 (have hke:k=x.items.length:=oO;subst hke;exact⟨[],⟨by rw[zS6 oO ha],rfl⟩,.mem sI⟩)
theorem zJr (l:List Value) (x:Bag):Ct prog 63 [.agg ⟨l⟩] [] (fun H=>zDj.rd H l x) (fun v A=>v = .bool (zJO x)∧A=[]):=by
 refine Ct.intro0 zAh func63 rfl rfl rfl fun E H hp=>?_
 obtain⟨b0p,c0p,rfl,h0p⟩:=zAD.1 hp
 have hl:=(zBo h0p).2
 refine⟨fun x0=>?_⟩
 apply zAg (α:=(Nat)) zAh [5,6,7,8,9,12,13,14,15,16,4,17,18,19,20,21,22,23,24,25,26,27,28,29,30,31,32,33,34,35,36,37,38,39,40,41,42,43,44,45,46,47,48,49,50,51,52,53,54,55,56,57,2,10,11,3] (fun z=>[(3,.v (.int .i64 z))]) (fun z=>[{ id:=x0,cs:=[Value.slice b0p x.items.length c0p],ty:=(47:Nat) }]) (fun z=>[H]) (fun z=>x.items.length-z) (fun z=>z≤x.items.length∧zCd (zEK x) z=true) (0)
 ·exact frI
 ·exact⟨rfl,trivial⟩
 ·exact⟨oO,rfl⟩
 ·exact .refl _
 rintro k hI
 obtain⟨hk,ha⟩:k≤x.items.length∧zCd (zEK x) k=true:=hI
 try dsimp only
 constructor<;>intro q1
 ·simp at q1
  refine zAf h0p ?_ ?_ fun b2 o2 hb2=>?_
  ·omega
  ·omega
  refine zAd default (k) rfl h0p ?_ ?_ hb2 rfl (zAa 0 rfl) fun l3 hl3=>?_
  ·omega
  ·omega
  obtain⟨b0x3,c0x3,rfl,h0x3,w1x3⟩:=zAB.1 hl3
  refine⟨fun x4=>?_⟩
  refine zBr zAh zAK none (.q 0 (.q 1 (.f 2 (.q 3 (.q 4 (.q 5 (.q 6 (.f 7 (.q 8 (.q 9 (.q 10 (.q 11 (.q 12 (.q 13 (.q 14 (.q 15 (.q 16 (.q 17 (.q 18 (.q 19 (.q 20 (.q 21 (.q 22 (.f 23 (.q 24 (.q 25 (.q 26 (.q 27 (.q 28 (.q 29 (.q 30 (.q 31 (.q 32 (.q 33 (.q 34 (.q 35 (.q 36 (.q 37 (.q 38 (.q 39 (.q 40 (.nil)))))))))))))))))))))))))))))))))))))))))) (by decide +kernel) ?_
  refine zAe (zWZ _ _ _ ((x.items[k]?.getD default).row)) (Rp.mono _ (zAa 0 rfl) h0x3) ?_
  rintro _ rfl
  refine VC.intro ?_ ?_
  ·exact fun _ h=>h
  constructor<;>intro q6
  ·simp at q6
   exact⟨[],⟨by rw[zF7 (k:=k) oO (zS7 aA)],rfl⟩,.mem sI⟩
  simp at q6
  refine zAe (zA3 _ _ _) trivial ?_
  rintro _ rfl
  refine VC.intro ?_ ?_
  ·exact fun _ h=>h
  constructor<;>intro q8
  ·simp at q8
   exact⟨[],⟨by rw[zF7 (k:=k) oO (zS8 (mt zAq.2 (by simp_all)))],rfl⟩,.mem sI⟩
  simp at q8
  have iq8:=zAq.1 q8
  constructor<;>intro q9
  ·simp at q9
   refine zAf h0p ?_ ?_ fun b10 o10 hb10=>?_
   ·(simp (disch:=omega) only[zAc];omega)
   ·(simp (disch:=omega) only[zAc];omega)
   refine zF3 default 0 h0p ?_ ?_ hb10 rfl (by decide) (zAa 0 rfl) fun l11 hl11=>?_
   ·(simp (disch:=omega) only[zAc];omega)
   ·(simp (disch:=omega) only[zAc];omega)
   rw[show (IntKind.i64.wrap ((k:Int)-1)).toNat=k-1 by (simp (disch:=omega) only[zAc];omega)] at hl11
   obtain⟨b0x11,c0x11,rfl,h0x11,w1x11⟩:=zAB.1 hl11
   refine zAe (zHk _ _ _ _ _ _ ((x.items[k-(1:Nat)]?.getD default).row) ((x.items[k]?.getD default).row)) ⟨(Rp.mono _ (zAa 0 rfl) h0x11),(Rp.mono _ (zAa 0 rfl) h0x3)⟩ ?_
   rintro _ rfl
   refine VC.intro ?_ ?_
   ·exact fun _ h=>h
   constructor<;>intro q13
   ·simp at q13
    exact⟨[],⟨by rw[zF7 (k:=k) oO (zTa oO aA)],rfl⟩,.mem sI⟩
   simp at q13
   refine zAf h0p ?_ ?_ fun b14 o14 hb14=>?_
   ·(simp (disch:=omega) only[zAc];omega)
   ·(simp (disch:=omega) only[zAc];omega)
   refine zF3 default 0 h0p ?_ ?_ hb14 rfl (by decide) (zAa 0 rfl) fun l15 hl15=>?_
   ·(simp (disch:=omega) only[zAc];omega)
   ·(simp (disch:=omega) only[zAc];omega)
   rw[show (IntKind.i64.wrap ((k:Int)-1)).toNat=k-1 by (simp (disch:=omega) only[zAc];omega)] at hl15
   obtain⟨b0x15,c0x15,rfl,h0x15,w1x15⟩:=zAB.1 hl15
   constructor<;>intro q16
   ·simp at q16
    (have e0:=zKZ (zBe ha (k-1) oO);unfold zEg at e0;exact⟨[],⟨by rw[zF7 (k:=k) oO (zS9 (by unfold zEg;omega))],rfl⟩,.mem sI⟩)
   simp at q16
   apply zAb (k+1)
   ·exact .refl _
   ·exact frI
   ·exact⟨rfl,trivial⟩
   ·exact⟨oO,zAG ha (zH6 aA oO (by first|(have e0:=zKZ (zBe ha (k-1) oO);unfold zEg at e0 ⊢;omega)|(subst ‹k=0›;rfl)) (by first|exact .inl oO|exact .inr aA))⟩
   omega
  simp at q9
  apply zAb (k+1)
  ·exact .refl _
  ·exact frI
  ·exact⟨rfl,trivial⟩
  ·exact⟨oO,zAG ha (zH6 aA oO (by first|(have e0:=zKZ (zBe ha (k-1) oO);unfold zEg at e0 ⊢;omega)|(subst ‹k=0›;rfl)) (by first|exact .inl oO|exact .inr aA))⟩
  omega
 simp at q1
 (have hke:k=x.items.length:=oO;subst hke;exact⟨[],⟨by unfold zJO;rw[ha,Bool.and_true];congr 1;rw[decide_eq_decide];omega,rfl⟩,.mem sI⟩)
end
section
attribute [local irreducible] IntKind.wrap
def zBI (l:List ByteArray) (s:ByteArray):Bool:=!zCd (fun i=>!decide ((l[i]?.getD ByteArray.empty).toList=s.toList)) l.length
theorem zOe {l:List ByteArray} {s:ByteArray} {k:Nat} (hk:k < l.length) (h:(l[k]?.getD ByteArray.empty).toList=s.toList):zBI l s=true:=by
 unfold zBI
 rw[zDz (p:=fun i=>!decide ((l[i]?.getD ByteArray.empty).toList=s.toList)) (k:=k) (by simp [h]) _ hk];rfl
theorem zF9 {l:List ByteArray} {s:ByteArray} (h:zCd (fun i=>!decide ((l[i]?.getD ByteArray.empty).toList=s.toList)) l.length=true):zBI l s=false:=by
 unfold zBI;rw[h];rfl
theorem zTb {a b:ByteArray} (h:¬a=b):(!decide (a.toList=b.toList))=true:=by
 rw[Bool.not_eq_true',decide_eq_false_iff_not,zAR];exact h
theorem zU9 (b:Option Addr) (m c:Nat) (xs:List ByteArray) (v:ByteArray) :
  Ct prog 175 [.slice b m c,.string v] [] (fun H=>(gSl 9 gS).rd H [.slice b m c] xs)
   (fun w A=>(∃ k:Int,w = .int .i64 k∧(decide (k≥0))=zBI xs v)∧A=[]):=by
 refine Ct.intro0 zAh func175 rfl rfl rfl fun E H hp=>?_
 obtain⟨rfl,hcl,hl⟩:=zAp hp
 apply zAg (α:=(Nat)×(Int)) zAh [9,10,5,11,12,13,14,15,16,17,4,18,8] (fun z=>[(8,.v (.int .i64 z.1)),(4,.v (.int .i64 z.2))]) (fun z=>[]) (fun z=>[H]) (fun z=>xs.length-z.1) (fun z=>z.1≤xs.length∧zCd (fun i=>!decide ((xs[i]?.getD ByteArray.empty).toList=v.toList)) z.1=true) ((0,0))
 ·exact frI
 ·exact trivial
 ·try dsimp only
  exact⟨Nat.zero_le _,rfl⟩
 ·exact .refl _
 rintro ⟨k,j⟩ hI
 try dsimp only at hI
 obtain⟨hk,ha⟩:=hI
 try dsimp only
 constructor<;>intro q0
 ·simp at q0
  refine zAf hp ?_ ?_ fun b1 o1 hb1=>?_
  ·omega
  ·omega
  refine zAd ByteArray.empty (k) rfl hp ?_ ?_ hb1 rfl (zAa 0 rfl) fun l2 hl2=>?_
  ·omega
  ·omega
  obtain⟨rfl,hw2⟩:=hl2;simp only[zAx,zAs,okI] at hw2
  constructor<;>intro q3
  ·simp at q3
   simp only[zAR,zBn,zAZ] at q3
   exact⟨[],⟨⟨_,rfl,by rw[zOe (k:=k) oO (congrArg ByteArray.toList (by first|assumption|exact Eq.symm aA))];simp⟩,rfl⟩,.refl _⟩
  simp at q3
  simp only[zAR,zBn,zAZ] at q3
  apply zAb (k+1,_)
  ·exact .refl _
  ·exact frI
  ·exact trivial
  ·try dsimp only
   exact⟨oO,zAG ha (zTb (by first|assumption|exact fun e=>absurd e.symm aA))⟩
  try dsimp only
  omega
 simp at q0
 (have hke:k=xs.length:=oO;subst hke;exact⟨[],⟨⟨_,rfl,by rw[zF9 ha];decide⟩,rfl⟩,.refl _⟩)
theorem zCj (b:Option Addr) (m c:Nat) (xs:List ByteArray) (v:ByteArray) :
  Ct prog 136 [.slice b m c,.string v] [] (fun H=>(gSl 9 gS).rd H [.slice b m c] xs)
   (fun w A=>w = .bool (zBI xs v)∧A=[]):=by
 refine Ct.intro0 zAh func136 rfl rfl rfl fun E H hp=>?_
 refine zAe (zU9 _ _ _ (xs) _) (Rp.mono _ (zAa 0 rfl) hp) ?_
 rintro _ ⟨k,rfl,hk⟩
 exact⟨[],⟨by rw[←hk],rfl⟩,.refl _⟩
theorem zCP (b:Option Addr) (m c:Nat) (xs:List ByteArray) (v:ByteArray) :
  Ct prog 98 [.slice b m c,.string v] [] (fun H=>(gSl 9 gS).rd H [.slice b m c] xs)
   (fun w A=>w = .bool (zBI xs v)∧A=[]):=by
 refine Ct.intro0 zAh func98 rfl rfl rfl fun E H hp=>?_
 obtain⟨rfl,hcl,hl⟩:=zAp hp
 apply zAg (α:=(Nat)) zAh [6,7,8,9,12,13,14,15,16,17,4,10,11,5] (fun z=>[(5,.v (.int .i64 z))]) (fun z=>[]) (fun z=>[H]) (fun z=>xs.length-z) (fun z=>z≤xs.length∧zCd (fun i=>!decide ((xs[i]?.getD ByteArray.empty).toList=v.toList)) z=true) ((0))
 ·exact frI
 ·exact trivial
 ·exact⟨Nat.zero_le _,rfl⟩
 ·exact .refl _
 rintro k hI
 try dsimp only at hI
 obtain⟨hk,ha⟩:=hI
 try dsimp only
 constructor<;>intro q0
 ·simp at q0
  refine zAf hp ?_ ?_ fun b1 o1 hb1=>?_
  ·omega
  ·omega
  refine zAd ByteArray.empty (k) rfl hp ?_ ?_ hb1 rfl (zAa 0 rfl) fun l2 hl2=>?_
  ·omega
  ·omega
  obtain⟨rfl,hw2⟩:=hl2;simp only[zAx,zAs,okI] at hw2
  constructor<;>intro q3
  ·simp at q3
   simp only[zAR,zBn,zAZ] at q3
   exact⟨[],⟨by rw[zOe (k:=k) oO (congrArg ByteArray.toList (by first|assumption|exact Eq.symm aA))],rfl⟩,.refl _⟩
  simp at q3
  simp only[zAR,zBn,zAZ] at q3
  apply zAb (k+1)
  ·exact .refl _
  ·exact frI
  ·exact trivial
  ·exact⟨oO,zAG ha (zTb (by first|assumption|exact fun e=>absurd e.symm aA))⟩
  omega
 simp at q0
 (have hke:k=xs.length:=oO;subst hke;exact⟨[],⟨by rw[zF9 ha],rfl⟩,.refl _⟩)
def zVa:List UInt8:=[101,97,99,104]
theorem z01 (s:ByteArray):(s.toList == (⟨#[101,97,99,104]⟩:ByteArray).toList)=decide (s.toList=zVa):=by
 rw[show (⟨#[101,97,99,104]⟩:ByteArray).toList=zVa by simp [zVa],Bool.eq_iff_iff,beq_iff_eq,decide_eq_true_iff]
def z8f (b:UInt8):Bool:=inR 97 122 (b.toNat:Int)
def z02 (s:ByteArray) (k:Nat):Bool:=zCd (fun i=>z8f ((s[i]?).getD 0)) k
def zBY (s:ByteArray):Bool:=z02 s s.size && (inR 1 4 s.size && !decide (s.toList=zVa))
theorem zJ3 {s:ByteArray} {k:Nat} (hk:k < s.size) (h:¬(97≤(((s[k]?).getD 0).toNat:Int)∧(((s[k]?).getD 0).toNat:Int)≤122)):zBY s=false:=by
 unfold zBY z02
 rw[zDz (p:=fun i=>z8f ((s[i]?).getD 0)) (k:=k) (by unfold z8f;rw[Bool.eq_false_iff,Ne,zAq];exact h) _ hk];rfl
theorem zOf {s:ByteArray} (h:¬(1≤(s.size:Int)∧(s.size:Int)≤4)):zBY s=false:=by
 unfold zBY
 rw[show inR 1 4 (s.size:Int)=false by rw[Bool.eq_false_iff,Ne,zAq];exact h];simp
theorem z03 {s:ByteArray} (h:s.toList=zVa):zBY s=false:=by
 unfold zBY;rw[h];simp
theorem z04 {s:ByteArray} (h1:z02 s s.size=true) (h2:1≤(s.size:Int)∧(s.size:Int)≤4) (h3:¬s.toList=zVa):zBY s=true:=by
 unfold zBY;rw[h1,zAq.2 h2,decide_eq_false h3];rfl
theorem zPI {s:ByteArray} {k:Nat} (h:z02 s k=true) (h1:97≤(((s[k]?).getD 0).toNat:Int)∧(((s[k]?).getD 0).toNat:Int)≤122):z02 s (k+1)=true:=
 zAG h (zAq.2 h1)
theorem zD4 (s:ByteArray) (hs:s.size≤9223372036854775807):Ct prog 168 [.string s] [] (fun _=>True) (fun v A=>v = .bool (zBY s)∧A=[]):=by
 refine Ct.intro0 zAh func168 rfl rfl rfl fun E H hp=>?_
 constructor<;>intro q0
 ·simp at q0
  exact⟨[],⟨by rw[zOf oO],rfl⟩,.refl _⟩
 simp at q0
 constructor<;>intro q1
 ·simp at q1
  exact⟨[],⟨by rw[zOf oO],rfl⟩,.refl _⟩
 simp at q1
 constructor<;>intro q2
 ·simp at q2
  exact⟨[],⟨by rw[z03 aA],rfl⟩,.refl _⟩
 simp at q2
 apply zAg (α:=(Nat)) zAh [16,17,18,19,22,23,24,25,26,27,28,29,30,31,2,20,21,3] (fun z=>[(3,.v (.int .i64 z))]) (fun z=>[]) (fun z=>[H]) (fun z=>s.size-z) (fun z=>z≤s.size∧z02 s z=true) ((0))
 ·exact frI
 ·exact trivial
 ·exact⟨Nat.zero_le _,rfl⟩
 ·exact .refl _
 rintro k hI
 obtain⟨hk,ha⟩:k≤s.size∧z02 s k=true:=hI
 try dsimp only
 constructor<;>intro q3
 ·simp at q3
  refine VC.intro ?_ ?_
  ·omega
  constructor<;>intro q4
  ·simp at q4
   exact⟨[],⟨by rw[zJ3 (k:=k) oO oO],rfl⟩,.refl _⟩
  simp at q4
  refine VC.intro ?_ ?_
  ·omega
  constructor<;>intro q5
  ·simp at q5
   exact⟨[],⟨by rw[zJ3 (k:=k) oO oO],rfl⟩,.refl _⟩
  simp at q5
  apply zAb (k+1)
  ·exact .refl _
  ·exact frI
  ·exact trivial
  ·exact⟨oO,zPI ha oO⟩
  omega
 simp at q3
 (have hke:k=s.size:=oO;subst hke;exact⟨[],⟨by rw[z04 ha oO aA],rfl⟩,.refl _⟩)
theorem zD5 (s:ByteArray) (hs:s.size≤9223372036854775807):Ct prog 146 [.string s] [] (fun _=>True) (fun v A=>v = .bool (zBY s)∧A=[]):=by
 refine Ct.intro0 zAh func146 rfl rfl rfl fun E H hp=>?_
 apply zAg (α:=(Nat)) zAh [4,5,6,7,10,11,12,13,14,15,16,17,18,19,2,8,9,3] (fun z=>[(3,.v (.int .i64 z))]) (fun z=>[]) (fun z=>[H]) (fun z=>s.size-z) (fun z=>z≤s.size∧z02 s z=true) ((0))
 ·exact frI
 ·exact trivial
 ·exact⟨Nat.zero_le _,rfl⟩
 ·exact .refl _
 rintro k hI
 obtain⟨hk,ha⟩:k≤s.size∧z02 s k=true:=hI
 try dsimp only
 constructor<;>intro q0
 ·simp at q0
  refine VC.intro ?_ ?_
  ·omega
  constructor<;>intro q1
  ·simp at q1
   exact⟨[],⟨by rw[zJ3 (k:=k) oO oO],rfl⟩,.refl _⟩
  simp at q1
  refine VC.intro ?_ ?_
  ·omega
  constructor<;>intro q2
  ·simp at q2
   exact⟨[],⟨by rw[zJ3 (k:=k) oO oO],rfl⟩,.refl _⟩
  simp at q2
  apply zAb (k+1)
  ·exact .refl _
  ·exact frI
  ·exact trivial
  ·exact⟨oO,zPI ha oO⟩
  omega
 simp at q0
 refine zAe (zA3 _ _ _) trivial ?_
 rintro _ rfl
 constructor<;>intro q4
 ·have iq4:=zAq.1 q4
  (have hke:k=s.size:=oO;subst hke;exact⟨[],⟨by unfold zBY;rw[ha,zAq.2 aA,Bool.true_and,Bool.true_and];exact congrArg (fun b=>Value.bool !b) (z01 s),rfl⟩,.refl _⟩)
 have iq4:=mt zAq.2 (Bool.eq_false_iff.1 q4)
 exact⟨[],⟨by rw[zOf aA],rfl⟩,.refl _⟩
end
section
attribute [local irreducible] IntKind.wrap
def zAu (t:ByteArray) (i:Nat):UInt8:=(t[i]?).getD 0
theorem zB5 (t:ByteArray) (k:Nat):(t[k]?).getD 0=zAu t k:=rfl
end
section
theorem zHA {b:UInt8}:zBb b=true↔97≤b.toNat∧b.toNat≤100:=by unfold zBb;simp;omega
theorem zCt {t:ByteArray} {i:Nat} (h:t.size≤i):zAu t i=0:=by
 unfold zAu;rw[getElem?_neg _ _ oO];rfl
theorem zCF {t:ByteArray} {i:Nat} (h:(zAu t i).toNat≠0):i < t.size:=by
 rcases Nat.lt_or_ge i t.size with h1|h1
 ·exact h1
 rw[zCt h1] at h;exact absurd rfl h
abbrev PR:=Int×Nat×List Piece
def zK0 (b:UInt8):Int:=if b.toNat=42 then 4 else if b.toNat=43 then 5 else if b.toNat=63 then 6 else 0
def zDh (t:ByteArray):Nat→Int→Nat→List Piece→PR
 | 0,k,p,ps=>(k,p,ps)
 | f+1,k,p,ps=>if zK0 (zAu t p)=0 then (k,p,ps) else zDh t f ps.length (p+1) (ps++[⟨zK0 (zAu t p),0,[k]⟩])
def zAN (t:ByteArray) (E:Nat→List Piece→Option PR) (p:Nat) (ps:List Piece):Option PR:=
 if (zAu t p).toNat=40 then
  match E (p+1) ps with
  | none=>none
  | some r=>if (zAu t r.2.1).toNat=41 then some (zDh t (t.size+1) r.1 (r.2.1+1) r.2.2) else none
 else some (zDh t (t.size+1) ps.length (p+1) (ps++[⟨1,zAu t p,[]⟩]))
def zCe (b:UInt8):Bool:=zBb b || decide (b.toNat=40)
abbrev LR:=List Int×Nat×List Piece
def zDi (t:ByteArray) (I:Nat→List Piece→Option PR):Nat→List Int→Nat→List Piece→Option LR
 | 0,ks,p,ps=>some (ks,p,ps)
 | f+1,ks,p,ps=>
  if zCe (zAu t p)=true then
   match I p ps with
   | none=>none
   | some r=>zDi t I f (ks++[r.1]) r.2.1 r.2.2
  else some (ks,p,ps)
def zBx (op:Int) (r:LR):PR:=if r.1.length=1 then (r.1[0]?.getD 0,r.2.1,r.2.2) else (r.2.2.length,r.2.1,r.2.2++[⟨op,0,r.1⟩])
def zMT:Option LR→Option PR
 | none=>none
 | some r=>if r.1.length=0 then none else some (zBx 2 r)
def zCG (t:ByteArray) (I:Nat→List Piece→Option PR) (p:Nat) (ps:List Piece):Option PR:=zMT (zDi t I (t.size+1) [] p ps)
def zBQ (t:ByteArray) (A:Nat→List Piece→Option PR):Nat→List Int→Nat→List Piece→Option PR
 | 0,_,_,_=>none
 | f+1,ks,p,ps=>
  match A p ps with
  | none=>none
  | some r=>if (zAu t r.2.1).toNat=124 then zBQ t A f (ks++[r.1]) (r.2.1+1) r.2.2 else some (zBx 3 (ks++[r.1],r.2.1,r.2.2))
def zAt (t:ByteArray):Nat→Nat→List Piece→Option PR
 | 0,_,_=>none
 | n+1,p,ps=>zBQ t (zCG t (zAN t (zAt t n))) (t.size+1) [] p ps
def zK1 (t:ByteArray) (p:Nat) (ps:List Piece) (r:PR):Prop:=p < r.2.1∧r.2.1≤t.size∧r.2.2.length+1+2 * p≤ps.length+2 * r.2.1∧ps.length≤r.2.2.length∧0≤r.1∧r.1 < r.2.2.length
def z7j (t:ByteArray) (p:Nat) (ps:List Piece) (k0:Nat) (r:LR):Prop:=k0≤r.1.length∧p≤r.2.1∧r.2.1≤t.size∧r.2.2.length+r.1.length+2 * p≤ps.length+k0+2 * r.2.1∧ps.length≤r.2.2.length∧∀ k∈r.1,0≤k∧k < r.2.2.length
theorem zW0 {t:ByteArray} {p:Nat} (h:¬zK0 (zAu t p)=0):p < t.size:=by
 rcases Nat.lt_or_ge p t.size with h1|h1
 ·exact h1
 rw[zCt h1] at h;exact absurd rfl h
theorem zOg (t:ByteArray):∀ (f:Nat) (k:Int) (p:Nat) (ps:List Piece),p≤t.size→0≤k→k < ps.length →
  p≤(zDh t f k p ps).2.1∧(zDh t f k p ps).2.1≤t.size∧(zDh t f k p ps).2.2.length+p=ps.length+(zDh t f k p ps).2.1∧0≤(zDh t f k p ps).1∧(zDh t f k p ps).1 < (zDh t f k p ps).2.2.length
 | 0,k,p,ps,h,h1,h2=>⟨Nat.le_refl _,h,rfl,h1,h2⟩
 | f+1,k,p,ps,h,h1,h2=>by
  unfold zDh
  split
  ·exact⟨Nat.le_refl _,h,rfl,h1,h2⟩
  rename_i h3
  have h4:=zW0 h3
  have h5:=zOg t f ps.length (p+1) (ps++[⟨zK0 (zAu t p),0,[k]⟩]) oO oO (by simp only[List.length_append,List.length_singleton];omega)
  rw[List.length_append,List.length_singleton] at h5
  refine⟨oO,h5.2.1,oO,h5.2.2.2.1,h5.2.2.2.2⟩
theorem zGa {t:ByteArray} {p:Nat} (h:zCe (zAu t p)=true):p < t.size:=by
 apply zCF;intro h1
 unfold zCe zBb at h;rw[h1] at h;simp at h
theorem zOh {t:ByteArray} {E:Nat→List Piece→Option PR} {p:Nat} {ps:List Piece} {r:PR} (hE:∀ p ps r,p≤t.size→E p ps=some r→zK1 t p ps r) (hp:p < t.size) (h:zAN t E p ps=some r):zK1 t p ps r:=by
 unfold zAN at h
 split at h
 ·split at h
  ·cases h
  rename_i r0 e
  split at h
  ·rename_i h1
   cases h
   have h2:=hE _ _ _ oO e
   have h3:r0.2.1 < t.size:=zCF oO
   have h4:=zOg t (t.size+1) r0.1 (r0.2.1+1) r0.2.2 oO h2.2.2.2.2.1 h2.2.2.2.2.2
   unfold zK1 at h2 ⊢
   refine⟨oO,h4.2.1,oO,oO,h4.2.2.2.1,h4.2.2.2.2⟩
  cases h
 cases h
 have h4:=zOg t (t.size+1) ps.length (p+1) (ps++[⟨1,zAu t p,[]⟩]) oO oO (by simp only[List.length_append,List.length_singleton];omega)
 rw[List.length_append,List.length_singleton] at h4
 refine⟨oO,h4.2.1,oO,oO,h4.2.2.2.1,h4.2.2.2.2⟩
theorem zTc {t:ByteArray} {I:Nat→List Piece→Option PR} (hI:∀ p ps r,p < t.size→I p ps=some r→zK1 t p ps r):∀ (f:Nat) (ks:List Int) (p:Nat) (ps:List Piece) (r:LR),p≤t.size→(∀ k∈ks,0≤k∧k < (ps.length:Int))→zDi t I f ks p ps=some r→z7j t p ps ks.length r
 | 0,ks,p,ps,r,hp,hk,h=>by cases h;exact⟨Nat.le_refl _,Nat.le_refl _,hp,Nat.le_refl _,Nat.le_refl _,hk⟩
 | f+1,ks,p,ps,r,hp,hk,h=>by
  unfold zDi at h
  split at h
  ·rename_i hb
   split at h
   ·cases h
   rename_i r0 e
   obtain⟨a1,a2,a3,a4,a5,a6⟩:=hI _ _ _ (zGa hb) e
   have h2:=zTc hI f (ks++[r0.1]) r0.2.1 r0.2.2 r a2 (by
    intro k hk1
    rcases List.mem_append.1 hk1 with h3|h3
    ·have:=hk k h3;omega
    rw[List.mem_singleton.1 h3];exact⟨a5,a6⟩) h
   obtain⟨b1,b2,b3,b4,b5,b6⟩:=h2
   rw[List.length_append,List.length_singleton] at b1 b4
   exact⟨oO,oO,b3,oO,oO,b6⟩
  cases h;exact⟨Nat.le_refl _,Nat.le_refl _,hp,Nat.le_refl _,Nat.le_refl _,hk⟩
theorem zPJ {t:ByteArray} {op:Int} {p:Nat} {ps:List Piece} {r:LR} (hp:p < r.2.1) (h1:1≤r.1.length) (h2:r.2.1≤t.size) (h3:r.2.2.length+r.1.length+2 * p≤ps.length+2 * r.2.1) (h4:ps.length≤r.2.2.length) (h5:∀ k∈r.1,0≤k∧k < (r.2.2.length:Int)):zK1 t p ps (zBx op r):=by
 unfold zBx
 split
 ·rename_i e
  have h6:=h5 (r.1[0]?.getD 0) (by rw[List.getElem?_eq_getElem oO];exact List.getElem_mem _)
  exact⟨hp,h2,by simp only;omega,h4,h6.1,h6.2⟩
 rename_i e
 refine⟨hp,h2,?_,?_,?_,?_⟩<;>simp only[List.length_append,List.length_singleton]<;>omega
theorem zW1 {t:ByteArray} {I:Nat→List Piece→Option PR} (hI:∀ p ps r,p < t.size→I p ps=some r→zK1 t p ps r) {p:Nat} {ps:List Piece} {r:PR} (hp:p≤t.size) (h:zCG t I p ps=some r):zK1 t p ps r:=by
 unfold zCG zMT at h
 split at h
 ·cases h
 rename_i r0 e
 split at h
 ·cases h
 cases h
 obtain⟨b1,b2,b3,b4,b5,b6⟩:=zTc hI _ _ _ _ _ hp sI e
 simp only[List.length_nil] at b1 b4
 exact zPJ oO oO b3 oO b5 b6
theorem zPK {t:ByteArray} {A:Nat→List Piece→Option PR} (hA:∀ p ps r,p≤t.size→A p ps=some r→zK1 t p ps r) {p0:Nat} {ps0:List Piece}:∀ (f:Nat) (ks:List Int) (p:Nat) (ps:List Piece) (r:PR),p≤t.size→p0≤p→ps.length+ks.length+2 * p0≤ps0.length+2 * p→ps0.length≤ps.length→(∀ k∈ks,0≤k∧k < (ps.length:Int))→zBQ t A f ks p ps=some r→zK1 t p0 ps0 r
 | 0,ks,p,ps,r,hp,hp0,hs,hs0,hk,h=>by cases h
 | f+1,ks,p,ps,r,hp,hp0,hs,hs0,hk,h=>by
  unfold zBQ at h
  split at h
  ·cases h
  rename_i r0 e
  obtain⟨a1,a2,a3,a4,a5,a6⟩:=hA _ _ _ hp e
  have hk':∀ k∈ks++[r0.1],0≤k∧k < (r0.2.2.length:Int):=by
   intro k hk1
   rcases List.mem_append.1 hk1 with h3|h3
   ·have:=hk k h3;omega
   rw[List.mem_singleton.1 h3];exact⟨a5,a6⟩
  split at h
  ·rename_i hb
   have h3:r0.2.1 < t.size:=zCF oO
   exact zPK hA f _ _ _ _ oO oO (by rw[List.length_append,List.length_singleton];omega) oO hk' h
  cases h
  exact zPJ (by simp only;omega) sI a2 (by simp only[List.length_append,List.length_singleton];omega) (by simp only;omega) hk'
theorem zJ4 (t:ByteArray):∀ (n p:Nat) (ps:List Piece) (r:PR),p≤t.size→zAt t n p ps=some r→zK1 t p ps r
 | 0,_,_,_,_,h=>by cases h
 | n+1,p,ps,r,hp,h=>zPK (fun _ _ _ h1 h2=>zW1 (fun _ _ _ h3 h4=>zOh (zJ4 t n) h3 h4) h1 h2) _ _ _ _ _ hp (Nat.le_refl _) sI (Nat.le_refl _) sI h
theorem zVb {t:ByteArray} {I:Nat→List Piece→Option PR} {f:Nat} {ks:List Int} {p:Nat} {ps:List Piece} (hb:zCe (zAu t p)=true) {r:PR} (h:I p ps=some r):zDi t I (f+1) ks p ps=zDi t I f (ks++[r.1]) r.2.1 r.2.2:=by
 conv=>lhs;unfold zDi
 rw[if_pos hb,h]
theorem zW2 {t:ByteArray} {I:Nat→List Piece→Option PR} {f:Nat} {ks:List Int} {p:Nat} {ps:List Piece} (hb:zCe (zAu t p)=true) (h:I p ps=none):zDi t I (f+1) ks p ps=none:=by
 conv=>lhs;unfold zDi
 rw[if_pos hb,h]
theorem zFf {t:ByteArray} {I:Nat→List Piece→Option PR} {f:Nat} {ks:List Int} {p:Nat} {ps:List Piece} (hb:zCe (zAu t p)=false):zDi t I f ks p ps=some (ks,p,ps):=by
 cases f with
 | zero=>rfl
 | succ f=>unfold zDi;rw[if_neg (by rw[hb];simp)]
def zBs (ks:List Int) (i:Nat):Bool:=ks.all fun k=>inR 0 ((i:Int)-1) k
def zBR (x:Piece) (i:Nat):Bool:=
 if x.op=1 then zBb x.label && decide (x.kids.length=0)
 else if x.op=2∨x.op=3 then decide (x.label=0) && (decide (2≤x.kids.length) && zBs x.kids i)
 else if x.op=4∨x.op=5∨x.op=6 then decide (x.label=0) && (decide (x.kids.length=1) && zBs x.kids i)
 else false
def zAV (p:Path):Bool:=decide (1≤p.pieces.length) && (decide (p.pieces.length≤60) && zCd (fun i=>zBR (p.pieces[i]?.getD default) i) p.pieces.length)
theorem zBk {p:Path} {k:Nat} (h1:k < p.pieces.length) (h:zBR (p.pieces[k]?.getD default) k=false):zAV p=false:=by
 unfold zAV;rw[zDz (p:=fun i=>zBR (p.pieces[i]?.getD default) i) h _ h1];simp
theorem zMU {p:Path} (h:¬(1≤p.pieces.length∧p.pieces.length≤60)):zAV p=false:=by
 unfold zAV
 by_cases h1:1≤p.pieces.length
 ·rw[decide_eq_false (fun h2=>h ⟨h1,h2⟩)];simp
 rw[decide_eq_false h1];rfl
theorem zVc {p:Path} (h:1≤p.pieces.length∧p.pieces.length≤60) (h2:zCd (fun i=>zBR (p.pieces[i]?.getD default) i) p.pieces.length=true):zAV p=true:=by
 unfold zAV;rw[h2,decide_eq_true h.1,decide_eq_true h.2];rfl
theorem zW3 {ks:List Int} {i k:Nat} (hk:k < ks.length) (h:¬(0≤(ks[k]?.getD 0)∧(ks[k]?.getD 0)≤(i:Int)-1)):zBs ks i=false:=by
 cases e:zBs ks i with
 | false=>rfl
 | true=>
  unfold zBs at e
  rw[List.all_eq_true] at e
  rw[List.getElem?_eq_getElem hk] at h
  exact absurd (zAq.1 (e _ (List.getElem_mem hk))) h
theorem zBS {ks:List Int} {i k:Nat} (hk:k < ks.length) (ha:zBs (ks.take k) i=true) (h:0≤(ks[k]?.getD 0)∧(ks[k]?.getD 0)≤(i:Int)-1):zBs (ks.take (k+1)) i=true:=by
 unfold zBs at *
 rw[List.getElem?_eq_getElem hk] at h
 rw[←List.take_append_getElem hk,List.all_append,ha]
 have:=zAq.2 h
 simp only[Option.getD_some] at this
 simp [this]
theorem z3e {x:Piece} {i:Nat} (h:x.op=1):zBR x i=(zBb x.label && decide (x.kids.length=0)):=by unfold zBR;rw[if_pos h]
theorem zAP {x:Piece} {i:Nat}:zBR x i=true↔(x.op=1∧97≤x.label.toNat∧x.label.toNat≤100∧x.kids.length=0)∨((x.op=2∨x.op=3)∧x.label.toNat=0∧2≤x.kids.length∧zBs x.kids i=true)∨((x.op=4∨x.op=5∨x.op=6)∧x.label.toNat=0∧x.kids.length=1∧zBs x.kids i=true):=by
 have hl:x.label=0↔x.label.toNat=0:=by
  constructor
  ·intro h;rw[h];rfl
  intro h;exact UInt8.toNat_inj.1 h
 unfold zBR
 split
 ·rename_i h;rw[Bool.and_eq_true,zHA,decide_eq_true_iff];constructor
  ·intro h1;exact .inl ⟨h,h1.1.1,h1.1.2,h1.2⟩
  rintro (h1 | h1 | h1)
  ·exact⟨⟨h1.2.1,h1.2.2.1⟩,h1.2.2.2⟩
  ·omega
  omega
 split
 ·rename_i h0 h;rw[Bool.and_eq_true,Bool.and_eq_true,decide_eq_true_iff,decide_eq_true_iff,hl];constructor
  ·intro h1;exact .inr (.inl ⟨h,h1.1,h1.2.1,h1.2.2⟩)
  rintro (h1 | h1 | h1)
  ·omega
  ·exact⟨h1.2.1,h1.2.2.1,h1.2.2.2⟩
  omega
 split
 ·rename_i h0 h2 h;rw[Bool.and_eq_true,Bool.and_eq_true,decide_eq_true_iff,decide_eq_true_iff,hl];constructor
  ·intro h1;exact .inr (.inr ⟨h,h1.1,h1.2.1,h1.2.2⟩)
  rintro (h1 | h1 | h1)
  ·omega
  ·omega
  exact⟨h1.2.1,h1.2.2.1,h1.2.2.2⟩
 constructor
 ·intro h;cases h
 rintro (h1 | h1 | h1)<;>omega
theorem zBZ {x:Piece} {i:Nat} (h:zBR x i=true→False):zBR x i=false:=by
 cases e:zBR x i with
 | false=>rfl
 | true=>exact (h e).elim
theorem zBc {x:Piece} {i k:Nat} (h:¬x.op=1) (hk:k < x.kids.length) (h2:¬(0≤(x.kids[k]?.getD 0)∧(x.kids[k]?.getD 0)≤(i:Int)-1)):zBR x i=false:=by
 refine zBZ fun e=>?_
 have h1:=zW3 hk h2
 rcases zAP.1 e with h3|h3|h3
 ·exact h h3.1
 ·rw[h1] at h3;cases h3.2.2.2
 rw[h1] at h3;cases h3.2.2.2
theorem zFg {x:Piece} {i:Nat} (h:((x.op=2∨x.op=3)∧2≤x.kids.length)∨((x.op=4∨x.op=5∨x.op=6)∧x.kids.length=1)) (hk:zBs x.kids i=true):zBR x i=(((x.label.toNat:Nat):Int) == 0):=by
 rw[Bool.eq_iff_iff,zAP,hk]
 simp
 omega
theorem zGb {x:Piece} {i:Nat} (h:((x.op=2∨x.op=3)∧2≤x.kids.length)∨((x.op=4∨x.op=5∨x.op=6)∧x.kids.length=1)) (hl:x.label.toNat=0) (hk:zBs x.kids i=true):zBR x i=true:=by
 rw[zFg h hk,hl];rfl
theorem zVd {x:Piece} {i:Nat} (h:x.op=1) (hl:zBb x.label=true):zBR x i=(((x.kids.length:Nat):Int) == 0):=by
 rw[z3e h,hl,Bool.true_and,Bool.eq_iff_iff];simp
def zBG (t:ByteArray):Option Path:=
 if t.size≤20 then
  match zAt t (t.size+1) 0 [] with
  | none=>none
  | some r=>if r.2.1=t.size∧zAV ⟨r.2.2⟩=true then some ⟨r.2.2⟩ else none
 else none
end
end Go.Proofs.YtcnclhjhnjpeiaaGreat
