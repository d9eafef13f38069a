/-
  OPENING AND PACKING over heaps that are lists.
-/
import Derived.Test.YtnemoimbeefngaaGreatPA2
import Derived.ProofKit
import Derived.ChangeStays
import Derived.Deep.Slices
import Derived.OpenShut
import Derived.Sort.OwnSortedInts
import Derived.Sort.Row
import Derived.Lib.SlicesCompact
set_option linter.unusedSimpArgs false
set_option linter.unusedVariables false
set_option linter.unnecessarySimpa false
set_option linter.unusedSectionVars false
set_option maxHeartbeats 32000000
set_option maxRecDepth 100000
namespace Go.Abs
mutual
theorem zEo (θ:Nat->Nat):∀(v:Value),xY v=true->ren θ v=v
 |.bool b,_=> by rw[ren]
 |.int k n,_=> by rw[ren]
 |.float k b,_=> by rw[ren]
 |.complex ..,h=> by simp[xY] at h
 |.string s,_=> by rw[ren]
 |.pointer none,_=> by rw[ren]
 |.pointer (some _),h=> by simp[xY] at h
 |.slice none n c,_=> by rw[ren]
 |.slice (some _) _ _,h=> by simp[xY] at h
 |.map none,_=> by rw[ren]
 |.map (some _),h=> by simp[xY] at h
 |.chan _,h=> by simp[xY] at h
 |.func ..,h=> by simp[xY] at h
 |.nilFunc,_=> by rw[ren]
 |.nilIface,_=> by rw[ren]
 |.iface t v,h=> by rw[ren,zEo θ v (by simpa [xY] using h)]
 |.agg ⟨l⟩,h=> by rw[ren,zAy θ l (by simpa [xY] using h)]
 |.tuple ⟨l⟩,h=> by rw[ren,zAy θ l (by simpa [xY] using h)]
theorem zAy (θ:Nat->Nat):∀(l:List Value),xI l=true->zAu θ l=l
 |[],_=> by rw[zAu]
 |v::l,h=> by
  simp[xI] at h
  rw[zAu,zEo θ v h.1,zAy θ l h.2]
end
theorem zVy (θ:Nat->Nat) {es:List MapEntry} (h:∀e∈es,xY e.key=true/\xY e.val=true):es.map (fun e=> (⟨ren θ e.key,ren θ e.val,e.born⟩:MapEntry))=es:=by
 induction es with
 |nil=> rfl
 |cons e es ih=>
  rw[List.map_cons,ih fun e he=> h e (by simp[he]),zEo θ _ (h e (by simp)).1,zEo θ _ (h e (by simp)).2]
section
variable {D:Type} {P:Program} {frag:D->List (AObj D)}
def zHp (l:List (Option (AObj D))):List Nat->List (Option (AObj D))
 |[]=> l
 |k::ks=> zHp (l.set k none) ks
theorem zK5 (ks:List Nat):∀l:List (Option (AObj D)),(zHp l ks).length=l.length:=by
 induction ks with
 |nil=> intro l;rfl
 |cons k ks ih=> intro l;rw[zHp,ih,List.length_set]
theorem zX0 (ks:List Nat) (j:Nat):∀l:List (Option (AObj D)),((zHp l ks)[j]?).join=if ks.contains j then none else (l[j]?).join:=by
 induction ks with
 |nil=> intro l;rfl
 |cons k ks ih=>
  intro l
  rw[zHp,ih,List.getElem?_set]
  by_cases h:j=k
  ·subst h
   simp
   intro _
   split<;> rfl
  ·have h':¬k=j:=fun e=> h e.symm
   simp[h,h']
theorem pack_of {l:List (Option (AObj D))} {d:D} {k0:Nat} {ks:List Nat} (hk:k0<l.length):(AH.of l).pack d (k0::ks)=AH.of ((zHp l ks).set k0 (some (.hi d))):=by
 refine AH.ext' (by simp[AH.pack,AH.of,zK5]) fun j=> ?_
 rw[of_get,List.getElem?_set]
 show (if j=(k0::ks).headD 0 then some (AObj.hi d) else if (k0::ks).contains j then none else (AH.of l).get j)=_
 by_cases h:j=k0
 ·subst h;simp[zK5,hk]
 ·have h':¬k0=j:=fun e=> h e.symm
  rw[if_neg (by simpa using h),if_neg h',zX0,of_get]
  simp[h]
def zI1:List (Option (AObj D))->List (AObj D)->Prop
 |[],[]=> True
 |some o::a,o'::b=> leO o o'/\zI1 a b
 |_,_=> False
theorem qH6:zI1 ([]:List (Option (AObj D))) []=True:=rfl
theorem qDd (o o':AObj D) (a:List (Option (AObj D))) (b:List (AObj D)):zI1 (some o::a) (o'::b)=(leO o o'/\zI1 a b):=rfl
theorem zI1.length:∀{a:List (Option (AObj D))} {b:List (AObj D)},zI1 a b->a.length=b.length
 |[],[],_=> rfl
 |[],_::_,h=> h.elim
 |none::_,[],h=> h.elim
 |none::_,_::_,h=> h.elim
 |some _::_,[],h=> h.elim
 |some _::_,_::_,h=> by simp[zI1.length h.2]
theorem zI1.get:∀{a:List (Option (AObj D))} {b:List (AObj D)},zI1 a b->∀i,i<a.length->∃o o',a[i]?=some (some o)/\b[i]?=some o'/\leO o o'
 |[],[],_,i,hi=> by simp at hi
 |[],_::_,h,_,_=> h.elim
 |none::_,[],h,_,_=> h.elim
 |none::_,_::_,h,_,_=> h.elim
 |some _::_,[],h,_,_=> h.elim
 |some o::a,o'::b,h,0,_=> ⟨o,o',rfl,rfl,h.1⟩
 |some o::a,o'::b,h,i+1,hi=> by
  obtain⟨x,y,h1,h2,h3⟩:=zI1.get h.2 i (by simpa using hi)
  exact⟨x,y,by simpa using h1,by simpa using h2,h3⟩
def zSn (frag:D->List (AObj D)) (L:List (Option (AObj D))) (d:D) (k0:Nat) (ks:List Nat):Prop:=
 (k0::ks).Nodup/\k0<L.length/\zI1 ((k0::ks).map fun k=> (L[k]?).join) ((frag d).map (·.ren (sh (ks.length+1) L.length (k0::ks))))/\(frag d).all (·.mine)=true/\∃e c cs,(frag d)[0]?=some (.arr e (c::cs))
def zSi (L:List (Option (AObj D))) (d:D) (k0:Nat) (ks:List Nat):List (Option (AObj D)):=(zHp L ks).set k0 (some (.hi d))
theorem zSn.sees {L:List (Option (AObj D))} {d:D} {k0:Nat} {ks:List Nat} (h:zSn frag L d k0 ks):xV P (zA5 P frag) (AH.of L) (AH.of (zSi L d k0 ks)):=by
 obtain⟨h1,h2,h3,h4,h5⟩:=h
 have hl:=h3.length
 simp only[List.length_map,List.length_cons] at hl
 have:=xV.pack (P:=P) (H:=AH.of L) d (k0::ks) h1 (by simpa using hl.symm) (fun i hi=> ?_) h4 h5
 ·rwa [Abs.pack_of h2] at this
 ·obtain⟨o,o',e1,e2,e3⟩:=h3.get i (by simpa using hi)
  rw[List.getElem?_map] at e1 e2
  simp only[Option.map_eq_some_iff] at e1 e2
  obtain⟨k,hk,e1⟩:=e1
  obtain⟨o1,ho1,rfl⟩:=e2
  refine⟨o,o1,?_,ho1,e3⟩
  rw[of_get,List.getD_eq_getElem?_getD,hk];exact e1
inductive Plan (D:Type) where
 |nil (e:TypeId)
 |pack (d:D) (k0:Nat) (ks:List Nat)
def zE9 (L:List (Option (AObj D))):List (Plan D)->List (Option (AObj D))
 |[]=> L
 |.nil e::ps=> zE9 (L++[some (.arr e [])]) ps
 |.pack d k0 ks::ps=> zE9 (zSi L d k0 ks) ps
def zEi (frag:D->List (AObj D)) (L:List (Option (AObj D))):List (Plan D)->Prop
 |[]=> True
 |.nil e::ps=> zEi frag (L++[some (.arr e [])]) ps
 |.pack d k0 ks::ps=> zSn frag L d k0 ks/\zEi frag (zSi L d k0 ks) ps
theorem zEi.sees:∀{ps:List (Plan D)} {L:List (Option (AObj D))},zEi frag L ps->xV P (zA5 P frag) (AH.of L) (AH.of (zE9 L ps))
 |[],L,_=> xV.refl _
 |.nil e::ps,L,h=> by
  have h1:=xV.nil (P:=P) (cfg:=zA5 P frag) (AH.of L) e
  rw[zUc] at h1
  exact h1.trans (zEi.sees (ps:=ps) h)
 |.pack d k0 ks::ps,L,h=> h.1.sees.trans (zEi.sees (ps:=ps) h.2)
theorem Rel.drop {cfg:D->HRep} {ρ:Env} {own:Nat->Nat->Prop} {H H2:AH D} {w:World} (h:Rel P cfg ρ own H w) (hn:H2.next=H.next) (hg:∀k,H2.get k=H.get k∨H2.get k=none):
  Rel P cfg ρ (fun k b=> H2.get k≠none/\own k b) H2 w:=by
 have get:∀{k o},H2.get k=some o->H.get k=some o:=fun {k o} ho=> by
  rcases hg k with e|e
  ·rw[←e];exact ho
  ·rw[e] at ho;cases ho
 refine⟨fun k hk=> ?_,fun k hk=> h.dom k (by omega),fun k o ho=> ?_,fun k hk b hb=> hb.1 hk,fun k b hb=> h.bound k b hb.2,fun k k' b hb hb'=> h.disj k k' b hb.2 hb'.2,fun k cs hk hcs l hl k' hk'=> h.ro k cs (get hk) hcs l hl k' hk'.2⟩
 ·rcases hg k with e|e
  ·rw[e];exact h.fresh k (by omega)
  ·exact e
 ·have e:(fun b=> H2.get k≠none/\own k b)=own k:=by funext b;rw[ho];simp
  show zBt P cfg ρ (fun b=> H2.get k≠none/\own k b) k o w
  rw[e];exact h.obj k o (get ho)
def zD4 (θ:Nat->Nat):List (Option (AObj D))->List (Option (AObj D))->Prop
 |[],[]=> True
 |_::a,none::b=> zD4 θ a b
 |some o::a,some o'::b=> leO o (o'.ren θ)/\zD4 θ a b
 |_,_=> False
theorem qCw (θ:Nat->Nat):zD4 θ ([]:List (Option (AObj D))) []=True:=rfl
theorem zKe (θ:Nat->Nat) (o:Option (AObj D)) (a b:List (Option (AObj D))):zD4 θ (o::a) (none::b)=zD4 θ a b:=by cases o<;> rfl
theorem zY3 (θ:Nat->Nat) (o o':AObj D) (a b:List (Option (AObj D))):zD4 θ (some o::a) (some o'::b)=(leO o (o'.ren θ)/\zD4 θ a b):=rfl
theorem zD4.length {θ:Nat->Nat}:∀{a b:List (Option (AObj D))},zD4 θ a b->a.length=b.length
 |[],[],_=> rfl
 |[],_::_,h=> h.elim
 |none::_,[],h=> h.elim
 |some _::_,[],h=> h.elim
 |none::_,some _::_,h=> h.elim
 |o::a,none::b,h=> by rw[zKe] at h;simp[zD4.length h]
 |some _::_,some _::_,h=> by simp[zD4.length h.2]
theorem zD4.get {θ:Nat->Nat}:∀{a b:List (Option (AObj D))},zD4 θ a b->∀i,i<a.length->(b[i]?).join=none∨∃o o',(a[i]?).join=some o/\(b[i]?).join=some o'/\leO o (o'.ren θ)
 |[],[],_,i,hi=> by simp at hi
 |[],_::_,h,_,_=> h.elim
 |none::_,[],h,_,_=> h.elim
 |some _::_,[],h,_,_=> h.elim
 |none::_,some _::_,h,_,_=> h.elim
 |o::a,none::b,h,0,_=> .inl rfl
 |some o::a,some o'::b,h,0,_=> .inr ⟨o,o',rfl,rfl,h.1⟩
 |o::a,none::b,h,i+1,hi=> by
  rw[zKe] at h
  simpa using zD4.get h i (by simpa using hi)
 |some o::a,some o'::b,h,i+1,hi=> by simpa using zD4.get h.2 i (by simpa using hi)
def zNv:Nat->Nat->List Nat->Prop
 |0,_,_=> True
 |_+1,_,[]=> False
 |n+1,i,k::ks=> k=i/\zNv n (i+1) ks
theorem zNv.get:∀{n i:Nat} {ks:List Nat},zNv n i ks->∀j,j<n->ks[j]?=some (i+j)
 |0,_,_,_,j,hj=> by omega
 |_+1,_,[],h,_,_=> h.elim
 |n+1,i,k::ks,h,0,_=> by simp[h.1]
 |n+1,i,k::ks,h,j+1,hj=> by
  have:=zNv.get h.2 j (by omega)
  rw[List.getElem?_cons_succ,this]
  congr 1;omega
def zDg (n0:Nat) (L:List (Option (AObj D))) (ks:List Nat) (l2:List (Option (AObj D))):Prop:=
 ks.Nodup/\(∀k∈ks,k<L.length)/\zD4 (sh ks.length L.length ks) (ks.map fun k=> (L[k]?).join) l2/\zNv n0 0 ks
theorem zDg.nodup {n0:Nat} {L l2:List (Option (AObj D))} {ks:List Nat} (h:zDg n0 L ks l2):ks.Nodup:=h.1
theorem zDg.lt {n0:Nat} {L l2:List (Option (AObj D))} {ks:List Nat} (h:zDg n0 L ks l2):∀k∈ks,k<L.length:=h.2.1
theorem zDg.same {n0:Nat} {L l2:List (Option (AObj D))} {ks:List Nat} (h:zDg n0 L ks l2):zD4 (sh ks.length L.length ks) (ks.map fun k=> (L[k]?).join) l2:=h.2.2.1
theorem zDg.rel {n0:Nat} {L l2:List (Option (AObj D))} {ks:List Nat} (h:zDg n0 L ks l2) {ρ:Env} {own:Nat->Nat->Prop} {w:World} {cfg:D->HRep} (hr:Rel P cfg ρ own (AH.of L) w):
  ∃own2,Rel P cfg (ρ.on (sh ks.length L.length ks)) own2 (AH.of l2) w/\∀b,(∃j,own2 j b)->∃j,own j b:=by
 have hlen:ks.length=l2.length:=by simpa using h.same.length
 have hat:∀i,i<ks.length->ks.idxOf? (ks.getD i 0)=some i:=fun i hi=> by
  rw[List.getD_eq_getElem?_getD,List.getElem?_eq_getElem hi,Option.getD_some]
  rw[List.idxOf?,List.findIdx?_eq_some_iff_getElem]
  refine⟨hi,by simp,fun j hj=> ?_⟩
  have hne:¬ks[j]=ks[i]:=fun e=> by
   have:=(List.getElem_inj h.nodup).1 e
   omega
  simpa using hne
 have hno:∀j i,ks.idxOf? j=some i->i<ks.length/\ks.getD i 0=j:=fun j i hi=> by
  rw[List.idxOf?,List.findIdx?_eq_some_iff_getElem] at hi
  obtain⟨h1,h2,_⟩:=hi
  refine⟨h1,?_⟩
  rw[List.getD_eq_getElem?_getD,List.getElem?_eq_getElem h1]
  simpa using h2
 have hget:∀i,i<ks.length->(l2[i]?).join=none∨∃o o',(AH.of L).get (ks.getD i 0)=some o/\(l2[i]?).join=some o'/\leO o (o'.ren (sh ks.length L.length ks)):=fun i hi=> by
  rcases h.same.get i (by simpa using hi) with e|⟨o,o',e1,e2,e3⟩
  ·exact .inl e
  ·refine .inr ⟨o,o',?_,e2,e3⟩
   rw[List.getElem?_map,List.getElem?_eq_getElem hi] at e1
   rw[of_get,List.getD_eq_getElem?_getD,List.getElem?_eq_getElem hi]
   exact e1
 let H1:AH D:=⟨L.length,fun j=> match ks.idxOf? j with
  |some i=> if (l2[i]?).join=none then none else (AH.of L).get j
  |none=> (AH.of L).get j⟩
 have r1:=hr.drop (H2:=H1) rfl fun j=> by
  show (match ks.idxOf? j with|some i=> if (l2[i]?).join=none then none else (AH.of L).get j|none=> (AH.of L).get j)=_∨(match ks.idxOf? j with|some i=> if (l2[i]?).join=none then none else (AH.of L).get j|none=> (AH.of L).get j)=_
  cases hj:ks.idxOf? j with
  |none=> exact .inl rfl
  |some i=>
   simp only
   split
   ·exact .inr rfl
   ·exact .inl rfl
 let H2:AH D:=⟨L.length,fun j=> match ks.idxOf? j with
  |some i=> ((l2[i]?).join).map (AObj.ren (sh ks.length L.length ks))
  |none=> (AH.of L).get j⟩
 have r2:Rel P cfg ρ _ H2 w:=r1.weaken rfl fun j=> by
  show (match ks.idxOf? j with|some i=> ((l2[i]?).join).map (AObj.ren (sh ks.length L.length ks))|none=> (AH.of L).get j)=(match ks.idxOf? j with|some i=> if (l2[i]?).join=none then none else (AH.of L).get j|none=> (AH.of L).get j)∨
   ∃o o',(match ks.idxOf? j with|some i=> if (l2[i]?).join=none then none else (AH.of L).get j|none=> (AH.of L).get j)=some o/\(match ks.idxOf? j with|some i=> ((l2[i]?).join).map (AObj.ren (sh ks.length L.length ks))|none=> (AH.of L).get j)=some o'/\leO o o'
  cases hj:ks.idxOf? j with
  |none=> exact .inl rfl
  |some i=>
   obtain⟨h1,rfl⟩:=hno j i hj
   simp only
   rcases hget i h1 with e|⟨o,o',e1,e2,e3⟩
   ·left;rw[e];rfl
   ·right
    refine⟨o,_,?_,?_,e3⟩
    ·rw[e2,if_neg (by simp)];exact e1
    ·rw[e2];rfl
 have hem:Emb (sh ks.length L.length ks) (AH.of l2) H2:=Emb.of_keys (H:=H2) h.nodup h.lt (by rw[zGc,hlen]) (fun i hi=> by
  rw[zGc] at hi;rw[of_get,List.getElem?_eq_none hi];rfl) fun i hi=> by
  show (match ks.idxOf? (ks.getD i 0) with|some i=> ((l2[i]?).join).map (AObj.ren (sh ks.length L.length ks))|none=> (AH.of L).get _)=_
  rw[hat i hi,of_get]
  rfl
 exact⟨_,hem.rel r2,fun b ⟨j,hb⟩=> ⟨_,hb.2.2⟩⟩
theorem zDg.fix {n0:Nat} {L l2:List (Option (AObj D))} {ks:List Nat} (h:zDg n0 L ks l2) {i:Nat} (hi:i<n0):sh ks.length L.length ks i=i:=by
 have h1:=zNv.get h.2.2.2 i hi
 have hik:i<ks.length:=by
  rcases Nat.lt_or_ge i ks.length with h|h
  ·exact h
  ·rw[List.getElem?_eq_none h] at h1;cases h1
 rw[zEn hik,List.getD_eq_getElem?_getD,h1]
 simp
structure ends (P:Program) (frag:D->List (AObj D)) (n0:Nat) (r0:AEnd) (H0:AH D) (r:AEnd) (H':AH D):Prop where
 view:View P frag n0 H' r H0 r0
theorem zP.ends {f:FuncId} {args:List Value} {H H0:AH D} {r0:AEnd} (h:zP P (zA5 P frag) f args H (Abs.ends P frag H.next r0 H0)):zP P (zA5 P frag) f args H fun r H'=> r=r0/\H'=H0:=
 h.view fun _ _ hv=> ⟨r0,H0,hv.view,rfl,rfl⟩
theorem zA {n0:Nat} {L l2:List (Option (AObj D))} {r r2:AEnd} (ps:List (Plan D)) (ks:List Nat) (h:zEi frag L ps) (hn:zDg n0 (zE9 L ps) ks l2) (hr:r=zLp (sh ks.length (zE9 L ps).length ks) r2):
  Abs.ends P frag n0 r2 (AH.of l2) r (AH.of L):=.mk fun ρ own w hrel=> by
 obtain⟨ρ1,own1,a1,a2,a3⟩:=h.sees (P:=P) ρ own w hrel
 obtain⟨own2,b1,b2⟩:=hn.rel a1
 refine⟨_,own2,b1,fun k hk x hx=> ?_,fun b hb=> a3 b (b2 b hb),fun en he=> (hr▸he.mono a2:zG1 ρ1 (zLp _ r2) en).of_ren⟩
 show ρ1.loc (sh ks.length (zE9 L ps).length ks k)=some x
 rw[hn.fix hk];exact a2 k x hx
def zNz (i:Nat):List Nat->Nat->Option Nat
 |[],_=> none
 |a::ks,k=> if k=a then some i else zNz (i+1) ks k
theorem qIc (i k:Nat):zNz i [] k=none:=rfl
theorem qDk (i a:Nat) (ks:List Nat) (k:Nat):zNz i (a::ks) k=if k=a then some i else zNz (i+1) ks k:=rfl
theorem zUh:∀{ks:List Nat} {i k j:Nat},zNz i ks k=some j->i<=j/\ks[j - i]?=some k
 |[],i,k,j,h=> by cases h
 |a::ks,i,k,j,h=> by
  rw[zNz] at h
  split at h
  ·rename_i e;subst e;cases h;simp
  ·obtain⟨h1,h2⟩:=zUh h
   refine⟨by omega,?_⟩
   rw[show j - i=(j - (i+1))+1 by omega,List.getElem?_cons_succ];exact h2
def kap (ks:List Nat) (k:Nat):Option Nat:=zNz 0 ks k
theorem zQu {n0:Nat} {L l2:List (Option (AObj D))} {tm:Nat->Value} (ps:List (Plan D)) (ks:List Nat) (h:zEi frag L ps) (hn:zDg n0 (zE9 L ps) ks l2):
  zNn P (zA5 P frag) n0 tm (AH.of L) (fun t=> back (kap ks) (tm t)) (AH.of l2):=fun ρ own w hrel=> by
 obtain⟨ρ1,own1,a1,a2,a3⟩:=h.sees (P:=P) ρ own w hrel
 obtain⟨own2,b1,b2⟩:=hn.rel a1
 refine⟨_,own2,b1,fun k hk x hx=> ?_,fun b hb=> a3 b (b2 b hb),fun t v hv=> (hv.mono a2).back fun k i hk=> ?_⟩
 ·show ρ1.loc (sh ks.length (zE9 L ps).length ks k)=some x
  rw[hn.fix hk];exact a2 k x hx
 ·obtain⟨_,h2⟩:=zUh hk
  rw[Nat.sub_zero] at h2
  have h1:i<ks.length:=by
   rcases Nat.lt_or_ge i ks.length with h|h
   ·exact h
   ·rw[List.getElem?_eq_none h] at h2;cases h2
  rw[zEn h1,List.getD_eq_getElem?_getD,h2]
  rfl
theorem zP.opn {f:FuncId} {args:List Value} {K:AEnd->AH D->Prop} {H H1:AH D} (k:Nat) (ho:zFt frag H k=some H1) (h:zP P (zA5 P frag) f args H1 K):zP P (zA5 P frag) f args H K:=zP.seesG (zDb ho) h
def wkT (tm:Nat->Value):List (Nat × Value)->Nat->Value
 |[]=> tm
 |(s,v)::ws=> upd (wkT tm ws) s v
def leT (tm:Nat->Value):List (Nat × Value)->Prop
 |[]=> True
 |(s,v)::ws=> leV (tm s) v/\leT tm ws
theorem qAm {tm:Nat->Value} {ρ:Env}:∀{ws:List (Nat × Value)},leT tm ws->∀t v,VR ρ (tm t) v->VR ρ (wkT tm ws t) v
 |[],_,t,v,h=> h
 |(s,x)::ws,hw,t,v,h=> by
  unfold wkT upd
  split
  ·rename_i e;subst e;exact hw.1.vr h
  ·exact qAm hw.2 t v h
theorem qMt {cfg:D->HRep} {N:Nat} {tm tm2:Nat->Value} {H H2:AH D} (h:zNn P cfg N tm H tm2 H2) {ws:List (Nat × Value)} (hw:leT tm2 ws):zNn P cfg N tm H (wkT tm2 ws) H2:=fun ρ own w hr=> by
 obtain⟨ρ2,own2,a1,a2,a3,a4⟩:=h ρ own w hr
 exact⟨ρ2,own2,a1,a2,a3,fun t v hv=> qAm hw t v (a4 t v hv)⟩
theorem zP.args {cfg:D->HRep} {f:FuncId} {args args2:List Value} {K:AEnd->AH D->Prop} {H:AH D} (hl:args.length=args2.length) (hle:zEr args args2) (h:zP P cfg f args2 H K):zP P cfg f args H K:=
 ⟨h.1,fun ρ own w args' hr hv=> h.2 ρ own w args' hr (by
  have:=hle.vrs hv
  rwa [←hl,hv.length,List.take_length] at this)⟩
theorem zP.borrow {cfg:D->HRep} {f:FuncId} {args:List Value} {K:AEnd->AH D->Prop} {H:AH D} (k:Nat) {e:TypeId} {cs:List Value} (hk:H.get k=some (.arr e cs))
  (h:zP P cfg f args (H.upd k (.ro cs)) fun r H1=> H1.get k=some (.ro cs)/\(∀j cs2,j≠k->H1.get j=some (.ro cs2)->cs2≠[]->∃cs3,H.get j=some (.ro cs3)/\cs3≠[])/\K r (H1.upd k (.arr e cs))):zP P cfg f args H K:=by
 refine⟨h.1,fun ρ own w args' hr hv=> ?_⟩
 have hklt:=hr.lt hk
 have hob:=hr.obj k _ hk
 have r1:Rel P cfg ρ (fun j b=> j≠k/\own j b) (H.upd k (.ro cs)) w:=by
  refine⟨fun j hj=> ?_,hr.dom,fun j o ho=> ?_,fun j hj b hb=> ?_,fun j b hb=> hr.bound j b hb.2,fun j j' b hb hb'=> hr.disj j j' b hb.2 hb'.2,fun j cs' hj hcs l hl j' hb=> ?_⟩
  ·rw[AH.get_upd,if_neg (by simp only[AH.next_upd] at hj;omega)];exact hr.fresh j hj
  ·rw[AH.get_upd] at ho
   split at ho
   ·rename_i ej;subst ej;cases ho
    refine⟨fun i hi=> hi.1 rfl,fun hne=> ?_⟩
    rcases hob with ⟨l,cs',h1,h2,h3,h4,h5,h6,h7,h8,h9⟩|⟨h1,_⟩
    ·exact⟨l,cs',e,(0,0),h1,h6,by rw[h2];simpa using h7,by rw[h2];simpa using h8,h9⟩
    ·exact absurd h1 hne
   ·rename_i hjk
    have ee:(fun b=> j≠k/\own j b)=own j:=by funext b;simp[hjk]
    show zBt P cfg ρ (fun b=> j≠k/\own j b) j o w
    rw[ee];exact hr.obj j o ho
  ·rw[AH.get_upd] at hj
   split at hj
   ·cases hj
   ·exact hr.gone j hj b hb.2
  ·rw[AH.get_upd] at hj
   split at hj
   ·rename_i ej;subst ej;cases hj
    rcases hob with ⟨l',cs2,h1,h2,h3,h4,h5,h6,_⟩|⟨h1,_⟩
    ·rw[hl] at h1;cases h1
     exact hb.1 (hr.disj _ _ _ hb.2 ((h5 _).2 rfl))
    ·exact hcs h1
   ·exact hr.ro j cs' hj hcs l hl j' hb.2
 refine (h.2 ρ _ w args' r1 hv).mono fun en w1 ⟨r2,H1,ρ1,own1,⟨hg,hro,k1⟩,x1,v1,r1'⟩=> ?_
 have hk1:=r1'.lt hg
 rcases hob with ⟨l,cs',h1,h2,h3,h4,h5,h6,h7,h8,h9⟩|⟨h1,h2,l,h3,h4,h5,h6⟩
 ·have hlt:l.b<w.heap.size:=(Array.getElem?_eq_some_iff.1 h6).1
  have hno:∀j,¬own1 j l.b:=fun j hj=> by
   rcases x1.owned j _ hj with ⟨k0,h0⟩|h0
   ·exact h0.1 (hr.disj _ _ _ h0.2 ((h5 _).2 rfl))
   ·omega
  have hkept:w1.heap[l.b]?=w.heap[l.b]?:=x1.kept l.b hlt fun j hj=> hj.1 (hr.disj _ _ _ hj.2 ((h5 _).2 rfl))
  have hl1:ρ1.loc k=some l:=x1.le _ _ h1
  refine⟨r2,H1.upd k (.arr e cs),ρ1,fun j b=> if j=k then b=l.b else own1 j b,k1,⟨x1.le,fun j b hb=> ?_,x1.size,fun b hb hn=> x1.kept b hb fun j hj=> hn j hj.2,x1.os,x1.tape,x1.output⟩,v1,⟨fun j hj=> ?_,r1'.dom,fun j o ho=> ?_,fun j hj b hb=> ?_,fun j b hb=> ?_,fun j j' b hb hb'=> ?_,fun j cs2 hj hcs l2 hl2 j' hb=> ?_⟩⟩
  ·split at hb
   ·subst hb;exact .inl ⟨k,(h5 _).2 rfl⟩
   ·rcases x1.owned j b hb with ⟨k0,h0⟩|h0
    ·exact .inl ⟨k0,h0.2⟩
    ·exact .inr h0
  ·simp only[AH.next_upd] at hj
   rw[AH.get_upd,if_neg (by omega)];exact r1'.fresh j hj
  ·rw[AH.get_upd] at ho
   split at ho
   ·rename_i ej;subst ej;cases ho
    simp only[if_true]
    exact .inl ⟨l,cs',hl1,h2,h3,h4,fun i=> Iff.rfl,hkept.trans h6,h7,h8.mono x1.le,h9⟩
   ·rename_i hjk
    simp only[if_neg hjk]
    exact r1'.obj j o ho
  ·rw[AH.get_upd] at hj
   split at hj
   ·cases hj
   ·rename_i hjk
    simp only[if_neg hjk] at hb
    exact r1'.gone j hj b hb
  ·split at hb
   ·subst hb;exact Nat.lt_of_lt_of_le hlt x1.size
   ·exact r1'.bound j b hb
  ·split at hb<;> split at hb'
   ·omega
   ·subst hb;exact absurd hb' (hno j')
   ·subst hb';exact absurd hb (hno j)
   ·exact r1'.disj j j' b hb hb'
  ·rw[AH.get_upd] at hj
   split at hj
   ·cases hj
   ·split at hb
    ·
     rename_i hjk _
     obtain⟨cs3,g1,g2⟩:=hro j cs2 hjk hj hcs
     obtain⟨l3,c3,e3,fr3,q1,q2,_⟩:=(hr.obj j _ g1).2 g2
     have:=x1.le _ _ q1
     rw[hl2] at this;cases this
     rename_i hbl _
     exact hr.ro j cs3 g1 g2 _ q1 k ((h5 _).2 hb)
    ·exact r1'.ro j cs2 hj hcs l2 hl2 j' hb
 ·refine⟨r2,H1.upd k (.arr e cs),ρ1,own1,k1,⟨x1.le,fun j b hb=> ?_,x1.size,fun b hb hn=> x1.kept b hb fun j hj=> hn j hj.2,x1.os,x1.tape,x1.output⟩,v1,⟨fun j hj=> ?_,r1'.dom,fun j o ho=> ?_,fun j hj b hb=> ?_,r1'.bound,r1'.disj,fun j cs2 hj hcs l2 hl2 j' hb=> ?_⟩⟩
  ·rcases x1.owned j b hb with ⟨k0,h0⟩|h0
   ·exact .inl ⟨k0,h0.2⟩
   ·exact .inr h0
  ·simp only[AH.next_upd] at hj
   rw[AH.get_upd,if_neg (by omega)];exact r1'.fresh j hj
  ·rw[AH.get_upd] at ho
   split at ho
   ·rename_i ej;subst ej;cases ho
    exact .inr ⟨h1,(r1'.obj _ _ hg).1,l,x1.le _ _ h3,h4,h5,h6⟩
   ·exact r1'.obj j o ho
  ·rw[AH.get_upd] at hj
   split at hj
   ·cases hj
   ·exact r1'.gone j hj b hb
  ·rw[AH.get_upd] at hj
   split at hj
   ·cases hj
   ·exact r1'.ro j cs2 hj hcs l2 hl2 j' hb
theorem zQv {L:List (Option (AObj D))} (ps:List (Plan D)) (h:zEi frag L ps):xV P (zA5 P frag) (AH.of L) (AH.of (zE9 L ps)):=h.sees
end
theorem zVx (θ:Nat->Nat) (a b:List Value):zAu θ (a++b)=zAu θ a++zAu θ b:=by simp[zMr]
theorem zU8 (κ:Nat->Option Nat):∀l,backs κ l=l.map (back κ)
 |[]=> rfl
 |v::l=> by rw[backs,zU8 κ l];rfl
theorem zU9 (κ:Nat->Option Nat) (a b:List Value):backs κ (a++b)=backs κ a++backs κ b:=by simp[zU8]
section
variable {D:Type} (θ:Nat->Nat)
theorem zMs (e:TypeId) (cs:List Value):(AObj.arr e cs:AObj D).ren θ=.arr e (zAu θ cs):=rfl
theorem qRs (cs:List Value):(AObj.ro cs:AObj D).ren θ=.ro (zAu θ cs):=rfl
theorem qOc (es:List MapEntry) (c:Nat):(AObj.map es c:AObj D).ren θ=.map (es.map fun e=> ⟨ren θ e.key,ren θ e.val,e.born⟩) c:=rfl
theorem qHe (ps:List (Value × Value)):(AObj.mapq ps:AObj D).ren θ=.mapq (zJm θ ps):=rfl
theorem qCb (m s:Nat) (l:List Nat) (c:Nat):(AObj.miter m s l c:AObj D).ren θ=.miter (θ m) s l c:=rfl
theorem qCa (s:ByteArray) (n:Nat):(AObj.siter s n:AObj D).ren θ=.siter s n:=rfl
theorem zOt (d:D):(AObj.hi d:AObj D).ren θ=.hi d:=rfl
theorem zT1 (v:Value):zLp θ (.ret v)=.ret (ren θ v):=rfl
theorem qHh (v:Value):zLp θ (.pan v)=.pan (ren θ v):=rfl
end
attribute [simp] wkT leT zVx zU9 qR5 qR4 qO2 qH7 qDg qDf zDg zNv sh zMs qRs qOc qHe qCb qCa zOt zT1 qHh ren zAu zHp qH6 qDd qCw zKe zY3 zKi qO0 qO1 qOz zLv qDb qH4 qO3 zE9 zEi zSn zSi back backs qKp qKo qKq zSl qKn zIx kap qIc qDk
end Go.Abs
namespace Go.Abs
section
variable {D:Type} {P:Program} {cfg:D->HRep}
def AH.addn (H:AH D):AH D:={ next:=H.next+1,get:=fun j=> if j=H.next then none else H.get j }
def zF8 (θ:Nat->Nat) (H:AH D):List (Option (AObj D))->AH D
 |[]=> H
 |some o::l=> zF8 θ (H.add (o.ren θ)) l
 |none::l=> zF8 θ H.addn l
def AH.sub (H:AH D) (k:Nat):Option (AObj D)->AH D
 |some o=> H.upd k o
 |none=> H.del k
def zFc (θ:Nat->Nat) (H:AH D):List Nat->List (Option (AObj D))->AH D
 |[],l2=> zF8 θ H l2
 |_::_,[]=> H
 |k::ks,o::l2=> zFc θ (H.sub k (o.map (·.ren θ))) ks l2
theorem AH.sub_next (H:AH D) (k:Nat) (o:Option (AObj D)):(H.sub k o).next=H.next:=by cases o<;> rfl
theorem AH.sub_get (H:AH D) (k:Nat) (o:Option (AObj D)) (j:Nat):(H.sub k o).get j=if j=k then o else H.get j:=by cases o<;> rfl
theorem qOs (l:List (Option (AObj D))):(AH.of l).addn=AH.of (l++[none]):=by
 refine AH.ext' (by simp[AH.of,AH.addn]) fun k=> ?_
 show (if k=l.length then none else (AH.of l).get k)=_
 rw[of_get,of_get]
 by_cases hk:k=l.length
 ·subst hk;simp
 ·rw[if_neg hk]
  rcases Nat.lt_or_ge k l.length with h|h
  ·rw[List.getElem?_append_left h]
  ·rw[List.getElem?_append_right h,List.getElem?_eq_none h,List.getElem?_eq_none (by simp;omega)]
theorem zK1 (θ:Nat->Nat):∀(l:List (Option (AObj D))) (H:AH D),(zF8 θ H l).next=H.next+l.length
 |[],_=> rfl
 |some o::l,H=> by rw[zF8,zK1 θ l,AH.next_add,List.length_cons];omega
 |none::l,H=> by
  rw[zF8,zK1 θ l,List.length_cons]
  show H.next+1+l.length=_
  omega
theorem zMa (θ:Nat->Nat) (j:Nat):∀(l:List (Option (AObj D))) (H:AH D),(zF8 θ H l).get j=if H.next<=j/\j<H.next+l.length then ((l[j - H.next]?).join).map (·.ren θ) else H.get j
 |[],H=> by rw[zF8,if_neg (by rw[List.length_nil];omega)]
 |o::l,H=> by
  have key:∀H':AH D,H'.next=H.next+1->(∀i,H'.get i=if i=H.next then o.map (·.ren θ) else H.get i)->(zF8 θ H' l).get j=if H.next<=j/\j<H.next+(o::l).length then (((o::l)[j - H.next]?).join).map (·.ren θ) else H.get j:=by
   intro H' hn hg
   rw[zMa θ j l,hn,hg,List.length_cons]
   by_cases h:j=H.next
   ·subst h
    rw[if_neg (by omega),if_pos rfl,if_pos (by omega),Nat.sub_self]
    rfl
   ·by_cases h2:H.next+1<=j/\j<H.next+1+l.length
    ·rw[if_pos h2,if_pos (by omega)]
     obtain⟨m,hm⟩:∃m,j - H.next=m+1:=⟨j - H.next - 1,by omega⟩
     rw[hm,List.getElem?_cons_succ,show j - (H.next+1)=m by omega]
    ·rw[if_neg h2,if_neg h,if_neg (by omega)]
  cases o with
  |some o=> rw[zF8];exact key _ rfl fun i=> AH.get_add _ _ _
  |none=> rw[zF8];exact key _ rfl fun i=> rfl
theorem zQ0 (θ:Nat->Nat):∀(ks:List Nat) (l2:List (Option (AObj D))) (H:AH D),ks.length<=l2.length->(zFc θ H ks l2).next=H.next+(l2.length - ks.length)
 |[],l2,H,_=> by rw[zFc,zK1];rfl
 |k::ks,[],H,h=> by simp at h
 |k::ks,o::l2,H,h=> by
  rw[zFc,zQ0 θ ks l2 _ (by simpa using h),AH.sub_next,List.length_cons,List.length_cons];omega
theorem zNr (θ:Nat->Nat) (j:Nat):∀(ks:List Nat) (l2:List (Option (AObj D))) (H:AH D),ks.length<=l2.length->j<H.next->j∉ks->(zFc θ H ks l2).get j=H.get j
 |[],l2,H,_,hj,_=> by rw[zFc,zMa,if_neg (by omega)]
 |k::ks,[],H,h,_,_=> by simp at h
 |k::ks,o::l2,H,h,hj,hn=> by
  simp only[List.mem_cons,not_or] at hn
  rw[zFc,zNr θ j ks l2 _ (by simpa using h) (by rwa [AH.sub_next]) hn.2,AH.sub_get,if_neg hn.1]
theorem zT4 (θ:Nat->Nat) (m:Nat):∀(ks:List Nat) (l2:List (Option (AObj D))) (H:AH D),ks.length<=l2.length->(∀k∈ks,k<H.next)->(∀j,H.next<=j->H.get j=none)->(zFc θ H ks l2).get (H.next+m)=((l2[ks.length+m]?).join).map (·.ren θ)
 |[],l2,H,_,_,hf=> by
  rw[zFc,zMa,List.length_nil,Nat.zero_add,Nat.add_sub_cancel_left]
  by_cases h:m<l2.length
  ·rw[if_pos (by omega)]
  ·rw[if_neg (by omega),List.getElem?_eq_none (by omega),hf _ (by omega)];rfl
 |k::ks,[],H,h,_,_=> by simp at h
 |k::ks,o::l2,H,h,hlt,hf=> by
  have hk:=hlt k (by simp)
  have:=zT4 θ m ks l2 (H.sub k (o.map (·.ren θ))) (by simpa using h) (fun k' hk'=> by rw[AH.sub_next];exact hlt k' (by simp[hk'])) (fun j hj=> by
   rw[AH.sub_next] at hj
   rw[AH.sub_get,if_neg (by omega)];exact hf j hj)
  rw[AH.sub_next] at this
  rw[zFc,this,List.length_cons,show ks.length+1+m=ks.length+m+1 by omega,List.getElem?_cons_succ]
theorem zW4 (θ:Nat->Nat):∀(ks:List Nat) (l2:List (Option (AObj D))) (H:AH D),ks.length<=l2.length->ks.Nodup->(∀k∈ks,k<H.next)->∀i,i<ks.length->(zFc θ H ks l2).get (ks.getD i 0)=((l2[i]?).join).map (·.ren θ)
 |[],l2,H,_,_,_,i,hi=> by simp at hi
 |k::ks,[],H,h,_,_,_,_=> by simp at h
 |k::ks,o::l2,H,h,hn,hlt,i,hi=> by
  rw[List.nodup_cons] at hn
  cases i with
  |zero=>
   rw[zFc]
   show (zFc θ (H.sub k (o.map (·.ren θ))) ks l2).get k=_
   rw[zNr θ k ks l2 _ (by simpa using h) (by rw[AH.sub_next];exact hlt k (by simp)) hn.1,AH.sub_get,if_pos rfl]
   cases o<;> rfl
  |succ i=>
   rw[zFc]
   exact zW4 θ ks l2 _ (by simpa using h) hn.2 (fun k' hk'=> by rw[AH.sub_next];exact hlt k' (by simp[hk'])) i (by simpa using hi)
theorem qJa {H:AH D} {l2:List (Option (AObj D))} {ks:List Nat} (hn:ks.Nodup) (hlt:∀k∈ks,k<H.next) (hf:∀j,H.next<=j->H.get j=none) (hl2:ks.length<=l2.length):
  H.emb (sh ks.length H.next ks) ks.length (AH.of l2)=zFc (sh ks.length H.next ks) H ks l2:=by
 have inj:=zTp hn hlt
 refine AH.ext' ?_ fun j=> ?_
 ·show H.next+(l2.length - ks.length)=_
  rw[zQ0 _ _ _ _ hl2]
 ·by_cases hj:∃i,sh ks.length H.next ks i=j
  ·obtain⟨i,rfl⟩:=hj
   rw[AH.emb_img inj,of_get]
   rcases Nat.lt_or_ge i ks.length with hi|hi
   ·rw[zEn hi,zW4 _ _ _ _ hl2 hn hlt i hi]
   ·rw[zH8 hi,zT4 _ _ _ _ _ hl2 hlt hf]
    congr 4;omega
  ·rw[AH.emb_oth hj]
   have hjl:j<H.next:=by
    refine Nat.lt_of_not_le fun hle=> hj ⟨ks.length+(j - H.next),?_⟩
    rw[zH8 (by omega)];omega
   have hjn:j∉ks:=fun hm=> by
    obtain⟨i,hi,rfl⟩:=List.getElem_of_mem hm
    refine hj ⟨i,?_⟩
    rw[zEn hi,List.getD_eq_getElem?_getD,List.getElem?_eq_getElem hi];rfl
   rw[zNr _ _ _ _ _ hl2 hjl hjn]
def zTw (l l2:List (Option (AObj D))):Prop:=∀(i:Nat) (cs:List Value),(l2[i]?).join=some (.ro cs)->cs≠[]->∃cs',(l[i]?).join=some (.ro cs')/\cs'≠[]
theorem xE {l l2:List (Option (AObj D))} (h:l2.all (fun o=> match o with|some (.ro _)=> false|_=> true)=true):zTw l l2:=by
 intro i cs hi
 cases hx:l2[i]? with
 |none=> rw[hx] at hi;cases hi
 |some o=>
  rw[hx] at hi
  have:=List.all_eq_true.1 h o (List.mem_of_getElem? hx)
  simp only[Option.join_some] at hi
  subst hi
  cases this
theorem zG6 {l l2:List (Option (AObj D))} (h:∀(i:Nat) (cs:List Value),(l2[i]?).join=some (.ro cs)->(l[i]?).join=some (.ro cs)):zTw l l2:=fun i cs hi hne=> ⟨cs,h i cs hi,hne⟩
def atK (H:AH D) (θ:Nat->Nat):List Nat->List (Option (AObj D))->Prop
 |[],[]=> True
 |k::ks,some o::l=> H.get k=some (o.ren θ)/\atK H θ ks l
 |_,_=> False
theorem atK.length {H:AH D} {θ:Nat->Nat}:∀{ks:List Nat} {l:List (Option (AObj D))},atK H θ ks l->ks.length=l.length
 |[],[],_=> rfl
 |[],_::_,h=> h.elim
 |_::_,[],h=> h.elim
 |_::_,none::_,h=> h.elim
 |_::_,some _::_,h=> by simp[atK.length h.2]
theorem atK.get {H:AH D} {θ:Nat->Nat}:∀{ks:List Nat} {l:List (Option (AObj D))},atK H θ ks l->∀i,i<ks.length->∃o,(l[i]?).join=some o/\H.get (ks.getD i 0)=some (o.ren θ)
 |[],[],_,i,hi=> by simp at hi
 |[],_::_,h,_,_=> h.elim
 |_::_,[],h,_,_=> h.elim
 |_::_,none::_,h,_,_=> h.elim
 |k::ks,some o::l,h,0,_=> ⟨o,rfl,h.1⟩
 |k::ks,some o::l,h,i+1,hi=> by
  obtain⟨x,h1,h2⟩:=atK.get h.2 i (by simpa using hi)
  exact⟨x,by simpa using h1,h2⟩
theorem zP.atK {f:FuncId} {args0:List Value} {l l2:List (Option (AObj D))} {r:AEnd} (h:zP P cfg f args0 (AH.of l) fun r' H'=> r'=r/\H'=AH.of l2) (hro:zTw l l2) {H:AH D} (ks:List Nat)
  (hn:ks.Nodup) (hl2:ks.length<=l2.length) (hat:Abs.atK H (sh ks.length H.next ks) ks l) {args:List Value} (ha:args=zAu (sh ks.length H.next ks) args0) {r':AEnd} (hr':r'=zLp (sh ks.length H.next ks) r) {H':AH D} (hH:H'=zFc (sh ks.length H.next ks) H ks l2):
  zP P cfg f args H fun r1 H1=> r1=r'/\H1=H':=by
 subst ha hr' hH
 refine⟨h.1,fun ρ own w args' hrel hv=> ?_⟩
 have hlt:∀k∈ks,k<H.next:=fun k hk=> by
  obtain⟨i,hi,rfl⟩:=List.getElem_of_mem hk
  obtain⟨o,_,h2⟩:=hat.get i hi
  rw[List.getD_eq_getElem?_getD,List.getElem?_eq_getElem hi] at h2
  exact hrel.lt h2
 have hl:l.length=ks.length:=hat.length.symm
 have hem:Emb (sh ks.length H.next ks) (AH.of l) H:=Emb.of_keys (H:=H) hn hlt hl (fun i hi=> by
  rw[zGc] at hi;rw[of_get,List.getElem?_eq_none hi];rfl) fun i hi=> by
   obtain⟨o,h1,h2⟩:=hat.get i hi
   rw[h2,of_get,h1];rfl
 have hfr:=zP.frame hem h fun r1 H1 h1=> by
  obtain⟨_,rfl⟩:=h1
  exact⟨by rw[zGc,zGc,hl];exact hl2,fun i cs hi hne=> hro i cs hi hne⟩
 refine (hfr.2 ρ own w args' hrel hv).mono fun en w1 ⟨r1,H1,ρ1,own1,⟨r2,H2,⟨e1,e2⟩,e3,e4⟩,x1,v1,r1'⟩=> ⟨r1,H1,ρ1,own1,⟨by rw[e3,e1],?_⟩,x1,v1,r1'⟩
 rw[e4,e2,zGc,hl,qJa hn hlt hrel.fresh hl2]
end
attribute [simp] zFc zF8 AH.sub qOs atK
end Go.Abs
namespace Go.Abs
section
variable {D:Type} {C:Sg D} {F:Nat}
def zJv (I:Nat->(Nat->Value)->AH D->Prop) (m:Nat) (Q:AExit->(Nat->Value)->AH D->Prop):AExit->(Nat->Value)->AH D->Prop:=fun e tm H=> match e with
 |.normal=> ∃m',m'<m/\I m' tm H
 |e=> Q e tm H
variable {I:Nat->(Nat->Value)->AH D->Prop} {m:Nat} {Q:AExit->(Nat->Value)->AH D->Prop} {tm:Nat->Value} {H:AH D}
theorem zRo:zJv I m Q .normal tm H=∃m',m'<m/\I m' tm H:=rfl
theorem zVu {j:Nat}:zJv I m Q (.exit j) tm H=Q (.exit j) tm H:=rfl
theorem zYk:zJv I m Q .ret tm H=Q .ret tm H:=rfl
theorem zYl {v:Value}:zJv I m Q (.pan v) tm H=Q (.pan v) tm H:=rfl
def zLm (V:zK2 D) (N:Nat) (I:Nat->(Nat->Value)->AH D->Prop) (m:Nat) (tm:Nat->Value) (H:AH D):Prop:=∃tm2 H2,V N tm H tm2 H2/\∃m',m'<m/\I m' tm2 H2
def zLl (V:zK2 D) (N:Nat) (I:Nat->(Nat->Value)->AH D->Prop) (m:Nat) (Q:AExit->(Nat->Value)->AH D->Prop):AExit->(Nat->Value)->AH D->Prop:=fun e tm H=> match e with
 |.normal=> zLm V N I m tm H
 |e=> Q e tm H
variable {V:zK2 D} {N:Nat}
theorem zRn:zLl V N I m Q .normal tm H=zLm V N I m tm H:=rfl
theorem zVt {j:Nat}:zLl V N I m Q (.exit j) tm H=Q (.exit j) tm H:=rfl
theorem zYi:zLl V N I m Q .ret tm H=Q .ret tm H:=rfl
theorem zYj {v:Value}:zLl V N I m Q (.pan v) tm H=Q (.pan v) tm H:=rfl
theorem zAp (mono:zD8 C) (I:Nat->(Nat->Value)->AH D->Prop) {a:AC} {m:Nat} {tm:Nat->Value} {H:AH D} (h:I m tm H) (hm:m<F) (step:∀m tm H,I m tm H->a.wp C F (zJv I m Q) tm H):(AC.loop a).wp C F Q tm H:=by
 have key:∀N f m tm H,m<f->I m tm H->zIe C.view N (a.wp C F) f Q tm H:=by
  intro N f
  induction f with
  |zero=> intro m tm H hm;omega
  |succ f ih=>
   intro m tm H hm h
   refine AC.mono mono F a _ _ tm H (fun e tm' H' hh=> ?_) (step m tm H h)
   cases e with
   |normal=>
    obtain⟨m',h1,h2⟩:=hh
    exact .inl (ih m' tm' H' (by omega) h2)
   |_=> exact hh
 exact .inl (key H.next F m tm H hm h)
theorem zBm (mono:zD8 C) (I:Nat->(Nat->Value)->AH D->Prop) {a:AC} {m:Nat} {tm:Nat->Value} {H:AH D} (h:zLm C.view H.next I (m+1) tm H) (hm:m<F) (step:∀m tm H',I m tm H'->a.wp C F (zLl C.view H.next I m Q) tm H'):(AC.loop a).wp C F Q tm H:=by
 have key:∀f m tm H',m<f->I m tm H'->zIe C.view H.next (a.wp C F) f Q tm H':=by
  intro f
  induction f with
  |zero=> intro m tm H' hm;omega
  |succ f ih=>
   intro m tm H1 hm h
   refine AC.mono mono F a _ _ tm H1 (fun e tm' H' hh=> ?_) (step m tm H1 h)
   cases e with
   |normal=>
    obtain⟨tm2,H2,hs,m',h1,h2⟩:=hh
    exact .inr ⟨tm2,H2,hs,ih m' tm2 H2 (by omega) h2⟩
   |_=> exact hh
 obtain⟨tm2,H2,hs,m',h1,h2⟩:=h
 exact .inr ⟨tm2,H2,hs,key F m' tm2 H2 (by omega) h2⟩
variable {P:Program} {frag:D->List (AObj D)}
theorem qS {L:List (Option (AObj D))} (ps:List (Plan D)) (ks:List Nat) (l2:List (Option (AObj D))) (m':Nat) (hm:m'<m) (h:zEi frag L ps) (hn:zDg N (zE9 L ps) ks l2) (hI:I m' (fun t=> back (kap ks) (tm t)) (AH.of l2)):
 zLm (zNn P (zA5 P frag)) N I m tm (AH.of L):=⟨_,_,zQu ps ks h hn,m',hm,hI⟩
theorem zG5 {L:List (Option (AObj D))} (ps:List (Plan D)) (ks:List Nat) (l2:List (Option (AObj D))) (ws:List (Nat × Value)) (m':Nat) (hm:m'<m) (h:zEi frag L ps) (hn:zDg N (zE9 L ps) ks l2) (hw:leT (fun t=> back (kap ks) (tm t)) ws) (hI:I m' (wkT (fun t=> back (kap ks) (tm t)) ws) (AH.of l2)):
 zLm (zNn P (zA5 P frag)) N I m tm (AH.of L):=⟨_,_,qMt (zQu ps ks h hn) hw,m',hm,hI⟩
end
attribute [simp ↓] zVu zYk zYl zRn zVt zYi zYj
attribute [simp] zRo
end Go.Abs
namespace Go.Abs
theorem zBn {n:Int} (h0:0<=n) (h1:n<18446744073709551616):IntKind.u64.wrap n=n:=by
 simp[IntKind.wrap,IntKind.bits,IntKind.signed]
 omega
theorem qX {n:Int} (h0: -9223372036854775808<=n) (h1:n<9223372036854775808):IntKind.i64.wrap n=n:=by
 simp[IntKind.wrap,IntKind.bits,IntKind.signed]
 omega
theorem zVa {v:Int} (h0:0<=v) (h1:v<18446744073709551616):zIq .u64 v 9223372036854775808=((v.toNat % 9223372036854775808:Nat):Int):=by
 unfold zIq
 have e:(BitVec.ofInt IntKind.u64.bits v &&& ~~~BitVec.ofInt IntKind.u64.bits 9223372036854775808).toNat=v.toNat % 9223372036854775808:=by
  show (BitVec.ofInt 64 v &&& ~~~BitVec.ofInt 64 9223372036854775808).toNat=_
  have e2:(~~~BitVec.ofInt 64 9223372036854775808).toNat=2 ^ 63 - 1:=by decide
  have e1:(v % ((2 ^ 64:Nat):Int)).toNat=v.toNat:=by omega
  rw[BitVec.toNat_and,BitVec.toNat_ofInt,e2,e1]
  exact Nat.and_two_pow_sub_one_eq_mod v.toNat 63
 rw[e]
 exact zBn (by omega) (by omega)
theorem zYz (x:Nat):(FloatKind.f64.format.order x x==some .eq)=decide (x % 9223372036854775808<=9218868437227405312):=by
 have h:FloatKind.f64.format.order x x=((FloatKind.f64.format.read x).order (FloatKind.f64.format.read x)):=rfl
 have self:∀d:Ieee.Datum,(d.order d==some .eq)= !d.isNaN:=by
  intro d
  cases d with
  |number s m i=> simp[Ieee.Datum.order,Ieee.Datum.isNaN,Std.ReflCmp.compare_self]
  |infinity s=> simp[Ieee.Datum.order,Ieee.Datum.isNaN,Std.ReflCmp.compare_self]
  |nan s t=> simp[Ieee.Datum.order,Ieee.Datum.isNaN]
 rw[h,self]
 have e1:FloatKind.f64.format.signWeight=9223372036854775808:=by decide
 have e2:FloatKind.f64.format.infRung=9218868437227405312:=by decide
 unfold Ieee.Format.read
 simp only[e1,e2]
 have e3:FloatKind.f64.format.binade=4503599627370496:=by decide
 simp only[e3]
 split
 ·rename_i h;simp[Ieee.Datum.isNaN];omega
 ·split
  ·simp[Ieee.Datum.isNaN];omega
  ·split
   ·simp[Ieee.Datum.isNaN];omega
   ·simp[Ieee.Datum.isNaN];omega
theorem zP0 {s:Bool} {k v:Value} {c:Nat}:∀{es:List MapEntry},zB7 s k es=some none->zGn s k v c es=some (es++[⟨k,v,c⟩],c+1)
 |[],_=> rfl
 |e::es,h=> by
  rw[zB7] at h
  split at h
  ·cases h
  ·rename_i hs
   rw[zGn,hs]
   simp only[zP0 h,Option.map_some,List.cons_append]
  ·cases h
theorem zT8 (a b:List MapEntry):zB4 (a++b)=zB4 a++zB4 b:=by simp[zB4]
theorem zA3.add {ps:List (Value × Value)} {es:List MapEntry} {c:Nat} (h:zA3 ps es c) (k v:Value):zA3 (ps++[(k,v)]) (es++[⟨k,v,c⟩]) (c+1):=by
 obtain⟨h1,h2,h3⟩:=h
 refine⟨?_,?_,fun e he=> ?_⟩
 ·rw[zT8];exact h1.append (List.Perm.refl _)
 ·rw[List.map_append,List.nodup_append]
  refine⟨h2,by simp,fun a ha b hb=> ?_⟩
  obtain⟨e,he,rfl⟩:=List.mem_map.1 ha
  have:b=c:=by simpa using hb
  have:=h3 e he
  omega
 ·rcases List.mem_append.1 he with he|he
  ·have:=h3 e he;omega
  ·have:e=⟨k,v,c⟩:=by simpa using he
   subst this;show c<c+1;omega
theorem zA3.len {ps:List (Value × Value)} {es:List MapEntry} {c:Nat} (h:zA3 ps es c):es.length=ps.length:=by
 have:=h.1.length_eq
 simpa [zB4] using this
theorem zA3.nil (c:Nat):zA3 [] [] c:=⟨.refl _,by simp,fun e he=> by simp at he⟩
end Go.Abs
namespace Go.Abs
open Go.RowKit Go.ChangeShapes Go.WideShapes Go.ChangeAt
def zGh (P:Program) (l:List TypeId):Bool:=laidOutB P && mapsRowed P && l.all fun t=> decide (t<P.types.size) && (match P.underlying t with
 |some (.pointer e)=> l.contains e
 |some (.slice e)=> l.contains e && decide (0<P.cellsOf e)
 |some (.array _ e)=> l.contains e
 |some (.struct fs)=> fs.toList.all fun f=> l.contains f.type
 |some (.map _ e)=> l.contains e
 |_=> true)
section
variable {P:Program} {l:List TypeId}
theorem zGg (h:zGh P l=true) {t:TypeId} (ht:t∈l):t<P.types.size/\(match P.underlying t with
 |some (.pointer e)=> l.contains e
 |some (.slice e)=> l.contains e && decide (0<P.cellsOf e)
 |some (.array _ e)=> l.contains e
 |some (.struct fs)=> fs.toList.all fun f=> l.contains f.type
 |some (.map _ e)=> l.contains e
 |_=> true)=true:=by
 unfold zGh at h
 simp only[Bool.and_eq_true] at h
 have:=List.all_eq_true.1 h.2 t ht
 simp only[Bool.and_eq_true,decide_eq_true_eq] at this
 exact this
theorem qO5 (h:zGh P l=true):Kids P (· ∈l):=by
 have hh:=h
 unfold zGh at hh
 simp only[Bool.and_eq_true] at hh
 have K:=kids_rows hh.1.1 hh.1.2
 refine⟨fun {t e} ht hu=> ?_,fun {t e} ht hu=> ?_,fun {t e n} ht hu=> ?_,fun {t fs} ht hu=> ?_,fun {t k e} ht hu=> ?_⟩
 ·have:=(zGg h ht).2;rw[hu] at this;simpa using this
 ·have:=(zGg h ht).2;rw[hu] at this;simp at this;exact this.1
 ·have:=zGg h ht
  refine⟨?_,(K.array this.1 hu).2⟩
  have h2:=this.2;rw[hu] at h2;simpa using h2
 ·have:=zGg h ht
  refine⟨?_,(K.struct this.1 hu).2⟩
  have h2:=this.2;rw[hu] at h2
  intro f hf
  have:=List.all_eq_true.1 h2 f hf
  simpa using this
 ·have:=(zGg h ht).2;rw[hu] at this;simpa using this
theorem qRv (h:zGh P l=true) {t e:TypeId} (ht:t∈l) (hu:P.underlying t=some (.slice e)):0<P.cellsOf e:=by
 have:=(zGg h ht).2;rw[hu] at this;simp at this;exact this.2
variable {H:Type} {enc:TypeId × Value->H} {W W':World}
theorem zK4 (h:zGh P l=true) {sp:Nat->Bool}:∀{ts:List TypeId} {vs:List Value} {ds:List (DataW H)} {ps:List MemPlace},DataW.TrodAll enc P W 0 (fun _=> true) true ts vs ds ps->(∀t∈ts,t∈l)->
  (∀p∈ps,W.sameAt W' p)->(∀p∈ps,sp p.block=true)->DataW.TrodAll enc P W' 0 sp true ts vs ds ps
 |[],[],[],_,hd,_,_,_=> hd
 |t::ts,v::vs,d::ds,ps,⟨p,q,⟨n,hn⟩,hq,e⟩,ht,hs,hsp=> by
  subst e
  refine⟨p,q,⟨n,?_⟩,zK4 h hq (fun t ht'=> ht t (by simp[ht'])) (fun x hx=> hs x (by simp[hx])) (fun x hx=> hsp x (by simp[hx])),rfl⟩
  exact DataW.trod_stays (qO5 h) (fun ht hu=> qRv h ht hu) (fun hh=> by cases hh) (ht t (by simp)) hn (fun x hx=> hs x (by simp[hx])) (fun x hx=> hsp x (by simp[hx]))
theorem qH8 {f:Func} {s:ChangeSpec} {apart fresh handsOn again:Bool} {args:Array Value} {ds gs:List (DataW H)} {before:List MemPlace} {tb:TypeId} (hvars:s.vars=[]) (hfn:s.fn H ds={ results:=[.lit (.bool true)],args:=ds })
  (hW:DataW.Whole enc P f.params.toList s.vars apart W args.toList ds gs before) (hl:zGh P l=true) (hts:∀t∈f.params.toList,t∈l) (hr:f.resultTypes=#[tb]) (htb:P.underlying tb=some .bool) (hb:Below W.heap.size W W'):
  s.post enc P f apart fresh handsOn again W args (.bool true) W':=by
 have hlt:=fun p hp=> hW.lt p hp
 have hW0:=hW
 obtain⟨p,q,hA,hV,rfl,hz,hn⟩:=hW
 rw[hvars] at hV
 have hgs:gs=[]/\q=[]:=by
  cases gs with
  |nil=> exact⟨rfl,hV⟩
  |cons _ _=> exact hV.elim
 obtain⟨rfl,rfl⟩:=hgs
 simp only[List.append_nil] at hlt hz hn hW0
 have hsame:∀x∈p,W.sameAt W' x:=fun x hx=> hb.same (hlt x hx)
 have hargs:∀sp:Nat->Bool,(∀x∈p,sp x.block=true)->DataW.TrodAll enc P W' 0 sp true f.params.toList args.toList ds p:=fun sp hsp=> zK4 hl hA hts hsame hsp
 have hres:∀(b:Nat) (sp:Nat->Bool) (hd:Bool),DataW.TrodAll enc P W' b sp hd f.resultTypes.toList ((Value.bool true).resultList f.resultTypes.size) [.lit (.bool true)] []:=fun b sp hd=> by
  rw[hr]
  exact trodAll_cons_mk (shut_bool htb true) trodAll_mk0
 have hfn':s.fn H (ds++[])={ results:=[.lit (.bool true)],args:=ds }:=by rw[List.append_nil];exact hfn
 have hvs:∀sp:Nat->Bool,DataW.TrodVars enc P W' sp s.vars ([]:List (DataW H)) []:=fun sp=> by rw[hvars];exact rfl
 refine⟨ds,[],p,[],p,[],hW0,?_,?_,?_,World.keptBut_mono (fun x hx=> ⟨hx,?_⟩) (hb.frame (· ∈p)),fun _=> ?_⟩
 ·rw[hfn'];exact hres _ _ _
 ·rw[hfn'];exact hargs _ (fun x hx=> by simpa using hlt x hx)
 ·rw[hfn'];exact hvs _
 ·exact .inr (by simpa using hx)
 ·refine⟨ok_one hr rfl (okWide_bool_mk htb true),_,_,p,⟨p,[],by have:=trodAll_append (hargs (fun _=> true) (fun _ _=> rfl)) (hres 0 (fun _=> true) true);simpa using this,hvs _,by simp,?_,?_⟩,?_⟩
  ·intro b off hp
   rw[hb.frozen (hlt _ hp)]
   exact hz b off hp
  ·intro ha;exact hn ha
  ·intro x hx _;simpa using hx
end
def zVj (w:World) (v:Value) (n:Nat) (cs:List Value):Prop:=
 (n=0/\cs=[]/\∃a cc,v=.slice a 0 cc/\(a=none->cc=0))∨
 (∃b off cc c' e fr,v=.slice (some ⟨b,off,none⟩) n cc/\n<=cc/\w.heap[b]?=some (.cells c' e fr)/\off+cs.length<=c'.size/\(c'.toList.drop off).take cs.length=cs)
section
variable {D:Type} {P:Program} {cfg:D->HRep} {w:World}
theorem qOe:Rel P cfg ⟨fun _=> none⟩ (fun _ _=> False) (AH.of ([]:List (Option (AObj D)))) w:=
 ⟨fun k _=> by simp[of_get],fun _ _=> rfl,fun k o h=> by simp[of_get] at h,fun _ _ _ h=> h,fun _ _ h=> h.elim,fun _ _ _ h=> h.elim,fun k cs h=> by simp[of_get] at h⟩
theorem Rel.addRo {ρ:Env} {own:Nat->Nat->Prop} {H:AH D} (hr:Rel P cfg ρ own H w) (hown:∀k b,¬own k b) {v:Value} {n:Nat} {cs:List Value} (hg:xI cs=true) (h1:cs.all (·.oneCell')=true) (hv:zVj w v n cs):
  ∃ρ',Rel P cfg ρ' own (H.add (.ro cs)) w/\ρ.le ρ'/\VR ρ' (.slice (some ⟨H.next,0,none⟩) n 0) v:=by
 have key:∀ρ':Env,ρ.le ρ'->(∀k,H.next+1<=k->ρ'.loc k=none)->zBt P cfg ρ' (own H.next) H.next (.ro cs) w->Rel P cfg ρ' own (H.add (.ro cs)) w:=by
  intro ρ' hle hd hob
  refine⟨fun k hk=> ?_,fun k hk=> hd k hk,fun k o ho=> ?_,fun k _ b hb=> hown k b hb,fun k b hb=> (hown k b hb).elim,fun k _ b hb=> (hown k b hb).elim,fun k _ _ _ l _ k' hb=> hown k' l.b hb⟩
  ·simp only[AH.next_add] at hk
   rw[AH.get_add,if_neg (by omega)];exact hr.fresh k (by omega)
  ·rw[AH.get_add] at ho
   split at ho
   ·rename_i e;subst e;cases ho;exact hob
   ·exact (hr.obj k o ho).keep P cfg hle (fun _ _=> rfl) fun _ _ _ _ _=> rfl
 rcases hv with ⟨rfl,rfl,a,cc,rfl,hcc⟩|⟨b,off,cc,c',e,fr,rfl,hn,hh,hsz,hcs⟩
 ·exact⟨ρ,key ρ ρ.le_refl (fun k hk=> hr.dom k (by omega)) ⟨fun i=> hown _ i,fun h=> (h rfl).elim⟩,ρ.le_refl,.slicen _ _ a cc (by omega) (fun h=> by
  rcases h with h|h
  ·omega
  ·exact hcc h)⟩
 ·have hle:ρ.le (ρ.put H.next ⟨b,off,0,0⟩):=Env.put_le (hr.dom _ (Nat.le_refl _))
  refine⟨ρ.put H.next ⟨b,off,0,0⟩,key _ hle (fun k hk=> ?_) ⟨fun i=> hown _ i,fun _=> ⟨⟨b,off,0,0⟩,c',e,fr,by simp[Env.loc_put],hh,hsz,?_,h1⟩⟩,hle,?_⟩
  ·rw[Env.loc_put,if_neg (by omega)];exact hr.dom k (by omega)
  ·show VRs _ cs ((c'.toList.drop off).take cs.length)
   rw[hcs];exact VRs.of_ground _ _ hg
  ·exact .slice _ _ _ _ _ _ ⟨b,off,0,0⟩ (by simp[Env.loc_put]) hn (fun _=> rfl) (fun h=> by omega) (fun m h=> by omega)
variable {H:Type} {enc:TypeId × Value->H}
theorem zWj {a:Addr} {n:Nat} {cs:List Value} (hn:0<n) (h:w.cells? 0 a n=some cs):∃c' e fr,a.spot=none/\w.heap[a.block]?=some (.cells c' e fr)/\a.off+n<=c'.size/\(c'.toList.drop a.off).take n=cs:=by
 obtain⟨_,hlen,hc⟩:=World.cells?_some h
 have hat:∀i,i<n->∃v,cs[i]?=some v:=fun i hi=> ⟨cs[i],List.getElem?_eq_getElem (by omega)⟩
 obtain⟨v0,hv0⟩:=hat 0 hn
 have h0:=hc 0 hn
 rw[hv0] at h0
 have ha0:a.add 0=a:=by simp[Addr.add]
 rw[ha0] at h0
 unfold World.cell? at h0
 split at h0
 case h_2=> cases h0
 rename_i c' e fr hh
 have hsp:a.spot=none:=by
  cases hs:a.spot with
  |none=> rfl
  |some x=> rw[hs] at h0;simp at h0
 have hcell:∀i,i<n->c'[a.off+i]?=cs[i]?:=fun i hi=> by
  rw[←hc i hi]
  unfold World.cell?
  have e1:(a.add i).block=a.block:=by unfold Addr.add;split<;> rfl
  have e2:(a.add i).spot=none:=by unfold Addr.add;split<;> simp[hsp]
  have e3:(a.add i).off=a.off+i:=by
   unfold Addr.add
   split
   ·rename_i h0;subst h0;rfl
   ·rfl
  rw[e1,hh,e2,e3];rfl
 refine⟨c',e,fr,hsp,hh,?_,?_⟩
 ·obtain⟨v,hv⟩:=hat (n - 1) (by omega)
  have:=hcell (n - 1) (by omega)
  rw[hv] at this
  have:=(Array.getElem?_eq_some_iff.1 this).1
  omega
 ·refine List.ext_getElem? fun i=> ?_
  rw[List.getElem?_take]
  split
  ·rename_i hi
   rw[List.getElem?_drop,Array.getElem?_toList,hcell i hi]
  ·rename_i hi
   rw[List.getElem?_eq_none (by omega)]
theorem qCs {α:Type} {t e:TypeId} {ea:α->List Value} {Ok:α->Prop} {r:Reach} {b0:Nat} {v:Value} {d:DataW H} {ps:List MemPlace} (ht:P.underlying t=some (.slice e)) (hs:0<P.cellsOf e) (hlen:∀x,(ea x).length=P.cellsOf e)
  (hel:∀fuel cs y,DataW.trod enc P w 0 (fun _=> true) true fuel e cs=some y->∃x,cs=ea x/\Ok x) (hok:Value.okWide P w r b0 t v) (hd:DataW.Trod enc P w 0 (fun _=> true) true t v d ps):
  ∃l:List α,(∀x∈l,Ok x)/\l.length<=maxLen/\zVj w v l.length (l.flatMap ea):=by
 obtain⟨a,len,cap,rfl⟩:=okWide_slice ht hok
 obtain⟨fuel,hf⟩:=hd
 rcases Deep.open_slice ht hf with ⟨h1,_⟩|⟨a',len',cap',m,n,D,Pl,h1,_,hlc,hcm,hm,_,hx⟩
 ·simp only[Value.cells] at h1
  have h2:Value.slice a len cap=.slice none 0 0:=by simpa using h1
  cases h2
  exact⟨[],by simp,Nat.zero_le _,.inl ⟨rfl,rfl,none,0,rfl,fun _=> rfl⟩⟩
 ·simp only[Value.cells] at h1
  have h2:Value.slice a len cap=.slice (some a') len' cap':=by simpa using h1
  cases h2
  simp only[if_true] at hm
  subst hm
  rcases Nat.eq_zero_or_pos len with rfl|hpos
  ·exact⟨[],by simp,Nat.zero_le _,.inl ⟨rfl,rfl,some a',m,rfl,fun h=> by cases h⟩⟩
  ·have hi:∀i,i<len->∃x,w.cells? 0 (a'.add (i*P.cellsOf e)) (P.cellsOf e)=some (ea x)/\Ok x:=fun i hi=> by
    obtain⟨cs',h1,h2⟩:=hx i (by omega)
    obtain⟨x,rfl,hok⟩:=hel _ _ _ h2
    exact⟨x,h1,hok⟩
   have hfam:∀n,n<=len->∃l:List α,l.length=n/\(∀x∈l,Ok x)/\(0<n->∃c' ty fr,a'.spot=none/\w.heap[a'.block]?=some (.cells c' ty fr)/\a'.off+n*P.cellsOf e<=c'.size/\(c'.toList.drop a'.off).take (n*P.cellsOf e)=l.flatMap ea):=by
    intro n
    induction n with
    |zero=> intro _;exact⟨[],rfl,by simp,fun h=> absurd h (Nat.lt_irrefl _)⟩
    |succ n ih=>
     intro hn
     obtain⟨l,hl,hok,hrest⟩:=ih (by omega)
     obtain⟨x,hxc,hxo⟩:=hi n (by omega)
     obtain⟨c',ty,fr,q1,q2,q3,q4⟩:=zWj hs hxc
     have e1:(a'.add (n*P.cellsOf e)).block=a'.block:=by unfold Addr.add;split<;> rfl
     have e3:(a'.add (n*P.cellsOf e)).off=a'.off+n*P.cellsOf e:=by
      unfold Addr.add
      split
      ·rename_i h0;rw[h0];rfl
      ·rfl
     rw[e1] at q2;rw[e3] at q3 q4
     have hsp:a'.spot=none:=by
      rcases Nat.eq_zero_or_pos n with rfl|h
      ·simpa [Addr.add] using q1
      ·exact (hrest h).choose_spec.choose_spec.choose_spec.1
     refine⟨l++[x],by simp[hl],fun y hy=> ?_,fun _=> ⟨c',ty,fr,hsp,q2,by rw[Nat.succ_mul];omega,?_⟩⟩
     ·rcases List.mem_append.1 hy with hy|hy
      ·exact hok y hy
      ·have:y=x:=by simpa using hy
       subst this;exact hxo
     ·have hsplit:∀(L:List Value) (p q:Nat),L.take (p+q)=L.take p++(L.drop p).take q:=fun L p q=> List.take_add
      rw[Nat.succ_mul,hsplit,List.drop_drop,q4,List.flatMap_append]
      congr 1
      ·rcases Nat.eq_zero_or_pos n with rfl|h
       ·have:l=[]:=List.eq_nil_of_length_eq_zero hl
        subst this;simp
       ·obtain⟨c2,ty2,fr2,_,g2,_,g4⟩:=hrest h
        rw[q2] at g2;cases g2
        exact g4
      ·simp
   obtain⟨l,hl,hok',hrest⟩:=hfam len (Nat.le_refl _)
   obtain⟨c',ty,fr,g1,g2,g3,g4⟩:=hrest hpos
   have hfl:(l.flatMap ea).length=len*P.cellsOf e:=by
    rw[←g4,List.length_take,List.length_drop,Array.length_toList];omega
   refine⟨l,hok',by omega,.inr ⟨a'.block,a'.off,m,c',ty,fr,?_,by omega,g2,by rw[hfl];exact g3,by rw[hfl];exact g4⟩⟩
   rw[hl]
   cases a'
   simp only at g1
   subst g1;rfl
theorem zTb {t:TypeId} {fs:Array Field} {fuel:Nat} {cs:List Value} {x:DataW H × List MemPlace} (ht:P.underlying t=some (.struct fs)) (hoff:(List.range fs.size).all (fun i=> match fs[i]? with|some f=> decide (f.offset=i) && decide (P.cellsOf f.type=1)|none=> false)=true)
  (h:DataW.trod enc P w 0 (fun _=> true) true fuel t cs=some x) (hsz:P.cellsOf t=fs.size):cs.length=fs.size/\∀(i:Nat) (f:Field),fs[i]?=some f->∃v n y,cs[i]?=some v/\DataW.trod enc P w 0 (fun _=> true) true n f.type [v]=some y:=by
 obtain⟨xs,n,_,_,h1,h2,h3⟩:=DataW.trod_struct ht h
 refine⟨by rw[h1,hsz],fun i f hf=> ?_⟩
 have hi:i<fs.size:=(Array.getElem?_eq_some_iff.1 hf).1
 have ho:=List.all_eq_true.1 hoff i (by simpa using hi)
 rw[hf] at ho
 simp only[Bool.and_eq_true,decide_eq_true_eq] at ho
 have h4:=h3 i f hf
 rw[ho.1,ho.2,List.getElem?_eq_getElem (by omega)] at h4
 have hci:i<cs.length:=by omega
 refine⟨cs[i],n,xs[i],List.getElem?_eq_getElem hci,?_⟩
 have h5:(cs.drop i).take 1=[cs[i]]:=by rw[List.drop_eq_getElem_cons hci];rfl
 rw[h5] at h4;exact h4
theorem qDi {f:FuncId} {args:List Value} {Hh:AH D} {ρ:Env} {own:Nat->Nat->Prop} {args':Array Value} {K:AEnd->AH D->Prop} (h:zP P cfg f args Hh K) (hK:∀r H',K r H'->r=.ret (.bool true)) (hr:Rel P cfg ρ own Hh w) (hown:∀k b,¬own k b) (hv:VRs ρ args args'.toList):
  Calls P f args' w fun e w'=> e=.returned (.bool true)/\Below w.heap.size w w':=by
 refine (h.2 ρ own w args' hr hv).mono fun e w' ⟨r,H',ρ',own',k,x,en,_⟩=> ?_
 have:=hK r H' k
 subst this
 refine⟨?_,⟨x.os,x.tape,x.output,x.size,fun b hb=> x.kept b hb fun k hk=> hown k b hk⟩⟩
 cases e with
 |returned v=>
  have:VR ρ' (.bool true) v:=en
  rw[this.bool_eq]
 |panicked c=> exact en.elim
 |outgrown=> exact en.elim
end
end Go.Abs
namespace Go.Abs
open Go.RowKit Go.Sort
section
variable {D:Type} {P:Program} {cfg:D->HRep}
theorem Rel.turnGrow {ρ:Env} {own:Nat->Nat->Prop} {H:AH D} {w:World} (h:Rel P cfg ρ own H w) {k b:Nat} {o o':AObj D} (hk:H.get k=some o) (hb:∀i,own k i↔i=b) {w':World}
  (hsz:w.heap.size<=w'.heap.size) (hoth:∀i,i<w.heap.size->i≠b->w'.heap[i]?=w.heap[i]?) (hok:zBt P cfg ρ (own k) k o' w') (hnr:∀cs,o'≠.ro cs):
  Rel P cfg ρ own (H.upd k o') w':=by
 refine⟨fun j hj=> ?_,h.dom,fun j x hj=> ?_,fun j hj=> ?_,fun j i hi=> Nat.lt_of_lt_of_le (h.bound j i hi) hsz,h.disj,fun j cs hj hcs=> ?_⟩
 ·rw[AH.get_upd]
  have:=h.lt hk
  simp only[AH.next_upd] at hj
  rw[if_neg (by omega)];exact h.fresh j hj
 ·rw[AH.get_upd] at hj
  split at hj
  ·rename_i e;subst e;cases hj;exact hok
  ·rename_i hne
   refine (h.obj j x hj).keep P cfg ρ.le_refl (fun i hi=> hoth i (h.bound j i hi) ?_) (fun cs l hx hcs hl=> ?_)
   ·rintro rfl
    exact hne (h.disj j k i hi ((hb i).2 rfl))
   ·subst hx
    obtain⟨l',cs',e',fr,h1,h3,_⟩:=(h.obj j _ hj).2 hcs
    rw[hl] at h1;cases h1
    refine hoth l.b (Array.getElem?_eq_some_iff.1 h3).1 fun e=> ?_
    exact h.ro j cs hj hcs _ hl k ((hb _).2 e)
 ·rw[AH.get_upd] at hj
  split at hj
  ·cases hj
  ·exact h.gone j hj
 ·rw[AH.get_upd] at hj
  split at hj
  ·cases hj;exact absurd rfl (hnr cs)
  ·exact h.ro j cs hj hcs
def qZ (l:List Int):List Value:=l.map (Value.int .i64)
def zE1 (l:List Int):List Int:=l.mergeSort fun x y=> decide (x<=y)
theorem zC4 (l:List Int):(qZ l).length=l.length:=by simp[qZ]
theorem zNe (l:List Int):xI (qZ l)=true:=by
 induction l with
 |nil=> rfl
 |cons e l ih=> simp[qZ,xI,xY] at ih⊢;exact ih
theorem qIe (l:List Int):(qZ l).all (·.oneCell')=true:=by simp[qZ,Value.oneCell']
theorem qHg (θ:Nat->Nat) (l:List Int):zAu θ (qZ l)=qZ l:=zAy θ _ (zNe l)
theorem zF7 (l:List Int):(zE1 l).length=l.length:=List.length_mergeSort l
theorem zVn (l:List Int):(zE1 l).Perm l:=List.mergeSort_perm l _
theorem zOn (l:List Int):(zE1 l).Pairwise (· <=·):=by
 have:=List.pairwise_mergeSort (le:=fun x y:Int=> decide (x<=y)) (by intro a b c;simp;omega) (by intro a b;simp;omega) l
 exact this.imp (by simp)
theorem qBg {f:FuncId} (hc:∀args w,(callFunc f args).run P w=.ok (.enter f args) w)
  (hs:∀(blk off cap:Nat) (zs:List Int) (w:World),Holds (Value.int .i64) w blk off zs.toArray->blk<w.heap.size->zs.length<4611686018427387904->
   Calls P f #[.slice (some ⟨blk,off,none⟩) zs.length cap] w fun e w'=> e=.returned (.tuple #[])/\∃n os,w'=grow (putRow (Value.int .i64) (Sort.ahead w n) blk off (zs.mergeSort fun x y=> decide (x<=y)).toArray) os)
  (e:TypeId) (zs:List Int) (tg:Nat) (hz:zs≠[]) (hsz:zs.length<4611686018427387904):
  zP P cfg f [.slice (some ⟨0,0,none⟩) zs.length tg] (AH.of [some (.arr e (qZ zs))]) fun r H'=> r=.ret (.tuple #[])/\H'=AH.of [some (.arr e (qZ (zE1 zs)))]:=by
 refine⟨hc,fun ρ own w args' hr hv=> ?_⟩
 have hk:(AH.of [some (AObj.arr e (qZ zs):AObj D)]).get 0=some (.arr e (qZ zs)):=rfl
 have hl0:0<zs.length:=List.length_pos_iff.2 hz
 obtain⟨v',rfl,hvv⟩:∃v',args'=#[v']/\VR ρ (.slice (some ⟨0,0,none⟩) zs.length tg) v':=by
  obtain⟨a⟩:=args'
  cases hv with
  |cons _ v' _ _ h1 h2=> cases h2;exact⟨v',rfl,h1⟩
 rcases hvv.slice_inv with ⟨o',cc,l,h1,h2,h3,h4,h5,rfl⟩|⟨_,h0,_⟩
 case inr=> omega
 rcases hr.obj 0 _ hk with ⟨l',cs',g1,g2,g3,g4,g5,g6,g7,g8,g9⟩|⟨g1,_⟩
 case inr=> exact absurd (by simpa [qZ] using g1) hz
 rw[h1] at g1;cases g1
 have ho:o'=0:=by rw[h3 hl0,g2]
 subst ho
 have ht:cs'.toList.take zs.length=zs.map (Value.int .i64):=by
  have:=VRs.ints_eq g8
  rw[zC4] at this;exact this
 have hlt:l.b<w.heap.size:=(Array.getElem?_eq_some_iff.1 g6).1
 refine (hs l.b 0 cc zs w (holds_of_blockI g6 ht) hlt hsz).mono ?_
 rintro en w' ⟨rfl,n,os,rfl⟩
 have hg:=grownBy_sortedI (w:=w) (g:=l.b) (n:=n) (os:=os) (zs.mergeSort fun x y=> decide (x<=y)).toArray
 have hh:=heap_sortedI (w:=w) (n:=n) (os:=os) (zs.mergeSort fun x y=> decide (x<=y)).toArray g6
 have hlen:(zs.mergeSort fun x y=> decide (x<=y)).length=zs.length:=List.length_mergeSort zs
 have hcs:zs.length<=cs'.size:=by rw[zC4] at g7;exact g7
 have hoth:∀i,i<w.heap.size->i≠l.b->(grow (putRow (Value.int .i64) (Sort.ahead w n) l.b 0 (zs.mergeSort fun x y=> decide (x<=y)).toArray) os).heap[i]?=w.heap[i]?:=fun i hi hne=> hg.block i hi fun e=> hne (by cases e;rfl)
 have hr':=hr.turnGrow hk g5 (o':=.arr e (qZ (zE1 zs))) hg.size hoth (.inl ⟨l,_,h1,g2,g3,by rw[g4];simp[putCells],g5,hh,by rw[zC4,zF7];simpa [putCells] using hcs,by
  rw[zC4,zF7]
  have:=take_putCellsI cs' (zs.mergeSort fun x y=> decide (x<=y)) (by omega)
  rw[hlen] at this
  rw[this];exact VRs.of_ground _ _ (zNe _),qIe _⟩) (by intro cs h;cases h)
 rw[zOy _ _ _ (by simp)] at hr'
 exact⟨.ret (.tuple #[]),_,ρ,own,⟨rfl,rfl⟩,⟨ρ.le_refl,fun j b hb=> .inl ⟨j,hb⟩,hg.size,fun b hb hn=> hoth b hb fun e=> hn 0 ((g5 b).2 e),rfl,rfl,rfl⟩,.tuple _ _ .nil,hr'⟩
def leR:AEnd->AEnd->Prop
 |.ret v,.ret w=> leV v w∨∃xs ys,v=.tuple xs/\w=.tuple ys/\xs.size=ys.size/\zEr xs.toList ys.toList
 |.pan v,.pan w=> v=w
 |_,_=> False
theorem zBw {v w:Value} (h:leV v w):leR (.ret v) (.ret w):=.inl h
theorem leR.endR {ρ:Env} {r r':AEnd} (h:leR r r') {en:Ending} (he:zG1 ρ r en):zG1 ρ r' en:=by
 cases r<;> cases r'<;> simp only[leR] at h
 ·cases en<;> simp only[zG1] at he⊢
  rcases h with h|⟨xs,ys,rfl,rfl,h1,h2⟩
  ·exact h.vr he
  ·obtain⟨zs,rfl,hz⟩:=he.tuple_inv
   refine .tuple _ _ ?_
   have:=h2.vrs hz
   have hl:=hz.length
   simp only[Array.length_toList] at hl this
   rwa [List.take_of_length_le (by simp;omega)] at this
 ·subst h;exact he
theorem zBx {frag:D->List (AObj D)} {n0:Nat} {r r' r2:AEnd} {H' H2:AH D} (h:leR r r') (e:ends P frag n0 r2 H2 r' H'):ends P frag n0 r2 H2 r H':=
 ⟨fun ρ own w hr=> by
  obtain⟨ρ2,own2,a1,a2,a3,a4⟩:=e.view ρ own w hr
  exact⟨ρ2,own2,a1,a2,a3,fun en he=> a4 en (h.endR he)⟩⟩
section
variable {C:Sg D} {F:Nat} {Q:AExit->(Nat->Value)->AH D->Prop} {tm:Nat->Value} {H:AH D}
theorem zQ5 (sm:zD8 C) {a:AC} (hF:0<F) (h:a.wp C F (zJv (fun _ _ _=> False) 0 Q) tm H):(AC.loop a).wp C F Q tm H:=by
 refine zAp sm (fun m tm' H'=> m=0/\tm'=tm/\H'=H) (m:=0) ⟨rfl,rfl,rfl⟩ hF ?_
 rintro m tm' H' ⟨rfl,rfl,rfl⟩
 refine AC.mono sm F a _ _ _ _ (fun e tm H hh=> ?_) h
 cases e with
 |normal=> obtain⟨m',h1,h2⟩:=hh;exact h2.elim
 |_=> exact hh
end
end
attribute [simp] zC4 qHg zF7
end Go.Abs
namespace Go.Abs
structure MMet (es vis:List MapEntry):Prop where
 sub:∀e∈vis,e∈es
 nd:(vis.map (·.born)).Nodup
theorem zEp {D:Type} {P:Program} {frag:D->List (AObj D)} {st:qW D} {args:List Value} {L:List (Option (AObj D))} {K:AEnd->AH D->Prop} (ps:List (Plan D)) (h:zEi frag L ps) (hk:goS (st args (AH.of (zE9 L ps))) (xV P (zA5 P frag)) st args (AH.of (zE9 L ps)) K):
  seeP (xV P (zA5 P frag)) st args (AH.of L) K:=by
 unfold goS at hk
 split at hk
 ·rename_i p r H' he
  exact⟨_,zQv ps h,by rw[he];exact hk⟩
 ·obtain⟨H1,h1,h2⟩:=hk
  exact⟨H1,(zQv ps h).trans h1,h2⟩
end Go.Abs
namespace Go.Abs
open Go
theorem qJ3 (k k':IntKind) (a b:Int):zBl .shl (.int k a) (.int k' b)=if b<0 then none else some (.int k (k.wrap (a*2 ^ min b.toNat k.bits))):=rfl
theorem qJ2 (k k':IntKind) (a b:Int):zBl .shr (.int k a) (.int k' b)=if b<0 then none else some (.int k (a.fdiv (2 ^ min b.toNat k.bits))):=rfl
attribute [simp] qJ3 qJ2
section
variable {D:Type}
theorem qCc (θ:Nat->Nat) (r:Loop) (n:Nat) (j:Option Jmp):(AObj.loopr r n j:AObj D).ren θ=.loopr r n j:=rfl
theorem qDh (r r':Loop) (n n':Nat) (j j':Option Jmp):leO (.loopr r n j:AObj D) (.loopr r' n' j')=(r=r'/\n=n'/\j=j'):=by simp[leO]
end
attribute [simp] qCc qDh
end Go.Abs
namespace Go.Abs
open Go.ChangeShapes Go.WideShapes Go.ChangeAt Go.RowKit
section
variable {P:Program} {H:Type} {enc:TypeId × Value->H} {w:World}
end
end Go.Abs
namespace Go.Abs
section
variable {D:Type} {P:Program} {cfg:D->HRep}
end
theorem zRb (a b:ByteArray):(a==b)=decide (a=b):=by
 show (a.data==b.data)=_
 rw[Bool.eq_iff_iff,beq_iff_eq,decide_eq_true_eq]
 exact⟨fun h=> ByteArray.ext h,fun h=> by rw[h]⟩
theorem qAl (a b:ByteArray):zBl .eql (.string a) (.string b)=some (.bool (decide (a=b))):=by
 show some (Value.bool (a.toList==b.toList))=_
 rw[←beq_toListBytes,zRb]
theorem qAk (a b:ByteArray):zBl .neq (.string a) (.string b)=some (.bool (decide (a≠b))):=by
 show some (Value.bool !(a.toList==b.toList))=_
 rw[←beq_toListBytes,zRb]
 simp
theorem zVm {D:Type} {e:TypeId} {z:List Value} {n:Nat} {ps:List (Nat × Nat × Opd)} {tm:Nat->Value} {H:AH D}:
  (AOp.bslice e z n ps).step tm H=(zEu z (ps.map fun p=> (p.1,p.2.1,p.2.2.ev tm))).bind fun l=> if l.all (·.oneCell') then some (.slice (some ⟨H.next,0,none⟩) n 1,H.add (.arr e l)) else none:=by
 show (match zEu z (ps.map fun p=> (p.1,p.2.1,p.2.2.ev tm)) with
  |some l=> if l.all (·.oneCell') then some (Value.slice (some ⟨H.next,0,none⟩) n 1,H.add (.arr e l)) else none
  |none=> none)=_
 cases zEu z (ps.map fun p=> (p.1,p.2.1,p.2.2.ev tm))<;> rfl
attribute [simp high] zVm
attribute [simp] qAl qAk
end Go.Abs
namespace Go.Abs
section
variable {D:Type} {P:Program} {frag:D->List (AObj D)}
theorem xV.names {H:AH D} {L l2:List (Option (AObj D))} {ks:List Nat} (h:xV P (zA5 P frag) H (AH.of L)) (hn:zDg H.next L ks l2):xV P (zA5 P frag) H (AH.of l2):=fun ρ own w hr=> by
 obtain⟨ρ1,own1,a1,a2,a3⟩:=h ρ own w hr
 obtain⟨own2,b1,b2⟩:=hn.rel a1
 refine⟨_,own2,b1,fun k x hx=> ?_,fun b hb=> a3 b (b2 b hb)⟩
 have hk:k<H.next:=by
  rcases Nat.lt_or_ge k H.next with h|h
  ·exact h
  ·rw[hr.dom k h] at hx;cases hx
 show ρ1.loc (sh ks.length L.length ks k)=some x
 rw[hn.fix hk];exact a2 k x hx
end
end Go.Abs
namespace Go.Abs
open Go.RowKit Go.Sort
section
variable {D:Type} {P:Program} {cfg:D->HRep}
end
end Go.Abs
