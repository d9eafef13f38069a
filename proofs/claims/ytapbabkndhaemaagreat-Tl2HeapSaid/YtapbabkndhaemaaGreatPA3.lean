/-
  OPENING AND PACKING over heaps that are lists.
-/
import Derived.Test.YtapbabkndhaemaaGreatPA2
import Derived.ProofKit
import Derived.ChangeStays
import Derived.Deep.Slices
import Derived.OpenShut
import Derived.Sort.OwnSortedInts
import Derived.Sort.Row
import Derived.Lib.SlicesCompact
set_option linter.unusedSimpArgs false
set_option linter.unusedVariables false
set_option linter.unnecessarySimpa false
set_option linter.unusedSectionVars false
set_option maxHeartbeats 32000000
set_option maxRecDepth 100000
namespace Go.Abs
mutual
theorem zD0 (θ:Nat->Nat):∀(v:Value),xD v=true->ren θ v=v
 |.bool b,_=> by rw[ren]
 |.int k n,_=> by rw[ren]
 |.float k b,_=> by rw[ren]
 |.complex ..,h=> by simp[xD] at h
 |.string s,_=> by rw[ren]
 |.pointer none,_=> by rw[ren]
 |.pointer (some _),h=> by simp[xD] at h
 |.slice none n c,_=> by rw[ren]
 |.slice (some _) _ _,h=> by simp[xD] at h
 |.map none,_=> by rw[ren]
 |.map (some _),h=> by simp[xD] at h
 |.chan _,h=> by simp[xD] at h
 |.func ..,h=> by simp[xD] at h
 |.nilFunc,_=> by rw[ren]
 |.nilIface,_=> by rw[ren]
 |.iface t v,h=> by rw[ren,zD0 θ v (by simpa [xD] using h)]
 |.agg ⟨l⟩,h=> by rw[ren,xV θ l (by simpa [xD] using h)]
 |.tuple ⟨l⟩,h=> by rw[ren,xV θ l (by simpa [xD] using h)]
theorem xV (θ:Nat->Nat):∀(l:List Value),jJ l=true->zAh θ l=l
 |[],_=> by rw[zAh]
 |v::l,h=> by
  simp[jJ] at h
  rw[zAh,zD0 θ v h.1,xV θ l h.2]
end
theorem qAp (θ:Nat->Nat) {es:List MapEntry} (h:∀e∈es,xD e.key=true/\xD e.val=true):es.map (fun e=> (⟨ren θ e.key,ren θ e.val,e.born⟩:MapEntry))=es:=by
 induction es with
 |nil=> rfl
 |cons e es ih=>
  rw[List.map_cons,ih fun e he=> h e (by simp[he]),zD0 θ _ (h e (by simp)).1,zD0 θ _ (h e (by simp)).2]
section
variable {D:Type} {P:Program} {frag:D->List (AObj D)}
def zJq (l:List (Option (AObj D))):List Nat->List (Option (AObj D))
 |[]=> l
 |k::ks=> zJq (l.set k none) ks
theorem zNi (ks:List Nat):∀l:List (Option (AObj D)),(zJq l ks).length=l.length:=by
 induction ks with
 |nil=> intro l;rfl
 |cons k ks ih=> intro l;rw[zJq,ih,List.length_set]
theorem qDd (ks:List Nat) (j:Nat):∀l:List (Option (AObj D)),((zJq l ks)[j]?).join=if ks.contains j then none else (l[j]?).join:=by
 induction ks with
 |nil=> intro l;rfl
 |cons k ks ih=>
  intro l
  rw[zJq,ih,List.getElem?_set]
  by_cases h:j=k
  ·subst h
   simp
   intro _
   split<;> rfl
  ·have h':¬k=j:=fun e=> h e.symm
   simp[h,h']
theorem pack_of {l:List (Option (AObj D))} {d:D} {k0:Nat} {ks:List Nat} (hk:k0<l.length):(AH.of l).pack d (k0::ks)=AH.of ((zJq l ks).set k0 (some (.hi d))):=by
 refine AH.ext' (by simp[AH.pack,AH.of,zNi]) fun j=> ?_
 rw[of_get,List.getElem?_set]
 show (if j=(k0::ks).headD 0 then some (AObj.hi d) else if (k0::ks).contains j then none else (AH.of l).get j)=_
 by_cases h:j=k0
 ·subst h;simp[zNi,hk]
 ·have h':¬k0=j:=fun e=> h e.symm
  rw[if_neg (by simpa using h),if_neg h',qDd,of_get]
  simp[h]
def zK9:List (Option (AObj D))->List (AObj D)->Prop
 |[],[]=> True
 |some o::a,o'::b=> leO o o'/\zK9 a b
 |_,_=> False
theorem qM9:zK9 ([]:List (Option (AObj D))) []=True:=rfl
theorem qIb (o o':AObj D) (a:List (Option (AObj D))) (b:List (AObj D)):zK9 (some o::a) (o'::b)=(leO o o'/\zK9 a b):=rfl
theorem zK9.length:∀{a:List (Option (AObj D))} {b:List (AObj D)},zK9 a b->a.length=b.length
 |[],[],_=> rfl
 |[],_::_,h=> h.elim
 |none::_,[],h=> h.elim
 |none::_,_::_,h=> h.elim
 |some _::_,[],h=> h.elim
 |some _::_,_::_,h=> by simp[zK9.length h.2]
theorem zK9.get:∀{a:List (Option (AObj D))} {b:List (AObj D)},zK9 a b->∀i,i<a.length->∃o o',a[i]?=some (some o)/\b[i]?=some o'/\leO o o'
 |[],[],_,i,hi=> by simp at hi
 |[],_::_,h,_,_=> h.elim
 |none::_,[],h,_,_=> h.elim
 |none::_,_::_,h,_,_=> h.elim
 |some _::_,[],h,_,_=> h.elim
 |some o::a,o'::b,h,0,_=> ⟨o,o',rfl,rfl,h.1⟩
 |some o::a,o'::b,h,i+1,hi=> by
  obtain⟨x,y,h1,h2,h3⟩:=zK9.get h.2 i (by simpa using hi)
  exact⟨x,y,by simpa using h1,by simpa using h2,h3⟩
def zWa (frag:D->List (AObj D)) (L:List (Option (AObj D))) (d:D) (k0:Nat) (ks:List Nat):Prop:=
 (k0::ks).Nodup/\k0<L.length/\zK9 ((k0::ks).map fun k=> (L[k]?).join) ((frag d).map (·.ren (sh (ks.length+1) L.length (k0::ks))))/\(frag d).all (·.mine)=true/\∃e c cs,(frag d)[0]?=some (.arr e (c::cs))
def zV5 (L:List (Option (AObj D))) (d:D) (k0:Nat) (ks:List Nat):List (Option (AObj D)):=(zJq L ks).set k0 (some (.hi d))
theorem zWa.sees {L:List (Option (AObj D))} {d:D} {k0:Nat} {ks:List Nat} (h:zWa frag L d k0 ks):jT P (zAw P frag) (AH.of L) (AH.of (zV5 L d k0 ks)):=by
 obtain⟨h1,h2,h3,h4,h5⟩:=h
 have hl:=h3.length
 simp only[List.length_map,List.length_cons] at hl
 have:=jT.pack (P:=P) (H:=AH.of L) d (k0::ks) h1 (by simpa using hl.symm) (fun i hi=> ?_) h4 h5
 ·rwa [Abs.pack_of h2] at this
 ·obtain⟨o,o',e1,e2,e3⟩:=h3.get i (by simpa using hi)
  rw[List.getElem?_map] at e1 e2
  simp only[Option.map_eq_some_iff] at e1 e2
  obtain⟨k,hk,e1⟩:=e1
  obtain⟨o1,ho1,rfl⟩:=e2
  refine⟨o,o1,?_,ho1,e3⟩
  rw[of_get,List.getD_eq_getElem?_getD,hk];exact e1
inductive Plan (D:Type) where
 |nil (e:TypeId)
 |pack (d:D) (k0:Nat) (ks:List Nat)
def zGr (L:List (Option (AObj D))):List (Plan D)->List (Option (AObj D))
 |[]=> L
 |.nil e::ps=> zGr (L++[some (.arr e [])]) ps
 |.pack d k0 ks::ps=> zGr (zV5 L d k0 ks) ps
def zFt (frag:D->List (AObj D)) (L:List (Option (AObj D))):List (Plan D)->Prop
 |[]=> True
 |.nil e::ps=> zFt frag (L++[some (.arr e [])]) ps
 |.pack d k0 ks::ps=> zWa frag L d k0 ks/\zFt frag (zV5 L d k0 ks) ps
theorem zFt.sees:∀{ps:List (Plan D)} {L:List (Option (AObj D))},zFt frag L ps->jT P (zAw P frag) (AH.of L) (AH.of (zGr L ps))
 |[],L,_=> jT.refl _
 |.nil e::ps,L,h=> by
  have h1:=jT.nil (P:=P) (cfg:=zAw P frag) (AH.of L) e
  rw[zR7] at h1
  exact h1.trans (zFt.sees (ps:=ps) h)
 |.pack d k0 ks::ps,L,h=> h.1.sees.trans (zFt.sees (ps:=ps) h.2)
theorem Rel.drop {cfg:D->HRep} {ρ:Env} {own:Nat->Nat->Prop} {H H2:AH D} {w:World} (h:Rel P cfg ρ own H w) (hn:H2.next=H.next) (hg:∀k,H2.get k=H.get k∨H2.get k=none):
  Rel P cfg ρ (fun k b=> H2.get k≠none/\own k b) H2 w:=by
 have get:∀{k o},H2.get k=some o->H.get k=some o:=fun {k o} ho=> by
  rcases hg k with e|e
  ·rw[←e];exact ho
  ·rw[e] at ho;cases ho
 refine⟨fun k hk=> ?_,fun k hk=> h.dom k (by omega),fun k o ho=> ?_,fun k hk b hb=> hb.1 hk,fun k b hb=> h.bound k b hb.2,fun k k' b hb hb'=> h.disj k k' b hb.2 hb'.2,fun k cs hk hcs l hl k' hk'=> h.ro k cs (get hk) hcs l hl k' hk'.2⟩
 ·rcases hg k with e|e
  ·rw[e];exact h.fresh k (by omega)
  ·exact e
 ·have e:(fun b=> H2.get k≠none/\own k b)=own k:=by funext b;rw[ho];simp
  show zCd P cfg ρ (fun b=> H2.get k≠none/\own k b) k o w
  rw[e];exact h.obj k o (get ho)
def zE8 (θ:Nat->Nat):List (Option (AObj D))->List (Option (AObj D))->Prop
 |[],[]=> True
 |_::a,none::b=> zE8 θ a b
 |some o::a,some o'::b=> leO o (o'.ren θ)/\zE8 θ a b
 |_,_=> False
theorem qH0 (θ:Nat->Nat):zE8 θ ([]:List (Option (AObj D))) []=True:=rfl
theorem zMy (θ:Nat->Nat) (o:Option (AObj D)) (a b:List (Option (AObj D))):zE8 θ (o::a) (none::b)=zE8 θ a b:=by cases o<;> rfl
theorem qD9 (θ:Nat->Nat) (o o':AObj D) (a b:List (Option (AObj D))):zE8 θ (some o::a) (some o'::b)=(leO o (o'.ren θ)/\zE8 θ a b):=rfl
theorem zE8.length {θ:Nat->Nat}:∀{a b:List (Option (AObj D))},zE8 θ a b->a.length=b.length
 |[],[],_=> rfl
 |[],_::_,h=> h.elim
 |none::_,[],h=> h.elim
 |some _::_,[],h=> h.elim
 |none::_,some _::_,h=> h.elim
 |o::a,none::b,h=> by rw[zMy] at h;simp[zE8.length h]
 |some _::_,some _::_,h=> by simp[zE8.length h.2]
theorem zE8.get {θ:Nat->Nat}:∀{a b:List (Option (AObj D))},zE8 θ a b->∀i,i<a.length->(b[i]?).join=none∨∃o o',(a[i]?).join=some o/\(b[i]?).join=some o'/\leO o (o'.ren θ)
 |[],[],_,i,hi=> by simp at hi
 |[],_::_,h,_,_=> h.elim
 |none::_,[],h,_,_=> h.elim
 |some _::_,[],h,_,_=> h.elim
 |none::_,some _::_,h,_,_=> h.elim
 |o::a,none::b,h,0,_=> .inl rfl
 |some o::a,some o'::b,h,0,_=> .inr ⟨o,o',rfl,rfl,h.1⟩
 |o::a,none::b,h,i+1,hi=> by
  rw[zMy] at h
  simpa using zE8.get h i (by simpa using hi)
 |some o::a,some o'::b,h,i+1,hi=> by simpa using zE8.get h.2 i (by simpa using hi)
def zQq:Nat->Nat->List Nat->Prop
 |0,_,_=> True
 |_+1,_,[]=> False
 |n+1,i,k::ks=> k=i/\zQq n (i+1) ks
theorem zQq.get:∀{n i:Nat} {ks:List Nat},zQq n i ks->∀j,j<n->ks[j]?=some (i+j)
 |0,_,_,_,j,hj=> by omega
 |_+1,_,[],h,_,_=> h.elim
 |n+1,i,k::ks,h,0,_=> by simp[h.1]
 |n+1,i,k::ks,h,j+1,hj=> by
  have:=zQq.get h.2 j (by omega)
  rw[List.getElem?_cons_succ,this]
  congr 1;omega
def zEf (n0:Nat) (L:List (Option (AObj D))) (ks:List Nat) (l2:List (Option (AObj D))):Prop:=
 ks.Nodup/\(∀k∈ks,k<L.length)/\zE8 (sh ks.length L.length ks) (ks.map fun k=> (L[k]?).join) l2/\zQq n0 0 ks
theorem zEf.nodup {n0:Nat} {L l2:List (Option (AObj D))} {ks:List Nat} (h:zEf n0 L ks l2):ks.Nodup:=h.1
theorem zEf.lt {n0:Nat} {L l2:List (Option (AObj D))} {ks:List Nat} (h:zEf n0 L ks l2):∀k∈ks,k<L.length:=h.2.1
theorem zEf.same {n0:Nat} {L l2:List (Option (AObj D))} {ks:List Nat} (h:zEf n0 L ks l2):zE8 (sh ks.length L.length ks) (ks.map fun k=> (L[k]?).join) l2:=h.2.2.1
theorem zEf.rel {n0:Nat} {L l2:List (Option (AObj D))} {ks:List Nat} (h:zEf n0 L ks l2) {ρ:Env} {own:Nat->Nat->Prop} {w:World} {cfg:D->HRep} (hr:Rel P cfg ρ own (AH.of L) w):
  ∃own2,Rel P cfg (ρ.on (sh ks.length L.length ks)) own2 (AH.of l2) w/\∀b,(∃j,own2 j b)->∃j,own j b:=by
 have hlen:ks.length=l2.length:=by simpa using h.same.length
 have hat:∀i,i<ks.length->ks.idxOf? (ks.getD i 0)=some i:=fun i hi=> by
  rw[List.getD_eq_getElem?_getD,List.getElem?_eq_getElem hi,Option.getD_some]
  rw[List.idxOf?,List.findIdx?_eq_some_iff_getElem]
  refine⟨hi,by simp,fun j hj=> ?_⟩
  have hne:¬ks[j]=ks[i]:=fun e=> by
   have:=(List.getElem_inj h.nodup).1 e
   omega
  simpa using hne
 have hno:∀j i,ks.idxOf? j=some i->i<ks.length/\ks.getD i 0=j:=fun j i hi=> by
  rw[List.idxOf?,List.findIdx?_eq_some_iff_getElem] at hi
  obtain⟨h1,h2,_⟩:=hi
  refine⟨h1,?_⟩
  rw[List.getD_eq_getElem?_getD,List.getElem?_eq_getElem h1]
  simpa using h2
 have hget:∀i,i<ks.length->(l2[i]?).join=none∨∃o o',(AH.of L).get (ks.getD i 0)=some o/\(l2[i]?).join=some o'/\leO o (o'.ren (sh ks.length L.length ks)):=fun i hi=> by
  rcases h.same.get i (by simpa using hi) with e|⟨o,o',e1,e2,e3⟩
  ·exact .inl e
  ·refine .inr ⟨o,o',?_,e2,e3⟩
   rw[List.getElem?_map,List.getElem?_eq_getElem hi] at e1
   rw[of_get,List.getD_eq_getElem?_getD,List.getElem?_eq_getElem hi]
   exact e1
 let H1:AH D:=⟨L.length,fun j=> match ks.idxOf? j with
  |some i=> if (l2[i]?).join=none then none else (AH.of L).get j
  |none=> (AH.of L).get j⟩
 have r1:=hr.drop (H2:=H1) rfl fun j=> by
  show (match ks.idxOf? j with|some i=> if (l2[i]?).join=none then none else (AH.of L).get j|none=> (AH.of L).get j)=_∨(match ks.idxOf? j with|some i=> if (l2[i]?).join=none then none else (AH.of L).get j|none=> (AH.of L).get j)=_
  cases hj:ks.idxOf? j with
  |none=> exact .inl rfl
  |some i=>
   simp only
   split
   ·exact .inr rfl
   ·exact .inl rfl
 let H2:AH D:=⟨L.length,fun j=> match ks.idxOf? j with
  |some i=> ((l2[i]?).join).map (AObj.ren (sh ks.length L.length ks))
  |none=> (AH.of L).get j⟩
 have r2:Rel P cfg ρ _ H2 w:=r1.weaken rfl fun j=> by
  show (match ks.idxOf? j with|some i=> ((l2[i]?).join).map (AObj.ren (sh ks.length L.length ks))|none=> (AH.of L).get j)=(match ks.idxOf? j with|some i=> if (l2[i]?).join=none then none else (AH.of L).get j|none=> (AH.of L).get j)∨
   ∃o o',(match ks.idxOf? j with|some i=> if (l2[i]?).join=none then none else (AH.of L).get j|none=> (AH.of L).get j)=some o/\(match ks.idxOf? j with|some i=> ((l2[i]?).join).map (AObj.ren (sh ks.length L.length ks))|none=> (AH.of L).get j)=some o'/\leO o o'
  cases hj:ks.idxOf? j with
  |none=> exact .inl rfl
  |some i=>
   obtain⟨h1,rfl⟩:=hno j i hj
   simp only
   rcases hget i h1 with e|⟨o,o',e1,e2,e3⟩
   ·left;rw[e];rfl
   ·right
    refine⟨o,_,?_,?_,e3⟩
    ·rw[e2,if_neg (by simp)];exact e1
    ·rw[e2];rfl
 have hem:Emb (sh ks.length L.length ks) (AH.of l2) H2:=Emb.of_keys (H:=H2) h.nodup h.lt (by rw[zH2,hlen]) (fun i hi=> by
  rw[zH2] at hi;rw[of_get,List.getElem?_eq_none hi];rfl) fun i hi=> by
  show (match ks.idxOf? (ks.getD i 0) with|some i=> ((l2[i]?).join).map (AObj.ren (sh ks.length L.length ks))|none=> (AH.of L).get _)=_
  rw[hat i hi,of_get]
  rfl
 exact⟨_,hem.rel r2,fun b ⟨j,hb⟩=> ⟨_,hb.2.2⟩⟩
theorem zEf.fix {n0:Nat} {L l2:List (Option (AObj D))} {ks:List Nat} (h:zEf n0 L ks l2) {i:Nat} (hi:i<n0):sh ks.length L.length ks i=i:=by
 have h1:=zQq.get h.2.2.2 i hi
 have hik:i<ks.length:=by
  rcases Nat.lt_or_ge i ks.length with h|h
  ·exact h
  ·rw[List.getElem?_eq_none h] at h1;cases h1
 rw[zFi hik,List.getD_eq_getElem?_getD,h1]
 simp
structure ends (P:Program) (frag:D->List (AObj D)) (n0:Nat) (r0:AEnd) (H0:AH D) (r:AEnd) (H':AH D):Prop where
 view:zJ0 P frag n0 H' r H0 r0
theorem zD.ends {f:FuncId} {args:List Value} {H H0:AH D} {r0:AEnd} (h:zD P (zAw P frag) f args H (Abs.ends P frag H.next r0 H0)):zD P (zAw P frag) f args H fun r H'=> r=r0/\H'=H0:=
 h.view fun _ _ hv=> ⟨r0,H0,hv.view,rfl,rfl⟩
theorem zA {n0:Nat} {L l2:List (Option (AObj D))} {r r2:AEnd} (ps:List (Plan D)) (ks:List Nat) (h:zFt frag L ps) (hn:zEf n0 (zGr L ps) ks l2) (hr:r=zL0 (sh ks.length (zGr L ps).length ks) r2):
  Abs.ends P frag n0 r2 (AH.of l2) r (AH.of L):=.mk fun ρ own w hrel=> by
 obtain⟨ρ1,own1,a1,a2,a3⟩:=h.sees (P:=P) ρ own w hrel
 obtain⟨own2,b1,b2⟩:=hn.rel a1
 refine⟨_,own2,b1,fun k hk x hx=> ?_,fun b hb=> a3 b (b2 b hb),fun en he=> (hr▸he.mono a2:zH0 ρ1 (zL0 _ r2) en).of_ren⟩
 show ρ1.loc (sh ks.length (zGr L ps).length ks k)=some x
 rw[hn.fix hk];exact a2 k x hx
def zQt (i:Nat):List Nat->Nat->Option Nat
 |[],_=> none
 |a::ks,k=> if k=a then some i else zQt (i+1) ks k
theorem qNf (i k:Nat):zQt i [] k=none:=rfl
theorem qIi (i a:Nat) (ks:List Nat) (k:Nat):zQt i (a::ks) k=if k=a then some i else zQt (i+1) ks k:=rfl
theorem zYo:∀{ks:List Nat} {i k j:Nat},zQt i ks k=some j->i<=j/\ks[j - i]?=some k
 |[],i,k,j,h=> by cases h
 |a::ks,i,k,j,h=> by
  rw[zQt] at h
  split at h
  ·rename_i e;subst e;cases h;simp
  ·obtain⟨h1,h2⟩:=zYo h
   refine⟨by omega,?_⟩
   rw[show j - i=(j - (i+1))+1 by omega,List.getElem?_cons_succ];exact h2
def kap (ks:List Nat) (k:Nat):Option Nat:=zQt 0 ks k
theorem zUe {n0:Nat} {L l2:List (Option (AObj D))} {tm:Nat->Value} (ps:List (Plan D)) (ks:List Nat) (h:zFt frag L ps) (hn:zEf n0 (zGr L ps) ks l2):
  zQg P (zAw P frag) n0 tm (AH.of L) (fun t=> back (kap ks) (tm t)) (AH.of l2):=fun ρ own w hrel=> by
 obtain⟨ρ1,own1,a1,a2,a3⟩:=h.sees (P:=P) ρ own w hrel
 obtain⟨own2,b1,b2⟩:=hn.rel a1
 refine⟨_,own2,b1,fun k hk x hx=> ?_,fun b hb=> a3 b (b2 b hb),fun t v hv=> (hv.mono a2).back fun k i hk=> ?_⟩
 ·show ρ1.loc (sh ks.length (zGr L ps).length ks k)=some x
  rw[hn.fix hk];exact a2 k x hx
 ·obtain⟨_,h2⟩:=zYo hk
  rw[Nat.sub_zero] at h2
  have h1:i<ks.length:=by
   rcases Nat.lt_or_ge i ks.length with h|h
   ·exact h
   ·rw[List.getElem?_eq_none h] at h2;cases h2
  rw[zFi h1,List.getD_eq_getElem?_getD,h2]
  rfl
theorem zD.opn {f:FuncId} {args:List Value} {K:AEnd->AH D->Prop} {H H1:AH D} (k:Nat) (ho:zJg frag H k=some H1) (h:zD P (zAw P frag) f args H1 K):zD P (zAw P frag) f args H K:=zD.seesG (zI2 ho) h
def wkT (tm:Nat->Value):List (Nat × Value)->Nat->Value
 |[]=> tm
 |(s,v)::ws=> upd (wkT tm ws) s v
def leT (tm:Nat->Value):List (Nat × Value)->Prop
 |[]=> True
 |(s,v)::ws=> leV (tm s) v/\leT tm ws
theorem qFm {tm:Nat->Value} {ρ:Env}:∀{ws:List (Nat × Value)},leT tm ws->∀t v,VR ρ (tm t) v->VR ρ (wkT tm ws t) v
 |[],_,t,v,h=> h
 |(s,x)::ws,hw,t,v,h=> by
  unfold wkT upd
  split
  ·rename_i e;subst e;exact hw.1.vr h
  ·exact qFm hw.2 t v h
theorem qRw {cfg:D->HRep} {N:Nat} {tm tm2:Nat->Value} {H H2:AH D} (h:zQg P cfg N tm H tm2 H2) {ws:List (Nat × Value)} (hw:leT tm2 ws):zQg P cfg N tm H (wkT tm2 ws) H2:=fun ρ own w hr=> by
 obtain⟨ρ2,own2,a1,a2,a3,a4⟩:=h ρ own w hr
 exact⟨ρ2,own2,a1,a2,a3,fun t v hv=> qFm hw t v (a4 t v hv)⟩
theorem zD.args {cfg:D->HRep} {f:FuncId} {args args2:List Value} {K:AEnd->AH D->Prop} {H:AH D} (hl:args.length=args2.length) (hle:zF6 args args2) (h:zD P cfg f args2 H K):zD P cfg f args H K:=
 ⟨h.1,fun ρ own w args' hr hv=> h.2 ρ own w args' hr (by
  have:=hle.vrs hv
  rwa [←hl,hv.length,List.take_length] at this)⟩
theorem zD.borrow {cfg:D->HRep} {f:FuncId} {args:List Value} {K:AEnd->AH D->Prop} {H:AH D} (k:Nat) {e:TypeId} {cs:List Value} (hk:H.get k=some (.arr e cs))
  (h:zD P cfg f args (H.upd k (.ro cs)) fun r H1=> H1.get k=some (.ro cs)/\(∀j cs2,j≠k->H1.get j=some (.ro cs2)->cs2≠[]->∃cs3,H.get j=some (.ro cs3)/\cs3≠[])/\K r (H1.upd k (.arr e cs))):zD P cfg f args H K:=by
 refine⟨h.1,fun ρ own w args' hr hv=> ?_⟩
 have hklt:=hr.lt hk
 have hob:=hr.obj k _ hk
 have r1:Rel P cfg ρ (fun j b=> j≠k/\own j b) (H.upd k (.ro cs)) w:=by
  refine⟨fun j hj=> ?_,hr.dom,fun j o ho=> ?_,fun j hj b hb=> ?_,fun j b hb=> hr.bound j b hb.2,fun j j' b hb hb'=> hr.disj j j' b hb.2 hb'.2,fun j cs' hj hcs l hl j' hb=> ?_⟩
  ·rw[AH.get_upd,if_neg (by simp only[AH.next_upd] at hj;omega)];exact hr.fresh j hj
  ·rw[AH.get_upd] at ho
   split at ho
   ·rename_i ej;subst ej;cases ho
    refine⟨fun i hi=> hi.1 rfl,fun hne=> ?_⟩
    rcases hob with ⟨l,cs',h1,h2,h3,h4,h5,h6,h7,h8,h9⟩|⟨h1,_⟩
    ·exact⟨l,cs',e,(0,0),h1,h6,by rw[h2];simpa using h7,by rw[h2];simpa using h8,h9⟩
    ·exact absurd h1 hne
   ·rename_i hjk
    have ee:(fun b=> j≠k/\own j b)=own j:=by funext b;simp[hjk]
    show zCd P cfg ρ (fun b=> j≠k/\own j b) j o w
    rw[ee];exact hr.obj j o ho
  ·rw[AH.get_upd] at hj
   split at hj
   ·cases hj
   ·exact hr.gone j hj b hb.2
  ·rw[AH.get_upd] at hj
   split at hj
   ·rename_i ej;subst ej;cases hj
    rcases hob with ⟨l',cs2,h1,h2,h3,h4,h5,h6,_⟩|⟨h1,_⟩
    ·rw[hl] at h1;cases h1
     exact hb.1 (hr.disj _ _ _ hb.2 ((h5 _).2 rfl))
    ·exact hcs h1
   ·exact hr.ro j cs' hj hcs l hl j' hb.2
 refine (h.2 ρ _ w args' r1 hv).mono fun en w1 ⟨r2,H1,ρ1,own1,⟨hg,hro,k1⟩,x1,v1,r1'⟩=> ?_
 have hk1:=r1'.lt hg
 rcases hob with ⟨l,cs',h1,h2,h3,h4,h5,h6,h7,h8,h9⟩|⟨h1,h2,l,h3,h4,h5,h6⟩
 ·have hlt:l.b<w.heap.size:=(Array.getElem?_eq_some_iff.1 h6).1
  have hno:∀j,¬own1 j l.b:=fun j hj=> by
   rcases x1.owned j _ hj with ⟨k0,h0⟩|h0
   ·exact h0.1 (hr.disj _ _ _ h0.2 ((h5 _).2 rfl))
   ·omega
  have hkept:w1.heap[l.b]?=w.heap[l.b]?:=x1.kept l.b hlt fun j hj=> hj.1 (hr.disj _ _ _ hj.2 ((h5 _).2 rfl))
  have hl1:ρ1.loc k=some l:=x1.le _ _ h1
  refine⟨r2,H1.upd k (.arr e cs),ρ1,fun j b=> if j=k then b=l.b else own1 j b,k1,⟨x1.le,fun j b hb=> ?_,x1.size,fun b hb hn=> x1.kept b hb fun j hj=> hn j hj.2,x1.os,x1.tape,x1.output⟩,v1,⟨fun j hj=> ?_,r1'.dom,fun j o ho=> ?_,fun j hj b hb=> ?_,fun j b hb=> ?_,fun j j' b hb hb'=> ?_,fun j cs2 hj hcs l2 hl2 j' hb=> ?_⟩⟩
  ·split at hb
   ·subst hb;exact .inl ⟨k,(h5 _).2 rfl⟩
   ·rcases x1.owned j b hb with ⟨k0,h0⟩|h0
    ·exact .inl ⟨k0,h0.2⟩
    ·exact .inr h0
  ·simp only[AH.next_upd] at hj
   rw[AH.get_upd,if_neg (by omega)];exact r1'.fresh j hj
  ·rw[AH.get_upd] at ho
   split at ho
   ·rename_i ej;subst ej;cases ho
    simp only[if_true]
    exact .inl ⟨l,cs',hl1,h2,h3,h4,fun i=> Iff.rfl,hkept.trans h6,h7,h8.mono x1.le,h9⟩
   ·rename_i hjk
    simp only[if_neg hjk]
    exact r1'.obj j o ho
  ·rw[AH.get_upd] at hj
   split at hj
   ·cases hj
   ·rename_i hjk
    simp only[if_neg hjk] at hb
    exact r1'.gone j hj b hb
  ·split at hb
   ·subst hb;exact Nat.lt_of_lt_of_le hlt x1.size
   ·exact r1'.bound j b hb
  ·split at hb<;> split at hb'
   ·omega
   ·subst hb;exact absurd hb' (hno j')
   ·subst hb';exact absurd hb (hno j)
   ·exact r1'.disj j j' b hb hb'
  ·rw[AH.get_upd] at hj
   split at hj
   ·cases hj
   ·split at hb
    ·
     rename_i hjk _
     obtain⟨cs3,g1,g2⟩:=hro j cs2 hjk hj hcs
     obtain⟨l3,c3,e3,fr3,q1,q2,_⟩:=(hr.obj j _ g1).2 g2
     have:=x1.le _ _ q1
     rw[hl2] at this;cases this
     rename_i hbl _
     exact hr.ro j cs3 g1 g2 _ q1 k ((h5 _).2 hb)
    ·exact r1'.ro j cs2 hj hcs l2 hl2 j' hb
 ·refine⟨r2,H1.upd k (.arr e cs),ρ1,own1,k1,⟨x1.le,fun j b hb=> ?_,x1.size,fun b hb hn=> x1.kept b hb fun j hj=> hn j hj.2,x1.os,x1.tape,x1.output⟩,v1,⟨fun j hj=> ?_,r1'.dom,fun j o ho=> ?_,fun j hj b hb=> ?_,r1'.bound,r1'.disj,fun j cs2 hj hcs l2 hl2 j' hb=> ?_⟩⟩
  ·rcases x1.owned j b hb with ⟨k0,h0⟩|h0
   ·exact .inl ⟨k0,h0.2⟩
   ·exact .inr h0
  ·simp only[AH.next_upd] at hj
   rw[AH.get_upd,if_neg (by omega)];exact r1'.fresh j hj
  ·rw[AH.get_upd] at ho
   split at ho
   ·rename_i ej;subst ej;cases ho
    exact .inr ⟨h1,(r1'.obj _ _ hg).1,l,x1.le _ _ h3,h4,h5,h6⟩
   ·exact r1'.obj j o ho
  ·rw[AH.get_upd] at hj
   split at hj
   ·cases hj
   ·exact r1'.gone j hj b hb
  ·rw[AH.get_upd] at hj
   split at hj
   ·cases hj
   ·exact r1'.ro j cs2 hj hcs l2 hl2 j' hb
theorem zUf {L:List (Option (AObj D))} (ps:List (Plan D)) (h:zFt frag L ps):jT P (zAw P frag) (AH.of L) (AH.of (zGr L ps)):=h.sees
end
theorem qAo (θ:Nat->Nat) (a b:List Value):zAh θ (a++b)=zAh θ a++zAh θ b:=by simp[zPa]
theorem zZo (κ:Nat->Option Nat):∀l,backs κ l=l.map (back κ)
 |[]=> rfl
 |v::l=> by rw[backs,zZo κ l];rfl
theorem zZp (κ:Nat->Option Nat) (a b:List Value):backs κ (a++b)=backs κ a++backs κ b:=by simp[zZo]
section
variable {D:Type} (θ:Nat->Nat)
theorem qB8 (e:TypeId) (cs:List Value):(AObj.arr e cs:AObj D).ren θ=.arr e (zAh θ cs):=rfl
theorem qWu (cs:List Value):(AObj.ro cs:AObj D).ren θ=.ro (zAh θ cs):=rfl
theorem qTv (es:List MapEntry) (c:Nat):(AObj.map es c:AObj D).ren θ=.map (es.map fun e=> ⟨ren θ e.key,ren θ e.val,e.born⟩) c:=rfl
theorem qMf (ps:List (Value × Value)):(AObj.mapq ps:AObj D).ren θ=.mapq (zQj θ ps):=rfl
theorem qHa (m s:Nat) (l:List Nat) (c:Nat):(AObj.miter m s l c:AObj D).ren θ=.miter (θ m) s l c:=rfl
theorem qG9 (s:ByteArray) (n:Nat):(AObj.siter s n:AObj D).ren θ=.siter s n:=rfl
theorem qHc (d:D):(AObj.hi d:AObj D).ren θ=.hi d:=rfl
theorem zK4 (v:Value):zL0 θ (.ret v)=.ret (ren θ v):=rfl
theorem qMh (v:Value):zL0 θ (.pan v)=.pan (ren θ v):=rfl
end
attribute [simp] wkT leT qAo zZp qW5 qW4 qUg qNb qId qIc zEf zQq sh qB8 qWu qTv qMf qHa qG9 qHc zK4 qMh ren zAh zJq qM9 qIb qH0 zMy qD9 zQr qUe qUf qUd zOb qH9 qM8 qUh zGr zFt zWa zV5 back backs qFb qQc qQd zV8 qQb zK3 kap qNf qIi
end Go.Abs
/-
 CALLS:what is known of a function over a few objects,at a place where it is called.
-/
namespace Go.Abs
section
variable {D:Type} {P:Program} {cfg:D->HRep}
def AH.addn (H:AH D):AH D:={ next:=H.next+1,get:=fun j=> if j=H.next then none else H.get j }
def zHu (θ:Nat->Nat) (H:AH D):List (Option (AObj D))->AH D
 |[]=> H
 |some o::l=> zHu θ (H.add (o.ren θ)) l
 |none::l=> zHu θ H.addn l
def AH.sub (H:AH D) (k:Nat):Option (AObj D)->AH D
 |some o=> H.upd k o
 |none=> H.del k
def zGv (θ:Nat->Nat) (H:AH D):List Nat->List (Option (AObj D))->AH D
 |[],l2=> zHu θ H l2
 |_::_,[]=> H
 |k::ks,o::l2=> zGv θ (H.sub k (o.map (·.ren θ))) ks l2
theorem AH.sub_next (H:AH D) (k:Nat) (o:Option (AObj D)):(H.sub k o).next=H.next:=by cases o<;> rfl
theorem AH.sub_get (H:AH D) (k:Nat) (o:Option (AObj D)) (j:Nat):(H.sub k o).get j=if j=k then o else H.get j:=by cases o<;> rfl
theorem qT7 (l:List (Option (AObj D))):(AH.of l).addn=AH.of (l++[none]):=by
 refine AH.ext' (by simp[AH.of,AH.addn]) fun k=> ?_
 show (if k=l.length then none else (AH.of l).get k)=_
 rw[of_get,of_get]
 by_cases hk:k=l.length
 ·subst hk;simp
 ·rw[if_neg hk]
  rcases Nat.lt_or_ge k l.length with h|h
  ·rw[List.getElem?_append_left h]
  ·rw[List.getElem?_append_right h,List.getElem?_eq_none h,List.getElem?_eq_none (by simp;omega)]
theorem zNe (θ:Nat->Nat):∀(l:List (Option (AObj D))) (H:AH D),(zHu θ H l).next=H.next+l.length
 |[],_=> rfl
 |some o::l,H=> by rw[zHu,zNe θ l,AH.next_add,List.length_cons];omega
 |none::l,H=> by
  rw[zHu,zNe θ l,List.length_cons]
  show H.next+1+l.length=_
  omega
theorem zOq (θ:Nat->Nat) (j:Nat):∀(l:List (Option (AObj D))) (H:AH D),(zHu θ H l).get j=if H.next<=j/\j<H.next+l.length then ((l[j - H.next]?).join).map (·.ren θ) else H.get j
 |[],H=> by rw[zHu,if_neg (by rw[List.length_nil];omega)]
 |o::l,H=> by
  have key:∀H':AH D,H'.next=H.next+1->(∀i,H'.get i=if i=H.next then o.map (·.ren θ) else H.get i)->(zHu θ H' l).get j=if H.next<=j/\j<H.next+(o::l).length then (((o::l)[j - H.next]?).join).map (·.ren θ) else H.get j:=by
   intro H' hn hg
   rw[zOq θ j l,hn,hg,List.length_cons]
   by_cases h:j=H.next
   ·subst h
    rw[if_neg (by omega),if_pos rfl,if_pos (by omega),Nat.sub_self]
    rfl
   ·by_cases h2:H.next+1<=j/\j<H.next+1+l.length
    ·rw[if_pos h2,if_pos (by omega)]
     obtain⟨m,hm⟩:∃m,j - H.next=m+1:=⟨j - H.next - 1,by omega⟩
     rw[hm,List.getElem?_cons_succ,show j - (H.next+1)=m by omega]
    ·rw[if_neg h2,if_neg h,if_neg (by omega)]
  cases o with
  |some o=> rw[zHu];exact key _ rfl fun i=> AH.get_add _ _ _
  |none=> rw[zHu];exact key _ rfl fun i=> rfl
theorem zUh (θ:Nat->Nat):∀(ks:List Nat) (l2:List (Option (AObj D))) (H:AH D),ks.length<=l2.length->(zGv θ H ks l2).next=H.next+(l2.length - ks.length)
 |[],l2,H,_=> by rw[zGv,zNe];rfl
 |k::ks,[],H,h=> by simp at h
 |k::ks,o::l2,H,h=> by
  rw[zGv,zUh θ ks l2 _ (by simpa using h),AH.sub_next,List.length_cons,List.length_cons];omega
theorem zQl (θ:Nat->Nat) (j:Nat):∀(ks:List Nat) (l2:List (Option (AObj D))) (H:AH D),ks.length<=l2.length->j<H.next->j∉ks->(zGv θ H ks l2).get j=H.get j
 |[],l2,H,_,hj,_=> by rw[zGv,zOq,if_neg (by omega)]
 |k::ks,[],H,h,_,_=> by simp at h
 |k::ks,o::l2,H,h,hj,hn=> by
  simp only[List.mem_cons,not_or] at hn
  rw[zGv,zQl θ j ks l2 _ (by simpa using h) (by rwa [AH.sub_next]) hn.2,AH.sub_get,if_neg hn.1]
theorem zX8 (θ:Nat->Nat) (m:Nat):∀(ks:List Nat) (l2:List (Option (AObj D))) (H:AH D),ks.length<=l2.length->(∀k∈ks,k<H.next)->(∀j,H.next<=j->H.get j=none)->(zGv θ H ks l2).get (H.next+m)=((l2[ks.length+m]?).join).map (·.ren θ)
 |[],l2,H,_,_,hf=> by
  rw[zGv,zOq,List.length_nil,Nat.zero_add,Nat.add_sub_cancel_left]
  by_cases h:m<l2.length
  ·rw[if_pos (by omega)]
  ·rw[if_neg (by omega),List.getElem?_eq_none (by omega),hf _ (by omega)];rfl
 |k::ks,[],H,h,_,_=> by simp at h
 |k::ks,o::l2,H,h,hlt,hf=> by
  have hk:=hlt k (by simp)
  have:=zX8 θ m ks l2 (H.sub k (o.map (·.ren θ))) (by simpa using h) (fun k' hk'=> by rw[AH.sub_next];exact hlt k' (by simp[hk'])) (fun j hj=> by
   rw[AH.sub_next] at hj
   rw[AH.sub_get,if_neg (by omega)];exact hf j hj)
  rw[AH.sub_next] at this
  rw[zGv,this,List.length_cons,show ks.length+1+m=ks.length+m+1 by omega,List.getElem?_cons_succ]
theorem qCb (θ:Nat->Nat):∀(ks:List Nat) (l2:List (Option (AObj D))) (H:AH D),ks.length<=l2.length->ks.Nodup->(∀k∈ks,k<H.next)->∀i,i<ks.length->(zGv θ H ks l2).get (ks.getD i 0)=((l2[i]?).join).map (·.ren θ)
 |[],l2,H,_,_,_,i,hi=> by simp at hi
 |k::ks,[],H,h,_,_,_,_=> by simp at h
 |k::ks,o::l2,H,h,hn,hlt,i,hi=> by
  rw[List.nodup_cons] at hn
  cases i with
  |zero=>
   rw[zGv]
   show (zGv θ (H.sub k (o.map (·.ren θ))) ks l2).get k=_
   rw[zQl θ k ks l2 _ (by simpa using h) (by rw[AH.sub_next];exact hlt k (by simp)) hn.1,AH.sub_get,if_pos rfl]
   cases o<;> rfl
  |succ i=>
   rw[zGv]
   exact qCb θ ks l2 _ (by simpa using h) hn.2 (fun k' hk'=> by rw[AH.sub_next];exact hlt k' (by simp[hk'])) i (by simpa using hi)
theorem qOb {H:AH D} {l2:List (Option (AObj D))} {ks:List Nat} (hn:ks.Nodup) (hlt:∀k∈ks,k<H.next) (hf:∀j,H.next<=j->H.get j=none) (hl2:ks.length<=l2.length):
  H.emb (sh ks.length H.next ks) ks.length (AH.of l2)=zGv (sh ks.length H.next ks) H ks l2:=by
 have inj:=zXr hn hlt
 refine AH.ext' ?_ fun j=> ?_
 ·show H.next+(l2.length - ks.length)=_
  rw[zUh _ _ _ _ hl2]
 ·by_cases hj:∃i,sh ks.length H.next ks i=j
  ·obtain⟨i,rfl⟩:=hj
   rw[AH.emb_img inj,of_get]
   rcases Nat.lt_or_ge i ks.length with hi|hi
   ·rw[zFi hi,qCb _ _ _ _ hl2 hn hlt i hi]
   ·rw[zJ6 hi,zX8 _ _ _ _ _ hl2 hlt hf]
    congr 4;omega
  ·rw[AH.emb_oth hj]
   have hjl:j<H.next:=by
    refine Nat.lt_of_not_le fun hle=> hj ⟨ks.length+(j - H.next),?_⟩
    rw[zJ6 (by omega)];omega
   have hjn:j∉ks:=fun hm=> by
    obtain⟨i,hi,rfl⟩:=List.getElem_of_mem hm
    refine hj ⟨i,?_⟩
    rw[zFi hi,List.getD_eq_getElem?_getD,List.getElem?_eq_getElem hi];rfl
   rw[zQl _ _ _ _ _ hl2 hjl hjn]
def zX0 (l l2:List (Option (AObj D))):Prop:=∀(i:Nat) (cs:List Value),(l2[i]?).join=some (.ro cs)->cs≠[]->∃cs',(l[i]?).join=some (.ro cs')/\cs'≠[]
theorem jD {l l2:List (Option (AObj D))} (h:l2.all (fun o=> match o with|some (.ro _)=> false|_=> true)=true):zX0 l l2:=by
 intro i cs hi
 cases hx:l2[i]? with
 |none=> rw[hx] at hi;cases hi
 |some o=>
  rw[hx] at hi
  have:=List.all_eq_true.1 h o (List.mem_of_getElem? hx)
  simp only[Option.join_some] at hi
  subst hi
  cases this
theorem zCj {l l2:List (Option (AObj D))} (h:∀(i:Nat) (cs:List Value),(l2[i]?).join=some (.ro cs)->(l[i]?).join=some (.ro cs)):zX0 l l2:=fun i cs hi hne=> ⟨cs,h i cs hi,hne⟩
def atK (H:AH D) (θ:Nat->Nat):List Nat->List (Option (AObj D))->Prop
 |[],[]=> True
 |k::ks,some o::l=> H.get k=some (o.ren θ)/\atK H θ ks l
 |_,_=> False
theorem atK.length {H:AH D} {θ:Nat->Nat}:∀{ks:List Nat} {l:List (Option (AObj D))},atK H θ ks l->ks.length=l.length
 |[],[],_=> rfl
 |[],_::_,h=> h.elim
 |_::_,[],h=> h.elim
 |_::_,none::_,h=> h.elim
 |_::_,some _::_,h=> by simp[atK.length h.2]
theorem atK.get {H:AH D} {θ:Nat->Nat}:∀{ks:List Nat} {l:List (Option (AObj D))},atK H θ ks l->∀i,i<ks.length->∃o,(l[i]?).join=some o/\H.get (ks.getD i 0)=some (o.ren θ)
 |[],[],_,i,hi=> by simp at hi
 |[],_::_,h,_,_=> h.elim
 |_::_,[],h,_,_=> h.elim
 |_::_,none::_,h,_,_=> h.elim
 |k::ks,some o::l,h,0,_=> ⟨o,rfl,h.1⟩
 |k::ks,some o::l,h,i+1,hi=> by
  obtain⟨x,h1,h2⟩:=atK.get h.2 i (by simpa using hi)
  exact⟨x,by simpa using h1,h2⟩
theorem zD.atK {f:FuncId} {args0:List Value} {l l2:List (Option (AObj D))} {r:AEnd} (h:zD P cfg f args0 (AH.of l) fun r' H'=> r'=r/\H'=AH.of l2) (hro:zX0 l l2) {H:AH D} (ks:List Nat)
  (hn:ks.Nodup) (hl2:ks.length<=l2.length) (hat:Abs.atK H (sh ks.length H.next ks) ks l) {args:List Value} (ha:args=zAh (sh ks.length H.next ks) args0) {r':AEnd} (hr':r'=zL0 (sh ks.length H.next ks) r) {H':AH D} (hH:H'=zGv (sh ks.length H.next ks) H ks l2):
  zD P cfg f args H fun r1 H1=> r1=r'/\H1=H':=by
 subst ha hr' hH
 refine⟨h.1,fun ρ own w args' hrel hv=> ?_⟩
 have hlt:∀k∈ks,k<H.next:=fun k hk=> by
  obtain⟨i,hi,rfl⟩:=List.getElem_of_mem hk
  obtain⟨o,_,h2⟩:=hat.get i hi
  rw[List.getD_eq_getElem?_getD,List.getElem?_eq_getElem hi] at h2
  exact hrel.lt h2
 have hl:l.length=ks.length:=hat.length.symm
 have hem:Emb (sh ks.length H.next ks) (AH.of l) H:=Emb.of_keys (H:=H) hn hlt hl (fun i hi=> by
  rw[zH2] at hi;rw[of_get,List.getElem?_eq_none hi];rfl) fun i hi=> by
   obtain⟨o,h1,h2⟩:=hat.get i hi
   rw[h2,of_get,h1];rfl
 have hfr:=zD.frame hem h fun r1 H1 h1=> by
  obtain⟨_,rfl⟩:=h1
  exact⟨by rw[zH2,zH2,hl];exact hl2,fun i cs hi hne=> hro i cs hi hne⟩
 refine (hfr.2 ρ own w args' hrel hv).mono fun en w1 ⟨r1,H1,ρ1,own1,⟨r2,H2,⟨e1,e2⟩,e3,e4⟩,x1,v1,r1'⟩=> ⟨r1,H1,ρ1,own1,⟨by rw[e3,e1],?_⟩,x1,v1,r1'⟩
 rw[e4,e2,zH2,hl,qOb hn hlt hrel.fresh hl2]
end
attribute [simp] zGv zHu AH.sub qT7 atK
end Go.Abs
/-
 LOOPS.
-/
namespace Go.Abs
section
variable {D:Type} {C:Sg D} {F:Nat}
def zMb (I:Nat->(Nat->Value)->AH D->Prop) (m:Nat) (Q:AExit->(Nat->Value)->AH D->Prop):AExit->(Nat->Value)->AH D->Prop:=fun e tm H=> match e with
 |.normal=> ∃m',m'<m/\I m' tm H
 |e=> Q e tm H
variable {I:Nat->(Nat->Value)->AH D->Prop} {m:Nat} {Q:AExit->(Nat->Value)->AH D->Prop} {tm:Nat->Value} {H:AH D}
theorem zVd:zMb I m Q .normal tm H=∃m',m'<m/\I m' tm H:=rfl
theorem qAl {j:Nat}:zMb I m Q (.exit j) tm H=Q (.exit j) tm H:=rfl
theorem qDs:zMb I m Q .ret tm H=Q .ret tm H:=rfl
theorem qDt {v:Value}:zMb I m Q (.pan v) tm H=Q (.pan v) tm H:=rfl
def zNy (V:zNf D) (N:Nat) (I:Nat->(Nat->Value)->AH D->Prop) (m:Nat) (tm:Nat->Value) (H:AH D):Prop:=∃tm2 H2,V N tm H tm2 H2/\∃m',m'<m/\I m' tm2 H2
def zNx (V:zNf D) (N:Nat) (I:Nat->(Nat->Value)->AH D->Prop) (m:Nat) (Q:AExit->(Nat->Value)->AH D->Prop):AExit->(Nat->Value)->AH D->Prop:=fun e tm H=> match e with
 |.normal=> zNy V N I m tm H
 |e=> Q e tm H
variable {V:zNf D} {N:Nat}
theorem zVc:zNx V N I m Q .normal tm H=zNy V N I m tm H:=rfl
theorem qAk {j:Nat}:zNx V N I m Q (.exit j) tm H=Q (.exit j) tm H:=rfl
theorem qDq:zNx V N I m Q .ret tm H=Q .ret tm H:=rfl
theorem qDr {v:Value}:zNx V N I m Q (.pan v) tm H=Q (.pan v) tm H:=rfl
theorem jH (mono:zFc C) (I:Nat->(Nat->Value)->AH D->Prop) {a:AC} {m:Nat} {tm:Nat->Value} {H:AH D} (h:I m tm H) (hm:m<F) (step:∀m tm H,I m tm H->a.wp C F (zMb I m Q) tm H):(AC.loop a).wp C F Q tm H:=by
 have key:∀N f m tm H,m<f->I m tm H->zKf C.view N (a.wp C F) f Q tm H:=by
  intro N f
  induction f with
  |zero=> intro m tm H hm;omega
  |succ f ih=>
   intro m tm H hm h
   refine AC.mono mono F a _ _ tm H (fun e tm' H' hh=> ?_) (step m tm H h)
   cases e with
   |normal=>
    obtain⟨m',h1,h2⟩:=hh
    exact .inl (ih m' tm' H' (by omega) h2)
   |_=> exact hh
 exact .inl (key H.next F m tm H hm h)
theorem zA3 (mono:zFc C) (I:Nat->(Nat->Value)->AH D->Prop) {a:AC} {m:Nat} {tm:Nat->Value} {H:AH D} (h:zNy C.view H.next I (m+1) tm H) (hm:m<F) (step:∀m tm H',I m tm H'->a.wp C F (zNx C.view H.next I m Q) tm H'):(AC.loop a).wp C F Q tm H:=by
 have key:∀f m tm H',m<f->I m tm H'->zKf C.view H.next (a.wp C F) f Q tm H':=by
  intro f
  induction f with
  |zero=> intro m tm H' hm;omega
  |succ f ih=>
   intro m tm H1 hm h
   refine AC.mono mono F a _ _ tm H1 (fun e tm' H' hh=> ?_) (step m tm H1 h)
   cases e with
   |normal=>
    obtain⟨tm2,H2,hs,m',h1,h2⟩:=hh
    exact .inr ⟨tm2,H2,hs,ih m' tm2 H2 (by omega) h2⟩
   |_=> exact hh
 obtain⟨tm2,H2,hs,m',h1,h2⟩:=h
 exact .inr ⟨tm2,H2,hs,key F m' tm2 H2 (by omega) h2⟩
variable {P:Program} {frag:D->List (AObj D)}
theorem qD {L:List (Option (AObj D))} (ps:List (Plan D)) (ks:List Nat) (l2:List (Option (AObj D))) (m':Nat) (hm:m'<m) (h:zFt frag L ps) (hn:zEf N (zGr L ps) ks l2) (hI:I m' (fun t=> back (kap ks) (tm t)) (AH.of l2)):
 zNy (zQg P (zAw P frag)) N I m tm (AH.of L):=⟨_,_,zUe ps ks h hn,m',hm,hI⟩
theorem zF4 {L:List (Option (AObj D))} (ps:List (Plan D)) (ks:List Nat) (l2:List (Option (AObj D))) (ws:List (Nat × Value)) (m':Nat) (hm:m'<m) (h:zFt frag L ps) (hn:zEf N (zGr L ps) ks l2) (hw:leT (fun t=> back (kap ks) (tm t)) ws) (hI:I m' (wkT (fun t=> back (kap ks) (tm t)) ws) (AH.of l2)):
 zNy (zQg P (zAw P frag)) N I m tm (AH.of L):=⟨_,_,qRw (zUe ps ks h hn) hw,m',hm,hI⟩
end
attribute [simp ↓] qAl qDs qDt zVc qAk qDq qDr
attribute [simp] zVd
end Go.Abs
/-
 NUMBERS:plain facts.
-/
namespace Go.Abs
theorem zB5 {n:Int} (h0:0<=n) (h1:n<18446744073709551616):IntKind.u64.wrap n=n:=by
 simp[IntKind.wrap,IntKind.bits,IntKind.signed]
 omega
theorem qF {n:Int} (h0: -9223372036854775808<=n) (h1:n<9223372036854775808):IntKind.i64.wrap n=n:=by
 simp[IntKind.wrap,IntKind.bits,IntKind.signed]
 omega
theorem zZr {v:Int} (h0:0<=v) (h1:v<18446744073709551616):zKv .u64 v 9223372036854775808=((v.toNat % 9223372036854775808:Nat):Int):=by
 unfold zKv
 have e:(BitVec.ofInt IntKind.u64.bits v &&& ~~~BitVec.ofInt IntKind.u64.bits 9223372036854775808).toNat=v.toNat % 9223372036854775808:=by
  show (BitVec.ofInt 64 v &&& ~~~BitVec.ofInt 64 9223372036854775808).toNat=_
  have e2:(~~~BitVec.ofInt 64 9223372036854775808).toNat=2 ^ 63 - 1:=by decide
  have e1:(v % ((2 ^ 64:Nat):Int)).toNat=v.toNat:=by omega
  rw[BitVec.toNat_and,BitVec.toNat_ofInt,e2,e1]
  exact Nat.and_two_pow_sub_one_eq_mod v.toNat 63
 rw[e]
 exact zB5 (by omega) (by omega)
theorem qD5 (x:Nat):(FloatKind.f64.format.order x x==some .eq)=decide (x % 9223372036854775808<=9218868437227405312):=by
 have h:FloatKind.f64.format.order x x=((FloatKind.f64.format.read x).order (FloatKind.f64.format.read x)):=rfl
 have self:∀d:Ieee.Datum,(d.order d==some .eq)= !d.isNaN:=by
  intro d
  cases d with
  |number s m i=> simp[Ieee.Datum.order,Ieee.Datum.isNaN,Std.ReflCmp.compare_self]
  |infinity s=> simp[Ieee.Datum.order,Ieee.Datum.isNaN,Std.ReflCmp.compare_self]
  |nan s t=> simp[Ieee.Datum.order,Ieee.Datum.isNaN]
 rw[h,self]
 have e1:FloatKind.f64.format.signWeight=9223372036854775808:=by decide
 have e2:FloatKind.f64.format.infRung=9218868437227405312:=by decide
 unfold Ieee.Format.read
 simp only[e1,e2]
 have e3:FloatKind.f64.format.binade=4503599627370496:=by decide
 simp only[e3]
 split
 ·rename_i h;simp[Ieee.Datum.isNaN];omega
 ·split
  ·simp[Ieee.Datum.isNaN];omega
  ·split
   ·simp[Ieee.Datum.isNaN];omega
   ·simp[Ieee.Datum.isNaN];omega
theorem qCa {s:Bool} {k v:Value} {c:Nat}:∀{es:List MapEntry},zDb s k es=some none->zJf s k v c es=some (es++[⟨k,v,c⟩],c+1)
 |[],_=> rfl
 |e::es,h=> by
  rw[zDb] at h
  split at h
  ·cases h
  ·rename_i hs
   rw[zJf,hs]
   simp only[qCa h,Option.map_some,List.cons_append]
  ·cases h
theorem zYa (a b:List MapEntry):zFj (a++b)=zFj a++zFj b:=by simp[zFj]
theorem zC4.add {ps:List (Value × Value)} {es:List MapEntry} {c:Nat} (h:zC4 ps es c) (k v:Value):zC4 (ps++[(k,v)]) (es++[⟨k,v,c⟩]) (c+1):=by
 obtain⟨h1,h2,h3⟩:=h
 refine⟨?_,?_,fun e he=> ?_⟩
 ·rw[zYa];exact h1.append (List.Perm.refl _)
 ·rw[List.map_append,List.nodup_append]
  refine⟨h2,by simp,fun a ha b hb=> ?_⟩
  obtain⟨e,he,rfl⟩:=List.mem_map.1 ha
  have:b=c:=by simpa using hb
  have:=h3 e he
  omega
 ·rcases List.mem_append.1 he with he|he
  ·have:=h3 e he;omega
  ·have:e=⟨k,v,c⟩:=by simpa using he
   subst this;show c<c+1;omega
theorem zC4.len {ps:List (Value × Value)} {es:List MapEntry} {c:Nat} (h:zC4 ps es c):es.length=ps.length:=by
 have:=h.1.length_eq
 simpa [zFj] using this
theorem zC4.nil (c:Nat):zC4 [] [] c:=⟨.refl _,by simp,fun e he=> by simp at he⟩
theorem zC4.found {ps:List (Value × Value)} {es:List MapEntry} {c:Nat} (h:zC4 ps es c) {e:MapEntry} (he:e∈es):es.find? (fun x=> x.born==e.born)=some e:=by
 have hn:=h.2.1
 clear h
 induction es with
 |nil=> cases he
 |cons a es ih=>
  rw[List.find?_cons]
  simp only[List.map_cons,List.nodup_cons] at hn
  rcases List.mem_cons.1 he with rfl|he
  ·simp
  ·have:(a.born==e.born)=false:=by
    simp only[beq_eq_false_iff_ne]
    intro hb
    exact hn.1 (hb▸List.mem_map.2 ⟨e,he,rfl⟩)
   rw[this]
   exact ih he hn.2
end Go.Abs
/-
 FROM ARGUMENTS THAT ARE READ AS DATA TO ROWS THAT NOBODY WRITES,and back.
-/
namespace Go.Abs
open Go.RowKit Go.ChangeShapes Go.WideShapes Go.ChangeAt
def zH5 (P:Program) (l:List TypeId):Bool:=laidOutB P && mapsRowed P && l.all fun t=> decide (t<P.types.size) && (match P.underlying t with
 |some (.pointer e)=> l.contains e
 |some (.slice e)=> l.contains e && decide (0<P.cellsOf e)
 |some (.array _ e)=> l.contains e
 |some (.struct fs)=> fs.toList.all fun f=> l.contains f.type
 |some (.map _ e)=> l.contains e
 |_=> true)
section
variable {P:Program} {l:List TypeId}
theorem zH4 (h:zH5 P l=true) {t:TypeId} (ht:t∈l):t<P.types.size/\(match P.underlying t with
 |some (.pointer e)=> l.contains e
 |some (.slice e)=> l.contains e && decide (0<P.cellsOf e)
 |some (.array _ e)=> l.contains e
 |some (.struct fs)=> fs.toList.all fun f=> l.contains f.type
 |some (.map _ e)=> l.contains e
 |_=> true)=true:=by
 unfold zH5 at h
 simp only[Bool.and_eq_true] at h
 have:=List.all_eq_true.1 h.2 t ht
 simp only[Bool.and_eq_true,decide_eq_true_eq] at this
 exact this
theorem qUi (h:zH5 P l=true):Kids P (· ∈l):=by
 have hh:=h
 unfold zH5 at hh
 simp only[Bool.and_eq_true] at hh
 have K:=kids_rows hh.1.1 hh.1.2
 refine⟨fun {t e} ht hu=> ?_,fun {t e} ht hu=> ?_,fun {t e n} ht hu=> ?_,fun {t fs} ht hu=> ?_,fun {t k e} ht hu=> ?_⟩
 ·have:=(zH4 h ht).2;rw[hu] at this;simpa using this
 ·have:=(zH4 h ht).2;rw[hu] at this;simp at this;exact this.1
 ·have:=zH4 h ht
  refine⟨?_,(K.array this.1 hu).2⟩
  have h2:=this.2;rw[hu] at h2;simpa using h2
 ·have:=zH4 h ht
  refine⟨?_,(K.struct this.1 hu).2⟩
  have h2:=this.2;rw[hu] at h2
  intro f hf
  have:=List.all_eq_true.1 h2 f hf
  simpa using this
 ·have:=(zH4 h ht).2;rw[hu] at this;simpa using this
theorem qWw (h:zH5 P l=true) {t e:TypeId} (ht:t∈l) (hu:P.underlying t=some (.slice e)):0<P.cellsOf e:=by
 have:=(zH4 h ht).2;rw[hu] at this;simp at this;exact this.2
variable {H:Type} {enc:TypeId × Value->H} {W W':World}
theorem zNh (h:zH5 P l=true) {sp:Nat->Bool}:∀{ts:List TypeId} {vs:List Value} {ds:List (DataW H)} {ps:List MemPlace},DataW.TrodAll enc P W 0 (fun _=> true) true ts vs ds ps->(∀t∈ts,t∈l)->
  (∀p∈ps,W.sameAt W' p)->(∀p∈ps,sp p.block=true)->DataW.TrodAll enc P W' 0 sp true ts vs ds ps
 |[],[],[],_,hd,_,_,_=> hd
 |t::ts,v::vs,d::ds,ps,⟨p,q,⟨n,hn⟩,hq,e⟩,ht,hs,hsp=> by
  subst e
  refine⟨p,q,⟨n,?_⟩,zNh h hq (fun t ht'=> ht t (by simp[ht'])) (fun x hx=> hs x (by simp[hx])) (fun x hx=> hsp x (by simp[hx])),rfl⟩
  exact DataW.trod_stays (qUi h) (fun ht hu=> qWw h ht hu) (fun hh=> by cases hh) (ht t (by simp)) hn (fun x hx=> hs x (by simp[hx])) (fun x hx=> hsp x (by simp[hx]))
theorem zYn {f:Func} {s:ChangeSpec} {apart fresh handsOn again:Bool} {args:Array Value} {ds gs:List (DataW H)} {before:List MemPlace} {tb:TypeId} (hvars:s.vars=[]) (hfn:s.fn H ds={ results:=[.lit (.bool true)],args:=ds })
  (hW:DataW.Whole enc P f.params.toList s.vars apart W args.toList ds gs before) (hl:zH5 P l=true) (hts:∀t∈f.params.toList,t∈l) (hr:f.resultTypes=#[tb]) (htb:P.underlying tb=some .bool) (hb:Below W.heap.size W W'):
  s.post enc P f apart fresh handsOn again W args (.bool true) W':=by
 have hlt:=fun p hp=> hW.lt p hp
 have hW0:=hW
 obtain⟨p,q,hA,hV,rfl,hz,hn⟩:=hW
 rw[hvars] at hV
 have hgs:gs=[]/\q=[]:=by
  cases gs with
  |nil=> exact⟨rfl,hV⟩
  |cons _ _=> exact hV.elim
 obtain⟨rfl,rfl⟩:=hgs
 simp only[List.append_nil] at hlt hz hn hW0
 have hsame:∀x∈p,W.sameAt W' x:=fun x hx=> hb.same (hlt x hx)
 have hargs:∀sp:Nat->Bool,(∀x∈p,sp x.block=true)->DataW.TrodAll enc P W' 0 sp true f.params.toList args.toList ds p:=fun sp hsp=> zNh hl hA hts hsame hsp
 have hres:∀(b:Nat) (sp:Nat->Bool) (hd:Bool),DataW.TrodAll enc P W' b sp hd f.resultTypes.toList ((Value.bool true).resultList f.resultTypes.size) [.lit (.bool true)] []:=fun b sp hd=> by
  rw[hr]
  exact trodAll_cons_mk (shut_bool htb true) trodAll_mk0
 have hfn':s.fn H (ds++[])={ results:=[.lit (.bool true)],args:=ds }:=by rw[List.append_nil];exact hfn
 have hvs:∀sp:Nat->Bool,DataW.TrodVars enc P W' sp s.vars ([]:List (DataW H)) []:=fun sp=> by rw[hvars];exact rfl
 refine⟨ds,[],p,[],p,[],hW0,?_,?_,?_,World.keptBut_mono (fun x hx=> ⟨hx,?_⟩) (hb.frame (· ∈p)),fun _=> ?_⟩
 ·rw[hfn'];exact hres _ _ _
 ·rw[hfn'];exact hargs _ (fun x hx=> by simpa using hlt x hx)
 ·rw[hfn'];exact hvs _
 ·exact .inr (by simpa using hx)
 ·refine⟨ok_one hr rfl (okWide_bool_mk htb true),_,_,p,⟨p,[],by have:=trodAll_append (hargs (fun _=> true) (fun _ _=> rfl)) (hres 0 (fun _=> true) true);simpa using this,hvs _,by simp,?_,?_⟩,?_⟩
  ·intro b off hp
   rw[hb.frozen (hlt _ hp)]
   exact hz b off hp
  ·intro ha;exact hn ha
  ·intro x hx _;simpa using hx
end
def zZ3 (w:World) (v:Value) (n:Nat) (cs:List Value):Prop:=
 (n=0/\cs=[]/\∃a cc,v=.slice a 0 cc/\(a=none->cc=0))∨
 (∃b off cc c' e fr,v=.slice (some ⟨b,off,none⟩) n cc/\n<=cc/\w.heap[b]?=some (.cells c' e fr)/\off+cs.length<=c'.size/\(c'.toList.drop off).take cs.length=cs)
section
variable {D:Type} {P:Program} {cfg:D->HRep} {w:World}
theorem qB9:Rel P cfg ⟨fun _=> none⟩ (fun _ _=> False) (AH.of ([]:List (Option (AObj D)))) w:=
 ⟨fun k _=> by simp[of_get],fun _ _=> rfl,fun k o h=> by simp[of_get] at h,fun _ _ _ h=> h,fun _ _ h=> h.elim,fun _ _ _ h=> h.elim,fun k cs h=> by simp[of_get] at h⟩
theorem Rel.addRo {ρ:Env} {own:Nat->Nat->Prop} {H:AH D} (hr:Rel P cfg ρ own H w) (hown:∀k b,¬own k b) {v:Value} {n:Nat} {cs:List Value} (hg:jJ cs=true) (h1:cs.all (·.oneCell')=true) (hv:zZ3 w v n cs):
  ∃ρ',Rel P cfg ρ' own (H.add (.ro cs)) w/\ρ.le ρ'/\VR ρ' (.slice (some ⟨H.next,0,none⟩) n 0) v:=by
 have key:∀ρ':Env,ρ.le ρ'->(∀k,H.next+1<=k->ρ'.loc k=none)->zCd P cfg ρ' (own H.next) H.next (.ro cs) w->Rel P cfg ρ' own (H.add (.ro cs)) w:=by
  intro ρ' hle hd hob
  refine⟨fun k hk=> ?_,fun k hk=> hd k hk,fun k o ho=> ?_,fun k _ b hb=> hown k b hb,fun k b hb=> (hown k b hb).elim,fun k _ b hb=> (hown k b hb).elim,fun k _ _ _ l _ k' hb=> hown k' l.b hb⟩
  ·simp only[AH.next_add] at hk
   rw[AH.get_add,if_neg (by omega)];exact hr.fresh k (by omega)
  ·rw[AH.get_add] at ho
   split at ho
   ·rename_i e;subst e;cases ho;exact hob
   ·exact (hr.obj k o ho).keep P cfg hle (fun _ _=> rfl) fun _ _ _ _ _=> rfl
 rcases hv with ⟨rfl,rfl,a,cc,rfl,hcc⟩|⟨b,off,cc,c',e,fr,rfl,hn,hh,hsz,hcs⟩
 ·exact⟨ρ,key ρ ρ.le_refl (fun k hk=> hr.dom k (by omega)) ⟨fun i=> hown _ i,fun h=> (h rfl).elim⟩,ρ.le_refl,.slicen _ _ a cc (by omega) (fun h=> by
  rcases h with h|h
  ·omega
  ·exact hcc h)⟩
 ·have hle:ρ.le (ρ.put H.next ⟨b,off,0,0⟩):=Env.put_le (hr.dom _ (Nat.le_refl _))
  refine⟨ρ.put H.next ⟨b,off,0,0⟩,key _ hle (fun k hk=> ?_) ⟨fun i=> hown _ i,fun _=> ⟨⟨b,off,0,0⟩,c',e,fr,by simp[Env.loc_put],hh,hsz,?_,h1⟩⟩,hle,?_⟩
  ·rw[Env.loc_put,if_neg (by omega)];exact hr.dom k (by omega)
  ·show VRs _ cs ((c'.toList.drop off).take cs.length)
   rw[hcs];exact VRs.of_ground _ _ hg
  ·exact .slice _ _ _ _ _ _ ⟨b,off,0,0⟩ (by simp[Env.loc_put]) hn (fun _=> rfl) (fun h=> by omega) (fun m h=> by omega)
variable {H:Type} {enc:TypeId × Value->H}
theorem qBb {a:Addr} {n:Nat} {cs:List Value} (hn:0<n) (h:w.cells? 0 a n=some cs):∃c' e fr,a.spot=none/\w.heap[a.block]?=some (.cells c' e fr)/\a.off+n<=c'.size/\(c'.toList.drop a.off).take n=cs:=by
 obtain⟨_,hlen,hc⟩:=World.cells?_some h
 have hat:∀i,i<n->∃v,cs[i]?=some v:=fun i hi=> ⟨cs[i],List.getElem?_eq_getElem (by omega)⟩
 obtain⟨v0,hv0⟩:=hat 0 hn
 have h0:=hc 0 hn
 rw[hv0] at h0
 have ha0:a.add 0=a:=by simp[Addr.add]
 rw[ha0] at h0
 unfold World.cell? at h0
 split at h0
 case h_2=> cases h0
 rename_i c' e fr hh
 have hsp:a.spot=none:=by
  cases hs:a.spot with
  |none=> rfl
  |some x=> rw[hs] at h0;simp at h0
 have hcell:∀i,i<n->c'[a.off+i]?=cs[i]?:=fun i hi=> by
  rw[←hc i hi]
  unfold World.cell?
  have e1:(a.add i).block=a.block:=by unfold Addr.add;split<;> rfl
  have e2:(a.add i).spot=none:=by unfold Addr.add;split<;> simp[hsp]
  have e3:(a.add i).off=a.off+i:=by
   unfold Addr.add
   split
   ·rename_i h0;subst h0;rfl
   ·rfl
  rw[e1,hh,e2,e3];rfl
 refine⟨c',e,fr,hsp,hh,?_,?_⟩
 ·obtain⟨v,hv⟩:=hat (n - 1) (by omega)
  have:=hcell (n - 1) (by omega)
  rw[hv] at this
  have:=(Array.getElem?_eq_some_iff.1 this).1
  omega
 ·refine List.ext_getElem? fun i=> ?_
  rw[List.getElem?_take]
  split
  ·rename_i hi
   rw[List.getElem?_drop,Array.getElem?_toList,hcell i hi]
  ·rename_i hi
   rw[List.getElem?_eq_none (by omega)]
theorem qHs {α:Type} {t e:TypeId} {ea:α->List Value} {Ok:α->Prop} {r:Reach} {b0:Nat} {v:Value} {d:DataW H} {ps:List MemPlace} (ht:P.underlying t=some (.slice e)) (hs:0<P.cellsOf e) (hlen:∀x,(ea x).length=P.cellsOf e)
  (hel:∀fuel cs y,DataW.trod enc P w 0 (fun _=> true) true fuel e cs=some y->∃x,cs=ea x/\Ok x) (hok:Value.okWide P w r b0 t v) (hd:DataW.Trod enc P w 0 (fun _=> true) true t v d ps):
  ∃l:List α,(∀x∈l,Ok x)/\l.length<=maxLen/\zZ3 w v l.length (l.flatMap ea):=by
 obtain⟨a,len,cap,rfl⟩:=okWide_slice ht hok
 obtain⟨fuel,hf⟩:=hd
 rcases Deep.open_slice ht hf with ⟨h1,_⟩|⟨a',len',cap',m,n,D,Pl,h1,_,hlc,hcm,hm,_,hx⟩
 ·simp only[Value.cells] at h1
  have h2:Value.slice a len cap=.slice none 0 0:=by simpa using h1
  cases h2
  exact⟨[],by simp,Nat.zero_le _,.inl ⟨rfl,rfl,none,0,rfl,fun _=> rfl⟩⟩
 ·simp only[Value.cells] at h1
  have h2:Value.slice a len cap=.slice (some a') len' cap':=by simpa using h1
  cases h2
  simp only[if_true] at hm
  subst hm
  rcases Nat.eq_zero_or_pos len with rfl|hpos
  ·exact⟨[],by simp,Nat.zero_le _,.inl ⟨rfl,rfl,some a',m,rfl,fun h=> by cases h⟩⟩
  ·have hi:∀i,i<len->∃x,w.cells? 0 (a'.add (i*P.cellsOf e)) (P.cellsOf e)=some (ea x)/\Ok x:=fun i hi=> by
    obtain⟨cs',h1,h2⟩:=hx i (by omega)
    obtain⟨x,rfl,hok⟩:=hel _ _ _ h2
    exact⟨x,h1,hok⟩
   have hfam:∀n,n<=len->∃l:List α,l.length=n/\(∀x∈l,Ok x)/\(0<n->∃c' ty fr,a'.spot=none/\w.heap[a'.block]?=some (.cells c' ty fr)/\a'.off+n*P.cellsOf e<=c'.size/\(c'.toList.drop a'.off).take (n*P.cellsOf e)=l.flatMap ea):=by
    intro n
    induction n with
    |zero=> intro _;exact⟨[],rfl,by simp,fun h=> absurd h (Nat.lt_irrefl _)⟩
    |succ n ih=>
     intro hn
     obtain⟨l,hl,hok,hrest⟩:=ih (by omega)
     obtain⟨x,hxc,hxo⟩:=hi n (by omega)
     obtain⟨c',ty,fr,q1,q2,q3,q4⟩:=qBb hs hxc
     have e1:(a'.add (n*P.cellsOf e)).block=a'.block:=by unfold Addr.add;split<;> rfl
     have e3:(a'.add (n*P.cellsOf e)).off=a'.off+n*P.cellsOf e:=by
      unfold Addr.add
      split
      ·rename_i h0;rw[h0];rfl
      ·rfl
     rw[e1] at q2;rw[e3] at q3 q4
     have hsp:a'.spot=none:=by
      rcases Nat.eq_zero_or_pos n with rfl|h
      ·simpa [Addr.add] using q1
      ·exact (hrest h).choose_spec.choose_spec.choose_spec.1
     refine⟨l++[x],by simp[hl],fun y hy=> ?_,fun _=> ⟨c',ty,fr,hsp,q2,by rw[Nat.succ_mul];omega,?_⟩⟩
     ·rcases List.mem_append.1 hy with hy|hy
      ·exact hok y hy
      ·have:y=x:=by simpa using hy
       subst this;exact hxo
     ·have hsplit:∀(L:List Value) (p q:Nat),L.take (p+q)=L.take p++(L.drop p).take q:=fun L p q=> List.take_add
      rw[Nat.succ_mul,hsplit,List.drop_drop,q4,List.flatMap_append]
      congr 1
      ·rcases Nat.eq_zero_or_pos n with rfl|h
       ·have:l=[]:=List.eq_nil_of_length_eq_zero hl
        subst this;simp
       ·obtain⟨c2,ty2,fr2,_,g2,_,g4⟩:=hrest h
        rw[q2] at g2;cases g2
        exact g4
      ·simp
   obtain⟨l,hl,hok',hrest⟩:=hfam len (Nat.le_refl _)
   obtain⟨c',ty,fr,g1,g2,g3,g4⟩:=hrest hpos
   have hfl:(l.flatMap ea).length=len*P.cellsOf e:=by
    rw[←g4,List.length_take,List.length_drop,Array.length_toList];omega
   refine⟨l,hok',by omega,.inr ⟨a'.block,a'.off,m,c',ty,fr,?_,by omega,g2,by rw[hfl];exact g3,by rw[hfl];exact g4⟩⟩
   rw[hl]
   cases a'
   simp only at g1
   subst g1;rfl
theorem zW1 {t:TypeId} {fs:Array Field} {fuel:Nat} {cs:List Value} {x:DataW H × List MemPlace} (ht:P.underlying t=some (.struct fs)) (hoff:(List.range fs.size).all (fun i=> match fs[i]? with|some f=> decide (f.offset=i) && decide (P.cellsOf f.type=1)|none=> false)=true)
  (h:DataW.trod enc P w 0 (fun _=> true) true fuel t cs=some x) (hsz:P.cellsOf t=fs.size):cs.length=fs.size/\∀(i:Nat) (f:Field),fs[i]?=some f->∃v n y,cs[i]?=some v/\DataW.trod enc P w 0 (fun _=> true) true n f.type [v]=some y:=by
 obtain⟨xs,n,_,_,h1,h2,h3⟩:=DataW.trod_struct ht h
 refine⟨by rw[h1,hsz],fun i f hf=> ?_⟩
 have hi:i<fs.size:=(Array.getElem?_eq_some_iff.1 hf).1
 have ho:=List.all_eq_true.1 hoff i (by simpa using hi)
 rw[hf] at ho
 simp only[Bool.and_eq_true,decide_eq_true_eq] at ho
 have h4:=h3 i f hf
 rw[ho.1,ho.2,List.getElem?_eq_getElem (by omega)] at h4
 have hci:i<cs.length:=by omega
 refine⟨cs[i],n,xs[i],List.getElem?_eq_getElem hci,?_⟩
 have h5:(cs.drop i).take 1=[cs[i]]:=by rw[List.drop_eq_getElem_cons hci];rfl
 rw[h5] at h4;exact h4
theorem zUo {f:FuncId} {args:List Value} {Hh:AH D} {ρ:Env} {own:Nat->Nat->Prop} {args':Array Value} {K:AEnd->AH D->Prop} (h:zD P cfg f args Hh K) (hK:∀r H',K r H'->r=.ret (.bool true)) (hr:Rel P cfg ρ own Hh w) (hown:∀k b,¬own k b) (hv:VRs ρ args args'.toList):
  Calls P f args' w fun e w'=> e=.returned (.bool true)/\Below w.heap.size w w':=by
 refine (h.2 ρ own w args' hr hv).mono fun e w' ⟨r,H',ρ',own',k,x,en,_⟩=> ?_
 have:=hK r H' k
 subst this
 refine⟨?_,⟨x.os,x.tape,x.output,x.size,fun b hb=> x.kept b hb fun k hk=> hown k b hk⟩⟩
 cases e with
 |returned v=>
  have:VR ρ' (.bool true) v:=en
  rw[this.bool_eq]
 |panicked c=> exact en.elim
 |outgrown=> exact en.elim
end
end Go.Abs
/-
 THE LIBRARY'S SORT of whole numbers,by its zHz.
-/
namespace Go.Abs
open Go.RowKit Go.Sort
section
variable {D:Type} {P:Program} {cfg:D->HRep}
theorem Rel.turnGrow {ρ:Env} {own:Nat->Nat->Prop} {H:AH D} {w:World} (h:Rel P cfg ρ own H w) {k b:Nat} {o o':AObj D} (hk:H.get k=some o) (hb:∀i,own k i↔i=b) {w':World}
  (hsz:w.heap.size<=w'.heap.size) (hoth:∀i,i<w.heap.size->i≠b->w'.heap[i]?=w.heap[i]?) (hok:zCd P cfg ρ (own k) k o' w') (hnr:∀cs,o'≠.ro cs):
  Rel P cfg ρ own (H.upd k o') w':=by
 refine⟨fun j hj=> ?_,h.dom,fun j x hj=> ?_,fun j hj=> ?_,fun j i hi=> Nat.lt_of_lt_of_le (h.bound j i hi) hsz,h.disj,fun j cs hj hcs=> ?_⟩
 ·rw[AH.get_upd]
  have:=h.lt hk
  simp only[AH.next_upd] at hj
  rw[if_neg (by omega)];exact h.fresh j hj
 ·rw[AH.get_upd] at hj
  split at hj
  ·rename_i e;subst e;cases hj;exact hok
  ·rename_i hne
   refine (h.obj j x hj).keep P cfg ρ.le_refl (fun i hi=> hoth i (h.bound j i hi) ?_) (fun cs l hx hcs hl=> ?_)
   ·rintro rfl
    exact hne (h.disj j k i hi ((hb i).2 rfl))
   ·subst hx
    obtain⟨l',cs',e',fr,h1,h3,_⟩:=(h.obj j _ hj).2 hcs
    rw[hl] at h1;cases h1
    refine hoth l.b (Array.getElem?_eq_some_iff.1 h3).1 fun e=> ?_
    exact h.ro j cs hj hcs _ hl k ((hb _).2 e)
 ·rw[AH.get_upd] at hj
  split at hj
  ·cases hj
  ·exact h.gone j hj
 ·rw[AH.get_upd] at hj
  split at hj
  ·cases hj;exact absurd rfl (hnr cs)
  ·exact h.ro j cs hj hcs
def qI (l:List Int):List Value:=l.map (Value.int .i64)
def zA7 (l:List Int):List Int:=l.mergeSort fun x y=> decide (x<=y)
theorem zCq (l:List Int):(qI l).length=l.length:=by simp[qI]
theorem zJh (l:List Int):jJ (qI l)=true:=by
 induction l with
 |nil=> rfl
 |cons e l ih=> simp[qI,jJ,xD] at ih⊢;exact ih
theorem zYu (l:List Int):(qI l).all (·.oneCell')=true:=by simp[qI,Value.oneCell']
theorem qMg (θ:Nat->Nat) (l:List Int):zAh θ (qI l)=qI l:=xV θ _ (zJh l)
theorem zJx (l:List Int):(zA7 l).length=l.length:=List.length_mergeSort l
theorem zGl (l:List Int):(zA7 l).Perm l:=List.mergeSort_perm l _
theorem zRy (l:List Int):(zA7 l).Pairwise (· <=·):=by
 have:=List.pairwise_mergeSort (le:=fun x y:Int=> decide (x<=y)) (by intro a b c;simp;omega) (by intro a b;simp;omega) l
 exact this.imp (by simp)
theorem qGz {f:FuncId} (hc:∀args w,(callFunc f args).run P w=.ok (.enter f args) w)
  (hs:∀(blk off cap:Nat) (zs:List Int) (w:World),Holds (Value.int .i64) w blk off zs.toArray->blk<w.heap.size->zs.length<4611686018427387904->
   Calls P f #[.slice (some ⟨blk,off,none⟩) zs.length cap] w fun e w'=> e=.returned (.tuple #[])/\∃n os,w'=grow (putRow (Value.int .i64) (Sort.ahead w n) blk off (zs.mergeSort fun x y=> decide (x<=y)).toArray) os)
  (e:TypeId) (zs:List Int) (tg:Nat) (hz:zs≠[]) (hsz:zs.length<4611686018427387904):
  zD P cfg f [.slice (some ⟨0,0,none⟩) zs.length tg] (AH.of [some (.arr e (qI zs))]) fun r H'=> r=.ret (.tuple #[])/\H'=AH.of [some (.arr e (qI (zA7 zs)))]:=by
 refine⟨hc,fun ρ own w args' hr hv=> ?_⟩
 have hk:(AH.of [some (AObj.arr e (qI zs):AObj D)]).get 0=some (.arr e (qI zs)):=rfl
 have hl0:0<zs.length:=List.length_pos_iff.2 hz
 obtain⟨v',rfl,hvv⟩:∃v',args'=#[v']/\VR ρ (.slice (some ⟨0,0,none⟩) zs.length tg) v':=by
  obtain⟨a⟩:=args'
  cases hv with
  |cons _ v' _ _ h1 h2=> cases h2;exact⟨v',rfl,h1⟩
 rcases hvv.slice_inv with ⟨o',cc,l,h1,h2,h3,h4,h5,rfl⟩|⟨_,h0,_⟩
 case inr=> omega
 rcases hr.obj 0 _ hk with ⟨l',cs',g1,g2,g3,g4,g5,g6,g7,g8,g9⟩|⟨g1,_⟩
 case inr=> exact absurd (by simpa [qI] using g1) hz
 rw[h1] at g1;cases g1
 have ho:o'=0:=by rw[h3 hl0,g2]
 subst ho
 have ht:cs'.toList.take zs.length=zs.map (Value.int .i64):=by
  have:=VRs.ints_eq g8
  rw[zCq] at this;exact this
 have hlt:l.b<w.heap.size:=(Array.getElem?_eq_some_iff.1 g6).1
 refine (hs l.b 0 cc zs w (holds_of_blockI g6 ht) hlt hsz).mono ?_
 rintro en w' ⟨rfl,n,os,rfl⟩
 have hg:=grownBy_sortedI (w:=w) (g:=l.b) (n:=n) (os:=os) (zs.mergeSort fun x y=> decide (x<=y)).toArray
 have hh:=heap_sortedI (w:=w) (n:=n) (os:=os) (zs.mergeSort fun x y=> decide (x<=y)).toArray g6
 have hlen:(zs.mergeSort fun x y=> decide (x<=y)).length=zs.length:=List.length_mergeSort zs
 have hcs:zs.length<=cs'.size:=by rw[zCq] at g7;exact g7
 have hoth:∀i,i<w.heap.size->i≠l.b->(grow (putRow (Value.int .i64) (Sort.ahead w n) l.b 0 (zs.mergeSort fun x y=> decide (x<=y)).toArray) os).heap[i]?=w.heap[i]?:=fun i hi hne=> hg.block i hi fun e=> hne (by cases e;rfl)
 have hr':=hr.turnGrow hk g5 (o':=.arr e (qI (zA7 zs))) hg.size hoth (.inl ⟨l,_,h1,g2,g3,by rw[g4];simp[putCells],g5,hh,by rw[zCq,zJx];simpa [putCells] using hcs,by
  rw[zCq,zJx]
  have:=take_putCellsI cs' (zs.mergeSort fun x y=> decide (x<=y)) (by omega)
  rw[hlen] at this
  rw[this];exact VRs.of_ground _ _ (zJh _),zYu _⟩) (by intro cs h;cases h)
 rw[zR6 _ _ _ (by simp)] at hr'
 exact⟨.ret (.tuple #[]),_,ρ,own,⟨rfl,rfl⟩,⟨ρ.le_refl,fun j b hb=> .inl ⟨j,hb⟩,hg.size,fun b hb hn=> hoth b hb fun e=> hn 0 ((g5 b).2 e),rfl,rfl,rfl⟩,.tuple _ _ .nil,hr'⟩
def leR:AEnd->AEnd->Prop
 |.ret v,.ret w=> leV v w∨∃xs ys,v=.tuple xs/\w=.tuple ys/\xs.size=ys.size/\zF6 xs.toList ys.toList
 |.pan v,.pan w=> v=w
 |_,_=> False
theorem zPf {v w:Value} (h:leV v w):leR (.ret v) (.ret w):=.inl h
theorem leR.endR {ρ:Env} {r r':AEnd} (h:leR r r') {en:Ending} (he:zH0 ρ r en):zH0 ρ r' en:=by
 cases r<;> cases r'<;> simp only[leR] at h
 ·cases en<;> simp only[zH0] at he⊢
  rcases h with h|⟨xs,ys,rfl,rfl,h1,h2⟩
  ·exact h.vr he
  ·obtain⟨zs,rfl,hz⟩:=he.tuple_inv
   refine .tuple _ _ ?_
   have:=h2.vrs hz
   have hl:=hz.length
   simp only[Array.length_toList] at hl this
   rwa [List.take_of_length_le (by simp;omega)] at this
 ·subst h;exact he
theorem zPl {frag:D->List (AObj D)} {n0:Nat} {r r' r2:AEnd} {H' H2:AH D} (h:leR r r') (e:ends P frag n0 r2 H2 r' H'):ends P frag n0 r2 H2 r H':=
 ⟨fun ρ own w hr=> by
  obtain⟨ρ2,own2,a1,a2,a3,a4⟩:=e.view ρ own w hr
  exact⟨ρ2,own2,a1,a2,a3,fun en he=> a4 en (h.endR he)⟩⟩
section
variable {C:Sg D} {F:Nat} {Q:AExit->(Nat->Value)->AH D->Prop} {tm:Nat->Value} {H:AH D}
theorem zUm (sm:zFc C) {a:AC} (hF:0<F) (h:a.wp C F (zMb (fun _ _ _=> False) 0 Q) tm H):(AC.loop a).wp C F Q tm H:=by
 refine jH sm (fun m tm' H'=> m=0/\tm'=tm/\H'=H) (m:=0) ⟨rfl,rfl,rfl⟩ hF ?_
 rintro m tm' H' ⟨rfl,rfl,rfl⟩
 refine AC.mono sm F a _ _ _ _ (fun e tm H hh=> ?_) h
 cases e with
 |normal=> obtain⟨m',h1,h2⟩:=hh;exact h2.elim
 |_=> exact hh
end
end
attribute [simp] zCq qMg zJx
end Go.Abs
/-
 LOOPS OVER MAPS:what has been met,what is left.
-/
namespace Go.Abs
structure MMet (es vis:List MapEntry):Prop where
 sub:∀e∈vis,e∈es
 nd:(vis.map (·.born)).Nodup
theorem MMet.nil (es:List MapEntry):MMet es []:=⟨fun e h=> by simp at h,by simp⟩
theorem MMet.add {es vis:List MapEntry} (h:MMet es vis) {e:MapEntry} (he:e∈es) (hn:e.born∉vis.map (·.born)):MMet es (vis++[e]):=
 ⟨fun x hx=> by
   rcases List.mem_append.1 hx with hx|hx
   ·exact h.sub x hx
   ·simp at hx;subst hx;exact he,
  by
   rw[List.map_append]
   refine List.nodup_append.2 ⟨h.nd,by simp,?_⟩
   rintro a ha b hb rfl
   simp at hb;subst hb;exact hn ha⟩
theorem qOl {es:List MapEntry} (hnd:(es.map (·.born)).Nodup) {a b:MapEntry} (ha:a∈es) (hb:b∈es) (h:a.born=b.born):a=b:=by
 induction es with
 |nil=> cases ha
 |cons x es ih=>
  simp only[List.map_cons,List.nodup_cons] at hnd
  rcases List.mem_cons.1 ha with rfl|ha'<;> rcases List.mem_cons.1 hb with rfl|hb'
  ·rfl
  ·exact absurd (List.mem_map.2 ⟨b,hb',h.symm⟩) hnd.1
  ·exact absurd (List.mem_map.2 ⟨a,ha',h⟩) hnd.1
  ·exact ih hnd.2 ha' hb'
theorem zI3:∀{l:List MapEntry},(l.map (·.born)).Nodup->l.Nodup
 |[],_=> .nil
 |e::l,h=> by
  simp only[List.map_cons,List.nodup_cons] at h
  exact List.nodup_cons.2 ⟨fun he=> h.1 (List.mem_map.2 ⟨e,he,rfl⟩),zI3 h.2⟩
theorem MMet.all {es vis:List MapEntry} (h:MMet es vis) (hnd:(es.map (·.born)).Nodup) (hall:∀e∈es,e.born∈vis.map (·.born)):vis.Perm es:=by
 refine (List.perm_ext_iff_of_nodup (zI3 h.nd) (zI3 hnd)).2 fun a=> ⟨h.sub a,fun ha=> ?_⟩
 obtain⟨b,hb,he⟩:=List.mem_map.1 (hall a ha)
 rw[qOl hnd ha (h.sub b hb) he.symm];exact hb
def qH.or {D:Type} (a b:qH D):qH D:=fun args H=> (a args H).or (b args H)
theorem zF5 {D:Type} {P:Program} {frag:D->List (AObj D)} {st:qH D} {args:List Value} {L:List (Option (AObj D))} {K:AEnd->AH D->Prop} (ps:List (Plan D)) (h:zFt frag L ps) (hk:goS (st args (AH.of (zGr L ps))) (jT P (zAw P frag)) st args (AH.of (zGr L ps)) K):
  seeP (jT P (zAw P frag)) st args (AH.of L) K:=by
 unfold goS at hk
 split at hk
 ·rename_i p r H' he
  exact⟨_,zUf ps h,by rw[he];exact hk⟩
 ·obtain⟨H1,h1,h2⟩:=hk
  exact⟨H1,(zUf ps h).trans h1,h2⟩
end Go.Abs
/-
 NUMBERS:shifts,bits.
-/
namespace Go.Abs
open Go
theorem qPf (k k':IntKind) (a b:Int):zB4 .shl (.int k a) (.int k' b)=if b<0 then none else some (.int k (k.wrap (a*2 ^ min b.toNat k.bits))):=rfl
theorem qPe (k k':IntKind) (a b:Int):zB4 .shr (.int k a) (.int k' b)=if b<0 then none else some (.int k (a.fdiv (2 ^ min b.toNat k.bits))):=rfl
attribute [simp] qPf qPe
theorem zLs {n:Nat} (h:n<18446744073709551616):(BitVec.ofInt 64 (n:Int)).toNat=n:=by
 rw[BitVec.ofInt_natCast,BitVec.toNat_ofNat]
 exact Nat.mod_eq_of_lt h
theorem qOt {n m:Nat} (hn:n<18446744073709551616) (hm:m<18446744073709551616):zQ4 .u64 n m=((n &&& m:Nat):Int):=by
 unfold zQ4
 show IntKind.u64.wrap ((BitVec.ofInt 64 (n:Int) &&& BitVec.ofInt 64 (m:Int)).toNat:Int)=_
 rw[BitVec.toNat_and,zLs hn,zLs hm]
 have:n &&& m<=n:=Nat.and_le_left
 exact zB5 (by omega) (by omega)
theorem qU7 {n m:Nat} (hn:n<18446744073709551616) (hm:m<18446744073709551616):bOr .u64 n m=((n|||m:Nat):Int):=by
 unfold bOr
 show IntKind.u64.wrap ((BitVec.ofInt 64 (n:Int)|||BitVec.ofInt 64 (m:Int)).toNat:Int)=_
 rw[BitVec.toNat_or,zLs hn,zLs hm]
 have:n|||m<2 ^ 64:=Nat.or_lt_two_pow (by omega) (by omega)
 exact zB5 (by omega) (by omega)
theorem zZq {x:Int} (h0:0<=x) (h1:x<18446744073709551616):zQ4 .u64 x 1=x % 2:=by
 obtain⟨n,rfl⟩:=Int.eq_ofNat_of_zero_le h0
 have:=qOt (n:=n) (m:=1) (by omega) (by omega)
 simp only[Nat.and_one_is_mod] at this
 simpa using this
theorem qCy {a b:Int} (i:Nat) (ha:0<=a) (hb:0<=b) (hb2:b<2 ^ i) (h1:a*2 ^ i+b<18446744073709551616):bOr .u64 (a*2 ^ i) b=a*2 ^ i+b:=by
 obtain⟨n,rfl⟩:=Int.eq_ofNat_of_zero_le ha
 obtain⟨m,rfl⟩:=Int.eq_ofNat_of_zero_le hb
 have c2:((2 ^ i:Nat):Int)=2 ^ i:=by rw[Int.natCast_pow];rfl
 have hm:m<2 ^ i:=by rw[←c2] at hb2;exact Int.ofNat_lt.1 hb2
 have h4:((n*2 ^ i:Nat):Int)=(n:Int)*2 ^ i:=by rw[Int.natCast_mul,c2]
 have h2:n*2 ^ i+m<18446744073709551616:=by
  rw[←h4] at h1
  generalize n*2 ^ i=q at h1⊢
  omega
 have e:=Nat.shiftLeft_add_eq_or_of_lt hm n
 rw[Nat.shiftLeft_eq] at e
 have h3:=qU7 (n:=n*2 ^ i) (m:=m) (by omega) (by omega)
 rw[←e] at h3
 rw[h4] at h3
 rw[h3,Int.natCast_add,h4]
section
variable {D:Type}
theorem qHb (θ:Nat->Nat) (r:Loop) (n:Nat) (j:Option Jmp):(AObj.loopr r n j:AObj D).ren θ=.loopr r n j:=rfl
theorem qIe (r r':Loop) (n n':Nat) (j j':Option Jmp):leO (.loopr r n j:AObj D) (.loopr r' n' j')=(r=r'/\n=n'/\j=j'):=by simp[leO]
end
attribute [simp] qHb qIe
end Go.Abs
/-
 What the arguments of laws read as:numbers,truth values.
-/
namespace Go.Abs
open Go.ChangeShapes Go.WideShapes Go.ChangeAt Go.RowKit
section
variable {P:Program} {H:Type} {enc:TypeId × Value->H} {w:World}
end
end Go.Abs
/-
 CONTRACTS OF THE KIT'S SHELF:what comes to a value and leaves the world as it was.
-/
namespace Go.Abs
section
variable {D:Type} {P:Program} {cfg:D->HRep}
end
theorem zUv (a b:ByteArray):(a==b)=decide (a=b):=by
 show (a.data==b.data)=_
 rw[Bool.eq_iff_iff,beq_iff_eq,decide_eq_true_eq]
 exact⟨fun h=> ByteArray.ext h,fun h=> by rw[h]⟩
theorem qFl (a b:ByteArray):zB4 .eql (.string a) (.string b)=some (.bool (decide (a=b))):=by
 show some (Value.bool (a.toList==b.toList))=_
 rw[←beq_toListBytes,zUv]
theorem qFk (a b:ByteArray):zB4 .neq (.string a) (.string b)=some (.bool (decide (a≠b))):=by
 show some (Value.bool !(a.toList==b.toList))=_
 rw[←beq_toListBytes,zUv]
 simp
theorem qAc {D:Type} {e:TypeId} {z:List Value} {n:Nat} {ps:List (Nat × Nat × Opd)} {tm:Nat->Value} {H:AH D}:
  (AOp.bslice e z n ps).step tm H=(zGb z (ps.map fun p=> (p.1,p.2.1,p.2.2.ev tm))).bind fun l=> if l.all (·.oneCell') then some (.slice (some ⟨H.next,0,none⟩) n 1,H.add (.arr e l)) else none:=by
 show (match zGb z (ps.map fun p=> (p.1,p.2.1,p.2.2.ev tm)) with
  |some l=> if l.all (·.oneCell') then some (Value.slice (some ⟨H.next,0,none⟩) n 1,H.add (.arr e l)) else none
  |none=> none)=_
 cases zGb z (ps.map fun p=> (p.1,p.2.1,p.2.2.ev tm))<;> rfl
attribute [simp high] qAc
attribute [simp] qFl qFk
end Go.Abs
/-
 A HEAP SEEN BY OTHER NAMES.
-/
namespace Go.Abs
section
variable {D:Type} {P:Program} {frag:D->List (AObj D)}
theorem jT.names {H:AH D} {L l2:List (Option (AObj D))} {ks:List Nat} (h:jT P (zAw P frag) H (AH.of L)) (hn:zEf H.next L ks l2):jT P (zAw P frag) H (AH.of l2):=fun ρ own w hr=> by
 obtain⟨ρ1,own1,a1,a2,a3⟩:=h ρ own w hr
 obtain⟨own2,b1,b2⟩:=hn.rel a1
 refine⟨_,own2,b1,fun k x hx=> ?_,fun b hb=> a3 b (b2 b hb)⟩
 have hk:k<H.next:=by
  rcases Nat.lt_or_ge k H.next with h|h
  ·exact h
  ·rw[hr.dom k h] at hx;cases hx
 show ρ1.loc (sh ks.length L.length ks k)=some x
 rw[hn.fix hk];exact a2 k x hx
end
end Go.Abs
/-
 THE LIBRARY'S COMPACT of whole numbers,by its zHz;what is left of a zA7 row.
-/
namespace Go.Abs
open Go.RowKit Go.Sort
theorem qI7 {d:Array Int} {m:Nat} {v:Int} (h:v∈Lib.compactUpTo d m):∃j,j<m/\d[j]! =v:=by
 unfold Lib.compactUpTo at h
 obtain⟨j,hj,rfl⟩:=List.mem_map.1 h
 exact⟨j,List.mem_range.1 (List.mem_filter.1 hj).1,rfl⟩
theorem qXw {d:Array Int} {m:Nat}:∀j,j<m->d[j]! ∈Lib.compactUpTo d m:=by
 induction m with
 |zero=> intro j hj;omega
 |succ m ih=>
  intro j hj
  rw[Lib.compactUpTo_succ]
  by_cases h:j<m
  ·exact List.mem_append_left _ (ih j h)
  ·obtain rfl:j=m:=by omega
   cases hk:Lib.keeps d j with
   |true=> simp
   |false=>
    unfold Lib.keeps at hk
    simp only[decide_eq_false_iff_not,not_or,ne_eq,Classical.not_not] at hk
    rw[hk.2]
    exact List.mem_append_left _ (ih (j - 1) (by omega))
theorem qI6 {d:Array Int} {m:Nat} (h:∀i j,i<=j->j<m->d[i]! <=d[j]!):(Lib.compactUpTo d m).Pairwise (· <·):=by
 induction m with
 |zero=> simp[Lib.compactUpTo]
 |succ m ih=>
  rw[Lib.compactUpTo_succ,List.pairwise_append]
  refine⟨ih fun i j a b=> h i j a (by omega),?_,?_⟩
  ·split<;> simp
  intro a ha b hb
  cases hk:Lib.keeps d m with
  |false=> simp[hk] at hb
  |true=>
   simp[hk] at hb
   subst hb
   obtain⟨j,hj,rfl⟩:=qI7 ha
   unfold Lib.keeps at hk
   simp only[decide_eq_true_eq] at hk
   have h1:=h j (m - 1) (by omega) (by omega)
   have h2:=h (m - 1) m (by omega) (by omega)
   rcases hk with h3|h3<;> omega
theorem zRq:∀{a b:List Int},a.Pairwise (· <·)->b.Pairwise (· <·)->(∀v,v∈a↔v∈b)->a=b
 |[],[],_,_,_=> rfl
 |[],y::b,_,_,h=> by have:=(h y).2 (by simp);simp at this
 |x::a,[],_,_,h=> by have:=(h x).1 (by simp);simp at this
 |x::a,y::b,ha,hb,h=> by
  rw[List.pairwise_cons] at ha hb
  have hxy:x=y:=by
   have h1:=(h x).1 (by simp)
   have h2:=(h y).2 (by simp)
   rcases List.mem_cons.1 h1 with e|e
   ·exact e
   rcases List.mem_cons.1 h2 with e'|e'
   ·exact e'.symm
   have:=hb.1 x e
   have:=ha.1 y e'
   omega
  subst hxy
  rw[zRq ha.2 hb.2 fun v=> ?_]
  constructor
  ·intro hv
   rcases List.mem_cons.1 ((h v).1 (List.mem_cons_of_mem _ hv)) with e|e
   ·have:=ha.1 v hv;omega
   ·exact e
  ·intro hv
   rcases List.mem_cons.1 ((h v).2 (List.mem_cons_of_mem _ hv)) with e|e
   ·have:=hb.1 v hv;omega
   ·exact e
theorem zTy (l:List Int):(Lib.compact (zA7 l)).Pairwise (· <·):=by
 unfold Lib.compact
 refine qI6 fun i j hij hj=> ?_
 rw[getElem!_pos (zA7 l).toArray i (by rw[List.size_toArray];omega),getElem!_pos (zA7 l).toArray j (by rw[List.size_toArray];omega)]
 simp only[List.getElem_toArray]
 rcases Nat.lt_or_ge i j with h|h
 ·exact List.pairwise_iff_getElem.1 (zRy l) i j (by omega) hj h
 ·have:i=j:=by omega
  subst this;omega
theorem zP3 (l:List Int) (v:Int):v∈Lib.compact (zA7 l)↔v∈l:=by
 unfold Lib.compact
 rw[←(zGl l).mem_iff]
 constructor
 ·intro h
  obtain⟨j,hj,rfl⟩:=qI7 h
  rw[getElem!_pos (zA7 l).toArray j (by rw[List.size_toArray];exact hj)]
  simp only[List.getElem_toArray]
  exact List.getElem_mem _
 ·intro h
  obtain⟨j,hj,rfl⟩:=List.getElem_of_mem h
  have:=qXw (d:=(zA7 l).toArray) (m:=(zA7 l).length) j hj
  rwa [getElem!_pos (zA7 l).toArray j (by rw[List.size_toArray];exact hj),List.getElem_toArray] at this
theorem zSk (l:List Int):(Lib.compact l).length<=l.length:=by
 unfold Lib.compact Lib.compactUpTo
 rw[List.length_map]
 have:=List.length_filter_le (Lib.keeps l.toArray) (List.range l.length)
 simpa using this
def zFf (l:List Int):List Int:=Lib.compact l++List.replicate (l.length - (Lib.compact l).length) 0
theorem zZg (l:List Int):(zFf l).length=l.length:=by
 have:=zSk l
 simp[zFf];omega
section
variable {D:Type} {P:Program} {cfg:D->HRep}
theorem zXv {f:FuncId} (hc:∀args w,(callFunc f args).run P w=.ok (.enter f args) w)
  (hs:∀(blk off cap:Nat) (zs:List Int) (w:World),Holds (Value.int .i64) w blk off zs.toArray->zs.length<=9223372036854775807->zs.length<=cap->
   Calls P f #[.slice (some ⟨blk,off,none⟩) zs.length cap] w fun e w'=> e=.returned (.slice (some ⟨blk,off,none⟩) (Lib.compact zs).length cap)/\∃q,w'=putRow (Value.int .i64) (Sort.ahead w q) blk off (Lib.compact zs++List.replicate (zs.length - (Lib.compact zs).length) 0).toArray)
  (e:TypeId) (zs:List Int) (tg:Nat) (hz:zs≠[]) (hsz:zs.length<=9223372036854775807):
  zD P cfg f [.slice (some ⟨0,0,none⟩) zs.length tg] (AH.of [some (.arr e (qI zs))]) fun r H'=> r=.ret (.slice (some ⟨0,0,none⟩) (Lib.compact zs).length tg)/\H'=AH.of [some (.arr e (qI (Lib.compact zs)))]:=by
 refine⟨hc,fun ρ own w args' hr hv=> ?_⟩
 have hk:(AH.of [some (AObj.arr e (qI zs):AObj D)]).get 0=some (.arr e (qI zs)):=rfl
 have hl0:0<zs.length:=List.length_pos_iff.2 hz
 obtain⟨v',rfl,hvv⟩:∃v',args'=#[v']/\VR ρ (.slice (some ⟨0,0,none⟩) zs.length tg) v':=by
  obtain⟨a⟩:=args'
  cases hv with
  |cons _ v' _ _ h1 h2=> cases h2;exact⟨v',rfl,h1⟩
 rcases hvv.slice_inv with ⟨o',cc,l,h1,h2,h3,h4,h5,rfl⟩|⟨_,h0,_⟩
 case inr=> omega
 rcases hr.obj 0 _ hk with ⟨l',cs',g1,g2,g3,g4,g5,g6,g7,g8,g9⟩|⟨g1,_⟩
 case inr=> exact absurd (by simpa [qI] using g1) hz
 rw[h1] at g1;cases g1
 have ho:o'=0:=by rw[h3 hl0,g2]
 subst ho
 have ht:cs'.toList.take zs.length=zs.map (Value.int .i64):=by
  have:=VRs.ints_eq g8
  rw[zCq] at this;exact this
 have hlt:l.b<w.heap.size:=(Array.getElem?_eq_some_iff.1 g6).1
 refine (hs l.b 0 cc zs w (holds_of_blockI g6 ht) hsz h2).mono ?_
 rintro en w' ⟨rfl,n,rfl⟩
 have hcr:(Lib.compact zs++List.replicate (zs.length - (Lib.compact zs).length) 0)=zFf zs:=rfl
 rw[hcr]
 have hlen:=zZg zs
 have hg:=grownBy_sortedI (w:=w) (g:=l.b) (n:=n) (os:=#[]) (zFf zs).toArray
 have hh:=heap_sortedI (w:=w) (n:=n) (os:=#[]) (zFf zs).toArray g6
 rw[grow_empty] at hg hh
 have hle:=zSk zs
 have hps:(putCells (Value.int .i64) 0 (zFf zs).toArray cs').size=cs'.size:=by simp[putCells]
 have hcs:zs.length<=cs'.size:=by rw[zCq] at g7;exact g7
 have hoth:∀i,i<w.heap.size->i≠l.b->(putRow (Value.int .i64) (Sort.ahead w n) l.b 0 (zFf zs).toArray).heap[i]?=w.heap[i]?:=fun i hi hne=> hg.block i hi fun e=> hne (by cases e;rfl)
 have hr':=hr.turnGrow hk g5 (o':=.arr e (qI (Lib.compact zs))) hg.size hoth (.inl ⟨l,_,h1,g2,g3,by rw[g4];simp[putCells],g5,hh,by rw[zCq,hps];omega,by
  rw[zCq]
  have:=take_putCellsI cs' (zFf zs) (by omega)
  rw[hlen] at this
  have h9:=congrArg (List.take (Lib.compact zs).length) this
  rw[List.take_take,Nat.min_eq_left hle] at h9
  rw[h9]
  have h10:((zFf zs).map (Value.int .i64)).take (Lib.compact zs).length=qI (Lib.compact zs):=by
   rw[←List.map_take]
   simp[zFf,qI]
  rw[h10];exact VRs.of_ground _ _ (zJh _),zYu _⟩) (by intro cs h;cases h)
 rw[zR6 _ _ _ (by simp)] at hr'
 have hv2:VR ρ (.slice (some ⟨0,0,none⟩) (Lib.compact zs).length tg) (.slice (some ⟨l.b,0,none⟩) (Lib.compact zs).length cc):=
  .slice 0 0 0 _ tg cc l h1 (by omega) (fun _=> h3 hl0) h4 h5
 exact⟨.ret (.slice (some ⟨0,0,none⟩) (Lib.compact zs).length tg),_,ρ,own,⟨rfl,rfl⟩,⟨ρ.le_refl,fun j b hb=> .inl ⟨j,hb⟩,hg.size,fun b hb hn=> hoth b hb fun e=> hn 0 ((g5 b).2 e),rfl,rfl,rfl⟩,hv2,hr'⟩
theorem zVa {f:FuncId} (hc:∀args w,(callFunc f args).run P w=.ok (.enter f args) w)
  (hs:∀(a:Option Addr) (cap:Nat) (w:World),Calls P f #[.slice a 0 cap] w fun e w'=> e=.returned (.slice a 0 cap)/\w'=w) (e:TypeId) (tg:Nat):
  zD P cfg f [.slice (some ⟨0,0,none⟩) 0 tg] (AH.of [some (.arr e (qI []))]) fun r H'=> r=.ret (.slice (some ⟨0,0,none⟩) 0 tg)/\H'=AH.of [some (.arr e (qI []))]:=by
 refine⟨hc,fun ρ own w args' hr hv=> ?_⟩
 obtain⟨v',rfl,hvv⟩:∃v',args'=#[v']/\VR ρ (.slice (some ⟨0,0,none⟩) 0 tg) v':=by
  obtain⟨a⟩:=args'
  cases hv with
  |cons _ v' _ _ h1 h2=> cases h2;exact⟨v',rfl,h1⟩
 obtain⟨a,cc,rfl⟩:∃a cc,v'=.slice a 0 cc:=by
  rcases hvv.slice_inv with ⟨o',cc,l,h1,h2,h3,h4,h5,rfl⟩|⟨_,_,_,a,cc,rfl,_⟩
  ·exact⟨_,_,rfl⟩
  ·exact⟨_,_,rfl⟩
 refine (hs a cc w).mono ?_
 rintro en w' ⟨rfl,rfl⟩
 exact⟨.ret (.slice (some ⟨0,0,none⟩) 0 tg),_,ρ,own,⟨rfl,rfl⟩,⟨ρ.le_refl,fun j b hb=> .inl ⟨j,hb⟩,Nat.le_refl _,fun b hb hn=> rfl,rfl,rfl,rfl⟩,hvv,hr⟩
end
end Go.Abs
