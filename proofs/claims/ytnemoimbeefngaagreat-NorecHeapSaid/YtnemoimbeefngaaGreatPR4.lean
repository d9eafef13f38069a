/-
  OPAQUE: one lock (norec), plainly: what holds, and that each step keeps it.
-/
import Derived.Test.YtnemoimbeefngaaGreatPR3
import Derived.Test.YtnemoimbeefngaaGreatPR2
set_option linter.unusedSimpArgs false
set_option linter.unusedVariables false
set_option linter.unnecessarySimpa false
set_option linter.unusedSectionVars false
set_option maxHeartbeats 32000000
set_option maxRecDepth 100000
namespace Go.Proofs
namespace YtnemoimbeefngaaGreat
structure LN where
 n:Nat
 snap:Int
 dec:Bool
 rest:Int->Prop
 rd:Bool
 t:Int
 val:Int
 lk:Nat
 seen:Int
 chk:Int->Int->Prop
structure AN where
 c:Int
 hp:Int->Int
 N:Nat
 key:Nat->Int
 rds:Nat->Int->Int->Prop
 lg:Nat->Int->Option Int
 ts:Nat->Option LN
def AN.as (s:AN):AS:=⟨s.c,fun _=> -1,fun _=> 0,s.hp,s.N,s.key,s.rds,s.lg,fun _=> none⟩
def zBx (ts:Nat->Option LN) (th:Nat) (x:Option LN):Nat->Option LN:=fun i=> if i=th then x else ts i
theorem zBq {ts:Nat->Option LN} {th i:Nat} {b x:LN}:zBx ts th (some b) i=some x↔(i=th/\x=b)∨(i≠th/\ts i=some x):=by
 unfold zBx;split<;> grind
theorem zD9 {ts:Nat->Option LN} {th i:Nat} {x:LN}:zBx ts th none i=some x↔i≠th/\ts i=some x:=by
 unfold zBx;split<;> grind
def AN.Ent (s:AN) (m:Nat):Prop:=m<s.N/\s.key m % 2=0
def zBb (s:AN) (f:Int->Int) (k t v:Int):Prop:=Val s.as f k t v
theorem zBb.to {s s':AN} {f:Int->Int} {k k' t v:Int} (h:zBb s f k t v)
 (h1:∀m,s'.Ent m->s'.key m<k'->s'.lg m t≠none->s.Ent m/\s.key m=s'.key m/\s.key m<k/\s.lg m t=s'.lg m t)
 (h2:∀m,s.Ent m->s.key m<k->s.lg m t≠none->s'.Ent m/\s'.key m=s.key m/\s'.key m<k'/\s'.lg m t=s.lg m t):zBb s' f k' t v:=Val.to h h1 h2
structure NInv (f:Int->Int) (s:AN):Prop where
 nlt:∀th a,s.ts th=some a->a.n<s.N
 nu:∀th a th' a',s.ts th=some a->s.ts th'=some a'->a.n=a'.n->th=th'
 kb:∀n,n<s.N->1<=s.key n/\s.key n<=s.c+1
 kl0:∀th a,s.ts th=some a->a.dec=false->s.key a.n=a.snap+1
 kl1:∀th a,s.ts th=some a->a.dec=true->s.key a.n=a.snap+2/\s.c=a.snap+1
 sn:∀th a,s.ts th=some a->0<=a.snap/\a.snap<=s.c/\a.snap % 2=0
 od:s.c % 2≠0->∃th a,s.ts th=some a/\a.dec=true
 c0:0<=s.c
 ku:∀n m,s.Ent n->s.Ent m->s.key n=s.key m->n=m
 new:∀n,s.N<=n->(∀t v,¬s.rds n t v)/\∀t,s.lg n t=none
 main:∀n,n<s.N->∀t v,s.rds n t v->zBb s f (s.key n) t v
 hr:∀th a,s.ts th=some a->a.dec=true->∀t,a.rest t->s.lg a.n t≠none
 HI:∀t,(∃th a,s.ts th=some a/\a.dec=true/\a.rest t)∨zBb s f (s.c+2) t (s.hp t)
 rd:∀th a,s.ts th=some a->a.rd=true->s.c=a.snap->zBb s f (a.snap+1) a.t a.val
 lk:∀th a,s.ts th=some a->1<=a.lk->a.snap<=a.seen/\a.seen<=s.c/\a.seen % 2=0/\a.dec=false
 ck:∀th a,s.ts th=some a->1<=a.lk->s.c=a.seen->∀t v,a.chk t v->zBb s f (a.seen+1) t v
 al:∀th a,s.ts th=some a->a.lk=2->∀t v,s.rds a.n t v->a.chk t v
variable {f:Int->Int} {s:AN}
def AN.begin (s:AN) (th:Nat):AN:={ s with N:=s.N+1,key:=zAx s.key s.N (s.c+1),ts:=zBx s.ts th (some ⟨s.N,s.c,false,fun _=> False,false,0,0,0,0,fun _ _=> False⟩) }
theorem zX8 (h:NInv f s) (he:s.c % 2=0) {th:Nat} (k t v:Int) (hv:zBb s f k t v):zBb (s.begin th) f k t v:=by
 refine hv.to (fun m h1 h2 h3=> ?_) (fun m h1 h2 h3=> ?_)
 ·have:=h.new m
  simp only[AN.begin,AN.Ent,zAx] at h1 h2 h3⊢
  grind
 ·simp only[AN.begin,AN.Ent,zAx] at h1 h2 h3⊢
  grind
theorem NInv.begin (h:NInv f s) {th:Nat} (h0:s.ts th=none) (he:s.c % 2=0):NInv f (s.begin th):=by
 have hv:=zX8 (th:=th) h he
 have hnd:∀th a,s.ts th=some a->a.dec=false:=fun th a ha=> by
  cases hd:a.dec with
  |false=> rfl
  |true=> have:=h.kl1 th a ha hd;have:=h.sn th a ha;omega
 have:=h.c0
 constructor
 case nlt=> have:=h.nlt;simp only[AN.begin,AN.Ent,zAx,zBq];grind
 case nu=> have:=h.nu;have:=h.nlt;simp only[AN.begin,AN.Ent,zAx,zBq];grind
 case kb=> have:=h.kb;simp only[AN.begin,AN.Ent,zAx,zBq];grind
 case kl0=> have:=h.kl0;have:=h.nlt;simp only[AN.begin,AN.Ent,zAx,zBq];grind
 case kl1=> have:=h.kl1;have:=h.nlt;simp only[AN.begin,AN.Ent,zAx,zBq];grind
 case sn=> have:=h.sn;simp only[AN.begin,AN.Ent,zAx,zBq];grind
 case od=> intro hh;exact absurd he hh
 case c0=> exact h.c0
 case' ku=> have:=h.ku;have:=h.kb
 case new=> have:=h.new;simp only[AN.begin,AN.Ent,zAx,zBq];grind
 case' main=> have:=h.main;have:=h.new;have:=h.nlt
 case hr=> have:=h.hr;simp only[AN.begin,AN.Ent,zAx,zBq];grind
 case' HI=> have:=h.HI;have:=h.nlt
 case' rd=> have:=h.rd
 case' lk=> have:=h.lk
 case' ck=> have:=h.ck
 case' al=> have:=h.al;have:=h.nlt
 all_goals (simp only[AN.begin,AN.Ent,zAx,zBq] at*;grind)
def AN.move (s:AN) (th:Nat) (b:LN) (rd:Int->Int->Prop) (lg:Int->Option Int):AN:={ s with rds:=zAx s.rds b.n rd,lg:=zAx s.lg b.n lg,ts:=zBx s.ts th (some b) }
theorem qAn (h:NInv f s) {th:Nat} {a b:LN} (ha:s.ts th=some a) (hd:a.dec=false) (hn:b.n=a.n) {rd:Int->Int->Prop} {lg:Int->Option Int} (k t v:Int) (hv:zBb s f k t v):zBb (s.move th b rd lg) f k t v:=by
 have h1:=h.kl0 th a ha hd
 have h2:=h.sn th a ha
 refine hv.to (fun m g1 g2 g3=> ?_) (fun m g1 g2 g3=> ?_)
 ·simp only[AN.move,AN.Ent,zAx] at g1 g2 g3⊢
  grind
 ·simp only[AN.move,AN.Ent,zAx] at g1 g2 g3⊢
  grind
theorem NInv.move (h:NInv f s) {th:Nat} {a b:LN} (ha:s.ts th=some a) (hd:a.dec=false) (hn:b.n=a.n) (hs:b.snap=a.snap) (hbd:b.dec=false) {rd:Int->Int->Prop} {lg:Int->Option Int}
  (h1:∀t v,rd t v->zBb s f (a.snap+1) t v) (h2:b.rd=true->s.c=a.snap->zBb s f (a.snap+1) b.t b.val)
  (h3:1<=b.lk->a.snap<=b.seen/\b.seen<=s.c/\b.seen % 2=0) (h4:1<=b.lk->s.c=b.seen->∀t v,b.chk t v->zBb s f (b.seen+1) t v) (h5:b.lk=2->∀t v,rd t v->b.chk t v):NInv f (s.move th b rd lg):=by
 have hv:=qAn (th:=th) (b:=b) h ha hd hn (rd:=rd) (lg:=lg)
 have hkl:=h.kl0 th a ha hd
 have hnl:=h.nlt th a ha
 have hsn:=h.sn th a ha
 have hnu:=h.nu
 constructor
 case' nlt=> have:=h.nlt
 case' nu=> have:=h.nu;have:=h.nlt
 case' kb=> have:=h.kb
 case' kl0=> have:=h.kl0
 case' kl1=> have:=h.kl1
 case' sn=> have:=h.sn
 case' od=> have:=h.od
 case c0=> exact h.c0
 case' ku=> have:=h.ku
 case' new=> have:=h.new
 case' main=> have:=h.main
 case' hr=> have:=h.hr;have:=h.nu
 case' HI=> have:=h.HI
 case' rd=> have:=h.rd
 case' lk=> have:=h.lk
 case' ck=> have:=h.ck
 case' al=> have:=h.al;have:=h.nu
 all_goals (simp only[AN.move,AN.Ent,zAx,zBq] at*;grind)
def AN.again (s:AN) (th:Nat) (a b:LN):AN:={ s with key:=zAx s.key a.n (a.seen+1),ts:=zBx s.ts th (some b) }
theorem zX9 (h:NInv f s) {th:Nat} {a b:LN} (ha:s.ts th=some a) (hl:a.lk=2) (k t v:Int) (hv:zBb s f k t v):zBb (s.again th a b) f k t v:=by
 have h0:=h.lk th a ha (by omega)
 have h1:=h.kl0 th a ha h0.2.2.2
 have h2:=h.sn th a ha
 refine hv.to (fun m g1 g2 g3=> ?_) (fun m g1 g2 g3=> ?_)
 ·simp only[AN.again,AN.Ent,zAx] at g1 g2 g3⊢
  grind
 ·simp only[AN.again,AN.Ent,zAx] at g1 g2 g3⊢
  grind
theorem NInv.again (h:NInv f s) {th:Nat} {a b:LN} (ha:s.ts th=some a) (hl:a.lk=2) (hc:s.c=a.seen) (hn:b.n=a.n) (hs:b.snap=a.seen) (hbd:b.dec=false) (hr:b.rd=false) (hbl:b.lk=0):NInv f (s.again th a b):=by
 have hv:=zX9 (th:=th) (b:=b) h ha hl
 have h0:=h.lk th a ha (by omega)
 have hkl:=h.kl0 th a ha h0.2.2.2
 have hnl:=h.nlt th a ha
 have hsn:=h.sn th a ha
 have hck:=h.ck th a ha (by omega) hc
 have hal:=h.al th a ha hl
 have hc0:=h.c0
 have hnu:=h.nu
 constructor
 case' nlt=> have:=h.nlt
 case' nu=> have:=h.nu
 case' kb=> have:=h.kb
 case' kl0=> have:=h.kl0
 case' kl1=> have:=h.kl1
 case' sn=> have:=h.sn
 case' od=> have:=h.od
 case c0=> exact h.c0
 case' ku=> have:=h.ku
 case' new=> have:=h.new
 case' main=> have:=h.main
 case' hr=> have:=h.hr
 case' HI=> have:=h.HI
 case' rd=> have:=h.rd
 case' lk=> have:=h.lk
 case' ck=> have:=h.ck
 case' al=> have:=h.al
 all_goals (simp only[AN.again,AN.Ent,zAx,zBq] at*;grind)
def AN.decide (s:AN) (th:Nat) (a b:LN):AN:={ s with c:=s.c+1,key:=zAx s.key a.n (a.snap+2),ts:=zBx s.ts th (some b) }
theorem NInv.decide (h:NInv f s) {th:Nat} {a b:LN} (ha:s.ts th=some a) (hd:a.dec=false) (hc:s.c=a.snap) (hn:b.n=a.n) (hs:b.snap=a.snap) (hbd:b.dec=true) (hr:b.rd=false) (hbl:b.lk=0) (hrest:∀t,b.rest t↔s.lg a.n t≠none):NInv f (s.decide th a b):=by
 have hsn:=h.sn th a ha
 have hnd:∀th a,s.ts th=some a->a.dec=false:=fun th a ha'=> by
  cases hd:a.dec with
  |false=> rfl
  |true=> have:=h.kl1 th a ha' hd;have:=h.sn th a ha';omega
 have hkl:=h.kl0 th a ha hd
 have hnl:=h.nlt th a ha
 have hkb:=h.kb
 have hv:∀k t v,k<=s.c+2->zBb s f k t v->zBb (s.decide th a b) f k t v:=by
  intro k t v hk hv
  refine hv.to (fun m g1 g2 g3=> ?_) (fun m g1 g2 g3=> ?_)
  ·simp only[AN.decide,AN.Ent,zAx] at g1 g2 g3⊢
   grind
  ·simp only[AN.decide,AN.Ent,zAx] at g1 g2 g3⊢
   grind
 have hv1:∀t v,zBb s f (a.snap+1) t v->zBb (s.decide th a b) f (a.snap+2) t v:=by
  intro t v hv
  refine hv.to (fun m g1 g2 g3=> ?_) (fun m g1 g2 g3=> ?_)
  ·simp only[AN.decide,AN.Ent,zAx] at g1 g2 g3⊢
   grind
  ·simp only[AN.decide,AN.Ent,zAx] at g1 g2 g3⊢
   grind
 have hv2:∀t v,s.lg a.n t=none->zBb s f (s.c+2) t v->zBb (s.decide th a b) f (s.c+3) t v:=by
  intro t v hl hv
  refine hv.to (fun m g1 g2 g3=> ?_) (fun m g1 g2 g3=> ?_)
  ·simp only[AN.decide,AN.Ent,zAx] at g1 g2 g3⊢
   grind
  ·simp only[AN.decide,AN.Ent,zAx] at g1 g2 g3⊢
   grind
 have hc0:=h.c0
 constructor
 case' nlt=> have:=h.nlt
 case' nu=> have:=h.nu
 case' kb=> have:=h.kb
 case' kl0=> have:=h.kl0;have:=h.nu
 case' kl1=> have:=h.kl1
 case' sn=> have:=h.sn
 case od=> intro _;exact⟨th,b,by simp[AN.decide,zBx],hbd⟩
 case c0=> show 0<=s.c+1;omega
 case' ku=> have:=h.ku
 case' new=> have:=h.new
 case main=>
  intro n hn' t v hr'
  have hm:=h.main n hn' t v hr'
  by_cases e:n=a.n
  ·subst e
   have:(s.decide th a b).key a.n=a.snap+2:=by simp[AN.decide,zAx]
   rw[this]
   rw[hkl] at hm
   exact hv1 t v hm
  ·have:(s.decide th a b).key n=s.key n:=by simp[AN.decide,zAx,e]
   rw[this]
   have:=hkb n hn'
   exact hv _ t v (by omega) hm
 case' hr=> have:=h.hr
 case HI=>
  intro t
  by_cases hl:s.lg a.n t=none
  ·rcases h.HI t with ⟨th',a',e1,e2,_⟩|g
   ·rw[hnd th' a' e1] at e2;cases e2
   ·right
    have:=hv2 t _ hl g
    have e:(s.decide th a b).c+2=s.c+3:=by simp only[AN.decide];omega
    rw[e];exact this
  ·left
   exact⟨th,b,by simp[AN.decide,zBx],hbd,(hrest t).2 hl⟩
 case' rd=> have:=h.sn
 case' lk=> have:=h.lk
 case' ck=> have:=h.lk
 case' al=> have:=h.al
 all_goals (simp only[AN.decide,AN.Ent,zAx,zBq] at*;grind)
def AN.write (s:AN) (th:Nat) (b:LN) (x w:Int):AN:={ s with hp:=zSm s.hp x w,ts:=zBx s.ts th (some b) }
theorem NInv.write (h:NInv f s) {th:Nat} {a b:LN} {x w:Int} (ha:s.ts th=some a) (hd:a.dec=true) (hw:s.lg a.n x=some w) (hn:b.n=a.n) (hs:b.snap=a.snap) (hbd:b.dec=true) (hr:b.rd=false) (hbl:b.lk=0) (hrest:∀t,b.rest t↔a.rest t/\t≠x):NInv f (s.write th b x w):=by
 have hkl:=h.kl1 th a ha hd
 have hnl:=h.nlt th a ha
 have hsn:=h.sn th a ha
 have hkb:=h.kb
 have hv:∀k t v,zBb s f k t v->zBb (s.write th b x w) f k t v:=fun k t v hv=> hv.to (fun m g1 g2 g3=> ⟨g1,rfl,g2,rfl⟩) (fun m g1 g2 g3=> ⟨g1,rfl,g2,rfl⟩)
 have hx:zBb (s.write th b x w) f (s.c+2) x w:=by
  refine .inl ⟨a.n,⟨hnl,?_⟩,?_,hw,fun m' g1 g2 g3=> ?_⟩
  ·show s.key a.n % 2=0;omega
  ·show s.key a.n<s.c+2;omega
  ·exfalso
   have g1':m'<s.N:=g1.1
   have g3':s.key a.n<s.key m':=g3
   have:=hkb m' g1'
   omega
 constructor
 case' nlt=> have:=h.nlt
 case' nu=> have:=h.nu
 case kb=> exact h.kb
 case' kl0=> have:=h.kl0
 case' kl1=> have:=h.kl1
 case' sn=> have:=h.sn
 case od=> intro _;exact⟨th,b,by simp[AN.write,zBx],hbd⟩
 case c0=> exact h.c0
 case ku=> exact h.ku
 case new=> exact h.new
 case main=> intro n h1 t v h2;exact hv _ _ _ (h.main n h1 t v h2)
 case' hr=> have:=h.hr
 case HI=>
  intro t
  by_cases e:t=x
  ·subst e
   right
   have:(s.write th b t w).hp t=w:=by simp[AN.write,zSm]
   rw[this];exact hx
  ·have e2:(s.write th b x w).hp t=s.hp t:=by simp[AN.write,zSm,e]
   rw[e2]
   rcases h.HI t with ⟨th',a',e1,e3,e4⟩|g
   ·left
    by_cases et:th'=th
    ·subst et
     rw[ha] at e1;cases e1
     exact⟨th',b,by simp[AN.write,zBx],hbd,(hrest t).2 ⟨e4,e⟩⟩
    ·exact⟨th',a',by simp[AN.write,zBx,et,e1],e3,e4⟩
   ·exact .inr (hv _ _ _ g)
 case rd=>
  intro th' a' e1 e2 e3
  simp only[AN.write,zBq] at e1
  rcases e1 with ⟨_,rfl⟩|⟨_,e1⟩
  ·rw[hr] at e2;cases e2
  ·exact hv _ _ _ (h.rd th' a' e1 e2 e3)
 case' lk=> have:=h.lk
 case ck=>
  intro th' a' e1 e2 e3 t v e4
  simp only[AN.write,zBq] at e1
  rcases e1 with ⟨_,rfl⟩|⟨_,e1⟩
  ·omega
  ·exact hv _ _ _ (h.ck th' a' e1 e2 e3 t v e4)
 case' al=> have:=h.al
 all_goals (simp only[AN.write,AN.Ent,zAx,zBq] at*;grind)
def AN.commit (s:AN) (th:Nat):AN:={ s with c:=s.c+1,ts:=zBx s.ts th none }
theorem NInv.commit (h:NInv f s) {th:Nat} {a:LN} (ha:s.ts th=some a) (hd:a.dec=true) (hrest:∀t,¬a.rest t):NInv f (s.commit th):=by
 have hkl:=h.kl1 th a ha hd
 have hsn:=h.sn th a ha
 have hkb:=h.kb
 have hone:∀th' a',s.ts th'=some a'->a'.dec=true->th'=th:=fun th' a' e1 e2=> by
  have g1:=h.kl1 th' a' e1 e2
  have g2:=h.ku a.n a'.n ⟨h.nlt th a ha,by omega⟩ ⟨h.nlt th' a' e1,by omega⟩ (by omega)
  exact h.nu th' a' th a e1 ha g2.symm
 have hv:∀k t v,zBb s f k t v->zBb (s.commit th) f k t v:=fun k t v hv=> hv.to (fun m g1 g2 g3=> ⟨g1,rfl,g2,rfl⟩) (fun m g1 g2 g3=> ⟨g1,rfl,g2,rfl⟩)
 have hv3:∀t v,zBb s f (s.c+2) t v->zBb (s.commit th) f (s.c+3) t v:=by
  intro t v hv
  refine hv.to (fun m g1 g2 g3=> ?_) (fun m g1 g2 g3=> ?_)
  ·have h1:m<s.N:=g1.1
   have h2:=hkb m h1
   exact⟨g1,rfl,by omega,rfl⟩
  ·exact⟨g1,rfl,by show s.key m<s.c+3;omega,rfl⟩
 have hc0:=h.c0
 constructor
 case' nlt=> have:=h.nlt
 case' nu=> have:=h.nu
 case' kb=> have:=h.kb
 case' kl0=> have:=h.kl0
 case kl1=> simp only[AN.commit,AN.Ent,zAx,zD9] at*;grind
 case' sn=> have:=h.sn
 case od=> intro hh;exfalso;apply hh;show (s.c+1) % 2=0;omega
 case c0=> show 0<=s.c+1;omega
 case ku=> exact h.ku
 case new=> exact h.new
 case main=> intro n h1 t v h2;exact hv _ _ _ (h.main n h1 t v h2)
 case' hr=> have:=h.hr
 case HI=>
  intro t
  rcases h.HI t with ⟨th',a',e1,e2,e3⟩|g
  ·have:=hone th' a' e1 e2
   subst this
   rw[ha] at e1;cases e1
   exact absurd e3 (hrest t)
  ·right
   have e:(s.commit th).c+2=s.c+3:=by simp only[AN.commit];omega
   rw[e];exact hv3 t _ g
 case rd=> intro th' a' e1 e2 e3;simp only[AN.commit,zD9] at e1 e3;have:=h.sn;exfalso;grind
 case' lk=> have:=h.lk
 case ck=> intro th' a' e1 e2 e3;simp only[AN.commit,zD9] at e1 e3;have:=h.lk;exfalso;grind
 case' al=> have:=h.al
 all_goals (simp only[AN.commit,AN.Ent,zAx,zD9] at*;grind)
def AN.fall (s:AN) (th:Nat):AN:={ s with ts:=zBx s.ts th none }
theorem NInv.fall (h:NInv f s) {th:Nat} {a:LN} (ha:s.ts th=some a) (hd:a.dec=false):NInv f (s.fall th):=by
 have hv:∀k t v,zBb s f k t v->zBb (s.fall th) f k t v:=fun k t v hv=> hv.to (fun m g1 g2 g3=> ⟨g1,rfl,g2,rfl⟩) (fun m g1 g2 g3=> ⟨g1,rfl,g2,rfl⟩)
 constructor
 case' nlt=> have:=h.nlt
 case' nu=> have:=h.nu
 case kb=> exact h.kb
 case' kl0=> have:=h.kl0
 case' kl1=> have:=h.kl1
 case' sn=> have:=h.sn
 case' od=> have:=h.od
 case c0=> exact h.c0
 case ku=> exact h.ku
 case new=> exact h.new
 case main=> intro n h1 t v h2;exact hv _ _ _ (h.main n h1 t v h2)
 case' hr=> have:=h.hr
 case HI=>
  intro t
  rcases h.HI t with ⟨th',a',e1,e2,e3⟩|g
  ·left
   refine⟨th',a',?_,e2,e3⟩
   simp only[AN.fall,zD9]
   refine⟨fun e=> ?_,e1⟩
   subst e
   rw[ha] at e1;cases e1
   rw[hd] at e2;cases e2
  ·exact .inr (hv _ _ _ g)
 case rd=> intro th' a' e1 e2 e3;simp only[AN.fall,zD9] at e1 e3;exact hv _ _ _ (h.rd th' a' e1.2 e2 e3)
 case' lk=> have:=h.lk
 case ck=> intro th' a' e1 e2 e3 t v e4;simp only[AN.fall,zD9] at e1 e3;exact hv _ _ _ (h.ck th' a' e1.2 e2 e3 t v e4)
 case' al=> have:=h.al
 all_goals (simp only[AN.fall,AN.Ent,zAx,zD9] at*;grind)
end YtnemoimbeefngaaGreat
end Go.Proofs
namespace Go.Proofs
namespace YtnemoimbeefngaaGreat
open Go.Abs
def trN (a:Att):Bool:=a.asked && decide (a.ra.k=6) && decide (a.at_≠0)
def aln (a:Att):LN:=⟨a.n,a.snap,a.dec,fun t=> a.at_=2/\∃j p,a.nx<=j/\(jO a.fs)[j]?=some p/\p.t=t,a.asked && decide (a.ra.k=1) && decide (a.at_=1),a.ra.t,a.val,if a.asked=true/\a.at_=5 then 1 else if a.asked=true/\a.at_=6 then 2 else 0,a.seen,fun t v=> ∃j e,j<a.nx/\a.es[j]?=some e/\e.t=t/\e.v=v⟩
def jK (ky:List Int) (n:Nat):Int:=(ky[n]?).getD 0
def jT (s:NS):AN:=⟨s.c,hpF s.hp,s.ky.length,jK s.ky,fun n t v=> (⟨t,v⟩:Pr)∈(obS s.ev n).rds,fun n t=> qT (obS s.ev n).fs t,fun th=> (s.ts th).map aln⟩
theorem zFk {s s':AN} (h1:s.c=s'.c) (h4:∀t,s.hp t=s'.hp t) (h5:s.N=s'.N) (h6:∀n,s.key n=s'.key n) (h7:∀n t v,s.rds n t v↔s'.rds n t v) (h8:∀n t,s.lg n t=s'.lg n t) (h9:∀i,s.ts i=s'.ts i):s=s':=by
 obtain⟨a1,a4,a5,a6,a7,a8,a9⟩:=s
 obtain⟨b1,b4,b5,b6,b7,b8,b9⟩:=s'
 simp only at*
 subst h1 h5
 obtain rfl:=funext h4
 obtain rfl:=funext h6
 obtain rfl:=funext h9
 obtain rfl:a7=b7:=funext fun n=> funext fun t=> funext fun v=> propext (h7 n t v)
 obtain rfl:a8=b8:=funext fun n=> funext fun t=> h8 n t
 rfl
def lvN (s:NS) (th:Nat):Option Lv:=(s.ts th).map fun a=> ⟨a.n,trN a,a.fs⟩
theorem qG9 {s:NS} {th:Nat} {x:Lv}:lvN s th=some x↔∃a,s.ts th=some a/\x=⟨a.n,trN a,a.fs⟩:=by
 unfold lvN
 rw[Option.map_eq_some_iff]
 exact⟨fun⟨a,h1,h2⟩=> ⟨a,h1,h2.symm⟩,fun⟨a,h1,h2⟩=> ⟨a,h1,h2.symm⟩⟩
structure NOp (f:List Int) (s:NS):Prop where
 ok:s.Ok
 ev:EvOk s.hp.length s.ky.length s.ev (lvN s)
 inv:NInv (hpF f) (jT s)
 oc:s.o=none↔s.c % 2=0
 oe:∀th a,s.ts th=some a->∀p:Pr,p∈(obS s.ev a.n).rds↔∃e∈a.es,e.t=p.t/\e.v=p.v
 hr:∀v∈s.hp,jN v=true
 er:∀th a,s.ts th=some a->∀e∈a.es,jN e.v=true
 l6:∀th a,s.ts th=some a->a.asked=true->a.at_=6->a.es.length<=a.nx
 one:∀th a,s.ts th=some a->a.asked=true->a.ra.k=6->a.fs.length=1
 par:∀n:Nat,n<s.ky.length->(∀th a,s.ts th=some a->a.n≠n)->(xX s.ev n=4->jK s.ky n % 2=1)/\(xX s.ev n=3->jK s.ky n % 2=0∨∀t,qT (obS s.ev n).fs t=none)
 bf:∀n m:Nat,zBg s.ev n m=true->n<m/\jK s.ky n<=jK s.ky m
variable {f:List Int} {s:NS}
theorem NOp.ts (h:NOp f s) {th:Nat} {a:Att} (ha:s.ts th=some a):(jT s).ts th=some (aln a):=by simp[jT,ha]
theorem NOp.lv (h:NOp f s) {th:Nat} {a:Att} (ha:s.ts th=some a):lvN s th=some ⟨a.n,trN a,a.fs⟩:=by simp[lvN,ha]
theorem zFg {s s':NS} {th:Nat} {x:Option Att} (h:s'.ts=zR s.ts th x):lvN s'=zDf (lvN s) th (x.map fun a=> ⟨a.n,trN a,a.fs⟩):=by
 funext i
 unfold lvN zDf
 rw[h]
 simp only[zR]
 split<;> rfl
theorem zC8 {ts:Nat->Option Att} {th i:Nat} {b x:Att}:zR ts th (some b) i=some x↔(i=th/\x=b)∨(i≠th/\ts i=some x):=by
 unfold zR;split<;> grind
theorem zC6 {ts:Nat->Option Att} {th i:Nat} {x:Att}:zR ts th none i=some x↔i≠th/\ts i=some x:=by
 unfold zR;split<;> grind
theorem NOp.move (h:NOp f s) {s':NS} {th:Nat} {a b:Att} (ha:s.ts th=some a) (hts:s'.ts=zR s.ts th (some b)) (hok:s'.Ok) (hI:NInv (hpF f) (jT s')) (hoc:s'.o=none↔s'.c % 2=0) (hev:s'.ev=s.ev) (hhp:s'.hp.length=s.hp.length) (hhr:∀v∈s'.hp,jN v=true) (hft:s'.ky.length=s.ky.length)
  (hn:b.n=a.n) (hf:b.fs=a.fs) (hp:trN b=trN a) (he:b.es=a.es) (hl6:b.asked=true->b.at_=6->b.es.length<=b.nx) (h1:b.asked=true->b.ra.k=6->b.fs.length=1) (hk:∀n,n≠a.n->jK s'.ky n=jK s.ky n) (hk2:jK s.ky a.n<=jK s'.ky a.n):NOp f s':=by
 have hl:∀i,lvN s' i=lvN s i:=fun i=> by
  rw[zFg hts]
  unfold zDf
  split
  ·rename_i e
   subst e
   rw[h.lv ha,Option.map_some,hn,hf,hp]
  ·rfl
 constructor
 case ok=> exact hok
 case ev=> rw[hhp,hft,hev];exact h.ev.same hl
 case inv=> exact hI
 case oc=> exact hoc
 case hr=> exact hhr
 case er=>
  intro i z hz
  rw[hts] at hz
  rw[zC8] at hz
  rcases hz with ⟨rfl,rfl⟩|⟨_,hz⟩
  ·rw[he];exact h.er i a ha
  ·exact h.er i z hz
 case oe=>
  intro i x hx
  rw[hts,zC8] at hx
  rw[hev]
  rcases hx with ⟨rfl,rfl⟩|⟨_,hx⟩
  ·rw[hn,he];exact h.oe i a ha
  ·exact h.oe i x hx
 case l6=>
  intro i x hx
  rw[hts,zC8] at hx
  rcases hx with ⟨rfl,rfl⟩|⟨_,hx⟩
  ·exact hl6
  ·exact h.l6 i x hx
 case one=>
  intro i x hx
  rw[hts,zC8] at hx
  rcases hx with ⟨rfl,rfl⟩|⟨_,hx⟩
  ·exact h1
  ·exact h.one i x hx
 case par=>
  intro n hn' hno
  rw[hft] at hn'
  have hna:n≠a.n:=fun e=> hno th b (by rw[hts,zC8];exact .inl ⟨rfl,rfl⟩) (by omega)
  rw[hev,hk n hna]
  refine h.par n hn' fun i x hx=> ?_
  by_cases e:i=th
  ·subst e;rw[ha] at hx;cases hx;exact fun e=> hna e.symm
  ·exact hno i x (by rw[hts,zC8];exact .inr ⟨e,hx⟩)
 case bf=>
  intro n m hb
  rw[hev] at hb
  obtain⟨h1,h2⟩:=h.bf n m hb
  have hne:=h.ev.en n (zU7 hb) th _ (h.lv ha)
  simp only at hne
  refine⟨h1,?_⟩
  rw[hk n (fun e=> hne e.symm)]
  by_cases e:m=a.n
  ·rw[e] at h2⊢;omega
  ·rw[hk m e];exact h2
theorem NOp.told (h:NOp f s) {s':NS} {th:Nat} {a:Att} (ha:s.ts th=some a) {y:Option Att} (hts:s'.ts=zR s.ts th y) (hok:s'.Ok) (hI:NInv (hpF f) (jT s')) (hoc:s'.o=none↔s'.c % 2=0) (hhr:∀v∈s'.hp,jN v=true) {x:Ev} (hev:s'.ev=s.ev++[x]) (hE:EvOk s'.hp.length s'.ky.length s'.ev (lvN s')) (hft:s'.ky.length=s.ky.length)
  (hk:∀n,jK s'.ky n=jK s.ky n) (hx:x.a=a.n) (hx1:x.k≠1) (hsome:∀b,y=some b->b.n=a.n/\(b.asked=true->b.at_=6->b.es.length<=b.nx)/\(b.asked=true->b.ra.k=6->b.fs.length=1)/\(∀e∈b.es,jN e.v=true)/\∀p:Pr,p∈(obS s'.ev a.n).rds↔∃e∈b.es,e.t=p.t/\e.v=p.v)
  (hnone:y=none->(x.k=9->jK s.ky a.n % 2=1)/\(x.k=8->jK s.ky a.n % 2=0∨∀t,qT (obS s'.ev a.n).fs t=none)):NOp f s':=by
 have hob:∀n:Int,n≠a.n->obS s'.ev n=obS s.ev n:=fun n hne=> by rw[hev,zCl,if_neg (by omega)]
 have hst0:xX s.ev a.n≠0:=by
  have:=h.ev.st th _ (h.lv ha)
  simp only at this
  rw[this];split<;> omega
 constructor
 case ok=> exact hok
 case ev=> exact hE
 case inv=> exact hI
 case oc=> exact hoc
 case hr=> exact hhr
 case er=>
  intro i z hz
  rw[hts] at hz
  cases y with
  |none=> rw[zC6] at hz;exact h.er i z hz.2
  |some b=>
   rw[zC8] at hz
   rcases hz with ⟨rfl,rfl⟩|⟨e,hz⟩
   ·exact (hsome z rfl).2.2.2.1
   ·exact h.er i z hz
 case oe=>
  intro i z hz
  rw[hts] at hz
  cases y with
  |none=>
   rw[zC6] at hz
   have hne:(z.n:Int)≠a.n:=fun e=> hz.1 (h.ev.nu i th _ _ (h.lv hz.2) (h.lv ha) (by simp only;omega))
   rw[hob _ hne]
   exact h.oe i z hz.2
  |some b=>
   rw[zC8] at hz
   rcases hz with ⟨rfl,rfl⟩|⟨e,hz⟩
   ·have:=hsome z rfl
    rw[this.1];exact this.2.2.2.2
   ·have hne:(z.n:Int)≠a.n:=fun e2=> e (h.ev.nu i th _ _ (h.lv hz) (h.lv ha) (by simp only;omega))
    rw[hob _ hne]
    exact h.oe i z hz
 case l6=>
  intro i z hz
  rw[hts] at hz
  cases y with
  |none=> rw[zC6] at hz;exact h.l6 i z hz.2
  |some b=>
   rw[zC8] at hz
   rcases hz with ⟨rfl,rfl⟩|⟨e,hz⟩
   ·exact (hsome z rfl).2.1
   ·exact h.l6 i z hz
 case one=>
  intro i z hz
  rw[hts] at hz
  cases y with
  |none=> rw[zC6] at hz;exact h.one i z hz.2
  |some b=>
   rw[zC8] at hz
   rcases hz with ⟨rfl,rfl⟩|⟨e,hz⟩
   ·exact (hsome z rfl).2.2.1
   ·exact h.one i z hz
 case par=>
  intro n hn hno
  rw[hft] at hn
  rw[hk n]
  by_cases e:n=a.n
  ·subst e
   cases y with
   |some b=> exact absurd (hsome b rfl).1 (hno th b (by rw[hts,zC8];exact .inl ⟨rfl,rfl⟩))
   |none=>
    obtain⟨g1,g2⟩:=hnone rfl
    have hs:=zLa (l:=s.ev) (x:=x) (by rw[hx];exact hst0)
    rw[hx] at hs
    have hse:=h.ev.st th _ (h.lv ha)
    simp only at hse
    rw[hev]
    rw[hev] at g2
    constructor
    ·intro h4
     apply g1
     rw[hs,hse] at h4
     by_cases k9:x.k=9
     ·exact k9
     ·exfalso;split at h4
      ·omega
      ·split at h4
       ·omega
       ·split at h4
        ·omega
        ·first|omega|(split at h4<;> omega)
    ·intro h3
     apply g2
     rw[hs,hse] at h3
     by_cases k8:x.k=8
     ·exact k8
     ·exfalso
      rw[if_neg k8] at h3
      split at h3
      ·omega
      ·split at h3
       ·omega
       ·split at h3<;> omega
  ·rw[hob n (by omega),hev,zC7 (by omega)]
   refine h.par n hn fun i z hz=> ?_
   by_cases ei:i=th
   ·subst ei;rw[ha] at hz;cases hz;exact fun e2=> e e2.symm
   ·refine hno i z ?_
    rw[hts]
    simp only[zR,if_neg ei];exact hz
 case bf=>
  intro n m hb
  rw[hk n,hk m]
  rw[hev] at hb
  by_cases hm:m<s.ky.length
  ·rw[zHh (h.ev.bg m hm)] at hb
   exact h.bf n m hb
  ·rw[zJq] at hb
   ·cases hb
   ·intro z hz
    rcases List.mem_append.1 hz with hz|hz
    ·have:=h.ev.ea z hz;omega
    ·simp only[List.mem_singleton] at hz;subst hz;exact fun h=> hx1 h.2
end YtnemoimbeefngaaGreat
end Go.Proofs
namespace Go.Proofs
namespace YtnemoimbeefngaaGreat
open Go.Abs
theorem NInv.keep {f:Int->Int} {s:AN} (h:NInv f s) {th:Nat} {a b:LN} (ha:s.ts th=some a) (hd:a.dec=false) (hn:b.n=a.n) (hs:b.snap=a.snap) (hbd:b.dec=false)
  (h2:b.rd=true->s.c=a.snap->zBb s f (a.snap+1) b.t b.val) (h3:1<=b.lk->a.snap<=b.seen/\b.seen<=s.c/\b.seen % 2=0) (h4:1<=b.lk->s.c=b.seen->∀t v,b.chk t v->zBb s f (b.seen+1) t v)
  (h5:b.lk=2->∀t v,s.rds a.n t v->b.chk t v):NInv f { s with ts:=zBx s.ts th (some b) }:=by
 have hm:=h.move ha hd hn hs hbd (rd:=s.rds a.n) (lg:=s.lg a.n) (fun t v hr=> by
  have:=h.main a.n (h.nlt th a ha) t v hr
  rw[h.kl0 th a ha hd] at this;exact this) h2 h3 h4 h5
 have e:s.move th b (s.rds a.n) (s.lg a.n)={ s with ts:=zBx s.ts th (some b) }:=by
  refine zFk rfl (fun _=> rfl) rfl (fun _=> rfl) (fun n t v=> ?_) (fun n t=> ?_) (fun _=> rfl)
  ·simp only[AN.move,zAx,hn];split
   ·rename_i e;subst e;exact Iff.rfl
   ·exact Iff.rfl
  ·simp only[AN.move,zAx,hn];split
   ·rename_i e;subst e;rfl
   ·rfl
 rw[←e];exact hm
theorem NInv.top {f:Int->Int} {s:AN} (h:NInv f s) (hc:s.c % 2=0) (t:Int):zBb s f (s.c+1) t (s.hp t):=by
 rcases h.HI t with ⟨th,a,e1,e2,_⟩|g
 ·have:=h.kl1 th a e1 e2;have:=h.sn th a e1;omega
 ·refine g.to (fun m g1 g2 g3=> ⟨g1,rfl,by omega,rfl⟩) (fun m g1 g2 g3=> ⟨g1,rfl,?_,rfl⟩)
  have:=g1.2
  omega
theorem zGy {ky:List Int} {n:Nat} (hn:n<ky.length) (k:Int) (m:Nat):jK (ky.set n k) m=if m=n then k else jK ky m:=by
 unfold jK
 rw[List.getElem?_set]
 by_cases h:n=m
 ·subst h;simp[hn]
 ·rw[if_neg h,if_neg (fun e=> h e.symm)]
variable {f:List Int} {s:NS}
theorem NOp.dec_asked (h:NOp f s) {th:Nat} {a:Att} (ha:s.ts th=some a) (hd:a.dec=true):s.o=some (th:Int)/\a.asked=true/\a.ra.k=6/\(a.at_=2∨a.at_=3):=(h.ok.dec th a ha).1 hd
theorem qOf (n:Nat) (c:Int):aln (zCm n c)=⟨n,c,false,fun _=> False,false,0,0,0,0,fun _ _=> False⟩:=by simp[aln,zCm]
theorem NOp.begin (h:NOp f s) {th:Nat} (hth:th<4) (hb:zDu s th=0):NOp f (zAh s th):=by
 obtain⟨h0,h64,ho⟩:s.ts th=none/\s.ky.length<64/\s.o=none:=by
  unfold zDu at hb
  split at hb
  ·cases hb
  ·rename_i h0
   split at hb
   ·cases hb
   ·split at hb
    ·cases hb
    ·rename_i h2
     exact⟨by simpa using h0,by omega,by simpa using h2⟩
 have hc:=h.oc.1 ho
 have hnew:∀x∈s.ev,x.a≠(s.ky.length:Int):=fun x hx=> by have:=h.ev.ea x hx;omega
 have hob:∀n:Int,obS (zAh s th).ev n=obS s.ev n:=fun n=> by
  show obS (s.ev++[⟨1,s.ky.length,0,0⟩]) n=_
  rw[zCl];split
  ·exact zCy _ (.inl rfl)
  ·rfl
 have hkey:∀n,jK (zAh s th).ky n=if n=s.ky.length then s.c+1 else jK s.ky n:=fun n=> by
  unfold jK zAh
  simp only
  by_cases e:n<s.ky.length
  ·rw[List.getElem?_append_left e,if_neg (by omega)]
  ·by_cases e2:n=s.ky.length
   ·subst e2;simp
   ·rw[List.getElem?_eq_none (by simp;omega),List.getElem?_eq_none (by omega),if_neg e2]
 have e1:(zAh s th).ky.length=s.ky.length+1:=by simp[zAh]
 constructor
 case ok=> exact h.ok.begin hth hb
 case ev=>
  have hE:=h.ev.begin (th:=th) (by simp[lvN,h0]) h64
  rw[e1,zFg (s:=s) (s':=zAh s th) (th:=th) (x:=some (zCm s.ky.length s.c)) rfl]
  exact hE
 case inv=>
  have hI:=h.inv.begin (th:=th) (by simp[jT,h0]) hc
  have e:jT (zAh s th)=(jT s).begin th:=by
   refine zFk rfl (fun i=> rfl) ?_ (fun n=> ?_) (fun n t v=> ?_) (fun n t=> ?_) (fun i=> ?_)
   ·simp[jT,zAh,AN.begin]
   ·show jK (zAh s th).ky n=_
    rw[hkey];simp only[AN.begin,zAx,jT]
   ·show (⟨t,v⟩:Pr)∈(obS (zAh s th).ev n).rds↔_
    rw[hob];rfl
   ·show qT (obS (zAh s th).ev n).fs t=_
    rw[hob];rfl
   ·show ((zAh s th).ts i).map aln=_
    simp only[AN.begin,zBx,zAh,zR,jT]
    split
    ·rw[Option.map_some,qOf]
    ·rfl
  rw[e];exact hI
 case oc=> exact h.oc
 case oe=>
  intro i a hi p
  rw[hob]
  have hi:zR s.ts th (some (zCm s.ky.length s.c)) i=some a:=hi
  rw[zC8] at hi
  rcases hi with ⟨rfl,rfl⟩|⟨_,hi⟩
  ·rw[show (zCm s.ky.length s.c).n=s.ky.length from rfl,zXj hnew]
   simp[ob0,zCm]
  ·exact h.oe i a hi p
 case hr=> exact h.hr
 case er=>
  intro i a hi
  have hi:zR s.ts th (some (zCm s.ky.length s.c)) i=some a:=hi
  rw[zC8] at hi
  rcases hi with ⟨rfl,rfl⟩|⟨_,hi⟩
  ·intro e he;simp[zCm] at he
  ·exact h.er i a hi
 case l6=>
  intro i a hi
  have hi:zR s.ts th (some (zCm s.ky.length s.c)) i=some a:=hi
  rw[zC8] at hi
  rcases hi with ⟨rfl,rfl⟩|⟨_,hi⟩
  ·intro e;cases e
  ·exact h.l6 i a hi
 case one=>
  intro i a hi
  have hi:zR s.ts th (some (zCm s.ky.length s.c)) i=some a:=hi
  rw[zC8] at hi
  rcases hi with ⟨rfl,rfl⟩|⟨_,hi⟩
  ·intro e;cases e
  ·exact h.one i a hi
 case par=>
  intro n hn hno
  rw[e1] at hn
  have hne:n≠s.ky.length:=fun e=> hno th (zCm s.ky.length s.c) (by simp[zAh,zR]) e.symm
  rw[hob,hkey,if_neg hne]
  have hst:xX (zAh s th).ev n=xX s.ev n:=by
   show xX (s.ev++[⟨1,s.ky.length,0,0⟩]) n=_
   rw[zC7 (by simp only;omega)]
  rw[hst]
  refine h.par n (by omega) fun i a hi=> ?_
  by_cases e:i=th
  ·subst e;rw[h0] at hi;cases hi
  ·exact hno i a (by simp[zAh,zR,e,hi])
 case bf=>
  intro n m hbf
  have hbf:zBg (s.ev++[⟨1,s.ky.length,0,0⟩]) n m=true:=hbf
  by_cases hm:m=s.ky.length
  ·subst hm
   rw[zU8 hnew] at hbf
   obtain⟨y,hy,_⟩:=List.any_eq_true.1 hbf
   unfold xM at hy
   rw[List.mem_filter] at hy
   have hya:=h.ev.ea y hy.1
   have hyn:y.a=n:=by simpa using hy.2
   have hk:=h.inv.kb n (by simp only[jT];omega)
   rw[hkey,hkey,if_pos rfl,if_neg (by omega)]
   simp only[jT] at hk
   exact⟨by omega,hk.2⟩
  ·by_cases hm2:m<s.ky.length
   ·rw[zHh (h.ev.bg m hm2)] at hbf
    obtain⟨g1,g2⟩:=h.bf n m hbf
    rw[hkey,hkey,if_neg (by omega),if_neg hm]
    exact⟨g1,g2⟩
   ·rw[zJq] at hbf
    ·cases hbf
    ·intro x hx
     rcases List.mem_append.1 hx with hx|hx
     ·have:=h.ev.ea x hx;omega
     ·simp only[List.mem_singleton] at hx;subst hx;simp only;omega
theorem NOp.end (h:NOp f s) {th:Nat} (hth:th<4) {a:Att} (ha:s.ts th=some a) (hd:a.dec=false) (why:Int):NOp f (qP s th a why):=by
 have hlv:=h.lv ha
 have hno:s.o≠some (th:Int):=fun e=> by
  obtain⟨th',a',e1,e2,e3⟩:=h.ok.own _ e
  have:th=th':=by omega
  subst this
  rw[ha] at e2;cases e2
  rw[hd] at e3;cases e3
 have eo:(qP s th a why).o=s.o:=by simp[qP,hno]
 have ec:(qP s th a why).c=s.c:=by simp[qP,hno]
 have hkl:=h.inv.kl0 th (aln a) (h.ts ha) hd
 have hsn:=h.inv.sn th (aln a) (h.ts ha)
 have hobs:∀n:Int,obS (s.ev++[⟨9,a.n,0,0⟩]) n=obS s.ev n:=fun n=> by
  rw[zCl];split
  ·exact zCy _ (by simp)
  ·rfl
 refine h.told ha (y:=none) rfl (h.ok.end hth ha hd why) ?_ (by rw[eo,ec];exact h.oc) h.hr (x:=⟨9,a.n,0,0⟩) rfl ?_ rfl (fun n=> rfl) rfl (by simp) (fun b e=> by cases e) (fun _=> ⟨fun _=> ?_,fun e=> by cases e⟩)
 ·have hI:=h.inv.fall (th:=th) (h.ts ha) hd
  have e:jT (qP s th a why)=(jT s).fall th:=by
   refine zFk ec (fun i=> rfl) rfl (fun n=> rfl) (fun n t v=> ?_) (fun n t=> ?_) (fun i=> ?_)
   ·show (⟨t,v⟩:Pr)∈(obS (s.ev++[⟨9,a.n,0,0⟩]) n).rds↔_
    rw[hobs];rfl
   ·show qT (obS (s.ev++[⟨9,a.n,0,0⟩]) n).fs t=_
    rw[hobs];rfl
   ·show ((qP s th a why).ts i).map aln=_
    simp only[AN.fall,zBx,qP,zR,jT]
    split<;> rfl
  rw[e];exact hI
 ·rw[zFg (s:=s) (s':=qP s th a why) (th:=th) (x:=none) rfl]
  have ho:=h.ev.obl th _ hlv
  exact h.ev.tell hlv (x:=⟨9,a.n,0,0⟩) rfl (by simp) (b:=⟨trN a,true,a.fs⟩) (by simp[zC2,jZ]) (by rw[zCy _ (by simp)];exact ho.symm) (y:=none) (by simp) (by rw[zCy _ (by simp)];exact h.ev.obo a.n) (by rw[zCy _ (by simp)];exact h.ev.ra a.n) (by rw[zCy _ (by simp)];exact h.ev.fr a.n) (fun e=> by cases e) (by simp[zCt]) h.ok.ky
 ·have h1:jK s.ky a.n=a.snap+1:=hkl
  have h2:a.snap % 2=0:=hsn.2.2
  omega
theorem qJk (s:NS) (th:Nat) (b:Att):jT { s with ts:=zR s.ts th (some b) }={ jT s with ts:=zBx (jT s).ts th (some (aln b)) }:=by
 refine zFk rfl (fun i=> rfl) rfl (fun n=> rfl) (fun n t w=> Iff.rfl) (fun n t=> rfl) (fun i=> ?_)
 simp only[zBx,zR,jT]
 split<;> rfl
theorem NOp.put (h:NOp f s) {th:Nat} {a b:Att} (ha:s.ts th=some a) (hd:a.dec=false) (hok:(zCx s th b).Ok) (hn:b.n=a.n) (hs:b.snap=a.snap) (hbd:b.dec=false) (hf:b.fs=a.fs) (htr:trN b=trN a) (he:b.es=a.es)
  (hl6:b.asked=true->b.at_=6->b.es.length<=b.nx) (h1:b.asked=true->b.ra.k=6->b.fs.length=1)
  (h2:(aln b).rd=true->s.c=a.snap->zBb (jT s) (hpF f) (a.snap+1) b.ra.t b.val) (h3:1<=(aln b).lk->a.snap<=b.seen/\b.seen<=s.c/\b.seen % 2=0) (h4:1<=(aln b).lk->s.c=b.seen->∀t v,(aln b).chk t v->zBb (jT s) (hpF f) (b.seen+1) t v)
  (h5:(aln b).lk=2->∀t v,(jT s).rds a.n t v->(aln b).chk t v):NOp f (zCx s th b):=by
 refine h.move ha rfl hok ?_ h.oc rfl rfl h.hr rfl hn hf htr he hl6 h1 (fun _ _=> rfl) (Int.le_refl _)
 have hI:=h.inv.keep (th:=th) (b:=aln b) (h.ts ha) hd hn hs hbd h2 h3 h4 h5
 show NInv (hpF f) (jT { s with ts:=zR s.ts th (some b) })
 rw[qJk];exact hI
theorem NOp.ask (h:NOp f s) {th:Nat} (hth:th<4) {x:Ak} (hk:0<=x.k) (hv:0<=x.v/\x.v<18446744073709551616) (hc:zDz s th x=0):NOp f (qL s th x):=by
 have hok:=h.ok.ask hth hk hv hc
 unfold zDz at hc
 unfold qL at hok⊢
 cases ha:s.ts th with
 |none=> rw[ha] at hc;cases hc
 |some a=>
  rw[ha] at hc hok
  simp only at hc hok⊢
  obtain⟨hna,hw⟩:a.asked=false/\zAo a s.hp.length x=0:=by
   split at hc
   ·cases hc
   ·rename_i e;exact⟨by simpa using e,hc⟩
  have hd:a.dec=false:=by
   cases e:a.dec with
   |false=> rfl
   |true=> have:=(h.dec_asked ha e).2.1;rw[hna] at this;cases this
  refine h.put ha hd hok rfl rfl hd rfl (by simp[trN,hna]) rfl (fun _ e=> by simp at e) (fun _ k6=> ?_) (fun e=> by simp[aln] at e) (fun e=> by simp[aln] at e) (fun e=> by simp[aln] at e) (fun e=> by simp[aln] at e)
  have hl:=List.length_pos_iff.2 (h.ok.ts th a ha).fs.1
  have k6:x.k=6:=k6
  show a.fs.length=1
  by_cases h1:1<a.fs.length
  ·have h2:¬a.fs.length=1:=by omega
   simp[zAo,k6,h1,h2] at hw
  ·omega
theorem NOp.kill (h:NOp f s) {th:Nat} (hth:th<4):NOp f (zGi s th):=by
 unfold zGi
 cases ha:s.ts th with
 |none=> exact h
 |some a=>
  simp only
  split
  ·exact h
  ·rename_i hd
   exact h.end hth ha (by simpa using hd) 3
end YtnemoimbeefngaaGreat
end Go.Proofs
namespace Go.Proofs
namespace YtnemoimbeefngaaGreat
open Go.Abs
variable {f:List Int} {s:NS}
theorem zYk {a b:Int} (ha:jN a=true) (hb:jN b=true) (h:zHb a b=true):a=b:=by
 unfold zHb zJz at h
 rw[if_pos ha,if_pos hb] at h
 simpa using h
theorem NOp.free (h:NOp f s) {th:Nat} {a:Att} (ha:s.ts th=some a) (hn:¬(a.ra.k=6/\(a.at_=2∨a.at_=3))):a.dec=false:=by
 cases e:a.dec with
 |false=> rfl
 |true=> have:=h.dec_asked ha e;exact absurd ⟨this.2.2.1,this.2.2.2⟩ hn
theorem zX5 {a:Att} (h1:a.asked=true) (h2:a.at_=5):(aln a).lk=1:=by simp[aln,h1,h2]
theorem qOg {a:Att} (h1:a.asked=true) (h2:a.at_=6):(aln a).lk=2:=by simp[aln,h1,h2]
theorem zB1 {a:Att} (h2:a.at_≠5/\a.at_≠6):(aln a).lk=0:=by simp[aln,h2]
theorem zEx {a:Att} (h2:a.at_≠1∨a.ra.k≠1):(aln a).rd=false:=by
 rcases h2 with h2|h2<;> simp[aln,h2]
theorem NOp.again (h:NOp f s) {th:Nat} (hth:th<4) {a:Att} (ha:s.ts th=some a) (hk:a.asked=true) (h4:4<=a.at_):NOp f (zCu s th a).2:=by
 have hok:=zT7 h.ok hth ha hk h4
 have hao:=h.ok.ts th a ha
 have hd:=h.free ha (by omega)
 have h12:=h.ok.hp.2
 have h6:=hao.at_
 have hkb:=hao.kb hk h4
 have hsn:=h.inv.sn th (aln a) (h.ts ha)
 have hsn2:0<=a.snap/\a.snap<=s.c/\a.snap % 2=0:=hsn
 unfold zCu at hok⊢
 split at hok
 ·rename_i e4
  rw[if_pos e4]
  cases ho:s.o with
  |some o=> exact h
  |none=>
   rw[ho] at hok
   simp only at hok⊢
   have hc:=h.oc.1 ho
   refine h.put ha hd hok rfl rfl hd rfl (by simp[trN,e4]) rfl (fun _ e=> by simp at e) (fun h1 h2=> h.one th a ha h1 h2) (fun e=> by rw[zEx (.inl (by simp))] at e;cases e) (fun _=> ⟨hsn2.2.1,Int.le_refl _,hc⟩) (fun _ _ t v hx=> ?_) (fun e=> by simp[aln,hk] at e)
   obtain⟨j,e,hj,_⟩:=hx
   simp only at hj;omega
 ·rename_i e4
  rw[if_neg e4]
  split at hok
  ·rename_i e5
   rw[if_pos e5]
   have hlk:=h.inv.lk th (aln a) (h.ts ha) (by rw[zX5 hk e5];omega)
   have hlk2:a.snap<=a.seen/\a.seen<=s.c/\a.seen % 2=0:=⟨hlk.1,hlk.2.1,hlk.2.2.1⟩
   have hck:=h.inv.ck th (aln a) (h.ts ha) (by rw[zX5 hk e5];omega)
   cases hx:a.es[a.nx]? with
   |none=>
    rw[hx] at hok
    simp only at hok⊢
    have hle:a.es.length<=a.nx:=List.getElem?_eq_none_iff.1 hx
    refine h.put ha hd hok rfl rfl hd rfl (by simp[trN,e5]) rfl (fun _ _=> hle) (fun h1 h2=> h.one th a ha h1 h2) (fun e=> by rw[zEx (.inl (by simp))] at e;cases e) (fun _=> hlk2) (fun _ hc t v hv=> hck hc t v hv) (fun _ t v hr=> ?_)
    obtain⟨e,he,h1,h2⟩:=(h.oe th a ha ⟨t,v⟩).1 hr
    obtain⟨j,hj⟩:=List.getElem?_of_mem he
    have:=(List.getElem?_eq_some_iff.1 hj).1
    exact⟨j,e,by simp only;omega,hj,h1,h2⟩
   |some e=>
    rw[hx] at hok
    simp only at hok⊢
    split at hok
    ·rename_i hs
     rw[if_pos hs]
     have het:=hao.es.range e (List.mem_of_getElem? hx)
     have hel:=hao.est e (List.mem_of_getElem? hx)
     obtain⟨w,hw⟩:∃w,s.hp[e.t.toNat]?=some w:=⟨s.hp[e.t.toNat]'(by omega),List.getElem?_eq_getElem (by omega)⟩
     have hwe:w=e.v:=by
      rw[hw] at hs
      exact zYk (h.hr w (List.mem_of_getElem? hw)) (h.er th a ha e (List.mem_of_getElem? hx)) hs
     have hpe:hpF s.hp e.t=e.v:=by unfold hpF;rw[if_pos het.1,hw];exact hwe
     refine h.put ha hd hok rfl rfl hd rfl (by simp[trN,e5]) rfl (fun _ e=> by simp only at e;omega) (fun h1 h2=> h.one th a ha h1 h2) (fun e=> by rw[zEx (.inl (by simp only;omega))] at e;cases e) (fun _=> hlk2) (fun _ hc t v hv=> ?_) (fun e=> by simp[aln,hk,e5] at e)
     obtain⟨j,e',hj,hj2,h1,h2⟩:=hv
     simp only at hj hj2
     by_cases ej:j=a.nx
     ·subst ej
      rw[hx] at hj2;cases hj2
      have hc':s.c=a.seen:=hc
      have htop:=h.inv.top (by show s.c % 2=0;rw[hc'];exact hlk2.2.2) e.t
      have e1:(jT s).hp e.t=e.v:=hpe
      rw[e1] at htop
      rw[←h1,←h2]
      show zBb (jT s) (hpF f) (a.seen+1) e.t e.v
      rw[←hc'];exact htop
     ·exact hck hc t v ⟨j,e',by show j<a.nx;omega,hj2,h1,h2⟩
    ·rename_i hs
     rw[if_neg hs]
     exact h.end hth ha hd 1
  ·rename_i e5
   rw[if_neg e5]
   have e6:a.at_=6:=by omega
   have hl6:=qOg hk e6
   have hlk:=h.inv.lk th (aln a) (h.ts ha) (by omega)
   split at hok
   ·rename_i hc
    rw[if_pos hc]
    have hbk:a.back≠5/\a.back≠6:=by have:=hao.back;omega
    have hI:=h.inv.again (th:=th) (a:=aln a) (b:=aln { a with snap:=a.seen,at_:=a.back }) (h.ts ha) hl6 hc rfl rfl hd (zEx (by simp only;omega)) (zB1 hbk)
    have hkl:=h.inv.kl0 th (aln a) (h.ts ha) hd
    have hkl2:jK s.ky a.n=a.snap+1:=hkl
    have hnk:a.n<s.ky.length:=by have:=hao.n;have:=h.ok.kw;omega
    refine h.move ha rfl hok ?_ h.oc rfl rfl h.hr (by simp) rfl rfl ?_ rfl (fun _ e=> by simp only at e;omega) (fun h1 h2=> h.one th a ha h1 h2) (fun n hn=> by rw[zGy hnk,if_neg hn]) (by rw[zGy hnk,if_pos rfl];have:=hlk.1;simp only[aln] at this;omega)
    ·have e:jT { s with ts:=zR s.ts th (some { a with snap:=a.seen,at_:=a.back }),ky:=s.ky.set a.n (a.seen+1) }=(jT s).again th (aln a) (aln { a with snap:=a.seen,at_:=a.back }):=by
      refine zFk rfl (fun i=> rfl) (by simp[jT,AN.again]) (fun n=> ?_) (fun n t w=> Iff.rfl) (fun n t=> rfl) (fun i=> ?_)
      ·show jK (s.ky.set a.n (a.seen+1)) n=_
       rw[zGy hnk];rfl
      ·simp only[AN.again,zBx,zR,jT]
       split<;> rfl
     rw[e];exact hI
    ·unfold trN
     simp only[hk,e6]
     rcases hkb with ⟨k1,b0⟩|⟨k6,b1⟩
     ·simp[k1]
     ·simp[k6,b1]
   ·rename_i hc
    rw[if_neg hc]
    exact h.put ha hd hok rfl rfl hd rfl (by simp[trN,e6]) rfl (fun _ e=> by simp at e) (fun h1 h2=> h.one th a ha h1 h2) (fun e=> by rw[zEx (.inl (by simp))] at e;cases e) (fun e=> by rw[zB1 (by simp)] at e;omega) (fun e=> by rw[zB1 (by simp)] at e;omega) (fun e=> by rw[zB1 (by simp)] at e;cases e)
theorem NOp.own (h:NOp f s) {th:Nat} {a:Att} (ha:s.ts th=some a) (hk:a.asked=true) (h4:a.at_<4) (k1:a.ra.k=1) {v:Int} (hg:qT a.fs a.ra.t=some v) (hok:(zBd s th a v).Ok):NOp f (zBd s th a v):=by
 have hao:=h.ok.ts th a ha
 have hd:=h.free ha (by omega)
 have hra:=(hao.ask hk).2.2.1 (.inl k1)
 have h12:=h.ok.hp.2
 have hlv:=h.lv ha
 have htr:trN a=false:=by simp[trN,k1]
 have ho:(obS s.ev a.n).fs=a.fs:=h.ev.obl th _ hlv
 have hof:obF (obS s.ev a.n) ⟨2,a.n,a.ra.t,v⟩=obS s.ev a.n:=zV6 (by rw[ho];exact hg)
 have hobs:∀n:Int,obS (s.ev++[⟨2,a.n,a.ra.t,v⟩]) n=obS s.ev n:=fun n=> by
  rw[zCl];split
  ·rename_i e;simp only at e;rw[←e];exact hof
  ·rfl
 have hrv:jN v=true:=by
  obtain⟨g,hg1,hg2⟩:=zFi hg
  exact (h.ev.fr a.n g (by rw[ho];exact hg1) _ hg2).2.2
 refine h.told ha (y:=some { a with asked:=false }) rfl hok ?_ h.oc h.hr (x:=⟨2,a.n,a.ra.t,v⟩) rfl ?_ rfl (fun _=> rfl) rfl (by simp) (fun b e=> ?_) (fun e=> by cases e)
 ·have hI:=h.inv.keep (th:=th) (b:=aln { a with asked:=false }) (h.ts ha) hd rfl rfl hd (fun e=> by simp[aln] at e) (fun e=> by simp[aln] at e) (fun e=> by simp[aln] at e) (fun e=> by simp[aln] at e)
  have e:jT (zBd s th a v)={ jT s with ts:=zBx (jT s).ts th (some (aln { a with asked:=false })) }:=by
   refine zFk rfl (fun i=> rfl) rfl (fun n=> rfl) (fun n t w=> ?_) (fun n t=> ?_) (fun i=> ?_)
   ·show (⟨t,w⟩:Pr)∈(obS (s.ev++[⟨2,a.n,a.ra.t,v⟩]) n).rds↔_
    rw[hobs];rfl
   ·show qT (obS (s.ev++[⟨2,a.n,a.ra.t,v⟩]) n).fs t=_
    rw[hobs];rfl
   ·simp only[zBx,zBd,zR,jT]
    split<;> rfl
  rw[e];exact hI
 ·rw[zFg (s:=s) (s':=zBd s th a v) (th:=th) (x:=some { a with asked:=false }) rfl]
  have:=h.ev.tell hlv (x:=⟨2,a.n,a.ra.t,v⟩) rfl (by simp) (b:=⟨false,false,a.fs⟩) (by simp[zC2,htr,hrv];omega) (by rw[hof];exact ho.symm) (y:=some ⟨a.n,false,a.fs⟩) (by simp) (by rw[hof];exact h.ev.obo a.n) (by rw[hof];exact h.ev.ra a.n) (by rw[hof];exact h.ev.fr a.n)
   (fun _=> by have:=h.ev.st th _ hlv;simp only[htr] at this;simpa using this) (by simp[zCt]) h.ok.ky
  simpa [zBd,trN] using this
 ·cases e
  refine⟨rfl,(fun e=> by cases e),(fun e=> by cases e),h.er th a ha,?_⟩
  show ∀p:Pr,p∈(obS (s.ev++[⟨2,a.n,a.ra.t,v⟩]) a.n).rds↔_
  rw[hobs];exact h.oe th a ha
theorem NOp.seen (h:NOp f s) {th:Nat} {a:Att} (ha:s.ts th=some a) (hk:a.asked=true) (k1:a.ra.k=1) (hg:qT a.fs a.ra.t=none) (e1:a.at_=1) (hc:s.c=a.snap) (hadd:zBi a.es ⟨a.ra.t,a.val,0⟩=0)
  (hok:(zBd s th { a with es:=zBe a.es ⟨a.ra.t,a.val,0⟩ } a.val).Ok):NOp f (zBd s th { a with es:=zBe a.es ⟨a.ra.t,a.val,0⟩ } a.val):=by
 have hao:=h.ok.ts th a ha
 have hd:=h.free ha (by omega)
 have hra:=(hao.ask hk).2.2.1 (.inl k1)
 have h12:=h.ok.hp.2
 have hlv:=h.lv ha
 have htr:trN a=false:=by simp[trN,k1]
 have ho:(obS s.ev a.n).fs=a.fs:=h.ev.obl th _ hlv
 have hof:obF (obS s.ev a.n) ⟨2,a.n,a.ra.t,a.val⟩=⟨(obS s.ev a.n).fs,(obS s.ev a.n).rds++[⟨a.ra.t,a.val⟩],(obS s.ev a.n).ok⟩:=zV7 (by rw[ho];exact hg)
 have hrv:jN a.val=true:=by
  unfold zBi at hadd
  simp only at hadd
  split at hadd
  ·cases hadd
  ·split at hadd
   ·cases hadd
   ·rename_i h1;simpa using h1
 have hval:zBb (jT s) (hpF f) (a.snap+1) a.ra.t a.val:=h.inv.rd th (aln a) (h.ts ha) (by simp[aln,hk,k1,e1]) hc
 have hmain:∀t v,(⟨t,v⟩:Pr)∈(obS s.ev a.n).rds->zBb (jT s) (hpF f) (a.snap+1) t v:=fun t v hr=> by
  have h1:=h.inv.main a.n (h.inv.nlt th (aln a) (h.ts ha)) t v hr
  have h2:(jT s).key a.n=a.snap+1:=h.inv.kl0 th (aln a) (h.ts ha) hd
  rw[h2] at h1;exact h1
 have hes:∀p:Pr,(∃e∈zBe a.es ⟨a.ra.t,a.val,0⟩,e.t=p.t/\e.v=p.v)↔p∈(obS s.ev a.n).rds++[⟨a.ra.t,a.val⟩]:=by
  intro p
  rw[List.mem_append,List.mem_singleton]
  constructor
  ·rintro⟨e,he,h1,h2⟩
   unfold zBe at he
   split at he
   ·rcases List.mem_append.1 he with he|he
    ·exact .inl ((h.oe th a ha p).2 ⟨e,he,h1,h2⟩)
    ·simp only[List.mem_singleton] at he;subst he
     right;cases p;simp only at h1 h2;rw[←h1,←h2]
   ·exact .inl ((h.oe th a ha p).2 ⟨e,he,h1,h2⟩)
  ·rintro (hp|rfl)
   ·obtain⟨e,he,h1,h2⟩:=(h.oe th a ha p).1 hp
    exact⟨e,zVl he,h1,h2⟩
   ·cases hgt:zEk a.es a.ra.t with
    |none=> exact⟨⟨a.ra.t,a.val,0⟩,by simp[zBe,hadd,hgt],rfl,rfl⟩
    |some y=>
     have hym:y∈a.es:=by unfold zEk at hgt;exact List.mem_of_find?_eq_some hgt
     have hyt:y.t=a.ra.t:=by unfold zEk at hgt;simpa using List.find?_some hgt
     have hyr:=(h.oe th a ha ⟨y.t,y.v⟩).2 ⟨y,hym,rfl,rfl⟩
     have hyv:=hmain _ _ hyr
     rw[hyt] at hyv
     have:=Val.uniq (s:=(jT s).as) (fun n m=> h.inv.ku n m) hyv hval
     exact⟨y,zVl hym,hyt,this⟩
 have her:∀e∈zBe a.es ⟨a.ra.t,a.val,0⟩,jN e.v=true:=by
  intro e he
  unfold zBe at he
  split at he
  ·rcases List.mem_append.1 he with he|he
   ·exact h.er th a ha e he
   ·simp only[List.mem_singleton] at he;subst he;exact hrv
  ·exact h.er th a ha e he
 generalize zBe a.es ⟨a.ra.t,a.val,0⟩=es at hok hes her⊢
 refine h.told ha (y:=some { a with es:=es,asked:=false }) rfl hok ?_ h.oc h.hr (x:=⟨2,a.n,a.ra.t,a.val⟩) rfl ?_ rfl (fun _=> rfl) rfl (by simp) (fun b e=> ?_) (fun e=> by cases e)
 ·have hI:=h.inv.move (th:=th) (b:=aln { a with es:=es,asked:=false }) (h.ts ha) hd rfl rfl hd (rd:=fun t v=> (⟨t,v⟩:Pr)∈(obS s.ev a.n).rds∨(t=a.ra.t/\v=a.val)) (lg:=(jT s).lg a.n) (fun t v hr=> by
   rcases hr with hr|⟨rfl,rfl⟩
   ·exact hmain t v hr
   ·exact hval) (fun e=> by simp[aln] at e) (fun e=> by simp[aln] at e) (fun e=> by simp[aln] at e) (fun e=> by simp[aln] at e)
  have e:jT (zBd s th { a with es:=es } a.val)=(jT s).move th (aln { a with es:=es,asked:=false }) (fun t v=> (⟨t,v⟩:Pr)∈(obS s.ev a.n).rds∨(t=a.ra.t/\v=a.val)) ((jT s).lg a.n):=by
   refine zFk rfl (fun i=> rfl) rfl (fun n=> rfl) (fun n t w=> ?_) (fun n t=> ?_) (fun i=> ?_)
   ·show (⟨t,w⟩:Pr)∈(obS (s.ev++[⟨2,a.n,a.ra.t,a.val⟩]) n).rds↔_
    rw[zCl]
    simp only[AN.move,zAx]
    by_cases e:n=a.n
    ·subst e
     rw[if_pos rfl,hof]
     simp[aln]
    ·have e':¬n=(aln { a with es:=es,asked:=false }).n:=e
     rw[if_neg (by omega),if_neg e'];exact Iff.rfl
   ·show qT (obS (s.ev++[⟨2,a.n,a.ra.t,a.val⟩]) n).fs t=_
    rw[zCl]
    simp only[AN.move,zAx]
    by_cases e:n=a.n
    ·subst e
     rw[if_pos rfl,hof]
     simp[aln,jT]
    ·have e':¬n=(aln { a with es:=es,asked:=false }).n:=e
     rw[if_neg (by omega),if_neg e'];rfl
   ·simp only[AN.move,zBx,zBd,zR,jT]
    split<;> rfl
  rw[e];exact hI
 ·rw[zFg (s:=s) (s':=zBd s th { a with es:=es } a.val) (th:=th) (x:=some { a with es:=es,asked:=false }) rfl]
  have:=h.ev.tell hlv (x:=⟨2,a.n,a.ra.t,a.val⟩) rfl (by simp) (b:=⟨false,false,a.fs⟩) (by simp[zC2,htr,hrv];omega) (by rw[hof];exact ho.symm) (y:=some ⟨a.n,false,a.fs⟩) (by simp) (by rw[hof];exact h.ev.obo a.n)
   (by
    rw[hof]
    intro r hr
    rcases List.mem_append.1 hr with hr|hr
    ·exact h.ev.ra a.n r hr
    ·simp only[List.mem_singleton] at hr;subst hr;exact hra)
   (by rw[hof];exact h.ev.fr a.n)
   (fun _=> by have:=h.ev.st th _ hlv;simp only[htr] at this;simpa using this) (by simp[zCt]) h.ok.ky
  simpa [zBd,trN] using this
 ·cases e
  refine⟨rfl,(fun e=> by cases e),(fun e=> by cases e),her,fun p=> ?_⟩
  show p∈(obS (s.ev++[⟨2,a.n,a.ra.t,a.val⟩]) a.n).rds↔_
  rw[zCl,if_pos rfl,hof]
  exact (hes p).symm
theorem NOp.read (h:NOp f s) {th:Nat} (hth:th<4) {a:Att} (ha:s.ts th=some a) (hk:a.asked=true) (h4:a.at_<4) (k1:a.ra.k=1):NOp f (zEg s th a).2:=by
 have hok:=zXf h.ok hth ha hk h4 k1
 have hao:=h.ok.ts th a ha
 have hd:=h.free ha (by omega)
 have hra:=(hao.ask hk).2.2.1 (.inl k1)
 have hat:=hao.kr hk h4 k1
 have h12:=h.ok.hp.2
 have hsn:=h.inv.sn th (aln a) (h.ts ha)
 have hsn2:0<=a.snap/\a.snap<=s.c/\a.snap % 2=0:=hsn
 unfold zEg at hok⊢
 cases hg:qT a.fs a.ra.t with
 |some v=>
  rw[hg] at hok
  exact h.own ha hk h4 k1 hg hok
 |none=>
  rw[hg] at hok
  simp only at hok⊢
  split at hok
  ·rename_i h0
   rw[if_pos h0]
   refine h.put ha hd hok rfl rfl hd rfl (by simp[trN,k1]) rfl (fun _ e=> by simp at e) (fun h1 h2=> h.one th a ha h1 h2) (fun _ hc=> ?_) (fun e=> by rw[zB1 (by simp)] at e;omega) (fun e=> by rw[zB1 (by simp)] at e;omega) (fun e=> by rw[zB1 (by simp)] at e;cases e)
   have htop:=h.inv.top (by show s.c % 2=0;rw[hc];exact hsn2.2.2) a.ra.t
   have e1:(jT s).hp a.ra.t=(s.hp[a.ra.t.toNat]?).getD 0:=by show hpF s.hp a.ra.t=_;unfold hpF;rw[if_pos hra.1]
   rw[e1] at htop
   have e2:(jT s).c=a.snap:=hc
   rw[e2] at htop
   exact htop
  ·rename_i h0
   rw[if_neg h0]
   split at hok
   ·rename_i hc
    rw[if_pos hc]
    split at hok
    ·rename_i hadd
     rw[if_pos hadd]
     exact h.seen ha hk k1 hg (by omega) hc hadd hok
    ·rename_i hadd
     rw[if_neg hadd]
     exact h.end hth ha hd 2
   ·rename_i hc
    rw[if_neg hc]
    exact h.put ha hd hok rfl rfl hd rfl (by simp[trN,k1]) rfl (fun _ e=> by simp at e) (fun h1 h2=> h.one th a ha h1 h2) (fun e=> by rw[zEx (.inl (by simp))] at e;cases e) (fun e=> by rw[zB1 (by simp)] at e;omega) (fun e=> by rw[zB1 (by simp)] at e;omega) (fun e=> by rw[zB1 (by simp)] at e;cases e)
end YtnemoimbeefngaaGreat
end Go.Proofs
namespace Go.Proofs
namespace YtnemoimbeefngaaGreat
open Go.Abs
variable {f:List Int} {s:NS}
theorem NOp.turned (h:NOp f s) {th:Nat} {a:Att} (ha:s.ts th=some a) (hd:a.dec=false) (htr:trN a=false) {k t v:Int} {fs:List (List Pr)} (hk:k=3∨(k=4∨k=5∨k=6)/\t=0/\v=0) (hact:zAa a.fs ⟨k,a.n,t,v⟩=(0,fs)) (hfr:∀g∈fs,∀p∈g,0<=p.t/\p.t<s.hp.length/\jN p.v=true)
  (hok:({ s with ts:=zR s.ts th (some { a with asked:=false,fs:=fs }),ev:=s.ev++[⟨k,a.n,t,v⟩] }:NS).Ok):NOp f { s with ts:=zR s.ts th (some { a with asked:=false,fs:=fs }),ev:=s.ev++[⟨k,a.n,t,v⟩] }:=by
 have hlv:=h.lv ha
 have ho:(obS s.ev a.n).fs=a.fs:=h.ev.obl th _ hlv
 have hof:obF (obS s.ev a.n) ⟨k,a.n,t,v⟩=⟨fs,(obS s.ev a.n).rds,(obS s.ev a.n).ok⟩:=by
  unfold obF
  rw[if_neg (by simp only;omega),ho,hact]
 refine h.told ha (y:=some { a with asked:=false,fs:=fs }) rfl hok ?_ h.oc h.hr (x:=⟨k,a.n,t,v⟩) rfl ?_ rfl (fun _=> rfl) rfl (by simp only;omega) (fun b e=> ?_) (fun e=> by cases e)
 ·have hI:=h.inv.move (th:=th) (b:=aln { a with asked:=false,fs:=fs }) (h.ts ha) hd rfl rfl hd (rd:=(jT s).rds a.n) (lg:=fun t=> qT fs t) (fun t v hr=> by
   have h1:=h.inv.main a.n (h.inv.nlt th (aln a) (h.ts ha)) t v hr
   have h2:(jT s).key a.n=a.snap+1:=h.inv.kl0 th (aln a) (h.ts ha) hd
   rw[h2] at h1;exact h1) (fun e=> by simp[aln] at e) (fun e=> by simp[aln] at e) (fun e=> by simp[aln] at e) (fun e=> by simp[aln] at e)
  have e:jT { s with ts:=zR s.ts th (some { a with asked:=false,fs:=fs }),ev:=s.ev++[⟨k,a.n,t,v⟩] }=(jT s).move th (aln { a with asked:=false,fs:=fs }) ((jT s).rds a.n) (fun t=> qT fs t):=by
   refine zFk rfl (fun i=> rfl) rfl (fun n=> rfl) (fun n u w=> ?_) (fun n u=> ?_) (fun i=> ?_)
   ·show (⟨u,w⟩:Pr)∈(obS (s.ev++[⟨k,a.n,t,v⟩]) n).rds↔_
    rw[zCl]
    simp only[AN.move,zAx]
    by_cases e:n=a.n
    ·subst e
     rw[if_pos rfl,hof]
     simp[aln,jT]
    ·have e':¬n=(aln { a with asked:=false,fs:=fs }).n:=e
     rw[if_neg (by omega),if_neg e'];exact Iff.rfl
   ·show qT (obS (s.ev++[⟨k,a.n,t,v⟩]) n).fs u=_
    rw[zCl]
    simp only[AN.move,zAx]
    by_cases e:n=a.n
    ·subst e
     rw[if_pos rfl,hof]
     simp[aln]
    ·have e':¬n=(aln { a with asked:=false,fs:=fs }).n:=e
     rw[if_neg (by omega),if_neg e'];rfl
   ·simp only[AN.move,zBx,zR,jT]
    split<;> rfl
  rw[e];exact hI
 ·rw[zFg (s:=s) (s':={ s with ts:=zR s.ts th (some { a with asked:=false,fs:=fs }),ev:=s.ev++[⟨k,a.n,t,v⟩] }) (th:=th) (x:=some { a with asked:=false,fs:=fs }) rfl]
  have:=h.ev.tell hlv (x:=⟨k,a.n,t,v⟩) rfl (by simp only;omega) (b:=⟨false,false,fs⟩) (by
    rcases hk with rfl|⟨hk,rfl,rfl⟩
    ·simp[zC2,htr,hact]
    ·rcases hk with rfl|rfl|rfl<;> simp[zC2,htr,hact,jZ]) (by rw[hof]) (y:=some ⟨a.n,false,fs⟩) (by simp) (by rw[hof];exact h.ev.obo a.n) (by rw[hof];exact h.ev.ra a.n) (by rw[hof];exact hfr)
   (fun _=> by
    have:=h.ev.st th _ hlv;simp only[htr] at this
    simp only
    rw[if_neg (by omega),if_neg (by omega),if_neg (by omega)];simpa using this) (by unfold zCt;simp only;rcases hk with rfl|⟨rfl|rfl|rfl,_⟩<;> rfl) h.ok.ky
  simpa [trN] using this
 ·cases e
  refine⟨rfl,(fun e=> by cases e),(fun e=> by cases e),h.er th a ha,?_⟩
  show ∀p:Pr,p∈(obS (s.ev++[⟨k,a.n,t,v⟩]) a.n).rds↔_
  rw[zCl,if_pos rfl,hof]
  exact h.oe th a ha
theorem NOp.turn (h:NOp f s) {th:Nat} (hth:th<4) {a:Att} (ha:s.ts th=some a) (hk:a.asked=true) (h4:a.at_<4) (k2:a.ra.k=2∨a.ra.k=3∨a.ra.k=4∨a.ra.k=5):NOp f (zDd s th a).2:=by
 have hok:=zXe h.ok hth ha hk h4 k2
 have hao:=h.ok.ts th a ha
 have hd:=h.free ha (by omega)
 have htr:trN a=false:=by have:¬a.ra.k=6:=by omega
                          simp[trN,this]
 have hne:=hao.fs.1
 have ho:(obS s.ev a.n).fs=a.fs:=h.ev.obl th _ (h.lv ha)
 have hfr:∀g∈a.fs,∀p∈g,0<=p.t/\p.t<s.hp.length/\jN p.v=true:=by rw[←ho];exact h.ev.fr a.n
 have hww:=hao.ww hk
 unfold zDd at hok⊢
 split at hok
 ·rename_i k3
  rw[if_pos k3]
  refine h.turned ha hd htr (.inr ⟨.inl rfl,rfl,rfl⟩) (qJc (hww.1 k3) hne) ?_ hok
  have h5:¬5<=a.fs.length:=by have:=hww.1 k3;omega
  rw[zMn,if_neg h5]
  intro g hg
  rcases List.mem_cons.1 hg with rfl|hg
  ·intro p hp;cases hp
  ·exact hfr g hg
 ·rename_i k3
  rw[if_neg k3]
  split at hok
  ·rename_i k4
   rw[if_pos k4]
   refine h.turned ha hd htr (.inr ⟨.inr (.inl rfl),rfl,rfl⟩) (qJe (hww.2 (.inl k4))) ?_ hok
   intro g hg
   refine hfr g ?_
   unfold zMx at hg
   split at hg
   ·rename_i e;rw[e];exact List.mem_cons_of_mem _ hg
   ·exact hg
  ·rename_i k4
   rw[if_neg k4]
   split at hok
   ·rename_i k5
    rw[if_pos k5]
    refine h.turned ha hd htr (.inr ⟨.inr (.inr rfl),rfl,rfl⟩) (qEi (hww.2 (.inr k5))) ?_ hok
    intro g hg
    unfold zIh at hg
    split at hg
    ·rename_i f1 g1 rs e
     rcases List.mem_cons.1 hg with rfl|hg
     ·exact zOz (hfr g1 (by rw[e];simp)) (hfr f1 (by rw[e];simp)) fun p q h1 h2=> ⟨h1.1,h1.2.1,h2.2.2⟩
     ·exact hfr g (by rw[e];simp[hg])
    ·exact hfr g hg
   ·rename_i k5
    rw[if_neg k5]
    have k2':a.ra.k=2:=by omega
    have hra:=(hao.ask hk).2.2.1 (.inr k2')
    split at hok
    ·rename_i hP
     rw[if_pos hP]
     refine h.turned ha hd htr (.inl rfl) (qOj hP hne) ?_ hok
     intro g hg
     unfold zMm at hg
     split at hg
     ·rename_i f1 rs e
      have hR:jN a.ra.v=true:=by
       rw[e] at hP
       unfold zJc jU at hP
       simp only at hP
       split at hP
       ·cases hP
       ·split at hP
        ·cases hP
        ·rename_i hr;simpa using hr
      rcases List.mem_cons.1 hg with rfl|hg
      ·intro p hp
       rcases zNo hp with rfl|h1|⟨r,hr2,rfl⟩
       ·exact⟨hra.1,hra.2,hR⟩
       ·exact hfr f1 (by rw[e];simp) p h1
       ·have:=hfr f1 (by rw[e];simp) r hr2
        exact⟨this.1,this.2.1,hR⟩
      ·exact hfr g (by rw[e];simp[hg])
     ·cases hg
    ·rename_i hP;rw[if_neg hP];exact h.end hth ha hd 2
theorem EvOk.triedN (h:EvOk s.hp.length s.ky.length s.ev (lvN s)) {th:Nat} {a:Att} (ha:s.ts th=some a) (hp0:trN a=false) (hf1:a.fs.length=1) (hN:s.ky.length<=64):EvOk s.hp.length s.ky.length (s.ev++[⟨7,a.n,0,0⟩]) (zDf (lvN s) th (some ⟨a.n,true,a.fs⟩)):=by
 have hlv:lvN s th=some ⟨a.n,trN a,a.fs⟩:=by simp[lvN,ha]
 have ho:=h.obl th _ hlv
 have hi:=zCy (obS s.ev a.n) (x:=⟨7,a.n,0,0⟩) (by simp)
 exact h.tell hlv (x:=⟨7,a.n,0,0⟩) rfl (by simp) (b:=⟨true,false,a.fs⟩) (by simp[zC2,jZ,hp0,hf1]) (by rw[hi];exact ho.symm) (y:=some ⟨a.n,true,a.fs⟩) (by simp) (by rw[hi];exact h.obo a.n) (by rw[hi];exact h.ra a.n) (by rw[hi];exact h.fr a.n) (fun _=> by simp) (by simp[zCt]) hN
theorem NOp.commit0 (h:NOp f s) {th:Nat} (hth:th<4) {a:Att} (ha:s.ts th=some a) (hk:a.asked=true) (k6:a.ra.k=6) (hp0:a.at_=0) (hf1:a.fs.length=1) (hn:jO a.fs=[]) (hok:(xG { s with ev:=s.ev++[⟨7,a.n,0,0⟩] } th a).Ok):NOp f (xG { s with ev:=s.ev++[⟨7,a.n,0,0⟩] } th a):=by
 have hlv:=h.lv ha
 have hE1:=h.ev.triedN ha (by simp[trN,hp0]) hf1 h.ok.ky
 have hobs:∀n:Int,obS (s.ev++[⟨7,a.n,0,0⟩]++[⟨8,a.n,0,0⟩]) n=obS s.ev n:=fun n=> by rw[zP7,zIt]
 have hlog:∀t,qT a.fs t=none:=qI6 hn h.ok.hp.2 fun g hg p hp=> by have:=(h.ok.ts th a ha).fst g hg p hp;omega
 have ho:=h.ev.obl th _ hlv
 simp only at ho
 have hst0:xX (s.ev++[⟨7,a.n,0,0⟩]) a.n≠0:=by
  have:=hE1.st th ⟨a.n,true,a.fs⟩ (by simp[zDf])
  simp only at this
  rw[this];simp
 have hE:EvOk s.hp.length s.ky.length (s.ev++[⟨7,a.n,0,0⟩]++[⟨8,a.n,0,0⟩]) (zDf (lvN s) th none):=by
  have hi:=zCy (obS (s.ev++[⟨7,a.n,0,0⟩]) a.n) (x:=⟨8,a.n,0,0⟩) (by simp)
  have hl1:zDf (lvN s) th (some ⟨a.n,true,a.fs⟩) th=some ⟨a.n,true,a.fs⟩:=by simp[zDf]
  have:=hE1.tell hl1 (x:=⟨8,a.n,0,0⟩) rfl (by simp) (b:=⟨true,true,a.fs⟩) (by simp[zC2,jZ]) (by rw[hi,zIt];exact ho.symm) (y:=none) (by simp) (by rw[hi];exact hE1.obo a.n) (by rw[hi];exact hE1.ra a.n) (by rw[hi];exact hE1.fr a.n) (fun e=> by cases e) (by simp[zCt]) h.ok.ky
  have e:zDf (zDf (lvN s) th (some ⟨a.n,true,a.fs⟩)) th none=zDf (lvN s) th none:=by funext i;simp only[zDf];split<;> rfl
  rw[e] at this;exact this
 have hlvE:lvN (xG { s with ev:=s.ev++[⟨7,a.n,0,0⟩] } th a)=zDf (lvN s) th none:=zFg (s:=s) (s':=xG { s with ev:=s.ev++[⟨7,a.n,0,0⟩] } th a) (th:=th) (x:=none) rfl
 have hne:∀i z,i≠th->s.ts i=some z->z.n≠a.n:=fun i z hi hz e=> hi (h.ev.nu i th _ _ (h.lv hz) hlv e)
 constructor
 case ok=> exact hok
 case ev=> rw[hlvE];exact hE
 case inv=>
  have hI:=h.inv.fall (th:=th) (h.ts ha) (h.free ha (by omega))
  have e:jT (xG { s with ev:=s.ev++[⟨7,a.n,0,0⟩] } th a)=(jT s).fall th:=by
   refine zFk rfl (fun i=> rfl) rfl (fun n=> rfl) (fun n t v=> ?_) (fun n t=> ?_) (fun i=> ?_)
   ·show (⟨t,v⟩:Pr)∈(obS (s.ev++[⟨7,a.n,0,0⟩]++[⟨8,a.n,0,0⟩]) n).rds↔_
    rw[hobs];rfl
   ·show qT (obS (s.ev++[⟨7,a.n,0,0⟩]++[⟨8,a.n,0,0⟩]) n).fs t=_
    rw[hobs];rfl
   ·simp only[AN.fall,zBx,xG,zR,jT]
    split<;> rfl
  rw[e];exact hI
 case oc=> exact h.oc
 case oe=>
  intro i z hz
  have hz:zR s.ts th none i=some z:=hz
  rw[zC6] at hz
  show ∀p:Pr,p∈(obS (s.ev++[⟨7,a.n,0,0⟩]++[⟨8,a.n,0,0⟩]) z.n).rds↔_
  rw[hobs];exact h.oe i z hz.2
 case hr=> exact h.hr
 case er=>
  intro i z hz
  have hz:zR s.ts th none i=some z:=hz
  rw[zC6] at hz
  exact h.er i z hz.2
 case l6=>
  intro i z hz
  have hz:zR s.ts th none i=some z:=hz
  rw[zC6] at hz
  exact h.l6 i z hz.2
 case one=>
  intro i z hz
  have hz:zR s.ts th none i=some z:=hz
  rw[zC6] at hz
  exact h.one i z hz.2
 case par=>
  intro n hn' hno
  show (xX (s.ev++[⟨7,a.n,0,0⟩]++[⟨8,a.n,0,0⟩]) n=4->jK s.ky n % 2=1)/\(xX (s.ev++[⟨7,a.n,0,0⟩]++[⟨8,a.n,0,0⟩]) n=3->jK s.ky n % 2=0∨∀t,qT (obS (s.ev++[⟨7,a.n,0,0⟩]++[⟨8,a.n,0,0⟩]) n).fs t=none)
  rw[hobs]
  by_cases e:n=a.n
  ·subst e
   have hs:=zLa (l:=s.ev++[⟨7,a.n,0,0⟩]) (x:=⟨8,a.n,0,0⟩) hst0
   simp only at hs
   rw[hs]
   exact⟨fun e=> by simp at e,fun _=> .inr fun t=> by rw[ho];exact hlog t⟩
  ·rw[zC7 (by simp only;omega),zC7 (by simp only;omega)]
   refine h.par n hn' fun i z hz=> ?_
   by_cases ei:i=th
   ·subst ei;rw[ha] at hz;cases hz;exact fun e2=> e e2.symm
   ·exact hno i z (by simp only[xG,zR,if_neg ei];exact hz)
 case bf=>
  intro n m hb
  have hb:zBg (s.ev++[⟨7,a.n,0,0⟩]++[⟨8,a.n,0,0⟩]) n m=true:=hb
  show n<m/\jK s.ky n<=jK s.ky m
  by_cases hm:m<s.ky.length
  ·rw[zHh (by obtain⟨y,hy,h1⟩:=h.ev.bg m hm;exact⟨y,by simp[hy],h1⟩),zHh (h.ev.bg m hm)] at hb
   exact h.bf n m hb
  ·rw[zJq] at hb
   ·cases hb
   ·intro z hz
    rcases List.mem_append.1 hz with hz|hz
    ·rcases List.mem_append.1 hz with hz|hz
     ·have:=h.ev.ea z hz;omega
     ·simp only[List.mem_singleton] at hz;subst hz;simp
    ·simp only[List.mem_singleton] at hz;subst hz;simp
theorem NOp.try1 (h:NOp f s) {th:Nat} {a:Att} (ha:s.ts th=some a) (hk:a.asked=true) (k6:a.ra.k=6) (hp0:a.at_=0) (hok:({ s with ts:=zR s.ts th (some { a with at_:=1 }),ev:=s.ev++[⟨7,a.n,0,0⟩] }:NS).Ok):NOp f { s with ts:=zR s.ts th (some { a with at_:=1 }),ev:=s.ev++[⟨7,a.n,0,0⟩] }:=by
 have hlv:=h.lv ha
 have hd:=h.free ha (by omega)
 have hf1:=h.one th a ha hk k6
 refine h.told ha (y:=some { a with at_:=1 }) rfl hok ?_ h.oc h.hr (x:=⟨7,a.n,0,0⟩) rfl ?_ rfl (fun _=> rfl) rfl (by simp) (fun b e=> ?_) (fun e=> by cases e)
 ·have hI:=h.inv.keep (th:=th) (b:=aln { a with at_:=1 }) (h.ts ha) hd rfl rfl hd (fun e=> by rw[zEx (.inr (by simp only;omega))] at e;cases e) (fun e=> by rw[zB1 (by simp)] at e;omega) (fun e=> by rw[zB1 (by simp)] at e;omega) (fun e=> by rw[zB1 (by simp)] at e;cases e)
  have e:jT { s with ts:=zR s.ts th (some { a with at_:=1 }),ev:=s.ev++[⟨7,a.n,0,0⟩] }={ jT s with ts:=zBx (jT s).ts th (some (aln { a with at_:=1 })) }:=by
   refine zFk rfl (fun i=> rfl) rfl (fun n=> rfl) (fun n t w=> ?_) (fun n t=> ?_) (fun i=> ?_)
   ·show (⟨t,w⟩:Pr)∈(obS (s.ev++[⟨7,a.n,0,0⟩]) n).rds↔_
    rw[zIt];rfl
   ·show qT (obS (s.ev++[⟨7,a.n,0,0⟩]) n).fs t=_
    rw[zIt];rfl
   ·simp only[zBx,zR,jT]
    split<;> rfl
  rw[e];exact hI
 ·rw[zFg (s:=s) (s':={ s with ts:=zR s.ts th (some { a with at_:=1 }),ev:=s.ev++[⟨7,a.n,0,0⟩] }) (th:=th) (x:=some { a with at_:=1 }) rfl]
  have:=h.ev.triedN ha (by simp[trN,hp0]) hf1 h.ok.ky
  simpa [trN,hk,k6] using this
 ·cases e
  refine⟨rfl,(fun _ e=> by simp at e),(fun _ _=> hf1),h.er th a ha,?_⟩
  show ∀p:Pr,p∈(obS (s.ev++[⟨7,a.n,0,0⟩]) a.n).rds↔_
  rw[zIt];exact h.oe th a ha
theorem NOp.lgs (h:NOp f s) {th:Nat} {a:Att} (ha:s.ts th=some a) (t:Int):(jT s).lg a.n t=qT a.fs t:=by
 show qT (obS s.ev a.n).fs t=_
 rw[h.ev.obl th _ (h.lv ha)]
theorem NOp.range (h:NOp f s) {th:Nat} {a:Att} (ha:s.ts th=some a) {t:Int} (hg:qT a.fs t≠none):(0<=t/\t<12)/\t<s.hp.length:=by
 cases hv:qT a.fs t with
 |none=> exact absurd hv hg
 |some v=>
  obtain⟨g,h1,h2⟩:=zFi hv
  have h3:=(h.ok.ts th a ha).fst g h1 _ h2
  have h4:=h.ok.hp.2
  simp only at h3
  omega
theorem NOp.decide (h:NOp f s) {th:Nat} {a:Att} (ha:s.ts th=some a) (hk:a.asked=true) (k6:a.ra.k=6) (e1:a.at_=1) (ho:s.o=none) (hc:s.c=a.snap) (hok:({ s with o:=some (th:Int),c:=s.c+1,ts:=zR s.ts th (some { a with dec:=true,at_:=2,nx:=0 }),ky:=s.ky.set a.n (a.snap+2) }:NS).Ok):
  NOp f { s with o:=some (th:Int),c:=s.c+1,ts:=zR s.ts th (some { a with dec:=true,at_:=2,nx:=0 }),ky:=s.ky.set a.n (a.snap+2) }:=by
 have hd:=h.free ha (by omega)
 have hao:=h.ok.ts th a ha
 have hnk:a.n<s.ky.length:=by have:=hao.n;have:=h.ok.kw;omega
 have hc2:=h.oc.1 ho
 have hkl:jK s.ky a.n=a.snap+1:=h.inv.kl0 th (aln a) (h.ts ha) hd
 refine h.move ha rfl hok ?_ ⟨(fun e=> by cases e),(fun e=> by exfalso;have e:(s.c+1) % 2=0:=e;omega)⟩ rfl rfl h.hr (by simp) rfl rfl (by simp[trN,e1]) rfl (fun _ e=> by simp at e) (fun h1 h2=> h.one th a ha h1 h2) (fun n hn=> by rw[zGy hnk,if_neg hn]) (by rw[zGy hnk,if_pos rfl];omega)
 have hI:=h.inv.decide (th:=th) (a:=aln a) (b:=aln { a with dec:=true,at_:=2,nx:=0 }) (h.ts ha) hd hc rfl rfl rfl (zEx (.inl (by simp))) (zB1 (by simp)) (fun t=> by
  rw[show (aln a).n=a.n from rfl,h.lgs ha]
  constructor
  ·rintro⟨_,j,p,_,hj,rfl⟩
   rw[(zF4 (zGp (List.mem_of_getElem? hj))).1 (List.mem_of_getElem? hj)];simp
  ·intro ht
   obtain⟨hr,_⟩:=h.range ha ht
   cases hv:qT a.fs t with
   |none=> exact absurd hv ht
   |some v=>
    obtain⟨j,hj⟩:=List.getElem?_of_mem ((zF4 hr).2 hv)
    exact⟨rfl,j,⟨t,v⟩,by simp only;omega,hj,rfl⟩)
 have e:jT { s with o:=some (th:Int),c:=s.c+1,ts:=zR s.ts th (some { a with dec:=true,at_:=2,nx:=0 }),ky:=s.ky.set a.n (a.snap+2) }=(jT s).decide th (aln a) (aln { a with dec:=true,at_:=2,nx:=0 }):=by
  refine zFk rfl (fun i=> rfl) (by simp[jT,AN.decide]) (fun n=> ?_) (fun n t w=> Iff.rfl) (fun n t=> rfl) (fun i=> ?_)
  ·show jK (s.ky.set a.n (a.snap+2)) n=_
   rw[zGy hnk];rfl
  ·simp only[AN.decide,zBx,zR,jT]
   split<;> rfl
 rw[e];exact hI
theorem NOp.write (h:NOp f s) {th:Nat} {a:Att} (ha:s.ts th=some a) (hk:a.asked=true) (k6:a.ra.k=6) (e2:a.at_=2) {p:Pr} (hx:(jO a.fs)[a.nx]?=some p) (hok:({ s with hp:=s.hp.set p.t.toNat p.v,ts:=zR s.ts th (some { a with nx:=a.nx+1,at_:=if a.nx+1=(jO a.fs).length then 3 else 2 }) }:NS).Ok):
  NOp f { s with hp:=s.hp.set p.t.toNat p.v,ts:=zR s.ts th (some { a with nx:=a.nx+1,at_:=if a.nx+1=(jO a.fs).length then 3 else 2 }) }:=by
 have hd:a.dec=true:=(h.ok.dec th a ha).2 hk k6 (.inl e2)
 have hm:=List.mem_of_getElem? hx
 have hlt:=(List.getElem?_eq_some_iff.1 hx).1
 have hr:=zGp hm
 have hg:=(zF4 hr).1 hm
 obtain⟨_,hrl⟩:=h.range ha (t:=p.t) (by rw[hg];simp)
 have hpv:jN p.v=true:=by
  obtain⟨g,hg1,hg2⟩:=zFi hg
  have ho:(obS s.ev a.n).fs=a.fs:=h.ev.obl th _ (h.lv ha)
  exact (h.ev.fr a.n g (by rw[ho];exact hg1) _ hg2).2.2
 generalize hq:(if a.nx+1=(jO a.fs).length then 3 else 2:Nat)=q at hok⊢
 have hq23:q=2∨q=3:=by rw[←hq];split<;> omega
 refine h.move ha rfl hok ?_ h.oc rfl (by simp) (fun v hv=> ?_) rfl rfl rfl (by simp only[trN,hk,k6,e2];rcases hq23 with rfl|rfl<;> rfl) rfl (fun _ e=> by simp only at e;omega) (fun h1 h2=> h.one th a ha h1 h2) (fun _ _=> rfl) (Int.le_refl _)
 ·have hI:=h.inv.write (th:=th) (a:=aln a) (b:=aln { a with nx:=a.nx+1,at_:=q }) (x:=p.t) (w:=p.v) (h.ts ha) hd (by rw[show (aln a).n=a.n from rfl,h.lgs ha];exact hg) rfl rfl hd (zEx (.inl (by simp only;omega))) (zB1 (by simp only;omega)) (fun u=> by
   show (q=2/\∃j p',a.nx+1<=j/\(jO a.fs)[j]?=some p'/\p'.t=u)↔(a.at_=2/\∃j p',a.nx<=j/\(jO a.fs)[j]?=some p'/\p'.t=u)/\u≠p.t
   constructor
   ·rintro⟨_,j,p',h1,h2,rfl⟩
    exact⟨⟨e2,j,p',by omega,h2,rfl⟩,fun e=> by have:=qI8 h2 hx e;omega⟩
   ·rintro⟨⟨_,j,p',h1,h2,rfl⟩,hne⟩
    have hj:j≠a.nx:=fun e=> by subst e;rw[hx] at h2;cases h2;exact hne rfl
    have hjl:=(List.getElem?_eq_some_iff.1 h2).1
    refine⟨?_,j,p',by omega,h2,rfl⟩
    rw[←hq,if_neg (by omega)])
  have e:jT { s with hp:=s.hp.set p.t.toNat p.v,ts:=zR s.ts th (some { a with nx:=a.nx+1,at_:=q }) }=(jT s).write th (aln { a with nx:=a.nx+1,at_:=q }) p.t p.v:=by
   refine zFk rfl (fun i=> qNo ⟨hr.1,hrl⟩ i) rfl (fun n=> rfl) (fun n t w=> Iff.rfl) (fun n t=> rfl) (fun i=> ?_)
   simp only[AN.write,zBx,zR,jT]
   split<;> rfl
  rw[e];exact hI
 ·rcases List.mem_or_eq_of_mem_set hv with hv|rfl
  ·exact h.hr v hv
  ·exact hpv
theorem NOp.commit (h:NOp f s) {th:Nat} {a:Att} (ha:s.ts th=some a) (hk:a.asked=true) (k6:a.ra.k=6) (e3:a.at_=3) (hok:(xG { s with o:=none,c:=s.c+1 } th a).Ok):NOp f (xG { s with o:=none,c:=s.c+1 } th a):=by
 have hd:a.dec=true:=(h.ok.dec th a ha).2 hk k6 (.inr e3)
 have hlv:=h.lv ha
 have htr:trN a=true:=by simp[trN,hk,k6,e3]
 have hol:=h.ev.obl th _ hlv
 have hi:=zCy (obS s.ev a.n) (x:=⟨8,a.n,0,0⟩) (by simp)
 have hso:=(h.dec_asked ha hd).1
 have hodd:¬s.c % 2=0:=fun e=> by have:=h.oc.2 e;rw[hso] at this;cases this
 have hkl:=h.inv.kl1 th (aln a) (h.ts ha) hd
 have hkl1:jK s.ky a.n=a.snap+2:=hkl.1
 have hsn:=h.inv.sn th (aln a) (h.ts ha)
 have hsn2:a.snap % 2=0:=hsn.2.2
 refine h.told ha (y:=none) rfl hok ?_ ⟨fun _=> by show (s.c+1) % 2=0;omega,fun _=> rfl⟩ h.hr (x:=⟨8,a.n,0,0⟩) rfl ?_ rfl (fun _=> rfl) rfl (by simp) (fun b e=> by cases e) (fun _=> ⟨(fun e=> by cases e),fun _=> .inl (by omega)⟩)
 ·have hI:=h.inv.commit (th:=th) (h.ts ha) hd (fun t ht=> by have h1:a.at_=2:=ht.1;omega)
  have e:jT (xG { s with o:=none,c:=s.c+1 } th a)=(jT s).commit th:=by
   refine zFk rfl (fun i=> rfl) rfl (fun n=> rfl) (fun n t v=> ?_) (fun n t=> ?_) (fun i=> ?_)
   ·show (⟨t,v⟩:Pr)∈(obS (s.ev++[⟨8,a.n,0,0⟩]) n).rds↔_
    rw[zP7];rfl
   ·show qT (obS (s.ev++[⟨8,a.n,0,0⟩]) n).fs t=_
    rw[zP7];rfl
   ·simp only[AN.commit,zBx,xG,zR,jT]
    split<;> rfl
  rw[e];exact hI
 ·rw[zFg (s:=s) (s':=xG { s with o:=none,c:=s.c+1 } th a) (th:=th) (x:=none) rfl]
  exact h.ev.tell hlv (x:=⟨8,a.n,0,0⟩) rfl (by simp) (b:=⟨true,true,a.fs⟩) (by simp[zC2,jZ,htr]) (by rw[hi];exact hol.symm) (y:=none) (by simp) (by rw[hi];exact h.ev.obo a.n) (by rw[hi];exact h.ev.ra a.n) (by rw[hi];exact h.ev.fr a.n) (fun e=> by cases e) (by simp[zCt]) h.ok.ky
theorem NOp.goOn (h:NOp f s) {th:Nat} (hth:th<4) {a:Att} (ha:s.ts th=some a) (hk:a.asked=true) (h4:a.at_<4) (k6:a.ra.k=6):NOp f (zDp s th a).2:=by
 have hok:=zXg h.ok hth ha hk h4 k6
 have hao:=h.ok.ts th a ha
 have hf1:=h.one th a ha hk k6
 unfold zDp at hok⊢
 split at hok
 ·rename_i e0
  rw[if_pos e0]
  split at hok
  ·rename_i hn
   rw[if_pos hn]
   exact h.commit0 hth ha hk k6 e0 hf1 hn hok
  ·rename_i hn
   rw[if_neg hn]
   exact h.try1 ha hk k6 e0 hok
 ·rename_i e0
  rw[if_neg e0]
  split at hok
  ·rename_i e1
   rw[if_pos e1]
   have hd:=h.free ha (by omega)
   split at hok
   ·rename_i ht
    rw[if_pos ht]
    have hoc:s.o=none/\s.c=a.snap:=by
     unfold zDx at ht
     split at ht
     ·cases ht
     ·split at ht
      ·cases ht
      ·rename_i ho
       split at ht
       ·cases ht
       ·rename_i hc
        exact⟨by simpa using ho,Classical.not_not.1 hc⟩
    exact h.decide ha hk k6 e1 hoc.1 hoc.2 hok
   ·rename_i ht
    rw[if_neg ht]
    split at hok
    ·rename_i ht4
     rw[if_pos ht4]
     exact h.end hth ha hd 2
    ·rename_i ht4
     rw[if_neg ht4]
     exact h.put ha hd hok rfl rfl hd rfl (by simp[trN,e1]) rfl (fun _ e=> by simp at e) (fun h1 h2=> h.one th a ha h1 h2) (fun e=> by rw[zEx (.inl (by simp))] at e;cases e) (fun e=> by rw[zB1 (by simp)] at e;omega) (fun e=> by rw[zB1 (by simp)] at e;omega) (fun e=> by rw[zB1 (by simp)] at e;cases e)
  ·rename_i e1
   rw[if_neg e1]
   split at hok
   ·rename_i e2
    rw[if_pos e2]
    cases hx:(jO a.fs)[a.nx]? with
    |none=> exact h
    |some p=>
     rw[hx] at hok
     exact h.write ha hk k6 e2 hx hok
   ·rename_i e2
    rw[if_neg e2]
    exact h.commit ha hk k6 (by omega) hok
theorem NOp.step (h:NOp f s) {th:Nat} (hth:th<4):NOp f (zA5 s th).2:=by
 unfold zA5
 cases ha:s.ts th with
 |none=> exact h
 |some a=>
  simp only
  have hao:=h.ok.ts th a ha
  split
  ·exact h
  ·rename_i hk
   have hk:a.asked=true:=by simpa using hk
   split
   ·rename_i h4;exact h.again hth ha hk h4
   ·rename_i h4
    split
    ·rename_i k7
     exact h.end hth ha (h.free ha (by omega)) 4
    ·rename_i k7
     split
     ·rename_i k6;exact h.goOn hth ha hk (by omega) k6
     ·rename_i k6
      split
      ·rename_i k1;exact h.read hth ha hk (by omega) k1
      ·rename_i k1
       have:=hao.ask hk
       exact h.turn hth ha hk (by omega) (by omega)
end YtnemoimbeefngaaGreat
end Go.Proofs
namespace Go.Proofs
namespace YtnemoimbeefngaaGreat
open Go.Abs
structure Gen (A:AS) (ev:List Ev) (f:List Int) (cm:List Int):Prop where
 h12:f.length<=12
 rds:∀(n:Nat) t v,(⟨t,v⟩:Pr)∈(obS ev n).rds->A.rds n t v
 lg:∀(n:Nat) t,qT (obS ev n).fs t=A.lg n t
 obo:∀n:Nat,(obS ev n).ok=true
 ra:∀n:Nat,∀r∈(obS ev n).rds,0<=r.t/\r.t<f.length
 fr:∀n:Nat,∀g∈(obS ev n).fs,∀p∈g,0<=p.t/\p.t<f.length/\jN p.v=true
 bf:∀n m:Nat,zBg ev n m=true->n<m/\A.key n<=A.key m
 ku:∀n m,A.Ent n->A.Ent m->A.key n=A.key m->n=m
 main:∀n,n<A.N->∀t v,A.rds n t v->Val A (hpF f) (A.key n) t v
 cnt:∀n,n<A.N->(A.key n % 2=0->zEz ev cm n=true)/\(A.key n % 2≠0->zEz ev cm n=true->∀t,A.lg n t=none)
def zQj (A:AS) (a b:Nat):Prop:=A.key a<A.key b∨(A.key a=A.key b/\a<b)
variable {A:AS} {ev:List Ev} {f cm:List Int}
theorem Gen.run (h:Gen A ev f cm):∀(rest pre:List Nat) (hp:List Int),(pre++rest).Pairwise (zQj A)->(∀n,n∈pre++rest↔n<A.N)->hp.length=f.length->
  (∀t:Int,0<=t->t<f.length->∀v,hp[t.toNat]?=some v->zQi A (fun m=> m∈pre) (hpF f) t v)->∃hp',zDy ev cm (zH5 rest) hp=some hp'/\hp'.length=f.length/\∀t:Int,0<=t->t<f.length->∀v,hp'[t.toNat]?=some v->zQi A (fun m=> m∈pre++rest) (hpF f) t v
 |[],pre,hp,hpw,hall,hl,hv=> ⟨hp,rfl,hl,by simpa using hv⟩
 |a::rest,pre,hp,hpw,hall,hl,hv=> by
  have h12:=h.h12
  have han:a<A.N:=(hall a).1 (by simp)
  obtain⟨pw1,pw2,pw3⟩:=List.pairwise_append.1 hpw
  rw[List.pairwise_cons] at pw2
  have hb:(zH5 rest).any (fun b=> zBg ev b a)=false:=by
   rw[Bool.eq_false_iff]
   intro hx
   obtain⟨b,hb1,hb2⟩:=List.any_eq_true.1 hx
   unfold zH5 at hb1
   obtain⟨m,hm,rfl⟩:=List.mem_map.1 hb1
   obtain⟨g1,g2⟩:=h.bf m a hb2
   rcases pw2.1 m hm with g3|⟨g3,g4⟩<;> omega
  have hE:∀m,A.Ent m->(m∈pre↔A.key m<A.key a):=by
   intro m hm
   constructor
   ·intro hmp
    have hlt:zQj A m a:=pw3 m hmp a (by simp)
    rcases hlt with g|⟨g1,g2⟩
    ·exact g
    ·exfalso
     have:m=a:=h.ku m a hm ⟨han,by rw[←g1];exact hm.2⟩ g1
     omega
   ·intro hlt
    have hmem:=(hall m).2 hm.1
    rcases List.mem_append.1 hmem with g|g
    ·exact g
    ·exfalso
     have hlt':A.key m<A.key a:=hlt
     rcases List.mem_cons.1 g with rfl|g
     ·omega
     ·rcases pw2.1 m g with g1|⟨g1,g2⟩<;> omega
  have hone:zNs ev hp a=true:=by
   unfold zNs
   rw[Bool.and_eq_true,Bool.and_eq_true]
   refine⟨⟨?_,?_⟩,h.obo a⟩
   ·unfold zTy
    rw[List.all_eq_true]
    intro r hr
    have hr2:=h.ra a r hr
    have hlt:r.t<hp.length:=by omega
    obtain⟨v,hvv⟩:∃v,hp[r.t.toNat]?=some v:=⟨hp[r.t.toNat]'(by omega),List.getElem?_eq_getElem (by omega)⟩
    have h1:=(hv r.t hr2.1 (by omega) v hvv).val hE
    have h2:=h.main a han r.t r.v (h.rds a _ _ hr)
    have:=Val.uniq (fun n m=> h.ku n m) h1 h2
    subst this
    simp[hlt,hvv]
   ·unfold zL5
    rw[List.all_eq_true]
    intro p hp'
    have hr:=zGp hp'
    obtain⟨g,g1,g2⟩:=zFi ((zF4 hr).1 hp')
    have:=h.fr a g g1 _ g2
    simp only at this
    simp only[decide_eq_true_eq];omega
  have hstep:zDy ev cm (zH5 (a::rest)) hp=zDy ev cm (zH5 rest) (if zEz ev cm a=true then zA4 hp (jO (obS ev a).fs) else hp):=by
   show zDy ev cm ((a:Int)::zH5 rest) hp=_
   rw[zDy,hb,if_neg (by simp),if_pos hone]
  rw[hstep]
  obtain⟨c1,c2⟩:=h.cnt a han
  have happ:pre++a::rest=(pre++[a])++rest:=by simp
  have hlen:(if zEz ev cm a=true then zA4 hp (jO (obS ev a).fs) else hp).length=f.length:=by split<;> simp[zGo,hl]
  rw[happ] at hpw hall⊢
  refine h.run rest (pre++[a]) _ hpw hall hlen ?_
  intro t ht0 htl v hvv
  by_cases he:A.key a % 2=0
  ·rw[if_pos (c1 he),zRj ⟨ht0,by omega⟩ (by omega)] at hvv
   have hEa:A.Ent a:=⟨han,he⟩
   rw[h.lg] at hvv
   cases hg:A.lg a t with
   |some w=>
    rw[hg] at hvv
    cases hvv
    refine .inl ⟨a,⟨hEa,by simp⟩,hg,fun m' g1 g2=> ?_⟩
    exfalso
    rcases List.mem_append.1 g1.2 with g3|g3
    ·have:=(hE m' g1.1).1 g3
     have g2':A.key a<A.key m':=g2
     omega
    ·simp only[List.mem_singleton] at g3;subst g3;omega
   |none=>
    rw[hg] at hvv
    rcases hv t ht0 htl v hvv with ⟨m,g1,g2,g3⟩|⟨g1,g2⟩
    ·refine .inl ⟨m,⟨g1.1,by simp[g1.2]⟩,g2,fun m' g4 g5=> ?_⟩
     rcases List.mem_append.1 g4.2 with g6|g6
     ·exact g3 m' ⟨g4.1,g6⟩ g5
     ·simp only[List.mem_singleton] at g6;subst g6;exact hg
    ·refine .inr ⟨g1,fun m' g4=> ?_⟩
     rcases List.mem_append.1 g4.2 with g6|g6
     ·exact g2 m' ⟨g4.1,g6⟩
     ·simp only[List.mem_singleton] at g6;subst g6;exact hg
  ·have hsame:hp[t.toNat]?=some v:=by
    split at hvv
    ·rename_i hcn
     rw[zRj ⟨ht0,by omega⟩ (by omega),h.lg,c2 he hcn t] at hvv
     exact hvv
    ·exact hvv
   have hna:∀m',A.Ent m'->m'∈pre++[a]->m'∈pre:=fun m' g1 g2=> by
    rcases List.mem_append.1 g2 with g3|g3
    ·exact g3
    ·simp only[List.mem_singleton] at g3;subst g3;exact absurd g1.2 he
   rcases hv t ht0 htl v hsame with ⟨m,g1,g2,g3⟩|⟨g1,g2⟩
   ·exact .inl ⟨m,⟨g1.1,by simp[g1.2]⟩,g2,fun m' g4 g5=> g3 m' ⟨g4.1,hna m' g4.1 g4.2⟩ g5⟩
   ·exact .inr ⟨g1,fun m' g4=> g2 m' ⟨g4.1,hna m' g4.1 g4.2⟩⟩
theorem Gen.legal (h:Gen A ev f cm) {ord:List Nat} (hpw:ord.Pairwise (zQj A)) (hall:∀n,n∈ord↔n<A.N):∃hp,zDy ev cm (zH5 ord) f=some hp/\hp.length=f.length/\∀(t:Int) v,0<=t->t<f.length->hp[t.toNat]?=some v->zQi A (fun m=> m∈ord) (hpF f) t v:=by
 obtain⟨hp,h1,h2,h3⟩:=h.run ord [] f (by simpa using hpw) (by simpa using hall) rfl (fun t h0 hl v hv=> .inr ⟨by simp[hpF,h0,hv],fun m' g=> by simp at g⟩)
 exact⟨hp,h1,h2,fun t v g1 g2 g3=> by simpa using h3 t g1 g2 v g3⟩
end YtnemoimbeefngaaGreat
end Go.Proofs
namespace Go.Proofs
namespace YtnemoimbeefngaaGreat
open Go.Abs
def DecN (s:NS) (cm:List Int):Prop:=∀x:Int,x∈cm↔∃th a,s.ts th=some a/\a.dec=true/\x=a.n
variable {f:List Int} {s:NS}
theorem NOp.counted (h:NOp f s) {cm:List Int} (hc:DecN s cm) {n:Nat} (hn:n<s.ky.length):(jK s.ky n % 2=0->zEz s.ev cm n=true)/\(jK s.ky n % 2≠0->zEz s.ev cm n=true->∀t,qT (obS s.ev n).fs t=none):=by
 by_cases hl:∃th a,s.ts th=some a/\a.n=n
 ·obtain⟨th,a,ha,rfl⟩:=hl
  have hsn:=h.inv.sn th (aln a) (h.ts ha)
  have hsn2:a.snap % 2=0:=hsn.2.2
  constructor
  ·intro he
   have hd:a.dec=true:=by
    cases e:a.dec with
    |true=> rfl
    |false=>
     have:=h.inv.kl0 th (aln a) (h.ts ha) e
     have e2:jK s.ky a.n=a.snap+1:=this
     omega
   unfold zEz
   have:(a.n:Int)∈cm:=(hc _).2 ⟨th,a,ha,hd,rfl⟩
   simp[this]
  ·intro ho hcn
   exfalso
   unfold zEz at hcn
   rw[Bool.or_eq_true,decide_eq_true_eq,decide_eq_true_eq] at hcn
   rcases hcn with h3|h3
   ·have:=h.ev.st th _ (h.lv ha)
    simp only at this
    rw[this] at h3
    split at h3<;> omega
   ·obtain⟨th',a',ha',hd,he⟩:=(hc _).1 h3
    have e:th=th':=h.ev.nu th th' _ _ (h.lv ha) (h.lv ha') (by simp only;omega)
    subst e
    rw[ha] at ha';cases ha'
    have:=h.inv.kl1 th (aln a) (h.ts ha) hd
    have e2:jK s.ky a.n=a.snap+2:=this.1
    omega
 ·have hno:∀th a,s.ts th=some a->a.n≠n:=fun th a ha e=> hl ⟨th,a,ha,e⟩
  obtain⟨p1,p2⟩:=h.par n hn hno
  have hd:=h.ev.dn n hn (fun th x hx=> by
   obtain⟨a,ha,rfl⟩:=qG9.1 hx
   exact hno th a ha)
  constructor
  ·intro he
   rcases hd with h3|h4
   ·simp[zEz,h3]
   ·have:=p1 h4;omega
  ·intro ho hcn
   rcases hd with h3|h4
   ·rcases p2 h3 with h5|h5
    ·omega
    ·exact h5
   ·exfalso
    unfold zEz at hcn
    rw[Bool.or_eq_true,decide_eq_true_eq,decide_eq_true_eq] at hcn
    rcases hcn with h3|h3
    ·omega
    ·obtain⟨th',a',ha',hd,he⟩:=(hc _).1 h3
     exact hno th' a' ha' (by omega)
theorem NOp.gen (h:NOp f s) (hf:f.length=s.hp.length) {cm:List Int} (hc:DecN s cm):Gen (jT s).as s.ev f cm where
 h12:=by have:=h.ok.hp.2;omega
 rds:=fun n t v hr=> hr
 lg:=fun n t=> rfl
 obo:=h.ev.obo
 ra:=fun n r hr=> by have:=h.ev.ra n r hr;omega
 fr:=fun n g hg p hp=> by have:=h.ev.fr n g hg p hp;exact⟨this.1,by omega,this.2.2⟩
 bf:=h.bf
 ku:=h.inv.ku
 main:=h.inv.main
 cnt:=fun n hn=> h.counted hc hn
theorem NOp.legal (h:NOp f s) (hf:f.length=s.hp.length) {cm:List Int} (hc:DecN s cm) {ord:List Nat} (hpw:ord.Pairwise (zQj (jT s).as)) (hall:∀n,n∈ord↔n<s.ky.length):∃hp,zDy s.ev cm (zH5 ord) f=some hp/\hp.length=f.length/\(s.c % 2=0->hp=s.hp):=by
 obtain⟨hp,h1,h2,h3⟩:=(h.gen hf hc).legal hpw hall
 refine⟨hp,h1,h2,fun hev=> ?_⟩
 refine List.ext_getElem? fun i=> ?_
 by_cases hi:i<f.length
 ·obtain⟨v,hv⟩:=zAp (l:=hp) (i:=i) (by omega)
  have g1:=(h3 i v (by omega) (by omega) (by simpa using hv)).val (k:=s.c+1) (fun m hm=> ⟨fun _=> by
   have h4:m<s.ky.length:=hm.1
   have h5:=h.inv.kb m h4
   have h6:jK s.ky m % 2=0:=hm.2
   have h7:jK s.ky m<=s.c+1:=h5.2
   show jK s.ky m<s.c+1
   omega,fun _=> (hall m).2 hm.1⟩)
  have g2:=h.inv.top hev i
  have:=Val.uniq (s:=(jT s).as) (fun n m=> h.inv.ku n m) g1 g2
  rw[hv,this]
  show some (hpF s.hp i)=_
  unfold hpF
  rw[if_pos (by omega),Int.toNat_natCast,List.getElem?_eq_getElem (by omega)]
  rfl
 ·rw[List.getElem?_eq_none (by omega),List.getElem?_eq_none (by omega)]
theorem NOp.right (h:NOp f s) (hl:s.ev.length<=400):zDn s.ev=true:=by
 obtain⟨σ,h1,_⟩:=h.ev.rt
 unfold zDn
 rw[h1]
 simp[hl]
theorem NOp.start {f:List Int} {s:NS} (hok:s.Ok) (ho:s.o=none) (hc:s.c=0) (hh:s.hp=f) (ht:∀th,s.ts th=none) (he:s.ev=[]) (hk:s.ky=[]) (hr:∀v∈f,jN v=true):NOp f s:=by
 have hlv:lvN s=fun _=> none:=by funext i;simp[lvN,ht]
 have hE:∀n,¬(jT s).Ent n:=fun n h=> by have h1:n<s.ky.length:=h.1;rw[hk] at h1;simp at h1
 have hts:∀th,(jT s).ts th=none:=fun th=> by simp[jT,ht]
 have hrd:∀n t v,¬(jT s).rds n t v:=fun n t v h=> by
  have h:(⟨t,v⟩:Pr)∈(obS s.ev n).rds:=h
  rw[he] at h;simp[obS,xM,ob0] at h
 have hlg:∀n t,(jT s).lg n t=none:=fun n t=> by show qT (obS s.ev n).fs t=none;rw[he];rfl
 constructor
 case ok=> exact hok
 case ev=> rw[hlv,he,hk];exact qIh _
 case inv=>
  exact {
   nlt:=fun th a h=> by rw[hts] at h;cases h
   nu:=fun th a th' a' h=> by rw[hts] at h;cases h
   kb:=fun n h=> by have h:n<s.ky.length:=h;rw[hk] at h;simp at h
   kl0:=fun th a h=> by rw[hts] at h;cases h
   kl1:=fun th a h=> by rw[hts] at h;cases h
   sn:=fun th a h=> by rw[hts] at h;cases h
   od:=fun h=> by have h:s.c % 2≠0:=h;rw[hc] at h;simp at h
   c0:=by show 0<=s.c;omega
   ku:=fun n m h=> absurd h (hE n)
   new:=fun n _=> ⟨hrd n,hlg n⟩
   main:=fun n h=> by have h:n<s.ky.length:=h;rw[hk] at h;simp at h
   hr:=fun th a h=> by rw[hts] at h;cases h
   HI:=fun t=> .inr (.inr ⟨by show hpF s.hp t=hpF f t;rw[hh],fun m h=> absurd h (hE m)⟩)
   rd:=fun th a h=> by rw[hts] at h;cases h
   lk:=fun th a h=> by rw[hts] at h;cases h
   ck:=fun th a h=> by rw[hts] at h;cases h
   al:=fun th a h=> by rw[hts] at h;cases h }
 case oc=> rw[ho,hc];simp
 case oe=> intro th a h;rw[ht] at h;cases h
 case hr=> rw[hh];exact hr
 case er=> intro th a h;rw[ht] at h;cases h
 case l6=> intro th a h;rw[ht] at h;cases h
 case one=> intro th a h;rw[ht] at h;cases h
 case par=> intro n h;rw[hk] at h;simp at h
 case bf=> intro n m h;rw[he] at h;simp[zBg,zBu] at h
end YtnemoimbeefngaaGreat
end Go.Proofs
namespace Go.Proofs
namespace YtnemoimbeefngaaGreat
open Go.Abs
def EvWn (x:Ev):Prop:=(0<=x.v/\x.v<18446744073709551616)/\(x.k=2->0<=x.t/\x.t<12)
def EvN (s:NS):Prop:=∀x∈s.ev,EvWn x
theorem EvN.add {s s':NS} (h:EvN s) {x:Ev} (hx:EvWn x) (he:s'.ev=s.ev++[x]):EvN s':=by
 intro y hy
 rw[he,List.mem_append,List.mem_singleton] at hy
 rcases hy with hy|rfl
 ·exact h y hy
 ·exact hx
theorem EvN.same {s s':NS} (h:EvN s) (he:s'.ev=s.ev):EvN s':=by
 intro y hy;rw[he] at hy;exact h y hy
theorem zDr (k a t:Int) (h:k≠2):EvWn ⟨k,a,t,0⟩:=⟨⟨by simp,by simp⟩,fun e=> absurd e h⟩
theorem EvN.end_ {s:NS} (h:EvN s) (th:Nat) (a:Att) (w:Int):EvN (qP s th a w):=h.add (zDr 9 a.n 0 (by decide)) rfl
theorem EvN.step {s:NS} (hs:s.Ok) (h:EvN s) {th:Nat} (hth:th<4):EvN (zA5 s th).2:=by
 unfold zA5
 split
 ·exact h
 ·rename_i a ha
  have hao:=hs.ts th a ha
  have hhp:=hs.hp.2
  split
  ·exact h
  rename_i hk
  have hk:a.asked=true:=by simpa using hk
  have hask:=hao.ask hk
  split
  ·unfold zCu
   repeat' split
   all_goals first
    |exact h
    |exact h.end_ th a _
    |exact h.same rfl
  split
  ·exact h.end_ th a _
  split
  ·unfold zDp
   repeat' split
   all_goals first
    |exact h
    |exact h.end_ th a _
    |exact h.same rfl
    |exact h.add (zDr 7 a.n 0 (by decide)) rfl
    |exact h.add (zDr 8 a.n 0 (by decide)) rfl
    |exact (EvN.add (s:=s) (s':={ s with ev:=s.ev++[⟨7,a.n,0,0⟩] }) h (zDr 7 a.n 0 (by decide)) rfl).add (zDr 8 a.n 0 (by decide)) rfl
  split
  ·rename_i k1
   have hr:0<=a.ra.t/\a.ra.t<12:=by have:=hask.2.2.1 (.inl k1);omega
   unfold zEg
   split
   ·rename_i v hv
    refine h.add (x:=⟨2,a.n,a.ra.t,v⟩) ⟨?_,fun _=> hr⟩ rfl
    obtain⟨g,hg,hm⟩:=zFi hv
    exact (hao.fst g hg _ hm).2.2
   ·repeat' split
    all_goals first
     |exact h
     |exact h.end_ th a _
     |exact h.same rfl
     |exact h.add (x:=⟨2,a.n,a.ra.t,a.val⟩) ⟨hao.val,fun _=> hr⟩ rfl
  ·unfold zDd
   repeat' split
   all_goals first
    |exact h
    |exact h.end_ th a _
    |exact h.add (zDr 4 a.n 0 (by decide)) rfl
    |exact h.add (zDr 5 a.n 0 (by decide)) rfl
    |exact h.add (zDr 6 a.n 0 (by decide)) rfl
    |exact h.add (x:=⟨3,a.n,a.ra.t,a.ra.v⟩) ⟨hask.2.2.2,fun e=> by cases e⟩ rfl
theorem EvN.deed {s:NS} (hs:s.Ok) (h:EvN s) (d:Dd):EvN (zBl s d):=by
 unfold zBl
 split
 ·unfold zDt
  split
  ·exact h
  ·split
   ·exact h.add (zDr 1 s.ky.length 0 (by decide)) rfl
   ·exact h
 split
 ·exact h.same (zX0 s d.t d.a)
 split
 ·unfold zDe
  split
  ·exact h
  ·rename_i th ht
   exact h.step hs (zB6 ht).1
 split
 ·unfold zFy
  split
  ·exact h
  ·unfold zGi
   split
   ·exact h
   ·split
    ·exact h
    ·exact h.end_ _ _ _
 ·exact h
theorem zQy (l:List Dd) (hl:∀d∈l,d.Ok):EvN (zB9 l):=by
 have key:∀(l:List Dd) (s:NS),(∀d∈l,d.Ok)->s.Ok->EvN s->EvN (l.foldl zBl s):=by
  intro l
  induction l with
  |nil=> intro s _ _ h;exact h
  |cons d l ih=>
   intro s hd hs h1
   exact ih (zBl s d) (fun x hx=> hd x (by simp[hx])) (zXh hs (hd d (by simp))) (h1.deed hs d)
 exact key l _ hl zHk fun x hx=> by simp[zE5] at hx
theorem NOp.deed {f:List Int} {s:NS} (h:NOp f s) {d:Dd} (hd:d.Ok):NOp f (zBl s d):=by
 unfold zBl
 split
 ·unfold zDt
  split
  ·exact h
  ·rename_i th ht
   split
   ·exact h.begin (zB6 ht).1 (by assumption)
   ·exact h
 split
 ·unfold zE9
  split
  ·exact h
  ·rename_i th ht
   split
   ·exact h.ask (zB6 ht).1 hd.1.1 hd.2 (by assumption)
   ·exact h
 split
 ·unfold zDe
  split
  ·exact h
  ·rename_i th ht
   exact h.step (zB6 ht).1
 split
 ·unfold zFy
  split
  ·exact h
  ·rename_i th ht
   exact h.kill (zB6 ht).1
 ·exact h
theorem zQx (l:List Dd) (hl:∀d∈l,d.Ok):NOp zCi (zB9 l):=by
 have key:∀(l:List Dd) (s:NS),(∀d∈l,d.Ok)->NOp zCi s->NOp zCi (l.foldl zBl s):=by
  intro l
  induction l with
  |nil=> intro s _ h;exact h
  |cons d l ih=>
   intro s hd hs
   exact ih (zBl s d) (fun x hx=> hd x (by simp[hx])) (hs.deed (hd d (by simp)))
 exact key l _ hl (NOp.start zHk rfl rfl rfl (fun _=> rfl) rfl rfl (by decide))
end YtnemoimbeefngaaGreat
end Go.Proofs
namespace Go.Proofs
namespace YtnemoimbeefngaaGreat
open Go.Abs
abbrev FN (s:NS):=Fin s.ky.length
def xR {s:NS} (l:List (FN s)):List Value:=l.map fun x=> .int .i64 (x.val:Int)
@[simp] theorem qR0 {s:NS} (l:List (FN s)):(xR l).length=l.length:=by simp[xR]
@[simp] theorem zVx {s:NS} (l:List (FN s)):jM (xR l)=true:=by
  induction l with
  |nil=> rfl
  |cons v l ih=> exact ih
@[simp] theorem ren_rowK {s:NS} (θ:Nat->Nat) (l:List (FN s)):xV θ (xR l)=xR l:=xI θ _ (zVx l)
def zKu (n:Nat):List Value->Option (List (Fin n))
 |[]=> some []
 |.int .i64 v::l=> if h:0<=v/\v.toNat<n then (zKu n l).map (⟨v.toNat,h.2⟩::·) else none
 |_=> none
@[simp] theorem zCj {s:NS}:∀l:List (FN s),zKu s.ky.length (xR l)=some l
  |[]=> rfl
  |x::l=> by
   show zKu s.ky.length (.int .i64 (x.val:Int)::xR l)=_
   rw[zKu,zCj l,dif_pos ⟨by omega,by have:=x.isLt;omega⟩]
   simp
theorem zRf {s:NS}:∀{cs:List Value} {l:List (FN s)},zKu s.ky.length cs=some l->cs=xR l
 |cs,l,e=> by
  unfold zKu at e
  split at e
  ·cases e;rfl
  ·split at e
   ·rename_i h0
    simp only[Option.map_eq_some_iff] at e
    obtain⟨l',e1,rfl⟩:=e
    rw[zRf e1]
    show _=Value.int .i64 _::xR l'
    simp[Int.toNat_of_nonneg h0.1]
   ·cases e
  ·cases e
def zCo (s:NS) (H:AH GD) (k:Nat):Option (TypeId × List (FN s)):=
 match H.get k with
 |some (.arr e cs)=> (zKu s.ky.length cs).map fun h=> (e,h)
 |_=> none
theorem zFj {s:NS} {H:AH GD} {k:Nat} {x:TypeId × List (FN s)} (hg:zCo s H k=some x):H.get k=some (.arr x.1 (xR x.2)):=by
 unfold zCo at hg
 split at hg
 ·rename_i e cs he
  simp only[Option.map_eq_some_iff] at hg
  obtain⟨h,h1,rfl⟩:=hg
  rw[he,zRf h1]
 ·cases hg
theorem qMr {s:NS} {i:Nat} {x:FN s} {l:List (FN s)} (h:l[i]?=some x):(xR l)[i]?=some (.int .i64 (x.val:Int)):=by simp[xR,h]
theorem zCf {s:NS} {i:Nat} {x:FN s} {l:List (FN s)} (h:l[i]?=some x) (p:i<(xR l).length):(xR l)[i]'p=.int .i64 (x.val:Int):=by
 have:=qMr h
 rw[List.getElem?_eq_getElem p] at this
 exact Option.some.inj this
theorem zTq {s:NS} {l:List (FN s)} {i:Nat} (x:FN s):(xR l).set i (.int .i64 (x.val:Int))=xR (l.set i x):=by
 unfold xR;rw[List.map_set]
theorem zKa {s:NS} {l:List (FN s)} {i j:Nat} {x y:FN s} (hx:l[i]?=some x) (hy:l[j]?=some y):
  ((xR l).set i (.int .i64 (y.val:Int))).set j (.int .i64 (x.val:Int))=xR (swp l i j):=by
 rw[zTq,zTq]
 unfold swp
 rw[hx,hy]
theorem zGq {H:AH GD} {k kb ke:Nat} {X B E:AObj GD} (n1:k≠kb) (n2:k≠ke) (hb:H.get kb=some B) (he:H.get ke=some E):((H.upd k X).upd kb B).upd ke E=H.upd k X:=by
 have h1:(H.upd k X).get kb=some B:=by rw[AH.get_upd,if_neg (Ne.symm n1),hb]
 have h2:(H.upd k X).get ke=some E:=by rw[AH.get_upd,if_neg (Ne.symm n2),he]
 rw[jF h1,jF h2]
theorem zXq {ky:List Int} {n:Nat} (h:n<ky.length):ky[n]?=some (jK ky n):=by
 unfold jK
 rw[List.getElem?_eq_getElem h];rfl
def jY (kb:Nat):Value:=.func (.func 44) #[] #[.pointer (some ⟨kb,0,none⟩)]
def zEy (H:AH GD):Value->Option (Nat × Nat × TypeId × NS)
 |.func (.func _) _ ⟨[.pointer (some ⟨kb,0,none⟩)]⟩=> match H.get kb with
  |some (.arr t [.pointer (some ⟨ke,0,none⟩)])=> match H.get ke with
   |some (.hi (.eng s))=> some (kb,ke,t,s)
   |_=> none
  |_=> none
 |_=> none
theorem zG2 {H:AH GD} {v:Value} {q:Nat × Nat × TypeId × NS} (h:zEy H v=some q):H.get q.1=some (.arr q.2.2.1 [.pointer (some ⟨q.2.1,0,none⟩)])/\H.get q.2.1=some (.hi (.eng q.2.2.2))/\q.1≠q.2.1:=by
 unfold zEy at h
 split at h
 case h_2=> cases h
 split at h
 case h_2=> cases h
 split at h
 case h_2=> cases h
 rename_i h1 _ _ h2
 cases h
 refine⟨h1,h2,fun e=> ?_⟩
 simp only at e
 rw[e,h2] at h1
 cases h1
theorem zJv {s:NS} {H:AH GD} {k:Nat} {q:Nat × Nat × TypeId × NS} {l:TypeId × List (FN s)} (hb:H.get q.1=some (.arr q.2.2.1 [.pointer (some ⟨q.2.1,0,none⟩)])) (he:H.get q.2.1=some (.hi (.eng q.2.2.2))) (hl:H.get k=some (.arr l.1 (xR l.2))):k≠q.1/\k≠q.2.1:=by
 constructor
 ·rintro rfl
  rw[hb] at hl
  have h3:[Value.pointer (some ⟨q.2.1,0,none⟩)]=xR l.2:=by injection hl with h2;injection h2 with _ h3
  cases hh:l.2 with
  |nil=> rw[hh] at h3;cases h3
  |cons a b=> rw[hh] at h3;cases h3
 ·rintro rfl
  rw[he] at hl;cases hl
def fkN {s:NS} (x:FN s):Int:=jK s.ky x.val
def fnN {s:NS} (x:FN s):Int:=(x.val:Int)
def zAr {s:NS} (l:List (FN s)):List (FN s):=srt fkN fnN l
theorem qO9 (s:NS) (t:TypeId) (x y:Nat) (hx:x<s.ky.length) (hy:y<s.ky.length):zP Tryz.prog cfg 44 [.int .i64 x,.int .i64 y,.pointer (some ⟨0,0,none⟩)] (AH.of [some (.arr t [.pointer (some ⟨1,0,none⟩)]),some (.hi (.eng s))])
  fun r H'=> r=.ret (.int .i64 (zU2 (jK s.ky x) (jK s.ky y)))/\H'=AH.of [some (.arr t [.pointer (some ⟨1,0,none⟩)]),some (.hi (.eng s))]:=by
 refine zP.ends ?_
 refine zY (tbl:=[]) (by simp) 0 2 (af:=a44) rfl ?_
 rw[a44,b44,qB]
 refine⟨by simp,?_⟩
 have gx:=zFw (zXq hx)
 have gy:=zFw (zXq hy)
 have hx':(x:Int)<s.ky.length:=by omega
 have hy':(y:Int)<s.ky.length:=by omega
 unfold zU2
 by_cases h1:jK s.ky x<jK s.ky y
 ·simp -implicitDefEqProofs [forms45,a45,b45,forms105,a105,b105,zJ,gx,gy,hx,hy,hx',hy',h1]
  refine zA [.pack (GD.eng s) 1 [2,3,4,5,6,7,8,9,10,11]] [0,1] ?_ ?_ ?_<;> simp[zJ]
 ·by_cases h2:jK s.ky y<jK s.ky x
  ·simp -implicitDefEqProofs [forms45,a45,b45,forms105,a105,b105,zJ,gx,gy,hx,hy,hx',hy',h1,h2]
   refine zA [.pack (GD.eng s) 1 [2,3,4,5,6,7,8,9,10,11]] [0,1] ?_ ?_ ?_<;> simp[zJ]
  ·simp -implicitDefEqProofs [forms45,a45,b45,forms105,a105,b105,zJ,gx,gy,hx,hy,hx',hy',h1,h2]
   refine zA [.pack (GD.eng s) 1 [2,3,4,5,6,7,8,9,10,11]] [0,1] ?_ ?_ ?_<;> simp[zJ]
def zHp:qQ GD:=fun args H=> match args with
 |[.int .i64 x,.int .i64 y,.pointer (some ⟨kb,0,none⟩)]=> match H.get kb with
  |some (.arr t [.pointer (some ⟨ke,0,none⟩)])=> match H.get ke with
   |some (.hi (.eng s))=> some (0<=x/\x<s.ky.length/\0<=y/\y<s.ky.length,.ret (.int .i64 (zU2 (jK s.ky x.toNat) (jK s.ky y.toNat))),H)
   |_=> none
  |_=> none
 |_=> none
theorem zWy:qE Tryz.prog cfg 44 zHp:=by
 intro args H p r H' h hp
 unfold zHp at h
 split at h
 case h_2=> cases h
 split at h
 case h_2=> cases h
 split at h
 case h_2=> cases h
 rename_i x y kb _ t ke hb _ s he
 cases h
 obtain⟨h1,h2,h3,h4⟩:=hp
 obtain⟨x,rfl⟩:=Int.eq_ofNat_of_zero_le h1
 obtain⟨y,rfl⟩:=Int.eq_ofNat_of_zero_le h3
 have hne:kb≠ke:=fun e=> by rw[e,he] at hb;cases hb
 simp only[Int.toNat_natCast]
 exact (qO9 s t x y (by omega) (by omega)).atK (zAb rfl) [kb,ke] (by simp[hne]) (by simp) (by simp[hb,he]) (by simp) (by simp) (by simp[jF hb,jF he])
theorem qLp (e tb:TypeId) (eg:NS) (l:List (FN eg)) (c a b n:Nat) (hl:l.length<=100000) (ha:a+n<=l.length) (hb:b+n<=l.length):
  zP Tryz.prog cfg 209 [.slice (some ⟨0,0,none⟩) l.length c,.int .i64 a,.int .i64 b,.int .i64 n,(jY 1)] (AH.of [some (.arr e (xR l)),some (.arr tb [.pointer (some ⟨2,0,none⟩)]),some (.hi (.eng eg))])
  fun r H'=> r=.ret (.tuple #[])/\H'=AH.of [some (.arr e (xR (swr l a b n))),some (.arr tb [.pointer (some ⟨2,0,none⟩)]),some (.hi (.eng eg))]:=by
 refine zP.ends ?_
 obtain⟨z,hz⟩:∃z,l.length=z:=⟨_,rfl⟩
 rw[hz] at hl ha hb⊢
 refine zY (tbl:=[]) (by simp) 100001 0 (af:=a209) rfl ?_
 rw[a209,b209,qB]
 refine⟨by simp,?_⟩
 simp -implicitDefEqProofs [jY]
 refine xB (jE xE (jG (by simp)) _ _ noY qX) (fun m tm H=> ∃i:Nat,m+i=n/\tm 0=.slice (some ⟨0,0,none⟩) z c/\tm 1=.int .i64 a/\tm 2=.int .i64 b/\tm 3=.int .i64 n/\tm 10=.int .i64 i/\H=AH.of [some (.arr e (xR (swr l a b i))),some (.arr tb [.pointer (some ⟨2,0,none⟩)]),some (.hi (.eng eg))]) (m:=n) ⟨0,by simp[swr]⟩ (by omega) ?_
 rintro m tm H ⟨i,hm,t0,t1,t2,t3,t10,rfl⟩
 by_cases hi:i<n
 ·have hi':(i:Int)<n:=by omega
  have hwr:=xQ hi (by omega)
  have hlen:(swr l a b i).length=z:=by rw[zPk,hz]
  have hsuc:swr l a b (i+1)=swp (swr l a b i) (a+i) (b+i):=rfl
  generalize swr l a b i=g at*
  obtain⟨p,hp⟩:∃p,a+i=p:=⟨_,rfl⟩
  obtain⟨q,hq⟩:∃q,b+i=q:=⟨_,rfl⟩
  rw[hp,hq] at hsuc
  have hpz:p<z:=by omega
  have hqz:q<z:=by omega
  have hpz1:p+1<=z:=hpz
  have hqz1:q+1<=z:=hqz
  have hpz':(p:Int)<z:=by omega
  have hqz':(q:Int)<z:=by omega
  have hwp:IntKind.i64.wrap ((a:Int)+i)=p:=by rw[qO (by omega) (by omega)];omega
  have hwq:IntKind.i64.wrap ((b:Int)+i)=q:=by rw[qO (by omega) (by omega)];omega
  obtain⟨x,hx⟩:=zAp (l:=g) (i:=p) (by omega)
  obtain⟨y,hy⟩:=zAp (l:=g) (i:=q) (by omega)
  have mx:=fun p=> zCf hx p
  have my:=fun p=> zCf hy p
  have hs:=zKa hx hy
  simp -implicitDefEqProofs [setMany,t0,t1,t2,t3,t10,hi',hwr,hwp,hwq,hpz,hqz,hpz',hqz',hpz1,hqz1,hlen,mx,my,hs]
  exact⟨m - 1,by omega,i+1,by omega,by simp[t0,t1,t2,t3,hsuc]⟩
 ·have hie:i=n:=by omega
  subst hie
  have hi':¬(i:Int)<i:=by omega
  simp -implicitDefEqProofs [t0,t1,t2,t3,t10]
  refine zA [] [0,1,2] ?_ ?_ ?_<;> simp
def zJt:qQ GD:=fun args H=> match args with
 |[.slice (some ⟨k,0,none⟩) z _,.int .i64 a,.int .i64 b,.int .i64 n,v]=> (zEy H v).bind fun q=> (zCo q.2.2.2 H k).map fun l=> (z=l.2.length/\v=jY q.1/\l.2.length<=100000/\0<=a/\0<=b/\0<=n/\a+n<=l.2.length/\b+n<=l.2.length,.ret (.tuple #[]),H.upd k (.arr l.1 (xR (swr l.2 a.toNat b.toNat n.toNat))))
 |_=> none
theorem qA9:qE Tryz.prog cfg 209 zJt:=by
 intro args H p r H' h hp
 unfold zJt at h
 split at h
 case h_2=> cases h
 simp only[Option.map_eq_some_iff,Option.bind_eq_some_iff] at h
 obtain⟨q,hv,l,hl,h⟩:=h
 rename_i k z c a b n v
 cases h
 obtain⟨rfl,rfl,h1,h2,h3,h4,h5,h6⟩:=hp
 obtain⟨a,rfl⟩:=Int.eq_ofNat_of_zero_le h2
 obtain⟨b,rfl⟩:=Int.eq_ofNat_of_zero_le h3
 obtain⟨n,rfl⟩:=Int.eq_ofNat_of_zero_le h4
 have hl2:=zFj hl
 obtain⟨hb2,he2,n3⟩:=zG2 hv
 obtain⟨n1,n2⟩:=zJv hb2 he2 hl2
 simp only[Int.toNat_natCast]
 exact (qLp l.1 q.2.2.1 q.2.2.2 l.2 c a b n h1 (by omega) (by omega)).atK (zAb rfl) [k,q.1,q.2.1] (by simp[n1,n2,n3]) (by simp) (by simp[hl2,hb2,he2]) (by simp[jY]) (by simp) (by simp[zGq n1 n2 hb2 he2])
end YtnemoimbeefngaaGreat
end Go.Proofs
namespace Go.Proofs
namespace YtnemoimbeefngaaGreat
open Go.Abs
def zId:List (FuncId × qQ GD):=[(209,zJt)]
theorem zOb:∀x∈zId,qE Tryz.prog cfg x.1 x.2:=by simp[zId,qA9]
theorem qLs (e tb:TypeId) (eg:NS) (l:List (FN eg)) (c a m b:Nat) (hl:l.length<=100000) (ham:a<m) (hmb:m<b) (hb:b<=l.length):
  zP Tryz.prog cfg 195 [.slice (some ⟨0,0,none⟩) l.length c,.int .i64 a,.int .i64 m,.int .i64 b,(jY 1)] (AH.of [some (.arr e (xR l)),some (.arr tb [.pointer (some ⟨2,0,none⟩)]),some (.hi (.eng eg))])
  fun r H'=> r=.ret (.tuple #[])/\H'=AH.of [some (.arr e (xR (zAq l a m b))),some (.arr tb [.pointer (some ⟨2,0,none⟩)]),some (.hi (.eng eg))]:=by
 refine zP.ends ?_
 obtain⟨z,hz⟩:∃z,l.length=z:=⟨_,rfl⟩
 rw[hz] at hl hb⊢
 have w1:IntKind.i64.wrap ((m:Int) - a)=((m - a:Nat):Int):=by rw[qO (by omega) (by omega)];omega
 have w2:IntKind.i64.wrap ((b:Int) - m)=((b - m:Nat):Int):=by rw[qO (by omega) (by omega)];omega
 refine zY (tbl:=zId) zOb 200001 0 (af:=a195) rfl ?_
 rw[a195,b195,qB]
 refine⟨by simp,?_⟩
 simp -implicitDefEqProofs [jY,w1,w2]
 refine xB (jE xE (jG zOb) _ _ noY qX) (fun q tm H=> ∃(i j:Nat) (g:List (FN eg)),i+j<=q/\0<i/\0<j/\i<=m/\m+j<=z/\g.length=z/\zAq g (m - i) m (m+j)=zAq l a m b/\tm 0=.slice (some ⟨0,0,none⟩) z c/\tm 2=.int .i64 m/\tm 4=(jY 1)/\tm 10=.int .i64 i/\tm 11=.int .i64 j/\H=AH.of [some (.arr e (xR g)),some (.arr tb [.pointer (some ⟨2,0,none⟩)]),some (.hi (.eng eg))]) (m:=b - a)
  ⟨m - a,b - m,l,by omega,by omega,by omega,by omega,by omega,hz,by rw[show m - (m - a)=a by omega,show m+(b - m)=b by omega],by simp[jY]⟩ (by omega) ?_
 rintro q tm H ⟨i,j,g,hq,hi,hj,him,hjz,hgl,hrot,t0,t2,t4,t10,t11,rfl⟩
 have wmi:IntKind.i64.wrap ((m:Int) - i)=((m - i:Nat):Int):=by rw[qO (by omega) (by omega)];omega
 by_cases hij:i=j
 ·subst hij
  have hfin:=qPq (l:=g) (m:=m) (i:=i) him (by omega)
  rw[hrot] at hfin
  have hle:m - i+i<=z:=by omega
  have p1:((m - i:Nat):Int)+i<=z:=by omega
  have p2:(m:Int)+i<=z:=by omega
  simp -implicitDefEqProofs [zId,zJt,zEy,jY,zCo,zCj,t0,t2,t4,t10,t11,wmi,hgl,hl,hle,hjz,p1,p2,hfin]
  refine zA [] [0,1,2] ?_ ?_ ?_<;> simp
 ·have hij':¬(i:Int)=j:=by omega
  by_cases hgt:j<i
  ·have hgt':(j:Int)<i:=by omega
   have hstep:=qPp (l:=g) (m:=m) (i:=i) (j:=j) hgt him (by omega)
   have wij:IntKind.i64.wrap ((i:Int) - j)=((i - j:Nat):Int):=by rw[qO (by omega) (by omega)];omega
   have p1:((m - i:Nat):Int)+j<=z:=by omega
   have p2:(m:Int)+j<=z:=by omega
   simp -implicitDefEqProofs [zId,zJt,zEy,jY,zCo,zCj,t0,t2,t4,t10,t11,wmi,wij,hgl,hl,hij',hgt',p1,p2]
   refine⟨q - 1,by omega,i - j,j,by omega,by omega,by omega,by omega,by omega,swr g (m - i) m j,by rw[zPk,hgl],?_,?_⟩
   ·rw[←hrot,←hstep,show m - (i - j)=m - i+j by omega]
   ·simp[t0,t2,t4]
  ·have hgt':¬(j:Int)<i:=by omega
   have hstep:=qPo (l:=g) (m:=m) (i:=i) (j:=j) (by omega) him (by omega)
   have wij:IntKind.i64.wrap ((j:Int) - i)=((j - i:Nat):Int):=by rw[qO (by omega) (by omega)];omega
   have wmj:IntKind.i64.wrap ((m:Int)+j)=((m+j:Nat):Int):=by rw[qO (by omega) (by omega)];omega
   have wmji:IntKind.i64.wrap ((m:Int)+j - i)=((m+j - i:Nat):Int):=by rw[qO (by omega) (by omega)];omega
   have wmji2:IntKind.i64.wrap (((m+j:Nat):Int) - i)=((m+j - i:Nat):Int):=by rw[qO (by omega) (by omega)];omega
   have p1:((m - i:Nat):Int)+i<=z:=by omega
   have p2:((m+j - i:Nat):Int)+i<=z:=by omega
   simp -implicitDefEqProofs [zId,zJt,zEy,jY,zCo,zCj,t0,t2,t4,t10,t11,wmi,wij,wmj,wmji,wmji2,hgl,hl,hij',hgt',p1,p2]
   refine⟨q - 1,by omega,i,j - i,by omega,by omega,by omega,by omega,by omega,swr g (m - i) (m+j - i) i,by rw[zPk,hgl],?_,?_⟩
   ·rw[←hrot,←hstep,show m+(j - i)=m+j - i by omega]
   ·simp[t0,t2,t4]
def zOm:qQ GD:=fun args H=> match args with
 |[.slice (some ⟨k,0,none⟩) z _,.int .i64 a,.int .i64 m,.int .i64 b,v]=> (zEy H v).bind fun q=> (zCo q.2.2.2 H k).map fun l=> (z=l.2.length/\v=jY q.1/\l.2.length<=100000/\0<=a/\a<m/\m<b/\b<=l.2.length,.ret (.tuple #[]),H.upd k (.arr l.1 (xR (zAq l.2 a.toNat m.toNat b.toNat))))
 |_=> none
theorem qBb:qE Tryz.prog cfg 195 zOm:=by
 intro args H p r H' h hp
 unfold zOm at h
 split at h
 case h_2=> cases h
 simp only[Option.map_eq_some_iff,Option.bind_eq_some_iff] at h
 obtain⟨q,hv,l,hl,h⟩:=h
 rename_i k z c a m b v
 cases h
 obtain⟨rfl,rfl,h1,h2,h3,h4,h5⟩:=hp
 obtain⟨a,rfl⟩:=Int.eq_ofNat_of_zero_le h2
 obtain⟨m,rfl⟩:=Int.eq_ofNat_of_zero_le (show 0<=m by omega)
 obtain⟨b,rfl⟩:=Int.eq_ofNat_of_zero_le (show 0<=b by omega)
 have hl2:=zFj hl
 obtain⟨hb2,he2,n3⟩:=zG2 hv
 obtain⟨n1,n2⟩:=zJv hb2 he2 hl2
 simp only[Int.toNat_natCast]
 exact (qLs l.1 q.2.2.1 q.2.2.2 l.2 c a m b h1 (by omega) (by omega) (by omega)).atK (zAb rfl) [k,q.1,q.2.1] (by simp[n1,n2,n3]) (by simp) (by simp[hl2,hb2,he2]) (by simp[jY]) (by simp) (by simp[zGq n1 n2 hb2 he2])
end YtnemoimbeefngaaGreat
end Go.Proofs
namespace Go.Proofs
namespace YtnemoimbeefngaaGreat
open Go.Abs
def zK9:List (FuncId × qQ GD):=[(44,zHp)]
theorem zK8:∀x∈zK9,qE Tryz.prog cfg x.1 x.2:=by simp[zK9,zWy]
def insIN (e tb:TypeId) (eg:NS) (l:List (FN eg)) (c a b z q:Nat) (tm:Nat->Value) (H:AH GD):Prop:=∃(i:Nat),q+i=b+1/\a+1<=i/\(i<=b∨a=b)/\tm 0=.slice (some ⟨0,0,none⟩) z c/\tm 1=.int .i64 a/\tm 2=.int .i64 b/\tm 3=(jY 1)/\tm 8=.int .i64 i/\H=AH.of [some (.arr e (xR (if i<=b then on l a i zAr else l))),some (.arr tb [.pointer (some ⟨2,0,none⟩)]),some (.hi (.eng eg))]
def insJN (e tb:TypeId) (eg:NS) (g:List (FN eg)) (x:FN eg) (c a b z i q:Nat) (tm:Nat->Value) (H:AH GD):Prop:=∃(j:Nat),q+a=j/\j<=i/\(∀y,j<i->g[j]?=some y->jK eg.ky x<jK eg.ky y)/\tm 0=.slice (some ⟨0,0,none⟩) z c/\tm 1=.int .i64 a/\tm 2=.int .i64 b/\tm 3=(jY 1)/\tm 8=.int .i64 i/\tm 9=.int .i64 j/\H=AH.of [some (.arr e (xR (zAq g j i (i+1)))),some (.arr tb [.pointer (some ⟨2,0,none⟩)]),some (.hi (.eng eg))]
theorem qL3 (e tb:TypeId) (eg:NS) (l:List (FN eg)) (c a b:Nat) (hl:l.length<=100000) (hab:a<=b) (hb:b<=l.length) (hn:Nm fnN ((l.drop a).take (b - a))):
  zP Tryz.prog cfg 154 [.slice (some ⟨0,0,none⟩) l.length c,.int .i64 a,.int .i64 b,(jY 1)] (AH.of [some (.arr e (xR l)),some (.arr tb [.pointer (some ⟨2,0,none⟩)]),some (.hi (.eng eg))])
  fun r H'=> r=.ret (.tuple #[])/\H'=AH.of [some (.arr e (xR (on l a b zAr))),some (.arr tb [.pointer (some ⟨2,0,none⟩)]),some (.hi (.eng eg))]:=by
 refine zP.ends ?_
 obtain⟨z,hz⟩:∃z,l.length=z:=⟨_,rfl⟩
 rw[hz] at hl hb⊢
 have w1:IntKind.i64.wrap ((a:Int)+1)=((a+1:Nat):Int):=by rw[qO (by omega) (by omega)];omega
 refine zY (tbl:=zK9) zK8 100002 0 (af:=a154) rfl ?_
 rw[a154,b154,qB]
 refine⟨by simp,?_⟩
 simp -implicitDefEqProofs [jY,w1]
 refine xB (jE xE (jG zK8) _ _ noY qX) (insIN e tb eg l c a b z) (m:=b - a)
  ⟨a+1,by omega,by omega,by omega,by simp,by simp,by simp,by simp[jY],by simp,?_⟩ (by omega) ?_
 ·split
  ·rw[show on l a (a+1) zAr=l from qPy fkN fnN (by omega)]
  ·rfl
 rintro q tm H ⟨i,hq,hai,hor,t0,t1,t2,t3,t8,rfl⟩
 by_cases hi:i<b
 ·have hi':(i:Int)<b:=by omega
  rw[if_pos (by omega)]
  obtain⟨hpre,hon⟩:=qHo fkN fnN hn (show a<i by omega) hi (by omega)
  obtain⟨g,hg⟩:∃g,on l a i zAr=g:=⟨_,rfl⟩
  have hgl:g.length=z:=by rw[←hg];exact (zY5 fkN fnN l a i (by omega) (by omega)).trans hz
  rw[show on l a i (srt fkN fnN)=g from hg] at hpre hon
  rw[hg]
  have hwr:=xQ hi (by omega)
  obtain⟨x,hx⟩:=zAp (l:=g) (i:=i) (by omega)
  simp -implicitDefEqProofs [t0,t1,t2,t3,t8,hi']
  refine xB (jE xE (jG zK8) _ _ noY qX) (insJN e tb eg g x c a b z i) (m:=i - a)
   ⟨i,by omega,by omega,by omega,by simp[t0],by simp[t1],by simp[t2],by simp[t3],by simp[t8],by simp,by rw[zTr (by omega)]⟩ (by omega) ?_
  rintro q2 tm H ⟨j,hq2,hji,hlt,t0,t1,t2,t3,t8,t9,rfl⟩
  have hrl:(zAq g j i (i+1)).length=z:=by rw[zNl g hji (by omega) (by omega),hgl]
  have hatj:=qGm (l:=g) hji (by omega)
  rw[hx] at hatj
  have hfin:((∀y w,a<j->g[j - 1]?=some y->g[i]?=some w->jK eg.ky y<=jK eg.ky w))->zAq g j i (i+1)=on l a (i+1) zAr:=fun hh=>
   (qJ2 fkN fnN hpre (by omega) hji hh (fun y w h1 h2 h3=> by rw[hx] at h3;cases h3;exact hlt y h1 h2)).trans hon
  have hib:i+1<=b:=by omega
  by_cases hja:a<j
  ·obtain⟨k,rfl⟩:∃k,j=k+1:=⟨j - 1,by omega⟩
   have hja':(a:Int)<(k+1:Nat):=by omega
   have wk:IntKind.i64.wrap (((k+1:Nat):Int) - 1)=k:=by rw[qO (by omega) (by omega)];omega
   obtain⟨y,hy⟩:=zAp (l:=g) (i:=k) (by omega)
   have hatk:(zAq g (k+1) i (i+1))[k]?=some y:=by rw[zYu (by omega) (by omega),hy]
   have hstep:=zOq (l:=g) (j:=k) (i:=i) (by omega) (by omega)
   generalize zAq g (k+1) i (i+1)=d at*
   have mx:=fun p=> zCf hatj p
   have my:=fun p=> zCf hatk p
   have b1:k+1<z:=by omega
   have b2:k<z:=by omega
   have b3:((k+1:Nat):Int)<z:=by omega
   have b4:(k:Int)<z:=by omega
   obtain⟨K,hK⟩:∃K,k+1=K:=⟨_,rfl⟩
   rw[hK] at hja' wk hatj mx b1 b3 t9 hstep
   have b5:K+1<=z:=b1
   have b6:k+1<=z:=b2
   by_cases hc:jK eg.ky x<jK eg.ky y
   ·have hs:=zKa hatj hatk
    rw[hstep] at hs
    simp -implicitDefEqProofs [zK9,zHp,jY,setMany,zHm,t0,t1,t2,t3,t8,t9,hja',wk,mx,my,b1,b2,b3,b4,b5,b6,hrl,hc,hs]
    exact⟨q2 - 1,by omega,k,by omega,by omega,fun w h1 h2=> by rw[hy] at h2;cases h2;exact hc,by simp[t0,t1,t2,t3,t8,jY]⟩
   ·have hf:=hfin (fun y' w _ h2 h3=> by
     rw[Nat.add_sub_cancel,hy] at h2;rw[hx] at h3;cases h2;cases h3;omega)
    simp -implicitDefEqProofs [zK9,zHp,jY,zHm,t0,t1,t2,t3,t8,t9,hja',wk,mx,my,b1,b2,b3,b4,b5,b6,hrl,hc,hwr]
    exact⟨q - 1,by omega,i+1,by omega,by omega,by omega,by simp[t0,t1,t2,t3,jY,hib,hf]⟩
  ·have hja':¬(a:Int)<j:=by omega
   have hf:=hfin (fun y w h=> absurd h hja)
   simp -implicitDefEqProofs [jY,t0,t1,t2,t3,t8,t9,hja',hwr]
   exact⟨q - 1,by omega,i+1,by omega,by omega,by omega,by simp[t0,t1,t2,t3,jY,hib,hf]⟩
 ·have hi':¬(i:Int)<b:=by omega
  have he:(if i<=b then on l a i zAr else l)=on l a b zAr:=by
   by_cases hib:i<=b
   ·rw[if_pos hib,show i=b by omega]
   ·rw[if_neg hib,show b=a by omega]
    exact (qPz fkN fnN (by omega)).symm
  rw[he]
  simp -implicitDefEqProofs [t0,t1,t2,t3,t8,hi']
  refine zA [] [0,1,2] ?_ ?_ ?_<;> simp
def zLb:qQ GD:=fun args H=> match args with
 |[.slice (some ⟨k,0,none⟩) z _,.int .i64 a,.int .i64 b,v]=> (zEy H v).bind fun q=> (zCo q.2.2.2 H k).map fun l=> (z=l.2.length/\v=jY q.1/\l.2.length<=100000/\0<=a/\a<=b/\b<=l.2.length/\Nm fnN ((l.2.drop a.toNat).take (b.toNat - a.toNat)),.ret (.tuple #[]),H.upd k (.arr l.1 (xR (on l.2 a.toNat b.toNat zAr))))
 |_=> none
theorem qBc:qE Tryz.prog cfg 154 zLb:=by
 intro args H p r H' h hp
 unfold zLb at h
 split at h
 case h_2=> cases h
 simp only[Option.map_eq_some_iff,Option.bind_eq_some_iff] at h
 obtain⟨q,hv,l,hl,h⟩:=h
 rename_i k z c a b v
 cases h
 obtain⟨rfl,rfl,h1,h2,h3,h4,h5⟩:=hp
 obtain⟨a,rfl⟩:=Int.eq_ofNat_of_zero_le h2
 obtain⟨b,rfl⟩:=Int.eq_ofNat_of_zero_le (show 0<=b by omega)
 have hl2:=zFj hl
 obtain⟨hb2,he2,n3⟩:=zG2 hv
 obtain⟨n1,n2⟩:=zJv hb2 he2 hl2
 simp only[Int.toNat_natCast] at h5⊢
 exact (qL3 l.1 q.2.2.1 q.2.2.2 l.2 c a b h1 (by omega) (by omega) h5).atK (zAb rfl) [k,q.1,q.2.1] (by simp[n1,n2,n3]) (by simp) (by simp[hl2,hb2,he2]) (by simp[jY]) (by simp) (by simp[zGq n1 n2 hb2 he2])
end YtnemoimbeefngaaGreat
end Go.Proofs
namespace Go.Proofs
namespace YtnemoimbeefngaaGreat
open Go.Abs
def zEq (n:Nat):qQ GD:=fun args H=> match args with
 |[.slice (some ⟨k,0,none⟩) z _,.int .i64 a,.int .i64 m,.int .i64 b,v]=> (zEy H v).bind fun q=> (zCo q.2.2.2 H k).map fun l=> (z=l.2.length/\v=jY q.1/\l.2.length<=100000/\0<=a/\0<=m/\b - a<=n/\SymPre fkN fnN l.2 a.toNat m.toNat b.toNat,.ret (.tuple #[]),H.upd k (.arr l.1 (xR (on l.2 a.toNat b.toNat zAr))))
 |_=> none
def zEp (n:Nat):List (FuncId × qQ GD):=[(44,zHp),(195,zOm),(155,zEq n)]
theorem zDl {n:Nat} (ih:qE Tryz.prog cfg 155 (zEq n)):∀x∈zEp n,qE Tryz.prog cfg x.1 x.2:=by simp[zEp,zWy,qBb,ih]
def syAN (e tb:TypeId) (eg:NS) (l:List (FN eg)) (x:FN eg) (c a b z q:Nat) (tm:Nat->Value) (H:AH GD):Prop:=∃i j:Nat,q+i=j/\a+1<=i/\i<=j/\j<=b/\(∀y,a+1<i->l[i - 1]?=some y->jK eg.ky y<jK eg.ky x)/\(∀y,j<b->l[j]?=some y->jK eg.ky x<=jK eg.ky y)/\
 tm 0=.slice (some ⟨0,0,none⟩) z c/\tm 1=.int .i64 a/\tm 4=(jY 1)/\tm 10=.int .i64 i/\tm 11=.int .i64 j/\H=AH.of [some (.arr e (xR l)),some (.arr tb [.pointer (some ⟨2,0,none⟩)]),some (.hi (.eng eg))]
def syBN (e tb:TypeId) (eg:NS) (l:List (FN eg)) (c a i z q:Nat) (tm:Nat->Value) (H:AH GD):Prop:=∃k:Nat,q+k=i/\a<=k/\tm 0=.slice (some ⟨0,0,none⟩) z c/\tm 10=.int .i64 ((i+1:Nat):Int)/\tm 13=.int .i64 k/\H=AH.of [some (.arr e (xR (zAq l a (a+1) (k+1)))),some (.arr tb [.pointer (some ⟨2,0,none⟩)]),some (.hi (.eng eg))]
theorem qAy {n0:Nat} (ih:qE Tryz.prog cfg 155 (zEq n0)) (e tb:TypeId) (eg:NS) (l:List (FN eg)) (c a b:Nat) (hl:l.length<=100000) (hp:SymPre fkN fnN l a (a+1) b):
  zP Tryz.prog cfg 155 [.slice (some ⟨0,0,none⟩) l.length c,.int .i64 a,.int .i64 ((a+1:Nat):Int),.int .i64 b,(jY 1)] (AH.of [some (.arr e (xR l)),some (.arr tb [.pointer (some ⟨2,0,none⟩)]),some (.hi (.eng eg))])
  fun r H'=> r=.ret (.tuple #[])/\H'=AH.of [some (.arr e (xR (on l a b zAr))),some (.arr tb [.pointer (some ⟨2,0,none⟩)]),some (.hi (.eng eg))]:=by
 refine zP.ends ?_
 have hbl:=hp.bl
 have hmb:=hp.mb
 obtain⟨z,hz⟩:∃z,l.length=z:=⟨_,rfl⟩
 rw[hz] at hl hbl⊢
 obtain⟨x,hx⟩:=zAp (l:=l) (i:=a) (by omega)
 have mx:=fun p=> zCf hx p
 have az:a<z:=by omega
 have az':(a:Int)<z:=by omega
 obtain⟨m,hm⟩:∃m,a+1=m:=⟨_,rfl⟩
 have w1:IntKind.i64.wrap ((m:Int) - a)=1:=by rw[qO (by omega) (by omega)];omega
 rw[hm]
 refine zY (tbl:=zEp n0) (zDl ih) 100002 0 (af:=a155) rfl ?_
 rw[a155,b155,qB]
 refine⟨by simp,?_⟩
 simp -implicitDefEqProofs [jY,w1]
 refine xB (jE xE (jG (zDl ih)) _ _ noY qX) (syAN e tb eg l x c a b z) (m:=b - m) ⟨m,b,by omega,by omega,by omega,by omega,by omega,by omega,by simp,by simp,by simp[jY],by simp,by simp,rfl⟩ (by omega) ?_
 rintro q tm H ⟨i,j,hq,hai,hij,hjb,h1,h2,t0,t1,t4,t10,t11,rfl⟩
 by_cases hlt:i<j
 ·have hlt':(i:Int)<j:=by omega
  obtain⟨s,hs⟩:∃s,i+j=s:=⟨_,rfl⟩
  obtain⟨h,hh⟩:∃h,s / 2=h:=⟨_,rfl⟩
  have ws:IntKind.i64.wrap ((i:Int)+j)=s:=by rw[qO (by omega) (by omega)];omega
  obtain⟨f1,f2,f3,f4⟩:=zMs (by omega) hh
  obtain⟨y,hy⟩:=zAp (l:=l) (i:=h) (by omega)
  have my:=fun p=> zCf hy p
  have hz1:h<z:=by omega
  have hz2:(h:Int)<z:=by omega
  have hz3:h+1<=z:=hz1
  have az1:a+1<=z:=az
  by_cases hc:jK eg.ky y<jK eg.ky x
  ·have wh:IntKind.i64.wrap ((h:Int)+1)=((h+1:Nat):Int):=by rw[qO (by omega) (by omega)];omega
   simp -implicitDefEqProofs [zEp,zHp,jY,zHm,t0,t1,t4,t10,t11,hlt',ws,f1,f2,f3,f4,mx,my,hz,az,az',hz1,hz2,az1,hz3,hc,wh]
   exact⟨j - (h+1),by omega,h+1,j,by omega,by omega,by omega,hjb,fun w _ hw=> by rw[Nat.add_sub_cancel,hy] at hw;cases hw;exact hc,h2,by simp[t0,t1,t4,t11,jY]⟩
  ·simp -implicitDefEqProofs [zEp,zHp,jY,zHm,t0,t1,t4,t10,t11,hlt',ws,f1,f2,f3,f4,mx,my,hz,az,az',hz1,hz2,az1,hz3,hc]
   exact⟨h - i,by omega,i,h,by omega,by omega,by omega,by omega,h1,fun w _ hw=> by rw[hy] at hw;cases hw;omega,by simp[t0,t1,t4,t10,jY]⟩
 ·have hlt':¬(i:Int)<j:=by omega
  have hije:i=j:=by omega
  subst hije
  have hfin:=one_l fkN fnN hp hai hjb (fun w v h3 h4 h5=> by rw[hx] at h5;cases h5;exact h1 v h3 h4) (fun w v h3 h4 h5=> by rw[hx] at h5;cases h5;exact h2 v h3 h4)
  obtain⟨i,rfl⟩:∃i',i=i'+1:=⟨i - 1,by omega⟩
  have wi:IntKind.i64.wrap (((i+1:Nat):Int) - 1)=i:=by rw[qO (by omega) (by omega)];omega
  obtain⟨I,hI⟩:∃I,i+1=I:=⟨_,rfl⟩
  rw[hI] at wi t10 t11
  simp -implicitDefEqProofs [jY,t0,t1,t4,t10,t11]
  refine xB (jE xE (jG (zDl ih)) _ _ noY qX) (syBN e tb eg l c a i z) (m:=i - a) ⟨a,by omega,by omega,by simp[t0],by simp[t10,hI],by simp,by rw[qBs (by omega)]⟩ (by omega) ?_
  rintro q tm H ⟨k,hq,hak,t0,t10,t13,rfl⟩
  rw[hI] at t10
  have hrl:(zAq l a (a+1) (k+1)).length=z:=by rw[zNl l (by omega) (by omega) (by omega),hz]
  by_cases hk:k<i
  ·have hk':(k:Int)<i:=by omega
   have wk:IntKind.i64.wrap ((k:Int)+1)=((k+1:Nat):Int):=by rw[qO (by omega) (by omega)];omega
   have hstep:=zYt (l:=l) (a:=a) (k:=k) hak (by omega)
   generalize hd:zAq l a (a+1) (k+1)=d at*
   obtain⟨K,hK⟩:∃K,k+1=K:=⟨_,rfl⟩
   rw[hK] at hstep wk
   obtain⟨u,hu⟩:=zAp (l:=d) (i:=k) (by omega)
   obtain⟨v,hv⟩:=zAp (l:=d) (i:=K) (by omega)
   have mu:=fun p=> zCf hu p
   have mv:=fun p=> zCf hv p
   have b1:k<z:=by omega
   have b2:(k:Int)<z:=by omega
   have b3:K<z:=by omega
   have b4:(K:Int)<z:=by omega
   have b5:k+1<=z:=b1
   have b6:K+1<=z:=b3
   have hsw:=zKa hu hv
   rw[hstep] at hsw
   simp -implicitDefEqProofs [setMany,t0,t10,t13,wi,hk',wk,mu,mv,b1,b2,b3,b4,b5,b6,hrl,hsw]
   exact⟨q - 1,by omega,K,by omega,by omega,by simp[t0,t10,hI,←hK]⟩
  ·have hke:k=i:=by omega
   subst hke
   rw[show zAq l a (a+1) (k+1)=on l a b zAr from hfin]
   simp -implicitDefEqProofs [t0,t10,t13,wi]
   refine zA [] [0,1,2] ?_ ?_ ?_<;> simp
end YtnemoimbeefngaaGreat
end Go.Proofs
namespace Go.Proofs
namespace YtnemoimbeefngaaGreat
open Go.Abs
def syCN (e tb:TypeId) (eg:NS) (l:List (FN eg)) (x:FN eg) (c a m z q:Nat) (tm:Nat->Value) (H:AH GD):Prop:=∃i j:Nat,q+i=j/\a<=i/\i<=j/\j<=m/\(∀y,a<i->l[i - 1]?=some y->jK eg.ky y<=jK eg.ky x)/\(∀y,j<m->l[j]?=some y->jK eg.ky x<jK eg.ky y)/\
 tm 0=.slice (some ⟨0,0,none⟩) z c/\tm 2=.int .i64 m/\tm 4=(jY 1)/\tm 14=.int .i64 i/\tm 15=.int .i64 j/\H=AH.of [some (.arr e (xR l)),some (.arr tb [.pointer (some ⟨2,0,none⟩)]),some (.hi (.eng eg))]
def syDN (e tb:TypeId) (eg:NS) (l:List (FN eg)) (c m i z q:Nat) (tm:Nat->Value) (H:AH GD):Prop:=∃k:Nat,q+i=k/\k<=m/\tm 0=.slice (some ⟨0,0,none⟩) z c/\tm 14=.int .i64 i/\tm 17=.int .i64 k/\H=AH.of [some (.arr e (xR (zAq l k m (m+1)))),some (.arr tb [.pointer (some ⟨2,0,none⟩)]),some (.hi (.eng eg))]
theorem zYd {n0:Nat} (ih:qE Tryz.prog cfg 155 (zEq n0)) (e tb:TypeId) (eg:NS) (l:List (FN eg)) (c a m:Nat) (hl:l.length<=100000) (hp:SymPre fkN fnN l a m (m+1)) (hm1:m≠a+1):
  zP Tryz.prog cfg 155 [.slice (some ⟨0,0,none⟩) l.length c,.int .i64 a,.int .i64 m,.int .i64 ((m+1:Nat):Int),(jY 1)] (AH.of [some (.arr e (xR l)),some (.arr tb [.pointer (some ⟨2,0,none⟩)]),some (.hi (.eng eg))])
  fun r H'=> r=.ret (.tuple #[])/\H'=AH.of [some (.arr e (xR (on l a (m+1) zAr))),some (.arr tb [.pointer (some ⟨2,0,none⟩)]),some (.hi (.eng eg))]:=by
 refine zP.ends ?_
 have hbl:=hp.bl
 have ham:=hp.am
 obtain⟨z,hz⟩:∃z,l.length=z:=⟨_,rfl⟩
 rw[hz] at hl hbl⊢
 obtain⟨x,hx⟩:=zAp (l:=l) (i:=m) (by omega)
 have mx:=fun p=> zCf hx p
 have az:m<z:=by omega
 have az':(m:Int)<z:=by omega
 obtain⟨b,hb⟩:∃b,m+1=b:=⟨_,rfl⟩
 have w1:IntKind.i64.wrap ((b:Int) - m)=1:=by rw[qO (by omega) (by omega)];omega
 have w0:IntKind.i64.wrap ((m:Int) - a)=(m:Int) - a:=qO (by omega) (by omega)
 have w0':¬(m:Int) - a=1:=by omega
 rw[hb]
 refine zY (tbl:=zEp n0) (zDl ih) 100002 0 (af:=a155) rfl ?_
 rw[a155,b155,qB]
 refine⟨by simp,?_⟩
 simp -implicitDefEqProofs [jY,w1,w0,w0']
 refine xB (jE xE (jG (zDl ih)) _ _ noY qX) (syCN e tb eg l x c a m z) (m:=m - a) ⟨a,m,by omega,by omega,by omega,by omega,by omega,by omega,by simp,by simp,by simp[jY],by simp,by simp,rfl⟩ (by omega) ?_
 rintro q tm H ⟨i,j,hq,hai,hij,hjb,h1,h2,t0,t2,t4,t14,t15,rfl⟩
 by_cases hlt:i<j
 ·have hlt':(i:Int)<j:=by omega
  obtain⟨s,hs⟩:∃s,i+j=s:=⟨_,rfl⟩
  obtain⟨h,hh⟩:∃h,s / 2=h:=⟨_,rfl⟩
  have ws:IntKind.i64.wrap ((i:Int)+j)=s:=by rw[qO (by omega) (by omega)];omega
  obtain⟨f1,f2,f3,f4⟩:=zMs (by omega) hh
  obtain⟨y,hy⟩:=zAp (l:=l) (i:=h) (by omega)
  have my:=fun p=> zCf hy p
  have hz1:h<z:=by omega
  have hz2:(h:Int)<z:=by omega
  have hz3:h+1<=z:=hz1
  have az1:m+1<=z:=az
  by_cases hc:jK eg.ky x<jK eg.ky y
  ·have hc2:¬jK eg.ky y<=jK eg.ky x:=by omega
   simp -implicitDefEqProofs [zEp,zHp,jY,zHm,t0,t2,t4,t14,t15,hlt',ws,f1,f2,f3,f4,mx,my,hz,az,az',hz1,hz2,az1,hz3,hc,hc2]
   exact⟨h - i,by omega,i,h,by omega,by omega,by omega,by omega,h1,fun w _ hw=> by rw[hy] at hw;cases hw;exact hc,by simp[t0,t2,t4,t14,jY]⟩
  ·have wh:IntKind.i64.wrap ((h:Int)+1)=((h+1:Nat):Int):=by rw[qO (by omega) (by omega)];omega
   have hc2:jK eg.ky y<=jK eg.ky x:=by omega
   simp -implicitDefEqProofs [zEp,zHp,jY,zHm,t0,t2,t4,t14,t15,hlt',ws,f1,f2,f3,f4,mx,my,hz,az,az',hz1,hz2,az1,hz3,hc,hc2,wh]
   exact⟨j - (h+1),by omega,h+1,j,by omega,by omega,by omega,hjb,fun w _ hw=> by rw[Nat.add_sub_cancel,hy] at hw;cases hw;omega,h2,by simp[t0,t2,t4,t15,jY]⟩
 ·have hlt':¬(i:Int)<j:=by omega
  have hije:i=j:=by omega
  subst hije
  have hfin:=qJ2 fkN fnN hp hai hjb (fun v w h3 h4 h5=> by rw[hx] at h5;cases h5;exact h1 v h3 h4) (fun v w h3 h4 h5=> by rw[hx] at h5;cases h5;exact h2 v h3 h4)
  simp -implicitDefEqProofs [jY,t0,t2,t4,t14,t15]
  refine xB (jE xE (jG (zDl ih)) _ _ noY qX) (syDN e tb eg l c m i z) (m:=m - i) ⟨m,by omega,by omega,by simp[t0],by simp[t14],by simp,by rw[zTr (by omega)]⟩ (by omega) ?_
  rintro q tm H ⟨k,hq,hak,t0,t14,t17,rfl⟩
  have hrl:(zAq l k m (m+1)).length=z:=by rw[zNl l (by omega) (by omega) (by omega),hz]
  by_cases hk:i<k
  ·obtain⟨j,rfl⟩:∃j,k=j+1:=⟨k - 1,by omega⟩
   have wk:IntKind.i64.wrap (((j+1:Nat):Int) - 1)=j:=by rw[qO (by omega) (by omega)];omega
   have hk':(i:Int)<((j+1:Nat):Int):=by omega
   have hstep:=zOq (l:=l) (j:=j) (i:=m) (by omega) (by omega)
   generalize hd:zAq l (j+1) m (m+1)=d at*
   obtain⟨K,hK⟩:∃K,j+1=K:=⟨_,rfl⟩
   rw[hK] at hstep wk hk' t17
   obtain⟨u,hu⟩:=zAp (l:=d) (i:=K) (by omega)
   obtain⟨v,hv⟩:=zAp (l:=d) (i:=j) (by omega)
   have mu:=fun p=> zCf hu p
   have mv:=fun p=> zCf hv p
   have b1:K<z:=by omega
   have b2:(K:Int)<z:=by omega
   have b3:j<z:=by omega
   have b4:(j:Int)<z:=by omega
   have b5:K+1<=z:=b1
   have b6:j+1<=z:=b3
   have hsw:=zKa hu hv
   rw[hstep] at hsw
   simp -implicitDefEqProofs [setMany,t0,t14,t17,hk',wk,mu,mv,b1,b2,b3,b4,b5,b6,hrl,hsw]
   exact⟨q - 1,by omega,j,by omega,by omega,by simp[t0,t14]⟩
  ·have hke:k=i:=by omega
   subst hke
   rw[show zAq l k m (m+1)=on l a (m+1) zAr from hfin,hb]
   simp -implicitDefEqProofs [t0,t14,t17]
   refine zA [] [0,1,2] ?_ ?_ ?_<;> simp
end YtnemoimbeefngaaGreat
end Go.Proofs
namespace Go.Proofs
namespace YtnemoimbeefngaaGreat
open Go.Abs
theorem symFN {eg:NS} {l:List (FN eg)} {a m b s e mid:Nat} (h:SymPre fkN fnN l a m b) (hmid:mid=(a+b) / 2) (hse:s+e=mid+m) (has:a<=s) (hsm:s<=m) (hme:m<=e) (heb:e<=b)
  (h1:∀x z,a<s->e<b->l[s - 1]?=some x->l[e]?=some z->jK eg.ky x<=jK eg.ky z)
  (h2:∀x z,s<m->m<e->l[s]?=some x->l[e - 1]?=some z->jK eg.ky z<jK eg.ky x):
  ∃l1 l2:List (FN eg),(s<m/\m<e->zAq l s m e=l1)/\(¬(s<m/\m<e)->l=l1)/\(a<s/\s<mid->on l1 a mid zAr=l2)/\(¬(a<s/\s<mid)->l1=l2)/\(mid<e/\e<b->on l2 mid b zAr=on l a b zAr)/\(¬(mid<e/\e<b)->l2=on l a b zAr)/\
   l1.length=l.length/\l2.length=l.length/\(a<s/\s<mid->SymPre fkN fnN l1 a s mid)/\(mid<e/\e<b->SymPre fkN fnN l2 mid e b):=by
 obtain⟨k1,k2,k3,k4,k5⟩:=qKr fkN fnN h hmid hse has hsm hme heb h1 h2
 refine⟨_,_,?_,?_,?_,?_,?_,?_,k1,k2,k3,k4⟩
 ·intro hc;rw[if_pos hc]
 ·intro hc;rw[if_neg hc]
 ·intro hc;rw[if_pos hc];rfl
 ·intro hc;rw[if_neg hc]
 ·intro hc;rw[if_pos hc] at k5;exact k5
 ·intro hc;rw[if_neg hc] at k5;exact k5
theorem symHN {eg:NS} {l:List (FN eg)} {a m b s e mid:Nat} (h:SymPre fkN fnN l a m b) (hmid:mid=(a+b) / 2) (hse:s+e=mid+m) (has:a<=s) (hsm:s<=m) (hme:m<=e) (heb:e<=b)
  (h1:∀x z,a<s->e<b->l[s - 1]?=some x->l[e]?=some z->jK eg.ky x<=jK eg.ky z)
  (h2:∀x z,s<m->m<e->l[s]?=some x->l[e - 1]?=some z->jK eg.ky z<jK eg.ky x):
  ∃l1 l2:List (FN eg),l1.length=l.length/\l2.length=l.length/\(
  (¬(s:Int)<m/\(m:Int)<e/\(a:Int)<s/\(s:Int)<mid/\¬(mid:Int)<e/\(e:Int)<b/\l=l1/\on l1 a mid zAr=l2/\SymPre fkN fnN l1 a s mid/\l2=on l a b zAr/\True)∨
  (¬(s:Int)<m/\¬(m:Int)<e/\(a:Int)<s/\¬(s:Int)<mid/\¬(mid:Int)<e/\(e:Int)<b/\l=l1/\l1=l2/\True/\l2=on l a b zAr/\True)∨
  ((s:Int)<m/\¬(m:Int)<e/\(a:Int)<s/\¬(s:Int)<mid/\(mid:Int)<e/\(e:Int)<b/\l=l1/\l1=l2/\True/\on l2 mid b zAr=on l a b zAr/\SymPre fkN fnN l2 mid e b)∨
  ((s:Int)<m/\(m:Int)<e/\¬(a:Int)<s/\(s:Int)<mid/\(mid:Int)<e/\¬(e:Int)<b/\zAq l s m e=l1/\l1=l2/\True/\l2=on l a b zAr/\True)∨
  ((s:Int)<m/\(m:Int)<e/\¬(a:Int)<s/\(s:Int)<mid/\(mid:Int)<e/\(e:Int)<b/\zAq l s m e=l1/\l1=l2/\True/\on l2 mid b zAr=on l a b zAr/\SymPre fkN fnN l2 mid e b)∨
  ((s:Int)<m/\(m:Int)<e/\(a:Int)<s/\(s:Int)<mid/\(mid:Int)<e/\¬(e:Int)<b/\zAq l s m e=l1/\on l1 a mid zAr=l2/\SymPre fkN fnN l1 a s mid/\l2=on l a b zAr/\True)∨
  ((s:Int)<m/\(m:Int)<e/\(a:Int)<s/\(s:Int)<mid/\(mid:Int)<e/\(e:Int)<b/\zAq l s m e=l1/\on l1 a mid zAr=l2/\SymPre fkN fnN l1 a s mid/\on l2 mid b zAr=on l a b zAr/\SymPre fkN fnN l2 mid e b)):=by
 obtain⟨l1,l2,K1,K2,K3,K4,K5,K6,hl1,hl2,P1,P2⟩:=symFN h hmid hse has hsm hme heb h1 h2
 refine⟨l1,l2,hl1,hl2,?_⟩
 rcases qE6 h.am h.mb hmid hse has hsm hme heb with ⟨q1,q2,q3,q4,q5,q6⟩|⟨q1,q2,q3,q4,q5,q6⟩|⟨q1,q2,q3,q4,q5,q6⟩|⟨q1,q2,q3,q4,q5,q6⟩|⟨q1,q2,q3,q4,q5,q6⟩|⟨q1,q2,q3,q4,q5,q6⟩|⟨q1,q2,q3,q4,q5,q6⟩
 ·exact .inl ⟨q1,q2,q3,q4,q5,q6,K2 (by omega),K3 (by omega),P1 (by omega),K6 (by omega),trivial⟩
 ·exact .inr (.inl ⟨q1,q2,q3,q4,q5,q6,K2 (by omega),K4 (by omega),trivial,K6 (by omega),trivial⟩)
 ·exact .inr (.inr (.inl ⟨q1,q2,q3,q4,q5,q6,K2 (by omega),K4 (by omega),trivial,K5 (by omega),P2 (by omega)⟩))
 ·exact .inr (.inr (.inr (.inl ⟨q1,q2,q3,q4,q5,q6,K1 (by omega),K4 (by omega),trivial,K6 (by omega),trivial⟩)))
 ·exact .inr (.inr (.inr (.inr (.inl ⟨q1,q2,q3,q4,q5,q6,K1 (by omega),K4 (by omega),trivial,K5 (by omega),P2 (by omega)⟩))))
 ·exact .inr (.inr (.inr (.inr (.inr (.inl ⟨q1,q2,q3,q4,q5,q6,K1 (by omega),K3 (by omega),P1 (by omega),K6 (by omega),trivial⟩)))))
 ·exact .inr (.inr (.inr (.inr (.inr (.inr (⟨q1,q2,q3,q4,q5,q6,K1 (by omega),K3 (by omega),P1 (by omega),K5 (by omega),P2 (by omega)⟩))))))
def syEN (e tb:TypeId) (eg:NS) (l:List (FN eg)) (c a m b d N P s0 r0 z q:Nat) (tm:Nat->Value) (H:AH GD):Prop:=∃s r:Nat,q+s=r/\s0<=s/\s<=r/\r<=r0/\(∀x y,s0<s->l[s - 1]?=some x->l[N - s]?=some y->jK eg.ky x<=jK eg.ky y)/\(∀x y,r<r0->l[r]?=some x->l[P - r]?=some y->jK eg.ky y<jK eg.ky x)/\
 tm 0=.slice (some ⟨0,0,none⟩) z c/\tm 1=.int .i64 a/\tm 2=.int .i64 m/\tm 3=.int .i64 b/\tm 4=(jY 1)/\tm 18=.int .i64 d/\tm 19=.int .i64 N/\tm 20=.int .i64 s/\tm 21=.int .i64 r/\tm 22=.int .i64 P/\H=AH.of [some (.arr e (xR l)),some (.arr tb [.pointer (some ⟨2,0,none⟩)]),some (.hi (.eng eg))]
theorem qE5 {n0:Nat} (ih:qE Tryz.prog cfg 155 (zEq n0)) (e tb:TypeId) (eg:NS) (l:List (FN eg)) (c a m b:Nat) (hl:l.length<=100000) (hp:SymPre fkN fnN l a m b) (hm1:m≠a+1) (hm2:b≠m+1) (hn0:b - a<=n0+1):
  zP Tryz.prog cfg 155 [.slice (some ⟨0,0,none⟩) l.length c,.int .i64 a,.int .i64 m,.int .i64 b,(jY 1)] (AH.of [some (.arr e (xR l)),some (.arr tb [.pointer (some ⟨2,0,none⟩)]),some (.hi (.eng eg))])
  fun r H'=> r=.ret (.tuple #[])/\H'=AH.of [some (.arr e (xR (on l a b zAr))),some (.arr tb [.pointer (some ⟨2,0,none⟩)]),some (.hi (.eng eg))]:=by
 refine zP.ends ?_
 have hbl:=hp.bl
 have ham:=hp.am
 have hmb:=hp.mb
 obtain⟨z,hz⟩:∃z,l.length=z:=⟨_,rfl⟩
 rw[hz] at hl hbl⊢
 obtain⟨T,hT⟩:∃T,on l a b zAr=T:=⟨_,rfl⟩
 rw[hT]
 have w1:IntKind.i64.wrap ((b:Int) - m)=(b:Int) - m:=qO (by omega) (by omega)
 have w1':¬(b:Int) - m=1:=by omega
 have w0:IntKind.i64.wrap ((m:Int) - a)=(m:Int) - a:=qO (by omega) (by omega)
 have w0':¬(m:Int) - a=1:=by omega
 obtain⟨t,ht⟩:∃t,a+b=t:=⟨_,rfl⟩
 obtain⟨d,hd⟩:∃d,t / 2=d:=⟨_,rfl⟩
 obtain⟨N,hN⟩:∃N,d+m=N:=⟨_,rfl⟩
 obtain⟨P,hP⟩:∃P,N - 1=P:=⟨_,rfl⟩
 obtain⟨f1,f2,f3,f4⟩:=zMs (by omega) hd
 have wt:IntKind.i64.wrap ((a:Int)+b)=t:=by rw[qO (by omega) (by omega)];omega
 have wN:IntKind.i64.wrap ((d:Int)+m)=N:=by rw[qO (by omega) (by omega)];omega
 have wP:IntKind.i64.wrap ((N:Int) - 1)=P:=by rw[qO (by omega) (by omega)];omega
 obtain⟨s0,r0,hA⟩:∃s0 r0:Nat,(d<m/\s0+b=N/\r0=d)∨(m<=d/\s0=a/\r0=m):=by
  by_cases h:d<m
  ·exact⟨N - b,d,.inl ⟨h,by omega,rfl⟩⟩
  ·exact⟨a,m,.inr ⟨by omega,rfl,rfl⟩⟩
 have hA2:=hA
 refine zY (tbl:=zEp n0) (zDl ih) 100002 0 (af:=a155) rfl ?_
 rw[a155,b155,qB]
 refine⟨by simp,?_⟩
 rcases hA with ⟨g1,g2,g3⟩|⟨g1,g2,g3⟩
 case' inl=>
  have g1':(d:Int)<m:=by omega
  have ws0:IntKind.i64.wrap ((N:Int) - b)=s0:=by rw[qO (by omega) (by omega)];omega
  simp -implicitDefEqProofs [jY,w1,w1',w0,w0',wt,f1,f2,f3,f4,wN,wP,g1',ws0]
  refine xB (jE xE (jG (zDl ih)) _ _ noY qX) (syEN e tb eg l c a m b d N P s0 r0 z) (m:=r0 - s0) ⟨s0,r0,by omega,by omega,by omega,by omega,by omega,by omega,by simp,by simp,by simp,by simp,by simp[jY],by simp,by simp,by simp,by simp[g3],by simp,rfl⟩ (by omega) ?_
  clear g1 g2 g3 g1' ws0
 case' inr=>
  have g1':¬(d:Int)<m:=by omega
  simp -implicitDefEqProofs [jY,w1,w1',w0,w0',wt,f1,f2,f3,f4,wN,wP,g1']
  refine xB (jE xE (jG (zDl ih)) _ _ noY qX) (syEN e tb eg l c a m b d N P s0 r0 z) (m:=r0 - s0) ⟨s0,r0,by omega,by omega,by omega,by omega,by omega,by omega,by simp,by simp,by simp,by simp,by simp[jY],by simp,by simp,by simp[g2],by simp[g3],by simp,rfl⟩ (by omega) ?_
  clear g1 g2 g3 g1'
 all_goals
  rintro q tm H ⟨s,r,hq,hs0,hsr,hr0,h1,h2,t0,t1,t2,t3,t4,t18,t19,t20,t21,t22,rfl⟩
  by_cases hlt:s<r
  ·have hlt':(s:Int)<r:=by omega
   obtain⟨u,hu⟩:∃u,s+r=u:=⟨_,rfl⟩
   obtain⟨h,hh⟩:∃h,u / 2=h:=⟨_,rfl⟩
   have ws:IntKind.i64.wrap ((s:Int)+r)=u:=by rw[qO (by omega) (by omega)];omega
   obtain⟨f1,f2,f3,f4⟩:=zMs (by omega) hh
   obtain⟨k,hk⟩:∃k,P - h=k:=⟨_,rfl⟩
   have wk:IntKind.i64.wrap ((P:Int) - h)=k:=by rw[qO (by omega) (by omega)];omega
   have hkz:k<z:=by omega
   obtain⟨x,hx⟩:=zAp (l:=l) (i:=h) (by omega)
   obtain⟨y,hy⟩:=zAp (l:=l) (i:=k) (by omega)
   have mx:=fun p=> zCf hx p
   have my:=fun p=> zCf hy p
   have b1:h<z:=by omega
   have b2:(h:Int)<z:=by omega
   have b4:(k:Int)<z:=by omega
   have b5:h+1<=z:=b1
   have b6:k+1<=z:=hkz
   by_cases hc:jK eg.ky y<jK eg.ky x
   ·have hc2:¬jK eg.ky x<=jK eg.ky y:=by omega
    simp -implicitDefEqProofs [zEp,zHp,jY,zHm,t0,t1,t2,t3,t4,t18,t19,t20,t21,t22,hlt',ws,f1,f2,f3,f4,wk,mx,my,hz,b1,b2,hkz,b4,b5,b6,hc,hc2]
    exact⟨h - s,by omega,s,h,by omega,by omega,by omega,by omega,h1,fun v w _ hv hw=> by rw[hx] at hv;rw[hk,hy] at hw;cases hv;cases hw;exact hc,by simp[t0,t1,t2,t3,t4,t18,t19,t20,t22,jY]⟩
   ·have hc2:jK eg.ky x<=jK eg.ky y:=by omega
    have wh:IntKind.i64.wrap ((h:Int)+1)=((h+1:Nat):Int):=by rw[qO (by omega) (by omega)];omega
    have hNk:N - (h+1)=k:=by omega
    simp -implicitDefEqProofs [zEp,zHp,jY,zHm,t0,t1,t2,t3,t4,t18,t19,t20,t21,t22,hlt',ws,f1,f2,f3,f4,wk,mx,my,hz,b1,b2,hkz,b4,b5,b6,hc,hc2,wh]
    exact⟨r - (h+1),by omega,h+1,r,by omega,by omega,by omega,by omega,fun v w _ hv hw=> by rw[Nat.add_sub_cancel,hx] at hv;rw[hNk,hy] at hw;cases hv;cases hw;exact hc2,h2,by simp[t0,t1,t2,t3,t4,t18,t19,t21,t22,jY]⟩
  ·have hlt':¬(s:Int)<r:=by omega
   have hsr:s=r:=by omega
   subst hsr
   obtain⟨E,hE⟩:∃E,N - s=E:=⟨_,rfl⟩
   have wE:IntKind.i64.wrap ((N:Int) - s)=E:=by rw[qO (by omega) (by omega)];omega
   obtain⟨l1,l2,hl1,hl2,hcs⟩:=symHN (s:=s) (e:=E) (mid:=d) hp (by omega) (by omega) (by omega) (by omega) (by omega) (by omega)
    (fun x y ha hb hx hy=> h1 x y (by omega) hx (by rw[hE];exact hy)) (fun x y ha hb hx hy=> h2 x y (by omega) hx (by rw[show P - s=E - 1 by omega];exact hy))
   rw[hT] at hcs
   rw[hz] at hl1 hl2
   have j1:(E:Int)<=z:=by omega
   have j4:E<=z:=by omega
   have j2:(d:Int) - a<=n0:=by omega
   have j3:(b:Int) - d<=n0:=by omega
   rcases hcs with ⟨q1,q2,q3,q4,q5,q6,k1,k2,p1,k3,p2⟩|⟨q1,q2,q3,q4,q5,q6,k1,k2,p1,k3,p2⟩|⟨q1,q2,q3,q4,q5,q6,k1,k2,p1,k3,p2⟩|⟨q1,q2,q3,q4,q5,q6,k1,k2,p1,k3,p2⟩|⟨q1,q2,q3,q4,q5,q6,k1,k2,p1,k3,p2⟩|⟨q1,q2,q3,q4,q5,q6,k1,k2,p1,k3,p2⟩|⟨q1,q2,q3,q4,q5,q6,k1,k2,p1,k3,p2⟩<;>
    (simp -implicitDefEqProofs [zEp,zOm,zEq,zEy,jY,zCo,zCj,t0,t1,t2,t3,t4,t18,t19,t20,t21,t22,wE,q1,q2,q3,q4,q5,q6,hz,hl,hl1,hl2,j1,j2,j3,j4,k1,k2,k3,p1,p2]
     refine zA [] [0,1,2] ?_ ?_ ?_<;> simp[k1,k2,k3])
theorem zQr:∀n,qE Tryz.prog cfg 155 (zEq n)
 |0=> by
  intro args H p r H' h hp
  unfold zEq at h
  split at h
  case h_2=> cases h
  simp only[Option.map_eq_some_iff,Option.bind_eq_some_iff] at h
  obtain⟨q,hv,l,hl,h⟩:=h
  rename_i k z c a m b v
  cases h
  obtain⟨rfl,rfl,h1,h2,h3,h4,h5⟩:=hp
  have:=h5.am
  have:=h5.mb
  omega
 |n+1=> by
  intro args H p r H' h hp
  unfold zEq at h
  split at h
  case h_2=> cases h
  simp only[Option.map_eq_some_iff,Option.bind_eq_some_iff] at h
  obtain⟨q,hv,l,hl,h⟩:=h
  rename_i k z c a m b v
  cases h
  obtain⟨rfl,rfl,h1,h2,h3,h4,h5⟩:=hp
  have g1:=h5.am
  have g2:=h5.mb
  obtain⟨a,rfl⟩:=Int.eq_ofNat_of_zero_le h2
  obtain⟨m,rfl⟩:=Int.eq_ofNat_of_zero_le h3
  obtain⟨b,rfl⟩:=Int.eq_ofNat_of_zero_le (show 0<=b by omega)
  have hl2:=zFj hl
  obtain⟨hb2,he2,n3⟩:=zG2 hv
  obtain⟨n1,n2⟩:=zJv hb2 he2 hl2
  simp only[Int.toNat_natCast] at h5 g1 g2⊢
  have ih:=zQr n
  have hr:zP Tryz.prog cfg 155 [.slice (some ⟨0,0,none⟩) l.2.length c,.int .i64 a,.int .i64 m,.int .i64 b,(jY 1)] (AH.of [some (.arr l.1 (xR l.2)),some (.arr q.2.2.1 [.pointer (some ⟨2,0,none⟩)]),some (.hi (.eng q.2.2.2))])
    fun r H'=> r=.ret (.tuple #[])/\H'=AH.of [some (.arr l.1 (xR (on l.2 a b zAr))),some (.arr q.2.2.1 [.pointer (some ⟨2,0,none⟩)]),some (.hi (.eng q.2.2.2))]:=by
   by_cases e1:m=a+1
   ·subst e1;exact qAy ih l.1 q.2.2.1 q.2.2.2 l.2 c a b h1 h5
   ·by_cases e2:b=m+1
    ·subst e2;exact zYd ih l.1 q.2.2.1 q.2.2.2 l.2 c a m h1 h5 e1
    ·exact qE5 ih l.1 q.2.2.1 q.2.2.2 l.2 c a m b h1 h5 e1 e2 (by omega)
  exact hr.atK (zAb rfl) [k,q.1,q.2.1] (by simp[n1,n2,n3]) (by simp) (by simp[hl2,hb2,he2]) (by simp[jY]) (by simp) (by simp[zGq n1 n2 hb2 he2])
end YtnemoimbeefngaaGreat
end Go.Proofs
namespace Go.Proofs
namespace YtnemoimbeefngaaGreat
open Go.Abs
def bFN {eg:NS} (bs:Nat) (l:List (FN eg)):List (FN eg):=bk fkN fnN bs l
theorem zM0 {eg:NS} {bs:Nat} (hb:0<bs) (l:List (FN eg)):(bFN bs l).length=l.length:=zI0 fkN fnN hb l
theorem qLn {eg:NS} {l:List (FN eg)} (hn:Nm fnN l) {A k bs:Nat} (hb:0<bs) (hA:A<=l.length):Nm fnN (((bFN bs (l.take A)++l.drop A).drop A).take k):=by
 rw[zDs (by rw[zM0 hb,List.length_take];omega)]
 exact hn.sub fnN ((List.take_sublist _ _).trans (List.drop_sublist _ _))
def zIl:List (FuncId × qQ GD):=[(154,zLb),(155,zEq 200000)]
theorem zI8:∀x∈zIl,qE Tryz.prog cfg x.1 x.2:=by simp[zIl,qBc,zQr 200000]
def sbIN (e tb:TypeId) (eg:NS) (l:List (FN eg)) (c z q:Nat) (tm:Nat->Value) (H:AH GD):Prop:=∃i A:Nat,20*i=A/\q+i=z/\A<=z/\tm 0=.slice (some ⟨0,0,none⟩) z c/\tm 1=.int .i64 z/\tm 2=(jY 1)/\tm 6=.int .i64 20/\tm 7=.int .i64 A/\tm 8=.int .i64 ((A+20:Nat):Int)/\H=AH.of [some (.arr e (xR (bFN 20 (l.take A)++l.drop A))),some (.arr tb [.pointer (some ⟨2,0,none⟩)]),some (.hi (.eng eg))]
def sbJN (e tb:TypeId) (eg:NS) (l:List (FN eg)) (c z q:Nat) (tm:Nat->Value) (H:AH GD):Prop:=∃bs:Nat,z<=q+bs/\0<bs/\bs<=2*z+20/\tm 0=.slice (some ⟨0,0,none⟩) z c/\tm 1=.int .i64 z/\tm 2=(jY 1)/\tm 6=.int .i64 bs/\H=AH.of [some (.arr e (xR (bFN bs l))),some (.arr tb [.pointer (some ⟨2,0,none⟩)]),some (.hi (.eng eg))]
def sbKN (e tb:TypeId) (eg:NS) (l:List (FN eg)) (c z bs q:Nat) (tm:Nat->Value) (H:AH GD):Prop:=∃i A:Nat,2*bs*i=A/\q+i=z/\A<=z/\tm 0=.slice (some ⟨0,0,none⟩) z c/\tm 1=.int .i64 z/\tm 2=(jY 1)/\tm 6=.int .i64 bs/\tm 7=.int .i64 A/\tm 8=.int .i64 ((A+2*bs:Nat):Int)/\H=AH.of [some (.arr e (xR (bFN (2*bs) (l.take A)++bFN bs (l.drop A)))),some (.arr tb [.pointer (some ⟨2,0,none⟩)]),some (.hi (.eng eg))]
theorem qOd {eg:NS} {l:List (FN eg)} {i A:Nat} (e:20*i=A) (h:A+20<=l.length):on (bFN 20 (l.take A)++l.drop A) A (A+20) zAr=bFN 20 (l.take (A+20))++l.drop (A+20):=by
 subst e;exact qQz fkN fnN (by omega) h
theorem qI1 {eg:NS} {l:List (FN eg)} {i A:Nat} (e:20*i=A) (h:A<=l.length) (h2:l.length<A+20):on (bFN 20 (l.take A)++l.drop A) A l.length zAr=bFN 20 l:=by
 subst e;exact qOc fkN fnN (by omega) h h2
theorem qD6 {eg:NS} {l:List (FN eg)} {bs i A:Nat} (e:2*bs*i=A) (hb:0<bs) (hn:Nm fnN l) (h:A+2*bs<=l.length):SymPre fkN fnN (bFN (2*bs) (l.take A)++bFN bs (l.drop A)) A (A+bs) (A+2*bs)/\
  on (bFN (2*bs) (l.take A)++bFN bs (l.drop A)) A (A+2*bs) zAr=bFN (2*bs) (l.take (A+2*bs))++bFN bs (l.drop (A+2*bs)):=by
 subst e;exact qIy fkN fnN hb hn h
theorem qD5 {eg:NS} {l:List (FN eg)} {bs i A:Nat} (e:2*bs*i=A) (hb:0<bs) (hn:Nm fnN l) (h:A+bs<l.length) (h2:l.length<A+2*bs):SymPre fkN fnN (bFN (2*bs) (l.take A)++bFN bs (l.drop A)) A (A+bs) l.length/\
  on (bFN (2*bs) (l.take A)++bFN bs (l.drop A)) A l.length zAr=bFN (2*bs) l:=by
 subst e;exact zRy fkN fnN hb hn h h2
theorem qD4 {eg:NS} {l:List (FN eg)} {bs i A:Nat} (e:2*bs*i=A) (hb:0<bs) (h:l.length<=A+bs) (h2:A<=l.length):bFN (2*bs) (l.take A)++bFN bs (l.drop A)=bFN (2*bs) l:=by
 subst e;exact zRx fkN fnN hb h h2
theorem qD3 {eg:NS} {l:List (FN eg)} {bs:Nat} (h:l.length<=bs):bFN bs l=zAr l:=zE7 fkN fnN h
theorem qMl (e tb:TypeId) (eg:NS) (l:List (FN eg)) (c:Nat) (hl:l.length<=90000) (hn:Nm fnN l):
  zP Tryz.prog cfg 104 [.slice (some ⟨0,0,none⟩) l.length c,.int .i64 l.length,(jY 1)] (AH.of [some (.arr e (xR l)),some (.arr tb [.pointer (some ⟨2,0,none⟩)]),some (.hi (.eng eg))])
  fun r H'=> r=.ret (.tuple #[])/\H'=AH.of [some (.arr e (xR (zAr l))),some (.arr tb [.pointer (some ⟨2,0,none⟩)]),some (.hi (.eng eg))]:=by
 refine zP.ends ?_
 obtain⟨z,hz⟩:∃z,l.length=z:=⟨_,rfl⟩
 rw[hz] at hl⊢
 refine zY (tbl:=zIl) zI8 200002 0 (af:=a104) rfl ?_
 rw[a104,b104,qB]
 refine⟨by simp,?_⟩
 simp -implicitDefEqProofs [jY]
 refine xB (jE xE (jG zI8) _ _ noY qX) (sbIN e tb eg l c z) (m:=z) ⟨0,0,rfl,by omega,by omega,by simp,by simp,by simp[jY],by simp,by simp,by simp,by simp[bFN,bk,blk,srt]⟩ (by omega) ?_
 rintro q tm H ⟨i,A,hA,hq,hAz,t0,t1,t2,t6,t7,t8,rfl⟩
 have hseg:∀k,Nm fnN (((bFN 20 (l.take A)++l.drop A).drop A).take k):=fun k=> qLn hn (by omega) (by omega)
 have hDl:(bFN 20 (l.take A)++l.drop A).length=z:=by rw[List.length_append,zM0 (by omega),List.length_take,List.length_drop];omega
 obtain⟨B,hB⟩:∃B,A+20=B:=⟨_,rfl⟩
 rw[hB] at t8
 have v1:(A:Int)<=B:=by omega
 by_cases hb:B<=z
 ·have hb':(B:Int)<=z:=by omega
  have hins:=qOd hA (show A+20<=l.length by omega)
  rw[hB] at hins
  have wB:IntKind.i64.wrap ((B:Int)+20)=((B+20:Nat):Int):=by rw[qO (by omega) (by omega)];omega
  generalize bFN 20 (l.take A)++l.drop A=D at*
  have hsg:=hseg (B - A)
  have hz1:z<=100000:=by omega
  simp -implicitDefEqProofs [zIl,zLb,zEy,jY,zCo,zCj,t0,t1,t2,t6,t7,t8,hb,hb',hDl,hz1,v1,hsg,hins,wB]
  exact⟨q - 1,by omega,i+1,B,by omega,by omega,by omega,by simp[t0,t1,t2,t6]⟩
 ·have hb':¬(B:Int)<=z:=by omega
  have hins:=qI1 hA (show A<=l.length by omega) (show l.length<A+20 by omega)
  rw[hz] at hins
  generalize bFN 20 (l.take A)++l.drop A=D at*
  have hsg:=hseg (z - A)
  have hz1:z<=100000:=by omega
  have v2:(A:Int)<=z:=by omega
  simp -implicitDefEqProofs [zIl,zLb,zEy,jY,zCo,zCj,t0,t1,t2,t6,t7,t8,hb',hDl,hz1,v2,hsg,hins]
  refine xB (jE xE (jG zI8) _ _ noY qX) (sbJN e tb eg l c z) (m:=z) ⟨20,by omega,by omega,by omega,by simp[t0],by simp[t1],by simp[t2],by simp[t6],rfl⟩ (by omega) ?_
  clear hseg hDl hsg hins hb' hb v1 v2 t0 t1 t2 t6 t7 t8 hB hA hAz hq
  rintro q tm H ⟨bs,hq,hb0,hbz,t0,t1,t2,t6,rfl⟩
  by_cases hlt:bs<z
  ·have hlt':(bs:Int)<z:=by omega
   obtain⟨b2,hb2⟩:∃b2,2*bs=b2:=⟨_,rfl⟩
   have wb:IntKind.i64.wrap (2*(bs:Int))=b2:=by rw[qO (by omega) (by omega)];omega
   have wb':IntKind.i64.wrap ((bs:Int)*2)=b2:=by rw[qO (by omega) (by omega)];omega
   simp -implicitDefEqProofs [jY,t0,t1,t2,t6,hlt',wb]
   refine xB (jE xE (jG zI8) _ _ noY qX) (sbKN e tb eg l c z bs) (m:=z) ⟨0,0,by omega,by omega,by omega,by simp[t0],by simp[t1],by simp[t2],by simp[t6],by simp,by simp[hb2],?_⟩ (by omega) ?_
   ·rw[List.take_zero,List.drop_zero,show bFN (2*bs) []=[] by simp[bFN,bk,blk,srt]];rfl
   rintro q2 tm H ⟨i,A,hA,hq2,hAz,t0,t1,t2,t6,t7,t8,rfl⟩
   have hDl:(bFN (2*bs) (l.take A)++bFN bs (l.drop A)).length=z:=by rw[List.length_append,zM0 (by omega),zM0 (by omega),List.length_take,List.length_drop];omega
   obtain⟨B,hB⟩:∃B,A+2*bs=B:=⟨_,rfl⟩
   obtain⟨M,hM⟩:∃M,A+bs=M:=⟨_,rfl⟩
   rw[hB] at t8
   have wM:IntKind.i64.wrap ((A:Int)+bs)=M:=by rw[qO (by omega) (by omega)];omega
   by_cases hb:B<=z
   ·have hb':(B:Int)<=z:=by omega
    obtain⟨hpre,hmer⟩:=qD6 hA hb0 hn (show A+2*bs<=l.length by omega)
    rw[hB,hM] at hpre
    rw[hB] at hmer
    have hnx:2*bs*(i+1)=B:=by rw[Nat.mul_succ,hA,hB]
    have wB:IntKind.i64.wrap ((B:Int)+b2)=((B+b2:Nat):Int):=by rw[qO (by omega) (by omega)];omega
    have hi1:i+1<=z:=by
     have:1*(i+1)<=2*bs*(i+1):=Nat.mul_le_mul_right _ (by omega)
     omega
    generalize bFN (2*bs) (l.take A)++bFN bs (l.drop A)=D at*
    have hz1:z<=100000:=by omega
    have hba:(B:Int) - A<=200000:=by omega
    simp -implicitDefEqProofs [zIl,zEq,zEy,jY,zCo,zCj,t0,t1,t2,t6,t7,t8,hb',hDl,hz1,wM,wb,hba,hpre,hmer,wB]
    exact⟨q2 - 1,by omega,i+1,B,hnx,by omega,by omega,by simp[t0,t1,t2,t6,hb2]⟩
   ·have hb':¬(B:Int)<=z:=by omega
    by_cases hmz:M<z
    ·have hmz':(M:Int)<z:=by omega
     obtain⟨hpre,hmer⟩:=qD5 hA hb0 hn (show A+bs<l.length by omega) (show l.length<A+2*bs by omega)
     rw[hM,hz] at hpre
     rw[hz,hb2] at hmer
     rw[hb2] at hpre hDl⊢
     generalize bFN b2 (l.take A)++bFN bs (l.drop A)=D at*
     have hz1:z<=100000:=by omega
     have hba:(z:Int) - A<=200000:=by omega
     simp -implicitDefEqProofs [zIl,zEq,zEy,jY,zCo,zCj,t0,t1,t2,t6,t7,t8,hb',hmz',hDl,hz1,wM,wb',hba,hpre,hmer]
     exact⟨q - 1,by omega,b2,by omega,by omega,by omega,by simp[t0,t1,t2]⟩
    ·have hmz':¬(M:Int)<z:=by omega
     have hmer:=qD4 hA hb0 (show l.length<=A+bs by omega) (by omega)
     rw[hb2] at hmer⊢
     rw[hmer]
     simp -implicitDefEqProofs [t0,t1,t2,t6,t7,t8,hb',hmz',wM,wb']
     exact⟨q - 1,by omega,b2,by omega,by omega,by omega,by simp[t0,t1,t2]⟩
  ·have hlt':¬(bs:Int)<z:=by omega
   rw[qD3 (show l.length<=bs by omega)]
   simp -implicitDefEqProofs [t0,t1,t2,t6,hlt']
   refine zA [] [0,1,2] ?_ ?_ ?_<;> simp
def zOl:qQ GD:=fun args H=> match args with
 |[.slice (some ⟨k,0,none⟩) z _,.int .i64 n,v]=> (zEy H v).bind fun q=> (zCo q.2.2.2 H k).map fun l=> (z=l.2.length/\n=l.2.length/\v=jY q.1/\l.2.length<=90000/\Nm fnN l.2,.ret (.tuple #[]),H.upd k (.arr l.1 (xR (zAr l.2))))
 |_=> none
theorem qBa:qE Tryz.prog cfg 104 zOl:=by
 intro args H p r H' h hp
 unfold zOl at h
 split at h
 case h_2=> cases h
 simp only[Option.map_eq_some_iff,Option.bind_eq_some_iff] at h
 obtain⟨q,hv,l,hl,h⟩:=h
 rename_i k z c n v
 cases h
 obtain⟨rfl,rfl,rfl,h1,h2⟩:=hp
 have hl2:=zFj hl
 obtain⟨hb2,he2,n3⟩:=zG2 hv
 obtain⟨n1,n2⟩:=zJv hb2 he2 hl2
 exact (qMl l.1 q.2.2.1 q.2.2.2 l.2 c h1 h2).atK (zAb rfl) [k,q.1,q.2.1] (by simp[n1,n2,n3]) (by simp) (by simp[hl2,hb2,he2]) (by simp[jY]) (by simp) (by simp[zGq n1 n2 hb2 he2])
end YtnemoimbeefngaaGreat
end Go.Proofs
namespace Go.Proofs
namespace YtnemoimbeefngaaGreat
open Go.Abs
def zR0:List (FuncId × qQ GD):=[(104,zOl)]
theorem qE0:∀x∈zR0,qE Tryz.prog cfg x.1 x.2:=by simp[zR0,qBa]
theorem qPa (e tb:TypeId) (eg:NS) (l:List (FN eg)) (c:Nat) (hl:l.length<=90000) (hn:Nm fnN l):
  zP Tryz.prog cfg 43 [.slice (some ⟨0,0,none⟩) l.length c,(jY 1)] (AH.of [some (.arr e (xR l)),some (.arr tb [.pointer (some ⟨2,0,none⟩)]),some (.hi (.eng eg))])
  fun r H'=> r=.ret (.tuple #[])/\H'=AH.of [some (.arr e (xR (zAr l))),some (.arr tb [.pointer (some ⟨2,0,none⟩)]),some (.hi (.eng eg))]:=by
 refine zP.ends ?_
 obtain⟨z,hz⟩:∃z,l.length=z:=⟨_,rfl⟩
 rw[hz] at hl⊢
 refine zY (tbl:=zR0) qE0 0 0 (af:=a43) rfl ?_
 rw[a43,b43,qB]
 refine⟨by simp,?_⟩
 simp -implicitDefEqProofs [zR0,zOl,zEy,jY,zCo,zCj,hz,hl,hn]
 refine zA [] [0,1,2] ?_ ?_ ?_<;> simp
def zR3:qQ GD:=fun args H=> match args with
 |[.slice (some ⟨k,0,none⟩) z _,v]=> (zEy H v).bind fun q=> (zCo q.2.2.2 H k).map fun l=> (z=l.2.length/\v=jY q.1/\l.2.length<=90000/\Nm fnN l.2,.ret (.tuple #[]),H.upd k (.arr l.1 (xR (zAr l.2))))
 |_=> none
theorem qFq:qE Tryz.prog cfg 43 zR3:=by
 intro args H p r H' h hp
 unfold zR3 at h
 split at h
 case h_2=> cases h
 simp only[Option.map_eq_some_iff,Option.bind_eq_some_iff] at h
 obtain⟨q,hv,l,hl,h⟩:=h
 rename_i k z c v
 cases h
 obtain⟨rfl,rfl,h1,h2⟩:=hp
 have hl2:=zFj hl
 obtain⟨hb2,he2,n3⟩:=zG2 hv
 obtain⟨n1,n2⟩:=zJv hb2 he2 hl2
 exact (qPa l.1 q.2.2.1 q.2.2.2 l.2 c h1 h2).atK (zAb rfl) [k,q.1,q.2.1] (by simp[n1,n2,n3]) (by simp) (by simp[hl2,hb2,he2]) (by simp[jY]) (by simp) (by simp[zGq n1 n2 hb2 he2])
def idL (s:NS):List (FN s):=List.finRange s.ky.length
theorem zXr (s:NS):(idL s).length=s.ky.length:=by simp[idL]
theorem qDb (s:NS):Nm fnN (idL s):=by
 unfold Nm idL
 rw[List.pairwise_iff_getElem]
 intro i j hi hj hij
 simp[fnN]
 exact hij
def zF3 (s:NS):List Nat:=(zAr (idL s)).map (·.val)
def zEj (l:List Nat):List Int:=l.map fun n:Nat=> (n:Int)
theorem qBr {s:NS} (l:List (FN s)):xR l=jA (zEj (l.map (·.val))):=by simp[xR,jA,zEj]
def upL (i z:Nat):List Int:=(List.range z).map fun j=> if j<i then (j:Int) else 0
theorem qKf (i z:Nat):(upL i z).length=z:=by simp[upL]
theorem qEo (z:Nat):jA (upL 0 z)=List.replicate z (Value.int .i64 0):=by
 have:upL 0 z=List.replicate z 0:=by
  unfold upL
  refine List.ext_getElem (by simp) fun i h1 h2=> by simp
 rw[this]
 simp[jA]
theorem qEp {i z:Nat} (h:i<z):(jA (upL i z)).set i (.int .i64 i)=jA (upL (i+1) z):=by
 unfold jA upL
 refine List.ext_getElem (by simp) fun j h1 h2=> ?_
 simp only[List.getElem_set,List.getElem_map,List.getElem_range]
 split
 ·subst i;simp
 ·congr 1
  by_cases hj:j<i
  ·rw[if_pos hj,if_pos (by omega)]
  ·rw[if_neg hj,if_neg (by omega)]
theorem qKg (s:NS):jA (upL s.ky.length s.ky.length)=xR (idL s):=by
 unfold jA upL xR idL
 refine List.ext_getElem (by simp) fun j h1 h2=> ?_
 simp only[List.getElem_map,List.getElem_range,List.getElem_finRange]
 simp at h1
 simp[h1]
def zMa:List (FuncId × qQ GD):=[(43,zR3)]
theorem zOg:∀x∈zMa,qE Tryz.prog cfg x.1 x.2:=by simp[zMa,qFq]
def onI (s:NS) (z m:Nat) (tm:Nat->Value) (H:AH GD):Prop:=∃i:Nat,m+i=z/\tm 1=.pointer (some ⟨1,0,none⟩)/\tm 3=.slice (some ⟨12,0,none⟩) z 1/\tm 14=.int .i64 z/\tm 15=.int .i64 i/\
 H=AH.of [some (.hi (.eng s)),some (.arr 23 [.pointer (some ⟨0,0,none⟩)]),none,none,none,none,none,none,none,none,none,none,some (.arr 3 (jA (upL i z)))]
theorem qPm (s:NS) (hl:s.ky.length<=90000):zP Tryz.prog cfg 13 [.pointer (some ⟨0,0,none⟩)] (AH.of [some (.hi (.eng s))])
  fun r H'=> r=.ret (.slice (some ⟨1,0,none⟩) s.ky.length 1)/\H'=AH.of [some (.hi (.eng s)),some (.arr 3 (jA (zEj (zF3 s))))]:=by
 refine zP.ends ?_
 have hnm:=qDb s
 have hid:=zXr s
 have hall:=qKg s
 have hord:xR (zAr (idL s))=jA (zEj (zF3 s)):=qBr _
 obtain⟨z,hz⟩:∃z,s.ky.length=z:=⟨_,rfl⟩
 have hz9:z*8<=140737488355328/\z<=9223372036854775807:=by omega
 have hz8:8*(z:Int)<=140737488355328/\(z:Int)<=9223372036854775807:=by omega
 have hz0:(0:Int)<=z:=by omega
 rw[hz] at hall hid
 refine zY (tbl:=zMa) zOg 90001 3 (af:=a13) rfl ?_
 rw[a13,b13,qB]
 refine⟨by simp,?_⟩
 simp -implicitDefEqProofs [zJ,hz,hz8,hz0]
 rw[←qEo z]
 refine zBj (jE xE (jG zOg) _ _ noY qX) (onI s z) (m:=z) ?_ (by omega) ?_
 ·refine qN [.pack (GD.eng s) 0 [2,3,4,5,6,7,8,9,10,11]] [0,1,2,3,4,5,6,7,8,9,10,11,12] ([some (.hi (.eng s)),some (.arr 23 [.pointer (some ⟨0,0,none⟩)]),none,none,none,none,none,none,none,none,none,none,some (.arr 3 (jA (upL 0 z)))]) z (by omega) ?_ ?_ ⟨0,?_⟩<;> simp[zJ,hz]
  done
 rintro m tm H ⟨i,hm,t1,t3,t14,t15,rfl⟩
 by_cases hi:i<z
 ·have hi':(i:Int)<z:=by omega
  have hwr:=xQ hi (by omega)
  have hul:=qKf i z
  have hsu:=qEp hi
  simp -implicitDefEqProofs [t1,t3,t14,t15,hi,hi',hwr,hul,hsu]
  refine⟨hi,?_⟩
  refine qN [] [0,1,2,3,4,5,6,7,8,9,10,11,12] ([some (.hi (GD.eng s)),some (.arr 23 [.pointer (some ⟨0,0,none⟩)]),none,none,none,none,none,none,none,none,none,none,some (.arr 3 (jA (upL (i+1) z)))]) (m - 1) (by omega) ?_ ?_ ⟨i+1,by omega,?_⟩<;> simp[t1,t3,t14]
 ·have hie:i=z:=by omega
  subst hie
  have hi':¬(i:Int)<i:=by omega
  rw[hall]
  have hl2:i<=90000:=by omega
  simp -implicitDefEqProofs [zMa,zR3,zEy,jY,zCo,zCj,t1,t3,t14,t15,hid,hl2,hnm,hord]
  refine zA [] [0,12] ?_ ?_ ?_<;> simp[hz]
def zPr:qQ GD:=fun args H=> match args with
 |[.pointer (some ⟨k,0,none⟩)]=> match H.get k with
  |some (.hi (.eng s))=> some (s.ky.length<=90000,.ret (.slice (some ⟨H.next,0,none⟩) s.ky.length 1),H.add (.arr 3 (jA (zEj (zF3 s)))))
  |_=> none
 |_=> none
theorem qLi:qE Tryz.prog cfg 13 zPr:=by
 intro args H p r H' h hp
 unfold zPr at h
 split at h
 case h_2=> cases h
 split at h
 case h_2=> cases h
 rename_i k x s hk
 cases h
 exact (qPm s hp).atK (zAb rfl) [k] (by simp) (by simp) (by simp[hk]) (by simp) (by simp) (by simp[jF hk])
end YtnemoimbeefngaaGreat
end Go.Proofs
namespace Go.Proofs
namespace YtnemoimbeefngaaGreat
open Go.Abs
def zBa (s:NS) (i:Nat):List Int:=match s.ts i with
 |some a=> if a.dec=true then [(a.n:Int)] else []
 |none=> []
def xU (s:NS):Nat->List Int
 |0=> []
 |i+1=> xU s i++zBa s i
theorem zN0 (s:NS):∀i,(xU s i).length<=i
 |0=> by simp[xU]
 |i+1=> by
  have:=zN0 s i
  rw[xU,List.length_append]
  unfold zBa
  split
  ·split<;> simp<;> omega
  ·simp;omega
theorem zLy {s:NS} {n:Int}:∀{i},n∈xU s i↔∃th a,th<i/\s.ts th=some a/\a.dec=true/\n=(a.n:Int)
 |0=> by simp[xU]
 |i+1=> by
  rw[xU,List.mem_append,zLy]
  constructor
  ·rintro (⟨th,a,h1,h2,h3,h4⟩|h)
   ·exact⟨th,a,by omega,h2,h3,h4⟩
   ·unfold zBa at h
    split at h
    ·rename_i a ha
     split at h
     ·rename_i hd
      exact⟨i,a,by omega,ha,hd,by simpa using h⟩
     ·cases h
    ·cases h
  ·rintro⟨th,a,h1,h2,h3,h4⟩
   by_cases e:th=i
   ·subst e
    right
    unfold zBa
    rw[h2]
    simp[h3,h4]
   ·exact .inl ⟨th,a,by omega,h2,h3,h4⟩
theorem qNz {s:NS} {es:List MapEntry} {cc:Nat} (h:zAf (tpF 0 s.ts) es cc):zB2 false (.int .i64 0) es=some (jI 7 (s.ts 0))/\zB2 false (.int .i64 1) es=some (jI 8 (s.ts 1))/\zB2 false (.int .i64 2) es=some (jI 9 (s.ts 2))/\zB2 false (.int .i64 3) es=some (jI 10 (s.ts 3)):=by
 refine⟨?_,?_,?_,?_⟩<;> rw[zUp h (zNd _ _)]
 ·exact congrArg some (zSr _ _ _ _ _)
 ·exact congrArg some (zSq _ _ _ _ _)
 ·exact congrArg some (zSp _ _ _ _ _)
 ·exact congrArg some (zSo _ _ _ _ _)
theorem zD4 {ts:Nat->Option Att} {es:List MapEntry} {cc:Nat} (h:zAf (tpF 0 ts) es cc) {θ:Nat->Nat} (h7:θ 7=7) (h8:θ 8=8) (h9:θ 9=9) (h10:θ 10=10):
  es=es.map fun e=> { key:=ren θ e.key,val:=ren θ e.val,born:=e.born }:=by
 have hm:∀p∈tpF 0 ts,ren θ p.1=p.1/\ren θ p.2=p.2:=by
  intro p hp
  simp only[tpF,tpK,List.mem_append] at hp
  rcases hp with hp|hp|hp|hp<;> (unfold tp1 at hp;split at hp)<;> simp at hp<;> subst hp<;> simp[ren,h7,h8,h9,h10]
 conv=> lhs;rw[←List.map_id es]
 refine List.map_congr_left fun e he=> ?_
 obtain⟨a,b⟩:=hm (e.key,e.val) (h.1.mem_iff.1 (List.mem_map.2 ⟨e,he,rfl⟩))
 simp only at a b
 rw[a,b];rfl
def zR2:List (FuncId × qQ GD):=[(47,st47)]
theorem zS1:∀x∈zR2,qE Tryz.prog cfg x.1 x.2:=by simp[zR2,qK8]
def deI (s:NS) (es:List MapEntry) (cc m:Nat) (tm:Nat->Value) (H:AH GD):Prop:=∃i:Nat,m+i=4/\tm 0=.pointer (some ⟨0,0,none⟩)/\tm 6=.int .i64 i/\tm 3=.slice (some ⟨11,0,none⟩) (xU s i).length 1/\H=AH.of (qW s 0 es cc++[some (.arr 3 (jA (xU s i)))])
theorem qPl (s:NS):zP Tryz.prog cfg 14 [.pointer (some ⟨0,0,none⟩)] (AH.of [some (.hi (.eng s))])
  fun r H'=> r=.ret (.slice (some ⟨1,0,none⟩) (xU s 4).length 1)/\H'=AH.of [some (.hi (.eng s)),some (.arr 3 (jA (zDm (xU s 4))))]:=by
 refine zP.ends ?_
 refine zP.openEng (th:=0) (by omega) fun es cc hes=> ?_
 obtain⟨f0,f1,f2,f3⟩:=qNz hes
 refine zY (tbl:=zR2) zS1 5 3 (af:=a14) rfl ?_
 rw[a14,b14,qB]
 refine⟨by simp,?_⟩
 simp -implicitDefEqProofs [qW,o1,o2,o3]
 refine zBj (jE xE (jG zS1) _ _ noY qX) (deI s es cc) (m:=4) ?_ (by omega) ?_
 ·refine zGu [.nil 3] [0,1,2,3,4,5,6,7,8,9,10,11] (qW s 0 es cc++[some (.arr 3 (jA []))]) [(3,.slice (some ⟨11,0,none⟩) 0 1)] 4 (by omega) ?_ ?_ ?_ ⟨0,?_⟩<;> simp[qW,o1,o2,o3,xU,show jA []=[] from rfl]<;> exact zD4 hes rfl rfl rfl rfl
  done
 rintro m tm H ⟨i,hm,t0,t6,t3,rfl⟩
 have hle:=zN0 s i
 by_cases hi:i<4
 ·have hr3:((xU s i).length+1)*8<=140737488355328/\(xU s i).length<=9223372036854775806:=by omega
  have htk:=zQp (xU s i)
  have hil:(xU s i).length<=(jA (xU s i)).length:=by rw[zEw];omega
  have hsuc:xU s (i+1)=xU s i++zBa s i:=rfl
  have hi4:i=0∨i=1∨i=2∨i=3:=by omega
  rcases hi4 with rfl|rfl|rfl|rfl
  ·have hwr:IntKind.i64.wrap (0+1)=1:=by decide
   have hwr2:IntKind.i64.wrap 1=1:=by decide
   generalize xU s 0=out at*
   cases ha:s.ts 0 with
   |none=>
    have hd:zBa s 0=[]:=by simp[zBa,ha]
    rw[hd,List.append_nil] at hsuc
    simp -implicitDefEqProofs [qW,o1,o2,o3,forms46,a46,b46,jI,f0,hwr,hwr2,t0,t6,t3,ha]
    refine qN [] [0,1,2,3,4,5,6,7,8,9,10,11] (qW s 0 es cc++[some (.arr 3 (jA (xU s 1)))]) (m - 1) (by omega) ?_ ?_ ⟨1,by omega,?_⟩<;> simp[qW,o1,o2,o3,ha,t0,t3,hsuc]<;> exact zD4 hes rfl rfl rfl rfl
   |some a=>
    cases hdec:a.dec with
    |false=>
     have hd:zBa s 0=[]:=by simp[zBa,ha,hdec]
     rw[hd,List.append_nil] at hsuc
     simp -implicitDefEqProofs [qW,o1,o2,o3,forms46,a46,b46,jI,f0,hwr,hwr2,t0,t6,t3,ha,zD,zH,hdec]
     refine qN [.pack (GD.att a) 7 [12,13]] [0,1,2,3,4,5,6,7,8,9,10,11] (qW s 0 es cc++[some (.arr 3 (jA (xU s 1)))]) (m - 1) (by omega) ?_ ?_ ⟨1,by omega,?_⟩<;> simp[qW,o1,o2,o3,ha,zD,zH,hdec,t0,t3,hsuc]<;> exact zD4 hes rfl rfl rfl rfl
    |true=>
     have hd:zBa s 0=[(a.n:Int)]:=by simp[zBa,ha,hdec]
     rw[hd] at hsuc
     simp -implicitDefEqProofs [qW,o1,o2,o3,forms46,a46,b46,jI,f0,hwr,hwr2,t0,t6,t3,ha,zD,zH,hdec,hr3,htk,hil]
     refine qN [.pack (GD.att a) 7 [12,13]] [0,1,2,3,4,5,6,7,8,9,10,15] (qW s 0 es cc++[some (.arr 3 (jA (xU s 1)))]) (m - 1) (by omega) ?_ ?_ ⟨1,by omega,?_⟩<;> simp[qW,o1,o2,o3,ha,zD,zH,hdec,t0,hsuc,zFu,zFt]<;> exact zD4 hes rfl rfl rfl rfl
  ·have hwr:IntKind.i64.wrap (1+1)=2:=by decide
   have hwr2:IntKind.i64.wrap 2=2:=by decide
   generalize xU s 1=out at*
   cases ha:s.ts 1 with
   |none=>
    have hd:zBa s 1=[]:=by simp[zBa,ha]
    rw[hd,List.append_nil] at hsuc
    simp -implicitDefEqProofs [qW,o1,o2,o3,forms46,a46,b46,jI,f1,hwr,hwr2,t0,t6,t3,ha]
    refine qN [] [0,1,2,3,4,5,6,7,8,9,10,11] (qW s 0 es cc++[some (.arr 3 (jA (xU s 2)))]) (m - 1) (by omega) ?_ ?_ ⟨2,by omega,?_⟩<;> simp[qW,o1,o2,o3,ha,t0,t3,hsuc]<;> exact zD4 hes rfl rfl rfl rfl
   |some a=>
    cases hdec:a.dec with
    |false=>
     have hd:zBa s 1=[]:=by simp[zBa,ha,hdec]
     rw[hd,List.append_nil] at hsuc
     simp -implicitDefEqProofs [qW,o1,o2,o3,forms46,a46,b46,jI,f1,hwr,hwr2,t0,t6,t3,ha,zD,zH,hdec]
     refine qN [.pack (GD.att a) 8 [12,13]] [0,1,2,3,4,5,6,7,8,9,10,11] (qW s 0 es cc++[some (.arr 3 (jA (xU s 2)))]) (m - 1) (by omega) ?_ ?_ ⟨2,by omega,?_⟩<;> simp[qW,o1,o2,o3,ha,zD,zH,hdec,t0,t3,hsuc]<;> exact zD4 hes rfl rfl rfl rfl
    |true=>
     have hd:zBa s 1=[(a.n:Int)]:=by simp[zBa,ha,hdec]
     rw[hd] at hsuc
     simp -implicitDefEqProofs [qW,o1,o2,o3,forms46,a46,b46,jI,f1,hwr,hwr2,t0,t6,t3,ha,zD,zH,hdec,hr3,htk,hil]
     refine qN [.pack (GD.att a) 8 [12,13]] [0,1,2,3,4,5,6,7,8,9,10,15] (qW s 0 es cc++[some (.arr 3 (jA (xU s 2)))]) (m - 1) (by omega) ?_ ?_ ⟨2,by omega,?_⟩<;> simp[qW,o1,o2,o3,ha,zD,zH,hdec,t0,hsuc,zFu,zFt]<;> exact zD4 hes rfl rfl rfl rfl
  ·have hwr:IntKind.i64.wrap (2+1)=3:=by decide
   have hwr2:IntKind.i64.wrap 3=3:=by decide
   generalize xU s 2=out at*
   cases ha:s.ts 2 with
   |none=>
    have hd:zBa s 2=[]:=by simp[zBa,ha]
    rw[hd,List.append_nil] at hsuc
    simp -implicitDefEqProofs [qW,o1,o2,o3,forms46,a46,b46,jI,f2,hwr,hwr2,t0,t6,t3,ha]
    refine qN [] [0,1,2,3,4,5,6,7,8,9,10,11] (qW s 0 es cc++[some (.arr 3 (jA (xU s 3)))]) (m - 1) (by omega) ?_ ?_ ⟨3,by omega,?_⟩<;> simp[qW,o1,o2,o3,ha,t0,t3,hsuc]<;> exact zD4 hes rfl rfl rfl rfl
   |some a=>
    cases hdec:a.dec with
    |false=>
     have hd:zBa s 2=[]:=by simp[zBa,ha,hdec]
     rw[hd,List.append_nil] at hsuc
     simp -implicitDefEqProofs [qW,o1,o2,o3,forms46,a46,b46,jI,f2,hwr,hwr2,t0,t6,t3,ha,zD,zH,hdec]
     refine qN [.pack (GD.att a) 9 [12,13]] [0,1,2,3,4,5,6,7,8,9,10,11] (qW s 0 es cc++[some (.arr 3 (jA (xU s 3)))]) (m - 1) (by omega) ?_ ?_ ⟨3,by omega,?_⟩<;> simp[qW,o1,o2,o3,ha,zD,zH,hdec,t0,t3,hsuc]<;> exact zD4 hes rfl rfl rfl rfl
    |true=>
     have hd:zBa s 2=[(a.n:Int)]:=by simp[zBa,ha,hdec]
     rw[hd] at hsuc
     simp -implicitDefEqProofs [qW,o1,o2,o3,forms46,a46,b46,jI,f2,hwr,hwr2,t0,t6,t3,ha,zD,zH,hdec,hr3,htk,hil]
     refine qN [.pack (GD.att a) 9 [12,13]] [0,1,2,3,4,5,6,7,8,9,10,15] (qW s 0 es cc++[some (.arr 3 (jA (xU s 3)))]) (m - 1) (by omega) ?_ ?_ ⟨3,by omega,?_⟩<;> simp[qW,o1,o2,o3,ha,zD,zH,hdec,t0,hsuc,zFu,zFt]<;> exact zD4 hes rfl rfl rfl rfl
  ·have hwr:IntKind.i64.wrap (3+1)=4:=by decide
   have hwr2:IntKind.i64.wrap 4=4:=by decide
   generalize xU s 3=out at*
   cases ha:s.ts 3 with
   |none=>
    have hd:zBa s 3=[]:=by simp[zBa,ha]
    rw[hd,List.append_nil] at hsuc
    simp -implicitDefEqProofs [qW,o1,o2,o3,forms46,a46,b46,jI,f3,hwr,hwr2,t0,t6,t3,ha]
    refine qN [] [0,1,2,3,4,5,6,7,8,9,10,11] (qW s 0 es cc++[some (.arr 3 (jA (xU s 4)))]) (m - 1) (by omega) ?_ ?_ ⟨4,by omega,?_⟩<;> simp[qW,o1,o2,o3,ha,t0,t3,hsuc]<;> exact zD4 hes rfl rfl rfl rfl
   |some a=>
    cases hdec:a.dec with
    |false=>
     have hd:zBa s 3=[]:=by simp[zBa,ha,hdec]
     rw[hd,List.append_nil] at hsuc
     simp -implicitDefEqProofs [qW,o1,o2,o3,forms46,a46,b46,jI,f3,hwr,hwr2,t0,t6,t3,ha,zD,zH,hdec]
     refine qN [.pack (GD.att a) 10 [12,13]] [0,1,2,3,4,5,6,7,8,9,10,11] (qW s 0 es cc++[some (.arr 3 (jA (xU s 4)))]) (m - 1) (by omega) ?_ ?_ ⟨4,by omega,?_⟩<;> simp[qW,o1,o2,o3,ha,zD,zH,hdec,t0,t3,hsuc]<;> exact zD4 hes rfl rfl rfl rfl
    |true=>
     have hd:zBa s 3=[(a.n:Int)]:=by simp[zBa,ha,hdec]
     rw[hd] at hsuc
     simp -implicitDefEqProofs [qW,o1,o2,o3,forms46,a46,b46,jI,f3,hwr,hwr2,t0,t6,t3,ha,zD,zH,hdec,hr3,htk,hil]
     refine qN [.pack (GD.att a) 10 [12,13]] [0,1,2,3,4,5,6,7,8,9,10,15] (qW s 0 es cc++[some (.arr 3 (jA (xU s 4)))]) (m - 1) (by omega) ?_ ?_ ⟨4,by omega,?_⟩<;> simp[qW,o1,o2,o3,ha,zD,zH,hdec,t0,hsuc,zFu,zFt]<;> exact zD4 hes rfl rfl rfl rfl
 ·have hie:i=4:=by omega
  subst hie
  have hd6:(xU s 4).length<=1000000:=by omega
  simp -implicitDefEqProofs [qW,o1,o2,o3,zR2,st47,sl0,zAl,t0,t6,t3,hd6]
  refine zA [.pack (GD.eng s) 0 [1,2,3,4,5,6,7,8,9,10]] [0,11] ?_ ?_ ?_<;> simp[zJ,o1,o2,o3]<;> exact hes
def zPq:qQ GD:=fun args H=> match args with
 |[.pointer (some ⟨k,0,none⟩)]=> match H.get k with
  |some (.hi (.eng s))=> some (True,.ret (.slice (some ⟨H.next,0,none⟩) (xU s 4).length 1),H.add (.arr 3 (jA (zDm (xU s 4)))))
  |_=> none
 |_=> none
theorem qLh:qE Tryz.prog cfg 14 zPq:=by
 intro args H p r H' h hp
 unfold zPq at h
 split at h
 case h_2=> cases h
 split at h
 case h_2=> cases h
 rename_i k x s hk
 cases h
 exact (qPl s).atK (zAb rfl) [k] (by simp) (by simp) (by simp[hk]) (by simp) (by simp) (by simp[jF hk])
end YtnemoimbeefngaaGreat
end Go.Proofs
namespace Go.Proofs
namespace YtnemoimbeefngaaGreat
open Go.Abs
variable {f:List Int} {s:NS}
theorem EvN.good {s:NS} (h:EvN s):EvG s.ev:=⟨fun x hx=> (h x hx).1,fun x hx=> (h x hx).2⟩
theorem qCf (s:NS):zH5 (zF3 s)=zEj (zF3 s):=rfl
theorem zNr (s:NS):(zF3 s).length=s.ky.length:=by
 unfold zF3
 rw[List.length_map]
 exact (zB7 fkN fnN (idL s)).trans (zXr s)
theorem zXc (s:NS):(zF3 s).Pairwise (zQj (jT s).as):=by
 unfold zF3
 rw[List.pairwise_map]
 refine (zGc fkN fnN (qDb s)).imp ?_
 intro a b hab
 unfold Lex fkN fnN at hab
 show jK s.ky a.val<jK s.ky b.val∨(jK s.ky a.val=jK s.ky b.val/\a.val<b.val)
 omega
theorem zT4 (s:NS) (n:Nat):n∈zF3 s↔n<s.ky.length:=by
 unfold zF3
 rw[List.mem_map]
 constructor
 ·rintro⟨x,_,rfl⟩
  exact x.isLt
 ·intro hn
  exact⟨⟨n,hn⟩,(zBy fkN fnN (idL s)).mem_iff.2 (by simp[idL]),rfl⟩
theorem NOp.decN (h:NOp f s):DecN s (zDm (xU s 4)):=by
 intro x
 rw[(zFs _).mem_iff,zLy]
 constructor
 ·rintro⟨th,a,_,h2,h3,h4⟩;exact⟨th,a,h2,h3,h4⟩
 ·rintro⟨th,a,h2,h3,h4⟩
  refine⟨th,a,?_,h2,h3,h4⟩
  by_cases hth:th<4
  ·exact hth
  ·rw[h.ok.th4 th (by omega)] at h2;cases h2
theorem zNb (h:NOp f s):∀i,(xU s i).Nodup
 |0=> by simp[xU]
 |i+1=> by
  rw[xU,List.nodup_append]
  refine⟨zNb h i,?_,?_⟩
  ·unfold zBa
   split
   ·split<;> simp
   ·simp
  ·intro x hx y hy e
   subst e
   obtain⟨th,a,h1,h2,h3,h4⟩:=zLy.1 hx
   unfold zBa at hy
   split at hy
   ·rename_i b hb
    split at hy
    ·simp only[List.mem_singleton] at hy
     have:=h.ev.nu th i _ _ (h.lv h2) (h.lv hb) (by simp only;omega)
     omega
    ·cases hy
   ·cases hy
theorem NOp.lgl (h:NOp f s) (hv:EvN s) (hl:s.ev.length<=400) (hf:1<=f.length/\f.length<=12) (hfr:∀v∈f,jN v=true/\0<=v/\v<18446744073709551616):Lgl s.ev f (zEj (zF3 s)) (zDm (xU s 4)) where
 a:={
  r:=h.right hl
  ll:=by omega
  ev:=hv.good
  fl:=hf
  fr:=hfr
  cl:=by have:=zN0 s 4;rw[(zFs _).length_eq];omega
  cn:=(zFs _).nodup_iff.2 (zNb h 4)
  cs:=by
   intro x hx
   obtain⟨th,a,ha,hd,rfl⟩:=(h.decN x).1 hx
   have hst:=h.ev.st th _ (h.lv ha)
   have hlk:=(h.ok.dec th a ha).1 hd
   simp only at hst
   rw[hst]
   have ht:trN a=true:=by
    unfold trN
    have:a.at_≠0:=by omega
    simp[hlk.2.1,hlk.2.2.1,this]
   rw[ht];rfl }
 ol:=by rw[h.ev.ats,List.length_map,List.length_range];unfold zEj;rw[List.length_map];exact zNr s
 nd:=by
  unfold zEj
  refine List.nodup_iff_pairwise_ne.2 (List.pairwise_map.2 ((zXc s).imp ?_))
  intro a b hab e
  unfold zQj at hab
  have:a=b:=by omega
  subst this
  omega
 mem:=by
  intro x hx
  unfold zEj at hx
  rw[List.mem_map] at hx
  obtain⟨n,hn,rfl⟩:=hx
  rw[h.ev.ats,List.mem_map]
  exact⟨n,List.mem_range.2 ((zT4 s n).1 hn),rfl⟩
theorem NOp.found (h:NOp f s) (hf:f.length=s.hp.length):∃hp,zDy s.ev (zDm (xU s 4)) (zEj (zF3 s)) f=some hp/\hp.length=f.length/\(s.c % 2=0->hp=s.hp):=by
 rw[←qCf]
 exact h.legal hf h.decN (zXc s) (zT4 s)
theorem qHs (s:NS) (th:Nat):(zA5 s th).2.hp.length=s.hp.length:=by
 unfold zA5
 split
 ·rfl
 split
 ·rfl
 split
 ·unfold zCu
  repeat' split
  all_goals rfl
 split
 ·rfl
 split
 ·unfold zDp
  repeat' split
  all_goals first|rfl|exact List.length_set
 split
 ·unfold zEg
  repeat' split
  all_goals rfl
 ·unfold zDd
  repeat' split
  all_goals rfl
theorem zXk {s:NS} (l:List Dd) (hsd:zB9 l=s):s.hp.length=5:=by
 have key:∀(l:List Dd) (s:NS),(l.foldl zBl s).hp.length=s.hp.length:=by
  intro l
  induction l with
  |nil=> intro s;rfl
  |cons d l ih=>
   intro s
   rw[List.foldl_cons,ih]
   unfold zBl zDt zE9 zDe zFy
   repeat' split
   all_goals first
    |rfl
    |(unfold qL;split<;> rfl)
    |(unfold zGi;repeat' split
      all_goals rfl)
    |exact qHs _ _
 rw[←hsd]
 exact key l _
theorem zQ0:∀v∈zCi,jN v=true/\0<=v/\v<18446744073709551616:=by decide
end YtnemoimbeefngaaGreat
end Go.Proofs
namespace Go.Proofs
namespace YtnemoimbeefngaaGreat
open Go.Abs
def zJ5:List (FuncId × qQ GD):=[(8,st8),(9,st9),(12,zJh),(11,zLc),(13,zPr),(14,zPq),(16,zTd),(17,qA d17),(18,zTb),(10,zJ8),(15,zJu)]
theorem zSz:∀x∈zJ5,qE Tryz.prog cfg x.1 x.2:=by simp[zJ5,qOs,qOr,zPs,zW4,qLi,qLh,qLg,qLf,qLe,zVt,zYg]
theorem runs3 (l:List Dd) (tg:Nat) (hl:∀d∈l,d.Ok):zP Tryz.prog cfg 3 [.slice (some ⟨0,0,none⟩) l.length tg] (AH.of [some (.ro (dds l))])
  fun r H'=> r=.ret (.bool true)/\H'=AH.of [some (.ro (dds l))]:=by
 refine zP.ends ?_
 have hl120:∀d∈l.take 120,d.Ok:=fun d hd=> hl d (List.mem_of_mem_take hd)
 obtain⟨s,hsd⟩:∃s,zB9 (l.take 120)=s:=⟨_,rfl⟩
 have hok:=zNq (l.take 120) hl120
 have htop:=zQx (l.take 120) hl120
 have hevn:=zQy (l.take 120) hl120
 rw[hsd] at hok htop hevn
 have hev:s.ev.length<=400:=by
  have:=hok.2;rw[List.length_take] at this;omega
 have hev2:s.ev.length<=1000000:=by omega
 have hky:s.ky.length<=90000:=by have:=hok.1.ky;omega
 have hlgl:=htop.lgl hevn hev (by decide) zQ0
 obtain⟨hp,hrun,hpl,hph⟩:=htop.found (by rw[zXk _ hsd];rfl)
 have hol:(zEj (zF3 s)).length=s.ky.length:=by unfold zEj;rw[List.length_map];exact zNr s
 have hcl:(zDm (xU s 4)).length=(xU s 4).length:=(zFs _).length_eq
 refine zY (tbl:=zJ5) zSz 0 0 (af:=a3) rfl ?_
 rw[a3,b3,qB]
 refine⟨by simp,?_⟩
 simp -implicitDefEqProofs [zJ5,st8,st9,zJh,zLc,zPr,zPq,zJ8,zB8,zAl,zD6,zBh,zKv,hsd,hev2,hky,hrun,hol,hcl,hlgl,zGn]
 refine⟨hl,zA [] [0] ?_ ?_ ?_⟩<;> simp
theorem runs4 (l:List Dd) (tg:Nat) (hl:∀d∈l,d.Ok):zP Tryz.prog cfg 4 [.slice (some ⟨0,0,none⟩) l.length tg] (AH.of [some (.ro (dds l))])
  fun r H'=> r=.ret (.bool true)/\H'=AH.of [some (.ro (dds l))]:=by
 refine zP.ends ?_
 have hl120:∀d∈l.take 120,d.Ok:=fun d hd=> hl d (List.mem_of_mem_take hd)
 obtain⟨s,hsd⟩:∃s,zB9 (l.take 120)=s:=⟨_,rfl⟩
 have hok:=zNq (l.take 120) hl120
 have htop:=zQx (l.take 120) hl120
 have hevn:=zQy (l.take 120) hl120
 rw[hsd] at hok htop hevn
 have hs:=hok.1
 have hev:s.ev.length<=400:=by
  have:=hok.2;rw[List.length_take] at this;omega
 have hev2:s.ev.length<=1000000:=by omega
 have hky:s.ky.length<=90000:=by have:=hok.1.ky;omega
 have hlgl:=htop.lgl hevn hev (by decide) zQ0
 have hp5:s.hp.length=5:=zXk _ hsd
 obtain⟨hp,hrun,hpl,hph⟩:=htop.found (by rw[hp5];rfl)
 have hpl5:hp.length=5:=hpl
 have hol:(zEj (zF3 s)).length=s.ky.length:=by unfold zEj;rw[List.length_map];exact zNr s
 have hcl:(zDm (xU s 4)).length=(xU s 4).length:=(zFs _).length_eq
 refine zY (tbl:=zJ5) zSz 0 0 (af:=a4) rfl ?_
 rw[a4,b4,qB]
 refine⟨by simp,?_⟩
 have hm:s.c % 2=0∨s.c % 2=1:=by omega
 have hc0:=hs.c
 rcases hm with hm|hm
 ·have he:=hph hm
  subst he
  have hm2:s.c.tmod 2=0:=by rw[Int.tmod_eq_emod_of_nonneg hc0.1];exact hm
  simp -implicitDefEqProofs [zJ5,qA,d17,st8,st9,zJh,zLc,zPr,zPq,zTd,zTb,zJu,zB8,zAl,zD6,zBh,zKv,hsd,hs,hev2,hky,hrun,hol,hcl,hlgl,zGn,hp5,hm2]
  refine⟨hl,zA [] [0] ?_ ?_ ?_⟩<;> simp
 ·have hm2:s.c.tmod 2=1:=by rw[Int.tmod_eq_emod_of_nonneg hc0.1];exact hm
  simp -implicitDefEqProofs [zJ5,qA,d17,st8,st9,zJh,zLc,zPr,zPq,zTd,zTb,zJu,zB8,zAl,zD6,zBh,zKv,hsd,hs,hev2,hky,hrun,hol,hcl,hlgl,zGn,hp5,hm2]
  refine⟨hl,zA [] [0] ?_ ?_ ?_⟩<;> simp
end YtnemoimbeefngaaGreat
end Go.Proofs
