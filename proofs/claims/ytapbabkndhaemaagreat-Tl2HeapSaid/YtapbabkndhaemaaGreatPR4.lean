/-
  OPAQUE: tl2: a read, a turn.
-/
import Derived.Test.YtapbabkndhaemaaGreatPR3
import Derived.Test.YtapbabkndhaemaaGreatPR1
import Derived.Test.YtapbabkndhaemaaGreatPR2
import Derived.WalkKit
set_option linter.unusedSimpArgs false
set_option linter.unusedVariables false
set_option linter.unnecessarySimpa false
set_option linter.unusedSectionVars false
set_option maxHeartbeats 32000000
set_option maxRecDepth 100000
namespace Go.Proofs
namespace YtapbabkndhaemaaGreat
open Go.Abs
theorem zYz {f:List Pr} {t v:Int} (h:qW f t=some v):(⟨t,v⟩:Pr)∈f:=by
 unfold qW at h
 rw[Option.map_eq_some_iff] at h
 obtain⟨p,h1,rfl⟩:=h
 have:p.t=t:=by simpa using List.find?_some h1
 subst this
 exact List.mem_of_find?_eq_some h1
theorem zKg {fs:List (List Pr)} {t v:Int} (h:qQ fs t=some v):∃g∈fs,(⟨t,v⟩:Pr)∈g:=by
 unfold qQ at h
 obtain⟨g,hg,h1⟩:=List.exists_of_findSome?_eq_some h
 exact⟨g,hg,zYz h1⟩
theorem zMg {ws:List Int} {i:Nat} (h:i<ws.length):zAx (zBl ws i)=xX ws i/\zBp (zBl ws i)=zAu ws i:=by
 obtain⟨w,hx⟩:∃w,ws[i]?=some w:=⟨ws[i],List.getElem?_eq_getElem h⟩
 have hr:inR ws i:=⟨by omega,by omega⟩
 unfold zBl zAu xX
 rw[if_pos hr,if_pos hr,zA0 hx,hx]
 exact⟨rfl,rfl⟩
theorem zZz {l:List Ent} {e x:Ent} (h:x∈l):x∈zDy l e:=by
 unfold zDy
 split
 ·exact List.mem_append_left _ h
 ·exact h
theorem qO2 {l:List Ent} {e:Ent} (h:zCe l e=0):∃x∈zDy l e,x.t=e.t:=by
 cases hg:zGq l e.t with
 |none=> exact⟨e,by simp[zDy,h,hg],rfl⟩
 |some y=>
  unfold zGq at hg
  have h1:y.t=e.t:=by simpa using List.find?_some hg
  exact⟨y,zZz (List.mem_of_find?_eq_some hg),h1⟩
variable {f:List Int} {s:TS}
theorem qAt {o:Ob} {a t v:Int} (h:qQ o.fs t=some v):obF o ⟨2,a,t,v⟩=o:=by
 unfold obF;simp[h]
theorem qAu {o:Ob} {a t v:Int} (h:qQ o.fs t=none):obF o ⟨2,a,t,v⟩=⟨o.fs,o.rds++[⟨t,v⟩],o.ok⟩:=by
 unfold obF;simp[h]
theorem zIj {a:TA} (h:a.ph=0):(la a).ph=0:=by simp[la,h]
theorem TOp.own (h:TOp f s) {th:Nat} {a:TA} (ha:s.ts th=some a) (k1:a.ra.k=1) {v:Int} (hg:qQ a.fs a.ra.t=some v) (hok:(zCl s th a v).Ok):TOp f (zCl s th a v):=by
 have hao:=h.ok.ts th a ha
 have hp0:=zG9 hao (by omega)
 have hra:=hao.ask.2.2.1 (.inl k1)
 have h12:=h.ok.hp.2
 have hlv:=h.lv ha
 have ho:(obS s.ev a.n).fs=a.fs:=h.ev.obl th _ hlv
 have hof:obF (obS s.ev a.n) ⟨2,a.n,a.ra.t,v⟩=obS s.ev a.n:=qAt (by rw[ho];exact hg)
 have hobs:∀n:Int,obS (s.ev++[⟨2,a.n,a.ra.t,v⟩]) n=obS s.ev n:=fun n=> by
  rw[zDo];split
  ·rename_i e;simp only at e;rw[←e];exact hof
  ·rfl
 have hrv:zAg v=true:=by
  obtain⟨g,hg1,hg2⟩:=zKg hg
  exact (h.ev.fr a.n g (by rw[ho];exact hg1) _ hg2).2.2
 refine h.told ha (y:=some { a with ra:=⟨0,0,0⟩ }) rfl hok ?_ (x:=⟨2,a.n,a.ra.t,v⟩) rfl ?_ rfl h.fn (fun _=> rfl) rfl (by simp) (fun b e=> ?_) (fun e=> by cases e)
 ·have hI:=h.inv.calm (th:=th) (b:=la { a with ra:=⟨0,0,0⟩ }) (h.ts ha) rfl rfl (fun _=> rfl) rfl (fun _ _ h=> h) (fun _ _=> Iff.rfl) rfl
  have e:jE (zCl s th a v)=(jE s).calm th (la { a with ra:=⟨0,0,0⟩ }):=by
   refine zFb rfl (fun i=> rfl) (fun i=> rfl) (fun i=> rfl) rfl (fun n=> rfl) (fun n t w=> ?_) (fun n t=> ?_) (fun i=> ?_)
   ·show (⟨t,w⟩:Pr)∈(obS (s.ev++[⟨2,a.n,a.ra.t,v⟩]) n).rds↔_
    rw[hobs];rfl
   ·show qQ (obS (s.ev++[⟨2,a.n,a.ra.t,v⟩]) n).fs t=_
    rw[hobs];rfl
   ·simp only[AS.calm,zCb,zCl,qB,jE]
    split<;> rfl
  have e2:(zCl s th a v).ws.length=s.ws.length:=rfl
  rw[e2,e];exact hI
 ·rw[zIg (s:=s) (s':=zCl s th a v) (th:=th) (x:=some { a with ra:=⟨0,0,0⟩ }) rfl]
  have:=h.ev.tell hlv (x:=⟨2,a.n,a.ra.t,v⟩) rfl (by simp) (b:=⟨false,false,a.fs⟩) (by simp[zDr,hp0,hrv];omega) (by rw[hof];exact ho.symm) (y:=some ⟨a.n,false,a.fs⟩) (by simp) (by rw[hof];exact h.ev.obo a.n) (by rw[hof];exact h.ev.ra a.n) (by rw[hof];exact h.ev.fr a.n)
   (fun _=> by have:=h.ev.st th _ hlv;simp only[hp0] at this;simpa using this) (by simp[zD6]) h.ok.ft
  simpa [zCl,hp0] using this
 ·cases e
  refine⟨rfl,(fun e=> by cases e),?_⟩
  show ∀r∈(obS (s.ev++[⟨2,a.n,a.ra.t,v⟩]) a.n).rds,_
  rw[hobs];exact h.oe th a ha
theorem TOp.seen (h:TOp f s) {th:Nat} {a:TA} (ha:s.ts th=some a) (k1:a.ra.k=1) (hg:qQ a.fs a.ra.t=none) (hss:a.ss=2) (hw:zBl s.ws (ofT s.ws a.ra.t)=a.sw) (hc:zCe a.es ⟨a.ra.t,a.sv,zAu s.ws (ofT s.ws a.ra.t)⟩=0)
  (hok:(zCl s th { a with ss:=3,es:=zDy a.es ⟨a.ra.t,a.sv,zAu s.ws (ofT s.ws a.ra.t)⟩ } a.sv).Ok):TOp f (zCl s th { a with ss:=3,es:=zDy a.es ⟨a.ra.t,a.sv,zAu s.ws (ofT s.ws a.ra.t)⟩ } a.sv):=by
 have hao:=h.ok.ts th a ha
 have hp0:=zG9 hao (by omega)
 have hra:=hao.ask.2.2.1 (.inl k1)
 have h12:=h.ok.hp.2
 have hlv:=h.lv ha
 have ho:(obS s.ev a.n).fs=a.fs:=h.ev.obl th _ hlv
 have hof:obF (obS s.ev a.n) ⟨2,a.n,a.ra.t,a.sv⟩=⟨(obS s.ev a.n).fs,(obS s.ev a.n).rds++[⟨a.ra.t,a.sv⟩],(obS s.ev a.n).ok⟩:=qAu (by rw[ho];exact hg)
 have hrv:zAg a.sv=true:=by
  unfold zCe at hc
  simp only at hc
  split at hc
  ·cases hc
  ·split at hc
   ·cases hc
   ·rename_i h1;simpa using h1
 obtain⟨hs1,hs2⟩:=zPe h.ok.tab (t:=a.ra.t) ⟨hra.1,by omega⟩
 obtain⟨hw1,hw2⟩:=zMg hs2
 rw[←hs1,hw] at hw1 hw2
 have hsw:=h.sw th a ha k1 (by omega)
 generalize hes:zDy a.es ⟨a.ra.t,a.sv,zAu s.ws (ofT s.ws a.ra.t)⟩=es at hok⊢
 refine h.told ha (y:=some { a with ss:=3,es:=es,ra:=⟨0,0,0⟩ }) rfl hok ?_ (x:=⟨2,a.n,a.ra.t,a.sv⟩) rfl ?_ rfl h.fn (fun _=> rfl) rfl (by simp) (fun b e=> ?_) (fun e=> by cases e)
 ·have hI:=(h.inv.read (th:=th) (h.ts ha) (by simp[la,k1,hss]) (by show xX s.ws (sfm s.ws.length a.ra.t)= -1;rw[←hw1];exact hsw) (by show zAu s.ws (sfm s.ws.length a.ra.t)=zBp a.sw;rw[hw2,hs1])).calm (th:=th) (b:=la { a with ss:=3,es:=es,ra:=⟨0,0,0⟩ }) (a:={ la a with ss:=0 }) (by simp[AS.read,zCb]) rfl rfl (fun _=> rfl) rfl (fun e=> by rw[show ({ la a with ss:=0 }:LA).ph=(la a).ph from rfl,zIj hp0] at e;cases e) (fun e=> by rw[show ({ la a with ss:=0 }:LA).ph=(la a).ph from rfl,zIj hp0] at e;cases e) (by simp[la])
  have e:jE (zCl s th { a with ss:=3,es:=es } a.sv)=((jE s).read th (la a)).calm th (la { a with ss:=3,es:=es,ra:=⟨0,0,0⟩ }):=by
   refine zFb rfl (fun i=> rfl) (fun i=> rfl) (fun i=> rfl) rfl (fun n=> rfl) (fun n t w=> ?_) (fun n t=> ?_) (fun i=> ?_)
   ·show (⟨t,w⟩:Pr)∈(obS (s.ev++[⟨2,a.n,a.ra.t,a.sv⟩]) n).rds↔((⟨t,w⟩:Pr)∈(obS s.ev n).rds∨(n=a.n/\t=a.ra.t/\w=a.sv))
    rw[zDo]
    split
    ·rename_i e;simp only at e
     have e':n=a.n:=by omega
     subst e'
     rw[hof]
     simp
    ·rename_i e;simp only at e
     have e':¬n=a.n:=by omega
     simp[e']
   ·show qQ (obS (s.ev++[⟨2,a.n,a.ra.t,a.sv⟩]) n).fs t=qQ (obS s.ev n).fs t
    rw[zDo]
    split
    ·rename_i e;simp only at e
     rw[←e,hof]
    ·rfl
   ·simp only[AS.calm,AS.read,zCb,zCl,qB,jE]
    split<;> rfl
  have e2:(zCl s th { a with ss:=3,es:=es } a.sv).ws.length=s.ws.length:=rfl
  rw[e2,e];exact hI
 ·rw[zIg (s:=s) (s':=zCl s th { a with ss:=3,es:=es } a.sv) (th:=th) (x:=some { a with ss:=3,es:=es,ra:=⟨0,0,0⟩ }) rfl]
  have:=h.ev.tell hlv (x:=⟨2,a.n,a.ra.t,a.sv⟩) rfl (by simp) (b:=⟨false,false,a.fs⟩) (by simp[zDr,hp0,hrv];omega) (by rw[hof];exact ho.symm) (y:=some ⟨a.n,false,a.fs⟩) (by simp) (by rw[hof];exact h.ev.obo a.n)
   (by
    rw[hof]
    intro r hr
    rcases List.mem_append.1 hr with hr|hr
    ·exact h.ev.ra a.n r hr
    ·simp only[List.mem_singleton] at hr;subst hr;exact hra)
   (by rw[hof];exact h.ev.fr a.n)
   (fun _=> by have:=h.ev.st th _ hlv;simp only[hp0] at this;simpa using this) (by simp[zD6]) h.ok.ft
  simpa [zCl,hp0] using this
 ·cases e
  refine⟨rfl,(fun e=> by cases e),?_⟩
  show ∀r∈(obS (s.ev++[⟨2,a.n,a.ra.t,a.sv⟩]) a.n).rds,_
  rw[zDo,if_pos rfl,hof]
  intro r hr
  subst hes
  rcases List.mem_append.1 hr with hr|hr
  ·obtain⟨x,hx,h1⟩:=h.oe th a ha r hr
   exact⟨x,zZz hx,h1⟩
  ·simp only[List.mem_singleton] at hr;subst hr
   exact qO2 hc
theorem TOp.read (h:TOp f s) {th:Nat} (hth:th<4) {a:TA} (ha:s.ts th=some a) (k1:a.ra.k=1):TOp f (zC8 s th a).2:=by
 have hok:=zWh h.ok hth ha k1
 have hao:=h.ok.ts th a ha
 have hp0:=zG9 hao (by omega)
 have hra:=hao.ask.2.2.1 (.inl k1)
 have hss:=hao.sr k1
 have h12:=h.ok.hp.2
 obtain⟨hs1,hs2⟩:=zPe h.ok.tab (t:=a.ra.t) ⟨hra.1,by omega⟩
 obtain⟨hw1,hw2⟩:=zMg hs2
 have hfree:zD4 s.ws th (ofT s.ws a.ra.t)=false->xX s.ws (sfm s.ws.length a.ra.t)= -1:=fun hb=> by
  have:=zQw h.ok.tab (th:=th) (x:=ofT s.ws a.ra.t) (by rw[hs1];omega) (by rw[(h.ok.lk th a ha).1 hp0];simp) (by simp[hb])
  rw[hs1] at this;simpa using this
 unfold zC8 at hok⊢
 cases hg:qQ a.fs a.ra.t with
 |some v=>
  rw[hg] at hok
  exact h.own ha k1 hg hok
 |none=>
  rw[hg] at hok
  simp only at hok⊢
  split at hok
  ·rename_i h0
   rw[if_pos h0]
   split at hok
   ·rename_i hb;rw[if_pos hb];exact h
   ·rename_i hb
    rw[if_neg hb]
    split at hok
    ·rename_i hv;rw[if_pos hv];exact h.end hth ha (by omega) 1
    ·rename_i hv
     rw[if_neg hv]
     have hb':zD4 s.ws th (ofT s.ws a.ra.t)=false:=by simpa using hb
     have hI:=h.inv.look (th:=th) (x:=a.ra.t) (h.ts ha) (zIj hp0) (hfree hb') (by show zAu s.ws (sfm s.ws.length a.ra.t)<=a.rv;rw[←hs1];omega)
     refine h.move ha rfl hok ?_ rfl rfl rfl h.fn rfl rfl Iff.rfl rfl (fun _ _=> ?_) (fun _ _=> rfl) (Int.le_refl _)
     ·have e:jE (zDq s th { a with ss:=1,sw:=zBl s.ws (ofT s.ws a.ra.t) })=(jE s).look (sfm s.ws.length) th (la a) a.ra.t:=by
       refine zFb rfl (fun i=> rfl) (fun i=> rfl) (fun i=> rfl) rfl (fun n=> rfl) (fun n t w=> Iff.rfl) (fun n t=> rfl) (fun i=> ?_)
       simp only[AS.look,zCb,zDq,qB,jE]
       split
       ·simp only[Option.map_some,la,k1,if_true,hs1,hw2]
       ·rfl
      show OInv (sfm s.ws.length) (hpF f) _
      rw[e];exact hI
     ·show zAx (zBl s.ws (ofT s.ws a.ra.t))= -1
      rw[hs1,hw1];exact hfree hb'
  ·rename_i h0
   rw[if_neg h0]
   split at hok
   ·rename_i h1
    rw[if_pos h1]
    have hI:=h.inv.see (th:=th) (h.ts ha) (by simp[la,k1,h1])
    refine h.move ha rfl hok ?_ rfl rfl rfl h.fn rfl rfl Iff.rfl rfl (fun _ _=> h.sw th a ha k1 (by omega)) (fun _ _=> rfl) (Int.le_refl _)
    have e:jE (zDq s th { a with ss:=2,sv:=(s.hp[a.ra.t.toNat]?).getD 0 })=(jE s).see th (la a):=by
     refine zFb rfl (fun i=> rfl) (fun i=> rfl) (fun i=> rfl) rfl (fun n=> rfl) (fun n t w=> Iff.rfl) (fun n t=> rfl) (fun i=> ?_)
     simp only[AS.see,zCb,zDq,qB,jE]
     split
     ·simp only[Option.map_some,la,k1,if_true,hpF,hra.1]
     ·rfl
    show OInv (sfm s.ws.length) (hpF f) _
    rw[e];exact hI
   ·rename_i h1
    rw[if_neg h1]
    split at hok
    ·rename_i hw
     rw[if_pos hw]
     split at hok
     ·rename_i hc
      rw[if_pos hc]
      exact h.seen ha k1 hg (by omega) hw hc hok
     ·rename_i hc;rw[if_neg hc];exact h.end hth ha (by omega) 2
    ·rename_i hw;rw[if_neg hw];exact h.end hth ha (by omega) 1
theorem TOp.turned (h:TOp f s) {th:Nat} {a:TA} (ha:s.ts th=some a) (hp0:a.ph=0) {k t v:Int} {fs:List (List Pr)} (hk:k=3∨(k=4∨k=5∨k=6)/\t=0/\v=0) (hact:zAn a.fs ⟨k,a.n,t,v⟩=(0,fs)) (hfr:∀g∈fs,∀p∈g,0<=p.t/\p.t<s.hp.length/\zAg p.v=true)
  (hok:({ s with ts:=qB s.ts th (some { a with ra:=⟨0,0,0⟩,fs:=fs }),ev:=s.ev++[⟨k,a.n,t,v⟩] }:TS).Ok):TOp f { s with ts:=qB s.ts th (some { a with ra:=⟨0,0,0⟩,fs:=fs }),ev:=s.ev++[⟨k,a.n,t,v⟩] }:=by
 have hlv:=h.lv ha
 have ho:(obS s.ev a.n).fs=a.fs:=h.ev.obl th _ hlv
 have hof:obF (obS s.ev a.n) ⟨k,a.n,t,v⟩=⟨fs,(obS s.ev a.n).rds,(obS s.ev a.n).ok⟩:=by
  unfold obF
  rw[if_neg (by simp only;omega),ho,hact]
 refine h.told ha (y:=some { a with ra:=⟨0,0,0⟩,fs:=fs }) rfl hok ?_ (x:=⟨k,a.n,t,v⟩) rfl ?_ rfl h.fn (fun _=> rfl) rfl (by simp only;omega) (fun b e=> ?_) (fun e=> by cases e)
 ·have hI:=(h.inv.note (th:=th) (L:=fun t=> qQ fs t) (h.ts ha) (zIj hp0)).calm (th:=th) (b:=la { a with ra:=⟨0,0,0⟩,fs:=fs }) (a:={ la a with ss:=0 }) (by simp[AS.note,zCb]) rfl rfl (fun _=> rfl) rfl (fun e=> by rw[show ({ la a with ss:=0 }:LA).ph=(la a).ph from rfl,zIj hp0] at e;cases e) (fun e=> by rw[show ({ la a with ss:=0 }:LA).ph=(la a).ph from rfl,zIj hp0] at e;cases e) (by simp[la])
  have e:jE { s with ts:=qB s.ts th (some { a with ra:=⟨0,0,0⟩,fs:=fs }),ev:=s.ev++[⟨k,a.n,t,v⟩] }=((jE s).note th (la a) fun t=> qQ fs t).calm th (la { a with ra:=⟨0,0,0⟩,fs:=fs }):=by
   refine zFb rfl (fun i=> rfl) (fun i=> rfl) (fun i=> rfl) rfl (fun n=> rfl) (fun n u w=> ?_) (fun n u=> ?_) (fun i=> ?_)
   ·show (⟨u,w⟩:Pr)∈(obS (s.ev++[⟨k,a.n,t,v⟩]) n).rds↔(⟨u,w⟩:Pr)∈(obS s.ev n).rds
    rw[zDo]
    split
    ·rename_i e;simp only at e
     rw[←e,hof]
    ·rfl
   ·show qQ (obS (s.ev++[⟨k,a.n,t,v⟩]) n).fs u=zAc (fun (n:Nat) t=> qQ (obS s.ev n).fs t) a.n (fun t=> qQ fs t) n u
    rw[zDo]
    unfold zAc
    by_cases e:n=a.n
    ·subst e;rw[if_pos rfl,if_pos rfl,hof]
    ·rw[if_neg (by simp only;omega),if_neg e]
   ·simp only[AS.calm,AS.note,zCb,qB,jE]
    split<;> rfl
  show OInv (sfm s.ws.length) (hpF f) _
  rw[e];exact hI
 ·rw[zIg (s:=s) (s':={ s with ts:=qB s.ts th (some { a with ra:=⟨0,0,0⟩,fs:=fs }),ev:=s.ev++[⟨k,a.n,t,v⟩] }) (th:=th) (x:=some { a with ra:=⟨0,0,0⟩,fs:=fs }) rfl]
  have:=h.ev.tell hlv (x:=⟨k,a.n,t,v⟩) rfl (by simp only;omega) (b:=⟨false,false,fs⟩) (by
    rcases hk with rfl|⟨hk,rfl,rfl⟩
    ·simp[zDr,hp0,hact]
    ·rcases hk with rfl|rfl|rfl<;> simp[zDr,hp0,hact,jW]) (by rw[hof]) (y:=some ⟨a.n,false,fs⟩) (by simp) (by rw[hof];exact h.ev.obo a.n) (by rw[hof];exact h.ev.ra a.n) (by rw[hof];exact hfr)
   (fun _=> by
    have:=h.ev.st th _ hlv;simp only[hp0] at this
    simp only
    rw[if_neg (by omega),if_neg (by omega),if_neg (by omega)];simpa using this) (by unfold zD6;simp only;rcases hk with rfl|⟨rfl|rfl|rfl,_⟩<;> rfl) h.ok.ft
  simpa [hp0] using this
 ·cases e
  refine⟨rfl,(fun e=> by cases e),?_⟩
  show ∀r∈(obS (s.ev++[⟨k,a.n,t,v⟩]) a.n).rds,_
  rw[zDo,if_pos rfl,hof]
  exact h.oe th a ha
theorem TOp.turn (h:TOp f s) {th:Nat} (hth:th<4) {a:TA} (ha:s.ts th=some a) (k2:a.ra.k=2∨a.ra.k=3∨a.ra.k=4∨a.ra.k=5):TOp f (zDu s th a).2:=by
 have hok:=zWg h.ok hth ha k2
 have hao:=h.ok.ts th a ha
 have hp0:=zG9 hao (by omega)
 have hne:=hao.fs.1
 have ho:(obS s.ev a.n).fs=a.fs:=h.ev.obl th _ (h.lv ha)
 have hfr:∀g∈a.fs,∀p∈g,0<=p.t/\p.t<s.hp.length/\zAg p.v=true:=by rw[←ho];exact h.ev.fr a.n
 have hww:=hao.ww
 unfold zDu at hok⊢
 split at hok
 ·rename_i k3
  rw[if_pos k3]
  refine h.turned ha hp0 (.inr ⟨.inl rfl,rfl,rfl⟩) (qO4 (hww.1 k3) hne) ?_ hok
  have h5:¬5<=a.fs.length:=by have:=hww.1 k3;omega
  rw[zMw,if_neg h5]
  intro g hg
  rcases List.mem_cons.1 hg with rfl|hg
  ·intro p hp;cases hp
  ·exact hfr g hg
 ·rename_i k3
  rw[if_neg k3]
  split at hok
  ·rename_i k4
   rw[if_pos k4]
   refine h.turned ha hp0 (.inr ⟨.inr (.inl rfl),rfl,rfl⟩) (qO6 (hww.2 (.inl k4))) ?_ hok
   intro g hg
   refine hfr g ?_
   unfold zPm at hg
   split at hg
   ·rename_i e;rw[e];exact List.mem_cons_of_mem _ hg
   ·exact hg
  ·rename_i k4
   rw[if_neg k4]
   split at hok
   ·rename_i k5
    rw[if_pos k5]
    refine h.turned ha hp0 (.inr ⟨.inr (.inr rfl),rfl,rfl⟩) (qJu (hww.2 (.inr k5))) ?_ hok
    intro g hg
    unfold zKs at hg
    split at hg
    ·rename_i f1 g1 rs e
     rcases List.mem_cons.1 hg with rfl|hg
     ·exact zSb (hfr g1 (by rw[e];simp)) (hfr f1 (by rw[e];simp)) fun p q h1 h2=> ⟨h1.1,h1.2.1,h2.2.2⟩
     ·exact hfr g (by rw[e];simp[hg])
    ·exact hfr g hg
   ·rename_i k5
    rw[if_neg k5]
    have k2':a.ra.k=2:=by omega
    have hra:=hao.ask.2.2.1 (.inr k2')
    split at hok
    ·rename_i hP
     rw[if_pos hP]
     refine h.turned ha hp0 (.inl rfl) (qVb hP hne) ?_ hok
     intro g hg
     unfold zPb at hg
     split at hg
     ·rename_i f1 rs e
      have hR:zAg a.ra.v=true:=by
       rw[e] at hP
       unfold zPc jQ at hP
       simp only at hP
       split at hP
       ·cases hP
       ·split at hP
        ·cases hP
        ·rename_i hr;simpa using hr
      rcases List.mem_cons.1 hg with rfl|hg
      ·intro p hp
       rcases zQm hp with rfl|h1|⟨r,hr2,rfl⟩
       ·exact⟨hra.1,hra.2,hR⟩
       ·exact hfr f1 (by rw[e];simp) p h1
       ·have:=hfr f1 (by rw[e];simp) r hr2
        exact⟨this.1,this.2.1,hR⟩
      ·exact hfr g (by rw[e];simp[hg])
     ·cases hg
    ·rename_i hP;rw[if_neg hP];exact h.end hth ha (by omega) 2
end YtapbabkndhaemaaGreat
end Go.Proofs
/-
 OPAQUE:tl2:a commit.
-/
namespace Go.Proofs
namespace YtapbabkndhaemaaGreat
open Go.Abs
theorem zG0 {fs:List (List Pr)} {t v:Int} (ht:0<=t/\t<12):(⟨t,v⟩:Pr)∈jC fs↔qQ fs t=some v:=by
 unfold jC zC3
 rw[List.mem_filterMap]
 constructor
 ·rintro⟨n,hn,h⟩
  rw[Option.map_eq_some_iff] at h
  obtain⟨w,h1,h2⟩:=h
  cases h2;exact h1
 ·intro h
  refine⟨t.toNat,List.mem_range.2 (by omega),?_⟩
  have e:((t.toNat:Nat):Int)=t:=by omega
  rw[e,h];rfl
theorem qOy {fs:List (List Pr)} (h:jC fs=[]) {hl:Nat} (hh:hl<=12) (hr:∀g∈fs,∀p∈g,0<=p.t/\p.t<hl) (t:Int):qQ fs t=none:=by
 cases hg:qQ fs t with
 |none=> rfl
 |some v=>
  obtain⟨g,h1,h2⟩:=zKg hg
  have:=hr g h1 _ h2
  simp only at this
  have:=(zG0 (fs:=fs) (t:=t) (v:=v) (by omega)).2 hg
  rw[h] at this;cases this
theorem zSs (fs:List (List Pr)) (n:Nat):((zC3 fs n).map (·.t)).Pairwise (· <·):=by
 induction n with
 |zero=> simp[zC3]
 |succ n ih=>
  rw[zOo]
  cases qQ fs n with
  |none=> simpa using ih
  |some v=>
   simp only[List.map_append,List.map_cons,List.map_nil,List.pairwise_append]
   refine⟨ih,by simp,fun a ha b hb=> ?_⟩
   simp only[List.mem_singleton] at hb
   subst hb
   obtain⟨p,hp,rfl⟩:=List.mem_map.1 ha
   unfold zC3 at hp
   obtain⟨k,hk,h⟩:=List.mem_filterMap.1 hp
   rw[Option.map_eq_some_iff] at h
   obtain⟨w,_,rfl⟩:=h
   have:=List.mem_range.1 hk
   simp only;omega
theorem qOz {fs:List (List Pr)} {i j:Nat} {p q:Pr} (h1:(jC fs)[i]?=some p) (h2:(jC fs)[j]?=some q) (h:p.t=q.t):i=j:=by
 have hn:((jC fs).map (·.t)).Nodup:=(zSs fs 12).imp fun h=> by omega
 have e1:((jC fs).map (·.t))[i]?=some p.t:=by simp[h1]
 have e2:((jC fs).map (·.t))[j]?=some p.t:=by simp[h2,h]
 have hi:=(List.getElem?_eq_some_iff.1 e1).1
 exact (List.getElem?_inj hi hn).1 (e1.trans e2.symm)
variable {f:List Int} {s:TS}
theorem TOp.range (h:TOp f s) {th:Nat} {a:TA} (ha:s.ts th=some a) {t:Int} (hg:qQ a.fs t≠none):(0<=t/\t<12)/\t<s.hp.length:=by
 cases hv:qQ a.fs t with
 |none=> exact absurd hv hg
 |some v=>
  obtain⟨g,h1,h2⟩:=zKg hv
  have h3:=(h.ok.ts th a ha).fst g h1 _ h2
  have h4:=h.ok.hp.2
  simp only at h3
  omega
theorem TOp.lgs (h:TOp f s) {th:Nat} {a:TA} (ha:s.ts th=some a) (t:Int):(jE s).lg a.n t=qQ a.fs t:=by
 show qQ (obS s.ev a.n).fs t=_
 rw[h.ev.obl th _ (h.lv ha)]
theorem zK6 {l:List Ev} {a:Nat} (n:Int):obS (l++[⟨7,a,0,0⟩]) n=obS l n:=by
 rw[zDo];split
 ·exact zEb _ (by simp)
 ·rfl
theorem zTr {l:List Ev} {a:Nat} (n:Int):obS (l++[⟨8,a,0,0⟩]) n=obS l n:=by
 rw[zDo];split
 ·exact zEb _ (by simp)
 ·rfl
theorem EvOk.tried (h:EvOk s.hp.length s.ft.length s.ev (lvS s)) {th:Nat} {a:TA} (ha:s.ts th=some a) (hp0:a.ph=0) (hf1:a.fs.length=1) (hN:s.ft.length<=64):EvOk s.hp.length s.ft.length (s.ev++[⟨7,a.n,0,0⟩]) (zEx (lvS s) th (some ⟨a.n,true,a.fs⟩)):=by
 have hlv:lvS s th=some ⟨a.n,decide (a.ph≠0),a.fs⟩:=by simp[lvS,ha]
 have ho:=h.obl th _ hlv
 have hi:=zEb (obS s.ev a.n) (x:=⟨7,a.n,0,0⟩) (by simp)
 exact h.tell hlv (x:=⟨7,a.n,0,0⟩) rfl (by simp) (b:=⟨true,false,a.fs⟩) (by simp[zDr,jW,hp0,hf1]) (by rw[hi];exact ho.symm) (y:=some ⟨a.n,true,a.fs⟩) (by simp) (by rw[hi];exact h.obo a.n) (by rw[hi];exact h.ra a.n) (by rw[hi];exact h.fr a.n) (fun _=> by simp) (by simp[zD6]) hN
theorem TOp.commit0 (h:TOp f s) {th:Nat} (hth:th<4) {a:TA} (ha:s.ts th=some a) (hp0:a.ph=0) (hf1:a.fs.length=1) (hn:jC a.fs=[]) (hok:(zBi { s with ev:=s.ev++[⟨7,a.n,0,0⟩] } th a).Ok):TOp f (zBi { s with ev:=s.ev++[⟨7,a.n,0,0⟩] } th a):=by
 have hlv:=h.lv ha
 have hE1:=h.ev.tried ha hp0 hf1 h.ok.ft
 have hobs:∀n:Int,obS (s.ev++[⟨7,a.n,0,0⟩]++[⟨8,a.n,0,0⟩]) n=obS s.ev n:=fun n=> by rw[zTr,zK6]
 have hlog:∀t,qQ a.fs t=none:=qOy hn h.ok.hp.2 fun g hg p hp=> by have:=(h.ok.ts th a ha).fst g hg p hp;omega
 have ho:=h.ev.obl th _ hlv
 simp only at ho
 have hst0:zAp (s.ev++[⟨7,a.n,0,0⟩]) a.n≠0:=by
  have:=hE1.st th ⟨a.n,true,a.fs⟩ (by simp[zEx])
  simp only at this
  rw[this];simp
 have hE:EvOk s.hp.length s.ft.length (s.ev++[⟨7,a.n,0,0⟩]++[⟨8,a.n,0,0⟩]) (zEx (lvS s) th none):=by
  have hi:=zEb (obS (s.ev++[⟨7,a.n,0,0⟩]) a.n) (x:=⟨8,a.n,0,0⟩) (by simp)
  have hl1:zEx (lvS s) th (some ⟨a.n,true,a.fs⟩) th=some ⟨a.n,true,a.fs⟩:=by simp[zEx]
  have:=hE1.tell hl1 (x:=⟨8,a.n,0,0⟩) rfl (by simp) (b:=⟨true,true,a.fs⟩) (by simp[zDr,jW]) (by rw[hi,zK6];exact ho.symm) (y:=none) (by simp) (by rw[hi];exact hE1.obo a.n) (by rw[hi];exact hE1.ra a.n) (by rw[hi];exact hE1.fr a.n) (fun e=> by cases e) (by simp[zD6]) h.ok.ft
  have e:zEx (zEx (lvS s) th (some ⟨a.n,true,a.fs⟩)) th none=zEx (lvS s) th none:=by funext i;simp only[zEx];split<;> rfl
  rw[e] at this;exact this
 have hlvE:lvS (zBi { s with ev:=s.ev++[⟨7,a.n,0,0⟩] } th a)=zEx (lvS s) th none:=zIg (s:=s) (s':=zBi { s with ev:=s.ev++[⟨7,a.n,0,0⟩] } th a) (th:=th) (x:=none) rfl
 have hne:∀i z,i≠th->s.ts i=some z->z.n≠a.n:=fun i z hi hz e=> hi (h.ev.nu i th _ _ (h.lv hz) hlv e)
 constructor
 case ok=> exact hok
 case ev=> rw[hlvE];exact hE
 case inv=>
  have hI:=h.inv.drop (th:=th) (h.ts ha) (by rw[zIj hp0];simp)
  have hno:∀i,xX s.ws i≠th:=(zLb (by omega)).1 ((h.ok.lk th a ha).1 hp0)
  have e:jE (zBi { s with ev:=s.ev++[⟨7,a.n,0,0⟩] } th a)=(jE s).drop th:=by
   refine zFb rfl (fun i=> ?_) (fun i=> rfl) (fun i=> rfl) rfl (fun n=> rfl) (fun n t v=> ?_) (fun n t=> ?_) (fun i=> ?_)
   ·show xX s.ws i=if xX s.ws i=th then -1 else xX s.ws i
    rw[if_neg (hno i)]
   ·show (⟨t,v⟩:Pr)∈(obS (s.ev++[⟨7,a.n,0,0⟩]++[⟨8,a.n,0,0⟩]) n).rds↔_
    rw[hobs];rfl
   ·show qQ (obS (s.ev++[⟨7,a.n,0,0⟩]++[⟨8,a.n,0,0⟩]) n).fs t=_
    rw[hobs];rfl
   ·simp only[AS.drop,zCb,zBi,qB,jE]
    split<;> rfl
  show OInv (sfm s.ws.length) (hpF f) _
  rw[e];exact hI
 case oe=>
  intro i z hz
  have hz:qB s.ts th none i=some z:=hz
  rw[zI9] at hz
  show ∀r∈(obS (s.ev++[⟨7,a.n,0,0⟩]++[⟨8,a.n,0,0⟩]) z.n).rds,_
  rw[hobs];exact h.oe i z hz.2
 case fn=> exact h.fn
 case sw=>
  intro i z hz
  have hz:qB s.ts th none i=some z:=hz
  rw[zI9] at hz
  exact h.sw i z hz.2
 case par=>
  intro n hn' hno
  show (zAp (s.ev++[⟨7,a.n,0,0⟩]++[⟨8,a.n,0,0⟩]) n=4->zBe s.ft n % 2=1)/\(zAp (s.ev++[⟨7,a.n,0,0⟩]++[⟨8,a.n,0,0⟩]) n=3->zBe s.ft n % 2=0∨∀t,qQ (obS (s.ev++[⟨7,a.n,0,0⟩]++[⟨8,a.n,0,0⟩]) n).fs t=none)
  rw[hobs]
  by_cases e:n=a.n
  ·subst e
   have hs:=zNs (l:=s.ev++[⟨7,a.n,0,0⟩]) (x:=⟨8,a.n,0,0⟩) hst0
   simp only at hs
   rw[hs]
   exact⟨fun e=> by simp at e,fun _=> .inr fun t=> by rw[ho];exact hlog t⟩
  ·rw[zEj (by simp only;omega),zEj (by simp only;omega)]
   refine h.par n hn' fun i z hz=> ?_
   by_cases ei:i=th
   ·subst ei;rw[ha] at hz;cases hz;exact fun e2=> e e2.symm
   ·exact hno i z (by simp only[zBi,qB,if_neg ei];exact hz)
 case bf=>
  intro n m hb
  have hb:zCu (s.ev++[⟨7,a.n,0,0⟩]++[⟨8,a.n,0,0⟩]) n m=true:=hb
  show n<m/\zBe s.ft n<=zBe s.ft m
  by_cases hm:m<s.ft.length
  ·rw[zJm (by obtain⟨y,hy,h1⟩:=h.ev.bg m hm;exact⟨y,by simp[hy],h1⟩),zJm (h.ev.bg m hm)] at hb
   exact h.bf n m hb
  ·rw[zL6] at hb
   ·cases hb
   ·intro z hz
    rcases List.mem_append.1 hz with hz|hz
    ·rcases List.mem_append.1 hz with hz|hz
     ·have:=h.ev.ea z hz;omega
     ·simp only[List.mem_singleton] at hz;subst hz;simp
    ·simp only[List.mem_singleton] at hz;subst hz;simp
theorem TOp.try1 (h:TOp f s) {th:Nat} (hth:th<4) {a:TA} (ha:s.ts th=some a) (k6:a.ra.k=6) (hp0:a.ph=0) (hf1:a.fs.length=1) (hok:({ s with ts:=qB s.ts th (some { a with ph:=1 }),ev:=s.ev++[⟨7,a.n,0,0⟩] }:TS).Ok):TOp f { s with ts:=qB s.ts th (some { a with ph:=1 }),ev:=s.ev++[⟨7,a.n,0,0⟩] }:=by
 have hlv:=h.lv ha
 refine h.told ha (y:=some { a with ph:=1 }) rfl hok ?_ (x:=⟨7,a.n,0,0⟩) rfl ?_ rfl h.fn (fun _=> rfl) rfl (by simp) (fun b e=> ?_) (fun e=> by cases e)
 ·have hI:=h.inv.calm (th:=th) (b:=la { a with ph:=1 }) (h.ts ha) rfl rfl (fun _=> rfl) (by simp[la,hp0]) (fun e=> by rw[zIj hp0] at e;cases e) (fun e=> by rw[zIj hp0] at e;cases e) (by simp[la,k6])
  have e:jE { s with ts:=qB s.ts th (some { a with ph:=1 }),ev:=s.ev++[⟨7,a.n,0,0⟩] }=(jE s).calm th (la { a with ph:=1 }):=by
   refine zFb rfl (fun i=> rfl) (fun i=> rfl) (fun i=> rfl) rfl (fun n=> rfl) (fun n t w=> ?_) (fun n t=> ?_) (fun i=> ?_)
   ·show (⟨t,w⟩:Pr)∈(obS (s.ev++[⟨7,a.n,0,0⟩]) n).rds↔_
    rw[zK6];rfl
   ·show qQ (obS (s.ev++[⟨7,a.n,0,0⟩]) n).fs t=_
    rw[zK6];rfl
   ·simp only[AS.calm,zCb,qB,jE]
    split<;> rfl
  show OInv (sfm s.ws.length) (hpF f) _
  rw[e];exact hI
 ·rw[zIg (s:=s) (s':={ s with ts:=qB s.ts th (some { a with ph:=1 }),ev:=s.ev++[⟨7,a.n,0,0⟩] }) (th:=th) (x:=some { a with ph:=1 }) rfl]
  exact h.ev.tried ha hp0 hf1 h.ok.ft
 ·cases e
  refine⟨rfl,(fun e=> by simp only at e;omega),?_⟩
  show ∀r∈(obS (s.ev++[⟨7,a.n,0,0⟩]) a.n).rds,_
  rw[zK6];exact h.oe th a ha
theorem TOp.table (h:TOp f s) {th:Nat} {a:TA} (ha:s.ts th=some a) {ws:List Int} (hok:({ s with ws:=ws }:TS).Ok) (hI:OInv (sfm ws.length) (hpF f) (jE { s with ws:=ws })):TOp f { s with ws:=ws }:=
 h.move ha (b:=a) (zTf ha) hok hI rfl rfl rfl h.fn rfl rfl Iff.rfl rfl (h.sw th a ha) (fun _ _=> rfl) (Int.le_refl _)
theorem zOc {a:TA} (h:a.ph=2):(la a).ph=2:=by simp[la,h]
theorem zLa {a:TA} (h:a.ph=3∨a.ph=4):(la a).ph=3:=by rcases h with h|h<;> simp[la,h]
theorem qIf {a:TA} (h:a.ph<=1):(la a).ph=0:=by simp[la,h]
theorem TOp.lock (h:TOp f s) {th:Nat} (hth:th<4) {a:TA} (ha:s.ts th=some a) (hp1:a.ph=1) {i:Nat} (hi:i<s.ws.length) (hf:xX s.ws i= -1) (hok:({ s with ws:=zCx s.ws th i }:TS).Ok):TOp f { s with ws:=zCx s.ws th i }:=by
 obtain⟨d1,d2⟩:=zYl h.ok.tab hi hf (o:=(th:Int)) ⟨by omega,by omega⟩
 refine h.table ha hok ?_
 have hI:=h.inv.lock (th:=th) (i:=i) (h.ts ha) (qIf (by omega)) hf
 have e:jE { s with ws:=zCx s.ws th i }=(jE s).lock th i:=
  zFb rfl (fun j=> d2 j) (fun j=> zYk h.ok.tab _ _ _) (fun j=> rfl) rfl (fun n=> rfl) (fun n t v=> Iff.rfl) (fun n t=> rfl) (fun j=> rfl)
 rw[d1,e];exact hI
end YtapbabkndhaemaaGreat
end Go.Proofs
/-
 OPAQUE:tl2:a commit goes on;every step.
-/
namespace Go.Proofs
namespace YtapbabkndhaemaaGreat
open Go.Abs
variable {f:List Int} {s:TS}
theorem qMw {c:Int} (hc:zEi c=0):zD1 c=c+1:=by
 unfold zEi at hc
 split at hc
 ·cases hc
 ·split at hc
  ·cases hc
  ·rename_i h1 h2
   unfold zD1 zEi
   rw[if_neg h1,if_neg h2,if_pos rfl]
theorem TOp.tick (h:TOp f s) {th:Nat} (hth:th<4) {a:TA} (ha:s.ts th=some a) (k6:a.ra.k=6) (hp1:a.ph=1) (hall:∀x∈zHm s.ws a.fs,x∈jZ s.ws th)
  (hok:({ s with c:=s.c+1,ts:=qB s.ts th (some { a with wv:=s.c+1,ph:=2,nx:=0 }) }:TS).Ok):TOp f { s with c:=s.c+1,ts:=qB s.ts th (some { a with wv:=s.c+1,ph:=2,nx:=0 }) }:=by
 refine h.move ha rfl hok ?_ rfl rfl rfl h.fn rfl rfl (by simp[hp1]) rfl (fun e=> by simp only at e;omega) (fun _ _=> rfl) (Int.le_refl _)
 have hl:∀t,(jE s).lg (la a).n t≠none->(jE s).own (sfm s.ws.length t)=th:=fun t ht=> by
  rw[show (la a).n=a.n from rfl,h.lgs ha] at ht
  obtain⟨hr,_⟩:=h.range ha ht
  cases hv:qQ a.fs t with
  |none=> exact absurd hv ht
  |some v=>
   have hm:=hall _ (zUj h.ok.tab ((zG0 hr).2 hv))
   obtain⟨hs1,hs2⟩:=zPe h.ok.tab hr
   obtain⟨i,e1,e2,_⟩:=zFe.1 hm
   simp only[hs1] at e1
   have:sfm s.ws.length t=i:=by omega
   rw[this];exact e2
 have hI:=(h.inv.tick (th:=th) (h.ts ha) (qIf (by omega)) hl).calm (th:=th) (b:=la { a with wv:=s.c+1,ph:=2,nx:=0 }) (a:={ la a with ph:=2,wv:=s.c+1,chk:=fun _=> False,ss:=0 }) (by simp[AS.tick,zCb,jE]) rfl rfl (fun _=> rfl) rfl (fun _ t ht=> by obtain⟨j,e,hj,_⟩:=ht;exact absurd hj (by simp)) (fun e=> by cases e) (by simp[la,k6])
 have e:jE { s with c:=s.c+1,ts:=qB s.ts th (some { a with wv:=s.c+1,ph:=2,nx:=0 }) }=((jE s).tick th (la a)).calm th (la { a with wv:=s.c+1,ph:=2,nx:=0 }):=by
  refine zFb rfl (fun i=> rfl) (fun i=> rfl) (fun i=> rfl) rfl (fun n=> rfl) (fun n t w=> Iff.rfl) (fun n t=> rfl) (fun i=> ?_)
  simp only[AS.calm,AS.tick,zCb,qB,jE]
  split<;> rfl
 show OInv (sfm s.ws.length) (hpF f) _
 rw[e];exact hI
theorem TOp.pass (h:TOp f s) {th:Nat} (hth:th<4) {a:TA} (ha:s.ts th=some a) (k6:a.ra.k=6) (hp2:a.ph=2) {e:Ent} (he:a.es[a.nx]?=some e) (hP:zKd (zBl s.ws (ofT s.ws e.t)) th a.rv=true) (hok:(zDq s th { a with nx:=a.nx+1 }).Ok):TOp f (zDq s th { a with nx:=a.nx+1 }):=by
 have hao:=h.ok.ts th a ha
 have hem:=List.mem_of_getElem? he
 have hrng:=hao.es.range e hem
 obtain⟨hs1,hs2⟩:=zPe h.ok.tab (t:=e.t) ⟨by omega,by omega⟩
 obtain⟨hw1,hw2⟩:=zMg hs2
 unfold zKd at hP
 rw[hs1,hw1,hw2] at hP
 simp only[Bool.and_eq_true,Bool.or_eq_true,decide_eq_true_eq] at hP
 refine h.move ha rfl hok ?_ rfl rfl rfl h.fn rfl rfl Iff.rfl rfl (fun e=> by simp only at e;omega) (fun _ _=> rfl) (Int.le_refl _)
 have hI:=(h.inv.pass (th:=th) (x:=e.t) (h.ts ha) (zOc hp2) hP.1 hP.2).calm (th:=th) (b:=la { a with nx:=a.nx+1 }) (a:={ la a with chk:=fun t=> (la a).chk t∨t=e.t }) (by simp[AS.pass,zCb,jE]) rfl rfl (fun _=> rfl) rfl (fun _ t ht=> by
  obtain⟨j,e',hj,h1,h2⟩:=ht
  simp only at hj h1
  by_cases hjn:j=a.nx
  ·right;subst hjn;rw[he] at h1;cases h1;exact h2.symm
  ·left;exact⟨j,e',by omega,h1,h2⟩) (fun e=> by rw[show ({ la a with chk:=fun t=> (la a).chk t∨t=_ }:LA).ph=(la a).ph from rfl,zOc hp2] at e;cases e) (by simp[la,k6])
 have e:jE (zDq s th { a with nx:=a.nx+1 })=((jE s).pass th (la a) e.t).calm th (la { a with nx:=a.nx+1 }):=by
  refine zFb rfl (fun i=> rfl) (fun i=> rfl) (fun i=> rfl) rfl (fun n=> rfl) (fun n t w=> Iff.rfl) (fun n t=> rfl) (fun i=> ?_)
  simp only[AS.calm,AS.pass,zCb,zDq,qB,jE]
  split<;> rfl
 show OInv (sfm s.ws.length) (hpF f) _
 rw[e];exact hI
theorem TOp.decide (h:TOp f s) {th:Nat} (hth:th<4) {a:TA} (ha:s.ts th=some a) (k6:a.ra.k=6) (hp2:a.ph=2) (he:a.es[a.nx]?=none) (hok:({ s with ts:=qB s.ts th (some { a with dec:=true,ph:=3,nx:=0 }),ft:=zF7 s.ft a.n (2*a.wv) }:TS).Ok):TOp f { s with ts:=qB s.ts th (some { a with dec:=true,ph:=3,nx:=0 }),ft:=zF7 s.ft a.n (2*a.wv) }:=by
 have hao:=h.ok.ts th a ha
 have hkey:=fun m=> qNe hao.n (2*a.wv) m
 have hwr:=h.inv.wr th (la a) (h.ts ha) (.inl (zOc hp2))
 have hkl:=h.inv.kl0 th (la a) (h.ts ha) (by rw[zOc hp2];simp)
 refine h.move ha rfl hok ?_ rfl rfl (xF _ _ _) (qUj h.fn _ _) rfl rfl (by simp[hp2]) rfl (fun e=> by simp only at e;omega) (fun n hn=> by rw[hkey,if_neg hn]) (by
  rw[hkey,if_pos rfl]
  have e1:zBe s.ft a.n=2*a.rv+1:=hkl
  have e2:a.rv<a.wv:=hwr.1
  omega)
 have hc:∀t v,(jE s).rds (la a).n t v->(la a).chk t:=fun t v hr=> by
  obtain⟨e,h1,h2⟩:=h.oe th a ha _ hr
  obtain⟨j,hj⟩:=List.getElem?_of_mem h1
  have h3:=(List.getElem?_eq_some_iff.1 hj).1
  have h4:a.es.length<=a.nx:=by
   rcases Nat.lt_or_ge a.nx a.es.length with h5|h5
   ·rw[List.getElem?_eq_getElem h5] at he;cases he
   ·exact h5
  exact⟨j,e,by omega,hj,h2⟩
 have hI:=(h.inv.decide (th:=th) (h.ts ha) (zOc hp2) hc).calm (th:=th) (b:=la { a with dec:=true,ph:=3,nx:=0 }) (a:={ la a with ph:=3,rest:=fun t=> (jE s).lg (la a).n t≠none,ss:=0 }) (by simp[AS.decide,zCb,jE]) rfl rfl (fun _=> rfl) rfl (fun e=> by cases e) (fun _ t=> by
  show (3=3/\∃j p,0<=j/\(jC a.fs)[j]?=some p/\p.t=t)↔(jE s).lg (la a).n t≠none
  rw[show (la a).n=a.n from rfl,h.lgs ha]
  constructor
  ·rintro⟨_,j,p,_,h1,rfl⟩
   have hm:=List.mem_of_getElem? h1
   have:=(zG0 (zHd hm)).1 hm
   rw[this];simp
  ·intro ht
   obtain⟨hr,_⟩:=h.range ha ht
   cases hv:qQ a.fs t with
   |none=> exact absurd hv ht
   |some v=>
    obtain⟨j,hj⟩:=List.getElem?_of_mem ((zG0 hr).2 hv)
    exact⟨rfl,j,⟨t,v⟩,by omega,hj,rfl⟩) (by simp[la,k6])
 have e:jE { s with ts:=qB s.ts th (some { a with dec:=true,ph:=3,nx:=0 }),ft:=zF7 s.ft a.n (2*a.wv) }=((jE s).decide th (la a)).calm th (la { a with dec:=true,ph:=3,nx:=0 }):=by
  refine zFb rfl (fun i=> rfl) (fun i=> rfl) (fun i=> rfl) (xF _ _ _) (fun n=> ?_) (fun n t w=> Iff.rfl) (fun n t=> rfl) (fun i=> ?_)
  ·show zBe (zF7 s.ft a.n (2*a.wv)) n=_
   rw[hkey];rfl
  ·simp only[AS.calm,AS.decide,zCb,qB,jE]
   split<;> rfl
 show OInv (sfm s.ws.length) (hpF f) _
 rw[e];exact hI
theorem qUl {hp:List Int} {t v:Int} (ht:0<=t/\t<hp.length) (u:Int):hpF (hp.set t.toNat v) u=zGo (hpF hp) t v u:=by
 unfold hpF zGo
 simp only
 by_cases h0:0<=u
 ·rw[if_pos h0,if_pos h0,List.getElem?_set]
  by_cases e:u=t
  ·subst e;rw[if_pos rfl,if_pos (by omega),if_pos rfl];rfl
  ·rw[if_neg (by omega),if_neg e]
 ·rw[if_neg h0,if_neg h0,if_neg (by omega)]
theorem TOp.write (h:TOp f s) {th:Nat} (hth:th<4) {a:TA} (ha:s.ts th=some a) (k6:a.ra.k=6) (hp3:a.ph=3) {p:Pr} (hx:(jC a.fs)[a.nx]?=some p) (hok:({ s with hp:=s.hp.set p.t.toNat p.v,ts:=qB s.ts th (some { a with nx:=a.nx+1,ph:=if a.nx+1=(jC a.fs).length then 4 else 3 }) }:TS).Ok):
  TOp f { s with hp:=s.hp.set p.t.toNat p.v,ts:=qB s.ts th (some { a with nx:=a.nx+1,ph:=if a.nx+1=(jC a.fs).length then 4 else 3 }) }:=by
 have hm:=List.mem_of_getElem? hx
 have hlt:=(List.getElem?_eq_some_iff.1 hx).1
 have hr:=zHd hm
 have hg:=(zG0 hr).1 hm
 obtain⟨_,hrl⟩:=h.range ha (t:=p.t) (by rw[hg];simp)
 generalize hq:(if a.nx+1=(jC a.fs).length then 4 else 3:Nat)=q at hok⊢
 have hq34:q=3∨q=4:=by rw[←hq];split<;> omega
 refine h.move ha rfl hok ?_ rfl (by simp) rfl h.fn rfl rfl (by simp only;omega) rfl (fun e=> by simp only at e;omega) (fun _ _=> rfl) (Int.le_refl _)
 have hI:=(h.inv.write (th:=th) (x:=p.t) (w:=p.v) (h.ts ha) (zLa (.inl hp3)) ⟨hp3,a.nx,p,Nat.le_refl _,hx,rfl⟩ (by rw[show (la a).n=a.n from rfl,h.lgs ha];exact hg)).calm (th:=th) (b:=la { a with nx:=a.nx+1,ph:=q }) (a:={ la a with rest:=fun u=> (la a).rest u/\u≠p.t,ss:=0 }) (by simp[AS.write,zCb,jE]) rfl rfl (fun _=> rfl) (by
  show (la { a with nx:=a.nx+1,ph:=q }).ph=(la a).ph
  rw[zLa (.inl hp3),zLa (by simpa using hq34)]) (fun e=> by rw[show ({ la a with rest:=fun u=> (la a).rest u/\u≠p.t,ss:=0 }:LA).ph=(la a).ph from rfl,zLa (.inl hp3)] at e;cases e) (fun _ u=> by
  show (q=3/\∃j p',a.nx+1<=j/\(jC a.fs)[j]?=some p'/\p'.t=u)↔(a.ph=3/\∃j p',a.nx<=j/\(jC a.fs)[j]?=some p'/\p'.t=u)/\u≠p.t
  constructor
  ·rintro⟨_,j,p',h1,h2,rfl⟩
   exact⟨⟨hp3,j,p',by omega,h2,rfl⟩,fun e=> by have:=qOz h2 hx e;omega⟩
  ·rintro⟨⟨_,j,p',h1,h2,rfl⟩,hne⟩
   have hj:j≠a.nx:=fun e=> by subst e;rw[hx] at h2;cases h2;exact hne rfl
   have hjl:=(List.getElem?_eq_some_iff.1 h2).1
   refine⟨?_,j,p',by omega,h2,rfl⟩
   rw[←hq,if_neg (by omega)]) (by simp[la,k6])
 have e:jE { s with hp:=s.hp.set p.t.toNat p.v,ts:=qB s.ts th (some { a with nx:=a.nx+1,ph:=q }) }=((jE s).write th (la a) p.t p.v).calm th (la { a with nx:=a.nx+1,ph:=q }):=by
  refine zFb rfl (fun i=> rfl) (fun i=> rfl) (fun i=> qUl ⟨hr.1,hrl⟩ i) rfl (fun n=> rfl) (fun n t w=> Iff.rfl) (fun n t=> rfl) (fun i=> ?_)
  simp only[AS.calm,AS.write,zCb,qB,jE]
  split<;> rfl
 show OInv (sfm s.ws.length) (hpF f) _
 rw[e];exact hI
theorem TOp.freeInv (h:TOp f s) {th:Nat} (hth:th<4) {a:TA} (ha:s.ts th=some a) (hp4:a.ph=4) {i:Nat} (ho:xX s.ws i=th):(xI s.ws s.c th i a.wv).length=s.ws.length/\jE { s with ws:=xI s.ws s.c th i a.wv }=(jE s).free (la a) i/\OInv (sfm s.ws.length) (hpF f) ((jE s).free (la a) i):=by
 have hlk:=h.ok.lk th a ha
 have hu:=zJ3 h.ok.tab ho ⟨by omega,by omega⟩ ⟨hlk.2.2.2 (by omega) i ho,(h.ok.ts th a ha).wv.2⟩
 refine⟨hu.1,?_,h.inv.free (h.ts ha) (zLa (.inr hp4)) (fun t ht=> ?_) ho⟩
 ·exact zFb rfl (fun j=> hu.2.1 j) (fun j=> hu.2.2 j) (fun j=> rfl) rfl (fun n=> rfl) (fun n t v=> Iff.rfl) (fun n t=> rfl) (fun j=> rfl)
 ·have h1:a.ph=3:=ht.1
  omega
theorem TOp.free (h:TOp f s) {th:Nat} (hth:th<4) {a:TA} (ha:s.ts th=some a) (hp4:a.ph=4) {i:Nat} (ho:xX s.ws i=th) (hok:({ s with ws:=xI s.ws s.c th i a.wv }:TS).Ok):TOp f { s with ws:=xI s.ws s.c th i a.wv }:=by
 obtain⟨h1,h2,h3⟩:=h.freeInv hth ha hp4 ho
 refine h.table ha hok ?_
 rw[h1,h2];exact h3
theorem TOp.commit (h:TOp f s) {th:Nat} (hth:th<4) {a:TA} (ha:s.ts th=some a) (hp4:a.ph=4) {i:Nat} (hh:jZ s.ws th=[(i:Int)]) (hok:(zBi { s with ws:=xI s.ws s.c th i a.wv } th a).Ok):TOp f (zBi { s with ws:=xI s.ws s.c th i a.wv } th a):=by
 have ho:xX s.ws i=th:=by
  obtain⟨j,e,h1,_⟩:=zFe.1 (show (i:Int)∈jZ s.ws th by rw[hh];simp)
  have:i=j:=by omega
  rw[this];exact h1
 obtain⟨h1,h2,h3⟩:=h.freeInv hth ha hp4 ho
 have hlv:=h.lv ha
 have hkl:=h.inv.kl3 th (la a) (h.ts ha) (zLa (.inr hp4))
 have hol:=h.ev.obl th _ hlv
 have hi:=zEb (obS s.ev a.n) (x:=⟨8,a.n,0,0⟩) (by simp)
 refine h.told ha (y:=none) rfl hok ?_ (x:=⟨8,a.n,0,0⟩) rfl ?_ rfl h.fn (fun _=> rfl) rfl (by simp) (fun b e=> by cases e) (fun _=> ⟨(fun e=> by cases e),fun _=> .inl ?_⟩)
 ·have hno:∀j,((jE s).free (la a) i).own j≠th:=fun j=> by
   show zAc (fun i=> xX s.ws i) i (-1) j≠(th:Int)
   unfold zAc
   split
   ·omega
   ·rename_i hji
    intro e
    have:(j:Int)∈jZ s.ws th:=zFe.2 ⟨j,rfl,e,by omega⟩
    rw[hh] at this
    simp at this
    omega
  have hI:=h3.commit (th:=th) hno
  have e:jE (zBi { s with ws:=xI s.ws s.c th i a.wv } th a)=((jE s).free (la a) i).commit th:=by
   rw[←h2]
   refine zFb rfl (fun i=> rfl) (fun i=> rfl) (fun i=> rfl) rfl (fun n=> rfl) (fun n t v=> ?_) (fun n t=> ?_) (fun i=> ?_)
   ·show (⟨t,v⟩:Pr)∈(obS (s.ev++[⟨8,a.n,0,0⟩]) n).rds↔_
    rw[zTr];rfl
   ·show qQ (obS (s.ev++[⟨8,a.n,0,0⟩]) n).fs t=_
    rw[zTr];rfl
   ·simp only[AS.commit,zCb,zBi,qB,jE]
    split<;> rfl
  have e2:(zBi { s with ws:=xI s.ws s.c th i a.wv } th a).ws.length=s.ws.length:=h1
  rw[e2,e];exact hI
 ·rw[zIg (s:=s) (s':=zBi { s with ws:=xI s.ws s.c th i a.wv } th a) (th:=th) (x:=none) rfl]
  exact h.ev.tell hlv (x:=⟨8,a.n,0,0⟩) rfl (by simp) (b:=⟨true,true,a.fs⟩) (by simp[zDr,jW,hp4]) (by rw[hi];exact hol.symm) (y:=none) (by simp) (by rw[hi];exact h.ev.obo a.n) (by rw[hi];exact h.ev.ra a.n) (by rw[hi];exact h.ev.fr a.n) (fun e=> by cases e) (by simp[zD6]) h.ok.ft
 ·have:zBe s.ft a.n=2*a.wv:=hkl
  omega
def One (s:TS):Prop:=∀th a,s.ts th=some a->a.ra.k=6->a.fs.length=1
theorem TOp.goOn (h:TOp f s) (h1:One s) {th:Nat} (hth:th<4) {a:TA} (ha:s.ts th=some a) (k6:a.ra.k=6):TOp f (zC9 s th a).2:=by
 have hok:=zWi h.ok hth ha k6
 have hao:=h.ok.ts th a ha
 have hlk:=h.ok.lk th a ha
 have hg:=h.ok.tab
 have hf1:=h1 th a ha k6
 unfold zC9 at hok⊢
 split at hok
 ·rename_i h0
  rw[if_pos h0]
  split at hok
  ·rename_i hn;rw[if_pos hn];exact h.commit0 hth ha h0 hf1 hn hok
  ·rename_i hn;rw[if_neg hn];exact h.try1 hth ha k6 h0 hf1 hok
 ·rename_i h0
  rw[if_neg h0]
  split at hok
  ·rename_i hp1
   rw[if_pos hp1]
   unfold zGg at hok⊢
   cases hst:zFq (zHm s.ws a.fs) (jZ s.ws th) with
   |some st=>
    rw[hst] at hok
    simp only at hok⊢
    obtain⟨hm,hnh⟩:=zSg hst
    have hr:=zL1 hg a.fs hm
    split at hok
    ·rename_i hb;rw[if_pos hb];exact h
    ·rename_i hb
     rw[if_neg hb]
     have hfree:=zQw hg hr hnh hb
     obtain⟨i,rfl⟩:=Int.eq_ofNat_of_zero_le hr.1
     rw[Int.toNat_natCast] at hfree
     exact h.lock hth ha hp1 (by omega) hfree hok
   |none=>
    rw[hst] at hok
    simp only at hok⊢
    split at hok
    ·rename_i hc
     rw[if_pos hc]
     simp only[qMw hc] at hok⊢
     exact h.tick hth ha k6 hp1 (zSh hst) hok
    ·rename_i hc;rw[if_neg hc];exact h.end hth ha (by omega) 2
  ·rename_i hp1
   rw[if_neg hp1]
   split at hok
   ·rename_i hp2
    rw[if_pos hp2]
    unfold zGj at hok⊢
    cases hx:a.es[a.nx]? with
    |none=>
     rw[hx] at hok
     exact h.decide hth ha k6 hp2 hx hok
    |some e=>
     rw[hx] at hok
     simp only at hok⊢
     split at hok
     ·rename_i hP;rw[if_pos hP];exact h.pass hth ha k6 hp2 hx hP hok
     ·rename_i hP;rw[if_neg hP];exact h.end hth ha (by omega) 1
   ·rename_i hp2
    rw[if_neg hp2]
    split at hok
    ·rename_i hp3
     rw[if_pos hp3]
     cases hx:(jC a.fs)[a.nx]? with
     |some p=>
      rw[hx] at hok
      exact h.write hth ha k6 hp3 hx hok
     |none=> exact h
    ·rename_i hp3
     rw[if_neg hp3]
     have hp4:a.ph=4:=by have:=hao.ph;omega
     have un:∀x rest,jZ s.ws th=x::rest->∃i:Nat,x=(i:Int)/\xX s.ws i=th:=fun x rest hh=> by
      obtain⟨i,e,ho,_⟩:=zFe.1 (show x∈jZ s.ws th by rw[hh];simp)
      exact⟨i,e,ho⟩
     cases hh:jZ s.ws (th:Int) with
     |nil=> exact h
     |cons x rest=>
      obtain⟨i,rfl,ho⟩:=un x rest hh
      rw[hh] at hok
      cases rest with
      |nil=> exact h.commit hth ha hp4 hh hok
      |cons y rest=> exact h.free hth ha hp4 ho hok
theorem TOp.step (h:TOp f s) (h1:One s) {th:Nat} (hth:th<4):TOp f (zBd s th).2:=by
 unfold zBd
 cases ha:s.ts th with
 |none=> exact h
 |some a=>
  simp only
  have hask:=(h.ok.ts th a ha).ask
  split
  ·exact h
  ·split
   ·rename_i k1;exact h.read hth ha k1
   ·split
    ·rename_i k6;exact h.goOn h1 hth ha k6
    ·split
     ·rename_i k7;exact h.end hth ha (by rw[zG9 (h.ok.ts th a ha) (by omega)];omega) 4
     ·exact h.turn hth ha (by have:=hask.1;have:=hask.2.1;omega)
end YtapbabkndhaemaaGreat
end Go.Proofs
/-
 OPAQUE:what the document asks of an order,and when it is so.
-/
namespace Go.Proofs
namespace YtapbabkndhaemaaGreat
open Go.Abs
def zB1 (h:List Int) (w:List Pr):List Int:=w.foldl (fun h p=> h.set p.t.toNat p.v) h
def zX5 (h:List Int) (r:List Pr):Bool:=r.all fun p=> decide (p.t<h.length) && decide (h[p.t.toNat]?=some p.v)
def zOs (n:Nat) (w:List Pr):Bool:=w.all fun p=> decide (p.t<n)
def zQp (l:List Ev) (h:List Int) (a:Int):Bool:=zX5 h (obS l a).rds && zOs h.length (jC (obS l a).fs) && (obS l a).ok
def zHk (l:List Ev) (cm:List Int) (a:Int):Bool:=decide (zAp l a=3)||decide (a∈cm)
def zFo (l:List Ev) (cm:List Int):List Int->List Int->Option (List Int)
 |[],h=> some h
 |a::rest,h=> if rest.any (fun b=> zCu l b a)=true then none else if zQp l h a=true then zFo l cm rest (if zHk l cm a=true then zB1 h (jC (obS l a).fs) else h) else none
theorem zIq (w:List Pr):∀h,(zB1 h w).length=h.length:=by
 induction w with
 |nil=> intro h;rfl
 |cons p w ih=> intro h;unfold zB1;rw[List.foldl_cons];have:=ih (h.set p.t.toNat p.v);unfold zB1 at this;rw[this];simp
theorem qJn (w:List Pr) (hw:(w.map (·.t)).Pairwise (· <·)) (h0:∀p∈w,0<=p.t) (t:Int) (ht:0<=t):∀h:List Int,t<h.length->(zB1 h w)[t.toNat]?=(match w.find? (fun p=> p.t==t) with|some p=> some p.v|none=> h[t.toNat]?):=by
 induction w with
 |nil=> intro h _;rfl
 |cons p w ih=>
  intro h hl
  rw[List.map_cons,List.pairwise_cons] at hw
  have e:zB1 h (p::w)=zB1 (h.set p.t.toNat p.v) w:=rfl
  have hp0:=h0 p (by simp)
  rw[e,ih hw.2 (fun q hq=> h0 q (List.mem_cons_of_mem _ hq)) _ (by simpa using hl),List.find?_cons]
  by_cases hpt:p.t=t
  ·have hnone:w.find? (fun p=> p.t==t)=none:=by
    rw[List.find?_eq_none]
    intro q hq
    have:=hw.1 q.t (List.mem_map_of_mem hq)
    simp;omega
   rw[hnone]
   simp only[hpt,beq_self_eq_true]
   rw[List.getElem?_set];simp;omega
  ·have hb:(p.t==t)=false:=by simpa using hpt
   rw[hb]
   simp only
   cases w.find? (fun p=> p.t==t) with
   |some q=> rfl
   |none=> simp only;rw[List.getElem?_set,if_neg (by omega)]
theorem qJp {fs:List (List Pr)} {t:Int} (ht:0<=t/\t<12):(match (jC fs).find? (fun p=> p.t==t) with|some p=> some p.v|none=> none)=qQ fs t:=by
 cases hf:(jC fs).find? (fun p=> p.t==t) with
 |some p=>
  have h1:p.t=t:=by simpa using List.find?_some hf
  have h2:=List.mem_of_find?_eq_some hf
  subst h1
  exact ((zG0 ht).1 h2).symm
 |none=>
  cases hg:qQ fs t with
  |none=> rfl
  |some v=>
   rw[List.find?_eq_none] at hf
   have:=hf _ ((zG0 ht).2 hg)
   simp at this
theorem zU4 {fs:List (List Pr)} {h:List Int} {t:Int} (ht:0<=t/\t<12) (hl:t<h.length):(zB1 h (jC fs))[t.toNat]?=(match qQ fs t with|some v=> some v|none=> h[t.toNat]?):=by
 rw[qJn (jC fs) (zSs fs 12) (fun p hp=> (zHd hp).1) t ht.1 h hl,←qJp ht]
 cases (jC fs).find? (fun p=> p.t==t)<;> rfl
def zZ0 (s:AS) (E:Nat->Prop) (f:Int->Int) (t v:Int):Prop:=
 (∃m,(s.Ent m/\E m)/\s.lg m t=some v/\∀m',s.Ent m'/\E m'->s.key m<s.key m'->s.lg m' t=none)∨
 (v=f t/\∀m',s.Ent m'/\E m'->s.lg m' t=none)
theorem zZ0.val {s:AS} {E:Nat->Prop} {f:Int->Int} {t v k:Int} (h:zZ0 s E f t v) (hE:∀m,s.Ent m->(E m↔s.key m<k)):Val s f k t v:=by
 unfold zZ0 at h
 unfold Val
 rcases h with ⟨m,⟨h1,h2⟩,h3,h4⟩|⟨h1,h2⟩
 ·exact .inl ⟨m,h1,(hE m h1).1 h2,h3,fun m' g1 g2 g3=> h4 m' ⟨g1,(hE m' g1).2 g2⟩ g3⟩
 ·exact .inr ⟨h1,fun m' g1 g2=> h2 m' ⟨g1,(hE m' g1).2 g2⟩⟩
variable {f:List Int} {s:TS}
def DecL (s:TS) (cm:List Int):Prop:=∀x:Int,x∈cm↔∃th a,s.ts th=some a/\a.dec=true/\x=a.n
theorem TOp.counted (h:TOp f s) {cm:List Int} (hc:DecL s cm) {n:Nat} (hn:n<s.ft.length):(zBe s.ft n % 2=0->zHk s.ev cm n=true)/\(zBe s.ft n % 2≠0->zHk s.ev cm n=true->∀t,qQ (obS s.ev n).fs t=none):=by
 by_cases hl:∃th a,s.ts th=some a/\a.n=n
 ·obtain⟨th,a,ha,rfl⟩:=hl
  have hlk:=h.ok.lk th a ha
  constructor
  ·intro he
   have hd:a.dec=true:=by
    by_cases hp:(la a).ph=3
    ·refine hlk.2.2.1.2 ?_
     unfold la at hp
     simp only at hp
     split at hp
     ·cases hp
     ·split at hp
      ·cases hp
      ·omega
    ·have:=h.inv.kl0 th (la a) (h.ts ha) hp
     have e:zBe s.ft a.n=2*a.rv+1:=this
     omega
   unfold zHk
   have:(a.n:Int)∈cm:=(hc _).2 ⟨th,a,ha,hd,rfl⟩
   simp[this]
  ·intro ho hcn
   exfalso
   unfold zHk at hcn
   rw[Bool.or_eq_true,decide_eq_true_eq,decide_eq_true_eq] at hcn
   rcases hcn with h3|h3
   ·have:=h.ev.st th _ (h.lv ha)
    simp only at this
    rw[this] at h3
    split at h3<;> omega
   ·obtain⟨th',a',ha',hd,he⟩:=(hc _).1 h3
    have e:th=th':=h.ev.nu th th' _ _ (h.lv ha) (h.lv ha') (by simp only;omega)
    subst e
    rw[ha] at ha';cases ha'
    have h3:=hlk.2.2.1.1 hd
    have h4:=(h.ok.ts th a ha).ph
    have:=h.inv.kl3 th (la a) (h.ts ha) (zLa (by omega))
    have e:zBe s.ft a.n=2*a.wv:=this
    omega
 ·have hno:∀th a,s.ts th=some a->a.n≠n:=fun th a ha e=> hl ⟨th,a,ha,e⟩
  obtain⟨p1,p2⟩:=h.par n hn hno
  have hd:=h.ev.dn n hn (fun th x hx=> by
   obtain⟨a,ha,rfl⟩:=qM2.1 hx
   exact hno th a ha)
  constructor
  ·intro he
   rcases hd with h3|h4
   ·simp[zHk,h3]
   ·have:=p1 h4;omega
  ·intro ho hcn
   rcases hd with h3|h4
   ·rcases p2 h3 with h5|h5
    ·omega
    ·exact h5
   ·exfalso
    unfold zHk at hcn
    rw[Bool.or_eq_true,decide_eq_true_eq,decide_eq_true_eq] at hcn
    rcases hcn with h3|h3
    ·omega
    ·obtain⟨th',a',ha',hd,he⟩:=(hc _).1 h3
     exact hno th' a' ha' (by omega)
def zPu (s:TS) (a b:Nat):Prop:=zBe s.ft a<zBe s.ft b∨(zBe s.ft a=zBe s.ft b/\a<b)
def zIk (l:List Nat):List Int:=l.map fun n:Nat=> (n:Int)
theorem TOp.run (h:TOp f s) (hf:f.length=s.hp.length) {cm:List Int} (hc:DecL s cm):∀(rest pre:List Nat) (hp:List Int),(pre++rest).Pairwise (zPu s)->(∀n,n∈pre++rest↔n<s.ft.length)->hp.length=f.length->
  (∀t:Int,0<=t->t<f.length->∀v,hp[t.toNat]?=some v->zZ0 (jE s) (fun m=> m∈pre) (hpF f) t v)->∃hp',zFo s.ev cm (zIk rest) hp=some hp'/\hp'.length=f.length/\∀t:Int,0<=t->t<f.length->∀v,hp'[t.toNat]?=some v->zZ0 (jE s) (fun m=> m∈pre++rest) (hpF f) t v
 |[],pre,hp,hpw,hall,hl,hv=> ⟨hp,rfl,hl,by simpa using hv⟩
 |a::rest,pre,hp,hpw,hall,hl,hv=> by
  have h12:=h.ok.hp.2
  have han:a<s.ft.length:=(hall a).1 (by simp)
  obtain⟨pw1,pw2,pw3⟩:=List.pairwise_append.1 hpw
  rw[List.pairwise_cons] at pw2
  have hb:(zIk rest).any (fun b=> zCu s.ev b a)=false:=by
   rw[Bool.eq_false_iff]
   intro hx
   obtain⟨b,hb1,hb2⟩:=List.any_eq_true.1 hx
   unfold zIk at hb1
   obtain⟨m,hm,rfl⟩:=List.mem_map.1 hb1
   obtain⟨g1,g2⟩:=h.bf m a hb2
   rcases pw2.1 m hm with g3|⟨g3,g4⟩<;> omega
  have hE:∀m,(jE s).Ent m->(m∈pre↔(jE s).key m<zBe s.ft a):=by
   intro m hm
   constructor
   ·intro hmp
    have hlt:zPu s m a:=pw3 m hmp a (by simp)
    rcases hlt with g|⟨g1,g2⟩
    ·exact g
    ·exfalso
     have:m=a:=h.inv.ku m a hm ⟨han,by rw[show (jE s).key a=zBe s.ft a from rfl,←g1];exact hm.2⟩ g1
     omega
   ·intro hlt
    have hmem:=(hall m).2 hm.1
    rcases List.mem_append.1 hmem with g|g
    ·exact g
    ·exfalso
     have hlt':zBe s.ft m<zBe s.ft a:=hlt
     rcases List.mem_cons.1 g with rfl|g
     ·omega
     ·rcases pw2.1 m g with g1|⟨g1,g2⟩<;> omega
  have hone:zQp s.ev hp a=true:=by
   unfold zQp
   rw[Bool.and_eq_true,Bool.and_eq_true]
   refine⟨⟨?_,?_⟩,h.ev.obo a⟩
   ·unfold zX5
    rw[List.all_eq_true]
    intro r hr
    have hr2:=h.ev.ra a r hr
    have hlt:r.t<hp.length:=by omega
    obtain⟨v,hvv⟩:∃v,hp[r.t.toNat]?=some v:=⟨hp[r.t.toNat]'(by omega),List.getElem?_eq_getElem (by omega)⟩
    have h1:=(hv r.t hr2.1 (by omega) v hvv).val hE
    have h2:=h.inv.main a han r.t r.v hr
    have:=Val.uniq (fun n m=> h.inv.ku n m) h1 h2
    subst this
    simp[hlt,hvv]
   ·unfold zOs
    rw[List.all_eq_true]
    intro p hp'
    have hr:=zHd hp'
    obtain⟨g,g1,g2⟩:=zKg ((zG0 hr).1 hp')
    have:=h.ev.fr a g g1 _ g2
    simp only at this
    simp only[decide_eq_true_eq];omega
  have hstep:zFo s.ev cm (zIk (a::rest)) hp=zFo s.ev cm (zIk rest) (if zHk s.ev cm a=true then zB1 hp (jC (obS s.ev a).fs) else hp):=by
   show zFo s.ev cm ((a:Int)::zIk rest) hp=_
   rw[zFo,hb,if_neg (by simp),if_pos hone]
  rw[hstep]
  obtain⟨c1,c2⟩:=h.counted hc han
  have happ:pre++a::rest=(pre++[a])++rest:=by simp
  have hlen:(if zHk s.ev cm a=true then zB1 hp (jC (obS s.ev a).fs) else hp).length=f.length:=by split<;> simp[zIq,hl]
  rw[happ] at hpw hall⊢
  refine h.run hf hc rest (pre++[a]) _ hpw hall hlen ?_
  intro t ht0 htl v hvv
  by_cases he:zBe s.ft a % 2=0
  ·rw[if_pos (c1 he),zU4 ⟨ht0,by omega⟩ (by omega)] at hvv
   have hEa:(jE s).Ent a:=⟨han,he⟩
   cases hg:qQ (obS s.ev a).fs t with
   |some w=>
    rw[hg] at hvv
    cases hvv
    refine .inl ⟨a,⟨hEa,by simp⟩,hg,fun m' g1 g2=> ?_⟩
    exfalso
    rcases List.mem_append.1 g1.2 with g3|g3
    ·have:=(hE m' g1.1).1 g3
     have g2':zBe s.ft a<(jE s).key m':=g2
     omega
    ·simp only[List.mem_singleton] at g3;subst g3;omega
   |none=>
    rw[hg] at hvv
    rcases hv t ht0 htl v hvv with ⟨m,g1,g2,g3⟩|⟨g1,g2⟩
    ·refine .inl ⟨m,⟨g1.1,by simp[g1.2]⟩,g2,fun m' g4 g5=> ?_⟩
     rcases List.mem_append.1 g4.2 with g6|g6
     ·exact g3 m' ⟨g4.1,g6⟩ g5
     ·simp only[List.mem_singleton] at g6;subst g6;exact hg
    ·refine .inr ⟨g1,fun m' g4=> ?_⟩
     rcases List.mem_append.1 g4.2 with g6|g6
     ·exact g2 m' ⟨g4.1,g6⟩
     ·simp only[List.mem_singleton] at g6;subst g6;exact hg
  ·have hsame:hp[t.toNat]?=some v:=by
    split at hvv
    ·rename_i hcn
     rw[zU4 ⟨ht0,by omega⟩ (by omega),c2 he hcn t] at hvv
     exact hvv
    ·exact hvv
   have hna:∀m',(jE s).Ent m'->m'∈pre++[a]->m'∈pre:=fun m' g1 g2=> by
    rcases List.mem_append.1 g2 with g3|g3
    ·exact g3
    ·simp only[List.mem_singleton] at g3;subst g3;exact absurd g1.2 he
   rcases hv t ht0 htl v hsame with ⟨m,g1,g2,g3⟩|⟨g1,g2⟩
   ·exact .inl ⟨m,⟨g1.1,by simp[g1.2]⟩,g2,fun m' g4 g5=> g3 m' ⟨g4.1,hna m' g4.1 g4.2⟩ g5⟩
   ·exact .inr ⟨g1,fun m' g4=> g2 m' ⟨g4.1,hna m' g4.1 g4.2⟩⟩
theorem TOp.legal (h:TOp f s) (hf:f.length=s.hp.length) {cm:List Int} (hc:DecL s cm) {ord:List Nat} (hpw:ord.Pairwise (zPu s)) (hall:∀n,n∈ord↔n<s.ft.length):∃hp,zFo s.ev cm (zIk ord) f=some hp/\hp.length=f.length/\((∀th:Nat,jZ s.ws th=[])->hp=s.hp):=by
 obtain⟨hp,h1,h2,h3⟩:=h.run hf hc ord [] f (by simpa using hpw) (by simpa using hall) rfl (fun t h0 hl v hv=> .inr ⟨by simp[hpF,h0,hv],fun m' g=> by simp at g⟩)
 refine⟨hp,h1,h2,fun hno=> ?_⟩
 refine List.ext_getElem? fun i=> ?_
 by_cases hi:i<f.length
 ·obtain⟨v,hv⟩:=zAs (l:=hp) (i:=i) (by omega)
  have g1:=(h3 i (by omega) (by omega) v (by simpa using hv)).val (k:=2*(jE s).c+2) (fun m hm=> ⟨fun _=> by have:=h.inv.kb m hm.1;omega,fun _=> by simpa using (hall m).2 hm.1⟩)
  rcases h.inv.HI i with ⟨th,a,e1,e2,e3⟩|g2
  ·exfalso
   have:=(h.inv.lk3 th a e1 e2 _ e3).1
   exact (zLb (by omega)).1 (hno th) _ this
  ·have:=Val.uniq (fun n m=> h.inv.ku n m) g1 g2
   rw[hv,this]
   show some (hpF s.hp i)=_
   unfold hpF
   rw[if_pos (by omega),Int.toNat_natCast,List.getElem?_eq_getElem (by omega)]
   rfl
 ·rw[List.getElem?_eq_none (by omega),List.getElem?_eq_none (by omega)]
theorem TOp.right (h:TOp f s) (hl:s.ev.length<=400):zE6 s.ev=true:=by
 obtain⟨σ,h1,_⟩:=h.ev.rt
 unfold zE6
 rw[h1]
 simp[hl]
end YtapbabkndhaemaaGreat
end Go.Proofs
/-
 The document's history:Reads,Writes,Own.
-/
namespace Go.Proofs
namespace YtapbabkndhaemaaGreat
open Go.Abs
theorem qCf {l:List Ev} {i:Nat} {x:Ev} (h:l[i]?=some x) (a:Int):obS (l.take (i+1)) a=if x.a=a then obF (obS (l.take i) a) x else obS (l.take i) a:=by
 rw[zH1 h,zDo]
theorem zP0 (l:List Ev) (i:Nat) (hi:i<=l.length) (a:Int):(obS (l.take i) a).fs=jY l i a:=by
 rw[qHw,List.length_take,Nat.min_eq_left hi]
 unfold jY
 rw[List.take_take,Nat.min_self]
theorem qMi {l:List Ev} {i:Nat} {x:Ev} (h:l[i]?=some x) (a:Int):(obS (l.take (i+1)) a).rds=if x.a=a/\x.k=2/\qQ (jY l i a) x.t=none then (obS (l.take i) a).rds++[⟨x.t,x.v⟩] else (obS (l.take i) a).rds:=by
 have hl:=(List.getElem?_eq_some_iff.1 h).1
 rw[qCf h]
 by_cases ha:x.a=a
 ·rw[if_pos ha]
  unfold obF
  rw[zP0 l i (by omega)]
  by_cases hk:x.k=2
  ·rw[if_pos hk]
   cases hg:qQ (jY l i a) x.t<;> simp[ha,hk]
  ·rw[if_neg hk,if_neg (by simp[hk])]
 ·rw[if_neg ha,if_neg (by simp[ha])]
theorem qHh (l:List Ev) (a:Int):(obS l a).rds.length<=l.length:=by
 have:∀(c:List Ev) (o:Ob),(c.foldl obF o).rds.length<=o.rds.length+c.length:=by
  intro c
  induction c with
  |nil=> intro o;simp
  |cons x c ih=>
   intro o
   have h1:=ih (obF o x)
   have h2:(obF o x).rds.length<=o.rds.length+1:=by
    unfold obF
    split
    ·split<;> simp
    ·simp
   simp only[List.foldl_cons,List.length_cons];omega
 have h1:=this (xO l a) ob0
 have h2:(xO l a).length<=l.length:=by unfold xO;exact List.length_filter_le _ _
 have h3:ob0.rds.length=0:=rfl
 unfold obS;omega
theorem zTo (l:List Ev) (i:Nat) (a:Int):(jY l i a).length<=100:=by have:=(zC6 l i a).1.2.1;omega
def zJb:List (FuncId × qH GD):=[(226,zAb),(187,zZ zL5),(141,zV1)]
theorem zKx:∀x∈zJb,zY Tryz.prog cfg x.1 x.2:=by simp[zJb,zW9,zXg,qLy]
theorem qSz (l:List Ev) (n c:Nat) (a:Int) (hn:n<=l.length) (hs:n<=1000) (hv:∀x∈l,0<=x.v/\x.v<18446744073709551616) (hr:∀x∈l,x.k=2->0<=x.t/\x.t<12):zD Tryz.prog cfg 180 [.slice (some ⟨0,0,none⟩) n c,.int .i64 a] (AH.of [some (.ro (evs l))])
  fun r H'=> r=.ret (.slice (some ⟨1,0,none⟩) (obS (l.take n) a).rds.length 1)/\H'=AH.of [some (.ro (evs l)),some (.arr 104 (prs (obS (l.take n) a).rds))]:=by
 refine zD.ends ?_
 refine zP (tbl:=zJb) zKx 1001 0 (af:=a180) rfl ?_
 rw[a180,b180,zW]
 refine⟨by simp,?_⟩
 simp -implicitDefEqProofs
 refine zA3 (qR jG (qS zKx) _ _ noY qM) (fun m tm H=> ∃i:Nat,m+i=n/\tm 0=.slice (some ⟨0,0,none⟩) n c/\tm 1=.int .i64 a/\tm 6=.int .i64 i/\tm 5=.slice (some ⟨1,0,none⟩) (obS (l.take i) a).rds.length 1/\H=AH.of [some (.ro (evs l)),some (.arr 104 (prs (obS (l.take i) a).rds))]) (m:=n) ?_ (by omega) ?_
 ·refine zF4 [.nil 104] [0,1] [some (.ro (evs l)),some (.arr 104 (prs []))] [(5,.slice (some ⟨1,0,none⟩) 0 1)] n (by omega) ?_ ?_ ?_ ⟨0,by omega,?_,?_,?_,?_,?_⟩<;> simp[obS,xO,ob0,prs]
  done
 rintro m tm H ⟨i,hm,t0,t1,t6,t5,rfl⟩
 by_cases hi:i<n
 ·obtain⟨x,hx⟩:=zAs (l:=l) (i:=i) (by omega)
  have hi':(i:Int)<n:=by omega
  have hin:(i:Int)<=n:=by omega
  have hsi:(i:Int)<=1000:=by omega
  have hwr:=jV hi (by omega)
  have hsuc:=qMi hx a
  have hroom:=zB0 (show i<l.length by omega)
  have hat:=zLe hx
  have hxm:=List.mem_of_getElem? hx
  have hol:=zTo l i a
  have hle:=qHh (l.take i) a
  rw[List.length_take] at hle
  generalize (obS (l.take i) a).rds=out at*
  have hr3:(out.length+1)*16<=140737488355328/\out.length<=9223372036854775806:=by omega
  have htk:=zKy out
  have hll:out.length*2<=(prs out).length:=by rw[zB8];omega
  by_cases ha:x.a=a
  ·by_cases hk:x.k=2
   ·have hrx:=hr x hxm hk
    cases hg:qQ (jY l i a) x.t with
    |none=>
     rw[if_pos ⟨ha,hk,hg⟩] at hsuc
     simp -implicitDefEqProofs [zJb,zZ,zAb,zL5,t0,t1,t6,t5,hn,hi,hi',hin,hsi,hwr,hroom,hat,ha,hk,hrx,hol,hg,hr3,htk,hll]
     refine⟨hv,qD [] [0,4] [some (.ro (evs l)),some (.arr 104 (prs (out++[⟨x.t,x.v⟩])))] (m - 1) (by omega) ?_ ?_ ⟨i+1,by omega,?_,?_,?_,?_,?_⟩⟩<;> simp[t0,t1,hsuc,zKc,zKb]
    |some v=>
     rw[if_neg (by rw[hg];simp)] at hsuc
     simp -implicitDefEqProofs [zJb,zZ,zAb,zL5,t0,t1,t6,t5,hn,hi,hi',hin,hsi,hwr,hroom,hat,ha,hk,hrx,hol,hg]
     refine⟨hv,qD [] [0,1] [some (.ro (evs l)),some (.arr 104 (prs out))] (m - 1) (by omega) ?_ ?_ ⟨i+1,by omega,?_,?_,?_,?_,?_⟩⟩<;> simp[t0,t1,t5,hsuc]
   ·rw[if_neg (by simp[hk])] at hsuc
    simp -implicitDefEqProofs [t0,t1,t6,t5,hi,hi',hwr,hroom,hat,ha,hk]
    refine qD [] [0,1] [some (.ro (evs l)),some (.arr 104 (prs out))] (m - 1) (by omega) ?_ ?_ ⟨i+1,by omega,?_,?_,?_,?_,?_⟩<;> simp[t0,t1,t5,hsuc]
  ·rw[if_neg (by simp[ha])] at hsuc
   simp -implicitDefEqProofs [t0,t1,t6,t5,hi,hi',hwr,hroom,hat,ha]
   refine qD [] [0,1] [some (.ro (evs l)),some (.arr 104 (prs out))] (m - 1) (by omega) ?_ ?_ ⟨i+1,by omega,?_,?_,?_,?_,?_⟩<;> simp[t0,t1,t5,hsuc]
 ·have hie:i=n:=by omega
  subst hie
  simp -implicitDefEqProofs [t0,t1,t6,t5]
  refine zA [] [0,1] ?_ ?_ ?_<;> simp
def EvG (l:List Ev):Prop:=(∀x∈l,0<=x.v/\x.v<18446744073709551616)/\∀x∈l,x.k=2->0<=x.t/\x.t<12
def zVz:qH GD:=fun args H=> match args with
 |[.slice (some ⟨k,0,none⟩) n _,.int .i64 a]=> match H.get k with
  |some (.ro cs)=> (zA6 cs).map fun l=> (n=l.length/\n<=1000/\EvG l,.ret (.slice (some ⟨H.next,0,none⟩) (obS l a).rds.length 1),H.add (.arr 104 (prs (obS l a).rds)))
  |_=> none
 |_=> none
theorem qLm:zY Tryz.prog cfg 180 zVz:=by
 intro args H p r H' h hp
 unfold zVz at h
 split at h
 case h_2=> cases h
 split at h
 case h_2=> cases h
 simp only[Option.map_eq_some_iff] at h
 obtain⟨l,hl,h⟩:=h
 rename_i k n c a x1 cs hk
 cases h
 rw[zBu hl] at hk
 obtain⟨rfl,h1,h2⟩:=hp
 have hr:=qSz l l.length c a (Nat.le_refl _) h1 h2.1 h2.2
 rw[List.take_length] at hr
 exact hr.atK (zCj fun i cs hi=> by rcases i with _|_|i<;> simp at hi⊢;exact hi) [k] (by simp) (by simp) (by simp[hk]) (by simp) (by simp) (by simp[qO hk])
theorem qSy (l:List Ev) (c:Nat) (a:Int) (hs:l.length<=1000) (hv:∀x∈l,0<=x.v/\x.v<18446744073709551616):zD Tryz.prog cfg 181 [.slice (some ⟨0,0,none⟩) l.length c,.int .i64 a] (AH.of [some (.ro (evs l))])
  fun r H'=> r=.ret (.slice (some ⟨1,0,none⟩) (jC (obS l a).fs).length 1)/\H'=AH.of [some (.ro (evs l)),some (.arr 104 (prs (jC (obS l a).fs)))]:=by
 refine zD.ends ?_
 have hol:=zTo l l.length a
 have hs':(l.length:Int)<=1000:=by omega
 rw[qHw]
 refine zP (tbl:=zJb) zKx 0 0 (af:=a181) rfl ?_
 rw[a181,b181,zW]
 refine⟨by simp,?_⟩
 simp -implicitDefEqProofs [zJb,zAb,zV1,hs',hol]
 refine⟨hv,zA [] [0,2] ?_ ?_ ?_⟩<;> simp
def zVy:qH GD:=fun args H=> match args with
 |[.slice (some ⟨k,0,none⟩) n _,.int .i64 a]=> match H.get k with
  |some (.ro cs)=> (zA6 cs).map fun l=> (n=l.length/\n<=1000/\EvG l,.ret (.slice (some ⟨H.next,0,none⟩) (jC (obS l a).fs).length 1),H.add (.arr 104 (prs (jC (obS l a).fs))))
  |_=> none
 |_=> none
theorem qLl:zY Tryz.prog cfg 181 zVy:=by
 intro args H p r H' h hp
 unfold zVy at h
 split at h
 case h_2=> cases h
 split at h
 case h_2=> cases h
 simp only[Option.map_eq_some_iff] at h
 obtain⟨l,hl,h⟩:=h
 rename_i k n c a x1 cs hk
 cases h
 rw[zBu hl] at hk
 obtain⟨rfl,h1,h2⟩:=hp
 exact (qSy l c a h1 h2.1).atK (zCj fun i cs hi=> by rcases i with _|_|i<;> simp at hi⊢;exact hi) [k] (by simp) (by simp) (by simp[hk]) (by simp) (by simp) (by simp[qO hk])
theorem qT5 (l:List Ev) (i:Nat) (a:Int) (h:(obS l a).ok=true):(obS (l.take i) a).ok=true:=by
 have:∀(c:List Ev) (o:Ob),(c.foldl obF o).ok=true->o.ok=true:=by
  intro c
  induction c with
  |nil=> intro o h;exact h
  |cons x c ih=>
   intro o h
   have h1:=ih _ h
   unfold obF at h1
   split at h1
   ·split at h1
    ·simp only[Bool.and_eq_true] at h1;exact h1.1
    ·exact h1
   ·exact h1
 unfold obS at h⊢
 rw[←List.take_append_drop i l,zJk,List.foldl_append] at h
 exact this _ _ h
theorem qHq {l:List Ev} {a:Int} (h:(obS l a).ok=true) {i:Nat} {x:Ev} (hx:l[i]?=some x) (ha:x.a=a) (hk:x.k=2) {v:Int} (hg:qQ (jY l i a) x.t=some v):v=x.v:=by
 have hl:=(List.getElem?_eq_some_iff.1 hx).1
 have h1:=qT5 l (i+1) a h
 rw[qCf hx,if_pos ha] at h1
 unfold obF at h1
 rw[if_pos hk,zP0 l i (by omega),hg] at h1
 simp only[Bool.and_eq_true,decide_eq_true_eq] at h1
 exact h1.2
theorem qSx (l:List Ev) (c:Nat) (a:Int) (hs:l.length<=1000) (hv:∀x∈l,0<=x.v/\x.v<18446744073709551616) (hr:∀x∈l,x.k=2->0<=x.t/\x.t<12) (hok:(obS l a).ok=true):zD Tryz.prog cfg 182 [.slice (some ⟨0,0,none⟩) l.length c,.int .i64 a] (AH.of [some (.ro (evs l))])
  fun r H'=> r=.ret (.bool true)/\H'=AH.of [some (.ro (evs l))]:=by
 refine zD.ends ?_
 obtain⟨n,hn⟩:∃n,l.length=n:=⟨_,rfl⟩
 rw[hn] at hs⊢
 refine zP (tbl:=zJb) zKx 1001 0 (af:=a182) rfl ?_
 rw[a182,b182,zW]
 refine⟨by simp,?_⟩
 simp -implicitDefEqProofs
 refine zA3 (qR jG (qS zKx) _ _ noY qM) (fun m tm H=> ∃i:Nat,m+i=n/\tm 0=.slice (some ⟨0,0,none⟩) n c/\tm 1=.int .i64 a/\tm 5=.int .i64 i/\H=AH.of [some (.ro (evs l))]) (m:=n) ?_ (by omega) ?_
 ·refine qD [] [0] [some (.ro (evs l))] n (by omega) ?_ ?_ ⟨0,by omega,?_,?_,?_,rfl⟩<;> simp
  done
 rintro m tm H ⟨i,hm,t0,t1,t5,rfl⟩
 by_cases hi:i<n
 ·obtain⟨x,hx⟩:=zAs (l:=l) (i:=i) (by omega)
  have hi':(i:Int)<n:=by omega
  have hin:(i:Int)<=n:=by omega
  have hnl:n<=l.length:=by omega
  have hsi:(i:Int)<=1000:=by omega
  have hwr:=jV hi (by omega)
  have hroom:=zB0 (show i<l.length by omega)
  have hat:=zLe hx
  have hxm:=List.mem_of_getElem? hx
  have hol:=zTo l i a
  by_cases ha:x.a=a
  ·by_cases hk:x.k=2
   ·have hrx:=hr x hxm hk
    cases hg:qQ (jY l i a) x.t with
    |none=>
     simp -implicitDefEqProofs [zJb,zZ,zAb,zL5,t0,t1,t5,hnl,hi,hi',hin,hsi,hwr,hroom,hat,ha,hk,hrx,hol,hg]
     refine⟨hv,qD [] [0] [some (.ro (evs l))] (m - 1) (by omega) ?_ ?_ ⟨i+1,by omega,?_,?_,?_,rfl⟩⟩<;> simp[t0,t1]
    |some v=>
     have he:=qHq hok hx ha hk hg
     simp -implicitDefEqProofs [zJb,zZ,zAb,zL5,t0,t1,t5,hnl,hi,hi',hin,hsi,hwr,hroom,hat,ha,hk,hrx,hol,hg,he]
     refine⟨hv,qD [] [0] [some (.ro (evs l))] (m - 1) (by omega) ?_ ?_ ⟨i+1,by omega,?_,?_,?_,rfl⟩⟩<;> simp[t0,t1]
   ·simp -implicitDefEqProofs [t0,t1,t5,hi,hi',hwr,hroom,hat,ha,hk]
    refine qD [] [0] [some (.ro (evs l))] (m - 1) (by omega) ?_ ?_ ⟨i+1,by omega,?_,?_,?_,rfl⟩<;> simp[t0,t1]
  ·simp -implicitDefEqProofs [t0,t1,t5,hi,hi',hwr,hroom,hat,ha]
   refine qD [] [0] [some (.ro (evs l))] (m - 1) (by omega) ?_ ?_ ⟨i+1,by omega,?_,?_,?_,rfl⟩<;> simp[t0,t1]
 ·have hie:i=n:=by omega
  subst hie
  simp -implicitDefEqProofs [t0,t1,t5]
  refine zA [] [0] ?_ ?_ ?_<;> simp
def zRt:qH GD:=fun args H=> match args with
 |[.slice (some ⟨k,0,none⟩) n _,.int .i64 a]=> match H.get k with
  |some (.ro cs)=> (zA6 cs).map fun l=> (n=l.length/\n<=1000/\EvG l/\(obS l a).ok=true,.ret (.bool true),H)
  |_=> none
 |_=> none
theorem qLk:zY Tryz.prog cfg 182 zRt:=by
 intro args H p r H' h hp
 unfold zRt at h
 split at h
 case h_2=> cases h
 split at h
 case h_2=> cases h
 simp only[Option.map_eq_some_iff] at h
 obtain⟨l,hl,h⟩:=h
 rename_i k n c a x1 cs hk
 cases h
 rw[zBu hl] at hk
 obtain⟨rfl,h1,h2,h3⟩:=hp
 exact (qSx l c a h1 h2.1 h2.2 h3).atK (zCj fun i cs hi=> by rcases i with _|_|i<;> simp at hi⊢;exact hi) [k] (by simp) (by simp) (by simp[hk]) (by simp) (by simp) (by simp[qO hk])
end YtapbabkndhaemaaGreat
end Go.Proofs
/-
 The document's orders:in,each,asked.
-/
namespace Go.Proofs
namespace YtapbabkndhaemaaGreat
open Go.Abs
theorem qV2 (e:TypeId) (l:List Int) (n tg:Nat) (x:Int) (hn:n<=l.length) (hl:n<=1000):zD Tryz.prog cfg 62 [.slice (some ⟨0,0,none⟩) n tg,.int .i64 x] (AH.of [some (.arr e (qI l))])
  fun r H'=> r=.ret (.bool (decide (x∈l.take n)))/\H'=AH.of [some (.arr e (qI l))]:=by
 refine zD.ends ?_
 refine zP (tbl:=[]) (by simp) 1001 0 (af:=a62) rfl ?_
 rw[a62,b62,zW]
 refine⟨by simp,?_⟩
 simp -implicitDefEqProofs
 refine jH (qR jG (qS (by simp)) _ _ noY qM) (fun m tm H=> ∃i:Nat,m+i=n/\(∀j y,j<i->l[j]?=some y->y≠x)/\tm 0=.slice (some ⟨0,0,none⟩) n tg/\tm 1=.int .i64 x/\tm 5=.int .i64 i/\H=AH.of [some (.arr e (qI l))]) (m:=n) ⟨0,by simp⟩ (by omega) ?_
 rintro m tm H ⟨i,hm,hpre,t0,t1,t5,rfl⟩
 by_cases hi:i<n
 ·obtain⟨y,hy⟩:=zAs (l:=l) (i:=i) (by omega)
  have hi':(i:Int)<n:=by omega
  have hwr:=jV hi (by omega)
  have uy:=zFp hy
  have gy:=zF8 hy
  by_cases hxy:y=x
  ·subst hxy
   have hin:y∈l.take n:=List.mem_of_getElem? (i:=i) (by rw[List.getElem?_take,if_pos hi,hy])
   simp -implicitDefEqProofs [t0,t1,t5,hi,hi',uy,gy,hwr,hin]
   refine zA [] [0] ?_ ?_ ?_<;> simp
  ·have hpre2:∀j z,j<i+1->l[j]?=some z->z≠x:=fun j z hj hz=> by
    by_cases h:j=i
    ·subst h;rw[hy] at hz;cases hz;exact hxy
    ·exact hpre j z (by omega) hz
   simp -implicitDefEqProofs [t0,t1,t5,hi,hi',uy,gy,hwr,hxy]
   exact⟨m - 1,by omega,i+1,by omega,hpre2,by omega⟩
 ·have hin:x∉l.take n:=fun h=> by
   obtain⟨j,hj⟩:=List.getElem?_of_mem h
   rw[List.getElem?_take] at hj
   split at hj
   ·exact hpre j x (by omega) hj rfl
   ·cases hj
  have hi':¬(i:Int)<n:=by omega
  simp -implicitDefEqProofs [t0,t1,t5,hi',hin]
  refine zA [] [0] ?_ ?_ ?_<;> simp
def zKz:qH GD:=fun args H=> match args with
 |[.slice (some ⟨k,0,none⟩) n _,.int .i64 x]=> match zA1 H k with
  |some l=> some (n<=l.2.length/\n<=1000,.ret (.bool (decide (x∈l.2.take n))),H)
  |none=> none
 |_=> none
theorem zO6:zY Tryz.prog cfg 62 zKz:=by
 intro args H p r H' h hp
 unfold zKz at h
 split at h
 case h_2=> cases h
 split at h
 case h_2=> cases h
 rename_i k n tg x _ l hl
 cases h
 exact (qV2 l.1 l.2 n tg x hp.1 hp.2).atK (jD rfl) [k] (by simp) (by simp) (by simp[zA8 hl]) (by simp) (by simp) (by simp[qO (zA8 hl)])
theorem zYf {l:List Int} (h:l.Nodup) {i:Nat} {x:Int} (hx:l[i]?=some x):x∉l.take i:=by
 intro hm
 obtain⟨j,hj⟩:=List.getElem?_of_mem hm
 rw[List.getElem?_take] at hj
 split at hj
 ·rename_i hji
  obtain⟨h1,e1⟩:=List.getElem?_eq_some_iff.1 hx
  obtain⟨h2,e2⟩:=List.getElem?_eq_some_iff.1 hj
  have:=(List.nodup_iff_pairwise_ne.1 h)
  have:=List.pairwise_iff_getElem.1 this j i h2 h1 hji
  exact this (e2.trans e1.symm)
 ·cases hj
def zRl:List (FuncId × qH GD):=[(62,zKz)]
theorem zUb:∀x∈zRl,zY Tryz.prog cfg x.1 x.2:=by simp[zRl,zO6]
theorem qV3 (e:TypeId) (l:List Int) (tg:Nat) (hl:l.length<=1000) (hd:l.Nodup):zD Tryz.prog cfg 61 [.slice (some ⟨0,0,none⟩) l.length tg] (AH.of [some (.arr e (qI l))])
  fun r H'=> r=.ret (.bool true)/\H'=AH.of [some (.arr e (qI l))]:=by
 refine zD.ends ?_
 obtain⟨n,hn⟩:∃n,l.length=n:=⟨_,rfl⟩
 rw[hn]
 refine zP (tbl:=zRl) zUb 1001 0 (af:=a61) rfl ?_
 rw[a61,b61,zW]
 refine⟨by simp,?_⟩
 simp -implicitDefEqProofs
 refine jH (qR jG (qS zUb) _ _ noY qM) (fun m tm H=> ∃i:Nat,m+i=n/\tm 0=.slice (some ⟨0,0,none⟩) n tg/\tm 3=.int .i64 i/\H=AH.of [some (.arr e (qI l))]) (m:=n) ⟨0,by simp⟩ (by omega) ?_
 rintro m tm H ⟨i,hm,t0,t3,rfl⟩
 by_cases hi:i<n
 ·obtain⟨y,hy⟩:=zAs (l:=l) (i:=i) (by omega)
  have hi':(i:Int)<n:=by omega
  have hin:(i:Int)<=n:=by omega
  have hin2:i<=n:=by omega
  have h1000:i<=1000:=by omega
  have hwr:=jV hi (by omega)
  have uy:=zFp hy
  have gy:=zF8 hy
  have hno:=zYf hd hy
  simp -implicitDefEqProofs [zRl,zKz,zA1,zCs,t0,t3,hi,hi',hin,hin2,h1000,hn,uy,gy,hwr,hno]
  exact⟨m - 1,by omega,i+1,by omega,by simp[t0]⟩
 ·have hi':¬(i:Int)<n:=by omega
  simp -implicitDefEqProofs [t0,t3,hi']
  refine zA [] [0] ?_ ?_ ?_<;> simp
def st61:qH GD:=fun args H=> match args with
 |[.slice (some ⟨k,0,none⟩) n _]=> match zA1 H k with
  |some l=> some (n=l.2.length/\n<=1000/\l.2.Nodup,.ret (.bool true),H)
  |none=> none
 |_=> none
theorem qRg:zY Tryz.prog cfg 61 st61:=by
 intro args H p r H' h hp
 unfold st61 at h
 split at h
 case h_2=> cases h
 split at h
 case h_2=> cases h
 rename_i k n tg _ l hl
 cases h
 obtain⟨rfl,h1,h2⟩:=hp
 exact (qV3 l.1 l.2 tg h1 h2).atK (jD rfl) [k] (by simp) (by simp) (by simp[zA8 hl]) (by simp) (by simp) (by simp[qO (zA8 hl)])
def zJ4:List (FuncId × qH GD):=[(62,zKz),(117,zRx),(97,zA2),(118,zAi zN5)]
theorem zIt:∀x∈zJ4,zY Tryz.prog cfg x.1 x.2:=by simp[zJ4,zO6,qL2,zS5,zXm]
structure Askd (l:List Ev) (f cm:List Int):Prop where
 r:zE6 l=true
 ll:l.length<=1000
 ev:EvG l
 fl:1<=f.length/\f.length<=12
 fr:∀v∈f,zAg v=true/\0<=v/\v<18446744073709551616
 cl:cm.length<=1000
 cn:cm.Nodup
 cs:∀x∈cm,zAp l x=2
theorem qV5 (l:List Ev) (f cm:List Int) (e1 e2:TypeId) (c1 c2 c3:Nat) (h:Askd l f cm):zD Tryz.prog cfg 59 [.slice (some ⟨0,0,none⟩) l.length c1,.slice (some ⟨1,0,none⟩) f.length c2,.slice (some ⟨2,0,none⟩) cm.length c3] (AH.of [some (.ro (evs l)),some (.arr e1 (us f)),some (.arr e2 (qI cm))])
  fun r H'=> r=.ret (.int .i64 0)/\H'=AH.of [some (.ro (evs l)),some (.arr e1 (us f)),some (.arr e2 (qI cm))]:=by
 refine zD.ends ?_
 have hr:=h.r
 have hll:=h.ll
 have hev:=h.ev.1
 obtain⟨n,hn⟩:∃n,f.length=n:=⟨_,rfl⟩
 obtain⟨q,hq⟩:∃q,cm.length=q:=⟨_,rfl⟩
 obtain⟨z,hz⟩:∃z,l.length=z:=⟨_,rfl⟩
 have hfl:=h.fl
 have hcl:=h.cl
 rw[hn] at hfl⊢
 rw[hq] at hcl⊢
 have hr2:zE6 (l.take z)=true:=by rw[←hz,List.take_length];exact hr
 rw[hz] at hll⊢
 have h12:¬(12:Int)<n:=by omega
 refine zP (tbl:=zJ4) zIt 1001 0 (af:=a59) rfl ?_
 rw[a59,b59,zW]
 refine⟨by simp,?_⟩
 simp -implicitDefEqProofs [zJ4,zRx,hz,hr2,hll,h12]
 refine⟨hev,?_⟩
 refine jH (qR jG (qS zIt) _ _ noY qM) (fun m tm H=> ∃i:Nat,m+i=n/\tm 0=.slice (some ⟨0,0,none⟩) z c1/\tm 1=.slice (some ⟨1,0,none⟩) n c2/\tm 2=.slice (some ⟨2,0,none⟩) q c3/\tm 7=.int .i64 i/\H=AH.of [some (.ro (evs l)),some (.arr e1 (us f)),some (.arr e2 (qI cm))]) (m:=n) ⟨0,by simp⟩ (by omega) ?_
 rintro m tm H ⟨i,hm,t0,t1,t2,t7,rfl⟩
 by_cases hi:i<n
 ·obtain⟨x,hx⟩:=zAs (l:=f) (i:=i) (by omega)
  have hi':(i:Int)<n:=by omega
  have hwr:=jV hi (by omega)
  have ux:=zEt hx
  obtain⟨hrx,hx0,hx1⟩:=h.fr x (List.mem_of_getElem? hx)
  simp -implicitDefEqProofs [zJ4,zA2,asU,t0,t1,t2,t7,hi,hi',ux,hrx,hx0,hx1,hwr]
  exact⟨m - 1,by omega,i+1,by omega,by simp[t0,t1,t2]⟩
 ·have hi':¬(i:Int)<n:=by omega
  simp -implicitDefEqProofs [t0,t1,t2,t7,hi']
  refine jH (qR jG (qS zIt) _ _ noY qM) (fun m tm H=> ∃i:Nat,m+i=q/\tm 0=.slice (some ⟨0,0,none⟩) z c1/\tm 2=.slice (some ⟨2,0,none⟩) q c3/\tm 8=.int .i64 i/\H=AH.of [some (.ro (evs l)),some (.arr e1 (us f)),some (.arr e2 (qI cm))]) (m:=q) ⟨0,by simp[t0,t2]⟩ (by omega) ?_
  rintro m tm H ⟨j,hm,t0,t2,t8,rfl⟩
  by_cases hj:j<q
  ·obtain⟨x,hx⟩:=zAs (l:=cm) (i:=j) (by omega)
   have hj':(j:Int)<q:=by omega
   have hjn:(j:Int)<=q:=by omega
   have hjn2:j<=q:=by omega
   have h1000:j<=1000:=by omega
   have hwr:=jV hj (by omega)
   have uy:=zFp hx
   have gy:=zF8 hx
   have hst:=h.cs x (List.mem_of_getElem? hx)
   have hst2:zAp (l.take z) x=2:=by rw[←hz,List.take_length];exact hst
   have hno:=zYf h.cn hx
   simp -implicitDefEqProofs [zJ4,zAi,zN5,zKz,zA1,zCs,t0,t2,t8,hz,hll,hq,hj,hj',hjn,hjn2,h1000,uy,gy,hwr,hst,hst2,hno]
   exact⟨m - 1,by omega,j+1,by omega,by simp[t0,t2]⟩
  ·have hj':¬(j:Int)<q:=by omega
   simp -implicitDefEqProofs [t0,t2,t8,hj']
   refine zA [] [0,1,2] ?_ ?_ ?_<;> simp
theorem qTq (l:List Ev) (f:List Int) (e1:TypeId) (c1 c2:Nat) (h:Askd l f []):zD Tryz.prog cfg 59 [.slice (some ⟨0,0,none⟩) l.length c1,.slice (some ⟨1,0,none⟩) f.length c2,.slice none 0 0] (AH.of [some (.ro (evs l)),some (.arr e1 (us f))])
  fun r H'=> r=.ret (.int .i64 0)/\H'=AH.of [some (.ro (evs l)),some (.arr e1 (us f))]:=by
 refine zD.ends ?_
 have hr:=h.r
 have hll:=h.ll
 have hev:=h.ev.1
 obtain⟨n,hn⟩:∃n,f.length=n:=⟨_,rfl⟩
 obtain⟨z,hz⟩:∃z,l.length=z:=⟨_,rfl⟩
 have hfl:=h.fl
 rw[hn] at hfl⊢
 have hr2:zE6 (l.take z)=true:=by rw[←hz,List.take_length];exact hr
 rw[hz] at hll⊢
 have h12:¬(12:Int)<n:=by omega
 refine zP (tbl:=zJ4) zIt 1001 0 (af:=a59) rfl ?_
 rw[a59,b59,zW]
 refine⟨by simp,?_⟩
 simp -implicitDefEqProofs [zJ4,zRx,hz,hr2,hll,h12]
 refine⟨hev,?_⟩
 refine jH (qR jG (qS zIt) _ _ noY qM) (fun m tm H=> ∃i:Nat,m+i=n/\tm 1=.slice (some ⟨1,0,none⟩) n c2/\tm 2=.slice none 0 0/\tm 7=.int .i64 i/\H=AH.of [some (.ro (evs l)),some (.arr e1 (us f))]) (m:=n) ⟨0,by simp⟩ (by omega) ?_
 rintro m tm H ⟨i,hm,t1,t2,t7,rfl⟩
 by_cases hi:i<n
 ·obtain⟨x,hx⟩:=zAs (l:=f) (i:=i) (by omega)
  have hi':(i:Int)<n:=by omega
  have hwr:=jV hi (by omega)
  have ux:=zEt hx
  obtain⟨hrx,hx0,hx1⟩:=h.fr x (List.mem_of_getElem? hx)
  simp -implicitDefEqProofs [zJ4,zA2,asU,t1,t2,t7,hi,hi',ux,hrx,hx0,hx1,hwr]
  exact⟨m - 1,by omega,i+1,by omega,by simp[t1,t2]⟩
 ·have hi':¬(i:Int)<n:=by omega
  simp -implicitDefEqProofs [t1,t2,t7,hi']
  refine jH (qR jG (qS zIt) _ _ noY qM) (fun m tm H=> tm 2=.slice none 0 0/\tm 8=.int .i64 0/\H=AH.of [some (.ro (evs l)),some (.arr e1 (us f))]) (m:=0) (by simp[t2]) (by omega) ?_
  rintro m tm H ⟨t2,t8,rfl⟩
  simp -implicitDefEqProofs [t2,t8]
  refine zA [] [0,1] ?_ ?_ ?_<;> simp
end YtapbabkndhaemaaGreat
end Go.Proofs
/-
 The document's orders:one attempt over a heap.
-/
namespace Go.Proofs
namespace YtapbabkndhaemaaGreat
open Go.Abs
theorem qMj (l:List Ev) (a:Int):∀p∈(obS l a).rds,∃x∈l,x.k=2/\x.t=p.t:=by
 have key:∀(c:List Ev) (o:Ob),(∀p∈(c.foldl obF o).rds,p∈o.rds∨∃x∈c,x.k=2/\x.t=p.t):=by
  intro c
  induction c with
  |nil=> intro o p hp;exact .inl hp
  |cons x c ih=>
   intro o p hp
   rcases ih (obF o x) p hp with h|⟨y,h1,h2⟩
   ·unfold obF at h
    split at h
    ·rename_i hk
     split at h
     ·exact .inl h
     ·simp only[List.mem_append,List.mem_singleton] at h
      rcases h with h|h
      ·exact .inl h
      ·exact .inr ⟨x,by simp,hk,by rw[h]⟩
    ·exact .inl h
   ·exact .inr ⟨y,by simp[h1],h2⟩
 intro p hp
 rcases key (xO l a) ob0 p hp with h|⟨x,h1,h2⟩
 ·simp[ob0] at h
 ·exact⟨x,by unfold xO at h1;exact (List.mem_filter.1 h1).1,h2⟩
theorem qBe (h:List Int) (w:List Pr) (p:Pr):zB1 h (w++[p])=(zB1 h w).set p.t.toNat p.v:=by unfold zB1;rw[List.foldl_append];rfl
def zOz:List (FuncId × qH GD):=[(180,zVz),(181,zVy),(182,zRt)]
theorem zMl:∀x∈zOz,zY Tryz.prog cfg x.1 x.2:=by simp[zOz,qLm,qLl,qLk]
theorem zSq (l:List Ev):zA6 (evs l)=some l:=by simp
theorem qTf (l:List Ev) (f:List Int) (e1:TypeId) (c1 c2:Nat) (a:Int) (cnt:Bool) (hs:l.length<=1000) (hv:EvG l) (hf:f.length<=1000) (h1:zQp l f a=true):
  zD Tryz.prog cfg 121 [.slice (some ⟨0,0,none⟩) l.length c1,.slice (some ⟨1,0,none⟩) f.length c2,.int .i64 a,.bool cnt] (AH.of [some (.ro (evs l)),some (.arr e1 (us f))])
  fun r H'=> r=.ret (.bool true)/\H'=AH.of [some (.ro (evs l)),some (.arr e1 (us (if cnt=true then zB1 f (jC (obS l a).fs) else f)))]:=by
 refine zD.ends ?_
 unfold zQp at h1
 simp only[Bool.and_eq_true] at h1
 obtain⟨⟨hrd,hwr0⟩,hok⟩:=h1
 have hrt:=qMj l a
 have hrl:=qHh l a
 have hwt:∀p∈jC (obS l a).fs,0<=p.t/\p.t<12:=fun p hp=> zHd hp
 have hwl:(jC (obS l a).fs).length<=12:=zPt _ 12
 obtain⟨R,hR⟩:∃R,(obS l a).rds=R:=⟨_,rfl⟩
 obtain⟨W,hW⟩:∃W,jC (obS l a).fs=W:=⟨_,rfl⟩
 rw[hR] at hrd hrt hrl
 rw[hW] at hwr0 hwt hwl⊢
 obtain⟨n,hn⟩:∃n,f.length=n:=⟨_,rfl⟩
 obtain⟨z,hz⟩:∃z,l.length=z:=⟨_,rfl⟩
 obtain⟨r,hr⟩:∃r,R.length=r:=⟨_,rfl⟩
 obtain⟨w,hw⟩:∃w,W.length=w:=⟨_,rfl⟩
 have hlen:∀x,(zB1 f x).length=n:=fun x=> by rw[zIq,hn]
 rw[hn] at hf⊢
 rw[hz] at hs⊢
 rw[hz,hr] at hrl
 rw[hw] at hwl
 refine zP (tbl:=zOz) zMl 1001 0 (af:=a121) rfl ?_
 rw[a121,b121,zW]
 refine⟨by simp,?_⟩
 simp -implicitDefEqProofs [zOz,zVz,zVy,hz,hs,hv,hR,hW,hr,hw]
 refine jH (qR jG (qS zMl) _ _ noY qM) (fun m tm H=> ∃i:Nat,m+i=r/\tm 0=.slice (some ⟨0,0,none⟩) z c1/\tm 1=.slice (some ⟨1,0,none⟩) n c2/\tm 2=.int .i64 a/\tm 3=.bool cnt/\tm 9=.slice (some ⟨2,0,none⟩) r 1/\tm 10=.slice (some ⟨3,0,none⟩) w 1/\tm 11=.int .i64 i/\H=AH.of [some (.ro (evs l)),some (.arr e1 (us f)),some (.arr 104 (prs R)),some (.arr 104 (prs W))]) (m:=r) ⟨0,by simp⟩ (by omega) ?_
 rintro m tm H ⟨i,hm,t0,t1,t2,t3,t9,t10,t11,rfl⟩
 by_cases hi:i<r
 ·obtain⟨x,hx⟩:=zAs (l:=R) (i:=i) (by omega)
  have hi':(i:Int)<r:=by omega
  have hwr:=jV hi (by omega)
  have hxm:=List.mem_of_getElem? hx
  obtain⟨pt,pv⟩:=zMc hx
  have hro:i*2+2<=(prs R).length:=by rw[zB8];omega
  have hb:=hrd
  unfold zX5 at hb
  rw[List.all_eq_true] at hb
  have hb:=hb x hxm
  simp only[Bool.and_eq_true,decide_eq_true_eq] at hb
  obtain⟨y,hy,hk2,hyt⟩:=hrt x hxm
  have h0:=(hv.2 y hy hk2).1
  rw[hyt] at h0
  obtain⟨q,hq⟩:∃q:Nat,x.t=q:=⟨x.t.toNat,by omega⟩
  rw[hq] at hb pt
  have hqn:¬(n:Int)<=q:=by omega
  have hqn2:(q:Int)<n:=by omega
  have hqn3:q<n:=by omega
  have ux:=zEt hb.2
  rw[Int.toNat_natCast] at ux
  simp -implicitDefEqProofs [t0,t1,t2,t3,t9,t10,t11,hi,hi',hwr,pt,pv,hro,hqn,hqn2,hqn3,ux]
  exact⟨m - 1,by omega,i+1,by omega,by simp[t0,t1,t2,t3,t9,t10]⟩
 ·have hi':¬(i:Int)<r:=by omega
  simp -implicitDefEqProofs [t0,t1,t2,t3,t9,t10,t11,hi']
  refine jH (qR jG (qS zMl) _ _ noY qM) (fun m tm H=> ∃i:Nat,m+i=w/\tm 0=.slice (some ⟨0,0,none⟩) z c1/\tm 1=.slice (some ⟨1,0,none⟩) n c2/\tm 2=.int .i64 a/\tm 3=.bool cnt/\tm 10=.slice (some ⟨3,0,none⟩) w 1/\tm 12=.int .i64 i/\H=AH.of [some (.ro (evs l)),some (.arr e1 (us f)),some (.arr 104 (prs R)),some (.arr 104 (prs W))]) (m:=w) ⟨0,by simp[t0,t1,t2,t3,t10]⟩ (by omega) ?_
  rintro m tm H ⟨j,hm,t0,t1,t2,t3,t10,t12,rfl⟩
  by_cases hj:j<w
  ·obtain⟨x,hx⟩:=zAs (l:=W) (i:=j) (by omega)
   have hj':(j:Int)<w:=by omega
   have hwr:=jV hj (by omega)
   have hxm:=List.mem_of_getElem? hx
   obtain⟨pt,pv⟩:=zMc hx
   have hro:j*2+2<=(prs W).length:=by rw[zB8];omega
   have hb:=hwr0
   unfold zOs at hb
   rw[List.all_eq_true] at hb
   have hb:=hb x hxm
   simp only[decide_eq_true_eq] at hb
   have hqn:¬(n:Int)<=x.t:=by omega
   simp -implicitDefEqProofs [t0,t1,t2,t3,t10,t12,hj,hj',hwr,pt,pv,hro,hqn]
   exact⟨m - 1,by omega,j+1,by omega,by simp[t0,t1,t2,t3,t10]⟩
  ·have hj':¬(j:Int)<w:=by omega
   simp -implicitDefEqProofs [t0,t1,t2,t3,t10,t12,hj']
   refine jH (qR jG (qS zMl) _ _ noY qM) (fun m tm H=> ∃i:Nat,m+i=w/\tm 0=.slice (some ⟨0,0,none⟩) z c1/\tm 1=.slice (some ⟨1,0,none⟩) n c2/\tm 2=.int .i64 a/\tm 3=.bool cnt/\tm 10=.slice (some ⟨3,0,none⟩) w 1/\tm 13=.int .i64 i/\(cnt=false->i=0)/\H=AH.of [some (.ro (evs l)),some (.arr e1 (us (zB1 f (W.take i)))),some (.arr 104 (prs R)),some (.arr 104 (prs W))]) (m:=w) ⟨0,by simp[t0,t1,t2,t3,t10,zB1]⟩ (by omega) ?_
   rintro m tm H ⟨k,hm,t0,t1,t2,t3,t10,t13,hcn,rfl⟩
   cases cnt with
   |false=>
    have hk0:=hcn rfl
    subst hk0
    have hap:zB1 f (W.take 0)=f:=rfl
    simp -implicitDefEqProofs [zOz,zRt,hz,hs,hv,hok,t0,t1,t2,t3,t10,t13]
    refine⟨fun _=> zA [] [0,1] ?_ ?_ ?_,fun _=> zA [] [0,1] ?_ ?_ ?_⟩<;> simp[zB1]
   |true=>
    by_cases hk:k<w
    ·obtain⟨x,hx⟩:=zAs (l:=W) (i:=k) (by omega)
     have hk':(k:Int)<w:=by omega
     have hwr:=jV hk (by omega)
     have hxm:=List.mem_of_getElem? hx
     obtain⟨pt,pv⟩:=zMc hx
     have hro:k*2+2<=(prs W).length:=by rw[zB8];omega
     have hb:=hwr0
     unfold zOs at hb
     rw[List.all_eq_true] at hb
     have hb:=hb x hxm
     simp only[decide_eq_true_eq] at hb
     have h0:=(hwt x hxm).1
     obtain⟨q,hq⟩:∃q:Nat,x.t=q:=⟨x.t.toNat,by omega⟩
     rw[hq] at hb pt
     have hqn2:(q:Int)<n:=by omega
     have hqn3:q<n:=by omega
     have hsuc:zB1 f (W.take (k+1))=(zB1 f (W.take k)).set q x.v:=by
      rw[List.take_add_one,hx]
      show zB1 f (W.take k++[x])=_
      rw[qBe,hq,Int.toNat_natCast]
     have hl2:=hlen (W.take k)
     have hus:=zAd (zB1 f (W.take k))
     rw[hl2] at hus
     simp -implicitDefEqProofs [t0,t1,t2,t3,t10,t13,hk,hk',hwr,pt,pv,hro,hb,hqn2,hqn3,hl2,hus,xZ]
     exact⟨by omega,m - 1,by omega,k+1,by omega,by simp[t0,t1,t2,t3,t10,hsuc]⟩
    ·have hk':¬(k:Int)<w:=by omega
     have ht:W.take k=W:=List.take_of_length_le (by omega)
     simp -implicitDefEqProofs [zOz,zRt,hz,hs,hv,hok,t0,t1,t2,t3,t10,t13,hk',ht]
     refine zA [] [0,1] ?_ ?_ ?_<;> simp
def zO9:qH GD:=fun args H=> match args with
 |[.slice (some ⟨k,0,none⟩) n _,.slice (some ⟨k2,0,none⟩) n2 _,.int .i64 a,.bool cnt]=> match H.get k with
  |some (.ro cs)=> (zA6 cs).bind fun l=> (zDa H k2).map fun f=> (n=l.length/\n<=1000/\EvG l/\n2=f.2.length/\n2<=1000/\zQp l f.2 a=true,.ret (.bool true),H.upd k2 (.arr f.1 (us (if cnt=true then zB1 f.2 (jC (obS l a).fs) else f.2))))
  |_=> none
 |_=> none
theorem qL0:zY Tryz.prog cfg 121 zO9:=by
 intro args H p r H' h hp
 unfold zO9 at h
 split at h
 case h_2=> cases h
 split at h
 case h_2=> cases h
 simp only[Option.map_eq_some_iff,Option.bind_eq_some_iff] at h
 obtain⟨l,hl,f,hf,h⟩:=h
 rename_i k n c k2 n2 c2 a cnt x1 cs hk
 cases h
 rw[zBu hl] at hk
 obtain⟨rfl,h1,h2,rfl,h3,h4⟩:=hp
 have hf2:=zDk hf
 have hne:k≠k2:=fun e=> by subst e;rw[hk] at hf2;cases hf2
 exact (qTf l f.2 f.1 c c2 a cnt h1 h2 h3 h4).atK (zCj fun i cs hi=> by rcases i with _|_|_|i<;> simp at hi⊢;exact hi) [k,k2] (by simp[hne]) (by simp) (by simp[hk,hf2]) (by simp) (by simp) (by simp[qO hk])
end YtapbabkndhaemaaGreat
end Go.Proofs
/-
 The document's orders:an order over a heap.
-/
namespace Go.Proofs
namespace YtapbabkndhaemaaGreat
open Go.Abs
theorem qG3 {l:List Ev} {cm:List Int} {a:Int} {rest h hp:List Int} (hr:zFo l cm (a::rest) h=some hp):
  (∀b∈rest,zCu l b a=false)/\zQp l h a=true/\zFo l cm rest (if zHk l cm a=true then zB1 h (jC (obS l a).fs) else h)=some hp:=by
 unfold zFo at hr
 split at hr
 ·cases hr
 ·rename_i hb
  split at hr
  ·rename_i ho
   refine⟨fun b hm=> ?_,ho,hr⟩
   cases hbb:zCu l b a with
   |false=> rfl
   |true=> exact absurd (List.any_eq_true.2 ⟨b,hm,hbb⟩) hb
  ·cases hr
theorem qI2 {l:List Int} {i:Nat} {x:Int} (h:l[i]?=some x):l.drop i=x::l.drop (i+1):=by
 obtain⟨h1,h2⟩:=List.getElem?_eq_some_iff.1 h
 rw[List.drop_eq_getElem_cons h1,h2]
theorem qAw {l:List Int} {i k:Nat} {x:Int} (h:l[k]?=some x) (hk:i<k):x∈l.drop (i+1):=by
 refine List.mem_of_getElem? (i:=k - (i+1)) ?_
 rw[List.getElem?_drop,←h];congr 1;omega
def zMj:List (FuncId × qH GD):=[(62,zKz),(121,zO9),(118,zAi zN5),(120,zAi r120)]
theorem zQa:∀x∈zMj,zY Tryz.prog cfg x.1 x.2:=by simp[zMj,zO6,qL0,zXm,qL1]
def ruH (l:List Ev) (f ord cm h:List Int) (e1 e2 e3:TypeId):List (Option (AObj GD)):=[some (.ro (evs l)),some (.arr e1 (us f)),some (.arr e2 (qI ord)),some (.arr e3 (qI cm)),some (.arr 30 (us h))]
def ruG (l:List Ev) (f ord cm h:List Int) (e1 e2 e3:TypeId):List (Option (AObj GD)):=[some (.ro (evs l)),some (.arr e1 (us f)),some (.arr e2 (qI ord)),some (.arr e3 (qI cm)),none,some (.arr 30 (us h))]
def ruI (l:List Ev) (f ord cm hp:List Int) (e1 e2 e3:TypeId) (c1 c3 c4 n q z o:Nat) (m:Nat) (tm:Nat->Value) (H:AH GD):Prop:=∃(i:Nat) (g:List Int),m+i=o/\g.length=n/\zFo l cm (ord.drop i) g=some hp/\tm 0=.slice (some ⟨0,0,none⟩) z c1/\tm 2=.slice (some ⟨2,0,none⟩) o c3/\tm 3=.slice (some ⟨3,0,none⟩) q c4/\tm 11=.slice (some ⟨5,0,none⟩) n 1/\tm 12=.int .i64 i/\H=AH.of (ruG l f ord cm g e1 e2 e3)
def ruJ (l:List Ev) (f ord cm g:List Int) (e1 e2 e3:TypeId) (c1 c3 c4 n q z o i:Nat) (m:Nat) (tm:Nat->Value) (H:AH GD):Prop:=∃k:Nat,m+k=o/\i+1<=k/\tm 0=.slice (some ⟨0,0,none⟩) z c1/\tm 2=.slice (some ⟨2,0,none⟩) o c3/\tm 3=.slice (some ⟨3,0,none⟩) q c4/\tm 11=.slice (some ⟨5,0,none⟩) n 1/\tm 12=.int .i64 i/\tm 13=.int .i64 k/\H=AH.of (ruG l f ord cm g e1 e2 e3)
theorem qV1 (l:List Ev) (f ord cm hp:List Int) (e1 e2 e3:TypeId) (c1 c2 c3 c4:Nat) (h:Askd l f cm) (hol:ord.length<=1000) (hrun:zFo l cm ord f=some hp):
  zD Tryz.prog cfg 63 [.slice (some ⟨0,0,none⟩) l.length c1,.slice (some ⟨1,0,none⟩) f.length c2,.slice (some ⟨2,0,none⟩) ord.length c3,.slice (some ⟨3,0,none⟩) cm.length c4] (AH.of [some (.ro (evs l)),some (.arr e1 (us f)),some (.arr e2 (qI ord)),some (.arr e3 (qI cm))])
  fun r H'=> r=.ret (.tuple #[.int .i64 0,.int .i64 0,.slice (some ⟨4,0,none⟩) f.length 1])/\H'=AH.of (ruH l f ord cm hp e1 e2 e3):=by
 refine zD.ends ?_
 have hll:=h.ll
 have hv:=h.ev
 have hfl:=h.fl
 have hcl:=h.cl
 obtain⟨n,hn⟩:∃n,f.length=n:=⟨_,rfl⟩
 obtain⟨q,hq⟩:∃q,cm.length=q:=⟨_,rfl⟩
 obtain⟨z,hz⟩:∃z,l.length=z:=⟨_,rfl⟩
 obtain⟨o,ho⟩:∃o,ord.length=o:=⟨_,rfl⟩
 have htl:l.take z=l:=List.take_of_length_le (by omega)
 have htc:cm.take q=cm:=List.take_of_length_le (by omega)
 have htu:(us f).take n=us f:=List.take_of_length_le (by rw[zAd];omega)
 have hul:(us f).length=n:=by rw[zAd,hn]
 rw[hn] at hfl⊢
 rw[hq] at hcl⊢
 rw[hz] at hll⊢
 rw[ho] at hol⊢
 have hr3:n*8<=140737488355328/\n<=9223372036854775806/\n<=9223372036854775807:=by omega
 have hn0:n≠0:=by omega
 have hn1:0<n:=by omega
 refine zP (tbl:=zMj) zQa 1001 0 (af:=a63) rfl ?_
 rw[a63,b63,zW]
 refine⟨by simp,?_⟩
 simp -implicitDefEqProofs [hr3,hn0,hn1,htu,hul]
 refine zA3 (qR jG (qS zQa) _ _ noY qM) (ruI l f ord cm hp e1 e2 e3 c1 c3 c4 n q z o) (m:=o) ?_ (by omega) ?_
 ·refine qD [] [0,1,2,3,4,5] (ruG l f ord cm f e1 e2 e3) o (by omega) ?_ ?_ ⟨0,f,by omega,hn,hrun,?_,?_,?_,?_,?_,rfl⟩<;> simp[ruG]
 rintro m tm H ⟨i,g,hm,hgl,hrn,t0,t2,t3,t11,t12,rfl⟩
 by_cases hi:i<o
 ·obtain⟨a,ha⟩:=zAs (l:=ord) (i:=i) (by omega)
  have hi':(i:Int)<o:=by omega
  have hwr:=jV hi (by omega)
  have ua:=zFp ha
  have ga:=zF8 ha
  rw[qI2 ha] at hrn
  obtain⟨hb,hone,hrest⟩:=qG3 hrn
  simp -implicitDefEqProofs [ruG,t0,t2,t3,t11,t12,hi,hi',hwr]
  refine zA3 (qR jG (qS zQa) _ _ noY qM) (ruJ l f ord cm g e1 e2 e3 c1 c3 c4 n q z o i) (m:=o - (i+1)) ?_ (by omega) ?_
  ·refine qD [] [0,1,2,3,4,5] (ruG l f ord cm g e1 e2 e3) (o - (i+1)) (by omega) ?_ ?_ ⟨i+1,by omega,by omega,?_,?_,?_,?_,?_,?_,rfl⟩<;> simp[ruG,t0,t2,t3,t11,t12]
  rintro m2 tm H ⟨k,hm2,hik,t0,t2,t3,t11,t12,t13,rfl⟩
  by_cases hk:k<o
  ·obtain⟨b,hbk⟩:=zAs (l:=ord) (i:=k) (by omega)
   have hk':(k:Int)<o:=by omega
   have hwk:=jV hk (by omega)
   have ub:=zFp hbk
   have gb:=zF8 hbk
   have hbf:=hb b (qAw hbk (by omega))
   simp -implicitDefEqProofs [ruG,zMj,zAi,r120,t0,t2,t3,t11,t12,t13,hi,hi',hk,hk',hwk,ua,ga,ub,gb,hz,hll,htl,hbf]
   refine qD [] [0,1,2,3,4,5] (ruG l f ord cm g e1 e2 e3) (m2 - 1) (by omega) ?_ ?_ ⟨k+1,by omega,by omega,?_,?_,?_,?_,?_,?_,rfl⟩<;> simp[ruG,t0,t2,t3,t11,t12]
  ·have hk':¬(k:Int)<o:=by omega
   by_cases h3:zAp l a=3
   ·have hc:zHk l cm a=true:=by simp[zHk,h3]
    rw[if_pos hc] at hrest
    simp -implicitDefEqProofs [ruG,zMj,zAi,zN5,zO9,zDa,zFs,t0,t2,t3,t11,t12,t13,hi,hi',hk',hwr,ua,ga,hz,hll,htl,h3,hgl,hv,hone]
    refine⟨by omega,qD [] [0,1,2,3,4,5] (ruG l f ord cm (zB1 g (jC (obS l a).fs)) e1 e2 e3) (m - 1) (by omega) ?_ ?_ ⟨i+1,_,by omega,?_,hrest,?_,?_,?_,?_,?_,rfl⟩⟩<;> simp[ruG,t0,t2,t3,t11,zIq,hgl]
   ·by_cases hcm:a∈cm
    ·have hc:zHk l cm a=true:=by simp[zHk,hcm]
     rw[if_pos hc] at hrest
     simp -implicitDefEqProofs [ruG,zMj,zAi,zN5,zO9,zKz,zA1,zCs,zDa,zFs,t0,t2,t3,t11,t12,t13,hi,hi',hk',hwr,ua,ga,hz,hll,htl,hq,hcl,htc,h3,hcm,hgl,hv,hone]
     refine⟨by omega,qD [] [0,1,2,3,4,5] (ruG l f ord cm (zB1 g (jC (obS l a).fs)) e1 e2 e3) (m - 1) (by omega) ?_ ?_ ⟨i+1,_,by omega,?_,hrest,?_,?_,?_,?_,?_,rfl⟩⟩<;> simp[ruG,t0,t2,t3,t11,zIq,hgl]
    ·have hc:¬zHk l cm a=true:=by simp[zHk,h3,hcm]
     rw[if_neg hc] at hrest
     simp -implicitDefEqProofs [ruG,zMj,zAi,zN5,zO9,zKz,zA1,zCs,zDa,zFs,t0,t2,t3,t11,t12,t13,hi,hi',hk',hwr,ua,ga,hz,hll,htl,hq,hcl,htc,h3,hcm,hgl,hv,hone]
     refine⟨by omega,qD [] [0,1,2,3,4,5] (ruG l f ord cm g e1 e2 e3) (m - 1) (by omega) ?_ ?_ ⟨i+1,_,by omega,?_,hrest,?_,?_,?_,?_,?_,rfl⟩⟩<;> simp[ruG,t0,t2,t3,t11,zIq,hgl]
 ·have hie:i=o:=by omega
  have hd:ord.drop i=[]:=List.drop_eq_nil_of_le (by omega)
  rw[hd] at hrn
  have hg:g=hp:=by simpa [zFo] using hrn
  subst hg
  have hi':¬(i:Int)<o:=by omega
  simp -implicitDefEqProofs [ruG,t0,t2,t3,t11,t12,hi']
  refine zA [] [0,1,2,3,5] ?_ ?_ ?_<;> simp[ruH]
end YtapbabkndhaemaaGreat
end Go.Proofs
/-
 The document's orders:Legal,Heap.
-/
namespace Go.Proofs
namespace YtapbabkndhaemaaGreat
open Go.Abs
def zW3:qH GD:=fun args H=> match args with
 |[.slice (some ⟨k,0,none⟩) n _,.slice (some ⟨k2,0,none⟩) n2 _,.slice (some ⟨k3,0,none⟩) n3 _]=> match H.get k with
  |some (.ro cs)=> (zA6 cs).bind fun l=> (zDa H k2).bind fun f=> (zA1 H k3).map fun cm=> (n=l.length/\n2=f.2.length/\n3=cm.2.length/\k2≠k3/\Askd l f.2 cm.2,.ret (.int .i64 0),H)
  |_=> none
 |[.slice (some ⟨k,0,none⟩) n _,.slice (some ⟨k2,0,none⟩) n2 _,.slice none 0 0]=> match H.get k with
  |some (.ro cs)=> (zA6 cs).bind fun l=> (zDa H k2).map fun f=> (n=l.length/\n2=f.2.length/\Askd l f.2 [],.ret (.int .i64 0),H)
  |_=> none
 |_=> none
theorem qRi:zY Tryz.prog cfg 59 zW3:=by
 intro args H p r H' h hp
 unfold zW3 at h
 split at h
 ·split at h
  case h_2=> cases h
  simp only[Option.map_eq_some_iff,Option.bind_eq_some_iff] at h
  obtain⟨l,hl,f,hf,cm,hc,h⟩:=h
  rename_i k n c k2 n2 c2 k3 n3 c3 x1 cs hk
  cases h
  rw[zBu hl] at hk
  obtain⟨rfl,rfl,rfl,h23,ha⟩:=hp
  have hf2:=zDk hf
  have hc2:=zA8 hc
  have hne:k≠k2:=fun e=> by subst e;rw[hk] at hf2;cases hf2
  have hne2:k≠k3:=fun e=> by subst e;rw[hk] at hc2;cases hc2
  exact (qV5 l f.2 cm.2 f.1 cm.1 c c2 c3 ha).atK (zCj fun i cs hi=> by rcases i with _|_|_|i<;> simp at hi⊢;exact hi) [k,k2,k3] (by simp[hne,hne2,h23]) (by simp) (by simp[hk,hf2,hc2]) (by simp) (by simp) (by simp[qO hk,qO hf2,qO hc2])
 ·split at h
  case h_2=> cases h
  simp only[Option.map_eq_some_iff,Option.bind_eq_some_iff] at h
  obtain⟨l,hl,f,hf,h⟩:=h
  rename_i k n c k2 n2 c2 x1 cs hk
  cases h
  rw[zBu hl] at hk
  obtain⟨rfl,rfl,ha⟩:=hp
  have hf2:=zDk hf
  have hne:k≠k2:=fun e=> by subst e;rw[hk] at hf2;cases hf2
  exact (qTq l f.2 f.1 c c2 ha).atK (zCj fun i cs hi=> by rcases i with _|_|i<;> simp at hi⊢;exact hi) [k,k2] (by simp[hne]) (by simp) (by simp[hk,hf2]) (by simp) (by simp) (by simp[qO hk,qO hf2])
 ·cases h
def zS6:qH GD:=fun args H=> match args with
 |[.slice (some ⟨k,0,none⟩) n _,.slice (some ⟨k2,0,none⟩) n2 _,.slice (some ⟨k3,0,none⟩) n3 _,.slice (some ⟨k4,0,none⟩) n4 _]=> match H.get k with
  |some (.ro cs)=> (zA6 cs).bind fun l=> (zDa H k2).bind fun f=> (zA1 H k3).bind fun ord=> (zA1 H k4).bind fun cm=> (zFo l cm.2 ord.2 f.2).map fun hp=>
   (n=l.length/\n2=f.2.length/\n3=ord.2.length/\n4=cm.2.length/\k2≠k3/\k2≠k4/\k3≠k4/\Askd l f.2 cm.2/\ord.2.length<=1000,.ret (.tuple #[.int .i64 0,.int .i64 0,.slice (some ⟨H.next,0,none⟩) n2 1]),H.add (.arr 30 (us hp)))
  |_=> none
 |_=> none
theorem qBt:zY Tryz.prog cfg 63 zS6:=by
 intro args H p r H' h hp
 unfold zS6 at h
 split at h
 case h_2=> cases h
 split at h
 case h_2=> cases h
 simp only[Option.map_eq_some_iff,Option.bind_eq_some_iff] at h
 obtain⟨l,hl,f,hf,ord,ho,cm,hc,hp',hr,h⟩:=h
 rename_i k n c k2 n2 c2 k3 n3 c3 k4 n4 c4 x1 cs hk
 cases h
 rw[zBu hl] at hk
 obtain⟨rfl,rfl,rfl,rfl,h23,h24,h34,ha,hol⟩:=hp
 have hf2:=zDk hf
 have ho2:=zA8 ho
 have hc2:=zA8 hc
 have hne:k≠k2:=fun e=> by subst e;rw[hk] at hf2;cases hf2
 have hne2:k≠k3:=fun e=> by subst e;rw[hk] at ho2;cases ho2
 have hne3:k≠k4:=fun e=> by subst e;rw[hk] at hc2;cases hc2
 exact (qV1 l f.2 ord.2 cm.2 hp' f.1 ord.1 cm.1 c c2 c3 c4 ha hol hr).atK (zCj fun i cs hi=> by rcases i with _|_|_|_|_|i<;> simp[ruH] at hi⊢;exact hi) [k,k2,k3,k4] (by simp[hne,hne2,hne3,h23,h24,h34]) (by simp[ruH]) (by simp[hk,hf2,ho2,hc2]) (by simp) (by simp) (by simp[ruH,qO hk,qO hf2,qO ho2,qO hc2])
theorem Askd.none {l:List Ev} {f cm:List Int} (h:Askd l f cm):Askd l f []:=⟨h.r,h.ll,h.ev,h.fl,h.fr,by simp,by simp,by simp⟩
structure Lgl (l:List Ev) (f ord cm:List Int):Prop where
 a:Askd l f cm
 ol:ord.length=(zCw l).length
 nd:ord.Nodup
 mem:∀x∈ord,x∈zCw l
def zO2:List (FuncId × qH GD):=[(59,zW3),(60,zX1 r60),(61,st61),(62,zKz),(63,zS6)]
theorem zWx:∀x∈zO2,zY Tryz.prog cfg x.1 x.2:=by simp[zO2,qRi,qRh,qRg,zO6,qBt]
theorem qG0 (l:List Ev) (f ord cm hp:List Int) (e1 e2 e3:TypeId) (c1 c2 c3 c4:Nat) (h:Lgl l f ord cm) (hrun:zFo l cm ord f=some hp):
  zD Tryz.prog cfg 28 [.slice (some ⟨0,0,none⟩) l.length c1,.slice (some ⟨1,0,none⟩) f.length c2,.slice (some ⟨2,0,none⟩) ord.length c3,.slice (some ⟨3,0,none⟩) cm.length c4] (AH.of [some (.ro (evs l)),some (.arr e1 (us f)),some (.arr e2 (qI ord)),some (.arr e3 (qI cm))])
  fun r H'=> r=.ret (.tuple #[.int .i64 0,.int .i64 0])/\H'=AH.of [some (.ro (evs l)),some (.arr e1 (us f)),some (.arr e2 (qI ord)),some (.arr e3 (qI cm))]:=by
 refine zD.ends ?_
 have ha:=h.a
 have ha0:=ha.none
 have hll:=ha.ll
 have hol:=h.ol
 have hnd:=h.nd
 have hal:=zT2 l
 obtain⟨n,hn⟩:∃n,f.length=n:=⟨_,rfl⟩
 obtain⟨q,hq⟩:∃q,cm.length=q:=⟨_,rfl⟩
 obtain⟨z,hz⟩:∃z,l.length=z:=⟨_,rfl⟩
 obtain⟨o,ho⟩:∃o,ord.length=o:=⟨_,rfl⟩
 have htl:l.take z=l:=List.take_of_length_le (by omega)
 have hmem:=h.mem
 obtain⟨A,hA⟩:∃A,zCw l=A:=⟨_,rfl⟩
 rw[hA] at hmem hol hal
 rw[ho] at hol
 rw[hz] at hll hal
 have htA:A.take o=A:=List.take_of_length_le (by omega)
 have ho1000:o<=1000:=by omega
 rw[hn,hq,hz,ho]
 refine zP (tbl:=zO2) zWx 1001 0 (af:=a28) rfl ?_
 rw[a28,b28,zW]
 refine⟨by simp,?_⟩
 simp -implicitDefEqProofs [zO2,zW3,zX1,r60,st61,zDa,zA1,zFs,zCs,hz,hn,ho,htl,hll,ha,ha0,hA,←hol,hnd,ho1000]
 refine jH (qR jG (qS zWx) _ _ noY qM) (fun m tm H=> ∃i:Nat,m+i=o/\tm 0=.slice (some ⟨0,0,none⟩) z c1/\tm 1=.slice (some ⟨1,0,none⟩) n c2/\tm 2=.slice (some ⟨2,0,none⟩) o c3/\tm 3=.slice (some ⟨3,0,none⟩) q c4/\tm 11=.slice (some ⟨4,0,none⟩) o 1/\tm 12=.int .i64 i/\
  H=AH.of [some (.ro (evs l)),some (.arr e1 (us f)),some (.arr e2 (qI ord)),some (.arr e3 (qI cm)),some (.arr 3 (qI A))]) (m:=o) ⟨0,by simp⟩ (by omega) ?_
 rintro m tm H ⟨i,hm,t0,t1,t2,t3,t11,t12,rfl⟩
 by_cases hi:i<o
 ·obtain⟨a,hai⟩:=zAs (l:=ord) (i:=i) (by omega)
  have hi':(i:Int)<o:=by omega
  have hwr:=jV hi (by omega)
  have ua:=zFp hai
  have ga:=zF8 hai
  have hin:=hmem a (List.mem_of_getElem? hai)
  simp -implicitDefEqProofs [zO2,zKz,zA1,zCs,t0,t1,t2,t3,t11,t12,hi,hi',hwr,ua,ga,←hol,ho1000,htA,hin]
  exact⟨m - 1,by omega,i+1,by omega,by simp[t0,t1,t2,t3,t11]⟩
 ·have hi':¬(i:Int)<o:=by omega
  simp -implicitDefEqProofs [zO2,zW3,zS6,zDa,zA1,zFs,zCs,t0,t1,t2,t3,t11,t12,hi',hz,hn,ho,hq,ha,hrun,ho1000]
  refine zA [] [0,1,2,3] ?_ ?_ ?_<;> simp
def st28:qH GD:=fun args H=> match args with
 |[.slice (some ⟨k,0,none⟩) n _,.slice (some ⟨k2,0,none⟩) n2 _,.slice (some ⟨k3,0,none⟩) n3 _,.slice (some ⟨k4,0,none⟩) n4 _]=> match H.get k with
  |some (.ro cs)=> (zA6 cs).bind fun l=> (zDa H k2).bind fun f=> (zA1 H k3).bind fun ord=> (zA1 H k4).bind fun cm=> (zFo l cm.2 ord.2 f.2).map fun hp=>
   (n=l.length/\n2=f.2.length/\n3=ord.2.length/\n4=cm.2.length/\k2≠k3/\k2≠k4/\k3≠k4/\Lgl l f.2 ord.2 cm.2,.ret (.tuple #[.int .i64 0,.int .i64 0]),H)
  |_=> none
 |_=> none
theorem qRn:zY Tryz.prog cfg 28 st28:=by
 intro args H p r H' h hp
 unfold st28 at h
 split at h
 case h_2=> cases h
 split at h
 case h_2=> cases h
 simp only[Option.map_eq_some_iff,Option.bind_eq_some_iff] at h
 obtain⟨l,hl,f,hf,ord,ho,cm,hc,hp',hr,h⟩:=h
 rename_i k n c k2 n2 c2 k3 n3 c3 k4 n4 c4 x1 cs hk
 cases h
 rw[zBu hl] at hk
 obtain⟨rfl,rfl,rfl,rfl,h23,h24,h34,ha⟩:=hp
 have hf2:=zDk hf
 have ho2:=zA8 ho
 have hc2:=zA8 hc
 have hne:k≠k2:=fun e=> by subst e;rw[hk] at hf2;cases hf2
 have hne2:k≠k3:=fun e=> by subst e;rw[hk] at ho2;cases ho2
 have hne3:k≠k4:=fun e=> by subst e;rw[hk] at hc2;cases hc2
 exact (qG0 l f.2 ord.2 cm.2 hp' f.1 ord.1 cm.1 c c2 c3 c4 ha hr).atK (zCj fun i cs hi=> by rcases i with _|_|_|_|i<;> simp at hi⊢;exact hi) [k,k2,k3,k4] (by simp[hne,hne2,hne3,h23,h24,h34]) (by simp) (by simp[hk,hf2,ho2,hc2]) (by simp) (by simp) (by simp[qO hk,qO hf2,qO ho2,qO hc2])
def zRm:List (FuncId × qH GD):=[(28,st28),(63,zS6)]
theorem qGl:∀x∈zRm,zY Tryz.prog cfg x.1 x.2:=by simp[zRm,qRn,qBt]
theorem qWf (l:List Ev) (f ord cm hp:List Int) (e1 e2 e3:TypeId) (c1 c2 c3 c4:Nat) (h:Lgl l f ord cm) (hrun:zFo l cm ord f=some hp):
  zD Tryz.prog cfg 31 [.slice (some ⟨0,0,none⟩) l.length c1,.slice (some ⟨1,0,none⟩) f.length c2,.slice (some ⟨2,0,none⟩) ord.length c3,.slice (some ⟨3,0,none⟩) cm.length c4] (AH.of [some (.ro (evs l)),some (.arr e1 (us f)),some (.arr e2 (qI ord)),some (.arr e3 (qI cm))])
  fun r H'=> r=.ret (.tuple #[.slice (some ⟨4,0,none⟩) f.length 1,.int .i64 0])/\H'=AH.of [some (.ro (evs l)),some (.arr e1 (us f)),some (.arr e2 (qI ord)),some (.arr e3 (qI cm)),some (.arr 30 (us hp))]:=by
 refine zD.ends ?_
 have ha:=h.a
 have hal:=zT2 l
 have hol:ord.length<=1000:=by have:=h.ol;have:=ha.ll;omega
 refine zP (tbl:=zRm) qGl 0 0 (af:=a31) rfl ?_
 rw[a31,b31,zW]
 refine⟨by simp,?_⟩
 simp -implicitDefEqProofs [zRm,st28,zS6,zDa,zA1,zFs,zCs,h,ha,hol,hrun]
 refine zA [] [0,1,2,3,4] ?_ ?_ ?_<;> simp
end YtapbabkndhaemaaGreat
end Go.Proofs
/-
 OPAQUE:what holds of tl2's state holds behind any zHt.
-/
namespace Go.Proofs
namespace YtapbabkndhaemaaGreat
open Go.Abs
theorem One.set {s s':TS} (h:One s) {th:Nat} {y:Option TA} (hy:∀b,y=some b->b.ra.k=6->b.fs.length=1) (hs:s'.ts=qB s.ts th y):One s':=by
 intro i a ha k
 rw[hs] at ha
 unfold qB at ha
 split at ha
 ·exact hy a ha k
 ·exact h i a ha k
theorem One.same {s s':TS} (h:One s) (hs:s'.ts=s.ts):One s':=by
 intro i a ha k
 rw[hs] at ha
 exact h i a ha k
theorem One.begin {s:TS} (h:One s) (th:Nat):One (zAt s th):=h.set (y:=some (zB9 s.ft.length s.c)) (by intro b hb;cases hb;simp[zB9]) rfl
theorem One.ask {s:TS} (h:One s) {th:Nat} {x:Ak} (hl:∀a,s.ts th=some a->1<=a.fs.length) (hc:zE5 s th x=0):One (zAr s th x):=by
 unfold zE5 at hc
 unfold zAr
 split at hc
 ·cases hc
 ·rename_i a ha
  split at hc
  ·cases hc
  ·refine h.set (y:=some _) ?_ rfl
   intro b hb k6
   cases hb
   have k6:x.k=6:=k6
   have:=hl a ha
   show a.fs.length=1
   by_cases h1:1<a.fs.length
   ·have h2:¬a.fs.length=1:=by omega
    simp[zB2,k6,h1,h2] at hc
   ·omega
theorem One.end_ {s:TS} (h:One s) (th:Nat) (a:TA) (w:Int):One (zBf s th a w):=h.set (y:=none) (by simp) rfl
theorem One.step {s:TS} (h:One s) (th:Nat):One (zBd s th).2:=by
 unfold zBd
 split
 ·exact h
 ·rename_i a ha
  have h6:a.ra.k=6->a.fs.length=1:=h th a ha
  split
  ·exact h
  split
  ·unfold zC8
   repeat' split
   all_goals first
    |exact h
    |exact h.end_ th a _
    |exact h.set (th:=th) (y:=some _) (by intro b hb;cases hb;intro k;first|exact h6 k|(simp at k)) rfl
  split
  ·unfold zC9 zGg zGj
   repeat' split
   all_goals first
    |exact h
    |exact h.same rfl
    |exact h.end_ th a _
    |exact h.set (th:=th) (y:=none) (by simp) rfl
    |exact h.set (th:=th) (y:=some _) (by intro b hb;cases hb;intro k;first|exact h6 k|(simp at k)) rfl
  split
  ·exact h.end_ th a _
  ·unfold zDu
   repeat' split
   all_goals first
    |exact h
    |exact h.end_ th a _
    |exact h.set (th:=th) (y:=some _) (by intro b hb;cases hb;intro k;first|exact h6 k|(simp at k)) rfl
theorem One.kill {s:TS} (h:One s) (th:Nat):One (zFl s th):=by
 unfold zFl
 split
 ·exact h
 ·split
  ·exact h
  ·exact h.end_ th _ _
theorem TOp.deed {f:List Int} {s:TS} (h:TOp f s) (h1:One s) {d:Dd} (hd:d.Ok):TOp f (zBh s d)/\One (zBh s d):=by
 unfold zBh
 split
 ·unfold zD7
  split
  ·exact⟨h,h1⟩
  ·rename_i th ht
   split
   ·exact⟨h.begin (zCt ht).1 (by assumption),h1.begin th⟩
   ·exact⟨h,h1⟩
 split
 ·unfold zE4
  split
  ·exact⟨h,h1⟩
  ·rename_i th ht
   split
   ·rename_i hc
    exact⟨h.ask (zCt ht).1 hd.1.1 hd.2 hc,h1.ask (fun a ha=> (List.length_pos_iff.2 (h.ok.ts th a ha).fs.1)) hc⟩
   ·exact⟨h,h1⟩
 split
 ·unfold zC7
  split
  ·exact⟨h,h1⟩
  ·rename_i th ht
   exact⟨h.step h1 (zCt ht).1,h1.step th⟩
 split
 ·unfold zGh
  split
  ·exact⟨h,h1⟩
  ·rename_i th ht
   exact⟨h.kill (zCt ht).1,h1.kill th⟩
 ·exact⟨h,h1⟩
theorem qMy (f:List Int) (m:Nat):lvS (zBv f m)=fun _=> none:=by funext i;rfl
theorem qHx {f:List Int} {m:Nat} (i:Nat):zAu (zBv f m).ws i<=0:=by
 have hw:∀n:Int,getW (List.replicate m 0) n=0∨getW (List.replicate m 0) n=getW [] 0:=by
  intro n
  unfold getW
  rw[List.getD_eq_getElem?_getD,List.getElem?_replicate]
  by_cases h:n.toNat<m<;> simp[h]
 unfold zAu zBv zIf
 simp only
 split
 ·rcases hw i with h|h<;> rw[h]<;> decide
 ·decide
theorem qHy {f:List Int} {m:Nat} (hok:(zBv f m).Ok):TOp f (zBv f m) where
 ok:=hok
 ev:=by rw[qMy];exact qN8 _
 inv:=by
  have hN:(jE (zBv f m)).N=0:=rfl
  have hc:(jE (zBv f m)).c=0:=rfl
  have ht:∀th,(jE (zBv f m)).ts th=none:=fun th=> rfl
  have hr:∀n t v,¬(jE (zBv f m)).rds n t v:=fun n t v h=> by simp[jE,zBv,obS,xO,ob0] at h
  have hl:∀n t,(jE (zBv f m)).lg n t=none:=fun n t=> rfl
  have hv:∀i,(jE (zBv f m)).ver i<=0:=fun i=> qHx i
  have hE:∀n,¬(jE (zBv f m)).Ent n:=fun n h=> by have:=h.1;omega
  exact {
   nlt:=fun th a h=> by have h:(none:Option LA)=some a:=h;cases h
   kl0:=fun th a h=> by have h:(none:Option LA)=some a:=h;cases h
   kl3:=fun th a h=> by have h:(none:Option LA)=some a:=h;cases h
   wu:=fun th a h=> by have h:(none:Option LA)=some a:=h;cases h
   wr:=fun th a h=> by have h:(none:Option LA)=some a:=h;cases h
   rvc:=fun th a h=> by have h:(none:Option LA)=some a:=h;cases h
   phb:=fun th a h=> by have h:(none:Option LA)=some a:=h;cases h
   lk2:=fun th a h=> by have h:(none:Option LA)=some a:=h;cases h
   lk3:=fun th a h=> by have h:(none:Option LA)=some a:=h;cases h
   st:=fun th a h=> by have h:(none:Option LA)=some a:=h;cases h
   J:=fun th a h=> by have h:(none:Option LA)=some a:=h;cases h
   I7:=fun th a h=> by have h:(none:Option LA)=some a:=h;cases h
   K1:=fun th a h=> by have h:(none:Option LA)=some a:=h;cases h
   K2:=fun th a h=> by have h:(none:Option LA)=some a:=h;cases h
   L:=fun th a h=> by have h:(none:Option LA)=some a:=h;cases h
   sp:=fun th a h=> by have h:(none:Option LA)=some a:=h;cases h
   R0:=fun th a h=> by have h:(none:Option LA)=some a:=h;cases h
   R1:=fun th a h=> by have h:(none:Option LA)=some a:=h;cases h
   R2:=fun th a h=> by have h:(none:Option LA)=some a:=h;cases h
   nu:=fun th a th' a' h=> by have h:(none:Option LA)=some a:=h;cases h
   w2:=fun th a th' a' h=> by have h:(none:Option LA)=some a:=h;cases h
   kb:=fun n h=> by omega
   ku:=fun n m h=> absurd h (hE n)
   new:=fun n _=> ⟨hr n,hl n⟩
   vc:=fun i=> by have:=hv i;omega
   V:=fun m h=> absurd h (hE m)
   HI:=fun t=> .inr (.inr ⟨rfl,fun m h=> absurd h (hE m)⟩)
   main:=fun n h=> by omega }
 oe:=fun th a h=> by cases h
 fn:=fun n g h=> by simp[zBv] at h
 sw:=fun th a h=> by cases h
 par:=fun n h=> by simp[zBv] at h
 bf:=fun n m h=> by simp[zBv,zCu,zCv] at h
theorem zRb (l:List Dd) (hl:∀d∈l,d.Ok):TOp zC0 (zCg l):=by
 have key:∀(l:List Dd) (s:TS),(∀d∈l,d.Ok)->TOp zC0 s->One s->TOp zC0 (l.foldl zBh s):=by
  intro l
  induction l with
  |nil=> intro s _ h _;exact h
  |cons d l ih=>
   intro s hd hs h1
   have:=hs.deed h1 (hd d (by simp))
   exact ih (zBh s d) (fun x hx=> hd x (by simp[hx])) this.1 this.2
 exact key l _ hl (qHy zH9) fun th a h=> by cases h
end YtapbabkndhaemaaGreat
end Go.Proofs
/-
 The one list that is zA7 by key and number;what merging,inserting,rotating,come to.
-/
namespace Go.Proofs.YtapbabkndhaemaaGreat
section
variable {α:Type} (key num:α->Int)
def Lex (a b:α):Prop:=key a<key b∨(key a=key b/\num a<num b)
def zI4 (a b:α):Bool:=decide (key a<key b∨(key a=key b/\num a<=num b))
def srt (l:List α):List α:=l.mergeSort (zI4 key num)
theorem zB6 (l:List α):(srt key num l).Perm l:=List.mergeSort_perm _ _
theorem zCi (l:List α):(srt key num l).length=l.length:=(zB6 key num l).length_eq
theorem zXp (l:List α):(srt key num l).Pairwise fun a b=> zI4 key num a b=true:=
 List.pairwise_mergeSort (by simp only[zI4,decide_eq_true_eq];intro a b c h1 h2;omega) (by simp only[zI4,Bool.or_eq_true,decide_eq_true_eq];intro a b;omega) l
theorem qHi:∀{l:List α},l.Pairwise (Lex key num)->∀a∈l,∀b∈l,zI4 key num a b=true->zI4 key num b a=true->a=b
 |[],_,a,ha,_,_,_,_=> by simp at ha
 |x::l,h,a,ha,b,hb,h1,h2=> by
  obtain⟨hx,hl⟩:=List.pairwise_cons.1 h
  simp only[zI4,decide_eq_true_eq] at h1 h2
  rcases List.mem_cons.1 ha with rfl|ha'
  ·rcases List.mem_cons.1 hb with rfl|hb
   ·rfl
   ·have:=hx b hb;simp only[Lex] at this;omega
  ·rcases List.mem_cons.1 hb with rfl|hb
   ·have:=hx a ha';simp only[Lex] at this;omega
   ·exact qHi hl a ha' b hb (by simp only[zI4,decide_eq_true_eq];omega) (by simp only[zI4,decide_eq_true_eq];omega)
theorem zIa {l l':List α} (hp:l'.Perm l) (hs:l'.Pairwise (Lex key num)):l'=srt key num l:=by
 refine List.Perm.eq_of_pairwise (le:=fun a b=> zI4 key num a b=true) ?_ ?_ (zXp key num l) (hp.trans (zB6 key num l).symm)
 ·intro a b ha hb h1 h2
  exact qHi key num hs a ha b ((hp.trans (zB6 key num l).symm).mem_iff.2 hb) h1 h2
 ·exact hs.imp (by intro a b h;simp only[zI4,decide_eq_true_eq];simp only[Lex] at h;omega)
theorem zIb {l:List α} (h:l.Pairwise fun a b=> num a<num b):(srt key num l).Pairwise (Lex key num):=by
 have h1:=zXp key num l
 have hn:(srt key num l).Pairwise fun a b=> num a≠num b:=by
  have:l.Pairwise fun a b=> num a≠num b:=h.imp (by intro a b h;omega)
  exact this.perm (zB6 key num l).symm (by intro a b h;exact fun e=> h e.symm)
 refine (h1.and hn).imp ?_
 intro a b ⟨h,h'⟩
 simp only[zI4,decide_eq_true_eq] at h
 simp only[Lex];omega
theorem zK1 {l:List α} (h:l.Pairwise (Lex key num)):srt key num l=l:=(zIa key num (List.Perm.refl l) h).symm
theorem qDk {l u v:List α} (hp:l.Perm (u++v)) (hu:(srt key num u).Pairwise (Lex key num)) (hv:(srt key num v).Pairwise (Lex key num))
  (h:∀x∈u,∀y∈v,Lex key num x y):srt key num l=srt key num u++srt key num v:=by
 refine (zIa key num ?_ ?_).symm
 ·exact ((zB6 key num u).append (zB6 key num v)).trans hp.symm
 ·exact List.pairwise_append.2 ⟨hu,hv,fun x hx y hy=> h x ((zB6 key num u).mem_iff.1 hx) y ((zB6 key num v).mem_iff.1 hy)⟩
end
section
variable {α:Type}
def swp (l:List α) (i j:Nat):List α:=
 match l[i]?,l[j]? with
 |some x,some y=> (l.set i y).set j x
 |_,_=> l
theorem qRa (l:List α) (i j:Nat):(swp l i j).length=l.length:=by
 unfold swp;split<;> simp
theorem zW0 {p m q:List α} {x y:α} {i j:Nat} (hi:i=p.length) (hj:j=p.length+1+m.length):
  swp (p++x::m++y::q) i j=p++y::m++x::q:=by
 subst hi hj
 have h1:(p++x::m++y::q)[p.length]?=some x:=by simp[List.getElem?_append]
 have h2:(p++x::m++y::q)[p.length+1+m.length]?=some y:=by
  rw[show p.length+1+m.length=(p++x::m).length by simp;omega]
  rw[List.getElem?_append_right (by simp)];simp
 unfold swp
 rw[h1,h2]
 show ((p++x::m++y::q).set p.length y).set (p.length+1+m.length) x=_
 rw[show p++x::m++y::q=p++x::(m++y::q) by simp]
 rw[List.set_append_right _ _ (by simp)]
 simp only[Nat.sub_self,List.set_cons_zero]
 rw[List.set_append_right _ _ (by omega)]
 rw[show p.length+1+m.length - p.length=m.length+1 by omega,List.set_cons_succ,List.set_append_right _ _ (by simp)]
 simp
def swr (l:List α) (a b:Nat):Nat->List α
 |0=> l
 |n+1=> swp (swr l a b n) (a+n) (b+n)
theorem zS3 (l:List α) (a b n:Nat):(swr l a b n).length=l.length:=by
 induction n with
 |zero=> rfl
 |succ n ih=> simp[swr,qRa,ih]
theorem zRp:∀{n:Nat} {p u m v q:List α},u.length=n->v.length=n->
  swr (p++u++m++v++q) p.length (p.length+n+m.length) n=p++v++m++u++q
 |0,p,u,m,v,q,hu,hv=> by
  have hu:=List.length_eq_zero_iff.1 hu
  have hv:=List.length_eq_zero_iff.1 hv
  subst hu hv;rfl
 |n+1,p,u,m,v,q,hu,hv=> by
  have hu1:u≠[]:=by intro h;subst h;simp at hu
  have hv1:v≠[]:=by intro h;subst h;simp at hv
  obtain⟨u1,x,rfl⟩:∃u1 x,u=u1++[x]:=⟨u.dropLast,u.getLast hu1,(List.dropLast_concat_getLast hu1).symm⟩
  obtain⟨v1,y,rfl⟩:∃v1 y,v=v1++[y]:=⟨v.dropLast,v.getLast hv1,(List.dropLast_concat_getLast hv1).symm⟩
  simp at hu hv
  have ih:=zRp (p:=p) (u:=u1) (m:=x::m) (v:=v1) (q:=y::q) hu hv
  rw[show p.length+(n+1)+m.length=p.length+n+(x::m).length by simp;omega]
  show swp (swr _ _ _ n) _ _=_
  rw[show p++(u1++[x])++m++(v1++[y])++q=p++u1++x::m++v1++y::q by simp,ih]
  rw[show p++v1++x::m++u1++y::q=(p++v1)++x::(m++u1)++y::q by simp]
  rw[zW0 (by simp;omega) (by simp;omega)]
  simp
def zBk (l:List α) (a m b:Nat):List α:=l.take a++(l.drop m).take (b - m)++(l.drop a).take (m - a)++l.drop b
theorem zEa {p u v q:List α} {a m b:Nat} (ha:a=p.length) (hm:m=a+u.length) (hb:b=m+v.length):zBk (p++u++v++q) a m b=p++v++u++q:=by
 subst ha hm hb
 unfold zBk
 have h1:(p++u++v++q).take p.length=p:=by simp[List.take_append]
 have h2:(p++u++v++q).drop (p.length+u.length)=v++q:=by
  rw[show p++u++v++q=(p++u)++(v++q) by simp,List.drop_append_of_le_length (by simp)];simp
 have h3:(p++u++v++q).drop p.length=u++v++q:=by
  rw[show p++u++v++q=p++(u++v++q) by simp,List.drop_append_of_le_length (by simp)];simp
 have h4:(p++u++v++q).drop (p.length+u.length+v.length)=q:=by
  rw[show p++u++v++q=(p++u++v)++q by simp,List.drop_append_of_le_length (by simp;omega),List.drop_eq_nil_of_le (by simp;omega)];simp
 rw[h1,h2,h3,h4]
 simp[List.take_append]
theorem zHl (l:List α) (a m b:Nat) (h1:a<=m) (h2:m<=b) (h3:b<=l.length):
  ∃p u v q,l=p++u++v++q/\p.length=a/\u.length=m - a/\v.length=b - m:=by
 refine⟨l.take a,(l.drop a).take (m - a),(l.drop m).take (b - m),l.drop b,?_,by simp;omega,by simp;omega,by simp;omega⟩
 have e1:l.drop a=(l.drop a).take (m - a)++l.drop m:=by
  have:=(List.take_append_drop (m - a) (l.drop a)).symm
  rw[List.drop_drop,show a+(m - a)=m by omega] at this;exact this
 have e2:l.drop m=(l.drop m).take (b - m)++l.drop b:=by
  have:=(List.take_append_drop (b - m) (l.drop m)).symm
  rw[List.drop_drop,show m+(b - m)=b by omega] at this;exact this
 rw[List.append_assoc,List.append_assoc,←e2,←e1,List.take_append_drop]
theorem zQi (l:List α) {a m b:Nat} (h1:a<=m) (h2:m<=b) (h3:b<=l.length):(zBk l a m b).length=l.length:=by
 obtain⟨p,u,v,q,rfl,hp,hu,hv⟩:=zHl l a m b h1 h2 h3
 rw[zEa hp.symm (by omega) (by omega)];simp;omega
theorem qWp {l:List α} {m i j:Nat} (hij:j<i) (hi:i<=m) (hb:m+j<=l.length):
  zBk (swr l (m - i) m j) (m - i+j) m (m+j)=zBk l (m - i) m (m+j):=by
 obtain⟨p,u,v,q,rfl,hp,hu,hv⟩:=zHl l (m - i) m (m+j) (by omega) (by omega) hb
 obtain⟨u1,u2,rfl,h1⟩:∃u1 u2,u=u1++u2/\u1.length=j:=⟨u.take j,u.drop j,(List.take_append_drop _ _).symm,by simp;omega⟩
 simp at hu
 rw[zEa (u:=u1++u2) hp.symm (by simp;omega) (by omega)]
 have:=zRp (n:=j) (p:=p) (u:=u1) (m:=u2) (v:=v) (q:=q) h1 (by omega)
 rw[show p.length+j+u2.length=m by omega,hp] at this
 rw[show p++(u1++u2)++v++q=p++u1++u2++v++q by simp,this]
 rw[show p++v++u2++u1++q=(p++v)++u2++u1++q by simp,zEa (p:=p++v) (by simp;omega) (by omega) (by omega)]
 simp
theorem qWo {l:List α} {m i j:Nat} (hij:i<j) (hi:i<=m) (hb:m+j<=l.length):
  zBk (swr l (m - i) (m+j - i) i) (m - i) m (m+j - i)=zBk l (m - i) m (m+j):=by
 obtain⟨p,u,v,q,rfl,hp,hu,hv⟩:=zHl l (m - i) m (m+j) (by omega) (by omega) hb
 obtain⟨v1,v2,rfl,h1⟩:∃v1 v2,v=v1++v2/\v1.length=j - i:=⟨v.take (j - i),v.drop (j - i),(List.take_append_drop _ _).symm,by simp;omega⟩
 simp at hv
 rw[zEa (v:=v1++v2) hp.symm (by omega) (by simp;omega)]
 have:=zRp (n:=i) (p:=p) (u:=u) (m:=v1) (v:=v2) (q:=q) (by omega) (by omega)
 rw[show p.length+i+v1.length=m+j - i by omega,hp] at this
 rw[show p++u++(v1++v2)++q=p++u++v1++v2++q by simp,this]
 rw[show p++v2++v1++u++q=p++v2++v1++(u++q) by simp,zEa (p:=p) (u:=v2) (v:=v1) (q:=u++q) (by omega) (by omega) (by omega)]
 simp
theorem qWq {l:List α} {m i:Nat} (hi:i<=m) (hb:m+i<=l.length):swr l (m - i) m i=zBk l (m - i) m (m+i):=by
 obtain⟨p,u,v,q,rfl,hp,hu,hv⟩:=zHl l (m - i) m (m+i) (by omega) (by omega) hb
 rw[zEa hp.symm (by omega) (by omega)]
 have:=zRp (n:=i) (p:=p) (u:=u) (m:=[]) (v:=v) (q:=q) (by omega) (by omega)
 simp only[List.length_nil,Nat.add_zero,List.append_nil] at this
 rw[show p.length+i=m by omega,hp] at this
 exact this
end
end Go.Proofs.YtapbabkndhaemaaGreat
/-
 What the parts of a stable sort come to:a merge of two zA7 parts by turning;blocks.
-/
namespace Go.Proofs.YtapbabkndhaemaaGreat
section
variable {α:Type} (key num:α->Int)
def on (l:List α) (a b:Nat) (f:List α->List α):List α:=l.take a++f ((l.drop a).take (b - a))++l.drop b
theorem zGs {p u q:List α} {a b:Nat} (f:List α->List α) (ha:a=p.length) (hb:b=a+u.length):on (p++u++q) a b f=p++f u++q:=by
 subst ha hb
 unfold on
 rw[show p++u++q=p++(u++q) by simp,List.take_left' rfl,List.drop_left' rfl,Nat.add_sub_cancel_left,List.take_left' rfl,
  show p++(u++q)=(p++u)++q by simp,List.drop_left' (by simp)]
theorem zXq (l:List α) (a b:Nat) (h1:a<=b) (h2:b<=l.length):∃p u q,l=p++u++q/\p.length=a/\u.length=b - a:=by
 obtain⟨p,u,v,q,rfl,hp,hu,hv⟩:=zHl l a b b h1 (by omega) h2
 have:v=[]:=List.length_eq_zero_iff.1 (by omega)
 subst this
 exact⟨p,u,q,by simp,hp,hu⟩
theorem qD7 (l:List α) (a b:Nat) (h1:a<=b) (h2:b<=l.length):(on l a b (srt key num)).length=l.length:=by
 obtain⟨p,u,q,rfl,hp,hu⟩:=zXq l a b h1 h2
 rw[zGs _ hp.symm (by omega)];simp[zCi]
structure SymPre (l:List α) (a m b:Nat):Prop where
 am:a<m
 mb:m<b
 bl:b<=l.length
 u:((l.drop a).take (m - a)).Pairwise (Lex key num)
 v:((l.drop m).take (b - m)).Pairwise (Lex key num)
 uv:∀x∈(l.drop a).take (m - a),∀y∈(l.drop m).take (b - m),num x<num y
theorem zFa {p u:List α} {a:Nat} (h:a=p.length):(p++u).drop a=u:=by subst h;exact List.drop_left' rfl
theorem zFm {p u:List α} {a:Nat} (h:a=p.length):(p++u).take a=p:=by subst h;exact List.take_left' rfl
theorem SymPre.of {p u v q:List α} {a m b:Nat} (ha:a=p.length) (hm:m=a+u.length) (hb:b=m+v.length) (hu0:0<u.length) (hv0:0<v.length)
  (hu:u.Pairwise (Lex key num)) (hv:v.Pairwise (Lex key num)) (huv:∀x∈u,∀y∈v,num x<num y):SymPre key num (p++u++v++q) a m b:=by
 have e1:((p++u++v++q).drop a).take (m - a)=u:=by
  rw[show p++u++v++q=p++(u++(v++q)) by simp,zFa ha,zFm (by omega)]
 have e2:((p++u++v++q).drop m).take (b - m)=v:=by
  rw[show p++u++v++q=(p++u)++(v++q) by simp,zFa (by simp;omega),zFm (by omega)]
 refine⟨by omega,by omega,by simp;omega,?_,?_,?_⟩
 ·rw[e1];exact hu
 ·rw[e2];exact hv
 ·rw[e1,e2];exact huv
theorem SymPre.parts {l:List α} {a m b:Nat} (h:SymPre key num l a m b):∃p u v q,l=p++u++v++q/\a=p.length/\m=a+u.length/\b=m+v.length/\
  u.Pairwise (Lex key num)/\v.Pairwise (Lex key num)/\∀x∈u,∀y∈v,num x<num y:=by
 obtain⟨h1,h2,h3,h4,h5,h6⟩:=h
 obtain⟨p,u,v,q,rfl,hp,hu,hv⟩:=zHl l a m b (by omega) (by omega) h3
 have e1:((p++u++v++q).drop a).take (m - a)=u:=by
  rw[show p++u++v++q=p++(u++(v++q)) by simp,zFa hp.symm,zFm hu.symm]
 have e2:((p++u++v++q).drop m).take (b - m)=v:=by
  rw[show p++u++v++q=(p++u)++(v++q) by simp,zFa (by simp;omega),zFm hv.symm]
 rw[e1] at h4 h6;rw[e2] at h5 h6
 exact⟨p,u,v,q,rfl,hp.symm,by omega,by omega,h4,h5,h6⟩
theorem zPg {u:List α} {x z:α} (h:(u++[x]).Pairwise (Lex key num)) (hz:z∈u++[x]):key z<=key x:=by
 rcases List.mem_append.1 hz with h'|h'
 ·have:=(List.pairwise_append.1 h).2.2 z h' x (by simp);simp only[Lex] at this;omega
 ·simp at h';subst h';omega
theorem zM7 {u:List α} {x z:α} (h:(x::u).Pairwise (Lex key num)) (hz:z∈x::u):key x<=key z:=by
 rcases List.mem_cons.1 hz with h'|h'
 ·subst h';omega
 ·have:=(List.pairwise_cons.1 h).1 z h';simp only[Lex] at this;omega
theorem zM3 {p x1 r:List α} {x:α} {s:Nat} (hs:s=p.length+(x1++[x]).length):(p++(x1++[x])++r)[s - 1]?=some x:=by
 subst hs
 rw[show p++(x1++[x])++r=(p++x1)++(x::r) by simp,List.getElem?_append_right (by simp)]
 simp
theorem zFw {p r:List α} {x:α} {s:Nat} (hs:s=p.length):(p++x::r)[s]?=some x:=by
 subst hs;simp
theorem snoc (u:List α) (h:u≠[]):∃u1 x,u=u1++[x]:=⟨u.dropLast,u.getLast h,(List.dropLast_concat_getLast h).symm⟩
theorem qGn {p x1 x2 y1 y2 q:List α} (hu:(x1++x2).Pairwise (Lex key num)) (hv:(y1++y2).Pairwise (Lex key num)) (huv:∀x∈x1++x2,∀y∈y1++y2,num x<num y)
  (h1:∀x z,x1≠[]->y2≠[]->(p++(x1++x2)++(y1++y2)++q)[p.length+x1.length - 1]?=some x->(p++(x1++x2)++(y1++y2)++q)[p.length+x1.length+x2.length+y1.length]?=some z->key x<=key z)
  (h2:∀x z,x2≠[]->y1≠[]->(p++(x1++x2)++(y1++y2)++q)[p.length+x1.length]?=some x->(p++(x1++x2)++(y1++y2)++q)[p.length+x1.length+x2.length+y1.length - 1]?=some z->key z<key x):
  srt key num ((x1++x2)++(y1++y2))=srt key num (x1++y1)++srt key num (x2++y2):=by
 have hx1:=(List.pairwise_append.1 hu).1
 have hx2:=(List.pairwise_append.1 hu).2.1
 have hx12:=(List.pairwise_append.1 hu).2.2
 have hy1:=(List.pairwise_append.1 hv).1
 have hy2:=(List.pairwise_append.1 hv).2.1
 have hy12:=(List.pairwise_append.1 hv).2.2
 have k1:∀x∈x1,∀y∈y2,key x<=key y:=by
  intro x hx y hy
  obtain⟨x1',x',rfl⟩:=snoc x1 (List.ne_nil_of_mem hx)
  obtain⟨y',y2',rfl⟩:=List.exists_cons_of_ne_nil (List.ne_nil_of_mem hy)
  have g1:=zPg key num hx1 hx
  have g2:=zM7 key num hy2 hy
  have:=h1 x' y' (by simp) (by simp) (by rw[show p++(x1'++[x']++x2)++(y1++y'::y2')++q=p++(x1'++[x'])++(x2++(y1++y'::y2')++q) by simp];exact zM3 rfl)
   (by rw[show p++(x1'++[x']++x2)++(y1++y'::y2')++q=(p++(x1'++[x']++x2)++y1)++y'::(y2'++q) by simp];exact zFw (by simp;omega))
  omega
 have k2:∀x∈x2,∀y∈y1,key y<key x:=by
  intro x hx y hy
  obtain⟨y1',y',rfl⟩:=snoc y1 (List.ne_nil_of_mem hy)
  obtain⟨x',x2',rfl⟩:=List.exists_cons_of_ne_nil (List.ne_nil_of_mem hx)
  have g1:=zPg key num hy1 hy
  have g2:=zM7 key num hx2 hx
  have:=h2 x' y' (by simp) (by simp) (by rw[show p++(x1++x'::x2')++(y1'++[y']++y2)++q=(p++x1)++x'::(x2'++(y1'++[y']++y2)++q) by simp];exact zFw (by simp))
   (by rw[show p++(x1++x'::x2')++(y1'++[y']++y2)++q=(p++(x1++x'::x2'))++(y1'++[y'])++(y2++q) by simp];exact zM3 (by simp;omega))
  omega
 have nn:∀x∈x1++x2,∀y∈y1++y2,num x<num y:=huv
 have nd:∀{a b:List α},a.Pairwise (Lex key num)->b.Pairwise (Lex key num)->(∀x∈a,∀y∈b,num x<num y)->(srt key num (a++b)).Pairwise (Lex key num):=by
  intro a b ha hb hab
  have h1:=zXp key num (a++b)
  have hn:(a++b).Pairwise fun x y=> ¬(key x=key y/\num x=num y):=by
   refine List.pairwise_append.2 ⟨ha.imp (by intro x y h;simp only[Lex] at h;omega),hb.imp (by intro x y h;simp only[Lex] at h;omega),?_⟩
   intro x hx y hy;have:=hab x hx y hy;omega
  have hn:=hn.perm (zB6 key num (a++b)).symm (by intro x y h;omega)
  refine (h1.and hn).imp ?_
  intro x y ⟨h,h'⟩
  simp only[zI4,decide_eq_true_eq] at h
  simp only[Lex];omega
 refine qDk key num ?_ (nd hx1 hy1 fun x hx y hy=> nn x (by simp[hx]) y (by simp[hy])) (nd hx2 hy2 fun x hx y hy=> nn x (by simp[hx]) y (by simp[hy])) ?_
 ·rw[show x1++x2++(y1++y2)=x1++(x2++y1)++y2 by simp,show x1++y1++(x2++y2)=x1++(y1++x2)++y2 by simp]
  exact (List.perm_append_comm.append_left x1).append_right y2
 ·intro x hx y hy
  simp only[Lex]
  rcases List.mem_append.1 hx with hx|hx<;> rcases List.mem_append.1 hy with hy|hy
  ·exact hx12 x hx y hy
  ·have:=k1 x hx y hy;have:=nn x (by simp[hx]) y (by simp[hy]);omega
  ·have:=k2 y hy x hx;omega
  ·exact hy12 x hx y hy
theorem qQ9 {l:List α} {a m b s e mid:Nat} (h:SymPre key num l a m b) (hmid:mid=(a+b) / 2) (hse:s+e=mid+m) (has:a<=s) (hsm:s<=m) (hme:m<=e) (heb:e<=b)
  (h1:∀x z,a<s->e<b->l[s - 1]?=some x->l[e]?=some z->key x<=key z)
  (h2:∀x z,s<m->m<e->l[s]?=some x->l[e - 1]?=some z->key z<key x):
  let l1:=if s<m/\m<e then zBk l s m e else l
  let l2:=if a<s/\s<mid then on l1 a mid (srt key num) else l1
  let l3:=if mid<e/\e<b then on l2 mid b (srt key num) else l2
  l1.length=l.length/\l2.length=l.length/\(a<s/\s<mid->SymPre key num l1 a s mid)/\(mid<e/\e<b->SymPre key num l2 mid e b)/\l3=on l a b (srt key num):=by
 obtain⟨p,u,v,q,rfl,ha,hm,hb,hu,hv,huv⟩:=h.parts
 obtain⟨x1,x2,rfl,n1⟩:∃u1 u2,u=u1++u2/\u1.length=s - a:=⟨u.take (s - a),u.drop (s - a),(List.take_append_drop _ _).symm,by simp;omega⟩
 obtain⟨y1,y2,rfl,n2⟩:∃u1 u2,v=u1++u2/\u1.length=e - m:=⟨v.take (e - m),v.drop (e - m),(List.take_append_drop _ _).symm,by simp;omega⟩
 simp only[List.length_append] at hm hb
 have hparts:=qGn key num (p:=p) (q:=q) hu hv huv
  (by intro x z hx hy e1 e2
      have:=List.length_pos_iff.2 hx;have:=List.length_pos_iff.2 hy
      refine h1 x z (by omega) (by omega) ?_ ?_
      ·rw[←e1];congr 1;omega
      ·rw[←e2];congr 1;omega)
  (by intro x z hx hy e1 e2
      have:=List.length_pos_iff.2 hx;have:=List.length_pos_iff.2 hy
      refine h2 x z (by omega) (by omega) ?_ ?_
      ·rw[←e1];congr 1;omega
      ·rw[←e2];congr 1;omega)
 have el1:(if s<m/\m<e then zBk (p++(x1++x2)++(y1++y2)++q) s m e else p++(x1++x2)++(y1++y2)++q)=p++x1++y1++x2++y2++q:=by
  split
  ·rw[show p++(x1++x2)++(y1++y2)++q=(p++x1)++x2++y1++(y2++q) by simp,zEa (by simp;omega) (by omega) (by omega)]
   simp
  ·rename_i hc
   have:x2=[]∨y1=[]:=by
    rw[←List.length_eq_zero_iff,←List.length_eq_zero_iff];omega
   rcases this with rfl|rfl<;> simp
 have hx1:=(List.pairwise_append.1 hu).1
 have hx2:=(List.pairwise_append.1 hu).2.1
 have hy1:=(List.pairwise_append.1 hv).1
 have hy2:=(List.pairwise_append.1 hv).2.1
 have n5:a<s/\s<mid->SymPre key num (p++x1++y1++x2++y2++q) a s mid:=by
  intro hc
  rw[show p++x1++y1++x2++y2++q=p++x1++y1++(x2++y2++q) by simp]
  exact SymPre.of key num ha (by omega) (by omega) (by omega) (by omega) hx1 hy1 fun x hx y hy=> huv x (by simp[hx]) y (by simp[hy])
 have el2:(if a<s/\s<mid then on (p++x1++y1++x2++y2++q) a mid (srt key num) else p++x1++y1++x2++y2++q)=p++srt key num (x1++y1)++x2++y2++q:=by
  split
  ·rw[show p++x1++y1++x2++y2++q=p++(x1++y1)++(x2++y2++q) by simp,zGs _ ha (by simp;omega)]
   simp
  ·rename_i hc
   have:x1=[]∨y1=[]:=by
    rw[←List.length_eq_zero_iff,←List.length_eq_zero_iff];omega
   rcases this with rfl|rfl
   ·simp[zK1 key num hy1]
   ·simp[zK1 key num hx1]
 have el3:(if mid<e/\e<b then on (p++srt key num (x1++y1)++x2++y2++q) mid b (srt key num) else p++srt key num (x1++y1)++x2++y2++q)=
   p++srt key num (x1++y1)++srt key num (x2++y2)++q:=by
  split
  ·rw[show p++srt key num (x1++y1)++x2++y2++q=(p++srt key num (x1++y1))++(x2++y2)++q by simp,zGs _ (by simp[zCi];omega) (by simp;omega)]
  ·rename_i hc
   have:x2=[]∨y2=[]:=by
    rw[←List.length_eq_zero_iff,←List.length_eq_zero_iff];omega
   rcases this with rfl|rfl
   ·simp[zK1 key num hy2]
   ·simp[zK1 key num hx2]
 intro l1 l2 l3
 have q1:l1=p++x1++y1++x2++y2++q:=el1
 have q2:l2=p++srt key num (x1++y1)++x2++y2++q:=by rw[←el2,←q1]
 have q3:l3=p++srt key num (x1++y1)++srt key num (x2++y2)++q:=by rw[←el3,←q2]
 rw[q1,q2,q3]
 refine⟨by simp;omega,by simp[zCi];omega,n5,?_,?_⟩
 ·intro hc
  rw[show p++srt key num (x1++y1)++x2++y2++q=(p++srt key num (x1++y1))++x2++y2++q by simp]
  exact SymPre.of key num (by simp[zCi];omega) (by omega) (by omega) (by omega) (by omega) hx2 hy2 fun x hx y hy=> huv x (by simp[hx]) y (by simp[hy])
 ·rw[show p++(x1++x2)++(y1++y2)++q=p++((x1++x2)++(y1++y2))++q by simp,zGs _ ha (by simp;omega),hparts]
  simp
theorem qP5 {l:List α} {a m s:Nat} (h:SymPre key num l a m (m+1)) (has:a<=s) (hsm:s<=m)
  (h1:∀x z,a<s->l[s - 1]?=some x->l[m]?=some z->key x<=key z) (h2:∀x z,s<m->l[s]?=some x->l[m]?=some z->key z<key x):
  zBk l s m (m+1)=on l a (m+1) (srt key num):=by
 obtain⟨p,u,v,q,rfl,ha,hm,hb,hu,hv,huv⟩:=h.parts
 obtain⟨z,rfl⟩:∃z,v=[z]:=List.length_eq_one_iff.1 (by omega)
 obtain⟨x1,x2,rfl,n1⟩:∃u1 u2,u=u1++u2/\u1.length=s - a:=⟨u.take (s - a),u.drop (s - a),(List.take_append_drop _ _).symm,by simp;omega⟩
 simp only[List.length_append] at hm
 have gz:(p++(x1++x2)++[z]++q)[m]?=some z:=by
  rw[show p++(x1++x2)++[z]++q=(p++(x1++x2))++z::q by simp];exact zFw (by simp;omega)
 rw[show p++(x1++x2)++[z]++q=(p++x1)++x2++[z]++q by simp,zEa (by simp;omega) (by omega) (by simp)]
 rw[show p++x1++x2++[z]++q=p++(x1++x2++[z])++q by simp,zGs _ ha (by simp;omega)]
 rw[←zIa key num (l':=x1++[z]++x2) (l:=x1++x2++[z])]
 ·simp
 ·rw[List.append_assoc,List.append_assoc];exact List.perm_append_comm.append_left x1
 ·have hx1:=(List.pairwise_append.1 hu).1
  have hx2:=(List.pairwise_append.1 hu).2.1
  have hx12:=(List.pairwise_append.1 hu).2.2
  refine List.pairwise_append.2 ⟨List.pairwise_append.2 ⟨hx1,by simp,?_⟩,hx2,?_⟩
  ·intro x hx y hy
   simp only[List.mem_singleton] at hy;subst hy
   have:=huv x (by simp[hx]) y (by simp)
   obtain⟨x1',x',rfl⟩:=snoc x1 (List.ne_nil_of_mem hx)
   have g1:=zPg key num hx1 hx
   have:=h1 x' y (by simp at n1;omega) (by rw[show p++(x1'++[x']++x2)++[y]++q=p++(x1'++[x'])++(x2++[y]++q) by simp];exact zM3 (by omega)) gz
   simp only[Lex];omega
  ·intro x hx y hy
   rcases List.mem_append.1 hx with hx|hx
   ·exact hx12 x hx y hy
   ·simp only[List.mem_singleton] at hx;subst hx
    obtain⟨x',x2',rfl⟩:=List.exists_cons_of_ne_nil (List.ne_nil_of_mem hy)
    have g2:=zM7 key num hx2 hy
    have:=h2 x' x (by simp at hm;omega) (by rw[show p++(x1++x'::x2')++[x]++q=(p++x1)++x'::(x2'++[x]++q) by simp];exact zFw (by simp;omega)) gz
    simp only[Lex];omega
theorem one_l {l:List α} {a b i:Nat} (h:SymPre key num l a (a+1) b) (hai:a+1<=i) (hib:i<=b)
  (h1:∀x z,a+1<i->l[i - 1]?=some z->l[a]?=some x->key z<key x) (h2:∀x z,i<b->l[i]?=some z->l[a]?=some x->key x<=key z):
  zBk l a (a+1) i=on l a b (srt key num):=by
 obtain⟨p,u,v,q,rfl,ha,hm,hb,hu,hv,huv⟩:=h.parts
 obtain⟨z,rfl⟩:∃z,u=[z]:=List.length_eq_one_iff.1 (by omega)
 obtain⟨y1,y2,rfl,n1⟩:∃u1 u2,v=u1++u2/\u1.length=i - (a+1):=⟨v.take (i - (a+1)),v.drop (i - (a+1)),(List.take_append_drop _ _).symm,by simp;omega⟩
 simp only[List.length_append] at hb
 have gz:(p++[z]++(y1++y2)++q)[a]?=some z:=by
  rw[show p++[z]++(y1++y2)++q=p++z::((y1++y2)++q) by simp];exact zFw ha
 rw[show p++[z]++(y1++y2)++q=p++[z]++y1++(y2++q) by simp,zEa ha (by simp) (by omega)]
 rw[show p++[z]++y1++(y2++q)=p++([z]++y1++y2)++q by simp,zGs _ ha (by simp;omega)]
 rw[←zIa key num (l':=y1++[z]++y2) (l:=[z]++y1++y2)]
 ·simp
 ·exact List.perm_append_comm.append_right y2
 ·have hy1:=(List.pairwise_append.1 hv).1
  have hy2:=(List.pairwise_append.1 hv).2.1
  have hy12:=(List.pairwise_append.1 hv).2.2
  refine List.pairwise_append.2 ⟨List.pairwise_append.2 ⟨hy1,by simp,?_⟩,hy2,?_⟩
  ·intro y hy x hx
   simp only[List.mem_singleton] at hx;subst hx
   obtain⟨y1',y',rfl⟩:=snoc y1 (List.ne_nil_of_mem hy)
   have g1:=zPg key num hy1 hy
   have:=h1 x y' (by simp at n1;omega) (by rw[show p++[x]++(y1'++[y']++y2)++q=(p++[x])++(y1'++[y'])++(y2++q) by simp];exact zM3 (by simp at n1⊢;omega)) gz
   simp only[Lex];omega
  ·intro x hx y hy
   rcases List.mem_append.1 hx with hx|hx
   ·exact hy12 x hx y hy
   ·simp only[List.mem_singleton] at hx;subst hx
    have:=huv x (by simp) y (by simp[hy])
    obtain⟨y',y2',rfl⟩:=List.exists_cons_of_ne_nil (List.ne_nil_of_mem hy)
    have g2:=zM7 key num hy2 hy
    have:=h2 x y' (by simp at hb;omega) (by rw[show p++[x]++(y1++y'::y2')++q=(p++[x]++y1)++y'::(y2'++q) by simp];exact zFw (by simp;omega)) gz
    simp only[Lex];omega
end
end Go.Proofs.YtapbabkndhaemaaGreat
/-
 A list zA7 block by block,and all of it.
-/
namespace Go.Proofs.YtapbabkndhaemaaGreat
section
variable {α:Type} (key num:α->Int)
def blk (bs:Nat):Nat->List α->List α
 |0,l=> srt key num l
 |n+1,l=> if l.length<=bs then srt key num l else srt key num (l.take bs)++blk bs n (l.drop bs)
def bk (bs:Nat) (l:List α):List α:=blk key num bs l.length l
theorem zQ3 {bs:Nat} (hb:0<bs):∀(n:Nat) (l:List α),l.length<=n->blk key num bs n l=bk key num bs l
 |0,l,h=> by
  have:l=[]:=List.length_eq_zero_iff.1 (by omega)
  subst this;rfl
 |n+1,l,h=> by
  unfold bk
  cases hl:l.length with
  |zero=>
   have:l=[]:=List.length_eq_zero_iff.1 hl
   subst this;simp[blk]
  |succ k=>
   simp only[blk]
   split
   ·rfl
   ·rw[zQ3 hb n (l.drop bs) (by simp;omega),zQ3 hb k (l.drop bs) (by simp;omega)]
theorem zGy {bs:Nat} {l:List α} (h:l.length<=bs):bk key num bs l=srt key num l:=by
 unfold bk
 cases hl:l.length with
 |zero=> rfl
 |succ k=> simp only[blk];rw[if_pos h]
theorem zMf {bs:Nat} (hb:0<bs) {p r:List α} (hp:p.length=bs):bk key num bs (p++r)=srt key num p++bk key num bs r:=by
 unfold bk
 cases hl:(p++r).length with
 |zero=> rw[List.length_append] at hl;omega
 |succ k=>
  simp only[blk]
  split
  ·rename_i hc
   have:r=[]:=List.length_eq_zero_iff.1 (by simp at hc;omega)
   subst this
   simp[blk,srt]
  ·rw[zFm hp.symm,zFa hp.symm,zQ3 key num hb k r (by simp at hl;omega)];rfl
theorem zH6 {bs:Nat} (hb:0<bs):∀(k:Nat) {p r:List α},p.length=bs*k->bk key num bs (p++r)=bk key num bs p++bk key num bs r
 |0,p,r,h=> by
  have:p=[]:=List.length_eq_zero_iff.1 (by simpa using h)
  subst this;simp[bk,blk,srt]
 |k+1,p,r,h=> by
  rw[Nat.mul_succ] at h
  obtain⟨p1,p2,rfl,h1⟩:∃p1 p2,p=p1++p2/\p1.length=bs:=⟨p.take bs,p.drop bs,(List.take_append_drop _ _).symm,by simp;omega⟩
  simp at h
  rw[List.append_assoc,zMf key num hb h1,zMf key num hb h1,zH6 hb k (by omega),List.append_assoc]
theorem zLh {bs:Nat} (hb:0<bs):∀(l:List α),(bk key num bs l).length=l.length:=by
 have:∀(n:Nat) (l:List α),(blk key num bs n l).length=l.length:=by
  intro n
  induction n with
  |zero=> intro l;simp[blk,zCi]
  |succ n ih=>
   intro l;simp only[blk]
   split
   ·simp[zCi]
   ·simp[zCi,ih];omega
 intro l;exact this _ l
def Nm (l:List α):Prop:=l.Pairwise fun a b=> num a<num b
theorem qXy {bs i:Nat} {l:List α} (hb:0<bs) (h:bs*i+bs<=l.length):
  on (bk key num bs (l.take (bs*i))++l.drop (bs*i)) (bs*i) (bs*i+bs) (srt key num)=bk key num bs (l.take (bs*i+bs))++l.drop (bs*i+bs):=by
 obtain⟨p,u,q,rfl,hp,hu⟩:=zXq l (bs*i) (bs*i+bs) (by omega) h
 rw[show p++u++q=p++(u++q) by simp,zFm hp.symm,zFa hp.symm,show p++(u++q)=(p++u)++q by simp,zFm (by simp;omega),zFa (by simp;omega)]
 rw[←List.append_assoc,zGs _ (by simp[zLh key num hb,hp]) (by omega),zH6 key num hb i hp,zGy key num (l:=u) (by omega)]
theorem qU5 {bs i:Nat} {l:List α} (hb:0<bs) (h:bs*i<=l.length) (h2:l.length<bs*i+bs):
  on (bk key num bs (l.take (bs*i))++l.drop (bs*i)) (bs*i) l.length (srt key num)=bk key num bs l:=by
 obtain⟨p,u,q,rfl,hp,hu⟩:=zXq l (bs*i) l.length (by omega) (by omega)
 have:q=[]:=List.length_eq_zero_iff.1 (by simp at hu;omega)
 subst this
 simp only[List.append_nil] at*
 rw[zFm hp.symm,zFa hp.symm]
 rw[show bk key num bs p++u=bk key num bs p++u++[] by simp,zGs _ (by simp[zLh key num hb,hp]) (by simp;omega),zH6 key num hb i hp,zGy key num (l:=u) (by simp at h2;omega)]
 simp
theorem qGt {l l':List α} (hp:l'.Perm l) (h:(srt key num l').Pairwise (Lex key num)):srt key num l'=srt key num l:=
 zIa key num ((zB6 key num l').trans hp) h
theorem zTd {u v:List α} (h:Nm num (u++v)):srt key num (srt key num u++srt key num v)=srt key num (u++v):=by
 refine (qGt key num ?_ (zIb key num h)).symm
 exact ((zB6 key num u).append (zB6 key num v)).symm
theorem Nm.sub {l l':List α} (h:Nm num l) (hs:l'.Sublist l):Nm num l':=List.Pairwise.sublist hs h
theorem qCd {D u v q:List α} {a m b:Nat} (h:Nm num (u++v)) (ha:a=D.length) (hm:m=a+u.length) (hb:b=m+v.length) (hu0:0<u.length) (hv0:0<v.length):
  SymPre key num (D++srt key num u++srt key num v++q) a m b:=by
 obtain⟨h1,h2,h3⟩:=List.pairwise_append.1 h
 exact SymPre.of key num ha (by simp[zCi];omega) (by simp[zCi];omega) (by simp[zCi];omega) (by simp[zCi];omega) (zIb key num h1) (zIb key num h2)
  fun x hx y hy=> h3 x ((zB6 key num u).mem_iff.1 hx) y ((zB6 key num v).mem_iff.1 hy)
theorem qOm {bs i:Nat} {l:List α} (hb:0<bs) (hn:Nm num l) (h:2*bs*i+2*bs<=l.length):
  SymPre key num (bk key num (2*bs) (l.take (2*bs*i))++bk key num bs (l.drop (2*bs*i))) (2*bs*i) (2*bs*i+bs) (2*bs*i+2*bs)/\
  on (bk key num (2*bs) (l.take (2*bs*i))++bk key num bs (l.drop (2*bs*i))) (2*bs*i) (2*bs*i+2*bs) (srt key num)=
   bk key num (2*bs) (l.take (2*bs*i+2*bs))++bk key num bs (l.drop (2*bs*i+2*bs)):=by
 obtain⟨p,u,v,q,rfl,hp,hu,hv⟩:=zHl l (2*bs*i) (2*bs*i+bs) (2*bs*i+2*bs) (by omega) (by omega) h
 have hnuv:Nm num (u++v):=hn.sub num (by simp)
 rw[show p++u++v++q=p++(u++(v++q)) by simp,zFm hp.symm,zFa hp.symm,show p++(u++(v++q))=(p++(u++v))++q by simp,zFm (by simp;omega),zFa (by simp;omega)]
 rw[zMf key num hb (by omega),zMf key num hb (by omega),←List.append_assoc,←List.append_assoc]
 refine⟨qCd key num hnuv (by simp[zLh key num (show 0<2*bs by omega),hp]) (by omega) (by omega) (by omega) (by omega),?_⟩
 rw[show bk key num (2*bs) p++srt key num u++srt key num v++bk key num bs q=bk key num (2*bs) p++(srt key num u++srt key num v)++bk key num bs q by simp]
 rw[zGs _ (by simp[zLh key num (show 0<2*bs by omega),hp]) (by simp[zCi];omega),zTd key num hnuv]
 rw[zH6 key num (show 0<2*bs by omega) i hp,zGy key num (bs:=2*bs) (l:=u++v) (by simp;omega)]
theorem zVl {bs i:Nat} {l:List α} (hb:0<bs) (hn:Nm num l) (h:2*bs*i+bs<l.length) (h2:l.length<2*bs*i+2*bs):
  SymPre key num (bk key num (2*bs) (l.take (2*bs*i))++bk key num bs (l.drop (2*bs*i))) (2*bs*i) (2*bs*i+bs) l.length/\
  on (bk key num (2*bs) (l.take (2*bs*i))++bk key num bs (l.drop (2*bs*i))) (2*bs*i) l.length (srt key num)=bk key num (2*bs) l:=by
 obtain⟨p,u,v,q,rfl,hp,hu,hv⟩:=zHl l (2*bs*i) (2*bs*i+bs) l.length (by omega) (by omega) (by omega)
 have:q=[]:=List.length_eq_zero_iff.1 (by simp at hv;omega)
 subst this
 simp only[List.append_nil] at*
 have hlen:(p++u++v).length=p.length+u.length+v.length:=by simp;omega
 have hnuv:Nm num (u++v):=hn.sub num (by simp)
 rw[show p++u++v=p++(u++v) by simp,zFm hp.symm,zFa hp.symm]
 rw[zMf key num hb (by omega),zGy key num (bs:=bs) (l:=v) (by omega),←List.append_assoc]
 rw[show bk key num (2*bs) p++srt key num u++srt key num v=bk key num (2*bs) p++srt key num u++srt key num v++[] by simp]
 refine⟨qCd key num hnuv (by simp[zLh key num (show 0<2*bs by omega),hp]) (by omega) (by simp;omega) (by omega) (by omega),?_⟩
 rw[show bk key num (2*bs) p++srt key num u++srt key num v++[]=bk key num (2*bs) p++(srt key num u++srt key num v)++[] by simp]
 rw[zGs _ (by simp[zLh key num (show 0<2*bs by omega),hp]) (by simp[zCi];omega),zTd key num hnuv]
 rw[zH6 key num (show 0<2*bs by omega) i hp,zGy key num (bs:=2*bs) (l:=u++v) (by simp;omega)]
 simp
theorem zVk {bs i:Nat} {l:List α} (hb:0<bs) (h:l.length<=2*bs*i+bs) (h2:2*bs*i<=l.length):
  bk key num (2*bs) (l.take (2*bs*i))++bk key num bs (l.drop (2*bs*i))=bk key num (2*bs) l:=by
 obtain⟨p,q,rfl,hp⟩:∃p q,l=p++q/\p.length=2*bs*i:=⟨l.take (2*bs*i),l.drop (2*bs*i),(List.take_append_drop _ _).symm,by simp;omega⟩
 simp at h
 rw[zFm hp.symm,zFa hp.symm,zH6 key num (show 0<2*bs by omega) i hp,zGy key num (bs:=bs) (l:=q) (by omega),zGy key num (bs:=2*bs) (l:=q) (by omega)]
end
end Go.Proofs.YtapbabkndhaemaaGreat
/-
 SORTED BY KEY:qN as a row;two parts change with one another;a part is turned.
-/
namespace Go.Proofs
namespace YtapbabkndhaemaaGreat
open Go.Abs
def zPr:List Value->Option (List Fate)
 |[]=> some []
 |.int .i64 n::.int .u64 k::.int .u8 w::l=> if 0<=n then (zPr l).map (⟨n.toNat,k,w⟩::·) else none
 |_=> none
theorem zC2:∀l:List Fate,zPr (qN l)=some l
 |[]=> rfl
 |e::l=> by rw[zCa,zPr,zC2 l,if_pos (by omega)];simp
theorem zU0:∀{cs:List Value} {l:List Fate},zPr cs=some l->cs=qN l
 |cs,l,e=> by
  unfold zPr at e
  split at e
  ·cases e;rfl
  ·split at e
   ·rename_i h0
    simp only[Option.map_eq_some_iff] at e
    obtain⟨l',e1,rfl⟩:=e
    rw[zU0 e1,zCa]
    simp[Int.toNat_of_nonneg h0]
   ·cases e
  ·cases e
def zDj (H:AH GD) (k:Nat):Option (TypeId × List Fate):=
 match H.get k with
 |some (.arr e cs)=> (zPr cs).map fun h=> (e,h)
 |_=> none
theorem zF9 {H:AH GD} {k:Nat} {x:TypeId × List Fate} (hg:zDj H k=some x):H.get k=some (.arr x.1 (qN x.2)):=by
 unfold zDj at hg
 split at hg
 ·rename_i e cs he
  simp only[Option.map_eq_some_iff] at hg
  obtain⟨h,h1,rfl⟩:=hg
  rw[he,zU0 h1]
 ·cases hg
theorem zBw {i:Nat} {x:Fate}:∀{l:List Fate},l[i]?=some x->((qN l).drop (i*3)).take 3=[.int .i64 x.n,.int .u64 x.key,.int .u8 x.why]:=by
 induction i with
 |zero=>
  intro l h
  cases l with
  |nil=> simp at h
  |cons e l=> simp at h;subst h;rfl
 |succ i ih=>
  intro l h
  cases l with
  |nil=> simp at h
  |cons e l=>
   rw[zCa,show (i+1)*3=i*3+1+1+1 by omega]
   simp only[List.drop_succ_cons]
   exact ih (by simpa using h)
theorem zBx {l:List Fate} {i:Nat} (h:i<l.length):i*3+3<=(qN l).length:=by rw[zBn];omega
theorem zOj:∀{l:List Fate} {i:Nat} (f:Fate),i<l.length->(((qN l).set (i*3) (.int .i64 f.n)).set (i*3+1) (.int .u64 f.key)).set (i*3+2) (.int .u8 f.why)=qN (l.set i f)
 |e::l,0,f,_=> rfl
 |e::l,i+1,f,h=> by
  rw[zCa,show (i+1)*3=i*3+1+1+1 by omega]
  simp only[List.set_cons_succ,zCa]
  rw[←zOj f (by simpa using h)]
theorem zLu {l:List Fate} {i j:Nat} {x y:Fate} (hx:l[i]?=some x) (hy:l[j]?=some y):
  (((((((qN l).set (i*3) (.int .i64 y.n)).set (i*3+1) (.int .u64 y.key)).set (i*3+2) (.int .u8 y.why)).set (j*3) (.int .i64 x.n)).set (j*3+1) (.int .u64 x.key)).set (j*3+2) (.int .u8 x.why))=qN (swp l i j):=by
 have h1:=(List.getElem?_eq_some_iff.1 hx).1
 have h2:=(List.getElem?_eq_some_iff.1 hy).1
 rw[zOj y h1,zOj x (by simpa using h2)]
 unfold swp
 rw[hx,hy]
def zZi (a b:Int):Int:=if a<b then -1 else if b<a then 1 else 0
theorem zJt (a b:Int):zZi a b<0↔a<b:=by
 unfold zZi;split
 ·omega
 ·split<;> omega
theorem qVy (n k w n' k' w':Int):zD Tryz.prog cfg 67 [.agg #[.int .i64 n,.int .u64 k,.int .u8 w],.agg #[.int .i64 n',.int .u64 k',.int .u8 w']] (AH.of [])
  fun r H'=> r=.ret (.int .i64 (zZi k k'))/\H'=AH.of []:=by
 refine zD.ends ?_
 refine zP (tbl:=[]) (by simp) 0 2 (af:=a67) rfl ?_
 rw[a67,b67,zW]
 refine⟨by simp,?_⟩
 unfold zZi
 by_cases h1:k<k'
 ·simp -implicitDefEqProofs [forms68,a68,b68,forms125,a125,b125,h1]
  refine zA [] [] ?_ ?_ ?_<;> simp
 ·by_cases h2:k'<k
  ·simp -implicitDefEqProofs [forms68,a68,b68,forms125,a125,b125,h1,h2]
   refine zA [] [] ?_ ?_ ?_<;> simp
  ·simp -implicitDefEqProofs [forms68,a68,b68,forms125,a125,b125,h1,h2]
   refine zA [] [] ?_ ?_ ?_<;> simp
def p67:zFd
 |[.agg ⟨[.int .i64 n,.int .u64 k,.int .u8 w]⟩,.agg ⟨[.int .i64 n',.int .u64 k',.int .u8 w']⟩]=> some (True,.int .i64 (zZi k k'))
 |_=> none
theorem qBs:zY Tryz.prog cfg 67 (qE p67):=zDw fun args p v h hp=> by
 unfold p67 at h
 split at h
 ·cases h
  exact⟨rfl,rfl,qVy _ _ _ _ _ _⟩
 ·cases h
def xJ:Value:=.func (.func 67) #[] #[]
theorem qRz (e:TypeId) (l:List Fate) (c a b n:Nat) (hl:l.length<=100000) (ha:a+n<=l.length) (hb:b+n<=l.length):
  zD Tryz.prog cfg 257 [.slice (some ⟨0,0,none⟩) l.length c,.int .i64 a,.int .i64 b,.int .i64 n,xJ] (AH.of [some (.arr e (qN l))])
  fun r H'=> r=.ret (.tuple #[])/\H'=AH.of [some (.arr e (qN (swr l a b n)))]:=by
 refine zD.ends ?_
 obtain⟨z,hz⟩:∃z,l.length=z:=⟨_,rfl⟩
 rw[hz] at hl ha hb⊢
 refine zP (tbl:=[]) (by simp) 100001 0 (af:=a257) rfl ?_
 rw[a257,b257,zW]
 refine⟨by simp,?_⟩
 simp -implicitDefEqProofs [xJ]
 refine jH (qR jG (qS (by simp)) _ _ noY qM) (fun m tm H=> ∃i:Nat,m+i=n/\tm 0=.slice (some ⟨0,0,none⟩) z c/\tm 1=.int .i64 a/\tm 2=.int .i64 b/\tm 3=.int .i64 n/\tm 10=.int .i64 i/\H=AH.of [some (.arr e (qN (swr l a b i)))]) (m:=n) ⟨0,by simp[swr]⟩ (by omega) ?_
 rintro m tm H ⟨i,hm,t0,t1,t2,t3,t10,rfl⟩
 by_cases hi:i<n
 ·have hi':(i:Int)<n:=by omega
  have hwr:=jV hi (by omega)
  have hlen:(swr l a b i).length=z:=by rw[zS3,hz]
  have hsuc:swr l a b (i+1)=swp (swr l a b i) (a+i) (b+i):=rfl
  generalize swr l a b i=g at*
  obtain⟨p,hp⟩:∃p,a+i=p:=⟨_,rfl⟩
  obtain⟨q,hq⟩:∃q,b+i=q:=⟨_,rfl⟩
  rw[hp,hq] at hsuc
  have hpz:p<z:=by omega
  have hqz:q<z:=by omega
  have hpz':(p:Int)<z:=by omega
  have hqz':(q:Int)<z:=by omega
  have hwp:IntKind.i64.wrap ((a:Int)+i)=p:=by rw[qF (by omega) (by omega)];omega
  have hwq:IntKind.i64.wrap ((b:Int)+i)=q:=by rw[qF (by omega) (by omega)];omega
  obtain⟨x,hx⟩:=zAs (l:=g) (i:=p) (by omega)
  obtain⟨y,hy⟩:=zAs (l:=g) (i:=q) (by omega)
  have mx:=zBw hx
  have my:=zBw hy
  have rx:p*3+3<=(qN g).length:=zBx (by omega)
  have ry:q*3+3<=(qN g).length:=zBx (by omega)
  have hs:=zLu hx hy
  simp -implicitDefEqProofs [setMany,t0,t1,t2,t3,t10,hi',hwr,hwp,hwq,hpz,hqz,hpz',hqz',mx,my,rx,ry,hs]
  exact⟨m - 1,by omega,i+1,by omega,by simp[t0,t1,t2,t3,hsuc]⟩
 ·have hie:i=n:=by omega
  subst hie
  have hi':¬(i:Int)<i:=by omega
  simp -implicitDefEqProofs [t0,t1,t2,t3,t10]
  refine zA [] [0] ?_ ?_ ?_<;> simp
def zO5:qH GD:=fun args H=> match args with
 |[.slice (some ⟨k,0,none⟩) z _,.int .i64 a,.int .i64 b,.int .i64 n,v]=> (zDj H k).map fun l=> (z=l.2.length/\v=xJ/\l.2.length<=100000/\0<=a/\0<=b/\0<=n/\a+n<=l.2.length/\b+n<=l.2.length,.ret (.tuple #[]),H.upd k (.arr l.1 (qN (swr l.2 a.toNat b.toNat n.toNat))))
 |_=> none
theorem qKq:zY Tryz.prog cfg 257 zO5:=by
 intro args H p r H' h hp
 unfold zO5 at h
 split at h
 case h_2=> cases h
 simp only[Option.map_eq_some_iff] at h
 obtain⟨l,hl,h⟩:=h
 rename_i k z c a b n v
 cases h
 obtain⟨rfl,rfl,h1,h2,h3,h4,h5,h6⟩:=hp
 obtain⟨a,rfl⟩:=Int.eq_ofNat_of_zero_le h2
 obtain⟨b,rfl⟩:=Int.eq_ofNat_of_zero_le h3
 obtain⟨n,rfl⟩:=Int.eq_ofNat_of_zero_le h4
 have hl2:=zF9 hl
 simp only[Int.toNat_natCast]
 exact (qRz l.1 l.2 c a b n h1 (by omega) (by omega)).atK (jD rfl) [k] (by simp) (by simp) (by simp[hl2]) (by simp[xJ]) (by simp) (by simp)
end YtapbabkndhaemaaGreat
end Go.Proofs
/-
 SORTED BY KEY:a part is turned;one is put into what is zA7.
-/
namespace Go.Proofs
namespace YtapbabkndhaemaaGreat
open Go.Abs
def zMa:List (FuncId × qH GD):=[(257,zO5)]
theorem zT9:∀x∈zMa,zY Tryz.prog cfg x.1 x.2:=by simp[zMa,qKq]
theorem qR5 (e:TypeId) (l:List Fate) (c a m b:Nat) (hl:l.length<=100000) (ham:a<m) (hmb:m<b) (hb:b<=l.length):
  zD Tryz.prog cfg 248 [.slice (some ⟨0,0,none⟩) l.length c,.int .i64 a,.int .i64 m,.int .i64 b,xJ] (AH.of [some (.arr e (qN l))])
  fun r H'=> r=.ret (.tuple #[])/\H'=AH.of [some (.arr e (qN (zBk l a m b)))]:=by
 refine zD.ends ?_
 obtain⟨z,hz⟩:∃z,l.length=z:=⟨_,rfl⟩
 rw[hz] at hl hb⊢
 have w1:IntKind.i64.wrap ((m:Int) - a)=((m - a:Nat):Int):=by rw[qF (by omega) (by omega)];omega
 have w2:IntKind.i64.wrap ((b:Int) - m)=((b - m:Nat):Int):=by rw[qF (by omega) (by omega)];omega
 refine zP (tbl:=zMa) zT9 200001 0 (af:=a248) rfl ?_
 rw[a248,b248,zW]
 refine⟨by simp,?_⟩
 simp -implicitDefEqProofs [xJ,w1,w2]
 refine jH (qR jG (qS zT9) _ _ noY qM) (fun q tm H=> ∃(i j:Nat) (g:List Fate),i+j<=q/\0<i/\0<j/\i<=m/\m+j<=z/\g.length=z/\zBk g (m - i) m (m+j)=zBk l a m b/\tm 0=.slice (some ⟨0,0,none⟩) z c/\tm 2=.int .i64 m/\tm 4=xJ/\tm 10=.int .i64 i/\tm 11=.int .i64 j/\H=AH.of [some (.arr e (qN g))]) (m:=b - a)
  ⟨m - a,b - m,l,by omega,by omega,by omega,by omega,by omega,hz,by rw[show m - (m - a)=a by omega,show m+(b - m)=b by omega],by simp[xJ]⟩ (by omega) ?_
 rintro q tm H ⟨i,j,g,hq,hi,hj,him,hjz,hgl,hrot,t0,t2,t4,t10,t11,rfl⟩
 have wmi:IntKind.i64.wrap ((m:Int) - i)=((m - i:Nat):Int):=by rw[qF (by omega) (by omega)];omega
 by_cases hij:i=j
 ·subst hij
  have hfin:=qWq (l:=g) (m:=m) (i:=i) him (by omega)
  rw[hrot] at hfin
  have hle:m - i+i<=z:=by omega
  have p1:((m - i:Nat):Int)+i<=z:=by omega
  have p2:(m:Int)+i<=z:=by omega
  simp -implicitDefEqProofs [zMa,zO5,zDj,zC2,t0,t2,t4,t10,t11,wmi,hgl,hl,hle,hjz,p1,p2,hfin]
  refine zA [] [0] ?_ ?_ ?_<;> simp
 ·have hij':¬(i:Int)=j:=by omega
  by_cases hgt:j<i
  ·have hgt':(j:Int)<i:=by omega
   have hstep:=qWp (l:=g) (m:=m) (i:=i) (j:=j) hgt him (by omega)
   have wij:IntKind.i64.wrap ((i:Int) - j)=((i - j:Nat):Int):=by rw[qF (by omega) (by omega)];omega
   have p1:((m - i:Nat):Int)+j<=z:=by omega
   have p2:(m:Int)+j<=z:=by omega
   simp -implicitDefEqProofs [zMa,zO5,zDj,zC2,t0,t2,t4,t10,t11,wmi,wij,hgl,hl,hij',hgt',p1,p2]
   refine⟨q - 1,by omega,i - j,j,by omega,by omega,by omega,by omega,by omega,swr g (m - i) m j,by rw[zS3,hgl],?_,?_⟩
   ·rw[←hrot,←hstep,show m - (i - j)=m - i+j by omega]
   ·simp[t0,t2,t4]
  ·have hgt':¬(j:Int)<i:=by omega
   have hstep:=qWo (l:=g) (m:=m) (i:=i) (j:=j) (by omega) him (by omega)
   have wij:IntKind.i64.wrap ((j:Int) - i)=((j - i:Nat):Int):=by rw[qF (by omega) (by omega)];omega
   have wmj:IntKind.i64.wrap ((m:Int)+j)=((m+j:Nat):Int):=by rw[qF (by omega) (by omega)];omega
   have wmji:IntKind.i64.wrap ((m:Int)+j - i)=((m+j - i:Nat):Int):=by rw[qF (by omega) (by omega)];omega
   have wmji2:IntKind.i64.wrap (((m+j:Nat):Int) - i)=((m+j - i:Nat):Int):=by rw[qF (by omega) (by omega)];omega
   have p1:((m - i:Nat):Int)+i<=z:=by omega
   have p2:((m+j - i:Nat):Int)+i<=z:=by omega
   simp -implicitDefEqProofs [zMa,zO5,zDj,zC2,t0,t2,t4,t10,t11,wmi,wij,wmj,wmji,wmji2,hgl,hl,hij',hgt',p1,p2]
   refine⟨q - 1,by omega,i,j - i,by omega,by omega,by omega,by omega,by omega,swr g (m - i) (m+j - i) i,by rw[zS3,hgl],?_,?_⟩
   ·rw[←hrot,←hstep,show m+(j - i)=m+j - i by omega]
   ·simp[t0,t2,t4]
def zVr:qH GD:=fun args H=> match args with
 |[.slice (some ⟨k,0,none⟩) z _,.int .i64 a,.int .i64 m,.int .i64 b,v]=> (zDj H k).map fun l=> (z=l.2.length/\v=xJ/\l.2.length<=100000/\0<=a/\a<m/\m<b/\b<=l.2.length,.ret (.tuple #[]),H.upd k (.arr l.1 (qN (zBk l.2 a.toNat m.toNat b.toNat))))
 |_=> none
theorem qKt:zY Tryz.prog cfg 248 zVr:=by
 intro args H p r H' h hp
 unfold zVr at h
 split at h
 case h_2=> cases h
 simp only[Option.map_eq_some_iff] at h
 obtain⟨l,hl,h⟩:=h
 rename_i k z c a m b v
 cases h
 obtain⟨rfl,rfl,h1,h2,h3,h4,h5⟩:=hp
 obtain⟨a,rfl⟩:=Int.eq_ofNat_of_zero_le h2
 obtain⟨m,rfl⟩:=Int.eq_ofNat_of_zero_le (show 0<=m by omega)
 obtain⟨b,rfl⟩:=Int.eq_ofNat_of_zero_le (show 0<=b by omega)
 have hl2:=zF9 hl
 simp only[Int.toNat_natCast]
 exact (qR5 l.1 l.2 c a m b h1 (by omega) (by omega) (by omega)).atK (jD rfl) [k] (by simp) (by simp) (by simp[hl2]) (by simp[xJ]) (by simp) (by simp)
end YtapbabkndhaemaaGreat
end Go.Proofs
/-
 SORTED BY KEY:insertion.
-/
namespace Go.Proofs
namespace YtapbabkndhaemaaGreat
open Go.Abs
section
variable {α:Type} (key num:α->Int)
theorem qKo {l:List α} {i j:Nat} (h:i≠j):swp l i j=swp l j i:=by
 unfold swp
 cases hi:l[i]?<;> cases hj:l[j]?<;> simp
 exact List.set_comm _ _ h
theorem qDw {l:List α} {a m b k:Nat} (h:k<a) (ha:a<=l.length):(zBk l a m b)[k]?=l[k]?:=by
 unfold zBk
 rw[List.append_assoc,List.append_assoc,List.getElem?_append_left (by simp;omega),List.getElem?_take,if_pos h]
theorem zXz {l:List α} {a b:Nat} (h:a<=b):zBk l a a b=l:=by
 unfold zBk
 rw[Nat.sub_self,List.take_zero,List.append_nil,List.append_assoc]
 have:(l.drop a).take (b - a)++l.drop b=l.drop a:=by
  have:=List.take_append_drop (b - a) (l.drop a)
  rw[List.drop_drop,show a+(b - a)=b by omega] at this;exact this
 rw[this,List.take_append_drop]
theorem qG5 {l:List α} {a m:Nat} (h:a<=m):zBk l a m m=l:=by
 unfold zBk
 rw[Nat.sub_self,List.take_zero,List.append_nil,List.append_assoc]
 have:(l.drop a).take (m - a)++l.drop m=l.drop a:=by
  have:=List.take_append_drop (m - a) (l.drop a)
  rw[List.drop_drop,show a+(m - a)=m by omega] at this;exact this
 rw[this,List.take_append_drop]
theorem zR4 {l:List α} {j i:Nat} (hj:j<=i) (hi:i<l.length):∃p u x q,l=p++u++[x]++q/\p.length=j/\u.length=i - j/\l[i]?=some x:=by
 obtain⟨p,u,v,q,rfl,h1,h2,h3⟩:=zHl l j i (i+1) hj (by omega) hi
 obtain⟨x,rfl⟩:∃x,v=[x]:=List.length_eq_one_iff.1 (by omega)
 refine⟨p,u,x,q,rfl,h1,h2,?_⟩
 rw[show p++u++[x]++q=(p++u)++x::q by simp]
 exact zFw (by simp;omega)
theorem qMb {l:List α} {j i:Nat} (hj:j<=i) (hi:i<l.length):(zBk l j i (i+1))[j]?=l[i]?:=by
 obtain⟨p,u,x,q,hl,h1,h2,hx⟩:=zR4 hj hi
 rw[hx,hl,zEa h1.symm (by omega) (by simp)]
 rw[show p++[x]++u++q=p++x::(u++q) by simp]
 exact zFw h1.symm
theorem zR0 {l:List α} {j i:Nat} (hj:j+1<=i) (hi:i<l.length):swp (zBk l (j+1) i (i+1)) (j+1) j=zBk l j i (i+1):=by
 obtain⟨p,u,x,q,hl,h1,h2,hx⟩:=zR4 (show j<=i by omega) hi
 obtain⟨y,u,rfl⟩:∃y u',u=y::u':=List.exists_cons_of_length_pos (by omega)
 rw[hl,zEa h1.symm (by omega) (by simp)]
 rw[show p++y::u++[x]++q=(p++[y])++u++[x]++q by simp,zEa (by simp;omega) (by simp at h2;omega) (by simp)]
 rw[qKo (by omega)]
 rw[show p++[y]++[x]++u++q=p++y::[]++x::(u++q) by simp,zW0 h1.symm (by simp;omega)]
 simp
theorem qDv {l:List α} {a k:Nat} (ha:a<=k) (hk:k+1<l.length):swp (zBk l a (a+1) (k+1)) k (k+1)=zBk l a (a+1) (k+2):=by
 obtain⟨p,u,v,q,rfl,h1,h2,h3⟩:=zHl l a (a+1) (k+1) (by omega) (by omega) (by omega)
 obtain⟨x,rfl⟩:∃x,u=[x]:=List.length_eq_one_iff.1 (by omega)
 obtain⟨y,q,rfl⟩:∃y q',q=y::q':=List.exists_cons_of_length_pos (by simp at hk;omega)
 rw[zEa h1.symm (by simp) (by omega)]
 rw[show p++[x]++v++y::q=p++[x]++(v++[y])++q by simp,zEa h1.symm (by simp) (by simp;omega)]
 rw[show p++v++[x]++y::q=(p++v)++x::[]++y::q by simp,zW0 (by simp;omega) (by simp;omega)]
 simp
theorem qB3 (x:α):srt key num [x]=[x]:=zK1 key num (by simp)
theorem qVv {p u q:List α} {a b:Nat} (ha:a=p.length) (hb:b=a+u.length):((p++u++q).drop a).take (b - a)=u:=by
 rw[show p++u++q=p++(u++q) by simp,zFa ha,zFm (by omega)]
theorem qNh {l:List α} {a b i:Nat} (hn:Nm num ((l.drop a).take (b - a))) (hai:a<i) (hib:i<b) (hb:b<=l.length):
  SymPre key num (on l a i (srt key num)) a i (i+1)/\on (on l a i (srt key num)) a (i+1) (srt key num)=on l a (i+1) (srt key num):=by
 obtain⟨p,u,x,q,rfl,h1,h2,hx⟩:=zR4 (show a<=i by omega) (show i<l.length by omega)
 have hnu:Nm num (u++[x]):=by
  have e:((p++u++[x]++q).drop a).take (i+1 - a)=u++[x]:=by
   rw[show p++u++[x]++q=p++(u++[x])++q by simp];exact qVv h1.symm (by simp;omega)
  rw[←e]
  refine hn.sub num ?_
  rw[←Nat.min_eq_left (show i+1 - a<=b - a by omega),←List.take_take]
  exact List.take_sublist _ _
 have hw:=List.pairwise_append.1 hnu
 have e1:on (p++u++[x]++q) a i (srt key num)=p++srt key num u++[x]++q:=by
  rw[show p++u++[x]++q=p++u++([x]++q) by simp,zGs _ h1.symm (by omega)];simp
 rw[e1]
 refine⟨SymPre.of key num h1.symm (by rw[zCi];omega) (by simp) (by rw[zCi];omega) (by simp) (zIb key num hw.1) (by simp) ?_,?_⟩
 ·intro y hy z hz
  exact hw.2.2 y ((zB6 key num u).mem_iff.1 hy) z hz
 ·rw[show p++srt key num u++[x]++q=p++(srt key num u++[x])++q by simp,zGs _ h1.symm (by simp[zCi];omega)]
  rw[show p++u++[x]++q=p++(u++[x])++q by simp,zGs _ h1.symm (by simp;omega)]
  have:=zTd key num hnu
  rw[qB3] at this
  rw[this]
theorem qWx {l:List α} {a:Nat} (ha:a<l.length):on l a (a+1) (srt key num)=l:=by
 obtain⟨p,u,x,q,rfl,h1,h2,hx⟩:=zR4 (Nat.le_refl a) ha
 have:u=[]:=List.length_eq_zero_iff.1 (by omega)
 subst this
 rw[show p++[]++[x]++q=p++[x]++q by simp,zGs _ h1.symm (by simp),qB3]
theorem qWy {l:List α} {a:Nat} (ha:a<=l.length):on l a a (srt key num)=l:=by
 unfold on
 rw[Nat.sub_self,List.take_zero]
 simp[srt]
end
def fk (f:Fate):Int:=f.key
def fn (f:Fate):Int:=f.n
def zAy (l:List Fate):List Fate:=srt fk fn l
def zRn:List (FuncId × qH GD):=[(67,qE p67)]
theorem zQc:∀x∈zRn,zY Tryz.prog cfg x.1 x.2:=by simp[zRn,qBs]
def insI (e:TypeId) (l:List Fate) (c a b z q:Nat) (tm:Nat->Value) (H:AH GD):Prop:=∃(i:Nat),q+i=b+1/\a+1<=i/\(i<=b∨a=b)/\tm 0=.slice (some ⟨0,0,none⟩) z c/\tm 1=.int .i64 a/\tm 2=.int .i64 b/\tm 3=xJ/\tm 8=.int .i64 i/\H=AH.of [some (.arr e (qN (if i<=b then on l a i zAy else l)))]
def insJ (e:TypeId) (g:List Fate) (x:Fate) (c a b z i q:Nat) (tm:Nat->Value) (H:AH GD):Prop:=∃(j:Nat),q+a=j/\j<=i/\(∀y,j<i->g[j]?=some y->x.key<y.key)/\tm 0=.slice (some ⟨0,0,none⟩) z c/\tm 1=.int .i64 a/\tm 2=.int .i64 b/\tm 3=xJ/\tm 8=.int .i64 i/\tm 9=.int .i64 j/\H=AH.of [some (.arr e (qN (zBk g j i (i+1))))]
theorem qSc (e:TypeId) (l:List Fate) (c a b:Nat) (hl:l.length<=100000) (hab:a<=b) (hb:b<=l.length) (hn:Nm fn ((l.drop a).take (b - a))):
  zD Tryz.prog cfg 228 [.slice (some ⟨0,0,none⟩) l.length c,.int .i64 a,.int .i64 b,xJ] (AH.of [some (.arr e (qN l))])
  fun r H'=> r=.ret (.tuple #[])/\H'=AH.of [some (.arr e (qN (on l a b zAy)))]:=by
 refine zD.ends ?_
 obtain⟨z,hz⟩:∃z,l.length=z:=⟨_,rfl⟩
 rw[hz] at hl hb⊢
 have w1:IntKind.i64.wrap ((a:Int)+1)=((a+1:Nat):Int):=by rw[qF (by omega) (by omega)];omega
 refine zP (tbl:=zRn) zQc 100002 0 (af:=a228) rfl ?_
 rw[a228,b228,zW]
 refine⟨by simp,?_⟩
 simp -implicitDefEqProofs [xJ,w1]
 refine jH (qR jG (qS zQc) _ _ noY qM) (insI e l c a b z) (m:=b - a)
  ⟨a+1,by omega,by omega,by omega,by simp,by simp,by simp,by simp[xJ],by simp,?_⟩ (by omega) ?_
 ·split
  ·rw[show on l a (a+1) zAy=l from qWx fk fn (by omega)]
  ·rfl
 rintro q tm H ⟨i,hq,hai,hor,t0,t1,t2,t3,t8,rfl⟩
 by_cases hi:i<b
 ·have hi':(i:Int)<b:=by omega
  rw[if_pos (by omega)]
  obtain⟨hpre,hon⟩:=qNh fk fn hn (show a<i by omega) hi (by omega)
  obtain⟨g,hg⟩:∃g,on l a i zAy=g:=⟨_,rfl⟩
  have hgl:g.length=z:=by rw[←hg];exact (qD7 fk fn l a i (by omega) (by omega)).trans hz
  rw[show on l a i (srt fk fn)=g from hg] at hpre hon
  rw[hg]
  have hwr:=jV hi (by omega)
  obtain⟨x,hx⟩:=zAs (l:=g) (i:=i) (by omega)
  simp -implicitDefEqProofs [t0,t1,t2,t3,t8,hi']
  refine jH (qR jG (qS zQc) _ _ noY qM) (insJ e g x c a b z i) (m:=i - a)
   ⟨i,by omega,by omega,by omega,by simp[t0],by simp[t1],by simp[t2],by simp[t3],by simp[t8],by simp,by rw[zXz (by omega)]⟩ (by omega) ?_
  rintro q2 tm H ⟨j,hq2,hji,hlt,t0,t1,t2,t3,t8,t9,rfl⟩
  have hrl:(zBk g j i (i+1)).length=z:=by rw[zQi g hji (by omega) (by omega),hgl]
  have hatj:=qMb (l:=g) hji (by omega)
  rw[hx] at hatj
  have hfin:((∀y w,a<j->g[j - 1]?=some y->g[i]?=some w->y.key<=w.key))->zBk g j i (i+1)=on l a (i+1) zAy:=fun hh=>
   (qP5 fk fn hpre (by omega) hji hh (fun y w h1 h2 h3=> by rw[hx] at h3;cases h3;exact hlt y h1 h2)).trans hon
  have hib:i+1<=b:=by omega
  by_cases hja:a<j
  ·obtain⟨k,rfl⟩:∃k,j=k+1:=⟨j - 1,by omega⟩
   have hja':(a:Int)<(k+1:Nat):=by omega
   have wk:IntKind.i64.wrap (((k+1:Nat):Int) - 1)=k:=by rw[qF (by omega) (by omega)];omega
   obtain⟨y,hy⟩:=zAs (l:=g) (i:=k) (by omega)
   have hatk:(zBk g (k+1) i (i+1))[k]?=some y:=by rw[qDw (by omega) (by omega),hy]
   have hstep:=zR0 (l:=g) (j:=k) (i:=i) (by omega) (by omega)
   generalize zBk g (k+1) i (i+1)=d at*
   have mx:=zBw hatj
   have my:=zBw hatk
   have rx:(k+1)*3+3<=(qN d).length:=zBx (by omega)
   have ry:k*3+3<=(qN d).length:=zBx (by omega)
   have b1:k+1<z:=by omega
   have b2:k<z:=by omega
   have b3:((k+1:Nat):Int)<z:=by omega
   have b4:(k:Int)<z:=by omega
   obtain⟨K,hK⟩:∃K,k+1=K:=⟨_,rfl⟩
   rw[hK] at hja' wk hatj mx rx b1 b3 t9 hstep
   by_cases hc:x.key<y.key
   ·have hs:=zLu hatj hatk
    rw[hstep] at hs
    simp -implicitDefEqProofs [zRn,qE,p67,xJ,setMany,zJt,t0,t1,t2,t3,t8,t9,hja',wk,mx,my,rx,ry,b1,b2,b3,b4,hc,hs]
    exact⟨q2 - 1,by omega,k,by omega,by omega,fun w h1 h2=> by rw[hy] at h2;cases h2;exact hc,by simp[t0,t1,t2,t3,t8,xJ]⟩
   ·have hf:=hfin (fun y' w _ h2 h3=> by
     rw[Nat.add_sub_cancel,hy] at h2;rw[hx] at h3;cases h2;cases h3;omega)
    simp -implicitDefEqProofs [zRn,qE,p67,xJ,zJt,t0,t1,t2,t3,t8,t9,hja',wk,mx,my,rx,ry,b1,b2,b3,b4,hc,hwr]
    exact⟨q - 1,by omega,i+1,by omega,by omega,by omega,by simp[t0,t1,t2,t3,xJ,hib,hf]⟩
  ·have hja':¬(a:Int)<j:=by omega
   have hf:=hfin (fun y w h=> absurd h hja)
   simp -implicitDefEqProofs [xJ,t0,t1,t2,t3,t8,t9,hja',hwr]
   exact⟨q - 1,by omega,i+1,by omega,by omega,by omega,by simp[t0,t1,t2,t3,xJ,hib,hf]⟩
 ·have hi':¬(i:Int)<b:=by omega
  have he:(if i<=b then on l a i zAy else l)=on l a b zAy:=by
   by_cases hib:i<=b
   ·rw[if_pos hib,show i=b by omega]
   ·rw[if_neg hib,show b=a by omega]
    exact (qWy fk fn (by omega)).symm
  rw[he]
  simp -implicitDefEqProofs [t0,t1,t2,t3,t8,hi']
  refine zA [] [0] ?_ ?_ ?_<;> simp
def zRr:qH GD:=fun args H=> match args with
 |[.slice (some ⟨k,0,none⟩) z _,.int .i64 a,.int .i64 b,v]=> (zDj H k).map fun l=> (z=l.2.length/\v=xJ/\l.2.length<=100000/\0<=a/\a<=b/\b<=l.2.length/\Nm fn ((l.2.drop a.toNat).take (b.toNat - a.toNat)),.ret (.tuple #[]),H.upd k (.arr l.1 (qN (on l.2 a.toNat b.toNat zAy))))
 |_=> none
theorem qKu:zY Tryz.prog cfg 228 zRr:=by
 intro args H p r H' h hp
 unfold zRr at h
 split at h
 case h_2=> cases h
 simp only[Option.map_eq_some_iff] at h
 obtain⟨l,hl,h⟩:=h
 rename_i k z c a b v
 cases h
 obtain⟨rfl,rfl,h1,h2,h3,h4,h5⟩:=hp
 obtain⟨a,rfl⟩:=Int.eq_ofNat_of_zero_le h2
 obtain⟨b,rfl⟩:=Int.eq_ofNat_of_zero_le (show 0<=b by omega)
 have hl2:=zF9 hl
 simp only[Int.toNat_natCast] at h5⊢
 exact (qSc l.1 l.2 c a b h1 (by omega) (by omega) h5).atK (jD rfl) [k] (by simp) (by simp) (by simp[hl2]) (by simp[xJ]) (by simp) (by simp)
end YtapbabkndhaemaaGreat
end Go.Proofs
/-
 SORTED BY KEY:two zA7 parts are merged.
-/
namespace Go.Proofs
namespace YtapbabkndhaemaaGreat
open Go.Abs
def zHr (n:Nat):qH GD:=fun args H=> match args with
 |[.slice (some ⟨k,0,none⟩) z _,.int .i64 a,.int .i64 m,.int .i64 b,v]=> (zDj H k).map fun l=> (z=l.2.length/\v=xJ/\l.2.length<=100000/\0<=a/\0<=m/\b - a<=n/\SymPre fk fn l.2 a.toNat m.toNat b.toNat,.ret (.tuple #[]),H.upd k (.arr l.1 (qN (on l.2 a.toNat b.toNat zAy))))
 |_=> none
def zHp (n:Nat):List (FuncId × qH GD):=[(67,qE p67),(248,zVr),(229,zHr n)]
theorem zF0 {n:Nat} (ih:zY Tryz.prog cfg 229 (zHr n)):∀x∈zHp n,zY Tryz.prog cfg x.1 x.2:=by simp[zHp,qBs,qKt,ih]
theorem zPi {s h:Nat} (hs:s<=1000000) (e:s / 2=h):IntKind.u64.wrap (s:Int)=s/\(s:Int).fdiv (2 ^ min (Int.toNat 1) IntKind.u64.bits)=h/\(s:Int).fdiv (2 ^ min 1 IntKind.u64.bits)=h/\IntKind.i64.wrap (h:Int)=h:=by
 have h2:(s:Int).fdiv 2=h:=by rw[Int.fdiv_eq_ediv_of_nonneg _ (by omega)];omega
 refine⟨?_,h2,h2,qF (by omega) (by omega)⟩
 unfold IntKind.wrap
 simp[IntKind.bits]
 omega
def syA (e:TypeId) (l:List Fate) (x:Fate) (c a b z q:Nat) (tm:Nat->Value) (H:AH GD):Prop:=∃i j:Nat,q+i=j/\a+1<=i/\i<=j/\j<=b/\(∀y,a+1<i->l[i - 1]?=some y->y.key<x.key)/\(∀y,j<b->l[j]?=some y->x.key<=y.key)/\
 tm 0=.slice (some ⟨0,0,none⟩) z c/\tm 1=.int .i64 a/\tm 4=xJ/\tm 10=.int .i64 i/\tm 11=.int .i64 j/\H=AH.of [some (.arr e (qN l))]
def syB (e:TypeId) (l:List Fate) (c a i z q:Nat) (tm:Nat->Value) (H:AH GD):Prop:=∃k:Nat,q+k=i/\a<=k/\tm 0=.slice (some ⟨0,0,none⟩) z c/\tm 10=.int .i64 ((i+1:Nat):Int)/\tm 13=.int .i64 k/\H=AH.of [some (.arr e (qN (zBk l a (a+1) (k+1))))]
theorem qKm {n0:Nat} (ih:zY Tryz.prog cfg 229 (zHr n0)) (e:TypeId) (l:List Fate) (c a b:Nat) (hl:l.length<=100000) (hp:SymPre fk fn l a (a+1) b):
  zD Tryz.prog cfg 229 [.slice (some ⟨0,0,none⟩) l.length c,.int .i64 a,.int .i64 ((a+1:Nat):Int),.int .i64 b,xJ] (AH.of [some (.arr e (qN l))])
  fun r H'=> r=.ret (.tuple #[])/\H'=AH.of [some (.arr e (qN (on l a b zAy)))]:=by
 refine zD.ends ?_
 have hbl:=hp.bl
 have hmb:=hp.mb
 obtain⟨z,hz⟩:∃z,l.length=z:=⟨_,rfl⟩
 rw[hz] at hl hbl⊢
 obtain⟨x,hx⟩:=zAs (l:=l) (i:=a) (by omega)
 have mx:=zBw hx
 have rx:a*3+3<=(qN l).length:=zBx (by omega)
 have az:a<z:=by omega
 have az':(a:Int)<z:=by omega
 obtain⟨m,hm⟩:∃m,a+1=m:=⟨_,rfl⟩
 have w1:IntKind.i64.wrap ((m:Int) - a)=1:=by rw[qF (by omega) (by omega)];omega
 rw[hm]
 refine zP (tbl:=zHp n0) (zF0 ih) 100002 0 (af:=a229) rfl ?_
 rw[a229,b229,zW]
 refine⟨by simp,?_⟩
 simp -implicitDefEqProofs [xJ,w1]
 refine jH (qR jG (qS (zF0 ih)) _ _ noY qM) (syA e l x c a b z) (m:=b - m) ⟨m,b,by omega,by omega,by omega,by omega,by omega,by omega,by simp,by simp,by simp[xJ],by simp,by simp,rfl⟩ (by omega) ?_
 rintro q tm H ⟨i,j,hq,hai,hij,hjb,h1,h2,t0,t1,t4,t10,t11,rfl⟩
 by_cases hlt:i<j
 ·have hlt':(i:Int)<j:=by omega
  obtain⟨s,hs⟩:∃s,i+j=s:=⟨_,rfl⟩
  obtain⟨h,hh⟩:∃h,s / 2=h:=⟨_,rfl⟩
  have ws:IntKind.i64.wrap ((i:Int)+j)=s:=by rw[qF (by omega) (by omega)];omega
  obtain⟨f1,f2,f3,f4⟩:=zPi (by omega) hh
  obtain⟨y,hy⟩:=zAs (l:=l) (i:=h) (by omega)
  have my:=zBw hy
  have ry:h*3+3<=(qN l).length:=zBx (by omega)
  have hz1:h<z:=by omega
  have hz2:(h:Int)<z:=by omega
  by_cases hc:y.key<x.key
  ·have wh:IntKind.i64.wrap ((h:Int)+1)=((h+1:Nat):Int):=by rw[qF (by omega) (by omega)];omega
   simp -implicitDefEqProofs [zHp,qE,p67,xJ,zJt,t0,t1,t4,t10,t11,hlt',ws,f1,f2,f3,f4,mx,my,rx,ry,az,az',hz1,hz2,hc,wh]
   exact⟨j - (h+1),by omega,h+1,j,by omega,by omega,by omega,hjb,fun w _ hw=> by rw[Nat.add_sub_cancel,hy] at hw;cases hw;exact hc,h2,by simp[t0,t1,t4,t11,xJ]⟩
  ·simp -implicitDefEqProofs [zHp,qE,p67,xJ,zJt,t0,t1,t4,t10,t11,hlt',ws,f1,f2,f3,f4,mx,my,rx,ry,az,az',hz1,hz2,hc]
   exact⟨h - i,by omega,i,h,by omega,by omega,by omega,by omega,h1,fun w _ hw=> by rw[hy] at hw;cases hw;omega,by simp[t0,t1,t4,t10,xJ]⟩
 ·have hlt':¬(i:Int)<j:=by omega
  have hije:i=j:=by omega
  subst hije
  have hfin:=one_l fk fn hp hai hjb (fun w v h3 h4 h5=> by rw[hx] at h5;cases h5;exact h1 v h3 h4) (fun w v h3 h4 h5=> by rw[hx] at h5;cases h5;exact h2 v h3 h4)
  obtain⟨i,rfl⟩:∃i',i=i'+1:=⟨i - 1,by omega⟩
  have wi:IntKind.i64.wrap (((i+1:Nat):Int) - 1)=i:=by rw[qF (by omega) (by omega)];omega
  obtain⟨I,hI⟩:∃I,i+1=I:=⟨_,rfl⟩
  rw[hI] at wi t10 t11
  simp -implicitDefEqProofs [xJ,t0,t1,t4,t10,t11]
  refine jH (qR jG (qS (zF0 ih)) _ _ noY qM) (syB e l c a i z) (m:=i - a) ⟨a,by omega,by omega,by simp[t0],by simp[t10,hI],by simp,by rw[qG5 (by omega)]⟩ (by omega) ?_
  rintro q tm H ⟨k,hq,hak,t0,t10,t13,rfl⟩
  rw[hI] at t10
  have hrl:(zBk l a (a+1) (k+1)).length=z:=by rw[zQi l (by omega) (by omega) (by omega),hz]
  by_cases hk:k<i
  ·have hk':(k:Int)<i:=by omega
   have wk:IntKind.i64.wrap ((k:Int)+1)=((k+1:Nat):Int):=by rw[qF (by omega) (by omega)];omega
   have hstep:=qDv (l:=l) (a:=a) (k:=k) hak (by omega)
   generalize hd:zBk l a (a+1) (k+1)=d at*
   obtain⟨K,hK⟩:∃K,k+1=K:=⟨_,rfl⟩
   rw[hK] at hstep wk
   obtain⟨u,hu⟩:=zAs (l:=d) (i:=k) (by omega)
   obtain⟨v,hv⟩:=zAs (l:=d) (i:=K) (by omega)
   have mu:=zBw hu
   have mv:=zBw hv
   have ru:k*3+3<=(qN d).length:=zBx (by omega)
   have rv:K*3+3<=(qN d).length:=zBx (by omega)
   have b1:k<z:=by omega
   have b2:(k:Int)<z:=by omega
   have b3:K<z:=by omega
   have b4:(K:Int)<z:=by omega
   have hsw:=zLu hu hv
   rw[hstep] at hsw
   simp -implicitDefEqProofs [setMany,t0,t10,t13,wi,hk',wk,mu,mv,ru,rv,b1,b2,b3,b4,hsw]
   exact⟨q - 1,by omega,K,by omega,by omega,by simp[t0,t10,hI,←hK]⟩
  ·have hke:k=i:=by omega
   subst hke
   rw[show zBk l a (a+1) (k+1)=on l a b zAy from hfin]
   simp -implicitDefEqProofs [t0,t10,t13,wi]
   refine zA [] [0] ?_ ?_ ?_<;> simp
end YtapbabkndhaemaaGreat
end Go.Proofs
/-
 SORTED BY KEY:one alone on the right.
-/
namespace Go.Proofs
namespace YtapbabkndhaemaaGreat
open Go.Abs
def syC (e:TypeId) (l:List Fate) (x:Fate) (c a m z q:Nat) (tm:Nat->Value) (H:AH GD):Prop:=∃i j:Nat,q+i=j/\a<=i/\i<=j/\j<=m/\(∀y,a<i->l[i - 1]?=some y->y.key<=x.key)/\(∀y,j<m->l[j]?=some y->x.key<y.key)/\
 tm 0=.slice (some ⟨0,0,none⟩) z c/\tm 2=.int .i64 m/\tm 4=xJ/\tm 14=.int .i64 i/\tm 15=.int .i64 j/\H=AH.of [some (.arr e (qN l))]
def syD (e:TypeId) (l:List Fate) (c m i z q:Nat) (tm:Nat->Value) (H:AH GD):Prop:=∃k:Nat,q+i=k/\k<=m/\tm 0=.slice (some ⟨0,0,none⟩) z c/\tm 14=.int .i64 i/\tm 17=.int .i64 k/\H=AH.of [some (.arr e (qN (zBk l k m (m+1))))]
theorem qGm {n0:Nat} (ih:zY Tryz.prog cfg 229 (zHr n0)) (e:TypeId) (l:List Fate) (c a m:Nat) (hl:l.length<=100000) (hp:SymPre fk fn l a m (m+1)) (hm1:m≠a+1):
  zD Tryz.prog cfg 229 [.slice (some ⟨0,0,none⟩) l.length c,.int .i64 a,.int .i64 m,.int .i64 ((m+1:Nat):Int),xJ] (AH.of [some (.arr e (qN l))])
  fun r H'=> r=.ret (.tuple #[])/\H'=AH.of [some (.arr e (qN (on l a (m+1) zAy)))]:=by
 refine zD.ends ?_
 have hbl:=hp.bl
 have ham:=hp.am
 obtain⟨z,hz⟩:∃z,l.length=z:=⟨_,rfl⟩
 rw[hz] at hl hbl⊢
 obtain⟨x,hx⟩:=zAs (l:=l) (i:=m) (by omega)
 have mx:=zBw hx
 have rx:m*3+3<=(qN l).length:=zBx (by omega)
 have az:m<z:=by omega
 have az':(m:Int)<z:=by omega
 obtain⟨b,hb⟩:∃b,m+1=b:=⟨_,rfl⟩
 have w1:IntKind.i64.wrap ((b:Int) - m)=1:=by rw[qF (by omega) (by omega)];omega
 have w0:IntKind.i64.wrap ((m:Int) - a)=(m:Int) - a:=qF (by omega) (by omega)
 have w0':¬(m:Int) - a=1:=by omega
 rw[hb]
 refine zP (tbl:=zHp n0) (zF0 ih) 100002 0 (af:=a229) rfl ?_
 rw[a229,b229,zW]
 refine⟨by simp,?_⟩
 simp -implicitDefEqProofs [xJ,w1,w0,w0']
 refine jH (qR jG (qS (zF0 ih)) _ _ noY qM) (syC e l x c a m z) (m:=m - a) ⟨a,m,by omega,by omega,by omega,by omega,by omega,by omega,by simp,by simp,by simp[xJ],by simp,by simp,rfl⟩ (by omega) ?_
 rintro q tm H ⟨i,j,hq,hai,hij,hjb,h1,h2,t0,t2,t4,t14,t15,rfl⟩
 by_cases hlt:i<j
 ·have hlt':(i:Int)<j:=by omega
  obtain⟨s,hs⟩:∃s,i+j=s:=⟨_,rfl⟩
  obtain⟨h,hh⟩:∃h,s / 2=h:=⟨_,rfl⟩
  have ws:IntKind.i64.wrap ((i:Int)+j)=s:=by rw[qF (by omega) (by omega)];omega
  obtain⟨f1,f2,f3,f4⟩:=zPi (by omega) hh
  obtain⟨y,hy⟩:=zAs (l:=l) (i:=h) (by omega)
  have my:=zBw hy
  have ry:h*3+3<=(qN l).length:=zBx (by omega)
  have hz1:h<z:=by omega
  have hz2:(h:Int)<z:=by omega
  by_cases hc:x.key<y.key
  ·have hc2:¬y.key<=x.key:=by omega
   simp -implicitDefEqProofs [zHp,qE,p67,xJ,zJt,t0,t2,t4,t14,t15,hlt',ws,f1,f2,f3,f4,mx,my,rx,ry,az,az',hz1,hz2,hc,hc2]
   exact⟨h - i,by omega,i,h,by omega,by omega,by omega,by omega,h1,fun w _ hw=> by rw[hy] at hw;cases hw;exact hc,by simp[t0,t2,t4,t14,xJ]⟩
  ·have wh:IntKind.i64.wrap ((h:Int)+1)=((h+1:Nat):Int):=by rw[qF (by omega) (by omega)];omega
   have hc2:y.key<=x.key:=by omega
   simp -implicitDefEqProofs [zHp,qE,p67,xJ,zJt,t0,t2,t4,t14,t15,hlt',ws,f1,f2,f3,f4,mx,my,rx,ry,az,az',hz1,hz2,hc,hc2,wh]
   exact⟨j - (h+1),by omega,h+1,j,by omega,by omega,by omega,hjb,fun w _ hw=> by rw[Nat.add_sub_cancel,hy] at hw;cases hw;omega,h2,by simp[t0,t2,t4,t15,xJ]⟩
 ·have hlt':¬(i:Int)<j:=by omega
  have hije:i=j:=by omega
  subst hije
  have hfin:=qP5 fk fn hp hai hjb (fun v w h3 h4 h5=> by rw[hx] at h5;cases h5;exact h1 v h3 h4) (fun v w h3 h4 h5=> by rw[hx] at h5;cases h5;exact h2 v h3 h4)
  simp -implicitDefEqProofs [xJ,t0,t2,t4,t14,t15]
  refine jH (qR jG (qS (zF0 ih)) _ _ noY qM) (syD e l c m i z) (m:=m - i) ⟨m,by omega,by omega,by simp[t0],by simp[t14],by simp,by rw[zXz (by omega)]⟩ (by omega) ?_
  rintro q tm H ⟨k,hq,hak,t0,t14,t17,rfl⟩
  have hrl:(zBk l k m (m+1)).length=z:=by rw[zQi l (by omega) (by omega) (by omega),hz]
  by_cases hk:i<k
  ·obtain⟨j,rfl⟩:∃j,k=j+1:=⟨k - 1,by omega⟩
   have wk:IntKind.i64.wrap (((j+1:Nat):Int) - 1)=j:=by rw[qF (by omega) (by omega)];omega
   have hk':(i:Int)<((j+1:Nat):Int):=by omega
   have hstep:=zR0 (l:=l) (j:=j) (i:=m) (by omega) (by omega)
   generalize hd:zBk l (j+1) m (m+1)=d at*
   obtain⟨K,hK⟩:∃K,j+1=K:=⟨_,rfl⟩
   rw[hK] at hstep wk hk' t17
   obtain⟨u,hu⟩:=zAs (l:=d) (i:=K) (by omega)
   obtain⟨v,hv⟩:=zAs (l:=d) (i:=j) (by omega)
   have mu:=zBw hu
   have mv:=zBw hv
   have ru:K*3+3<=(qN d).length:=zBx (by omega)
   have rv:j*3+3<=(qN d).length:=zBx (by omega)
   have b1:K<z:=by omega
   have b2:(K:Int)<z:=by omega
   have b3:j<z:=by omega
   have b4:(j:Int)<z:=by omega
   have hsw:=zLu hu hv
   rw[hstep] at hsw
   simp -implicitDefEqProofs [setMany,t0,t14,t17,hk',wk,mu,mv,ru,rv,b1,b2,b3,b4,hsw]
   exact⟨q - 1,by omega,j,by omega,by omega,by simp[t0,t14]⟩
  ·have hke:k=i:=by omega
   subst hke
   rw[show zBk l k m (m+1)=on l a (m+1) zAy from hfin,hb]
   simp -implicitDefEqProofs [t0,t14,t17]
   refine zA [] [0] ?_ ?_ ?_<;> simp
end YtapbabkndhaemaaGreat
end Go.Proofs
/-
 SORTED BY KEY:two zA7 parts are merged,whole.
-/
namespace Go.Proofs
namespace YtapbabkndhaemaaGreat
open Go.Abs
theorem symF {l:List Fate} {a m b s e mid:Nat} (h:SymPre fk fn l a m b) (hmid:mid=(a+b) / 2) (hse:s+e=mid+m) (has:a<=s) (hsm:s<=m) (hme:m<=e) (heb:e<=b)
  (h1:∀x z,a<s->e<b->l[s - 1]?=some x->l[e]?=some z->x.key<=z.key)
  (h2:∀x z,s<m->m<e->l[s]?=some x->l[e - 1]?=some z->z.key<x.key):
  ∃l1 l2:List Fate,(s<m/\m<e->zBk l s m e=l1)/\(¬(s<m/\m<e)->l=l1)/\(a<s/\s<mid->on l1 a mid zAy=l2)/\(¬(a<s/\s<mid)->l1=l2)/\(mid<e/\e<b->on l2 mid b zAy=on l a b zAy)/\(¬(mid<e/\e<b)->l2=on l a b zAy)/\
   l1.length=l.length/\l2.length=l.length/\(a<s/\s<mid->SymPre fk fn l1 a s mid)/\(mid<e/\e<b->SymPre fk fn l2 mid e b):=by
 obtain⟨k1,k2,k3,k4,k5⟩:=qQ9 fk fn h hmid hse has hsm hme heb h1 h2
 refine⟨_,_,?_,?_,?_,?_,?_,?_,k1,k2,k3,k4⟩
 ·intro hc;rw[if_pos hc]
 ·intro hc;rw[if_neg hc]
 ·intro hc;rw[if_pos hc];rfl
 ·intro hc;rw[if_neg hc]
 ·intro hc;rw[if_pos hc] at k5;exact k5
 ·intro hc;rw[if_neg hc] at k5;exact k5
theorem qKn {a m b s e mid:Nat} (g1:a<m) (g2:m<b) (hmid:mid=(a+b) / 2) (hse:s+e=mid+m) (has:a<=s) (hsm:s<=m) (hme:m<=e) (heb:e<=b):
  (¬(s:Int)<m/\(m:Int)<e/\(a:Int)<s/\(s:Int)<mid/\¬(mid:Int)<e/\(e:Int)<b)∨
  (¬(s:Int)<m/\¬(m:Int)<e/\(a:Int)<s/\¬(s:Int)<mid/\¬(mid:Int)<e/\(e:Int)<b)∨
  ((s:Int)<m/\¬(m:Int)<e/\(a:Int)<s/\¬(s:Int)<mid/\(mid:Int)<e/\(e:Int)<b)∨
  ((s:Int)<m/\(m:Int)<e/\¬(a:Int)<s/\(s:Int)<mid/\(mid:Int)<e/\¬(e:Int)<b)∨
  ((s:Int)<m/\(m:Int)<e/\¬(a:Int)<s/\(s:Int)<mid/\(mid:Int)<e/\(e:Int)<b)∨
  ((s:Int)<m/\(m:Int)<e/\(a:Int)<s/\(s:Int)<mid/\(mid:Int)<e/\¬(e:Int)<b)∨
  ((s:Int)<m/\(m:Int)<e/\(a:Int)<s/\(s:Int)<mid/\(mid:Int)<e/\(e:Int)<b):=by
 by_cases c1:s=m
 ·by_cases c2:m<mid
  ·exact .inl ⟨by omega,by omega,by omega,by omega,by omega,by omega⟩
  ·exact .inr (.inl ⟨by omega,by omega,by omega,by omega,by omega,by omega⟩)
 ·by_cases c2:e=m
  ·exact .inr (.inr (.inl ⟨by omega,by omega,by omega,by omega,by omega,by omega⟩))
  ·by_cases c3:a<s
   ·by_cases c4:e<b
    ·exact .inr (.inr (.inr (.inr (.inr (.inr (⟨by omega,by omega,by omega,by omega,by omega,by omega⟩))))))
    ·exact .inr (.inr (.inr (.inr (.inr (.inl ⟨by omega,by omega,by omega,by omega,by omega,by omega⟩)))))
   ·by_cases c4:e<b
    ·exact .inr (.inr (.inr (.inr (.inl ⟨by omega,by omega,by omega,by omega,by omega,by omega⟩))))
    ·exact .inr (.inr (.inr (.inl ⟨by omega,by omega,by omega,by omega,by omega,by omega⟩)))
theorem symH {l:List Fate} {a m b s e mid:Nat} (h:SymPre fk fn l a m b) (hmid:mid=(a+b) / 2) (hse:s+e=mid+m) (has:a<=s) (hsm:s<=m) (hme:m<=e) (heb:e<=b)
  (h1:∀x z,a<s->e<b->l[s - 1]?=some x->l[e]?=some z->x.key<=z.key)
  (h2:∀x z,s<m->m<e->l[s]?=some x->l[e - 1]?=some z->z.key<x.key):
  ∃l1 l2:List Fate,l1.length=l.length/\l2.length=l.length/\(
  (¬(s:Int)<m/\(m:Int)<e/\(a:Int)<s/\(s:Int)<mid/\¬(mid:Int)<e/\(e:Int)<b/\l=l1/\on l1 a mid zAy=l2/\SymPre fk fn l1 a s mid/\l2=on l a b zAy/\True)∨
  (¬(s:Int)<m/\¬(m:Int)<e/\(a:Int)<s/\¬(s:Int)<mid/\¬(mid:Int)<e/\(e:Int)<b/\l=l1/\l1=l2/\True/\l2=on l a b zAy/\True)∨
  ((s:Int)<m/\¬(m:Int)<e/\(a:Int)<s/\¬(s:Int)<mid/\(mid:Int)<e/\(e:Int)<b/\l=l1/\l1=l2/\True/\on l2 mid b zAy=on l a b zAy/\SymPre fk fn l2 mid e b)∨
  ((s:Int)<m/\(m:Int)<e/\¬(a:Int)<s/\(s:Int)<mid/\(mid:Int)<e/\¬(e:Int)<b/\zBk l s m e=l1/\l1=l2/\True/\l2=on l a b zAy/\True)∨
  ((s:Int)<m/\(m:Int)<e/\¬(a:Int)<s/\(s:Int)<mid/\(mid:Int)<e/\(e:Int)<b/\zBk l s m e=l1/\l1=l2/\True/\on l2 mid b zAy=on l a b zAy/\SymPre fk fn l2 mid e b)∨
  ((s:Int)<m/\(m:Int)<e/\(a:Int)<s/\(s:Int)<mid/\(mid:Int)<e/\¬(e:Int)<b/\zBk l s m e=l1/\on l1 a mid zAy=l2/\SymPre fk fn l1 a s mid/\l2=on l a b zAy/\True)∨
  ((s:Int)<m/\(m:Int)<e/\(a:Int)<s/\(s:Int)<mid/\(mid:Int)<e/\(e:Int)<b/\zBk l s m e=l1/\on l1 a mid zAy=l2/\SymPre fk fn l1 a s mid/\on l2 mid b zAy=on l a b zAy/\SymPre fk fn l2 mid e b)):=by
 obtain⟨l1,l2,K1,K2,K3,K4,K5,K6,hl1,hl2,P1,P2⟩:=symF h hmid hse has hsm hme heb h1 h2
 refine⟨l1,l2,hl1,hl2,?_⟩
 rcases qKn h.am h.mb hmid hse has hsm hme heb with ⟨q1,q2,q3,q4,q5,q6⟩|⟨q1,q2,q3,q4,q5,q6⟩|⟨q1,q2,q3,q4,q5,q6⟩|⟨q1,q2,q3,q4,q5,q6⟩|⟨q1,q2,q3,q4,q5,q6⟩|⟨q1,q2,q3,q4,q5,q6⟩|⟨q1,q2,q3,q4,q5,q6⟩
 ·exact .inl ⟨q1,q2,q3,q4,q5,q6,K2 (by omega),K3 (by omega),P1 (by omega),K6 (by omega),trivial⟩
 ·exact .inr (.inl ⟨q1,q2,q3,q4,q5,q6,K2 (by omega),K4 (by omega),trivial,K6 (by omega),trivial⟩)
 ·exact .inr (.inr (.inl ⟨q1,q2,q3,q4,q5,q6,K2 (by omega),K4 (by omega),trivial,K5 (by omega),P2 (by omega)⟩))
 ·exact .inr (.inr (.inr (.inl ⟨q1,q2,q3,q4,q5,q6,K1 (by omega),K4 (by omega),trivial,K6 (by omega),trivial⟩)))
 ·exact .inr (.inr (.inr (.inr (.inl ⟨q1,q2,q3,q4,q5,q6,K1 (by omega),K4 (by omega),trivial,K5 (by omega),P2 (by omega)⟩))))
 ·exact .inr (.inr (.inr (.inr (.inr (.inl ⟨q1,q2,q3,q4,q5,q6,K1 (by omega),K3 (by omega),P1 (by omega),K6 (by omega),trivial⟩)))))
 ·exact .inr (.inr (.inr (.inr (.inr (.inr (⟨q1,q2,q3,q4,q5,q6,K1 (by omega),K3 (by omega),P1 (by omega),K5 (by omega),P2 (by omega)⟩))))))
def syE (e:TypeId) (l:List Fate) (c a m b d N P s0 r0 z q:Nat) (tm:Nat->Value) (H:AH GD):Prop:=∃s r:Nat,q+s=r/\s0<=s/\s<=r/\r<=r0/\(∀x y,s0<s->l[s - 1]?=some x->l[N - s]?=some y->x.key<=y.key)/\(∀x y,r<r0->l[r]?=some x->l[P - r]?=some y->y.key<x.key)/\
 tm 0=.slice (some ⟨0,0,none⟩) z c/\tm 1=.int .i64 a/\tm 2=.int .i64 m/\tm 3=.int .i64 b/\tm 4=xJ/\tm 18=.int .i64 d/\tm 19=.int .i64 N/\tm 20=.int .i64 s/\tm 21=.int .i64 r/\tm 22=.int .i64 P/\H=AH.of [some (.arr e (qN l))]
theorem qQ8 {n0:Nat} (ih:zY Tryz.prog cfg 229 (zHr n0)) (e:TypeId) (l:List Fate) (c a m b:Nat) (hl:l.length<=100000) (hp:SymPre fk fn l a m b) (hm1:m≠a+1) (hm2:b≠m+1) (hn0:b - a<=n0+1):
  zD Tryz.prog cfg 229 [.slice (some ⟨0,0,none⟩) l.length c,.int .i64 a,.int .i64 m,.int .i64 b,xJ] (AH.of [some (.arr e (qN l))])
  fun r H'=> r=.ret (.tuple #[])/\H'=AH.of [some (.arr e (qN (on l a b zAy)))]:=by
 refine zD.ends ?_
 have hbl:=hp.bl
 have ham:=hp.am
 have hmb:=hp.mb
 obtain⟨z,hz⟩:∃z,l.length=z:=⟨_,rfl⟩
 rw[hz] at hl hbl⊢
 obtain⟨T,hT⟩:∃T,on l a b zAy=T:=⟨_,rfl⟩
 rw[hT]
 have w1:IntKind.i64.wrap ((b:Int) - m)=(b:Int) - m:=qF (by omega) (by omega)
 have w1':¬(b:Int) - m=1:=by omega
 have w0:IntKind.i64.wrap ((m:Int) - a)=(m:Int) - a:=qF (by omega) (by omega)
 have w0':¬(m:Int) - a=1:=by omega
 obtain⟨t,ht⟩:∃t,a+b=t:=⟨_,rfl⟩
 obtain⟨d,hd⟩:∃d,t / 2=d:=⟨_,rfl⟩
 obtain⟨N,hN⟩:∃N,d+m=N:=⟨_,rfl⟩
 obtain⟨P,hP⟩:∃P,N - 1=P:=⟨_,rfl⟩
 obtain⟨f1,f2,f3,f4⟩:=zPi (by omega) hd
 have wt:IntKind.i64.wrap ((a:Int)+b)=t:=by rw[qF (by omega) (by omega)];omega
 have wN:IntKind.i64.wrap ((d:Int)+m)=N:=by rw[qF (by omega) (by omega)];omega
 have wP:IntKind.i64.wrap ((N:Int) - 1)=P:=by rw[qF (by omega) (by omega)];omega
 obtain⟨s0,r0,hA⟩:∃s0 r0:Nat,(d<m/\s0+b=N/\r0=d)∨(m<=d/\s0=a/\r0=m):=by
  by_cases h:d<m
  ·exact⟨N - b,d,.inl ⟨h,by omega,rfl⟩⟩
  ·exact⟨a,m,.inr ⟨by omega,rfl,rfl⟩⟩
 have hA2:=hA
 refine zP (tbl:=zHp n0) (zF0 ih) 100002 0 (af:=a229) rfl ?_
 rw[a229,b229,zW]
 refine⟨by simp,?_⟩
 rcases hA with ⟨g1,g2,g3⟩|⟨g1,g2,g3⟩
 case' inl=>
  have g1':(d:Int)<m:=by omega
  have ws0:IntKind.i64.wrap ((N:Int) - b)=s0:=by rw[qF (by omega) (by omega)];omega
  simp -implicitDefEqProofs [xJ,w1,w1',w0,w0',wt,f1,f2,f3,f4,wN,wP,g1',ws0]
  refine jH (qR jG (qS (zF0 ih)) _ _ noY qM) (syE e l c a m b d N P s0 r0 z) (m:=r0 - s0) ⟨s0,r0,by omega,by omega,by omega,by omega,by omega,by omega,by simp,by simp,by simp,by simp,by simp[xJ],by simp,by simp,by simp,by simp[g3],by simp,rfl⟩ (by omega) ?_
  clear g1 g2 g3 g1' ws0
 case' inr=>
  have g1':¬(d:Int)<m:=by omega
  simp -implicitDefEqProofs [xJ,w1,w1',w0,w0',wt,f1,f2,f3,f4,wN,wP,g1']
  refine jH (qR jG (qS (zF0 ih)) _ _ noY qM) (syE e l c a m b d N P s0 r0 z) (m:=r0 - s0) ⟨s0,r0,by omega,by omega,by omega,by omega,by omega,by omega,by simp,by simp,by simp,by simp,by simp[xJ],by simp,by simp,by simp[g2],by simp[g3],by simp,rfl⟩ (by omega) ?_
  clear g1 g2 g3 g1'
 all_goals
  rintro q tm H ⟨s,r,hq,hs0,hsr,hr0,h1,h2,t0,t1,t2,t3,t4,t18,t19,t20,t21,t22,rfl⟩
  by_cases hlt:s<r
  ·have hlt':(s:Int)<r:=by omega
   obtain⟨u,hu⟩:∃u,s+r=u:=⟨_,rfl⟩
   obtain⟨h,hh⟩:∃h,u / 2=h:=⟨_,rfl⟩
   have ws:IntKind.i64.wrap ((s:Int)+r)=u:=by rw[qF (by omega) (by omega)];omega
   obtain⟨f1,f2,f3,f4⟩:=zPi (by omega) hh
   obtain⟨k,hk⟩:∃k,P - h=k:=⟨_,rfl⟩
   have wk:IntKind.i64.wrap ((P:Int) - h)=k:=by rw[qF (by omega) (by omega)];omega
   have hkz:k<z:=by omega
   obtain⟨x,hx⟩:=zAs (l:=l) (i:=h) (by omega)
   obtain⟨y,hy⟩:=zAs (l:=l) (i:=k) (by omega)
   have mx:=zBw hx
   have my:=zBw hy
   have rx:h*3+3<=(qN l).length:=zBx (by omega)
   have ry:k*3+3<=(qN l).length:=zBx (by omega)
   have b1:h<z:=by omega
   have b2:(h:Int)<z:=by omega
   have b4:(k:Int)<z:=by omega
   by_cases hc:y.key<x.key
   ·have hc2:¬x.key<=y.key:=by omega
    simp -implicitDefEqProofs [zHp,qE,p67,xJ,zJt,t0,t1,t2,t3,t4,t18,t19,t20,t21,t22,hlt',ws,f1,f2,f3,f4,wk,mx,my,rx,ry,b1,b2,hkz,b4,hc,hc2]
    exact⟨h - s,by omega,s,h,by omega,by omega,by omega,by omega,h1,fun v w _ hv hw=> by rw[hx] at hv;rw[hk,hy] at hw;cases hv;cases hw;exact hc,by simp[t0,t1,t2,t3,t4,t18,t19,t20,t22,xJ]⟩
   ·have hc2:x.key<=y.key:=by omega
    have wh:IntKind.i64.wrap ((h:Int)+1)=((h+1:Nat):Int):=by rw[qF (by omega) (by omega)];omega
    have hNk:N - (h+1)=k:=by omega
    simp -implicitDefEqProofs [zHp,qE,p67,xJ,zJt,t0,t1,t2,t3,t4,t18,t19,t20,t21,t22,hlt',ws,f1,f2,f3,f4,wk,mx,my,rx,ry,b1,b2,hkz,b4,hc,hc2,wh]
    exact⟨r - (h+1),by omega,h+1,r,by omega,by omega,by omega,by omega,fun v w _ hv hw=> by rw[Nat.add_sub_cancel,hx] at hv;rw[hNk,hy] at hw;cases hv;cases hw;exact hc2,h2,by simp[t0,t1,t2,t3,t4,t18,t19,t21,t22,xJ]⟩
  ·have hlt':¬(s:Int)<r:=by omega
   have hsr:s=r:=by omega
   subst hsr
   obtain⟨E,hE⟩:∃E,N - s=E:=⟨_,rfl⟩
   have wE:IntKind.i64.wrap ((N:Int) - s)=E:=by rw[qF (by omega) (by omega)];omega
   obtain⟨l1,l2,hl1,hl2,hcs⟩:=symH (s:=s) (e:=E) (mid:=d) hp (by omega) (by omega) (by omega) (by omega) (by omega) (by omega)
    (fun x y ha hb hx hy=> h1 x y (by omega) hx (by rw[hE];exact hy)) (fun x y ha hb hx hy=> h2 x y (by omega) hx (by rw[show P - s=E - 1 by omega];exact hy))
   rw[hT] at hcs
   rw[hz] at hl1 hl2
   have j1:(E:Int)<=z:=by omega
   have j4:E<=z:=by omega
   have j2:(d:Int) - a<=n0:=by omega
   have j3:(b:Int) - d<=n0:=by omega
   rcases hcs with ⟨q1,q2,q3,q4,q5,q6,k1,k2,p1,k3,p2⟩|⟨q1,q2,q3,q4,q5,q6,k1,k2,p1,k3,p2⟩|⟨q1,q2,q3,q4,q5,q6,k1,k2,p1,k3,p2⟩|⟨q1,q2,q3,q4,q5,q6,k1,k2,p1,k3,p2⟩|⟨q1,q2,q3,q4,q5,q6,k1,k2,p1,k3,p2⟩|⟨q1,q2,q3,q4,q5,q6,k1,k2,p1,k3,p2⟩|⟨q1,q2,q3,q4,q5,q6,k1,k2,p1,k3,p2⟩<;>
    (simp -implicitDefEqProofs [zHp,zVr,zHr,zDj,zC2,t0,t1,t2,t3,t4,t18,t19,t20,t21,t22,wE,q1,q2,q3,q4,q5,q6,hz,hl,hl1,hl2,j1,j2,j3,j4,k1,k2,k3,p1,p2]
     refine zA [] [0] ?_ ?_ ?_<;> simp[k1,k2,k3])
theorem zW2:∀n,zY Tryz.prog cfg 229 (zHr n)
 |0=> by
  intro args H p r H' h hp
  unfold zHr at h
  split at h
  case h_2=> cases h
  simp only[Option.map_eq_some_iff] at h
  obtain⟨l,hl,h⟩:=h
  rename_i k z c a m b v
  cases h
  obtain⟨rfl,rfl,h1,h2,h3,h4,h5⟩:=hp
  have:=h5.am
  have:=h5.mb
  omega
 |n+1=> by
  intro args H p r H' h hp
  unfold zHr at h
  split at h
  case h_2=> cases h
  simp only[Option.map_eq_some_iff] at h
  obtain⟨l,hl,h⟩:=h
  rename_i k z c a m b v
  cases h
  obtain⟨rfl,rfl,h1,h2,h3,h4,h5⟩:=hp
  have g1:=h5.am
  have g2:=h5.mb
  obtain⟨a,rfl⟩:=Int.eq_ofNat_of_zero_le h2
  obtain⟨m,rfl⟩:=Int.eq_ofNat_of_zero_le h3
  obtain⟨b,rfl⟩:=Int.eq_ofNat_of_zero_le (show 0<=b by omega)
  have hl2:=zF9 hl
  simp only[Int.toNat_natCast] at h5 g1 g2⊢
  have ih:=zW2 n
  have hr:zD Tryz.prog cfg 229 [.slice (some ⟨0,0,none⟩) l.2.length c,.int .i64 a,.int .i64 m,.int .i64 b,xJ] (AH.of [some (.arr l.1 (qN l.2))])
    fun r H'=> r=.ret (.tuple #[])/\H'=AH.of [some (.arr l.1 (qN (on l.2 a b zAy)))]:=by
   by_cases e1:m=a+1
   ·subst e1;exact qKm ih l.1 l.2 c a b h1 h5
   ·by_cases e2:b=m+1
    ·subst e2;exact qGm ih l.1 l.2 c a m h1 h5 e1
    ·exact qQ8 ih l.1 l.2 c a m b h1 h5 e1 e2 (by omega)
  exact hr.atK (jD rfl) [k] (by simp) (by simp) (by simp[hl2]) (by simp[xJ]) (by simp) (by simp)
end YtapbabkndhaemaaGreat
end Go.Proofs
/-
 SORTED BY KEY:blocks,then merges.
-/
namespace Go.Proofs
namespace YtapbabkndhaemaaGreat
open Go.Abs
def bF (bs:Nat) (l:List Fate):List Fate:=bk fk fn bs l
theorem zSp {bs:Nat} (hb:0<bs) (l:List Fate):(bF bs l).length=l.length:=zLh fk fn hb l
theorem qVu {l:List Fate} (hn:Nm fn l) {A k bs:Nat} (hb:0<bs) (hA:A<=l.length):Nm fn (((bF bs (l.take A)++l.drop A).drop A).take k):=by
 rw[zFa (by rw[zSp hb,List.length_take];omega)]
 exact hn.sub fn ((List.take_sublist _ _).trans (List.drop_sublist _ _))
def zMi:List (FuncId × qH GD):=[(228,zRr),(229,zHr 200000)]
theorem zMh:∀x∈zMi,zY Tryz.prog cfg x.1 x.2:=by simp[zMi,qKu,zW2 200000]
def sbI (e:TypeId) (l:List Fate) (c z q:Nat) (tm:Nat->Value) (H:AH GD):Prop:=∃i A:Nat,20*i=A/\q+i=z/\A<=z/\tm 0=.slice (some ⟨0,0,none⟩) z c/\tm 1=.int .i64 z/\tm 2=xJ/\tm 6=.int .i64 20/\tm 7=.int .i64 A/\tm 8=.int .i64 ((A+20:Nat):Int)/\H=AH.of [some (.arr e (qN (bF 20 (l.take A)++l.drop A)))]
def sbJ (e:TypeId) (l:List Fate) (c z q:Nat) (tm:Nat->Value) (H:AH GD):Prop:=∃bs:Nat,z<=q+bs/\0<bs/\bs<=2*z+20/\tm 0=.slice (some ⟨0,0,none⟩) z c/\tm 1=.int .i64 z/\tm 2=xJ/\tm 6=.int .i64 bs/\H=AH.of [some (.arr e (qN (bF bs l)))]
def sbK (e:TypeId) (l:List Fate) (c z bs q:Nat) (tm:Nat->Value) (H:AH GD):Prop:=∃i A:Nat,2*bs*i=A/\q+i=z/\A<=z/\tm 0=.slice (some ⟨0,0,none⟩) z c/\tm 1=.int .i64 z/\tm 2=xJ/\tm 6=.int .i64 bs/\tm 7=.int .i64 A/\tm 8=.int .i64 ((A+2*bs:Nat):Int)/\H=AH.of [some (.arr e (qN (bF (2*bs) (l.take A)++bF bs (l.drop A))))]
theorem qX1 {l:List Fate} {i A:Nat} (e:20*i=A) (h:A+20<=l.length):on (bF 20 (l.take A)++l.drop A) A (A+20) zAy=bF 20 (l.take (A+20))++l.drop (A+20):=by
 subst e;exact qXy fk fn (by omega) h
theorem qU8 {l:List Fate} {i A:Nat} (e:20*i=A) (h:A<=l.length) (h2:l.length<A+20):on (bF 20 (l.take A)++l.drop A) A l.length zAy=bF 20 l:=by
 subst e;exact qU5 fk fn (by omega) h h2
theorem qOs {l:List Fate} {bs i A:Nat} (e:2*bs*i=A) (hb:0<bs) (hn:Nm fn l) (h:A+2*bs<=l.length):SymPre fk fn (bF (2*bs) (l.take A)++bF bs (l.drop A)) A (A+bs) (A+2*bs)/\
  on (bF (2*bs) (l.take A)++bF bs (l.drop A)) A (A+2*bs) zAy=bF (2*bs) (l.take (A+2*bs))++bF bs (l.drop (A+2*bs)):=by
 subst e;exact qOm fk fn hb hn h
theorem qOr {l:List Fate} {bs i A:Nat} (e:2*bs*i=A) (hb:0<bs) (hn:Nm fn l) (h:A+bs<l.length) (h2:l.length<A+2*bs):SymPre fk fn (bF (2*bs) (l.take A)++bF bs (l.drop A)) A (A+bs) l.length/\
  on (bF (2*bs) (l.take A)++bF bs (l.drop A)) A l.length zAy=bF (2*bs) l:=by
 subst e;exact zVl fk fn hb hn h h2
theorem qOq {l:List Fate} {bs i A:Nat} (e:2*bs*i=A) (hb:0<bs) (h:l.length<=A+bs) (h2:A<=l.length):bF (2*bs) (l.take A)++bF bs (l.drop A)=bF (2*bs) l:=by
 subst e;exact zVk fk fn hb h h2
theorem qOp {l:List Fate} {bs:Nat} (h:l.length<=bs):bF bs l=zAy l:=zGy fk fn h
theorem qSw (e:TypeId) (l:List Fate) (c:Nat) (hl:l.length<=90000) (hn:Nm fn l):
  zD Tryz.prog cfg 184 [.slice (some ⟨0,0,none⟩) l.length c,.int .i64 l.length,xJ] (AH.of [some (.arr e (qN l))])
  fun r H'=> r=.ret (.tuple #[])/\H'=AH.of [some (.arr e (qN (zAy l)))]:=by
 refine zD.ends ?_
 obtain⟨z,hz⟩:∃z,l.length=z:=⟨_,rfl⟩
 rw[hz] at hl⊢
 refine zP (tbl:=zMi) zMh 200002 0 (af:=a184) rfl ?_
 rw[a184,b184,zW]
 refine⟨by simp,?_⟩
 simp -implicitDefEqProofs [xJ]
 refine jH (qR jG (qS zMh) _ _ noY qM) (sbI e l c z) (m:=z) ⟨0,0,rfl,by omega,by omega,by simp,by simp,by simp[xJ],by simp,by simp,by simp,by simp[bF,bk,blk,srt]⟩ (by omega) ?_
 rintro q tm H ⟨i,A,hA,hq,hAz,t0,t1,t2,t6,t7,t8,rfl⟩
 have hseg:∀k,Nm fn (((bF 20 (l.take A)++l.drop A).drop A).take k):=fun k=> qVu hn (by omega) (by omega)
 have hDl:(bF 20 (l.take A)++l.drop A).length=z:=by rw[List.length_append,zSp (by omega),List.length_take,List.length_drop];omega
 obtain⟨B,hB⟩:∃B,A+20=B:=⟨_,rfl⟩
 rw[hB] at t8
 have v1:(A:Int)<=B:=by omega
 by_cases hb:B<=z
 ·have hb':(B:Int)<=z:=by omega
  have hins:=qX1 hA (show A+20<=l.length by omega)
  rw[hB] at hins
  have wB:IntKind.i64.wrap ((B:Int)+20)=((B+20:Nat):Int):=by rw[qF (by omega) (by omega)];omega
  generalize bF 20 (l.take A)++l.drop A=D at*
  have hsg:=hseg (B - A)
  have hz1:z<=100000:=by omega
  simp -implicitDefEqProofs [zMi,zRr,zDj,zC2,t0,t1,t2,t6,t7,t8,hb,hb',hDl,hz1,v1,hsg,hins,wB]
  exact⟨q - 1,by omega,i+1,B,by omega,by omega,by omega,by simp[t0,t1,t2,t6]⟩
 ·have hb':¬(B:Int)<=z:=by omega
  have hins:=qU8 hA (show A<=l.length by omega) (show l.length<A+20 by omega)
  rw[hz] at hins
  generalize bF 20 (l.take A)++l.drop A=D at*
  have hsg:=hseg (z - A)
  have hz1:z<=100000:=by omega
  have v2:(A:Int)<=z:=by omega
  simp -implicitDefEqProofs [zMi,zRr,zDj,zC2,t0,t1,t2,t6,t7,t8,hb',hDl,hz1,v2,hsg,hins]
  refine jH (qR jG (qS zMh) _ _ noY qM) (sbJ e l c z) (m:=z) ⟨20,by omega,by omega,by omega,by simp[t0],by simp[t1],by simp[t2],by simp[t6],rfl⟩ (by omega) ?_
  clear hseg hDl hsg hins hb' hb v1 v2 t0 t1 t2 t6 t7 t8 hB hA hAz hq
  rintro q tm H ⟨bs,hq,hb0,hbz,t0,t1,t2,t6,rfl⟩
  by_cases hlt:bs<z
  ·have hlt':(bs:Int)<z:=by omega
   obtain⟨b2,hb2⟩:∃b2,2*bs=b2:=⟨_,rfl⟩
   have wb:IntKind.i64.wrap (2*(bs:Int))=b2:=by rw[qF (by omega) (by omega)];omega
   have wb':IntKind.i64.wrap ((bs:Int)*2)=b2:=by rw[qF (by omega) (by omega)];omega
   simp -implicitDefEqProofs [xJ,t0,t1,t2,t6,hlt',wb]
   refine jH (qR jG (qS zMh) _ _ noY qM) (sbK e l c z bs) (m:=z) ⟨0,0,by omega,by omega,by omega,by simp[t0],by simp[t1],by simp[t2],by simp[t6],by simp,by simp[hb2],?_⟩ (by omega) ?_
   ·rw[List.take_zero,List.drop_zero,show bF (2*bs) []=[] by simp[bF,bk,blk,srt]];rfl
   rintro q2 tm H ⟨i,A,hA,hq2,hAz,t0,t1,t2,t6,t7,t8,rfl⟩
   have hDl:(bF (2*bs) (l.take A)++bF bs (l.drop A)).length=z:=by rw[List.length_append,zSp (by omega),zSp (by omega),List.length_take,List.length_drop];omega
   obtain⟨B,hB⟩:∃B,A+2*bs=B:=⟨_,rfl⟩
   obtain⟨M,hM⟩:∃M,A+bs=M:=⟨_,rfl⟩
   rw[hB] at t8
   have wM:IntKind.i64.wrap ((A:Int)+bs)=M:=by rw[qF (by omega) (by omega)];omega
   by_cases hb:B<=z
   ·have hb':(B:Int)<=z:=by omega
    obtain⟨hpre,hmer⟩:=qOs hA hb0 hn (show A+2*bs<=l.length by omega)
    rw[hB,hM] at hpre
    rw[hB] at hmer
    have hnx:2*bs*(i+1)=B:=by rw[Nat.mul_succ,hA,hB]
    have wB:IntKind.i64.wrap ((B:Int)+b2)=((B+b2:Nat):Int):=by rw[qF (by omega) (by omega)];omega
    have hi1:i+1<=z:=by
     have:1*(i+1)<=2*bs*(i+1):=Nat.mul_le_mul_right _ (by omega)
     omega
    generalize bF (2*bs) (l.take A)++bF bs (l.drop A)=D at*
    have hz1:z<=100000:=by omega
    have hba:(B:Int) - A<=200000:=by omega
    simp -implicitDefEqProofs [zMi,zHr,zDj,zC2,t0,t1,t2,t6,t7,t8,hb',hDl,hz1,wM,wb,hba,hpre,hmer,wB]
    exact⟨q2 - 1,by omega,i+1,B,hnx,by omega,by omega,by simp[t0,t1,t2,t6,hb2]⟩
   ·have hb':¬(B:Int)<=z:=by omega
    by_cases hmz:M<z
    ·have hmz':(M:Int)<z:=by omega
     obtain⟨hpre,hmer⟩:=qOr hA hb0 hn (show A+bs<l.length by omega) (show l.length<A+2*bs by omega)
     rw[hM,hz] at hpre
     rw[hz,hb2] at hmer
     rw[hb2] at hpre hDl⊢
     generalize bF b2 (l.take A)++bF bs (l.drop A)=D at*
     have hz1:z<=100000:=by omega
     have hba:(z:Int) - A<=200000:=by omega
     simp -implicitDefEqProofs [zMi,zHr,zDj,zC2,t0,t1,t2,t6,t7,t8,hb',hmz',hDl,hz1,wM,wb',hba,hpre,hmer]
     exact⟨q - 1,by omega,b2,by omega,by omega,by omega,by simp[t0,t1,t2]⟩
    ·have hmz':¬(M:Int)<z:=by omega
     have hmer:=qOq hA hb0 (show l.length<=A+bs by omega) (by omega)
     rw[hb2] at hmer⊢
     rw[hmer]
     simp -implicitDefEqProofs [t0,t1,t2,t6,t7,t8,hb',hmz',wM,wb']
     exact⟨q - 1,by omega,b2,by omega,by omega,by omega,by simp[t0,t1,t2]⟩
  ·have hlt':¬(bs:Int)<z:=by omega
   rw[qOp (show l.length<=bs by omega)]
   simp -implicitDefEqProofs [t0,t1,t2,t6,hlt']
   refine zA [] [0] ?_ ?_ ?_<;> simp
def zVp:qH GD:=fun args H=> match args with
 |[.slice (some ⟨k,0,none⟩) z _,.int .i64 n,v]=> (zDj H k).map fun l=> (z=l.2.length/\n=l.2.length/\v=xJ/\l.2.length<=90000/\Nm fn l.2,.ret (.tuple #[]),H.upd k (.arr l.1 (qN (zAy l.2))))
 |_=> none
theorem qKr:zY Tryz.prog cfg 184 zVp:=by
 intro args H p r H' h hp
 unfold zVp at h
 split at h
 case h_2=> cases h
 simp only[Option.map_eq_some_iff] at h
 obtain⟨l,hl,h⟩:=h
 rename_i k z c n v
 cases h
 obtain⟨rfl,rfl,rfl,h1,h2⟩:=hp
 have hl2:=zF9 hl
 exact (qSw l.1 l.2 c h1 h2).atK (jD rfl) [k] (by simp) (by simp) (by simp[hl2]) (by simp[xJ]) (by simp) (by simp)
end YtapbabkndhaemaaGreat
end Go.Proofs
/-
 SORTED BY KEY:what is told one by one is a row again.
-/
namespace Go.Proofs
namespace YtapbabkndhaemaaGreat
open Go.Abs
def clI (e:TypeId) (l:List Fate) (tg z:Nat) (r:Loop) (m:Nat) (tm:Nat->Value) (H:AH GD):Prop:=∃i:Nat,m+i=z/\tm 0=.func (.yield 3) #[] #[]/\tm 5=.slice (some ⟨1,0,none⟩) z tg/\tm 6=.int .i64 z/\tm 7=.int .i64 i/\
 H=AH.of [some (.arr 87 [.slice (some ⟨1,0,none⟩) z tg]),some (.arr e (qN l)),some (.arr 87 [.slice (some ⟨4,0,none⟩) i 1]),some (.loopr r 0 none),some (.arr 100 (qN (l.take i)))]
theorem qTe (e:TypeId) (l:List Fate) (tg:Nat) (hl:l.length<=100000):zD Tryz.prog cfg 122 [.func (.func 124) #[] #[.pointer (some ⟨0,0,none⟩)]] (AH.of [some (.arr 87 [.slice (some ⟨1,0,none⟩) l.length tg]),some (.arr e (qN l))])
  fun r H'=> r=.ret (.slice (some ⟨2,0,none⟩) l.length 1)/\H'=AH.of [some (.arr 87 [.slice (some ⟨1,0,none⟩) l.length tg]),some (.arr e (qN l)),some (.arr 100 (qN l))]:=by
 refine zD.ends ?_
 obtain⟨z,hz⟩:∃z,l.length=z:=⟨_,rfl⟩
 rw[hz] at hl⊢
 refine zP (tbl:=[]) (by simp) 100001 3 (af:=a122) rfl ?_
 rw[a122,b122,zW]
 refine⟨by simp,?_⟩
 simp -implicitDefEqProofs [forms183,a183,b183,forms124,a124,b124]
 intro r
 refine zA3 (qR jG (qS (by simp)) _ _ _ (zLl (qR jG (qS (by simp)) _ _ noY qM))) (clI e l tg z r) (m:=z) ?_ (by omega) ?_
 ·refine qD [.nil 100] [0,1,2,3,4] [some (.arr 87 [.slice (some ⟨1,0,none⟩) z tg]),some (.arr e (qN l)),some (.arr 87 [.slice (some ⟨4,0,none⟩) 0 1]),some (.loopr r 0 none),some (.arr 100 [])] z (by omega) ?_ ?_ ⟨0,?_⟩<;> simp[show qN []=[] from rfl]
  done
 rintro m tm H ⟨i,hm,t0,t5,t6,t7,rfl⟩
 by_cases hi:i<z
 ·obtain⟨x,hx⟩:=zAs (l:=l) (i:=i) (by omega)
  have hi':(i:Int)<z:=by omega
  have hwr:=jV hi (by omega)
  have mx:=zBw hx
  have rx:i*3+3<=(qN l).length:=zBx (by omega)
  have hr3:(i+1)*24<=140737488355328/\i<=9223372036854775806:=by omega
  have htl:(qN (l.take i)).length=i*3:=by rw[zBn,List.length_take];omega
  have htk:(qN (l.take i)).take (i*3)=qN (l.take i):=List.take_of_length_le (by omega)
  have hsuc:qN (l.take (i+1))=qN (l.take i)++[.int .i64 x.n,.int .u64 x.key,.int .u8 x.why]:=by
   rw[List.take_add_one,hx,zOk];rfl
  simp -implicitDefEqProofs [setMany,t0,t5,t6,t7,hi,hi',hwr,mx,rx,hr3,htl,htk]
  refine qD [] [0,1,2,3,8] [some (.arr 87 [.slice (some ⟨1,0,none⟩) z tg]),some (.arr e (qN l)),some (.arr 87 [.slice (some ⟨4,0,none⟩) (i+1) 1]),some (.loopr r 0 none),some (.arr 100 (qN (l.take (i+1))))] (m - 1) (by omega) ?_ ?_ ⟨i+1,by omega,?_⟩<;> simp[t0,t5,t6,hsuc]
 ·have hie:i=z:=by omega
  have hi':¬(i:Int)<z:=by omega
  have ht:l.take i=l:=List.take_of_length_le (by omega)
  rw[ht]
  simp -implicitDefEqProofs [t0,t5,t6,t7,hi']
  refine zA [] [0,1,4] ?_ ?_ ?_<;> simp[hie]
def zVs:qH GD:=fun args H=> match args with
 |[.func (.func f) _ ⟨[.pointer (some ⟨kb,0,none⟩)]⟩]=> match H.get kb with
  |some (.arr t [.slice (some ⟨k,0,none⟩) z _])=> (zDj H k).map fun l=> (f=124/\t=87/\args=[.func (.func 124) #[] #[.pointer (some ⟨kb,0,none⟩)]]/\z=l.2.length/\l.2.length<=100000,.ret (.slice (some ⟨H.next,0,none⟩) z 1),H.add (.arr 100 (qN l.2)))
  |_=> none
 |_=> none
theorem qKv:zY Tryz.prog cfg 122 zVs:=by
 intro args H p r H' h hp
 unfold zVs at h
 split at h
 case h_2=> cases h
 split at h
 case h_2=> cases h
 simp only[Option.map_eq_some_iff] at h
 obtain⟨l,hl,h⟩:=h
 rename_i f x kb o t k z tg hkb
 cases h
 obtain⟨rfl,rfl,ha,rfl,h1⟩:=hp
 have hl2:=zF9 hl
 have hne:kb≠k:=fun e=> by
  subst e
  rw[hkb] at hl2
  have h3:qN l.2=[.slice (some ⟨kb,0,none⟩) l.2.length tg]:=by injection hl2 with h2;injection h2 with _ h3;exact h3.symm
  cases hh:l.2 with
  |nil=> rw[hh] at h3;cases h3
  |cons a b=> rw[hh,zCa] at h3;cases h3
 rw[ha]
 exact (qTe l.1 l.2 tg h1).atK (jD rfl) [kb,k] (by simp[hne]) (by simp) (by simp[hkb,hl2]) (by simp) (by simp) (by simp[qO hkb,qO hl2])
def zRg:List (FuncId × qH GD):=[(122,zVs),(184,zVp)]
theorem qGk:∀x∈zRg,zY Tryz.prog cfg x.1 x.2:=by simp[zRg,qKv,qKr]
theorem qVz (e:TypeId) (l:List Fate) (tg:Nat) (hl:l.length<=90000) (hn:Nm fn l):zD Tryz.prog cfg 65 [.func (.func 124) #[] #[.pointer (some ⟨0,0,none⟩)],xJ] (AH.of [some (.arr 87 [.slice (some ⟨1,0,none⟩) l.length tg]),some (.arr e (qN l))])
  fun r H'=> r=.ret (.slice (some ⟨2,0,none⟩) l.length 1)/\H'=AH.of [some (.arr 87 [.slice (some ⟨1,0,none⟩) l.length tg]),some (.arr e (qN l)),some (.arr 100 (qN (zAy l)))]:=by
 refine zD.ends ?_
 have hl1:l.length<=100000:=by omega
 refine zP (tbl:=zRg) qGk 1 1 (af:=a65) rfl ?_
 rw[a65,b65,zW]
 refine⟨by simp,?_⟩
 simp -implicitDefEqProofs [zRg,zVs,zVp,zDj,zC2,xJ,forms123,a123,b123,hl,hl1,hn]
 refine zA [] [0,1,2] ?_ ?_ ?_<;> simp
end YtapbabkndhaemaaGreat
end Go.Proofs
/-
 TL2:Order:the numbers,zA7 by key,then by number.
-/
namespace Go.Proofs
namespace YtapbabkndhaemaaGreat
open Go.Abs
def zVq:qH GD:=fun args H=> match args with
 |[.func (.func f) _ ⟨[.pointer (some ⟨kb,0,none⟩)]⟩,v]=> match H.get kb with
  |some (.arr t [.slice (some ⟨k,0,none⟩) z _])=> (zDj H k).map fun l=> (f=124/\t=87/\args=[.func (.func 124) #[] #[.pointer (some ⟨kb,0,none⟩)],xJ]/\z=l.2.length/\l.2.length<=90000/\Nm fn l.2,.ret (.slice (some ⟨H.next,0,none⟩) z 1),H.add (.arr 100 (qN (zAy l.2))))
  |_=> none
 |_=> none
theorem qKs:zY Tryz.prog cfg 65 zVq:=by
 intro args H p r H' h hp
 unfold zVq at h
 split at h
 case h_2=> cases h
 split at h
 case h_2=> cases h
 simp only[Option.map_eq_some_iff] at h
 obtain⟨l,hl,h⟩:=h
 rename_i f x kb v o t k z tg hkb
 cases h
 obtain⟨rfl,rfl,ha,rfl,h1,h2⟩:=hp
 have hl2:=zF9 hl
 have hne:kb≠k:=fun e=> by
  subst e
  rw[hkb] at hl2
  have h3:qN l.2=[.slice (some ⟨kb,0,none⟩) l.2.length tg]:=by injection hl2 with h2;injection h2 with _ h3;exact h3.symm
  cases hh:l.2 with
  |nil=> rw[hh] at h3;cases h3
  |cons a b=> rw[hh,zCa] at h3;cases h3
 rw[ha]
 exact (qVz l.1 l.2 tg h1 h2).atK (jD rfl) [kb,k] (by simp[hne]) (by simp) (by simp[hkb,hl2]) (by simp[xJ]) (by simp) (by simp[qO hkb,qO hl2])
def zEh (l:List Fate):List Int:=l.map fun f=> (f.n:Int)
theorem zJr (l:List Fate):(zEh l).length=l.length:=by simp[zEh]
def zVo:List (FuncId × qH GD):=[(65,zVq)]
theorem zWv:∀x∈zVo,zY Tryz.prog cfg x.1 x.2:=by simp[zVo,qKs]
def orI (s:TS) (S:List Fate) (z m:Nat) (tm:Nat->Value) (H:AH GD):Prop:=∃i:Nat,m+i=z/\tm 13=.slice (some ⟨10,0,none⟩) z 1/\tm 14=.int .i64 z/\tm 15=.int .i64 i/\tm 3=.slice (some ⟨11,0,none⟩) i 1/\
 H=AH.of (qK s 0++[none,some (.arr 100 (qN S)),some (.arr 3 (qI (zEh (S.take i))))])
theorem qWg (s:TS) (hl:s.ft.length<=90000) (hn:Nm fn s.ft):zD Tryz.prog cfg 30 [.pointer (some ⟨0,0,none⟩)] (AH.of [some (.hi (.teng s))])
  fun r H'=> r=.ret (.slice (some ⟨1,0,none⟩) s.ft.length 1)/\H'=AH.of [some (.hi (.teng s)),some (.arr 3 (qI (zEh (zAy s.ft))))]:=by
 refine zD.ends ?_
 refine zD.openTEng (th:=0) (by omega) ?_
 have hSl:(zAy s.ft).length=s.ft.length:=zCi fk fn s.ft
 obtain⟨z,hz⟩:∃z,s.ft.length=z:=⟨_,rfl⟩
 have hz9:z<=90000:=by omega
 refine zP (tbl:=zVo) zWv 90001 3 (af:=a30) rfl ?_
 rw[a30,b30,zW]
 refine⟨by simp,?_⟩
 simp -implicitDefEqProofs [qK,qC,tps,u1,u2,u3,zVo,zVq,zDj,zC2,xJ,forms66,a66,b66,hz9,hn,hz]
 obtain⟨S,hS⟩:∃S,zAy s.ft=S:=⟨_,rfl⟩
 rw[hS] at hSl⊢
 rw[hz] at hSl hl
 refine zA3 (qR jG (qS zWv) _ _ noY qM) (orI s S z) (m:=z) ?_ (by omega) ?_
 ·refine zF4 [.nil 3] [0,1,2,3,4,5,6,7,8,9,10,11] (qK s 0++[none,some (.arr 100 (qN S)),some (.arr 3 (qI []))]) [(3,.slice (some ⟨11,0,none⟩) 0 1)] z (by omega) ?_ ?_ ?_ ⟨0,?_⟩<;> simp[qK,qC,tps,u1,u2,u3,zCh,zGf,zEh,hz,show qI []=[] from rfl]
  done
 rintro m tm H ⟨i,hm,t13,t14,t15,t3,rfl⟩
 by_cases hi:i<z
 ·obtain⟨x,hx⟩:=zAs (l:=S) (i:=i) (by omega)
  have hi':(i:Int)<z:=by omega
  have hwr:=jV hi (by omega)
  have mx:=zBw hx
  have rx:i*3+3<=(qN S).length:=zBx (by omega)
  have hr3:(i+1)*8<=140737488355328/\i<=9223372036854775806:=by omega
  have hil:i<=(zEh (S.take i)).length:=by rw[zJr,List.length_take];omega
  have htk:(qI (zEh (S.take i))).take i=qI (zEh (S.take i)):=List.take_of_length_le (by rw[zCq,zJr,List.length_take];omega)
  have hsuc:qI (zEh (S.take (i+1)))=qI (zEh (S.take i))++[.int .i64 x.n]:=by
   rw[List.take_add_one,hx];simp[zEh,qI]
  simp -implicitDefEqProofs [qK,qC,tps,u1,u2,u3,setMany,t13,t14,t15,t3,hi,hi',hwr,mx,rx,hr3,hil,htk]
  refine qD [] [0,1,2,3,4,5,6,7,8,9,10,14] (qK s 0++[none,some (.arr 100 (qN S)),some (.arr 3 (qI (zEh (S.take (i+1)))))]) (m - 1) (by omega) ?_ ?_ ⟨i+1,by omega,?_⟩<;> simp[qK,qC,tps,u1,u2,u3,t13,t14,hsuc]
 ·have hie:i=z:=by omega
  have hi':¬(i:Int)<z:=by omega
  have ht:S.take i=S:=List.take_of_length_le (by omega)
  rw[ht]
  simp -implicitDefEqProofs [qK,qC,tps,u1,u2,u3,t13,t14,t15,t3,hi']
  refine zA [.pack (GD.teng s) 0 [1,2,3,4,5,6,7,8]] [0,11] ?_ ?_ ?_<;> simp[qG,hie,hz]
def zW5:qH GD:=fun args H=> match args with
 |[.pointer (some ⟨k,0,none⟩)]=> match H.get k with
  |some (.hi (.teng s))=> some (s.ft.length<=90000/\Nm fn s.ft,.ret (.slice (some ⟨H.next,0,none⟩) s.ft.length 1),H.add (.arr 3 (qI (zEh (zAy s.ft)))))
  |_=> none
 |_=> none
theorem qRm:zY Tryz.prog cfg 30 zW5:=by
 intro args H p r H' h hp
 unfold zW5 at h
 split at h
 case h_2=> cases h
 split at h
 case h_2=> cases h
 rename_i k x s hk
 cases h
 exact (qWg s hp.1 hp.2).atK (jD rfl) [k] (by simp) (by simp) (by simp[hk]) (by simp) (by simp) (by simp[qO hk])
end YtapbabkndhaemaaGreat
end Go.Proofs
/-
 TL2:what the engine tells is what the document asks of an order.
-/
namespace Go.Proofs
namespace YtapbabkndhaemaaGreat
open Go.Abs
def EvW (x:Ev):Prop:=(0<=x.v/\x.v<18446744073709551616)/\(x.k=2->0<=x.t/\x.t<12)
def EvV (s:TS):Prop:=∀x∈s.ev,EvW x
theorem EvV.add {s s':TS} (h:EvV s) {x:Ev} (hx:EvW x) (he:s'.ev=s.ev++[x]):EvV s':=by
 intro y hy
 rw[he,List.mem_append,List.mem_singleton] at hy
 rcases hy with hy|rfl
 ·exact h y hy
 ·exact hx
theorem EvV.same {s s':TS} (h:EvV s) (he:s'.ev=s.ev):EvV s':=by
 intro y hy;rw[he] at hy;exact h y hy
theorem zGc (k a t:Int) (h:k≠2):EvW ⟨k,a,t,0⟩:=⟨⟨by simp,by simp⟩,fun e=> absurd e h⟩
theorem EvV.end_ {s:TS} (h:EvV s) (th:Nat) (a:TA) (w:Int):EvV (zBf s th a w):=h.add (zGc 9 a.n 0 (by decide)) rfl
theorem EvV.step {s:TS} (hs:s.Ok) (h:EvV s) {th:Nat} (hth:th<4):EvV (zBd s th).2:=by
 unfold zBd
 split
 ·exact h
 ·rename_i a ha
  have hao:=hs.ts th a ha
  have hask:=hao.ask
  have hhp:=hs.hp.2
  split
  ·exact h
  split
  ·rename_i k0 k1
   have hr:0<=a.ra.t/\a.ra.t<12:=by have:=hask.2.2.1 (.inl k1);omega
   unfold zC8
   split
   ·rename_i v hv
    refine h.add (x:=⟨2,a.n,a.ra.t,v⟩) ⟨?_,fun _=> hr⟩ rfl
    unfold qQ at hv
    obtain⟨f,hf,hg⟩:=List.exists_of_findSome?_eq_some hv
    have hmem:⟨a.ra.t,v⟩∈f:=zYz hg
    have:=hao.fst f hf _ hmem
    exact this.2.2
   ·repeat' split
    all_goals first
     |exact h
     |exact h.end_ th a _
     |exact h.same rfl
     |exact h.add (x:=⟨2,a.n,a.ra.t,a.sv⟩) ⟨hao.sv,fun _=> hr⟩ rfl
  split
  ·unfold zC9 zGg zGj
   repeat' split
   all_goals first
    |exact h
    |exact h.end_ th a _
    |exact h.same rfl
    |exact h.add (zGc 7 a.n 0 (by decide)) rfl
    |exact h.add (zGc 8 a.n 0 (by decide)) rfl
    |exact (EvV.add (s:=s) (s':={ s with ev:=s.ev++[⟨7,a.n,0,0⟩] }) h (zGc 7 a.n 0 (by decide)) rfl).add (zGc 8 a.n 0 (by decide)) rfl
  split
  ·exact h.end_ th a _
  ·unfold zDu
   repeat' split
   all_goals first
    |exact h
    |exact h.end_ th a _
    |exact h.add (zGc 4 a.n 0 (by decide)) rfl
    |exact h.add (zGc 5 a.n 0 (by decide)) rfl
    |exact h.add (zGc 6 a.n 0 (by decide)) rfl
    |exact h.add (x:=⟨3,a.n,a.ra.t,a.ra.v⟩) ⟨hask.2.2.2,fun e=> by cases e⟩ rfl
theorem EvV.deed {s:TS} (hs:s.Ok) (h:EvV s) (d:Dd):EvV (zBh s d):=by
 unfold zBh
 split
 ·unfold zD7
  split
  ·exact h
  ·split
   ·exact h.add (zGc 1 s.ft.length 0 (by decide)) rfl
   ·exact h
 split
 ·exact h.same (zWq s d.t d.a)
 split
 ·unfold zC7
  split
  ·exact h
  ·rename_i th ht
   exact h.step hs (zCt ht).1
 split
 ·unfold zGh
  split
  ·exact h
  ·unfold zFl
   split
   ·exact h
   ·split
    ·exact h
    ·exact h.end_ _ _ _
 ·exact h
theorem zRc (l:List Dd) (hl:∀d∈l,d.Ok):EvV (zCg l):=by
 have key:∀(l:List Dd) (s:TS),(∀d∈l,d.Ok)->s.Ok->EvV s->EvV (l.foldl zBh s):=by
  intro l
  induction l with
  |nil=> intro s _ _ h;exact h
  |cons d l ih=>
   intro s hd hs h1
   exact ih (zBh s d) (fun x hx=> hd x (by simp[hx])) (zWj hs (hd d (by simp))) (h1.deed hs d)
 exact key l _ hl zH9 fun x hx=> by simp[zBv] at hx
theorem EvV.good {s:TS} (h:EvV s):EvG s.ev:=⟨fun x hx=> (h x hx).1,fun x hx=> (h x hx).2⟩
variable {f:List Int} {s:TS}
theorem TOp.nm (h:TOp f s):Nm YtapbabkndhaemaaGreat.fn s.ft:=by
 refine List.pairwise_iff_getElem.2 fun i j hi hj hij=> ?_
 have h1:=h.fn i _ (List.getElem?_eq_getElem hi)
 have h2:=h.fn j _ (List.getElem?_eq_getElem hj)
 unfold YtapbabkndhaemaaGreat.fn
 omega
def zTq (s:TS):List Nat:=(zAy s.ft).map (·.n)
theorem zN7 (s:TS):zIk (zTq s)=zEh (zAy s.ft):=by unfold zIk zTq zEh;rw[List.map_map];rfl
theorem TOp.key (h:TOp f s) {g:Fate} (hg:g∈s.ft):g.n<s.ft.length/\zBe s.ft g.n=g.key:=by
 obtain⟨i,hi⟩:=List.getElem?_of_mem hg
 have:=h.fn i g hi
 rw[this]
 exact⟨(List.getElem?_eq_some_iff.1 hi).1,by unfold zBe;rw[hi]⟩
theorem TOp.ordpw (h:TOp f s):(zTq s).Pairwise (zPu s):=by
 unfold zTq
 rw[List.pairwise_map]
 have hs:=zIb fk YtapbabkndhaemaaGreat.fn h.nm
 refine List.Pairwise.imp_of_mem ?_ hs
 intro a b ha hb hab
 have ha:=(zB6 fk YtapbabkndhaemaaGreat.fn s.ft).mem_iff.1 ha
 have hb:=(zB6 fk YtapbabkndhaemaaGreat.fn s.ft).mem_iff.1 hb
 have k1:=(h.key ha).2
 have k2:=(h.key hb).2
 unfold Lex fk YtapbabkndhaemaaGreat.fn at hab
 unfold zPu
 rw[k1,k2]
 omega
theorem TOp.ordall (h:TOp f s) (n:Nat):n∈zTq s↔n<s.ft.length:=by
 unfold zTq
 rw[List.mem_map]
 constructor
 ·rintro⟨g,hg,rfl⟩
  exact (h.key ((zB6 fk YtapbabkndhaemaaGreat.fn s.ft).mem_iff.1 hg)).1
 ·intro hn
  exact⟨s.ft[n],(zB6 fk YtapbabkndhaemaaGreat.fn s.ft).mem_iff.2 (List.getElem_mem hn),h.fn n _ (List.getElem?_eq_getElem hn)⟩
theorem TOp.dec (h:TOp f s):DecL s (zA7 (zBa s 4)):=by
 intro x
 rw[(zGl _).mem_iff,zQy]
 constructor
 ·rintro⟨th,a,_,h2,h3,h4⟩;exact⟨th,a,h2,h3,h4⟩
 ·rintro⟨th,a,h2,h3,h4⟩
  refine⟨th,a,?_,h2,h3,h4⟩
  by_cases hth:th<4
  ·exact hth
  ·rw[h.ok.th4 th (by omega)] at h2;cases h2
theorem zSj (h:TOp f s):∀i,(zBa s i).Nodup
 |0=> by simp[zBa]
 |i+1=> by
  rw[zBa,List.nodup_append]
  refine⟨zSj h i,?_,?_⟩
  ·unfold zC1
   split
   ·split<;> simp
   ·simp
  ·intro x hx y hy e
   subst e
   obtain⟨th,a,h1,h2,h3,h4⟩:=zQy.1 hx
   unfold zC1 at hy
   split at hy
   ·rename_i b hb
    split at hy
    ·simp only[List.mem_singleton] at hy
     have:=h.ev.nu th i _ _ (h.lv h2) (h.lv hb) (by simp only;omega)
     omega
    ·cases hy
   ·cases hy
theorem TOp.lgl (h:TOp f s) (hv:EvV s) (hl:s.ev.length<=400) (hf:1<=f.length/\f.length<=12) (hfr:∀v∈f,zAg v=true/\0<=v/\v<18446744073709551616):Lgl s.ev f (zEh (zAy s.ft)) (zA7 (zBa s 4)) where
 a:={
  r:=h.right hl
  ll:=by omega
  ev:=hv.good
  fl:=hf
  fr:=hfr
  cl:=by have:=zTw s 4;rw[(zGl _).length_eq];omega
  cn:=(zGl _).nodup_iff.2 (zSj h 4)
  cs:=by
   intro x hx
   obtain⟨th,a,ha,hd,rfl⟩:=(h.dec x).1 hx
   have hst:=h.ev.st th _ (h.lv ha)
   have hlk:=(h.ok.lk th a ha).2.2.1.1 hd
   simp only at hst
   rw[hst]
   have:a.ph≠0:=by omega
   simp[this] }
 ol:=by rw[zJr,h.ev.ats,List.length_map,List.length_range];exact zCi fk YtapbabkndhaemaaGreat.fn s.ft
 nd:=by
  rw[←zN7]
  unfold zIk
  refine List.nodup_iff_pairwise_ne.2 (List.pairwise_map.2 (h.ordpw.imp ?_))
  intro a b hab e
  unfold zPu at hab
  have:a=b:=by omega
  subst this
  omega
 mem:=by
  intro x hx
  rw[←zN7] at hx
  unfold zIk at hx
  rw[List.mem_map] at hx
  obtain⟨n,hn,rfl⟩:=hx
  rw[h.ev.ats,List.mem_map]
  exact⟨n,List.mem_range.2 ((h.ordall n).1 hn),rfl⟩
theorem TOp.found (h:TOp f s) (hf:f.length=s.hp.length):∃hp,zFo s.ev (zA7 (zBa s 4)) (zEh (zAy s.ft)) f=some hp/\hp.length=f.length/\((∀th:Nat,jZ s.ws th=[])->hp=s.hp):=by
 rw[←zN7]
 exact h.legal hf h.dec h.ordpw h.ordall
end YtapbabkndhaemaaGreat
end Go.Proofs
/-
 TL2:Tl2Opaque,Tl2Heap:the laws' runs.
-/
namespace Go.Proofs
namespace YtapbabkndhaemaaGreat
open Go.Abs
def zMq:qH GD:=fun args H=> match args with
 |[.slice (some ⟨k,0,none⟩) n _,.slice (some ⟨k2,0,none⟩) n2 _,.slice (some ⟨k3,0,none⟩) n3 _,.slice (some ⟨k4,0,none⟩) n4 _]=> match H.get k with
  |some (.arr _ cs)=> (zA6 cs).bind fun l=> (zDa H k2).bind fun f=> (zA1 H k3).bind fun ord=> (zA1 H k4).bind fun cm=> (zFo l cm.2 ord.2 f.2).map fun hp=>
   (n=l.length/\n2=f.2.length/\n3=ord.2.length/\n4=cm.2.length/\(k≠k2/\k≠k3/\k≠k4)/\k2≠k3/\k2≠k4/\k3≠k4/\Lgl l f.2 ord.2 cm.2,.ret (.tuple #[.int .i64 0,.int .i64 0]),H)
  |_=> none
 |_=> none
theorem qAf:zY Tryz.prog cfg 28 zMq:=by
 intro args H p r H' h hp
 unfold zMq at h
 split at h
 case h_2=> cases h
 split at h
 case h_2=> cases h
 simp only[Option.map_eq_some_iff,Option.bind_eq_some_iff] at h
 obtain⟨l,hl,f,hf,ord,ho,cm,hc,hp',hr,h⟩:=h
 rename_i k n c k2 n2 c2 k3 n3 c3 k4 n4 c4 x1 e cs hk
 cases h
 rw[zBu hl] at hk
 obtain⟨rfl,rfl,rfl,rfl,⟨h12,h13,h14⟩,h23,h24,h34,ha⟩:=hp
 have hf2:=zDk hf
 have ho2:=zA8 ho
 have hc2:=zA8 hc
 refine zD.borrow k hk ?_
 have hk2:(H.upd k (.ro (evs l))).get k=some (.ro (evs l)):=by rw[AH.get_upd,if_pos rfl]
 have hf3:(H.upd k (.ro (evs l))).get k2=some (.arr f.1 (us f.2)):=by rw[AH.get_upd,if_neg (Ne.symm h12),hf2]
 have ho3:(H.upd k (.ro (evs l))).get k3=some (.arr ord.1 (qI ord.2)):=by rw[AH.get_upd,if_neg (Ne.symm h13),ho2]
 have hc3:(H.upd k (.ro (evs l))).get k4=some (.arr cm.1 (qI cm.2)):=by rw[AH.get_upd,if_neg (Ne.symm h14),hc2]
 have hr:=(qG0 l f.2 ord.2 cm.2 hp' f.1 ord.1 cm.1 c c2 c3 c4 ha hr).atK (H:=H.upd k (.ro (evs l))) (args:=[.slice (some ⟨k,0,none⟩) l.length c,.slice (some ⟨k2,0,none⟩) f.2.length c2,.slice (some ⟨k3,0,none⟩) ord.2.length c3,.slice (some ⟨k4,0,none⟩) cm.2.length c4]) (r':=.ret (.tuple #[.int .i64 0,.int .i64 0])) (H':=H.upd k (.ro (evs l)))
  (zCj fun i cs hi=> by rcases i with _|_|_|_|i<;> simp at hi⊢;exact hi) [k,k2,k3,k4] (by simp[h12,h13,h14,h23,h24,h34]) (by simp) (by simp[hk2,hf3,ho3,hc3]) (by simp) (by simp) (by simp[qO hk2,qO hf3,qO ho3,qO hc3])
 refine hr.mono ?_
 rintro r H' ⟨e1,rfl⟩
 refine⟨hk2,fun j cs2 hj hcs hne=> ⟨cs2,?_,hne⟩,e1,?_⟩
 ·rw[AH.get_upd,if_neg hj] at hcs;exact hcs
 ·rw[qBh];exact qO hk
def zO7:qH GD:=fun args H=> match args with
 |[.slice (some ⟨k,0,none⟩) n _,.slice (some ⟨k2,0,none⟩) n2 _,.slice (some ⟨k3,0,none⟩) n3 _,.slice (some ⟨k4,0,none⟩) n4 _]=> match H.get k with
  |some (.arr _ cs)=> (zA6 cs).bind fun l=> (zDa H k2).bind fun f=> (zA1 H k3).bind fun ord=> (zA1 H k4).bind fun cm=> (zFo l cm.2 ord.2 f.2).map fun hp=>
   (n=l.length/\n2=f.2.length/\n3=ord.2.length/\n4=cm.2.length/\(k≠k2/\k≠k3/\k≠k4/\k<H.next)/\k2≠k3/\k2≠k4/\k3≠k4/\Lgl l f.2 ord.2 cm.2,.ret (.tuple #[.slice (some ⟨H.next,0,none⟩) n2 1,.int .i64 0]),H.add (.arr 30 (us hp)))
  |_=> none
 |_=> none
theorem qDe:zY Tryz.prog cfg 31 zO7:=by
 intro args H p r H' h hp
 unfold zO7 at h
 split at h
 case h_2=> cases h
 split at h
 case h_2=> cases h
 simp only[Option.map_eq_some_iff,Option.bind_eq_some_iff] at h
 obtain⟨l,hl,f,hf,ord,ho,cm,hc,hp',hr,h⟩:=h
 rename_i k n c k2 n2 c2 k3 n3 c3 k4 n4 c4 x1 e cs hk
 cases h
 rw[zBu hl] at hk
 obtain⟨rfl,rfl,rfl,rfl,⟨h12,h13,h14,hkn⟩,h23,h24,h34,ha⟩:=hp
 have hf2:=zDk hf
 have ho2:=zA8 ho
 have hc2:=zA8 hc
 refine zD.borrow k hk ?_
 have hk2:(H.upd k (.ro (evs l))).get k=some (.ro (evs l)):=by rw[AH.get_upd,if_pos rfl]
 have hf3:(H.upd k (.ro (evs l))).get k2=some (.arr f.1 (us f.2)):=by rw[AH.get_upd,if_neg (Ne.symm h12),hf2]
 have ho3:(H.upd k (.ro (evs l))).get k3=some (.arr ord.1 (qI ord.2)):=by rw[AH.get_upd,if_neg (Ne.symm h13),ho2]
 have hc3:(H.upd k (.ro (evs l))).get k4=some (.arr cm.1 (qI cm.2)):=by rw[AH.get_upd,if_neg (Ne.symm h14),hc2]
 have hr:=(qWf l f.2 ord.2 cm.2 hp' f.1 ord.1 cm.1 c c2 c3 c4 ha hr).atK (H:=H.upd k (.ro (evs l))) (args:=[.slice (some ⟨k,0,none⟩) l.length c,.slice (some ⟨k2,0,none⟩) f.2.length c2,.slice (some ⟨k3,0,none⟩) ord.2.length c3,.slice (some ⟨k4,0,none⟩) cm.2.length c4]) (r':=.ret (.tuple #[.slice (some ⟨H.next,0,none⟩) f.2.length 1,.int .i64 0])) (H':=(H.upd k (.ro (evs l))).add (.arr 30 (us hp')))
  (zCj fun i cs hi=> by rcases i with _|_|_|_|_|i<;> simp at hi⊢;exact hi) [k,k2,k3,k4] (by simp[h12,h13,h14,h23,h24,h34]) (by simp) (by simp[hk2,hf3,ho3,hc3]) (by simp) (by simp) (by simp[qO hk2,qO hf3,qO ho3,qO hc3])
 refine hr.mono ?_
 rintro r H' ⟨e1,rfl⟩
 refine⟨by rw[AH.get_add,AH.next_upd,if_neg (by omega),AH.get_upd,if_pos rfl],fun j cs2 hj hcs hne=> ⟨cs2,?_,hne⟩,e1,?_⟩
 ·rw[AH.get_add,AH.next_upd] at hcs
  split at hcs
  ·cases hcs
  ·rw[AH.get_upd,if_neg hj] at hcs;exact hcs
 ·refine AH.ext' (by simp) fun j=> ?_
  rw[AH.get_upd,AH.get_add,AH.get_add,AH.next_upd,AH.get_upd]
  by_cases h:j=k
  ·subst h;rw[if_pos rfl,if_neg (by omega),hk]
  ·rw[if_neg h,if_neg h]
def zLp:List (FuncId × qH GD):=[(16,zXi),(12,zXk),(11,zMs),(29,zQf),(30,zW5),(24,zW6),(21,zXb),(25,zZ d25),(26,st26),(28,zMq),(31,zO7)]
theorem zQb:∀x∈zLp,zY Tryz.prog cfg x.1 x.2:=by simp[zLp,qRt,qRu,zTb,qBy,qRm,qRq,qRs,qRp,qRo,qAf,qDe]
theorem zY1:∀v∈zC0,zAg v=true/\0<=v/\v<18446744073709551616:=by decide
theorem qGb {f:List Int} {s:TS} (l:List Dd) (hsd:zCg l=s):s.hp.length=5:=by
 have key:∀(l:List Dd) (s:TS),(l.foldl zBh s).hp.length=s.hp.length:=by
  intro l
  induction l with
  |nil=> intro s;rfl
  |cons d l ih=>
   intro s
   rw[List.foldl_cons,ih]
   unfold zBh zD7 zE4 zC7 zGh
   repeat' split
   all_goals first
    |rfl
    |(unfold zAr;split<;> rfl)
    |(unfold zFl;repeat' split
      all_goals rfl)
    |(unfold zBd zC8 zC9 zGg zGj zDu
      repeat' split
      all_goals simp[zBf,zDq,zCl,zBi])
 rw[←hsd]
 exact key l _
theorem runs6 (l:List Dd) (tg:Nat) (hl:∀d∈l,d.Ok):zD Tryz.prog cfg 6 [.slice (some ⟨0,0,none⟩) l.length tg] (AH.of [some (.ro (dds l))])
  fun r H'=> r=.ret (.bool true)/\H'=AH.of [some (.ro (dds l))]:=by
 refine zD.ends ?_
 have hl120:∀d∈l.take 120,d.Ok:=fun d hd=> hl d (List.mem_of_mem_take hd)
 obtain⟨s,hsd⟩:∃s,zCg (l.take 120)=s:=⟨_,rfl⟩
 have hok:=zNp (l.take 120) hl120
 have htop:=zRb (l.take 120) hl120
 have hevv:=zRc (l.take 120) hl120
 rw[hsd] at hok htop hevv
 have hev:s.ev.length<=400:=by
  have:=hok.2;rw[List.length_take] at this;omega
 have hev2:s.ev.length<=1000000:=by omega
 have hft:s.ft.length<=90000:=by have:=hok.1.ft;omega
 have hlgl:=htop.lgl hevv hev (by decide) zY1
 obtain⟨hp,hrun,hpl,hph⟩:=htop.found (by rw[qGb (f:=zC0) _ hsd];rfl)
 have hnm:=htop.nm
 have hol:(zEh (zAy s.ft)).length=s.ft.length:=by rw[zJr];exact zCi fk fn s.ft
 have hcl:(zA7 (zBa s 4)).length=(zBa s 4).length:=(zGl _).length_eq
 refine zP (tbl:=zLp) zQb 0 0 (af:=a6) rfl ?_
 rw[a6,b6,zW]
 refine⟨by simp,?_⟩
 simp -implicitDefEqProofs [zLp,zXi,zXk,zMs,zQf,zW5,zW6,zMq,zDa,zA1,zFs,zCs,zSq,hsd,hev2,hft,hnm,hrun,hol,hcl,hlgl,zKh]
 refine⟨hl,zA [] [0] ?_ ?_ ?_⟩<;> simp
end YtapbabkndhaemaaGreat
end Go.Proofs
/-
 TL2:Tl2Heap:the law's run.
-/
namespace Go.Proofs
namespace YtapbabkndhaemaaGreat
open Go.Abs
def lkB (s:TS):Nat->Bool
 |0=> false
 |i+1=> lkB s i||decide (jZ s.ws (i:Int)≠[])
theorem zUn {s:TS}:∀{i:Nat},lkB s i=false->∀th:Nat,th<i->jZ s.ws (th:Int)=[]
 |0,_,th,h=> by omega
 |i+1,hb,th,h=> by
  simp only[lkB,Bool.or_eq_false_iff,decide_eq_false_iff_not,Classical.not_not] at hb
  by_cases e:th=i
  ·subst e;exact hb.2
  ·exact zUn hb.1 th (by omega)
def hpI (l:List Dd) (s:TS) (H0:AH GD) (m:Nat) (tm:Nat->Value) (H:AH GD):Prop:=∃i:Nat,m+i=4/\tm 3=.pointer (some ⟨1,0,none⟩)/\tm 4=.slice (some ⟨6,0,none⟩) 5 1/\tm 6=.bool (lkB s i)/\tm 7=.int .i64 i/\H=H0
theorem runs7 (l:List Dd) (tg:Nat) (hl:∀d∈l,d.Ok):zD Tryz.prog cfg 7 [.slice (some ⟨0,0,none⟩) l.length tg] (AH.of [some (.ro (dds l))])
  fun r H'=> r=.ret (.bool true)/\H'=AH.of [some (.ro (dds l))]:=by
 refine zD.ends ?_
 have hl120:∀d∈l.take 120,d.Ok:=fun d hd=> hl d (List.mem_of_mem_take hd)
 obtain⟨s,hsd⟩:∃s,zCg (l.take 120)=s:=⟨_,rfl⟩
 have hok:=zNp (l.take 120) hl120
 have htop:=zRb (l.take 120) hl120
 have hevv:=zRc (l.take 120) hl120
 rw[hsd] at hok htop hevv
 have hs:=hok.1
 have hev:s.ev.length<=400:=by
  have:=hok.2;rw[List.length_take] at this;omega
 have hev2:s.ev.length<=1000000:=by omega
 have hft:s.ft.length<=90000:=by have:=hok.1.ft;omega
 have hlgl:=htop.lgl hevv hev (by decide) zY1
 have hp5:s.hp.length=5:=qGb (f:=zC0) _ hsd
 obtain⟨hp,hrun,hpl,hph⟩:=htop.found (by rw[hp5];rfl)
 have hpl5:hp.length=5:=hpl
 have hnm:=htop.nm
 have hol:(zEh (zAy s.ft)).length=s.ft.length:=by rw[zJr];exact zCi fk fn s.ft
 have hcl:(zA7 (zBa s 4)).length=(zBa s 4).length:=(zGl _).length_eq
 refine zP (tbl:=zLp) zQb 5 0 (af:=a7) rfl ?_
 rw[a7,b7,zW]
 refine⟨by simp,?_⟩
 simp -implicitDefEqProofs [zLp,zXi,zXk,zMs,zQf,zW5,zW6,zXb,zO7,zDa,zA1,zFs,zCs,zSq,hsd,hs,hev2,hft,hnm,hrun,hol,hcl,hlgl,zKh,hp5]
 refine⟨hl,?_⟩
 refine jH (qR jG (qS zQb) _ _ noY qM) (hpI l s _) (m:=4) ⟨0,by omega,by simp,by simp,by simp[lkB],by simp,rfl⟩ (by omega) ?_
 rintro m tm H ⟨i,hm,t3,t4,t6,t7,rfl⟩
 by_cases hi:i<4
 ·have hi':(i:Int)<4:=by omega
  have hwr:=jV hi (by omega)
  have hsuc:lkB s (i+1)=(lkB s i||decide (jZ s.ws (i:Int)≠[])):=rfl
  cases hb:lkB s i with
  |true=>
   rw[hb] at t6 hsuc
   simp -implicitDefEqProofs [t3,t4,t6,t7,hi',hwr]
   exact⟨m - 1,by omega,i+1,by omega,by simp[t3,t4,hsuc]⟩
  |false=>
   rw[hb] at t6 hsuc
   simp -implicitDefEqProofs [zLp,zZ,d25,t3,t4,t6,t7,hs,hi',hwr]
   exact⟨m - 1,by omega,i+1,by omega,by simp[t3,t4,hsuc]⟩
 ·have hie:i=4:=by omega
  subst hie
  have hi':¬((4:Nat):Int)<4:=by omega
  cases hb:lkB s 4 with
  |true=>
   rw[hb] at t6
   simp -implicitDefEqProofs [t3,t4,t6,t7]
   refine zA [] [0] ?_ ?_ ?_<;> simp
  |false=>
   rw[hb] at t6
   have he:hp=s.hp:=hph fun th=> by
    by_cases h4:th<4
    ·exact zUn hb th h4
    ·exact hs.no th (hs.th4 th (by omega))
   subst he
   simp -implicitDefEqProofs [zLp,zXb,st26,zDa,zFs,t3,t4,t6,t7,hs,hp5]
   refine zA [] [0] ?_ ?_ ?_<;> simp
end YtapbabkndhaemaaGreat
end Go.Proofs
