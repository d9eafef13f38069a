/-
  One operation, with its guard, calls and panics: from the plain form to the world.
-/
import Derived.Test.YtnemoimbeefngaaGreatPA1
import Derived.TacticsIn
import Derived.RangeFuncLeaves
import Derived.RangeFuncCalls
import Derived.RangeFuncRecord
import Derived.OrdersIn
import Derived.Scope
import Derived.LoopNIn
import Derived.RecoverIn
import Derived.KernelRfl
set_option linter.unusedSimpArgs false
set_option linter.unusedVariables false
set_option linter.unnecessarySimpa false
set_option linter.unusedSectionVars false
set_option maxHeartbeats 32000000
set_option maxRecDepth 100000
namespace Go.Abs
open Go.RowKit
section
variable {D:Type} (P:Program) (cfg:D->HRep)
def zG1 (ρ:Env):AEnd->Ending->Prop
 |.ret v,.returned v'=> VR ρ v v'
 |.pan v,.panicked c=> ∃v',c=[{ v:=v',recovered:=false }]/\VR ρ v v'
 |_,_=> False
def zHh (ρ:Env) (own:Nat->Nat->Prop) (w:World) (K:AEnd->AH D->Prop) (e:Ending) (w':World):Prop:=
 ∃r H' ρ' own',K r H'/\Ext ρ own w ρ' own' w'/\zG1 ρ' r e/\Rel P cfg ρ' own' H' w'
def zP (f:FuncId) (args:List Value) (H:AH D) (K:AEnd->AH D->Prop):Prop:=
 (∀args w,(callFunc f args).run P w=.ok (.enter f args) w)/\
 ∀ρ own w args',Rel P cfg ρ own H w->VRs ρ args args'.toList->Calls P f args' w (zHh P cfg ρ own w K)
def qKs (ρ:Env) (rv:Value) (u:FrameMode):Prop:=
 (rv=.nilIface/\u=.returning)∨∃v',VR ρ rv v'/\(∃t v,rv=.iface t v)/\u=.panicking [{ v:=v',recovered:=false }]
def zPh (ρ0:Env):ATgt->List Value->AH D->(AEnd->AH D->Prop)->Prop
 |.fn f,args,H,K=> (∀args w,(callFunc f args).run P w=.ok (.enter f args) w)/\
  ∀ρ own w args',ρ0.le ρ->Rel P cfg ρ own H w->VRs ρ args args'.toList->Calls P f args' w (zHh P cfg ρ own w K)
 |.yld k,args,H,K=> ∀ρ own w args' l,ρ0.le ρ->Rel P cfg ρ own H w->VRs ρ args args'.toList->ρ.loc k=some l->
  ∃fn tmps assign body,(Instr.yield l.b args').run P w=.ok (.round l.b fn tmps assign body) w/\RoundIn Fence.wide 0 P l.b fn tmps assign body w (zHh P cfg ρ own w K)
 |.dfr f,args,H,K=> ∃rv as,args=rv::as/\(∀args w,(callFunc f args).run P w=.ok (.enter f args) w)/\
  ∀ρ own w args' u,ρ0.le ρ->Rel P cfg ρ own H w->VRs ρ as args'.toList->qKs ρ rv u->
   CallsDIn Fence.wide 0 P f args' u w fun e u' w'=> (∃v,e=.returned v)/\settle u'=.returning/\zHh P cfg ρ own w K (.returned undef) w'
def zHx (ρ0:Env) (C:zAx D):Prop:=∀t args H K,C t args H K->zPh P cfg ρ0 t args H K
theorem zP.toT {P:Program} {cfg:D->HRep} {f:FuncId} {args:List Value} {H:AH D} {K:AEnd->AH D->Prop} (ρ0:Env) (h:zP P cfg f args H K):zPh P cfg ρ0 (.fn f) args H K:=
 ⟨h.1,fun ρ own w args' _ hr hv=> h.2 ρ own w args' hr hv⟩
def zSm (ρ0:Env) (Y:zDu D):Prop:=∀k args H K,Y k args H K->zPh P cfg ρ0 (.yld k) args H K
def zFy (Y:zDu D):Prop:=∀k args H (K K':AEnd->AH D->Prop),(∀r H',K r H'->K' r H')->Y k args H K->Y k args H K'
def zNn:zK2 D:=fun N tm H tm2 H2=> ∀ρ own w,Rel P cfg ρ own H w->∃ρ2 own2,Rel P cfg ρ2 own2 H2 w/\(∀i,i<N->∀x,ρ.loc i=some x->ρ2.loc i=some x)/\(∀b,(∃j,own2 j b)->∃j,own j b)/\∀t v,VR ρ (tm t) v->VR ρ2 (tm2 t) v
def xV (H H2:AH D):Prop:=∀ρ own w,Rel P cfg ρ own H w->∃ρ2 own2,Rel P cfg ρ2 own2 H2 w/\ρ.le ρ2/\∀b,(∃j,own2 j b)->∃j,own j b
def qEr (V:zK2 D):Prop:=∀N tm H tm2 H2,V N tm H tm2 H2->zNn P cfg N tm H tm2 H2
structure SgOk (ρ0:Env) (C:Sg D):Prop where
 call:zHx P cfg ρ0 C.call
 iter:∀ρ1 Y,ρ0.le ρ1->zSm P cfg ρ1 Y->zFy Y->zHx P cfg ρ1 (C.iter Y)
 opn:∀H k H1,C.opn H k=some H1->xV P cfg H H1
 see:∀H H1,C.see H H1->xV P cfg H H1
 view:qEr P cfg C.view
structure ExtOk (ext:FuncId->Option Ext1):Prop where
 run:∀f x,ext f=some x->∀args w,(callFunc f args).run P w=((x.sem args).run P w).andThen fun v w'=> .ok (.value v) w'
theorem zP.mono {P:Program} {cfg:D->HRep} {f:FuncId} {args:List Value} {H:AH D} {K K':AEnd->AH D->Prop} (h:zP P cfg f args H K) (hk:∀r H',K r H'->K' r H'):zP P cfg f args H K':=
 ⟨h.1,fun ρ own w args' hr hv=> (h.2 ρ own w args' hr hv).mono fun _ _ ⟨r,H',ρ',own',h1,h2⟩=> ⟨r,H',ρ',own',hk _ _ h1,h2⟩⟩
variable {P} {cfg}
variable {C:zAx D} {ext:FuncId->Option Ext1} {n:Nat} {ρ ρ0:Env} {ro:Option Nat} {own:Nat->Nat->Prop} {H:AH D} {w:World} {tm:Nat->Value} {a:Act}
abbrev Fw (ro:Option Nat):Fence:={ Fence.wide with round:=ro }
theorem zU3 {f:FuncId} {args:Array Value} {R:Ending->World->Prop} (m:Nat) (h:Calls P f args w R):CallsIn (Fw ro) m P f args w R:=by
 cases ro with
 |none=> exact callsIn_wide.2 h
 |some l=> exact (callsIn_wide.2 h:CallsIn Fence.wide m P f args w R).inRound l
theorem qG8 {l:Nat} {f:FuncId} {tmps:Array Value} {assign body:Code} {R:Ending->World->Prop} (m:Nat) (h:RoundIn Fence.wide 0 P l f tmps assign body w R):RoundIn (Fw ro) m P l f tmps assign body w R:=
 ⟨trivial,fun c cs _=> h.2 c cs (room_wide _)⟩
theorem zM1 {m:Nat}:(Fw ro).depth.isSome=true->1<=m:=fun h=> by cases h
theorem zMb {o:Oper} (hnd:∀c,o.op≠.defer c) {K':Act->World->Prop} {Q:Exit->Act->World->Prop} (h:o.uponIn (Fw ro) 0 P a K' Q ((execOp a.eval o).run P w)):o.wpIn (Fw ro) 0 P a w K' Q:=by
 unfold Oper.wpIn
 rw[Oper.semAt_eq _ _ _ hnd]
 exact⟨fun _ _=> trivial,h⟩
theorem zN8 {o:Oper} (hnd:∀c,o.op≠.defer c) {v:Value} {H':AH D} (h:jC P cfg ρ own w ((execOp a.eval o).run P w) v H') {K':Act->World->Prop} {Q:Exit->Act->World->Prop}
  (hK:∀v' w' ρ' own',Ext ρ own w ρ' own' w'->VR ρ' v v'->Rel P cfg ρ' own' H' w'->K' (a.put o.dst v') w'):o.wpIn (Fw ro) 0 P a w K' Q:=by
 obtain⟨v',w',ρ',own',h1,h2,h3,h4⟩:=h
 refine zMb hnd ?_
 rcases h1 with h1|⟨h1,rfl⟩
 ·rw[h1];exact hK _ _ _ _ h2 h3 h4
 ·rw[h1];exact hK _ _ _ _ h2 h3 h4
theorem zN9 (hC:zHx P cfg ρ0 C) (h0:ρ0.le ρ) (htm:xN ρ n tm a.tmps) (hr:Rel P cfg ρ own H w) {o:Oper} {c:Call} (ho:o.op=.call c) {g:Operand} (hg:c.callee=.value g) {f:Opd} (hf:jF n g=some f) {args:List Opd} (hargs:zGo n c.args.toList=some args)
  {K:Value->AH D->Prop} {E:Value->AH D->Prop} (h:(AK.call f args).wp C tm H K E) {K':Act->World->Prop} {Q:Exit->Act->World->Prop}
  (hK:∀v H' v' w' ρ' own',K v H'->Ext ρ own w ρ' own' w'->VR ρ' v v'->Rel P cfg ρ' own' H' w'->K' (a.put o.dst v') w')
  (hE:∀v H' v' w' ρ' own',E v H'->Ext ρ own w ρ' own' w'->VR ρ' v v'->Rel P cfg ρ' own' H' w'->Q (.panic [{ v:=v',recovered:=false }]) a w'):o.wpIn (Fw ro) 0 P a w K' Q:=by
 have hfv:=jR htm hf
 have hav:=zMu htm hargs
 have hnd:∀c,o.op≠.defer c:=fun c e=> by rw[ho] at e;cases e
 have fin:∀e w',zHh P cfg ρ own w (fun r H'=> match r with|.ret v=> K v H'|.pan v=> E v H') e w'->(match e with
   |.returned v=> K' (a.put o.dst v) w'
   |.panicked chain=> Q (.panic chain) a w'
   |.outgrown=> LetsOut Q):=by
  rintro e w' ⟨r,H',ρ',own',h1,h2,h3,h4⟩
  cases r<;> cases e<;> simp only[zG1] at h3
  ·exact hK _ _ _ _ _ _ h1 h2 h3 h4
  ·obtain⟨v',rfl,hv⟩:=h3
   exact hE _ _ _ _ _ _ h1 h2 hv h4
 simp only[AK.wp] at h
 split at h
 case h_3=> exact h.elim
 case h_2 k _ _ he=>
  rw[he] at hfv
  have hge:∃l,a.eval g=.func (.yield l.b) #[] #[]/\ρ.loc k=some l:=by
   revert hfv
   generalize a.eval g=G
   intro hfv
   cases hfv
   exact⟨_,rfl,‹_›⟩
  obtain⟨l,hge,hl⟩:=hge
  obtain⟨fn,tmps,assign,body,hy,hround⟩:=hC _ _ _ _ h ρ own w (c.args.map a.eval) l h0 hr (by simpa using hav) hl
  have hrun:(execOp a.eval o).run P w=.ok (.round l.b fn tmps assign body) w:=by
   obtain⟨callee,cargs,ts⟩:=c
   simp only at hg
   subst hg
   simp only[execOp,ho,resolve,Sem.run_bind,Sem.run_pure,Result.andThen_ok,hge,Deferred.ofValue,invoke,List.nil_append,Array.empty_append]
   exact hy
  refine zMb hnd ?_
  rw[hrun,Oper.uponIn_round]
  refine⟨zM1,qG8 _ (hround.mono fun e w' hp=> ?_)⟩
  have:=fin e w' hp
  cases e<;> exact this
 rename_i fid x y he
 rw[he] at hfv
 have hge:∃x' y',a.eval g=.func (.func fid) x' y'/\VRs ρ x.toList x'.toList/\VRs ρ y.toList y'.toList:=by
  revert hfv
  generalize a.eval g=G
  intro hfv
  cases hfv
  exact⟨_,_,rfl,‹_›,‹_›⟩
 obtain⟨x',y',hge,hx,hy⟩:=hge
 obtain⟨hin,hcalls⟩:=hC _ _ _ _ h
 have hrun:(execOp a.eval o).run P w=.ok (.enter fid (x'++c.args.map a.eval++y')) w:=by
  obtain⟨callee,cargs,ts⟩:=c
  simp only at hg
  subst hg
  simp only[execOp,ho,resolve,Sem.run_bind,Sem.run_pure,Result.andThen_ok,hge,Deferred.ofValue,invoke]
  exact hin _ w
 refine zMb hnd ?_
 rw[hrun,Oper.uponIn_enter]
 refine⟨zM1,zU3 _ ((hcalls ρ own w _ h0 hr (by simpa using (hx.append hav).append hy)).mono fun e w' hp=> ?_)⟩
 have:=fin e w' hp
 cases e<;> exact this
theorem jC.wp {o:Oper} (hnd:∀c,o.op≠.defer c) {v:Value} {H':AH D} {K:Value->AH D->Prop} (h:jC P cfg ρ own w ((execOp a.eval o).run P w) v H') (hk:K v H') {K':Act->World->Prop} {Q:Exit->Act->World->Prop}
  (hK:∀v H' v' w' ρ' own',K v H'->Ext ρ own w ρ' own' w'->VR ρ' v v'->Rel P cfg ρ' own' H' w'->K' (a.put o.dst v') w'):o.wpIn (Fw ro) 0 P a w K' Q:=
 zN8 hnd h fun v' w' ρ' own' h1 h2 h3=> hK _ _ _ _ _ _ hk h1 h2 h3
theorem zUj (htm:xN ρ n tm a.tmps) (hr:Rel P cfg ρ own H w) {o:Oper} {op:BinOp} {t:TypeId} {x:Operand} {zz:TypeId} (neg:Bool) (ho:o.op=.binOp op t x (.const (.slice none 0 0)) zz) (hop:op=if neg then .neq else .eql) (ht:zSj P t=true) {y:Opd} (hy:jF n x=some y)
  {K:Value->AH D->Prop} {E:Value->AH D->Prop} {C:zAx D} (h:(AK.isnil neg y).wp C tm H K E)
  {K':Act->World->Prop} {Q:Exit->Act->World->Prop}
  (hK:∀v H' v' w' ρ' own',K v H'->Ext ρ own w ρ' own' w'->VR ρ' v v'->Rel P cfg ρ' own' H' w'->K' (a.put o.dst v') w'):o.wpIn (Fw ro) 0 P a w K' Q:=by
 have hv:=jR htm hy
 have hnd:∀c,o.op≠.defer c:=fun c e=> by rw[ho] at e;cases e
 obtain⟨e,hu⟩:∃e,P.underlying t=some (.slice e):=by
  unfold zSj at ht
  split at ht
  ·rename_i e hu;exact⟨e,hu⟩
  ·cases ht
 have run:∀A m c,a.eval x=.slice A m c->((execOp a.eval o).run P w)=.ok (.value (.bool (if neg then A.isSome else A.isNone))) w:=by
  intro A m c hx
  have heq:(Op.equal t (.slice A m c) (.slice none 0 0)).run P w=.ok A.isNone w:=by
   show (Op.equalIn Op.maxDepth t _ _).run P w=_
   rw[show Op.maxDepth=(Op.maxDepth - 1)+1 from rfl,Op.equalIn]
   cases A<;> simp[jG hu]
  simp only[execOp,ho,hop]
  refine xL ?_ ()
  rw[hx]
  show (do eqGuard _ t x (.const (.slice none 0 0)) (.slice A m c) (.slice none 0 0);binOp _ t (.slice A m c) (.slice none 0 0):Sem Value).run P w=_
  cases neg<;> cases A<;> simp[eqGuard,binOp,heq]
 simp only[AK.wp] at h
 split at h
 ·rename_i n1 c1 he
  rw[he] at hv
  have hx:∃c',a.eval x=.slice none 0 c':=by
   revert hv
   generalize a.eval x=X
   intro hv
   cases hv
   exact⟨_,rfl⟩
  obtain⟨c',hx⟩:=hx
  refine (jC.pure hr (run _ _ _ hx) (v:=.bool !neg) ?_).wp hnd h hK
  cases neg<;> exact .bool _
 ·rename_i A n1 c1 he
  rw[he] at hv
  have hx:(∃A' m' c',a.eval x=.slice A' m' c')/\((0<n1∨3<=c1)->∃A' m' c',a.eval x=.slice (some A') m' c'):=by
   revert hv
   generalize a.eval x=X
   intro hv
   cases hv
   ·exact⟨⟨_,_,_,rfl⟩,fun _=> ⟨_,_,_,rfl⟩⟩
   ·exact⟨⟨_,_,_,rfl⟩,fun h=> by omega⟩
  split at h
  ·rename_i hc
   obtain⟨A',m',c',hx⟩:=hx.2 hc
   refine (jC.pure hr (run _ _ _ hx) (v:=.bool neg) ?_).wp hnd h hK
   cases neg<;> exact .bool _
  ·obtain⟨A',m',c',hx⟩:=hx.1
   have hb:∀b:Bool,K (.bool b) H:=fun b=> by cases b;exact h.2;exact h.1
   exact (jC.pure hr (run _ _ _ hx) (.bool _)).wp hnd (hb _) hK
 ·exact h.elim
theorem qHu (htm:xN ρ n tm a.tmps) (hr:Rel P cfg ρ own H w) {o:Oper} {x:Operand} (ho:o.op=.next x false) {y:Opd} (hy:jF n x=some y)
  {K:Value->AH D->Prop} {E:Value->AH D->Prop} {C:zAx D} (h:(AK.mnext y).wp C tm H K E)
  {K':Act->World->Prop} {Q:Exit->Act->World->Prop}
  (hK:∀v H' v' w' ρ' own',K v H'->Ext ρ own w ρ' own' w'->VR ρ' v v'->Rel P cfg ρ' own' H' w'->K' (a.put o.dst v') w'):o.wpIn (Fw ro) 0 P a w K' Q:=by
 have hv:=jR htm hy
 have hnd:∀c,o.op≠.defer c:=fun c e=> by rw[ho] at e;cases e
 simp only[AK.wp] at h
 split at h
 case h_2=> exact h.elim
 rename_i k he
 split at h
 case h_2=> exact h.elim
 rename_i m since seen stepped hg
 split at h
 case h_2=> exact h.elim
 rename_i es c hm
 obtain⟨hold,hsc,hend,hstep⟩:=h
 rw[he] at hv
 obtain⟨l,hl1,hx⟩:=hv.ptr_inv
 obtain⟨l2,lm,g1,g2,g3,g4,g5⟩:=hr.obj k _ hg
 rw[hl1] at g1;cases g1
 obtain⟨_,l3,es',e1,e2,e3,e4⟩:=hr.mapAt hm
 rw[e1] at g4;cases g4
 have hb:=e4.borns
 have hmem:∀x∈es'.toList,∃e∈es,e.born=x.born:=fun x hx=> by
  have:x.born∈es.map (·.born):=by rw[hb];exact List.mem_map.2 ⟨x,hx,rfl⟩
  exact List.mem_map.1 this
 have hold':∀x∈es'.toList,x.born<since:=fun x hx=> by
  obtain⟨e,h1,h2⟩:=hmem x hx
  rw[←h2];exact hold e h1
 rcases run_next_at (P:=P) w o.type l.b lm.b since stepped seen.toArray es' c g5 e3 hold' hsc with ⟨q1,q2⟩|⟨e',q1,w1,q2,q3⟩
 ·have hall:∀e∈es,e.born∈seen:=fun e he2=> by
   have:e.born∈es'.toList.map (·.born):=by rw[←hb];exact List.mem_map.2 ⟨e,he2,rfl⟩
   obtain⟨x,hx1,hx2⟩:=List.mem_map.1 this
   rw[←hx2]
   by_cases hin:x.born∈seen
   ·exact hin
   ·exfalso
    have hmm:x∈leftOf es' seen.toArray:=by
     unfold leftOf
     rw[Array.mem_filter]
     exact⟨by simpa using hx1,by simpa using hin⟩
    have:=Array.size_pos_of_mem hmm
    omega
  refine (jC.pure hr (v':=.tuple #[.bool false]) ?_ (.tuple _ _ (.cons _ _ _ _ (.bool false) .nil))).wp hnd (hend hall) hK
  simp only[execOp,ho]
  refine xL ?_ ()
  rw[hx,g2];exact q2
 ·have hin:e'∈es'.toList/\e'.born∉seen:=by
   unfold leftOf at q1
   simp only[Array.toList_filter,List.mem_filter] at q1
   exact⟨q1.1,by simpa using q1.2⟩
  obtain⟨e,he1,he2,he3,he4⟩:∃e∈es,e.born=e'.born/\VR ρ e.key e'.key/\VR ρ e.val e'.val:=by
   have:∀{a b:List MapEntry},VE ρ a b->∀x∈b,∃e∈a,e.born=x.born/\VR ρ e.key x.key/\VR ρ e.val x.val:=by
    intro a b hve
    induction hve with
    |nil=> intro x hx;cases hx
    |cons k k' v v' n l l' h1 h2 h3 ih=>
     intro x hx
     rcases List.mem_cons.1 hx with rfl|hx
     ·exact⟨_,List.mem_cons_self,rfl,h1,h2⟩
     ·obtain⟨e,f1,f2⟩:=ih x hx
      exact⟨e,List.mem_cons_of_mem _ f1,f2⟩
   exact this e4 e' hin.1
  have hr1:Rel P cfg ρ own H w1:=by
   rcases q2 with rfl|rfl
   ·exact hr
   ·exact hr.drew P cfg rfl
  have hx1:Ext ρ own w ρ own w1:=by
   rcases q2 with rfl|rfl
   ·exact Ext.refl _ _ _
   ·exact⟨ρ.le_refl,fun k b h=> .inl ⟨k,h⟩,Nat.le_refl _,fun _ _ _=> rfl,rfl,rfl,rfl⟩
  have hlt:l.b<w1.heap.size:=hr1.bound k _ ((g3 _).2 rfl)
  have hoth:∀i,i≠l.b->(Go.ChangeMaps.setBlock w1 l.b (.mapIter (some lm.b) since (seen.toArray.push e'.born) c)).heap[i]?=w1.heap[i]?:=fun i hi=> Array.getElem?_setIfInBounds_ne (Ne.symm hi)
  have hs:jC P cfg ρ own w ((execOp a.eval o).run P w) (.tuple #[.bool true,e.key,e.val]) (H.upd k (.miter m since (seen++[e.born]) c)):=by
   refine⟨.tuple #[.bool true,e'.key,e'.val],_,ρ,own,.inl ?_,hx1.trans (Ext.turn (k:=k) (b:=l.b) ((g3 _).2 rfl) (by simp[Go.ChangeMaps.setBlock]) hoth rfl rfl rfl),
    .tuple _ _ (.cons _ _ _ _ (.bool true) (.cons _ _ _ _ he3 (.cons _ _ _ _ he4 .nil))),hr1.turn hg g3 (by simp[Go.ChangeMaps.setBlock]) hoth ⟨l,lm,hl1,g2,g3,e1,by simp[Go.ChangeMaps.setBlock,hlt,he2]⟩ (by intro cs h;cases h)⟩
   simp only[execOp,ho]
   refine xL ?_ ()
   rw[hx,g2];exact q3
  exact hs.wp hnd (hstep e he1 (by rw[he2];exact hin.2)) hK
theorem zY2 {o:Oper} {op:AK} (hc:zM4 P ext n o=some op):∀c,o.op≠.defer c:=fun c e=> by
 have h1:zO9 P n o=none:=by unfold zO9;rw[e]
 have h2:zHt P ext n o=none:=by unfold zHt;rw[e]
 unfold zM4 zU0 at hc
 rw[h1,e] at hc
 simp[h2] at hc
theorem zUa (hC:zHx P cfg ρ0 C) (h0:ρ0.le ρ) (hext:ExtOk P ext) (htm:xN ρ n tm a.tmps) (hr:Rel P cfg ρ own H w) {o:Oper} {op:AK} (hc:zM4 P ext n o=some op) {K:Value->AH D->Prop} {E:Value->AH D->Prop} (h:op.wp C tm H K E)
  {K':Act->World->Prop} {Q:Exit->Act->World->Prop}
  (hK:∀v H' v' w' ρ' own',K v H'->Ext ρ own w ρ' own' w'->VR ρ' v v'->Rel P cfg ρ' own' H' w'->K' (a.put o.dst v') w')
  (hE:∀v H' v' w' ρ' own',E v H'->Ext ρ own w ρ' own' w'->VR ρ' v v'->Rel P cfg ρ' own' H' w'->Q (.panic [{ v:=v',recovered:=false }]) a w'):
  o.wpIn (Fw ro) 0 P a w K' Q:=by
 have hnd:=zY2 hc
 have plain:∀{op:AK},(zHt P ext n o).map .op=some op->op.wp C tm H K E->o.wpIn (Fw ro) 0 P a w K' Q:=by
  intro op hc h
  simp only[Option.map_eq_some_iff] at hc
  obtain⟨op',hc',rfl⟩:=hc
  simp only[AK.wp] at h
  split at h
  ·rename_i v H' hs
   exact zN8 hnd (qLi hext.run htm hr hc' hs) fun v' w' ρ' own' h1 h2 h3=> hK _ _ _ _ _ _ h h1 h2 h3
  ·exact h.elim
 unfold zM4 at hc
 split at hc
 ·rename_i kk hnd
  cases hc
  unfold zO9 at hnd
  split at hnd
  ·rename_i x ho
   simp only[Option.map_eq_some_iff] at hnd
   obtain⟨y,hy,rfl⟩:=hnd
   exact qHu htm hr ho hy h hK
  ·rename_i t x zz ho
   split at hnd
   case isFalse=> cases hnd
   rename_i ht
   simp only[Option.map_eq_some_iff] at hnd
   obtain⟨y,hy,rfl⟩:=hnd
   exact zUj htm hr false ho rfl ht hy h hK
  ·rename_i t x zz ho
   split at hnd
   case isFalse=> cases hnd
   rename_i ht
   simp only[Option.map_eq_some_iff] at hnd
   obtain⟨y,hy,rfl⟩:=hnd
   exact zUj htm hr true ho rfl ht hy h hK
  ·cases hnd
 unfold zU0 at hc
 split at hc
 ·rename_i c ho
  split at hc
  ·rename_i f hf
   split at hc
   ·exact plain hc h
   ·simp only[Option.map_eq_some_iff] at hc
    obtain⟨ys,hys,rfl⟩:=hc
    exact zN9 hC h0 htm hr ho hf rfl hys h hK hE
  ·rename_i f _ hf
   simp only[Option.bind_eq_some_iff,Option.map_eq_some_iff] at hc
   obtain⟨g,hg,ys,hys,rfl⟩:=hc
   exact zN9 hC h0 htm hr ho hf hg hys h hK hE
  ·exact plain hc h
 ·rename_i x ho
  simp only[Option.map_eq_some_iff] at hc
  obtain⟨y,hy,rfl⟩:=hc
  have hv:=jR htm hy
  simp only[AK.wp] at h
  split at h
  case h_2=> exact h.elim
  rename_i t v he
  rw[he] at hv
  have hxe:∃v',a.eval x=.iface t v'/\VR ρ (.iface t v) (.iface t v'):=by
   revert hv
   generalize a.eval x=X
   intro hv
   cases hv
   exact⟨_,rfl,.iface _ _ _ ‹_›⟩
  obtain⟨v',hxe,hvv⟩:=hxe
  refine zMb hnd ?_
  have hrun:(execOp a.eval o).run P w=.halt (.panic (.iface t v')) w:=by
   simp only[execOp,ho,Sem.run_bind,hxe,Instr.panic,run_goPanic,Result.andThen_halt]
  rw[hrun,Oper.uponIn_panic]
  exact hE _ _ _ _ _ _ h (Ext.refl _ _ _) hvv hr
 ·exact plain hc h
theorem zPz {ρ':Env} (htm:xN ρ' n tm a.tmps) (d:Option Nat) {v v':Value} (hv:VR ρ' v v'):xN ρ' n (xK d tm v) (a.put d v').tmps:=by
 cases d with
 |none=> exact htm
 |some d=> exact htm.put hv
theorem zIc (a:Act) (d:Option Nat) (v:Value):(a.put d v).defers=a.defers:=by cases d<;> rfl
theorem zKl (htm:xN ρ n tm a.tmps) {ops:Array Oper} {o:Oper} {i:AIns} (hi:zGf P ext n ops o=some i):
  zM4 P ext n o=some i.op/\i.dst=o.dst/\(∀d,i.dst=some d->d<n)/\
  (i.guard=none->Region.wanted o (yielded ops a.tmps)=true)/\
  (∀t want b,i.guard=some (t,want)->tm t=.bool b->t<n/\(Region.wanted o (yielded ops a.tmps)=decide (b=want)))/\(∀t want,i.guard=some (t,want)->t<n):=by
 simp only[zGf,Option.bind_eq_some_iff] at hi
 obtain⟨op,hop,hi⟩:=hi
 split at hi
 case isFalse=> cases hi
 rename_i hd
 have hd':∀d,o.dst=some d->d<n:=fun d hd2=> by simpa [hd2] using hd
 split at hi
 ·rename_i hg
  cases hi
  refine⟨hop,rfl,hd',fun _=> by simp[Region.wanted,hg],fun _ _ _ h=> ?_,fun _ _ h=> ?_⟩<;> cases h
 ·rename_i j want hg
  split at hi
  case h_2=> cases hi
  rename_i t ht
  split at hi
  case isFalse=> cases hi
  rename_i htn
  cases hi
  refine⟨hop,rfl,hd',(by rintro⟨⟩),fun t' want' b h hb=> ?_,fun t' want' h=> by cases h;exact htn⟩
  simp only[Option.some.injEq,Prod.mk.injEq] at h
  obtain⟨rfl,rfl⟩:=h
  refine⟨htn,?_⟩
  have hv:=htm.2 t htn
  rw[hb] at hv
  have hv:=hv.bool_eq
  have hsz:t<a.tmps.size:=by rw[htm.1];exact htn
  have hx:a.tmps[t]?=some (.bool b):=by
   rw[Array.getElem?_eq_getElem hsz]
   simp[hsz] at hv
   rw[hv]
  simp[Region.wanted,hg,yielded,ht,hx]
  cases b<;> cases want<;> rfl
theorem zV5 (htm:xN ρ n tm a.tmps) {ops:Array Oper} {o:Oper} {i:AIns} (hi:zGf P ext n ops o=some i) {t:Nat} {want:Bool} {x:Array Value} (hg:i.guard=some (t,want)) (hx:tm t=.tuple x):Region.wanted o (yielded ops a.tmps)=false:=by
 have htn:=(zKl htm hi).2.2.2.2.2 t want hg
 simp only[zGf,Option.bind_eq_some_iff] at hi
 obtain⟨op,hop,hi⟩:=hi
 split at hi
 case isFalse=> cases hi
 split at hi
 ·cases hi;cases hg
 ·rename_i j want' hgo
  split at hi
  case h_2=> cases hi
  rename_i t' ht
  split at hi
  case isFalse=> cases hi
  cases hi
  simp only[Option.some.injEq,Prod.mk.injEq] at hg
  obtain⟨rfl,rfl⟩:=hg
  have hv:=htm.2 t' htn
  rw[hx] at hv
  obtain⟨x',hv,_⟩:=hv.tuple_inv
  have hsz:t'<a.tmps.size:=by rw[htm.1];exact htn
  have hx':a.tmps[t']?=some (.tuple x'):=by
   rw[Array.getElem?_eq_getElem hsz]
   simp[hsz] at hv
   rw[hv]
  simp[Region.wanted,hgo,yielded,ht,hx']
theorem zUm (hC:zHx P cfg ρ0 C) (h0:ρ0.le ρ) (hext:ExtOk P ext) (htm:xN ρ n tm a.tmps) (hr:Rel P cfg ρ own H w) {ops:Array Oper} {o:Oper} {i:AIns} (hi:zGf P ext n ops o=some i) {K:(Nat->Value)->AH D->Prop} {E:Value->AH D->Prop} (h:i.wp C tm H K E)
  {K':Act->World->Prop} {Q:Exit->Act->World->Prop}
  (hK:∀v H' v' w' ρ' own',K (xK i.dst tm v) H'->Ext ρ own w ρ' own' w'->VR ρ' v v'->Rel P cfg ρ' own' H' w'->K' (a.put o.dst v') w')
  (hE:∀v H' v' w' ρ' own',E v H'->Ext ρ own w ρ' own' w'->VR ρ' v v'->Rel P cfg ρ' own' H' w'->Q (.panic [{ v:=v',recovered:=false }]) a w'):
  if Region.wanted o (yielded ops a.tmps) then o.wpIn (Fw ro) 0 P a w K' Q else (∀f,o.about P w a.eval=some f->(Fw ro).fn f)/\K' (a.put o.dst undef) w:=by
 obtain⟨h1,h2,h3,h4,h5,_⟩:=zKl htm hi
 unfold AIns.wp at h
 split at h
 ·rename_i hg
  rw[if_pos (h4 hg)]
  exact zUa hC h0 hext htm hr h1 h hK hE
 ·rename_i t want hg
  split at h
  case h_3=> exact h.elim
  case h_2=>
   rename_i x hx
   rw[zV5 htm hi hg hx,if_neg (by simp)]
   exact⟨fun _ _=> trivial,hK _ _ _ _ _ _ h (Ext.refl _ _ _) (VR.undef ρ) hr⟩
  rename_i b hb
  obtain⟨_,hw⟩:=h5 t want b hg hb
  rw[hw]
  split at h
  ·rename_i hbw
   rw[if_pos (by simpa using hbw)]
   exact zUa hC h0 hext htm hr h1 h hK hE
  ·rename_i hbw
   rw[if_neg (by simpa using hbw)]
   exact⟨fun _ _=> trivial,hK _ _ _ _ _ _ h (Ext.refl _ _ _) (VR.undef ρ) hr⟩
theorem xV.refl (H:AH D):xV P cfg H H:=fun ρ own _ h=> ⟨ρ,own,h,ρ.le_refl,fun _ h=> h⟩
theorem zP2 {C:Sg D} (hC:SgOk P cfg ρ0 C) (H:AH D) (k:Option Nat):xV P cfg H (zH1 C.opn H k):=by
 unfold zH1
 split
 ·rename_i k
  cases hk:C.opn H k with
  |none=> exact xV.refl H
  |some H1=> exact hC.opn H k H1 hk
 ·exact xV.refl H
theorem xV.trans {H H2 H3:AH D} (h:xV P cfg H H2) (k:xV P cfg H2 H3):xV P cfg H H3:=fun ρ own w hr=> by
 obtain⟨ρ2,own2,a1,a2,a3⟩:=h ρ own w hr
 obtain⟨ρ3,own3,b1,b2,b3⟩:=k ρ2 own2 w a1
 exact⟨ρ3,own3,b1,Env.le_trans a2 b2,fun b hb=> a3 b (b3 b hb)⟩
theorem zSq {C:Sg D} (hC:SgOk P cfg ρ0 C):∀(t:DT) (tm:Nat->Value) (H:AH D),xV P cfg H (zD2 C.opn t tm H)
 |.nil,tm,H=> xV.refl H
 |.loud ..,tm,H=> xV.refl H
 |.both ..,tm,H=> xV.refl H
 |.bad,tm,H=> xV.refl H
 |.quiet ⟨d,.call ..,g⟩ t,tm,H=> xV.refl H
 |.quiet ⟨d,.panic ..,g⟩ t,tm,H=> xV.refl H
 |.quiet ⟨d,.isnil ..,g⟩ t,tm,H=> xV.refl H
 |.quiet ⟨d,.mnext ..,g⟩ t,tm,H=> xV.refl H
 |.quiet ⟨d,.op o,some g⟩ t,tm,H=> xV.refl H
 |.quiet ⟨d,.op o,none⟩ t,tm,H=> by
  unfold zD2
  split
  ·exact (zP2 hC H _).trans (zSq hC t _ _)
  ·exact zP2 hC H _
theorem xV.toExt {H H1:AH D} {ρ ρ2:Env} {own own2:Nat->Nat->Prop} {w:World} (hle:ρ.le ρ2) (hown:∀b,(∃j,own2 j b)->∃j,own j b):Ext ρ own w ρ2 own2 w:=
 ⟨hle,fun j b hb=> .inl (hown b ⟨j,hb⟩),Nat.le_refl _,fun _ _ _=> rfl,rfl,rfl,rfl⟩
theorem xV.toExt' {ρ:Env} {own own2:Nat->Nat->Prop} {w:World} (hown:∀b,(∃j,own2 j b)->∃j,own j b):Ext ρ own w ρ own2 w:=
 ⟨ρ.le_refl,fun j b hb=> .inl (hown b ⟨j,hb⟩),Nat.le_refl _,fun _ _ _=> rfl,rfl,rfl,rfl⟩
theorem zMy {C:Sg D} (hC:SgOk P cfg ρ0 C) (hext:ExtOk P ext) {ops:Array Oper} {Q:Exit->Act->World->Prop}:∀(l:List Oper) (is:List AIns) (_:zDd P ext n ops l=some is) (ρ:Env) (own:Nat->Nat->Prop) (H:AH D) (w:World) (tm:Nat->Value) (a:Act)
  (_:ρ0.le ρ) (_:xN ρ n tm a.tmps) (_:Rel P cfg ρ own H w) (K:(Nat->Value)->AH D->Prop) (E:Value->(Nat->Value)->AH D->Prop) (_:zBc C is tm H K E)
  (_:∀tm' H' a' w' ρ' own',K tm' H'->Ext ρ own w ρ' own' w'->xN ρ' n tm' a'.tmps->Rel P cfg ρ' own' H' w'->a'.defers=a.defers->Q .normal a' w')
  (_:∀v tm' H' v' a' w' ρ' own',E v tm' H'->Ext ρ own w ρ' own' w'->VR ρ' v v'->xN ρ' n tm' a'.tmps->Rel P cfg ρ' own' H' w'->a'.defers=a.defers->Q (.panic [{ v:=v',recovered:=false }]) a' w'),
  wpListIn (Fw ro) 0 P ops Q l a w
 |[],is,hl,ρ,own,H,w,tm,a,h0,htm,hr,K,E,h,hK,hE=> by
  simp[zDd] at hl;subst hl
  exact hK _ _ _ _ _ _ h (Ext.refl _ _ _) htm hr rfl
 |o::l,is,hl,ρ,own,H,w,tm,a,h0,htm,hr,K,E,h,hK,hE=> by
  simp only[zDd,Option.bind_eq_some_iff,Option.map_eq_some_iff] at hl
  obtain⟨i,hi,is',his,rfl⟩:=hl
  have hdst:=(zKl htm hi).2.1
  refine wpListIn_step fun KK hKK=> ?_
  obtain⟨ρ0,own0,hr0,hle0,hown0⟩:=zP2 hC H (i.key tm) ρ own w hr
  have e0:Ext ρ own w ρ0 own0 w:=xV.toExt (H:=H) (H1:=H) hle0 hown0
  refine zUm hC.call (Env.le_trans h0 hle0) hext (htm.mono hle0) hr0 hi h (fun v H' v' w' ρ' own' hk he hv hr'=> ?_) (fun v H' v' w' ρ' own' hk he hv hr'=> ?_)
  ·refine hKK _ _ (zMy hC hext l is' his ρ' own' H' w' _ _ (Env.le_trans (Env.le_trans h0 hle0) he.le) (by rw[←hdst];exact zPz ((htm.mono hle0).mono he.le) i.dst hv) hr' K E hk (fun tm2 H2 a2 w2 ρ2 own2 k2 e2 t2 r2 d2=> ?_) (fun v2 tm2 H2 v2' a2 w2 ρ2 own2 k2 e2 hv2 t2 r2 d2=> ?_))
   ·exact hK _ _ _ _ _ _ k2 ((e0.trans he).trans e2) t2 r2 (by rw[d2,zIc])
   ·exact hE _ _ _ _ _ _ _ _ k2 ((e0.trans he).trans e2) hv2 t2 r2 (by rw[d2,zIc])
  ·exact hE _ _ _ _ _ _ _ _ hk (e0.trans he) hv ((htm.mono hle0).mono he.le) hr' rfl
end
end Go.Abs
namespace Go.Abs
open Go.RowKit
section
variable {D:Type} {P:Program} {cfg:D->HRep} {C:zAx D} {ext:FuncId->Option Ext1} {n:Nat}
theorem zW7 {α:Type} (c:α->Bool) (on:α->Nat) (g:α->Nat) (i:Nat):∀(xs:List α) (s:Nat),(xs.foldl (fun s e=> if c e then s|||2 ^ on e|||g e else s) s).testBit i=true->
  s.testBit i=true∨∃e∈xs,c e=true/\(on e=i∨(g e).testBit i=true)
 |[],s,h=> .inl h
 |e::xs,s,h=> by
  simp only[List.foldl_cons] at h
  rcases zW7 c on g i xs _ h with h|⟨e',he,h1,h2⟩
  ·split at h
   ·rename_i hc
    simp only[Nat.testBit_or,Bool.or_eq_true,Nat.testBit_two_pow,decide_eq_true_eq] at h
    rcases h with (h|h)|h
    ·exact .inl h
    ·exact .inr ⟨e,by simp,hc,.inl h⟩
    ·exact .inr ⟨e,by simp,hc,.inr h⟩
   ·exact .inl h
  ·exact .inr ⟨e',by simp[he],h1,h2⟩
def zK3 (ops:Array Oper) (L:Nat->Prop) (j:Nat):Prop:=∀o,ops[j]?=some o->∀e∈o.after,Region.binds .any e=true->L e.on
theorem zRx {ops:Array Oper} {L:Nat->Prop} (hL:∀j,L j->zK3 ops L j):∀i j,zK3 ops L j->zEh (Region.before ops) i j=true->L i:=by
 have key:∀(l pre:List Oper) (acc:Array Nat),acc.size=pre.length->ops.toList=pre++l->(∀i j,zK3 ops L j->(acc.getD j 0).testBit i=true->L i)->
   ∀i j,zK3 ops L j->((l.foldl (fun acc o=> acc.push (o.after.foldl (fun s e=> if Region.binds .any e then s|||2 ^ e.on|||acc.getD e.on 0 else s) 0)) acc).getD j 0).testBit i=true->L i:=by
  intro l
  induction l with
  |nil=> intro pre acc _ _ h;exact h
  |cons o l ih=>
   intro pre acc hs ho h
   simp only[List.foldl_cons]
   refine ih (pre++[o]) _ (by simp[hs]) (by simp[ho]) ?_
   intro i j hj hb
   rw[Array.getD_eq_getD_getElem?,Array.getElem?_push] at hb
   split at hb
   ·rename_i hjs
    have hop:ops[j]?=some o:=by
     have:ops.toList[j]?=some o:=by rw[ho,hjs,hs];simp
     simpa using this
    simp only[Option.getD_some] at hb
    rw[←Array.foldl_toList] at hb
    rcases zW7 (fun e=> Region.binds .any e) (fun e=> e.on) (fun e=> acc.getD e.on 0) i _ 0 hb with hb|⟨e,he,h1,h2⟩
    ·simp at hb
    ·have hle:=hj o hop e (by simpa using he) h1
     rcases h2 with h2|h2
     ·rw[←h2];exact hle
     ·exact h i e.on (hL _ hle) h2
   ·exact h i j hj (by rw[Array.getD_eq_getD_getElem?];exact hb)
 intro i j hj hb
 refine key ops.toList [] #[] rfl rfl (fun i j _ h=> by simp at h) i j hj ?_
 unfold zEh Region.before at hb
 rw[←Array.foldl_toList] at hb
 exact hb
theorem zJ6 {op:AOp} {tm tm':Nat->Value} (h:∀x∈op.opds,x.ev tm=x.ev tm') (H:AH D):op.step tm H=op.step tm' H:=by
 have hp:∀ps:List (Nat × Nat × Opd),(∀x∈ps.map (·.2.2),x.ev tm=x.ev tm')->(ps.map fun p=> (p.1,p.2.1,p.2.2.ev tm))=ps.map fun p=> (p.1,p.2.1,p.2.2.ev tm'):=fun ps hp=>
  List.map_congr_left fun p hm=> by rw[hp p.2.2 (List.mem_map.2 ⟨p,hm,rfl⟩)]
 cases op<;> simp only[AOp.opds,List.mem_cons,List.not_mem_nil,or_false,forall_eq_or_imp,forall_eq,List.mem_append,Option.mem_toList,List.forall_mem_cons,List.forall_mem_nil,and_true] at h<;>
  first
   |(simp only[AOp.step];done)
   |(simp only[AOp.step,h];done)
   |(simp only[AOp.step,hp _ h];done)
   |skip
 case mkfunc f a b=>
  have ha:a.map (·.ev tm)=a.map (·.ev tm'):=List.map_congr_left fun x hx=> h x (.inl hx)
  have hb:b.map (·.ev tm)=b.map (·.ev tm'):=List.map_congr_left fun x hx=> h x (.inr hx)
  simp only[AOp.step,ha,hb]
 case slice s x lo hi mx=>
  have hx:=h x (.inl (.inl (.inl rfl)))
  cases lo<;> cases hi<;> cases mx<;> simp_all [AOp.step]
 case sliceS x lo hi=>
  have hx:=h x (.inl (.inl rfl))
  cases lo<;> cases hi<;> simp_all [AOp.step]
 case sliceA _ _ x lo hi=>
  have hx:=h x (.inl (.inl rfl))
  cases lo<;> cases hi<;> simp_all [AOp.step]
theorem zNs {op:AOp} (hp:op.pureB=true) {tm:Nat->Value} {H H1:AH D} {v:Value} (h:op.step tm H=some (v,H1)):H1=H/\∀H2:AH D,op.step tm H2=some (v,H2):=by
 have mp:∀{α:Type} {q:Option α} {f:α->Value} {H H1:AH D} {v:Value},(q.map fun x=> (f x,H))=some (v,H1)->H1=H/\∀H2:AH D,(q.map fun x=> (f x,H2))=some (v,H2):=by
  intro α q f H H1 v h
  cases q with
  |none=> cases h
  |some x=> simp at h;obtain⟨rfl,rfl⟩:=h;exact⟨rfl,fun _=> rfl⟩
 have sm:∀{u:Value} {H H1:AH D} {v:Value},some (u,H)=some (v,H1)->H1=H/\∀H2:AH D,some (u,H2)=some (v,H2):=by
  intro u H H1 v h
  simp at h;obtain⟨rfl,rfl⟩:=h;exact⟨rfl,fun _=> rfl⟩
 cases op<;> simp only[AOp.pureB,Bool.false_eq_true] at hp<;> simp only[AOp.step] at h⊢<;>
  first
   |exact mp h
   |exact sm h
   |(split at h<;> first|exact mp h|exact sm h|(cases h;done)|(split at h<;> first|exact mp h|exact sm h|(cases h;done)|skip))
 all_goals
  (repeat' split at h)<;> first|(cases h;done)|exact mp h|exact sm h|(simp only[Option.some.injEq,Prod.mk.injEq] at h;obtain⟨rfl,rfl⟩:=h;exact⟨rfl,fun _=> by simp_all⟩)|(obtain⟨e1,e2⟩:=mp h;exact⟨e1,fun H2=> by rw[if_pos ‹_›];exact e2 H2⟩)
theorem qCg {op:AOp} (hp:op.readB=true) {tm:Nat->Value} {H H1:AH D} {v:Value} (h:op.step tm H=some (v,H1)):H1=H:=by
 cases op<;> simp only[AOp.readB,Bool.false_eq_true] at hp<;> simp only[AOp.step] at h<;>
  ((repeat' split at h)<;> first|(cases h;done)|(cases h;rfl)|(simp only[Option.map_eq_some_iff,Prod.mk.injEq] at h;obtain⟨_,_,h⟩:=h;first|exact h.2.symm|(split at h<;> (cases h;rfl))))
theorem zOu {op:AK} (hp:op.quietB=true):∃o,op=.op o/\(o.pureB=true∨o.readB=true):=by
 cases op with
 |op o=> exact⟨o,rfl,by simpa [AK.quietB] using hp⟩
 |call _ _=> simp[AK.quietB] at hp
 |panic _=> simp[AK.quietB] at hp
 |isnil _ _=> simp[AK.quietB] at hp
 |mnext _=> simp[AK.quietB] at hp
end
end Go.Abs
namespace Go.Abs
open Go.RowKit
section
variable {D:Type} {P:Program} {cfg:D->HRep} {C:zAx D} {ext:FuncId->Option Ext1} {n:Nat}
theorem zNq {i:AIns} {x:Opd} (hx:x∈i.op.opds) {tm tm':Nat->Value} (h:∀t∈i.reads,tm t=tm' t):x.ev tm=x.ev tm':=by
 cases x with
 |t k=> exact h k (by
    unfold AIns.reads
    exact List.mem_append_left _ (List.mem_flatMap.2 ⟨.t k,hx,by simp[Opd.tmp?]⟩))
 |k v=> rfl
 |f g=> rfl
theorem zNa {i:AIns} {t:Nat} {want:Bool} (hg:i.guard=some (t,want)) {tm tm':Nat->Value} (h:∀t∈i.reads,tm t=tm' t):tm t=tm' t:=by
 exact h t (by unfold AIns.reads;rw[hg];simp)
theorem zNh {i:AIns} {tm tm':Nat->Value} {H:AH D} (h:i.again tm H) (hr:∀t∈i.reads,tm' t=tm t) (hd:∀d,i.dst=some d->tm' d=tm d):i.again tm' H:=by
 unfold AIns.again at h⊢
 split at h
 ·rename_i d op hdst hop
  try rw[hdst,hop]
  try simp only
  have hs:op.step tm' H=op.step tm H:=zJ6 (fun x hx=> zNq (i:=i) (by rw[hop];exact hx) hr) H
  split at h
  ·rename_i hg
   try rw[hg]
   try simp only
   rw[hs,hd d hdst];exact h
  ·rename_i t want hg
   try rw[hg]
   try simp only
   rw[zNa hg hr,hs,hd d hdst]
   exact h
 ·exact h.elim
theorem qAf {i:AIns} {tm:Nat->Value} {H H':AH D} (h:i.again tm H) (hp:∃o,i.op=.op o/\o.pureB=true):i.again tm H':=by
 obtain⟨o,ho,hp⟩:=hp
 unfold AIns.again at h⊢
 split at h
 ·rename_i d op hdst hop
  try rw[hdst,hop]
  rw[ho] at hop
  cases hop
  try simp only
  split at h
  ·rename_i hg
   try rw[hg]
   exact (zNs hp h).2 H'
  ·rename_i t want hg
   try rw[hg]
   try simp only
   split at h
   ·rename_i b hb
    try rw[hb]
    try simp only
    split at h
    ·rename_i hbw;try rw[if_pos hbw]
     exact (zNs hp h).2 H'
    ·rename_i hbw;try rw[if_neg hbw]
     exact h
   ·rename_i x hx
    try rw[hx]
    exact h
   ·exact h.elim
 ·exact h.elim
theorem qHj {i:AIns} (hq:i.op.quietB=true) {d:Nat} (hd:i.dst=some d) (hself:d∉i.reads) {tm:Nat->Value} {H:AH D} {K:(Nat->Value)->AH D->Prop} {E:Value->AH D->Prop} (h:i.wp C tm H K E):
  ∃v,K (upd tm d v) H/\i.again (upd tm d v) H:=by
 obtain⟨op,hop,hpr⟩:=zOu hq
 have hsame:∀{v H1},op.step tm H=some (v,H1)->H1=H:=fun h=> by
  rcases hpr with hp|hp
  ·exact (zNs hp h).1
  ·exact qCg hp h
 have hne:∀(v:Value) (t:Nat),t∈i.reads->upd tm d v t=tm t:=fun v t ht=> by
  unfold upd
  rw[if_neg (by rintro rfl;exact hself ht)]
 have hst:∀v,op.step (upd tm d v) H=op.step tm H:=fun v=> zJ6 (fun x hx=> zNq (i:=i) (by rw[hop];exact hx) (hne v)) H
 unfold AIns.wp at h
 split at h
 ·rename_i hg
  rw[hop] at h
  simp only[AK.wp] at h
  split at h
  ·rename_i v H1 hs
   have:=hsame hs
   subst this
   refine⟨v,by simpa [hd,xK] using h,?_⟩
   unfold AIns.again
   rw[hd,hop,hg]
   simp only
   rw[hst,hs]
   simp[upd]
  ·exact h.elim
 ·rename_i t want hg
  split at h
  case h_3=> exact h.elim
  case h_2=>
   rename_i x hx
   have hgt:∀v,upd tm d v t=.tuple x:=fun v=> by
    rw[hne v t (by unfold AIns.reads;rw[hg];simp)];exact hx
   refine⟨undef,by simpa [hd,xK] using h,?_⟩
   unfold AIns.again
   rw[hd,hop,hg]
   simp only
   rw[hgt]
   simp[upd]
  rename_i b hb
  have hgt:∀v,upd tm d v t=.bool b:=fun v=> by
   rw[hne v t (by unfold AIns.reads;rw[hg];simp)];exact hb
  split at h
  ·rename_i hbw
   rw[hop] at h
   simp only[AK.wp] at h
   split at h
   ·rename_i v H1 hs
    have:=hsame hs
    subst this
    refine⟨v,by simpa [hd,xK] using h,?_⟩
    unfold AIns.again
    rw[hd,hop,hg]
    simp only
    rw[hgt,hst,hs]
    simp[upd,hbw]
   ·exact h.elim
  ·rename_i hbw
   refine⟨undef,by simpa [hd,xK] using h,?_⟩
   unfold AIns.again
   rw[hd,hop,hg]
   simp only
   rw[hgt]
   simp[upd,hbw]
theorem zSp {i:AIns} {tm tm2:Nat->Value} (hr:∀t∈i.reads,tm t=tm2 t) {H:AH D} {K:(Nat->Value)->AH D->Prop} {E:Value->AH D->Prop} (mono:∀f args H (K K':AEnd->AH D->Prop),(∀r H',K r H'->K' r H')->C f args H K->C f args H K') (h:i.wp C tm H K E):
  i.wp C tm2 H (fun tm' H'=> ∃v,tm'=xK i.dst tm2 v/\K (xK i.dst tm v) H') E:=by
 have hk:∀(K1 K2:Value->AH D->Prop),(∀v H',K1 v H'->K2 v H')->i.op.wp C tm H K1 E->i.op.wp C tm2 H K2 E:=by
  intro K1 K2 h12 hw
  have ho:∀x∈i.op.opds,x.ev tm=x.ev tm2:=fun x hx=> zNq hx hr
  unfold AK.wp at hw⊢
  split at hw
  ·rename_i f args hop
   rw[hop] at ho
   try rw[hop]
   simp only[AK.opds,List.mem_cons,forall_eq_or_imp] at ho
   try simp only
   rw[←ho.1]
   have ha:args.map (·.ev tm2)=args.map (·.ev tm):=List.map_congr_left fun x hx=> (ho.2 x hx).symm
   split at hw
   ·rename_i g x y he
    try rw[he]
    try simp only
    rw[ha]
    refine mono _ _ _ _ _ (fun r H' hh=> ?_) hw
    cases r with
    |ret v=> exact h12 _ _ hh
    |pan v=> exact hh
   ·rename_i g x y he
    try rw[he]
    try simp only
    rw[ha]
    refine mono _ _ _ _ _ (fun r H' hh=> ?_) hw
    cases r with
    |ret v=> exact h12 _ _ hh
    |pan v=> exact hh
   ·exact hw.elim
  ·rename_i x hop
   rw[hop] at ho
   try rw[hop]
   simp only[AK.opds,List.mem_cons,List.not_mem_nil,or_false,forall_eq] at ho
   try simp only
   rw[←ho];exact hw
  ·rename_i op hop
   rw[hop] at ho
   try rw[hop]
   try simp only
   rw[←zJ6 ho H]
   split at hw
   ·rename_i v H' hs;try rw[hs]
    exact h12 _ _ hw
   ·exact hw.elim
  ·rename_i neg x hop
   rw[hop] at ho
   try rw[hop]
   simp only[AK.opds,List.mem_cons,List.not_mem_nil,or_false,forall_eq] at ho
   try simp only
   rw[←ho]
   split at hw
   ·exact h12 _ _ hw
   ·split at hw
    ·rename_i hc;simp only[if_pos hc];exact h12 _ _ hw
    ·rename_i hc;simp only[if_neg hc];exact⟨h12 _ _ hw.1,h12 _ _ hw.2⟩
   ·exact hw
  ·rename_i x hop
   rw[hop] at ho
   try rw[hop]
   simp only[AK.opds,List.mem_cons,List.not_mem_nil,or_false,forall_eq] at ho
   try simp only
   rw[←ho]
   split at hw
   case h_2=> exact hw
   split at hw
   case h_2=> exact hw
   rename_i hg
   try simp only[hg]
   split at hw
   case h_2=> exact hw
   rename_i hm
   try simp only[hm]
   exact⟨hw.1,hw.2.1,fun h=> h12 _ _ (hw.2.2.1 h),fun e h1 h2=> h12 _ _ (hw.2.2.2 e h1 h2)⟩
 unfold AIns.wp at h⊢
 split at h
 ·rename_i hg
  try rw[hg]
  exact hk _ _ (fun v H' hh=> ⟨v,rfl,hh⟩) h
 ·rename_i t want hg
  try rw[hg]
  try simp only
  rw[←zNa hg hr]
  split at h
  ·rename_i b hb
   try rw[hb]
   try simp only
   split at h
   ·rename_i hbw;try rw[if_pos hbw]
    exact hk _ _ (fun v H' hh=> ⟨v,rfl,hh⟩) h
   ·rename_i hbw;try rw[if_neg hbw]
    exact⟨undef,rfl,h⟩
  ·rename_i x hx
   try rw[hx]
   exact⟨undef,rfl,h⟩
  ·exact h.elim
theorem qJt {i:AIns} {d:Nat} (hd:i.dst=some d) {tm:Nat->Value} {H:AH D} (h:i.again tm H) {K:(Nat->Value)->AH D->Prop} {E:Value->AH D->Prop} (hK:K (upd tm d (tm d)) H):i.wp C tm H K E:=by
 unfold AIns.again at h
 rw[hd] at h
 split at h
 ·rename_i d' op hdd hop
  cases hdd
  unfold AIns.wp
  rw[hop]
  split at h
  ·rename_i hg
   try rw[hg]
   simp only[AK.wp,h,hd,xK]
   exact hK
  ·rename_i t want hg
   try rw[hg]
   try simp only
   split at h
   ·rename_i b hb
    try rw[hb]
    try simp only
    split at h
    ·rename_i hbw
     try rw[if_pos hbw]
     simp only[AK.wp,h,hd,xK]
     exact hK
    ·rename_i hbw
     try rw[if_neg hbw]
     rw[h] at hK
     simpa [hd,xK] using hK
   ·rename_i x hx
    try rw[hx]
    rw[h] at hK
    simpa [hd,xK] using hK
   ·exact h.elim
 ·exact h.elim
end
end Go.Abs
namespace Go.Abs
open Go.RowKit
section
variable {D:Type} {P:Program} {cfg:D->HRep} {C:zAx D} {ext:FuncId->Option Ext1} {n:Nat}
def zI8 (C:zAx D):Prop:=∀f args H (K K':AEnd->AH D->Prop),(∀r H',K r H'->K' r H')->C f args H K->C f args H K'
def Lst (listed:Array Bool) (j:Nat):Prop:=listed.getD j false=true
structure DFix (P:Program) (ext:FuncId->Option Ext1) (n:Nat) (ops:Array Oper) (ds:List DI):Prop where
 comp:∀x∈ds,∃o,ops[x.ix]?=some o/\zGf P ext n ops o=some x.i
 all:∀i,i<ops.size->∃x∈ds,x.ix=i
 inj:∀x∈ds,∀y∈ds,x.ix=y.ix->x=y
 pair:∀x∈ds,∀y∈ds,x.ix≠y.ix->zSh (Region.before ops) x y=true
 one:∀x∈ds,oneD x=true
 edge:∀i o,ops[i]?=some o->∀e∈o.after,Region.binds .any e=true->e.on<i
structure DInv (P:Program) (cfg:D->HRep) (C:zAx D) (n:Nat) (ops:Array Oper) (ds:List DI) (Kf:(Nat->Value)->AH D->Prop) (Ef:Value->AH D->Prop) (tm0:Nat->Value) (ρ0:Env) (own0:Nat->Nat->Prop) (w0:World) (D0:List Deferred)
  (listed:Array Bool) (a:Act) (w:World) (done rest:List DI) (f:Nat) (tm:Nat->Value) (H:AH D) (ρ:Env) (own:Nat->Nat->Prop):Prop where
 mem:∀x,x∈ds↔x∈done∨x∈rest
 dj:∀x∈done,∀y∈rest,x.ix≠y.ix
 downD:∀y∈done,∀x∈rest,zEh (Region.before ops) x.ix y.ix=false
 size:listed.size=ops.size
 loudL:∀x∈done,x.loud=true->Lst listed x.ix
 restU:∀x∈rest,¬Lst listed x.ix
 again:∀x∈done,¬Lst listed x.ix->x.i.again tm H
 tmr:∀tm',(∀t,(∃x∈done,¬Lst listed x.ix/\x.i.dst=some t)->tm' t=tm0 t)->(∀t,¬(∃x∈done,¬Lst listed x.ix/\x.i.dst=some t)->tm' t=tm t)->xN ρ n tm' a.tmps
 down:∀j,Lst listed j->zK3 ops (Lst listed) j
 rel:Rel P cfg ρ own H w
 ext:Ext ρ0 own0 w0 ρ own w
 wp:(gen (Region.before ops) f done rest).wp C tm H Kf Ef
 fuel:rest.length<=f
 def_:a.defers=D0
 keep:∀x∈rest,∀t,x.loud=false->x.i.dst=some t->tm t=tm0 t
variable {ops:Array Oper} {ds:List DI} {Kf:(Nat->Value)->AH D->Prop} {Ef:Value->AH D->Prop} {tm0:Nat->Value} {ρ0:Env} {own0:Nat->Nat->Prop} {w0:World} {D0:List Deferred} {listed:Array Bool} {a:Act} {w:World}
theorem zFs {b:Array Nat} {x y:DI} (h:zSh b x y=true):
  (∀t,x.i.dst=some t->t∈y.i.reads->zEh b x.ix y.ix=true∨(x.loud=true/\zEh b y.ix x.ix=true))/\
  (∀t,x.i.dst=some t->y.i.dst=some t->x.loud=true/\y.loud=true):=by
 simp only[zSh,Bool.and_eq_true] at h
 obtain⟨h5,h7⟩:=h
 refine⟨fun t ht hm=> ?_,fun t hx hy=> ?_⟩
 ·rw[ht] at h5
  simp only[Bool.or_eq_true,Bool.not_eq_true',List.contains_eq_mem,decide_eq_false_iff_not,Bool.and_eq_true] at h5
  rcases h5 with (h5|h5)|h5
  ·exact absurd hm h5
  ·exact .inl h5
  ·exact .inr h5
 ·rw[hx,hy] at h7
  simpa using h7
theorem zLt {x:DI} (h:oneD x=true) (hq:x.loud=false):x.i.op.quietB=true/\∃t,x.i.dst=some t/\t∉x.i.reads:=by
 simp only[oneD,Bool.or_eq_true,Bool.and_eq_true] at h
 rcases h with h|⟨h1,h2⟩
 ·rw[hq] at h;cases h
 ·split at h2
  ·rename_i t ht
   exact⟨h1,t,ht,by simpa using h2⟩
  ·cases h2
theorem DInv.pr (fx:DFix P ext n ops ds) {done rest:List DI} {f:Nat} {tm:Nat->Value} {H:AH D} {ρ:Env} {own:Nat->Nat->Prop} (h:DInv P cfg C n ops ds Kf Ef tm0 ρ0 own0 w0 D0 listed a w done rest f tm H ρ own) {y x:DI} (hy:y∈done) (hx:x∈rest):
  zEh (Region.before ops) x.ix y.ix=false/\y.ix≠x.ix/\(∀t,y.i.dst=some t->t∈x.i.reads->zEh (Region.before ops) y.ix x.ix=true)/\
  (∀t,x.i.dst=some t->t∈y.i.reads->x.loud=true/\zEh (Region.before ops) y.ix x.ix=true)/\(∀t,y.i.dst=some t->x.i.dst=some t->y.loud=true/\x.loud=true):=by
 have hyd:=(h.mem y).2 (.inl hy)
 have hxd:=(h.mem x).2 (.inr hx)
 have hne:=h.dj y hy x hx
 have hb:=h.downD y hy x hx
 obtain⟨p1,p2⟩:=zFs (fx.pair y hyd x hxd hne)
 obtain⟨q1,q2⟩:=zFs (fx.pair x hxd y hyd (Ne.symm hne))
 refine⟨hb,hne,fun t ht hm=> ?_,fun t ht hm=> ?_,p2⟩
 ·rcases p1 t ht hm with h|⟨_,h⟩
  ·exact h
  ·rw[hb] at h;cases h
 ·rcases q1 t ht hm with h|h
  ·rw[hb] at h;cases h
  ·exact h
theorem zCo {x y:DI} {rest:List DI}:y∈zFl x rest↔y∈rest/\y.ix≠x.ix:=by simp[zFl]
theorem zJq {x:DI} {rest:List DI} (hx:x∈rest):(zFl x rest).length<rest.length:=by
 unfold zFl
 induction rest with
 |nil=> cases hx
 |cons z l ih=>
  rw[List.filter_cons]
  have hle:=List.length_filter_le (fun y:DI=> y.ix !=x.ix) l
  by_cases hz:z.ix=x.ix
  ·simp[hz];omega
  ·have:x∈l:=by
    rcases List.mem_cons.1 hx with h|h
    ·exact absurd (by rw[h]) hz
    ·exact h
   have h2:=ih this
   rw[if_pos (by simpa using hz),List.length_cons,List.length_cons];omega
theorem DInv.advance (fx:DFix P ext n ops ds):∀(f:Nat) (rest done:List DI) (tm:Nat->Value) (H:AH D) (ρ:Env) (own:Nat->Nat->Prop),
  DInv P cfg C n ops ds Kf Ef tm0 ρ0 own0 w0 D0 listed a w done rest f tm H ρ own->
  ∃done' rest' tm' f',DInv P cfg C n ops ds Kf Ef tm0 ρ0 own0 w0 D0 listed a w done' rest' f' tm' H ρ own/\(∀x∈rest',x.loud=false->∃y∈rest',zEh (Region.before ops) y.ix x.ix=true)
 |0,rest,done,tm,H,ρ,own,h=> ⟨done,rest,tm,0,h,fun x hx=> by
  have:=h.fuel
  have:rest=[]:=List.length_eq_zero_iff.1 (by omega)
  subst this;cases hx⟩
 |f+1,rest,done,tm,H,ρ,own,h=> by
  cases hfind:rest.find? (fun q=> !q.loud && zKo (Region.before ops) rest q) with
  |none=>
   refine⟨done,rest,tm,f+1,h,fun x hx hl=> ?_⟩
   have:=List.find?_eq_none.1 hfind x hx
   simp only[hl,Bool.not_false,Bool.true_and,zKo,List.all_eq_true,Bool.not_eq_true'] at this
   refine Classical.byContradiction fun hn=> this fun y hy=> ?_
   cases hh:zEh (Region.before ops) y.ix x.ix
   ·rfl
   ·exact absurd ⟨y,hy,hh⟩ hn
  |some x=>
   have hx:x∈rest:=List.mem_of_find?_eq_some hfind
   have hp:=List.find?_some hfind
   simp only[Bool.and_eq_true,Bool.not_eq_true',zKo,List.all_eq_true] at hp
   obtain⟨hl,hfree⟩:=hp
   have hxm:x∈ds:=(h.mem x).2 (.inr hx)
   obtain⟨hq,d,hd,hself⟩:=zLt (fx.one x hxm) hl
   have hwp:=h.wp
   rw[gen,hfind] at hwp
   simp only[DT.wp] at hwp
   obtain⟨v,hk,hag⟩:=qHj hq hd hself hwp
   refine DInv.advance fx f (zFl x rest) (x::done) (upd tm d v) H ρ own ⟨fun y=> ?_,fun y hy z hz=> ?_,fun y hy z hz=> ?_,h.size,?_,fun y hy=> h.restU y (zCo.1 hy).1,?_,?_,h.down,h.rel,h.ext,hk,?_,h.def_,?_⟩
   ·rw[h.mem y,zCo,List.mem_cons]
    constructor
    ·rintro (hy|hy)
     ·exact .inl (.inr hy)
     ·by_cases hyx:y.ix=x.ix
      ·exact .inl (.inl (fx.inj y ((h.mem y).2 (.inr hy)) x hxm hyx))
      ·exact .inr ⟨hy,hyx⟩
    ·rintro ((rfl|hy)|hy)
     ·exact .inr hx
     ·exact .inl hy
     ·exact .inr hy.1
   ·obtain⟨hz1,hz2⟩:=zCo.1 hz
    rcases List.mem_cons.1 hy with rfl|hy
    ·exact Ne.symm hz2
    ·exact h.dj y hy z hz1
   ·obtain⟨hz1,hz2⟩:=zCo.1 hz
    rcases List.mem_cons.1 hy with rfl|hy
    ·exact hfree z hz1
    ·exact h.downD y hy z hz1
   ·intro y hy hyl
    rcases List.mem_cons.1 hy with rfl|hy
    ·rw[hl] at hyl;cases hyl
    ·exact h.loudL y hy hyl
   ·intro y hy hyu
    rcases List.mem_cons.1 hy with rfl|hy
    ·exact hag
    ·have hyq:y.loud=false:=by
      cases hh:y.loud
      ·rfl
      ·exact absurd (h.loudL y hy hh) hyu
     obtain⟨p1,p2,p5,p6,p7⟩:=h.pr fx hy hx
     refine zNh (h.again y hy hyu) (fun t ht=> ?_) (fun t ht=> ?_)
     ·unfold upd
      rw[if_neg]
      rintro rfl
      have:=(p6 t hd ht).1
      rw[hl] at this;cases this
     ·unfold upd
      rw[if_neg]
      rintro rfl
      have:=(p7 t ht hd).1
      rw[hyq] at this;cases this
   ·intro tm' h1 h2
    refine h.tmr tm' (fun t ht=> h1 t ?_) (fun t ht=> ?_)
    ·obtain⟨y,hy,hyu,hyd⟩:=ht
     exact⟨y,by simp[hy],hyu,hyd⟩
    ·by_cases htd:t=d
     ·subst htd
      rw[h1 t ⟨x,by simp,h.restU x hx,hd⟩]
      exact (h.keep x hx t hl hd).symm
     ·rw[h2 t (by
       rintro⟨y,hy,hyu,hyd⟩
       rcases List.mem_cons.1 hy with rfl|hy
       ·rw[hd] at hyd;cases hyd;exact htd rfl
       ·exact ht ⟨y,hy,hyu,hyd⟩)]
      unfold upd;rw[if_neg htd]
   ·have:=zJq hx
    have:=h.fuel
    omega
   ·intro y hy t hyl hyd
    obtain⟨hy1,hy2⟩:=zCo.1 hy
    unfold upd
    rw[if_neg]
    ·exact h.keep y hy1 t hyl hyd
    ·rintro rfl
     have:=((zFs (fx.pair x hxm y ((h.mem y).2 (.inr hy1)) (Ne.symm hy2))).2 t hd hyd).1
     rw[hl] at this;cases this
theorem zC3 {listed:Array Bool} {i:Nat} (hi:i<listed.size) (j:Nat):Lst (listed.setIfInBounds i true) j↔j=i∨Lst listed j:=by
 unfold Lst
 by_cases h:j=i
 ·subst h;simp[hi]
 ·rw[getD_set_ne false (Ne.symm h)];simp[h]
theorem zVe {tm:Nat->Value} {H:AH D} {K:(Nat->Value)->AH D->Prop} {E:Value->AH D->Prop}:∀{l:List DT},(alts l).wp C tm H K E->∀t∈l,t.wp C tm H K E
 |[],h,_,_=> h.elim
 |[t],h,u,hu=> by
  have:u=t:=by simpa using hu
  subst this;exact h
 |t::t'::l,h,u,hu=> by
  rcases List.mem_cons.1 hu with rfl|hu
  ·exact h.1
  ·exact zVe h.2 u hu
end
end Go.Abs
namespace Go.Abs
open Go.RowKit
open Classical
section
variable {D:Type} {P:Program} {cfg:D->HRep} {C:zAx D} {ext:FuncId->Option Ext1} {n:Nat}
variable {ρz:Env} {ro:Option Nat} {ops:Array Oper} {ds:List DI} {Kf:(Nat->Value)->AH D->Prop} {Ef:Value->AH D->Prop} {tm0:Nat->Value} {ρ0:Env} {own0:Nat->Nat->Prop} {w0:World} {D0:List Deferred}
theorem DFix.dst (fx:DFix P ext n ops ds) {x y:DI} (hx:x∈ds) (hy:y∈ds) (hne:x≠y) (hq:x.loud=false) {t:Nat} (h1:x.i.dst=some t):y.i.dst≠some t:=by
 intro h2
 have:=((zFs (fx.pair x hx y hy fun e=> hne (fx.inj x hx y hy e))).2 t h1 h2).1
 rw[hq] at this;cases this
def cnt (listed:Array Bool):Nat:=listed.toList.count false
theorem zXn {listed:Array Bool} {i:Nat} (hi:i<listed.size) (h:¬Lst listed i):cnt (listed.setIfInBounds i true)+1=cnt listed:=by
 unfold cnt
 have hf:listed.toList[i]'(by simpa using hi)=false:=by
  unfold Lst at h
  simp[hi] at h
  simpa using h
 rw[Array.toList_setIfInBounds,List.count_set (by simpa using hi)]
 have hpos:0<listed.toList.count false:=by
  rw[List.count_pos_iff,←hf]
  exact List.getElem_mem _
 have e1:(true==false)=false:=rfl
 simp only[hf,beq_self_eq_true,if_true,e1,Bool.false_eq_true,if_false]
 omega
theorem zLq {listed:Array Bool} (hs:listed.size=ops.size) {i:Nat}:i∈Region.ready .any ops listed↔i<ops.size/\¬Lst listed i/\zK3 ops (Lst listed) i:=by
 rw[mem_ready]
 constructor
 ·rintro⟨h1,o,ho,h2⟩
  have hlt:=(Array.getElem?_eq_some_iff.1 ho).1
  refine⟨hlt,?_,fun o' ho' e he hb=> by rw[ho] at ho';cases ho';exact h2 e he hb⟩
  unfold Lst
  have:i<listed.size:=by omega
  simp[this] at h1⊢
  exact h1
 ·rintro⟨hlt,h1,h2⟩
  refine⟨?_,ops[i],by simp[hlt],fun e he hb=> h2 _ (by simp[hlt]) e he hb⟩
  unfold Lst at h1
  have:i<listed.size:=by omega
  simp[this] at h1⊢
  exact h1
theorem zW5 {d:Option Nat} {tm:Nat->Value} {v v2:Value} (h:xK d tm v=xK d tm v2):d=none∨v=v2:=by
 cases d with
 |none=> exact .inl rfl
 |some d=>
  have:=congrFun h d
  simp[xK,upd] at this
  exact .inr this
theorem qJe (hC:zHx P cfg ρz C) (hz:ρz.le ρ0) (mono:zI8 C) (hext:ExtOk P ext) (fx:DFix P ext n ops ds) {Q:Exit->Act->World->Prop}
  (hQ:∀tm H ρ own a w,Kf tm H->Ext ρ0 own0 w0 ρ own w->xN ρ n tm a.tmps->Rel P cfg ρ own H w->a.defers=D0->Q .normal a w)
  (hE:∀v v' tm H ρ own a w,Ef v H->Ext ρ0 own0 w0 ρ own w->VR ρ v v'->xN ρ n tm a.tmps->Rel P cfg ρ own H w->a.defers=D0->Q (.panic [{ v:=v',recovered:=false }]) a w):
  ∀(fuel:Nat) (listed:Array Bool) (a:Act) (w:World) (done rest:List DI) (f:Nat) (tm:Nat->Value) (H:AH D) (ρ:Env) (own:Nat->Nat->Prop),
   DInv P cfg C n ops ds Kf Ef tm0 ρ0 own0 w0 D0 listed a w done rest f tm H ρ own->(∀x∈rest,x.loud=false->∃y∈rest,zEh (Region.before ops) y.ix x.ix=true)->cnt listed<=fuel->wpAnyIn (Fw ro) 0 P .any ops Q fuel listed a w:=by
 have fin:∀(listed:Array Bool) (a:Act) (w:World) (done rest:List DI) (f:Nat) (tm:Nat->Value) (H:AH D) (ρ:Env) (own:Nat->Nat->Prop),
   DInv P cfg C n ops ds Kf Ef tm0 ρ0 own0 w0 D0 listed a w done rest f tm H ρ own->(∀i,i<ops.size->Lst listed i)->Q .normal a w:=by
  intro listed a w done rest f tm H ρ own h hall
  have hix:∀x∈ds,Lst listed x.ix:=fun x hx=> by
   obtain⟨o,ho,_⟩:=fx.comp x hx
   exact hall _ (Array.getElem?_eq_some_iff.1 ho).1
  have hr:rest=[]:=by
   cases hrr:rest with
   |nil=> rfl
   |cons x l=>
    have hx:x∈rest:=by rw[hrr];simp
    exact absurd (hix x ((h.mem x).2 (by simp[hx]))) (h.restU x hx)
  subst hr
  have hwp:Kf tm H:=by
   have hwp:=h.wp
   cases f<;> simpa [gen,DT.wp] using hwp
  refine hQ tm H ρ own a w hwp h.ext (h.tmr tm (fun t ht=> ?_) (fun t _=> rfl)) h.rel h.def_
  obtain⟨x,hx,hxu,_⟩:=ht
  exact absurd (hix x ((h.mem x).2 (by simp[hx]))) hxu
 intro fuel
 induction fuel with
 |zero=>
  intro listed a w done rest f tm H ρ own h _ hc
  have hall:∀i,i<ops.size->Lst listed i:=fun i hi=> by
   by_cases hL:Lst listed i
   ·exact hL
   ·have:=zXn (listed:=listed) (i:=i) (by rw[h.size];exact hi) hL
    omega
  refine⟨?_,fin listed a w done rest f tm H ρ own h hall⟩
  rw[List.eq_nil_iff_forall_not_mem]
  intro i hi
  rw[zLq h.size] at hi
  exact hi.2.1 (hall i hi.1)
 |succ fuel ih=>
  intro listed a w done rest f tm H ρ own h hhead hc
  refine⟨fun hr=> ?_,fun i hi=> ?_⟩
  ·refine fin listed a w done rest f tm H ρ own h ?_
   have key:∀k i,i<k->i<ops.size->Lst listed i:=by
    intro k
    induction k with
    |zero=> intro i hi;omega
    |succ k ihk=>
     intro i hi hlt
     by_cases hL:Lst listed i
     ·exact hL
     ·exfalso
      have:i∈Region.ready .any ops listed:=(zLq h.size).2 ⟨hlt,hL,fun o ho e he hb=> ihk e.on (by have:=fx.edge i o ho e he hb;omega) (by have:=fx.edge i o ho e he hb;omega)⟩
      rw[hr] at this;cases this
   exact fun i hi=> key (i+1) i (by omega) hi
  ·obtain⟨hlt,hiu,hir⟩:=(zLq h.size).1 hi
   obtain⟨x,hx,hxi⟩:=fx.all i hlt
   subst hxi
   obtain⟨o,ho,hcomp⟩:=fx.comp x hx
   have hil:x.ix<listed.size:=by rw[h.size];exact hlt
   have hbl:∀z,zEh (Region.before ops) z x.ix=true->Lst listed z:=fun z hz=> zRx h.down z x.ix hir hz
   have hcnt:=zXn hil hiu
   have hsz:(listed.setIfInBounds x.ix true).size=ops.size:=by simp[h.size]
   have hdown:∀j,Lst (listed.setIfInBounds x.ix true) j->zK3 ops (Lst (listed.setIfInBounds x.ix true)) j:=fun j hj o' ho' e he hb=> by
    rw[zC3 hil] at hj⊢
    rcases hj with rfl|hj
    ·exact .inr (hir o' ho' e he hb)
    ·exact .inr (h.down j hj o' ho' e he hb)
   let tmU:Nat->Value:=fun t=> if ∃y∈done,¬Lst listed y.ix/\y.i.dst=some t then tm0 t else tm t
   have hU:xN ρ n tmU a.tmps:=h.tmr tmU (fun t ht=> if_pos ht) (fun t ht=> if_neg ht)
   unfold wpOpIn
   rw[ho]
   have hdsteq:=(zKl hU hcomp).2.1
   have hmd:∀y∈done,y∈ds:=fun y hy=> (h.mem y).2 (.inl hy)
   have hmr:∀y∈rest,y∈ds:=fun y hy=> (h.mem y).2 (.inr hy)
   have goal:(if Region.wanted o (yielded ops a.tmps) then o.wpIn (Fw ro) 0 P a w (wpAnyIn (Fw ro) 0 P .any ops Q fuel (listed.setIfInBounds x.ix true)) Q else (∀f,o.about P w a.eval=some f->(Fw ro).fn f)/\wpAnyIn (Fw ro) 0 P .any ops Q fuel (listed.setIfInBounds x.ix true) (a.put o.dst undef) w):=by
    by_cases hxd:x∈done
    ·
     have hxq:x.loud=false:=by
      cases hh:x.loud
      ·rfl
      ·exact absurd (h.loudL x hxd hh) hiu
     obtain⟨hq,d,hd,hself⟩:=zLt (fx.one x hx) hxq
     have hreads:∀t∈x.i.reads,tm t=tmU t:=fun t ht=> by
      refine (if_neg ?_).symm
      rintro⟨y,hy,hyu,hyd⟩
      have hyq:y.loud=false:=by
       cases hh:y.loud
       ·rfl
       ·exact absurd (h.loudL y hy hh) hyu
      by_cases hxy:y.ix=x.ix
      ·have h':=fx.inj y (hmd y hy) x hx hxy
       subst h';rw[hd] at hyd;cases hyd;exact hself ht
      ·rcases (zFs (fx.pair y (hmd y hy) x hx hxy)).1 t hyd ht with h'|⟨h',_⟩
       ·exact hyu (hbl _ h')
       ·rw[hyq] at h';cases h'
     have hself':upd tm d (tm d)=tm:=by funext t;unfold upd;split<;> simp_all
     have hw:x.i.wp C tm H (fun tm' H'=> tm'=tm/\H'=H) (fun _ _=> False):=qJt hd (h.again x hxd hiu) ⟨hself',rfl⟩
     refine zUm hC (Env.le_trans hz h.ext.le) hext hU h.rel hcomp (zSp hreads mono hw) (fun v H' v' w' ρ' own' hk he hv hr'=> ?_) (fun _ _ _ _ _ _ hk=> hk.elim)
     obtain⟨v2,e1,e2,rfl⟩:=hk
     have hv2:v2=tm d:=by
      have:=congrFun e2 d
      simpa [hd,xK,upd] using this
     have hvv:v=tm d:=by
      rcases zW5 e1 with h0|h0
      ·rw[hd] at h0;cases h0
      ·rw[h0,hv2]
     subst hvv
     refine ih _ _ w' done rest f tm _ ρ' own' ⟨h.mem,h.dj,h.downD,hsz,fun y hy hl=> (zC3 hil _).2 (.inr (h.loudL y hy hl)),fun y hy hl=> ?_,fun y hy hyu=> h.again y hy (fun hh=> hyu ((zC3 hil _).2 (.inr hh))),?_,hdown,hr',h.ext.trans he,h.wp,h.fuel,by rw[zIc];exact h.def_,h.keep⟩ hhead (by omega)
     ·rcases (zC3 hil _).1 hl with hh|hh
      ·exact h.dj x hxd y hy hh.symm
      ·exact h.restU y hy hh
     ·intro tm' h1 h2
      have hput:=zPz (hU.mono he.le) (some d) hv
      rw[←hdsteq,hd]
      have:tm'=xK (some d) tmU (tm d):=by
       funext t
       by_cases htd:t=d
       ·subst htd
        rw[h2 t (by
         rintro⟨y,hy,hyu,hyd⟩
         refine fx.dst hx (hmd y hy) ?_ hxq hd hyd
         rintro rfl
         exact hyu ((zC3 hil _).2 (.inl rfl)))]
        simp[xK,upd]
       ·have hpt:xK (some d) tmU (tm d) t=tmU t:=by simp[xK,upd,htd]
        rw[hpt]
        by_cases hex:∃y∈done,¬Lst listed y.ix/\y.i.dst=some t
        ·obtain⟨y,hy,hyu,hyd⟩:=hex
         have hyx:y.ix≠x.ix:=fun e=> by
          have:=fx.inj y (hmd y hy) x hx e
          subst this
          rw[hd] at hyd;cases hyd;exact htd rfl
         rw[h1 t ⟨y,hy,fun hh=> by
          rcases (zC3 hil _).1 hh with h3|h3
          ·exact hyx h3
          ·exact hyu h3,hyd⟩]
         exact (if_pos ⟨y,hy,hyu,hyd⟩).symm
        ·rw[h2 t (fun⟨y,hy,hyu,hyd⟩=> hex ⟨y,hy,fun hh=> hyu ((zC3 hil _).2 (.inr hh)),hyd⟩)]
         exact (if_neg hex).symm
      rw[this];exact hput
    ·
     have hxr:x∈rest:=((h.mem x).1 hx).resolve_left hxd
     have hfree:∀y∈rest,zEh (Region.before ops) y.ix x.ix=false:=fun y hy=> by
      cases hh:zEh (Region.before ops) y.ix x.ix
      ·rfl
      ·exact absurd (hbl _ hh) (h.restU y hy)
     have hyl:x.loud=true:=by
      cases hh:x.loud
      ·obtain⟨y,hy,hb⟩:=hhead x hxr hh
       rw[hfree y hy] at hb;cases hb
      ·rfl
     have hpr:∀z∈done,_:=fun z hz=> h.pr fx hz hxr
     have hquiet:∀z∈done,¬Lst listed z.ix->z.loud=false:=fun z hz hzu=> by
      cases hh:z.loud
      ·rfl
      ·exact absurd (h.loudL z hz hh) hzu
     have hreads:∀t∈x.i.reads,tm t=tmU t:=fun t ht=> by
      refine (if_neg ?_).symm
      rintro⟨z,hz,hzu,hzd⟩
      exact hzu (hbl _ ((hpr z hz).2.2.1 t hzd ht))
     obtain⟨f',hff⟩:∃f',f=f'+1:=⟨f - 1,by
      have:=h.fuel
      have:0<rest.length:=List.length_pos_of_mem hxr
      omega⟩
     subst hff
     have hwp:(DT.loud x.i (qD4 (Region.before ops) done x) (gen (Region.before ops) f' (x::done) (zFl x rest))).wp C tm H Kf Ef:=by
      have hwp:=h.wp
      rw[gen] at hwp
      split at hwp
      ·rename_i q hq
       have hqr:q∈rest:=List.mem_of_find?_eq_some hq
       have hqp:=List.find?_some hq
       simp only[Bool.and_eq_true,Bool.not_eq_true',zKo,List.all_eq_true] at hqp
       obtain⟨y,hy,hb⟩:=hhead q hqr hqp.1
       rw[hqp.2 y hy] at hb;cases hb
      ·rw[if_neg (by rw[List.isEmpty_iff];rintro rfl;cases hxr)] at hwp
       refine zVe hwp _ (List.mem_map.2 ⟨x,List.mem_filter.2 ⟨hxr,?_⟩,rfl⟩)
       simp only[hyl,Bool.true_and,zKo,List.all_eq_true,Bool.not_eq_true']
       exact hfree
     simp only[DT.wp] at hwp
     refine zUm hC (Env.le_trans hz h.ext.le) hext hU h.rel hcomp (zSp hreads mono hwp) (fun v H' v' w' ρ' own' hk he hv hr'=> ?_) (fun v H' v' w' ρ' own' hk he hv hr'=> hE v v' tmU H' ρ' own' a w' hk (h.ext.trans he) hv (hU.mono he.le) hr' h.def_)
     obtain⟨v2,e1,hchk,hrest⟩:=hk
     have hvv:xK x.i.dst tm v2=xK x.i.dst tm v:=by
      rcases zW5 e1 with h0|h0
      ·rw[h0];rfl
      ·rw[h0]
     rw[hvv] at hchk hrest
     have hne:∀z∈done,z.ix≠x.ix:=fun z hz=> (hpr z hz).2.1
     have hinv:DInv P cfg C n ops ds Kf Ef tm0 ρ0 own0 w0 D0 (listed.setIfInBounds x.ix true) (a.put o.dst v') w' (x::done) (zFl x rest) f' (xK x.i.dst tm v) H' ρ' own':=by
      refine⟨fun z=> ?_,fun z hz y hy=> ?_,fun z hz y hy=> ?_,hsz,fun z hz hzl=> ?_,fun z hz hzl=> ?_,fun z hz hzu=> ?_,?_,hdown,hr',h.ext.trans he,hrest,?_,by rw[zIc];exact h.def_,fun z hz t hzl hzd=> ?_⟩
      ·rw[h.mem z,zCo,List.mem_cons]
       constructor
       ·rintro (hz|hz)
        ·exact .inl (.inr hz)
        ·by_cases hzx:z.ix=x.ix
         ·exact .inl (.inl (fx.inj z (hmr z hz) x hx hzx))
         ·exact .inr ⟨hz,hzx⟩
       ·rintro ((rfl|hz)|hz)
        ·exact .inr hxr
        ·exact .inl hz
        ·exact .inr hz.1
      ·obtain⟨hy1,hy2⟩:=zCo.1 hy
       rcases List.mem_cons.1 hz with rfl|hz
       ·exact Ne.symm hy2
       ·exact h.dj z hz y hy1
      ·obtain⟨hy1,hy2⟩:=zCo.1 hy
       rcases List.mem_cons.1 hz with rfl|hz
       ·exact hfree y hy1
       ·exact h.downD z hz y hy1
      ·rcases List.mem_cons.1 hz with rfl|hz
       ·exact (zC3 hil _).2 (.inl rfl)
       ·exact (zC3 hil _).2 (.inr (h.loudL z hz hzl))
      ·obtain⟨hz1,hz2⟩:=zCo.1 hz
       rcases (zC3 hil _).1 hzl with h3|h3
       ·exact hz2 h3
       ·exact h.restU z hz1 h3
      ·have hzx:z≠x:=fun e=> hzu ((zC3 hil _).2 (.inl (by rw[e])))
       have hzd:z∈done:=by
        rcases List.mem_cons.1 hz with hz|hz
        ·exact absurd hz hzx
        ·exact hz
       have hzu':¬Lst listed z.ix:=fun hh=> hzu ((zC3 hil _).2 (.inr hh))
       have hzq:=hquiet z hzd hzu'
       obtain⟨p1,p2,p5,p6,p7⟩:=hpr z hzd
       have hnb:zEh (Region.before ops) z.ix x.ix=false:=by
        cases hh:zEh (Region.before ops) z.ix x.ix
        ·rfl
        ·exact absurd (hbl _ hh) hzu'
       obtain⟨hzqb,d,hd,hself⟩:=zLt (fx.one z (hmd z hzd)) hzq
       by_cases hzr:z.i.op.readB=true
       ·refine hchk z.i (List.mem_map.2 ⟨z,List.mem_filter.2 ⟨hzd,?_⟩,rfl⟩)
        simp[hzq,hzr,hnb]
       ·obtain⟨op,hop,hpr2⟩:=zOu hzqb
        have hpure:op.pureB=true:=by
         rcases hpr2 with h3|h3
         ·exact h3
         ·exact absurd (by rw[hop];exact h3) hzr
        refine qAf (zNh (h.again z hzd hzu') (fun t ht=> ?_) (fun t ht=> ?_)) ⟨op,hop,hpure⟩
        ·cases hxd':x.i.dst with
         |none=> rfl
         |some d'=>
          simp only[xK,upd]
          rw[if_neg]
          rintro rfl
          have:=(p6 t hxd' ht).2
          rw[hnb] at this;cases this
        ·cases hxd':x.i.dst with
         |none=> rfl
         |some d'=>
          simp only[xK,upd]
          rw[if_neg]
          rintro rfl
          have:=(p7 t ht hxd').1
          rw[hzq] at this;cases this
      ·intro tm2 h1 h2
       have hput:=zPz (hU.mono he.le) x.i.dst hv
       rw[←hdsteq]
       have:tm2=xK x.i.dst tmU v:=by
        funext t
        by_cases hex:∃z∈done,¬Lst listed z.ix/\z.i.dst=some t
        ·obtain⟨z,hz,hzu,hzd⟩:=hex
         rw[h1 t ⟨z,by simp[hz],fun hh=> by
          rcases (zC3 hil _).1 hh with h3|h3
          ·exact hne z hz h3
          ·exact hzu h3,hzd⟩]
         have hU':tmU t=tm0 t:=if_pos ⟨z,hz,hzu,hzd⟩
         cases hxd':x.i.dst with
         |none=> exact hU'.symm
         |some d'=>
          simp only[xK,upd]
          rw[if_neg,hU']
          rintro rfl
          have:=((hpr z hz).2.2.2.2 t hzd hxd').1
          rw[hquiet z hz hzu] at this;cases this
        ·rw[h2 t (by
          rintro⟨z,hz,hzu,hzd⟩
          rcases List.mem_cons.1 hz with rfl|hz
          ·exact hzu ((zC3 hil _).2 (.inl rfl))
          ·exact hex ⟨z,hz,fun hh=> hzu ((zC3 hil _).2 (.inr hh)),hzd⟩)]
         have hU':tmU t=tm t:=if_neg hex
         cases hxd':x.i.dst with
         |none=> exact hU'.symm
         |some d'=> simp only[xK,upd];rw[hU']
       rw[this];exact hput
      ·have:=zJq hxr
       have:=h.fuel
       omega
      ·obtain⟨hz1,hz2⟩:=zCo.1 hz
       have hk:=h.keep z hz1 t hzl hzd
       cases hxd':x.i.dst with
       |none=> exact hk
       |some d'=>
        simp only[xK,upd]
        rw[if_neg]
        ·exact hk
        ·rintro rfl
         have:=((zFs (fx.pair x hx z (hmr z hz1) (Ne.symm hz2))).2 t hxd' hzd).2
         rw[hzl] at this;cases this
     obtain⟨done',rest',tm',f2,h',hh'⟩:=DInv.advance fx f' _ _ _ _ _ _ hinv
     exact ih _ _ w' done' rest' f2 tm' H' ρ' own' h' hh' (by omega)
   exact goal
end
end Go.Abs
namespace Go.Abs
open Go.RowKit
section
variable {D:Type} (P:Program) (ext:FuncId->Option Ext1)
def zBh (n:Nat):Code->Option AC
 |.skip=> some .skip
 |.region _ ops false=> (zDd P ext n ops ops.toList).map .reg
 |.region _ ops true=> (zSk P ext n ops).map .dreg
 |.seq a b=> (zBh n a).bind fun a=> (zBh n b).map fun b=> .seq a b
 |.cond c a b=> (jF n c).bind fun c=> (zBh n a).bind fun a=> (zBh n b).map fun b=> .cond c a b
 |.block id a=> (zBh n a).map fun a=> .block id a
 |.loop a=> (zBh n a).map fun a=> .loop a
 |.exit id=> some (.exit id)
 |.scope a=> (zBh n a).map fun a=> .scope a
 |.label l=> some (.label l)
 |.goto l=> some (.goto l)
 |.ret=> some .ret
 |.rangeFunc f ps a b=> (jF n f).bind fun f=> (zBh n a).bind fun a=> (zBh n b).bind fun b=> if ps.toList.all (· <n) && a.flat && b.flat then some (.rfunc f ps.toList a b) else none
 |.refuse _=> none
variable {P} {ext}
variable (cfg:D->HRep) (n:Nat)
def XR (ρ:Env):AExit->Exit->Prop
 |.normal,.normal=> True
 |.exit i,.exit j=> i=j
 |.goto i,.goto j=> i=j
 |.ret,.ret=> True
 |.pan v,.panic c=> ∃v',c=[{ v:=v',recovered:=false }]/\VR ρ v v'
 |_,_=> False
def zA1 (N:Nat) (D0:List Deferred) (own:Nat->Nat->Prop) (w:World) (ds:List Deferred):Prop:=
 ∃bs:List Nat,bs.Nodup/\ds=bs.map (fun b=> ⟨.collected b,#[]⟩)++D0/\∀b∈bs,N<=b/\w.heap[b]?=some (.deferred (some []))/\∀k,¬own k b
theorem zA1.none (N:Nat) (D0:List Deferred) (own:Nat->Nat->Prop) (w:World):zA1 N D0 own w D0:=⟨[],.nil,rfl,fun b hb=> by cases hb⟩
theorem zA1.onw {N:Nat} {D0 ds:List Deferred} {ρ ρ':Env} {own own':Nat->Nat->Prop} {w w':World} (h:zA1 N D0 own w ds) (e:Ext ρ own w ρ' own' w'):zA1 N D0 own' w' ds:=by
 obtain⟨bs,h1,h2,h3⟩:=h
 refine⟨bs,h1,h2,fun b hb=> ?_⟩
 obtain⟨g1,g2,g3⟩:=h3 b hb
 have hlt:b<w.heap.size:=(Array.getElem?_eq_some_iff.1 g2).1
 refine⟨g1,(e.kept b hlt g3).trans g2,fun k hk=> ?_⟩
 rcases e.owned k b hk with ⟨k0,h0⟩|h0
 ·exact g3 k0 h0
 ·omega
def zVi (P:Program) (ρ:Env) (own:Nat->Nat->Prop) (w:World) (N:Nat) (D0:List Deferred) (fl:Bool) (ds:List Deferred) (Qa:AExit->(Nat->Value)->AH D->Prop) (e:Exit) (a:Act) (w':World):Prop:=
 ∃ae tm H ρ' own',Qa ae tm H/\XR ρ' ae e/\xN ρ' n tm a.tmps/\Ext ρ own w ρ' own' w'/\Rel P cfg ρ' own' H w'/\zA1 N D0 own' w' a.defers/\(fl=true->a.defers=ds)
theorem zVi.trans {P:Program} {ρ ρ1:Env} {own own1:Nat->Nat->Prop} {w w1:World} {N:Nat} {D0:List Deferred} {fl fl':Bool} {ds ds':List Deferred} (hf:fl'=true->fl=true/\ds=ds') {Qa:AExit->(Nat->Value)->AH D->Prop} (h:Ext ρ own w ρ1 own1 w1) {e:Exit} {a:Act} {w':World}
  (hl:zVi cfg n P ρ1 own1 w1 N D0 fl ds Qa e a w'):zVi cfg n P ρ own w N D0 fl' ds' Qa e a w':=by
 obtain⟨ae,tm,H,ρ',own',h1,h2,h3,h4,h5,h6,h7⟩:=hl
 exact⟨ae,tm,H,ρ',own',h1,h2,h3,h.trans h4,h5,h6,fun hh=> (h7 (hf hh).1).trans (hf hh).2⟩
variable {cfg} {n}
theorem qD2 {ops:Array Oper} {t:DT} (h:zSk P ext n ops=some t):∃ds,DFix P ext n ops ds/\t=gen (Region.before ops) ds.length [] ds:=by
 simp only[zSk,Option.bind_eq_some_iff] at h
 obtain⟨is,his,h⟩:=h
 split at h
 case isFalse=> cases h
 rename_i hs
 cases h
 refine⟨zQa ops is,?_,rfl⟩
 simp only[qKg,Bool.and_eq_true,List.all_eq_true,Bool.or_eq_true,beq_iff_eq] at hs
 obtain⟨⟨hp,h1⟩,he⟩:=hs
 have hget:∀(l:List Oper) (is:List AIns),zDd P ext n ops l=some is->is.length=l.length/\∀(k:Nat) (i:AIns) (o:Oper),is[k]?=some i->l[k]?=some o->zGf P ext n ops o=some i:=by
  intro l
  induction l with
  |nil=> intro is h;simp[zDd] at h;subst h;exact⟨rfl,fun k i o h=> by simp at h⟩
  |cons o l ih=>
   intro is h
   simp only[zDd,Option.bind_eq_some_iff,Option.map_eq_some_iff] at h
   obtain⟨i,hi,r,hr,rfl⟩:=h
   obtain⟨e1,e2⟩:=ih r hr
   refine⟨by simp[e1],fun k j o' hk ho=> ?_⟩
   cases k with
   |zero=> simp at hk ho;subst hk;subst ho;exact hi
   |succ k=> exact e2 k j o' (by simpa using hk) (by simpa using ho)
 obtain⟨hlen,hg⟩:=hget ops.toList is his
 have hlen':is.length=ops.size:=by simpa using hlen
 have hd:∀x,x∈zQa ops is↔∃i o,is[x.ix]?=some i/\ops.toList[x.ix]?=some o/\x=⟨x.ix,i,zUl o.op|| !i.op.quietB⟩:=by
  intro x
  simp only[zQa,List.mem_map]
  constructor
  ·rintro⟨⟨⟨i,o⟩,k⟩,hm,rfl⟩
   rw[List.mem_zipIdx_iff_getElem?,List.getElem?_zip_eq_some] at hm
   exact⟨i,o,hm.1,hm.2,rfl⟩
  ·rintro⟨i,o,h1,h2,h3⟩
   refine⟨((i,o),x.ix),?_,h3.symm⟩
   rw[List.mem_zipIdx_iff_getElem?,List.getElem?_zip_eq_some]
   exact⟨h1,h2⟩
 refine⟨fun x hx=> ?_,fun i hi=> ?_,fun x hx y hy hxy=> ?_,fun x hx y hy hne=> ?_,h1,fun i o ho e hem hb=> ?_⟩
 ·obtain⟨i,o,q1,q2,q3⟩:=(hd x).1 hx
  refine⟨o,by simpa using q2,?_⟩
  rw[q3]
  exact hg _ _ _ q1 q2
 ·have e1:is[i]?=some is[i]:=List.getElem?_eq_getElem (by omega)
  have e2:ops.toList[i]?=some ops.toList[i]:=List.getElem?_eq_getElem (by simpa using hi)
  exact⟨⟨i,_,_⟩,(hd _).2 ⟨_,_,e1,e2,rfl⟩,rfl⟩
 ·obtain⟨i,o,q1,q2,q3⟩:=(hd x).1 hx
  obtain⟨i',o',r1,r2,r3⟩:=(hd y).1 hy
  rw[←hxy] at r1 r2 r3
  rw[q1] at r1;rw[q2] at r2
  cases r1;cases r2
  rw[q3,r3]
 ·rcases hp x hx y hy with h|h
  ·exact absurd h hne
  ·exact h
 ·simp only[qDx,List.all_eq_true] at he
  have:=he (o,i) (by rw[List.mem_zipIdx_iff_getElem?];simpa using ho)
  simp only[Array.all_eq_true_iff_forall_mem,Bool.or_eq_true,Bool.not_eq_true',decide_eq_true_eq] at this
  rcases this e hem with h|h
  ·rw[hb] at h;cases h
  ·exact h
variable {C:zAx D}
theorem qPp {ρz:Env} {ro:Option Nat} (hmix:P.follows .mixedOrders=true) (hC:zHx P cfg ρz C) (mono:zI8 C) (hext:ExtOk P ext) {ops:Array Oper} {t:DT} (ht:zSk P ext n ops=some t) {id:Nat} {ρ:Env} {own:Nat->Nat->Prop} {H:AH D} {w:World} {tm:Nat->Value} {a:Act}
  (hz:ρz.le ρ) (htm:xN ρ n tm a.tmps) (hr:Rel P cfg ρ own H w) {Kf:(Nat->Value)->AH D->Prop} {Ef:Value->AH D->Prop} (h:t.wp C tm H Kf Ef) {Q:Exit->Act->World->Prop}
  (hQ:∀tm' H' ρ' own' a' w',Kf tm' H'->Ext ρ own w ρ' own' w'->xN ρ' n tm' a'.tmps->Rel P cfg ρ' own' H' w'->a'.defers=a.defers->Q .normal a' w')
  (hE:∀v v' tm' H' ρ' own' a' w',Ef v H'->Ext ρ own w ρ' own' w'->VR ρ' v v'->xN ρ' n tm' a'.tmps->Rel P cfg ρ' own' H' w'->a'.defers=a.defers->Q (.panic [{ v:=v',recovered:=false }]) a' w'):(Code.region id ops true).wpIn (Fw ro) 0 P Q a w:=by
 obtain⟨ds,fx,rfl⟩:=qD2 ht
 refine wpIn_region_any hmix ?_
 have hun:∀j,¬Lst (Array.replicate ops.size false) j:=fun j h=> by
  unfold Lst at h
  by_cases hj:j<ops.size<;> simp[hj] at h
 have hinv:DInv P cfg C n ops ds Kf Ef tm ρ own w a.defers (Array.replicate ops.size false) a { w with drawn:=w.drawn+1 } [] ds ds.length tm H ρ own:=by
  refine⟨fun x=> by simp,fun x hx=> (by cases hx),fun x hx=> (by cases hx),by simp,fun x hx=> (by cases hx),fun x _=> hun _,fun x hx=> (by cases hx),fun tm' _ h2=> ?_,fun j hj=> absurd hj (hun j),hr.drew P cfg rfl,⟨ρ.le_refl,fun k b hb=> .inl ⟨k,hb⟩,Nat.le_refl _,fun _ _ _=> rfl,rfl,rfl,rfl⟩,h,Nat.le_refl _,rfl,fun x _ t _ _=> rfl⟩
  have:tm'=tm:=funext fun t=> h2 t (by rintro⟨x,hx,_⟩;cases hx)
  rw[this];exact htm
 obtain⟨done',rest',tm',f',h',hh'⟩:=DInv.advance fx _ ds [] tm H ρ own hinv
 refine qJe hC hz mono hext fx (fun tm2 H2 ρ2 own2 a2 w2 k e t r d=> hQ tm2 H2 ρ2 own2 a2 w2 k e t r d) (fun v v' tm2 H2 ρ2 own2 a2 w2 k e hv t r d=> hE v v' tm2 H2 ρ2 own2 a2 w2 k e hv t r d) ops.size _ a _ done' rest' f' tm' H ρ own h' hh' ?_
 unfold cnt
 simp
def zD8 (C:Sg D):Prop:=zI8 C.call/\∀Y,zFy Y->zI8 (C.iter Y)
theorem AC.mono {C:Sg D} (sm:zD8 C) (F:Nat):∀(c:AC) (Q Q':AExit->(Nat->Value)->AH D->Prop) (tm:Nat->Value) (H:AH D),(∀e tm H,Q e tm H->Q' e tm H)->c.wp C F Q tm H->c.wp C F Q' tm H:=by
 have mono:=sm.1
 have kmono:∀(op:AK) (tm:Nat->Value) (H:AH D) (K K' E E':Value->AH D->Prop),(∀v H,K v H->K' v H)->(∀v H,E v H->E' v H)->op.wp C.call tm H K E->op.wp C.call tm H K' E':=by
  intro op tm H K K' E E' hK hE h
  unfold AK.wp at h⊢
  split at h
  ·split at h
   ·refine mono _ _ _ _ _ (fun r H' hh=> ?_) h
    cases r with
    |ret v=> exact hK _ _ hh
    |pan v=> exact hE _ _ hh
   ·refine mono _ _ _ _ _ (fun r H' hh=> ?_) h
    cases r with
    |ret v=> exact hK _ _ hh
    |pan v=> exact hE _ _ hh
   ·exact h.elim
  ·split at h
   ·exact hE _ _ h
   ·exact h.elim
  ·split at h
   ·exact hK _ _ h
   ·exact h.elim
  ·split at h
   ·exact hK _ _ h
   ·split at h
    ·rename_i hc;simp only[if_pos hc];exact hK _ _ h
    ·rename_i hc;simp only[if_neg hc];exact⟨hK _ _ h.1,hK _ _ h.2⟩
   ·exact h
  ·split at h
   case h_2=> exact h
   split at h
   case h_2=> exact h
   split at h
   case h_2=> exact h
   exact⟨h.1,h.2.1,fun g=> hK _ _ (h.2.2.1 g),fun e h1 h2=> hK _ _ (h.2.2.2 e h1 h2)⟩
 have imono:∀(i:AIns) (tm:Nat->Value) (H:AH D) (K K':(Nat->Value)->AH D->Prop) (E E':Value->AH D->Prop),(∀v H,K v H->K' v H)->(∀v H,E v H->E' v H)->i.wp C.call tm H K E->i.wp C.call tm H K' E':=by
  intro i tm H K K' E E' hK hE h
  unfold AIns.wp at h⊢
  split at h
  ·exact kmono _ _ _ _ _ _ _ (fun v H hh=> hK _ _ hh) hE h
  ·split at h
   ·split at h
    ·rename_i hb
     try rw[if_pos hb]
     exact kmono _ _ _ _ _ _ _ (fun v H hh=> hK _ _ hh) hE h
    ·rename_i hb
     try rw[if_neg hb]
     exact hK _ _ h
   ·exact hK _ _ h
   ·exact h.elim
 have lmono:∀(l:List AIns) (tm:Nat->Value) (H:AH D) (K K':(Nat->Value)->AH D->Prop) (E E':Value->(Nat->Value)->AH D->Prop),(∀v H,K v H->K' v H)->(∀v tm H,E v tm H->E' v tm H)->zBc C l tm H K E->zBc C l tm H K' E':=by
  intro l
  induction l with
  |nil=> intro tm H K K' E E' hK _ h;exact hK _ _ h
  |cons i l ih=>
   intro tm H K K' E E' hK hE h
   exact imono i tm _ _ _ _ _ (fun tm' H' hh=> ih tm' H' K K' E E' hK hE hh) (fun v H' hh=> hE _ _ _ hh) h
 have dmono:∀(t:DT) (tm:Nat->Value) (H:AH D) (K K':(Nat->Value)->AH D->Prop) (E E':Value->AH D->Prop),(∀v H,K v H->K' v H)->(∀v H,E v H->E' v H)->t.wp C.call tm H K E->t.wp C.call tm H K' E':=by
  intro t
  induction t with
  |nil=> intro tm H K K' E E' hK _ h;exact hK _ _ h
  |quiet i t ih=> intro tm H K K' E E' hK hE h;exact imono i tm H _ _ _ _ (fun tm' H' hh=> ih tm' H' K K' E E' hK hE hh) (fun v H' hh=> hE v H' hh) h
  |loud i chk t ih=> intro tm H K K' E E' hK hE h;exact imono i tm H _ _ _ _ (fun tm' H' hh=> ⟨hh.1,ih tm' H' K K' E E' hK hE hh.2⟩) (fun v H' hh=> hE v H' hh) h
  |both a b iha ihb=> intro tm H K K' E E' hK hE h;exact⟨iha tm H K K' E E' hK hE h.1,ihb tm H K K' E E' hK hE h.2⟩
  |bad=> intro tm H K K' E E' hK _ h;exact h
 intro c
 induction c with
 |skip=> intro Q Q' tm H hq h;exact hq _ _ _ h
 |reg l=> intro Q Q' tm H hq h;exact lmono l tm H _ _ _ _ (fun _ _ hh=> hq _ _ _ hh) (fun _ _ _ hh=> hq _ _ _ hh) h
 |dreg l=>
  intro Q Q' tm H hq h
  exact dmono l tm _ _ _ _ _ (fun _ _ hh=> hq _ _ _ hh) (fun v H' hh tm'=> hq _ _ _ (hh tm')) h
 |seq a b iha ihb=>
  intro Q Q' tm H hq h
  refine iha _ _ tm H (fun e tm' H' hh=> ?_) h
  cases e with
  |normal=> exact ihb _ _ tm' H' hq hh
  |_=> exact hq _ _ _ hh
 |cond c a b iha ihb=>
  intro Q Q' tm H hq h
  simp only[AC.wp] at h⊢
  split at h
  ·split at h
   ·rename_i hb
    try rw[if_pos hb]
    exact iha _ _ tm H hq h
   ·rename_i hb
    try rw[if_neg hb]
    exact ihb _ _ tm H hq h
  ·exact h.elim
 |block id a ih=>
  intro Q Q' tm H hq h
  refine ih _ _ tm H (fun e tm' H' hh=> ?_) h
  cases e with
  |exit j=>
   simp only at hh⊢
   split at hh
   ·rename_i hj;rw[if_pos hj];exact hq _ _ _ hh
   ·rename_i hj;rw[if_neg hj];exact hq _ _ _ hh
  |_=> exact hq _ _ _ hh
 |loop a ih=>
  intro Q Q' tm H hq h
  have key:∀N m tm H,zIe C.view N (a.wp C F) m Q tm H->zIe C.view N (a.wp C F) m Q' tm H:=by
   intro N m
   induction m with
   |zero=> intro tm H h;exact h
   |succ m ihm=>
    intro tm H h
    refine ih _ _ tm H (fun e tm' H' hh=> ?_) h
    cases e with
    |normal=>
     rcases hh with hh|⟨tm2,H2,hs,hh⟩
     ·exact .inl (ihm tm' H' hh)
     ·exact .inr ⟨tm2,H2,hs,ihm tm2 H2 hh⟩
    |_=> exact hq _ _ _ hh
  rcases h with h|⟨tm2,H2,hs,h⟩
  ·exact .inl (key H.next F tm H h)
  ·exact .inr ⟨tm2,H2,hs,key H.next F tm2 H2 h⟩
 |exit id=> intro Q Q' tm H hq h;exact hq _ _ _ h
 |scope a ih=>
  intro Q Q' tm H hq h
  refine ih _ _ tm H (fun e tm' H' hh=> ?_) h
  cases e with
  |goto l=> exact hh.elim
  |_=> exact hq _ _ _ hh
 |label l=> intro Q Q' tm H hq h;exact hq _ _ _ h
 |goto l=> intro Q Q' tm H hq h;exact hq _ _ _ h
 |ret=> intro Q Q' tm H hq h;exact hq _ _ _ h
 |rfunc f ps a b iha ihb=>
  intro Q Q' tm H hq h
  simp only[AC.wp] at h⊢
  split at h
  ·intro r
   have hY:zFy (zSo H.next r ps (a.wp C F) (b.wp C F) tm):=fun k args H K K' hk hh=> by
    refine⟨hh.1,hh.2.1,hh.2.2.1,iha _ _ _ _ (fun e tm1 H1 h1=> ?_) hh.2.2.2⟩
    cases e with
    |normal=>
     refine⟨h1.1,ihb _ _ _ _ (fun e2 tm2 H2 h2=> ⟨h2.1,?_⟩) h1.2⟩
     have:=h2.2
     cases e2<;> first|exact hk _ _ this|exact this
    |_=> exact h1.elim
   refine sm.2 _ hY _ _ _ _ _ (fun r H' hh=> ?_) (h r)
   ·cases r with
    |ret v=>
     simp only[zKf] at hh⊢
     split at hh
     ·exact hq _ _ _ hh
     ·rename_i j _
      cases j<;> exact hq _ _ _ hh
     ·exact hh.elim
    |pan v=> exact hq _ _ _ hh
  ·exact h.elim
section
variable {F:Fence} {m:Nat} {b:Frame} {a:Act} {k:List Item} {cs:List Frame} {w:World} {Q:Exit->Act->World->Prop}
theorem zE4 {c:Code}:step P (lone (b.atR a (.code (.scope c)::k)) cs w)=.next (lone (b.atR a (.code c::.inScope c::k)) cs w):=
 step_lone_go (by simp[stepG,stepG.exec,Frame.atR])
theorem zRi {c:Code}:step P (lone (b.atR a (.inScope c::k)) cs w)=.next (lone (b.atR a k) cs w):=
 step_lone_go (by simp[stepG,stepG.exec,Frame.atR])
theorem zK9 {c:Code} (h:c.wpIn F m P (Exit.noGoto Q) a w):(Code.scope c).wpIn F m P Q a w:=by
 intro b k cs hro hb hr
 have h0:(lone (b.atR a (.code (.scope c)::k)) cs w).fenced P F:=fenced_calm hb hr rfl
 obtain⟨e,a₁,w₁,hq,harr⟩:=h b (.inScope c::k) cs hro hb hr
 cases e with
 |normal=> exact⟨.normal,a₁,w₁,hq,.head h0 zE4 (StepsIn.trans harr (.one (fenced_calm hb hr rfl) zRi))⟩
 |exit id=>
  have hx:exitTo id (.inScope c::k)=exitTo id k:=by simp[exitTo]
  exact⟨.exit id,a₁,w₁,hq,fun k' hk=> .head h0 zE4 (harr.1 k' (by rw[hx];exact hk)),
   fun hr' hk=> let ⟨k₁,h1,h2⟩:=harr.2 hr' (by rw[hx];exact hk);⟨k₁,h1,.head h0 zE4 h2⟩⟩
 |goto l=> exact hq.elim
 |ret=> exact⟨_,a₁,w₁,hq,.of_steps (.one h0 zE4) harr⟩
 |panic ch=> exact⟨_,a₁,w₁,hq,.of_steps (.one h0 zE4) harr⟩
 |outgrown=> exact⟨_,a₁,w₁,hq,.of_steps (b:=b) (k:=k) (cs:=cs) (e:=.outgrown) (.one h0 zE4) harr⟩
end
theorem zT3 {ρ:Env}:∀{ps:List Nat} {vs vs':List Value} {tm:Nat->Value} {tmps:Array Value},xN ρ n tm tmps->VRs ρ vs vs'->vs.length=ps.length->xN ρ n (zLr tm ps vs) ((ps.zip vs').foldl (fun tmps p=> tmps.setIfInBounds p.1 p.2) tmps)
 |[],vs,vs',tm,tmps,h,_,_=> by cases vs<;> exact h
 |t::ps,[],vs',tm,tmps,h,hv,hl=> by simp at hl
 |t::ps,v::vs,_,tm,tmps,h,.cons _ v' _ vs' h1 h2,hl=> zT3 (ps:=ps) (tm:=upd tm t v) (tmps:=tmps.setIfInBounds t v') (h.put h1) h2 (by simpa using hl)
theorem Rel.freePut {ρ:Env} {own:Nat->Nat->Prop} {H:AH D} {w w':World} (h:Rel P cfg ρ own H w) {b:Nat} (hf:∀k,¬own k b) (hnc:∀cs e fr,w.heap[b]?≠some (.cells cs e fr))
  (hsz:w'.heap.size=w.heap.size) (hoth:∀i,i≠b->w'.heap[i]?=w.heap[i]?):Rel P cfg ρ own H w':=by
 refine⟨h.fresh,h.dom,fun k o hk=> ?_,h.gone,fun k i hi=> by rw[hsz];exact h.bound k i hi,h.disj,h.ro⟩
 refine (h.obj k o hk).keep P cfg ρ.le_refl (fun i hi=> hoth i fun e=> hf k (e▸hi)) (fun cs l hx hcs hl=> hoth l.b fun e=> ?_)
 subst hx
 obtain⟨l',cs',e',fr,h1,h3,_⟩:=(h.obj k _ hk).2 hcs
 rw[hl] at h1;cases h1
 exact hnc _ _ _ (e▸h3)
theorem Rel.allocFree {ρ:Env} {own:Nat->Nat->Prop} {H:AH D} {w:World} (h:Rel P cfg ρ own H w) (x:Obj):Rel P cfg ρ own H (w.alloc x):=by
 refine⟨h.fresh,h.dom,fun k o hk=> ?_,h.gone,fun k i hi=> by have:=h.bound k i hi;simp;omega,h.disj,h.ro⟩
 refine (h.obj k o hk).keep P cfg ρ.le_refl (fun i hi=> Below.heap_alloc w x i (h.bound k i hi)) (fun cs l hx hcs hl=> ?_)
 subst hx
 obtain⟨l',cs',e',fr,h1,h3,_⟩:=(h.obj k _ hk).2 hcs
 rw[hl] at h1;cases h1
 exact Below.heap_alloc w x _ (Array.getElem?_eq_some_iff.1 h3).1
theorem Ext.allocFree {ρ:Env} {own:Nat->Nat->Prop} {w:World} (x:Obj):Ext ρ own w ρ own (w.alloc x):=
 ⟨ρ.le_refl,fun k b h=> .inl ⟨k,h⟩,by simp,fun b hb _=> Below.heap_alloc w x b hb,rfl,rfl,rfl⟩
theorem Ext.freePut {ρ:Env} {own own1:Nat->Nat->Prop} {w0 w w':World} {ρ1:Env} (e:Ext ρ own w0 ρ1 own1 w) {b:Nat} (hn:w0.heap.size<=b) (hsz:w'.heap.size=w.heap.size) (hoth:∀i,i≠b->w'.heap[i]?=w.heap[i]?) (h1:w'.os=w.os) (h2:w'.tape=w.tape) (h3:w'.output=w.output):Ext ρ own w0 ρ1 own1 w':=
 ⟨e.le,e.owned,by rw[hsz];exact e.size,fun i hi hk=> (hoth i (by omega)).trans (e.kept i hi hk),h1.trans e.os,h2.trans e.tape,h3.trans e.output⟩
theorem zCc (w:World) (b:Nat) (o:Obj):∀i,i≠b->(w.putObj b o).heap[i]?=w.heap[i]?:=fun _ h=> World.putObj_heap_other h
theorem Rel.record {ρ:Env} {own:Nat->Nat->Prop} {H:AH D} {w:World} (h:Rel P cfg ρ own H w) {k:Nat} {r:Loop} {st:Nat} {p:Option Jmp} (hk:H.get k=some (.loopr r st p)):
 ∃l,ρ.loc k=some l/\(∀i,own k i↔i=l.b)/\w.heap[l.b]?=some (.loop { r with state:=zI0 st,pending:=p.map Jmp.code }):=h.obj k _ hk
theorem Rel.recPut {ρ:Env} {own:Nat->Nat->Prop} {H:AH D} {w:World} (h:Rel P cfg ρ own H w) {k:Nat} {r:Loop} {st:Nat} {p:Option Jmp} (hk:H.get k=some (.loopr r st p)) {l:Loc} (hl:ρ.loc k=some l) (st2:Nat) (p2:Option Jmp):
  Rel P cfg ρ own (H.upd k (.loopr r st2 p2)) (w.putObj l.b (.loop { r with state:=zI0 st2,pending:=p2.map Jmp.code }))/\Ext ρ own w ρ own (w.putObj l.b (.loop { r with state:=zI0 st2,pending:=p2.map Jmp.code })):=by
 obtain⟨l',h1,h2,h3⟩:=h.record hk
 rw[hl] at h1;cases h1
 have hlt:l.b<w.heap.size:=(Array.getElem?_eq_some_iff.1 h3).1
 exact⟨h.turn hk h2 (by simp) (zCc _ _ _) ⟨l,hl,h2,World.putObj_heap_same hlt⟩ (fun cs h=> by cases h),Ext.turn ((h2 _).2 rfl) (by simp) (zCc _ _ _) rfl rfl rfl⟩
theorem zM5 {ρ0:Env} (hmix:P.follows .mixedOrders=true) {C:Sg D} (hC:SgOk P cfg ρ0 C) (sm:zD8 C) (hext:ExtOk P ext) (F:Nat):∀(c:Code) (ac:AC),zBh P ext n c=some ac->∀(ro:Option Nat),(ro=none∨ac.flat=true)->∀(Qa:AExit->(Nat->Value)->AH D->Prop) (tm:Nat->Value) (H:AH D),ac.wp C F Qa tm H->
  ∀(ρ:Env) (own:Nat->Nat->Prop) (w:World) (a:Act) (N:Nat) (D0:List Deferred),ρ0.le ρ->xN ρ n tm a.tmps->Rel P cfg ρ own H w->N<=w.heap.size->zA1 N D0 own w a.defers->c.wpIn (Fw ro) 0 P (zVi cfg n P ρ own w N D0 ac.flat a.defers Qa) a w:=by
 have mono:=sm.1
 intro c
 induction c with
 |skip=>
  intro ac hc ro hro Qa tm H h ρ own w a N D0 h0 htm hr hN hD
  simp[zBh] at hc;subst hc
  exact wpIn_skip ⟨_,_,_,_,_,h,trivial,htm,Ext.refl _ _ _,hr,hD,fun _=> rfl⟩
 |region id ops draw=>
  intro ac hc ro hro Qa tm H h ρ own w a N D0 h0 htm hr hN hD
  cases draw with
  |false=>
   simp only[zBh,Option.map_eq_some_iff] at hc
   obtain⟨is,his,rfl⟩:=hc
   refine wpIn_region_list (zMy hC hext _ is his ρ own H w tm a h0 htm hr _ _ h (fun tm' H' a' w' ρ' own' k e t r d=> ?_) (fun v tm' H' v' a' w' ρ' own' k e hv t r d=> ?_))
   ·exact⟨_,_,_,_,_,k,trivial,t,e,r,by rw[d];exact hD.onw e,fun _=> d⟩
   ·exact⟨_,_,_,_,_,k,⟨_,rfl,hv⟩,t,e,r,by rw[d];exact hD.onw e,fun _=> d⟩
  |true=>
   simp only[zBh,Option.map_eq_some_iff] at hc
   obtain⟨t,ht,rfl⟩:=hc
   obtain⟨ρ0,own0,hr0,hle0,hown0⟩:=zSq hC t tm H ρ own w hr
   exact qPp hmix hC.call mono hext ht (Env.le_trans h0 hle0) (htm.mono hle0) hr0 h (fun tm' H' ρ' own' a' w' k e t r d=> ⟨_,_,_,_,_,k,trivial,t,(xV.toExt (H:=H) (H1:=H) hle0 hown0).trans e,r,by rw[d];exact hD.onw ((xV.toExt (H:=H) (H1:=H) hle0 hown0).trans e),fun _=> d⟩)
    fun v v' tm' H' ρ' own' a' w' k e hv t r d=> ⟨_,_,_,_,_,k tm',⟨_,rfl,hv⟩,t,(xV.toExt (H:=H) (H1:=H) hle0 hown0).trans e,r,by rw[d];exact hD.onw ((xV.toExt (H:=H) (H1:=H) hle0 hown0).trans e),fun _=> d⟩
 |seq x y ihx ihy=>
  intro ac hc ro hro Qa tm H h ρ own w a N D0 h0 htm hr hN hD
  simp only[zBh,Option.bind_eq_some_iff,Option.map_eq_some_iff] at hc
  obtain⟨ax,hax,ay,hay,rfl⟩:=hc
  have hfx:ro=none∨ax.flat=true:=hro.imp id fun h=> by simp only[AC.flat,Bool.and_eq_true] at h;exact h.1
  have hfy:ro=none∨ay.flat=true:=hro.imp id fun h=> by simp only[AC.flat,Bool.and_eq_true] at h;exact h.2
  refine wpIn_seq (Code.wpIn_mono (fun e a1 w1 hl=> ?_) (ihx ax hax ro hfx _ tm H h ρ own w a N D0 h0 htm hr hN hD))
  obtain⟨ae,tm1,H1,ρ1,own1,k,x1,t1,e1,r1,d1,f1⟩:=hl
  have hsp:(AC.seq ax ay).flat=true->ax.flat=true/\ay.flat=true:=fun h=> by simpa only[AC.flat,Bool.and_eq_true] using h
  cases ae<;> cases e<;> simp only[XR] at x1
  ·exact Code.wpIn_mono (fun e2 a2 w2 hl2=> hl2.trans cfg n (fun hh=> ⟨(hsp hh).2,f1 (hsp hh).1⟩) e1) (ihy ay hay ro hfy Qa tm1 H1 k ρ1 own1 w1 a1 N D0 (Env.le_trans h0 e1.le) t1 r1 (Nat.le_trans hN e1.size) d1)
  ·exact⟨_,_,_,_,_,k,x1,t1,e1,r1,d1,fun hh=> f1 (hsp hh).1⟩
  ·exact⟨_,_,_,_,_,k,x1,t1,e1,r1,d1,fun hh=> f1 (hsp hh).1⟩
  ·exact⟨_,_,_,_,_,k,x1,t1,e1,r1,d1,fun hh=> f1 (hsp hh).1⟩
  ·exact⟨_,_,_,_,_,k,x1,t1,e1,r1,d1,fun hh=> f1 (hsp hh).1⟩
 |cond c x y ihx ihy=>
  intro ac hc ro hro Qa tm H h ρ own w a N D0 h0 htm hr hN hD
  simp only[zBh,Option.bind_eq_some_iff,Option.map_eq_some_iff] at hc
  obtain⟨c',hc',ax,hax,ay,hay,rfl⟩:=hc
  have hv:=jR htm hc'
  simp only[AC.wp] at h
  split at h
  case h_2=> exact h.elim
  rename_i t ht
  rw[ht] at hv
  cases t with
  |true=> exact wpIn_cond_true hv.bool_eq (Code.wpIn_mono (fun e2 a2 w2 hl2=> hl2.trans cfg n (fun hh=> ⟨by simp only[AC.flat,Bool.and_eq_true] at hh;exact hh.1,rfl⟩) (Ext.refl _ _ _))<|ihx ax hax ro (hro.imp id fun h=> by simp only[AC.flat,Bool.and_eq_true] at h;exact h.1) Qa tm H (by simpa using h) ρ own w a N D0 h0 htm hr hN hD)
  |false=> exact wpIn_cond_false hv.bool_eq (Code.wpIn_mono (fun e2 a2 w2 hl2=> hl2.trans cfg n (fun hh=> ⟨by simp only[AC.flat,Bool.and_eq_true] at hh;exact hh.2,rfl⟩) (Ext.refl _ _ _))<|ihy ay hay ro (hro.imp id fun h=> by simp only[AC.flat,Bool.and_eq_true] at h;exact h.2) Qa tm H (by simpa using h) ρ own w a N D0 h0 htm hr hN hD)
 |block id x ih=>
  intro ac hc ro hro Qa tm H h ρ own w a N D0 h0 htm hr hN hD
  simp only[zBh,Option.map_eq_some_iff] at hc
  obtain⟨ax,hax,rfl⟩:=hc
  refine wpIn_block (Code.wpIn_mono (fun e a1 w1 hl=> ?_) (ih ax hax ro hro _ tm H h ρ own w a N D0 h0 htm hr hN hD))
  obtain⟨ae,tm1,H1,ρ1,own1,k,x1,t1,e1,r1,d1,f1⟩:=hl
  cases ae<;> cases e<;> simp only[XR] at x1
  ·exact⟨_,_,_,_,_,k,trivial,t1,e1,r1,d1,f1⟩
  ·rename_i i j
   subst x1
   simp only[Exit.inBlock] at k⊢
   by_cases hij:i=id
   ·rw[if_pos hij] at k⊢;exact⟨_,_,_,_,_,k,trivial,t1,e1,r1,d1,f1⟩
   ·rw[if_neg hij] at k⊢;exact⟨_,_,_,_,_,k,rfl,t1,e1,r1,d1,f1⟩
  ·exact⟨_,_,_,_,_,k,x1,t1,e1,r1,d1,f1⟩
  ·exact⟨_,_,_,_,_,k,x1,t1,e1,r1,d1,f1⟩
  ·exact⟨_,_,_,_,_,k,x1,t1,e1,r1,d1,f1⟩
 |loop x ih=>
  intro ac hc ro hro Qa tm H h ρ own w a N D0 h0 htm hr hN hD
  simp only[zBh,Option.map_eq_some_iff] at hc
  obtain⟨ax,hax,rfl⟩:=hc
  have hNn:∀i x,ρ.loc i=some x->i<H.next:=fun i x hx=> Nat.lt_of_not_le fun hle=> by rw[hr.dom i hle] at hx;cases hx
  have key:∀(m:Nat) (tm1:Nat->Value) (H1:AH D),zIe C.view H.next (ax.wp C F) m Qa tm1 H1->∀(ρ1:Env) (own1:Nat->Nat->Prop) (w1:World) (a1:Act),xN ρ1 n tm1 a1.tmps->Rel P cfg ρ1 own1 H1 w1->
    Ext ρ own w ρ1 own1 w1->zA1 N D0 own1 w1 a1.defers->(ax.flat=true->a1.defers=a.defers)->Code.roundsIn (Fw ro) 0 P x (zVi cfg n P ρ own w N D0 ax.flat a.defers Qa) m a1 w1:=by
   intro m
   induction m with
   |zero=> intro tm1 H1 h;exact h.elim
   |succ m ihm=>
    intro tm1 H1 h ρ1 own1 w1 a1 htm1 hr1 he1 hd1 hf1
    rw[roundsIn_succ]
    refine Code.wpIn_mono (fun e a2 w2 hl=> ?_) (ih ax hax ro hro _ tm1 H1 h ρ1 own1 w1 a1 N D0 (Env.le_trans h0 he1.le) htm1 hr1 (Nat.le_trans hN he1.size) hd1)
    obtain⟨ae,tm2,H2,ρ2,own2,k,x2,t2,e2,r2,d2,f2⟩:=hl
    have f12:ax.flat=true->a2.defers=a.defers:=fun hh=> (f2 hh).trans (hf1 hh)
    have e12:=he1.trans e2
    cases ae<;> cases e<;> simp only[XR] at x2
    ·rcases k with k|⟨tm3,H3,hs,k⟩
     ·exact ihm tm2 H2 k ρ2 own2 w2 a2 t2 r2 e12 d2 f12
     ·obtain⟨ρ3,own3,s1,s2,s3,s4⟩:=hC.view _ _ _ _ _ hs ρ2 own2 w2 r2
      refine ihm tm3 H3 k ρ3 own3 w2 a2 ⟨t2.1,fun t ht=> s4 _ _ (t2.2 t ht)⟩ s1 ⟨fun i y hy=> s2 i (hNn i y hy) y (e12.le i y hy),fun j b hb=> ?_,e12.size,e12.kept,e12.os,e12.tape,e12.output⟩ (d2.onw (xV.toExt' (ρ:=ρ) s3)) f12
      obtain⟨j',hj'⟩:=s3 b ⟨j,hb⟩
      exact e12.owned j' b hj'
    ·exact⟨_,_,_,_,_,k,x2,t2,e12,r2,d2,f12⟩
    ·exact⟨_,_,_,_,_,k,x2,t2,e12,r2,d2,f12⟩
    ·exact⟨_,_,_,_,_,k,x2,t2,e12,r2,d2,f12⟩
    ·exact⟨_,_,_,_,_,k,x2,t2,e12,r2,d2,f12⟩
  rcases h with h|⟨tm3,H3,hs,h⟩
  ·exact wpIn_loop_rounds F (key F tm H h ρ own w a htm hr (Ext.refl _ _ _) hD fun _=> rfl)
  ·obtain⟨ρ3,own3,s1,s2,s3,s4⟩:=hC.view _ _ _ _ _ hs ρ own w hr
   refine wpIn_loop_rounds F (key F tm3 H3 h ρ3 own3 w a ⟨htm.1,fun t ht=> s4 _ _ (htm.2 t ht)⟩ s1 ⟨fun i y hy=> s2 i (hNn i y hy) y hy,fun j b hb=> .inl (s3 b ⟨j,hb⟩),Nat.le_refl _,fun _ _ _=> rfl,rfl,rfl,rfl⟩ (hD.onw (xV.toExt' (ρ:=ρ) s3)) fun _=> rfl)
 |exit id=>
  intro ac hc ro hro Qa tm H h ρ own w a N D0 h0 htm hr hN hD
  simp[zBh] at hc;subst hc
  exact wpIn_exit ⟨_,_,_,_,_,h,rfl,htm,Ext.refl _ _ _,hr,hD,fun _=> rfl⟩
 |scope x ih=>
  intro ac hc ro hro Qa tm H h ρ own w a N D0 h0 htm hr hN hD
  simp only[zBh,Option.map_eq_some_iff] at hc
  obtain⟨ax,hax,rfl⟩:=hc
  refine zK9 (Code.wpIn_mono (fun e a1 w1 hl=> ?_) (ih ax hax ro hro _ tm H h ρ own w a N D0 h0 htm hr hN hD))
  obtain⟨ae,tm1,H1,ρ1,own1,k,x1,t1,e1,r1,d1,f1⟩:=hl
  cases ae<;> cases e<;> simp only[XR] at x1
  ·exact⟨_,_,_,_,_,k,trivial,t1,e1,r1,d1,f1⟩
  ·exact⟨_,_,_,_,_,k,x1,t1,e1,r1,d1,f1⟩
  ·exact k.elim
  ·exact⟨_,_,_,_,_,k,x1,t1,e1,r1,d1,f1⟩
  ·exact⟨_,_,_,_,_,k,x1,t1,e1,r1,d1,f1⟩
 |label l=>
  intro ac hc ro hro Qa tm H h ρ own w a N D0 h0 htm hr hN hD
  simp[zBh] at hc;subst hc
  exact wpIn_label ⟨_,_,_,_,_,h,trivial,htm,Ext.refl _ _ _,hr,hD,fun _=> rfl⟩
 |goto l=>
  intro ac hc ro hro Qa tm H h ρ own w a N D0 h0 htm hr hN hD
  simp[zBh] at hc;subst hc
  exact wpIn_goto ⟨_,_,_,_,_,h,rfl,htm,Ext.refl _ _ _,hr,hD,fun _=> rfl⟩
 |ret=>
  intro ac hc ro hro Qa tm H h ρ own w a N D0 h0 htm hr hN hD
  simp[zBh] at hc;subst hc
  exact wpIn_ret ⟨_,_,_,_,_,h,trivial,htm,Ext.refl _ _ _,hr,hD,fun _=> rfl⟩
 |rangeFunc g ps x y ihx ihy=>
  intro ac hc ro hro Qa tm H h ρ own w a N D0 h0 htm hr hN hD
  simp only[zBh,Option.bind_eq_some_iff] at hc
  obtain⟨g',hg',ax,hax,ay,hay,hc⟩:=hc
  split at hc
  case isFalse=> cases hc
  rename_i hfl
  cases hc
  simp only[Bool.and_eq_true] at hfl
  have hro':ro=none:=hro.resolve_right (by simp[AC.flat])
  subst hro'
  have hgv:=jR htm hg'
  simp only[AC.wp] at h
  split at h
  case h_2=> exact h.elim
  rename_i gid fx fy he
  rw[he] at hgv
  have hge:∃x' y',a.eval g=.func (.func gid) x' y'/\VRs ρ fx.toList x'.toList/\VRs ρ fy.toList y'.toList:=by
   revert hgv
   generalize a.eval g=G
   intro hgv
   cases hgv
   exact⟨_,_,rfl,‹_›,‹_›⟩
  obtain⟨x',y',hge,hx,hy⟩:=hge
  refine wpIn_rangeFunc fun fn _=> ?_
  let rec0:Loop:={ state:=.ready,pending:=none,fn:=fn,tmps:=a.tmps,params:=ps,assign:=x,body:=y,defers:=w.heap.size }
  let w0:=w.alloc (.deferred (some []))
  let w1:=w0.alloc (.loop rec0)
  let l:Loc:=⟨w0.heap.size,0,0,0⟩
  have hr0:Rel P cfg ρ own H w0:=hr.allocFree _
  have hr1:Rel P cfg (ρ.put H.next l) (fun j b=> if j=H.next then b=w0.heap.size else own j b) (H.add (.loopr rec0 0 none)) w1:=
   hr0.alloc (.loop rec0) (by intro cs h;cases h) 0 0 ⟨l,by rw[Env.loc_put,if_pos rfl],fun i=> Iff.rfl,World.alloc_heap_new w0 _⟩
  have e1:Ext ρ own w (ρ.put H.next l) (fun j b=> if j=H.next then b=w0.heap.size else own j b) w1:=(Ext.allocFree _).trans (Ext.alloc hr0 _ l)
  have hput:(ρ.put H.next l).loc H.next=some l:=by rw[Env.loc_put,if_pos rfl]
  have hYm:zFy (zSo H.next rec0 ps.toList (ax.wp C F) (ay.wp C F) tm):=fun k args H K K' hk hh=> by
   refine⟨hh.1,hh.2.1,hh.2.2.1,AC.mono sm F ax _ _ _ _ (fun e tm1 H1 h1=> ?_) hh.2.2.2⟩
   cases e with
   |normal=>
    refine⟨h1.1,AC.mono sm F ay _ _ _ _ (fun e2 tm2 H2 h2=> ⟨h2.1,?_⟩) h1.2⟩
    have:=h2.2
    cases e2<;> first|exact hk _ _ this|exact this
   |_=> exact h1.elim
  have hY:zSm P cfg (ρ.put H.next l) (zSo H.next rec0 ps.toList (ax.wp C F) (ay.wp C F) tm):=by
   rintro k args Hy K ⟨rfl,hget,hlen,haw⟩
   intro ρ2 own2 w2 args' l2 hle hr2 hv hl2
   have hl2':=hle _ _ hput
   rw[hl2] at hl2';cases hl2'
   have hle2:ρ.le ρ2:=Env.le_trans e1.le hle
   obtain⟨l',q1,q2,q3⟩:=hr2.record hget
   rw[hl2] at q1;cases q1
   refine⟨_,_,_,_,run_yield q3 (by have:=hv.length;simp at this hlen;show args'.size=ps.size;omega),?_⟩
   refine roundIn_of_wpIn trivial ?_
   have hT:xN ρ2 n (zLr tm ps.toList args) ((ps.zip args').foldl (fun tmps p=> tmps.setIfInBounds p.1 p.2) a.tmps):=by
    have:=zT3 (htm.mono hle2) hv (ps:=ps.toList) hlen
    rw[←Array.foldl_toList,Array.toList_zip]
    exact this
   refine Code.wpIn_mono (fun e a3 w3 hl3=> ?_) (ihx ax hax (some l.b) (.inr hfl.1.2) _ _ Hy haw ρ2 own2 w2 { tmps:=_,defers:=[] } w2.heap.size [] (Env.le_trans h0 hle2) hT hr2 (Nat.le_refl _) (zA1.none _ _ _ _))
   obtain⟨ae,tm3,H3,ρ3,own3,k3,x3,t3,e3,r3,d3,_⟩:=hl3
   cases ae<;> cases e<;> simp only[XR] at x3<;> simp only[zQi] at k3
   obtain⟨k3a,k3b⟩:=k3
   have hl3:ρ3.loc H.next=some l:=e3.le _ _ hl2
   obtain⟨_,p1,p2,p3⟩:=r3.record k3a
   rw[hl3] at p1;cases p1
   obtain⟨r4,e4⟩:=r3.recPut k3a hl3 1 none
   refine⟨_,run_beginRound p3 rfl,?_⟩
   refine Code.wpIn_mono (fun e a5 w5 hl5=> ?_) (ihy ay hay (some l.b) (.inr hfl.2) _ _ _ k3b ρ3 own3 _ a3 w2.heap.size a3.defers (Env.le_trans (Env.le_trans h0 hle2) e3.le) t3 r4 (Nat.le_trans e3.size e4.size) (zA1.none _ _ _ _))
   obtain⟨ae,tm5,H5,ρ5,own5,⟨k5,k6⟩,x5,t5,e5,r5,d5,_⟩:=hl5
   have hl5:ρ5.loc H.next=some l:=e5.le _ _ hl3
   obtain⟨_,s1,s2,s3⟩:=r5.record k5
   rw[hl5] at s1;cases s1
   have e25:=(e3.trans e4).trans e5
   cases ae<;> cases e<;> simp only[XR] at x5<;> simp only at k6
   ·obtain⟨r6,e6⟩:=r5.recPut k5 hl5 0 none
    exact⟨_,_,run_endRound none s3,_,_,_,_,k6,e25.trans e6,VR.bool true,r6⟩
   ·rename_i i j;subst x5
    obtain⟨r6,e6⟩:=r5.recPut k5 hl5 2 (some (.exit i))
    exact⟨_,_,run_endRound _ s3,_,_,_,_,k6,e25.trans e6,VR.bool false,r6⟩
   ·rename_i i j;subst x5
    obtain⟨r6,e6⟩:=r5.recPut k5 hl5 2 (some (.goto i))
    exact⟨_,_,run_endRound _ s3,_,_,_,_,k6,e25.trans e6,VR.bool false,r6⟩
   ·obtain⟨r6,e6⟩:=r5.recPut k5 hl5 2 (some .ret)
    exact⟨_,_,run_endRound _ s3,_,_,_,_,k6,e25.trans e6,VR.bool false,r6⟩
  obtain⟨hin,hcalls⟩:=hC.iter _ _ (Env.le_trans h0 e1.le) hY hYm _ _ _ _ (h rec0)
  refine⟨w0.heap.size,[⟨.collected w.heap.size,#[]⟩],w1,⟨.fn (.func gid) y',x'++#[.func (.yield w0.heap.size) #[] #[]]⟩,w1,gid,x'++#[.func (.yield w0.heap.size) #[] #[]]++y',w1,?_,?_,fun _ _=> trivial,?_,zM1,?_⟩
  ·have:=run_enterLoop_outer (P:=P) (w:=w) fn a.tmps ps x y
   simpa [w0,w1,rec0] using this
  ·have hm:Array.map a.eval #[Operand.const (Value.func (Fn.yield w0.heap.size) #[] #[])]=#[Value.func (Fn.yield w0.heap.size) #[] #[]]:=by
    apply Array.ext'
    simp
    rfl
   simp only[resolve,Sem.run_bind,Sem.run_pure,Result.andThen_ok,hge,Deferred.ofValue,hm]
  ·exact hin _ w1
  ·refine zU3 _ ((hcalls _ _ w1 _ (Env.le_refl _) hr1 ?_).mono fun e w3 hp=> ?_)
   ·have hyl:VR (ρ.put H.next l) (.func (.yield H.next) #[] #[]) (.func (.yield w0.heap.size) #[] #[]):=.yld H.next l hput
    have:=((VRs.mono e1.le hx).append (.cons _ _ _ _ hyl .nil)).append (VRs.mono e1.le hy)
    simpa using this
   ·obtain⟨r',H',ρ',own',hk,e13,hend,r3⟩:=hp
    have hl3:ρ'.loc H.next=some l:=e13.le _ _ hput
    have eAll:=e1.trans e13
    have hD1:=(hD.onw e1).onw e13
    have hb0:w3.heap[w.heap.size]?=some (.deferred (some []))/\∀k,¬own' k w.heap.size:=by
     have hf:∀k,¬(if k=H.next then w.heap.size=w0.heap.size else own k w.heap.size):=fun k hk=> by
      split at hk
      ·simp[w0] at hk
      ·have:=hr.bound _ _ hk;omega
     have hlt:w.heap.size<w1.heap.size:=by simp[w1,w0];omega
     refine⟨(e13.kept _ hlt hf).trans ?_,fun k hk=> ?_⟩
     ·show (w0.alloc _).heap[w.heap.size]?=_
      rw[Below.heap_alloc w0 _ _ (by simp[w0])]
      exact World.alloc_heap_new w _
     ·rcases e13.owned _ _ hk with ⟨k0,h0⟩|h0
      ·exact hf k0 h0
      ·omega
    have hMarks:∀(own2:Nat->Nat->Prop) (w4:World),(∀k b,own2 k b->own' k b)->(∀i,i≠w0.heap.size->w4.heap[i]?=w3.heap[i]?)->zA1 N D0 own2 w4 ([⟨.collected w.heap.size,#[]⟩]++a.defers):=by
     intro own2 w4 ho hw
     obtain⟨bs,b1,b2,b3⟩:=hD
     have hbs:∀b∈bs,b<w.heap.size:=fun b hb=> (Array.getElem?_eq_some_iff.1 (b3 b hb).2.1).1
     obtain⟨bs',c1,c2,c3⟩:=hD1
     have hbb:bs'=bs:=by
      rw[b2] at c2
      have:=List.append_cancel_right c2
      have inj:∀{x y:List Nat},x.map (fun b=> (⟨.collected b,#[]⟩:Deferred))=y.map (fun b=> ⟨.collected b,#[]⟩)->x=y:=by
       intro x
       induction x with
       |nil=> intro y h;cases y<;> simp_all
       |cons a x ih=> intro y h;cases y with
        |nil=> simp at h
        |cons b y=> simp at h;rw[h.1,ih (by simpa using h.2)]
      exact (inj this).symm
     subst hbb
     refine⟨w.heap.size::bs',List.nodup_cons.2 ⟨fun h=> by have:=hbs _ h;omega,b1⟩,by rw[b2];rfl,fun b hb=> ?_⟩
     rcases List.mem_cons.1 hb with rfl|hb
     ·exact⟨hN,(hw _ (by simp[w0])).trans hb0.1,fun k hk=> hb0.2 k (ho k _ hk)⟩
     ·obtain⟨d1,d2,d3⟩:=c3 b hb
      exact⟨d1,(hw _ (by have:=hbs b hb;simp[w0];omega)).trans d2,fun k hk=> d3 k (ho k _ hk)⟩
    have tm3:xN ρ' n tm a.tmps:=htm.mono eAll.le
    cases r' with
    |ret v=>
     cases e with
     |returned v'=>
      simp only[zKf] at hk
      have fin:∀{rr:Loop} {st:Nat} {p:Option Jmp},H'.get H.next=some (.loopr rr st p)->zI0 st≠.busy->∃w4,(Instr.endLoop w0.heap.size).run P w3=.ok (p.map Jmp.code) w4/\
        Rel P cfg ρ' (fun j b=> j≠H.next/\own' j b) (H'.del H.next) w4/\Ext ρ own w ρ' (fun j b=> j≠H.next/\own' j b) w4/\zA1 N D0 (fun j b=> j≠H.next/\own' j b) w4 ([⟨.collected w.heap.size,#[]⟩]++a.defers):=by
       intro rr st p hg hst
       obtain⟨_,s1,s2,s3⟩:=r3.record hg
       rw[hl3] at s1;cases s1
       have hlt:w0.heap.size<w3.heap.size:=(Array.getElem?_eq_some_iff.1 s3).1
       refine⟨_,run_endLoop s3 hst,(r3.forget H.next).freePut (b:=w0.heap.size) (fun k hk=> hk.1 (r3.disj k H.next _ hk.2 ((s2 _).2 rfl))) (fun cs e fr hh=> by rw[s3] at hh;cases hh) (by simp) (zCc _ _ _),
        (eAll.trans (Ext.forget H.next)).freePut (b:=w0.heap.size) (by simp[w0]) (by simp) (zCc _ _ _) rfl rfl rfl,hMarks _ _ (fun k b h=> h.2) (zCc _ _ _)⟩
      split at hk
      ·rename_i rr hg
       obtain⟨w4,f1,f2,f3,f4⟩:=fin hg (by simp[zI0])
       exact⟨_,w4,f1,_,_,_,_,_,hk,trivial,tm3,f3,f2,f4,fun hh=> by cases hh⟩
      ·rename_i rr j hg
       obtain⟨w4,f1,f2,f3,f4⟩:=fin hg (by simp[zI0])
       refine⟨_,w4,f1,?_⟩
       cases j with
       |ret=> exact wpIn_ret ⟨_,_,_,_,_,hk,trivial,tm3,f3,f2,f4,fun hh=> by cases hh⟩
       |exit i=> exact wpIn_exit ⟨_,_,_,_,_,hk,rfl,tm3,f3,f2,f4,fun hh=> by cases hh⟩
       |goto i=> exact wpIn_goto ⟨_,_,_,_,_,hk,rfl,tm3,f3,f2,f4,fun hh=> by cases hh⟩
      ·exact hk.elim
     |panicked c=> exact hend.elim
     |outgrown=> exact hend.elim
    |pan v=>
     cases e with
     |returned v'=> exact hend.elim
     |panicked c=>
      exact⟨_,_,_,_,_,hk,hend,tm3,eAll.trans (Ext.forget H.next),r3.forget H.next,hMarks _ _ (fun k b h=> h.2) (fun _ _=> rfl),fun hh=> by cases hh⟩
     |outgrown=> exact hend.elim
 |refuse why=> intro ac hc;simp[zBh] at hc
end
end Go.Abs
namespace Go.Abs
open Go.RowKit
inductive ARes where
 |t (n:Nat)
 |c (a:Nat) (agg:Bool) (sz:Nat)
 deriving Inhabited
inductive AB where
 |code (c:AC)
 |thn (a:AC) (b:AB)
 |dfr (l:List AIns) (x:Opd) (rest:AC)
 deriving Inhabited
structure AF where
 n:Nat
 res:List ARes
 body:AB
 rcv:Option Nat
 deriving Inhabited
section
variable {D:Type}
def ARes.ev (tm:Nat->Value) (H:AH D):ARes->Option Value
 |.t n=> some (tm n)
 |.c a ag sz=> match tm a with
  |.pointer (some ⟨k,o,none⟩)=> if ag then (H.many k o sz).map fun l=> .agg l.toArray else match H.row k with
   |some cs=> cs[o]?
   |none=> none
  |_=> none
def zJ9 (tm:Nat->Value) (H:AH D):List ARes->Option (List Value)
 |[]=> some []
 |r::l=> match r.ev tm H with
  |some v=> (zJ9 tm H l).map (v::·)
  |none=> none
def zLo (tm:Nat->Value) (H:AH D) (l:List ARes):Option Value:=
 match zJ9 tm H l with
 |some [v]=> some v
 |some vs=> some (.tuple vs.toArray)
 |none=> none
def zGv (args:List Value):Nat->Value:=fun t=> (args[t]?).getD undef
def zJo (C:Sg D) (g:FuncId) (as:List Value) (Q:AExit->(Nat->Value)->AH D->Prop):AExit->(Nat->Value)->AH D->Prop:=fun e tm H=> match e with
 |.normal|.ret=> C.call (.dfr g) (.nilIface::as) H fun _ H'=> Q .ret tm H'
 |.pan v=> match v with
  |.iface t x=> C.call (.dfr g) (.iface t x::as) H fun _ H'=> Q .ret tm H'
  |_=> False
 |_=> False
def AB.wp (C:Sg D) (F:Nat):AB->(AExit->(Nat->Value)->AH D->Prop)->(Nat->Value)->AH D->Prop
 |.code c,Q,tm,H=> c.wp C F Q tm H
 |.thn a b,Q,tm,H=> a.wp C F (fun e tm' H'=> match e with
  |.normal=> b.wp C F Q tm' H'
  |e=> Q e tm' H') tm H
 |.dfr l x rest,Q,tm,H=> zBc C l tm H (fun tm' H'=> match x.ev tm' with
  |.func (.func g) u v=> rest.wp C F (zJo C g (u.toList++v.toList) Q) tm' H'
  |_=> False) (fun v=> Q (.pan v))
def AF.end_ (res:List ARes) (K:AEnd->AH D->Prop):AExit->(Nat->Value)->AH D->Prop:=fun e tm H'=> match e with
 |.normal|.ret=> match zLo tm H' res with
  |some v=> K (.ret v) H'
  |none=> False
 |.pan v=> K (.pan v) H'
 |_=> False
def AF.run (C:Sg D) (F:Nat) (af:AF) (args:List Value) (H:AH D) (K:AEnd->AH D->Prop):Prop:=
 af.rcv=none/\args.length<=af.n/\af.body.wp C F (AF.end_ af.res K) (zGv args) H
def AF.runD (C:Sg D) (F:Nat) (af:AF) (args:List Value) (H:AH D) (K:AEnd->AH D->Prop):Prop:=
 match args,af.rcv,af.body with
 |rv::as,some d,.code c=> af.res=[]/\as.length<=af.n/\c.wp C F (fun e _ H'=> match e with
  |.normal|.ret=> K (.ret undef) H'
  |_=> False) (upd (zGv as) d rv) H
 |_,_,_=> False
def zAf (G:zAx D->(zDu D->zAx D)->Sg D) (S:FuncId->Option (List Value->AH D->(AEnd->AH D->Prop)->Prop)) (T:FuncId->Option AF) (F:Nat):Nat->zDu D->zAx D
 |0,Y,t,args,H,K=> match t with
  |.yld k=> Y k args H K
  |.fn f=> match S f with
   |some c=> c args H K
   |none=> False
  |.dfr _=> False
 |d+1,Y,t,args,H,K=> match t with
  |.yld k=> Y k args H K
  |.fn f=> match S f with
   |some c=> c args H K
   |none=> match T f with
    |some af=> af.run (G (zAf G S T F d Y) (zAf G S T F d)) F args H K
    |none=> False
  |.dfr f=> match T f with
   |some af=> af.runD (G (zAf G S T F d Y) (zAf G S T F d)) F args H K
   |none=> False
def noY:zDu D:=fun _ _ _ _=> False
variable (P:Program) (ext:FuncId->Option Ext1)
def zD1 (n:Nat):List ResultVar->Option (List ARes)
 |[]=> some []
 |.tmp t::l=> if t<n then (zD1 n l).map (.t t::·) else none
 |.cell a t::l=> if a<n then (zFx P t).bind fun g=> (zBk P t).bind fun s=> (zD1 n l).map (.c a g s::·) else none
def qKm (n:Nat) (o:Oper):Option Opd:=match o.op with
 |.defer c=> match c.callee with
  |.value f=> if o.dst.isNone && o.guard.isNone && c.args.isEmpty then jF n f else none
  |_=> none
 |_=> none
def zJj (n:Nat):Code->Option AB
 |.seq (.region _ ops false) b=> match zDd P ext n ops ops.toList with
  |some is=> (zJj n b).map (.thn (.reg is))
  |none=> match ops.toList.getLast? with
   |some o=> (zDd P ext n ops ops.toList.dropLast).bind fun is=> (qKm n o).bind fun x=> (zBh P ext n b).map fun r=> .dfr is x r
   |none=> none
 |.seq a b=> (zBh P ext n a).bind fun a=> (zJj n b).map (.thn a)
 |_=> none
def zQ6 (o:Oper):Option Nat:=match o.op with
 |.call c=> match c.callee with
  |.builtin .recover=> if o.guard.isNone then o.dst else none
  |_=> none
 |_=> none
def zZz (n:Nat):Code->Option (AC × Nat)
 |.seq (.region _ ops false) b=> match ops.toList with
  |o::l=> (zQ6 o).bind fun d=> if d<n then (zDd P ext n ops l).bind fun is=> (zBh P ext n b).bind fun r=> if r.flat then some (.seq (.reg is) r,d) else none else none
  |[]=> none
 |_=> none
def zPa (n:Nat) (c:Code):Option (AB × Option Nat):=match zBh P ext n c with
 |some ac=> some (.code ac,none)
 |none=> match zJj P ext n c with
  |some b=> some (b,none)
  |none=> (zZz P ext n c).map fun x=> (.code x.1,some x.2)
structure AFOk (f:FuncId) (af:AF):Prop where
 fn : ∃ fn c, P.funcs[f]? = some fn /\ fn.body = some c /\ fn.ntmps = af.n /\ zPa P ext af.n c = some (af.body, af.rcv) /\ zD1 P af.n fn.results.toList = some af.res /\ (fn.name == "runtime.NumGoroutine") = false
variable {P} {ext} {cfg:D->HRep}
theorem zJp {f : FuncId} {fn : Func} (hf : P.funcs[f]? = some fn) (hb : fn.body.isSome = true) (hn : (fn.name == "runtime.NumGoroutine") = false) (args : Array Value) (w : World) : (callFunc f args).run P w = .ok (.enter f args) w := by
 have hn' : fn.name ≠ "runtime.NumGoroutine" := by simpa using hn
 have hb':fn.body≠none:=by
  intro h;rw[h] at hb;cases hb
 simp[callFunc,hf,hn',hb']
def zT0 (tmps:Array Value):ResultVar->Sem Value
 |.tmp t=> pure (tmps.getD t undef)
 |.cell a t=> do loadVar t (←asAddr (tmps.getD a undef))
theorem zYp (fn:Func) (tmps:Array Value):results fn tmps=(fn.results.mapM (zT0 tmps) >>=fun vs=> pure (if h:vs.size=1 then vs[0] else .tuple vs)):=by
 unfold results
 congr 1
theorem zTz {n:Nat} {ρ:Env} {own:Nat->Nat->Prop} {H:AH D} {w:World} {tm:Nat->Value} {tmps:Array Value} (htm:xN ρ n tm tmps) (hr:Rel P cfg ρ own H w):∀{l:List ResultVar} {rs:List ARes},zD1 P n l=some rs->∀{vs:List Value},zJ9 tm H rs=some vs->
  ∃vs',(l.mapM (zT0 tmps)).run P w=.ok vs' w/\VRs ρ vs vs'
 |[],rs,h,vs,hv=> by
  simp[zD1] at h;subst h
  simp[zJ9] at hv;subst hv
  exact⟨[],rfl,.nil⟩
 |.tmp t::l,rs,h,vs,hv=> by
  simp only[zD1] at h
  split at h
  case isFalse=> cases h
  rename_i ht
  simp only[Option.map_eq_some_iff] at h
  obtain⟨r,hr',rfl⟩:=h
  simp only[zJ9,ARes.ev,Option.map_eq_some_iff] at hv
  obtain⟨vs0,h0,rfl⟩:=hv
  obtain⟨vs',e1,e2⟩:=zTz htm hr hr' h0
  refine⟨tmps.getD t undef::vs',?_,.cons _ _ _ _ (htm.2 t ht) e2⟩
  rw[List.mapM_cons,Sem.run_bind]
  have:(zT0 tmps (.tmp t)).run P w=.ok (tmps.getD t undef) w:=rfl
  rw[this,Result.andThen_ok,Sem.run_bind,e1];rfl
 |.cell a t::l,rs,h,vs,hv=> by
  simp only[zD1] at h
  split at h
  case isFalse=> cases h
  rename_i ht
  simp only[Option.bind_eq_some_iff,Option.map_eq_some_iff] at h
  obtain⟨g,hg,s,hs,r,hr',rfl⟩:=h
  simp only[zJ9] at hv
  split at hv
  case h_2=> cases hv
  rename_i v he
  simp only[Option.map_eq_some_iff] at hv
  obtain⟨vs0,h0,rfl⟩:=hv
  obtain⟨vs',e1,e2⟩:=zTz htm hr hr' h0
  have hav:=htm.2 a ht
  simp only[ARes.ev] at he
  split at he
  case h_2=> cases he
  rename_i k o hta
  rw[hta] at hav
  obtain⟨lc,q1,q2⟩:=hav.ptr_inv
  have hload:∃v',(loadVar t ⟨lc.b,lc.base+o,none⟩).run P w=.ok v' w/\VR ρ v v':=by
   split at he
   ·rename_i hgt
    subst hgt
    simp only[Option.map_eq_some_iff] at he
    obtain⟨cl,hcl,rfl⟩:=he
    have hlen:=AH.many_length hcl
    by_cases hne:cl=[]
    ·subst hne
     have hs0:s=0:=by rw[←hlen];rfl
     subst hs0
     exact⟨.agg #[],by simp[loadVar,Sem.run_bind,zHe hg,Result.andThen_ok,zBp hs,loadCells,loadCellsFrom],.agg _ _ .nil⟩
    obtain⟨l',cs',f1,f2,f3,f4,f5⟩:=hr.many hcl hne
    rw[q1] at f1;cases f1
    have hlc:=run_loadCells_list (P:=P) w ⟨lc.b,lc.base+o,none⟩ cs' f5
    rw[←f2.length,f3] at hlc
    refine⟨.agg cs'.toArray,?_,.agg _ _ (by simpa using f2)⟩
    simp only[loadVar,Sem.run_bind,zHe hg,Result.andThen_ok,if_true,zBp hs,hlc,Sem.run_pure]
   ·rename_i hgf
    have hgf:g=false:=by simpa using hgf
    subst hgf
    split at he
    case h_2=> cases he
    rename_i cs hcs
    obtain⟨l',cs',f1,f2,f3,f4⟩:=hr.row hcs (fun e=> by rw[e] at he;simp at he)
    rw[q1] at f1;cases f1
    obtain⟨v',g1,g2⟩:=f2.get he
    refine⟨v',?_,g2⟩
    simp only[loadVar,Sem.run_bind,zHe hg,Result.andThen_ok,Bool.false_eq_true,if_false,run_load,f4 _ _ g1]
  obtain⟨v',hl1,hl2⟩:=hload
  refine⟨v'::vs',?_,.cons _ _ _ _ hl2 e2⟩
  rw[List.mapM_cons,Sem.run_bind]
  have:(zT0 tmps (.cell a t)).run P w=.ok v' w:=by
   simp only[zT0,Sem.run_bind,q2,asAddr,Sem.run_pure,Result.andThen_ok,hl1]
  rw[this,Result.andThen_ok,Sem.run_bind,e1];rfl
theorem zW3 {n:Nat} {ρ:Env} {own:Nat->Nat->Prop} {H:AH D} {w:World} {tm:Nat->Value} {tmps:Array Value} (htm:xN ρ n tm tmps) (hr:Rel P cfg ρ own H w) {fn:Func} {rs:List ARes} (h:zD1 P n fn.results.toList=some rs) {v:Value} (hv:zLo tm H rs=some v):
  ∃v',(results fn tmps).run P w=.ok v' w/\VR ρ v v':=by
 unfold zLo at hv
 have hvs:∃vs,zJ9 tm H rs=some vs:=by
  cases h:zJ9 tm H rs with
  |none=> rw[h] at hv;cases hv
  |some vs=> exact⟨vs,rfl⟩
 obtain⟨vs,hvs⟩:=hvs
 obtain⟨vs',e1,e2⟩:=zTz htm hr h hvs
 have hrun:(results fn tmps).run P w=.ok (if h:vs'.toArray.size=1 then vs'.toArray[0] else .tuple vs'.toArray) w:=by
  rw[zYp,Sem.run_bind,Array.mapM_eq_mapM_toList,Sem.run_map,e1]
  rfl
 rw[hvs] at hv
 have hl:=e2.length
 split at hv
 ·rename_i u heq
  cases heq
  cases hv
  cases e2 with
  |cons _ u' _ l' hu hl'=>
   cases hl'
   exact⟨u',by rw[hrun];rfl,hu⟩
 ·rename_i us hne heq
  cases heq
  cases hv
  refine⟨.tuple vs'.toArray,?_,.tuple _ _ (by simpa using e2)⟩
  rw[hrun,dif_neg]
  intro h1
  simp at h1
  rw[h1] at hl
  obtain⟨u,hu⟩:=List.length_eq_one_iff.1 hl
  exact hne u hu
 ·cases hv
theorem zQ8 {ρ:Env} {n m:Nat} {args:List Value} {args':Array Value} (hv:VRs ρ args args'.toList) (hm:m=n) (hlen:args.length<=n):xN ρ n (zGv args) (args'++Array.replicate (m - args'.size) undef):=by
 have hal:args.length=args'.size:=by simpa using hv.length
 refine⟨by simp;omega,fun t ht=> ?_⟩
 unfold zGv
 by_cases hlt:t<args.length
 ·obtain⟨v',e1,e2⟩:=hv.get (i:=t) (v:=args[t]) (List.getElem?_eq_getElem hlt)
  have e1':args'[t]?=some v':=by simpa using e1
  rw[Array.getD_eq_getD_getElem?,Array.getElem?_append_left (by omega),e1']
  simpa [hlt] using e2
 ·rw[List.getElem?_eq_none (by omega),Array.getD_eq_getD_getElem?,Array.getElem?_append_right (by omega)]
  have:(Array.replicate (m - args'.size) undef)[t - args'.size]?.getD undef=undef:=by
   rw[Array.getElem?_replicate];split<;> rfl
  rw[this];exact VR.undef ρ
theorem zQ3:∀{x y:List Nat},x.map (fun b=> (⟨.collected b,#[]⟩:Deferred))=y.map (fun b=> ⟨.collected b,#[]⟩)->x=y
 |[],[],_=> rfl
 |[],_::_,h=> by simp at h
 |_::_,[],h=> by simp at h
 |a::x,b::y,h=> by
  simp only[List.map_cons,List.cons.injEq,Deferred.mk.injEq,Target.collected.injEq] at h
  rw[h.1.1,zQ3 h.2]
theorem zGq {fn:Func} {tmps:Array Value} {R:Ending->World->Prop} {D0:List Deferred} {u:FrameMode} (hu:u≠.run) {ρ0 ρ:Env} {own0 own:Nat->Nat->Prop} {w0:World} {H:AH D} {N:Nat} (hN:w0.heap.size<=N):
  ∀(bs:List Nat) (w:World),bs.Nodup->(∀b∈bs,N<=b/\w.heap[b]?=some (.deferred (some []))/\∀k,¬own k b)->Rel P cfg ρ own H w->Ext ρ0 own0 w0 ρ own w->
   (∀w',Rel P cfg ρ own H w'->Ext ρ0 own0 w0 ρ own w'->(∀i,i<N->w'.heap[i]?=w.heap[i]?)->LeavesInM Fence.wide 0 P fn tmps R D0 u w')->
   LeavesInM Fence.wide 0 P fn tmps R (bs.map (fun b=> ⟨.collected b,#[]⟩)++D0) u w
 |[],w,_,_,hr,he,hk=> hk w hr he fun _ _=> rfl
 |b::bs,w,hnd,hb,hr,he,hk=> by
  obtain⟨b1,b2,b3⟩:=hb b (by simp)
  have hnd':=List.nodup_cons.1 hnd
  refine⟨hu,.inl ⟨b,_,rfl,run_takeDeferred b2,?_⟩⟩
  refine zGq hu hN bs _ hnd'.2 (fun c hc=> ?_) (hr.freePut (b:=b) b3 (fun cs e fr hh=> by rw[b2] at hh;cases hh) (by simp) (zCc _ _ _)) (he.freePut (b:=b) (by omega) (by simp) (zCc _ _ _) rfl rfl rfl) (fun w' h1 h2 h3=> hk w' h1 h2 fun i hi=> (h3 i hi).trans (zCc _ _ _ i (by omega)))
  obtain⟨c1,c2,c3⟩:=hb c (by simp[hc])
  exact⟨c1,(zCc _ _ _ c (fun e=> hnd'.1 (by rw[←e];exact hc))).trans c2,c3⟩
variable {n:Nat}
theorem zQ9 {fn:Func} {rs:List ARes} (hres:zD1 P n fn.results.toList=some rs) {ρ0 ρ:Env} {own0 own:Nat->Nat->Prop} {w0 w:World} {H:AH D} {N:Nat} {K:AEnd->AH D->Prop} {tm:Nat->Value} {a:Act} {ds:List Deferred}
  (hN:w0.heap.size<=N) (hM:zA1 N [] own w ds) (htm:xN ρ n tm a.tmps) (hr:Rel P cfg ρ own H w) (he:Ext ρ0 own0 w0 ρ own w) {ae:AExit} (hk:AF.end_ rs K ae tm H):
  ((ae=.normal∨ae=.ret)->LeavesInM Fence.wide 0 P fn a.tmps (zHh P cfg ρ0 own0 w0 K) ds .returning w)/\
  ∀v c,ae=.pan v->XR ρ ae (.panic c)->LeavesInM Fence.wide 0 P fn a.tmps (zHh P cfg ρ0 own0 w0 K) ds (.panicking c) w:=by
 obtain⟨bs,b1,rfl,b3⟩:=hM
 constructor
 ·intro hae
  have hk':match zLo tm H rs with|some v=> K (.ret v) H|none=> False:=by
   rcases hae with rfl|rfl<;> exact hk
  split at hk'
  case h_2=> exact hk'.elim
  rename_i v hv
  refine zGq (by simp) hN bs w b1 b3 hr he fun w' r' e' _=> ?_
  obtain⟨v',q1,q2⟩:=zW3 htm r' hres hv
  exact⟨v',q1,_,_,_,_,hk',e',q2,r'⟩
 ·rintro v c rfl hx
  refine zGq (by simp) hN bs w b1 b3 hr he fun w' r' e' _=> ?_
  exact⟨_,_,_,_,hk,e',hx,r'⟩
theorem qPv (hmix:P.follows .mixedOrders=true) {ρz:Env} {C:Sg D} (hC:SgOk P cfg ρz C) (sm:zD8 C) (hext:ExtOk P ext) {F:Nat} {fn:Func} {rs:List ARes} (hres:zD1 P n fn.results.toList=some rs) {ρ0:Env} {own0:Nat->Nat->Prop} {w0:World} (hz:ρz.le ρ0) {K:AEnd->AH D->Prop} {N:Nat} (hN:w0.heap.size<=N):
  ∀(c:Code) (ab:AB) (tm:Nat->Value) (H:AH D) (ρ:Env) (own:Nat->Nat->Prop) (w:World) (a:Act),(zJj P ext n c=some ab∨∃ac,ab=.code ac/\zBh P ext n c=some ac)->ab.wp C F (AF.end_ rs K) tm H->xN ρ n tm a.tmps->Rel P cfg ρ own H w->Ext ρ0 own0 w0 ρ own w->N<=w.heap.size->zA1 N [] own w a.defers->
   c.wpIn Fence.wide 0 P (bodyPostM Fence.wide 0 P fn (zHh P cfg ρ0 own0 w0 K)) a w:=by
 have fin:∀(e:Exit) (a1:Act) (w1:World) (ρ1:Env) (own1:Nat->Nat->Prop) (H1:AH D) (tm1:Nat->Value) (ae:AExit),AF.end_ rs K ae tm1 H1->XR ρ1 ae e->xN ρ1 n tm1 a1.tmps->Ext ρ0 own0 w0 ρ1 own1 w1->Rel P cfg ρ1 own1 H1 w1->zA1 N [] own1 w1 a1.defers->
   bodyPostM Fence.wide 0 P fn (zHh P cfg ρ0 own0 w0 K) e a1 w1:=by
  intro e a1 w1 ρ1 own1 H1 tm1 ae k x1 t1 e1 r1 d1
  obtain⟨q1,q2⟩:=zQ9 hres hN d1 t1 r1 e1 k
  cases ae<;> cases e<;> simp only[XR] at x1<;> simp only[AF.end_] at k
  ·exact q1 (.inl rfl)
  ·exact q1 (.inr rfl)
  ·exact q2 _ _ rfl x1
 have code:∀(c:Code) (ac:AC) (tm:Nat->Value) (H:AH D) (ρ:Env) (own:Nat->Nat->Prop) (w:World) (a:Act),zBh P ext n c=some ac->ac.wp C F (AF.end_ rs K) tm H->xN ρ n tm a.tmps->Rel P cfg ρ own H w->Ext ρ0 own0 w0 ρ own w->N<=w.heap.size->zA1 N [] own w a.defers->
   c.wpIn Fence.wide 0 P (bodyPostM Fence.wide 0 P fn (zHh P cfg ρ0 own0 w0 K)) a w:=by
  intro c ac tm H ρ own w a hc hwp htm hr he hNw hM
  refine Code.wpIn_mono (fun e a1 w1 hl=> ?_) (zM5 (ro:=none) hmix hC sm hext F c ac hc (.inl rfl) _ tm H hwp ρ own w a N [] (Env.le_trans hz he.le) htm hr hNw hM)
  obtain⟨ae,tm1,H1,ρ1,own1,k,x1,t1,e1,r1,d1,_⟩:=hl
  exact fin e a1 w1 ρ1 own1 H1 tm1 ae k x1 t1 (he.trans e1) r1 d1
 intro c
 induction c with
 |seq x y _ ihy=>
  intro ab tm H ρ own w a hc hwp htm hr he hNw hM
  rcases hc with hc|⟨ac,rfl,hc⟩
  case inr=> exact code _ ac tm H ρ own w a hc hwp htm hr he hNw hM
  have thn:∀(ax:AC) (b:AB),zBh P ext n x=some ax->zJj P ext n y=some b->(AB.thn ax b).wp C F (AF.end_ rs K) tm H->(Code.seq x y).wpIn Fence.wide 0 P (bodyPostM Fence.wide 0 P fn (zHh P cfg ρ0 own0 w0 K)) a w:=by
   intro ax b hax hb hwp
   refine wpIn_seq (Code.wpIn_mono (fun e a1 w1 hl=> ?_) (zM5 (ro:=none) hmix hC sm hext F x ax hax (.inl rfl) _ tm H hwp ρ own w a N [] (Env.le_trans hz he.le) htm hr hNw hM))
   obtain⟨ae,tm1,H1,ρ1,own1,k,x1,t1,e1,r1,d1,_⟩:=hl
   cases ae<;> cases e<;> simp only[XR] at x1
   ·exact ihy b tm1 H1 ρ1 own1 w1 a1 (.inl hb) k t1 r1 (he.trans e1) (Nat.le_trans hNw e1.size) d1
   ·exact fin (.exit _) a1 w1 ρ1 own1 H1 tm1 (.exit _) k x1 t1 (he.trans e1) r1 d1
   ·exact fin (.goto _) a1 w1 ρ1 own1 H1 tm1 (.goto _) k x1 t1 (he.trans e1) r1 d1
   ·exact fin .ret a1 w1 ρ1 own1 H1 tm1 .ret k x1 t1 (he.trans e1) r1 d1
   ·exact fin (.panic _) a1 w1 ρ1 own1 H1 tm1 (.pan _) k x1 t1 (he.trans e1) r1 d1
  unfold zJj at hc
  split at hc
  ·rename_i idd ops b heq
   cases heq
   split at hc
   ·rename_i is his
    simp only[Option.map_eq_some_iff] at hc
    obtain⟨b',hb',rfl⟩:=hc
    exact thn (.reg is) b' (by simp[zBh,his]) hb' hwp
   rename_i hno
   split at hc
   ·rename_i o hlast
    simp only[Option.bind_eq_some_iff,Option.map_eq_some_iff] at hc
    obtain⟨is,his,xo,hxo,r,hr',rfl⟩:=hc
    have hops:ops.toList=ops.toList.dropLast++[o]:=by
     obtain⟨ys,hys⟩:=List.getLast?_eq_some_iff.1 hlast
     rw[hys,List.dropLast_concat]
    unfold qKm at hxo
    split at hxo
    case h_2=> cases hxo
    rename_i cl hop
    split at hxo
    case h_2=> cases hxo
    rename_i f hcal
    split at hxo
    case isFalse=> cases hxo
    rename_i hcond
    simp only[Bool.and_eq_true,Option.isNone_iff_eq_none,Array.isEmpty_iff] at hcond
    obtain⟨⟨c1,c2⟩,c3⟩:=hcond
    refine wpIn_seq (wpIn_region_list ?_)
    rw[hops]
    have happ:∀(l:List Oper) (Q:Exit->Act->World->Prop) (a:Act) (w:World),wpListIn Fence.wide 0 P ops (fun e a w=> match e with|.normal=> wpListIn Fence.wide 0 P ops Q [o] a w|e=> Q e a w) l a w->wpListIn Fence.wide 0 P ops Q (l++[o]) a w:=by
     intro l
     induction l with
     |nil=> intro Q a w h;exact h
     |cons p l ih=>
      intro Q a w h
      rw[List.cons_append]
      unfold wpListIn at h⊢
      split at h
      ·rename_i hw
       rw[if_pos hw]
       unfold Oper.wpIn at h⊢
       refine⟨h.1,?_⟩
       have h2:=h.2
       revert h2
       generalize (p.semAt Fence.wide.round a.eval).run P w=rr
       intro h2
       cases rr with
       |ok nx w'=>
        cases nx<;> simp only[Oper.uponIn] at h2⊢<;> first
         |exact ih _ _ _ h2
         |exact h2
         |skip
        case enter=>
         refine⟨h2.1,CallsIn.mono h2.2 fun e w'' he=> ?_⟩
         cases e with
         |returned v=> exact ih _ _ _ he
         |panicked ch=> exact he
         |outgrown=> obtain⟨a0,w0',q⟩:=he;exact⟨a0,w0',q⟩
        case row=> exact⟨h2.1,RowsIn.mono h2.2 fun v w'' he=> ih _ _ _ he⟩
        case round=>
         refine⟨h2.1,RoundIn.mono h2.2 fun e w'' he=> ?_⟩
         cases e with
         |returned v=> exact ih _ _ _ he
         |panicked ch=> exact he
         |outgrown=> obtain⟨a0,w0',q⟩:=he;exact⟨a0,w0',q⟩
       |halt hh w'=> cases hh<;> simp only[Oper.uponIn] at h2⊢<;> exact h2
      ·rename_i hw
       rw[if_neg hw]
       exact⟨h.1,ih _ _ _ h.2⟩
    refine happ _ _ a w ?_
    refine zMy (ro:=none) hC hext _ is his ρ own H w tm a (Env.le_trans hz he.le) htm hr _ _ hwp (fun tm1 H1 a1 w1 ρ1 own1 k e1 t1 r1 d1=> ?_) (fun v tm1 H1 v' a1 w1 ρ1 own1 k e1 hv t1 r1 d1=> ?_)
    ·
     have hfv:=jR t1 hxo
     split at k
     case h_2=> exact k.elim
     rename_i g u v hev
     rw[hev] at hfv
     have hge:∃u' v',a1.eval f=.func (.func g) u' v'/\VRs ρ1 u.toList u'.toList/\VRs ρ1 v.toList v'.toList:=by
      revert hfv
      generalize a1.eval f=G
      intro hfv
      cases hfv
      exact⟨_,_,rfl,‹_›,‹_›⟩
     obtain⟨u',v',hge,hu',hv'⟩:=hge
     show wpListIn Fence.wide 0 P ops _ [o] a1 w1
     refine wpListIn_step fun KK hKK=> ?_
     rw[if_pos (by simp[Region.wanted,c2])]
     unfold Oper.wpIn
     refine⟨fun _ _=> trivial,?_⟩
     have hrun:(o.semAt Fence.wide.round a1.eval).run P w1=.ok (.defer ⟨.fn (.func g) v',u'⟩) w1:=by
      show (execOp a1.eval o).run P w1=_
      obtain⟨callee,cargs,ts⟩:=cl
      simp only at hcal c3
      subst hcal;subst c3
      simp[execOp,hop,resolve,Sem.run_bind,hge,Deferred.ofValue]
     rw[hrun]
     show KK ({ a1 with defers:=⟨.fn (.func g) v',u'⟩::a1.defers }.put o.dst undef) w1
     rw[c1]
     refine hKK _ _ ?_
     have hM1:zA1 N [] own1 w1 a1.defers:=by rw[d1];exact hM.onw e1
     have e01:=he.trans e1
     show y.wpIn Fence.wide 0 P _ _ w1
     refine Code.wpIn_mono (fun e a2 w2 hl=> ?_) (zM5 (ro:=none) hmix hC sm hext F y r hr' (.inl rfl) _ tm1 H1 k ρ1 own1 w1 { a1 with defers:=⟨.fn (.func g) v',u'⟩::a1.defers } w1.heap.size (⟨.fn (.func g) v',u'⟩::a1.defers) (Env.le_trans hz e01.le) t1 r1 (Nat.le_refl _) (zA1.none _ _ _ _))
     obtain⟨ae,tm2,H2,ρ2,own2,k2,x2,t2,e2,r2,⟨bs,b1,b2,b3⟩,_⟩:=hl
     have e02:=e01.trans e2
     have key:∀(rv:Value) (um:FrameMode),um≠.run->qKs ρ2 rv um->C.call (.dfr g) (rv::(u.toList++v.toList)) H2 (fun _ H'=> AF.end_ rs K .ret tm2 H')->LeavesInM Fence.wide 0 P fn a2.tmps (zHh P cfg ρ0 own0 w0 K) a2.defers um w2:=by
      intro rv um hum hdm hcall
      rw[b2]
      refine zGq hum (Nat.le_trans hN (Nat.le_trans hNw e1.size)) bs w2 b1 b3 r2 e02 fun w3 r3 e03 hsame=> ?_
      obtain⟨rv',as,hcons,hin,hD⟩:=hC.call _ _ _ _ hcall
      cases hcons
      have hvs:VRs ρ2 (u.toList++v.toList) (u'++v').toList:=by
       simpa using (VRs.mono e2.le hu').append (VRs.mono e2.le hv')
      refine⟨hum,.inr ⟨zM1 (ro:=none),_,_,g,u'++v',rfl,hin _ w3,fun _ _=> trivial,(hD ρ2 own2 w3 _ um (Env.le_trans hz e03.le) r3 hvs hdm).mono fun en um' w4 hp=> ?_⟩⟩
      obtain⟨⟨vv,rfl⟩,hset,r',H4,ρ4,own4,k4,e4,_,r4⟩:=hp
      show LeavesInM Fence.wide 0 P fn a2.tmps _ a1.defers (settle um') w4
      rw[hset]
      have hM4:zA1 N [] own4 w4 a1.defers:=by
       obtain⟨cs,c1,c2,c3⟩:=(hM1.onw e2)
       obtain⟨ds,d1',d2',d3'⟩:=hM1
       have hcd:cs=ds:=by
        rw[List.append_nil] at c2 d2'
        exact zQ3 (c2.symm.trans d2')
       subst hcd
       have:zA1 N [] own2 w3 a1.defers:=⟨cs,c1,c2,fun b hb=> by
        obtain⟨f1,f2,f3⟩:=c3 b hb
        have hlt:b<w1.heap.size:=(Array.getElem?_eq_some_iff.1 (d3' b hb).2.1).1
        exact⟨f1,(hsame b hlt).trans f2,f3⟩⟩
       exact this.onw e4
      exact (zQ9 hres hN hM4 (t2.mono e4.le) r4 (e03.trans e4) k4).1 (.inr rfl)
     cases ae<;> cases e<;> simp only[XR] at x2<;> simp only[zJo] at k2
     ·exact key .nilIface .returning (by simp) (.inl ⟨rfl,rfl⟩) k2
     ·exact key .nilIface .returning (by simp) (.inl ⟨rfl,rfl⟩) k2
     ·obtain⟨vv',rfl,hvv⟩:=x2
      split at k2
      case h_2=> exact k2.elim
      exact key _ _ (by simp) (.inr ⟨vv',hvv,⟨_,_,rfl⟩,rfl⟩) k2
    ·
     have hM1:zA1 N [] own1 w1 a1.defers:=by rw[d1];exact hM.onw e1
     exact fin (.panic [{ v:=v',recovered:=false }]) a1 w1 ρ1 own1 H1 tm1 (.pan v) k ⟨v',rfl,hv⟩ t1 (he.trans e1) r1 hM1
   ·cases hc
  ·rename_i p q _ heq
   cases heq
   simp only[Option.bind_eq_some_iff,Option.map_eq_some_iff] at hc
   obtain⟨ax,hax,b,hb,rfl⟩:=hc
   exact thn ax b hax hb hwp
  ·cases hc
 |_=>
  intro ab tm H ρ own w a hc hwp htm hr he hNw hM
  rcases hc with hc|⟨ac,rfl,hc⟩
  ·simp[zJj] at hc
  ·exact code _ ac tm H ρ own w a hc hwp htm hr he hNw hM
theorem zLi (hmix:P.follows .mixedOrders=true) {ρz:Env} {C:Sg D} (hC:SgOk P cfg ρz C) (sm:zD8 C) (hext:ExtOk P ext) {f:FuncId} {af:AF} (hf:AFOk P ext f af) {F:Nat} {args:List Value} {H:AH D} {K:AEnd->AH D->Prop} (h:af.run C F args H K):zPh P cfg ρz (.fn f) args H K:=by
 obtain⟨fn,c,h1,h2,h3,h4,h5,h6⟩:=hf.fn
 refine⟨zJp h1 (by rw[h2];rfl) h6,fun ρ own w args' hz hr hv=> ?_⟩
 obtain⟨hrec,hlen,hwp⟩:=h
 refine (callsIn_wide (n:=0)).1 (callsIn_of_wp_marks h1 h2 trivial ?_)
 have hab:zJj P ext af.n c=some af.body∨∃ac,af.body=.code ac/\zBh P ext af.n c=some ac:=by
  rw[hrec] at h4
  unfold zPa at h4
  split at h4
  ·rename_i ac hac
   simp only[Option.some.injEq,Prod.mk.injEq] at h4
   exact .inr ⟨ac,h4.1.symm,hac⟩
  ·split at h4
   ·rename_i b hb
    simp only[Option.some.injEq,Prod.mk.injEq] at h4
    exact .inl (by rw[hb,h4.1])
   ·simp at h4
 exact qPv hmix hC sm hext h5 hz (Nat.le_refl _) c af.body _ H ρ own w { tmps:=args'++Array.replicate (fn.ntmps - args'.size) undef,defers:=[] } hab hwp (zQ8 hv h3 hlen) hr (Ext.refl _ _ _) (Nat.le_refl _) (zA1.none _ _ _ _)
theorem zVd {ops:Array Oper} {o:Oper} {l:List Oper} (hops:ops.toList=o::l) {Q:Exit->Act->World->Prop} {a:Act} {w:World} (h:wpListIn Fence.wide 0 P ops Q l a w) (b:Frame) (k:List Item) (cs:List Frame) (hro:b.roundOf=none):
  ∃e a' w',Q e a' w'/\ArrivesIn (Machine.fenced P Fence.wide) P (lone (b.atR a (.inRegion ops (List.range' 1 l.length)::k)) cs w) b k cs e a' w':=by
 refine wp_opsIn (n:=0) _ a w ?_ b k cs hro trivial (room_wide _)
 rw[wpOpsIn_eq_wpListIn l 1 (fun j=> by
  have:(o::l)[j+1]?=ops.toList[j+1]?:=by rw[hops]
  rw[List.getElem?_cons_succ] at this
  rw[this,Nat.add_comm];simp)]
 exact h
theorem zRm (hmix:P.follows .mixedOrders=true) {ρz:Env} {C:Sg D} (hC:SgOk P cfg ρz C) (sm:zD8 C) (hext:ExtOk P ext) {f:FuncId} {af:AF} (hf:AFOk P ext f af) {F:Nat} {args:List Value} {H:AH D} {K:AEnd->AH D->Prop} (h:af.runD C F args H K):zPh P cfg ρz (.dfr f) args H K:=by
 obtain⟨fn,c,h1,h2,h3,h4,h5,h6⟩:=hf.fn
 unfold AF.runD at h
 split at h
 case h_2=> exact h.elim
 rename_i rv as d ac hrec hbody
 obtain⟨hres0,hlen,hwp⟩:=h
 refine⟨rv,as,rfl,zJp h1 (by rw[h2];rfl) h6,fun ρ own w args' u hz hr hv hd=> ?_⟩
 have hR:zZz P ext af.n c=some (ac,d):=by
  rw[hrec,hbody] at h4
  unfold zPa at h4
  split at h4
  ·simp at h4
  ·split at h4
   ·simp at h4
   ·simp only[Option.map_eq_some_iff,Prod.mk.injEq,AB.code.injEq,Option.some.injEq] at h4
    obtain⟨⟨x1,x2⟩,hx,rfl,rfl⟩:=h4
    exact hx
 unfold zZz at hR
 split at hR
 case h_2=> cases hR
 rename_i idd ops b
 split at hR
 case h_2=> cases hR
 rename_i o l hops
 simp only[Option.bind_eq_some_iff] at hR
 obtain⟨d',hd',hR⟩:=hR
 split at hR
 case isFalse=> cases hR
 rename_i hdn
 simp only[Option.bind_eq_some_iff] at hR
 obtain⟨is,his,r,hr',hR⟩:=hR
 split at hR
 case isFalse=> cases hR
 rename_i hflat
 cases hR
 unfold zQ6 at hd'
 split at hd'
 case h_2=> cases hd'
 rename_i cl hop
 split at hd'
 case h_2=> cases hd'
 rename_i hcal
 split at hd'
 case isFalse=> cases hd'
 rename_i hg
 have hg:o.guard=none:=by simpa using hg
 obtain⟨rv',u',hvr,hrecD,hset⟩:∃rv' u',VR ρ rv rv'/\(∀(c₀:Frame) (cs:List Frame),c₀.mode=u->(match recoverD (c₀::cs) with|some (v,cs')=> v=rv'/\cs'={ c₀ with mode:=u' }::cs|none=> rv'=.nilIface/\u'=u))/\settle u'=.returning:=by
  rcases hd with ⟨rfl,rfl⟩|⟨v',hv1,⟨t,x,rfl⟩,rfl⟩
  ·exact⟨.nilIface,.returning,.nilIface,fun c₀ cs hm=> by simp[recoverD,hm],rfl⟩
  ·exact⟨v',.panicking [{ v:=v',recovered:=true }],hv1,fun c₀ cs hm=> by simp[recoverD,hm],rfl⟩
 refine callsDIn_of_wpSIn h1 h2 trivial fun c₀ cs hm=> ?_
 have htm0:=zQ8 (m:=fn.ntmps) hv h3 hlen
 let a0:Act:={ tmps:=args'++Array.replicate (fn.ntmps - args'.size) undef,defers:=[] }
 have htm1:xN ρ af.n (upd (zGv as) d rv) (a0.put (some d) rv').tmps:=htm0.put hvr
 let cs':List Frame:={ c₀ with mode:=u' }::cs
 let R:Ending->FrameMode->World->Prop:=fun e u' w'=> (∃v,e=.returned v)/\settle u'=.returning/\zHh P cfg ρ own w K (.returned undef) w'
 have hlist:wpListIn Fence.wide 0 P ops (fun e a w'=> match e with|.normal=> b.wpIn Fence.wide 0 P (fun e a w'=> bodyPostS P fn c₀ cs R e a cs' w') a w'|_=> False) l (a0.put (some d) rv') w:=by
  refine zMy (ro:=none) hC hext _ is his ρ own H w _ _ hz htm1 hr _ _ hwp (fun tm1 H1 a1 w1 ρ1 own1 k e1 t1 r1 d1=> ?_) (fun v tm1 H1 v' a1 w1 ρ1 own1 k e1 hv t1 r1 d1=> k)
  show b.wpIn Fence.wide 0 P _ a1 w1
  refine Code.wpIn_mono (fun e a2 w2 hl=> ?_) (zM5 (ro:=none) hmix hC sm hext F b r hr' (.inl rfl) _ tm1 H1 k ρ1 own1 w1 a1 w1.heap.size a1.defers (Env.le_trans hz e1.le) t1 r1 (Nat.le_refl _) (zA1.none _ _ _ _))
  obtain⟨ae,tm2,H2,ρ2,own2,k2,x2,t2,e2,r2,_,f2⟩:=hl
  have hdef:a2.defers=[]:=(f2 hflat).trans d1
  have hresr:∃v,(results fn a2.tmps).run P w2=.ok v w2:=by
   have h5':=h5
   rw[hres0] at h5'
   obtain⟨v',q1,_⟩:=zW3 t2 r2 h5' (v:=.tuple #[]) rfl
   exact⟨v',q1⟩
  obtain⟨vv,hvv⟩:=hresr
  cases ae<;> cases e<;> simp only[XR] at x2<;> simp only at k2
  ·exact⟨hdef,u',rfl,vv,hvv,⟨_,rfl⟩,hset,_,_,_,_,k2,e1.trans e2,VR.undef _,r2⟩
  ·exact⟨hdef,u',rfl,vv,hvv,⟨_,rfl⟩,hset,_,_,_,_,k2,e1.trans e2,VR.undef _,r2⟩
 have ho:ops[0]?=some o:=by
  have:ops.toList[0]?=some o:=by rw[hops];rfl
  simpa using this
 have hsz:List.range ops.size=0::List.range' 1 l.length:=by
  have:ops.size=l.length+1:=by rw[←Array.length_toList,hops];rfl
  rw[this,List.range_eq_range',List.range'_succ]
 have hreg:(Code.region idd ops false).wpSIn Fence.wide 0 P (Exit.thenS (fun a cs2 w'=> cs2=cs'/\b.wpIn Fence.wide 0 P (fun e a w'=> bodyPostS P fn c₀ cs R e a cs' w') a w') (fun _ _ _ _=> False)) a0 (c₀::cs) w:=by
  intro bF k hb hro hF hroom
  have hw:Region.wanted o (yielded ops a0.tmps)=true:=by simp[Region.wanted,hg]
  have hgo:=stepGR_op (P:=P) (b:=bF) (k:=k) (cs:=c₀::cs) (w:=w) (a:=a0) (rest:=List.range' 1 l.length) ho hw
  rw[hro,Oper.semAt_none] at hgo
  have hexec:(execOp a0.eval o).run P w=.ok .recover w:=by
   obtain⟨callee,cargs,ts⟩:=cl
   simp only at hcal
   subst hcal
   simp[execOp,hop,resolve,Sem.run_bind,invoke,builtin]
  have hfin:∀v,(bF.atR a0 (.inRegion ops (0::List.range' 1 l.length)::k)).finish v=bF.atR (a0.put (some d) v) (.inRegion ops (List.range' 1 l.length)::k):=by
   intro v;rw[Frame.finish_atR,ho]
   show bF.atR (a0.put o.dst v) _=_
   rw[hd']
  have htr:=tryRecover_deferred (fr:=bF.atR a0 (.inRegion ops (0::List.range' 1 l.length)::k)) hb (c₀::cs)
  have hstep:step P (lone (bF.atR a0 (.inRegion ops (0::List.range' 1 l.length)::k)) (c₀::cs) w)=.next (lone (bF.atR (a0.put (some d) rv') (.inRegion ops (List.range' 1 l.length)::k)) cs' w):=by
   have hrD:=hrecD c₀ cs hm
   refine step_lone_go ?_
   rw[hgo,←hfin]
   simp only[Frame.atR,hro] at htr⊢
   cases hrec:recoverD (c₀::cs) with
   |some x=>
    obtain⟨v,cs2⟩:=x
    rw[hrec] at hrD
    obtain⟨rfl,rfl⟩:=hrD
    simp[stepG.apply,hexec,htr,hrec,cs']
   |none=>
    rw[hrec] at hrD
    obtain⟨rfl,rfl⟩:=hrD
    have:cs'=c₀::cs:=by simp only[cs'];rw[←hm]
    simp[stepG.apply,hexec,htr,hrec,this]
  obtain⟨e,a',w',hq,harr⟩:=zVd hops hlist bF k cs' hro
  have h0:(lone (bF.atR a0 (.code (.region idd ops false)::k)) (c₀::cs) w).fenced P Fence.wide:=fenced_wide _ _
  refine⟨e,a',cs',w',by simp[cs'],?_,.of_steps (.head h0 stepR_region (by rw[hsz];exact .one (fenced_wide _ _) hstep)) harr⟩
  cases e<;> first|exact⟨rfl,hq⟩|exact hq.elim
 refine wpSIn_seq (fun bF k hb hro hF hroom=> ?_)
 obtain⟨e,a',cs2,w',hl,hq,harr⟩:=hreg bF k hb hro hF hroom
 cases e with
 |normal=>
  obtain⟨rfl,hq⟩:=hq
  exact⟨.normal,a',_,w',hl,wpSIn_of_wpIn rfl hq,harr⟩
 |exit _=> exact hq.elim
 |goto _=> exact hq.elim
 |ret=> exact hq.elim
 |panic _=> exact hq.elim
 |outgrown=> exact hq.elim
structure SpecOk (P:Program) (cfg:D->HRep) (S:FuncId->Option (List Value->AH D->(AEnd->AH D->Prop)->Prop)):Prop where
 ok:∀f c,S f=some c->∀args H K,c args H K->zP P cfg f args H K
 mono:∀f c,S f=some c->∀args H (K K':AEnd->AH D->Prop),(∀r H',K r H'->K' r H')->c args H K->c args H K'
theorem AB.mono {C:Sg D} (sm:zD8 C) (F:Nat):∀(ab:AB) (Q Q':AExit->(Nat->Value)->AH D->Prop) (tm:Nat->Value) (H:AH D),(∀e tm H,Q e tm H->Q' e tm H)->ab.wp C F Q tm H->ab.wp C F Q' tm H
 |.code c,Q,Q',tm,H,hq,h=> AC.mono sm F c Q Q' tm H hq h
 |.thn a b,Q,Q',tm,H,hq,h=> by
  refine AC.mono sm F a _ _ tm H (fun e tm' H' hh=> ?_) h
  cases e with
  |normal=> exact AB.mono sm F b Q Q' tm' H' hq hh
  |_=> exact hq _ _ _ hh
 |.dfr l x rest,Q,Q',tm,H,hq,h=> by
  refine AC.mono sm F (.reg l) (fun e tm' H'=> match e with
   |.normal=> match x.ev tm' with
    |.func (.func g) u v=> rest.wp C F (zJo C g (u.toList++v.toList) Q) tm' H'
    |_=> False
   |e=> Q e tm' H') (fun e tm' H'=> match e with
   |.normal=> match x.ev tm' with
    |.func (.func g) u v=> rest.wp C F (zJo C g (u.toList++v.toList) Q') tm' H'
    |_=> False
   |e=> Q' e tm' H') tm H (fun e tm' H' hh=> ?_) h
  cases e with
  |normal=>
   simp only at hh⊢
   split at hh
   ·refine AC.mono sm F rest _ _ tm' H' (fun e2 tm2 H2 h2=> ?_) hh
    cases e2 with
    |normal=> exact sm.1 _ _ _ _ _ (fun r H3 h3=> hq _ _ _ h3) h2
    |ret=> exact sm.1 _ _ _ _ _ (fun r H3 h3=> hq _ _ _ h3) h2
    |pan v=>
     simp only[zJo] at h2⊢
     split at h2
     ·exact sm.1 _ _ _ _ _ (fun r H3 h3=> hq _ _ _ h3) h2
     ·exact h2
    |_=> exact h2
   ·exact hh.elim
  |_=> exact hq _ _ _ hh
theorem AF.mono {C:Sg D} (sm:zD8 C) (F:Nat) (af:AF) (args:List Value) (H:AH D) (K K':AEnd->AH D->Prop) (hk:∀r H',K r H'->K' r H') (h:af.run C F args H K):af.run C F args H K':=by
 refine⟨h.1,h.2.1,AB.mono sm F af.body _ _ _ H (fun e tm H' hh=> ?_) h.2.2⟩
 cases e with
 |normal=> simp only[AF.end_] at hh⊢;split at hh<;> first|exact hk _ _ hh|exact hh.elim
 |ret=> simp only[AF.end_] at hh⊢;split at hh<;> first|exact hk _ _ hh|exact hh.elim
 |pan v=> exact hk _ _ hh
 |_=> exact hh.elim
theorem AF.monoD {C:Sg D} (sm:zD8 C) (F:Nat) (af:AF) (args:List Value) (H:AH D) (K K':AEnd->AH D->Prop) (hk:∀r H',K r H'->K' r H') (h:af.runD C F args H K):af.runD C F args H K':=by
 unfold AF.runD at h⊢
 split at h
 ·refine⟨h.1,h.2.1,AC.mono sm F _ _ _ _ H (fun e tm H' hh=> ?_) h.2.2⟩
  cases e with
  |normal=> exact hk _ _ hh
  |ret=> exact hk _ _ hh
  |_=> exact hh.elim
 ·exact h.elim
variable {S:FuncId->Option (List Value->AH D->(AEnd->AH D->Prop)->Prop)} {T:FuncId->Option AF} {G:zAx D->(zDu D->zAx D)->Sg D}
structure GOk (P:Program) (cfg:D->HRep) (G:zAx D->(zDu D->zAx D)->Sg D):Prop where
 call:∀C I,(G C I).call=C
 iter:∀C I,(G C I).iter=I
 opn:∀C I H k H1,(G C I).opn H k=some H1->xV P cfg H H1
 see:∀C I H H1,(G C I).see H H1->xV P cfg H H1
 view:∀C I,qEr P cfg (G C I).view
theorem zIi (hG:GOk P cfg G) (hS:SpecOk P cfg S) (F:Nat):∀d Y,zFy Y->zI8 (zAf G S T F d Y)
 |0,Y,hY=> fun t args H K K' hk h=> by
  unfold zAf at h⊢
  cases t with
  |yld k=> exact hY _ _ _ _ _ hk h
  |fn f=>
   simp only at h⊢
   split at h
   ·rename_i c hc
    exact hS.mono f c hc args H K K' hk h
   ·exact h.elim
  |dfr f=> exact h.elim
 |d+1,Y,hY=> fun t args H K K' hk h=> by
  have sm:zD8 (G (zAf G S T F d Y) (zAf G S T F d)):=⟨by rw[hG.call];exact zIi hG hS F d Y hY,fun Y' hY'=> by rw[hG.iter];exact zIi hG hS F d Y' hY'⟩
  unfold zAf at h⊢
  cases t with
  |yld k=> exact hY _ _ _ _ _ hk h
  |fn f=>
   simp only at h⊢
   split at h
   ·rename_i c hc
    exact hS.mono f c hc args H K K' hk h
   ·split at h
    ·exact AF.mono sm F _ args H K K' hk h
    ·exact h.elim
  |dfr f=>
   simp only at h⊢
   split at h
   ·exact AF.monoD sm F _ args H K K' hk h
   ·exact h.elim
theorem xC (hG:GOk P cfg G) (hS:SpecOk P cfg S) (F d:Nat) (Y:zDu D) (hY:zFy Y):zD8 (G (zAf G S T F d Y) (zAf G S T F d)):=
 ⟨by rw[hG.call];exact zIi hG hS F d Y hY,fun Y' hY'=> by rw[hG.iter];exact zIi hG hS F d Y' hY'⟩
theorem zKw (hG:GOk P cfg G) (hmix:P.follows .mixedOrders=true) (hext:ExtOk P ext) (hS:SpecOk P cfg S) (hT:∀f af,T f=some af->AFOk P ext f af) (F:Nat):∀d Y ρ0,zFy Y->zSm P cfg ρ0 Y->zHx P cfg ρ0 (zAf G S T F d Y)
 |0,Y,ρ0,hYm,hY=> fun t args H K h=> by
  unfold zAf at h
  cases t with
  |yld k=> exact hY _ _ _ _ h
  |fn f=>
   simp only at h
   split at h
   ·rename_i c hc;exact (hS.ok f c hc args H K h).toT ρ0
   ·exact h.elim
  |dfr f=> exact h.elim
 |d+1,Y,ρ0,hYm,hY=> fun t args H K h=> by
  have sm:=xC (T:=T) hG hS F d Y hYm
  have so:SgOk P cfg ρ0 (G (zAf G S T F d Y) (zAf G S T F d)):=⟨by rw[hG.call];exact zKw hG hmix hext hS hT F d Y ρ0 hYm hY,fun ρ1 Y' _ hY' hYm'=> by rw[hG.iter];exact zKw hG hmix hext hS hT F d Y' ρ1 hYm' hY',hG.opn _ _,hG.see _ _,hG.view _ _⟩
  unfold zAf at h
  cases t with
  |yld k=> exact hY _ _ _ _ h
  |fn f=>
   simp only at h
   split at h
   ·rename_i c hc;exact (hS.ok f c hc args H K h).toT ρ0
   ·split at h
    ·rename_i af haf
     exact zLi hmix so sm hext (hT f af haf) h
    ·exact h.elim
  |dfr f=>
   simp only at h
   split at h
   ·rename_i af haf
    exact zRm hmix so sm hext (hT f af haf) h
   ·exact h.elim
theorem jT:zFy (noY:zDu D):=fun _ _ _ _ _ _ h=> h.elim
theorem qR0 (ρ0:Env):zSm P cfg ρ0 (noY:zDu D):=fun _ _ _ _ h=> h.elim
def Env.none:Env:=⟨fun _=> Option.none⟩
theorem Env.none_le (ρ:Env):Env.none.le ρ:=fun _ _ h=> by cases h
theorem qMv (hG:GOk P cfg G) (hmix:P.follows .mixedOrders=true) (hext:ExtOk P ext) (hS:SpecOk P cfg S) (hT:∀f af,T f=some af->AFOk P ext f af) (F d:Nat) {f:FuncId} {af:AF} (hf:T f=some af) {args:List Value} {H:AH D} {K:AEnd->AH D->Prop} (h:af.run (G (zAf G S T F d noY) (zAf G S T F d)) F args H K):zP P cfg f args H K:=by
 have so:SgOk P cfg Env.none (G (zAf G S T F d noY) (zAf G S T F d)):=⟨by rw[hG.call];exact zKw hG hmix hext hS hT F d noY _ jT (qR0 _),fun ρ1 Y' _ hY' hYm'=> by rw[hG.iter];exact zKw hG hmix hext hS hT F d Y' ρ1 hYm' hY',hG.opn _ _,hG.see _ _,hG.view _ _⟩
 obtain⟨h1,h2⟩:=zLi hmix so (xC (T:=T) hG hS F d noY jT) hext (hT f af hf) h
 exact⟨h1,fun ρ own w args' hr hv=> h2 ρ own w args' (Env.none_le ρ) hr hv⟩
end
end Go.Abs
namespace Go.Abs
theorem AFOk.of {P:Program} {ext:FuncId->Option Ext1} {f:FuncId} {fn:Func} {af:AF} (h1:P.funcs[f]?=some fn) (h2:fn.ntmps=af.n) (h3:(fn.body.bind fun c=> zPa P ext fn.ntmps c)=some (af.body,af.rcv))
  (h4 : zD1 P fn.ntmps fn.results.toList = some af.res) (h5 : (fn.name == "runtime.NumGoroutine") = false) : AFOk P ext f af := by
 obtain⟨c,hc,h3⟩:=Option.bind_eq_some_iff.1 h3
 rw[h2] at h3 h4
 exact⟨fn,c,h1,hc,h2,h3,h4,h5⟩
theorem ExtOk.one {P:Program} {f:FuncId} {x:Ext1} (h:∀args w,(callFunc f args).run P w=((x.sem args).run P w).andThen fun v w'=> .ok (.value v) w'):ExtOk P (fun g=> if g=f then some x else none):=
 ⟨fun g y hg args w=> by
  by_cases e:g=f
  ·rw[if_pos e] at hg;subst e;cases hg;exact h args w
  ·rw[if_neg e] at hg;cases hg⟩
end Go.Abs
namespace Go.Abs
theorem qEt (tm:Nat->Value) (k:Nat) (v:Value):upd tm k v k=v:=by simp[upd]
theorem qAq (tm:Nat->Value) (k j:Nat) (v:Value) (h:(j==k)=false):upd tm k v j=tm j:=by
 simp only[beq_eq_false_iff_ne,ne_eq] at h
 simp[upd,h]
section
variable {D:Type} {C:Sg D} {F:Nat} {tm:Nat->Value} {H:AH D} {K:(Nat->Value)->AH D->Prop} {E:Value->(Nat->Value)->AH D->Prop} {l:List AIns}
theorem qIh:zBc C [] tm H K E=K tm H:=rfl
theorem qCq {O:AH D->Nat->Option (AH D)}:zH1 O H none=H:=rfl
theorem qCp {O:AH D->Nat->Option (AH D)} {k:Nat}:zH1 O H (some k)=(O H k).getD H:=rfl
def goV (x:Option (Value × AH D)) (d:Option Nat) (C:Sg D) (l:List AIns) (tm:Nat->Value) (K:(Nat->Value)->AH D->Prop) (E:Value->(Nat->Value)->AH D->Prop):Prop:=
 match x with
 |some (v,H')=> zBc C l (xK d tm v) H' K E
 |none=> False
theorem qIn {d:Nat} {v:Value}:goV (some (v,H)) (some d) C l tm K E=zBc C l (upd tm d v) H K E:=rfl
theorem qIo {v:Value}:goV (some (v,H)) none C l tm K E=zBc C l tm H K E:=rfl
theorem qR7 {d:Option Nat} {c:Prop} [Decidable c] {p:Value × AH D}:goV (if c then some p else none) d C l tm K E=(c/\goV (some p) d C l tm K E):=by
 by_cases h:c<;> simp[h,goV]
theorem qO9 {d:Option Nat} {c:Prop} [Decidable c] {p:Value × AH D}:goV (if c then none else some p) d C l tm K E=(¬c/\goV (some p) d C l tm K E):=by
 by_cases h:c<;> simp[h,goV]
theorem qO7 {d:Option Nat} {o:AOp}:zBc C (⟨d,.op o,none⟩::l) tm H K E=goV (o.step tm (zH1 C.opn H (o.key tm))) d C l tm K E:=rfl
def zL9 (d:Option Nat) (C:Sg D) (l:List AIns) (tm:Nat->Value) (K:(Nat->Value)->AH D->Prop) (E:Value->(Nat->Value)->AH D->Prop):AEnd->AH D->Prop:=fun r H'=> match r with
 |.ret v=> zBc C l (xK d tm v) H' K E
 |.pan v=> E v tm H'
theorem qAi {d:Nat} {v:Value}:zL9 (some d) C l tm K E (.ret v) H=zBc C l (upd tm d v) H K E:=rfl
theorem zWm {v:Value}:zL9 none C l tm K E (.ret v) H=zBc C l tm H K E:=rfl
theorem qAj {d:Option Nat} {v:Value}:zL9 d C l tm K E (.pan v) H=E v tm H:=rfl
theorem qDm {d:Option Nat} {f:Nat} {xs:List Opd}:zBc C (⟨d,.call (.f f) xs,none⟩::l) tm H K E=C.call (.fn f) (xs.map (·.ev tm)) H (zL9 d C l tm K E):=by
 show C.call (.fn f) ([]++xs.map (·.ev tm)++[]) H _=_
 rw[List.nil_append,List.append_nil];rfl
def goF (f:Value) (xs:List Value) (C:zAx D) (H:AH D) (K:AEnd->AH D->Prop):Prop:=
 match f with
 |.func (.func g) x y=> C (.fn g) (x.toList++xs++y.toList) H K
 |.func (.yield k) _ _=> C (.yld k) xs H K
 |_=> False
theorem qPc {k:Nat} {x y:Array Value} {xs:List Value} {C:zAx D} {K:AEnd->AH D->Prop}:goF (.func (.yield k) x y) xs C H K=C (.yld k) xs H K:=rfl
theorem qIx {g:Nat} {x y:Array Value} {xs:List Value} {C:zAx D} {K:AEnd->AH D->Prop}:goF (.func (.func g) x y) xs C H K=C (.fn g) (x.toList++xs++y.toList) H K:=rfl
theorem zZj {d:Option Nat} {f:Nat} {xs:List Opd}:zBc C (⟨d,.call (.t f) xs,none⟩::l) tm H K E=goF (tm f) (xs.map (Opd.ev tm)) C.call H (zL9 d C l tm K E):=by
 show (match tm f with|.func (.func g) x y=> C.call (.fn g) (x.toList++xs.map (Opd.ev tm)++y.toList) H _|.func (.yield k) _ _=> C.call (.yld k) (xs.map (Opd.ev tm)) H _|_=> False)=_
 unfold goF
 split<;> rfl
theorem zZf {d:Option Nat} {x:Opd}:zBc C (⟨d,.panic x,none⟩::l) tm H K E=match x.ev tm with
  |.iface t v=> E (.iface t v) tm H
  |_=> False:=by
 show (match x.ev tm with|.iface t v=> E (.iface t v) tm H|_=> False)=_
 rfl
def goN (x:Value) (neg:Bool) (d:Option Nat) (C:Sg D) (l:List AIns) (tm:Nat->Value) (H:AH D) (K:(Nat->Value)->AH D->Prop) (E:Value->(Nat->Value)->AH D->Prop):Prop:=
 match x with
 |.slice none _ _=> zBc C l (xK d tm (.bool !neg)) H K E
 |.slice (some _) n c=> if 0<n∨3<=c then zBc C l (xK d tm (.bool neg)) H K E else zBc C l (xK d tm (.bool true)) H K E/\zBc C l (xK d tm (.bool false)) H K E
 |_=> False
theorem zZh {d:Option Nat} {neg:Bool} {x:Opd}:zBc C (⟨d,.isnil neg x,none⟩::l) tm H K E=goN (x.ev tm) neg d C l tm H K E:=rfl
theorem qIt {neg:Bool} {d n c:Nat}:goN (.slice none n c) neg (some d) C l tm H K E=zBc C l (upd tm d (.bool !neg)) H K E:=rfl
theorem qIs {neg:Bool} {d n c:Nat} {a:Addr}:goN (.slice (some a) n c) neg (some d) C l tm H K E=
  (((0<n∨3<=c)->zBc C l (upd tm d (.bool neg)) H K E)/\(¬(0<n∨3<=c)->zBc C l (upd tm d (.bool true)) H K E/\zBc C l (upd tm d (.bool false)) H K E)):=by
 unfold goN xK
 by_cases h:0<n∨3<=c<;> simp[h]
def goM3 (x:Option (List MapEntry × Nat)) (k m since:Nat) (seen:List Nat) (stepped:Nat) (d:Option Nat) (C:Sg D) (l:List AIns) (tm:Nat->Value) (H:AH D) (K:(Nat->Value)->AH D->Prop) (E:Value->(Nat->Value)->AH D->Prop):Prop:=
 match x with
 |some (es,c)=> (∀e∈es,e.born<since)/\since<=stepped/\((∀e∈es,e.born∈seen)->zBc C l (xK d tm (.tuple #[.bool false])) H K E)/\
  ∀e∈es,e.born∉seen->zBc C l (xK d tm (.tuple #[.bool true,e.key,e.val])) (H.upd k (.miter m since (seen++[e.born]) c)) K E
 |none=> False
def goM2 (x:Option (AObj D)) (k:Nat) (d:Option Nat) (C:Sg D) (l:List AIns) (tm:Nat->Value) (H:AH D) (K:(Nat->Value)->AH D->Prop) (E:Value->(Nat->Value)->AH D->Prop):Prop:=
 match x with
 |some (.miter m since seen stepped)=> goM3 (H.mapAt m) k m since seen stepped d C l tm H K E
 |_=> False
def goM (x:Value) (d:Option Nat) (C:Sg D) (l:List AIns) (tm:Nat->Value) (H:AH D) (K:(Nat->Value)->AH D->Prop) (E:Value->(Nat->Value)->AH D->Prop):Prop:=
 match x with
 |.pointer (some ⟨k,0,none⟩)=> goM2 (H.get k) k d C l tm H K E
 |_=> False
theorem zZg {d:Option Nat} {x:Opd}:zBc C (⟨d,.mnext x,none⟩::l) tm H K E=goM (x.ev tm) d C l tm H K E:=rfl
theorem qR8 {k:Nat} {d:Option Nat}:goM (.pointer (some ⟨k,0,none⟩)) d C l tm H K E=goM2 (H.get k) k d C l tm H K E:=rfl
theorem qPb {k m since stepped:Nat} {seen:List Nat} {d:Option Nat}:goM2 (some (.miter m since seen stepped)) k d C l tm H K E=goM3 (H.mapAt m) k m since seen stepped d C l tm H K E:=rfl
theorem qPa {k m since stepped c d:Nat} {seen:List Nat} {es:List MapEntry}:goM3 (some (es,c)) k m since seen stepped (some d) C l tm H K E=
 ((∀e∈es,e.born<since)/\since<=stepped/\((∀e∈es,e.born∈seen)->zBc C l (upd tm d (.tuple #[.bool false])) H K E)/\
   ∀e∈es,e.born∉seen->zBc C l (upd tm d (.tuple #[.bool true,e.key,e.val])) (H.upd k (.miter m since (seen++[e.born]) c)) K E):=rfl
def goG (t:Nat) (x:Value) (want:Bool) (d:Option Nat) (k:AK) (C:Sg D) (l:List AIns) (tm:Nat->Value) (H:AH D) (K:(Nat->Value)->AH D->Prop) (E:Value->(Nat->Value)->AH D->Prop):Prop:=
 match x with
 |.bool b=> if b=want then zBc C (⟨d,k,none⟩::l) (upd tm t (.bool b)) H K E else zBc C l (xK d (upd tm t (.bool b)) undef) H K E
 |.tuple x=> zBc C l (xK d (upd tm t (.tuple x)) undef) H K E
 |_=> False
theorem zIr (tm:Nat->Value) (t:Nat):upd tm t (tm t)=tm:=by
 funext j;unfold upd;split
 ·rename_i h;rw[h]
 ·rfl
theorem zZi {d:Option Nat} {k:AK} {t:Nat} {want:Bool}:zBc C (⟨d,k,some (t,want)⟩::l) tm H K E=goG t (tm t) want d k C l tm H K E:=by
 have e:zBc C (⟨d,k,some (t,want)⟩::l) tm H K E=AIns.wp C.call ⟨d,k,some (t,want)⟩ tm (zH1 C.opn H (AIns.key ⟨d,k,some (t,want)⟩ tm)) (fun tm' H'=> zBc C l tm' H' K E) (fun v H'=> E v tm H'):=rfl
 rw[e]
 unfold goG
 cases h:tm t with
 |bool b=>
  have hs:upd tm t (.bool b)=tm:=by rw[←h];exact zIr tm t
  simp only[hs,AIns.wp,AIns.key,h]
  by_cases hb:b=want
  ·simp only[if_pos hb];rfl
  ·simp only[if_neg hb];rfl
 |tuple x=>
  have hs:upd tm t (.tuple x)=tm:=by rw[←h];exact zIr tm t
  simp only[hs,AIns.wp,AIns.key,h];rfl
 |_=> simp only[AIns.wp,h]
theorem goG_u {d:Nat} {k:AK} {t:Nat} {want:Bool}:goG t undef want (some d) k C l tm H K E=zBc C l (upd (upd tm t undef) d undef) H K E:=rfl
theorem qSc {d:Option Nat} {k:AK} {t:Nat}:goG t (.bool true) true d k C l tm H K E=zBc C (⟨d,k,none⟩::l) (upd tm t (.bool true)) H K E:=rfl
theorem qSf {d:Option Nat} {k:AK} {t:Nat}:goG t (.bool false) false d k C l tm H K E=zBc C (⟨d,k,none⟩::l) (upd tm t (.bool false)) H K E:=rfl
theorem qSd {d:Nat} {k:AK} {t:Nat}:goG t (.bool true) false (some d) k C l tm H K E=zBc C l (upd (upd tm t (.bool true)) d undef) H K E:=rfl
theorem qSe {d:Nat} {k:AK} {t:Nat}:goG t (.bool false) true (some d) k C l tm H K E=zBc C l (upd (upd tm t (.bool false)) d undef) H K E:=rfl
theorem goG_b {d:Option Nat} {k:AK} {t:Nat} {b want:Bool}:goG t (.bool b) want d k C l tm H K E=((b=true->goG t (.bool true) want d k C l tm H K E)/\(b=false->goG t (.bool false) want d k C l tm H K E)):=by
 cases b<;> simp
theorem qR6 {o:AOp}:(AK.op o).key tm=o.key tm:=rfl
theorem qIa {f:Opd} {xs:List Opd}:(AK.call f xs).key tm=none:=rfl
theorem qDj {x:Opd}:(AK.panic x).key tm=none:=rfl
def zOb (C:Sg D) (F:Nat) (b:AC) (Q:AExit->(Nat->Value)->AH D->Prop):AExit->(Nat->Value)->AH D->Prop:=fun e tm' H'=> match e with
 |.normal=> b.wp C F Q tm' H'
 |e=> Q e tm' H'
def zL3 (id:Nat) (Q:AExit->(Nat->Value)->AH D->Prop):AExit->(Nat->Value)->AH D->Prop:=fun e tm' H'=> match e with
 |.exit j=> if j=id then Q .normal tm' H' else Q (.exit j) tm' H'
 |e=> Q e tm' H'
variable {Q:AExit->(Nat->Value)->AH D->Prop}
def panK (Q:AExit->(Nat->Value)->AH D->Prop):Value->(Nat->Value)->AH D->Prop:=fun v=> Q (.pan v)
theorem qOk {v:Value}:panK Q v tm H=Q (.pan v) tm H:=rfl
def norK (Q:AExit->(Nat->Value)->AH D->Prop):(Nat->Value)->AH D->Prop:=Q .normal
theorem qOt:norK Q tm H=Q .normal tm H:=rfl
theorem qTn:(AC.reg l).wp C F Q tm H=zBc C l tm H (norK Q) (panK Q):=rfl
theorem qTl {a b:AC}:(AC.seq a b).wp C F Q tm H=a.wp C F (zOb C F b Q) tm H:=rfl
def zN0 (t:Nat) (x:Value) (a b:AC) (C:Sg D) (F:Nat) (Q:AExit->(Nat->Value)->AH D->Prop) (tm:Nat->Value) (H:AH D):Prop:=
 match x with
 |.bool c=> if c then a.wp C F Q (upd tm t (.bool true)) H else b.wp C F Q (upd tm t (.bool false)) H
 |_=> False
theorem qJy {n:Nat} {a b:AC}:(AC.cond (.t n) a b).wp C F Q tm H=zN0 n (tm n) a b C F Q tm H:=by
 show (match tm n with|.bool t=> if t then a.wp C F Q tm H else b.wp C F Q tm H|_=> False)=_
 unfold zN0
 cases h:tm n with
 |bool c=>
  have hs:upd tm n (.bool c)=tm:=by rw[←h];exact zIr tm n
  cases c
  ·simp[hs]
  ·simp[hs]
 |_=> rfl
theorem qEp {a b:AC}:(AC.cond (.k (.bool true)) a b).wp C F Q tm H=a.wp C F Q tm H:=rfl
theorem qEq {a b:AC}:(AC.cond (.k (.bool false)) a b).wp C F Q tm H=b.wp C F Q tm H:=rfl
theorem qR9 {n:Nat} {a b:AC}:zN0 n (.bool true) a b C F Q tm H=a.wp C F Q (upd tm n (.bool true)) H:=rfl
theorem qSa {n:Nat} {a b:AC}:zN0 n (.bool false) a b C F Q tm H=b.wp C F Q (upd tm n (.bool false)) H:=rfl
theorem qSb {n:Nat} {t:Bool} {a b:AC}:zN0 n (.bool t) a b C F Q tm H=((t=true->zN0 n (.bool true) a b C F Q tm H)/\(t=false->zN0 n (.bool false) a b C F Q tm H)):=by
 cases t<;> simp
theorem qJz {id:Nat} {a:AC}:(AC.block id a).wp C F Q tm H=a.wp C F (zL3 id Q) tm H:=rfl
theorem qP0:(AC.skip).wp C F Q tm H=Q .normal tm H:=rfl
theorem qP1 {id:Nat}:(AC.exit id).wp C F Q tm H=Q (.exit id) tm H:=rfl
theorem qTm:(AC.ret).wp C F Q tm H=Q .ret tm H:=rfl
theorem zSx {b:AC}:zOb C F b Q .normal tm H=b.wp C F Q tm H:=rfl
theorem zXx {b:AC} {id:Nat}:zOb C F b Q (.exit id) tm H=Q (.exit id) tm H:=rfl
theorem qAu {b:AC}:zOb C F b Q .ret tm H=Q .ret tm H:=rfl
theorem qAv {b:AC} {v:Value}:zOb C F b Q (.pan v) tm H=Q (.pan v) tm H:=rfl
theorem zRu {id:Nat}:zL3 id Q .normal tm H=Q .normal tm H:=rfl
theorem zWk {id j:Nat}:zL3 id Q (.exit j) tm H=if j=id then Q .normal tm H else Q (.exit j) tm H:=rfl
theorem zZ8 {id:Nat}:zL3 id Q .ret tm H=Q .ret tm H:=rfl
theorem zZ9 {id:Nat} {v:Value}:zL3 id Q (.pan v) tm H=Q (.pan v) tm H:=rfl
def zLg (Q:AExit->(Nat->Value)->AH D->Prop):AExit->(Nat->Value)->AH D->Prop:=fun e tm' H'=> match e with
 |.goto _=> False
 |e=> Q e tm' H'
theorem qJv {a:AC}:(AC.scope a).wp C F Q tm H=a.wp C F (zLg Q) tm H:=rfl
theorem qJx {j:Nat}:(AC.label j).wp C F Q tm H=Q .normal tm H:=rfl
theorem zRj:zLg Q .normal tm H=Q .normal tm H:=rfl
theorem zVo {j:Nat}:zLg Q (.exit j) tm H=Q (.exit j) tm H:=rfl
theorem zX4:zLg Q .ret tm H=Q .ret tm H:=rfl
theorem zX5 {v:Value}:zLg Q (.pan v) tm H=Q (.pan v) tm H:=rfl
def zUv (res:List ARes) (K:AEnd->AH D->Prop):AExit->(Nat->Value)->AH D->Prop:=fun e tm H'=> match e with
 |.normal|.ret=> match zLo tm H' res with
  |some v=> K (.ret v) H'
  |none=> False
 |.pan v=> K (.pan v) H'
 |_=> False
def goR (x:Option Value) (K:AEnd->AH D->Prop) (H:AH D):Prop:=
 match x with
 |some v=> K (.ret v) H
 |none=> False
theorem qIr {v:Value} {K:AEnd->AH D->Prop}:goR (some v) K H=K (.ret v) H:=rfl
theorem qI8 {res:List ARes} {K:AEnd->AH D->Prop}:zUv res K .ret tm H=goR (zLo tm H res) K H:=rfl
theorem zWc {res:List ARes} {K:AEnd->AH D->Prop}:zUv res K .normal tm H=goR (zLo tm H res) K H:=rfl
theorem qI9 {res:List ARes} {K:AEnd->AH D->Prop} {v:Value}:zUv res K (.pan v) tm H=K (.pan v) H:=rfl
theorem qB {n:Nat} {res:List ARes} {b:AB} {args:List Value} {K:AEnd->AH D->Prop}:AF.run C F ⟨n,res,b,none⟩ args H K=(args.length<=n/\b.wp C F (zUv res K) (zGv args) H):=by
 show (none=none/\_)=_
 simp only[true_and];rfl
theorem qP4 {b:AC}:(AB.code b).wp C F Q tm H=b.wp C F Q tm H:=rfl
def thnQ (C:Sg D) (F:Nat) (b:AB) (Q:AExit->(Nat->Value)->AH D->Prop):AExit->(Nat->Value)->AH D->Prop:=fun e tm' H'=> match e with
 |.normal=> b.wp C F Q tm' H'
 |e=> Q e tm' H'
theorem qTo {a:AC} {b:AB}:(AB.thn a b).wp C F Q tm H=a.wp C F (thnQ C F b Q) tm H:=rfl
theorem zVk {b:AB}:thnQ C F b Q .normal tm H=b.wp C F Q tm H:=rfl
theorem qE4 {b:AB}:thnQ C F b Q .ret tm H=Q .ret tm H:=rfl
theorem qE5 {b:AB} {v:Value}:thnQ C F b Q (.pan v) tm H=Q (.pan v) tm H:=rfl
def goDf (v:Value) (C:Sg D) (F:Nat) (rest:AC) (Q:AExit->(Nat->Value)->AH D->Prop) (tm:Nat->Value) (H:AH D):Prop:=match v with
 |.func (.func g) u v=> rest.wp C F (zJo C g (u.toList++v.toList) Q) tm H
 |_=> False
def dfrK (C:Sg D) (F:Nat) (x:Opd) (rest:AC) (Q:AExit->(Nat->Value)->AH D->Prop):(Nat->Value)->AH D->Prop:=fun tm H=> goDf (x.ev tm) C F rest Q tm H
theorem qTp {l:List AIns} {x:Opd} {rest:AC}:(AB.dfr l x rest).wp C F Q tm H=zBc C l tm H (dfrK C F x rest Q) (panK Q):=rfl
theorem qPr {x:Opd} {rest:AC}:dfrK C F x rest Q tm H=goDf (x.ev tm) C F rest Q tm H:=rfl
theorem qDs {g:Nat} {u v:Array Value} {rest:AC}:goDf (.func (.func g) u v) C F rest Q tm H=rest.wp C F (zJo C g (u.toList++v.toList) Q) tm H:=rfl
def dfrR (Q:AExit->(Nat->Value)->AH D->Prop) (tm:Nat->Value):AEnd->AH D->Prop:=fun _ H'=> Q .ret tm H'
theorem qPq {r:AEnd}:dfrR Q tm r H=Q .ret tm H:=rfl
theorem zWd {g:FuncId} {as:List Value}:zJo C g as Q .normal tm H=C.call (.dfr g) (.nilIface::as) H (dfrR Q tm):=rfl
theorem qJf {g:FuncId} {as:List Value}:zJo C g as Q .ret tm H=C.call (.dfr g) (.nilIface::as) H (dfrR Q tm):=rfl
theorem qJg {g:FuncId} {as:List Value} {t:TypeId} {v:Value}:zJo C g as Q (.pan (.iface t v)) tm H=C.call (.dfr g) (.iface t v::as) H (dfrR Q tm):=rfl
def zZw (K:AEnd->AH D->Prop):AExit->(Nat->Value)->AH D->Prop:=fun e _ H'=> match e with
 |.normal|.ret=> K (.ret undef) H'
 |_=> False
theorem zUx {K:AEnd->AH D->Prop}:zZw K .normal tm H=K (.ret undef) H:=rfl
theorem qD0 {K:AEnd->AH D->Prop}:zZw K .ret tm H=K (.ret undef) H:=rfl
def goAD (x:Option AF) (C:Sg D) (F:Nat) (args:List Value) (H:AH D) (K:AEnd->AH D->Prop):Prop:=
 match x with
 |some af=> af.runD C F args H K
 |none=> False
theorem qDt {n d:Nat} {b:AC} {rv:Value} {as:List Value} {K:AEnd->AH D->Prop}:goAD (some ⟨n,[],.code b,some d⟩) C F (rv::as) H K=(as.length<=n/\b.wp C F (zZw K) (upd (zGv as) d rv) H):=by
 show ([]=[]/\_)=_
 simp only[true_and];rfl
def yldX (k:Nat) (r:Loop) (ps:List Nat) (a b:AC) (C:Sg D) (F:Nat) (tm:Nat->Value):zDu D:=zSo k r ps (a.wp C F) (b.wp C F) tm
def goRF (f:Value) (ps:List Nat) (a b:AC) (C:Sg D) (F:Nat) (Q:AExit->(Nat->Value)->AH D->Prop) (tm:Nat->Value) (H:AH D):Prop:=match f with
 |.func (.func g) x y=> ∀r:Loop,C.iter (yldX H.next r ps a b C F tm) (.fn g) (x.toList++[.func (.yield H.next) #[] #[]]++y.toList) (H.add (.loopr r 0 none)) (zKf H.next Q tm)
 |_=> False
theorem qJw {f:Opd} {ps:List Nat} {a b:AC}:(AC.rfunc f ps a b).wp C F Q tm H=goRF (f.ev tm) ps a b C F Q tm H:=rfl
theorem qDo {g:Nat} {x y:Array Value} {ps:List Nat} {a b:AC}:goRF (.func (.func g) x y) ps a b C F Q tm H=∀r:Loop,C.iter (yldX H.next r ps a b C F tm) (.fn g) (x.toList++[.func (.yield H.next) #[] #[]]++y.toList) (H.add (.loopr r 0 none)) (zKf H.next Q tm):=rfl
def asgQ (k:Nat) (r:Loop) (b:AC) (C:Sg D) (F:Nat) (K:AEnd->AH D->Prop):AExit->(Nat->Value)->AH D->Prop:=zQi k r (b.wp C F) K
theorem qKt {k k0:Nat} {r:Loop} {ps:List Nat} {a b:AC} {args:List Value} {K:AEnd->AH D->Prop}:yldX k0 r ps a b C F tm k args H K=(k=k0/\H.get k0=some (.loopr r 0 none)/\args.length=ps.length/\a.wp C F (asgQ k0 r b C F K) (zLr tm ps args) H):=rfl
theorem zQm (sm:zD8 C) {k:Nat} {r:Loop} {ps:List Nat} {a b:AC}:zFy (yldX k r ps a b C F tm):=fun k args H K K' hk hh=> by
 refine⟨hh.1,hh.2.1,hh.2.2.1,AC.mono sm F a _ _ _ _ (fun e tm1 H1 h1=> ?_) hh.2.2.2⟩
 cases e with
 |normal=>
  refine⟨h1.1,AC.mono sm F b _ _ _ _ (fun e2 tm2 H2 h2=> ⟨h2.1,?_⟩) h1.2⟩
  have:=h2.2
  cases e2<;> first|exact hk _ _ this|exact this
 |_=> exact h1.elim
theorem zWl {k:Nat} {r:Loop} {b:AC} {K:AEnd->AH D->Prop}:asgQ k r b C F K .normal tm H=(H.get k=some (.loopr r 0 none)/\b.wp C F (zLn k r K) tm (H.upd k (.loopr r 1 none))):=rfl
theorem zRp {k:Nat} {r:Loop} {K:AEnd->AH D->Prop}:zLn k r K .normal tm H=(H.get k=some (.loopr r 1 none)/\K (.ret (.bool true)) (H.upd k (.loopr r 0 none))):=rfl
theorem zYm {k:Nat} {r:Loop} {K:AEnd->AH D->Prop}:zLn k r K .ret tm H=(H.get k=some (.loopr r 1 none)/\K (.ret (.bool false)) (H.upd k (.loopr r 2 (some .ret)))):=rfl
theorem zVv {k j:Nat} {r:Loop} {K:AEnd->AH D->Prop}:zLn k r K (.exit j) tm H=(H.get k=some (.loopr r 1 none)/\K (.ret (.bool false)) (H.upd k (.loopr r 2 (some (.exit j))))):=rfl
def goLE (x:Option (AObj D)) (k:Nat) (Q:AExit->(Nat->Value)->AH D->Prop) (tm:Nat->Value) (H:AH D):Prop:=match x with
 |some (.loopr _ 0 none)=> Q .normal tm (H.del k)
 |some (.loopr _ 2 (some j))=> jmpQ Q j tm (H.del k)
 |_=> False
theorem qC7 {k:Nat} {v:Value}:zKf k Q tm (.ret v) H=goLE (H.get k) k Q tm H:=rfl
theorem qC8 {k:Nat} {v:Value}:zKf k Q tm (.pan v) H=Q (.pan v) tm (H.del k):=rfl
theorem zV6 {k:Nat} {r:Loop}:goLE (some (.loopr r 0 none)) k Q tm H=Q .normal tm (H.del k):=rfl
theorem qIw {k:Nat} {r:Loop}:goLE (some (.loopr r 2 (some .ret))) k Q tm H=Q .ret tm (H.del k):=rfl
theorem qDr {k j:Nat} {r:Loop}:goLE (some (.loopr r 2 (some (.exit j)))) k Q tm H=Q (.exit j) tm (H.del k):=rfl
theorem qHl:zLr tm [] []=tm:=rfl
theorem qCl {t:Nat} {ps:List Nat} {v:Value} {vs:List Value}:zLr tm (t::ps) (v::vs)=zLr (upd tm t v) ps vs:=rfl
section
variable {C:zAx D} {Ep:Value->AH D->Prop}
theorem qSn:DT.nil.wp C tm H K Ep=K tm H:=rfl
theorem qPo {a b:DT}:(DT.both a b).wp C tm H K Ep=(a.wp C tm H K Ep/\b.wp C tm H K Ep):=rfl
def zDs (l:List AIns) (tm:Nat->Value) (H:AH D):Prop:=∀c∈l,c.again tm H
theorem qJl:zDs [] tm H=True:=by simp[zDs]
theorem qD5 {c:AIns} {l:List AIns}:zDs (c::l) tm H=(c.again tm H/\zDs l tm H):=by simp[zDs]
def goD (x:Option (Value × AH D)) (d:Option Nat) (chk:List AIns) (C:zAx D) (t:DT) (tm:Nat->Value) (K:(Nat->Value)->AH D->Prop) (Ep:Value->AH D->Prop):Prop:=
 match x with
 |some (v,H')=> zDs chk (xK d tm v) H'/\t.wp C (xK d tm v) H' K Ep
 |none=> False
theorem qJb {d:Option Nat} {o:AOp} {t:DT}:(DT.quiet ⟨d,.op o,none⟩ t).wp C tm H K Ep=goD (o.step tm H) d [] C t tm K Ep:=by
 simp only[DT.wp,AIns.wp,AK.wp,goD]
 cases o.step tm H with
 |none=> rfl
 |some x=> simp[zDs]
theorem qPm {d:Option Nat} {o:AOp} {t:DT} {chk:List AIns}:(DT.loud ⟨d,.op o,none⟩ chk t).wp C tm H K Ep=goD (o.step tm H) d chk C t tm K Ep:=rfl
def goND (x:Value) (neg:Bool) (d:Option Nat) (chk:List AIns) (C:zAx D) (t:DT) (tm:Nat->Value) (H:AH D) (K:(Nat->Value)->AH D->Prop) (Ep:Value->AH D->Prop):Prop:=
 match x with
 |.slice none _ _=> zDs chk (xK d tm (.bool !neg)) H/\t.wp C (xK d tm (.bool !neg)) H K Ep
 |.slice (some _) n c=> if 0<n∨3<=c then zDs chk (xK d tm (.bool neg)) H/\t.wp C (xK d tm (.bool neg)) H K Ep
  else (zDs chk (xK d tm (.bool true)) H/\t.wp C (xK d tm (.bool true)) H K Ep)/\(zDs chk (xK d tm (.bool false)) H/\t.wp C (xK d tm (.bool false)) H K Ep)
 |_=> False
theorem qJc {d:Option Nat} {neg:Bool} {x:Opd} {t:DT} {chk:List AIns}:(DT.loud ⟨d,.isnil neg x,none⟩ chk t).wp C tm H K Ep=goND (x.ev tm) neg d chk C t tm H K Ep:=rfl
theorem qDq {neg:Bool} {d:Option Nat} {n c:Nat} {t:DT} {chk:List AIns}:goND (.slice none n c) neg d chk C t tm H K Ep=(zDs chk (xK d tm (.bool !neg)) H/\t.wp C (xK d tm (.bool !neg)) H K Ep):=rfl
theorem qDp {neg:Bool} {d:Option Nat} {n c:Nat} {a:Addr} {t:DT} {chk:List AIns}:goND (.slice (some a) n c) neg d chk C t tm H K Ep=
  (((0<n∨3<=c)->zDs chk (xK d tm (.bool neg)) H/\t.wp C (xK d tm (.bool neg)) H K Ep)/\
    (¬(0<n∨3<=c)->(zDs chk (xK d tm (.bool true)) H/\t.wp C (xK d tm (.bool true)) H K Ep)/\(zDs chk (xK d tm (.bool false)) H/\t.wp C (xK d tm (.bool false)) H K Ep))):=by
 unfold goND
 by_cases h:0<n∨3<=c<;> simp[h]
theorem qIy {d:Option Nat} {chk:List AIns} {t:DT} {v:Value}:goD (some (v,H)) d chk C t tm K Ep=(zDs chk (xK d tm v) H/\t.wp C (xK d tm v) H K Ep):=rfl
theorem qIz {d:Option Nat} {chk:List AIns} {t:DT}:goD none d chk C t tm K Ep=False:=rfl
theorem qSg {d:Option Nat} {chk:List AIns} {t:DT} {c:Prop} [Decidable c] {p:Value × AH D}:goD (if c then some p else none) d chk C t tm K Ep=(c/\goD (some p) d chk C t tm K Ep):=by
 by_cases h:c<;> simp[h,goD]
def zPf (d:Option Nat) (chk:List AIns) (C:zAx D) (t:DT) (tm:Nat->Value) (K:(Nat->Value)->AH D->Prop) (Ep:Value->AH D->Prop):AEnd->AH D->Prop:=fun r H'=> match r with
 |.ret v=> zDs chk (xK d tm v) H'/\t.wp C (xK d tm v) H' K Ep
 |.pan v=> Ep v H'
theorem qAg {d:Option Nat} {chk:List AIns} {t:DT} {v:Value}:zPf d chk C t tm K Ep (.ret v) H=(zDs chk (xK d tm v) H/\t.wp C (xK d tm v) H K Ep):=rfl
theorem qAh {d:Option Nat} {chk:List AIns} {t:DT} {v:Value}:zPf d chk C t tm K Ep (.pan v) H=Ep v H:=rfl
theorem qPn {d:Option Nat} {f:Nat} {xs:List Opd} {t:DT} {chk:List AIns}:(DT.loud ⟨d,.call (.f f) xs,none⟩ chk t).wp C tm H K Ep=C (.fn f) (xs.map (·.ev tm)) H (zPf d chk C t tm K Ep):=by
 show C (.fn f) ([]++xs.map (·.ev tm)++[]) H _=_
 rw[List.nil_append,List.append_nil];rfl
theorem qJd {d:Option Nat} {f:Nat} {xs:List Opd} {t:DT} {chk:List AIns}:(DT.loud ⟨d,.call (.t f) xs,none⟩ chk t).wp C tm H K Ep=goF (tm f) (xs.map (Opd.ev tm)) C H (zPf d chk C t tm K Ep):=by
 show (match tm f with|.func (.func g) x y=> C (.fn g) (x.toList++xs.map (Opd.ev tm)++y.toList) H _|.func (.yield k) _ _=> C (.yld k) (xs.map (Opd.ev tm)) H _|_=> False)=_
 unfold goF
 split<;> rfl
def zI2 (t:Nat) (x:Value) (want:Bool) (d:Option Nat) (k:AK) (chk:List AIns) (C:zAx D) (m:DT) (tm:Nat->Value) (H:AH D) (K:(Nat->Value)->AH D->Prop) (Ep:Value->AH D->Prop):Prop:=
 match x with
 |.bool b=> if b=want then (DT.loud ⟨d,k,none⟩ chk m).wp C (upd tm t (.bool b)) H K Ep else zDs chk (xK d (upd tm t (.bool b)) undef) H/\m.wp C (xK d (upd tm t (.bool b)) undef) H K Ep
 |.tuple x=> zDs chk (xK d (upd tm t (.tuple x)) undef) H/\m.wp C (xK d (upd tm t (.tuple x)) undef) H K Ep
 |_=> False
theorem zUw {d:Option Nat} {k:AK} {t:Nat} {want:Bool} {m:DT} {chk:List AIns}:(DT.loud ⟨d,k,some (t,want)⟩ chk m).wp C tm H K Ep=zI2 t (tm t) want d k chk C m tm H K Ep:=by
 unfold zI2
 simp only[DT.wp,AIns.wp]
 cases h:tm t with
 |bool b=>
  have hs:upd tm t (.bool b)=tm:=by rw[←h];exact zIr tm t
  simp only[hs]
  by_cases hb:b=want
  ·rw[if_pos hb,if_pos hb]
  ·rw[if_neg hb,if_neg hb];rfl
 |tuple x=>
  have hs:upd tm t (.tuple x)=tm:=by rw[←h];exact zIr tm t
  simp only[hs];rfl
 |_=> rfl
theorem qSh {d:Option Nat} {k:AK} {t:Nat} {m:DT} {chk:List AIns} {want:Bool}:zI2 t undef want d k chk C m tm H K Ep=(zDs chk (xK d (upd tm t undef) undef) H/\m.wp C (xK d (upd tm t undef) undef) H K Ep):=rfl
theorem qDy {d:Option Nat} {k:AK} {t:Nat} {want:Bool} {m:DT}:(DT.quiet ⟨d,k,some (t,want)⟩ m).wp C tm H K Ep=zI2 t (tm t) want d k [] C m tm H K Ep:=by
 rw[←zUw]
 simp only[DT.wp,List.not_mem_nil,false_implies,implies_true,true_and]
theorem zXe {d:Option Nat} {k:AK} {t:Nat} {m:DT} {chk:List AIns}:zI2 t (.bool true) true d k chk C m tm H K Ep=(DT.loud ⟨d,k,none⟩ chk m).wp C (upd tm t (.bool true)) H K Ep:=rfl
theorem zXh {d:Option Nat} {k:AK} {t:Nat} {m:DT} {chk:List AIns}:zI2 t (.bool false) false d k chk C m tm H K Ep=(DT.loud ⟨d,k,none⟩ chk m).wp C (upd tm t (.bool false)) H K Ep:=rfl
theorem zXf {d:Option Nat} {k:AK} {t:Nat} {m:DT} {chk:List AIns}:zI2 t (.bool true) false d k chk C m tm H K Ep=(zDs chk (xK d (upd tm t (.bool true)) undef) H/\m.wp C (xK d (upd tm t (.bool true)) undef) H K Ep):=rfl
theorem zXg {d:Option Nat} {k:AK} {t:Nat} {m:DT} {chk:List AIns}:zI2 t (.bool false) true d k chk C m tm H K Ep=(zDs chk (xK d (upd tm t (.bool false)) undef) H/\m.wp C (xK d (upd tm t (.bool false)) undef) H K Ep):=rfl
theorem qSi {d:Option Nat} {k:AK} {t:Nat} {m:DT} {chk:List AIns} {b want:Bool}:zI2 t (.bool b) want d k chk C m tm H K Ep=((b=true->zI2 t (.bool true) want d k chk C m tm H K Ep)/\(b=false->zI2 t (.bool false) want d k chk C m tm H K Ep)):=by
 cases b<;> simp
end
def goW (x:Option (Value × AH D)) (O:AH D->Nat->Option (AH D)) (d:Option Nat) (t:DT) (tm:Nat->Value) (H1:AH D):AH D:=
 match x with
 |some (v,_)=> zD2 O t (xK d tm v) H1
 |none=> H1
theorem zXt {O:AH D->Nat->Option (AH D)} {d:Option Nat} {o:AOp} {t:DT}:zD2 O (.quiet ⟨d,.op o,none⟩ t) tm H=goW (o.step tm (zH1 O H (o.key tm))) O d t tm (zH1 O H (o.key tm)):=by
 conv=> lhs;unfold zD2
 unfold goW
 split<;> rename_i h<;> rw[h]
theorem qIl {O:AH D->Nat->Option (AH D)} {d:Option Nat} {t:DT} {v:Value} {H' H1:AH D}:goW (some (v,H')) O d t tm H1=zD2 O t (xK d tm v) H1:=rfl
theorem qIm {O:AH D->Nat->Option (AH D)} {d:Option Nat} {t:DT} {H1:AH D}:goW none O d t tm H1=H1:=rfl
theorem qAn {O:AH D->Nat->Option (AH D)} {i:AIns} {chk:List AIns} {t:DT}:zD2 O (.loud i chk t) tm H=H:=by unfold zD2;rfl
theorem qAo {O:AH D->Nat->Option (AH D)} {a b:DT}:zD2 O (.both a b) tm H=H:=by unfold zD2;rfl
theorem qEs {O:AH D->Nat->Option (AH D)}:zD2 O .nil tm H=H:=by unfold zD2;rfl
theorem zXu {O:AH D->Nat->Option (AH D)} {d:Option Nat} {k:AK} {g:Nat × Bool} {t:DT}:zD2 O (.quiet ⟨d,k,some g⟩ t) tm H=H:=by cases k<;> (unfold zD2;rfl)
theorem qOl {v:Value}:panD Q v H=∀tm',Q (.pan v) tm' H:=rfl
theorem qP2 {m:DT}:(AC.dreg m).wp C F Q tm H=m.wp C.call tm (zD2 C.opn m tm H) (norK Q) (panD Q):=rfl
variable {S:FuncId->Option (List Value->AH D->(AEnd->AH D->Prop)->Prop)} {T:FuncId->Option AF} {G:zAx D->(zDu D->zAx D)->Sg D} {Y:zDu D}
theorem zZ4 {d f:Nat} {args:List Value} {K:AEnd->AH D->Prop} {c:List Value->AH D->(AEnd->AH D->Prop)->Prop} (h:S f=some c):zAf G S T F d Y (.fn f) args H K=c args H K:=by
 cases d with
 |zero=> show (match S f with|some c=> c args H K|none=> False)=_;rw[h]
 |succ d=> show (match S f with|some c=> c args H K|none=> match T f with|some af=> af.run (G (zAf G S T F d Y) (zAf G S T F d)) F args H K|none=> False)=_;rw[h]
theorem qEa {d k:Nat} {args:List Value} {K:AEnd->AH D->Prop}:zAf G S T F d Y (.yld k) args H K=Y k args H K:=by cases d<;> rfl
theorem zZ7 {f:Nat} {args:List Value} {K:AEnd->AH D->Prop}:zAf G S T F 1 Y (.dfr f) args H K=goAD (T f) (G (zAf G S T F 0 Y) (zAf G S T F 0)) F args H K:=rfl
theorem zZ6 {f:Nat} {args:List Value} {K:AEnd->AH D->Prop}:zAf G S T F 2 Y (.dfr f) args H K=goAD (T f) (G (zAf G S T F 1 Y) (zAf G S T F 1)) F args H K:=rfl
theorem zZ5 {f:Nat} {args:List Value} {K:AEnd->AH D->Prop}:zAf G S T F 3 Y (.dfr f) args H K=goAD (T f) (G (zAf G S T F 2 Y) (zAf G S T F 2)) F args H K:=rfl
end
end Go.Abs
namespace Go.Abs
def qKp (o:Nat):Option Nat->Value
 |some i=> .pointer (some ⟨i,o,none⟩)
 |none=> .chan none
def qKo (o n c:Nat):Option Nat->Value
 |some i=> .slice (some ⟨i,o,none⟩) n c
 |none=> .chan none
def qKq:Option Nat->Value
 |some i=> .map (some i)
 |none=> .chan none
def qKn (x y:List Value):Option Nat->Value
 |some i=> .func (.yield i) ⟨x⟩ ⟨y⟩
 |none=> .chan none
def zSl (κ:Nat->Option Nat) (x y:List Value):Fn->Value
 |.func f=> .func (.func f) ⟨x⟩ ⟨y⟩
 |.yield k=> qKn x y (κ k)
 |.method n=> .func (.method n) ⟨x⟩ ⟨y⟩
 |.methodOf t n=> .func (.methodOf t n) ⟨x⟩ ⟨y⟩
 |.via t p f b=> .func (.via t p f b) ⟨x⟩ ⟨y⟩
mutual
def back (κ:Nat->Option Nat):Value->Value
 |.bool b=> .bool b
 |.int k n=> .int k n
 |.float k n=> .float k n
 |.complex k a b=> .complex k a b
 |.string s=> .string s
 |.pointer none=> .pointer none
 |.pointer (some ⟨k,o,none⟩)=> qKp o (κ k)
 |.pointer (some ⟨k,o,some x⟩)=> .pointer (some ⟨k,o,some x⟩)
 |.slice none n c=> .slice none n c
 |.slice (some ⟨k,o,none⟩) n c=> qKo o n c (κ k)
 |.slice (some ⟨k,o,some x⟩) n c=> .slice (some ⟨k,o,some x⟩) n c
 |.map none=> .map none
 |.map (some k)=> qKq (κ k)
 |.chan c=> .chan c
 |.func f ⟨x⟩ ⟨y⟩=> zSl κ (backs κ x) (backs κ y) f
 |.nilFunc=> .nilFunc
 |.nilIface=> .nilIface
 |.iface t v=> .iface t (back κ v)
 |.agg ⟨l⟩=> .agg ⟨backs κ l⟩
 |.tuple ⟨l⟩=> .tuple ⟨backs κ l⟩
def backs (κ:Nat->Option Nat):List Value->List Value
 |[]=> []
 |v::l=> back κ v::backs κ l
end
mutual
theorem VR.back {ρ:Env} {θ:Nat->Nat} {κ:Nat->Option Nat} (hκ:∀k i,κ k=some i->θ i=k):∀{v v':Value},VR ρ v v'->VR (ρ.on θ) (Abs.back κ v) v'
 |_,_,.bool b=> by rw[Abs.back];exact .bool b
 |_,_,.int k n=> by rw[Abs.back];exact .int k n
 |_,_,.float k b=> by rw[Abs.back];exact .float k b
 |_,_,.string s=> by rw[Abs.back];exact .string s
 |_,_,.nilp=> by rw[Abs.back];exact .nilp
 |_,_,.ptr k o l e=> by
  rw[Abs.back]
  cases h:κ k with
  |none=> exact .junk _ _ rfl
  |some i=> exact .ptr i o l (by show ρ.loc (θ i)=_;rw[hκ k i h];exact e)
 |_,_,.nils=> by rw[Abs.back];exact .nils
 |_,_,.slice k o o' n c cc l e h1 h2 h3 h4=> by
  rw[Abs.back]
  cases h:κ k with
  |none=> exact .junk _ _ rfl
  |some i=> exact .slice i o o' n c cc l (by show ρ.loc (θ i)=_;rw[hκ k i h];exact e) h1 h2 h3 h4
 |_,_,.slicen k c a cc h1 h2=> by
  rw[Abs.back]
  cases h:κ k with
  |none=> exact .junk _ _ rfl
  |some i=> exact .slicen i c a cc h1 h2
 |_,_,.nilm=> by rw[Abs.back];exact .nilm
 |_,_,.map k l e=> by
  rw[Abs.back]
  cases h:κ k with
  |none=> exact .junk _ _ rfl
  |some i=> exact .map i l (by show ρ.loc (θ i)=_;rw[hκ k i h];exact e)
 |_,_,.junk c v' h=> by rw[Abs.back];exact .junk c v' h
 |_,_,.yld k l e=> by
  rw[Abs.back,zSl,Abs.backs]
  cases h:κ k with
  |none=> exact .junk _ _ rfl
  |some i=> exact .yld i l (by show ρ.loc (θ i)=_;rw[hκ k i h];exact e)
 |_,_,.func f ⟨x⟩ ⟨y⟩ x' y' h1 h2=> by rw[Abs.back,zSl];exact .func f _ _ x' y' (VRs.backs hκ h1) (VRs.backs hκ h2)
 |_,_,.nilFunc=> by rw[Abs.back];exact .nilFunc
 |_,_,.nilIface=> by rw[Abs.back];exact .nilIface
 |_,_,.iface t v v' h1=> by rw[Abs.back];exact .iface t _ v' (VR.back hκ h1)
 |_,_,.agg ⟨x⟩ x' h1=> by rw[Abs.back];exact .agg _ _ (VRs.backs hκ h1)
 |_,_,.tuple ⟨x⟩ x' h1=> by rw[Abs.back];exact .tuple _ _ (VRs.backs hκ h1)
theorem VRs.backs {ρ:Env} {θ:Nat->Nat} {κ:Nat->Option Nat} (hκ:∀k i,κ k=some i->θ i=k):∀{l l':List Value},VRs ρ l l'->VRs (ρ.on θ) (Abs.backs κ l) l'
 |_,_,.nil=> by rw[Abs.backs];exact .nil
 |_,_,.cons _ _ _ _ h1 h2=> by rw[Abs.backs];exact .cons _ _ _ _ (VR.back hκ h1) (VRs.backs hκ h2)
end
end Go.Abs
namespace Go.Abs
open Go.RowKit
section
variable {D:Type} {P:Program} {cfg:D->HRep}
open Classical in
noncomputable def AH.emb (H:AH D) (θ:Nat->Nat) (n:Nat) (H1:AH D):AH D where
 next:=H.next+(H1.next - n)
 get:=fun j=> if h:∃i,θ i=j then (H1.get h.choose).map (·.ren θ) else H.get j
theorem AH.emb_img {H H1:AH D} {θ:Nat->Nat} {n:Nat} (inj:∀i j,θ i=θ j->i=j) (i:Nat):(H.emb θ n H1).get (θ i)=(H1.get i).map (·.ren θ):=by
 have h:∃i',θ i'=θ i:=⟨i,rfl⟩
 unfold AH.emb
 simp only[dif_pos h]
 rw[inj _ _ h.choose_spec]
theorem AH.emb_oth {H H1:AH D} {θ:Nat->Nat} {n:Nat} {j:Nat} (h:¬∃i,θ i=j):(H.emb θ n H1).get j=H.get j:=by
 unfold AH.emb
 simp only[dif_neg h]
def zLp (θ:Nat->Nat):AEnd->AEnd
 |.ret v=> .ret (ren θ v)
 |.pan v=> .pan (ren θ v)
variable {θ:Nat->Nat} {Hs H:AH D}
open Classical in
theorem zP.frame (e:Emb θ Hs H) {f:FuncId} {args:List Value} {Ks:AEnd->AH D->Prop} (h:zP P cfg f args Hs Ks)
  (hn:∀r H1,Ks r H1->Hs.next<=H1.next/\∀i cs,H1.get i=some (.ro cs)->cs≠[]->∃cs',Hs.get i=some (.ro cs')/\cs'≠[]):
  zP P cfg f (zAu θ args) H fun r H'=> ∃r1 H1,Ks r1 H1/\r=zLp θ r1/\H'=H.emb θ Hs.next H1:=by
 refine⟨h.1,fun ρ own w args' hr hv=> ?_⟩
 refine (h.2 (ρ.on θ) _ w args' (e.rel hr) (VRs.of_rens _ hv)).mono fun en w1 ⟨r1,H1,ρ1,own1,k1,x1,v1,r1'⟩=> ?_
 obtain⟨hle,hro⟩:=hn _ _ k1
 let ρ2:Env:=⟨fun j=> if h:∃i,θ i=j then ρ1.loc h.choose else ρ.loc j⟩
 have himg:∀i,ρ2.loc (θ i)=ρ1.loc i:=fun i=> by
  have hx:∃i',θ i'=θ i:=⟨i,rfl⟩
  show (if h:∃i',θ i'=θ i then ρ1.loc h.choose else ρ.loc (θ i))=_
  rw[dif_pos hx,e.inj _ _ hx.choose_spec]
 have hoth:∀j,(¬∃i,θ i=j)->ρ2.loc j=ρ.loc j:=fun j hj=> by
  show (if h:∃i',θ i'=j then ρ1.loc h.choose else ρ.loc j)=_
  rw[dif_neg hj]
 have hon:ρ2.on θ=ρ1:=by
  cases ρ1
  unfold Env.on
  congr
  exact funext fun i=> himg i
 let own2:Nat->Nat->Prop:=fun j b=> if h:∃i,θ i=j then own1 h.choose b else own j b
 have oimg:∀i,own2 (θ i)=own1 i:=fun i=> by
  have hx:∃i',θ i'=θ i:=⟨i,rfl⟩
  funext b
  show (if h:∃i',θ i'=θ i then own1 h.choose b else own (θ i) b)=_
  rw[dif_pos hx,e.inj _ _ hx.choose_spec]
 have ooth:∀j,(¬∃i,θ i=j)->own2 j=own j:=fun j hj=> by
  funext b
  show (if h:∃i',θ i'=j then own1 h.choose b else own j b)=_
  rw[dif_neg hj]
 have hge:∀j,H.next<=j->θ (Hs.next+(j - H.next))=j:=fun j hj=> by
  rw[e.hi _ (by omega)];omega
 have hlele:ρ.le ρ2:=fun j x hx=> by
  by_cases hj:∃i,θ i=j
  ·obtain⟨i,rfl⟩:=hj
   rw[himg]
   exact x1.le i x hx
  ·rw[hoth j hj];exact hx
 have oback:∀i b,own1 i b->(∃k0,own (θ k0) b)∨w.heap.size<=b:=fun i b hb=> by
  rcases x1.owned i b hb with ⟨k0,h0⟩|h0
  ·exact .inl ⟨k0,h0.2⟩
  ·exact .inr h0
 have kept:∀j b,(¬∃i,θ i=j)->own j b->w1.heap[b]?=w.heap[b]?:=fun j b hj hb=>
  x1.kept b (hr.bound j b hb) fun k hk=> hj ⟨k,(hr.disj _ _ b hb hk.2).symm⟩
 have sep:∀i j b,(¬∃i,θ i=j)->own1 i b->¬own j b:=fun i j b hj h1 h2=> by
  rcases oback i b h1 with ⟨k0,h0⟩|h0
  ·exact hj ⟨k0,hr.disj _ _ b h0 h2⟩
  ·have:=hr.bound j b h2;omega
 refine⟨zLp θ r1,H.emb θ Hs.next H1,ρ2,own2,⟨r1,H1,k1,rfl,rfl⟩,⟨hlele,fun j b hb=> ?_,x1.size,fun b hb hno=> ?_,x1.os,x1.tape,x1.output⟩,?_,?_⟩
 ·by_cases hj:∃i,θ i=j
  ·obtain⟨i,rfl⟩:=hj
   rw[oimg] at hb
   rcases oback i b hb with ⟨k0,h0⟩|h0
   ·exact .inl ⟨_,h0⟩
   ·exact .inr h0
  ·rw[ooth j hj] at hb;exact .inl ⟨j,hb⟩
 ·exact x1.kept b hb fun k hk=> hno _ hk.2
 ·cases r1 with
  |ret v=>
   cases en with
   |returned v'=>
    show VR ρ2 (ren θ v) v'
    exact VR.to_ren (by rw[hon];exact v1)
   |panicked c=> exact v1.elim
   |outgrown=> exact v1.elim
  |pan v=>
   cases en with
   |returned v'=> exact v1.elim
   |outgrown=> exact v1.elim
   |panicked c=>
    obtain⟨v',q1,q2⟩:=v1
    exact⟨v',q1,VR.to_ren (by rw[hon];exact q2)⟩
 ·have nimg:∀j,H.next<=j->∃i,θ i=j/\i=Hs.next+(j - H.next):=fun j hj=> ⟨_,hge j hj,rfl⟩
  refine⟨fun j hj=> ?_,fun j hj=> ?_,fun j o ho=> ?_,fun j hj b hb=> ?_,fun j b hb=> ?_,fun j j' b hb hb'=> ?_,fun j cs hj hcs l hl j' hb=> ?_⟩
  ·have hj':H.next+(H1.next - Hs.next)<=j:=hj
   have:=hge j (by omega)
   rw[←this,AH.emb_img e.inj,r1'.fresh _ (by omega)];rfl
  ·have hj':H.next+(H1.next - Hs.next)<=j:=hj
   have:=hge j (by omega)
   rw[←this,himg,r1'.dom _ (by omega)]
  ·by_cases hx:∃i,θ i=j
   ·obtain⟨i,rfl⟩:=hx
    rw[AH.emb_img e.inj] at ho
    simp only[Option.map_eq_some_iff] at ho
    obtain⟨o1,ho1,rfl⟩:=ho
    rw[oimg]
    exact zBt.to_ren (by rw[hon];exact r1'.obj i o1 ho1)
   ·rw[AH.emb_oth hx] at ho
    rw[ooth j hx]
    refine (hr.obj j o ho).keep P cfg hlele (fun b hb=> kept j b hx hb) fun cs l hcs hne hl=> ?_
    subst hcs
    have hno:=hr.ro j cs ho hne l hl
    obtain⟨l',cs',e',fr,q1,q3,q4⟩:=(hr.obj j _ ho).2 hne
    rw[hl] at q1;cases q1
    have hlt:l.b<w.heap.size:=by
     rcases Nat.lt_or_ge l.b w.heap.size with h|h
     ·exact h
     ·rw[Array.getElem?_eq_none h] at q3;cases q3
    exact x1.kept l.b hlt fun k hk=> hno _ hk.2
  ·by_cases hx:∃i,θ i=j
   ·obtain⟨i,rfl⟩:=hx
    rw[AH.emb_img e.inj] at hj
    rw[oimg] at hb
    exact r1'.gone i (by simpa using hj) b hb
   ·rw[AH.emb_oth hx] at hj
    rw[ooth j hx] at hb
    exact hr.gone j hj b hb
  ·by_cases hx:∃i,θ i=j
   ·obtain⟨i,rfl⟩:=hx
    rw[oimg] at hb
    exact r1'.bound i b hb
   ·rw[ooth j hx] at hb
    exact Nat.lt_of_lt_of_le (hr.bound j b hb) x1.size
  ·by_cases hx:∃i,θ i=j
   ·obtain⟨i,rfl⟩:=hx
    rw[oimg] at hb
    by_cases hx':∃i,θ i=j'
    ·obtain⟨i',rfl⟩:=hx'
     rw[oimg] at hb'
     rw[r1'.disj i i' b hb hb']
    ·rw[ooth j' hx'] at hb'
     exact absurd hb' (sep i j' b hx' hb)
   ·rw[ooth j hx] at hb
    by_cases hx':∃i,θ i=j'
    ·obtain⟨i',rfl⟩:=hx'
     rw[oimg] at hb'
     exact absurd hb (sep i' j b hx hb')
    ·rw[ooth j' hx'] at hb'
     exact hr.disj j j' b hb hb'
  ·have inworld:∀{cs0:List Value} {j0:Nat},H.get j0=some (.ro cs0)->cs0≠[]->ρ.loc j0=some l->(∀j',¬own j' l.b)/\l.b<w.heap.size:=fun {cs0 j0} h1 hne h2=> by
    refine⟨hr.ro j0 cs0 h1 hne l h2,?_⟩
    obtain⟨l',cs',e',fr,q1,q3,q4⟩:=(hr.obj j0 _ h1).2 hne
    rw[h2] at q1;cases q1
    rcases Nat.lt_or_ge l.b w.heap.size with h|h
    ·exact h
    ·rw[Array.getElem?_eq_none h] at q3;cases q3
   have old:(∀j',¬own j' l.b)/\l.b<w.heap.size:=by
    by_cases hx:∃i,θ i=j
    ·obtain⟨i,rfl⟩:=hx
     rw[AH.emb_img e.inj] at hj
     simp only[Option.map_eq_some_iff] at hj
     obtain⟨o1,ho1,ho2⟩:=hj
     have:∃cs1,o1=.ro cs1:=by cases o1<;> simp[AObj.ren] at ho2<;> exact⟨_,rfl⟩
     obtain⟨cs1,rfl⟩:=this
     have hne1:cs1≠[]:=fun e=> by
      subst e
      simp only[AObj.ren,zAu] at ho2
      cases ho2;exact hcs rfl
     obtain⟨cs0,hcs0,hne0⟩:=hro i cs1 ho1 hne1
     have hi:i<Hs.next:=Nat.lt_of_not_le fun hle=> by rw[e.fresh i hle] at hcs0;cases hcs0
     have hbig:H.get (θ i)=some (.ro (zAu θ cs0)):=by rw[e.get i hi,hcs0];rfl
     rw[himg] at hl
     have hne0':zAu θ cs0≠[]:=fun e=> hne0 (List.eq_nil_of_length_eq_zero (by rw[←zCn θ cs0,e];rfl))
     have hl0:ρ.loc (θ i)=some l:=by
      obtain⟨l0,cs',e',fr,q1,_⟩:=(hr.obj _ _ hbig).2 hne0'
      have:=x1.le i l0 q1
      rw[hl] at this;cases this;exact q1
     exact inworld hbig hne0' hl0
    ·rw[AH.emb_oth hx] at hj
     rw[hoth j hx] at hl
     exact inworld hj hcs hl
   by_cases hx:∃i,θ i=j'
   ·obtain⟨i',rfl⟩:=hx
    rw[oimg] at hb
    rcases oback i' l.b hb with ⟨k0,h0⟩|h0
    ·exact old.1 _ h0
    ·have:=old.2;omega
   ·rw[ooth j' hx] at hb
    exact old.1 j' hb
end
end Go.Abs
namespace Go.Abs
open Go.RowKit
section
variable {D:Type} {P:Program}
def AH.of (l:List (Option (AObj D))):AH D:={ next:=l.length,get:=fun i=> (l[i]?).join }
def AObj.mine:AObj D->Bool
 |.ro _=> false
 |_=> true
def sh (n N:Nat) (ks:List Nat):Nat->Nat:=fun i=> if i<n then ks.getD i 0 else N+(i - n)
theorem Rel.cfg_mono {cfg cfg':D->HRep} {ρ:Env} {own:Nat->Nat->Prop} {H:AH D} {w:World} (h:Rel P cfg ρ own H w)
  (hc:∀k o,H.get k=some o->zBt P cfg ρ (own k) k o w->zBt P cfg' ρ (own k) k o w):Rel P cfg' ρ own H w:=
 ⟨h.fresh,h.dom,fun k o ho=> hc k o ho (h.obj k o ho),h.gone,h.bound,h.disj,h.ro⟩
theorem Rel.keepAll {cfg:D->HRep} {ρ:Env} {own:Nat->Nat->Prop} {H:AH D} {w w':World} (h:Rel P cfg ρ own H w) (hm:∀k o,H.get k=some o->o.mine=true)
  (hk:∀k b,own k b->w'.heap[b]?=w.heap[b]?):Rel P cfg ρ own H w':=by
 refine⟨h.fresh,h.dom,fun k o ho=> (h.obj k o ho).keep P cfg ρ.le_refl (hk k) fun cs l hcs _ _=> ?_,h.gone,fun k b hb=> ?_,h.disj,h.ro⟩
 ·subst hcs;have:=hm k _ ho;cases this
 ·have h1:=h.bound k b hb
  have h2:=hk k b hb
  rw[Array.getElem?_eq_getElem h1] at h2
  rcases Nat.lt_or_ge b w'.heap.size with h|h
  ·exact h
  ·rw[Array.getElem?_eq_none h] at h2;cases h2
variable (P) (frag:D->List (AObj D))
def zCy (d:D):AH D:=AH.of ((frag d).map some)
def stepH (cfg:D->HRep) (d:D):HRep where
 holds l own w:=∃ρ own',Rel P cfg ρ own' (zCy frag d) w/\ρ.loc 0=some l/\(∀b,own b↔∃k,own' k b)/\(frag d).all (·.mine)=true
 keep:=fun l own w w' hk ⟨ρ,own',h1,h2,h3,h4⟩=> ⟨ρ,own',h1.keepAll (fun k o ho=> by
  have hm:o∈frag d:=by
   simp only[zCy,AH.of,List.getElem?_map] at ho
   cases hx:(frag d)[k]? with
   |none=> rw[hx] at ho;cases ho
   |some x=> rw[hx] at ho;simp at ho;subst ho;exact List.mem_of_getElem? hx
  exact List.all_eq_true.1 h4 o hm) (fun k b hb=> hk b ((h3 b).2 ⟨k,hb⟩)),h2,h3,h4⟩
def zDv:Nat->(D->HRep)
 |0=> fun _=> ⟨fun _ _ _=> False,fun _ _ _ _ _ h=> h⟩
 |n+1=> stepH P frag (zDv n)
variable {P} {frag}
theorem zBt.cfg_mono {cfg cfg':D->HRep} (hc:∀d l own w,(cfg d).holds l own w->(cfg' d).holds l own w) {ρ:Env} {own:Nat->Prop} {k:Nat} {o:AObj D} {w:World} (h:zBt P cfg ρ own k o w):zBt P cfg' ρ own k o w:=by
 cases o with
 |hi d=>
  obtain⟨l,h1,h2,h3,h4⟩:=h
  exact⟨l,h1,h2,h3,hc _ _ _ _ h4⟩
 |_=> exact h
theorem zDv.succ:∀(n:Nat) (d:D) l own w,(zDv P frag n d).holds l own w->(zDv P frag (n+1) d).holds l own w
 |0,_,_,_,_,h=> h.elim
 |n+1,d,l,own,w,⟨ρ,own',h1,h2,h3,h4⟩=> ⟨ρ,own',h1.cfg_mono fun _ _ _ h=> h.cfg_mono (zDv.succ n),h2,h3,h4⟩
theorem zDv.le {n m:Nat} (h:n<=m) (d:D) l own w (hh:(zDv P frag n d).holds l own w):(zDv P frag m d).holds l own w:=by
 induction h with
 |refl=> exact hh
 |step _ ih=> exact zDv.succ _ d l own w ih
variable (P) (frag)
def zA5 (d:D):HRep:=⟨fun l own w=> ∃n,(zDv P frag n d).holds l own w,fun l own w w' hk ⟨n,h⟩=> ⟨n,(zDv P frag n d).keep l own w w' hk h⟩⟩
variable {P} {frag}
theorem zZl {d:D} {l:Loc} {own:Nat->Prop} {w:World} (h:(zA5 P frag d).holds l own w):
  ∃ρ own',Rel P (zA5 P frag) ρ own' (zCy frag d) w/\ρ.loc 0=some l/\(∀b,own b↔∃k,own' k b):=by
 obtain⟨n,h⟩:=h
 cases n with
 |zero=> exact h.elim
 |succ n=>
  obtain⟨ρ,own',h1,h2,h3,h4⟩:=h
  exact⟨ρ,own',h1.cfg_mono fun _ _ _ h=> h.cfg_mono (cfg':=zA5 P frag) fun _ _ _ _ h=> ⟨n,h⟩,h2,h3⟩
theorem zZk {d:D} {l:Loc} {own:Nat->Prop} {w:World} {ρ:Env} {own':Nat->Nat->Prop} (h:Rel P (zA5 P frag) ρ own' (zCy frag d) w) (h0:ρ.loc 0=some l) (ho:∀b,own b↔∃k,own' k b) (hm:(frag d).all (·.mine)=true):
  (zA5 P frag d).holds l own w:=by
 have key:∀m,∃n,∀k,k<m->∀o,(zCy frag d).get k=some o->zBt P (zDv P frag n) ρ (own' k) k o w:=by
  intro m
  induction m with
  |zero=> exact⟨0,fun k hk=> by omega⟩
  |succ m ih=>
   obtain⟨n,hn⟩:=ih
   have hlast:∃n',∀o,(zCy frag d).get m=some o->zBt P (zDv P frag n') ρ (own' m) m o w:=by
    cases hg:(zCy frag d).get m with
    |none=> exact⟨0,fun o ho=> by cases ho⟩
    |some o=>
     have hob:=h.obj m o hg
     cases o with
     |hi d'=>
      obtain⟨l',q1,q2,q3,n',q4⟩:=hob
      exact⟨n',fun o ho=> by cases ho;exact⟨l',q1,q2,q3,q4⟩⟩
     |_=> exact⟨0,fun o ho=> by cases ho;exact hob⟩
   obtain⟨n',hn'⟩:=hlast
   refine⟨max n n',fun k hk o ho=> ?_⟩
   by_cases hkm:k=m
   ·subst hkm
    exact (hn' o ho).cfg_mono fun _ _ _ _=> zDv.le (Nat.le_max_right _ _) _ _ _ _
   ·exact (hn k (by omega) o ho).cfg_mono fun _ _ _ _=> zDv.le (Nat.le_max_left _ _) _ _ _ _
 obtain⟨n,hn⟩:=key (zCy frag d).next
 exact⟨n+1,ρ,own',h.cfg_mono fun k o ho _=> hn k (h.lt ho) o ho,h0,ho,hm⟩
variable {f:FuncId} {args:List Value} {K:AEnd->AH D->Prop}
open Classical in
theorem Rel.open {ρ:Env} {own:Nat->Nat->Prop} {H:AH D} {w:World} (h:Rel P (zA5 P frag) ρ own H w) {k:Nat} {d:D} (hk:H.get k=some (.hi d)) {θ:Nat->Nat} (hθ:θ=sh 1 H.next [k]):
  ∃ρ' own',Rel P (zA5 P frag) ρ' own' (H.emb θ 1 (zCy frag d)) w/\ρ.le ρ'/\(∀b,(∃j,own' j b)->∃j,own j b):=by
 obtain⟨l,h1,h2,h3,h4⟩:=h.obj k _ hk
 obtain⟨ρd,ownd,r,r0,ro⟩:=zZl h4
 have klt:k<H.next:=h.lt hk
 have θ0:θ 0=k:=by rw[hθ];simp[sh]
 have θs:∀i,1<=i->θ i=H.next+(i - 1):=fun i hi=> by rw[hθ];simp[sh,Nat.not_lt.2 hi]
 have inj:∀i j,θ i=θ j->i=j:=by
  intro i j hij
  rcases Nat.eq_zero_or_pos i with rfl|hi<;> rcases Nat.eq_zero_or_pos j with rfl|hj
  ·rfl
  ·rw[θ0,θs j hj] at hij;omega
  ·rw[θ0,θs i hi] at hij;omega
  ·rw[θs i hi,θs j hj] at hij;omega
 have hge:∀j,H.next<=j->θ (1+(j - H.next))=j:=fun j hj=> by
  rw[θs _ (by omega)];omega
 let ρ2:Env:=⟨fun j=> if h:∃i,θ i=j then ρd.loc h.choose else ρ.loc j⟩
 have himg:∀i,ρ2.loc (θ i)=ρd.loc i:=fun i=> by
  have hx:∃i',θ i'=θ i:=⟨i,rfl⟩
  show (if h:∃i',θ i'=θ i then ρd.loc h.choose else ρ.loc (θ i))=_
  rw[dif_pos hx,inj _ _ hx.choose_spec]
 have hoth:∀j,(¬∃i,θ i=j)->ρ2.loc j=ρ.loc j:=fun j hj=> by
  show (if h:∃i',θ i'=j then ρd.loc h.choose else ρ.loc j)=_
  rw[dif_neg hj]
 have hon:ρ2.on θ=ρd:=by
  cases ρd
  unfold Env.on
  congr
  exact funext fun i=> himg i
 let own2:Nat->Nat->Prop:=fun j b=> if h:∃i,θ i=j then ownd h.choose b else own j b
 have oimg:∀i,own2 (θ i)=ownd i:=fun i=> by
  have hx:∃i',θ i'=θ i:=⟨i,rfl⟩
  funext b
  show (if h:∃i',θ i'=θ i then ownd h.choose b else own (θ i) b)=_
  rw[dif_pos hx,inj _ _ hx.choose_spec]
 have ooth:∀j,(¬∃i,θ i=j)->own2 j=own j:=fun j hj=> by
  funext b
  show (if h:∃i',θ i'=j then ownd h.choose b else own j b)=_
  rw[dif_neg hj]
 have hle:ρ.le ρ2:=fun j x hx=> by
  by_cases hj:∃i,θ i=j
  ·obtain⟨i,rfl⟩:=hj
   rw[himg]
   rcases Nat.eq_zero_or_pos i with rfl|hi
   ·rw[θ0,h1] at hx;cases hx;exact r0
   ·rw[h.dom _ (by rw[θs i hi];omega)] at hx;cases hx
  ·rw[hoth j hj];exact hx
 have notk:∀j,(¬∃i,θ i=j)->j≠k:=fun j hj e=> hj ⟨0,by rw[θ0,e]⟩
 have back:∀i b,ownd i b->own k b:=fun i b hb=> (ro b).2 ⟨i,hb⟩
 refine⟨ρ2,own2,⟨fun j hj=> ?_,fun j hj=> ?_,fun j o ho=> ?_,fun j hj b hb=> ?_,fun j b hb=> ?_,fun j j' b hb hb'=> ?_,fun j cs hj hcs l' hl j' hb=> ?_⟩,hle,fun b ⟨j,hb⟩=> ?_⟩
 ·have hj':H.next+((zCy frag d).next - 1)<=j:=hj
  rw[←hge j (by omega),AH.emb_img inj,r.fresh _ (by omega)];rfl
 ·have hj':H.next+((zCy frag d).next - 1)<=j:=hj
  rw[←hge j (by omega),himg,r.dom _ (by omega)]
 ·by_cases hx:∃i,θ i=j
  ·obtain⟨i,rfl⟩:=hx
   rw[AH.emb_img inj] at ho
   simp only[Option.map_eq_some_iff] at ho
   obtain⟨o1,ho1,rfl⟩:=ho
   rw[oimg]
   exact zBt.to_ren (by rw[hon];exact r.obj i o1 ho1)
  ·rw[AH.emb_oth hx] at ho
   rw[ooth j hx]
   exact (h.obj j o ho).keep P _ hle (fun _ _=> rfl) fun _ _ _ _ _=> rfl
 ·by_cases hx:∃i,θ i=j
  ·obtain⟨i,rfl⟩:=hx
   rw[AH.emb_img inj] at hj
   rw[oimg] at hb
   exact r.gone i (by simpa using hj) b hb
  ·rw[AH.emb_oth hx] at hj
   rw[ooth j hx] at hb
   exact h.gone j hj b hb
 ·by_cases hx:∃i,θ i=j
  ·obtain⟨i,rfl⟩:=hx
   rw[oimg] at hb
   exact r.bound i b hb
  ·rw[ooth j hx] at hb
   exact h.bound j b hb
 ·by_cases hx:∃i,θ i=j
  ·obtain⟨i,rfl⟩:=hx
   rw[oimg] at hb
   by_cases hx':∃i,θ i=j'
   ·obtain⟨i',rfl⟩:=hx'
    rw[oimg] at hb'
    rw[r.disj i i' b hb hb']
   ·rw[ooth j' hx'] at hb'
    exact absurd (h.disj _ _ b hb' (back i b hb)) (notk j' hx')
  ·rw[ooth j hx] at hb
   by_cases hx':∃i,θ i=j'
   ·obtain⟨i',rfl⟩:=hx'
    rw[oimg] at hb'
    exact absurd (h.disj _ _ b hb (back i' b hb')) (notk j hx)
   ·rw[ooth j' hx'] at hb'
    exact h.disj j j' b hb hb'
 ·have hno:∀i,ownd i l'.b->(∃i,θ i=j)∨False:=by
   intro i hi
   by_cases hx:∃i,θ i=j
   ·exact .inl hx
   ·rw[AH.emb_oth hx] at hj
    rw[hoth j hx] at hl
    exact absurd (back i _ hi) (h.ro j cs hj hcs l' hl k)
  by_cases hx:∃i,θ i=j
  ·obtain⟨i,rfl⟩:=hx
   rw[AH.emb_img inj] at hj
   simp only[Option.map_eq_some_iff] at hj
   obtain⟨o1,ho1,ho2⟩:=hj
   obtain⟨n,hh⟩:=h4
   cases n with
   |zero=> exact hh.elim
   |succ n=>
    obtain⟨_,_,_,_,_,hm⟩:=hh
    have hmem:o1∈frag d:=by
     simp only[zCy,AH.of,List.getElem?_map] at ho1
     cases hx:(frag d)[i]? with
     |none=> rw[hx] at ho1;cases ho1
     |some x=> rw[hx] at ho1;simp at ho1;subst ho1;exact List.mem_of_getElem? hx
    have:=List.all_eq_true.1 hm o1 hmem
    cases o1<;> simp[AObj.ren] at ho2<;> cases this
  ·rw[AH.emb_oth hx] at hj
   rw[hoth j hx] at hl
   by_cases hx':∃i,θ i=j'
   ·obtain⟨i',rfl⟩:=hx'
    rw[oimg] at hb
    exact h.ro j cs hj hcs l' hl k (back i' _ hb)
   ·rw[ooth j' hx'] at hb
    exact h.ro j cs hj hcs l' hl j' hb
 ·by_cases hx:∃i,θ i=j
  ·obtain⟨i,rfl⟩:=hx
   rw[oimg] at hb
   exact⟨k,back i b hb⟩
  ·rw[ooth j hx] at hb
   exact⟨j,hb⟩
end
end Go.Abs
namespace Go.Abs
open Go.RowKit
section
variable {D:Type} {P:Program} {frag:D->List (AObj D)}
theorem zEn {n N:Nat} {ks:List Nat} {i:Nat} (h:i<n):sh n N ks i=ks.getD i 0:=by simp[sh,h]
theorem zH8 {n N:Nat} {ks:List Nat} {i:Nat} (h:n<=i):sh n N ks i=N+(i - n):=by simp[sh,Nat.not_lt.2 h]
theorem zTp {N:Nat} {ks:List Nat} (hn:ks.Nodup) (hlt:∀k∈ks,k<N):∀i j,sh ks.length N ks i=sh ks.length N ks j->i=j:=by
 intro i j hij
 have get:∀i,i<ks.length->ks.getD i 0=ks[i]! /\ks.getD i 0∈ks:=fun i hi=> by
  rw[List.getD_eq_getElem?_getD,List.getElem?_eq_getElem hi]
  exact⟨by simp[hi],List.getElem_mem hi⟩
 by_cases hi:i<ks.length<;> by_cases hj:j<ks.length
 ·rw[zEn hi,zEn hj,List.getD_eq_getElem?_getD,List.getD_eq_getElem?_getD,List.getElem?_eq_getElem hi,List.getElem?_eq_getElem hj] at hij
  exact (List.getElem_inj hn).1 hij
 ·rw[zEn hi,zH8 (by omega)] at hij
  have:=hlt _ (get i hi).2
  omega
 ·rw[zH8 (by omega),zEn hj] at hij
  have:=hlt _ (get j hj).2
  omega
 ·rw[zH8 (by omega),zH8 (by omega)] at hij
  omega
theorem Emb.of_keys {H Hs:AH D} {ks:List Nat} (hn:ks.Nodup) (hlt:∀k∈ks,k<H.next) (hl:Hs.next=ks.length) (hf:∀i,Hs.next<=i->Hs.get i=none)
  (hget:∀i,i<ks.length->H.get (ks.getD i 0)=(Hs.get i).map (·.ren (sh ks.length H.next ks))):Emb (sh ks.length H.next ks) Hs H:=by
 refine⟨zTp hn hlt,fun i hi=> ?_,fun i hi=> ?_,fun i hi=> ?_,hf⟩
 ·rw[hl] at hi
  rw[zEn hi,List.getD_eq_getElem?_getD,List.getElem?_eq_getElem hi]
  exact hlt _ (List.getElem_mem hi)
 ·rw[hl] at hi⊢
  rw[zH8 hi]
 ·rw[hl] at hi
  rw[zEn hi];exact hget i hi
def leV (v w:Value):Prop:=v=w∨(v=.slice none 0 0/\∃k c,w=.slice (some ⟨k,0,none⟩) 0 c/\c<=2)∨(∃k o n c,v=.slice (some ⟨k,o,none⟩) n c/\w=.slice (some ⟨k,o,none⟩) n 0)∨∃k k2 c,v=.slice (some ⟨k,0,none⟩) 0 2/\w=.slice (some ⟨k2,0,none⟩) 0 c/\c<=2
def zEr:List Value->List Value->Prop
 |_,[]=> True
 |[],_::_=> False
 |v::l,w::m=> leV v w/\zEr l m
def leO:AObj D->AObj D->Prop
 |.arr e cs,.arr e' cs'=> e=e'/\zEr cs cs'
 |.map es c,.mapq ps=> zA3 ps es c
 |o,o'=> o=o'
theorem zKi (v:Value):leV v v=True:=by simp[leV]
theorem qO0 (k c:Nat) (h:c<=2):leV (.slice none 0 0) (.slice (some ⟨k,0,none⟩) 0 c)=True:=eq_true (.inr (.inl ⟨rfl,k,c,rfl,h⟩))
theorem qOz (k o n c:Nat):leV (.slice (some ⟨k,o,none⟩) n c) (.slice (some ⟨k,o,none⟩) n 0)=True:=by simp[leV]
theorem qO1 (k k2 c:Nat) (h:c<=2):leV (.slice (some ⟨k,0,none⟩) 0 2) (.slice (some ⟨k2,0,none⟩) 0 c)=True:=eq_true (.inr (.inr (.inr ⟨k,k2,c,rfl,rfl,h⟩)))
theorem zLv:∀(l:List Value),zEr l l=True
 |[]=> by simp[zEr]
 |v::l=> by simp[zEr,zKi,zLv l]
theorem qDb (v w:Value) (l m:List Value):zEr (v::l) (w::m)=(leV v w/\zEr l m):=rfl
theorem qH4 (l:List Value):zEr l []=True:=by cases l<;> rfl
theorem qO3 (e e':TypeId) (cs cs':List Value):leO (D:=D) (.arr e cs) (.arr e' cs')=(e=e'/\zEr cs cs'):=rfl
theorem qR5 (d d':D):leO (.hi d:AObj D) (.hi d')=(d=d'):=by simp[leO]
theorem qR4 (cs cs':List Value):leO (.ro cs:AObj D) (.ro cs')=(cs=cs'):=by simp[leO]
theorem qO2 (es es':List MapEntry) (c c':Nat):leO (.map es c:AObj D) (.map es' c')=(es=es'/\c=c'):=by simp[leO]
theorem qH7 (es:List MapEntry) (c:Nat) (ps:List (Value × Value)):leO (.map es c:AObj D) (.mapq ps)=zA3 ps es c:=rfl
theorem qDg (ps ps':List (Value × Value)):leO (.mapq ps:AObj D) (.mapq ps')=(ps=ps'):=by simp[leO]
theorem qDf (a b c d:Nat) (x y:List Nat) (a' b':Nat):leO (.miter a b x c:AObj D) (.miter a' b' y d)=(a=a'/\b=b'/\x=y/\c=d):=by simp[leO]
theorem zNw (o:AObj D):leO o o:=by
 cases o<;> simp[leO,zLv]
theorem leV.vr {ρ:Env} {v w v':Value} (h:leV v w) (hv:VR ρ v v'):VR ρ w v':=by
 rcases h with rfl|⟨rfl,k,c,rfl,hc⟩|⟨k,o,n,c,rfl,rfl⟩|⟨k,k2,c,rfl,rfl,hc⟩
 ·exact hv
 ·cases hv;exact .slicen k c none 0 hc (fun _=> rfl)
 ·rcases hv.slice_inv with ⟨o',cc,l,h1,h2,h3,h4,h5,rfl⟩|⟨rfl,rfl,h1,a,cc,rfl,h2⟩
  ·exact .slice _ _ _ _ _ _ _ h1 h2 h3 (fun h=> by omega) (fun m h=> by omega)
  ·exact .slicen _ _ a cc (by omega) (fun h=> h2 (h.elim (fun h=> absurd h (by omega)) .inr))
 ·rcases hv.slice_inv with ⟨o',cc,l,h1,h2,h3,h4,h5,rfl⟩|⟨_,_,h1,a,cc,rfl,h2⟩
  ·have:=h5 0 rfl;subst this;exact .slicen _ _ _ 0 hc (fun _=> rfl)
  ·have:=h2 (.inl (by omega));subst this;exact .slicen _ _ _ 0 hc (fun _=> rfl)
theorem zEr.vrs {ρ:Env}:∀{l m:List Value} {l':List Value},zEr l m->VRs ρ l l'->VRs ρ m (l'.take m.length)
 |_,[],_,_,_=> by simpa using VRs.nil
 |[],_::_,_,h,_=> h.elim
 |v::l,w::m,_,h,hv=> by
  cases hv with
  |cons _ v' _ l' h1 h2=> exact .cons _ _ _ _ (h.1.vr h1) (zEr.vrs h.2 h2)
theorem zEr.length:∀{l m:List Value},zEr l m->m.length<=l.length
 |_,[],_=> Nat.zero_le _
 |[],_::_,h=> h.elim
 |_::_,_::_,h=> Nat.succ_le_succ h.2.length
theorem leV.one {v w:Value} (h:leV v w):v.oneCell'=w.oneCell':=by
 rcases h with rfl|⟨rfl,k,c,rfl,_⟩|⟨k,o,n,c,rfl,rfl⟩|⟨k,k2,c,rfl,rfl,_⟩<;> rfl
theorem zEr.all:∀{l m:List Value},zEr l m->l.all (·.oneCell')=true->m.all (·.oneCell')=true
 |_,[],_,_=> rfl
 |[],_::_,h,_=> h.elim
 |v::l,w::m,h,hl=> by
  simp only[List.all_cons,Bool.and_eq_true] at hl⊢
  exact⟨by rw[←h.1.one];exact hl.1,zEr.all h.2 hl.2⟩
theorem leO.ok {cfg:D->HRep} {ρ:Env} {own:Nat->Prop} {k:Nat} {o o':AObj D} {w:World} (h:leO o o') (hok:zBt P cfg ρ own k o w):zBt P cfg ρ own k o' w:=by
 unfold leO at h
 split at h
 ·rename_i e cs e' cs'
  obtain⟨rfl,h⟩:=h
  rcases hok with ⟨l,c1,h1,h2,h3,h4,h5,h6,h7,h8,h9⟩|⟨rfl,h2,h3⟩
  ·refine .inl ⟨l,c1,h1,h2,h3,h4,h5,h6,Nat.le_trans h.length h7,?_,h.all h9⟩
   have:=h.vrs h8
   rwa [List.take_take,Nat.min_eq_left h.length] at this
  ·have:cs'=[]:=List.eq_nil_of_length_eq_zero (Nat.le_zero.1 h.length)
   exact .inr ⟨this,h2,h3⟩
 ·rename_i es c ps
  obtain⟨l,es',h1,h2,h3,h4⟩:=hok
  obtain⟨qs,p1,p2⟩:=(VP.of_ve h4).perm h.1
  have hb:=h4.borns
  refine⟨l,es',c,qs,h1,h2,h3,p1.symm,p2,by rw[←hb];exact h.2.1,fun e he=> ?_⟩
  have:e.born∈es.map (·.born):=by rw[hb];exact List.mem_map.2 ⟨e,he,rfl⟩
  obtain⟨x,hx,hxb⟩:=List.mem_map.1 this
  rw[←hxb];exact h.2.2 x hx
 ·subst h;exact hok
theorem Rel.weaken {cfg:D->HRep} {ρ:Env} {own:Nat->Nat->Prop} {H H2:AH D} {w:World} (h:Rel P cfg ρ own H w) (hn:H2.next=H.next)
  (hg:∀k,H2.get k=H.get k∨∃o o',H.get k=some o/\H2.get k=some o'/\leO o o'):Rel P cfg ρ own H2 w:=by
 refine⟨fun k hk=> ?_,fun k hk=> h.dom k (by omega),fun k o ho=> ?_,fun k hk=> ?_,h.bound,h.disj,fun k cs hk hcs=> ?_⟩
 ·rcases hg k with e|⟨o,o',h1,_⟩
  ·rw[e];exact h.fresh k (by omega)
  ·rw[h.fresh k (by omega)] at h1;cases h1
 ·rcases hg k with e|⟨o1,o',h1,h2,h3⟩
  ·exact h.obj k o (by rw[←e];exact ho)
  ·rw[ho] at h2;cases h2
   exact h3.ok (h.obj k o1 h1)
 ·rcases hg k with e|⟨o1,o',h1,h2,h3⟩
  ·exact h.gone k (by rw[←e];exact hk)
  ·rw[hk] at h2;cases h2
 ·rcases hg k with e|⟨o1,o',h1,h2,h3⟩
  ·exact h.ro k cs (by rw[←e];exact hk) hcs
  ·rw[hk] at h2;cases h2
   have:o1=.ro cs:=by
    cases o1<;> simp[leO] at h3
    rw[h3]
   exact h.ro k cs (by rw[h1,this]) hcs
def AH.pack (H:AH D) (d:D) (ks:List Nat):AH D:={ next:=H.next,get:=fun j=> if j=ks.headD 0 then some (.hi d) else if ks.contains j then none else H.get j }
theorem zWa (d:D):∀i,(zCy frag d).next<=i->(zCy frag d).get i=none:=by
 intro i hi
 simp only[zCy,AH.of,List.length_map] at hi⊢
 rw[List.getElem?_eq_none (by simpa using hi)];rfl
theorem zJg (d:D) (i:Nat):(zCy frag d).get i=(frag d)[i]?:=by
 simp only[zCy,AH.of,List.getElem?_map]
 cases (frag d)[i]?<;> rfl
theorem Rel.pack {ρ:Env} {own:Nat->Nat->Prop} {H:AH D} {w:World} (h:Rel P (zA5 P frag) ρ own H w) {d:D} {ks:List Nat} (hn:ks.Nodup) (hl:(frag d).length=ks.length)
  (hget:∀i,i<ks.length->H.get (ks.getD i 0)=((frag d)[i]?).map (·.ren (sh ks.length H.next ks))) (hm:(frag d).all (·.mine)=true) (hroot:∃e c cs,(frag d)[0]?=some (.arr e (c::cs))):
  ∃own',Rel P (zA5 P frag) ρ own' (H.pack d ks) w/\∀b,(∃j,own' j b)->∃j,own j b:=by
 have hgk:∀k∈ks,∃i o,i<ks.length/\ks.getD i 0=k/\(frag d)[i]?=some o/\H.get k=some (o.ren (sh ks.length H.next ks)):=fun k hk=> by
  obtain⟨i,hi,rfl⟩:=List.getElem_of_mem hk
  have e:ks.getD i 0=ks[i]:=by rw[List.getD_eq_getElem?_getD,List.getElem?_eq_getElem hi];rfl
  have:=hget i hi
  rw[List.getElem?_eq_getElem (by omega)] at this
  exact⟨i,(frag d)[i],hi,e,List.getElem?_eq_getElem (by omega),by rw[←e];exact this⟩
 have hlt:∀k∈ks,k<H.next:=fun k hk=> by
  obtain⟨i,o,_,_,_,ho⟩:=hgk k hk
  exact h.lt ho
 have hem:Emb (sh ks.length H.next ks) (zCy frag d) H:=Emb.of_keys hn hlt (by simp[zCy,AH.of,hl]) (zWa d) fun i hi=> by rw[zJg];exact hget i hi
 have hr:=hem.rel h
 obtain⟨e0,c0,cs0,h0⟩:=hroot
 have hpos:0<ks.length:=by
  rcases Nat.eq_zero_or_pos ks.length with hz|hz
  ·rw[List.getElem?_eq_none (by omega)] at h0;cases h0
  ·exact hz
 let k0:=ks.getD 0 0
 have hk0:ks.headD 0=k0:=by cases ks with
  |nil=> rfl
  |cons _ _=> rfl
 have hk0m:k0∈ks:=by
  show ks.getD 0 0∈ks
  rw[List.getD_eq_getElem?_getD,List.getElem?_eq_getElem hpos];exact List.getElem_mem hpos
 obtain⟨l,hl1,hl2,hl3,hl4⟩:∃l,ρ.loc k0=some l/\l.base=0/\(∀i,own k0 i↔i=l.b)/\True:=by
  have hg:=hget 0 hpos
  rw[h0] at hg
  rcases h.obj _ _ hg with ⟨l,cs',q1,q2,_,_,q5,_⟩|⟨q,_⟩
  ·exact⟨l,q1,q2,q5,trivial⟩
  ·rw[zAu] at q;cases q
 have hhold:(zA5 P frag d).holds l (fun b=> ∃k,k∈ks/\own k b) w:=by
  refine zZk hr ?_ (fun b=> ⟨fun⟨k,hk,hb⟩=> ?_,fun⟨i,hi,hb⟩=> ?_⟩) hm
  ·show ρ.loc (sh ks.length H.next ks 0)=some l
   rw[zEn hpos];exact hl1
  ·obtain⟨i,o,hi,he,ho,_⟩:=hgk k hk
   refine⟨i,?_,?_⟩
   ·rw[zJg,ho];simp
   ·rw[zEn hi,he];exact hb
  ·rw[zJg] at hi
   have hi':i<ks.length:=by
    rcases Nat.lt_or_ge i ks.length with hx|hx
    ·exact hx
    ·rw[List.getElem?_eq_none (by omega)] at hi;exact absurd rfl hi
   rw[zEn hi'] at hb
   refine⟨_,?_,hb⟩
   rw[List.getD_eq_getElem?_getD,List.getElem?_eq_getElem hi'];exact List.getElem_mem hi'
 refine⟨fun j b=> if j=k0 then ∃k,k∈ks/\own k b else j∉ks/\own j b,⟨fun j hj=> ?_,h.dom,fun j o ho=> ?_,fun j hj b hb=> ?_,fun j b hb=> ?_,fun j j' b hb hb'=> ?_,fun j cs hj hcs l' hl' j' hb=> ?_⟩,fun b ⟨j,hb⟩=> ?_⟩
 ·have hj':H.next<=j:=hj
  have hne:j≠ks.headD 0:=by rw[hk0];have:=hlt k0 hk0m;omega
  have hnc:ks.contains j=false:=by
   rw[List.contains_eq_mem,decide_eq_false_iff_not];intro hx;have:=hlt j hx;omega
  simp only[AH.pack,if_neg hne,hnc,Bool.false_eq_true,if_false]
  exact h.fresh j hj'
 ·simp only[AH.pack,hk0] at ho
  by_cases hj:j=k0
  ·subst hj
   rw[if_pos rfl] at ho;cases ho
   simp only[if_true]
   exact⟨l,hl1,hl2,⟨k0,hk0m,(hl3 _).2 rfl⟩,hhold⟩
  ·rw[if_neg hj] at ho
   split at ho
   ·cases ho
   ·rename_i hnc
    have hnm:j∉ks:=by simpa using hnc
    simp only[if_neg hj]
    have:(fun b=> j∉ks/\own j b)=own j:=by funext b;simp[hnm]
    rw[this]
    exact h.obj j o ho
 ·simp only[AH.pack,hk0] at hj
  by_cases hjk:j=k0
  ·rw[if_pos hjk] at hj;cases hj
  ·rw[if_neg hjk] at hj
   simp only[if_neg hjk] at hb
   rw[if_neg (by simpa using hb.1)] at hj
   exact h.gone j hj b hb.2
 ·split at hb
  ·obtain⟨k,_,hb⟩:=hb;exact h.bound k b hb
  ·exact h.bound j b hb.2
 ·by_cases hj:j=k0<;> by_cases hj':j'=k0
  ·rw[hj,hj']
  ·rw[if_pos hj] at hb;rw[if_neg hj'] at hb'
   obtain⟨k,hk,hb⟩:=hb
   exact absurd (h.disj k j' b hb hb'.2▸hk) hb'.1
  ·rw[if_neg hj] at hb;rw[if_pos hj'] at hb'
   obtain⟨k,hk,hb'⟩:=hb'
   exact absurd (h.disj k j b hb' hb.2▸hk) hb.1
  ·rw[if_neg hj] at hb;rw[if_neg hj'] at hb'
   exact h.disj j j' b hb.2 hb'.2
 ·simp only[AH.pack,hk0] at hj
  have hj0:H.get j=some (.ro cs):=by
   by_cases hjk:j=k0
   ·rw[if_pos hjk] at hj;cases hj
   ·rw[if_neg hjk] at hj
    split at hj
    ·cases hj
    ·exact hj
  split at hb
  ·obtain⟨k,_,hb⟩:=hb;exact h.ro j cs hj0 hcs l' hl' k hb
  ·exact h.ro j cs hj0 hcs l' hl' j' hb.2
 ·simp only at hb
  split at hb
  ·obtain⟨k,_,hb⟩:=hb;exact⟨k,hb⟩
  ·exact⟨j,hb.2⟩
theorem Rel.packLe {ρ:Env} {own:Nat->Nat->Prop} {H:AH D} {w:World} (h:Rel P (zA5 P frag) ρ own H w) {d:D} {ks:List Nat} (hn:ks.Nodup) (hl:(frag d).length=ks.length)
  (hget:∀i,i<ks.length->∃o o',H.get (ks.getD i 0)=some o/\(frag d)[i]?=some o'/\leO o (o'.ren (sh ks.length H.next ks))) (hm:(frag d).all (·.mine)=true) (hroot:∃e c cs,(frag d)[0]?=some (.arr e (c::cs))):
  ∃own',Rel P (zA5 P frag) ρ own' (H.pack d ks) w/\∀b,(∃j,own' j b)->∃j,own j b:=by
 let H2:AH D:=⟨H.next,fun j=> match ks.idxOf? j with
  |some i=> ((frag d)[i]?).map (·.ren (sh ks.length H.next ks))
  |none=> H.get j⟩
 have hat:∀i,i<ks.length->ks.idxOf? (ks.getD i 0)=some i:=fun i hi=> by
  rw[List.getD_eq_getElem?_getD,List.getElem?_eq_getElem hi,Option.getD_some]
  rw[List.idxOf?,List.findIdx?_eq_some_iff_getElem]
  refine⟨hi,by simp,fun j hj=> ?_⟩
  have hne:¬ks[j]=ks[i]:=fun e=> by
   have:=(List.getElem_inj hn).1 e
   omega
  simpa using hne
 have hno:∀j i,ks.idxOf? j=some i->i<ks.length/\ks.getD i 0=j:=fun j i hi=> by
  rw[List.idxOf?,List.findIdx?_eq_some_iff_getElem] at hi
  obtain⟨h1,h2,_⟩:=hi
  refine⟨h1,?_⟩
  rw[List.getD_eq_getElem?_getD,List.getElem?_eq_getElem h1]
  simpa using h2
 have r2:Rel P (zA5 P frag) ρ own H2 w:=by
  refine h.weaken rfl fun j=> ?_
  show (match ks.idxOf? j with|some i=> ((frag d)[i]?).map (AObj.ren (sh ks.length H.next ks))|none=> H.get j)=H.get j∨_
  cases hj:ks.idxOf? j with
  |none=> exact .inl rfl
  |some i=>
   obtain⟨h1,rfl⟩:=hno j i hj
   obtain⟨o,o',e1,e2,e3⟩:=hget i h1
   refine .inr ⟨o,_,e1,?_,e3⟩
   show (match ks.idxOf? _ with|some i=> ((frag d)[i]?).map (AObj.ren (sh ks.length H.next ks))|none=> H.get _)=_
   rw[hj];simp only[e2];rfl
 have hp:H2.pack d ks=H.pack d ks:=by
  unfold AH.pack
  congr
  funext j
  split
  ·rfl
  ·split
   ·rfl
   ·rename_i hc
    show (match ks.idxOf? j with|some i=> ((frag d)[i]?).map (AObj.ren (sh ks.length H.next ks))|none=> H.get j)=_
    have:ks.idxOf? j=none:=by
     cases hj:ks.idxOf? j with
     |none=> rfl
     |some i=>
      obtain⟨h1,h2⟩:=hno j i hj
      refine absurd ?_ hc
      rw[List.contains_eq_mem,decide_eq_true_eq,←h2,List.getD_eq_getElem?_getD,List.getElem?_eq_getElem h1]
      exact List.getElem_mem h1
    rw[this]
 rw[←hp]
 exact r2.pack hn hl (fun i hi=> by
  show (match ks.idxOf? (ks.getD i 0) with|some i=> ((frag d)[i]?).map (AObj.ren (sh ks.length H.next ks))|none=> H.get _)=_
  rw[hat i hi]) hm hroot
theorem zG1.mono {ρ ρ':Env} (h:ρ.le ρ') {r:AEnd} {en:Ending} (hr:zG1 ρ r en):zG1 ρ' r en:=by
 cases r<;> cases en<;> first|exact hr.elim|skip
 ·exact VR.mono h hr
 ·obtain⟨v',h1,h2⟩:=hr
  exact⟨v',h1,VR.mono h h2⟩
theorem xV.nil {cfg:D->HRep} (H:AH D) (e:TypeId):xV P cfg H (H.add (.arr e [])):=fun ρ own w hr=> by
 obtain⟨ρ',own',_,h2,h3,h4⟩:=hr.nilRow e 0
 exact⟨ρ',own',h4,h2.le,h3⟩
theorem zP.expose {cfg:D->HRep} {f:FuncId} {args:List Value} {K:AEnd->AH D->Prop} {H:AH D} (k:Nat) {ps:List (Value × Value)} (hk:H.get k=some (.mapq ps)) (h:∀es c,zA3 ps es c->zP P cfg f args (H.upd k (.map es c)) K):zP P cfg f args H K:=by
 have one:∀ρ own w,Rel P cfg ρ own H w->∃es c,zA3 ps es c/\Rel P cfg ρ own (H.upd k (.map es c)) w:=by
  intro ρ own w hr
  obtain⟨l,es',c,qs,h1,h2,h3,h4,h5,h6,h7⟩:=hr.obj k _ hk
  obtain⟨a2,p1,p2⟩:=h5.perm' h4
  obtain⟨es,g1,g2,g3⟩:=VP.to_ve p2
  refine⟨es,c,⟨by rw[g2];exact p1.symm,by rw[g3];exact h6,fun e he=> ?_⟩,hr.turn hk h2 rfl (fun _ _=> rfl) ⟨l,es',h1,h2,h3,g1⟩ (by intro cs h;cases h)⟩
  have:e.born∈es'.toList.map (·.born):=by rw[←g3];exact List.mem_map.2 ⟨e,he,rfl⟩
  obtain⟨x,hx,hxb⟩:=List.mem_map.1 this
  rw[←hxb];exact h7 x hx
 refine⟨?_,fun ρ own w args' hr hv=> ?_⟩
 ·exact (h (ps.zipIdx.map fun p=> ⟨p.1.1,p.1.2,p.2⟩) ps.length ⟨by
  have:zB4 (ps.zipIdx.map fun p=> (⟨p.1.1,p.1.2,p.2⟩:MapEntry))=ps:=by
   simp[zB4,List.map_map,Function.comp_def,List.zipIdx_map_fst]
  rw[this],by simp[List.map_map,Function.comp_def,List.zipIdx_map_snd,List.nodup_range'],fun e he=> by
  obtain⟨p,hp,rfl⟩:=List.mem_map.1 he
  have:=List.snd_lt_of_mem_zipIdx hp
  simpa using this⟩).1
 ·obtain⟨es,c,h1,h2⟩:=one ρ own w hr
  exact (h es c h1).2 ρ own w args' h2 hv
theorem xV.pack {H:AH D} (d:D) (ks:List Nat) (hn:ks.Nodup) (hl:(frag d).length=ks.length)
  (hget:∀i,i<ks.length->∃o o',H.get (ks.getD i 0)=some o/\(frag d)[i]?=some o'/\leO o (o'.ren (sh ks.length H.next ks))) (hm:(frag d).all (·.mine)=true) (hroot:∃e c cs,(frag d)[0]?=some (.arr e (c::cs))):
  xV P (zA5 P frag) H (H.pack d ks):=fun ρ own w hr=> by
 obtain⟨own',h1,h2⟩:=hr.packLe hn hl hget hm hroot
 exact⟨ρ,own',h1,ρ.le_refl,h2⟩
theorem xV.open {H:AH D} {k:Nat} {d:D} (hk:H.get k=some (.hi d)):xV P (zA5 P frag) H (H.emb (sh 1 H.next [k]) 1 (zCy frag d)):=fun ρ own w hr=> by
 obtain⟨ρ',own',r',le,ob⟩:=hr.open hk rfl
 exact⟨ρ',own',r',le,ob⟩
def View (P:Program) (frag:D->List (AObj D)) (n0:Nat) (H:AH D) (r:AEnd) (H2:AH D) (r2:AEnd):Prop:=
 ∀ρ own w,Rel P (zA5 P frag) ρ own H w->∃ρ2 own2,Rel P (zA5 P frag) ρ2 own2 H2 w/\(∀k,k<n0->∀x,ρ.loc k=some x->ρ2.loc k=some x)/\(∀b,(∃j,own2 j b)->∃j,own j b)/\∀en,zG1 ρ r en->zG1 ρ2 r2 en
theorem zG1.of_ren {ρ:Env} {θ:Nat->Nat} {r:AEnd} {en:Ending} (h:zG1 ρ (zLp θ r) en):zG1 (ρ.on θ) r en:=by
 cases r<;> cases en<;> first|exact h.elim|skip
 ·exact VR.of_ren _ h
 ·obtain⟨v',h1,h2⟩:=h
  exact⟨v',h1,VR.of_ren _ h2⟩
variable {f:FuncId} {args:List Value} {K K2:AEnd->AH D->Prop}
theorem zP.view {H:AH D} (h:zP P (zA5 P frag) f args H K) (hv:∀r H',K r H'->∃r2 H2,View P frag H.next H' r H2 r2/\K2 r2 H2):zP P (zA5 P frag) f args H K2:=by
 refine⟨h.1,fun ρ own w args' hr hva=> (h.2 ρ own w args' hr hva).mono fun en w1 ⟨r1,H1,ρ1,own1,k1,x1,v1,r1'⟩=> ?_⟩
 obtain⟨r2,H2,v,k2⟩:=hv _ _ k1
 obtain⟨ρ2,own2,a1,a2,a3,a4⟩:=v ρ1 own1 w1 r1'
 refine⟨r2,H2,ρ2,own2,k2,⟨fun k x hx=> ?_,fun j b hb=> ?_,x1.size,x1.kept,x1.os,x1.tape,x1.output⟩,a4 en v1,a1⟩
 ·refine a2 k ?_ x (x1.le k x hx)
  rcases Nat.lt_or_ge k H.next with hlt|hge
  ·exact hlt
  ·rw[hr.dom k hge] at hx;cases hx
 ·obtain⟨j',hj'⟩:=a3 b ⟨j,hb⟩
  exact x1.owned j' b hj'
end
end Go.Abs
namespace Go.Abs
section
variable {D:Type}
theorem zGc (l:List (Option (AObj D))):(AH.of l).next=l.length:=rfl
theorem of_get (l:List (Option (AObj D))) (k:Nat):(AH.of l).get k=(l[k]?).join:=rfl
theorem zUc (l:List (Option (AObj D))) (o:AObj D):(AH.of l).add o=AH.of (l++[some o]):=by
 refine AH.ext' (by simp[AH.of]) fun k=> ?_
 rw[AH.get_add,of_get,of_get,zGc]
 by_cases hk:k=l.length
 ·subst hk;simp
 ·rw[if_neg hk]
  rcases Nat.lt_or_ge k l.length with h|h
  ·rw[List.getElem?_append_left h]
  ·rw[List.getElem?_append_right h,List.getElem?_eq_none h,List.getElem?_eq_none (by simp;omega)]
theorem zOy (l:List (Option (AObj D))) (k:Nat) (o:AObj D) (h:k<l.length):(AH.of l).upd k o=AH.of (l.set k (some o)):=by
 refine AH.ext' (by simp[AH.of]) fun j=> ?_
 rw[AH.get_upd,of_get,of_get,List.getElem?_set]
 by_cases hj:j=k
 ·subst hj;simp[h]
 ·rw[if_neg hj,if_neg (fun e=> hj e.symm)]
theorem qRz (l:List (Option (AObj D))) (k:Nat):(AH.of l).del k=AH.of (l.set k none):=by
 refine AH.ext' (by simp[AH.of]) fun j=> ?_
 rw[AH.get_del,of_get,of_get,List.getElem?_set]
 by_cases hj:j=k
 ·subst hj;simp;split<;> rfl
 ·rw[if_neg hj,if_neg (fun e=> hj e.symm)]
theorem qRy (l:List (Option (AObj D))) (k:Nat):(AH.of l).row k=match (l[k]?).join with
 |some (.arr _ cs)=> some cs
 |some (.ro cs)=> some cs
 |_=> none:=rfl
theorem qHt (l:List (Option (AObj D))) (k:Nat):(AH.of l).mapAt k=match (l[k]?).join with
 |some (.map es c)=> some (es,c)
 |_=> none:=rfl
theorem qOr (l:List (Option (AObj D))) (k o n:Nat):(AH.of l).many k o n=match (AH.of l).row k with
 |some cs=> if o+n<=cs.length then some ((cs.drop o).take n) else none
 |none=> none:=rfl
end
theorem qD8 (x:Array Value):Value.cells (.agg x)=x:=rfl
theorem zZ3 (b:Bool):Value.cells (.bool b)=#[(.bool b)]:=rfl
theorem qHq (b:Bool):Value.oneCell' (.bool b)=true:=rfl
theorem qD7 (k:IntKind) (n:Int):Value.cells (.int k n)=#[(.int k n)]:=rfl
theorem qOn (k:IntKind) (n:Int):Value.oneCell' (.int k n)=true:=rfl
theorem zWi (k:FloatKind) (n:Nat):Value.cells (.float k n)=#[(.float k n)]:=rfl
theorem qCv (k:FloatKind) (n:Nat):Value.oneCell' (.float k n)=true:=rfl
theorem zU2 (s:ByteArray):Value.cells (.string s)=#[(.string s)]:=rfl
theorem zY0 (s:ByteArray):Value.oneCell' (.string s)=true:=rfl
theorem zRs (p:Option Addr):Value.cells (.pointer p)=#[(.pointer p)]:=rfl
theorem zV0 (p:Option Addr):Value.oneCell' (.pointer p)=true:=rfl
theorem zWg (p:Option Addr) (n c:Nat):Value.cells (.slice p n c)=#[(.slice p n c)]:=rfl
theorem qCt (p:Option Addr) (n c:Nat):Value.oneCell' (.slice p n c)=true:=rfl
theorem qD6 (m:Option Nat):Value.cells (.map m)=#[(.map m)]:=rfl
theorem qOm (m:Option Nat):Value.oneCell' (.map m)=true:=rfl
theorem zZ2 (f:Fn) (x y:Array Value):Value.cells (.func f x y)=#[(.func f x y)]:=rfl
theorem qHp (f:Fn) (x y:Array Value):Value.oneCell' (.func f x y)=true:=rfl
theorem zRt:Value.cells .nilFunc=#[.nilFunc]:=rfl
theorem zV1:Value.oneCell' .nilFunc=true:=rfl
theorem zQg:Value.cells .nilIface=#[.nilIface]:=rfl
theorem zUb:Value.oneCell' .nilIface=true:=rfl
theorem zWh (t:TypeId) (v:Value):Value.cells (.iface t v)=#[(.iface t v)]:=rfl
theorem qCu (t:TypeId) (v:Value):Value.oneCell' (.iface t v)=true:=rfl
def bAnd (k:IntKind) (a b:Int):Int:=k.wrap (BitVec.ofInt k.bits a &&& BitVec.ofInt k.bits b).toNat
def bOr (k:IntKind) (a b:Int):Int:=k.wrap (BitVec.ofInt k.bits a|||BitVec.ofInt k.bits b).toNat
def bXor (k:IntKind) (a b:Int):Int:=k.wrap (BitVec.ofInt k.bits a ^^^ BitVec.ofInt k.bits b).toNat
def zIq (k:IntKind) (a b:Int):Int:=k.wrap (BitVec.ofInt k.bits a &&& ~~~BitVec.ofInt k.bits b).toNat
section
variable (k:IntKind) (a b:Int)
theorem qKe:zBl .add (.int k a) (.int k b)=some (.int k (k.wrap (a+b))):=by simp[zBl]
theorem qJ1:zBl .sub (.int k a) (.int k b)=some (.int k (k.wrap (a - b))):=by simp[zBl]
theorem qJ7:zBl .mul (.int k a) (.int k b)=some (.int k (k.wrap (a*b))):=by simp[zBl]
theorem qJ5:zBl .quo (.int k a) (.int k b)=if b=0 then none else some (.int k (k.wrap (a.tdiv b))):=by simp[zBl]
theorem qJ4:zBl .rem (.int k a) (.int k b)=if b=0 then none else some (.int k (a.tmod b)):=by simp[zBl]
theorem qKd:zBl .and (.int k a) (.int k b)=some (.int k (bAnd k a b)):=by simp[zBl,bAnd]
theorem qP3:zBl .or (.int k a) (.int k b)=some (.int k (bOr k a b)):=by simp[zBl,bOr]
theorem qJ0:zBl .xor (.int k a) (.int k b)=some (.int k (bXor k a b)):=by simp[zBl,bXor]
theorem zWn:zBl .andNot (.int k a) (.int k b)=some (.int k (zIq k a b)):=by simp[zBl,zIq]
theorem qKc:zBl .eql (.int k a) (.int k b)=some (.bool (decide (a=b))):=by simp[zBl,Bool.beq_eq_decide_eq]
theorem qJ6:zBl .neq (.int k a) (.int k b)=some (.bool (decide (a≠b))):=by simp[zBl,bne,Bool.beq_eq_decide_eq]
theorem qJ8:zBl .lss (.int k a) (.int k b)=some (.bool (decide (a<b))):=by simp[zBl]
theorem qJ9:zBl .leq (.int k a) (.int k b)=some (.bool (decide (a<=b))):=by simp[zBl]
theorem qKa:zBl .gtr (.int k a) (.int k b)=some (.bool (decide (b<a))):=by simp[zBl]
theorem qKb:zBl .geq (.int k a) (.int k b)=some (.bool (decide (b<=a))):=by simp[zBl]
end
section
variable {D:Type}
def zIj (θ:Nat->Nat) (H:AH D):List (AObj D)->AH D
 |[]=> H
 |o::os=> zIj θ (H.add (o.ren θ)) os
theorem zPg (θ:Nat->Nat):∀(os:List (AObj D)) (H:AH D),(zIj θ H os).next=H.next+os.length
 |[],_=> rfl
 |o::os,H=> by rw[zIj,zPg θ os,AH.next_add,List.length_cons];omega
theorem zRh (θ:Nat->Nat) (j:Nat):∀(os:List (AObj D)) (H:AH D),(zIj θ H os).get j=if H.next<=j/\j<H.next+os.length then (os[j - H.next]?).map (·.ren θ) else H.get j
 |[],H=> by rw[zIj,if_neg (by rw[List.length_nil];omega)]
 |o::os,H=> by
  rw[zIj,zRh θ j os,AH.next_add,AH.get_add,List.length_cons]
  by_cases h:j=H.next
  ·subst h
   rw[if_neg (by omega),if_pos rfl,if_pos (by omega),Nat.sub_self];rfl
  ·by_cases h2:H.next+1<=j/\j<H.next+1+os.length
   ·rw[if_pos h2,if_pos (by omega)]
    obtain⟨m,hm⟩:∃m,j - H.next=m+1:=⟨j - H.next - 1,by omega⟩
    rw[hm,List.getElem?_cons_succ]
    congr 2;omega
   ·rw[if_neg h2,if_neg h,if_neg (by omega)]
def zFt (frag:D->List (AObj D)) (H:AH D) (k:Nat):Option (AH D):=
 match H.get k with
 |some (.hi d)=> match frag d with
  |[]=> none
  |o::os=> some (zIj (sh 1 H.next [k]) (H.upd k (o.ren (sh 1 H.next [k]))) os)
 |_=> none
variable {P:Program} {frag:D->List (AObj D)}
theorem zDb {H H1:AH D} {k:Nat} (h:zFt frag H k=some H1):xV P (zA5 P frag) H H1:=fun ρ own w hr=> by
 unfold zFt at h
 split at h
 case h_2=> cases h
 rename_i d hk
 split at h
 case h_1=> cases h
 rename_i o os hd
 cases h
 have hlt:=hr.lt hk
 have:=xV.open (P:=P) (frag:=frag) hk ρ own w hr
 have inj:∀i j,sh 1 H.next [k] i=sh 1 H.next [k] j->i=j:=zTp (ks:=[k]) (by simp) (by simpa using hlt)
 have he:H.emb (sh 1 H.next [k]) 1 (zCy frag d)=zIj (sh 1 H.next [k]) (H.upd k (o.ren (sh 1 H.next [k]))) os:=by
  refine AH.ext' ?_ fun j=> ?_
  ·rw[zPg]
   simp only[AH.emb,AH.of,zCy,hd,AH.next_upd,List.length_map,List.length_cons]
   omega
  ·rw[zRh,AH.next_upd,AH.get_upd]
   by_cases hj:∃i,sh 1 H.next [k] i=j
   ·obtain⟨i,rfl⟩:=hj
    rw[AH.emb_img inj,zJg,hd]
    rcases Nat.eq_zero_or_pos i with rfl|hi
    ·rw[zEn (by omega)]
     simp only[List.getD_cons_zero,List.getElem?_cons_zero,Option.map_some,if_true]
     try rw[if_neg (by omega)]
    ·rw[zH8 (by omega)]
     obtain⟨m,rfl⟩:∃m,i=m+1:=⟨i - 1,by omega⟩
     rw[List.getElem?_cons_succ,Nat.add_sub_cancel]
     by_cases hm:m<os.length
     ·rw[if_pos (by omega)]
      congr 2;omega
     ·rw[if_neg (by omega),if_neg (by omega),List.getElem?_eq_none (by omega),hr.fresh _ (by omega)];rfl
   ·rw[AH.emb_oth hj]
    have hjk:j≠k:=fun e=> hj ⟨0,by rw[zEn (by omega),e];rfl⟩
    have hjl:j<H.next:=by
     refine Nat.lt_of_not_le fun hle=> hj ⟨1+(j - H.next),?_⟩
     rw[zH8 (by omega)];omega
    rw[if_neg (by omega),if_neg hjk]
 rwa [he] at this
def gX (P:Program) (frag:D->List (AObj D)) (C:zAx D) (I:zDu D->zAx D):Sg D:=⟨C,I,zFt frag,xV P (zA5 P frag),zNn P (zA5 P frag)⟩
theorem zAh:GOk P (zA5 P frag) (gX P frag):=⟨fun _ _=> rfl,fun _ _=> rfl,fun _ _ _ _ _ h=> zDb h,fun _ _ _ _ h=> h,fun _ _ _ _ _ _ _ h=> h⟩
theorem qPf {C:zAx D} {I:zDu D->zAx D}:(gX P frag C I).call=C:=rfl
theorem qPe {C:zAx D} {I:zDu D->zAx D}:(gX P frag C I).iter=I:=rfl
theorem qSk {C:zAx D} {I:zDu D->zAx D}:(gX P frag C I).opn=zFt frag:=rfl
end
section
variable {D:Type}
abbrev qW (D:Type):=List Value->AH D->Option (Prop × AEnd × AH D)
def goT (x:Option (Prop × AEnd × AH D)) (K:AEnd->AH D->Prop):Prop:=
 match x with
 |some (p,r,H')=> p/\K r H'
 |none=> False
def seeP (see:AH D->AH D->Prop) (st:qW D) (args:List Value) (H:AH D) (K:AEnd->AH D->Prop):Prop:=∃H1,see H H1/\goT (st args H1) K
def goS (x:Option (Prop × AEnd × AH D)) (see:AH D->AH D->Prop) (st:qW D) (args:List Value) (H:AH D) (K:AEnd->AH D->Prop):Prop:=
 match x with
 |some (p,r,H')=> p/\K r H'
 |none=> seeP see st args H K
theorem qIp {see:AH D->AH D->Prop} {st:qW D} {args:List Value} {H H':AH D} {K:AEnd->AH D->Prop} {p:Prop} {r:AEnd}:goS (some (p,r,H')) see st args H K=(p/\K r H'):=rfl
theorem qIq {see:AH D->AH D->Prop} {st:qW D} {args:List Value} {H:AH D} {K:AEnd->AH D->Prop}:goS none see st args H K=seeP see st args H K:=rfl
def zF0 (see:AH D->AH D->Prop) (tbl:List (FuncId × qW D)):FuncId->Option (List Value->AH D->(AEnd->AH D->Prop)->Prop):=fun f=> (tbl.lookup f).map fun st args H K=> goS (st args H) see st args H K
def qI (P:Program) (cfg:D->HRep) (f:FuncId) (st:qW D):Prop:=∀args H p r H',st args H=some (p,r,H')->p->zP P cfg f args H fun r' H2=> r'=r/\H2=H'
variable {P:Program} {cfg:D->HRep}
theorem zP.seesG {f:FuncId} {args:List Value} {K:AEnd->AH D->Prop} {H H1:AH D} (hs:xV P cfg H H1) (h:zP P cfg f args H1 K):zP P cfg f args H K:=by
 refine⟨h.1,fun ρ own w args' hr hv=> ?_⟩
 obtain⟨ρ',own',r',le,ob⟩:=hs ρ own w hr
 refine (h.2 ρ' own' w args' r' (hv.mono le)).mono fun en w1 ⟨r1,H1,ρ1,own1,k1,x1,v1,r1'⟩=> ⟨r1,H1,ρ1,own1,k1,(xV.toExt (H:=H) (H1:=H) le ob).trans x1,v1,r1'⟩
theorem zO0 {α:Type} {f:FuncId} {x:α}:∀{l:List (FuncId × α)},l.lookup f=some x->(f,x)∈l
 |[],h=> by cases h
 |(g,y)::l,h=> by
  rw[List.lookup_cons] at h
  split at h
  ·rename_i e
   have:f=g:=by simpa using e
   subst this;cases h;exact List.mem_cons_self
  ·exact List.mem_cons_of_mem _ (zO0 h)
theorem xD {tbl:List (FuncId × qW D)} (h:∀x∈tbl,qI P cfg x.1 x.2):SpecOk P cfg (zF0 (xV P cfg) tbl):=by
 refine⟨fun f c hc args H K hk=> ?_,fun f c hc args H K K' hk hh=> ?_⟩
 ·unfold zF0 at hc
  simp only[Option.map_eq_some_iff] at hc
  obtain⟨st,hst,rfl⟩:=hc
  have hok:=h _ (zO0 hst)
  unfold goS at hk
  split at hk
  ·rename_i p r H' he
   exact (hok args H p r H' he hk.1).mono fun r' H2 ⟨e1,e2⟩=> by rw[e1,e2];exact hk.2
  ·obtain⟨H1,hs,hk⟩:=hk
   unfold goT at hk
   split at hk
   ·rename_i p r H' he
    exact zP.seesG hs ((hok args H1 p r H' he hk.1).mono fun r' H2 ⟨e1,e2⟩=> by rw[e1,e2];exact hk.2)
   ·exact hk.elim
 ·unfold zF0 at hc
  simp only[Option.map_eq_some_iff] at hc
  obtain⟨st,hst,rfl⟩:=hc
  unfold goS at hh⊢
  split at hh
  ·exact⟨hh.1,hk _ _ hh.2⟩
  ·obtain⟨H1,hs,hh⟩:=hh
   refine⟨H1,hs,?_⟩
   unfold goT at hh⊢
   split at hh
   ·exact⟨hh.1,hk _ _ hh.2⟩
   ·exact hh.elim
variable {see:AH D->AH D->Prop} {tbl:List (FuncId × qW D)} {T:FuncId->Option AF} {G:zAx D->(zDu D->zAx D)->Sg D} {F:Nat} {Y:zDu D}
def zMd (G:zAx D->(zDu D->zAx D)->Sg D) (S:FuncId->Option (List Value->AH D->(AEnd->AH D->Prop)->Prop)) (T:FuncId->Option AF) (F:Nat):Nat->zDu D->FuncId->List Value->AH D->(AEnd->AH D->Prop)->Prop
 |0,_,_,_,_,_=> False
 |d+1,Y,f,args,H,K=> match T f with
  |some af=> af.run (G (zAf G S T F d Y) (zAf G S T F d)) F args H K
  |none=> False
def goL (x:Option (qW D)) (see:AH D->AH D->Prop) (args:List Value) (H:AH D) (K:AEnd->AH D->Prop) (other:Prop):Prop:=
 match x with
 |some st=> goS (st args H) see st args H K
 |none=> other
theorem qIu {st:qW D} {args:List Value} {H:AH D} {K:AEnd->AH D->Prop} {other:Prop}:goL (some st) see args H K other=goS (st args H) see st args H K:=rfl
theorem qIv {args:List Value} {H:AH D} {K:AEnd->AH D->Prop} {other:Prop}:goL none see args H K other=other:=rfl
def zKh {α:Type} (f:FuncId):List (FuncId × α)->Option α
 |[]=> none
 |(g,x)::l=> if f=g then some x else zKh f l
theorem qDa {α:Type} (f:FuncId):zKh f ([]:List (FuncId × α))=none:=rfl
theorem zY9 {α:Type} (f g:FuncId) (x:α) (l:List (FuncId × α)):zKh f ((g,x)::l)=if f=g then some x else zKh f l:=rfl
theorem zUf {α:Type} (f:FuncId):∀l:List (FuncId × α),zKh f l=l.lookup f
 |[]=> rfl
 |(g,x)::l=> by
  rw[zKh,List.lookup_cons,zUf f l]
  by_cases h:f=g
  ·simp[h]
  ·have:(f==g)=false:=by simpa using h
   rw[if_neg h,this]
theorem qEb {d f:Nat} {args:List Value} {H:AH D} {K:AEnd->AH D->Prop}:zAf G (zF0 see tbl) T F d Y (.fn f) args H K=goL (zKh f tbl) see args H K (zMd G (zF0 see tbl) T F d Y f args H K):=by
 rw[zUf]
 cases h:tbl.lookup f with
 |some st=>
  rw[zZ4 (c:=fun args H K=> goS (st args H) see st args H K) (by unfold zF0;rw[h];rfl)];rfl
 |none=>
  have hS:zF0 see tbl f=none:=by unfold zF0;rw[h];rfl
  cases d with
  |zero=>
   show (match zF0 see tbl f with|some c=> c args H K|none=> False)=False
   rw[hS]
  |succ d=>
   show (match zF0 see tbl f with|some c=> c args H K|none=> match T f with|some af=> af.run (G (zAf G (zF0 see tbl) T F d Y) (zAf G (zF0 see tbl) T F d)) F args H K|none=> False)=(match T f with|some af=> af.run (G (zAf G (zF0 see tbl) T F d Y) (zAf G (zF0 see tbl) T F d)) F args H K|none=> False)
   rw[hS]
variable {S:FuncId->Option (List Value->AH D->(AEnd->AH D->Prop)->Prop)} {f:FuncId} {args:List Value} {H:AH D} {K:AEnd->AH D->Prop}
def goA (x:Option AF) (C:Sg D) (F:Nat) (args:List Value) (H:AH D) (K:AEnd->AH D->Prop):Prop:=
 match x with
 |some af=> af.run C F args H K
 |none=> False
theorem qI0 {C:Sg D} {n:Nat} {res:List ARes} {b:AB}:goA (some ⟨n,res,b,none⟩) C F args H K=(args.length<=n/\b.wp C F (zUv res K) (zGv args) H):=qB
theorem qK7:zMd G S T F 1 Y f args H K=goA (T f) (G (zAf G S T F 0 Y) (zAf G S T F 0)) F args H K:=rfl
theorem qK6:zMd G S T F 2 Y f args H K=goA (T f) (G (zAf G S T F 1 Y) (zAf G S T F 1)) F args H K:=rfl
theorem qK5:zMd G S T F 3 Y f args H K=goA (T f) (G (zAf G S T F 2 Y) (zAf G S T F 2)) F args H K:=rfl
theorem qK4:zMd G S T F 4 Y f args H K=goA (T f) (G (zAf G S T F 3 Y) (zAf G S T F 3)) F args H K:=rfl
theorem qK3:zMd G S T F 5 Y f args H K=goA (T f) (G (zAf G S T F 4 Y) (zAf G S T F 4)) F args H K:=rfl
end
section
variable {D:Type}
theorem qH0 (z:Value):zKg z true none=.tuple #[z,.bool false]:=rfl
theorem qHz (z v:Value):zKg z true (some v)=.tuple #[v,.bool true]:=rfl
theorem qH2 (z:Value):zKg z false none=z:=rfl
theorem qH1 (z v:Value):zKg z false (some v)=v:=rfl
theorem qOx {α β:Type} {c:Prop} [Decidable c] (a:α) (f:α->β):(if c then some a else none).map f=if c then some (f a) else none:=by split<;> rfl
theorem qJn {α β:Type} {c:Prop} [Decidable c] (a:α) (f:α->Option β):(if c then some a else none).bind f=if c then f a else none:=by split<;> rfl
end
attribute [simp ↓] qP4 qTo zVk qE4 qE5 qTp qPr qPq zWd qJf qJg zUx qD0 qJw qKt zWl zRp zYm zVv qC7 qC8
attribute [simp] qDs qDt qEa zZ7 zZ6 zZ5 qDo zV6 qIw qDr qHl qCl qPc qPe
attribute [simp ↓] qOt qOk qTl qTn qJy qEp qEq qJz qP0 qP1 qTm qP2 qJv qJx qIh qO7 qDm zZj zZf zZh zZg zZi zSx zXx qAu qAv zRu zWk zZ8 zZ9 zRj zVo zX4 zX5 qI8 zWc qI9
 qSn qPo qJb qPm qJc qPn qJd qOl zUw qDy zXe zXh zXf zXg qAi zWm qAj qAg qAh zXt qAn qAo qEs zXu
attribute [simp high] qSc qSf qSd qSe goG_u qSh qR9 qSa zXe zXh zXf zXg
attribute [simp] qDa zY9 qH0 qHz qH2 qH1 qIt qIs qDq qDp qR8 qPb qPa qIn qIo qR7 qO9 goG_b qSb qIr qIy qIz qSg qSi qIx qIl qIm qJl qD5 qCq qCp qR6 qIa qDj AOp.key ptrK qPf qSk zFt zIj qIp qIq qIu qIv qEb qI0 qK7 qK6 qK5 qK4 qK3 qOx qJn
attribute [simp] AOp.step Opd.ev qEt qAq zGv qKe qJ1 qJ7 qJ5 qJ4 qKd qP3 qJ0 zWn qKc qJ6 qJ8 qJ9 qKa qKb aun xK zLo zJ9 ARes.ev zGc of_get zUc zOy qRz qRy qHt qOr setMany zEu AIns.again zOz qD8 zZ3 qHq qD7 qOn zWi qCv zU2 zY0 zRs zV0 zWg qCt qD6 qOm zZ2 qHp zRt zV1 zQg zUb zWh qCu zFe zB7 zGn zHn zIa bound aeq zHm zHl zJn zF6 zGw zIf
end Go.Abs
