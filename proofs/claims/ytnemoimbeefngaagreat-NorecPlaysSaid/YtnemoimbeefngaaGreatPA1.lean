/-
  The abstract heap: values read over a table of places, heaps of rows and maps, and what it is for a world to be such a heap.
-/
import Derived.WalkKit
import Derived.Deep.Draws
import Derived.Laws.Small
import Derived.Laws.StructEq
import Derived.Laws.CopyRow
import Derived.ChangeKeysEq
import Derived.Maps.AppendAt
import Derived.Lib.AppendStr
import Derived.Lib.UnsafeStr
import Derived.Laws.Tables
import Derived.Laws.MakeOwn
import Derived.Maps.RangeRun
import Derived.Laws.BytesString
import Derived.Lib.OthersKept
set_option linter.unusedSimpArgs false
set_option linter.unusedVariables false
set_option linter.unnecessarySimpa false
set_option linter.unusedSectionVars false
set_option maxHeartbeats 32000000
set_option maxRecDepth 100000
namespace Go.Abs
theorem zCk {α:Type} {l:List α} {i:Nat} (h:i<l.length):∃x,l[i]?=some x:=⟨l[i],List.getElem?_eq_getElem h⟩
structure Loc where
 b:Nat
 base:Nat
 tot:Nat
 s:Nat
structure Env where
 loc:Nat->Option Loc
mutual
inductive VR (ρ:Env):Value->Value->Prop
 |bool (b:Bool):VR ρ (.bool b) (.bool b)
 |int (k:IntKind) (n:Int):VR ρ (.int k n) (.int k n)
 |float (k:FloatKind) (b:Nat):VR ρ (.float k b) (.float k b)
 |string (s:ByteArray):VR ρ (.string s) (.string s)
 |nilp:VR ρ (.pointer none) (.pointer none)
 |ptr (k o:Nat) (l:Loc):ρ.loc k=some l->VR ρ (.pointer (some ⟨k,o,none⟩)) (.pointer (some ⟨l.b,l.base+o,none⟩))
 |nils:VR ρ (.slice none 0 0) (.slice none 0 0)
 |slice (k o o' n c cc:Nat) (l:Loc):ρ.loc k=some l->n<=cc->(0<n->o'=l.base+o)->
  (c=1->o=0/\o'=0/\l.base=0/\cc*l.s=l.tot/\cc<=maxLen)->(∀m,c=m+2->cc=m)->
  VR ρ (.slice (some ⟨k,o,none⟩) n c) (.slice (some ⟨l.b,o',none⟩) n cc)
 |slicen (k c:Nat) (a:Option Addr) (cc:Nat):c<=2->(0<c∨a=none->cc=0)->VR ρ (.slice (some ⟨k,0,none⟩) 0 c) (.slice a 0 cc)
 |nilm:VR ρ (.map none) (.map none)
 |map (k:Nat) (l:Loc):ρ.loc k=some l->VR ρ (.map (some k)) (.map (some l.b))
 |func (f:FuncId) (x y x' y':Array Value):VRs ρ x.toList x'.toList->VRs ρ y.toList y'.toList->VR ρ (.func (.func f) x y) (.func (.func f) x' y')
 |yld (k:Nat) (l:Loc):ρ.loc k=some l->VR ρ (.func (.yield k) #[] #[]) (.func (.yield l.b) #[] #[])
 |nilFunc:VR ρ .nilFunc .nilFunc
 |nilIface:VR ρ .nilIface .nilIface
 |iface (t:TypeId) (v v':Value):VR ρ v v'->VR ρ (.iface t v) (.iface t v')
 |agg (x x':Array Value):VRs ρ x.toList x'.toList->VR ρ (.agg x) (.agg x')
 |tuple (x x':Array Value):VRs ρ x.toList x'.toList->VR ρ (.tuple x) (.tuple x')
 |junk (c:Option Nat) (v':Value):v'.oneCell'=true->VR ρ (.chan c) v'
inductive VRs (ρ:Env):List Value->List Value->Prop
 |nil:VRs ρ [] []
 |cons (v v':Value) (l l':List Value):VR ρ v v'->VRs ρ l l'->VRs ρ (v::l) (v'::l')
end
def Env.le (ρ ρ':Env):Prop:=∀k x,ρ.loc k=some x->ρ'.loc k=some x
theorem Env.le_refl (ρ:Env):ρ.le ρ:=fun _ _ h=> h
theorem Env.le_trans {a b c:Env} (h:a.le b) (k:b.le c):a.le c:=fun i x hi=> k i x (h i x hi)
mutual
theorem VR.mono {ρ ρ':Env} (h:ρ.le ρ'):∀{v v':Value},VR ρ v v'->VR ρ' v v'
 |_,_,.bool b=> .bool b
 |_,_,.int k n=> .int k n
 |_,_,.float k b=> .float k b
 |_,_,.string s=> .string s
 |_,_,.nilp=> .nilp
 |_,_,.ptr k o l e=> .ptr k o l (h _ _ e)
 |_,_,.nils=> .nils
 |_,_,.slice k o o' n c cc l e h1 h2 h3 h4=> .slice k o o' n c cc l (h _ _ e) h1 h2 h3 h4
 |_,_,.slicen k c a cc h1 h2=> .slicen k c a cc h1 h2
 |_,_,.nilm=> .nilm
 |_,_,.map k l e=> .map k l (h _ _ e)
 |_,_,.func f x y x' y' h1 h2=> .func f x y x' y' (VRs.mono h h1) (VRs.mono h h2)
 |_,_,.yld k l e=> .yld k l (h _ _ e)
 |_,_,.nilFunc=> .nilFunc
 |_,_,.nilIface=> .nilIface
 |_,_,.iface t v v' h1=> .iface t v v' (VR.mono h h1)
 |_,_,.agg x x' h1=> .agg x x' (VRs.mono h h1)
 |_,_,.tuple x x' h1=> .tuple x x' (VRs.mono h h1)
 |_,_,.junk c v' h1=> .junk c v' h1
theorem VRs.mono {ρ ρ':Env} (h:ρ.le ρ'):∀{l l':List Value},VRs ρ l l'->VRs ρ' l l'
 |_,_,.nil=> .nil
 |_,_,.cons v v' l l' h1 h2=> .cons v v' l l' (VR.mono h h1) (VRs.mono h h2)
end
theorem VRs.length {ρ:Env}:∀{l l':List Value},VRs ρ l l'->l.length=l'.length
 |_,_,.nil=> rfl
 |_,_,.cons _ _ _ _ _ h=> by simp[VRs.length h]
theorem VRs.get {ρ:Env}:∀{l l':List Value},VRs ρ l l'->∀{i:Nat} {v:Value},l[i]?=some v->∃v',l'[i]?=some v'/\VR ρ v v'
 |_,_,.nil,i,v,h=> by simp at h
 |_,_,.cons v v' l l' h1 h2,0,u,h=> by
  simp at h;subst h;exact⟨v',by simp,h1⟩
 |_,_,.cons v v' l l' h1 h2,i+1,u,h=> by
  simp at h
  obtain⟨u',hu,hr⟩:=VRs.get h2 h
  exact⟨u',by simpa using hu,hr⟩
theorem VRs.of_get {ρ:Env}:∀{l l':List Value},l.length=l'.length->(∀(i:Nat) (v v':Value),l[i]?=some v->l'[i]?=some v'->VR ρ v v')->VRs ρ l l'
 |[],[],_,_=> .nil
 |[],_::_,h,_=> by simp at h
 |_::_,[],h,_=> by simp at h
 |v::l,v'::l',h,hg=> .cons _ _ _ _ (hg 0 v v' (by simp) (by simp)) (VRs.of_get (by simpa using h) fun i u u' hu hu'=> hg (i+1) u u' (by simpa using hu) (by simpa using hu'))
theorem VRs.take {ρ:Env} {l l':List Value} (h:VRs ρ l l') (n:Nat):VRs ρ (l.take n) (l'.take n):=
 VRs.of_get (by simp[h.length]) fun i v v' hv hv'=> by
  rw[List.getElem?_take] at hv hv'
  split at hv
  ·rename_i hi
   rw[if_pos hi] at hv'
   obtain⟨u,hu,hr⟩:=h.get hv
   rw[hu] at hv';cases hv';exact hr
  ·cases hv
theorem VRs.drop {ρ:Env} {l l':List Value} (h:VRs ρ l l') (n:Nat):VRs ρ (l.drop n) (l'.drop n):=
 VRs.of_get (by simp[h.length]) fun i v v' hv hv'=> by
  rw[List.getElem?_drop] at hv hv'
  obtain⟨u,hu,hr⟩:=h.get hv
  rw[hu] at hv';cases hv';exact hr
theorem VRs.append {ρ:Env}:∀{l l' m m':List Value},VRs ρ l l'->VRs ρ m m'->VRs ρ (l++m) (l'++m')
 |_,_,_,_,.nil,h=> h
 |_,_,_,_,.cons _ _ _ _ h1 h2,h=> .cons _ _ _ _ h1 (VRs.append h2 h)
theorem VRs.set {ρ:Env} {l l':List Value} (h:VRs ρ l l') (i:Nat) {v v':Value} (hv:VR ρ v v'):VRs ρ (l.set i v) (l'.set i v'):=
 VRs.of_get (by simp[h.length]) fun j u u' hu hu'=> by
  rw[List.getElem?_set] at hu hu'
  have hl:=h.length
  split at hu
  ·rename_i hij
   subst hij
   rw[if_pos rfl] at hu'
   split at hu
   ·rename_i hlt
    rw[if_pos (by omega)] at hu'
    cases hu;cases hu';exact hv
   ·cases hu
  ·rename_i hij
   rw[if_neg hij] at hu'
   obtain⟨w,hw,hr⟩:=h.get hu
   rw[hw] at hu';cases hu';exact hr
theorem VR.bool_eq {ρ:Env} {b:Bool} {v:Value} (h:VR ρ (.bool b) v):v=.bool b:=by cases h;rfl
theorem VR.int_eq {ρ:Env} {k:IntKind} {n:Int} {v:Value} (h:VR ρ (.int k n) v):v=.int k n:=by cases h;rfl
theorem VR.float_eq {ρ:Env} {k:FloatKind} {n:Nat} {v:Value} (h:VR ρ (.float k n) v):v=.float k n:=by cases h;rfl
theorem VR.string_eq {ρ:Env} {s:ByteArray} {v:Value} (h:VR ρ (.string s) v):v=.string s:=by cases h;rfl
theorem VR.ptr_inv {ρ:Env} {k o:Nat} {v:Value} (h:VR ρ (.pointer (some ⟨k,o,none⟩)) v):
 ∃l,ρ.loc k=some l/\v=.pointer (some ⟨l.b,l.base+o,none⟩):=by cases h;exact⟨_,‹_›,rfl⟩
theorem VR.slice_inv {ρ:Env} {k o n c:Nat} {v:Value} (h:VR ρ (.slice (some ⟨k,o,none⟩) n c) v):
  (∃o' cc l,ρ.loc k=some l/\n<=cc/\(0<n->o'=l.base+o)/\(c=1->o=0/\o'=0/\l.base=0/\cc*l.s=l.tot/\cc<=maxLen)/\(∀m,c=m+2->cc=m)/\
   v=.slice (some ⟨l.b,o',none⟩) n cc)∨(o=0/\n=0/\c<=2/\∃a cc,v=.slice a 0 cc/\(0<c∨a=none->cc=0)):=by
 cases h
 ·exact .inl ⟨_,_,_,‹_›,‹_›,‹_›,‹_›,‹_›,rfl⟩
 ·exact .inr ⟨rfl,rfl,‹_›,_,_,rfl,‹_›⟩
theorem VR.map_inv {ρ:Env} {k:Nat} {v:Value} (h:VR ρ (.map (some k)) v):∃l,ρ.loc k=some l/\v=.map (some l.b):=by cases h;exact⟨_,‹_›,rfl⟩
theorem VR.agg_inv {ρ:Env} {x:Array Value} {v:Value} (h:VR ρ (.agg x) v):∃x',v=.agg x'/\VRs ρ x.toList x'.toList:=by cases h;exact⟨_,rfl,‹_›⟩
theorem VR.tuple_inv {ρ:Env} {x:Array Value} {v:Value} (h:VR ρ (.tuple x) v):∃x',v=.tuple x'/\VRs ρ x.toList x'.toList:=by cases h;exact⟨_,rfl,‹_›⟩
theorem VR.undef (ρ:Env):VR ρ undef undef:=.tuple _ _ .nil
mutual
def xY:Value->Bool
 |.bool _|.int .. |.float .. |.string _|.pointer none|.nilFunc|.nilIface|.map none=> true
 |.slice none 0 0=> true
 |.iface _ v=> xY v
 |.agg ⟨l⟩|.tuple ⟨l⟩=> xI l
 |_=> false
def xI:List Value->Bool
 |[]=> true
 |v::l=> xY v && xI l
end
mutual
theorem VR.of_ground (ρ:Env):∀(v:Value),xY v=true->VR ρ v v
 |.bool b,_=> .bool b
 |.int k n,_=> .int k n
 |.float k b,_=> .float k b
 |.complex ..,h=> by simp[xY] at h
 |.string s,_=> .string s
 |.pointer none,_=> .nilp
 |.pointer (some _),h=> by simp[xY] at h
 |.slice none 0 0,_=> .nils
 |.slice none 0 (_+1),h=> by simp[xY] at h
 |.slice none (_+1) _,h=> by simp[xY] at h
 |.slice (some _) _ _,h=> by simp[xY] at h
 |.map none,_=> .nilm
 |.map (some _),h=> by simp[xY] at h
 |.chan _,h=> by simp[xY] at h
 |.func ..,h=> by simp[xY] at h
 |.nilFunc,_=> .nilFunc
 |.nilIface,_=> .nilIface
 |.iface t v,h=> .iface t v v (VR.of_ground ρ v (by simpa [xY] using h))
 |.agg ⟨l⟩,h=> .agg _ _ (VRs.of_ground ρ l (by simpa [xY] using h))
 |.tuple ⟨l⟩,h=> .tuple _ _ (VRs.of_ground ρ l (by simpa [xY] using h))
theorem VRs.of_ground (ρ:Env):∀(l:List Value),xI l=true->VRs ρ l l
 |[],_=> .nil
 |v::l,h=> .cons _ _ _ _ (VR.of_ground ρ v (by simp[xI] at h;exact h.1)) (VRs.of_ground ρ l (by simp[xI] at h;exact h.2))
end
end Go.Abs
namespace Go.Abs
open Go.RowKit
inductive Jmp where
 |ret
 |exit (id:Nat)
 |goto (l:Nat)
def Jmp.code:Jmp->Code
 |.ret=> .ret
 |.exit id=> .exit id
 |.goto l=> .goto l
def zI0:Nat->LoopState
 |0=> .ready
 |1=> .busy
 |_=> .done
inductive AObj (D:Type) where
 |arr (e:TypeId) (cs:List Value)
 |ro (cs:List Value)
 |map (es:List MapEntry) (clock:Nat)
 |mapq (ps:List (Value × Value))
 |miter (m:Nat) (since:Nat) (seen:List Nat) (stepped:Nat)
 |siter (s:ByteArray) (pos:Nat)
 |loopr (r:Loop) (st:Nat) (p:Option Jmp)
 |hi (d:D)
structure AH (D:Type) where
 next:Nat
 get:Nat->Option (AObj D)
structure HRep where
 holds:Loc->(Nat->Prop)->World->Prop
 keep:∀l own w w',(∀i,own i->w'.heap[i]?=w.heap[i]?)->holds l own w->holds l own w'
inductive VE (ρ:Env):List MapEntry->List MapEntry->Prop
 |nil:VE ρ [] []
 |cons (k k' v v':Value) (n:Nat) (l l':List MapEntry):VR ρ k k'->VR ρ v v'->VE ρ l l'->VE ρ (⟨k,v,n⟩::l) (⟨k',v',n⟩::l')
inductive VP (ρ:Env):List (Value × Value)->List (Value × Value)->Prop
 |nil:VP ρ [] []
 |cons (k k' v v':Value) (l l':List (Value × Value)):VR ρ k k'->VR ρ v v'->VP ρ l l'->VP ρ ((k,v)::l) ((k',v')::l')
def zB4 (es:List MapEntry):List (Value × Value):=es.map fun e=> (e.key,e.val)
def zA3 (ps:List (Value × Value)) (es:List MapEntry) (c:Nat):Prop:=(zB4 es).Perm ps/\(es.map (·.born)).Nodup/\∀e∈es,e.born<c
theorem VP.mono {ρ ρ':Env} (h:ρ.le ρ'):∀{l l':List (Value × Value)},VP ρ l l'->VP ρ' l l'
 |_,_,.nil=> .nil
 |_,_,.cons k k' v v' l l' h1 h2 h3=> .cons k k' v v' l l' (h1.mono h) (h2.mono h) (VP.mono h h3)
theorem VP.of_ve {ρ:Env}:∀{l l':List MapEntry},VE ρ l l'->VP ρ (zB4 l) (zB4 l')
 |_,_,.nil=> .nil
 |_,_,.cons k k' v v' n l l' h1 h2 h3=> .cons k k' v v' _ _ h1 h2 (VP.of_ve h3)
theorem VP.perm {ρ:Env} {a a2:List (Value × Value)} (hp:a.Perm a2):∀{b:List (Value × Value)},VP ρ a b->∃b2,b.Perm b2/\VP ρ a2 b2:=by
 induction hp with
 |nil=> intro b h;cases h;exact⟨[],.nil,.nil⟩
 |cons x _ ih=>
  intro b h
  cases h with
  |cons k k' v v' l l' h1 h2 h3=>
   obtain⟨b2,p1,p2⟩:=ih h3
   exact⟨(k',v')::b2,p1.cons _,.cons _ _ _ _ _ _ h1 h2 p2⟩
 |swap x y l=>
  intro b h
  cases h with
  |cons k k' v v' l l' h1 h2 h3=>
   cases h3 with
   |cons k2 k2' v2 v2' l l' h4 h5 h6=> exact⟨_,.swap _ _ _,.cons _ _ _ _ _ _ h4 h5 (.cons _ _ _ _ _ _ h1 h2 h6)⟩
 |trans _ _ ih1 ih2=>
  intro b h
  obtain⟨b2,p1,p2⟩:=ih1 h
  obtain⟨b3,p3,p4⟩:=ih2 p2
  exact⟨b3,p1.trans p3,p4⟩
theorem VP.perm' {ρ:Env} {b b2:List (Value × Value)} (hp:b.Perm b2):∀{a:List (Value × Value)},VP ρ a b->∃a2,a.Perm a2/\VP ρ a2 b2:=by
 induction hp with
 |nil=> intro b h;cases h;exact⟨[],.nil,.nil⟩
 |cons x _ ih=>
  intro b h
  cases h with
  |cons k k' v v' l l' h1 h2 h3=>
   obtain⟨b2,p1,p2⟩:=ih h3
   exact⟨(k,v)::b2,p1.cons _,.cons _ _ _ _ _ _ h1 h2 p2⟩
 |swap x y l=>
  intro b h
  cases h with
  |cons k k' v v' l l' h1 h2 h3=>
   cases h3 with
   |cons k2 k2' v2 v2' l l' h4 h5 h6=> exact⟨_,.swap _ _ _,.cons _ _ _ _ _ _ h4 h5 (.cons _ _ _ _ _ _ h1 h2 h6)⟩
 |trans _ _ ih1 ih2=>
  intro b h
  obtain⟨b2,p1,p2⟩:=ih1 h
  obtain⟨b3,p3,p4⟩:=ih2 p2
  exact⟨b3,p1.trans p3,p4⟩
theorem VP.to_ve {ρ:Env}:∀{l':List MapEntry} {a:List (Value × Value)},VP ρ a (zB4 l')->∃l,VE ρ l l'/\zB4 l=a/\l.map (·.born)=l'.map (·.born)
 |[],a,h=> by cases h;exact⟨[],.nil,rfl,rfl⟩
 |e::l',a,h=> by
  cases h with
  |cons k k' v v' l l'' h1 h2 h3=>
   obtain⟨m,g1,g2,g3⟩:=VP.to_ve h3
   exact⟨⟨k,v,e.born⟩::m,.cons _ _ _ _ _ _ _ h1 h2 g1,by simp[zB4] at g2⊢;exact g2,by simp[g3]⟩
theorem VE.borns {ρ:Env}:∀{l l':List MapEntry},VE ρ l l'->l.map (·.born)=l'.map (·.born)
 |_,_,.nil=> rfl
 |_,_,.cons k k' v v' n l l' h1 h2 h3=> by simp[VE.borns h3]
section
variable {D:Type} (P:Program) (cfg:D->HRep)
def zBt (ρ:Env) (own:Nat->Prop) (k:Nat) (o:AObj D) (w:World):Prop:=
 match o with
 |.arr e cs=> (∃l cs',ρ.loc k=some l/\l.base=0/\l.s=P.cellsOf e/\l.tot=cs'.size/\(∀i,own i↔i=l.b)/\w.heap[l.b]?=some (.cells cs' e (0,0))/\
  cs.length<=cs'.size/\VRs ρ cs (cs'.toList.take cs.length)/\cs.all (·.oneCell')=true)∨
  (cs=[]/\(∀i,¬own i)/\∃l,ρ.loc k=some l/\l.base=0/\l.s=P.cellsOf e/\l.tot=0)
 |.ro cs=> (∀i,¬own i)/\(cs≠[]->∃l cs' e fr,ρ.loc k=some l/\w.heap[l.b]?=some (.cells cs' e fr)/\l.base+cs.length<=cs'.size/\
  VRs ρ cs ((cs'.toList.drop l.base).take cs.length)/\cs.all (·.oneCell')=true)
 |.map es clock=> ∃l es',ρ.loc k=some l/\(∀i,own i↔i=l.b)/\w.heap[l.b]?=some (.map es' clock)/\VE ρ es es'.toList
 |.mapq ps=> ∃l es' clock qs,ρ.loc k=some l/\(∀i,own i↔i=l.b)/\w.heap[l.b]?=some (.map es' clock)/\qs.Perm (zB4 es'.toList)/\VP ρ ps qs/\
  (es'.toList.map (·.born)).Nodup/\∀e∈es'.toList,e.born<clock
 |.miter m since seen stepped=> ∃l lm,ρ.loc k=some l/\l.base=0/\(∀i,own i↔i=l.b)/\ρ.loc m=some lm/\w.heap[l.b]?=some (.mapIter (some lm.b) since seen.toArray stepped)
 |.siter s pos=> ∃l,ρ.loc k=some l/\l.base=0/\(∀i,own i↔i=l.b)/\w.heap[l.b]?=some (.stringIter s pos)
 |.loopr r st p=> ∃l,ρ.loc k=some l/\(∀i,own i↔i=l.b)/\w.heap[l.b]?=some (.loop { r with state:=zI0 st,pending:=p.map Jmp.code })
 |.hi d=> ∃l,ρ.loc k=some l/\l.base=0/\own l.b/\(cfg d).holds l own w
structure Rel (ρ:Env) (own:Nat->Nat->Prop) (H:AH D) (w:World):Prop where
 fresh:∀k,H.next<=k->H.get k=none
 dom:∀k,H.next<=k->ρ.loc k=none
 obj:∀k o,H.get k=some o->zBt P cfg ρ (own k) k o w
 gone:∀k,H.get k=none->∀b,¬own k b
 bound:∀k b,own k b->b<w.heap.size
 disj:∀k k' b,own k b->own k' b->k=k'
 ro:∀k cs,H.get k=some (.ro cs)->cs≠[]->∀l,ρ.loc k=some l->∀k',¬own k' l.b
structure Ext (ρ:Env) (own:Nat->Nat->Prop) (w:World) (ρ':Env) (own':Nat->Nat->Prop) (w':World):Prop where
 le:ρ.le ρ'
 owned:∀k b,own' k b->(∃k0,own k0 b)∨w.heap.size<=b
 size:w.heap.size<=w'.heap.size
 kept:∀b,b<w.heap.size->(∀k,¬own k b)->w'.heap[b]?=w.heap[b]?
 os:w'.os=w.os
 tape:w'.tape=w.tape
 output:w'.output=w.output
theorem Ext.refl (ρ:Env) (own:Nat->Nat->Prop) (w:World):Ext ρ own w ρ own w:=
 ⟨ρ.le_refl,fun k b h=> .inl ⟨k,h⟩,Nat.le_refl _,fun _ _ _=> rfl,rfl,rfl,rfl⟩
theorem Ext.trans {ρ ρ1 ρ2:Env} {own own1 own2:Nat->Nat->Prop} {w w1 w2:World} (h:Ext ρ own w ρ1 own1 w1) (k:Ext ρ1 own1 w1 ρ2 own2 w2):Ext ρ own w ρ2 own2 w2 where
 le:=Env.le_trans h.le k.le
 owned:=fun i b hb=> by
  rcases k.owned i b hb with ⟨k0,h0⟩|h0
  ·exact h.owned _ _ h0
  ·exact .inr (Nat.le_trans h.size h0)
 size:=Nat.le_trans h.size k.size
 kept:=fun b hb hn=> by
  rw[k.kept b (Nat.lt_of_lt_of_le hb h.size) (fun i hi=> ?_),h.kept b hb hn]
  rcases h.owned i b hi with ⟨k0,h0⟩|h0
  ·exact hn _ h0
  ·omega
 os:=k.os.trans h.os
 tape:=k.tape.trans h.tape
 output:=k.output.trans h.output
theorem Rel.drew {ρ:Env} {own:Nat->Nat->Prop} {H:AH D} {w w':World} (h:Rel P cfg ρ own H w) (hh:w'.heap=w.heap):Rel P cfg ρ own H w' where
 fresh:=h.fresh
 dom:=h.dom
 obj:=fun k o hk=> by
  have:=h.obj k o hk
  cases o<;> simp only[zBt] at this⊢<;> (try rw[hh])<;> first|exact this|skip
  obtain⟨l,h1,h2,h3,h4⟩:=this
  exact⟨l,h1,h2,h3,(cfg _).keep _ _ _ _ (fun i _=> by rw[hh]) h4⟩
 gone:=h.gone
 bound:=fun k b hb=> by rw[hh];exact h.bound k b hb
 disj:=h.disj
 ro:=h.ro
theorem VE.mono {ρ ρ':Env} (h:ρ.le ρ'):∀{l l':List MapEntry},VE ρ l l'->VE ρ' l l'
 |_,_,.nil=> .nil
 |_,_,.cons k k' v v' n l l' h1 h2 h3=> .cons k k' v v' n l l' (h1.mono h) (h2.mono h) (VE.mono h h3)
theorem zBt.keep {ρ ρ':Env} {own:Nat->Prop} {k:Nat} {o:AObj D} {w w':World} (hle:ρ.le ρ') (h:zBt P cfg ρ own k o w)
  (hk:∀b,own b->w'.heap[b]?=w.heap[b]?) (hro:∀cs l,o=.ro cs->cs≠[]->ρ.loc k=some l->w'.heap[l.b]?=w.heap[l.b]?):zBt P cfg ρ' own k o w':=by
 cases o with
 |arr e cs=>
  rcases h with ⟨l,cs',h1,h2,h3,h4,h5,h6,h7,h8,h9⟩|⟨h1,h2,l,h3,h4,h5,h6⟩
  ·exact .inl ⟨l,cs',hle _ _ h1,h2,h3,h4,h5,(hk l.b ((h5 l.b).2 rfl)).trans h6,h7,h8.mono hle,h9⟩
  ·exact .inr ⟨h1,h2,l,hle _ _ h3,h4,h5,h6⟩
 |ro cs=>
  refine⟨h.1,fun hne=> ?_⟩
  obtain⟨l,cs',e,fr,h1,h3,h4,h5,h6⟩:=h.2 hne
  exact⟨l,cs',e,fr,hle _ _ h1,(hro cs l rfl hne h1).trans h3,h4,h5.mono hle,h6⟩
 |map es clock=>
  obtain⟨l,es',h1,h2,h3,h4⟩:=h
  exact⟨l,es',hle _ _ h1,h2,(hk l.b ((h2 l.b).2 rfl)).trans h3,h4.mono hle⟩
 |mapq ps=>
  obtain⟨l,es',clock,qs,h1,h2,h3,h4,h5,h6⟩:=h
  exact⟨l,es',clock,qs,hle _ _ h1,h2,(hk l.b ((h2 l.b).2 rfl)).trans h3,h4,h5.mono hle,h6⟩
 |miter m since seen stepped=>
  obtain⟨l,lm,h1,h0,h2,h3,h4⟩:=h
  exact⟨l,lm,hle _ _ h1,h0,h2,hle _ _ h3,(hk l.b ((h2 l.b).2 rfl)).trans h4⟩
 |siter s pos=>
  obtain⟨l,h1,h0,h2,h3⟩:=h
  exact⟨l,hle _ _ h1,h0,h2,(hk l.b ((h2 l.b).2 rfl)).trans h3⟩
 |loopr r st p=>
  obtain⟨l,h1,h2,h3⟩:=h
  exact⟨l,hle _ _ h1,h2,(hk l.b ((h2 l.b).2 rfl)).trans h3⟩
 |hi d=>
  obtain⟨l,h1,h0,h2,h3⟩:=h
  exact⟨l,hle _ _ h1,h0,h2,(cfg d).keep _ _ _ _ hk h3⟩
def AH.upd (H:AH D) (k:Nat) (o:AObj D):AH D:={ H with get:=fun j=> if j=k then some o else H.get j }
def AH.del (H:AH D) (k:Nat):AH D:={ H with get:=fun j=> if j=k then none else H.get j }
def AH.add (H:AH D) (o:AObj D):AH D:={ next:=H.next+1,get:=fun j=> if j=H.next then some o else H.get j }
@[simp] theorem AH.next_upd (H:AH D) (k:Nat) (o:AObj D):(H.upd k o).next=H.next:=rfl
@[simp] theorem AH.next_del (H:AH D) (k:Nat):(H.del k).next=H.next:=rfl
@[simp] theorem AH.next_add (H:AH D) (o:AObj D):(H.add o).next=H.next+1:=rfl
theorem AH.get_upd (H:AH D) (k:Nat) (o:AObj D) (j:Nat):(H.upd k o).get j=if j=k then some o else H.get j:=rfl
theorem AH.get_del (H:AH D) (k j:Nat):(H.del k).get j=if j=k then none else H.get j:=rfl
theorem AH.get_add (H:AH D) (o:AObj D) (j:Nat):(H.add o).get j=if j=H.next then some o else H.get j:=rfl
variable {P} {cfg}
variable {ρ:Env} {own:Nat->Nat->Prop} {H:AH D} {w:World}
theorem Rel.lt (h:Rel P cfg ρ own H w) {k:Nat} {o:AObj D} (hk:H.get k=some o):k<H.next:=by
 rcases Nat.lt_or_ge k H.next with hlt|hge
 ·exact hlt
 ·rw[h.fresh k hge] at hk;cases hk
theorem Rel.turn (h:Rel P cfg ρ own H w) {k b:Nat} {o o':AObj D} (hk:H.get k=some o) (hb:∀i,own k i↔i=b) {w':World}
  (hsz:w'.heap.size=w.heap.size) (hoth:∀i,i≠b->w'.heap[i]?=w.heap[i]?) (hok:zBt P cfg ρ (own k) k o' w') (hnr:∀cs,o'≠.ro cs):
  Rel P cfg ρ own (H.upd k o') w':=by
 refine⟨fun j hj=> ?_,h.dom,fun j x hj=> ?_,fun j hj=> ?_,fun j i hi=> by rw[hsz];exact h.bound j i hi,h.disj,fun j cs hj hcs=> ?_⟩
 ·rw[AH.get_upd]
  have:=h.lt hk
  simp only[AH.next_upd] at hj
  rw[if_neg (by omega)];exact h.fresh j hj
 ·rw[AH.get_upd] at hj
  split at hj
  ·rename_i e;subst e;cases hj;exact hok
  ·rename_i hne
   refine (h.obj j x hj).keep P cfg ρ.le_refl (fun i hi=> hoth i ?_) (fun cs l hx hcs hl=> hoth l.b ?_)
   ·rintro rfl
    exact hne (h.disj j k i hi ((hb i).2 rfl))
   ·intro e
    subst hx
    exact h.ro j cs hj hcs _ hl k ((hb _).2 e)
 ·rw[AH.get_upd] at hj
  split at hj
  ·cases hj
  ·exact h.gone j hj
 ·rw[AH.get_upd] at hj
  split at hj
  ·cases hj;exact absurd rfl (hnr cs)
  ·exact h.ro j cs hj hcs
theorem Ext.turn {k b:Nat} (hb:own k b) {w':World} (hsz:w'.heap.size=w.heap.size) (hoth:∀i,i≠b->w'.heap[i]?=w.heap[i]?)
  (hos:w'.os=w.os) (htape:w'.tape=w.tape) (hout:w'.output=w.output):Ext ρ own w ρ own w':=
 ⟨ρ.le_refl,fun j i hi=> .inl ⟨j,hi⟩,by omega,fun i _ hn=> hoth i (fun e=> hn k (e▸hb)),hos,htape,hout⟩
theorem Rel.forget (h:Rel P cfg ρ own H w) (k:Nat):Rel P cfg ρ (fun j b=> j≠k/\own j b) (H.del k) w:=by
 refine⟨fun j hj=> ?_,h.dom,fun j x hj=> ?_,fun j hj b hb=> ?_,fun j b hb=> h.bound j b hb.2,fun j j' b hb hb'=> h.disj j j' b hb.2 hb'.2,fun j cs hj hcs l hl k' hk'=> ?_⟩
 ·rw[AH.get_del];split
  ·rfl
  ·exact h.fresh j hj
 ·rw[AH.get_del] at hj
  split at hj
  ·cases hj
  ·rename_i hne
   have e:(fun b=> j≠k/\own j b)=own j:=by funext b;simp[hne]
   show zBt P cfg ρ (fun b=> j≠k/\own j b) j x w
   rw[e];exact h.obj j x hj
 ·rw[AH.get_del] at hj
  split at hj
  ·rename_i e;exact hb.1 e
  ·exact h.gone j hj b hb.2
 ·rw[AH.get_del] at hj
  split at hj
  ·cases hj
  ·exact h.ro j cs hj hcs l hl k' hk'.2
theorem Ext.forget (k:Nat):Ext ρ own w ρ (fun j b=> j≠k/\own j b) w:=
 ⟨ρ.le_refl,fun j b hb=> .inl ⟨j,hb.2⟩,Nat.le_refl _,fun _ _ _=> rfl,rfl,rfl,rfl⟩
def Env.put (ρ:Env) (k:Nat) (l:Loc):Env:=⟨fun j=> if j=k then some l else ρ.loc j⟩
theorem Env.loc_put (ρ:Env) (k:Nat) (l:Loc) (j:Nat):(ρ.put k l).loc j=if j=k then some l else ρ.loc j:=rfl
theorem Env.put_le {k:Nat} {l:Loc} (h:ρ.loc k=none):ρ.le (ρ.put k l):=fun j x hj=> by
 rw[Env.loc_put];split
 ·rename_i e;subst e;rw[h] at hj;cases hj
 ·exact hj
theorem Rel.alloc (h:Rel P cfg ρ own H w) (x:Obj) {o:AObj D} (hnr:∀cs,o≠.ro cs) (tot s:Nat)
  (hok:zBt P cfg (ρ.put H.next ⟨w.heap.size,0,tot,s⟩) (fun b=> b=w.heap.size) H.next o (w.alloc x)):
  Rel P cfg (ρ.put H.next ⟨w.heap.size,0,tot,s⟩) (fun j b=> if j=H.next then b=w.heap.size else own j b) (H.add o) (w.alloc x):=by
 have hle:ρ.le (ρ.put H.next ⟨w.heap.size,0,tot,s⟩):=Env.put_le (h.dom _ (Nat.le_refl _))
 have hro:∀j cs l,H.get j=some (.ro cs)->cs≠[]->ρ.loc j=some l->l.b<w.heap.size:=fun j cs l hj hcs hl=> by
  obtain⟨l',cs',e,fr,h1,h3,_⟩:=(h.obj j _ hj).2 hcs
  rw[hl] at h1;cases h1
  exact (Array.getElem?_eq_some_iff.1 h3).1
 refine⟨fun j hj=> ?_,fun j hj=> ?_,fun j y hj=> ?_,fun j hj b hb=> ?_,fun j b hb=> ?_,fun j j' b hb hb'=> ?_,fun j cs hj hcs l hl k' hk'=> ?_⟩
 ·simp only[AH.next_add] at hj
  rw[AH.get_add,if_neg (by omega)];exact h.fresh j (by omega)
 ·simp only[AH.next_add] at hj
  rw[Env.loc_put,if_neg (by omega)];exact h.dom j (by omega)
 ·rw[AH.get_add] at hj
  split at hj
  ·rename_i e;subst e;cases hj
   simpa using hok
  ·rename_i hne
   have:=(h.obj j y hj).keep P cfg (w':=w.alloc x) hle (fun b hb=> Below.heap_alloc w x b (h.bound j b hb)) (fun cs l hx hcs hl=> by
    subst hx
    exact Below.heap_alloc w x _ (hro j cs l hj hcs hl))
   simpa [hne] using this
 ·rw[AH.get_add] at hj
  split at hj
  ·cases hj
  ·rename_i hne
   simp only[if_neg hne] at hb
   exact h.gone j hj b hb
 ·show b<(w.alloc x).heap.size
  simp only[World.size_alloc]
  split at hb
  ·omega
  ·have:=h.bound j b hb;omega
 ·split at hb<;> split at hb'
  ·omega
  ·have:=h.bound j' b hb';omega
  ·have:=h.bound j b hb;omega
  ·exact h.disj j j' b hb hb'
 ·rw[AH.get_add] at hj
  split at hj
  ·cases hj;exact hnr cs rfl
  ·rename_i hne
   rw[Env.loc_put,if_neg hne] at hl
   have hlt:=hro j cs l hj hcs hl
   split at hk'
   ·omega
   ·exact h.ro j cs hj hcs l hl k' hk'
theorem Ext.alloc (h:Rel P cfg ρ own H w) (x:Obj) (l:Loc):Ext ρ own w (ρ.put H.next l) (fun j b=> if j=H.next then b=w.heap.size else own j b) (w.alloc x) where
 le:=Env.put_le (h.dom _ (Nat.le_refl _))
 owned:=fun j b hb=> by
  split at hb
  ·exact .inr (by omega)
  ·exact .inl ⟨j,hb⟩
 size:=by simp
 kept:=fun b hb _=> Below.heap_alloc w x b hb
 os:=rfl
 tape:=rfl
 output:=rfl
end
end Go.Abs
namespace Go.Abs
inductive Opd where
 |t (n:Nat)
 |k (v:Value)
 |f (n:FuncId)
 deriving Inhabited
def upd (tm:Nat->Value) (d:Nat) (v:Value):Nat->Value:=fun j=> if j=d then v else tm j
def Opd.ev (tm:Nat->Value):Opd->Value
 |.t n=> tm n
 |.k v=> v
 |.f n=> .func (.func n) #[] #[]
inductive Sh where
 |bool|int|str|ptr|slc|mp|fnc
 |st (fs:List (Nat × Nat × Bool × Sh))
 |ar (n sz:Nat) (ag:Bool) (s:Sh)
 deriving Inhabited
def zFe (ag:Bool) (off sz:Nat) (cs:List Value):Option Value:=
 if ag then some (.agg ((cs.drop off).take sz).toArray) else cs[off]?
def zF6:Value->Value->Option Bool
 |.bool a,.bool b=> some (a==b)
 |_,_=> none
def zGw:Value->Value->Option Bool
 |.int k a,.int k' b=> if k=k' then some (a==b) else none
 |_,_=> none
def zIf:Value->Value->Option Bool
 |.string a,.string b=> some (a.toList==b.toList)
 |_,_=> none
def zHm:Value->Value->Option Bool
 |.pointer none,.pointer b=> some b.isNone
 |.pointer (some _),.pointer none=> some false
 |_,_=> none
def zHl:Value->Value->Option Bool
 |.slice none _ _,.slice none _ _=> some true
 |.slice none _ _,.slice (some _) n c=> if 0<n∨3<=c then some false else none
 |.slice (some _) n c,.slice none _ _=> if 0<n∨3<=c then some false else none
 |_,_=> none
def zJn:Value->Value->Option Bool
 |.map none,.map b=> some b.isNone
 |.map (some _),.map none=> some false
 |_,_=> none
def zIg:Value->Value->Option Bool
 |.nilFunc,.nilFunc=> some true
 |.nilFunc,.func .. => some false
 |.func ..,.nilFunc=> some false
 |_,_=> none
def zCg:Value->Value->Option (List Value × List Value)
 |.agg xs,.agg ys=> some (xs.toList,ys.toList)
 |_,_=> none
mutual
def aeq (s:Sh) (x y:Value):Option Bool:=
 match s with
 |.bool=> zF6 x y
 |.int=> zGw x y
 |.str=> zIf x y
 |.ptr=> zHm x y
 |.slc=> zHl x y
 |.mp=> zJn x y
 |.fnc=> zIg x y
 |.st fs=> match zCg x y with
  |some (xs,ys)=> zHf fs xs ys
  |none=> none
 |.ar n sz ag s=> match zCg x y with
  |some (xs,ys)=> zVf n sz ag s 0 xs ys
  |none=> none
def zHf:List (Nat × Nat × Bool × Sh)->List Value->List Value->Option Bool
 |[],_,_=> some true
 |(off,sz,ag,s)::fs,xs,ys=>
  match zFe ag off sz xs,zFe ag off sz ys with
  |some x,some y=> match aeq s x y with
   |some true=> zHf fs xs ys
   |some false=> some false
   |none=> none
  |_,_=> none
def zVf (n sz:Nat) (ag:Bool) (s:Sh) (i:Nat) (xs ys:List Value):Option Bool:=
 match n with
 |0=> some true
 |n+1=>
  match zFe ag (i*sz) sz xs,zFe ag (i*sz) sz ys with
  |some x,some y=> match aeq s x y with
   |some true=> zVf n sz ag s (i+1) xs ys
   |some false=> some false
   |none=> none
  |_,_=> none
end
def zBl (op:BinOp) (x y:Value):Option Value:=
 match x,y with
 |.int k a,.int k' b=>
  match op with
  |.shl=> if b<0 then none else some (.int k (k.wrap (a*2 ^ min b.toNat k.bits)))
  |.shr=> if b<0 then none else some (.int k (a.fdiv (2 ^ min b.toNat k.bits)))
  |op=> if k≠k' then none else
   match op with
   |.add=> some (.int k (k.wrap (a+b)))
   |.sub=> some (.int k (k.wrap (a - b)))
   |.mul=> some (.int k (k.wrap (a*b)))
   |.quo=> if b=0 then none else some (.int k (k.wrap (a.tdiv b)))
   |.rem=> if b=0 then none else some (.int k (a.tmod b))
   |.and=> some (.int k (k.wrap (BitVec.ofInt k.bits a &&& BitVec.ofInt k.bits b).toNat))
   |.or=> some (.int k (k.wrap (BitVec.ofInt k.bits a|||BitVec.ofInt k.bits b).toNat))
   |.xor=> some (.int k (k.wrap (BitVec.ofInt k.bits a ^^^ BitVec.ofInt k.bits b).toNat))
   |.andNot=> some (.int k (k.wrap (BitVec.ofInt k.bits a &&& ~~~BitVec.ofInt k.bits b).toNat))
   |.eql=> some (.bool (a==b))
   |.neq=> some (.bool (a !=b))
   |.lss=> some (.bool (a<b))
   |.leq=> some (.bool (a<=b))
   |.gtr=> some (.bool (a > b))
   |.geq=> some (.bool (a≥b))
   |_=> none
 |.float k a,.float k' b=> if k≠k' then none else
  match op with
  |.eql=> some (.bool (k.format.order a b==some .eq))
  |.neq=> some (.bool (k.format.order a b !=some .eq))
  |.lss=> some (.bool (k.format.order a b==some .lt))
  |.leq=> some (.bool (k.format.order a b==some .lt||k.format.order a b==some .eq))
  |.gtr=> some (.bool (k.format.order a b==some .gt))
  |.geq=> some (.bool (k.format.order a b==some .gt||k.format.order a b==some .eq))
  |_=> none
 |.string a,.string b=>
  match op with
  |.add=> if a.size+b.size<=9223372036854775807 then some (.string (a++b)) else none
  |.eql=> some (.bool (a.toList==b.toList))
  |.neq=> some (.bool !(a.toList==b.toList))
  |.lss=> some (.bool (Op.bytesLess a.toList b.toList))
  |.leq=> some (.bool (Op.bytesLess a.toList b.toList||a.toList==b.toList))
  |.gtr=> some (.bool !(Op.bytesLess a.toList b.toList||a.toList==b.toList))
  |.geq=> some (.bool !Op.bytesLess a.toList b.toList)
  |_=> none
 |_,_=> none
def aun (op:UnOp) (x:Value):Option Value:=
 match op,x with
 |.neg,.int k n=> some (.int k (k.wrap (0 - n)))
 |.xor,.int k n=> some (.int k (k.wrap (BitVec.ofInt k.bits (if k.signed then -1 else k.max) ^^^ BitVec.ofInt k.bits n).toNat))
 |.not,.bool b=> some (.bool !b)
 |.neg,.float k b=> some (.float k (Op.negFloat k b))
 |_,_=> none
inductive AConv where
 |int (k:IntKind)
 |same
 |str (e:TypeId)
 |bytes (e:TypeId)
 deriving Inhabited
inductive AOp where
 |mv (x:Opd)
 |pick (c a b:Opd)
 |alloc (e:TypeId) (z:List Value)
 |box (e:TypeId) (x:Opd)
 |build (z:List Value) (ps:List (Nat × Nat × Opd))
 |bslice (e:TypeId) (z:List Value) (n:Nat) (ps:List (Nat × Nat × Opd))
 |load (a:Opd)
 |loadN (n:Nat) (a:Opd)
 |store (n:Nat) (a x:Opd)
 |nilchk (x:Opd)
 |bin (op:BinOp) (x y:Opd)
 |eq (neg:Bool) (s:Sh) (x y:Opd)
 |un (op:UnOp) (x:Opd)
 |conv (c:AConv) (x:Opd)
 |mkfunc (f:FuncId) (first cap:List Opd)
 |mkiface (t:TypeId) (x:Opd)
 |mkmap
 |mkslice (e:TypeId) (z:List Value) (bytes:Nat) (l c:Opd)
 |slice (sz:Nat) (x:Opd) (lo hi mx:Option Opd)
 |sliceS (x:Opd) (lo hi:Option Opd)
 |faddr (off:Nat) (x:Opd)
 |field (ag:Bool) (off sz:Nat) (x:Opd)
 |iaddrS (sz:Nat) (x i:Opd)
 |iaddrA (n sz:Nat) (x i:Opd)
 |indexA (n sz:Nat) (ag:Bool) (x i:Opd)
 |indexS (x i:Opd)
 |lookup (s:Bool) (z:Value) (ok:Bool) (m k:Opd)
 |mapupd (s:Bool) (m k v:Opd)
 |extract (x:Opd) (i:Nat)
 |append (e:TypeId) (sz bytes:Nat) (s x:Opd)
 |lenS (x:Opd)
 |lenT (x:Opd)
 |lenM (x:Opd)
 |lenK (n:Nat)
 |delete (s:Bool) (m k:Opd)
 |clearM (m:Opd)
 |max (x y:Opd)
 |min (x y:Opd)
 |frombits (x:Opd)
 |tobits (x:Opd)
 |mrange (x:Opd)
 |mentry (x:Opd)
 |srange (x:Opd)
 |snext (x:Opd)
 |tostr (x:Opd)
 |tassert (t:TypeId) (z:Value) (x:Opd)
 |ifnil (neg:Bool) (x:Opd)
 |appendT (e:TypeId) (s x:Opd)
 |sliceA (n sz:Nat) (x:Opd) (lo hi:Option Opd)
 |sdata (x:Opd)
 |ustr (e:TypeId) (x n:Opd)
 deriving Inhabited
section
variable {D:Type}
def AH.row (H:AH D) (k:Nat):Option (List Value):=
 match H.get k with
 |some (.arr _ cs)=> some cs
 |some (.ro cs)=> some cs
 |_=> none
def AH.many (H:AH D) (k o n:Nat):Option (List Value):=
 match H.row k with
 |some cs=> if o+n<=cs.length then some ((cs.drop o).take n) else none
 |none=> none
def setMany (cs:List Value) (o:Nat):List Value->List Value
 |[]=> cs
 |v::l=> setMany (cs.set o v) (o+1) l
def zEu (cells:List Value):List (Nat × Nat × Value)->Option (List Value)
 |[]=> some cells
 |(off,size,v)::rest=>
  if v.cells.size≠size||off+v.cells.size > cells.length then none
  else zEu (setMany cells off v.cells.toList) rest
def zIa (s:Bool):Value->Value->Option Bool
 |.int k a,.int k' b=> if s then none else if k=k' then some (a==b) else none
 |.string a,.string b=> if s then some (a==b) else none
 |_,_=> none
def zB7 (s:Bool) (k:Value):List MapEntry->Option (Option Value)
 |[]=> some none
 |e::es=> match zIa s k e.key with
  |some true=> some (some e.val)
  |some false=> zB7 s k es
  |none=> none
def zGn (s:Bool) (k v:Value) (clock:Nat):List MapEntry->Option (List MapEntry × Nat)
 |[]=> some ([⟨k,v,clock⟩],clock+1)
 |e::es=> match zIa s k e.key with
  |some true=> some (⟨k,v,e.born⟩::es,clock)
  |some false=> (zGn s k v clock es).map fun r=> (e::r.1,r.2)
  |none=> none
def zHn (s:Bool) (k:Value):List MapEntry->Option (List MapEntry)
 |[]=> some []
 |e::es=> match zIa s k e.key with
  |some true=> some es
  |some false=> (zHn s k es).map (e::·)
  |none=> none
def AH.mapAt (H:AH D) (k:Nat):Option (List MapEntry × Nat):=
 match H.get k with
 |some (.map es c)=> some (es,c)
 |_=> none
def bound (y:Nat):Value->Option Nat
 |.int _ i=> if 0<=i/\i<=y then some i.toNat else none
 |_=> none
def bytesOf?:List Value->Option (List UInt8)
 |[]=> some []
 |.int .u8 n::l=> (bytesOf? l).map (UInt8.ofNat n.toNat::·)
 |_::_=> none
def zCi (s:ByteArray):List Value:=s.data.toList.map fun b=> .int .u8 b.toNat
def exactB?:List Value->Option (List UInt8)
 |[]=> some []
 |.int .u8 n::l=> if 0<=n/\n<256 then (exactB? l).map (UInt8.ofNat n.toNat::·) else none
 |_=> none
def zOz (H:AH D) (sz:Nat):Value->Option (Nat × List Value)
 |.slice none 0 _=> some (0,[])
 |.slice (some ⟨k,o,none⟩) m _=> (H.many k o (m*sz)).map fun l=> (m,l)
 |_=> none
def zKg (z:Value) (ok:Bool) (o:Option Value):Value:=if ok then .tuple #[o.getD z,.bool o.isSome] else o.getD z
def AOp.step (op:AOp) (tm:Nat->Value) (H:AH D):Option (Value × AH D):=
 match op with
 |.mv x=> some (x.ev tm,H)
 |.pick c a b=> match c.ev tm with
  |.bool c=> some (if c then a.ev tm else b.ev tm,H)
  |_=> none
 |.alloc e z=> some (.pointer (some ⟨H.next,0,none⟩),H.add (.arr e z))
 |.box e x=> if (x.ev tm).cells.toList.all (·.oneCell') then some (.pointer (some ⟨H.next,0,none⟩),H.add (.arr e (x.ev tm).cells.toList)) else none
 |.build z ps=> (zEu z (ps.map fun p=> (p.1,p.2.1,p.2.2.ev tm))).map fun l=> (.agg l.toArray,H)
 |.bslice e z n ps=> match zEu z (ps.map fun p=> (p.1,p.2.1,p.2.2.ev tm)) with
  |some l=> if l.all (·.oneCell') then some (.slice (some ⟨H.next,0,none⟩) n 1,H.add (.arr e l)) else none
  |none=> none
 |.load a=> match a.ev tm with
  |.pointer (some ⟨k,o,none⟩)=> match H.row k with
   |some cs=> (cs[o]?).map fun v=> (v,H)
   |none=> none
  |_=> none
 |.loadN n a=> match a.ev tm with
  |.pointer (some ⟨k,o,none⟩)=> (H.many k o n).map fun l=> (.agg l.toArray,H)
  |_=> none
 |.store n a x=> match a.ev tm with
  |.pointer (some ⟨k,o,none⟩)=> match H.get k with
   |some (.arr e cs)=>
    if (x.ev tm).cells.size=n/\o+n<=cs.length/\(x.ev tm).cells.toList.all (·.oneCell') then
     some (undef,H.upd k (.arr e (setMany cs o (x.ev tm).cells.toList)))
    else none
   |_=> none
  |_=> none
 |.nilchk x=> match x.ev tm with
  |.pointer (some a)=> some (.pointer (some a),H)
  |.func (.func f) a b=> some (.func (.func f) a b,H)
  |_=> none
 |.bin op x y=> (zBl op (x.ev tm) (y.ev tm)).map fun v=> (v,H)
 |.eq neg s x y=> (aeq s (x.ev tm) (y.ev tm)).map fun b=> (.bool (if neg then !b else b),H)
 |.un op x=> (aun op (x.ev tm)).map fun v=> (v,H)
 |.conv c x=> match c,x.ev tm with
  |.int k,.int _ n=> some (.int k (k.wrap n),H)
  |.same,.string s=> some (.string s,H)
  |_,_=> none
 |.mkfunc f first cap=> some (.func (.func f) (first.map (·.ev tm)).toArray (cap.map (·.ev tm)).toArray,H)
 |.mkiface t x=> some (.iface t (x.ev tm),H)
 |.mkmap=> some (.map (some H.next),H.add (.map [] 0))
 |.mkslice e z bytes l c=> match l.ev tm,c.ev tm with
  |.int _ l,.int _ c=> if 0<=l/\l<=c/\bytes*c<=140737488355328/\c<=9223372036854775807 then
    some (.slice (some ⟨H.next,0,none⟩) l.toNat 1,H.add (.arr e (List.replicate c.toNat z).flatten))
   else none
  |_,_=> none
 |.slice sz x lo hi mx=> match x.ev tm with
  |.slice a n c=>
   match (match hi with|some h=> bound n (h.ev tm)|none=> some n) with
   |some h=>
    match (match mx with|some m=> bound n (m.ev tm)|none=> some h) with
    |some m=>
     match (match lo with|some l=> bound h (l.ev tm)|none=> some 0) with
     |some l=>
      if h<=m/\(mx.isNone∨hi.isSome) then
       match a with
       |some ⟨k,o,none⟩=>
        some (.slice (some ⟨k,o+l*sz,none⟩) (h - l) (if mx.isSome then m - l+2 else if l=0 then c else 0),H)
       |none=> if n=0/\c=0 then some (.slice none 0 0,H) else none
       |_=> none
      else none
     |none=> none
    |none=> none
   |none=> none
  |_=> none
 |.sliceS x lo hi=> match x.ev tm with
  |.string s=>
   match (match hi with|some h=> bound s.size (h.ev tm)|none=> some s.size) with
   |some h=> match (match lo with|some l=> bound h (l.ev tm)|none=> some 0) with
    |some l=> some (.string (s.extract l h),H)
    |none=> none
   |none=> none
  |_=> none
 |.faddr off x=> match x.ev tm with
  |.pointer (some ⟨k,o,none⟩)=> some (.pointer (some ⟨k,o+off,none⟩),H)
  |_=> none
 |.field ag off sz x=> match x.ev tm with
  |.agg cs=> (zFe ag off sz cs.toList).map fun v=> (v,H)
  |_=> none
 |.iaddrS sz x i=> match x.ev tm,i.ev tm with
  |.slice (some ⟨k,o,none⟩) n _,.int _ i=> if 0<=i/\i<n then some (.pointer (some ⟨k,o+i.toNat*sz,none⟩),H) else none
  |_,_=> none
 |.iaddrA n sz x i=> match x.ev tm,i.ev tm with
  |.pointer (some ⟨k,o,none⟩),.int _ i=> if 0<=i/\i<n then some (.pointer (some ⟨k,o+i.toNat*sz,none⟩),H) else none
  |_,_=> none
 |.indexA n sz ag x i=> match x.ev tm,i.ev tm with
  |.agg cs,.int _ i=> if 0<=i/\i<n then (zFe ag (i.toNat*sz) sz cs.toList).map fun v=> (v,H) else none
  |_,_=> none
 |.indexS x i=> match x.ev tm,i.ev tm with
  |.string s,.int _ i=> if 0<=i then (s.data.toList[i.toNat]?).map fun b=> (.int .u8 b.toNat,H) else none
  |_,_=> none
 |.lookup s z ok m k=> match m.ev tm with
  |.map none=> some (zKg z ok none,H)
  |.map (some r)=> match H.mapAt r with
   |some (es,_)=> (zB7 s (k.ev tm) es).map fun o=> (zKg z ok o,H)
   |none=> none
  |_=> none
 |.mapupd s m k v=> match m.ev tm with
  |.map (some r)=> match H.mapAt r with
   |some (es,c)=> (zGn s (k.ev tm) (v.ev tm) c es).map fun x=> (undef,H.upd r (.map x.1 x.2))
   |none=> none
  |_=> none
 |.extract x i=> match x.ev tm with
  |.tuple vs=> (vs.toList[i]?).map fun v=> (v,H)
  |_=> none
 |.append e sz bytes s x=> match zOz H sz (x.ev tm) with
  |some (m,news)=>
   match s.ev tm with
   |.slice none 0 0=> if m=0 then some (.slice none 0 0,H) else
    if m*bytes<=140737488355328/\m<=9223372036854775807 then some (.slice (some ⟨H.next,0,none⟩) m 1,H.add (.arr e news)) else none
   |.slice (some ⟨k,0,none⟩) n 1=> match H.get k with
    |some (.arr e' cs)=> if e'=e/\n*sz<=cs.length/\(n+m)*bytes<=140737488355328/\n+m<=9223372036854775807 then
      some (.slice (some ⟨H.next,0,none⟩) (n+m) 1,(H.del k).add (.arr e (cs.take (n*sz)++news)))
     else none
    |_=> none
   |.slice (some ⟨k,o,none⟩) n (c+2)=>
    if m=0 then (if n<=c then some (.slice (some ⟨k,o,none⟩) n (c+2),H) else none)
    else if (0<n∨c=0)/\c<n+m/\(n+m)*bytes<=140737488355328/\n+m<=9223372036854775807 then
     match H.many k o (n*sz) with
     |some olds=> some (.slice (some ⟨H.next,0,none⟩) (n+m) 1,H.add (.arr e (olds++news)))
     |none=> none
    else none
   |_=> none
  |none=> none
 |.lenS x=> match x.ev tm with
  |.slice _ n _=> some (.int .i64 n,H)
  |_=> none
 |.lenT x=> match x.ev tm with
  |.string s=> some (.int .i64 s.size,H)
  |_=> none
 |.lenM x=> match x.ev tm with
  |.map none=> some (.int .i64 0,H)
  |.map (some r)=> match H.mapAt r with
   |some (es,_)=> some (.int .i64 es.length,H)
   |none=> none
  |_=> none
 |.lenK n=> some (.int .i64 n,H)
 |.delete s m k=> match m.ev tm with
  |.map (some r)=> match H.mapAt r with
   |some (es,c)=> (zHn s (k.ev tm) es).map fun l=> (.tuple #[],H.upd r (.map l c))
   |none=> none
  |_=> none
 |.clearM m=> match m.ev tm with
  |.map none=> some (.tuple #[],H)
  |.map (some r)=> match H.mapAt r with
   |some (_,c)=> some (.tuple #[],H.upd r (.map [] c))
   |none=> none
  |_=> none
 |.max x y=> match x.ev tm,y.ev tm with
  |.int k a,.int _ b=> some (.int k (if b > a then b else a),H)
  |_,_=> none
 |.min x y=> match x.ev tm,y.ev tm with
  |.int k a,.int _ b=> some (.int k (if b<a then b else a),H)
  |_,_=> none
 |.frombits x=> match x.ev tm with
  |.int .u64 n=> some (.float .f64 n.toNat,H)
  |_=> none
 |.tobits x=> match x.ev tm with
  |.float .f64 n=> some (.int .u64 n,H)
  |_=> none
 |.mrange x=> match x.ev tm with
  |.map (some r)=> match H.mapAt r with
   |some (_,c)=> some (.pointer (some ⟨H.next,0,none⟩),H.add (.miter r c [] c))
   |none=> none
  |_=> none
 |.mentry x=> match x.ev tm with
  |.pointer (some ⟨k,0,none⟩)=> match H.get k with
   |some (.miter m _ seen stepped)=> match H.mapAt m,seen.getLast? with
    |some (es,c),some b=> if c=stepped then (es.find? (·.born==b)).map fun e=> (.tuple #[e.key,e.val],H) else none
    |_,_=> none
   |_=> none
  |_=> none
 |.srange x=> match x.ev tm with
  |.string s=> some (.pointer (some ⟨H.next,0,none⟩),H.add (.siter s 0))
  |_=> none
 |.snext x=> match x.ev tm with
  |.pointer (some ⟨k,0,none⟩)=> match H.get k with
   |some (.siter s pos)=> if pos<s.size then some (.tuple #[.bool true,.int .i64 pos,.int .i32 (Utf8.decode s pos).1],H.upd k (.siter s (pos+(Utf8.decode s pos).2)))
    else some (.tuple #[.bool false],H)
   |_=> none
  |_=> none
 |.tostr x=> match x.ev tm with
  |.slice none _ _=> some (.string ByteArray.empty,H)
  |.slice (some ⟨k,o,none⟩) n _=> match H.many k o n with
   |some cs=> (bytesOf? cs).map fun bs=> (.string ⟨bs.toArray⟩,H)
   |none=> none
  |_=> none
 |.tassert t z x=> match x.ev tm with
  |.nilIface=> some (.tuple #[z,.bool false],H)
  |.iface t' v=> if t'=t then some (.tuple #[v,.bool true],H) else some (.tuple #[z,.bool false],H)
  |_=> none
 |.ifnil neg x=> match x.ev tm with
  |.nilIface=> some (.bool (!neg),H)
  |.iface _ _=> some (.bool neg,H)
  |_=> none
 |.appendT e s x=> match x.ev tm with
  |.string t=>
   match s.ev tm with
   |.slice none 0 0=> if t.size=0 then some (.slice none 0 0,H) else
    if t.size<=140737488355328 then some (.slice (some ⟨H.next,0,none⟩) t.size 1,H.add (.arr e (zCi t))) else none
   |.slice (some ⟨k,0,none⟩) n 1=> match H.get k with
    |some (.arr e' cs)=> if e'=e/\n<=cs.length/\n+t.size<=140737488355328 then
      some (.slice (some ⟨H.next,0,none⟩) (n+t.size) 1,(H.del k).add (.arr e (cs.take n++zCi t)))
     else none
    |_=> none
   |_=> none
  |_=> none
 |.sliceA n sz x lo hi=> match x.ev tm with
  |.pointer (some ⟨k,o,none⟩)=>
   match (match hi with|some h=> bound n (h.ev tm)|none=> some n) with
   |some h=>
    match (match lo with|some l=> bound h (l.ev tm)|none=> some 0) with
    |some l=> some (.slice (some ⟨k,o+l*sz,none⟩) (h - l) (n - l+2),H)
    |none=> none
   |none=> none
  |_=> none
 |.sdata x=> match x.ev tm with
  |.slice none _ _=> some (.pointer none,H)
  |.slice (some ⟨k,o,none⟩) n _=> if 0<n then some (.pointer (some ⟨k,o,none⟩),H) else none
  |_=> none
 |.ustr e x m=> match x.ev tm,m.ev tm with
  |.pointer none,.int .i64 m=> if m=0 then some (.string ByteArray.empty,H) else none
  |.pointer (some ⟨k,0,none⟩),.int .i64 m=> match H.get k with
   |some (.arr e' cs)=> if e'=e/\0<m/\m<=cs.length/\m<=9223372036854775807 then (exactB? (cs.take m.toNat)).map fun bs=> (.string ⟨bs.toArray⟩,H.del k) else none
   |_=> none
  |_,_=> none
end
end Go.Abs
namespace Go.Abs
inductive Ext1 where
 |frombits|tobits
 deriving DecidableEq
def Ext1.sem:Ext1->Array Value->Sem Value
 |.frombits=> Extern.MathFloatBits.float64frombits
 |.tobits=> Extern.MathFloatBits.float64bits
def jF (n:Nat):Operand->Option Opd
 |.tmp t=> if t<n then some (.t t) else none
 |.const v=> if xY v then some (.k v) else none
 |.func f=> some (.f f)
 |.global _=> none
def zGo (n:Nat):List Operand->Option (List Opd)
 |[]=> some []
 |x::l=> (jF n x).bind fun y=> (zGo n l).map (y::·)
section
variable (P:Program)
def zBk (t:TypeId):Option Nat:=(P.info? t).map (·.size)
def zFx (t:TypeId):Option Bool:=(P.underlying t).map fun
 |.struct _|.array _ _=> true
 |_=> false
def zCz (t:TypeId):Option Value:=(P.info? t).bind fun i=> i.zero.bind fun z=>
 if xY z/\z.cells.toList.all (·.oneCell')/\z.cells.size=i.size then some z else none
def zPw (g:TypeId->Option Sh):List Field->Option (List (Nat × Nat × Bool × Sh))
 |[]=> some []
 |f::fs=>
  if f.name = "_" then zPw g fs
  else (g f.type).bind fun s=> (zBk P f.type).bind fun z=> (zFx P f.type).bind fun ag=> (zPw g fs).map fun r=> (f.offset,z,ag,s)::r
def zHz:Nat->TypeId->Option Sh
 |0,_=> none
 |d+1,t=>
  match P.underlying t with
  |some .bool=> some .bool
  |some (.int _)=> some .int
  |some .string=> some .str
  |some (.pointer _)=> some .ptr
  |some (.slice _)=> some .slc
  |some (.map _ _)=> some .mp
  |some (.func _ _ _)=> some .fnc
  |some (.struct fs)=> if P.stoodInHeld t then none else (zPw P (zHz d) fs.toList).map .st
  |some (.array n e)=> (zHz d e).bind fun s=> (zBk P e).bind fun z=> (zFx P e).map fun g=> .ar n z g s
  |_=> none
def zE6 (n:Nat) (place:Nat->Option (Nat × Nat)):List (Nat × Operand)->Option (List (Nat × Nat × Opd))
 |[]=> some []
 |(i,x)::l=> (place i).bind fun p=> (jF n x).bind fun y=> (zE6 n place l).map fun r=> (p.1,p.2,y)::r
def zGb:List Field->Option (List (Nat × Nat))
 |[]=> some []
 |f::fs=> (zBk P f.type).bind fun z=> (zGb fs).map fun r=> (f.offset,z)::r
def zG9 (t:TypeId):Option Bool:=match P.underlying t with
 |some (.int _)=> some false
 |some .string=> some true
 |_=> none
def zBr (n:Nat):Option Operand->Option (Option Opd)
 |none=> some none
 |some x=> (jF n x).map some
variable (ext:FuncId->Option Ext1)
def zUk:Option Value->Bool
 |some (.int .u8 n)=> n==0
 |_=> false
def zHc (n:Nat) (c:Call):Option AOp:=
 match c.callee with
 |.value (.func f)=>
  match ext f,c.args.toList with
  |some .frombits,[x]=> (jF n x).map .frombits
  |some .tobits,[x]=> (jF n x).map .tobits
  |_,_=> none
 |.value _=> none
 |.builtin .append=>
  match c.args.toList,c.argTypes.toList with
  |[s,x],[t,t']=> if t=t' then
    match P.underlying t with
    |some (.slice e)=> (P.info? e).bind fun i=> (jF n s).bind fun s=> (jF n x).bind fun x=>
     if 0<i.size/\(zCz P e).isSome then some (.append e i.size i.bytes s x) else none
    |_=> none
   else
    match P.underlying t,P.underlying t' with
    |some (.slice e),some .string=> (P.info? e).bind fun i=> (jF n s).bind fun s=> (jF n x).bind fun x=>
     if i.size=1/\i.bytes=1/\zUk i.zero=true/\(zCz P e).isSome then some (.appendT e s x) else none
    |_,_=> none
  |_,_=> none
 |.builtin .unsafeSliceData=>
  match c.args.toList with
  |[x]=> (jF n x).map .sdata
  |_=> none
 |.builtin .unsafeString=>
  match c.args.toList,c.argTypes.toList with
  |[x,m],[t,_]=>
   match P.underlying t with
   |some (.pointer e)=> (jF n x).bind fun x=> (jF n m).bind fun m=> if P.cellsOf e=1 then some (.ustr e x m) else none
   |_=> none
  |_,_=> none
 |.builtin .len=>
  match c.args.toList,c.argTypes[0]? with
  |[x],some t=> (jF n x).bind fun x=>
   match P.underlying t with
   |some (.slice _)=> some (.lenS x)
   |some .string=> some (.lenT x)
   |some (.map _ _)=> some (.lenM x)
   |some (.array k _)=> some (.lenK k)
   |_=> none
  |_,_=> none
 |.builtin .delete=>
  match c.args.toList,c.argTypes[0]? with
  |[m,k],some t=> (jF n m).bind fun m=> (jF n k).bind fun k=>
   match P.underlying t with
   |some (.map kt _)=> (zG9 P kt).map fun s=> .delete s m k
   |_=> none
  |_,_=> none
 |.builtin .clear=>
  match c.args.toList,c.argTypes[0]? with
  |[m],some t=> (jF n m).bind fun m=>
   match P.underlying t with
   |some (.map _ _)=> some (.clearM m)
   |_=> none
  |_,_=> none
 |.builtin .max=> match c.args.toList with
  |[x,y]=> (jF n x).bind fun x=> (jF n y).map fun y=> .max x y
  |_=> none
 |.builtin .min=> match c.args.toList with
  |[x,y]=> (jF n x).bind fun x=> (jF n y).map fun y=> .min x y
  |_=> none
 |_=> none
def zHt (n:Nat) (o:Oper):Option AOp:=
 match o.op with
 |.move x|.assign x=> (jF n x).map .mv
 |.pick c a b=> (jF n c).bind fun c=> (jF n a).bind fun a=> (jF n b).map fun b=> .pick c a b
 |.alloc e=> (zCz P e).map fun z=> .alloc e z.cells.toList
 |.box e x=> (jF n x).map fun x=> .box e x
 |.build t parts=> (zCz P t).bind fun z=>
  match P.underlying t with
  |some (.struct fs)=> (zGb P fs.toList).bind fun pl=> (zE6 n (fun i=> pl[i]?) parts.toList).map fun ps=> .build z.cells.toList ps
  |some (.array _ e)=> (zBk P e).bind fun s=> (zE6 n (fun i=> some (i*s,s)) parts.toList).map fun ps=> .build z.cells.toList ps
  |_=> none
 |.buildSlice t len parts=>
  match P.underlying t with
  |some (.slice e)=> (zBk P e).bind fun s=> (zCz P e).bind fun z=>
   if len<=16777216/\len*s<=16777216 then
    (zE6 n (fun i=> some (i*s,s)) parts.toList).map fun ps=> .bslice e (List.replicate len z.cells.toList).flatten len ps
   else none
  |_=> none
 |.load t a=> (zFx P t).bind fun g=> (jF n a).bind fun a=> if g then (zBk P t).map fun s=> .loadN s a else some (.load a)
 |.store t a x=> (zBk P t).bind fun s=> (jF n a).bind fun a=> (jF n x).map fun x=> .store s a x
 |.nilCheck x=> (jF n x).map .nilchk
 |.binOp op t x y _=> (jF n x).bind fun x'=> (jF n y).bind fun y'=>
  match P.underlying t with
  |some (.int _)|some (.float _)|some .string=> some (.bin op x' y')
  |some (.interface _)=>
   match op,y' with
   |.eql,.k .nilIface=> some (.ifnil false x')
   |.neq,.k .nilIface=> some (.ifnil true x')
   |_,_=> none
  |some _=>
   match op with
   |.eql=> if P.eqGuardType P.depth t then none else (zHz P 20 t).map fun s=> .eq false s x' y'
   |.neq=> if P.eqGuardType P.depth t then none else (zHz P 20 t).map fun s=> .eq true s x' y'
   |_=> none
  |none=> none
 |.unOp op _ x=> (jF n x).map fun x=> .un op x
 |.convert src dst x=> (jF n x).bind fun x=>
  match P.underlying src,P.underlying dst with
  |some (.int _),some (.int k)=> some (.conv (.int k) x)
  |some .string,some .string=> some (.conv .same x)
  |some (.slice e),some .string=> match P.underlying e with
   |some (.int .u8)=> some (.tostr x)
   |_=> none
  |_,_=> none
 |.makeInterface t x=> match P.underlying t with
  |some (.interface _)=> none
  |some _=> (jF n x).map fun x=> .mkiface t x
  |none=> none
 |.makeFunc (.func f) first cap=> (zGo n first.toList).bind fun a=> (zGo n cap.toList).map fun b=> .mkfunc f a b
 |.makeMap _ none=> some .mkmap
 |.makeSlice t l c=>
  match P.underlying t with
  |some (.slice e)=> (P.info? e).bind fun i=> (zCz P e).bind fun z=> (jF n l).bind fun l=> (jF n c).map fun c=> .mkslice e z.cells.toList i.bytes l c
  |_=> none
 |.slice t x lo hi mx=>
  match P.underlying t with
  |some (.slice e)=> (zBk P e).bind fun s=> (jF n x).bind fun x=> (zBr n lo).bind fun lo=> (zBr n hi).bind fun hi=> (zBr n mx).map fun mx=> .slice s x lo hi mx
  |some .string=> (jF n x).bind fun x=> (zBr n lo).bind fun lo=> (zBr n hi).bind fun hi=> if mx.isSome then none else some (.sliceS x lo hi)
  |some (.pointer ar)=>
   match P.underlying ar with
   |some (.array k e)=> (zBk P e).bind fun s=> (jF n x).bind fun x=> (zBr n lo).bind fun lo=> (zBr n hi).bind fun hi=> if mx.isSome then none else some (.sliceA k s x lo hi)
   |_=> none
  |some (.array k e)=> (zBk P e).bind fun s=> (jF n x).bind fun x=> (zBr n lo).bind fun lo=> (zBr n hi).bind fun hi=> if mx.isSome then none else some (.sliceA k s x lo hi)
  |_=> none
 |.fieldAddr s x f=> match P.underlying s with
  |some (.struct fs)=> (fs[f]?).bind fun f=> (zBk P f.type).bind fun z=> if z=0 then none else (jF n x).map fun x=> .faddr f.offset x
  |_=> none
 |.field t x f=> match P.underlying t with
  |some (.struct fs)=> (fs[f]?).bind fun f=> (zBk P f.type).bind fun z=> (zFx P f.type).bind fun g=> (jF n x).map fun x=> .field g f.offset z x
  |_=> none
 |.indexAddr t x i=> (jF n x).bind fun x=> (jF n i).bind fun i=>
  match P.underlying t with
  |some (.slice e)=> (zBk P e).map fun s=> .iaddrS s x i
  |some (.array k e)=> (zBk P e).map fun s=> .iaddrA k s x i
  |_=> none
 |.index t x i=> (jF n x).bind fun x=> (jF n i).bind fun i=>
  match P.underlying t with
  |some (.array k e)=> (zBk P e).bind fun s=> (zFx P e).map fun g=> .indexA k s g x i
  |some .string=> some (.indexS x i)
  |_=> none
 |.lookup t m k ok=> (jF n m).bind fun m=> (jF n k).bind fun k=>
  match P.underlying t with
  |some (.map kt e)=> (zG9 P kt).bind fun s=> (zCz P e).map fun z=> .lookup s z ok m k
  |_=> none
 |.mapUpdate t m k v|.insert t m k v=> (jF n m).bind fun m=> (jF n k).bind fun k=> (jF n v).bind fun v=>
  match P.underlying t with
  |some (.map kt _)=> (zG9 P kt).map fun s=> .mapupd s m k v
  |_=> none
 |.extract x i=> (jF n x).map fun x=> .extract x i
 |.range t x=> (jF n x).bind fun x=> match P.underlying t with
  |some (.map _ _)=> some (.mrange x)
  |some .string=> some (.srange x)
  |_=> none
 |.next x true=> (jF n x).map .snext
 |.entry x=> (jF n x).map .mentry
 |.typeAssert x _ t true=> match P.underlying t with
  |some (.interface _)=> none
  |some _=> (jF n x).bind fun x=> (zCz P t).map fun z=> .tassert t z x
  |none=> none
 |.call c=> zHc P ext n c
 |_=> none
end
def xN (ρ:Env) (n:Nat) (tm:Nat->Value) (tmps:Array Value):Prop:=tmps.size=n/\∀t,t<n->VR ρ (tm t) (tmps.getD t undef)
theorem xN.mono {ρ ρ':Env} {n:Nat} {tm:Nat->Value} {tmps:Array Value} (h:xN ρ n tm tmps) (hle:ρ.le ρ'):xN ρ' n tm tmps:=
 ⟨h.1,fun t ht=> (h.2 t ht).mono hle⟩
theorem xN.put {ρ:Env} {n:Nat} {tm:Nat->Value} {tmps:Array Value} (h:xN ρ n tm tmps) {d:Nat} {v v':Value} (hv:VR ρ v v'):
  xN ρ n (upd tm d v) (tmps.setIfInBounds d v'):=by
 refine⟨by simp[h.1],fun t ht=> ?_⟩
 unfold upd
 split
 ·rename_i e;subst e
  have hs:t<tmps.size:=by rw[h.1];exact ht
  simpa [hs] using hv
 ·rename_i hne
  have:=h.2 t ht
  simpa [Array.getElem?_setIfInBounds_ne (Ne.symm hne)] using this
theorem jR {ρ:Env} {n:Nat} {tm:Nat->Value} {a:Act} (htm:xN ρ n tm a.tmps) {x:Operand} {y:Opd} (h:jF n x=some y):VR ρ (y.ev tm) (a.eval x):=by
 cases x with
 |tmp t=>
  simp only[jF] at h
  split at h
  ·rename_i ht;cases h;exact htm.2 t ht
  ·cases h
 |const v=>
  simp only[jF] at h
  split at h
  ·rename_i hg;cases h;exact VR.of_ground ρ v hg
  ·cases h
 |func f=> simp only[jF] at h;cases h;exact .func f _ _ _ _ .nil .nil
 |global g=> simp[jF] at h
theorem zMu {ρ:Env} {n:Nat} {tm:Nat->Value} {a:Act} (htm:xN ρ n tm a.tmps):∀{l:List Operand} {ys:List Opd},zGo n l=some ys->
  VRs ρ (ys.map (·.ev tm)) (l.map a.eval)
 |[],ys,h=> by simp[zGo] at h;subst h;exact .nil
 |x::l,ys,h=> by
  simp only[zGo,Option.bind_eq_some_iff,Option.map_eq_some_iff] at h
  obtain⟨y,hy,r,hr,rfl⟩:=h
  exact .cons _ _ _ _ (jR htm hy) (zMu htm hr)
end Go.Abs
namespace Go.Abs
open Go.RowKit
section
variable {D:Type} {P:Program} {cfg:D->HRep} {ρ:Env} {own:Nat->Nat->Prop} {H:AH D} {w:World}
def jC (P:Program) (cfg:D->HRep) (ρ:Env) (own:Nat->Nat->Prop) (w:World) (r:Result Next) (v:Value) (H':AH D):Prop:=
 ∃v' w' ρ' own',(r=.ok (.value v') w'∨(r=.ok .skip w'/\v'=undef))/\Ext ρ own w ρ' own' w'/\VR ρ' v v'/\Rel P cfg ρ' own' H' w'
theorem jC.pure (hr:Rel P cfg ρ own H w) {r:Result Next} {v v':Value} (h:r=.ok (.value v') w) (hv:VR ρ v v'):jC P cfg ρ own w r v H:=
 ⟨v',w,ρ,own,.inl h,Ext.refl _ _ _,hv,hr⟩
theorem jG {t:TypeId} {d:TypeDesc} (h:P.underlying t=some d) (w:World):(underlying t).run P w=.ok d w:=run_underlying h w
theorem zMm {t:TypeId} {n:Nat} (h:zBk P t=some n):∃i,P.info? t=some i/\i.size=n:=by
 simpa [zBk,Option.map_eq_some_iff] using h
theorem zBp {t:TypeId} {n:Nat} (h:zBk P t=some n) (w:World):(sizeOf t).run P w=.ok n w:=by
 obtain⟨i,hi,rfl⟩:=zMm h
 simp[sizeOf,typeInfo,hi]
theorem zIh {t:TypeId} {n:Nat} (h:zBk P t=some n):P.cellsOf t=n:=by
 obtain⟨i,hi,rfl⟩:=zMm h
 simp[Program.cellsOf,hi]
theorem zHe {t:TypeId} {g:Bool} (h:zFx P t=some g) (w:World):(isAgg t).run P w=.ok g w:=by
 simp only[zFx,Option.map_eq_some_iff] at h
 obtain⟨d,hd,hg⟩:=h
 unfold isAgg
 rw[Sem.run_bind,jG hd]
 subst hg
 cases d<;> rfl
theorem zF9 {t:TypeId} {z:Value} (h:zCz P t=some z) (w:World):(zeroValue t).run P w=.ok z w/\xY z=true/\z.cells.toList.all (·.oneCell')=true/\zBk P t=some z.cells.size:=by
 simp only[zCz,Option.bind_eq_some_iff] at h
 obtain⟨i,hi,z',hz,hc⟩:=h
 split at hc
 ·rename_i hcc
  cases hc
  refine⟨by simp[zeroValue,typeInfo,hi,hz],hcc.1,hcc.2.1,by simp[zBk,hi,hcc.2.2]⟩
 ·cases hc
theorem VR.cells {v v':Value} (h:VR ρ v v'):VRs ρ v.cells.toList v'.cells.toList:=by
 have one:∀{a b:Value},VR ρ a b->VRs ρ [a] [b]:=fun h=> .cons _ _ _ _ h .nil
 cases h
 case junk c h1=>
  have e:v'.cells=#[v']:=by cases v'<;> first|rfl|cases h1
  rw[e];exact one (.junk c v' h1)
 all_goals first|assumption|(simp only[Value.cells];exact one (by constructor<;> assumption))
theorem VR.cells_size {v v':Value} (h:VR ρ v v'):v.cells.size=v'.cells.size:=by
 have:=h.cells.length;simpa using this
theorem VR.oneCell {v v':Value} (h:VR ρ v v'):v.oneCell'=v'.oneCell':=by
 cases h
 case junk c h1=> exact h1.symm
 all_goals rfl
theorem VRs.oneCells:∀{l l':List Value},VRs ρ l l'->l.all (·.oneCell')=l'.all (·.oneCell')
 |_,_,.nil=> rfl
 |_,_,.cons _ _ _ _ h1 h2=> by simp[VR.oneCell h1,VRs.oneCells h2]
theorem Rel.row (hr:Rel P cfg ρ own H w) {k:Nat} {cs:List Value} (hk:H.row k=some cs) (hne:cs≠[]):
  ∃l cs',ρ.loc k=some l/\VRs ρ cs cs'/\cs.all (·.oneCell')=true/\∀i v',cs'[i]?=some v'->w.cell? ⟨l.b,l.base+i,none⟩=some v':=by
 unfold AH.row at hk
 split at hk
 ·rename_i e cs0 hg
  cases hk
  rcases hr.obj k _ hg with ⟨l,cs',h1,h2,h3,h4,h5,h6,h7,h8,h9⟩|hx
  case inr=> exact absurd hx.1 hne
  refine⟨l,_,h1,h8,h9,fun i v' hi=> ?_⟩
  rw[h2,Nat.zero_add,cell_of_row w l.b i cs' e (0,0) h6]
  rw[List.getElem?_take] at hi
  split at hi
  ·simpa using hi
  ·cases hi
 ·rename_i cs0 hg
  cases hk
  obtain⟨l,cs',e,fr,h1,h3,h4,h5,h6⟩:=(hr.obj k _ hg).2 hne
  refine⟨l,_,h1,h5,h6,fun i v' hi=> ?_⟩
  rw[cell_of_row w l.b _ cs' e fr h3]
  rw[List.getElem?_take] at hi
  split at hi
  ·simpa [List.getElem?_drop] using hi
  ·cases hi
 ·cases hk
theorem AH.many_length {H:AH D} {k o n:Nat} {cs:List Value} (hk:H.many k o n=some cs):cs.length=n:=by
 unfold AH.many at hk
 split at hk
 ·split at hk
  ·cases hk;simp;omega
  ·cases hk
 ·cases hk
theorem Rel.many (hr:Rel P cfg ρ own H w) {k o n:Nat} {cs:List Value} (hk:H.many k o n=some cs) (hne:cs≠[]):
  ∃l cs',ρ.loc k=some l/\VRs ρ cs cs'/\cs.length=n/\cs.all (·.oneCell')=true/\∀i v',cs'[i]?=some v'->w.cell? ((⟨l.b,l.base+o,none⟩:Addr).add i)=some v':=by
 unfold AH.many at hk
 split at hk
 ·rename_i all hall
  split at hk
  ·rename_i hle
   cases hk
   obtain⟨l,cs',h1,h2,h3,h4⟩:=hr.row hall (fun e=> hne (by rw[e];simp))
   refine⟨l,_,h1,(h2.drop o).take n,by simp;omega,?_,fun i v' hi=> ?_⟩
   ·rw[List.all_eq_true] at h3⊢
    exact fun x hx=> h3 x (List.mem_of_mem_drop (List.mem_of_mem_take hx))
   ·rw[Addr.add_lit,Nat.add_assoc]
    rw[List.getElem?_take] at hi
    split at hi
    ·rw[List.getElem?_drop] at hi;exact h4 _ _ hi
    ·cases hi
  ·cases hk
 ·cases hk
theorem zH9:∀(l cs:List Value) (o:Nat),o+l.length<=cs.length->setMany cs o l=cs.take o++l++cs.drop (o+l.length)
 |[],cs,o,_=> by simp[setMany]
 |v::l,cs,o,h=> by
  simp only[List.length_cons] at h
  rw[setMany,zH9 l _ _ (by simp;omega)]
  have:=list_seg_step cs o v l (by omega)
  rw[show o+1+l.length=o+1+l.length from rfl] at this
  simpa using this
theorem VRs.setMany {l l':List Value} (h:VRs ρ l l'):∀{cs cs':List Value} (_:VRs ρ cs cs') (o:Nat),VRs ρ (Abs.setMany cs o l) (Abs.setMany cs' o l'):=by
 induction l generalizing l' with
 |nil=> cases h;intro cs cs' hc o;exact hc
 |cons v l ih=>
  cases h with
  |cons _ v' _ l'' h1 h2=> intro cs cs' hc o;exact ih h2 (hc.set o h1) (o+1)
theorem zEe:∀(l cs:List Value) (o:Nat),(setMany cs o l).length=cs.length
 |[],_,_=> rfl
 |_::l,_,_=> by simp[setMany,zEe l]
theorem zE5:∀(l cs:List Value) (o:Nat),l.all (·.oneCell')=true->cs.all (·.oneCell')=true->(setMany cs o l).all (·.oneCell')=true
 |[],_,_,_,h=> h
 |v::l,cs,o,h,hc=> by
  simp only[List.all_cons,Bool.and_eq_true] at h
  refine zE5 l _ _ h.2 ?_
  rw[List.all_eq_true] at hc⊢
  intro x hx
  rcases List.mem_or_eq_of_mem_set hx with hx|rfl
  ·exact hc x hx
  ·exact h.1
theorem zTq (l cs:List Value) (o n:Nat) (h:o+l.length<=n) (hn:n<=cs.length):(setMany cs o l).take n=setMany (cs.take n) o l:=by
 rw[zH9 l cs o (by omega),zH9 l (cs.take n) o (by simp;omega)]
 rw[List.take_take,Nat.min_eq_left (by omega),List.drop_take]
 rw[List.take_append,List.take_append]
 simp only[List.length_append,List.length_take]
 rw[List.take_of_length_le (l:=cs.take o) (by simp;omega),List.take_of_length_le (l:=l) (by omega)]
 congr 2
 omega
theorem zIl {ag:Bool} {off sz:Nat} {t:TypeId} (hs:zBk P t=some sz) (hg:zFx P t=some ag) {xs xs':Array Value} (h:VRs ρ xs.toList xs'.toList) {v:Value}
  (hp:zFe ag off sz xs.toList=some v) (w:World):∃v',(part t xs' off).run P w=.ok v' w/\VR ρ v v':=by
 unfold zFe at hp
 unfold part
 rw[Sem.run_bind,zHe hg]
 split at hp
 ·rename_i ht
  cases hp
  refine⟨.agg (xs'.extract off (off+sz)),by simp[ht,zBp hs],.agg _ _ ?_⟩
  have:=(h.drop off).take sz
  simpa [List.extract_eq_take_drop] using this
 ·rename_i hf
  obtain⟨v',hv',hr⟩:=h.get hp
  have:xs'[off]?=some v':=by simpa using hv'
  exact⟨v',by simp[hf,this],hr⟩
def zQl (P:Program) (d:Nat):Prop:=∀(t:TypeId) (s:Sh),zHz P d t=some s->∀(ρ:Env) (x y x' y':Value) (b:Bool),aeq s x y=some b->VR ρ x x'->VR ρ y y'->
    ∀(w:World) (k:Nat),d<=k->(Op.equalIn k t x' y').run P w=.ok b w
theorem zLz {d:Nat} (ih:zQl P d):∀(fs:List Field) (rs:List (Nat × Nat × Bool × Sh)),zPw P (zHz P d) fs=some rs->∀(ρ:Env) (xs ys xs' ys':Array Value) (b:Bool),
  zHf rs xs.toList ys.toList=some b->VRs ρ xs.toList xs'.toList->VRs ρ ys.toList ys'.toList->∀(w:World) (k:Nat),d<=k->(Op.eqFields k xs' ys' fs).run P w=.ok b w
 |[],rs,h,ρ,xs,ys,xs',ys',b,hb,hx,hy,w,k,hk=> by
  simp[zPw] at h;subst h
  simp[zHf] at hb;subst hb
  simp[Op.eqFields]
 |f::fs,rs,h,ρ,xs,ys,xs',ys',b,hb,hx,hy,w,k,hk=> by
  unfold zPw at h
  split at h
  ·rename_i hn
   simp only[Op.eqFields,hn,ne_eq,not_true_eq_false,if_false]
   exact zLz ih fs rs h ρ xs ys xs' ys' b hb hx hy w k hk
  ·rename_i hn
   simp only[Option.bind_eq_some_iff,Option.map_eq_some_iff] at h
   obtain⟨s,hs,z,hz,g,hg,r,hr,rfl⟩:=h
   unfold zHf at hb
   split at hb
   ·rename_i a c ha hc
    obtain⟨a',ha',hra⟩:=zIl hz hg hx ha w
    obtain⟨c',hc',hrc⟩:=zIl hz hg hy hc w
    simp only[Op.eqFields,hn,ne_eq,not_false_eq_true,if_true,Sem.run_bind,ha',hc',Result.andThen_ok]
    split at hb
    ·rename_i he
     rw[ih f.type s hs ρ a c a' c' true he hra hrc w k hk]
     simpa using zLz ih fs r hr ρ xs ys xs' ys' b hb hx hy w k hk
    ·rename_i he
     cases hb
     rw[ih f.type s hs ρ a c a' c' false he hra hrc w k hk]
     simp
    ·cases hb
   ·cases hb
theorem zUi {d:Nat} (ih:zQl P d) {e:TypeId} {s:Sh} (hs:zHz P d e=some s) {sz:Nat} (hz:zBk P e=some sz) {ag:Bool} (hg:zFx P e=some ag) {ρ:Env} {xs ys xs' ys':Array Value}
  (hx:VRs ρ xs.toList xs'.toList) (hy:VRs ρ ys.toList ys'.toList) (w:World) (k:Nat) (hk:d<=k):∀(n i:Nat) (b:Bool),zVf n sz ag s i xs.toList ys.toList=some b->
  (Op.eqItems k e sz xs' ys' (List.range' i n)).run P w=.ok b w
 |0,i,b,hb=> by simp[zVf] at hb;subst hb;simp[Op.eqItems]
 |n+1,i,b,hb=> by
  unfold zVf at hb
  rw[List.range'_succ]
  split at hb
  ·rename_i a c ha hc
   obtain⟨a',ha',hra⟩:=zIl hz hg hx ha w
   obtain⟨c',hc',hrc⟩:=zIl hz hg hy hc w
   simp only[Op.eqItems,Sem.run_bind,ha',hc',Result.andThen_ok]
   split at hb
   ·rename_i he
    rw[ih e s hs ρ a c a' c' true he hra hrc w k hk]
    simpa using zUi ih hs hz hg hx hy w k hk n (i+1) b hb
   ·rename_i he
    cases hb
    rw[ih e s hs ρ a c a' c' false he hra hrc w k hk]
    simp
   ·cases hb
  ·cases hb
theorem zUt (P:Program):∀d,zQl P d
 |0=> fun t s h=> by simp[zHz] at h
 |d+1=> by
  intro t s h ρ x y x' y' b hb hx hy w k hk
  obtain⟨k,rfl⟩:∃j,k=j+1:=⟨k - 1,by omega⟩
  have ih:=zUt P d
  unfold zHz at h
  split at h
  ·rename_i hu;cases h
   rw[aeq] at hb
   unfold zF6 at hb
   split at hb
   ·cases hb;cases hx;cases hy;simp[Op.equalIn,jG hu]
   ·cases hb
  ·rename_i hu;cases h
   rw[aeq] at hb
   unfold zGw at hb
   split at hb
   ·split at hb
    ·rename_i hkk;cases hb;subst hkk;cases hx;cases hy;simp[Op.equalIn,jG hu]
    ·cases hb
   ·cases hb
  ·rename_i hu;cases h
   rw[aeq] at hb
   unfold zIf at hb
   split at hb
   ·cases hb;cases hx;cases hy;simp[Op.equalIn,jG hu,beq_toListBytes]
   ·cases hb
  ·rename_i hu;cases h
   rw[aeq] at hb
   unfold zHm at hb
   split at hb
   ·cases hb;cases hx;cases hy<;> simp[Op.equalIn,jG hu]
   ·cases hb;cases hx;cases hy;simp[Op.equalIn,jG hu]
   ·cases hb
  ·rename_i hu;cases h
   rw[aeq] at hb
   unfold zHl at hb
   split at hb
   ·cases hb;cases hx;cases hy;simp[Op.equalIn,jG hu]
   ·split at hb
    ·rename_i hc;cases hb;cases hx;cases hy
     ·simp[Op.equalIn,jG hu]
     ·omega
    ·cases hb
   ·split at hb
    ·rename_i hc;cases hb;cases hy;cases hx
     ·simp[Op.equalIn,jG hu]
     ·omega
    ·cases hb
   ·cases hb
  ·rename_i hu;cases h
   rw[aeq] at hb
   unfold zJn at hb
   split at hb
   ·cases hb;cases hx;cases hy<;> simp[Op.equalIn,jG hu]
   ·cases hb;cases hx;cases hy;simp[Op.equalIn,jG hu]
   ·cases hb
  ·rename_i hu;cases h
   rw[aeq] at hb
   unfold zIg at hb
   split at hb
   ·cases hb;cases hx<;> cases hy<;> simp[Op.equalIn,jG hu]
   ·cases hb;cases hx<;> cases hy<;> simp[Op.equalIn,jG hu]
   ·cases hb;cases hx<;> cases hy<;> simp[Op.equalIn,jG hu]
   ·cases hb
  ·rename_i fs hu
   split at h
   ·cases h
   ·rename_i hp
    simp only[Option.map_eq_some_iff] at h
    obtain⟨rs,hrs,rfl⟩:=h
    rw[aeq] at hb
    unfold zCg at hb
    split at hb
    case h_2=> cases hb
    rename_i xs0 ys0 hag
    split at hag
    case h_2=> cases hag
    rename_i xs ys
    cases hag
    obtain⟨xs',rfl,hxs⟩:=hx.agg_inv
    obtain⟨ys',rfl,hys⟩:=hy.agg_inv
    have hf:P.fieldsOf t=fs:=by simp[Program.fieldsOf,hu]
    rw[run_equalIn_struct w k t xs' ys' (by rw[hf];exact hu) (by simpa using hp),hf]
    exact zLz ih fs.toList rs hrs ρ xs ys xs' ys' b hb hxs hys w k (by omega)
  ·rename_i n e hu
   simp only[Option.bind_eq_some_iff,Option.map_eq_some_iff] at h
   obtain⟨s',hs,z,hz,g,hg,rfl⟩:=h
   rw[aeq] at hb
   unfold zCg at hb
   split at hb
   case h_2=> cases hb
   rename_i xs0 ys0 hag
   split at hag
   case h_2=> cases hag
   rename_i xs ys
   cases hag
   obtain⟨xs',rfl,hxs⟩:=hx.agg_inv
   obtain⟨ys',rfl,hys⟩:=hy.agg_inv
   obtain⟨i,hi,_⟩:=zMm hz
   rw[run_equalIn_array w k xs' ys' hu hi,zIh hz,List.range_eq_range']
   exact zUi ih hs hz hg hxs hys w k (by omega) n 0 b hb
  ·cases h
end
end Go.Abs
namespace Go.Abs
open Go.RowKit
section
variable {D:Type} {P:Program} {cfg:D->HRep} {ρ:Env} {own:Nat->Nat->Prop} {H:AH D} {w:World}
theorem qSq {op:BinOp} {x y v x' y':Value} (h:zBl op x y=some v) (hx:VR ρ x x') (hy:VR ρ y y') (t:TypeId) (a b:Operand):
  (do eqGuard op t a b x' y';binOp op t x' y').run P w=.ok v w/\VR ρ v v:=by
 unfold zBl at h
 split at h
 ·rename_i k a0 k' b0
  cases hx;cases hy
  have hg:∀op,(eqGuard op t a b (.int k a0) (.int k' b0)).run P w=.ok () w:=fun op=> by cases op<;> rfl
  rw[Sem.run_bind,hg,Result.andThen_ok]
  cases op<;> simp only at h
  case shl=>
   split at h
   ·cases h
   ·rename_i hn;cases h
    exact⟨by simp[binOp,Op.shift,hn],.int _ _⟩
  case shr=>
   split at h
   ·cases h
   ·rename_i hn;cases h
    exact⟨by simp[binOp,Op.shift,hn],.int _ _⟩
  all_goals
   split at h
   ·cases h
   ·rename_i hk
    have hk:k=k':=by simpa using hk
    subst hk
    first
     |(cases h;exact⟨by simp[binOp,Op.intArith,Op.intBits,Op.intCmp],by constructor⟩)
     |(split at h
       ·cases h
       ·rename_i hn;cases h;exact⟨by simp[binOp,Op.intDiv,hn],by constructor⟩)
 ·rename_i k a0 k' b0
  cases hx;cases hy
  have hg:∀op,(eqGuard op t a b (.float k a0) (.float k' b0)).run P w=.ok () w:=fun op=> by cases op<;> rfl
  rw[Sem.run_bind,hg,Result.andThen_ok]
  split at h
  ·cases h
  ·rename_i hk
   have hk:k=k':=by simpa using hk
   subst hk
   cases op<;> simp only at h<;> first|(cases h;done)|(cases h;exact⟨by simp[binOp,Op.floatCmp],by constructor⟩)
 ·rename_i a0 b0
  cases hx;cases hy
  have hg:∀op,(eqGuard op t a b (.string a0) (.string b0)).run P w=.ok () w:=fun op=> by cases op<;> rfl
  rw[Sem.run_bind,hg,Result.andThen_ok]
  cases op<;> simp only at h
  case add=>
   split at h
   ·rename_i hle;cases h
    refine⟨?_,.string _⟩
    have:¬(((a0.size+b0.size:Nat):Int) > IntKind.i64.max):=by
     have hm:IntKind.i64.max=9223372036854775807:=by decide
     rw[hm];omega
    simp only[binOp,Op.stringOp]
    rw[if_neg this];rfl
   ·cases h
  all_goals first|(cases h;done)|(cases h;exact⟨by simp[binOp,Op.stringOp],by constructor⟩)
 ·cases h
theorem un_ok {op:UnOp} {x v x':Value} (h:aun op x=some v) (hx:VR ρ x x'):(Op.unary op x').run P w=.ok v w/\VR ρ v v:=by
 unfold aun at h
 split at h<;> first|(cases h;done)|skip
 all_goals (cases h;cases hx;exact⟨by simp[Op.unary,Op.intArith,Op.intBits],by constructor⟩)
theorem zUn {op:BinOp} {t:TypeId} (hg:P.eqGuardType P.depth t=false) {s:Sh} {x y:Value} {b:Bool} (h:aeq s x y=some b) {x' y':Value} (hx:VR ρ x x') (hy:VR ρ y y') (a c:Operand) (w:World):
  (eqGuard op t a c x' y').run P w=.ok () w:=by
 have nn:¬(x=.nilIface/\y=.nilIface):=by
  rintro⟨rfl,rfl⟩
  cases s<;> simp[aeq,zF6,zGw,zIf,zHm,zHl,zJn,zIg,zCg] at h
 have nx:∀c,x≠.chan c:=by
  rintro c rfl
  cases s<;> simp[aeq,zF6,zGw,zIf,zHm,zHl,zJn,zIg,zCg] at h
 have ny:∀c,y≠.chan c:=by
  rintro c rfl
  cases s<;> cases x<;> simp[aeq,zF6,zGw,zIf,zHm,zHl,zJn,zIg,zCg] at h
 cases hx<;> cases hy<;> first
  |(exact run_eqGuard_agg w op t a c _ _ hg)
  |(exact absurd ⟨rfl,rfl⟩ nn)
  |(exact absurd rfl (nx _))
  |(exact absurd rfl (ny _))
  |(cases op<;> rfl)
theorem qKl {t:TypeId} {s:Sh} (hs:zHz P 20 t=some s) (hg:P.eqGuardType P.depth t=false) (hnum:∀k,P.underlying t≠some (.int k)) (hstr:P.underlying t≠some .string)
  {x y x' y':Value} {b:Bool} (h:aeq s x y=some b) (hx:VR ρ x x') (hy:VR ρ y y') (a c:Operand) (w:World):
  (do eqGuard .eql t a c x' y';binOp .eql t x' y').run P w=.ok (.bool b) w/\(do eqGuard .neq t a c x' y';binOp .neq t x' y').run P w=.ok (.bool (!b)) w:=by
 have he:(Op.equal t x' y').run P w=.ok b w:=zUt P 20 t s hs ρ x y x' y' b h hx hy w Op.maxDepth (by decide)
 have key:binOp .eql t x' y'=(do pure (.bool (←Op.equal t x' y')))/\binOp .neq t x' y'=(do pure (.bool (!(←Op.equal t x' y')))):=by
  have h1:∀k a,x≠.int k a:=fun k a e=> by
   subst e
   unfold zHz at hs
   split at hs<;> first
    |(rename_i hu;exact hnum _ hu)
    |(cases hs;simp[aeq,zF6,zIf,zHm,zHl,zJn,zIg] at h;done)
    |skip
   ·split at hs
    ·cases hs
    ·simp only[Option.map_eq_some_iff] at hs;obtain⟨_,_,rfl⟩:=hs;simp[aeq,zCg] at h
   ·simp only[Option.bind_eq_some_iff,Option.map_eq_some_iff] at hs;obtain⟨_,_,_,_,_,_,rfl⟩:=hs;simp[aeq,zCg] at h
   ·cases hs
  have h2:∀a,x≠.string a:=fun a e=> by
   subst e
   unfold zHz at hs
   split at hs<;> first
    |(rename_i hu;exact hstr hu)
    |(cases hs;simp[aeq,zF6,zGw,zHm,zHl,zJn,zIg] at h;done)
    |skip
   ·split at hs
    ·cases hs
    ·simp only[Option.map_eq_some_iff] at hs;obtain⟨_,_,rfl⟩:=hs;simp[aeq,zCg] at h
   ·simp only[Option.bind_eq_some_iff,Option.map_eq_some_iff] at hs;obtain⟨_,_,_,_,_,_,rfl⟩:=hs;simp[aeq,zCg] at h
   ·cases hs
  have h3:∀k a,x≠.float k a:=fun k a e=> by
   subst e
   cases s<;> simp[aeq,zF6,zGw,zIf,zHm,zHl,zJn,zIg,zCg] at h
  have h4:∀c,x≠.chan c:=fun c e=> by
   subst e
   cases s<;> simp[aeq,zF6,zGw,zIf,zHm,zHl,zJn,zIg,zCg] at h
  cases hx<;> first
   |(exact absurd rfl (h4 _))
   |(exact absurd rfl (h1 _ _))
   |(exact absurd rfl (h2 _))
   |(exact absurd rfl (h3 _ _))
   |(exact⟨rfl,rfl⟩)
 rw[key.1,key.2]
 constructor
 ·rw[Sem.run_bind,zUn hg h hx hy,Result.andThen_ok,Sem.run_bind,he];rfl
 ·rw[Sem.run_bind,zUn hg h hx hy,Result.andThen_ok,Sem.run_bind,he];rfl
theorem qSl:∀(cs:List Value) (off:Nat) (cells:Array Value),off+cs.length<=cells.size->
  ((cs.zipIdx.foldl (fun a (c,j)=> a.setIfInBounds (off+j) c) cells).toList=setMany cells.toList off cs):=by
 intro cs
 have key:∀(cs:List Value) (off k:Nat) (cells:Array Value),((cs.zipIdx k).foldl (fun a (c,j)=> a.setIfInBounds (off+j) c) cells).toList=setMany cells.toList (off+k) cs:=by
  intro cs
  induction cs with
  |nil=> intro off k cells;rfl
  |cons v l ih=>
   intro off k cells
   simp only[List.zipIdx_cons,List.foldl_cons,setMany]
   rw[ih off (k+1)]
   simp[Array.toList_setIfInBounds,Nat.add_assoc]
 exact fun off cells _=> key cs off 0 cells
theorem zM2 {place:Nat->Option (Nat × Nat)} {n:Nat} {tm:Nat->Value} {a:Act} (htm:xN ρ n tm a.tmps):∀(parts:List (Nat × Operand)) (ps:List (Nat × Nat × Opd)),zE6 n place parts=some ps->
  ∀(cells:List Value) (cells':Array Value) (l:List Value),VRs ρ cells cells'.toList->zEu cells (ps.map fun p=> (p.1,p.2.1,p.2.2.ev tm))=some l->
  ∃l',Instr.fill place cells' (parts.map fun p=> (p.1,a.eval p.2))=some l'/\VRs ρ l l'.toList
 |[],ps,h,cells,cells',l,hc,hf=> by
  simp[zE6] at h;subst h
  simp[zEu] at hf;subst hf
  exact⟨cells',by simp[Instr.fill],hc⟩
 |(i,x)::parts,ps,h,cells,cells',l,hc,hf=> by
  simp only[zE6,Option.bind_eq_some_iff,Option.map_eq_some_iff] at h
  obtain⟨p,hp,y,hy,r,hr,rfl⟩:=h
  simp only[List.map_cons,zEu] at hf
  have hxv:=jR htm hy
  have hsz:=hxv.cells_size
  have hlen:=hc.length
  split at hf
  ·cases hf
  ·rename_i hb
   obtain⟨l',hl',hv⟩:=zM2 htm parts r hr _ ((a.eval x).cells.zipIdx.foldl (fun cs (c,j)=> cs.setIfInBounds (p.1+j) c) cells') l (by
    rw[←Array.foldl_toList,Array.toList_zipIdx,qSl _ _ _ (by
     simp only[Bool.or_eq_true,decide_eq_true_eq,not_or,Decidable.not_not] at hb
     simp only[Array.length_toList] at hlen⊢
     omega)]
    exact hxv.cells.setMany hc p.1) hf
   refine⟨l',?_,hv⟩
   simp only[List.map_cons,Instr.fill,hp]
   have hb':¬((a.eval x).cells.size≠p.2||p.1+(a.eval x).cells.size > cells'.size)=true:=by
    simp only[Bool.or_eq_true,decide_eq_true_eq,not_or,Decidable.not_not] at hb
    simp only[Array.length_toList] at hlen
    simp only[Bool.or_eq_true,decide_eq_true_eq,not_or]
    omega
   rw[if_neg hb']
   exact hl'
end
end Go.Abs
namespace Go.Abs
open Go.RowKit
section
variable {D:Type} {P:Program} {cfg:D->HRep} {ρ:Env} {own:Nat->Nat->Prop} {H:AH D} {w:World}
theorem Rel.newRow (hr:Rel P cfg ρ own H w) (e:TypeId) {cs:List Value} {cs':Array Value} (hlen:cs.length<=cs'.size) (hv:VRs ρ cs (cs'.toList.take cs.length)) (h1:cs.all (·.oneCell')=true):
  ∃ρ' own',ρ'.loc H.next=some ⟨w.heap.size,0,cs'.size,P.cellsOf e⟩/\Ext ρ own w ρ' own' (w.alloc (.cells cs' e))/\Rel P cfg ρ' own' (H.add (.arr e cs)) (w.alloc (.cells cs' e)):=by
 refine⟨ρ.put H.next ⟨w.heap.size,0,cs'.size,P.cellsOf e⟩,_,by simp[Env.loc_put],Ext.alloc hr _ _,hr.alloc _ (by intro cs h;cases h) _ _ ?_⟩
 have hle:ρ.le (ρ.put H.next ⟨w.heap.size,0,cs'.size,P.cellsOf e⟩):=Env.put_le (hr.dom _ (Nat.le_refl _))
 exact .inl ⟨⟨w.heap.size,0,cs'.size,P.cellsOf e⟩,cs',by simp[Env.loc_put],rfl,rfl,rfl,fun i=> Iff.rfl,heap_alloc_new w _,hlen,hv.mono hle,h1⟩
theorem Rel.nilRow (hr:Rel P cfg ρ own H w) (e:TypeId) (g:Nat):
  ∃ρ' own',ρ'.loc H.next=some ⟨g,0,0,P.cellsOf e⟩/\Ext ρ own w ρ' own' w/\(∀b,(∃j,own' j b)->∃j,own j b)/\Rel P cfg ρ' own' (H.add (.arr e [])) w:=by
 have hle:ρ.le (ρ.put H.next ⟨g,0,0,P.cellsOf e⟩):=Env.put_le (hr.dom _ (Nat.le_refl _))
 have hno:∀j b,own j b->j≠H.next:=fun j b hb e=> by
  subst e
  exact hr.gone _ (hr.fresh _ (Nat.le_refl _)) b hb
 refine⟨ρ.put H.next ⟨g,0,0,P.cellsOf e⟩,own,by simp[Env.loc_put],⟨hle,fun j b hb=> .inl ⟨j,hb⟩,Nat.le_refl _,fun _ _ _=> rfl,rfl,rfl,rfl⟩,fun b h=> h,⟨fun j hj=> ?_,fun j hj=> ?_,fun j y hj=> ?_,fun j hj b hb=> ?_,hr.bound,hr.disj,fun j cs hj hcs l hl k' hk'=> ?_⟩⟩
 ·simp only[AH.next_add] at hj
  rw[AH.get_add,if_neg (by omega)];exact hr.fresh j (by omega)
 ·simp only[AH.next_add] at hj
  rw[Env.loc_put,if_neg (by omega)];exact hr.dom j (by omega)
 ·rw[AH.get_add] at hj
  split at hj
  ·rename_i hjn;subst hjn;cases hj
   exact .inr ⟨rfl,fun i hi=> hno _ _ hi rfl,⟨g,0,0,P.cellsOf e⟩,by simp[Env.loc_put],rfl,rfl,rfl⟩
  ·exact (hr.obj j y hj).keep P cfg hle (fun _ _=> rfl) fun _ _ _ _ _=> rfl
 ·rw[AH.get_add] at hj
  split at hj
  ·cases hj
  ·exact hr.gone j hj b hb
 ·rw[AH.get_add] at hj
  split at hj
  ·cases hj
  ·rename_i hne
   rw[Env.loc_put,if_neg hne] at hl
   exact hr.ro j cs hj hcs l hl k' hk'
theorem VRs.take_all {l:List Value} {l':Array Value} (h:VRs ρ l l'.toList):VRs ρ l (l'.toList.take l.length):=by
 have:=h.length
 rw[this,List.take_length];exact h
theorem Rel.same (hr:Rel P cfg ρ own H w) {k:Nat} {o:AObj D} (hk:H.get k=some o):Rel P cfg ρ own (H.upd k o) w:=by
 have:H.upd k o=H:=by
  unfold AH.upd
  cases H with
  |mk n g=>
   congr
   funext j
   simp only
   split
   ·rename_i e;subst e;exact hk.symm
   ·rfl
 rw[this];exact hr
theorem Rel.storeRow (hr:Rel P cfg ρ own H w) {k o:Nat} {e:TypeId} {cs:List Value} (hk:H.get k=some (.arr e cs)) {l:List Value} {l':List Value} (hv:VRs ρ l l') (h1:l.all (·.oneCell')=true) (hfit:o+l.length<=cs.length):
  ∃lc w',ρ.loc k=some lc/\(storeCells ⟨lc.b,lc.base+o,none⟩ l').run P w=.ok () w'/\Ext ρ own w ρ own w'/\Rel P cfg ρ own (H.upd k (.arr e (setMany cs o l))) w':=by
 rcases hr.obj k _ hk with ⟨lc,cs',e1,e2,e3,e4,e5,e6,e7,e8,e9⟩|⟨rfl,_,lc,e1,_⟩
 case inr=>
  have hl0:l=[]:=by simp at hfit;exact hfit.2
  subst hl0
  cases hv
  exact⟨lc,w,e1,by simp[storeCells],Ext.refl _ _ _,hr.same hk⟩
 have hll:=hv.length
 have h1':∀v∈l',v.oneCell'=true:=by
  rw[hv.oneCells,List.all_eq_true] at h1
  exact h1
 have hst:=run_storeCells_at P lc.b o e l' 0 cs' w e6 (by omega) h1'
 simp only[Nat.add_zero] at hst
 refine⟨lc,_,e1,by rw[e2,Nat.zero_add];exact hst,?_,?_⟩
 ·exact Ext.turn (k:=k) (b:=lc.b) ((e5 _).2 rfl) (by simp) (fun i hi=> setRow_other w lc.b i _ hi) rfl rfl rfl
 ·refine hr.turn hk e5 (by simp) (fun i hi=> setRow_other w lc.b i _ hi) ?_ (by intro cs h;cases h)
  have hset:(cs'.toList.take o++l'++cs'.toList.drop (o+l'.length))=setMany cs'.toList o l':=(zH9 l' cs'.toList o (by simp;omega)).symm
  refine .inl ⟨lc,_,e1,e2,e3,?_,e5,setRow_heap w lc.b cs' _ e _ e6,?_,?_,zE5 _ _ _ h1 e9⟩
  ·rw[hset];simp[zEe,e4]
  ·rw[hset];simpa [zEe] using e7
  ·rw[hset]
   simp only[zEe]
   rw[zTq l' cs'.toList o cs.length (by omega) (by simpa using e7)]
   exact hv.setMany e8 o
theorem VE.len {l l':List MapEntry} (h:VE ρ l l'):l.length=l'.length:=by
 induction h with
 |nil=> rfl
 |cons _ _ _ _ _ _ _ _ _ _ ih=> simp[ih]
def zIo (s:Bool) (d:TypeDesc):Prop:=if s then d=.string else ∃k,d=.int k
theorem zNx {t:TypeId} {s:Bool} (h:zG9 P t=some s):∃d,P.underlying t=some d/\zIo s d:=by
 unfold zG9 at h
 split at h
 ·rename_i k hu;cases h;exact⟨_,hu,⟨k,rfl⟩⟩
 ·rename_i hu;cases h;exact⟨_,hu,rfl⟩
 ·cases h
theorem zFq {s:Bool} {d:TypeDesc} (hd:zIo s d) {k e k' e':Value} (hk:VR ρ k k') (he:VR ρ e e') {q:Bool} (h:zIa s k e=some q):Instr.sameNow d k' e'=some q/\(q=true->k'=e'):=by
 unfold zIa at h
 split at h
 ·cases hk;cases he
  split at h
  ·cases h
  ·rename_i hs
   split at h
   ·rename_i hkk;subst hkk;cases h
    have hs:s=false:=by simpa using hs
    subst hs
    obtain⟨kk,rfl⟩:=hd
    exact⟨by simp[Instr.sameNow],fun h=> by simp at h;rw[h]⟩
   ·cases h
 ·cases hk;cases he
  split at h
  ·rename_i hs;cases h
   subst hs
   have hd':d=.string:=hd
   subst hd'
   refine⟨by simp[Instr.sameNow],fun h=> ?_⟩
   rw[beq_toListBytes] at h
   have h:=eq_of_beq h
   rw[ByteArray.toList_eq,ByteArray.toList_eq] at h
   rw[ByteArray.ext (Array.toList_inj.1 h)]
  ·cases h
 ·cases h
theorem zN6 {t:TypeId} {d:TypeDesc} {s:Bool} (hu:P.underlying t=some d) (hd:zIo s d) (b:Bool) (v:Value) (w:World):(Instr.checkKey b 10000 t v).run P w=.ok () w:=by
 unfold Instr.checkKey
 rw[Sem.run_bind,jG hu,Result.andThen_ok]
 cases s with
 |false=> obtain⟨k,rfl⟩:=hd;rfl
 |true=> have hd':d=.string:=hd;subst hd';rfl
theorem zXk {s:Bool} {d:TypeDesc} (hd:zIo s d) {k k':Value} (hk:VR ρ k k'):∀{es es':List MapEntry} (_:VE ρ es es') (i:Nat) (r:Option Value),zB7 s k es=some r->
  match r with
  |none=> Instr.findNow d k' es' i=some none
  |some v=> ∃j v',Instr.findNow d k' es' i=some (some (j,v'))/\VR ρ v v'
 |_,_,.nil,i,r,h=> by simp[zB7] at h;subst h;rfl
 |_,_,.cons a a' v v' n l l' h1 h2 h3,i,r,h=> by
  unfold zB7 at h
  split at h
  ·rename_i hs;cases h
   exact⟨i,v',by simp[Instr.findNow,(zFq hd hk h1 hs).1],h2⟩
  ·rename_i hs
   have:=zXk hd hk h3 (i+1) r h
   cases r with
   |none=> simpa [Instr.findNow,(zFq hd hk h1 hs).1] using this
   |some u=> simpa [Instr.findNow,(zFq hd hk h1 hs).1] using this
  ·cases h
theorem qCj {s:Bool} {d:TypeDesc} (hd:zIo s d) {k k' v v':Value} (hk:VR ρ k k') (hv:VR ρ v v') (c:Nat):∀{es es':List MapEntry} (_:VE ρ es es') (i:Nat) (r:List MapEntry × Nat),zGn s k v c es=some r->
  (Instr.findNow d k' es' i=some none/\VE ρ r.1 (es'++[⟨k',v',c⟩])/\r.2=c+1)∨
  (∃j u,Instr.findNow d k' es' i=some (some (i+j,u))/\(∃e,es'[j]?=some e/\e.key=k')/\VE ρ r.1 (es'.modify j fun e=> { e with key:=k',val:=v' })/\r.2=c)
 |_,_,.nil,i,r,h=> by simp[zGn] at h;subst h;exact .inl ⟨rfl,.cons _ _ _ _ _ _ _ hk hv .nil,rfl⟩
 |_,_,.cons a a' x x' n l l' h1 h2 h3,i,r,h=> by
  unfold zGn at h
  split at h
  ·rename_i hs;cases h
   have:=zFq hd hk h1 hs
   exact .inr ⟨0,x',by simp[Instr.findNow,this.1],⟨⟨a',x',n⟩,rfl,(this.2 rfl).symm⟩,by simp;exact .cons _ _ _ _ _ _ _ hk hv h3,rfl⟩
  ·rename_i hs
   simp only[Option.map_eq_some_iff] at h
   obtain⟨r',hr',rfl⟩:=h
   rcases qCj hd hk hv c h3 (i+1) r' hr' with ⟨e1,e2,e3⟩|⟨j,u,e1,e2,e3,e4⟩
   ·exact .inl ⟨by simpa [Instr.findNow,(zFq hd hk h1 hs).1] using e1,.cons _ _ _ _ _ _ _ h1 h2 e2,e3⟩
   ·exact .inr ⟨j+1,u,by simp only[Instr.findNow,(zFq hd hk h1 hs).1];rw[e1];simp;omega,by simpa using e2,by simpa using .cons _ _ _ _ _ _ _ h1 h2 e3,e4⟩
  ·cases h
theorem qD1 {s:Bool} {d:TypeDesc} (hd:zIo s d) {k k':Value} (hk:VR ρ k k'):∀{es es':List MapEntry} (_:VE ρ es es') (i:Nat) (r:List MapEntry),zHn s k es=some r->
  (Instr.findNow d k' es' i=some none/\VE ρ r es')∨(∃j u,Instr.findNow d k' es' i=some (some (i+j,u))/\VE ρ r (es'.eraseIdx j))
 |_,_,.nil,i,r,h=> by simp[zHn] at h;subst h;exact .inl ⟨rfl,.nil⟩
 |_,_,.cons a a' x x' n l l' h1 h2 h3,i,r,h=> by
  unfold zHn at h
  split at h
  ·rename_i hs;cases h
   exact .inr ⟨0,x',by simp[Instr.findNow,(zFq hd hk h1 hs).1],by simpa using h3⟩
  ·rename_i hs
   simp only[Option.map_eq_some_iff] at h
   obtain⟨r',hr',rfl⟩:=h
   rcases qD1 hd hk h3 (i+1) r' hr' with ⟨e1,e2⟩|⟨j,u,e1,e2⟩
   ·exact .inl ⟨by simpa [Instr.findNow,(zFq hd hk h1 hs).1] using e1,.cons _ _ _ _ _ _ _ h1 h2 e2⟩
   ·exact .inr ⟨j+1,u,by simp only[Instr.findNow,(zFq hd hk h1 hs).1];rw[e1];simp;omega,by simpa using .cons _ _ _ _ _ _ _ h1 h2 e2⟩
  ·cases h
theorem Rel.mapAt (hr:Rel P cfg ρ own H w) {k c:Nat} {es:List MapEntry} (h:H.mapAt k=some (es,c)):H.get k=some (.map es c)/\
  ∃l es',ρ.loc k=some l/\(∀i,own k i↔i=l.b)/\w.heap[l.b]?=some (.map es' c)/\VE ρ es es'.toList:=by
 unfold AH.mapAt at h
 split at h
 ·rename_i hg;cases h
  exact⟨hg,hr.obj k _ hg⟩
 ·cases h
theorem Rel.setMap (hr:Rel P cfg ρ own H w) {k c c':Nat} {es es2:List MapEntry} (hk:H.get k=some (.map es c)) {l:Loc} (hl:ρ.loc k=some l) {es':Array MapEntry} (hv:VE ρ es2 es'.toList):
  Ext ρ own w ρ own { w with heap:=w.heap.setIfInBounds l.b (.map es' c') }/\Rel P cfg ρ own (H.upd k (.map es2 c')) { w with heap:=w.heap.setIfInBounds l.b (.map es' c') }:=by
 obtain⟨l1,es0,e1,e2,e3,e4⟩:=hr.obj k _ hk
 rw[hl] at e1;cases e1
 have hlt:=(Array.getElem?_eq_some_iff.1 e3).1
 have hoth:∀i,i≠l.b->(w.heap.setIfInBounds l.b (.map es' c'))[i]?=w.heap[i]?:=fun i hi=> Array.getElem?_setIfInBounds_ne (Ne.symm hi)
 refine⟨Ext.turn (k:=k) (b:=l.b) ((e2 _).2 rfl) (by simp) hoth rfl rfl rfl,hr.turn hk e2 (by simp) hoth ?_ (by intro cs h;cases h)⟩
 exact⟨l,es',hl,e2,by simp[hlt],hv⟩
theorem Rel.newMap (hr:Rel P cfg ρ own H w):∃ρ' own' l,ρ'.loc H.next=some l/\l.b=w.heap.size/\Ext ρ own w ρ' own' (w.alloc (.map #[] 0))/\Rel P cfg ρ' own' (H.add (.map [] 0)) (w.alloc (.map #[] 0)):=by
 refine⟨ρ.put H.next ⟨w.heap.size,0,0,0⟩,_,⟨w.heap.size,0,0,0⟩,by simp[Env.loc_put],rfl,Ext.alloc hr _ _,hr.alloc _ (by intro cs h;cases h) _ _ ?_⟩
 exact⟨⟨w.heap.size,0,0,0⟩,#[],by simp[Env.loc_put],fun i=> Iff.rfl,heap_alloc_new w _,.nil⟩
theorem zEw {y y' n:Nat} {v v':Value} (h:bound y v=some n) (hv:VR ρ v v') (hy:y<=y') (c:BoundsCode) (w:World):(Instr.sliceBound v' y' c).run P w=.ok n w/\n<=y:=by
 unfold bound at h
 split at h
 ·rename_i k i
  cases hv
  split at h
  ·rename_i hi;cases h
   refine⟨run_sliceBound w k i y' c hi.1 (by omega),by omega⟩
  ·cases h
 ·cases h
end
end Go.Abs
namespace Go.Abs
open Go.RowKit
section
variable {D:Type} {P:Program} {cfg:D->HRep} {ρ:Env} {own:Nat->Nat->Prop} {H:AH D} {w:World}
theorem zC9 (t ty e:TypeId) {size:Nat} (ht:P.underlying t=some (.slice e)) (hs:zBk P e=some size) (w:World) (a b:Option Addr) (n cc c:Nat) (hn:n<=cc):
  (Builtin.append_ #[t,t] ty #[.slice a n cc,.slice b 0 c]).run P w=.ok (.slice a n cc) w:=by
 obtain⟨i,hi,rfl⟩:=zMm hs
 cases a<;> cases b<;> simp[Builtin.append_,run_underlying ht,sizeOf,typeInfo,hi,Builtin.lenOf,Builtin.firstCells,loadCells,loadCellsFrom,hn,storeCells]
theorem qOu (hr:Rel P cfg ρ own H w) {sz:Nat} {x x':Value} {m:Nat} {news:List Value} (h:zOz H sz x=some (m,news)) (hx:VR ρ x x'):
  ∃b c,x'=.slice b m c/\news.length=m*sz/\news.all (·.oneCell')=true/\
   (0<m->∃a news',b=some a/\VRs ρ news news'/\∀j v,news'[j]?=some v->w.cell? (a.add j)=some v):=by
 unfold zOz at h
 split at h
 ·simp only[Option.some.injEq,Prod.mk.injEq] at h
  obtain⟨rfl,rfl⟩:=h
  cases hx
  exact⟨none,0,rfl,by simp,rfl,fun h=> absurd h (by omega)⟩
 ·rename_i k o m' c
  simp only[Option.map_eq_some_iff,Prod.mk.injEq] at h
  obtain⟨l,hl,rfl,rfl⟩:=h
  have hlen:=AH.many_length hl
  rcases hx.slice_inv with ⟨o',cc,lc,e1,e2,e3,e4,e5,rfl⟩|⟨_,rfl,_,a0,c0,rfl,_⟩
  ·by_cases hne:l=[]
   ·subst hne
    exact⟨_,_,rfl,hlen,rfl,fun hm=> ⟨_,[],rfl,.nil,fun j v hj=> by simp at hj⟩⟩
   ·obtain⟨lc',l',f1,f2,f3,f4,f5⟩:=hr.many hl hne
    rw[e1] at f1;cases f1
    exact⟨_,_,rfl,f3,f4,fun hm=> ⟨_,l',rfl,f2,fun j v hj=> by rw[e3 hm];exact f5 j v hj⟩⟩
  ·have hl0:l=[]:=List.eq_nil_of_length_eq_zero (by rw[hlen,Nat.zero_mul])
   subst hl0
   exact⟨_,_,rfl,hlen,rfl,fun h=> absurd h (by omega)⟩
 ·cases h
theorem Rel.replace (hr:Rel P cfg ρ own H w) {k:Nat} {e e':TypeId} {cs:List Value} (hk:H.get k=some (.arr e' cs)) {l:Loc} (hl:ρ.loc k=some l)
  {w':World} (hg:w.grownBy w' (some l.b)) {g:Nat} (hgg:g=l.b∨g=w.heap.size) {cur:Array Value} {xs:List Value} (hh:w'.heap[g]?=some (.cells cur e (0,0)))
  (hlen:xs.length<=cur.size) (hv:VRs ρ xs (cur.toList.take xs.length)) (h1:xs.all (·.oneCell')=true) (e5:∀i,own k i↔i=l.b) (hlb:l.b<w.heap.size):
  ∃ρ' own',ρ'.loc H.next=some ⟨g,0,cur.size,P.cellsOf e⟩/\Ext ρ own w ρ' own' w'/\Rel P cfg ρ' own' ((H.del k).add (.arr e xs)) w':=by
 have hkn:=hr.lt hk
 have hgl:g<w'.heap.size:=(Array.getElem?_eq_some_iff.1 hh).1
 have hle:ρ.le (ρ.put H.next ⟨g,0,cur.size,P.cellsOf e⟩):=Env.put_le (hr.dom _ (Nat.le_refl _))
 have hother:∀j,j≠k->∀b,own j b->b≠l.b:=fun j hj b hb he=> hj (hr.disj j k b hb ((e5 b).2 he))
 have hro:∀j cs2 l2,H.get j=some (.ro cs2)->cs2≠[]->ρ.loc j=some l2->l2.b<w.heap.size/\l2.b≠l.b:=fun j cs2 l2 hj hcs hl2=> by
  obtain⟨l',cs',e,fr,h1,h3,_⟩:=(hr.obj j _ hj).2 hcs
  rw[hl2] at h1;cases h1
  exact⟨(Array.getElem?_eq_some_iff.1 h3).1,fun he=> hr.ro j cs2 hj hcs l2 hl2 k ((e5 _).2 he)⟩
 refine⟨ρ.put H.next ⟨g,0,cur.size,P.cellsOf e⟩,fun j b=> if j=H.next then b=g else j≠k/\own j b,by simp[Env.loc_put],?_,?_⟩
 ·refine⟨hle,fun j b hb=> ?_,hg.size,fun b hb hn=> hg.block b hb (fun he=> hn k ((e5 b).2 (Option.some.inj he))),hg.os,hg.tape,hg.output⟩
  split at hb
  ·subst hb
   rcases hgg with rfl|rfl
   ·exact .inl ⟨k,(e5 _).2 rfl⟩
   ·exact .inr (Nat.le_refl _)
  ·exact .inl ⟨j,hb.2⟩
 ·refine⟨fun j hj=> ?_,fun j hj=> ?_,fun j y hj=> ?_,fun j hj b hb=> ?_,fun j b hb=> ?_,fun j j' b hb hb'=> ?_,fun j cs2 hj hcs l2 hl2 k' hk'=> ?_⟩
  ·simp only[AH.next_add,AH.next_del] at hj
   rw[AH.get_add,AH.next_del,if_neg (by omega),AH.get_del]
   split
   ·rfl
   ·exact hr.fresh j (by omega)
  ·simp only[AH.next_add,AH.next_del] at hj
   rw[Env.loc_put,if_neg (by omega)];exact hr.dom j (by omega)
  ·rw[AH.get_add,AH.next_del] at hj
   split at hj
   ·rename_i ej;subst ej;cases hj
    refine .inl ⟨⟨g,0,cur.size,P.cellsOf e⟩,cur,by simp[Env.loc_put],rfl,rfl,rfl,fun i=> by simp,hh,hlen,hv.mono hle,h1⟩
   ·rename_i hne
    rw[AH.get_del] at hj
    split at hj
    ·cases hj
    ·rename_i hjk
     have:=(hr.obj j y hj).keep P cfg (w':=w') hle (fun b hb=> hg.block b (hr.bound j b hb) (fun he=> hother j hjk b hb (Option.some.inj he))) (fun cs2 l2 hx hcs hl2=> by
      subst hx
      have:=hro j cs2 l2 hj hcs hl2
      exact hg.block _ this.1 (fun he=> this.2 (Option.some.inj he)))
     have ee:(fun b=> if j=H.next then b=g else j≠k/\own j b)=own j:=by funext b;simp[hne,hjk]
     show zBt P cfg _ (fun b=> if j=H.next then b=g else j≠k/\own j b) j y w'
     rw[ee];exact this
  ·rw[AH.get_add,AH.next_del] at hj
   split at hj
   ·cases hj
   ·rename_i hne
    simp only[if_neg hne] at hb
    rw[AH.get_del] at hj
    split at hj
    ·rename_i hjk;exact hb.1 hjk
    ·exact hr.gone j hj b hb.2
  ·show b<w'.heap.size
   split at hb
   ·omega
   ·exact Nat.lt_of_lt_of_le (hr.bound j b hb.2) hg.size
  ·have gn:∀i,i≠k->own i b->b≠g:=fun i hi hb=> by
    have h1:=hother i hi b hb
    have h2:=hr.bound i b hb
    rcases hgg with rfl|rfl<;> omega
   split at hb<;> split at hb'
   ·omega
   ·exact absurd hb (gn j' hb'.1 hb'.2)
   ·exact absurd hb' (gn j hb.1 hb.2)
   ·exact hr.disj j j' b hb.2 hb'.2
  ·rw[AH.get_add,AH.next_del] at hj
   split at hj
   ·cases hj
   ·rename_i hne
    rw[AH.get_del] at hj
    split at hj
    ·cases hj
    ·rw[Env.loc_put,if_neg hne] at hl2
     have:=hro j cs2 l2 hj hcs hl2
     split at hk'
     ·rcases hgg with rfl|rfl<;> omega
     ·exact hr.ro j cs2 hj hcs l2 hl2 k' hk'.2
theorem Rel.fresh1 (hr:Rel P cfg ρ own H w) (k:Nat) {e:TypeId} {w':World} (hw:w'.heap=w.heap) (hos:w'.os=w.os) (ht:w'.tape=w.tape) (ho:w'.output=w.output) {cs:List Value} {cs':Array Value} (hlen:cs.length<=cs'.size) (hv:VRs ρ cs (cs'.toList.take cs.length)) (h1:cs.all (·.oneCell')=true):
  ∃ρ' own',ρ'.loc H.next=some ⟨w.heap.size,0,cs'.size,P.cellsOf e⟩/\Ext ρ own w ρ' own' (w'.alloc (.cells cs' e))/\Rel P cfg ρ' own' ((H.del k).add (.arr e cs)) (w'.alloc (.cells cs' e)):=by
 obtain⟨ρ',own',h1,h2,h3⟩:=((hr.forget k).drew P cfg (w':=w') hw).newRow (cfg:=cfg) e hlen hv h1
 refine⟨ρ',own',by rw[hw] at h1;exact h1,?_,h3⟩
 have h4:=(Ext.forget (ρ:=ρ) (own:=own) (w:=w) k).trans (w1:=w) (ρ1:=ρ) (own1:=fun j b=> j≠k/\own j b) (ρ2:=ρ') (own2:=own') (w2:=w'.alloc (.cells cs' e))
  ⟨h2.le,fun j b hb=> by have:=h2.owned j b hb;rw[hw] at this;exact this,by have:=h2.size;rw[hw] at this;exact this,fun b hb hn=> by have:=h2.kept b (by rw[hw];exact hb) hn;rw[hw] at this;exact this,h2.os.trans hos,h2.tape.trans ht,h2.output.trans ho⟩
 exact h4
theorem Rel.fresh0 (hr:Rel P cfg ρ own H w) (k:Nat) (e:TypeId) (g:Nat):
  ∃ρ' own',ρ'.loc H.next=some ⟨g,0,0,P.cellsOf e⟩/\Ext ρ own w ρ' own' w/\Rel P cfg ρ' own' ((H.del k).add (.arr e [])) w:=by
 obtain⟨ρ',own',h1,h2,_,h3⟩:=(hr.forget k).nilRow e g
 exact⟨ρ',own',h1,(Ext.forget k).trans h2,h3⟩
theorem zDp {xs:List Value} {xs':List Value} (h:VRs ρ xs xs') (tail:Array Value):VRs ρ xs (((xs'.toArray++tail).toList).take xs.length):=by
 rw[Array.toList_append,h.length]
 simpa using h
theorem qEk (hr:Rel P cfg ρ own H w) {n:Nat} {tm:Nat->Value} {e:TypeId} {sz bytes:Nat} {s x:Opd} {v:Value} {H':AH D} (hstep:(AOp.append e sz bytes s x).step tm H=some (v,H'))
  {s' x':Value} (hs:VR ρ (s.ev tm) s') (hx:VR ρ (x.ev tm) x') {t ty:TypeId} (ht:P.underlying t=some (.slice e)) {i:TypeInfo} (hi:P.info? e=some i) (hsz:i.size=sz) (hby:i.bytes=bytes) (hpos:0<sz) (hz:(zCz P e).isSome=true):
  ∃v' w' ρ' own',(Builtin.append_ #[t,t] ty #[s',x']).run P w=.ok v' w'/\Ext ρ own w ρ' own' w'/\VR ρ' v v'/\Rel P cfg ρ' own' H' w':=by
 have hsze:zBk P e=some sz:=by simp[zBk,hi,hsz]
 obtain⟨z,hz⟩:=Option.isSome_iff_exists.1 hz
 obtain⟨_,_,_,hzs⟩:=zF9 hz w
 rw[hsze] at hzs
 have hzs:sz=z.cells.size:=by simpa using hzs
 have hz0:i.zero=some z:=by
  simp only[zCz,Option.bind_eq_some_iff] at hz
  obtain⟨i',hi',z',hz',hc⟩:=hz
  rw[hi] at hi';cases hi'
  split at hc
  ·cases hc;exact hz'
  ·cases hc
 have hcell:P.cellsOf e=sz:=zIh hsze
 simp only[AOp.step] at hstep
 split at hstep
 case h_2=> cases hstep
 rename_i m news hnews
 obtain⟨b,c,rfl,hnl,hn1,hsrc⟩:=qOu hr hnews hx
 split at hstep
 ·
  rename_i hsv
  rw[hsv] at hs
  cases hs
  split at hstep
  ·rename_i hm
   subst hm
   simp only[Option.some.injEq,Prod.mk.injEq] at hstep
   obtain⟨rfl,rfl⟩:=hstep
   exact⟨_,w,ρ,own,zC9 t ty e ht hsze w none b 0 0 c (Nat.le_refl _),Ext.refl _ _ _,.nils,hr⟩
  ·rename_i hm
   split at hstep
   ·rename_i hb
    simp only[Option.some.injEq,Prod.mk.injEq] at hstep
    obtain⟨rfl,rfl⟩:=hstep
    obtain⟨a,news',rfl,hvn,hcells⟩:=hsrc (by omega)
    have hnl':news'.length=m*i.size:=by rw[←hvn.length,hnl,hsz]
    have hrun:=run_append_nil (P:=P) w t ty e i z ht hi hz0 a m c news' hnl' hcells (by omega) (by omega) (by rw[hby];omega)
    have hsize:(news'.toArray++Builtin.zeroCells z.cells (grownCap w m 0 e - m)).size=grownCap w m 0 e*sz:=by
     have:=grownCap_ge w m 0 e
     rw[Array.size_append,size_zeroCells,←hzs,List.size_toArray,hnl',hsz,←Nat.add_mul]
     congr 1;omega
    obtain⟨ρ',own',h1,h2,h3⟩:=(hr.drew P cfg (w':=w.drew) rfl).newRow (cfg:=cfg) e (cs:=news) (cs':=news'.toArray++Builtin.zeroCells z.cells (grownCap w m 0 e - m))
     (by rw[Array.size_append,List.size_toArray,hvn.length];omega) (zDp hvn _) hn1
    refine⟨_,_,ρ',own',hrun,⟨h2.le,h2.owned,h2.size,h2.kept,h2.os,h2.tape,h2.output⟩,?_,h3⟩
    refine .slice _ _ _ _ _ _ _ h1 (grownCap_ge w m 0 e) (fun _=> rfl) (fun _=> ⟨rfl,rfl,rfl,?_,grownCap_le_maxLen w m 0 e (by simp only[maxLen];omega)⟩) (fun q hq=> by omega)
    rw[hsize,hcell]
   ·cases hstep
 ·
  rename_i k n0 hsv
  rw[hsv] at hs
  split at hstep
  case h_2=> cases hstep
  rename_i e' cs hk
  split at hstep
  case isFalse=> cases hstep
  rename_i hb
  obtain⟨rfl,hb1,hb2,hb3⟩:=hb
  simp only[Option.some.injEq,Prod.mk.injEq] at hstep
  obtain⟨rfl,rfl⟩:=hstep
  rcases hs.slice_inv with ⟨o',cc,l,f1,f2,f3,f4,f5,rfl⟩|⟨_,rfl,_,a0,c0,rfl,hnil⟩
  case inr=>
   obtain rfl:=hnil (.inl Nat.one_pos)
   by_cases hm:m=0
   ·subst hm
    have hnn:news=[]:=List.eq_nil_of_length_eq_zero (by simpa using hnl)
    subst hnn
    obtain⟨ρ',own',h1,h2,h3⟩:=hr.fresh0 k e' 0
    refine⟨_,w,ρ',own',zC9 t ty e' ht hsze w a0 b 0 0 c (Nat.le_refl _),h2,.slicen _ _ a0 0 (by omega) (fun _=> rfl),by simpa using h3⟩
   ·obtain⟨a,news',rfl,hvn,hcells⟩:=hsrc (by omega)
    have hnl':news'.length=m*i.size:=by rw[←hvn.length,hnl,hsz]
    rw[Nat.zero_add] at hb2 hb3⊢
    cases a0 with
    |some a0=>
     have hrun:=run_append_grow (P:=P) w t ty e' i z ht hi hz0 a0 0 0 [] (by simp) (fun j v hj=> by simp at hj) a m c news' hnl' hcells (by omega) (by omega) (growslice_fits (by omega) (by rw[hby,Nat.zero_add];exact hb2))
     have hsize:(#[]++news'.toArray++Builtin.zeroCells z.cells (grownCap w (0+m) 0 e' - (0+m))).size=grownCap w (0+m) 0 e'*sz:=by
      have:=grownCap_ge w (0+m) 0 e'
      rw[Array.size_append,Array.size_append,size_zeroCells,←hzs,List.size_toArray,List.size_toArray,hnl',hsz,List.length_nil,Nat.zero_add,←Nat.add_mul]
      congr 1;omega
     obtain⟨ρ',own',h1,h2,h3⟩:=hr.fresh1 (cfg:=cfg) k (w':=w.drew) rfl rfl rfl rfl (e:=e') (cs:=news) (cs':=#[]++news'.toArray++Builtin.zeroCells z.cells (grownCap w (0+m) 0 e' - (0+m)))
      (by rw[Array.size_append,Array.size_append,List.size_toArray,List.size_toArray,hvn.length];omega) (by
       have:=zDp hvn (Builtin.zeroCells z.cells (grownCap w (0+m) 0 e' - (0+m)))
       simpa using this) hn1
     refine⟨_,_,ρ',own',hrun,h2,?_,by simpa using h3⟩
     rw[Nat.zero_add]
     refine .slice _ _ _ _ _ _ _ h1 (by have:=grownCap_ge w m 0 e';omega) (fun _=> rfl) (fun _=> ⟨rfl,rfl,rfl,?_,grownCap_le_maxLen w m 0 e' (by simp only[maxLen];omega)⟩) (fun q hq=> by omega)
     rw[Nat.zero_add] at hsize
     rw[Nat.zero_add,hsize,hcell]
    |none=>
     have hrun:=run_append_nil (P:=P) w t ty e' i z ht hi hz0 a m c news' hnl' hcells (by omega) (by omega) (by rw[hby];omega)
     have hsize:(news'.toArray++Builtin.zeroCells z.cells (grownCap w m 0 e' - m)).size=grownCap w m 0 e'*sz:=by
      have:=grownCap_ge w m 0 e'
      rw[Array.size_append,size_zeroCells,←hzs,List.size_toArray,hnl',hsz,←Nat.add_mul]
      congr 1;omega
     obtain⟨ρ',own',h1,h2,h3⟩:=hr.fresh1 (cfg:=cfg) k (w':=w.drew) rfl rfl rfl rfl (e:=e') (cs:=news) (cs':=news'.toArray++Builtin.zeroCells z.cells (grownCap w m 0 e' - m))
      (by rw[Array.size_append,List.size_toArray,hvn.length];omega) (zDp hvn _) hn1
     refine⟨_,_,ρ',own',hrun,h2,?_,by simpa using h3⟩
     refine .slice _ _ _ _ _ _ _ h1 (by have:=grownCap_ge w m 0 e';omega) (fun _=> rfl) (fun _=> ⟨rfl,rfl,rfl,?_,grownCap_le_maxLen w m 0 e' (by simp only[maxLen];omega)⟩) (fun q hq=> by omega)
     rw[hsize,hcell]
  obtain⟨_,rfl,g2,g3,g4⟩:=f4 rfl
  rcases hr.obj k _ hk with ⟨l1,cur,e1,e2,e3,e4,e5,e6,e7,e8,e9⟩|⟨rfl,_,l1,e1,e2,e3,e4⟩
  case inr=>
   rw[f1] at e1;cases e1
   have hcc:cc=0:=by
    rw[e4,e3,hcell] at g3
    rcases Nat.mul_eq_zero.1 g3 with h|h
    ·exact h
    ·omega
   subst hcc
   have hn0:n0=0:=by omega
   subst hn0
   by_cases hm:m=0
   ·subst hm
    have hnn:news=[]:=List.eq_nil_of_length_eq_zero (by simpa using hnl)
    subst hnn
    obtain⟨ρ',own',h1,h2,h3⟩:=hr.fresh0 k e' l.b
    refine⟨_,w,ρ',own',zC9 t ty e' ht hsze w _ b 0 0 c (Nat.le_refl _),h2,?_,by simpa using h3⟩
    exact .slice (l:=⟨l.b,0,0,P.cellsOf e'⟩) _ _ _ _ _ _ h1 (Nat.le_refl _) (fun _=> rfl) (fun _=> ⟨rfl,rfl,rfl,by simp,Nat.zero_le _⟩) (fun q hq=> by omega)
   ·obtain⟨a,news',rfl,hvn,hcells⟩:=hsrc (by omega)
    have hnl':news'.length=m*i.size:=by rw[←hvn.length,hnl,hsz]
    have hrun:=run_append_grow (P:=P) w t ty e' i z ht hi hz0 ⟨l.b,0,none⟩ 0 0 [] (by simp) (fun j v hj=> by simp at hj) a m c news' hnl' hcells (by omega) (by omega) (growslice_fits (by omega) (by rw[hby];exact hb2))
    have hsize:(#[]++news'.toArray++Builtin.zeroCells z.cells (grownCap w (0+m) 0 e' - (0+m))).size=grownCap w (0+m) 0 e'*sz:=by
     have:=grownCap_ge w (0+m) 0 e'
     rw[Array.size_append,Array.size_append,size_zeroCells,←hzs,List.size_toArray,List.size_toArray,hnl',hsz,List.length_nil,Nat.zero_add,←Nat.add_mul]
     congr 1;omega
    obtain⟨ρ',own',h1,h2,h3⟩:=hr.fresh1 (cfg:=cfg) k (w':=w.drew) rfl rfl rfl rfl (e:=e') (cs:=news) (cs':=#[]++news'.toArray++Builtin.zeroCells z.cells (grownCap w (0+m) 0 e' - (0+m)))
     (by rw[Array.size_append,Array.size_append,List.size_toArray,List.size_toArray,hvn.length];omega) (by
      have:=zDp hvn (Builtin.zeroCells z.cells (grownCap w (0+m) 0 e' - (0+m)))
      simpa using this) hn1
    refine⟨_,_,ρ',own',hrun,h2,?_,by simpa using h3⟩
    refine .slice _ _ _ _ _ _ _ h1 (by have:=grownCap_ge w (0+m) 0 e';omega) (fun _=> rfl) (fun _=> ⟨rfl,rfl,rfl,?_,grownCap_le_maxLen w (0+m) 0 e' (by simp only[maxLen];omega)⟩) (fun q hq=> by omega)
    rw[hsize,hcell]
  rw[f1] at e1;cases e1
  have hlb:l.b<w.heap.size:=(Array.getElem?_eq_some_iff.1 e6).1
  have hcur:cur.size=cc*sz:=by rw[←e4,←g3,e3,hcell]
  have hxs:VRs ρ (cs.take (n0*sz)) (cur.toList.take (n0*sz)):=by
   have:=e8.take (n0*sz)
   rwa [List.take_take,Nat.min_eq_left hb1] at this
  have hxs1:(cs.take (n0*sz)).all (·.oneCell')=true:=by
   rw[List.all_eq_true] at e9⊢;exact fun y hy=> e9 y (List.mem_of_mem_take hy)
  have hown:w.ownsRow 0 e' sz (.slice (some ⟨l.b,0,none⟩) n0 cc) n0 (cur.toList.take (n0*sz)):=
   ⟨by simp;omega,.inr ⟨l.b,cc,cur,rfl,Nat.zero_le _,e6,f2,g4,hcur,rfl⟩⟩
  by_cases hm:m=0
  ·subst hm
   have hnn:news=[]:=List.eq_nil_of_length_eq_zero (by simpa using hnl)
   subst hnn
   obtain⟨ρ',own',h1,h2,h3⟩:=hr.replace hk f1 (w':=w) ⟨rfl,rfl,rfl,Nat.le_refl _,fun _ _ _=> rfl⟩ (.inl rfl) e6 (xs:=cs.take (n0*sz)++[]) (by simp;omega)
    (by
     have hl:(cs.take (n0*sz)++[]).length=n0*sz:=by simp;omega
     rw[hl,List.append_nil];exact hxs) (by simpa using hxs1) e5 hlb
   refine⟨_,w,ρ',own',zC9 t ty e' ht hsze w _ b n0 cc c f2,h2,?_,h3⟩
   refine .slice _ _ _ _ _ _ ⟨l.b,0,cur.size,P.cellsOf e'⟩ h1 (by omega) (fun _=> rfl) (fun _=> ⟨rfl,rfl,rfl,?_,g4⟩) (fun q hq=> by omega)
   rw[hcell,hcur]
  ·obtain⟨a,news',rfl,hvn,hcells⟩:=hsrc (by omega)
   have hnl':news'.length=m*sz:=by rw[←hvn.length,hnl]
   have hn1':∀u∈news',u.oneCell'=true:=by
    have:=hn1;rw[hvn.oneCells,List.all_eq_true] at this;exact this
   obtain⟨v',w',hrun,hown',hgrown,hnil,hblk⟩:=run_append_own_at (P:=P) w 0 t ty e' i z sz bytes ht hi hz0 hsz hby hzs.symm hpos _ n0 _ hown a m c news' hnl' hcells hn1'
    (by simp only[maxLen];omega) hb2 (Nat.zero_le _)
   rcases hown'.2 with ⟨rfl,hz2⟩|⟨g,cap,cur',rfl,_,h6,h7,h8,h9,h10⟩
   ·omega
   ·have hgg:g=l.b∨g=w.heap.size:=by
     rcases hblk with h|h
     ·left;simpa [Value.ownBlock] using h
     ·right;simpa [Value.ownBlock] using h
    have hvx:VRs ρ (cs.take (n0*sz)++news) (cur.toList.take (n0*sz)++news'):=hxs.append hvn
    have hlx:(cs.take (n0*sz)++news).length=(n0+m)*sz:=by
     rw[List.length_append,hnl,List.length_take,Nat.add_mul,Nat.min_eq_left hb1]
    obtain⟨ρ',own',j1,j2,j3⟩:=hr.replace hk f1 (by simpa [Value.ownBlock] using hgrown) hgg h6 (xs:=cs.take (n0*sz)++news) (by rw[hlx,h9];exact Nat.mul_le_mul_right _ h7)
     (by rw[hlx,h10];exact hvx) (by rw[List.all_append,hxs1,hn1];rfl) e5 hlb
    refine⟨_,w',ρ',own',hrun,j2,?_,j3⟩
    refine .slice _ _ _ _ _ _ _ j1 h7 (fun _=> rfl) (fun _=> ⟨rfl,rfl,rfl,?_,h8⟩) (fun q hq=> by omega)
    rw[hcell,h9]
 ·
  rename_i k o n0 c0 hsv
  rw[hsv] at hs
  rcases hs.slice_inv with ⟨o',cc,l,f1,f2,f3,f4,f5,rfl⟩|⟨rfl,rfl,hx2,a0,cc0,rfl,hnil⟩
  case inr=>
   obtain rfl:c0=0:=by omega
   obtain rfl:=hnil (.inl (by omega))
   split at hstep
   ·rename_i hm
    subst hm
    simp only[Nat.le_refl,if_true,Option.some.injEq,Prod.mk.injEq] at hstep
    obtain⟨rfl,rfl⟩:=hstep
    exact⟨_,w,ρ,own,zC9 t ty e ht hsze w _ b 0 0 c (Nat.le_refl _),Ext.refl _ _ _,hs,hr⟩
   ·rename_i hm
    split at hstep
    case isFalse=> cases hstep
    rename_i hb
    obtain⟨_,hb1,hb2,hb3⟩:=hb
    split at hstep
    case h_2=> cases hstep
    rename_i olds holds
    simp only[Option.some.injEq,Prod.mk.injEq] at hstep
    obtain⟨rfl,rfl⟩:=hstep
    have hol:=AH.many_length holds
    obtain rfl:olds=[]:=List.eq_nil_of_length_eq_zero (by simpa using hol)
    obtain⟨a,news',rfl,hvn,hcells⟩:=hsrc (by omega)
    have hnl':news'.length=m*i.size:=by rw[←hvn.length,hnl,hsz]
    rw[Nat.zero_add] at hb2 hb3⊢
    cases a0 with
    |some a0=>
     have hrun:=run_append_grow (P:=P) w t ty e i z ht hi hz0 a0 0 0 [] (by simp) (fun j v hj=> by simp at hj) a m c news' hnl' hcells (by omega) (by omega) (growslice_fits (by omega) (by rw[hby,Nat.zero_add];exact hb2))
     have hsize:(#[]++news'.toArray++Builtin.zeroCells z.cells (grownCap w (0+m) 0 e - (0+m))).size=grownCap w (0+m) 0 e*sz:=by
      have:=grownCap_ge w (0+m) 0 e
      rw[Array.size_append,Array.size_append,size_zeroCells,←hzs,List.size_toArray,List.size_toArray,hnl',hsz,List.length_nil,Nat.zero_add,←Nat.add_mul]
      congr 1;omega
     obtain⟨ρ',own',h1,h2,h3⟩:=(hr.drew P cfg (w':=w.drew) rfl).newRow (cfg:=cfg) e (cs:=news) (cs':=#[]++news'.toArray++Builtin.zeroCells z.cells (grownCap w (0+m) 0 e - (0+m)))
      (by rw[Array.size_append,Array.size_append,List.size_toArray,List.size_toArray,hvn.length];omega) (by
       have:=zDp hvn (Builtin.zeroCells z.cells (grownCap w (0+m) 0 e - (0+m)))
       simpa using this) hn1
     refine⟨_,_,ρ',own',hrun,⟨h2.le,h2.owned,h2.size,h2.kept,h2.os,h2.tape,h2.output⟩,?_,by simpa using h3⟩
     rw[Nat.zero_add]
     refine .slice _ _ _ _ _ _ _ h1 (by have:=grownCap_ge w m 0 e;omega) (fun _=> rfl) (fun _=> ⟨rfl,rfl,rfl,?_,grownCap_le_maxLen w m 0 e (by simp only[maxLen];omega)⟩) (fun q hq=> by omega)
     rw[Nat.zero_add] at hsize
     rw[Nat.zero_add,hsize,hcell]
    |none=>
     have hrun:=run_append_nil (P:=P) w t ty e i z ht hi hz0 a m c news' hnl' hcells (by omega) (by omega) (by rw[hby];omega)
     have hsize:(news'.toArray++Builtin.zeroCells z.cells (grownCap w m 0 e - m)).size=grownCap w m 0 e*sz:=by
      have:=grownCap_ge w m 0 e
      rw[Array.size_append,size_zeroCells,←hzs,List.size_toArray,hnl',hsz,←Nat.add_mul]
      congr 1;omega
     obtain⟨ρ',own',h1,h2,h3⟩:=(hr.drew P cfg (w':=w.drew) rfl).newRow (cfg:=cfg) e (cs:=news) (cs':=news'.toArray++Builtin.zeroCells z.cells (grownCap w m 0 e - m))
      (by rw[Array.size_append,List.size_toArray,hvn.length];omega) (zDp hvn _) hn1
     refine⟨_,_,ρ',own',hrun,⟨h2.le,h2.owned,h2.size,h2.kept,h2.os,h2.tape,h2.output⟩,?_,by simpa using h3⟩
     refine .slice _ _ _ _ _ _ _ h1 (by have:=grownCap_ge w m 0 e;omega) (fun _=> rfl) (fun _=> ⟨rfl,rfl,rfl,?_,grownCap_le_maxLen w m 0 e (by simp only[maxLen];omega)⟩) (fun q hq=> by omega)
     rw[hsize,hcell]
  have hcc:cc=c0:=f5 c0 rfl
  subst hcc
  split at hstep
  ·rename_i hm
   subst hm
   try rw[if_pos f2] at hstep
   simp only[Option.some.injEq,Prod.mk.injEq] at hstep
   obtain⟨rfl,rfl⟩:=hstep
   exact⟨_,w,ρ,own,zC9 t ty e ht hsze w _ b n0 cc c f2,Ext.refl _ _ _,hs,hr⟩
  ·rename_i hm
   split at hstep
   case isFalse=> cases hstep
   rename_i hb
   obtain⟨_,hb1,hb2,hb3⟩:=hb
   split at hstep
   case h_2=> cases hstep
   rename_i olds holds
   simp only[Option.some.injEq,Prod.mk.injEq] at hstep
   obtain⟨rfl,rfl⟩:=hstep
   obtain⟨a,news',rfl,hvn,hcells⟩:=hsrc (by omega)
   have hnl':news'.length=m*i.size:=by rw[←hvn.length,hnl,hsz]
   have hol:=AH.many_length holds
   obtain⟨olds',q2,q3,q4,q5⟩:∃olds',VRs ρ olds olds'/\olds.length=n0*sz/\olds.all (·.oneCell')=true/\∀i v',olds'[i]?=some v'->w.cell? ((⟨l.b,l.base+o,none⟩:Addr).add i)=some v':=by
    by_cases hne:olds=[]
    ·subst hne;exact⟨[],.nil,hol,rfl,fun j v hj=> by simp at hj⟩
    ·obtain⟨l2,olds',q1,q2,q3,q4,q5⟩:=hr.many holds hne
     rw[f1] at q1;cases q1
     exact⟨olds',q2,q3,q4,q5⟩
   have holen:olds'.length=n0*i.size:=by rw[←q2.length,q3,hsz]
   have hoc:∀j v,olds'[j]?=some v->w.cell? ((⟨l.b,o',none⟩:Addr).add j)=some v:=fun j v hj=> by
    have hn0:0<n0:=by
     rcases Nat.eq_zero_or_pos n0 with h|h
     ·subst h
      have:olds'=[]:=List.eq_nil_of_length_eq_zero (by simpa using holen)
      subst this;simp at hj
     ·exact h
    rw[f3 hn0];exact q5 j v hj
   have hrun:=run_append_grow (P:=P) w t ty e i z ht hi hz0 ⟨l.b,o',none⟩ n0 cc olds' holen hoc a m c news' hnl' hcells hb1 (by omega) (growslice_fits hb1 (by rw[hby];exact hb2))
   have hge:=grownCap_ge w (n0+m) cc e
   have hvx:=q2.append hvn
   have hsize:(olds'.toArray++news'.toArray++Builtin.zeroCells z.cells (grownCap w (n0+m) cc e - (n0+m))).size=grownCap w (n0+m) cc e*sz:=by
    rw[Array.size_append,Array.size_append,size_zeroCells,←hzs,List.size_toArray,List.size_toArray,hnl',holen,hsz,←Nat.add_mul,←Nat.add_mul]
    congr 1;omega
   obtain⟨ρ',own',h1,h2,h3⟩:=(hr.drew P cfg (w':=w.drew) rfl).newRow (cfg:=cfg) e (cs:=olds++news) (cs':=olds'.toArray++news'.toArray++Builtin.zeroCells z.cells (grownCap w (n0+m) cc e - (n0+m)))
    (by rw[Array.size_append,Array.size_append,List.size_toArray,List.size_toArray,List.length_append,hvn.length,q2.length];omega)
    (by
     have:=zDp hvx (Builtin.zeroCells z.cells (grownCap w (n0+m) cc e - (n0+m)))
     simpa using this) (by rw[List.all_append,q4,hn1];rfl)
   refine⟨_,_,ρ',own',hrun,⟨h2.le,h2.owned,h2.size,h2.kept,h2.os,h2.tape,h2.output⟩,?_,h3⟩
   refine .slice _ _ _ _ _ _ _ h1 hge (fun _=> rfl) (fun _=> ⟨rfl,rfl,rfl,?_,grownCap_le_maxLen w (n0+m) cc e (by simp only[maxLen];omega)⟩) (fun q hq=> by omega)
   rw[hsize,hcell]
 ·cases hstep
theorem zVl (s:ByteArray):(zCi s).length=s.size:=Lib.strCells_length s
theorem zNm (s:ByteArray):(zCi s).all (·.oneCell')=true:=by
 rw[List.all_eq_true]
 intro x hx
 obtain⟨b,_,rfl⟩:=List.mem_map.1 hx
 rfl
theorem zNl (ρ:Env) (s:ByteArray):VRs ρ (zCi s) (zCi s):=by
 unfold zCi
 induction s.data.toList with
 |nil=> exact .nil
 |cons b l ih=> exact .cons _ _ _ _ (.int _ _) ih
theorem qAd (hr:Rel P cfg ρ own H w) {tm:Nat->Value} {e:TypeId} {s x:Opd} {v:Value} {H':AH D} (hstep:(AOp.appendT e s x).step tm H=some (v,H'))
  {s' x':Value} (hs:VR ρ (s.ev tm) s') (hx:VR ρ (x.ev tm) x') {t u ty:TypeId} (ht:P.underlying t=some (.slice e)) (hu:P.underlying u=some .string) {i:TypeInfo} (hi:P.info? e=some i) (hsz:i.size=1) (hby:i.bytes=1) (hz0:i.zero=some (.int .u8 0)):
  ∃v' w' ρ' own',(Builtin.append_ #[t,u] ty #[s',x']).run P w=.ok v' w'/\Ext ρ own w ρ' own' w'/\VR ρ' v v'/\Rel P cfg ρ' own' H' w':=by
 have hsze:zBk P e=some 1:=by simp[zBk,hi,hsz]
 have hcell:P.cellsOf e=1:=zIh hsze
 simp only[AOp.step] at hstep
 split at hstep
 case h_2=> cases hstep
 rename_i q hq
 rw[hq] at hx
 obtain rfl:=hx.string_eq
 have hql:=zVl q
 split at hstep
 ·
  rename_i hsv
  rw[hsv] at hs
  cases hs
  have hown:w.ownsRow 0 e 1 (.slice none 0 0) 0 []:=World.ownsRow_nil w 0 e 1
  split at hstep
  ·rename_i hm
   simp only[Option.some.injEq,Prod.mk.injEq] at hstep
   obtain⟨rfl,rfl⟩:=hstep
   have hf:=Lib.run_firstCells_string (P:=P) w 1 q
   refine⟨.slice none 0 0,w,ρ,own,?_,Ext.refl _ _ _,.nils,hr⟩
   rw[hm] at hf
   simp[Builtin.append_,run_underlying ht,run_underlying hu,sizeOf,typeInfo,hi,hsz,Builtin.lenOf,hm,hf]
  ·rename_i hm
   split at hstep
   case isFalse=> cases hstep
   rename_i hb
   simp only[Option.some.injEq,Prod.mk.injEq] at hstep
   obtain⟨rfl,rfl⟩:=hstep
   have hrun:=run_append_nil_string (P:=P) w t u ty e i (.int .u8 0) ht hu hi hz0 q (by omega) (by omega) (by rw[hby];omega)
   have e1:(q.data.map fun b=> Value.int .u8 b.toNat)=(zCi q).toArray:=by
    apply Array.ext'
    simp[zCi]
   rw[e1] at hrun
   have hge:=grownCap_ge w q.size 0 e
   have hz1:(Value.int IntKind.u8 0).cells.size=1:=rfl
   obtain⟨ρ',own',h1,h2,h3⟩:=(hr.drew P cfg (w':=w.drew) rfl).newRow (cfg:=cfg) e (cs:=zCi q) (cs':=(zCi q).toArray++Builtin.zeroCells (Value.int .u8 0).cells (grownCap w q.size 0 e - q.size))
    (by rw[Array.size_append,List.size_toArray];omega) (zDp (zNl ρ q) _) (zNm q)
   refine⟨_,_,ρ',own',hrun,⟨h2.le,h2.owned,h2.size,h2.kept,h2.os,h2.tape,h2.output⟩,?_,h3⟩
   refine .slice _ _ _ _ _ _ _ h1 hge (fun _=> rfl) (fun _=> ⟨rfl,rfl,rfl,?_,grownCap_le_maxLen w q.size 0 e (by simp only[maxLen];omega)⟩) (fun q hq=> by omega)
   simp only[Array.size_append,List.size_toArray,size_zeroCells,hz1,hql,hcell]
   omega
 ·
  rename_i k n0 hsv
  rw[hsv] at hs
  split at hstep
  case h_2=> cases hstep
  rename_i e' cs hk
  split at hstep
  case isFalse=> cases hstep
  rename_i hb
  obtain⟨rfl,hb1,hb2⟩:=hb
  simp only[Option.some.injEq,Prod.mk.injEq] at hstep
  obtain⟨rfl,rfl⟩:=hstep
  have hz1:(Value.int IntKind.u8 0).cells.size=1:=rfl
  have zero:∀a0:Option Addr,n0=0->(a0=none->True)->(∀b,a0=some b->True)->
    ∃v' w' ρ' own',(Builtin.append_ #[t,u] ty #[.slice a0 0 0,.string q]).run P w=.ok v' w'/\Ext ρ own w ρ' own' w'/\VR ρ' (.slice (some ⟨H.next,0,none⟩) (n0+q.size) 1) v'/\Rel P cfg ρ' own' ((H.del k).add (.arr e' (cs.take n0++zCi q))) w':=by
   intro a0 hn0 _ _
   subst hn0
   by_cases hm:q.size=0
   ·have hnn:zCi q=[]:=List.eq_nil_of_length_eq_zero (by omega)
    obtain⟨ρ',own',h1,h2,h3⟩:=hr.fresh0 k e' 0
    have hf:=Lib.run_firstCells_string (P:=P) w 1 q
    rw[hm] at hf
    refine⟨.slice a0 0 0,w,ρ',own',?_,h2,?_,by rw[hnn];simpa using h3⟩
    ·cases a0<;> simp[Builtin.append_,run_underlying ht,run_underlying hu,sizeOf,typeInfo,hi,hsz,Builtin.lenOf,hm,hf,hnn,show Lib.strCells q=[] from hnn,storeCells]
    ·rw[hm];exact .slicen _ _ a0 0 (by omega) (fun _=> rfl)
   ·have hge:=grownCap_ge w (0+q.size) 0 e'
    have row:∃W,(Builtin.append_ #[t,u] ty #[.slice a0 0 0,.string q]).run P w=.ok (.slice (some ⟨w.heap.size,0,none⟩) (0+q.size) (grownCap w (0+q.size) 0 e')) (w.drew.alloc (.cells W e'))/\W=(zCi q).toArray++Builtin.zeroCells (Value.int .u8 0).cells (grownCap w (0+q.size) 0 e' - (0+q.size)):=by
     refine⟨_,?_,rfl⟩
     cases a0 with
     |some a0=>
      have:=Lib.run_append_grow_string (P:=P) (w:=w) t u ty e' i (.int .u8 0) ht hu hi hz0 a0 0 0 [] (by simp) (fun j v hj=> by simp at hj) q (by omega) (by omega) (by rw[hby];exact growslice_fits (by omega) (by omega))
      rw[this]
      congr 3
      apply Array.ext'
      simp[zCi,Lib.strCells]
     |none=>
      have:=run_append_nil_string (P:=P) w t u ty e' i (.int .u8 0) ht hu hi hz0 q (by omega) (by omega) (by rw[hby];omega)
      rw[this,Nat.zero_add]
      congr 3
      apply Array.ext'
      simp[zCi]
    obtain⟨W,hrun,hW⟩:=row
    obtain⟨ρ',own',h1,h2,h3⟩:=hr.fresh1 (cfg:=cfg) k (w':=w.drew) rfl rfl rfl rfl (e:=e') (cs:=zCi q) (cs':=W)
     (by rw[hW,Array.size_append,List.size_toArray];omega) (by rw[hW];exact zDp (zNl ρ q) _) (zNm q)
    refine⟨_,_,ρ',own',hrun,h2,?_,by simpa using h3⟩
    refine .slice _ _ _ _ _ _ _ h1 hge (fun _=> rfl) (fun _=> ⟨rfl,rfl,rfl,?_,grownCap_le_maxLen w (0+q.size) 0 e' (by simp only[maxLen];omega)⟩) (fun q hq=> by omega)
    rw[hW]
    simp only[Array.size_append,List.size_toArray,size_zeroCells,hz1,hql,hcell]
    omega
  rcases hs.slice_inv with ⟨o',cc,l,f1,f2,f3,f4,f5,rfl⟩|⟨_,rfl,_,a0,c0,rfl,hnil⟩
  case inr=>
   obtain rfl:=hnil (.inl Nat.one_pos)
   exact zero a0 rfl (fun _=> trivial) (fun _ _=> trivial)
  obtain⟨_,rfl,g2,g3,g4⟩:=f4 rfl
  rcases hr.obj k _ hk with ⟨l1,cur,e1,e2,e3,e4,e5,e6,e7,e8,e9⟩|⟨rfl,_,l1,e1,e2,e3,e4⟩
  case inr=>
   rw[f1] at e1;cases e1
   have hcc:cc=0:=by
    rw[e4,e3,hcell] at g3;omega
   subst hcc
   have hn0:n0=0:=by omega
   subst hn0
   exact zero _ rfl (fun _=> trivial) (fun _ _=> trivial)
  rw[f1] at e1;cases e1
  have hlb:l.b<w.heap.size:=(Array.getElem?_eq_some_iff.1 e6).1
  have hcur:cur.size=cc:=by rw[←e4,←g3,e3,hcell,Nat.mul_one]
  have hxs:VRs ρ (cs.take n0) (cur.toList.take n0):=by
   have:=e8.take n0
   rwa [List.take_take,Nat.min_eq_left hb1] at this
  have hxs1:(cs.take n0).all (·.oneCell')=true:=by
   rw[List.all_eq_true] at e9⊢;exact fun y hy=> e9 y (List.mem_of_mem_take hy)
  have hown:w.ownsRow 0 e' 1 (.slice (some ⟨l.b,0,none⟩) n0 cc) n0 (cur.toList.take n0):=
   ⟨by simp;omega,.inr ⟨l.b,cc,cur,rfl,Nat.zero_le _,e6,f2,g4,by omega,by rw[Nat.mul_one]⟩⟩
  have hvx:VRs ρ (cs.take n0++zCi q) (cur.toList.take n0++zCi q):=hxs.append (zNl ρ q)
  have hlx:(cs.take n0++zCi q).length=n0+q.size:=by rw[List.length_append,hql,List.length_take,Nat.min_eq_left hb1]
  have hlx':(cur.toList.take n0++zCi q).length=n0+q.size:=by rw[←hvx.length,hlx]
  have h1x:(cs.take n0++zCi q).all (·.oneCell')=true:=by rw[List.all_append,hxs1,zNm];rfl
  by_cases hroom:n0+q.size<=cc
  ·have hrun:=Lib.run_append_room_string (P:=P) (w:=w) t u ty e' i ht hu hi hsz l.b n0 cc cur e6 q hroom (by omega)
   obtain⟨ρ',own',j1,j2,j3⟩:=hr.replace hk f1 (w':=w.setRow l.b (cur.toList.take n0++Lib.strCells q++cur.toList.drop (n0+q.size)).toArray)
    ⟨rfl,rfl,rfl,by simp,fun b _ hb=> setRow_other w l.b b _ (fun e=> hb (by rw[e]))⟩ (.inl rfl) (setRow_heap w l.b cur _ e' _ e6) (xs:=cs.take n0++zCi q)
    (by rw[hlx,List.size_toArray,List.length_append];have:=hlx';unfold zCi at this;unfold Lib.strCells;omega)
    (by
     rw[hlx]
     have:(cur.toList.take n0++Lib.strCells q++cur.toList.drop (n0+q.size)).take (n0+q.size)=cur.toList.take n0++zCi q:=by
      rw[←hlx'];exact List.take_left
     rw[this];exact hvx) h1x e5 hlb
   refine⟨_,_,ρ',own',hrun,j2,?_,j3⟩
   refine .slice (l:=⟨l.b,0,(cur.toList.take n0++Lib.strCells q++cur.toList.drop (n0+q.size)).toArray.size,P.cellsOf e'⟩) _ _ _ _ _ _ j1 hroom (fun _=> rfl) (fun _=> ⟨rfl,rfl,rfl,?_,g4⟩) (fun q hq=> by omega)
   rw[hcell]
   simp only[List.size_toArray,List.length_append,List.length_drop,Array.length_toList]
   have:=hlx'
   rw[List.length_append] at this
   unfold zCi at this;unfold Lib.strCells
   omega
  ·have holds:∀j u,(cur.toList.take n0)[j]?=some u->w.cell? ((⟨l.b,0,none⟩:Addr).add j)=some u:=hown.cells (g:=l.b) rfl
   have hrun:=Lib.run_append_grow_string (P:=P) (w:=w) t u ty e' i (.int .u8 0) ht hu hi hz0 ⟨l.b,0,none⟩ n0 cc (cur.toList.take n0) (by rw[hsz,Nat.mul_one];simp;omega) holds q (by omega) (by omega) (by rw[hby];exact growslice_fits (by omega) (by omega))
   have hge:=grownCap_ge w (n0+q.size) cc e'
   obtain⟨ρ',own',h1,h2,h3⟩:=hr.fresh1 (cfg:=cfg) k (w':=w.drew) rfl rfl rfl rfl (e:=e') (cs:=cs.take n0++zCi q) (cs':=(cur.toList.take n0).toArray++(Lib.strCells q).toArray++Builtin.zeroCells (Value.int .u8 0).cells (grownCap w (n0+q.size) cc e' - (n0+q.size)))
    (by
     rw[hlx,Array.size_append,Array.size_append,List.size_toArray,List.size_toArray]
     have:=hlx'
     rw[List.length_append] at this
     unfold zCi at this;unfold Lib.strCells
     omega) (by
     have:=zDp hvx (Builtin.zeroCells (Value.int .u8 0).cells (grownCap w (n0+q.size) cc e' - (n0+q.size)))
     simpa [zCi,Lib.strCells] using this) h1x
   refine⟨_,_,ρ',own',hrun,h2,?_,h3⟩
   refine .slice _ _ _ _ _ _ _ h1 hge (fun _=> rfl) (fun _=> ⟨rfl,rfl,rfl,?_,grownCap_le_maxLen w (n0+q.size) cc e' (by simp only[maxLen];omega)⟩) (fun q hq=> by omega)
   rw[hcell]
   simp only[Array.size_append,List.size_toArray,size_zeroCells,hz1]
   have:=hlx'
   rw[List.length_append] at this
   unfold zCi at this;unfold Lib.strCells
   omega
 ·cases hstep
end
end Go.Abs
namespace Go.Abs
open Go.RowKit
section
variable {D:Type} {P:Program} {cfg:D->HRep} {ρ:Env} {own:Nat->Nat->Prop} {H:AH D} {w:World} {n:Nat} {tm:Nat->Value} {a:Act}
theorem xL {α:Type} {s:Sem Value} {v:Value} {w w':World} (h:s.run P w=.ok v w') (_:α):(do pure (Next.value (←s)):Sem Next).run P w=.ok (.value v) w':=by
 rw[Sem.run_bind,h];rfl
theorem zUs {s:Sem Unit} {w w':World} (h:s.run P w=.ok () w'):(do s;pure Next.skip:Sem Next).run P w=.ok .skip w':=by
 rw[Sem.run_bind,h];rfl
theorem qJr (hr:Rel P cfg ρ own H w) {e:TypeId} {z:Value} (hz:zCz P e=some z) {o:Oper} (ho:o.op=.alloc e):
  jC P cfg ρ own w ((execOp a.eval o).run P w) (.pointer (some ⟨H.next,0,none⟩)) (H.add (.arr e z.cells.toList)):=by
 obtain⟨h1,h2,h3,_⟩:=zF9 hz w
 obtain⟨ρ',own',e1,e2,e3⟩:=hr.newRow (cfg:=cfg) e (cs:=z.cells.toList) (cs':=z.cells) (by simp) (VRs.take_all (VRs.of_ground ρ _ (by cases z<;> simp_all [xY,xI,Value.cells]))) h3
 refine⟨.pointer (some ⟨w.heap.size,0,none⟩),_,ρ',own',.inl ?_,e2,.ptr _ _ _ e1,e3⟩
 simp[execOp,ho,Instr.alloc,h1,newVar,newRow]
theorem qSo (htm:xN ρ n tm a.tmps) (hr:Rel P cfg ρ own H w) {e:TypeId} {x:Operand} {y:Opd} (hx:jF n x=some y) {o:Oper} (ho:o.op=.box e x) (h1:(y.ev tm).cells.toList.all (·.oneCell')=true):
  jC P cfg ρ own w ((execOp a.eval o).run P w) (.pointer (some ⟨H.next,0,none⟩)) (H.add (.arr e (y.ev tm).cells.toList)):=by
 have hv:=jR htm hx
 obtain⟨ρ',own',e1,e2,e3⟩:=hr.newRow (cfg:=cfg) e (cs:=(y.ev tm).cells.toList) (cs':=(a.eval x).cells) (by simpa using Nat.le_of_eq hv.cells.length) (VRs.take_all hv.cells) h1
 refine⟨.pointer (some ⟨w.heap.size,0,none⟩),_,ρ',own',.inl ?_,e2,.ptr _ _ _ e1,e3⟩
 simp[execOp,ho,Instr.box,newVar,newRow]
theorem zYy {fs:Array Field} {pl:List (Nat × Nat)} (h:zGb P fs.toList=some pl) (w:World):
  (fs.mapM fun (f:Field)=> (do pure (f.offset,←sizeOf f.type):Sem (Nat × Nat))).run P w=.ok pl.toArray w:=by
 rw[Array.mapM_eq_mapM_toList]
 have key:∀(l:List Field) (pl:List (Nat × Nat)),zGb P l=some pl->(l.mapM fun (f:Field)=> (do pure (f.offset,←sizeOf f.type):Sem (Nat × Nat))).run P w=.ok pl w:=by
  intro l
  induction l with
  |nil=> intro pl h;simp[zGb] at h;subst h;rfl
  |cons f l ih=>
   intro pl h
   simp only[zGb,Option.bind_eq_some_iff,Option.map_eq_some_iff] at h
   obtain⟨z,hz,r,hr,rfl⟩:=h
   rw[List.mapM_cons,Sem.run_bind,Sem.run_bind,zBp hz,Result.andThen_ok,Sem.run_pure,Result.andThen_ok,Sem.run_bind,ih r hr];rfl
 rw[Sem.run_map,key _ _ h];rfl
theorem zFz {z:Value} (h:xY z=true):VRs ρ z.cells.toList z.cells.toList:=VRs.of_ground ρ _ (by cases z<;> simp_all [xY,xI,Value.cells])
theorem zU4 (htm:xN ρ n tm a.tmps) (hr:Rel P cfg ρ own H w) {t:TypeId} {z:Value} (hz:zCz P t=some z) {parts:Array (Nat × Operand)} {ps:List (Nat × Nat × Opd)}
  (hp:(∃fs pl,P.underlying t=some (.struct fs)/\zGb P fs.toList=some pl/\zE6 n (fun i=> pl[i]?) parts.toList=some ps)∨
   (∃k e s,P.underlying t=some (.array k e)/\zBk P e=some s/\zE6 n (fun i=> some (i*s,s)) parts.toList=some ps)) {o:Oper} (ho:o.op=.build t parts) {l:List Value}
  (hl:zEu z.cells.toList (ps.map fun p=> (p.1,p.2.1,p.2.2.ev tm))=some l):
  jC P cfg ρ own w ((execOp a.eval o).run P w) (.agg l.toArray) H:=by
 obtain⟨h1,h2,h3,_⟩:=zF9 hz w
 rcases hp with ⟨fs,pl,hu,hpl,hp⟩|⟨k,e,s,hu,hs,hp⟩
 ·obtain⟨l',hl',hv⟩:=zM2 htm parts.toList ps hp z.cells.toList z.cells l (zFz h2) hl
  refine jC.pure hr (v':=.agg l') ?_ (.agg _ _ (by simpa using hv))
  have hf:(fun (i:Nat)=> pl.toArray[i]?)=fun i=> pl[i]?:=by funext i;simp
  simp only[execOp,ho]
  refine xL ?_ ()
  simp only[Instr.build,Sem.run_bind,h1,jG hu,Result.andThen_ok,zYy hpl,Array.toList_map,hf,hl',Sem.run_pure]
 ·obtain⟨l',hl',hv⟩:=zM2 htm parts.toList ps hp z.cells.toList z.cells l (zFz h2) hl
  refine jC.pure hr (v':=.agg l') ?_ (.agg _ _ (by simpa using hv))
  simp only[execOp,ho]
  refine xL ?_ ()
  simp only[Instr.build,Sem.run_bind,h1,jG hu,Result.andThen_ok,zBp hs,Array.toList_map,hl',Sem.run_pure]
theorem zL1 (z:Array Value) (n s:Nat) (h:z.size=s):((Array.range (n*s)).map fun i=> z[i % z.size]!).toList=(List.replicate n z.toList).flatten:=by
 subst h
 induction n with
 |zero=> simp
 |succ n ih=>
  rw[List.replicate_succ',List.flatten_append,←ih]
  simp only[Array.toList_map,Array.toList_range,List.flatten_cons,List.flatten_nil,List.append_nil]
  rw[Nat.succ_mul,List.range_add,List.map_append]
  congr 1
  apply List.ext_getElem
  ·simp
  ·intro i h1 h2
   simp only[List.length_map,List.length_range] at h1
   simp only[List.getElem_map,List.getElem_range]
   rw[Nat.add_comm,Nat.add_mul_mod_self_right,Nat.mod_eq_of_lt h1]
   simp[h1]
theorem zOr {z:Value} (h:xY z=true) (m:Nat):VRs ρ (List.replicate m z.cells.toList).flatten (List.replicate m z.cells.toList).flatten:=by
 induction m with
 |zero=> exact .nil
 |succ m ih=> rw[List.replicate_succ,List.flatten_cons];exact (zFz h).append ih
theorem qN8 {z:Value} (h:z.cells.toList.all (·.oneCell')=true) (m:Nat):((List.replicate m z.cells.toList).flatten).all (·.oneCell')=true:=by
 rw[List.all_eq_true] at h⊢
 intro x hx
 simp only[List.mem_flatten,List.mem_replicate] at hx
 obtain⟨l,⟨_,rfl⟩,hx⟩:=hx
 exact h x hx
theorem qEd (htm:xN ρ n tm a.tmps) (hr:Rel P cfg ρ own H w) {t e:TypeId} (ht:P.underlying t=some (.slice e)) {s:Nat} (hs:zBk P e=some s) {z:Value} (hz:zCz P e=some z) {len:Nat} (hlen:len<=16777216/\len*s<=16777216)
  {parts:Array (Nat × Operand)} {ps:List (Nat × Nat × Opd)} (hp:zE6 n (fun i=> some (i*s,s)) parts.toList=some ps) {o:Oper} (ho:o.op=.buildSlice t len parts) {l:List Value}
  (hl:zEu (List.replicate len z.cells.toList).flatten (ps.map fun p=> (p.1,p.2.1,p.2.2.ev tm))=some l) (h1:l.all (·.oneCell')=true):
  jC P cfg ρ own w ((execOp a.eval o).run P w) (.slice (some ⟨H.next,0,none⟩) len 1) (H.add (.arr e l)):=by
 obtain⟨z1,z2,z3,z4⟩:=zF9 hz w
 have hzs:z.cells.size=s:=by rw[hs] at z4;simpa using z4.symm
 obtain⟨l',hl',hv⟩:=zM2 htm parts.toList ps hp _ ((Array.range (len*s)).map fun i=> z.cells[i % z.cells.size]!) l (by rw[zL1 _ _ _ hzs];exact zOr z2 len) hl
 have hll:l.length=len*s:=by
  have:∀(q:List (Nat × Nat × Value)) (c l:List Value),zEu c q=some l->l.length=c.length:=by
   intro q
   induction q with
   |nil=> intro c l h;simp[zEu] at h;rw[h]
   |cons p q ih=>
    intro c l h
    obtain⟨a1,a2,a3⟩:=p
    simp only[zEu] at h
    split at h
    ·cases h
    ·rw[ih _ _ h,zEe]
  rw[this _ _ _ hl]
  rw[←zL1 z.cells len s hzs];simp
 have hsz:l'.size=len*s:=by have:=hv.length;simp at this;omega
 obtain⟨ρ',own',e1,e2,e3⟩:=hr.newRow (cfg:=cfg) e (cs:=l) (cs':=l') (by rw[hll,hsz];exact Nat.le_refl _) (VRs.take_all hv) h1
 refine⟨.slice (some ⟨w.heap.size,0,none⟩) len len,_,ρ',own',.inl ?_,e2,.slice _ _ _ _ _ _ _ e1 (Nat.le_refl _) (fun _=> rfl) (fun _=> ⟨rfl,rfl,rfl,by rw[zIh hs,hsz],?_⟩) (fun q hq=> by omega),e3⟩
 ·have hz':¬(len*s > 2 ^ 24):=by omega
  simp only[execOp,ho]
  refine xL ?_ ()
  simp only[Instr.buildSlice,Sem.run_bind,jG ht,zBp hs,Result.andThen_ok,if_neg hz']
  by_cases h0:len*s=0
  ·have e0:∀f:Nat->Value,(Array.range (len*s)).map f=#[]:=fun f=> by rw[h0];simp
   rw[e0] at hl'
   simp only[if_pos h0,Sem.run_pure,Result.andThen_ok,e0,Array.toList_map,hl',newRow,Sem.run_bind,run_newObj,World.alloc_eq]
  ·simp only[if_neg h0,Sem.run_bind,z1,Sem.run_pure,Result.andThen_ok,Array.toList_map,hl',newRow,run_newObj,World.alloc_eq]
 ·simp only[maxLen];omega
theorem qOy (htm:xN ρ n tm a.tmps) (hr:Rel P cfg ρ own H w) {t:TypeId} (hg:zFx P t=some false) {x:Operand} {y:Opd} (hx:jF n x=some y) {o:Oper} (ho:o.op=.load t x) {k off:Nat} (he:y.ev tm=.pointer (some ⟨k,off,none⟩))
  {cs:List Value} (hk:H.row k=some cs) {v:Value} (hv:cs[off]?=some v):jC P cfg ρ own w ((execOp a.eval o).run P w) v H:=by
 have hxv:=jR htm hx
 rw[he] at hxv
 obtain⟨l,e1,e2⟩:=hxv.ptr_inv
 obtain⟨l',cs',f1,f2,f3,f4⟩:=hr.row hk (fun e=> by rw[e] at hv;simp at hv)
 rw[e1] at f1;cases f1
 obtain⟨v',g1,g2⟩:=f2.get hv
 refine jC.pure hr (v':=v') ?_ g2
 simp only[execOp,ho]
 refine xL ?_ ()
 simp only[Instr.loadAt,e2,Instr.sureAddr,loadVar,Sem.run_bind,Sem.run_pure,Result.andThen_ok,zHe hg,Bool.false_eq_true,if_false,run_load,f4 _ _ g1]
theorem qH3 (htm:xN ρ n tm a.tmps) (hr:Rel P cfg ρ own H w) {t:TypeId} (hg:zFx P t=some true) {s:Nat} (hs:zBk P t=some s) {x:Operand} {y:Opd} (hx:jF n x=some y) {o:Oper} (ho:o.op=.load t x) {k off:Nat} (he:y.ev tm=.pointer (some ⟨k,off,none⟩))
  {l:List Value} (hk:H.many k off s=some l):jC P cfg ρ own w ((execOp a.eval o).run P w) (.agg l.toArray) H:=by
 have hxv:=jR htm hx
 rw[he] at hxv
 obtain⟨lc,e1,e2⟩:=hxv.ptr_inv
 have hlen:=AH.many_length hk
 by_cases hne:l=[]
 ·subst hne
  have hs0:s=0:=by rw[←hlen];rfl
  subst hs0
  refine jC.pure hr (v':=.agg #[]) ?_ (.agg _ _ .nil)
  simp only[execOp,ho]
  refine xL ?_ ()
  simp[Instr.loadAt,e2,Instr.sureAddr,loadVar,Sem.run_bind,Sem.run_pure,Result.andThen_ok,zHe hg,zBp hs,loadCells,loadCellsFrom]
 obtain⟨l',cs',f1,f2,f3,f4,f5⟩:=hr.many hk hne
 rw[e1] at f1;cases f1
 refine jC.pure hr (v':=.agg cs'.toArray) ?_ (.agg _ _ (by simpa using f2))
 have hlc:=run_loadCells_list (P:=P) w ⟨lc.b,lc.base+off,none⟩ cs' f5
 rw[←f2.length,f3] at hlc
 simp only[execOp,ho]
 refine xL ?_ ()
 simp only[Instr.loadAt,e2,Instr.sureAddr,loadVar,Sem.run_bind,Sem.run_pure,Result.andThen_ok,zHe hg,if_true,zBp hs,hlc]
theorem qFj (htm:xN ρ n tm a.tmps) (hr:Rel P cfg ρ own H w) {t:TypeId} {s:Nat} (hs:zBk P t=some s) {x u:Operand} {y z:Opd} (hx:jF n x=some y) (hu:jF n u=some z) {o:Oper} (ho:o.op=.store t x u) {k off:Nat} (he:y.ev tm=.pointer (some ⟨k,off,none⟩))
  {e:TypeId} {cs:List Value} (hk:H.get k=some (.arr e cs)) (h1:(z.ev tm).cells.size=s) (h2:off+s<=cs.length) (h3:(z.ev tm).cells.toList.all (·.oneCell')=true):
  jC P cfg ρ own w ((execOp a.eval o).run P w) undef (H.upd k (.arr e (setMany cs off (z.ev tm).cells.toList))):=by
 have hxv:=jR htm hx
 rw[he] at hxv
 obtain⟨lc,e1,e2⟩:=hxv.ptr_inv
 have huv:=jR htm hu
 obtain⟨lc',w',f1,f2,f3,f4⟩:=hr.storeRow hk (l:=(z.ev tm).cells.toList) (l':=(a.eval u).cells.toList) huv.cells h3 (o:=off) (by simp;omega)
 rw[e1] at f1;cases f1
 refine⟨undef,w',ρ,own,.inr ⟨?_,rfl⟩,f3,VR.undef ρ,f4⟩
 have hsz:¬(a.eval u).cells.size≠s:=by rw[←huv.cells_size,h1];simp
 simp only[execOp,ho]
 refine zUs ?_
 simp only[Instr.storeAt,e2,Instr.sureAddr,storeVar,Sem.run_bind,Sem.run_pure,Result.andThen_ok,zBp hs,if_neg hsz,f2]
theorem zKx {y k:Nat} {v:Value} (h:bound y v=some k):k<=y:=by
 unfold bound at h
 split at h
 ·split at h
  ·cases h;omega
  ·cases h
 ·cases h
theorem qGz (htm:xN ρ n tm a.tmps) (hr:Rel P cfg ρ own H w) {t e:TypeId} (ht:P.underlying t=some (.slice e)) {s:Nat} (hs:zBk P e=some s) {x:Operand} {lo hi mx:Option Operand} {y:Opd} {lo' hi' mx':Option Opd} (hx:jF n x=some y)
  (hlo:zBr n lo=some lo') (hhi:zBr n hi=some hi') (hmx:zBr n mx=some mx') {o:Oper} (ho:o.op=.slice t x lo hi mx) {v:Value} {H':AH D} (hstep:(AOp.slice s y lo' hi' mx').step tm H=some (v,H')):
  jC P cfg ρ own w ((execOp a.eval o).run P w) v H':=by
 have hxv:=jR htm hx
 have opt:∀{p:Option Operand} {p':Option Opd},zBr n p=some p'->(p'=none↔p=none)/\∀q',p'=some q'->∃q,p=some q/\VR ρ (q'.ev tm) (a.eval q):=by
  intro p p' h
  cases p with
  |none=> simp[zBr] at h;subst h;exact⟨by simp,fun q h=> by cases h⟩
  |some q=>
   simp only[zBr,Option.map_eq_some_iff] at h
   obtain⟨z,hz,rfl⟩:=h
   exact⟨by simp,fun q' hq=> by cases hq;exact⟨q,rfl,jR htm hz⟩⟩
 obtain⟨lo1,lo2⟩:=opt hlo
 obtain⟨hi1,hi2⟩:=opt hhi
 obtain⟨mx1,mx2⟩:=opt hmx
 simp only[AOp.step] at hstep
 split at hstep
 case h_2=> cases hstep
 rename_i A n0 c he
 rw[he] at hxv
 split at hstep
 case h_2=> cases hstep
 rename_i h hh
 split at hstep
 case h_2=> cases hstep
 rename_i m hm
 split at hstep
 case h_2=> cases hstep
 rename_i l hl
 split at hstep
 case isFalse=> cases hstep
 rename_i hc
 have key:∀cc,n0<=cc->∃m',(Instr.sliceBounds true n0 cc (lo.map a.eval) (hi.map a.eval) (mx.map a.eval)).run P w=.ok (l,h,m') w/\h<=m'/\l<=h/\h<=n0/\(mx'.isSome=true->m'=m)/\(mx'.isSome=false->m'=cc):=by
  intro cc hcc
  have L:∀code,(match lo.map a.eval with|some v=> Instr.sliceBound v h code|none=> pure 0:Sem Nat).run P w=.ok l w/\l<=h:=by
   intro code
   cases hlo':lo' with
   |none=> rw[lo1.1 hlo'];rw[hlo'] at hl;simp at hl;subst hl;exact⟨rfl,by omega⟩
   |some q'=>
    obtain⟨q,hq,hqv⟩:=lo2 q' hlo'
    rw[hq];rw[hlo'] at hl
    exact zEw (P:=P) hl hqv (Nat.le_refl _) _ w
  cases hmx':mx' with
  |none=>
   rw[mx1.1 hmx']
   rw[hmx'] at hm;simp at hm;subst hm
   cases hhi':hi' with
   |none=>
    rw[hi1.1 hhi'];rw[hhi'] at hh;simp at hh;subst hh
    refine⟨cc,?_,hcc,(L .sliceB).2,Nat.le_refl _,by simp,by simp⟩
    have:=(L .sliceB).1
    revert this
    generalize lo.map a.eval=LO
    intro this
    cases LO<;> simp_all [Instr.sliceBounds]
   |some q'=>
    obtain⟨q,hq,hqv⟩:=hi2 q' hhi'
    rw[hq];rw[hhi'] at hh
    obtain⟨b1,b2⟩:=zEw (P:=P) hh hqv hcc .sliceAcap w
    refine⟨cc,?_,by omega,(L .sliceB).2,b2,by simp,by simp⟩
    have:=(L .sliceB).1
    revert this
    generalize lo.map a.eval=LO
    intro this
    cases LO<;> simp_all [Instr.sliceBounds]
  |some p'=>
   obtain⟨p,hp,hpv⟩:=mx2 p' hmx'
   rw[hp];rw[hmx'] at hm
   simp only at hm
   obtain⟨b1,b2⟩:=zEw (P:=P) hm hpv hcc .slice3Acap w
   rw[hmx'] at hc
   simp at hc
   cases hhi':hi' with
   |none=> rw[hhi'] at hc;simp at hc
   |some q'=>
    obtain⟨q,hq,hqv⟩:=hi2 q' hhi'
    rw[hq];rw[hhi'] at hh
    simp only at hh
    have hle:h<=n0:=(zEw (P:=P) hh hqv (Nat.le_refl _) .slice3B w).2
    have b3:(Instr.sliceBound (a.eval q) m .slice3B).run P w=.ok h w:=by
     have hb:bound m (q'.ev tm)=some h:=by
      unfold bound at hh⊢
      split at hh
      ·split at hh
       ·rename_i hi0;cases hh;rw[if_pos ⟨hi0.1,by omega⟩]
       ·cases hh
      ·cases hh
     exact (zEw (P:=P) hb hqv (Nat.le_refl _) _ w).1
    refine⟨m,?_,hc.1,(L .slice3C).2,hle,by simp,by simp⟩
    have:=(L .slice3C).1
    revert this
    generalize lo.map a.eval=LO
    intro this
    cases LO<;> simp_all [Instr.sliceBounds]
 split at hstep
 ·rename_i k off
  rcases hxv.slice_inv with ⟨o',cc,lc,f1,f2,f3,f4,f5,e2⟩|⟨rfl,rfl,hc1,a0,c0,e2,hnil⟩
  case inr=>
   obtain⟨m',k1,k2,k3,k4,k5,k6⟩:=key c0 (Nat.zero_le _)
   simp only[Option.some.injEq,Prod.mk.injEq] at hstep
   obtain⟨rfl,rfl⟩:=hstep
   have hl0:l=0:=by omega
   have hh0:h=0:=by omega
   subst hl0;subst hh0
   refine jC.pure hr (v':=.slice a0 0 m') ?_ ?_
   ·simp only[execOp,ho]
    refine xL ?_ ()
    cases a0 with
    |none=>
     obtain rfl:=hnil (.inr rfl)
     obtain rfl:m'=0:=by
      cases hmx0:mx'.isSome with
      |true=>
       have hm0:=k5 hmx0
       have:m<=0:=by
        cases hmq:mx' with
        |none=> rw[hmq] at hmx0;cases hmx0
        |some p=> rw[hmq] at hm;simp only at hm;exact zKx hm
       omega
      |false=> exact k6 hmx0
     simp only[Instr.sliceAt,Instr.slice,Sem.run_bind,jG ht,Result.andThen_ok,e2,k1,zBp hs,Sem.run_pure]
     rfl
    |some a0=>
     simp only[Instr.sliceAt,Instr.slice,Sem.run_bind,jG ht,Result.andThen_ok,e2,k1,zBp hs,Sem.run_pure]
     split<;> simp[Addr.add]
   ·rw[Nat.zero_mul,Nat.add_zero,Nat.sub_zero]
    cases hmx0:mx'.isSome with
    |true=>
     have hm0:=k5 hmx0
     have:m<=0:=by
      cases hmq:mx' with
      |none=> rw[hmq] at hmx0;cases hmx0
      |some p=> rw[hmq] at hm;simp only at hm;exact zKx hm
     obtain rfl:m=0:=by omega
     subst hm0
     simpa using VR.slicen _ 2 a0 0 (by omega) (fun _=> rfl)
    |false=>
     have:=k6 hmx0
     subst this
     simpa using VR.slicen _ _ a0 m' hc1 hnil
  obtain⟨m',k1,k2,k3,k4,k5,k6⟩:=key cc f2
  simp only[Option.some.injEq,Prod.mk.injEq] at hstep
  obtain⟨rfl,rfl⟩:=hstep
  refine jC.pure hr (v':=.slice (some (if m'=l then ⟨lc.b,o',none⟩ else (⟨lc.b,o',none⟩:Addr).add (l*s))) (h - l) (m' - l)) ?_ ?_
  ·simp only[execOp,ho]
   refine xL ?_ ()
   simp only[Instr.sliceAt,Instr.slice,Sem.run_bind,jG ht,Result.andThen_ok,e2,k1,zBp hs,Sem.run_pure]
   split<;> rfl
  ·have hadd:(if m'=l then (⟨lc.b,o',none⟩:Addr) else (⟨lc.b,o',none⟩:Addr).add (l*s))=⟨lc.b,if m'=l then o' else o'+l*s,none⟩:=by
    split
    ·rfl
    ·rw[Addr.add_lit]
   rw[hadd]
   refine .slice _ _ _ _ _ _ _ f1 (by omega) (fun hpos=> ?_) (fun h1=> ?_) (fun q hq=> ?_)
   ·rw[if_neg (by omega),f3 (by omega)];omega
   ·split at h1
    ·omega
    ·split at h1
     ·rename_i hms hl0
      subst hl0
      obtain⟨g1,g2,g3,g4,g5⟩:=f4 h1
      have hmc:m'=cc:=k6 (by simpa using hms)
      subst hmc
      exact⟨by omega,by split<;> omega,g3,by simpa using g4,by simpa using g5⟩
     ·omega
   ·split at hq
    ·rename_i hms
     have:=k5 hms;omega
    ·split at hq
     ·rename_i hms hl0
      have:=f5 q hq
      have hmc:m'=cc:=k6 (by simpa using hms)
      omega
     ·omega
 ·split at hstep
  ·rename_i hnil
   obtain⟨rfl,rfl⟩:=hnil
   have e2:a.eval x=.slice none 0 0:=by
    revert hxv
    generalize a.eval x=X
    intro hxv
    cases hxv;rfl
   obtain⟨m',k1,k2,k3,k4,k5,k6⟩:=key 0 (Nat.le_refl _)
   simp only[Option.some.injEq,Prod.mk.injEq] at hstep
   obtain⟨rfl,rfl⟩:=hstep
   have hm0:m'=0:=by
    cases hmx0:mx'.isSome with
    |true=>
     have hm0:=k5 hmx0
     have:m<=0:=by
      cases hmq:mx' with
      |none=> rw[hmq] at hmx0;cases hmx0
      |some p=> rw[hmq] at hm;simp only at hm;exact zKx hm
     omega
    |false=> exact k6 hmx0
   have hl0:l=0:=by omega
   have hh0:h=0:=by omega
   subst hm0;subst hl0;subst hh0
   refine jC.pure hr (v':=.slice none 0 0) ?_ .nils
   simp only[execOp,ho]
   refine xL ?_ ()
   simp only[Instr.sliceAt,Instr.slice,Sem.run_bind,jG ht,Result.andThen_ok,e2,k1,zBp hs,Sem.run_pure]
   rfl
  ·cases hstep
 ·cases hstep
end
end Go.Abs
namespace Go.Abs
open Go.RowKit
section
variable {D:Type} {P:Program} {cfg:D->HRep} {ρ:Env} {own:Nat->Nat->Prop} {H:AH D} {w:World} {n:Nat} {tm:Nat->Value} {a:Act} {ext:FuncId->Option Ext1}
theorem zB3 {b:Builtin} {args:Array Operand} {ts:Array TypeId} {o:Oper} (ho:o.op=.call { callee:=.builtin b,args:=args,argTypes:=ts }) {r:Result Next}
  (h:∀consts,(builtin b ts o.type consts (args.toList.map a.eval).toArray).run P w=r):(execOp a.eval o).run P w=r:=by
 have hm:args.map a.eval=(args.toList.map a.eval).toArray:=by apply Array.ext';simp
 simp only[execOp,ho,resolve,Sem.run_bind,Sem.run_pure,Result.andThen_ok,invoke,hm]
 exact h _
theorem Rel.lose (hr:Rel P cfg ρ own H w) {k:Nat} {e:TypeId} {cs:List Value} (hk:H.get k=some (.arr e cs)) {b:Nat} (hb:∀i,own k i↔i=b) {w':World}
  (hsz:w'.heap.size=w.heap.size) (hoth:∀i,i≠b->w'.heap[i]?=w.heap[i]?):
  Rel P cfg ρ (fun j i=> j≠k/\own j i) (H.del k) w':=by
 have h:=hr.forget k
 refine⟨h.fresh,h.dom,fun j x hj=> ?_,h.gone,fun j i hi=> by rw[hsz];exact h.bound j i hi,h.disj,h.ro⟩
 have hjk:j≠k:=by
  rintro rfl
  rw[AH.get_del,if_pos rfl] at hj;cases hj
 have hj0:H.get j=some x:=by rw[AH.get_del,if_neg hjk] at hj;exact hj
 refine (h.obj j x hj).keep P cfg ρ.le_refl (fun i hi=> hoth i ?_) (fun cs l hx hcs hl=> hoth l.b ?_)
 ·rintro rfl
  exact hi.1 (hr.disj j k i hi.2 ((hb i).2 rfl))
 ·intro e
  subst hx
  exact hr.ro j cs hj0 hcs l hl k ((hb _).2 e)
theorem zO5:∀{l:List Value} {bs:List UInt8},exactB? l=some bs->l=bs.map fun b=> Value.int .u8 b.toNat
 |[],bs,h=> by simp[exactB?] at h;simp[h]
 |v::l,bs,h=> by
  unfold exactB? at h
  split at h
  ·rename_i h2;cases h2
  ·rename_i m l2 h2
   cases h2
   split at h
   case isFalse=> cases h
   rename_i hm
   simp only[Option.map_eq_some_iff] at h
   obtain⟨b2,h,rfl⟩:=h
   rw[zO5 h,List.map_cons]
   congr 2
   have:(UInt8.ofNat m.toNat).toNat=m.toNat:=by
    rw[UInt8.toNat_ofNat'];omega
   omega
  ·cases h
theorem VRs.bytes_eq (ρ:Env):∀{bs:List UInt8} {l':List Value},VRs ρ (bs.map fun b=> Value.int .u8 b.toNat) l'->l'=bs.map fun b=> Value.int .u8 b.toNat
 |[],_,h=> by cases h;rfl
 |b::bs,_,h=> by
  cases h with
  |cons _ v' _ l' h1 h2=> rw[h1.int_eq,VRs.bytes_eq ρ h2];rfl
theorem zV9 (w:World) (g m:Nat):(w.freeze ⟨g,0,none⟩ m).heap.size=w.heap.size/\(∀i,i≠g->(w.freeze ⟨g,0,none⟩ m).heap[i]?=w.heap[i]?)/\(w.freeze ⟨g,0,none⟩ m).os=w.os/\(w.freeze ⟨g,0,none⟩ m).tape=w.tape/\(w.freeze ⟨g,0,none⟩ m).output=w.output:=by
 unfold World.freeze
 split
 ·exact⟨rfl,fun _ _=> rfl,rfl,rfl,rfl⟩
 ·refine⟨by simp,fun i hi=> ?_,rfl,rfl,rfl⟩
  simp[Array.getElem?_modify,Ne.symm hi]
theorem qKw (hr:Rel P cfg ρ own H w) {e:TypeId} {x m:Opd} {v:Value} {H':AH D} (hstep:(AOp.ustr e x m).step tm H=some (v,H')) {x' m':Value} (hx:VR ρ (x.ev tm) x') (hm:VR ρ (m.ev tm) m')
  {pt it ty:TypeId} (hp:P.underlying pt=some (.pointer e)) (hc:P.cellsOf e=1):
  ∃v' w' ρ' own',(Builtin.unsafeString_ #[pt,it] ty #[x',m']).run P w=.ok v' w'/\Ext ρ own w ρ' own' w'/\VR ρ' v v'/\Rel P cfg ρ' own' H' w':=by
 simp only[AOp.step] at hstep
 split at hstep
 ·rename_i q hxe hme
  split at hstep
  case isFalse=> cases hstep
  rename_i hq
  subst hq
  cases hstep
  rw[hxe] at hx
  rw[hme] at hm
  obtain rfl:=hm.int_eq
  have hX:x'=.pointer none:=by cases hx;rfl
  subst hX
  exact⟨_,w,ρ,own,Lib.run_unsafeString_none w pt it ty none,Ext.refl _ _ _,.string _,hr⟩
 ·rename_i k q hxe hme
  split at hstep
  case h_2=> cases hstep
  rename_i e' cs hk
  split at hstep
  case isFalse=> cases hstep
  rename_i hq
  obtain⟨rfl,hq0,hqc,hq63⟩:=hq
  simp only[Option.map_eq_some_iff,Prod.mk.injEq] at hstep
  obtain⟨bs,hbs,rfl,rfl⟩:=hstep
  rw[hxe] at hx
  rw[hme] at hm
  obtain rfl:=hm.int_eq
  obtain⟨l,hl,rfl⟩:∃l,ρ.loc k=some l/\x'=.pointer (some ⟨l.b,l.base+0,none⟩):=by cases hx;exact⟨_,‹_›,rfl⟩
  rcases hr.obj k _ hk with ⟨l1,cur,e1,e2,e3,e4,e5,e6,e7,e8,e9⟩|⟨rfl,_,l1,e1,e2,e3,e4⟩
  case inr=> simp at hqc;omega
  rw[hl] at e1;cases e1
  have hbl:=zO5 hbs
  have hcells:(cur.toList.take q.toNat)=bs.map fun b=> Value.int .u8 b.toNat:=by
   have:=e8.take q.toNat
   rw[List.take_take,Nat.min_eq_left (by omega),hbl] at this
   exact VRs.bytes_eq ρ this
  have hlen:bs.length=q.toNat:=by
   have:=congrArg List.length hbl
   simp only[List.length_take,List.length_map] at this
   omega
  have hq:q=((bs.length:Nat):Int):=by omega
  have h63:bs.length<=9223372036854775807:=by omega
  have hlb:l.b<w.heap.size:=(Array.getElem?_eq_some_iff.1 e6).1
  have hrun:=Lib.run_unsafeString_row (P:=P) w pt it ty e' hp hc l.b cur.size (by simp[World.shape?,e6]) bs (by intro h;subst h;simp at hlen;omega) (by omega) h63 (by
   intro j x hj
   have:(cur.toList.take q.toNat)[j]?=some (.int .u8 x.toNat):=by rw[hcells];simp[hj]
   rw[List.getElem?_take] at this
   split at this
   ·have h2:cur[j]?=some (.int .u8 x.toNat):=by simpa using this
    by_cases hj0:j=0
    ·subst hj0;simp[World.cell?,Addr.add,e6,h2]
    ·simp[World.cell?,Addr.add,e6,h2,hj0]
   ·cases this)
  obtain⟨f1,f2,f3,f4,f5⟩:=zV9 w l.b bs.length
  refine⟨_,_,ρ,_,by rw[hq,e2];exact hrun,?_,.string _,hr.lose hk e5 f1 f2⟩
  exact⟨ρ.le_refl,fun j b hb=> .inl ⟨j,hb.2⟩,by omega,fun b _ hn=> f2 b (fun e=> hn k ((e5 b).2 e)),f3,f4,f5⟩
 ·cases hstep
theorem qPu (hext:∀f x,ext f=some x->∀args w,(callFunc f args).run P w=((x.sem args).run P w).andThen fun v w'=> .ok (.value v) w')
  (htm:xN ρ n tm a.tmps) (hr:Rel P cfg ρ own H w) {c:Call} {op:AOp} (hc:zHc P ext n c=some op) {o:Oper} (ho:o.op=.call c) {v:Value} {H':AH D} (hs:op.step tm H=some (v,H')):
  jC P cfg ρ own w ((execOp a.eval o).run P w) v H':=by
 obtain⟨callee,args,ts⟩:=c
 cases callee with
 |invoke r m=> simp[zHc] at hc
 |value f=>
  cases f with
  |func f=>
   simp only[zHc] at hc
   have hrun:∀x y,args.toList=[x]->ext f=some y->(execOp a.eval o).run P w=((y.sem #[a.eval x]).run P w).andThen fun v w'=> .ok (.value v) w':=by
    intro x y hx hy
    have hargs:args=#[x]:=by apply Array.ext';simpa using hx
    subst hargs
    have he:a.eval (.func f)=.func (.func f) #[] #[]:=rfl
    simp only[execOp,ho,resolve,Sem.run_bind,Sem.run_pure,Result.andThen_ok,invoke,he,Deferred.ofValue]
    have:=hext f y hy #[a.eval x] w
    simp only[List.map_toArray,List.map_cons,List.map_nil]
    generalize a.eval x=X at this⊢
    simpa using this
   split at hc
   ·rename_i x hx hl
    simp only[Option.map_eq_some_iff] at hc
    obtain⟨y,hy,rfl⟩:=hc
    have hv:=jR htm hy
    simp only[AOp.step] at hs
    split at hs
    ·rename_i m he
     rw[he] at hv
     cases hs
     refine jC.pure hr (v':=.float .f64 m.toNat) ?_ (.float _ _)
     rw[hrun x _ hl hx,hv.int_eq];rfl
    ·cases hs
   ·rename_i x hx hl
    simp only[Option.map_eq_some_iff] at hc
    obtain⟨y,hy,rfl⟩:=hc
    have hv:=jR htm hy
    simp only[AOp.step] at hs
    split at hs
    ·rename_i m he
     rw[he] at hv
     cases hs
     refine jC.pure hr (v':=.int .u64 m) ?_ (.int _ _)
     rw[hrun x _ hl hx,hv.float_eq];rfl
    ·cases hs
   ·cases hc
  |_=> simp[zHc] at hc
 |builtin b=>
  cases b<;> simp only[zHc,reduceCtorEq] at hc
  case append=>
   split at hc
   case h_2=> cases hc
   rename_i s x t t' hargs hts
   have ha:args=#[s,x]:=by apply Array.ext';simpa using hargs
   split at hc
   case isFalse=>
    split at hc
    case h_2=> cases hc
    rename_i e ht hu
    simp only[Option.bind_eq_some_iff] at hc
    obtain⟨i,hi,s',hs',x',hx',hc⟩:=hc
    split at hc
    case isFalse=> cases hc
    rename_i hz
    cases hc
    have htt:ts=#[t,t']:=by apply Array.ext';simpa using hts
    subst ha;subst htt
    have hz0:i.zero=some (.int .u8 0):=by
     have:=hz.2.2.1
     revert this
     cases i.zero with
     |none=> intro h;cases h
     |some z=>
      intro h
      unfold zUk at h
      split at h
      ·rename_i q heq
       cases heq
       have:q=0:=by simpa using h
       rw[this]
      ·cases h
    obtain⟨v',w',ρ',own',e1,e2,e3,e4⟩:=qAd hr hs (jR htm hs') (jR htm hx') (t:=t) (ty:=o.type) ht hu hi hz.1 hz.2.1 hz0
    refine⟨v',w',ρ',own',.inl ?_,e2,e3,e4⟩
    refine zB3 ho fun consts=> ?_
    simp only[builtin]
    exact xL (by simpa using e1) ()
   rename_i htt
   subst htt
   split at hc
   case h_2=> cases hc
   rename_i e ht
   simp only[Option.bind_eq_some_iff] at hc
   obtain⟨i,hi,s',hs',x',hx',hc⟩:=hc
   split at hc
   case isFalse=> cases hc
   rename_i hz
   cases hc
   have htt:ts=#[t,t]:=by apply Array.ext';simpa using hts
   subst ha;subst htt
   obtain⟨v',w',ρ',own',e1,e2,e3,e4⟩:=qEk (n:=n) hr hs (jR htm hs') (jR htm hx') (t:=t) (ty:=o.type) ht hi rfl rfl hz.1 hz.2
   refine⟨v',w',ρ',own',.inl ?_,e2,e3,e4⟩
   refine zB3 ho fun consts=> ?_
   simp only[builtin]
   exact xL (by simpa using e1) ()
  case unsafeSliceData=>
   split at hc
   case h_2=> cases hc
   rename_i x hargs
   simp only[Option.map_eq_some_iff] at hc
   obtain⟨y,hy,rfl⟩:=hc
   have ha:args=#[x]:=by apply Array.ext';simpa using hargs
   subst ha
   have hv:=jR htm hy
   simp only[AOp.step] at hs
   split at hs
   ·rename_i A B he
    cases hs
    rw[he] at hv
    refine jC.pure hr (v':=.pointer none) (zB3 ho fun consts=> xL ?_ ()) .nilp
    simp only[List.map_cons,List.map_nil]
    generalize a.eval x=X at hv⊢
    cases hv
    rfl
   ·rename_i k off m c he
    split at hs
    case isFalse=> cases hs
    rename_i hm
    cases hs
    rw[he] at hv
    rcases hv.slice_inv with ⟨o',cc,l,f1,f2,f3,f4,f5,hX⟩|⟨_,h0,_⟩
    ·refine jC.pure hr (v':=.pointer (some ⟨l.b,l.base+off,none⟩)) (zB3 ho fun consts=> xL ?_ ()) (.ptr _ _ _ f1)
     simp only[List.map_cons,List.map_nil,hX,f3 hm]
     have hcc:cc≠0:=by omega
     show (Builtin.unsafeSliceData_ ts o.type #[.slice (some ⟨l.b,l.base+off,none⟩) m cc]).run P w=_
     exact Lib.run_unsafeSliceData_row _ _ _ _ _ _ hcc
    ·omega
   ·cases hs
  case unsafeString=>
   split at hc
   case h_2=> cases hc
   rename_i x m t t2 hargs hts
   split at hc
   case h_2=> cases hc
   rename_i e hp
   simp only[Option.bind_eq_some_iff] at hc
   obtain⟨x',hx',m',hm',hc⟩:=hc
   split at hc
   case isFalse=> cases hc
   rename_i hce
   cases hc
   have ha:args=#[x,m]:=by apply Array.ext';simpa using hargs
   have htt:ts=#[t,t2]:=by apply Array.ext';simpa using hts
   subst ha;subst htt
   obtain⟨v',w',ρ',own',e1,e2,e3,e4⟩:=qKw hr hs (jR htm hx') (jR htm hm') (pt:=t) (it:=t2) (ty:=o.type) hp hce
   refine⟨v',w',ρ',own',.inl ?_,e2,e3,e4⟩
   refine zB3 ho fun consts=> ?_
   simp only[builtin]
   exact xL (by simpa using e1) ()
  case len=>
   split at hc
   case h_2=> cases hc
   rename_i x t hargs hts
   simp only[Option.bind_eq_some_iff] at hc
   obtain⟨y,hy,hc⟩:=hc
   have ha:args=#[x]:=by apply Array.ext';simpa using hargs
   subst ha
   have hv:=jR htm hy
   have fin:∀(m:Nat),(Builtin.len_ ts o.type #[a.eval x]).run P w=.ok (.int .i64 m) w->jC P cfg ρ own w ((execOp a.eval o).run P w) (.int .i64 m) H:=fun m hm=>
    jC.pure hr (v':=.int .i64 m) (zB3 ho fun consts=> xL (by simpa using hm) ()) (.int _ _)
   split at hc
   ·rename_i e hu
    cases hc
    simp only[AOp.step] at hs
    split at hs
    ·rename_i A m c he
     cases hs
     rw[he] at hv
     refine fin m ?_
     generalize a.eval x=X at hv⊢
     cases hv<;> simp[Builtin.len_,hts,jG hu,goInt]
    ·cases hs
   ·rename_i hu
    cases hc
    simp only[AOp.step] at hs
    split at hs
    ·rename_i s he
     cases hs
     rw[he] at hv
     refine fin s.size ?_
     rw[hv.string_eq]
     simp[Builtin.len_,hts,jG hu,goInt]
    ·cases hs
   ·rename_i k e hu
    cases hc
    simp only[AOp.step] at hs
    split at hs
    ·rename_i he
     cases hs
     rw[he] at hv
     refine fin 0 ?_
     generalize a.eval x=X at hv⊢
     cases hv;simp[Builtin.len_,hts,jG hu,goInt]
    ·rename_i r he
     split at hs
     ·rename_i es c hm
      cases hs
      rw[he] at hv
      obtain⟨_,l,es',e1,e2,e3,e4⟩:=hr.mapAt hm
      obtain⟨l',e1',hx⟩:=hv.map_inv
      rw[e1] at e1';cases e1'
      refine fin es.length ?_
      rw[hx,e4.len]
      simp[Builtin.len_,hts,jG hu,goInt,getObj,Sem.run,e3]
     ·cases hs
    ·cases hs
   ·rename_i k e hu
    cases hc
    simp only[AOp.step,Option.some.injEq,Prod.mk.injEq] at hs
    obtain⟨rfl,rfl⟩:=hs
    refine fin k ?_
    generalize a.eval x=X at hv⊢
    simp[Builtin.len_,hts,jG hu,goInt]
   ·cases hc
  case delete=>
   split at hc
   case h_2=> cases hc
   rename_i m k t hargs hts
   simp only[Option.bind_eq_some_iff] at hc
   obtain⟨m',hm',k',hk',hc⟩:=hc
   have ha:args=#[m,k]:=by apply Array.ext';simpa using hargs
   subst ha
   split at hc
   case h_2=> cases hc
   rename_i kt et hu
   simp only[Option.map_eq_some_iff] at hc
   obtain⟨s,hks,rfl⟩:=hc
   obtain⟨d,hd,hkd⟩:=zNx hks
   have hmv:=jR htm hm'
   have hkv:=jR htm hk'
   simp only[AOp.step] at hs
   split at hs
   case h_2=> cases hs
   rename_i r he
   split at hs
   case h_2=> cases hs
   rename_i es c hmap
   simp only[Option.map_eq_some_iff,Prod.mk.injEq] at hs
   obtain⟨es2,hdel,rfl,rfl⟩:=hs
   rw[he] at hmv
   obtain⟨hg,l,es',e1,e2,e3,e4⟩:=hr.mapAt hmap
   obtain⟨l',e1',hx⟩:=hmv.map_inv
   rw[e1] at e1';cases e1'
   have hchk:=zN6 (P:=P) hd hkd es'.isEmpty (a.eval k) w
   rcases qD1 hkd hkv e4 0 es2 hdel with ⟨f1,f2⟩|⟨j,u,f1,f2⟩
   ·obtain⟨g1,g2⟩:=hr.setMap (c':=c) hg e1 (es':=es') f2
    refine⟨.tuple #[],_,ρ,own,.inl (zB3 ho fun consts=> xL ?_ ()),g1,.tuple _ _ .nil,g2⟩
    show (Builtin.delete_ ts o.type #[a.eval m,a.eval k]).run P w=_
    rw[hx]
    generalize a.eval k=K at hchk f1
    simp[Builtin.delete_,hts,jG hu,getObj,setObj,Sem.run,e3,hchk,Instr.findKey,jG hd,f1]
   ·obtain⟨g1,g2⟩:=hr.setMap (c':=c) hg e1 (es':=es'.eraseIdxIfInBounds j) (by
     rw[Array.toList_eraseIdxIfInBounds];exact f2)
    refine⟨.tuple #[],_,ρ,own,.inl (zB3 ho fun consts=> xL ?_ ()),g1,.tuple _ _ .nil,g2⟩
    show (Builtin.delete_ ts o.type #[a.eval m,a.eval k]).run P w=_
    rw[hx]
    generalize a.eval k=K at hchk f1
    simp only[Nat.zero_add] at f1
    simp[Builtin.delete_,hts,jG hu,getObj,setObj,Sem.run,e3,hchk,Instr.findKey,jG hd,f1]
  case clear=>
   split at hc
   case h_2=> cases hc
   rename_i m t hargs hts
   simp only[Option.bind_eq_some_iff] at hc
   obtain⟨m',hm',hc⟩:=hc
   have ha:args=#[m]:=by apply Array.ext';simpa using hargs
   subst ha
   split at hc
   case h_2=> cases hc
   rename_i kt et hu
   cases hc
   have hmv:=jR htm hm'
   simp only[AOp.step] at hs
   split at hs
   ·rename_i he
    cases hs
    rw[he] at hmv
    refine jC.pure hr (v':=.tuple #[]) (zB3 ho fun consts=> xL ?_ ()) (.tuple _ _ .nil)
    show (Builtin.clear_ ts o.type #[a.eval m]).run P w=_
    generalize a.eval m=M at hmv
    cases hmv;simp[Builtin.clear_,hts,jG hu]
   ·rename_i r he
    split at hs
    case h_2=> cases hs
    rename_i es c hmap
    cases hs
    rw[he] at hmv
    obtain⟨hg,l,es',e1,e2,e3,e4⟩:=hr.mapAt hmap
    obtain⟨l',e1',hx⟩:=hmv.map_inv
    rw[e1] at e1';cases e1'
    obtain⟨g1,g2⟩:=hr.setMap (c':=c) hg e1 (es':=#[]) (es2:=[]) .nil
    refine⟨.tuple #[],_,ρ,own,.inl (zB3 ho fun consts=> xL ?_ ()),g1,.tuple _ _ .nil,g2⟩
    show (Builtin.clear_ ts o.type #[a.eval m]).run P w=_
    rw[hx]
    simp[Builtin.clear_,hts,jG hu,getObj,setObj,Sem.run,e3]
   ·cases hs
  case max=>
   split at hc
   case h_2=> cases hc
   rename_i x y hargs
   simp only[Option.bind_eq_some_iff,Option.map_eq_some_iff] at hc
   obtain⟨x',hx',y',hy',rfl⟩:=hc
   have ha:args=#[x,y]:=by apply Array.ext';simpa using hargs
   subst ha
   have hxv:=jR htm hx'
   have hyv:=jR htm hy'
   simp only[AOp.step] at hs
   split at hs
   case h_2=> cases hs
   rename_i k p k' q he1 he2
   cases hs
   rw[he1] at hxv;rw[he2] at hyv
   refine jC.pure hr (v':=.int k (if q > p then q else p)) (zB3 ho fun consts=> xL ?_ ()) (.int _ _)
   show (Builtin.max_ ts o.type #[a.eval x,a.eval y]).run P w=_
   rw[hxv.int_eq,hyv.int_eq];rfl
  case min=>
   split at hc
   case h_2=> cases hc
   rename_i x y hargs
   simp only[Option.bind_eq_some_iff,Option.map_eq_some_iff] at hc
   obtain⟨x',hx',y',hy',rfl⟩:=hc
   have ha:args=#[x,y]:=by apply Array.ext';simpa using hargs
   subst ha
   have hxv:=jR htm hx'
   have hyv:=jR htm hy'
   simp only[AOp.step] at hs
   split at hs
   case h_2=> cases hs
   rename_i k p k' q he1 he2
   cases hs
   rw[he1] at hxv;rw[he2] at hyv
   refine jC.pure hr (v':=.int k (if q<p then q else p)) (zB3 ho fun consts=> xL ?_ ()) (.int _ _)
   show (Builtin.min_ ts o.type #[a.eval x,a.eval y]).run P w=_
   rw[hxv.int_eq,hyv.int_eq];rfl
end
end Go.Abs
namespace Go.Abs
open Go.RowKit
section
variable {D:Type} {P:Program} {cfg:D->HRep} {ρ:Env} {own:Nat->Nat->Prop} {H:AH D} {w:World} {n:Nat} {tm:Nat->Value} {a:Act} {ext:FuncId->Option Ext1}
theorem qI2 (htm:xN ρ n tm a.tmps) (hr:Rel P cfg ρ own H w) {s:TypeId} {x:Operand} {f:Nat} {fs:Array Field} (hu:P.underlying s=some (.struct fs)) {g:Field} (hg:fs[f]?=some g) {z:Nat} (hz:zBk P g.type=some z) (hz0:z≠0)
  {y:Opd} (hy:jF n x=some y) {o:Oper} (ho:o.op=.fieldAddr s x f) {k off:Nat} (he:y.ev tm=.pointer (some ⟨k,off,none⟩)):jC P cfg ρ own w ((execOp a.eval o).run P w) (.pointer (some ⟨k,off+g.offset,none⟩)) H:=by
 have hv:=jR htm hy
 rw[he] at hv
 obtain⟨l,e1,e2⟩:=hv.ptr_inv
 refine jC.pure hr (v':=.pointer (some ⟨l.b,l.base+off+g.offset,none⟩)) ?_ (by
  have:=VR.ptr (ρ:=ρ) k (off+g.offset) l e1
  rwa [←Nat.add_assoc] at this)
 simp only[execOp,ho]
 refine xL ?_ ()
 simp only[Instr.fieldAt,Sem.run_bind,jG hu,Result.andThen_ok,hg,e2,Instr.sureAddr,Sem.run_pure,fieldPlace,zBp hz,if_neg hz0,Addr.add_lit]
theorem qC9 (htm:xN ρ n tm a.tmps) (hr:Rel P cfg ρ own H w) {t kt et:TypeId} (hu:P.underlying t=some (.map kt et)) {s:Bool} (hk:zG9 P kt=some s) {z:Value} (hz:zCz P et=some z) {m k:Operand} {m' k':Opd}
  (hm:jF n m=some m') (hkk:jF n k=some k') {ok:Bool} {o:Oper} (ho:o.op=.lookup t m k ok) {v:Value} {H':AH D} (hs:(AOp.lookup s z ok m' k').step tm H=some (v,H')):
  jC P cfg ρ own w ((execOp a.eval o).run P w) v H':=by
 obtain⟨d,hd,hkd⟩:=zNx hk
 obtain⟨z1,z2,z3,_⟩:=zF9 hz w
 have hmv:=jR htm hm
 have hkv:=jR htm hkk
 have hzz:=VR.of_ground ρ z z2
 have fin:∀(q q':Option Value),(match q,q' with|some x,some x'=> VR ρ x x'|none,none=> True|_,_=> False)->
   (Instr.lookup t (a.eval m) (a.eval k) ok).run P w=.ok (match q' with|some x=> (if ok then .tuple #[x,.bool true] else x)|none=> (if ok then .tuple #[z,.bool false] else z)) w->
   jC P cfg ρ own w ((execOp a.eval o).run P w) (zKg z ok q) H:=by
  intro q q' hq hL
  refine jC.pure hr (by simp only[execOp,ho];exact xL hL ()) ?_
  cases q<;> cases q'<;> simp only at hq
  ·cases ok
   ·exact hzz
   ·exact .tuple _ _ (.cons _ _ _ _ hzz (.cons _ _ _ _ (.bool _) .nil))
  ·cases ok
   ·exact hq
   ·exact .tuple _ _ (.cons _ _ _ _ hq (.cons _ _ _ _ (.bool _) .nil))
 have hchk:∀b,(Instr.checkKey b 10000 kt (a.eval k)).run P w=.ok () w:=fun b=> zN6 (P:=P) hd hkd b (a.eval k) w
 simp only[AOp.step] at hs
 split at hs
 ·rename_i he
  simp only[Option.some.injEq,Prod.mk.injEq] at hs
  obtain⟨rfl,rfl⟩:=hs
  rw[he] at hmv
  refine fin none none trivial ?_
  generalize a.eval m=M at hmv⊢
  generalize a.eval k=K at hchk⊢
  cases hmv
  cases ok<;> simp[Instr.lookup,jG hu,hchk,Instr.findKey,jG hd,Instr.findNow,z1]
 ·rename_i r he
  split at hs
  case h_2=> cases hs
  rename_i es c hmap
  simp only[Option.map_eq_some_iff] at hs
  obtain⟨q,hq,hs⟩:=hs
  rw[he] at hmv
  obtain⟨hg,l,es',e1,e2,e3,e4⟩:=hr.mapAt hmap
  obtain⟨l',e1',hx⟩:=hmv.map_inv
  rw[e1] at e1';cases e1'
  have hf:=zXk hkd hkv e4 0 q hq
  cases q with
  |none=>
   simp only[Prod.mk.injEq] at hs
   obtain⟨rfl,rfl⟩:=hs
   refine fin none none trivial ?_
   rw[hx]
   simp only at hf
   generalize a.eval k=K at hchk hf⊢
   cases ok<;> simp[Instr.lookup,jG hu,hchk,Instr.findKey,jG hd,hf,z1,getObj,Sem.run,e3]
  |some x=>
   simp only[Prod.mk.injEq] at hs
   obtain⟨rfl,rfl⟩:=hs
   obtain⟨j,x',hj,hxx⟩:=hf
   refine fin (some x) (some x') hxx ?_
   rw[hx]
   generalize a.eval k=K at hchk hj⊢
   cases ok<;> simp[Instr.lookup,jG hu,hchk,Instr.findKey,jG hd,hj,getObj,Sem.run,e3]
 ·cases hs
theorem qEc (b:ByteArray):(b==b)=true:=by rw[beq_toListBytes];simp
theorem zQ4 (htm:xN ρ n tm a.tmps) (hr:Rel P cfg ρ own H w) {t kt et:TypeId} (hu:P.underlying t=some (.map kt et)) {s:Bool} (hk:zG9 P kt=some s) {m k v:Operand} {m' k' v':Opd}
  (hm:jF n m=some m') (hkk:jF n k=some k') (hv:jF n v=some v') {o:Oper} (ho:o.op=.mapUpdate t m k v∨o.op=.insert t m k v) {u:Value} {H':AH D} (hs:(AOp.mapupd s m' k' v').step tm H=some (u,H')):
  jC P cfg ρ own w ((execOp a.eval o).run P w) u H':=by
 obtain⟨d,hd,hkd⟩:=zNx hk
 have hmv:=jR htm hm
 have hkv:=jR htm hkk
 have hvv:=jR htm hv
 simp only[AOp.step] at hs
 split at hs
 case h_2=> cases hs
 rename_i r he
 split at hs
 case h_2=> cases hs
 rename_i es c hmap
 simp only[Option.map_eq_some_iff,Prod.mk.injEq] at hs
 obtain⟨x,hx,rfl,rfl⟩:=hs
 rw[he] at hmv
 obtain⟨hg,l,es',e1,e2,e3,e4⟩:=hr.mapAt hmap
 obtain⟨l',e1',hxm⟩:=hmv.map_inv
 rw[e1] at e1';cases e1'
 have hchk:=zN6 (P:=P) hd hkd false (a.eval k) w
 have hex:∀w',(Instr.mapUpdate t (a.eval m) (a.eval k) (a.eval v)).run P w=.ok () w'->(execOp a.eval o).run P w=.ok .skip w':=by
  intro w' h
  rcases ho with ho|ho
  ·simp only[execOp,ho];exact zUs h
  ·simp only[execOp,ho];exact zUs h
 rcases qCj hkd hkv hvv c e4 0 x hx with ⟨f1,f2,f3⟩|⟨j,y,f1,⟨e,g1,g2⟩,f2,f3⟩
 ·obtain⟨q1,q2⟩:=hr.setMap (c':=x.2) hg e1 (es':=es'.push ⟨a.eval k,a.eval v,c⟩) (by simpa using f2)
  refine⟨undef,_,ρ,own,.inr ⟨hex _ ?_,rfl⟩,q1,VR.undef ρ,q2⟩
  rw[hxm]
  generalize a.eval k=K at*
  simp[Instr.mapUpdate,jG hu,getObj,setObj,Sem.run,e3,hchk,Instr.findKey,jG hd,f1,f3]
 ·obtain⟨q1,q2⟩:=hr.setMap (c':=x.2) hg e1 (es':=es'.modify j fun e=> { e with key:=a.eval k,val:=a.eval v }) (by simpa using f2)
  have hkind:(∃j a',a.eval k=.int j a')∨(∃b,a.eval k=.string b):=by
   simp only[Nat.zero_add] at f1
   have:∃e0 q,Instr.sameNow d (a.eval k) e0=some q:=by
    cases hes:es'.toList with
    |nil=> rw[hes] at f1;simp[Instr.findNow] at f1
    |cons e0 l0=>
     rw[hes] at f1
     unfold Instr.findNow at f1
     split at f1
     ·exact⟨_,_,‹_›⟩
     ·exact⟨_,_,‹_›⟩
     ·cases f1
   obtain⟨e0,q,hq⟩:=this
   generalize a.eval k=K at hq⊢
   unfold Instr.sameNow at hq
   split at hq
   ·exact .inl ⟨_,_,rfl⟩
   ·exact .inr ⟨_,rfl⟩
   ·rename_i h;exfalso;cases s
    ·obtain⟨kk,hh⟩:=hkd;cases hh
    ·cases hkd
   ·cases hq
  have hsb:∀mm,Instr.sameBits mm (a.eval k) (a.eval k)=true:=fun mm=> by
   rcases hkind with ⟨j,a',e⟩|⟨b,e⟩
   ·rw[e];cases mm<;> simp[Instr.sameBits]
   ·rw[e];cases mm<;> simp[Instr.sameBits,qEc]
  refine⟨undef,_,ρ,own,.inr ⟨hex _ ?_,rfl⟩,q1,VR.undef ρ,q2⟩
  rw[hxm]
  have g1':es'[j]?=some e:=by simpa using g1
  simp only[Nat.zero_add] at f1
  generalize a.eval k=K at*
  simp[Instr.mapUpdate,jG hu,getObj,setObj,Sem.run,e3,hchk,Instr.findKey,jG hd,f1,f3,g1',g2,Instr.keyThatStays,hsb]
theorem zY4 (htm:xN ρ n tm a.tmps) (hr:Rel P cfg ρ own H w) {t e:TypeId} (ht:P.underlying t=some (.slice e)) {i:TypeInfo} (hi:P.info? e=some i) {z:Value} (hz:zCz P e=some z) {l c:Operand} {l' c':Opd} (hl:jF n l=some l') (hc:jF n c=some c')
  {o:Oper} (ho:o.op=.makeSlice t l c) {v:Value} {H':AH D} (hs:(AOp.mkslice e z.cells.toList i.bytes l' c').step tm H=some (v,H')):jC P cfg ρ own w ((execOp a.eval o).run P w) v H':=by
 have hlv:=jR htm hl
 have hcv:=jR htm hc
 obtain⟨_,z2,z3,z4⟩:=zF9 hz w
 have hzs:z.cells.size=i.size:=by simpa [zBk,hi] using z4.symm
 have hz0:i.zero=some z:=by
  simp only[zCz,Option.bind_eq_some_iff] at hz
  obtain⟨i',hi',z',hz',hcc⟩:=hz
  rw[hi] at hi';cases hi'
  split at hcc
  ·cases hcc;exact hz'
  ·cases hcc
 simp only[AOp.step] at hs
 split at hs
 case h_2=> cases hs
 rename_i kl lv kc cv he1 he2
 split at hs
 case isFalse=> cases hs
 rename_i hb
 simp only[Option.some.injEq,Prod.mk.injEq] at hs
 obtain⟨rfl,rfl⟩:=hs
 rw[he1] at hlv;rw[he2] at hcv
 have hmk:=run_make (P:=P) w t e i z ht hi hz0 kl kc lv cv hb.1 hb.2.1 (by omega) hb.2.2.2
 have hcells:(madeCells z.cells (cv.toNat*i.size)).toList=(List.replicate cv.toNat z.cells.toList).flatten:=by
  rw[←zL1 z.cells cv.toNat i.size hzs];rfl
 obtain⟨ρ',own',e1,e2,e3⟩:=hr.newRow (cfg:=cfg) e (cs:=(List.replicate cv.toNat z.cells.toList).flatten) (cs':=madeCells z.cells (cv.toNat*i.size)) (by rw[←hcells];simp) (VRs.take_all (by rw[hcells];exact zOr z2 _)) (qN8 z3 _)
 have hle:lv.toNat<=cv.toNat:=by omega
 refine⟨.slice (some ⟨w.heap.size,0,none⟩) lv.toNat cv.toNat,_,ρ',own',.inl ?_,e2,.slice _ _ _ _ _ _ _ e1 hle (fun _=> rfl) (fun _=> ⟨rfl,rfl,rfl,?_,?_⟩) (fun q hq=> by omega),e3⟩
 ·simp only[execOp,ho]
  refine xL ?_ ()
  rw[hlv.int_eq,hcv.int_eq];exact hmk
 ·have:(madeCells z.cells (cv.toNat*i.size)).size=cv.toNat*i.size:=by simp[madeCells]
  rw[this];simp[Program.cellsOf,hi]
 ·simp only[maxLen];omega
end
end Go.Abs
namespace Go.Abs
open Go.RowKit
section
variable {D:Type} {P:Program} {cfg:D->HRep} {ρ:Env} {own:Nat->Nat->Prop} {H:AH D} {w:World} {n:Nat} {tm:Nat->Value} {a:Act} {ext:FuncId->Option Ext1}
theorem qIj (htm:xN ρ n tm a.tmps) (hr:Rel P cfg ρ own H w) {t:TypeId} {x i:Operand} {x' i':Opd} (hx:jF n x=some x') (hi:jF n i=some i') {op:AOp}
  (hc:(match P.underlying t with
   |some (.slice e)=> (zBk P e).map fun s=> AOp.iaddrS s x' i'
   |some (.array k e)=> (zBk P e).map fun s=> AOp.iaddrA k s x' i'
   |_=> none)=some op) {o:Oper} (ho:o.op=.indexAddr t x i) {v:Value} {H':AH D} (hs:op.step tm H=some (v,H')):jC P cfg ρ own w ((execOp a.eval o).run P w) v H':=by
 have hxv:=jR htm hx
 have hiv:=jR htm hi
 split at hc
 ·rename_i e hu
  simp only[Option.map_eq_some_iff] at hc
  obtain⟨s,hs',rfl⟩:=hc
  simp only[AOp.step] at hs
  split at hs
  case h_2=> cases hs
  rename_i k off m c kk j he1 he2
  split at hs
  case isFalse=> cases hs
  rename_i hb
  simp only[Option.some.injEq,Prod.mk.injEq] at hs
  obtain⟨rfl,rfl⟩:=hs
  rw[he1] at hxv;rw[he2] at hiv
  rcases hxv.slice_inv with ⟨o',cc,l,f1,f2,f3,f4,f5,e2⟩|⟨_,h0,_,_⟩
  case inr=> omega
  have ho':o'=l.base+off:=f3 (by omega)
  subst ho'
  refine jC.pure hr (v':=.pointer (some ⟨l.b,l.base+off+j.toNat*s,none⟩)) ?_ (by
   have:=VR.ptr (ρ:=ρ) k (off+j.toNat*s) l f1
   rwa [←Nat.add_assoc] at this)
  simp only[execOp,ho]
  refine xL ?_ ()
  rw[e2,hiv.int_eq]
  simp[Instr.indexAt,asIntOf,jG hu,hb,zBp hs',Addr.add_lit]
 ·rename_i m e hu
  simp only[Option.map_eq_some_iff] at hc
  obtain⟨s,hs',rfl⟩:=hc
  simp only[AOp.step] at hs
  split at hs
  case h_2=> cases hs
  rename_i k off kk j he1 he2
  split at hs
  case isFalse=> cases hs
  rename_i hb
  simp only[Option.some.injEq,Prod.mk.injEq] at hs
  obtain⟨rfl,rfl⟩:=hs
  rw[he1] at hxv;rw[he2] at hiv
  obtain⟨l,f1,e2⟩:=hxv.ptr_inv
  refine jC.pure hr (v':=.pointer (some ⟨l.b,l.base+off+j.toNat*s,none⟩)) ?_ (by
   have:=VR.ptr (ρ:=ρ) k (off+j.toNat*s) l f1
   rwa [←Nat.add_assoc] at this)
  simp only[execOp,ho]
  refine xL ?_ ()
  rw[e2,hiv.int_eq]
  simp[Instr.indexAt,Instr.sureAddr,asIntOf,jG hu,hb,zBp hs',Addr.add_lit]
 ·cases hc
theorem qIi (htm:xN ρ n tm a.tmps) (hr:Rel P cfg ρ own H w) {t:TypeId} {x i:Operand} {x' i':Opd} (hx:jF n x=some x') (hi:jF n i=some i') {op:AOp}
  (hc:(match P.underlying t with
   |some (.array k e)=> (zBk P e).bind fun s=> (zFx P e).map fun g=> AOp.indexA k s g x' i'
   |some .string=> some (AOp.indexS x' i')
   |_=> none)=some op) {o:Oper} (ho:o.op=.index t x i) {v:Value} {H':AH D} (hs:op.step tm H=some (v,H')):jC P cfg ρ own w ((execOp a.eval o).run P w) v H':=by
 have hxv:=jR htm hx
 have hiv:=jR htm hi
 split at hc
 ·rename_i m e hu
  simp only[Option.bind_eq_some_iff,Option.map_eq_some_iff] at hc
  obtain⟨s,hs',g,hg,rfl⟩:=hc
  simp only[AOp.step] at hs
  split at hs
  case h_2=> cases hs
  rename_i cs kk j he1 he2
  split at hs
  case isFalse=> cases hs
  rename_i hb
  simp only[Option.map_eq_some_iff,Prod.mk.injEq] at hs
  obtain⟨v0,hv0,rfl,rfl⟩:=hs
  rw[he1] at hxv;rw[he2] at hiv
  obtain⟨cs',e2,e3⟩:=hxv.agg_inv
  obtain⟨v',g1,g2⟩:=zIl hs' hg e3 hv0 w
  refine jC.pure hr (v':=v') ?_ g2
  simp only[execOp,ho]
  refine xL ?_ ()
  rw[e2,hiv.int_eq]
  simp[Instr.index,asIntOf,jG hu,hb,zBp hs',g1]
 ·rename_i hu
  cases hc
  simp only[AOp.step] at hs
  split at hs
  case h_2=> cases hs
  rename_i s kk j he1 he2
  split at hs
  case isFalse=> cases hs
  rename_i hb
  simp only[Option.map_eq_some_iff,Prod.mk.injEq] at hs
  obtain⟨b,hb2,rfl,rfl⟩:=hs
  rw[he1] at hxv;rw[he2] at hiv
  refine jC.pure hr (v':=.int .u8 b.toNat) ?_ (.int _ _)
  simp only[execOp,ho]
  refine xL ?_ ()
  rw[hxv.string_eq,hiv.int_eq]
  have hsb:s[j.toNat]?=some b:=by
   have:s.data[j.toNat]?=some b:=by simpa using hb2
   obtain⟨hlt,hv⟩:=Array.getElem?_eq_some_iff.1 this
   rw[getElem?_pos s j.toNat hlt]
   exact congrArg some hv
  simp[Instr.index,asIntOf,jG hu,hb,hsb]
 ·cases hc
theorem zQt (htm:xN ρ n tm a.tmps) (hr:Rel P cfg ρ own H w) {t e:TypeId} {k0 sz:Nat} (ht:(∃ar,P.underlying t=some (.pointer ar)/\P.underlying ar=some (.array k0 e))∨P.underlying t=some (.array k0 e)) (hsz:zBk P e=some sz) {x:Operand} {lo hi:Option Operand} {y:Opd} {lo' hi':Option Opd} (hx:jF n x=some y)
  (hlo:zBr n lo=some lo') (hhi:zBr n hi=some hi') {o:Oper} (ho:o.op=.slice t x lo hi none) {v:Value} {H':AH D} (hstep:(AOp.sliceA k0 sz y lo' hi').step tm H=some (v,H')):
  jC P cfg ρ own w ((execOp a.eval o).run P w) v H':=by
 have hxv:=jR htm hx
 have opt:∀{p:Option Operand} {p':Option Opd},zBr n p=some p'->(p'=none↔p=none)/\∀q',p'=some q'->∃q,p=some q/\VR ρ (q'.ev tm) (a.eval q):=by
  intro p p' h
  cases p with
  |none=> simp[zBr] at h;subst h;exact⟨by simp,fun q h=> by cases h⟩
  |some q=>
   simp only[zBr,Option.map_eq_some_iff] at h
   obtain⟨z,hz,rfl⟩:=h
   exact⟨by simp,fun q' hq=> by cases hq;exact⟨q,rfl,jR htm hz⟩⟩
 obtain⟨lo1,lo2⟩:=opt hlo
 obtain⟨hi1,hi2⟩:=opt hhi
 simp only[AOp.step] at hstep
 split at hstep
 case h_2=> cases hstep
 rename_i k off he
 rw[he] at hxv
 split at hstep
 case h_2=> cases hstep
 rename_i h hh
 split at hstep
 case h_2=> cases hstep
 rename_i l hl
 cases hstep
 obtain⟨lc,hlc,hX⟩:∃lc,ρ.loc k=some lc/\a.eval x=.pointer (some ⟨lc.b,lc.base+off,none⟩):=by
  generalize a.eval x=X at hxv⊢
  cases hxv;exact⟨_,‹_›,rfl⟩
 have hhk:h<=k0:=by
  cases hhi':hi' with
  |none=> rw[hhi'] at hh;simp at hh;omega
  |some q'=> rw[hhi'] at hh;exact zKx hh
 have L:∀code,(match lo.map a.eval with|some v=> Instr.sliceBound v h code|none=> pure 0:Sem Nat).run P w=.ok l w/\l<=h:=by
  intro code
  cases hlo':lo' with
  |none=> rw[lo1.1 hlo'];rw[hlo'] at hl;simp at hl;subst hl;exact⟨rfl,by omega⟩
  |some q'=>
   obtain⟨q,hq,hqv⟩:=lo2 q' hlo'
   rw[hq];rw[hlo'] at hl
   exact zEw (P:=P) hl hqv (Nat.le_refl _) _ w
 have hlh:=(L .sliceB).2
 have key:(Instr.sliceBounds false k0 k0 (lo.map a.eval) (hi.map a.eval) none).run P w=.ok (l,h,k0) w:=by
  have:=(L .sliceB).1
  revert this
  cases hhi':hi' with
  |none=>
   rw[hi1.1 hhi'];rw[hhi'] at hh;simp at hh;subst hh
   generalize lo.map a.eval=LO
   intro this
   cases LO<;> simp_all [Instr.sliceBounds]
  |some q'=>
   obtain⟨q,hq,hqv⟩:=hi2 q' hhi'
   rw[hq];rw[hhi'] at hh
   obtain⟨b1,b2⟩:=zEw (P:=P) hh hqv (Nat.le_refl _) .sliceAlen w
   generalize lo.map a.eval=LO
   intro this
   cases LO<;> simp_all [Instr.sliceBounds]
 refine jC.pure hr (v':=.slice (some (if k0=l then ⟨lc.b,lc.base+off,none⟩ else (⟨lc.b,lc.base+off,none⟩:Addr).add (l*sz))) (h - l) (k0 - l)) ?_ ?_
 ·simp only[execOp,ho]
  refine xL ?_ ()
  rw[hX]
  rcases ht with ⟨ar,ht,har⟩|ht
  ·simp[Instr.sliceAt,Instr.slice,jG ht,jG har,asAddr,key,zBp hsz]
  ·simp[Instr.sliceAt,jG ht,Instr.sureAddr,key,zBp hsz]
 ·have hO:(if k0=l then (⟨lc.b,lc.base+off,none⟩:Addr) else (⟨lc.b,lc.base+off,none⟩:Addr).add (l*sz))=⟨lc.b,if k0=l then lc.base+off else lc.base+off+l*sz,none⟩:=by
   split
   ·rfl
   ·unfold Addr.add;split
    ·rename_i h0;simp[h0]
    ·rfl
  rw[hO]
  refine .slice _ _ _ _ _ _ _ hlc (by omega) (fun hm=> ?_) (fun hc=> by omega) (fun q hq=> by omega)
  rw[if_neg (by omega)];omega
theorem qBe (htm:xN ρ n tm a.tmps) (hr:Rel P cfg ρ own H w) {t:TypeId} (ht:P.underlying t=some .string) {x:Operand} {lo hi:Option Operand} {y:Opd} {lo' hi':Option Opd} (hx:jF n x=some y)
  (hlo:zBr n lo=some lo') (hhi:zBr n hi=some hi') {o:Oper} (ho:o.op=.slice t x lo hi none) {v:Value} {H':AH D} (hstep:(AOp.sliceS y lo' hi').step tm H=some (v,H')):
  jC P cfg ρ own w ((execOp a.eval o).run P w) v H':=by
 have hxv:=jR htm hx
 have opt:∀{p:Option Operand} {p':Option Opd},zBr n p=some p'->(p'=none↔p=none)/\∀q',p'=some q'->∃q,p=some q/\VR ρ (q'.ev tm) (a.eval q):=by
  intro p p' h
  cases p with
  |none=> simp[zBr] at h;subst h;exact⟨by simp,fun q h=> by cases h⟩
  |some q=>
   simp only[zBr,Option.map_eq_some_iff] at h
   obtain⟨z,hz,rfl⟩:=h
   exact⟨by simp,fun q' hq=> by cases hq;exact⟨q,rfl,jR htm hz⟩⟩
 obtain⟨lo1,lo2⟩:=opt hlo
 obtain⟨hi1,hi2⟩:=opt hhi
 simp only[AOp.step] at hstep
 split at hstep
 case h_2=> cases hstep
 rename_i s he
 rw[he] at hxv
 split at hstep
 case h_2=> cases hstep
 rename_i h hh
 split at hstep
 case h_2=> cases hstep
 rename_i l hl
 cases hstep
 refine jC.pure hr (v':=.string (s.extract l h)) ?_ (.string _)
 simp only[execOp,ho]
 refine xL ?_ ()
 rw[hxv.string_eq]
 have L:∀code,(match lo.map a.eval with|some v=> Instr.sliceBound v h code|none=> pure 0:Sem Nat).run P w=.ok l w:=by
  intro code
  cases hlo':lo' with
  |none=> rw[lo1.1 hlo'];rw[hlo'] at hl;simp at hl;subst hl;rfl
  |some q'=>
   obtain⟨q,hq,hqv⟩:=lo2 q' hlo'
   rw[hq];rw[hlo'] at hl
   exact (zEw (P:=P) hl hqv (Nat.le_refl _) _ w).1
 have key:(Instr.sliceBounds false s.size s.size (lo.map a.eval) (hi.map a.eval) none).run P w=.ok (l,h,s.size) w:=by
  have:=L .sliceB
  revert this
  cases hhi':hi' with
  |none=>
   rw[hi1.1 hhi'];rw[hhi'] at hh;simp at hh;subst hh
   generalize lo.map a.eval=LO
   intro this
   cases LO<;> simp_all [Instr.sliceBounds]
  |some q'=>
   obtain⟨q,hq,hqv⟩:=hi2 q' hhi'
   rw[hq];rw[hhi'] at hh
   have b1:=(zEw (P:=P) hh hqv (Nat.le_refl _) .sliceAlen w).1
   generalize lo.map a.eval=LO
   intro this
   cases LO<;> simp_all [Instr.sliceBounds]
 simp[Instr.sliceAt,Instr.slice,jG ht,key]
theorem VE.find {b:Nat}:∀{l l':List MapEntry},VE ρ l l'->∀{e:MapEntry},l.find? (·.born==b)=some e->∃e',l'.find? (·.born==b)=some e'/\VR ρ e.key e'.key/\VR ρ e.val e'.val
 |_,_,.nil,e,h=> by cases h
 |_,_,.cons k k' v v' m l l' h1 h2 h3,e,h=> by
  rw[List.find?_cons] at h⊢
  split at h
  ·rename_i hb
   simp only[Option.some.injEq] at h
   subst h
   exact⟨⟨k',v',m⟩,by simp only at hb⊢;rw[hb],h1,h2⟩
  ·rename_i hb
   obtain⟨e',g1,g2⟩:=VE.find h3 h
   exact⟨e',by simp only at hb⊢;rw[hb];exact g1,g2⟩
theorem qC0 (htm:xN ρ n tm a.tmps) (hr:Rel P cfg ρ own H w) {x:Operand} {y:Opd} (hy:jF n x=some y) {o:Oper} (ho:o.op=.entry x) {v:Value} {H':AH D} (hs:(AOp.mentry y).step tm H=some (v,H')):
  jC P cfg ρ own w ((execOp a.eval o).run P w) v H':=by
 have hv:=jR htm hy
 simp only[AOp.step] at hs
 split at hs
 case h_2=> cases hs
 rename_i k he
 split at hs
 case h_2=> cases hs
 rename_i m since seen stepped hg
 split at hs
 case h_2=> cases hs
 rename_i es c b hm hl
 split at hs
 case isFalse=> cases hs
 rename_i hc
 simp only[Option.map_eq_some_iff,Prod.mk.injEq] at hs
 obtain⟨e,hf,rfl,rfl⟩:=hs
 rw[he] at hv
 obtain⟨l,hl1,hx⟩:=hv.ptr_inv
 obtain⟨l2,lm,g1,g2,g3,g4,g5⟩:=hr.obj k _ hg
 rw[hl1] at g1;cases g1
 obtain⟨_,l3,es',e1,e2,e3,e4⟩:=hr.mapAt hm
 rw[e1] at g4;cases g4
 obtain⟨e',f1,f2,f3⟩:=VE.find e4 hf
 refine jC.pure hr (v':=.tuple #[e'.key,e'.val]) ?_ (.tuple _ _ (.cons _ _ _ _ f2 (.cons _ _ _ _ f3 .nil)))
 simp only[execOp,ho]
 refine xL ?_ ()
 rw[hx,g2]
 have hlast:seen.toArray.back?=some b:=by rw[←hl];simp
 have hfa:es'.find? (·.born==b)=some e':=by rw[←Array.find?_toList];exact f1
 simp only[Instr.entry,getObj,Sem.run_bind,Sem.run,g5,e3,Result.andThen,hlast,hc,hfa]
 simp[Sem.run]
theorem qCx (htm:xN ρ n tm a.tmps) (hr:Rel P cfg ρ own H w) {t kt et:TypeId} (hu:P.underlying t=some (.map kt et)) {x:Operand} {y:Opd} (hy:jF n x=some y) {o:Oper} (ho:o.op=.range t x) {v:Value} {H':AH D} (hs:(AOp.mrange y).step tm H=some (v,H')):
  jC P cfg ρ own w ((execOp a.eval o).run P w) v H':=by
 have hv:=jR htm hy
 simp only[AOp.step] at hs
 split at hs
 case h_2=> cases hs
 rename_i r he
 split at hs
 case h_2=> cases hs
 rename_i es c hm
 simp only[Option.some.injEq,Prod.mk.injEq] at hs
 obtain⟨rfl,rfl⟩:=hs
 rw[he] at hv
 obtain⟨l,hl1,hx⟩:=hv.map_inv
 obtain⟨hg,l3,es',e1,e2,e3,e4⟩:=hr.mapAt hm
 rw[hl1] at e1;cases e1
 have hle:ρ.le (ρ.put H.next ⟨w.heap.size,0,0,0⟩):=Env.put_le (hr.dom _ (Nat.le_refl _))
 refine⟨.pointer (some ⟨w.heap.size,0,none⟩),w.alloc (.mapIter (some l.b) c #[] c),ρ.put H.next ⟨w.heap.size,0,0,0⟩,_,.inl ?_,Ext.alloc hr _ _,.ptr H.next 0 ⟨w.heap.size,0,0,0⟩ (by simp[Env.loc_put]),hr.alloc _ (by intro cs h;cases h) _ _ ?_⟩
 ·simp only[execOp,ho]
  refine xL ?_ ()
  rw[hx]
  exact run_range_map w t kt et l.b es' c hu e3
 ·exact⟨⟨w.heap.size,0,0,0⟩,l,by simp[Env.loc_put],rfl,fun i=> Iff.rfl,hle _ _ hl1,heap_alloc_new w _⟩
theorem qBd (htm:xN ρ n tm a.tmps) (hr:Rel P cfg ρ own H w) {t:TypeId} (hu:P.underlying t=some .string) {x:Operand} {y:Opd} (hy:jF n x=some y) {o:Oper} (ho:o.op=.range t x) {v:Value} {H':AH D} (hs:(AOp.srange y).step tm H=some (v,H')):
  jC P cfg ρ own w ((execOp a.eval o).run P w) v H':=by
 have hv:=jR htm hy
 simp only[AOp.step] at hs
 split at hs
 case h_2=> cases hs
 rename_i s he
 simp only[Option.some.injEq,Prod.mk.injEq] at hs
 obtain⟨rfl,rfl⟩:=hs
 rw[he] at hv
 have hx:=hv.string_eq
 refine⟨.pointer (some ⟨w.heap.size,0,none⟩),w.alloc (.stringIter s 0),ρ.put H.next ⟨w.heap.size,0,0,0⟩,_,.inl ?_,Ext.alloc hr _ _,.ptr H.next 0 ⟨w.heap.size,0,0,0⟩ (by simp[Env.loc_put]),hr.alloc _ (by intro cs h;cases h) _ _ ?_⟩
 ·simp only[execOp,ho]
  refine xL ?_ ()
  rw[hx]
  simp[Instr.range,jG hu]
 ·exact⟨⟨w.heap.size,0,0,0⟩,by simp[Env.loc_put],rfl,fun i=> Iff.rfl,heap_alloc_new w _⟩
theorem qGy (htm:xN ρ n tm a.tmps) (hr:Rel P cfg ρ own H w) {x:Operand} {y:Opd} (hy:jF n x=some y) {o:Oper} (ho:o.op=.next x true) {v:Value} {H':AH D} (hs:(AOp.snext y).step tm H=some (v,H')):
  jC P cfg ρ own w ((execOp a.eval o).run P w) v H':=by
 have hv:=jR htm hy
 simp only[AOp.step] at hs
 split at hs
 case h_2=> cases hs
 rename_i k he
 split at hs
 case h_2=> cases hs
 rename_i s pos hg
 rw[he] at hv
 obtain⟨l,hl1,hx⟩:=hv.ptr_inv
 obtain⟨l2,g1,g2,g3,g4⟩:=hr.obj k _ hg
 rw[hl1] at g1;cases g1
 have hlt:=(Array.getElem?_eq_some_iff.1 g4).1
 split at hs
 ·rename_i hp
  simp only[Option.some.injEq,Prod.mk.injEq] at hs
  obtain⟨rfl,rfl⟩:=hs
  have hoth:∀i,i≠l.b->(w.heap.setIfInBounds l.b (.stringIter s (pos+(Utf8.decode s pos).2)))[i]?=w.heap[i]?:=fun i hi=> Array.getElem?_setIfInBounds_ne (Ne.symm hi)
  refine⟨_,{ w with heap:=w.heap.setIfInBounds l.b (.stringIter s (pos+(Utf8.decode s pos).2)) },ρ,own,.inl ?_,Ext.turn (k:=k) (b:=l.b) ((g3 _).2 rfl) (by simp) hoth rfl rfl rfl,
   .tuple _ _ (.cons _ _ _ _ (.bool true) (.cons _ _ _ _ (.int .i64 pos) (.cons _ _ _ _ (.int .i32 _) .nil))),hr.turn hg g3 (by simp) hoth ⟨l,hl1,g2,g3,by simp[hlt]⟩ (by intro cs h;cases h)⟩
  simp only[execOp,ho]
  refine xL ?_ ()
  rw[hx,g2]
  simp only[Instr.next,getObj,setObj,Sem.run_bind,Sem.run,g4,Result.andThen,hp,if_true]
  simp[goInt,Sem.run]
 ·rename_i hp
  simp only[Option.some.injEq,Prod.mk.injEq] at hs
  obtain⟨rfl,rfl⟩:=hs
  refine jC.pure hr (v':=.tuple #[.bool false]) ?_ (.tuple _ _ (.cons _ _ _ _ (.bool false) .nil))
  simp only[execOp,ho]
  refine xL ?_ ()
  rw[hx,g2]
  simp only[Instr.next,getObj,Sem.run_bind,Sem.run,g4,Result.andThen,hp,if_false]
  rfl
theorem zL2:∀{l:List Value} {bs:List UInt8},bytesOf? l=some bs->∃ns:List Int,l=ns.map (Value.int .u8)/\bs=ns.map fun n=> UInt8.ofNat n.toNat
 |[],bs,h=> by simp[bytesOf?] at h;exact⟨[],rfl,by simp[h]⟩
 |v::l,bs,h=> by
  unfold bytesOf? at h
  split at h
  ·rename_i h2;cases h2
  ·rename_i n l2 h2
   cases h2
   simp only[Option.map_eq_some_iff] at h
   obtain⟨b2,h,rfl⟩:=h
   obtain⟨ns,rfl,rfl⟩:=zL2 h
   exact⟨n::ns,rfl,rfl⟩
  ·cases h
theorem qCo (ns:List Int):∀r:ByteArray,ns.foldl (fun r n=> r.push (UInt8.ofNat n.toNat)) r=⟨r.data++(ns.map fun n=> UInt8.ofNat n.toNat).toArray⟩:=by
 induction ns with
 |nil=> intro r;cases r;simp
 |cons n ns ih=> intro r;simp only[List.foldl_cons,ih];cases r;simp[ByteArray.push]
theorem VRs.ints_eq {k:IntKind}:∀{ns:List Int} {l':List Value},VRs ρ (ns.map (Value.int k)) l'->l'=ns.map (Value.int k)
 |[],_,h=> by cases h;rfl
 |n::ns,_,h=> by
  cases h with
  |cons _ v' _ l' h1 h2=> rw[h1.int_eq,VRs.ints_eq h2];rfl
theorem qE3 (htm:xN ρ n tm a.tmps) (hr:Rel P cfg ρ own H w) {src dst e:TypeId} (hu1:P.underlying src=some (.slice e)) (hu2:P.underlying dst=some .string) (hu3:P.underlying e=some (.int .u8)) {x:Operand} {y:Opd} (hy:jF n x=some y) {o:Oper} (ho:o.op=.convert src dst x) {v:Value} {H':AH D} (hs:(AOp.tostr y).step tm H=some (v,H')):
  jC P cfg ρ own w ((execOp a.eval o).run P w) v H':=by
 have hv:=jR htm hy
 have hconv:∀s,(∃A m c',a.eval x=.slice A m c')->(Conv.bytesToString (a.eval x)).run P w=.ok (.string s) w->(execOp a.eval o).run P w=.ok (.value (.string s)) w:=fun s ⟨A,m,c',hx⟩ h=> by
  simp only[execOp,ho]
  refine xL ?_ ()
  have:(convert src dst (a.eval x)).run P w=(Conv.bytesToString (a.eval x)).run P w:=by
   rw[hx]
   cases A<;> simp[convert,jG hu1,jG hu2,jG hu3]
  rw[this,h]
 simp only[AOp.step] at hs
 split at hs
 ·rename_i _ _ he
  simp only[Option.some.injEq,Prod.mk.injEq] at hs
  obtain⟨rfl,rfl⟩:=hs
  rw[he] at hv
  have hx:∃c',a.eval x=.slice none 0 c':=by
   revert hv
   generalize a.eval x=X
   intro hv
   cases hv
   exact⟨_,rfl⟩
  obtain⟨c',hx⟩:=hx
  exact jC.pure hr (hconv _ ⟨_,_,_,hx⟩ (by rw[hx];rfl)) (.string _)
 ·rename_i k off m cc he
  rw[he] at hv
  split at hs
  case h_2=> cases hs
  rename_i cs hm
  simp only[Option.map_eq_some_iff,Prod.mk.injEq] at hs
  obtain⟨bs,hb,rfl,rfl⟩:=hs
  obtain⟨ns,rfl,rfl⟩:=zL2 hb
  have hsl:∃A m c',a.eval x=.slice A m c':=by
   revert hv
   generalize a.eval x=X
   intro hv
   cases hv<;> exact⟨_,_,_,rfl⟩
  refine jC.pure hr (hconv _ hsl ?_) (.string _)
  have hlen:=AH.many_length hm
  rw[List.length_map] at hlen
  have hempty:ns=[]->∀(A:Option Addr) (c':Nat),a.eval x=.slice A 0 c'->(Conv.bytesToString (a.eval x)).run P w=.ok (.string ⟨(ns.map fun n=> UInt8.ofNat n.toNat).toArray⟩) w:=by
   intro hn A c' hx
   subst hn
   rw[hx]
   cases A with
   |none=> rfl
   |some A=>
    rw[run_bytesToString w A 0 c' [] (by simp[loadCells,loadCellsFrom])]
    rfl
  rcases hv.slice_inv with ⟨o',cc',l,h1,h2,h3,h4,h5,hx⟩|⟨rfl,rfl,h1,A,cc',hx,h2⟩
  ·by_cases hn:ns=[]
   ·have hm0:m=0:=by rw[←hlen,hn];rfl
    subst hm0
    exact hempty hn _ _ hx
   ·obtain⟨l2,cs',f1,f2,f3,f4,f5⟩:=hr.many hm (by simpa using hn)
    rw[h1] at f1;cases f1
    have hcs:=VRs.ints_eq f2
    subst hcs
    have hm0:0<m:=by
     rcases Nat.eq_zero_or_pos m with h|h
     ·subst h;exact absurd (List.eq_nil_of_length_eq_zero hlen) hn
     ·exact h
    rw[hx,h3 hm0]
    have hlc:=run_loadCells_list (P:=P) w ⟨l.b,l.base+off,none⟩ _ f5
    rw[List.length_map,hlen] at hlc
    rw[run_bytesToString w _ m cc' ns (by rw[hlc]),qCo]
    simp
  ·exact hempty (List.eq_nil_of_length_eq_zero hlen) _ _ hx
 ·cases hs
theorem qLi (hext:∀f x,ext f=some x->∀args w,(callFunc f args).run P w=((x.sem args).run P w).andThen fun v w'=> .ok (.value v) w')
  (htm:xN ρ n tm a.tmps) (hr:Rel P cfg ρ own H w) {o:Oper} {op:AOp} (hc:zHt P ext n o=some op) {v:Value} {H':AH D} (hs:op.step tm H=some (v,H')):
  jC P cfg ρ own w ((execOp a.eval o).run P w) v H':=by
 obtain⟨dst,op0,ty,pos,after,guard⟩:=o
 cases op0<;> simp only[zHt,Option.bind_eq_some_iff,Option.map_eq_some_iff,reduceCtorEq] at hc
 case move x=>
  obtain⟨y,hy,rfl⟩:=hc
  simp only[AOp.step,Option.some.injEq,Prod.mk.injEq] at hs
  obtain⟨rfl,rfl⟩:=hs
  exact jC.pure hr rfl (jR htm hy)
 case assign x=>
  obtain⟨y,hy,rfl⟩:=hc
  simp only[AOp.step,Option.some.injEq,Prod.mk.injEq] at hs
  obtain⟨rfl,rfl⟩:=hs
  exact jC.pure hr rfl (jR htm hy)
 case pick c x y=>
  obtain⟨c',hc',x',hx',y',hy',rfl⟩:=hc
  have hcv:=jR htm hc'
  simp only[AOp.step] at hs
  split at hs
  case h_2=> cases hs
  rename_i b he
  simp only[Option.some.injEq,Prod.mk.injEq] at hs
  obtain⟨rfl,rfl⟩:=hs
  rw[he] at hcv
  refine jC.pure hr (v':=if b then a.eval x else a.eval y) ?_ (by cases b;exact jR htm hy';exact jR htm hx')
  simp only[execOp,hcv.bool_eq,asBool]
  cases b<;> rfl
 case alloc e=>
  obtain⟨z,hz,rfl⟩:=hc
  simp only[AOp.step,Option.some.injEq,Prod.mk.injEq] at hs
  obtain⟨rfl,rfl⟩:=hs
  exact qJr hr hz rfl
 case box e x=>
  obtain⟨y,hy,rfl⟩:=hc
  simp only[AOp.step] at hs
  split at hs
  ·rename_i h1
   simp only[Option.some.injEq,Prod.mk.injEq] at hs
   obtain⟨rfl,rfl⟩:=hs
   exact qSo htm hr hy rfl h1
  ·cases hs
 case build t parts=>
  obtain⟨z,hz,hc⟩:=hc
  split at hc
  ·rename_i fs hu
   simp only[Option.bind_eq_some_iff,Option.map_eq_some_iff] at hc
   obtain⟨pl,hpl,ps,hps,rfl⟩:=hc
   simp only[AOp.step,Option.map_eq_some_iff,Prod.mk.injEq] at hs
   obtain⟨l,hl,rfl,rfl⟩:=hs
   exact zU4 htm hr hz (.inl ⟨fs,pl,hu,hpl,hps⟩) rfl hl
  ·rename_i k e hu
   simp only[Option.bind_eq_some_iff,Option.map_eq_some_iff] at hc
   obtain⟨s,hs',ps,hps,rfl⟩:=hc
   simp only[AOp.step,Option.map_eq_some_iff,Prod.mk.injEq] at hs
   obtain⟨l,hl,rfl,rfl⟩:=hs
   exact zU4 htm hr hz (.inr ⟨k,e,s,hu,hs',hps⟩) rfl hl
  ·cases hc
 case buildSlice t len parts=>
  split at hc
  case h_2=> cases hc
  rename_i e hu
  simp only[Option.bind_eq_some_iff] at hc
  obtain⟨s,hs',z,hz,hc⟩:=hc
  split at hc
  case isFalse=> cases hc
  rename_i hlen
  simp only[Option.map_eq_some_iff] at hc
  obtain⟨ps,hps,rfl⟩:=hc
  simp only[AOp.step] at hs
  split at hs
  case h_2=> cases hs
  rename_i l hl
  split at hs
  case isFalse=> cases hs
  rename_i h1
  simp only[Option.some.injEq,Prod.mk.injEq] at hs
  obtain⟨rfl,rfl⟩:=hs
  exact qEd htm hr hu hs' hz hlen hps rfl hl h1
 case load t x=>
  obtain⟨g,hg,y,hy,hc⟩:=hc
  split at hc
  ·rename_i hgt
   simp only[Option.map_eq_some_iff] at hc
   obtain⟨s,hs',rfl⟩:=hc
   subst hgt
   simp only[AOp.step] at hs
   split at hs
   case h_2=> cases hs
   rename_i k off he
   simp only[Option.map_eq_some_iff,Prod.mk.injEq] at hs
   obtain⟨l,hl,rfl,rfl⟩:=hs
   exact qH3 htm hr hg hs' hy rfl he hl
  ·rename_i hgf
   cases hc
   have hgf:g=false:=by simpa using hgf
   subst hgf
   simp only[AOp.step] at hs
   split at hs
   case h_2=> cases hs
   rename_i k off he
   split at hs
   case h_2=> cases hs
   rename_i cs hcs
   simp only[Option.map_eq_some_iff,Prod.mk.injEq] at hs
   obtain⟨v0,hv0,rfl,rfl⟩:=hs
   exact qOy htm hr hg hy rfl he hcs hv0
 case store t x u=>
  obtain⟨s,hs',x',hx',u',hu',rfl⟩:=hc
  simp only[AOp.step] at hs
  split at hs
  case h_2=> cases hs
  rename_i k off he
  split at hs
  case h_2=> cases hs
  rename_i e cs hk
  split at hs
  case isFalse=> cases hs
  rename_i hb
  simp only[Option.some.injEq,Prod.mk.injEq] at hs
  obtain⟨rfl,rfl⟩:=hs
  exact qFj htm hr hs' hx' hu' rfl he hk hb.1 hb.2.1 hb.2.2
 case nilCheck x=>
  obtain⟨y,hy,rfl⟩:=hc
  have hv:=jR htm hy
  simp only[AOp.step] at hs
  split at hs
  ·rename_i ad he
   simp only[Option.some.injEq,Prod.mk.injEq] at hs
   obtain⟨rfl,rfl⟩:=hs
   rw[he] at hv
   refine jC.pure hr (v':=a.eval x) ?_ hv
   simp only[execOp]
   generalize a.eval x=X at hv⊢
   cases hv;rfl
  ·rename_i f p q he
   simp only[Option.some.injEq,Prod.mk.injEq] at hs
   obtain⟨rfl,rfl⟩:=hs
   rw[he] at hv
   refine jC.pure hr (v':=a.eval x) ?_ hv
   simp only[execOp]
   generalize a.eval x=X at hv⊢
   cases hv;rfl
  ·cases hs
 case binOp op t x y yt=>
  obtain⟨x',hx',y',hy',hc⟩:=hc
  have hxv:=jR htm hx'
  have hyv:=jR htm hy'
  have fin:AOp.bin op x' y'=(AOp.bin op x' y')->∀v0,zBl op (x'.ev tm) (y'.ev tm)=some v0->jC P cfg ρ own w ((execOp a.eval ⟨dst,.binOp op t x y yt,ty,pos,after,guard⟩).run P w) v0 H:=fun _ v0 h0=> by
   obtain⟨b1,b2⟩:=qSq (P:=P) (w:=w) h0 hxv hyv t x y
   exact jC.pure hr (by simp only[execOp];exact xL b1 ()) b2
  split at hc
  ·cases hc
   simp only[AOp.step,Option.map_eq_some_iff,Prod.mk.injEq] at hs
   obtain⟨v0,h0,rfl,rfl⟩:=hs
   exact fin rfl _ h0
  ·cases hc
   simp only[AOp.step,Option.map_eq_some_iff,Prod.mk.injEq] at hs
   obtain⟨v0,h0,rfl,rfl⟩:=hs
   exact fin rfl _ h0
  ·cases hc
   simp only[AOp.step,Option.map_eq_some_iff,Prod.mk.injEq] at hs
   obtain⟨v0,h0,rfl,rfl⟩:=hs
   exact fin rfl _ h0
  ·rename_i ms hu
   have hk:∀{z:Value},y'=.k z->y=.const z:=fun {z} e=> by
    subst e
    cases y<;> simp only[jF] at hy'
    ·split at hy'<;> cases hy'
    ·split at hy'
     ·cases hy';rfl
     ·cases hy'
    ·cases hy'
    ·cases hy'
   have nil:∀(neg:Bool),y'=.k .nilIface->op=(if neg then .neq else .eql)->(AOp.ifnil neg x').step tm H=some (v,H')->jC P cfg ρ own w ((execOp a.eval ⟨dst,.binOp op t x y yt,ty,pos,after,guard⟩).run P w) v H':=by
    intro neg hyk hop hs
    have hyc:=hk hyk
    subst hyc
    have run:∀(X:Value) (b:Bool),a.eval x=X->(X=.nilIface/\b=true∨(∃t v,X=.iface t v)/\b=false)->(execOp a.eval ⟨dst,.binOp op t x (.const .nilIface) yt,ty,pos,after,guard⟩).run P w=.ok (.value (.bool (if neg then !b else b))) w:=by
     intro X b hX hb
     have heq:(Op.equal t X .nilIface).run P w=.ok b w:=by
      show (Op.equalIn Op.maxDepth t _ _).run P w=_
      rw[show Op.maxDepth=(Op.maxDepth - 1)+1 from rfl,Op.equalIn]
      rcases hb with ⟨rfl,rfl⟩|⟨⟨t0,v0,rfl⟩,rfl⟩<;> simp[jG hu]
     simp only[execOp,hop]
     refine xL ?_ ()
     rw[hX]
     show (do eqGuard _ t x (.const .nilIface) X .nilIface;binOp _ t X .nilIface:Sem Value).run P w=_
     rcases hb with ⟨rfl,rfl⟩|⟨⟨t0,v0,rfl⟩,rfl⟩<;> cases neg<;> simp[eqGuard,binOp,heq]
    simp only[AOp.step] at hs
    split at hs
    ·rename_i he
     cases hs
     rw[he] at hxv
     have hX:a.eval x=.nilIface:=by
      generalize a.eval x=X at hxv;cases hxv;rfl
     have:=run _ true hX (.inl ⟨rfl,rfl⟩)
     exact jC.pure hr this (by cases neg<;> exact .bool _)
    ·rename_i t0 v0 he
     cases hs
     rw[he] at hxv
     have hX:∃v1,a.eval x=.iface t0 v1:=by
      generalize a.eval x=X at hxv;cases hxv;exact⟨_,rfl⟩
     obtain⟨v1,hX⟩:=hX
     have:=run _ false hX (.inr ⟨⟨_,_,rfl⟩,rfl⟩)
     exact jC.pure hr this (by cases neg<;> exact .bool _)
    ·cases hs
   split at hc
   ·cases hc
    exact nil false rfl rfl hs
   ·cases hc
    exact nil true rfl rfl hs
   ·cases hc
  ·rename_i d hi hf hst _ hu
   have hnum:∀k,P.underlying t≠some (.int k):=fun k h=> hi k (by rw[hu] at h;exact Option.some.inj h)
   have hstr:P.underlying t≠some .string:=fun h=> hst (by rw[hu] at h;exact Option.some.inj h)
   split at hc
   ·split at hc
    ·cases hc
    ·rename_i hg
     simp only[Option.map_eq_some_iff] at hc
     obtain⟨s,hsh,rfl⟩:=hc
     simp only[AOp.step,Option.map_eq_some_iff,Prod.mk.injEq,Bool.false_eq_true,if_false] at hs
     obtain⟨b,hb,rfl,rfl⟩:=hs
     have:=(qKl hsh (by simpa using hg) hnum hstr hb hxv hyv x y w).1
     exact jC.pure hr (by simp only[execOp];exact xL this ()) (.bool _)
   ·split at hc
    ·cases hc
    ·rename_i hg
     simp only[Option.map_eq_some_iff] at hc
     obtain⟨s,hsh,rfl⟩:=hc
     simp only[AOp.step,Option.map_eq_some_iff,Prod.mk.injEq,if_true] at hs
     obtain⟨b,hb,rfl,rfl⟩:=hs
     have:=(qKl hsh (by simpa using hg) hnum hstr hb hxv hyv x y w).2
     exact jC.pure hr (by simp only[execOp];exact xL this ()) (.bool _)
   ·cases hc
  ·cases hc
 case unOp op t x=>
  obtain⟨x',hx',rfl⟩:=hc
  simp only[AOp.step,Option.map_eq_some_iff,Prod.mk.injEq] at hs
  obtain⟨v0,h0,rfl,rfl⟩:=hs
  obtain⟨b1,b2⟩:=un_ok (P:=P) (w:=w) h0 (jR htm hx')
  exact jC.pure hr (by simp only[execOp];exact xL b1 ()) b2
 case convert src dst' x=>
  obtain⟨x',hx',hc⟩:=hc
  have hv:=jR htm hx'
  split at hc
  ·rename_i k0 k hu1 hu2
   cases hc
   simp only[AOp.step] at hs
   split at hs
   ·rename_i kk m hcc he
    cases hcc
    cases hs
    rename_i k1
    rw[he] at hv
    refine jC.pure hr (v':=.int k (k.wrap m)) (by
     simp only[execOp]
     refine xL ?_ ()
     rw[hv.int_eq]
     simp[convert,jG hu1,jG hu2,Conv.intToInt]) (.int _ _)
   ·rename_i hcc _;cases hcc
   ·cases hs
  ·rename_i hu1 hu2
   cases hc
   simp only[AOp.step] at hs
   split at hs
   ·rename_i hcc _;cases hcc
   ·rename_i s hcc he
    cases hs
    rw[he] at hv
    refine jC.pure hr (v':=.string s) (by
     simp only[execOp]
     refine xL ?_ ()
     rw[hv.string_eq]
     simp[convert,jG hu1,jG hu2]) (.string _)
   ·cases hs
  ·rename_i e hu1 hu2
   split at hc
   ·rename_i hu3
    cases hc
    exact qE3 htm hr hu1 hu2 hu3 hx' rfl hs
   ·cases hc
  ·cases hc
 case typeAssert x xt t ok=>
  cases ok<;> simp only[reduceCtorEq] at hc
  split at hc
  ·cases hc
  ·rename_i d hd hu
   simp only[Option.bind_eq_some_iff,Option.map_eq_some_iff] at hc
   obtain⟨y,hy,z,hz,rfl⟩:=hc
   have hxv:=jR htm hy
   obtain⟨z1,z2,z3,z4⟩:=zF9 hz w
   simp only[AOp.step] at hs
   have hni:∀ms,d≠.interface ms:=fun ms e=> hd ms e
   split at hs
   ·rename_i he
    cases hs
    rw[he] at hxv
    have hX:a.eval x=.nilIface:=by
     generalize a.eval x=X at hxv;cases hxv;rfl
    refine jC.pure hr (v':=.tuple #[z,.bool false]) (by
     simp only[execOp]
     refine xL ?_ ()
     rw[hX]
     unfold Instr.typeAssert
     simp only[Sem.run_bind,jG hu,Result.andThen_ok]
     cases d<;> first|(exact absurd rfl (hni _))|(simp[Sem.run_bind,z1])) (.tuple _ _ (.cons _ _ _ _ (VR.of_ground _ _ z2) (.cons _ _ _ _ (.bool _) .nil)))
   ·rename_i t0 v0 he
    rw[he] at hxv
    have hX:∃v1,a.eval x=.iface t0 v1/\VR ρ v0 v1:=by
     generalize a.eval x=X at hxv;cases hxv;exact⟨_,rfl,‹_›⟩
    obtain⟨v1,hX,hv1⟩:=hX
    split at hs
    ·rename_i htt
     cases hs
     refine jC.pure hr (v':=.tuple #[v1,.bool true]) (by
      simp only[execOp]
      refine xL ?_ ()
      rw[hX]
      unfold Instr.typeAssert
      simp only[Sem.run_bind,jG hu,Result.andThen_ok]
      cases d<;> first|(exact absurd rfl (hni _))|(simp[htt])) (.tuple _ _ (.cons _ _ _ _ hv1 (.cons _ _ _ _ (.bool _) .nil)))
    ·rename_i htt
     cases hs
     refine jC.pure hr (v':=.tuple #[z,.bool false]) (by
      simp only[execOp]
      refine xL ?_ ()
      rw[hX]
      unfold Instr.typeAssert
      simp only[Sem.run_bind,jG hu,Result.andThen_ok]
      cases d<;> first|(exact absurd rfl (hni _))|(simp[htt,Sem.run_bind,z1])) (.tuple _ _ (.cons _ _ _ _ (VR.of_ground _ _ z2) (.cons _ _ _ _ (.bool _) .nil)))
   ·cases hs
  ·cases hc
 case makeInterface t x=>
  split at hc
  ·cases hc
  ·rename_i d hd hu
   simp only[Option.map_eq_some_iff] at hc
   obtain⟨y,hy,rfl⟩:=hc
   simp only[AOp.step,Option.some.injEq,Prod.mk.injEq] at hs
   obtain⟨rfl,rfl⟩:=hs
   refine jC.pure hr (v':=.iface t (a.eval x)) (by
    simp only[execOp]
    refine xL ?_ ()
    simp only[Instr.makeInterface,Sem.run_bind,jG hu,Result.andThen_ok]
    rfl) (.iface _ _ _ (jR htm hy))
  ·cases hc
 case makeFunc fn first cap=>
  cases fn<;> simp only[Option.bind_eq_some_iff,Option.map_eq_some_iff,reduceCtorEq] at hc
  rename_i f
  obtain⟨p,hp,q,hq,rfl⟩:=hc
  simp only[AOp.step,Option.some.injEq,Prod.mk.injEq] at hs
  obtain⟨rfl,rfl⟩:=hs
  refine jC.pure hr (v':=.func (.func f) (first.map a.eval) (cap.map a.eval)) (by simp only[execOp];exact xL rfl ()) (.func _ _ _ _ _ (by simpa using zMu htm hp) (by simpa using zMu htm hq))
 case makeMap t r=>
  cases r<;> simp only[Option.some.injEq,reduceCtorEq] at hc
  subst hc
  simp only[AOp.step,Option.some.injEq,Prod.mk.injEq] at hs
  obtain⟨rfl,rfl⟩:=hs
  obtain⟨ρ',own',l,e1,e2,e3,e4⟩:=hr.newMap (cfg:=cfg)
  refine⟨.map (some w.heap.size),_,ρ',own',.inl ?_,e3,by rw[←e2];exact .map _ _ e1,e4⟩
  simp only[execOp]
  refine xL ?_ ()
  simp[Instr.makeMap]
 case makeSlice t l c=>
  split at hc
  case h_2=> cases hc
  rename_i e hu
  simp only[Option.bind_eq_some_iff,Option.map_eq_some_iff] at hc
  obtain⟨i,hi,z,hz,l',hl',c',hc',rfl⟩:=hc
  exact zY4 htm hr hu hi hz hl' hc' rfl hs
 case slice t x lo hi mx=>
  split at hc
  ·rename_i e hu
   simp only[Option.bind_eq_some_iff,Option.map_eq_some_iff] at hc
   obtain⟨s,hs',x',hx',lo',hlo',hi',hhi',mx',hmx',rfl⟩:=hc
   exact qGz htm hr hu hs' hx' hlo' hhi' hmx' rfl hs
  ·rename_i hu
   simp only[Option.bind_eq_some_iff] at hc
   obtain⟨x',hx',lo',hlo',hi',hhi',hc⟩:=hc
   split at hc
   ·cases hc
   ·rename_i hm
    cases hc
    cases mx with
    |none=> exact qBe htm hr hu hx' hlo' hhi' rfl hs
    |some q=> simp at hm
  ·rename_i ar hu
   split at hc
   case h_2=> cases hc
   rename_i k0 e har
   simp only[Option.bind_eq_some_iff] at hc
   obtain⟨sz,hsz,x',hx',lo',hlo',hi',hhi',hc⟩:=hc
   split at hc
   ·cases hc
   ·rename_i hm
    cases hc
    cases mx with
    |none=> exact zQt htm hr (.inl ⟨ar,hu,har⟩) hsz hx' hlo' hhi' rfl hs
    |some q=> simp at hm
  ·rename_i k0 e hu
   simp only[Option.bind_eq_some_iff] at hc
   obtain⟨sz,hsz,x',hx',lo',hlo',hi',hhi',hc⟩:=hc
   split at hc
   ·cases hc
   ·rename_i hm
    cases hc
    cases mx with
    |none=> exact zQt htm hr (.inr hu) hsz hx' hlo' hhi' rfl hs
    |some q=> simp at hm
  ·cases hc
 case fieldAddr s x f=>
  split at hc
  case h_2=> cases hc
  rename_i fs hu
  simp only[Option.bind_eq_some_iff] at hc
  obtain⟨g,hg,z,hz,hc⟩:=hc
  split at hc
  ·cases hc
  ·rename_i hz0
   simp only[Option.map_eq_some_iff] at hc
   obtain⟨y,hy,rfl⟩:=hc
   simp only[AOp.step] at hs
   split at hs
   case h_2=> cases hs
   rename_i k off he
   simp only[Option.some.injEq,Prod.mk.injEq] at hs
   obtain⟨rfl,rfl⟩:=hs
   exact qI2 htm hr hu hg hz hz0 hy rfl he
 case field t x f=>
  split at hc
  case h_2=> cases hc
  rename_i fs hu
  simp only[Option.bind_eq_some_iff,Option.map_eq_some_iff] at hc
  obtain⟨g,hg,z,hz,ag,hag,y,hy,rfl⟩:=hc
  have hv:=jR htm hy
  simp only[AOp.step] at hs
  split at hs
  case h_2=> cases hs
  rename_i cs he
  simp only[Option.map_eq_some_iff,Prod.mk.injEq] at hs
  obtain⟨v0,hv0,rfl,rfl⟩:=hs
  rw[he] at hv
  obtain⟨cs',e2,e3⟩:=hv.agg_inv
  obtain⟨v',g1,g2⟩:=zIl hz hag e3 hv0 w
  refine jC.pure hr (v':=v') (by
   simp only[execOp]
   refine xL ?_ ()
   rw[e2]
   simp only[Instr.field,Sem.run_bind,jG hu,Result.andThen_ok,hg,asAgg,Sem.run_pure,g1]) g2
 case indexAddr t x i=>
  obtain⟨x',hx',i',hi',hc⟩:=hc
  exact qIj htm hr hx' hi' hc rfl hs
 case index t x i=>
  obtain⟨x',hx',i',hi',hc⟩:=hc
  exact qIi htm hr hx' hi' hc rfl hs
 case lookup t m k ok=>
  obtain⟨m',hm',k',hk',hc⟩:=hc
  split at hc
  case h_2=> cases hc
  rename_i kt et hu
  simp only[Option.bind_eq_some_iff,Option.map_eq_some_iff] at hc
  obtain⟨s,hs',z,hz,rfl⟩:=hc
  exact qC9 htm hr hu hs' hz hm' hk' rfl hs
 case mapUpdate t m k v=>
  obtain⟨m',hm',k',hk',v',hv',hc⟩:=hc
  split at hc
  case h_2=> cases hc
  rename_i kt et hu
  simp only[Option.map_eq_some_iff] at hc
  obtain⟨s,hs',rfl⟩:=hc
  exact zQ4 htm hr hu hs' hm' hk' hv' (.inl rfl) hs
 case insert t m k v=>
  obtain⟨m',hm',k',hk',v',hv',hc⟩:=hc
  split at hc
  case h_2=> cases hc
  rename_i kt et hu
  simp only[Option.map_eq_some_iff] at hc
  obtain⟨s,hs',rfl⟩:=hc
  exact zQ4 htm hr hu hs' hm' hk' hv' (.inr rfl) hs
 case range t x=>
  obtain⟨y,hy,hc⟩:=hc
  split at hc
  ·rename_i kt et hu;cases hc;exact qCx htm hr hu hy rfl hs
  ·rename_i hu;cases hc;exact qBd htm hr hu hy rfl hs
  ·cases hc
 case next x b=>
  cases b
  ·cases hc
  ·simp only[Option.map_eq_some_iff] at hc
   obtain⟨y,hy,rfl⟩:=hc
   exact qGy htm hr hy rfl hs
 case entry x=>
  obtain⟨y,hy,rfl⟩:=hc
  exact qC0 htm hr hy rfl hs
 case extract x i=>
  obtain⟨y,hy,rfl⟩:=hc
  have hv:=jR htm hy
  simp only[AOp.step] at hs
  split at hs
  case h_2=> cases hs
  rename_i vs he
  simp only[Option.map_eq_some_iff,Prod.mk.injEq] at hs
  obtain⟨v0,hv0,rfl,rfl⟩:=hs
  rw[he] at hv
  obtain⟨vs',e2,e3⟩:=hv.tuple_inv
  obtain⟨v',g1,g2⟩:=e3.get hv0
  have g1':vs'[i]?=some v':=by simpa using g1
  refine jC.pure hr (v':=v') (by
   simp only[execOp]
   refine xL ?_ ()
   rw[e2]
   simp[Instr.extract,g1']) g2
 case call c=> exact qPu hext htm hr hc rfl hs
end
end Go.Abs
namespace Go.Abs
def zIx (θ:Nat->Nat):Fn->Fn
 |.yield k=> .yield (θ k)
 |.func f=> .func f
 |.method n=> .method n
 |.methodOf t n=> .methodOf t n
 |.via t p f b=> .via t p f b
mutual
def ren (θ:Nat->Nat):Value->Value
 |.bool b=> .bool b
 |.int k n=> .int k n
 |.float k n=> .float k n
 |.complex k a b=> .complex k a b
 |.string s=> .string s
 |.pointer none=> .pointer none
 |.pointer (some ⟨k,o,none⟩)=> .pointer (some ⟨θ k,o,none⟩)
 |.pointer (some ⟨k,o,some x⟩)=> .pointer (some ⟨k,o,some x⟩)
 |.slice none n c=> .slice none n c
 |.slice (some ⟨k,o,none⟩) n c=> .slice (some ⟨θ k,o,none⟩) n c
 |.slice (some ⟨k,o,some x⟩) n c=> .slice (some ⟨k,o,some x⟩) n c
 |.map none=> .map none
 |.map (some k)=> .map (some (θ k))
 |.chan c=> .chan c
 |.func f ⟨x⟩ ⟨y⟩=> .func (zIx θ f) ⟨zAu θ x⟩ ⟨zAu θ y⟩
 |.nilFunc=> .nilFunc
 |.nilIface=> .nilIface
 |.iface t v=> .iface t (ren θ v)
 |.agg ⟨l⟩=> .agg ⟨zAu θ l⟩
 |.tuple ⟨l⟩=> .tuple ⟨zAu θ l⟩
def zAu (θ:Nat->Nat):List Value->List Value
 |[]=> []
 |v::l=> ren θ v::zAu θ l
end
theorem zMr (θ:Nat->Nat):∀l,zAu θ l=l.map (ren θ)
 |[]=> rfl
 |v::l=> by rw[zAu,zMr θ l];rfl
def Env.on (ρ:Env) (θ:Nat->Nat):Env:=⟨fun k=> ρ.loc (θ k)⟩
mutual
theorem VR.of_ren {ρ:Env} {θ:Nat->Nat}:∀(v:Value) {v':Value},VR ρ (ren θ v) v'->VR (ρ.on θ) v v'
 |.bool b,v',h=> by rw[ren] at h;rw[h.bool_eq];exact .bool b
 |.int k n,v',h=> by rw[ren] at h;rw[h.int_eq];exact .int k n
 |.float k n,v',h=> by rw[ren] at h;rw[h.float_eq];exact .float k n
 |.complex k a b,v',h=> by rw[ren] at h;cases h
 |.string s,v',h=> by rw[ren] at h;rw[h.string_eq];exact .string s
 |.pointer none,v',h=> by rw[ren] at h;cases h;exact .nilp
 |.pointer (some ⟨k,o,none⟩),v',h=> by rw[ren] at h;obtain⟨l,h1,rfl⟩:=h.ptr_inv;exact .ptr k o l h1
 |.pointer (some ⟨k,o,some x⟩),v',h=> by rw[ren] at h;cases h
 |.slice none 0 0,v',h=> by rw[ren] at h;cases h;exact .nils
 |.slice none 0 (_+1),v',h=> by rw[ren] at h;cases h
 |.slice none (_+1) _,v',h=> by rw[ren] at h;cases h
 |.slice (some ⟨k,o,none⟩) n c,v',h=> by
  rw[ren] at h
  rcases h.slice_inv with ⟨o',cc,l,h1,h2,h3,h4,h5,rfl⟩|⟨rfl,rfl,h1,a,cc,rfl,h2⟩
  ·exact .slice k o o' n c cc l h1 h2 h3 h4 h5
  ·exact .slicen k c a cc h1 h2
 |.slice (some ⟨k,o,some x⟩) n c,v',h=> by rw[ren] at h;cases h
 |.map none,v',h=> by rw[ren] at h;cases h;exact .nilm
 |.map (some k),v',h=> by rw[ren] at h;obtain⟨l,h1,rfl⟩:=h.map_inv;exact .map k l h1
 |.chan c,v',h=> by
  rw[ren] at h
  cases h with
  |junk _ _ h1=> exact .junk c v' h1
 |.func (.func f) ⟨x⟩ ⟨y⟩,v',h=> by
  rw[ren,zIx] at h
  cases h with
  |func f _ _ x' y' h1 h2=> exact .func f _ _ x' y' (VRs.of_rens x h1) (VRs.of_rens y h2)
 |.func (.yield k) ⟨[]⟩ ⟨[]⟩,v',h=> by
  rw[ren,zIx,zAu] at h
  cases h with
  |yld _ l h1=> exact .yld k l h1
 |.func (.yield k) ⟨_::_⟩ ⟨_⟩,v',h=> by rw[ren,zIx,zAu] at h;cases h
 |.func (.yield k) ⟨[]⟩ ⟨_::_⟩,v',h=> by rw[ren,zIx,zAu,zAu] at h;cases h
 |.func (.method _) ⟨_⟩ ⟨_⟩,v',h=> by rw[ren,zIx] at h;cases h
 |.func (.methodOf _ _) ⟨_⟩ ⟨_⟩,v',h=> by rw[ren,zIx] at h;cases h
 |.func (.via _ _ _ _) ⟨_⟩ ⟨_⟩,v',h=> by rw[ren,zIx] at h;cases h
 |.nilFunc,v',h=> by rw[ren] at h;cases h;exact .nilFunc
 |.nilIface,v',h=> by rw[ren] at h;cases h;exact .nilIface
 |.iface t v,v',h=> by
  rw[ren] at h
  cases h with
  |iface _ _ u h1=> exact .iface t v u (VR.of_ren v h1)
 |.agg ⟨l⟩,v',h=> by
  rw[ren] at h
  obtain⟨x',rfl,h1⟩:=h.agg_inv
  exact .agg _ _ (VRs.of_rens l h1)
 |.tuple ⟨l⟩,v',h=> by
  rw[ren] at h
  obtain⟨x',rfl,h1⟩:=h.tuple_inv
  exact .tuple _ _ (VRs.of_rens l h1)
theorem VRs.of_rens {ρ:Env} {θ:Nat->Nat}:∀(l:List Value) {l':List Value},VRs ρ (zAu θ l) l'->VRs (ρ.on θ) l l'
 |[],l',h=> by rw[zAu] at h;cases h;exact .nil
 |v::l,l',h=> by
  rw[zAu] at h
  cases h with
  |cons _ v' _ l' h1 h2=> exact .cons v v' l l' (VR.of_ren v h1) (VRs.of_rens l h2)
end
mutual
theorem VR.to_ren {ρ:Env} {θ:Nat->Nat}:∀{v v':Value},VR (ρ.on θ) v v'->VR ρ (ren θ v) v'
 |_,_,.bool b=> by rw[ren];exact .bool b
 |_,_,.int k n=> by rw[ren];exact .int k n
 |_,_,.float k b=> by rw[ren];exact .float k b
 |_,_,.string s=> by rw[ren];exact .string s
 |_,_,.nilp=> by rw[ren];exact .nilp
 |_,_,.ptr k o l e=> by rw[ren];exact .ptr (θ k) o l e
 |_,_,.nils=> by rw[ren];exact .nils
 |_,_,.slice k o o' n c cc l e h1 h2 h3 h4=> by rw[ren];exact .slice (θ k) o o' n c cc l e h1 h2 h3 h4
 |_,_,.slicen k c a cc h h2=> by rw[ren];exact .slicen (θ k) c a cc h h2
 |_,_,.junk c v' h=> by rw[ren];exact .junk c v' h
 |_,_,.nilm=> by rw[ren];exact .nilm
 |_,_,.map k l e=> by rw[ren];exact .map (θ k) l e
 |_,_,.func f ⟨x⟩ ⟨y⟩ x' y' h1 h2=> by rw[ren,zIx];exact .func f _ _ x' y' (VRs.to_rens h1) (VRs.to_rens h2)
 |_,_,.yld k l h=> by rw[ren,zIx,zAu];exact .yld (θ k) l h
 |_,_,.nilFunc=> by rw[ren];exact .nilFunc
 |_,_,.nilIface=> by rw[ren];exact .nilIface
 |_,_,.iface t v v' h1=> by rw[ren];exact .iface t _ v' (VR.to_ren h1)
 |_,_,.agg ⟨x⟩ x' h1=> by rw[ren];exact .agg _ _ (VRs.to_rens h1)
 |_,_,.tuple ⟨x⟩ x' h1=> by rw[ren];exact .tuple _ _ (VRs.to_rens h1)
theorem VRs.to_rens {ρ:Env} {θ:Nat->Nat}:∀{l l':List Value},VRs (ρ.on θ) l l'->VRs ρ (zAu θ l) l'
 |_,_,.nil=> by rw[zAu];exact .nil
 |_,_,.cons v v' l l' h1 h2=> by rw[zAu];exact .cons _ _ _ _ (VR.to_ren h1) (VRs.to_rens h2)
end
theorem VE.of_ren {ρ:Env} {θ:Nat->Nat}:∀(l:List MapEntry) {l':List MapEntry},VE ρ (l.map fun e=> ⟨ren θ e.key,ren θ e.val,e.born⟩) l'->VE (ρ.on θ) l l'
 |[],l',h=> by cases h;exact .nil
 |e::l,l',h=> by
  cases h with
  |cons _ k' _ v' n _ l' h1 h2 h3=> exact .cons e.key k' e.val v' e.born l l' (VR.of_ren _ h1) (VR.of_ren _ h2) (VE.of_ren l h3)
theorem VE.to_ren {ρ:Env} {θ:Nat->Nat}:∀{l l':List MapEntry},VE (ρ.on θ) l l'->VE ρ (l.map fun e=> ⟨ren θ e.key,ren θ e.val,e.born⟩) l'
 |_,_,.nil=> .nil
 |_,_,.cons k k' v v' n l l' h1 h2 h3=> .cons _ _ _ _ n _ _ (VR.to_ren h1) (VR.to_ren h2) (VE.to_ren h3)
def zJm (θ:Nat->Nat) (ps:List (Value × Value)):List (Value × Value):=ps.map fun p=> (ren θ p.1,ren θ p.2)
theorem VP.of_ren {ρ:Env} {θ:Nat->Nat}:∀(l:List (Value × Value)) {l':List (Value × Value)},VP ρ (zJm θ l) l'->VP (ρ.on θ) l l'
 |[],l',h=> by cases h;exact .nil
 |(a,b)::l,l',h=> by
  cases h with
  |cons _ k' _ v' _ l' h1 h2 h3=> exact .cons a k' b v' l l' (VR.of_ren _ h1) (VR.of_ren _ h2) (VP.of_ren l h3)
theorem VP.to_ren {ρ:Env} {θ:Nat->Nat}:∀{l l':List (Value × Value)},VP (ρ.on θ) l l'->VP ρ (zJm θ l) l'
 |_,_,.nil=> .nil
 |_,_,.cons k k' v v' l l' h1 h2 h3=> .cons _ _ _ _ _ _ (VR.to_ren h1) (VR.to_ren h2) (VP.to_ren h3)
theorem zV2 (θ:Nat->Nat) (v:Value):(ren θ v).oneCell'=v.oneCell':=by
 rcases v with _|_|_|_|_|(_|⟨_,_,_|_⟩)|⟨(_|⟨_,_,_|_⟩),_,_⟩|(_|_)|_|⟨_,⟨_⟩,⟨_⟩⟩|_|_|⟨⟨_⟩⟩|⟨⟨_⟩⟩<;> simp[ren,Value.oneCell']
section
variable {D:Type}
def AObj.ren (θ:Nat->Nat):AObj D->AObj D
 |.arr e cs=> .arr e (zAu θ cs)
 |.ro cs=> .ro (zAu θ cs)
 |.map es c=> .map (es.map fun e=> ⟨Abs.ren θ e.key,Abs.ren θ e.val,e.born⟩) c
 |.mapq ps=> .mapq (zJm θ ps)
 |.miter m s l n=> .miter (θ m) s l n
 |.siter s p=> .siter s p
 |.loopr r s p=> .loopr r s p
 |.hi d=> .hi d
theorem zK0 (θ:Nat->Nat) (l:List Value):(zAu θ l).all (·.oneCell')=l.all (·.oneCell'):=by
 rw[zMr]
 induction l with
 |nil=> rfl
 |cons v l ih=> simp only[List.map_cons,List.all_cons,ih,zV2]
theorem zCn (θ:Nat->Nat) (l:List Value):(zAu θ l).length=l.length:=by rw[zMr,List.length_map]
variable {P:Program} {cfg:D->HRep} {ρ:Env} {θ:Nat->Nat} {w:World}
theorem zBt.of_ren {own:Nat->Prop} {k:Nat} {o:AObj D} (h:zBt P cfg ρ own (θ k) (o.ren θ) w):zBt P cfg (ρ.on θ) own k o w:=by
 cases o with
 |arr e cs=>
  rcases h with ⟨l,cs',h1,h2,h3,h4,h5,h6,h7,h8,h9⟩|⟨h1,h2,h3⟩
  ·rw[zCn] at h7 h8
   rw[zK0] at h9
   exact .inl ⟨l,cs',h1,h2,h3,h4,h5,h6,h7,VRs.of_rens _ h8,h9⟩
  ·refine .inr ⟨?_,h2,h3⟩
   have:=zCn θ cs
   rw[h1] at this
   exact List.eq_nil_of_length_eq_zero this.symm
 |ro cs=>
  refine⟨h.1,fun hne=> ?_⟩
  obtain⟨l,cs',e,fr,h1,h3,h4,h5,h6⟩:=h.2 (fun e=> hne (List.eq_nil_of_length_eq_zero (by rw[←zCn θ cs,e];rfl)))
  rw[zCn] at h4 h5
  rw[zK0] at h6
  exact⟨l,cs',e,fr,h1,h3,h4,VRs.of_rens _ h5,h6⟩
 |map es c=>
  obtain⟨l,es',h1,h2,h3,h4⟩:=h
  exact⟨l,es',h1,h2,h3,VE.of_ren _ h4⟩
 |mapq ps=>
  obtain⟨l,es',clock,qs,h1,h2,h3,h4,h5,h6⟩:=h
  exact⟨l,es',clock,qs,h1,h2,h3,h4,VP.of_ren _ h5,h6⟩
 |miter m s l n=> exact h
 |siter s p=> exact h
 |loopr r s p=> exact h
 |hi d=> exact h
theorem zBt.to_ren {own:Nat->Prop} {k:Nat} {o:AObj D} (h:zBt P cfg (ρ.on θ) own k o w):zBt P cfg ρ own (θ k) (o.ren θ) w:=by
 cases o with
 |arr e cs=>
  rcases h with ⟨l,cs',h1,h2,h3,h4,h5,h6,h7,h8,h9⟩|⟨h1,h2,h3⟩
  ·refine .inl ⟨l,cs',h1,h2,h3,h4,h5,h6,?_,?_,?_⟩
   ·rw[zCn];exact h7
   ·rw[zCn];exact VRs.to_rens h8
   ·rw[zK0];exact h9
  ·subst h1;exact .inr ⟨by rw[zAu],h2,h3⟩
 |ro cs=>
  refine⟨h.1,fun hne=> ?_⟩
  obtain⟨l,cs',e,fr,h1,h3,h4,h5,h6⟩:=h.2 (fun e=> hne (by rw[e,zAu]))
  refine⟨l,cs',e,fr,h1,h3,?_,?_,?_⟩
  ·rw[zCn];exact h4
  ·rw[zCn];exact VRs.to_rens h5
  ·rw[zK0];exact h6
 |map es c=>
  obtain⟨l,es',h1,h2,h3,h4⟩:=h
  exact⟨l,es',h1,h2,h3,VE.to_ren h4⟩
 |mapq ps=>
  obtain⟨l,es',clock,qs,h1,h2,h3,h4,h5,h6⟩:=h
  exact⟨l,es',clock,qs,h1,h2,h3,h4,VP.to_ren h5,h6⟩
 |miter m s l n=> exact h
 |siter s p=> exact h
 |loopr r s p=> exact h
 |hi d=> exact h
end
section
variable {D:Type} {P:Program} {cfg:D->HRep}
theorem AH.ext' {H H':AH D} (h1:H.next=H'.next) (h2:∀k,H.get k=H'.get k):H=H':=by
 cases H;cases H'
 simp only at h1 h2
 subst h1
 congr
 exact funext h2
structure Emb (θ:Nat->Nat) (Hs H:AH D):Prop where
 inj:∀i j,θ i=θ j->i=j
 lo:∀i,i<Hs.next->θ i<H.next
 hi:∀i,Hs.next<=i->θ i=H.next+(i - Hs.next)
 get:∀i,i<Hs.next->H.get (θ i)=(Hs.get i).map (·.ren θ)
 fresh:∀i,Hs.next<=i->Hs.get i=none
variable {θ:Nat->Nat} {Hs H:AH D}
theorem Emb.rel (e:Emb θ Hs H) {ρ:Env} {own:Nat->Nat->Prop} {w:World} (h:Rel P cfg ρ own H w):Rel P cfg (ρ.on θ) (fun i b=> Hs.get i≠none/\own (θ i) b) Hs w:=by
 have glt:∀{i o},Hs.get i=some o->i<Hs.next:=fun {i o} ho=> Nat.lt_of_not_le fun hle=> by rw[e.fresh i hle] at ho;cases ho
 have gbig:∀{i o},Hs.get i=some o->H.get (θ i)=some (o.ren θ):=fun {i o} ho=> by rw[e.get i (glt ho),ho];rfl
 have own_iff:∀{i o},Hs.get i=some o->(fun b=> Hs.get i≠none/\own (θ i) b)=own (θ i):=fun {i o} ho=> by
  funext b;rw[ho];simp
 refine⟨e.fresh,fun k hk=> ?_,fun k o ho=> ?_,fun k hk b hb=> hb.1 hk,fun k b hb=> h.bound _ _ hb.2,fun k k' b hb hb'=> e.inj _ _ (h.disj _ _ b hb.2 hb'.2),fun k cs hk hcs l hl k' hb=> ?_⟩
 ·show ρ.loc (θ k)=none
  rw[e.hi k hk]
  exact h.dom _ (by omega)
 ·have:=h.obj (θ k) _ (gbig ho)
  simp only[own_iff ho]
  exact this.of_ren
 ·exact h.ro (θ k) _ (gbig hk) (fun e=> hcs (List.eq_nil_of_length_eq_zero (by rw[←zCn θ cs,e];rfl))) l hl (θ k') hb.2
end
end Go.Abs
namespace Go.Abs
inductive AK where
 |op (o:AOp)
 |call (f:Opd) (args:List Opd)
 |panic (x:Opd)
 |isnil (neg:Bool) (x:Opd)
 |mnext (x:Opd)
 deriving Inhabited
structure AIns where
 dst:Option Nat
 op:AK
 guard:Option (Nat × Bool)
 deriving Inhabited
inductive DT where
 |nil
 |quiet (i:AIns) (t:DT)
 |loud (i:AIns) (chk:List AIns) (t:DT)
 |both (a b:DT)
 |bad
 deriving Inhabited
inductive AC where
 |skip
 |reg (l:List AIns)
 |dreg (t:DT)
 |seq (a b:AC)
 |cond (c:Opd) (a b:AC)
 |block (id:Nat) (a:AC)
 |loop (a:AC)
 |exit (id:Nat)
 |scope (a:AC)
 |label (l:Nat)
 |goto (l:Nat)
 |ret
 |rfunc (f:Opd) (ps:List Nat) (a b:AC)
 deriving Inhabited
def AC.flat:AC->Bool
 |.seq a b|.cond _ a b=> a.flat && b.flat
 |.block _ a|.loop a|.scope a=> a.flat
 |.rfunc .. => false
 |_=> true
inductive AEnd where
 |ret (v:Value)
 |pan (v:Value)
inductive AExit where
 |normal
 |exit (id:Nat)
 |goto (l:Nat)
 |ret
 |pan (v:Value)
section
variable {D:Type}
inductive ATgt where
 |fn (f:FuncId)
 |yld (k:Nat)
 |dfr (f:FuncId)
abbrev zAx (D:Type):=ATgt->List Value->AH D->(AEnd->AH D->Prop)->Prop
abbrev zDu (D:Type):=Nat->List Value->AH D->(AEnd->AH D->Prop)->Prop
def xK (d:Option Nat) (tm:Nat->Value) (v:Value):Nat->Value:=
 match d with
 |some d=> upd tm d v
 |none=> tm
def AK.wp (C:zAx D) (op:AK) (tm:Nat->Value) (H:AH D) (K:Value->AH D->Prop) (E:Value->AH D->Prop):Prop:=
 match op with
 |.call f args=> match f.ev tm with
  |.func (.func g) x y=> C (.fn g) (x.toList++args.map (·.ev tm)++y.toList) H fun r H'=> match r with
   |.ret v=> K v H'
   |.pan v=> E v H'
  |.func (.yield k) _ _=> C (.yld k) (args.map (·.ev tm)) H fun r H'=> match r with
   |.ret v=> K v H'
   |.pan v=> E v H'
  |_=> False
 |.panic x=> match x.ev tm with
  |.iface t v=> E (.iface t v) H
  |_=> False
 |.op op=> match op.step tm H with
  |some (v,H')=> K v H'
  |none=> False
 |.isnil neg x=> match x.ev tm with
  |.slice none _ _=> K (.bool !neg) H
  |.slice (some _) n c=> if 0<n∨3<=c then K (.bool neg) H else K (.bool true) H/\K (.bool false) H
  |_=> False
 |.mnext x=> match x.ev tm with
  |.pointer (some ⟨k,0,none⟩)=> match H.get k with
   |some (.miter m since seen stepped)=> match H.mapAt m with
    |some (es,c)=> (∀e∈es,e.born<since)/\since<=stepped/\((∀e∈es,e.born∈seen)->K (.tuple #[.bool false]) H)/\
     ∀e∈es,e.born∉seen->K (.tuple #[.bool true,e.key,e.val]) (H.upd k (.miter m since (seen++[e.born]) c))
    |none=> False
   |_=> False
  |_=> False
def AIns.wp (C:zAx D) (i:AIns) (tm:Nat->Value) (H:AH D) (K:(Nat->Value)->AH D->Prop) (E:Value->AH D->Prop):Prop:=
 match i.guard with
 |none=> i.op.wp C tm H (fun v H'=> K (xK i.dst tm v) H') E
 |some (t,want)=> match tm t with
  |.bool b=> if b=want then i.op.wp C tm H (fun v H'=> K (xK i.dst tm v) H') E else K (xK i.dst tm undef) H
  |.tuple _=> K (xK i.dst tm undef) H
  |_=> False
abbrev zK2 (D:Type):=Nat->(Nat->Value)->AH D->(Nat->Value)->AH D->Prop
structure Sg (D:Type) where
 call:zAx D
 iter:zDu D->zAx D
 opn:AH D->Nat->Option (AH D)
 see:AH D->AH D->Prop
 view:zK2 D
def ptrK:Value->Option Nat
 |.pointer (some ⟨k,_,_⟩)=> some k
 |_=> none
def AOp.key (op:AOp) (tm:Nat->Value):Option Nat:=
 match op with
 |.load a=> ptrK (a.ev tm)
 |.loadN _ a=> ptrK (a.ev tm)
 |.store _ a _=> ptrK (a.ev tm)
 |_=> none
def AK.key (op:AK) (tm:Nat->Value):Option Nat:=
 match op with
 |.op o=> o.key tm
 |_=> none
def AIns.key (i:AIns) (tm:Nat->Value):Option Nat:=
 match i.guard with
 |none=> i.op.key tm
 |some (t,want)=> match tm t with
  |.bool b=> if b=want then i.op.key tm else none
  |_=> none
def zH1 (O:AH D->Nat->Option (AH D)) (H:AH D):Option Nat->AH D
 |some k=> (O H k).getD H
 |none=> H
def zD2 (O:AH D->Nat->Option (AH D)):DT->(Nat->Value)->AH D->AH D
 |.quiet ⟨d,.op o,none⟩ t,tm,H=> match o.step tm (zH1 O H (o.key tm)) with
  |some (v,_)=> zD2 O t (xK d tm v) (zH1 O H (o.key tm))
  |none=> zH1 O H (o.key tm)
 |_,_,H=> H
def zBc (C:Sg D):List AIns->(Nat->Value)->AH D->((Nat->Value)->AH D->Prop)->(Value->(Nat->Value)->AH D->Prop)->Prop
 |[],tm,H,K,_=> K tm H
 |i::l,tm,H,K,E=> i.wp C.call tm (zH1 C.opn H (i.key tm)) (fun tm' H'=> zBc C l tm' H' K E) (fun v H'=> E v tm H')
def AIns.again (i:AIns) (tm:Nat->Value) (H:AH D):Prop:=
 match i.dst,i.op with
 |some d,.op op=> match i.guard with
  |none=> op.step tm H=some (tm d,H)
  |some (t,want)=> match tm t with
   |.bool b=> if b=want then op.step tm H=some (tm d,H) else tm d=undef
   |.tuple _=> tm d=undef
   |_=> False
 |_,_=> False
def DT.wp (C:zAx D):DT->(Nat->Value)->AH D->((Nat->Value)->AH D->Prop)->(Value->AH D->Prop)->Prop
 |.nil,tm,H,K,_=> K tm H
 |.quiet i t,tm,H,K,E=> i.wp C tm H (fun tm' H'=> t.wp C tm' H' K E) E
 |.loud i chk t,tm,H,K,E=> i.wp C tm H (fun tm' H'=> (∀c∈chk,c.again tm' H')/\t.wp C tm' H' K E) E
 |.both a b,tm,H,K,E=> a.wp C tm H K E/\b.wp C tm H K E
 |.bad,_,_,_,_=> False
def panD (Q:AExit->(Nat->Value)->AH D->Prop):Value->AH D->Prop:=fun v H=> ∀tm',Q (.pan v) tm' H
def zIe (V:zK2 D) (N:Nat) (body:(AExit->(Nat->Value)->AH D->Prop)->(Nat->Value)->AH D->Prop):Nat->(AExit->(Nat->Value)->AH D->Prop)->(Nat->Value)->AH D->Prop
 |0,_,_,_=> False
 |n+1,Q,tm,H=> body (fun e tm' H'=> match e with
  |.normal=> zIe V N body n Q tm' H'∨∃tm2 H2,V N tm' H' tm2 H2/\zIe V N body n Q tm2 H2
  |e=> Q e tm' H') tm H
def zLr (tm:Nat->Value):List Nat->List Value->Nat->Value
 |t::ps,v::vs=> zLr (upd tm t v) ps vs
 |_,_=> tm
def jmpQ (Q:AExit->(Nat->Value)->AH D->Prop):Jmp->(Nat->Value)->AH D->Prop
 |.ret=> Q .ret
 |.exit i=> Q (.exit i)
 |.goto l=> Q (.goto l)
def zLn (k:Nat) (r:Loop) (K:AEnd->AH D->Prop):AExit->(Nat->Value)->AH D->Prop:=fun e _ H=> H.get k=some (.loopr r 1 none)/\match e with
 |.normal=> K (.ret (.bool true)) (H.upd k (.loopr r 0 none))
 |.ret=> K (.ret (.bool false)) (H.upd k (.loopr r 2 (some .ret)))
 |.exit i=> K (.ret (.bool false)) (H.upd k (.loopr r 2 (some (.exit i))))
 |.goto l=> K (.ret (.bool false)) (H.upd k (.loopr r 2 (some (.goto l))))
 |.pan _=> False
def zQi (k:Nat) (r:Loop) (bw:(AExit->(Nat->Value)->AH D->Prop)->(Nat->Value)->AH D->Prop) (K:AEnd->AH D->Prop):AExit->(Nat->Value)->AH D->Prop:=fun e tm H=> match e with
 |.normal=> H.get k=some (.loopr r 0 none)/\bw (zLn k r K) tm (H.upd k (.loopr r 1 none))
 |_=> False
def zSo (k0:Nat) (r:Loop) (ps:List Nat) (aw bw:(AExit->(Nat->Value)->AH D->Prop)->(Nat->Value)->AH D->Prop) (tm:Nat->Value):zDu D:=fun k args H K=>
 k=k0/\H.get k0=some (.loopr r 0 none)/\args.length=ps.length/\aw (zQi k0 r bw K) (zLr tm ps args) H
def zKf (k:Nat) (Q:AExit->(Nat->Value)->AH D->Prop) (tm:Nat->Value):AEnd->AH D->Prop:=fun e H=> match e with
 |.ret _=> match H.get k with
  |some (.loopr _ 0 none)=> Q .normal tm (H.del k)
  |some (.loopr _ 2 (some j))=> jmpQ Q j tm (H.del k)
  |_=> False
 |.pan v=> Q (.pan v) tm (H.del k)
def AC.wp (C:Sg D) (F:Nat):AC->(AExit->(Nat->Value)->AH D->Prop)->(Nat->Value)->AH D->Prop
 |.skip,Q,tm,H=> Q .normal tm H
 |.reg l,Q,tm,H=> zBc C l tm H (Q .normal) (fun v=> Q (.pan v))
 |.dreg t,Q,tm,H=> t.wp C.call tm (zD2 C.opn t tm H) (Q .normal) (panD Q)
 |.seq a b,Q,tm,H=> a.wp C F (fun e tm' H'=> match e with
  |.normal=> b.wp C F Q tm' H'
  |e=> Q e tm' H') tm H
 |.cond c a b,Q,tm,H=> match c.ev tm with
  |.bool t=> if t then a.wp C F Q tm H else b.wp C F Q tm H
  |_=> False
 |.block id a,Q,tm,H=> a.wp C F (fun e tm' H'=> match e with
  |.exit j=> if j=id then Q .normal tm' H' else Q (.exit j) tm' H'
  |e=> Q e tm' H') tm H
 |.loop a,Q,tm,H=> zIe C.view H.next (a.wp C F) F Q tm H∨∃tm2 H2,C.view H.next tm H tm2 H2/\zIe C.view H.next (a.wp C F) F Q tm2 H2
 |.exit id,Q,tm,H=> Q (.exit id) tm H
 |.scope a,Q,tm,H=> a.wp C F (fun e tm' H'=> match e with
  |.goto _=> False
  |e=> Q e tm' H') tm H
 |.label _,Q,tm,H=> Q .normal tm H
 |.goto l,Q,tm,H=> Q (.goto l) tm H
 |.ret,Q,tm,H=> Q .ret tm H
 |.rfunc f ps a b,Q,tm,H=> match f.ev tm with
  |.func (.func g) x y=> ∀r:Loop,C.iter (zSo H.next r ps (a.wp C F) (b.wp C F) tm) (.fn g) (x.toList++[.func (.yield H.next) #[] #[]]++y.toList) (H.add (.loopr r 0 none)) (zKf H.next Q tm)
  |_=> False
end
def AOp.opds:AOp->List Opd
 |.mv x|.box _ x|.load x|.loadN _ x|.nilchk x|.un _ x|.conv _ x|.mkiface _ x|.faddr _ x|.field _ _ _ x|.extract x _|.lenS x|.lenT x|.lenM x|.clearM x|.frombits x|.tobits x|.mrange x|.mentry x|.srange x|.snext x|.tostr x|.tassert _ _ x|.ifnil _ x|.sdata x=> [x]
 |.pick a b c|.mapupd _ a b c=> [a,b,c]
 |.alloc _ _|.mkmap|.lenK _=> []
 |.build _ ps|.bslice _ _ _ ps=> ps.map (·.2.2)
 |.store _ a b|.bin _ a b|.eq _ _ a b|.mkslice _ _ _ a b|.iaddrS _ a b|.iaddrA _ _ a b|.indexA _ _ _ a b|.indexS a b|.lookup _ _ _ a b|.append _ _ _ a b|.appendT _ a b|.ustr _ a b|.delete _ a b|.max a b|.min a b=> [a,b]
 |.mkfunc _ a b=> a++b
 |.slice _ x lo hi mx=> [x]++lo.toList++hi.toList++mx.toList
 |.sliceS x lo hi|.sliceA _ _ x lo hi=> [x]++lo.toList++hi.toList
def AK.opds:AK->List Opd
 |.op o=> o.opds
 |.call f args=> f::args
 |.panic x=> [x]
 |.isnil _ x=> [x]
 |.mnext x=> [x]
def Opd.tmp?:Opd->List Nat
 |.t n=> [n]
 |_=> []
def AIns.reads (i:AIns):List Nat:=i.op.opds.flatMap Opd.tmp?++(match i.guard with|some (t,_)=> [t]|none=> [])
def AOp.pureB:AOp->Bool
 |.mv _|.pick .. |.build .. |.nilchk _|.bin .. |.eq .. |.un .. |.conv .. |.mkfunc .. |.mkiface .. |.slice .. |.sliceS .. |.faddr .. |.field .. |.iaddrS .. |.iaddrA .. |.indexA .. |.indexS .. |.extract .. |.lenS _|.lenT _
 |.lenK _|.max .. |.min .. |.frombits _|.tobits _|.tassert .. |.ifnil .. |.sliceA .. |.sdata _=> true
 |_=> false
def AOp.readB:AOp->Bool
 |.load _|.loadN .. |.lookup .. |.lenM _|.mentry _|.tostr _=> true
 |_=> false
section
variable (P:Program) (ext:FuncId->Option Ext1)
def AK.quietB:AK->Bool
 |.op o=> o.pureB||o.readB
 |_=> false
def AK.readB:AK->Bool
 |.op o=> o.readB
 |_=> false
def zSj (t:TypeId):Bool:=match P.underlying t with
 |some (.slice _)=> true
 |_=> false
def zO9 (n:Nat) (o:Oper):Option AK:=
 match o.op with
 |.next x false=> (jF n x).map .mnext
 |.binOp .eql t x (.const (.slice none 0 0)) _=> if zSj P t then (jF n x).map (.isnil false) else none
 |.binOp .neq t x (.const (.slice none 0 0)) _=> if zSj P t then (jF n x).map (.isnil true) else none
 |_=> none
def zU0 (n:Nat) (o:Oper):Option AK:=
 match o.op with
 |.call c=>
  match c.callee with
  |.value (.func f)=> match ext f with
   |some _=> (zHt P ext n o).map .op
   |none=> (zGo n c.args.toList).map fun ys=> .call (.f f) ys
  |.value f=> (jF n f).bind fun g=> (zGo n c.args.toList).map fun ys=> .call g ys
  |_=> (zHt P ext n o).map .op
 |.panic x=> (jF n x).map .panic
 |_=> (zHt P ext n o).map .op
def zM4 (n:Nat) (o:Oper):Option AK:=match zO9 P n o with
 |some k=> some k
 |none=> zU0 P ext n o
def zGf (n:Nat) (ops:Array Oper) (o:Oper):Option AIns:=
 (zM4 P ext n o).bind fun op=>
  if o.dst.all (· <n) then
   match o.guard with
   |none=> some ⟨o.dst,op,none⟩
   |some (j,want)=> match (ops[j]?).bind (·.dst) with
    |some t=> if t<n then some ⟨o.dst,op,some (t,want)⟩ else none
    |none=> none
  else none
def zDd (n:Nat) (ops:Array Oper):List Oper->Option (List AIns)
 |[]=> some []
 |o::l=> (zGf P ext n ops o).bind fun i=> (zDd n ops l).map (i::·)
def zUl:Op->Bool
 |.assign _=> true
 |_=> false
structure DI where
 ix:Nat
 i:AIns
 loud:Bool
def zEh (b:Array Nat) (i j:Nat):Bool:=(b.getD j 0).testBit i
def zKo (b:Array Nat) (rest:List DI) (x:DI):Bool:=rest.all fun y=> !zEh b y.ix x.ix
def zFl (x:DI) (rest:List DI):List DI:=rest.filter fun y=> y.ix !=x.ix
def qD4 (b:Array Nat) (done:List DI) (x:DI):List AIns:=(done.filter fun q=> !q.loud && q.i.op.readB && !zEh b q.ix x.ix).map (·.i)
def alts:List DT->DT
 |[]=> .bad
 |[t]=> t
 |t::l=> .both t (alts l)
def gen (b:Array Nat):Nat->List DI->List DI->DT
 |0,_,rest=> if rest.isEmpty then .nil else .bad
 |f+1,done,rest=>
  match rest.find? fun q=> !q.loud && zKo b rest q with
  |some q=> .quiet q.i (gen b f (q::done) (zFl q rest))
  |none=> if rest.isEmpty then .nil else
   alts ((rest.filter fun x=> x.loud && zKo b rest x).map fun x=> .loud x.i (qD4 b done x) (gen b f (x::done) (zFl x rest)))
def zSh (b:Array Nat) (x y:DI):Bool:=
 (match x.i.dst with
  |some t=> !(y.i.reads.contains t)||zEh b x.ix y.ix||(x.loud && zEh b y.ix x.ix)
  |none=> true) &&
 (match x.i.dst,y.i.dst with
  |some t,some u=> t !=u||(x.loud && y.loud)
  |_,_=> true)
def oneD (x:DI):Bool:=
 x.loud||(x.i.op.quietB && (match x.i.dst with|some t=> !(x.i.reads.contains t)|none=> false))
def qDx (ops:Array Oper):Bool:=ops.toList.zipIdx.all fun (o,i)=> o.after.all fun e=> !Region.binds .any e||decide (e.on<i)
def qKg (ops:Array Oper) (b:Array Nat) (ds:List DI):Bool:=
 ds.all (fun x=> ds.all fun y=> x.ix==y.ix||zSh b x y) && ds.all oneD && qDx ops
def zQa (ops:Array Oper) (is:List AIns):List DI:=
 (is.zip ops.toList).zipIdx.map fun x=> ⟨x.2,x.1.1,zUl x.1.2.op|| !x.1.1.op.quietB⟩
def zSk (n:Nat) (ops:Array Oper):Option DT:=
 (zDd P ext n ops ops.toList).bind fun is=>
  if qKg ops (Region.before ops) (zQa ops is) then some (gen (Region.before ops) (zQa ops is).length [] (zQa ops is)) else none
end
end Go.Abs
