/-
  THE DATA, and how each lies.
-/
import Derived.Test.YtnemoimbeefngaaGreatPF
import Derived.Test.YtnemoimbeefngaaGreatPA3
import Derived.Test.YtnemoimbeefngaaGreatRows
set_option linter.unusedSimpArgs false
set_option linter.unusedVariables false
set_option linter.unnecessarySimpa false
set_option linter.unusedSectionVars false
set_option maxHeartbeats 32000000
set_option maxRecDepth 100000
namespace Go.Proofs
namespace YtnemoimbeefngaaGreat
open Go.Abs
structure Ent where
 t:Int
 v:Int
 n:Int
 deriving DecidableEq
structure Pr where
 t:Int
 v:Int
 deriving DecidableEq
structure Ev where
 k:Int
 a:Int
 t:Int
 v:Int
 deriving DecidableEq
structure Ak where
 k:Int
 t:Int
 v:Int
 deriving DecidableEq
structure Att where
 n:Nat
 snap:Int
 es:List Ent
 fs:List (List Pr)
 asked:Bool
 ra:Ak
 at_:Nat
 back:Nat
 nx:Nat
 seen:Int
 val:Int
 dec:Bool
 deriving DecidableEq
structure NS where
 o:Option Int
 c:Int
 hp:List Int
 ts:Nat->Option Att
 ev:List Ev
 ky:List Int
 wy:List Int
structure TA where
 n:Nat
 rv:Int
 wv:Int
 es:List Ent
 fs:List (List Pr)
 ra:Ak
 ph:Nat
 nx:Nat
 sw:Int
 sv:Int
 ss:Nat
 dec:Bool
 deriving DecidableEq
structure Fate where
 n:Nat
 key:Int
 why:Int
 deriving DecidableEq
structure TS where
 ws:List Int
 c:Int
 hp:List Int
 ts:Nat->Option TA
 ev:List Ev
 ft:List Fate
inductive GD where
 |lk (o:Option Int) (c:Int)
 |rlk (o:Option Int) (c:Int)
 |stk (fs:List (List Pr))
 |log (fs:List (List Pr))
 |rlog (fs:List (List Pr))
 |att (a:Att)
 |ratt (a:Att)
 |eng (s:NS)
 |reng (s:NS)
 |set (c:Nat) (l:List Ent)
 |rset (l:List Ent)
 |tab (ws:List Int) (c:Int)
 |rtab (ws:List Int) (c:Int)
 |vints (l:List Int)
 |tatt (a:TA)
 |teng (s:TS)
def Fate.cells (f:Fate):List Value:=[.int .i64 f.n,.int .u64 f.key,.int .u8 f.why]
def zM3 (l:List Fate):List Value:=l.flatMap Fate.cells
def Ent.cells (e:Ent):List Value:=[.int .i64 e.t,.int .u64 e.v,.int .u64 e.n]
def Ent.val (e:Ent):Value:=.agg e.cells.toArray
def zB8 (l:List Ent):List (Value × Value):=l.map fun e=> (.int .i64 e.t,e.val)
def zCh (l:List Ent):List Value:=l.map fun e=> .int .i64 e.t
def zAb (l:List Ent):List Value:=l.flatMap Ent.cells
def us (h:List Int):List Value:=h.map fun v=> .int .u64 v
def Pr.cells (p:Pr):List Value:=[.int .i64 p.t,.int .u64 p.v]
def prs (l:List Pr):List Value:=l.flatMap Pr.cells
def Ev.cells (e:Ev):List Value:=[.int .u8 e.k,.int .i64 e.a,.int .i64 e.t,.int .u64 e.v]
def evs (l:List Ev):List Value:=l.flatMap Ev.cells
def u8s (l:List Int):List Value:=l.map fun v=> .int .u8 v
def Att.ask (a:Att):Ak:=if a.asked then a.ra else ⟨0,0,0⟩
def nextP:List (List Pr)->Value
 |[]=> .pointer none
 |_::_=> .pointer (some ⟨2,0,none⟩)
def nextO:List (List Pr)->List (AObj GD)
 |[]=> []
 |f::fs=> [.hi (.stk (f::fs))]
def stkO:List (List Pr)->List (AObj GD)
 |[]=> [.arr 220 []]
 |f::fs=> .arr 220 [.slice (some ⟨1,0,none⟩) f.length 1,nextP fs]::.arr 157 (prs f)::nextO fs
def lkO:Option Int->Int->List (AObj GD)
 |none,c=> [.arr 152 [.pointer none,.int .u64 c]]
 |some x,c=> [.arr 152 [.pointer (some ⟨1,0,none⟩),.int .u64 c],.arr 3 [.int .i64 x]]
def jP (f:List Pr) (t:Int):Option Int:=(f.find? fun p=> p.t==t).map (·.v)
def zEm:List Int:=[0,1,2,3,4,5,6,7,8,9,10,11]
def xQ (f:List Pr):List Value:=(zEm.map fun t=> .bool (jP f t).isSome)++zEm.map fun t=> .int .u64 ((jP f t).getD 0)
def zBo:Option Att->AObj GD
 |some a=> .hi (.att a)
 |none=> .arr 100 []
def zBi:Option Att->AObj GD
 |some a=> .hi (.ratt a)
 |none=> .arr 123 []
def tp1 (i:Int) (k:Nat):Option Att->List (Value × Value)
 |some _=> [(.int .i64 i,.pointer (some ⟨k,0,none⟩))]
 |none=> []
def tpK (k0 k1 k2 k3:Nat) (ts:Nat->Option Att):List (Value × Value):=tp1 0 k0 (ts 0)++(tp1 1 k1 (ts 1)++(tp1 2 k2 (ts 2)++tp1 3 k3 (ts 3)))
def zCd (k:Nat):Option Att->Value
 |some _=> .pointer (some ⟨k,0,none⟩)
 |none=> .pointer none
def zF1:Option TA->AObj GD
 |some a=> .hi (.tatt a)
 |none=> .arr 0 []
def zJb (k:Nat):Option TA->Value
 |some _=> .pointer (some ⟨k,0,none⟩)
 |none=> .pointer none
def zDz (ky wy:List Int):List Value:=(ky.zip wy).flatMap fun x=> [.int .u64 x.1,.int .u8 x.2]
def frag:GD->List (AObj GD)
 |.lk o c=> lkO o c
 |.rlk o c=> [.arr 168 [.int .u64 c,.bool o.isSome,.int .i64 (o.getD 0)]]
 |.stk fs=> stkO fs
 |.log fs=> [.arr 166 [.pointer (some ⟨1,0,none⟩),.int .i64 ((fs.length:Int) - 1)],.hi (.stk fs)]
 |.rlog fs=> [.arr 173 [.slice (some ⟨1,0,none⟩) fs.length 1],.arr 214 (fs.reverse.flatMap xQ)]
 |.att a=> [.arr 100 [.pointer (some ⟨1,0,none⟩),.pointer (some ⟨2,0,none⟩),.int .i64 a.n,.int .u64 a.snap,.int .u8 a.ask.k,.int .i64 a.ask.t,.int .u64 a.ask.v,.int .i64 a.at_,.int .i64 a.back,.int .i64 a.nx,.int .u64 a.seen,.int .u64 a.val,.bool a.dec],
  .hi (.set 0 a.es),.hi (.log a.fs)]
 |.ratt a=> [.arr 123 [.int .i64 a.n,.int .u64 a.snap,.pointer (some ⟨1,0,none⟩),.pointer (some ⟨2,0,none⟩),.bool a.asked,.int .u8 a.ra.k,.int .i64 a.ra.t,.int .u64 a.ra.v,.int .i64 (if a.at_<4 then a.at_ else a.at_+6),.int .i64 a.back,.int .i64 a.nx,.int .u64 a.seen,.int .u64 a.val,.bool a.dec],
  .hi (.rset a.es),.hi (.rlog a.fs)]
 |.eng s=> [.arr 90 [.pointer (some ⟨1,0,none⟩),.slice (some ⟨2,0,none⟩) s.hp.length 1,.map (some 3),.slice (some ⟨4,0,none⟩) s.ev.length 1,.slice (some ⟨5,0,none⟩) s.ky.length 1,.slice (some ⟨6,0,none⟩) s.wy.length 1],
  .hi (.lk s.o s.c),.arr 49 (us s.hp),.mapq (tpK 7 8 9 10 s.ts),.arr 84 (evs s.ev),.arr 38 (us s.ky),.arr 61 (u8s s.wy),zBo (s.ts 0),zBo (s.ts 1),zBo (s.ts 2),zBo (s.ts 3)]
 |.reng s=> [.arr 118 [.slice (some ⟨1,0,none⟩) s.hp.length 1,.pointer (some ⟨2,0,none⟩),zCd 5 (s.ts 0),zCd 6 (s.ts 1),zCd 7 (s.ts 2),zCd 8 (s.ts 3),.slice (some ⟨3,0,none⟩) s.ev.length 1,.slice (some ⟨4,0,none⟩) s.ky.length 1],
  .arr 49 (us s.hp),.hi (.rlk s.o s.c),.arr 84 (evs s.ev),.arr 159 (zDz s.ky s.wy),zBi (s.ts 0),zBi (s.ts 1),zBi (s.ts 2),zBi (s.ts 3)]
 |.set c l=> [.arr 163 [.slice (some ⟨1,0,none⟩) l.length 1,.map (some 2)],.arr 3 (zCh l),.mapq (zB8 l)]
 |.rset l=> [.arr 170 [.slice (some ⟨1,0,none⟩) l.length 1],.arr 155 (zAb l)]
 |.tab ws c=> [.arr 0 [.int .u64 c,.slice (some ⟨1,0,none⟩) ws.length 1],.arr 38 (us ws)]
 |.rtab ws c=> [.arr 0 [.slice (some ⟨1,0,none⟩) ws.length 1,.int .u64 c],.arr 38 (us ws)]
 |.vints l=> [.arr 33 [.slice (some ⟨1,0,none⟩) l.length 1],.arr 3 (qZ l)]
 |.tatt a=> [.arr 0 [.pointer (some ⟨1,0,none⟩),.pointer (some ⟨2,0,none⟩),.int .i64 a.n,.int .u64 a.rv,.int .u64 a.wv,.int .u8 a.ra.k,.int .i64 a.ra.t,.int .u64 a.ra.v,.int .i64 a.ph,.int .i64 a.nx,.int .u64 a.sw,.int .u64 a.sv,.int .i64 a.ss,.bool a.dec],
  .hi (.set 0 a.es),.hi (.log a.fs)]
 |.teng s=> [.arr 0 [.pointer (some ⟨1,0,none⟩),.slice (some ⟨2,0,none⟩) s.hp.length 1,zJb 5 (s.ts 0),zJb 6 (s.ts 1),zJb 7 (s.ts 2),zJb 8 (s.ts 3),.slice (some ⟨3,0,none⟩) s.ev.length 1,.slice (some ⟨4,0,none⟩) s.ft.length 1],
  .hi (.tab s.ws s.c),.arr 49 (us s.hp),.arr 84 (evs s.ev),.arr 0 (zM3 s.ft),zF1 (s.ts 0),zF1 (s.ts 1),zF1 (s.ts 2),zF1 (s.ts 3)]
theorem zBj (c:Int):frag (.lk none c)=[.arr 152 [.pointer none,.int .u64 c]]:=rfl
theorem zBz (x c:Int):frag (.lk (some x) c)=[.arr 152 [.pointer (some ⟨1,0,none⟩),.int .u64 c],.arr 3 [.int .i64 x]]:=rfl
theorem zAe (o:Option Int) (c:Int):frag (.rlk o c)=[.arr 168 [.int .u64 c,.bool o.isSome,.int .i64 (o.getD 0)]]:=rfl
theorem jQ (f:List Pr):frag (.stk [f])=[.arr 220 [.slice (some ⟨1,0,none⟩) f.length 1,.pointer none],.arr 157 (prs f)]:=rfl
theorem jS (f g:List Pr) (fs:List (List Pr)):frag (.stk (f::g::fs))=[.arr 220 [.slice (some ⟨1,0,none⟩) f.length 1,.pointer (some ⟨2,0,none⟩)],.arr 157 (prs f),.hi (.stk (g::fs))]:=rfl
theorem jH (fs:List (List Pr)):frag (.log fs)=[.arr 166 [.pointer (some ⟨1,0,none⟩),.int .i64 ((fs.length:Int) - 1)],.hi (.stk fs)]:=rfl
theorem zH (a:Att):frag (.att a)=[.arr 100 [.pointer (some ⟨1,0,none⟩),.pointer (some ⟨2,0,none⟩),.int .i64 a.n,.int .u64 a.snap,.int .u8 a.ask.k,.int .i64 a.ask.t,.int .u64 a.ask.v,.int .i64 a.at_,.int .i64 a.back,.int .i64 a.nx,.int .u64 a.seen,.int .u64 a.val,.bool a.dec],
 .hi (.set 0 a.es),.hi (.log a.fs)]:=rfl
theorem qF (a:Att):frag (.ratt a)=[.arr 123 [.int .i64 a.n,.int .u64 a.snap,.pointer (some ⟨1,0,none⟩),.pointer (some ⟨2,0,none⟩),.bool a.asked,.int .u8 a.ra.k,.int .i64 a.ra.t,.int .u64 a.ra.v,.int .i64 (if a.at_<4 then a.at_ else a.at_+6),.int .i64 a.back,.int .i64 a.nx,.int .u64 a.seen,.int .u64 a.val,.bool a.dec],
 .hi (.rset a.es),.hi (.rlog a.fs)]:=rfl
theorem zJ (s:NS):frag (.eng s)=[.arr 90 [.pointer (some ⟨1,0,none⟩),.slice (some ⟨2,0,none⟩) s.hp.length 1,.map (some 3),.slice (some ⟨4,0,none⟩) s.ev.length 1,.slice (some ⟨5,0,none⟩) s.ky.length 1,.slice (some ⟨6,0,none⟩) s.wy.length 1],
 .hi (.lk s.o s.c),.arr 49 (us s.hp),.mapq (tpK 7 8 9 10 s.ts),.arr 84 (evs s.ev),.arr 38 (us s.ky),.arr 61 (u8s s.wy),zBo (s.ts 0),zBo (s.ts 1),zBo (s.ts 2),zBo (s.ts 3)]:=rfl
theorem qV (s:NS):frag (.reng s)=[.arr 118 [.slice (some ⟨1,0,none⟩) s.hp.length 1,.pointer (some ⟨2,0,none⟩),zCd 5 (s.ts 0),zCd 6 (s.ts 1),zCd 7 (s.ts 2),zCd 8 (s.ts 3),.slice (some ⟨3,0,none⟩) s.ev.length 1,.slice (some ⟨4,0,none⟩) s.ky.length 1],
 .arr 49 (us s.hp),.hi (.rlk s.o s.c),.arr 84 (evs s.ev),.arr 159 (zDz s.ky s.wy),zBi (s.ts 0),zBi (s.ts 1),zBi (s.ts 2),zBi (s.ts 3)]:=rfl
theorem zFh (c:Nat) (l:List Ent):frag (.set c l)=[.arr 163 [.slice (some ⟨1,0,none⟩) l.length 1,.map (some 2)],.arr 3 (zCh l),.mapq (zB8 l)]:=rfl
theorem zBg (l:List Ent):frag (.rset l)=[.arr 170 [.slice (some ⟨1,0,none⟩) l.length 1],.arr 155 (zAb l)]:=rfl
abbrev cfg:=zA5 Tryz.prog frag
abbrev G:=gX Tryz.prog frag
theorem zX {tbl:List (FuncId × qW GD)} (h:∀x∈tbl,qI Tryz.prog cfg x.1 x.2) (F d:Nat) {f:FuncId} {af:AF} (hf:forms f=some af) {args:List Value} {H:AH GD} {K:AEnd->AH GD->Prop}
  (hr:af.run (G (zAf G (zF0 (xV Tryz.prog cfg) tbl) forms F d noY) (zAf G (zF0 (xV Tryz.prog cfg) tbl) forms F d)) F args H K):zP Tryz.prog cfg f args H K:=
 qMv zAh hmix hext (xD h) qI1 F d hf hr
end YtnemoimbeefngaaGreat
end Go.Proofs
namespace Go.Proofs
namespace YtnemoimbeefngaaGreat
open Go.Abs
def zH0:Value->Option Nat
 |.pointer (some ⟨k,0,none⟩)=> some k
 |_=> none
theorem qOi (k:Nat):zH0 (.pointer (some ⟨k,0,none⟩))=some k:=rfl
theorem zFd {v:Value} {k:Nat} (h:zH0 v=some k):v=.pointer (some ⟨k,0,none⟩):=by
 unfold zH0 at h
 split at h
 ·cases h;rfl
 ·cases h
def asU:Value->Option Int
 |.int .u64 v=> some v
 |_=> none
def asI:Value->Option Int
 |.int .i64 v=> some v
 |_=> none
theorem qTh (v:Int):asU (.int .u64 v)=some v:=rfl
theorem qTi (v:Int):asI (.int .i64 v)=some v:=rfl
theorem zGk {x:Value} {v:Int} (h:asU x=some v):x=.int .u64 v:=by
 unfold asU at h
 split at h
 ·cases h;rfl
 ·cases h
theorem qPy {x:Value} {v:Int} (h:asI x=some v):x=.int .i64 v:=by
 unfold asI at h
 split at h
 ·cases h;rfl
 ·cases h
theorem xB {H:AH GD} {k:Nat} {o:AObj GD} (h:H.get k=some o):H.upd k o=H:=by
 refine AH.ext' rfl fun j=> ?_
 rw[AH.get_upd]
 split
 ·rename_i e;subst e;exact h.symm
 ·rfl
theorem qM (h:List Int) (i:Nat) (v:Int):(us h).set i (.int .u64 v)=us (h.set i v):=by simp[us,List.map_set]
theorem zJr (l:List Int):(us l).take l.length=us l:=List.take_of_length_le (by simp[us])
theorem zC5 (h:List Int):(us h).length=h.length:=by simp[us]
theorem qAp (h:List Int):xI (us h)=true:=by
 induction h with
 |nil=> rfl
 |cons v h ih=> simp[us,xI,xY] at ih⊢;exact ih
theorem zF3 (θ:Nat->Nat) (h:List Int):zAu θ (us h)=us h:=zAy θ _ (qAp h)
theorem zEb {h:List Int} {i:Nat} {v:Int} (hv:h[i]?=some v):(us h)[i]?=some (.int .u64 v):=by simp[us,hv]
def sl0:Value->Option (Nat × Nat × Nat)
 |.slice (some ⟨k,0,none⟩) n c=> some (k,n,c)
 |_=> none
theorem qP8 (k n c:Nat):sl0 (.slice (some ⟨k,0,none⟩) n c)=some (k,n,c):=rfl
theorem zG4 {v:Value} {q:Nat × Nat × Nat} (h:sl0 v=some q):v=.slice (some ⟨q.1,0,none⟩) q.2.1 q.2.2:=by
 unfold sl0 at h
 split at h
 ·cases h;rfl
 ·cases h
def zHd:List Value->Option (List Int)
 |[]=> some []
 |.int .u64 v::l=> (zHd l).map (v::·)
 |_=> none
theorem zGj:∀h:List Int,zHd (us h)=some h
 |[]=> rfl
 |v::h=> by
  show (zHd (us h)).map (v::·)=_
  rw[zGj h];rfl
theorem zFj:∀{cs:List Value} {h:List Int},zHd cs=some h->cs=us h
 |[],h,e=> by cases e;rfl
 |v::cs,h,e=> by
  unfold zHd at e
  split at e
  ·simp_all
  ·rename_i v' l heq
   cases heq
   simp only[Option.map_eq_some_iff] at e
   obtain⟨h',e1,rfl⟩:=e
   rw[zFj e1];rfl
  ·cases e
def zM0 (H:AH GD) (k:Nat):Option (List Int):=
 match H.get k with
 |some (.ro cs)=> zHd cs
 |_=> none
theorem zLw {H:AH GD} {k:Nat} {h:List Int} (hg:zM0 H k=some h):H.get k=some (.ro (us h)):=by
 unfold zM0 at hg
 split at hg
 ·rename_i cs e;rw[e,zFj hg]
 ·cases hg
def zFg (H:AH GD) (k:Nat):Option (TypeId × List Int):=
 match H.get k with
 |some (.arr e cs)=> (zHd cs).map fun h=> (e,h)
 |_=> none
theorem zEs {H:AH GD} {k:Nat} {x:TypeId × List Int} (hg:zFg H k=some x):H.get k=some (.arr x.1 (us x.2)):=by
 unfold zFg at hg
 split at hg
 ·rename_i e cs he
  simp only[Option.map_eq_some_iff] at hg
  obtain⟨h,h1,rfl⟩:=hg
  rw[he,zFj h1]
 ·cases hg
theorem qKx (H:AH GD) (k:Nat) (o o':AObj GD):(H.upd k o).upd k o'=H.upd k o':=by
 refine AH.ext' rfl fun j=> ?_
 simp only[AH.get_upd]
 split<;> rfl
theorem zOa (v:Int):us [v]=[.int .u64 v]:=rfl
theorem qP6:us []=[]:=rfl
theorem zJa (a b:List Int):us (a++b)=us a++us b:=by simp[us]
def zHw:List Value->Option (List Int)
 |[]=> some []
 |.int .i64 v::l=> (zHw l).map (v::·)
 |_=> none
theorem zHo:∀h:List Int,zHw (qZ h)=some h
 |[]=> rfl
 |v::h=> by
  show (zHw (qZ h)).map (v::·)=_
  rw[zHo h];rfl
theorem zPd:∀{cs:List Value} {h:List Int},zHw cs=some h->cs=qZ h
 |[],h,e=> by cases e;rfl
 |v::cs,h,e=> by
  unfold zHw at e
  split at e
  ·simp_all
  ·rename_i v' l heq
   cases heq
   simp only[Option.map_eq_some_iff] at e
   obtain⟨h',e1,rfl⟩:=e
   rw[zPd e1];rfl
  ·cases e
theorem zP6 {h:List Int} {i:Nat} {v:Int} (hv:h[i]?=some v):(qZ h)[i]?=some (.int .i64 v):=by simp[qZ,hv]
theorem zB2 (a b:List Int):qZ (a++b)=qZ a++qZ b:=by simp[qZ]
theorem zQq (l:List Int):(qZ l).take l.length=qZ l:=List.take_of_length_le (by simp)
def zGd (H:AH GD) (k:Nat):Option (TypeId × List Int):=
 match H.get k with
 |some (.arr e cs)=> (zHw cs).map fun h=> (e,h)
 |_=> none
theorem zF5 {H:AH GD} {k:Nat} {x:TypeId × List Int} (hg:zGd H k=some x):H.get k=some (.arr x.1 (qZ x.2)):=by
 unfold zGd at hg
 split at hg
 ·rename_i e cs he
  simp only[Option.map_eq_some_iff] at hg
  obtain⟨h,h1,rfl⟩:=hg
  rw[he,zPd h1]
 ·cases hg
theorem zA8 {i n:Nat} (hi:i<n) (hn:n<=1000000):IntKind.i64.wrap ((i:Int)+1)=((i+1:Nat):Int):=by rw[qX (by omega) (by omega)];omega
theorem zLh {α:Type} {a b:List α} (hl:a.length=b.length) (h:∀j,j<a.length->a[j]?=b[j]?):a=b:=by
 refine List.ext_getElem? fun j=> ?_
 rcases Nat.lt_or_ge j a.length with hj|hj
 ·exact h j hj
 ·rw[List.getElem?_eq_none hj,List.getElem?_eq_none (by omega)]
theorem zB1 (v:Int):qZ [v]=[.int .i64 v]:=rfl
theorem qHo:zH0 (.pointer none)=none:=rfl
def qKk:Value->Option Unit
 |.pointer none=> some ()
 |_=> none
theorem qId:qKk (.pointer none)=some ():=rfl
theorem qDl (k o:Nat):qKk (.pointer (some ⟨k,o,none⟩))=none:=rfl
abbrev zAl:=GD->List Value->Option (Prop × Value × GD)
def qC (g:zAl):qW GD:=fun args H=> match args with
 |.pointer (some ⟨k,0,none⟩)::rest=> match H.get k with
  |some (.hi d)=> (g d rest).map fun x=> (x.1,.ret x.2.1,H.upd k (.hi x.2.2))
  |_=> none
 |_=> none
theorem xJ {fid:FuncId} {g:zAl} (h:∀d rest p v d',g d rest=some (p,v,d')->p->xI rest=true/\xY v=true/\zP Tryz.prog cfg fid (.pointer (some ⟨0,0,none⟩)::rest) (AH.of [some (.hi d)]) fun r H'=> r=.ret v/\H'=AH.of [some (.hi d')]):qI Tryz.prog cfg fid (qC g):=by
 intro args H p r H' he hp
 unfold qC at he
 split at he
 case h_2=> cases he
 split at he
 case h_2=> cases he
 simp only[Option.map_eq_some_iff] at he
 obtain⟨⟨p',v,d'⟩,h1,h2⟩:=he
 rename_i k rest x d hk
 cases h2
 obtain⟨g1,g2,hr⟩:=h d rest p' v d' h1 hp
 exact hr.atK (xE rfl) [k] (by simp) (by simp) (by simp[hk]) (by rw[zAu,zAy _ _ g1];simp) (by rw[zT1,zEo _ _ g2]) (by simp)
attribute [simp] zF3 qOi qHo qTh qTi qP8 zGj zHd zHo qId qDl
end YtnemoimbeefngaaGreat
end Go.Proofs
namespace Go.Proofs
namespace YtnemoimbeefngaaGreat
open Go.Abs Go.ChangeShapes Go.WideShapes Go.ChangeAt Go.RowKit
set_option maxRecDepth 100000
theorem own:ownKnob Tryz.prog.godebug=none:=by kernel_rfl
section
variable {H:Type} {enc:TypeId × Value->H} {w:World}
theorem qP5 {n:Int} (h:(Lit.int .u64 n).wf=true):0<=n/\n<18446744073709551616:=by
 have:0<=n/\n<=18446744073709551615:=by simpa [Lit.wf,IntKind.min,IntKind.max,IntKind.signed,IntKind.bits] using h
 omega
theorem wf_u8 {n:Int} (h:(Lit.int .u8 n).wf=true):0<=n/\n<256:=by
 have:0<=n/\n<=255:=by simpa [Lit.wf,IntKind.min,IntKind.max,IntKind.signed,IntKind.bits] using h
 omega
end
end YtnemoimbeefngaaGreat
end Go.Proofs
namespace Go.Proofs
namespace YtnemoimbeefngaaGreat
open Go.Abs
def xP:List Pr->Pr->List Pr
 |[],p=> [p]
 |q::f,p=> if q.t=p.t then ⟨q.t,p.v⟩::f else q::xP f p
theorem zGa (p:Pr) (l:List Pr):prs (p::l)=.int .i64 p.t::.int .u64 p.v::prs l:=rfl
theorem zCs (l:List Pr):(prs l).length=l.length*2:=by
 induction l with
 |nil=> rfl
 |cons e l ih=> rw[zGa,List.length_cons,List.length_cons,ih,List.length_cons];omega
theorem zKb (a b:List Pr):prs (a++b)=prs a++prs b:=by simp[prs]
theorem zYw (l:List Pr):xI (prs l)=true:=by
 induction l with
 |nil=> rfl
 |cons e l ih=> rw[zGa];simp[xI,xY,ih]
theorem qOa (θ:Nat->Nat) (l:List Pr):zAu θ (prs l)=prs l:=zAy θ _ (zYw l)
theorem zJ5 (l:List Pr):(prs l).take (l.length*2)=prs l:=List.take_of_length_le (by simp[zCs])
theorem zIz {i:Nat} {x:Pr}:∀{l:List Pr},l[i]?=some x->((prs l).drop (i*2)).take 2=x.cells:=by
 induction i with
 |zero=>
  intro l h
  cases l with
  |nil=> simp at h
  |cons e l=> simp at h;subst h;rfl
 |succ i ih=>
  intro l h
  cases l with
  |nil=> simp at h
  |cons e l=>
   rw[zGa,show (i+1)*2=i*2+1+1 by omega]
   simpa using ih (l:=l) (by simpa using h)
theorem zLs {l:List Pr} {i:Nat} {x:Pr} (h:l[i]?=some x):(prs l)[i*2]?=some (.int .i64 x.t)/\(prs l)[i*2+1]?=some (.int .u64 x.v):=by
 have h3:=zIz h
 have g:∀j,j<2->(prs l)[i*2+j]?=x.cells[j]?:=fun j hj=> by
  rw[←h3,List.getElem?_take,if_pos hj,List.getElem?_drop]
 exact⟨g 0 (by omega),g 1 (by omega)⟩
theorem zKa (p:Pr):prs [p]=[.int .i64 p.t,.int .u64 p.v]:=rfl
attribute [simp] qOa
def zA0 (o:Option Int):Value:=.tuple #[.int .u64 (o.getD 0),.bool o.isSome]
theorem zZn {f:List Pr} {t:Int} {i:Nat} {x:Pr} (hpre:∀(j:Nat) (y:Pr),j<i->f[j]?=some y->y.t≠t) (hx:f[i]?=some x) (ht:x.t=t):jP f t=some x.v:=by
 induction f generalizing i with
 |nil=> simp at hx
 |cons a f ih=>
  cases i with
  |zero=> simp at hx;subst hx;simp[jP,ht]
  |succ i=>
   have ha:a.t≠t:=hpre 0 a (by omega) rfl
   have:jP (a::f) t=jP f t:=by simp[jP,ha]
   rw[this]
   exact ih (i:=i) (fun j y hj hy=> hpre (j+1) y (by omega) (by simpa using hy)) (by simpa using hx)
theorem qDu {f:List Pr} {t:Int} (h:∀(j:Nat) (y:Pr),f[j]?=some y->y.t≠t):jP f t=none:=by
 have:f.find? (fun p=> p.t==t)=none:=by
  rw[List.find?_eq_none]
  intro x hx
  obtain⟨j,hj⟩:=List.mem_iff_getElem?.1 hx
  simpa using h j x hj
 simp[jP,this]
theorem qOh {f:List Pr} {p:Pr} {i:Nat} {x:Pr} (hpre:∀(j:Nat) (y:Pr),j<i->f[j]?=some y->y.t≠p.t) (hx:f[i]?=some x) (ht:x.t=p.t):xP f p=f.set i p:=by
 induction f generalizing i with
 |nil=> simp at hx
 |cons a f ih=>
  cases i with
  |zero=>
   simp at hx;subst hx
   have:p=⟨a.t,p.v⟩:=by cases p;simp_all
   simp[xP,ht]
  |succ i=>
   have ha:a.t≠p.t:=hpre 0 a (by omega) rfl
   simp only[xP,if_neg ha,List.set_cons_succ]
   rw[ih (i:=i) (fun j y hj hy=> hpre (j+1) y (by omega) (by simpa using hy)) (by simpa using hx)]
theorem qHm {f:List Pr} {p:Pr} (h:∀(j:Nat) (y:Pr),f[j]?=some y->y.t≠p.t):xP f p=f++[p]:=by
 induction f with
 |nil=> rfl
 |cons a f ih=>
  have ha:a.t≠p.t:=h 0 a rfl
  simp only[xP,if_neg ha,List.cons_append]
  rw[ih fun j y hj=> h (j+1) y (by simpa using hj)]
theorem zP1 (f:List Pr) (p:Pr):(xP f p).length<=f.length+1:=by
 induction f with
 |nil=> simp[xP]
 |cons a f ih=>
  simp only[xP]
  split
  ·simp
  ·simp;omega
theorem qOj {f:List Pr} {i:Nat} {x p:Pr} (hx:f[i]?=some x) (ht:x.t=p.t):(prs f).set (i*2+1) (.int .u64 p.v)=prs (f.set i p):=by
 induction f generalizing i with
 |nil=> simp at hx
 |cons a f ih=>
  cases i with
  |zero=>
   simp at hx;subst hx
   simp[zGa,ht]
  |succ i=>
   rw[zGa,show (i+1)*2+1=i*2+1+1+1 by omega,List.set_cons_succ,List.set_cons_succ,ih (by simpa using hx),List.set_cons_succ,zGa]
theorem qNn (e:TypeId) (f:List Pr) (tg:Nat) (t:Int) (hl:f.length<=1000):zP Tryz.prog cfg 141 [.slice (some ⟨0,0,none⟩) f.length tg,.int .i64 t] (AH.of [some (.arr e (prs f))])
  fun r H'=> r=.ret (zA0 (jP f t))/\H'=AH.of [some (.arr e (prs f))]:=by
 refine zP.ends ?_
 obtain⟨n,hn⟩:∃n,f.length=n:=⟨_,rfl⟩
 rw[hn]
 refine zX (tbl:=[]) (by simp) 1001 0 (af:=a141) rfl ?_
 rw[a141,b141,qB]
 refine⟨by simp,?_⟩
 simp -implicitDefEqProofs
 refine zBm (xC zAh (xD (by simp)) _ _ noY jT) (fun m tm H=> ∃i:Nat,m+i=n/\(∀(j:Nat) (y:Pr),j<i->f[j]?=some y->y.t≠t)/\tm 1=.int .i64 t/\tm 8=.slice (some ⟨0,0,none⟩) n tg/\tm 9=.int .i64 n/\tm 10=.int .i64 i/\H=AH.of [some (.arr e (prs f))]) (m:=n) ?_ (by omega) ?_
 ·refine qS [] [0] [some (.arr e (prs f))] n (by omega) ?_ ?_ ⟨0,by omega,fun j y hj=> by omega,?_,?_,?_,?_,rfl⟩<;> simp
 rintro m tm H ⟨i,hm,hpre,t1,t8,t9,t10,rfl⟩
 by_cases hi:i<n
 ·obtain⟨x,hx⟩:=zCk (l:=f) (i:=i) (by omega)
  have hi':(i:Int)<n:=by omega
  have hwr:=zA8 hi (by omega)
  have rx:=zIz hx
  have lx:i*2+2<=(prs f).length:=by rw[zCs];omega
  by_cases hxt:x.t=t
  ·have hg:=zZn hpre hx hxt
   simp -implicitDefEqProofs [t1,t8,t9,t10,hi,hi',rx,lx,Pr.cells,hxt]
   refine zA [] [0] ?_ ?_ ?_<;> simp[hg,zA0]
  ·have hpre2:∀(j:Nat) (y:Pr),j<i+1->f[j]?=some y->y.t≠t:=fun j y hj hy=> by
    by_cases e:j=i
    ·subst e;rw[hx] at hy;cases hy;exact hxt
    ·exact hpre j y (by omega) hy
   simp -implicitDefEqProofs [t1,t8,t9,t10,hi,hi',rx,lx,Pr.cells,hxt,hwr]
   refine qS [] [0] [some (.arr e (prs f))] (m - 1) (by omega) ?_ ?_ ⟨i+1,by omega,hpre2,?_,?_,?_,?_,rfl⟩<;> simp[t1,t8,t9]
 ·have hie:i=n:=by omega
  subst hie
  have hg:jP f t=none:=qDu fun j y hy=> hpre j y (by
   have:=(List.getElem?_eq_some_iff.1 hy).1;omega) hy
  simp -implicitDefEqProofs [t1,t8,t9,t10]
  refine zA [] [0] ?_ ?_ ?_<;> simp[hg,zA0]
def zKy:List Value->Option (List Pr)
 |[]=> some []
 |.int .i64 t::.int .u64 v::l=> (zKy l).map (⟨t,v⟩::·)
 |_=> none
theorem zL5:∀l:List Pr,zKy (prs l)=some l
 |[]=> rfl
 |e::l=> by rw[zGa,zKy,zL5 l];rfl
theorem zL6:∀{cs:List Value} {l:List Pr},zKy cs=some l->cs=prs l
 |cs,l,e=> by
  unfold zKy at e
  split at e
  ·cases e;rfl
  ·simp only[Option.map_eq_some_iff] at e
   obtain⟨l',e1,rfl⟩:=e
   rw[zL6 e1];rfl
  ·cases e
def zJw (H:AH GD) (k:Nat):Option (TypeId × List Pr):=
 match H.get k with
 |some (.arr e cs)=> (zKy cs).map fun h=> (e,h)
 |_=> none
theorem zFv {H:AH GD} {k:Nat} {x:TypeId × List Pr} (hg:zJw H k=some x):H.get k=some (.arr x.1 (prs x.2)):=by
 unfold zJw at hg
 split at hg
 ·rename_i e cs he
  simp only[Option.map_eq_some_iff] at hg
  obtain⟨h,h1,rfl⟩:=hg
  rw[he,zL6 h1]
 ·cases hg
attribute [simp] zL5 zJw
def zBy:qW GD:=fun args H=> match args with
 |[.slice (some ⟨k,0,none⟩) n _,.int .i64 t]=> (zJw H k).map fun x=> (n=x.2.length/\x.2.length<=1000,.ret (zA0 (jP x.2 t)),H)
 |_=> none
theorem zTh:qI Tryz.prog cfg 141 zBy:=by
 intro args H p r H' h hp
 unfold zBy at h
 split at h
 case h_2=> cases h
 simp only[Option.map_eq_some_iff] at h
 obtain⟨x,hx,h⟩:=h
 rename_i k n tg t
 cases h
 rw[hp.1]
 exact (qNn x.1 x.2 tg t hp.2).atK (xE rfl) [k] (by simp) (by simp) (by simp[zFv hx]) (by simp) (by simp[zA0]) (by simp[xB (zFv hx)])
theorem qMx (e:TypeId) (l:List Pr) (tg:Nat) (hl:l.length<=1000):zP Tryz.prog cfg 208 [.slice (some ⟨0,0,none⟩) l.length tg] (AH.of [some (.arr e (prs l))])
  fun r H'=> r=.ret (.slice (some ⟨1,0,none⟩) l.length 1)/\H'=AH.of [some (.arr e (prs l)),some (.arr 157 (prs l))]:=by
 refine zP.ends ?_
 refine zX (tbl:=[]) (by simp) 0 0 (af:=a208) rfl ?_
 rw[a208,b208,qB]
 refine⟨by simp,?_⟩
 have h1:l.length*16<=140737488355328/\l.length<=9223372036854775807:=by omega
 have h2:=zJ5 l
 have h3:l.length*2<=(prs l).length:=by rw[zCs];omega
 simp -implicitDefEqProofs [h1,h2,h3]
 repeat' (first|with_reducible apply And.intro|with_reducible intro _)
 all_goals first
  |(refine zA [] [0,2] ?_ ?_ ?_<;> simp;done)
  |(have:l=[]:=by assumption
    subst this
    refine zBx (r':=.ret (.slice (some ⟨1,0,none⟩) 0 1)) (zBw (by simp)) (zA [.nil 157] [0,1] ?_ ?_ ?_)<;> simp[prs])
def zR7:qW GD:=fun args H=> match args with
 |[.slice (some ⟨k,0,none⟩) n _]=> (zJw H k).map fun x=> (n=x.2.length/\x.2.length<=1000,.ret (.slice (some ⟨H.next,0,none⟩) x.2.length 1),H.add (.arr 157 (prs x.2)))
 |_=> none
theorem qF2:qI Tryz.prog cfg 208 zR7:=by
 intro args H p r H' h hp
 unfold zR7 at h
 split at h
 case h_2=> cases h
 simp only[Option.map_eq_some_iff] at h
 obtain⟨x,hx,h⟩:=h
 rename_i k n tg
 cases h
 rw[hp.1]
 exact (qMx x.1 x.2 tg hp.2).atK (xE rfl) [k] (by simp) (by simp) (by simp[zFv hx]) (by simp) (by simp) (by simp[xB (zFv hx)])
def zOf:List (FuncId × qW GD):=[(208,zR7)]
theorem zQo:∀x∈zOf,qI Tryz.prog cfg x.1 x.2:=by simp[zOf,qF2]
theorem qM3 (e:TypeId) (f:List Pr) (tg:Nat) (p:Pr) (hl:f.length<=1000):zP Tryz.prog cfg 191 [.slice (some ⟨0,0,none⟩) f.length tg,.agg #[.int .i64 p.t,.int .u64 p.v]] (AH.of [some (.arr e (prs f))])
  fun r H'=> r=.ret (.slice (some ⟨1,0,none⟩) (xP f p).length 1)/\H'=AH.of [some (.arr e (prs f)),some (.arr 157 (prs (xP f p)))]:=by
 refine zP.ends ?_
 obtain⟨n,hn⟩:∃n,f.length=n:=⟨_,rfl⟩
 rw[hn]
 have hn2:n<=1000:=by omega
 refine zX (tbl:=zOf) zQo 1001 0 (af:=a191) rfl ?_
 rw[a191,b191,qB]
 refine⟨by simp,?_⟩
 simp -implicitDefEqProofs [zOf,zR7,hn,hn2]
 refine zAp (xC zAh (xD zQo) _ _ noY jT) (fun m tm H=> ∃i:Nat,m+i=n/\(∀(j:Nat) (y:Pr),j<i->f[j]?=some y->y.t≠p.t)/\tm 3=.pointer (some ⟨1,0,none⟩)/\tm 5=.slice (some ⟨2,0,none⟩) n 1/\tm 10=.int .i64 n/\tm 11=.int .i64 i/\H=AH.of [some (.arr e (prs f)),some (.arr 157 [.int .i64 p.t,.int .u64 p.v]),some (.arr 157 (prs f))]) (m:=n) ⟨0,by simp⟩ (by omega) ?_
 rintro m tm H ⟨i,hm,hpre,t3,t5,t10,t11,rfl⟩
 by_cases hi:i<n
 ·obtain⟨x,hx⟩:=zCk (l:=f) (i:=i) (by omega)
  have hi':(i:Int)<n:=by omega
  have hwr:=zA8 hi (by omega)
  have rx:=(zLs hx).1
  have lx:i*2+1<(prs f).length:=by rw[zCs];omega
  have lx2:i*2+2<=(prs f).length:=by rw[zCs];omega
  by_cases hxt:x.t=p.t
  ·have hg:=qOh hpre hx hxt
   have hset:=qOj hx hxt
   simp -implicitDefEqProofs [t3,t5,t10,t11,hi,hi',rx,lx,lx2,hxt,hset]
   refine zA [] [0,2] ?_ ?_ ?_<;> simp[hg,hn]
  ·have hpre2:∀(j:Nat) (y:Pr),j<i+1->f[j]?=some y->y.t≠p.t:=fun j y hj hy=> by
    by_cases e:j=i
    ·subst e;rw[hx] at hy;cases hy;exact hxt
    ·exact hpre j y (by omega) hy
   simp -implicitDefEqProofs [t3,t5,t10,t11,hi,hi',rx,lx,hxt,hwr]
   exact⟨m - 1,by omega,i+1,by omega,hpre2,by omega⟩
 ·have hie:i=n:=by omega
  subst hie
  have hg:xP f p=f++[p]:=qHm fun j y hy=> hpre j y (by
   have:=(List.getElem?_eq_some_iff.1 hy).1;omega) hy
  have h1:(i+1)*16<=140737488355328/\i<=9223372036854775806:=by omega
  have h2:(prs f).take (i*2)=prs f:=by rw[←hn];exact zJ5 f
  have h3:i*2<=(prs f).length:=by rw[zCs];omega
  simp -implicitDefEqProofs [t3,t5,t10,t11,h1,h2,h3]
  refine zA [] [0,4] ?_ ?_ ?_<;> simp[hg,hn,zKb,zKa]
def zEc:qW GD:=fun args H=> match args with
 |[.slice (some ⟨k,0,none⟩) n _,.agg ⟨[.int .i64 t,.int .u64 v]⟩]=> (zJw H k).map fun x=> (n=x.2.length/\x.2.length<=1000,.ret (.slice (some ⟨H.next,0,none⟩) (xP x.2 ⟨t,v⟩).length 1),H.add (.arr 157 (prs (xP x.2 ⟨t,v⟩))))
 |_=> none
theorem zTc:qI Tryz.prog cfg 191 zEc:=by
 intro args H p r H' h hp
 unfold zEc at h
 split at h
 case h_2=> cases h
 simp only[Option.map_eq_some_iff] at h
 obtain⟨x,hx,h⟩:=h
 rename_i k n tg t v
 cases h
 rw[hp.1]
 exact (qM3 x.1 x.2 tg ⟨t,v⟩ hp.2).atK (xE rfl) [k] (by simp) (by simp) (by simp[zFv hx]) (by simp) (by simp) (by simp[xB (zFv hx)])
end YtnemoimbeefngaaGreat
end Go.Proofs
namespace Go.Proofs
namespace YtnemoimbeefngaaGreat
open Go.Abs
theorem qQi:zP Tryz.prog cfg 82 [] (AH.of []) fun r H'=> r=.ret (.pointer (some ⟨0,0,none⟩))/\H'=AH.of [some (.hi (.log [[]]))]:=by
 refine zP.ends ?_
 refine zX (tbl:=[]) (by simp) 0 2 (af:=a82) rfl ?_
 rw[a82,b82,qB]
 refine⟨by simp,?_⟩
 simp -implicitDefEqProofs [forms131,a131,b131]
 refine zA [.nil 157,.pack (GD.stk [[]]) 0 [2],.pack (GD.log [[]]) 1 [0]] [1] ?_ ?_ ?_<;> simp[jQ,jH,AObj.mine,prs]
def st82:qW GD:=fun args H=> match args with
 |[]=> some (True,.ret (.pointer (some ⟨H.next,0,none⟩)),H.add (.hi (.log [[]])))
 |_=> none
theorem qLm:qI Tryz.prog cfg 82 st82:=by
 intro args H p r H' h hp
 unfold st82 at h
 split at h
 case h_2=> cases h
 cases h
 exact qQi.atK (xE rfl) [] (by simp) (by simp) trivial (by simp) (by simp) (by simp)
theorem qNl (f:List Pr) (fs:List (List Pr)) (hl:fs.length<=100):zP Tryz.prog cfg 144 [.pointer (some ⟨0,0,none⟩)] (AH.of [some (.hi (.log (f::fs)))])
  fun r H'=> r=.ret (.int .i64 (if 4<=fs.length then 4 else 0))/\H'=AH.of [some (.hi (if 4<=fs.length then .log (f::fs) else .log ([]::f::fs)))]:=by
 refine zP.ends ?_
 by_cases h:4<=fs.length
 ·have h':(4:Int)<=fs.length:=by omega
  refine zX (tbl:=[]) (by simp) 0 2 (af:=a144) rfl ?_
  rw[a144,b144,qB]
  refine⟨by simp,?_⟩
  simp -implicitDefEqProofs [forms131,a131,b131,jH,h,h']
  refine zA [.pack (GD.log (f::fs)) 0 [1]] [0] ?_ ?_ ?_<;> simp[jH,AObj.mine,h]
 ·have h':¬(4:Int)<=fs.length:=by omega
  have hw:IntKind.i64.wrap ((fs.length:Int)+1)=(fs.length:Int)+1:=qX (by omega) (by omega)
  refine zX (tbl:=[]) (by simp) 0 2 (af:=a144) rfl ?_
  rw[a144,b144,qB]
  refine⟨by simp,?_⟩
  simp -implicitDefEqProofs [forms131,a131,b131,jH,h,h',hw]
  refine zA [.nil 157,.pack (GD.stk ([]::f::fs)) 2 [3,1],.pack (GD.log ([]::f::fs)) 0 [2]] [0] ?_ ?_ ?_<;> simp[jH,jS,AObj.mine,prs,h]
def d144:zAl
 |.log (f::fs),[]=> some (fs.length<=100,.int .i64 (if 4<=fs.length then 4 else 0),if 4<=fs.length then .log (f::fs) else .log ([]::f::fs))
 |_,_=> none
theorem qGl:qI Tryz.prog cfg 144 (qC d144):=xJ fun d rest p v d' h hp=> by
 unfold d144 at h
 split at h
 ·cases h;exact⟨rfl,rfl,qNl _ _ hp⟩
 ·cases h
theorem qNk (f:List Pr) (fs:List (List Pr)) (hl:fs.length<=100):zP Tryz.prog cfg 145 [.pointer (some ⟨0,0,none⟩)] (AH.of [some (.hi (.log (f::fs)))])
  fun r H'=> r=.ret (.int .i64 (if fs=[] then 8 else 0))/\H'=AH.of [some (.hi (if fs=[] then .log (f::fs) else .log fs))]:=by
 refine zP.ends ?_
 cases fs with
 |nil=>
  refine zX (tbl:=[]) (by simp) 0 2 (af:=a145) rfl ?_
  rw[a145,b145,qB]
  refine⟨by simp,?_⟩
  simp -implicitDefEqProofs [forms190,a190,b190,jH]
  refine zA [.pack (GD.log [f]) 0 [1]] [0] ?_ ?_ ?_<;> simp[jH,AObj.mine]
 |cons g fs=>
  have hne:¬((fs.length:Int)+1=0):=by omega
  have hl':fs.length+1<=100:=hl
  have hw:IntKind.i64.wrap (fs.length:Int)=fs.length:=qX (by omega) (by omega)
  refine zX (tbl:=[]) (by simp) 0 2 (af:=a145) rfl ?_
  rw[a145,b145,qB]
  refine⟨by simp,?_⟩
  simp -implicitDefEqProofs [forms190,a190,b190,jH,jS,hne,hw]
  refine zA [.pack (GD.log (g::fs)) 0 [3]] [0] ?_ ?_ ?_<;> simp[jH,AObj.mine]
def d145:zAl
 |.log (f::fs),[]=> some (fs.length<=100,.int .i64 (if fs=[] then 8 else 0),if fs=[] then .log (f::fs) else .log fs)
 |_,_=> none
theorem qGk:qI Tryz.prog cfg 145 (qC d145):=xJ fun d rest p v d' h hp=> by
 unfold d145 at h
 split at h
 ·cases h;exact⟨rfl,rfl,qNk _ _ hp⟩
 ·cases h
theorem qNt (fs:List (List Pr)):zP Tryz.prog cfg 132 [.pointer (some ⟨0,0,none⟩)] (AH.of [some (.hi (.log fs))])
  fun r H'=> r=.ret (.int .i64 ((fs.length:Int) - 1))/\H'=AH.of [some (.hi (.log fs))]:=by
 refine zP.ends ?_
 refine zX (tbl:=[]) (by simp) 0 2 (af:=a132) rfl ?_
 rw[a132,b132,qB]
 refine⟨by simp,?_⟩
 simp -implicitDefEqProofs [jH]
 refine zA [.pack (GD.log fs) 0 [1]] [0] ?_ ?_ ?_<;> simp[jH,AObj.mine]
def zCe:zAl
 |.log fs,[]=> some (True,.int .i64 ((fs.length:Int) - 1),.log fs)
 |_,_=> none
theorem qGr:qI Tryz.prog cfg 132 (qC zCe):=xJ fun d rest p v d' h hp=> by
 unfold zCe at h
 split at h
 ·cases h;exact⟨rfl,rfl,qNt _⟩
 ·cases h
end YtnemoimbeefngaaGreat
end Go.Proofs
namespace Go.Proofs
namespace YtnemoimbeefngaaGreat
open Go.Abs
def zAd (fs:List (List Pr)) (t:Int):Option Int:=fs.findSome? fun f=> jP f t
theorem zGs (t:Int):zAd [] t=none:=rfl
theorem zCp {f:List Pr} {fs:List (List Pr)} {t v:Int} (h:jP f t=some v):zAd (f::fs) t=some v:=by simp[zAd,h]
theorem zBf {f:List Pr} {fs:List (List Pr)} {t:Int} (h:jP f t=none):zAd (f::fs) t=zAd fs t:=by simp[zAd,h]
def zDf (fs:List (List Pr)):Int:=((fs.map List.length).sum:Nat)
theorem zGp:zDf []=0:=rfl
theorem zBe (f:List Pr) (fs:List (List Pr)):zDf (f::fs)=f.length+zDf fs:=by simp[zDf]
theorem zK6 (fs:List (List Pr)):0<=zDf fs:=by simp[zDf]
theorem zO1 {f:List Pr}:∀{fs:List (List Pr)},f∈fs->(f.length:Int)<=zDf fs
 |g::fs,h=> by
  rw[zBe]
  rcases List.mem_cons.1 h with rfl|h
  ·have:=zK6 fs;omega
  ·have:=zO1 h;omega
def zA6 (fs:List (List Pr)):Prop:=fs≠[]/\fs.length<=5/\zDf fs<=16
theorem zA6.le {fs:List (List Pr)} (h:zA6 fs):∀f∈fs,f.length<=1000:=fun f hf=> by
 have:=zO1 hf
 have:=h.2.2
 omega
inductive GW (fs:List (List Pr)) (t dd:Int) (r:Loop):Nat->AH GD->Prop
 |c0 (f:List Pr) (rs:List (List Pr)) (h:fs=f::rs):GW fs t dd r 5 (AH.of [some (.arr 166 [.pointer (some ⟨4,0,none⟩),.int .i64 dd]),some (.arr 3 [.int .i64 t]),some (.arr 49 [.int .u64 0]),some (.arr 4 [.bool false]),some (.hi (.stk (f::rs))),some (.arr 164 [.pointer (some ⟨4,0,none⟩)]),some (.loopr r 0 none)])
 |c1 (g1 f:List Pr) (rs:List (List Pr)) (h:fs=g1::f::rs) (n1:jP g1 t=none):GW fs t dd r 4 (AH.of [some (.arr 166 [.pointer (some ⟨4,0,none⟩),.int .i64 dd]),some (.arr 3 [.int .i64 t]),some (.arr 49 [.int .u64 0]),some (.arr 4 [.bool false]),some (.arr 220 [.slice (some ⟨7,0,none⟩) g1.length 1,.pointer (some ⟨8,0,none⟩)]),some (.arr 164 [.pointer (some ⟨8,0,none⟩)]),some (.loopr r 0 none),some (.arr 157 (prs g1)),some (.hi (.stk (f::rs)))])
 |n1 (g1:List Pr) (h:fs=[g1]) (n1:jP g1 t=none):GW fs t dd r 4 (AH.of [some (.arr 166 [.pointer (some ⟨4,0,none⟩),.int .i64 dd]),some (.arr 3 [.int .i64 t]),some (.arr 49 [.int .u64 0]),some (.arr 4 [.bool false]),some (.arr 220 [.slice (some ⟨7,0,none⟩) g1.length 1,.pointer none]),some (.arr 164 [.pointer none]),some (.loopr r 0 none),some (.arr 157 (prs g1))])
 |c2 (g1 g2 f:List Pr) (rs:List (List Pr)) (h:fs=g1::g2::f::rs) (n1:jP g1 t=none) (n2:jP g2 t=none):GW fs t dd r 3 (AH.of [some (.arr 166 [.pointer (some ⟨4,0,none⟩),.int .i64 dd]),some (.arr 3 [.int .i64 t]),some (.arr 49 [.int .u64 0]),some (.arr 4 [.bool false]),some (.arr 220 [.slice (some ⟨7,0,none⟩) g1.length 1,.pointer (some ⟨8,0,none⟩)]),some (.arr 164 [.pointer (some ⟨10,0,none⟩)]),some (.loopr r 0 none),some (.arr 157 (prs g1)),some (.arr 220 [.slice (some ⟨9,0,none⟩) g2.length 1,.pointer (some ⟨10,0,none⟩)]),some (.arr 157 (prs g2)),some (.hi (.stk (f::rs)))])
 |n2 (g1 g2:List Pr) (h:fs=[g1,g2]) (n1:jP g1 t=none) (n2:jP g2 t=none):GW fs t dd r 3 (AH.of [some (.arr 166 [.pointer (some ⟨4,0,none⟩),.int .i64 dd]),some (.arr 3 [.int .i64 t]),some (.arr 49 [.int .u64 0]),some (.arr 4 [.bool false]),some (.arr 220 [.slice (some ⟨7,0,none⟩) g1.length 1,.pointer (some ⟨8,0,none⟩)]),some (.arr 164 [.pointer none]),some (.loopr r 0 none),some (.arr 157 (prs g1)),some (.arr 220 [.slice (some ⟨9,0,none⟩) g2.length 1,.pointer none]),some (.arr 157 (prs g2))])
 |c3 (g1 g2 g3 f:List Pr) (rs:List (List Pr)) (h:fs=g1::g2::g3::f::rs) (n1:jP g1 t=none) (n2:jP g2 t=none) (n3:jP g3 t=none):GW fs t dd r 2 (AH.of [some (.arr 166 [.pointer (some ⟨4,0,none⟩),.int .i64 dd]),some (.arr 3 [.int .i64 t]),some (.arr 49 [.int .u64 0]),some (.arr 4 [.bool false]),some (.arr 220 [.slice (some ⟨7,0,none⟩) g1.length 1,.pointer (some ⟨8,0,none⟩)]),some (.arr 164 [.pointer (some ⟨12,0,none⟩)]),some (.loopr r 0 none),some (.arr 157 (prs g1)),some (.arr 220 [.slice (some ⟨9,0,none⟩) g2.length 1,.pointer (some ⟨10,0,none⟩)]),some (.arr 157 (prs g2)),some (.arr 220 [.slice (some ⟨11,0,none⟩) g3.length 1,.pointer (some ⟨12,0,none⟩)]),some (.arr 157 (prs g3)),some (.hi (.stk (f::rs)))])
 |n3 (g1 g2 g3:List Pr) (h:fs=[g1,g2,g3]) (n1:jP g1 t=none) (n2:jP g2 t=none) (n3:jP g3 t=none):GW fs t dd r 2 (AH.of [some (.arr 166 [.pointer (some ⟨4,0,none⟩),.int .i64 dd]),some (.arr 3 [.int .i64 t]),some (.arr 49 [.int .u64 0]),some (.arr 4 [.bool false]),some (.arr 220 [.slice (some ⟨7,0,none⟩) g1.length 1,.pointer (some ⟨8,0,none⟩)]),some (.arr 164 [.pointer none]),some (.loopr r 0 none),some (.arr 157 (prs g1)),some (.arr 220 [.slice (some ⟨9,0,none⟩) g2.length 1,.pointer (some ⟨10,0,none⟩)]),some (.arr 157 (prs g2)),some (.arr 220 [.slice (some ⟨11,0,none⟩) g3.length 1,.pointer none]),some (.arr 157 (prs g3))])
 |c4 (g1 g2 g3 g4 f:List Pr) (rs:List (List Pr)) (h:fs=g1::g2::g3::g4::f::rs) (n1:jP g1 t=none) (n2:jP g2 t=none) (n3:jP g3 t=none) (n4:jP g4 t=none):GW fs t dd r 1 (AH.of [some (.arr 166 [.pointer (some ⟨4,0,none⟩),.int .i64 dd]),some (.arr 3 [.int .i64 t]),some (.arr 49 [.int .u64 0]),some (.arr 4 [.bool false]),some (.arr 220 [.slice (some ⟨7,0,none⟩) g1.length 1,.pointer (some ⟨8,0,none⟩)]),some (.arr 164 [.pointer (some ⟨14,0,none⟩)]),some (.loopr r 0 none),some (.arr 157 (prs g1)),some (.arr 220 [.slice (some ⟨9,0,none⟩) g2.length 1,.pointer (some ⟨10,0,none⟩)]),some (.arr 157 (prs g2)),some (.arr 220 [.slice (some ⟨11,0,none⟩) g3.length 1,.pointer (some ⟨12,0,none⟩)]),some (.arr 157 (prs g3)),some (.arr 220 [.slice (some ⟨13,0,none⟩) g4.length 1,.pointer (some ⟨14,0,none⟩)]),some (.arr 157 (prs g4)),some (.hi (.stk (f::rs)))])
 |n4 (g1 g2 g3 g4:List Pr) (h:fs=[g1,g2,g3,g4]) (n1:jP g1 t=none) (n2:jP g2 t=none) (n3:jP g3 t=none) (n4:jP g4 t=none):GW fs t dd r 1 (AH.of [some (.arr 166 [.pointer (some ⟨4,0,none⟩),.int .i64 dd]),some (.arr 3 [.int .i64 t]),some (.arr 49 [.int .u64 0]),some (.arr 4 [.bool false]),some (.arr 220 [.slice (some ⟨7,0,none⟩) g1.length 1,.pointer (some ⟨8,0,none⟩)]),some (.arr 164 [.pointer none]),some (.loopr r 0 none),some (.arr 157 (prs g1)),some (.arr 220 [.slice (some ⟨9,0,none⟩) g2.length 1,.pointer (some ⟨10,0,none⟩)]),some (.arr 157 (prs g2)),some (.arr 220 [.slice (some ⟨11,0,none⟩) g3.length 1,.pointer (some ⟨12,0,none⟩)]),some (.arr 157 (prs g3)),some (.arr 220 [.slice (some ⟨13,0,none⟩) g4.length 1,.pointer none]),some (.arr 157 (prs g4))])
 |n5 (g1 g2 g3 g4 g5:List Pr) (h:fs=[g1,g2,g3,g4,g5]) (n1:jP g1 t=none) (n2:jP g2 t=none) (n3:jP g3 t=none) (n4:jP g4 t=none) (n5:jP g5 t=none):GW fs t dd r 0 (AH.of [some (.arr 166 [.pointer (some ⟨4,0,none⟩),.int .i64 dd]),some (.arr 3 [.int .i64 t]),some (.arr 49 [.int .u64 0]),some (.arr 4 [.bool false]),some (.arr 220 [.slice (some ⟨7,0,none⟩) g1.length 1,.pointer (some ⟨8,0,none⟩)]),some (.arr 164 [.pointer none]),some (.loopr r 0 none),some (.arr 157 (prs g1)),some (.arr 220 [.slice (some ⟨9,0,none⟩) g2.length 1,.pointer (some ⟨10,0,none⟩)]),some (.arr 157 (prs g2)),some (.arr 220 [.slice (some ⟨11,0,none⟩) g3.length 1,.pointer (some ⟨12,0,none⟩)]),some (.arr 157 (prs g3)),some (.arr 220 [.slice (some ⟨13,0,none⟩) g4.length 1,.pointer (some ⟨14,0,none⟩)]),some (.arr 157 (prs g4)),some (.arr 220 [.slice (some ⟨15,0,none⟩) g5.length 1,.pointer none]),some (.arr 157 (prs g5))])
def zDy:List (FuncId × qW GD):=[(141,zBy)]
theorem zPk:∀x∈zDy,qI Tryz.prog cfg x.1 x.2:=by simp[zDy,zTh]
theorem qQh (fs:List (List Pr)) (t:Int) (hne:fs≠[]) (hl:fs.length<=5) (hf:∀f∈fs,f.length<=1000):zP Tryz.prog cfg 88 [.pointer (some ⟨0,0,none⟩),.int .i64 t] (AH.of [some (.hi (.log fs))])
  fun r H'=> r=.ret (zA0 (zAd fs t))/\H'=AH.of [some (.hi (.log fs))]:=by
 refine zP.ends ?_
 obtain⟨dd,hdd⟩:∃dd,(fs.length:Int) - 1=dd:=⟨_,rfl⟩
 refine zX (tbl:=zDy) zPk 6 4 (af:=a88) rfl ?_
 rw[a88,b88,qB]
 refine⟨by simp,?_⟩
 simp -implicitDefEqProofs [zDy,forms140,a140,b140,forms189,a189,b189,jH,hdd]
 intro r
 refine zAp (xC zAh (xD zPk) _ _ _ (zQm (xC zAh (xD zPk) _ _ noY jT))) (fun m tm H=> tm 0=.func (.yield 6) #[] #[]/\tm 1=.pointer (some ⟨5,0,none⟩)/\GW fs t dd r m H) (m:=5) ?_ (by omega) ?_
 ·cases fs with
  |nil=> exact (hne rfl).elim
  |cons f rs=> exact⟨by simp,by simp,.c0 f rs rfl⟩
 rintro m tm H ⟨t0,t1,hw⟩
 cases hw with
 |c0 f rs h=>
  subst h
  have hfl:f.length<=1000:=hf f (by simp)
  cases hv:jP f t with
  |some v=>
   cases rs with
   |nil=>
    simp -implicitDefEqProofs [zDy,zBy,t0,t1,hv,hfl,jQ,zA0]
    refine zA [.pack (GD.stk [f]) 4 [7],.pack (GD.log (f::[])) 0 [4]] [0] ?_ ?_ ?_<;> simp[jQ,jS,jH,AObj.mine,zBf,zCp,hv,zA0,←hdd]
   |cons q rs=>
    simp -implicitDefEqProofs [zDy,zBy,t0,t1,hv,hfl,jS,zA0]
    refine zA [.pack (GD.stk (f::q::rs)) 4 [7,8],.pack (GD.log (f::q::rs)) 0 [4]] [0] ?_ ?_ ?_<;> simp[jQ,jS,jH,AObj.mine,zBf,zCp,hv,zA0,←hdd]
  |none=>
   cases rs with
   |nil=>
    simp -implicitDefEqProofs [zDy,zBy,t0,t1,hv,hfl,jQ,zA0]
    exact⟨4,by omega,.n1 f rfl hv⟩
   |cons q rs=>
    simp -implicitDefEqProofs [zDy,zBy,t0,t1,hv,hfl,jS,zA0]
    exact⟨4,by omega,.c1 f q rs rfl hv⟩
 |c1 g1 f rs h n1=>
  subst h
  have hfl:f.length<=1000:=hf f (by simp)
  cases hv:jP f t with
  |some v=>
   cases rs with
   |nil=>
    simp -implicitDefEqProofs [zDy,zBy,t0,t1,hv,hfl,jQ,zA0]
    refine zA [.pack (GD.stk [f]) 8 [9],.pack (GD.stk (g1::f::[])) 4 [7,8],.pack (GD.log (g1::f::[])) 0 [4]] [0] ?_ ?_ ?_<;> simp[jQ,jS,jH,AObj.mine,zBf,zCp,n1,hv,zA0,←hdd]
   |cons q rs=>
    simp -implicitDefEqProofs [zDy,zBy,t0,t1,hv,hfl,jS,zA0]
    refine zA [.pack (GD.stk (f::q::rs)) 8 [9,10],.pack (GD.stk (g1::f::q::rs)) 4 [7,8],.pack (GD.log (g1::f::q::rs)) 0 [4]] [0] ?_ ?_ ?_<;> simp[jQ,jS,jH,AObj.mine,zBf,zCp,n1,hv,zA0,←hdd]
  |none=>
   cases rs with
   |nil=>
    simp -implicitDefEqProofs [zDy,zBy,t0,t1,hv,hfl,jQ,zA0]
    exact⟨3,by omega,.n2 g1 f rfl n1 hv⟩
   |cons q rs=>
    simp -implicitDefEqProofs [zDy,zBy,t0,t1,hv,hfl,jS,zA0]
    exact⟨3,by omega,.c2 g1 f q rs rfl n1 hv⟩
 |n1 g1 h n1=>
  subst h
  simp -implicitDefEqProofs [t0,t1]
  refine zA [.pack (GD.stk [g1]) 4 [7],.pack (GD.log (g1::[])) 0 [4]] [0] ?_ ?_ ?_<;> simp[jQ,jS,jH,AObj.mine,zBf,zGs,zA0,n1,←hdd]
 |c2 g1 g2 f rs h n1 n2=>
  subst h
  have hfl:f.length<=1000:=hf f (by simp)
  cases hv:jP f t with
  |some v=>
   cases rs with
   |nil=>
    simp -implicitDefEqProofs [zDy,zBy,t0,t1,hv,hfl,jQ,zA0]
    refine zA [.pack (GD.stk [f]) 10 [11],.pack (GD.stk (g2::f::[])) 8 [9,10],.pack (GD.stk (g1::g2::f::[])) 4 [7,8],.pack (GD.log (g1::g2::f::[])) 0 [4]] [0] ?_ ?_ ?_<;> simp[jQ,jS,jH,AObj.mine,zBf,zCp,n1,n2,hv,zA0,←hdd]
   |cons q rs=>
    simp -implicitDefEqProofs [zDy,zBy,t0,t1,hv,hfl,jS,zA0]
    refine zA [.pack (GD.stk (f::q::rs)) 10 [11,12],.pack (GD.stk (g2::f::q::rs)) 8 [9,10],.pack (GD.stk (g1::g2::f::q::rs)) 4 [7,8],.pack (GD.log (g1::g2::f::q::rs)) 0 [4]] [0] ?_ ?_ ?_<;> simp[jQ,jS,jH,AObj.mine,zBf,zCp,n1,n2,hv,zA0,←hdd]
  |none=>
   cases rs with
   |nil=>
    simp -implicitDefEqProofs [zDy,zBy,t0,t1,hv,hfl,jQ,zA0]
    exact⟨2,by omega,.n3 g1 g2 f rfl n1 n2 hv⟩
   |cons q rs=>
    simp -implicitDefEqProofs [zDy,zBy,t0,t1,hv,hfl,jS,zA0]
    exact⟨2,by omega,.c3 g1 g2 f q rs rfl n1 n2 hv⟩
 |n2 g1 g2 h n1 n2=>
  subst h
  simp -implicitDefEqProofs [t0,t1]
  refine zA [.pack (GD.stk [g2]) 8 [9],.pack (GD.stk (g1::g2::[])) 4 [7,8],.pack (GD.log (g1::g2::[])) 0 [4]] [0] ?_ ?_ ?_<;> simp[jQ,jS,jH,AObj.mine,zBf,zGs,zA0,n1,n2,←hdd]
 |c3 g1 g2 g3 f rs h n1 n2 n3=>
  subst h
  have hfl:f.length<=1000:=hf f (by simp)
  cases hv:jP f t with
  |some v=>
   cases rs with
   |nil=>
    simp -implicitDefEqProofs [zDy,zBy,t0,t1,hv,hfl,jQ,zA0]
    refine zA [.pack (GD.stk [f]) 12 [13],.pack (GD.stk (g3::f::[])) 10 [11,12],.pack (GD.stk (g2::g3::f::[])) 8 [9,10],.pack (GD.stk (g1::g2::g3::f::[])) 4 [7,8],.pack (GD.log (g1::g2::g3::f::[])) 0 [4]] [0] ?_ ?_ ?_<;> simp[jQ,jS,jH,AObj.mine,zBf,zCp,n1,n2,n3,hv,zA0,←hdd]
   |cons q rs=>
    simp -implicitDefEqProofs [zDy,zBy,t0,t1,hv,hfl,jS,zA0]
    refine zA [.pack (GD.stk (f::q::rs)) 12 [13,14],.pack (GD.stk (g3::f::q::rs)) 10 [11,12],.pack (GD.stk (g2::g3::f::q::rs)) 8 [9,10],.pack (GD.stk (g1::g2::g3::f::q::rs)) 4 [7,8],.pack (GD.log (g1::g2::g3::f::q::rs)) 0 [4]] [0] ?_ ?_ ?_<;> simp[jQ,jS,jH,AObj.mine,zBf,zCp,n1,n2,n3,hv,zA0,←hdd]
  |none=>
   cases rs with
   |nil=>
    simp -implicitDefEqProofs [zDy,zBy,t0,t1,hv,hfl,jQ,zA0]
    exact⟨1,by omega,.n4 g1 g2 g3 f rfl n1 n2 n3 hv⟩
   |cons q rs=>
    simp -implicitDefEqProofs [zDy,zBy,t0,t1,hv,hfl,jS,zA0]
    exact⟨1,by omega,.c4 g1 g2 g3 f q rs rfl n1 n2 n3 hv⟩
 |n3 g1 g2 g3 h n1 n2 n3=>
  subst h
  simp -implicitDefEqProofs [t0,t1]
  refine zA [.pack (GD.stk [g3]) 10 [11],.pack (GD.stk (g2::g3::[])) 8 [9,10],.pack (GD.stk (g1::g2::g3::[])) 4 [7,8],.pack (GD.log (g1::g2::g3::[])) 0 [4]] [0] ?_ ?_ ?_<;> simp[jQ,jS,jH,AObj.mine,zBf,zGs,zA0,n1,n2,n3,←hdd]
 |c4 g1 g2 g3 g4 f rs h n1 n2 n3 n4=>
  subst h
  have hfl:f.length<=1000:=hf f (by simp)
  cases hv:jP f t with
  |some v=>
   cases rs with
   |nil=>
    simp -implicitDefEqProofs [zDy,zBy,t0,t1,hv,hfl,jQ,zA0]
    refine zA [.pack (GD.stk [f]) 14 [15],.pack (GD.stk (g4::f::[])) 12 [13,14],.pack (GD.stk (g3::g4::f::[])) 10 [11,12],.pack (GD.stk (g2::g3::g4::f::[])) 8 [9,10],.pack (GD.stk (g1::g2::g3::g4::f::[])) 4 [7,8],.pack (GD.log (g1::g2::g3::g4::f::[])) 0 [4]] [0] ?_ ?_ ?_<;> simp[jQ,jS,jH,AObj.mine,zBf,zCp,n1,n2,n3,n4,hv,zA0,←hdd]
   |cons q rs=>
    simp at hl
  |none=>
   cases rs with
   |nil=>
    simp -implicitDefEqProofs [zDy,zBy,t0,t1,hv,hfl,jQ,zA0]
    exact .n5 g1 g2 g3 g4 f rfl n1 n2 n3 n4 hv
   |cons q rs=>
    simp at hl
 |n4 g1 g2 g3 g4 h n1 n2 n3 n4=>
  subst h
  simp -implicitDefEqProofs [t0,t1]
  refine zA [.pack (GD.stk [g4]) 12 [13],.pack (GD.stk (g3::g4::[])) 10 [11,12],.pack (GD.stk (g2::g3::g4::[])) 8 [9,10],.pack (GD.stk (g1::g2::g3::g4::[])) 4 [7,8],.pack (GD.log (g1::g2::g3::g4::[])) 0 [4]] [0] ?_ ?_ ?_<;> simp[jQ,jS,jH,AObj.mine,zBf,zGs,zA0,n1,n2,n3,n4,←hdd]
 |n5 g1 g2 g3 g4 g5 h n1 n2 n3 n4 n5=>
  subst h
  simp -implicitDefEqProofs [t0,t1]
  refine zA [.pack (GD.stk [g5]) 14 [15],.pack (GD.stk (g4::g5::[])) 12 [13,14],.pack (GD.stk (g3::g4::g5::[])) 10 [11,12],.pack (GD.stk (g2::g3::g4::g5::[])) 8 [9,10],.pack (GD.stk (g1::g2::g3::g4::g5::[])) 4 [7,8],.pack (GD.log (g1::g2::g3::g4::g5::[])) 0 [4]] [0] ?_ ?_ ?_<;> simp[jQ,jS,jH,AObj.mine,zBf,zGs,zA0,n1,n2,n3,n4,n5,←hdd]
def d88:zAl
 |.log fs,[.int .i64 t]=> some (zA6 fs,zA0 (zAd fs t),.log fs)
 |_,_=> none
theorem zWt:qI Tryz.prog cfg 88 (qC d88):=xJ fun d rest p v d' h hp=> by
 unfold d88 at h
 split at h
 ·cases h;exact⟨rfl,rfl,qQh _ _ hp.1 hp.2.1 hp.le⟩
 ·cases h
end YtnemoimbeefngaaGreat
end Go.Proofs
namespace Go.Proofs
namespace YtnemoimbeefngaaGreat
open Go.Abs
inductive LW (fs:List (List Pr)) (dd:Int) (r:Loop):Nat->AH GD->Prop
 |c0 (f:List Pr) (rs:List (List Pr)) (h:fs=f::rs) (s:Int) (hs:s=0):LW fs dd r 5 (AH.of [some (.arr 166 [.pointer (some ⟨2,0,none⟩),.int .i64 dd]),some (.arr 3 [.int .i64 s]),some (.hi (.stk (f::rs))),some (.arr 164 [.pointer (some ⟨2,0,none⟩)]),some (.loopr r 0 none)])
 |c1 (g1 f:List Pr) (rs:List (List Pr)) (h:fs=g1::f::rs) (s:Int) (hs:s=(g1.length:Int)):LW fs dd r 4 (AH.of [some (.arr 166 [.pointer (some ⟨2,0,none⟩),.int .i64 dd]),some (.arr 3 [.int .i64 s]),some (.arr 220 [.slice (some ⟨5,0,none⟩) g1.length 1,.pointer (some ⟨6,0,none⟩)]),some (.arr 164 [.pointer (some ⟨6,0,none⟩)]),some (.loopr r 0 none),some (.arr 157 (prs g1)),some (.hi (.stk (f::rs)))])
 |n1 (g1:List Pr) (h:fs=[g1]) (s:Int) (hs:s=(g1.length:Int)):LW fs dd r 4 (AH.of [some (.arr 166 [.pointer (some ⟨2,0,none⟩),.int .i64 dd]),some (.arr 3 [.int .i64 s]),some (.arr 220 [.slice (some ⟨5,0,none⟩) g1.length 1,.pointer none]),some (.arr 164 [.pointer none]),some (.loopr r 0 none),some (.arr 157 (prs g1))])
 |c2 (g1 g2 f:List Pr) (rs:List (List Pr)) (h:fs=g1::g2::f::rs) (s:Int) (hs:s=(g1.length:Int)+(g2.length:Int)):LW fs dd r 3 (AH.of [some (.arr 166 [.pointer (some ⟨2,0,none⟩),.int .i64 dd]),some (.arr 3 [.int .i64 s]),some (.arr 220 [.slice (some ⟨5,0,none⟩) g1.length 1,.pointer (some ⟨6,0,none⟩)]),some (.arr 164 [.pointer (some ⟨8,0,none⟩)]),some (.loopr r 0 none),some (.arr 157 (prs g1)),some (.arr 220 [.slice (some ⟨7,0,none⟩) g2.length 1,.pointer (some ⟨8,0,none⟩)]),some (.arr 157 (prs g2)),some (.hi (.stk (f::rs)))])
 |n2 (g1 g2:List Pr) (h:fs=[g1,g2]) (s:Int) (hs:s=(g1.length:Int)+(g2.length:Int)):LW fs dd r 3 (AH.of [some (.arr 166 [.pointer (some ⟨2,0,none⟩),.int .i64 dd]),some (.arr 3 [.int .i64 s]),some (.arr 220 [.slice (some ⟨5,0,none⟩) g1.length 1,.pointer (some ⟨6,0,none⟩)]),some (.arr 164 [.pointer none]),some (.loopr r 0 none),some (.arr 157 (prs g1)),some (.arr 220 [.slice (some ⟨7,0,none⟩) g2.length 1,.pointer none]),some (.arr 157 (prs g2))])
 |c3 (g1 g2 g3 f:List Pr) (rs:List (List Pr)) (h:fs=g1::g2::g3::f::rs) (s:Int) (hs:s=(g1.length:Int)+(g2.length:Int)+(g3.length:Int)):LW fs dd r 2 (AH.of [some (.arr 166 [.pointer (some ⟨2,0,none⟩),.int .i64 dd]),some (.arr 3 [.int .i64 s]),some (.arr 220 [.slice (some ⟨5,0,none⟩) g1.length 1,.pointer (some ⟨6,0,none⟩)]),some (.arr 164 [.pointer (some ⟨10,0,none⟩)]),some (.loopr r 0 none),some (.arr 157 (prs g1)),some (.arr 220 [.slice (some ⟨7,0,none⟩) g2.length 1,.pointer (some ⟨8,0,none⟩)]),some (.arr 157 (prs g2)),some (.arr 220 [.slice (some ⟨9,0,none⟩) g3.length 1,.pointer (some ⟨10,0,none⟩)]),some (.arr 157 (prs g3)),some (.hi (.stk (f::rs)))])
 |n3 (g1 g2 g3:List Pr) (h:fs=[g1,g2,g3]) (s:Int) (hs:s=(g1.length:Int)+(g2.length:Int)+(g3.length:Int)):LW fs dd r 2 (AH.of [some (.arr 166 [.pointer (some ⟨2,0,none⟩),.int .i64 dd]),some (.arr 3 [.int .i64 s]),some (.arr 220 [.slice (some ⟨5,0,none⟩) g1.length 1,.pointer (some ⟨6,0,none⟩)]),some (.arr 164 [.pointer none]),some (.loopr r 0 none),some (.arr 157 (prs g1)),some (.arr 220 [.slice (some ⟨7,0,none⟩) g2.length 1,.pointer (some ⟨8,0,none⟩)]),some (.arr 157 (prs g2)),some (.arr 220 [.slice (some ⟨9,0,none⟩) g3.length 1,.pointer none]),some (.arr 157 (prs g3))])
 |c4 (g1 g2 g3 g4 f:List Pr) (rs:List (List Pr)) (h:fs=g1::g2::g3::g4::f::rs) (s:Int) (hs:s=(g1.length:Int)+(g2.length:Int)+(g3.length:Int)+(g4.length:Int)):LW fs dd r 1 (AH.of [some (.arr 166 [.pointer (some ⟨2,0,none⟩),.int .i64 dd]),some (.arr 3 [.int .i64 s]),some (.arr 220 [.slice (some ⟨5,0,none⟩) g1.length 1,.pointer (some ⟨6,0,none⟩)]),some (.arr 164 [.pointer (some ⟨12,0,none⟩)]),some (.loopr r 0 none),some (.arr 157 (prs g1)),some (.arr 220 [.slice (some ⟨7,0,none⟩) g2.length 1,.pointer (some ⟨8,0,none⟩)]),some (.arr 157 (prs g2)),some (.arr 220 [.slice (some ⟨9,0,none⟩) g3.length 1,.pointer (some ⟨10,0,none⟩)]),some (.arr 157 (prs g3)),some (.arr 220 [.slice (some ⟨11,0,none⟩) g4.length 1,.pointer (some ⟨12,0,none⟩)]),some (.arr 157 (prs g4)),some (.hi (.stk (f::rs)))])
 |n4 (g1 g2 g3 g4:List Pr) (h:fs=[g1,g2,g3,g4]) (s:Int) (hs:s=(g1.length:Int)+(g2.length:Int)+(g3.length:Int)+(g4.length:Int)):LW fs dd r 1 (AH.of [some (.arr 166 [.pointer (some ⟨2,0,none⟩),.int .i64 dd]),some (.arr 3 [.int .i64 s]),some (.arr 220 [.slice (some ⟨5,0,none⟩) g1.length 1,.pointer (some ⟨6,0,none⟩)]),some (.arr 164 [.pointer none]),some (.loopr r 0 none),some (.arr 157 (prs g1)),some (.arr 220 [.slice (some ⟨7,0,none⟩) g2.length 1,.pointer (some ⟨8,0,none⟩)]),some (.arr 157 (prs g2)),some (.arr 220 [.slice (some ⟨9,0,none⟩) g3.length 1,.pointer (some ⟨10,0,none⟩)]),some (.arr 157 (prs g3)),some (.arr 220 [.slice (some ⟨11,0,none⟩) g4.length 1,.pointer none]),some (.arr 157 (prs g4))])
 |n5 (g1 g2 g3 g4 g5:List Pr) (h:fs=[g1,g2,g3,g4,g5]) (s:Int) (hs:s=(g1.length:Int)+(g2.length:Int)+(g3.length:Int)+(g4.length:Int)+(g5.length:Int)):LW fs dd r 0 (AH.of [some (.arr 166 [.pointer (some ⟨2,0,none⟩),.int .i64 dd]),some (.arr 3 [.int .i64 s]),some (.arr 220 [.slice (some ⟨5,0,none⟩) g1.length 1,.pointer (some ⟨6,0,none⟩)]),some (.arr 164 [.pointer none]),some (.loopr r 0 none),some (.arr 157 (prs g1)),some (.arr 220 [.slice (some ⟨7,0,none⟩) g2.length 1,.pointer (some ⟨8,0,none⟩)]),some (.arr 157 (prs g2)),some (.arr 220 [.slice (some ⟨9,0,none⟩) g3.length 1,.pointer (some ⟨10,0,none⟩)]),some (.arr 157 (prs g3)),some (.arr 220 [.slice (some ⟨11,0,none⟩) g4.length 1,.pointer (some ⟨12,0,none⟩)]),some (.arr 157 (prs g4)),some (.arr 220 [.slice (some ⟨13,0,none⟩) g5.length 1,.pointer none]),some (.arr 157 (prs g5))])
theorem qM2 (fs:List (List Pr)) (hne:fs≠[]) (hl:fs.length<=5) (hf:∀f∈fs,f.length<=1000):zP Tryz.prog cfg 192 [.pointer (some ⟨0,0,none⟩)] (AH.of [some (.hi (.log fs))])
  fun r H'=> r=.ret (.int .i64 (zDf fs))/\H'=AH.of [some (.hi (.log fs))]:=by
 refine zP.ends ?_
 obtain⟨dd,hdd⟩:∃dd,(fs.length:Int) - 1=dd:=⟨_,rfl⟩
 refine zX (tbl:=[]) (by simp) 6 4 (af:=a192) rfl ?_
 rw[a192,b192,qB]
 refine⟨by simp,?_⟩
 simp -implicitDefEqProofs [forms140,a140,b140,forms189,a189,b189,jH,hdd]
 intro r
 refine zAp (xC zAh (xD (by simp)) _ _ _ (zQm (xC zAh (xD (by simp)) _ _ noY jT))) (fun m tm H=> tm 0=.func (.yield 4) #[] #[]/\tm 1=.pointer (some ⟨3,0,none⟩)/\LW fs dd r m H) (m:=5) ?_ (by omega) ?_
 ·cases fs with
  |nil=> exact (hne rfl).elim
  |cons f rs=> exact⟨by simp,by simp,.c0 f rs rfl 0 rfl⟩
 rintro m tm H ⟨t0,t1,hw⟩
 cases hw with
 |c0 f rs h s hs=>
  subst h
  have hfl:f.length<=1000:=hf f (by simp)
  have hs0:∀x∈(f::rs:List (List Pr)),x.length<=1000:=hf
  have hwr:IntKind.i64.wrap (s+f.length)=s+f.length:=qX (by omega) (by omega)
  cases rs with
  |nil=>
   simp -implicitDefEqProofs [t0,t1,hwr,jQ]
   exact⟨4,by omega,.n1 f rfl (s+f.length) (by omega)⟩
  |cons q rs=>
   simp -implicitDefEqProofs [t0,t1,hwr,jS]
   exact⟨4,by omega,.c1 f q rs rfl (s+f.length) (by omega)⟩
 |c1 g1 f rs h s hs=>
  subst h
  have hfl:f.length<=1000:=hf f (by simp)
  have hs0:∀x∈(g1::f::rs:List (List Pr)),x.length<=1000:=hf
  have hg1:g1.length<=1000:=hf g1 (by simp)
  have hwr:IntKind.i64.wrap (s+f.length)=s+f.length:=qX (by omega) (by omega)
  cases rs with
  |nil=>
   simp -implicitDefEqProofs [t0,t1,hwr,jQ]
   exact⟨3,by omega,.n2 g1 f rfl (s+f.length) (by omega)⟩
  |cons q rs=>
   simp -implicitDefEqProofs [t0,t1,hwr,jS]
   exact⟨3,by omega,.c2 g1 f q rs rfl (s+f.length) (by omega)⟩
 |n1 g1 h s hs=>
  subst h
  simp -implicitDefEqProofs [t0,t1]
  refine zA [.pack (GD.stk [g1]) 2 [5],.pack (GD.log (g1::[])) 0 [2]] [0] ?_ ?_ ?_<;> simp[jQ,jS,jH,AObj.mine,zBe,zGp,←hdd]<;> omega
 |c2 g1 g2 f rs h s hs=>
  subst h
  have hfl:f.length<=1000:=hf f (by simp)
  have hs0:∀x∈(g1::g2::f::rs:List (List Pr)),x.length<=1000:=hf
  have hg1:g1.length<=1000:=hf g1 (by simp)
  have hg2:g2.length<=1000:=hf g2 (by simp)
  have hwr:IntKind.i64.wrap (s+f.length)=s+f.length:=qX (by omega) (by omega)
  cases rs with
  |nil=>
   simp -implicitDefEqProofs [t0,t1,hwr,jQ]
   exact⟨2,by omega,.n3 g1 g2 f rfl (s+f.length) (by omega)⟩
  |cons q rs=>
   simp -implicitDefEqProofs [t0,t1,hwr,jS]
   exact⟨2,by omega,.c3 g1 g2 f q rs rfl (s+f.length) (by omega)⟩
 |n2 g1 g2 h s hs=>
  subst h
  simp -implicitDefEqProofs [t0,t1]
  refine zA [.pack (GD.stk [g2]) 6 [7],.pack (GD.stk (g1::g2::[])) 2 [5,6],.pack (GD.log (g1::g2::[])) 0 [2]] [0] ?_ ?_ ?_<;> simp[jQ,jS,jH,AObj.mine,zBe,zGp,←hdd]<;> omega
 |c3 g1 g2 g3 f rs h s hs=>
  subst h
  have hfl:f.length<=1000:=hf f (by simp)
  have hs0:∀x∈(g1::g2::g3::f::rs:List (List Pr)),x.length<=1000:=hf
  have hg1:g1.length<=1000:=hf g1 (by simp)
  have hg2:g2.length<=1000:=hf g2 (by simp)
  have hg3:g3.length<=1000:=hf g3 (by simp)
  have hwr:IntKind.i64.wrap (s+f.length)=s+f.length:=qX (by omega) (by omega)
  cases rs with
  |nil=>
   simp -implicitDefEqProofs [t0,t1,hwr,jQ]
   exact⟨1,by omega,.n4 g1 g2 g3 f rfl (s+f.length) (by omega)⟩
  |cons q rs=>
   simp -implicitDefEqProofs [t0,t1,hwr,jS]
   exact⟨1,by omega,.c4 g1 g2 g3 f q rs rfl (s+f.length) (by omega)⟩
 |n3 g1 g2 g3 h s hs=>
  subst h
  simp -implicitDefEqProofs [t0,t1]
  refine zA [.pack (GD.stk [g3]) 8 [9],.pack (GD.stk (g2::g3::[])) 6 [7,8],.pack (GD.stk (g1::g2::g3::[])) 2 [5,6],.pack (GD.log (g1::g2::g3::[])) 0 [2]] [0] ?_ ?_ ?_<;> simp[jQ,jS,jH,AObj.mine,zBe,zGp,←hdd]<;> omega
 |c4 g1 g2 g3 g4 f rs h s hs=>
  subst h
  have hfl:f.length<=1000:=hf f (by simp)
  have hs0:∀x∈(g1::g2::g3::g4::f::rs:List (List Pr)),x.length<=1000:=hf
  have hg1:g1.length<=1000:=hf g1 (by simp)
  have hg2:g2.length<=1000:=hf g2 (by simp)
  have hg3:g3.length<=1000:=hf g3 (by simp)
  have hg4:g4.length<=1000:=hf g4 (by simp)
  have hwr:IntKind.i64.wrap (s+f.length)=s+f.length:=qX (by omega) (by omega)
  cases rs with
  |nil=>
   simp -implicitDefEqProofs [t0,t1,hwr,jQ]
   exact .n5 g1 g2 g3 g4 f rfl (s+f.length) (by omega)
  |cons q rs=>
   simp at hl
 |n4 g1 g2 g3 g4 h s hs=>
  subst h
  simp -implicitDefEqProofs [t0,t1]
  refine zA [.pack (GD.stk [g4]) 10 [11],.pack (GD.stk (g3::g4::[])) 8 [9,10],.pack (GD.stk (g2::g3::g4::[])) 6 [7,8],.pack (GD.stk (g1::g2::g3::g4::[])) 2 [5,6],.pack (GD.log (g1::g2::g3::g4::[])) 0 [2]] [0] ?_ ?_ ?_<;> simp[jQ,jS,jH,AObj.mine,zBe,zGp,←hdd]<;> omega
 |n5 g1 g2 g3 g4 g5 h s hs=>
  subst h
  simp -implicitDefEqProofs [t0,t1]
  refine zA [.pack (GD.stk [g5]) 12 [13],.pack (GD.stk (g4::g5::[])) 10 [11,12],.pack (GD.stk (g3::g4::g5::[])) 8 [9,10],.pack (GD.stk (g2::g3::g4::g5::[])) 6 [7,8],.pack (GD.stk (g1::g2::g3::g4::g5::[])) 2 [5,6],.pack (GD.log (g1::g2::g3::g4::g5::[])) 0 [2]] [0] ?_ ?_ ?_<;> simp[jQ,jS,jH,AObj.mine,zBe,zGp,←hdd]<;> omega
def zN5:zAl
 |.log fs,[]=> some (zA6 fs,.int .i64 (zDf fs),.log fs)
 |_,_=> none
theorem qF6:qI Tryz.prog cfg 192 (qC zN5):=xJ fun d rest p v d' h hp=> by
 unfold zN5 at h
 split at h
 ·cases h;exact⟨rfl,rfl,qM2 _ hp.1 hp.2.1 hp.le⟩
 ·cases h
end YtnemoimbeefngaaGreat
end Go.Proofs
namespace Go.Proofs
namespace YtnemoimbeefngaaGreat
open Go.Abs
def zAq (v:Int):Bool:=decide (zIq .u64 v 9223372036854775808<=9218868437227405312)||decide (v=9221120237041090560)
theorem qQc (v:Int) (H:AH GD):zP Tryz.prog cfg 96 [.int .u64 v] H fun r H'=> r=.ret (.bool (zAq v))/\H'=H:=by
 refine zX (tbl:=[]) (by simp) 0 0 (af:=a96) rfl ?_
 rw[a96,b96,qB]
 refine⟨by simp,?_⟩
 simp -implicitDefEqProofs
 repeat' (first|with_reducible apply And.intro|with_reducible intro _)
 all_goals (simp[zAq, *]<;> omega)
def zBd:qW GD:=fun args H=> match args with
 |[x]=> (asU x).map fun v=> (True,.ret (.bool (zAq v)),H)
 |_=> none
theorem zMo:qI Tryz.prog cfg 96 zBd:=by
 intro args H p r H' h hp
 unfold zBd at h
 split at h
 case h_2=> cases h
 simp only[Option.map_eq_some_iff] at h
 obtain⟨v,hv,h⟩:=h
 cases h
 rw[zGk hv]
 exact qQc v H
theorem qQa (v:Int) (h0:0<=v) (h1:v<18446744073709551616) (H:AH GD):zP Tryz.prog cfg 98 [.int .u64 v] H fun r H'=> r=.ret (.bool (zAq v))/\H'=H:=by
 refine zX (tbl:=[]) (by simp) 0 0 (af:=a98) rfl ?_
 rw[a98,b98,qB]
 refine⟨by simp,?_⟩
 have e:zBl .eql (.float .f64 v.toNat) (.float .f64 v.toNat)=some (.bool (decide (zIq .u64 v 9223372036854775808<=9218868437227405312))):=by
  simp only[zBl,zYz,zVa h0 h1]
  simp
  omega
 simp -implicitDefEqProofs [e]
 repeat' (first|with_reducible apply And.intro|with_reducible intro _)
 all_goals (simp[zAq, *]<;> omega)
def zE7:qW GD:=fun args H=> match args with
 |[x]=> (asU x).map fun v=> (0<=v/\v<18446744073709551616,.ret (.bool (zAq v)),H)
 |_=> none
theorem zJt:qI Tryz.prog cfg 98 zE7:=by
 intro args H p r H' h hp
 unfold zE7 at h
 split at h
 case h_2=> cases h
 simp only[Option.map_eq_some_iff] at h
 obtain⟨v,hv,h⟩:=h
 cases h
 rw[zGk hv]
 exact qQa v hp.1 hp.2 H
end YtnemoimbeefngaaGreat
end Go.Proofs
namespace Go.Proofs
namespace YtnemoimbeefngaaGreat
open Go.Abs
def xO (f:List Pr) (fs:List (List Pr)) (t v:Int):Int:=
 if t<0∨12<=t then 2 else if zAq v=false then 3 else if (jP f t).isNone=true/\16<=zDf (f::fs) then 4 else 0
def zDx:List (FuncId × qW GD):=[(141,zBy),(191,zEc),(192,qC zN5),(96,zBd)]
theorem zFm:∀x∈zDx,qI Tryz.prog cfg x.1 x.2:=by simp[zDx,zTh,zTc,qF6,zMo]
theorem qNj (f:List Pr) (fs:List (List Pr)) (t v:Int) (hg:zA6 (f::fs)) (hv:0<=v/\v<18446744073709551616):zP Tryz.prog cfg 147 [.pointer (some ⟨0,0,none⟩),.int .i64 t,.int .u64 v] (AH.of [some (.hi (.log (f::fs)))])
  fun r H'=> r=.ret (.int .i64 (xO f fs t v))/\H'=AH.of [some (.hi (if xO f fs t v=0 then .log (xP f ⟨t,v⟩::fs) else .log (f::fs)))]:=by
 refine zP.ends ?_
 have hfl:f.length<=1000:=hg.le f (by simp)
 have hgg:zA6 (f::fs):=hg
 by_cases h1:t<0
 ·refine zX (tbl:=zDx) zFm 0 2 (af:=a147) rfl ?_
  rw[a147,b147,qB]
  refine⟨by simp,?_⟩
  simp -implicitDefEqProofs [h1]
  refine zA [] [0] ?_ ?_ ?_<;> simp[xO,h1]
 by_cases h2:12<=t
 ·refine zX (tbl:=zDx) zFm 0 2 (af:=a147) rfl ?_
  rw[a147,b147,qB]
  refine⟨by simp,?_⟩
  simp -implicitDefEqProofs [h1,h2]
  refine zA [] [0] ?_ ?_ ?_<;> simp[xO,h1,h2]
 cases h3:zAq v with
 |false=>
  refine zX (tbl:=zDx) zFm 0 2 (af:=a147) rfl ?_
  rw[a147,b147,qB]
  refine⟨by simp,?_⟩
  simp -implicitDefEqProofs [h1,h2,h3,zDx,zBd,hv.1,hv.2]
  refine zA [] [0] ?_ ?_ ?_<;> simp[xO,h1,h2,h3]
 |true=>
  have done:∀(hc:xO f fs t v=0),(GD.log (xP f ⟨t,v⟩::fs))=if xO f fs t v=0 then .log (xP f ⟨t,v⟩::fs) else .log (f::fs):=fun hc=> by rw[if_pos hc]
  cases h4:jP f t with
  |some w=>
   have hc:xO f fs t v=0:=by simp[xO,h1,h2,h3,h4]
   cases fs with
   |nil=>
    refine zX (tbl:=zDx) zFm 0 2 (af:=a147) rfl ?_
    rw[a147,b147,qB]
    refine⟨by simp,?_⟩
    simp -implicitDefEqProofs [h1,h2,h3,h4,zDx,zBd,hv.1,hv.2,zBy,zEc,hfl,zA0,forms131,a131,b131,jH,jQ]
    refine zA [.pack (GD.stk [xP f ⟨t,v⟩]) 4 [3],.pack (GD.log [xP f ⟨t,v⟩]) 0 [4]] [0] ?_ ?_ ?_<;> simp[hc,jQ,jH,AObj.mine]
   |cons q rs=>
    refine zX (tbl:=zDx) zFm 0 2 (af:=a147) rfl ?_
    rw[a147,b147,qB]
    refine⟨by simp,?_⟩
    simp -implicitDefEqProofs [h1,h2,h3,h4,zDx,zBd,hv.1,hv.2,zBy,zEc,hfl,zA0,forms131,a131,b131,jH,jS]
    refine zA [.pack (GD.stk (xP f ⟨t,v⟩::q::rs)) 5 [4,3],.pack (GD.log (xP f ⟨t,v⟩::q::rs)) 0 [5]] [0] ?_ ?_ ?_<;> simp[hc,jS,jH,AObj.mine]
  |none=>
   by_cases h5:16<=zDf (f::fs)
   ·have hc:xO f fs t v=4:=by simp[xO,h1,h2,h3,h4,h5]
    cases fs with
    |nil=>
     refine zX (tbl:=zDx) zFm 0 2 (af:=a147) rfl ?_
     rw[a147,b147,qB]
     refine⟨by simp,?_⟩
     simp -implicitDefEqProofs [h1,h2,h3,h4,zDx,zBd,hv.1,hv.2,zBy,zEc,hfl,zA0,forms131,a131,b131,jH,jQ]
     refine zEp [.pack (GD.stk [f]) 1 [2],.pack (GD.log [f]) 0 [1]] ?_ ?_
     ·simp[jQ,jH,AObj.mine]
     simp -implicitDefEqProofs [zDx,qC,zN5,hgg,h5]
     refine zA [] [0] ?_ ?_ ?_<;> simp[hc]
    |cons q rs=>
     refine zX (tbl:=zDx) zFm 0 2 (af:=a147) rfl ?_
     rw[a147,b147,qB]
     refine⟨by simp,?_⟩
     simp -implicitDefEqProofs [h1,h2,h3,h4,zDx,zBd,hv.1,hv.2,zBy,zEc,hfl,zA0,forms131,a131,b131,jH,jS]
     refine zEp [.pack (GD.stk (f::q::rs)) 1 [2,3],.pack (GD.log (f::q::rs)) 0 [1]] ?_ ?_
     ·simp[jS,jH,AObj.mine]
     simp -implicitDefEqProofs [zDx,qC,zN5,hgg,h5]
     refine zA [] [0] ?_ ?_ ?_<;> simp[hc]
   ·have hc:xO f fs t v=0:=by simp[xO,h1,h2,h3,h4,h5]
    cases fs with
    |nil=>
     refine zX (tbl:=zDx) zFm 0 2 (af:=a147) rfl ?_
     rw[a147,b147,qB]
     refine⟨by simp,?_⟩
     simp -implicitDefEqProofs [h1,h2,h3,h4,zDx,zBd,hv.1,hv.2,zBy,zEc,hfl,zA0,forms131,a131,b131,jH,jQ]
     refine zEp [.pack (GD.stk [f]) 1 [2],.pack (GD.log [f]) 0 [1]] ?_ ?_
     ·simp[jQ,jH,AObj.mine]
     simp -implicitDefEqProofs [zDx,qC,zN5,hgg,h5,zEc,hfl,forms131,a131,b131,jH,jQ]
     refine zA [.pack (GD.stk [xP f ⟨t,v⟩]) 6 [5],.pack (GD.log [xP f ⟨t,v⟩]) 0 [6]] [0] ?_ ?_ ?_<;> simp[hc,jQ,jH,AObj.mine]
    |cons q rs=>
     refine zX (tbl:=zDx) zFm 0 2 (af:=a147) rfl ?_
     rw[a147,b147,qB]
     refine⟨by simp,?_⟩
     simp -implicitDefEqProofs [h1,h2,h3,h4,zDx,zBd,hv.1,hv.2,zBy,zEc,hfl,zA0,forms131,a131,b131,jH,jS]
     refine zEp [.pack (GD.stk (f::q::rs)) 1 [2,3],.pack (GD.log (f::q::rs)) 0 [1]] ?_ ?_
     ·simp[jS,jH,AObj.mine]
     simp -implicitDefEqProofs [zDx,qC,zN5,hgg,h5,zEc,hfl,forms131,a131,b131,jH,jS]
     refine zA [.pack (GD.stk (xP f ⟨t,v⟩::q::rs)) 8 [7,6],.pack (GD.log (xP f ⟨t,v⟩::q::rs)) 0 [8]] [0] ?_ ?_ ?_<;> simp[hc,jS,jH,AObj.mine]
def zQe:zAl
 |.log (f::fs),[.int .i64 t,.int .u64 v]=> some (zA6 (f::fs)/\0<=v/\v<18446744073709551616,.int .i64 (xO f fs t v),if xO f fs t v=0 then .log (xP f ⟨t,v⟩::fs) else .log (f::fs))
 |_,_=> none
theorem qGi:qI Tryz.prog cfg 147 (qC zQe):=xJ fun d rest p v d' h hp=> by
 unfold zQe at h
 split at h
 ·cases h;exact⟨rfl,rfl,qNj _ _ _ _ hp.1 hp.2⟩
 ·cases h
end YtnemoimbeefngaaGreat
end Go.Proofs
namespace Go.Proofs
namespace YtnemoimbeefngaaGreat
open Go.Abs
def xA (g f:List Pr):List Pr:=f.foldl xP g
theorem zNb {g f:List Pr} {i:Nat} {x:Pr} (h:f[i]?=some x):xA g (f.take (i+1))=xP (xA g (f.take i)) x:=by
 unfold xA
 rw[List.take_add_one,h,List.foldl_append]
 rfl
theorem zLu (g f:List Pr):(xA g f).length<=g.length+f.length:=by
 unfold xA
 induction f generalizing g with
 |nil=> simp
 |cons a f ih=>
  have h1:=ih (xP g a)
  have h2:=zP1 g a
  simp only[List.foldl_cons,List.length_cons]
  omega
def zLc:List (FuncId × qW GD):=[(191,zEc)]
theorem zMi:∀x∈zLc,qI Tryz.prog cfg x.1 x.2:=by simp[zLc,zTc]
theorem qBj (f:List Pr):zP Tryz.prog cfg 146 [.pointer (some ⟨0,0,none⟩)] (AH.of [some (.hi (.log [f]))])
  fun r H'=> r=.ret (.int .i64 8)/\H'=AH.of [some (.hi (.log [f]))]:=by
 refine zP.ends ?_
 refine zX (tbl:=[]) (by simp) 0 2 (af:=a146) rfl ?_
 rw[a146,b146,qB]
 refine⟨by simp,?_⟩
 simp -implicitDefEqProofs [forms190,a190,b190,jH]
 refine zA [.pack (GD.log [f]) 0 [1]] [0] ?_ ?_ ?_<;> simp[jH,AObj.mine]
theorem qBi (f g:List Pr) (rs:List (List Pr)) (hl:rs.length<=100) (hfg:f.length+g.length<=1000):zP Tryz.prog cfg 146 [.pointer (some ⟨0,0,none⟩)] (AH.of [some (.hi (.log (f::g::rs)))])
  fun r H'=> r=.ret (.int .i64 0)/\H'=AH.of [some (.hi (.log (xA g f::rs)))]:=by
 refine zP.ends ?_
 have hne:¬((rs.length:Int)+1=0):=by omega
 have hw:IntKind.i64.wrap (rs.length:Int)=rs.length:=qX (by omega) (by omega)
 obtain⟨n,hn⟩:∃n,f.length=n:=⟨_,rfl⟩
 cases rs with
 |nil=>
  refine zX (tbl:=zLc) zMi 1001 2 (af:=a146) rfl ?_
  rw[a146,b146,qB]
  refine⟨by simp,?_⟩
  have hw0:IntKind.i64.wrap 0=0:=by decide
  simp -implicitDefEqProofs [forms190,a190,b190,jH,jS,jQ,hn,hw0]
  refine zBm (xC zAh (xD zMi) _ _ noY jT) (fun m tm H=> ∃i:Nat,m+i=n/\tm 0=.pointer (some ⟨0,0,none⟩)/\tm 23=.slice (some ⟨2,0,none⟩) n 1/\tm 24=.int .i64 n/\tm 25=.int .i64 i/\∃q:Nat,tm 5=.slice (some ⟨q,0,none⟩) (xA g (f.take i)).length 1/\
   ((q=4/\xA g (f.take i)=g/\H=AH.of [some (.arr 166 [.pointer (some ⟨3,0,none⟩),.int .i64 0]),none,some (.arr 157 (prs f)),some (.arr 220 [.slice (some ⟨4,0,none⟩) g.length 1,.pointer none]),some (.arr 157 (prs g))])∨
    (q=5/\H=AH.of [some (.arr 166 [.pointer (some ⟨3,0,none⟩),.int .i64 0]),none,some (.arr 157 (prs f)),some (.arr 220 [.slice (some ⟨4,0,none⟩) g.length 1,.pointer none]),some (.arr 157 (prs g)),some (.arr 157 (prs (xA g (f.take i))))]))) (m:=n) ?_ (by omega) ?_
  ·refine qS [] [0,1,2,3,4] [some (.arr 166 [.pointer (some ⟨3,0,none⟩),.int .i64 0]),none,some (.arr 157 (prs f)),some (.arr 220 [.slice (some ⟨4,0,none⟩) g.length 1,.pointer none]),some (.arr 157 (prs g))] n (by omega) ?_ ?_ ⟨0,by omega,?_,?_,?_,?_,4,?_,.inl ⟨rfl,rfl,rfl⟩⟩<;> simp[xA]
  rintro m tm H ⟨i,hm,t0,t23,t24,t25,q,t5,hH⟩
  have hml:(xA g (f.take i)).length<=1000:=by
   have:=zLu g (f.take i)
   rw[List.length_take] at this
   omega
  by_cases hi:i<n
  ·obtain⟨x,hx⟩:=zCk (l:=f) (i:=i) (by omega)
   have hi':(i:Int)<n:=by omega
   have hwr:=zA8 hi (by omega)
   have rx:=zIz hx
   have lx:i*2+2<=(prs f).length:=by rw[zCs];omega
   have hsuc:=zNb (g:=g) hx
   rcases hH with ⟨rfl,hg,rfl⟩|⟨rfl,rfl⟩
   ·rw[hg] at t5 hsuc hml
    simp -implicitDefEqProofs [zLc,zEc,t0,t5,t23,t24,t25,hi,hi',rx,lx,Pr.cells,hwr,hml]
    refine qS [] [0,1,2,3,4,6] [some (.arr 166 [.pointer (some ⟨3,0,none⟩),.int .i64 0]),none,some (.arr 157 (prs f)),some (.arr 220 [.slice (some ⟨4,0,none⟩) g.length 1,.pointer none]),some (.arr 157 (prs g)),some (.arr 157 (prs (xA g (f.take (i+1)))))] (m - 1) (by omega) ?_ ?_ ⟨i+1,by omega,?_,?_,?_,?_,5,?_,.inr ⟨rfl,rfl⟩⟩<;> simp[t0,t23,t24,hsuc]
   ·simp -implicitDefEqProofs [zLc,zEc,t0,t5,t23,t24,t25,hi,hi',rx,lx,Pr.cells,hwr,hml]
    refine qS [] [0,1,2,3,4,7] [some (.arr 166 [.pointer (some ⟨3,0,none⟩),.int .i64 0]),none,some (.arr 157 (prs f)),some (.arr 220 [.slice (some ⟨4,0,none⟩) g.length 1,.pointer none]),some (.arr 157 (prs g)),some (.arr 157 (prs (xA g (f.take (i+1)))))] (m - 1) (by omega) ?_ ?_ ⟨i+1,by omega,?_,?_,?_,?_,5,?_,.inr ⟨rfl,rfl⟩⟩<;> simp[t0,t23,t24,hsuc]
  ·have hie:i=n:=by omega
   subst hie
   have hf:f.take i=f:=List.take_of_length_le (by omega)
   rw[hf] at t5 hH
   rcases hH with ⟨rfl,hg,rfl⟩|⟨rfl,rfl⟩
   ·rw[hg] at t5
    simp -implicitDefEqProofs [t0,t5,t23,t24,t25,forms131,a131,b131]
    refine zA [.pack (GD.stk [g]) 5 [4],.pack (GD.log [g]) 0 [5]] [0] ?_ ?_ ?_<;> simp[jQ,jH,AObj.mine,hg]
   ·simp -implicitDefEqProofs [t0,t5,t23,t24,t25,forms131,a131,b131]
    refine zA [.pack (GD.stk [xA g f]) 6 [5],.pack (GD.log [xA g f]) 0 [6]] [0] ?_ ?_ ?_<;> simp[jQ,jH,AObj.mine]
 |cons p rs=>
  obtain⟨dd,hdd⟩:∃dd,(rs.length:Int)+1=dd:=⟨_,rfl⟩
  have hw2:IntKind.i64.wrap ((rs.length:Int)+1)=(rs.length:Int)+1:=qX (by omega) (by simp at hl;omega)
  have hne2:¬(dd+1=0):=by omega
  rw[hdd] at hw2
  refine zX (tbl:=zLc) zMi 1001 2 (af:=a146) rfl ?_
  rw[a146,b146,qB]
  refine⟨by simp,?_⟩
  simp -implicitDefEqProofs [forms190,a190,b190,jH,jS,hn,hdd,hw2,hne2]
  refine zBm (xC zAh (xD zMi) _ _ noY jT) (fun m tm H=> ∃i:Nat,m+i=n/\tm 0=.pointer (some ⟨0,0,none⟩)/\tm 23=.slice (some ⟨2,0,none⟩) n 1/\tm 24=.int .i64 n/\tm 25=.int .i64 i/\∃q:Nat,tm 5=.slice (some ⟨q,0,none⟩) (xA g (f.take i)).length 1/\
   ((q=4/\xA g (f.take i)=g/\H=AH.of [some (.arr 166 [.pointer (some ⟨3,0,none⟩),.int .i64 dd]),none,some (.arr 157 (prs f)),some (.arr 220 [.slice (some ⟨4,0,none⟩) g.length 1,.pointer (some ⟨5,0,none⟩)]),some (.arr 157 (prs g)),some (.hi (.stk (p::rs)))])∨
    (q=6/\H=AH.of [some (.arr 166 [.pointer (some ⟨3,0,none⟩),.int .i64 dd]),none,some (.arr 157 (prs f)),some (.arr 220 [.slice (some ⟨4,0,none⟩) g.length 1,.pointer (some ⟨5,0,none⟩)]),some (.arr 157 (prs g)),some (.hi (.stk (p::rs))),some (.arr 157 (prs (xA g (f.take i))))]))) (m:=n) ?_ (by omega) ?_
  ·refine qS [] [0,1,2,3,4,5] [some (.arr 166 [.pointer (some ⟨3,0,none⟩),.int .i64 dd]),none,some (.arr 157 (prs f)),some (.arr 220 [.slice (some ⟨4,0,none⟩) g.length 1,.pointer (some ⟨5,0,none⟩)]),some (.arr 157 (prs g)),some (.hi (.stk (p::rs)))] n (by omega) ?_ ?_ ⟨0,by omega,?_,?_,?_,?_,4,?_,.inl ⟨rfl,rfl,rfl⟩⟩<;> simp[xA]
  rintro m tm H ⟨i,hm,t0,t23,t24,t25,q,t5,hH⟩
  have hml:(xA g (f.take i)).length<=1000:=by
   have:=zLu g (f.take i)
   rw[List.length_take] at this
   omega
  by_cases hi:i<n
  ·obtain⟨x,hx⟩:=zCk (l:=f) (i:=i) (by omega)
   have hi':(i:Int)<n:=by omega
   have hwr:=zA8 hi (by omega)
   have rx:=zIz hx
   have lx:i*2+2<=(prs f).length:=by rw[zCs];omega
   have hsuc:=zNb (g:=g) hx
   rcases hH with ⟨rfl,hg,rfl⟩|⟨rfl,rfl⟩
   ·rw[hg] at t5 hsuc hml
    simp -implicitDefEqProofs [zLc,zEc,t0,t5,t23,t24,t25,hi,hi',rx,lx,Pr.cells,hwr,hml]
    refine qS [] [0,1,2,3,4,5,7] [some (.arr 166 [.pointer (some ⟨3,0,none⟩),.int .i64 dd]),none,some (.arr 157 (prs f)),some (.arr 220 [.slice (some ⟨4,0,none⟩) g.length 1,.pointer (some ⟨5,0,none⟩)]),some (.arr 157 (prs g)),some (.hi (.stk (p::rs))),some (.arr 157 (prs (xA g (f.take (i+1)))))] (m - 1) (by omega) ?_ ?_ ⟨i+1,by omega,?_,?_,?_,?_,6,?_,.inr ⟨rfl,rfl⟩⟩<;> simp[t0,t23,t24,hsuc]
   ·simp -implicitDefEqProofs [zLc,zEc,t0,t5,t23,t24,t25,hi,hi',rx,lx,Pr.cells,hwr,hml]
    refine qS [] [0,1,2,3,4,5,8] [some (.arr 166 [.pointer (some ⟨3,0,none⟩),.int .i64 dd]),none,some (.arr 157 (prs f)),some (.arr 220 [.slice (some ⟨4,0,none⟩) g.length 1,.pointer (some ⟨5,0,none⟩)]),some (.arr 157 (prs g)),some (.hi (.stk (p::rs))),some (.arr 157 (prs (xA g (f.take (i+1)))))] (m - 1) (by omega) ?_ ?_ ⟨i+1,by omega,?_,?_,?_,?_,6,?_,.inr ⟨rfl,rfl⟩⟩<;> simp[t0,t23,t24,hsuc]
  ·have hie:i=n:=by omega
   subst hie
   have hf:f.take i=f:=List.take_of_length_le (by omega)
   rw[hf] at t5 hH
   rcases hH with ⟨rfl,hg,rfl⟩|⟨rfl,rfl⟩
   ·rw[hg] at t5
    simp -implicitDefEqProofs [t0,t5,t23,t24,t25,forms131,a131,b131]
    refine zA [.pack (GD.stk (g::p::rs)) 6 [4,5],.pack (GD.log (g::p::rs)) 0 [6]] [0] ?_ ?_ ?_<;> simp[jS,jH,AObj.mine,hg,hdd]
   ·simp -implicitDefEqProofs [t0,t5,t23,t24,t25,forms131,a131,b131]
    refine zA [.pack (GD.stk (xA g f::p::rs)) 7 [6,5],.pack (GD.log (xA g f::p::rs)) 0 [7]] [0] ?_ ?_ ?_<;> simp[jS,jH,AObj.mine,hdd]
def d146:zAl
 |.log [f],[]=> some (True,.int .i64 8,.log [f])
 |.log (f::g::rs),[]=> some (zA6 (f::g::rs),.int .i64 0,.log (xA g f::rs))
 |_,_=> none
theorem qGj:qI Tryz.prog cfg 146 (qC d146):=xJ fun d rest p v d' h hp=> by
 unfold d146 at h
 split at h
 ·cases h;exact⟨rfl,rfl,qBj _⟩
 ·cases h
  refine⟨rfl,rfl,qBi _ _ _ ?_ ?_⟩
  ·have:=hp.2.1;simp at this;omega
  ·have:=hp.2.2;rw[zBe,zBe] at this
   have:=zK6 ‹List (List Pr)›
   omega
 ·cases h
def zCw (fs:List (List Pr)) (n:Nat):List Pr:=(List.range n).filterMap fun t:Nat=> (zAd fs t).map fun v=> (⟨t,v⟩:Pr)
def zAk (fs:List (List Pr)):List Pr:=zCw fs 12
theorem zRg (fs:List (List Pr)) (n:Nat):zCw fs (n+1)=zCw fs n++(match zAd fs n with|some v=> [⟨n,v⟩]|none=> []):=by
 unfold zCw
 rw[List.range_succ,List.filterMap_append]
 cases h:zAd fs n<;> simp[h]
theorem zQk (fs:List (List Pr)) (n:Nat):(zCw fs n).length<=n:=by
 unfold zCw
 have:=List.length_filterMap_le (fun t:Nat=> (zAd fs t).map fun v=> (⟨t,v⟩:Pr)) (List.range n)
 simpa using this
def zS8:List (FuncId × qW GD):=[(88,qC d88)]
theorem zWq:∀x∈zS8,qI Tryz.prog cfg x.1 x.2:=by simp[zS8,zWt]
theorem qQf (fs:List (List Pr)) (hg:zA6 fs):zP Tryz.prog cfg 93 [.pointer (some ⟨0,0,none⟩)] (AH.of [some (.hi (.log fs))])
  fun r H'=> r=.ret (.slice (some ⟨1,0,none⟩) (zAk fs).length 1)/\H'=AH.of [some (.hi (.log fs)),some (.arr 157 (prs (zAk fs)))]:=by
 refine zP.ends ?_
 refine zX (tbl:=zS8) zWq 13 0 (af:=a93) rfl ?_
 rw[a93,b93,qB]
 refine⟨by simp,?_⟩
 simp -implicitDefEqProofs
 refine zBm (xC zAh (xD zWq) _ _ noY jT) (fun m tm H=> ∃i:Nat,m+i=12/\tm 0=.pointer (some ⟨0,0,none⟩)/\tm 3=.slice (some ⟨1,0,none⟩) (zCw fs i).length 1/\tm 7=.int .i64 i/\H=AH.of [some (.hi (.log fs)),some (.arr 157 (prs (zCw fs i)))]) (m:=12) ?_ (by omega) ?_
 ·refine zG5 [.nil 157] [0,1] [some (.hi (.log fs)),some (.arr 157 (prs []))] [(3,.slice (some ⟨1,0,none⟩) 0 1)] 12 (by omega) ?_ ?_ ?_ ⟨0,by omega,?_,?_,?_,rfl⟩<;> simp[zCw,prs]
  done
 rintro m tm H ⟨i,hm,t0,t3,t7,rfl⟩
 have hle:=zQk fs i
 by_cases hi:i<12
 ·have hi':(i:Int)<12:=by omega
  have hwr:=zA8 hi (by omega)
  have hsuc:=zRg fs i
  have hr3:((zCw fs i).length+1)*16<=140737488355328/\(zCw fs i).length<=9223372036854775806:=by omega
  have htk:=zJ5 (zCw fs i)
  have hll:(zCw fs i).length*2<=(prs (zCw fs i)).length:=by rw[zCs];omega
  cases hv:zAd fs i with
  |none=>
   simp only[hv,List.append_nil] at hsuc
   simp -implicitDefEqProofs [zS8,qC,d88,hg,t0,t3,t7,hi,hi',hwr,hv,zA0]
   refine qS [] [0,1] [some (.hi (.log fs)),some (.arr 157 (prs (zCw fs (i+1))))] (m - 1) (by omega) ?_ ?_ ⟨i+1,by omega,?_,?_,?_,rfl⟩<;> simp[t0,t3,hsuc]
  |some v=>
   simp only[hv] at hsuc
   simp -implicitDefEqProofs [zS8,qC,d88,hg,t0,t3,t7,hi,hi',hwr,hv,zA0,hr3,htk,hll]
   refine qS [] [0,3] [some (.hi (.log fs)),some (.arr 157 (prs (zCw fs (i+1))))] (m - 1) (by omega) ?_ ?_ ⟨i+1,by omega,?_,?_,?_,rfl⟩<;> simp[t0,hsuc,zKb,zKa]
 ·have hie:i=12:=by omega
  subst hie
  simp -implicitDefEqProofs [t0,t3,t7]
  refine zA [] [0,1] ?_ ?_ ?_<;> simp[zAk]
def zG3:qW GD:=fun args H=> match args with
 |[.pointer (some ⟨k,0,none⟩)]=> match H.get k with
  |some (.hi (.log fs))=> some (zA6 fs,.ret (.slice (some ⟨H.next,0,none⟩) (zAk fs).length 1),H.add (.arr 157 (prs (zAk fs))))
  |_=> none
 |_=> none
theorem zWs:qI Tryz.prog cfg 93 zG3:=by
 intro args H p r H' h hp
 unfold zG3 at h
 split at h
 case h_2=> cases h
 split at h
 case h_2=> cases h
 rename_i k x fs hk
 cases h
 exact (qQf fs hp).atK (xE rfl) [k] (by simp) (by simp) (by simp[hk]) (by simp) (by simp) (by simp[xB hk])
end YtnemoimbeefngaaGreat
end Go.Proofs
namespace Go.Proofs
namespace YtnemoimbeefngaaGreat
open Go.Abs
theorem zUo:zA6 [[]]:=⟨by simp,by simp,by simp[zDf]⟩
theorem qHn {f:List Pr} {p:Pr}:(xP f p).length=f.length∨(jP f p.t=none/\(xP f p).length=f.length+1):=by
 induction f with
 |nil=> exact .inr ⟨rfl,rfl⟩
 |cons a f ih=>
  simp only[xP]
  split
  ·exact .inl rfl
  ·rename_i h
   have e:jP (a::f) p.t=jP f p.t:=by simp[jP,h]
   rcases ih with h1|⟨h1,h2⟩
   ·exact .inl (by simp[h1])
   ·exact .inr ⟨by rw[e];exact h1,by simp[h2]⟩
theorem qHk {f:List Pr} {fs:List (List Pr)} {t v:Int} (h:zA6 (f::fs)) (hc:xO f fs t v=0):zA6 (xP f ⟨t,v⟩::fs):=by
 refine⟨by simp,by simpa using h.2.1,?_⟩
 have h16:=h.2.2
 rw[zBe] at h16⊢
 rcases qHn (f:=f) (p:=⟨t,v⟩) with h1|⟨h1,h2⟩
 ·rw[h1];exact h16
 ·unfold xO at hc
  split at hc
  ·cases hc
  ·split at hc
   ·cases hc
   ·split at hc
    ·cases hc
    ·rename_i h3
     have h1':jP f t=none:=h1
     rw[h1',zBe] at h3
     simp at h3
     rw[h2]
     omega
theorem zY7 {f g:List Pr} {fs:List (List Pr)} (h:zA6 (f::g::fs)):zA6 (xA g f::fs):=by
 refine⟨by simp,by have:=h.2.1;simp at this⊢;omega,?_⟩
 have h16:=h.2.2
 have:=zLu g f
 rw[zBe,zBe] at h16
 rw[zBe]
 omega
theorem qDz {f g:List Pr} {fs:List (List Pr)} (h:zA6 (f::g::fs)):zA6 (g::fs):=by
 refine⟨by simp,by have:=h.2.1;simp at this⊢;omega,?_⟩
 have h16:=h.2.2
 rw[zBe] at h16
 omega
theorem qCn {f:List Pr} {fs:List (List Pr)} (h:zA6 (f::fs)) (hl:(f::fs).length<5):zA6 ([]::f::fs):=by
 refine⟨by simp,by simp at hl⊢;omega,?_⟩
 have h16:=h.2.2
 rw[zBe]
 simpa using h16
end YtnemoimbeefngaaGreat
end Go.Proofs
namespace Go.Proofs
namespace YtnemoimbeefngaaGreat
open Go.Abs
structure Rp where
 done:Bool
 val:Int
 busy:Bool
 owner:Int
 ended:Bool
 why:Int
 err:Int
 deriving DecidableEq
def Rp.cells (r:Rp):List Value:=[.bool r.done,.int .u64 r.val,.bool r.busy,.int .i64 r.owner,.bool r.ended,.int .u8 r.why,.int .i64 r.err]
def Rp.v (r:Rp):Value:=.agg r.cells.toArray
def qJ:Rp:=⟨false,0,false,0,false,0,0⟩
def qQ (e:Int):Rp:=⟨false,0,false,0,false,0,e⟩
def qK (v:Int):Rp:=⟨true,v,false,0,false,0,0⟩
def qP (why:Int):Rp:=⟨true,0,false,0,true,why,0⟩
def qO (o:Int):Rp:=⟨false,0,true,o,false,0,0⟩
def zOw (fs:List (List Pr)):List (List Pr):=if 5<=fs.length then fs else []::fs
def zO6:List (List Pr)->List (List Pr)
 |f::g::fs=> g::fs
 |fs=> fs
def zG7:List (List Pr)->List (List Pr)
 |f::g::fs=> xA g f::fs
 |fs=> fs
def zMt:List (List Pr)->Int->Int->List (List Pr)
 |f::fs,t,v=> xP f ⟨t,v⟩::fs
 |[],_,_=> []
def zId:List (List Pr)->Int->Int->Int
 |f::fs,t,v=> xO f fs t v
 |[],_,_=> 0
def zI9 (fs:List (List Pr)) (hl:Nat) (x:Ak):Int:=
 if x.k=0∨7<x.k then 2
 else if (x.k=1∨x.k=2)/\(x.t<0∨(hl:Int)<=x.t) then 2
 else if x.k=2/\zAq x.v=false then 3
 else if fs.length=1/\(x.k=4∨x.k=5) then 8
 else if 1<fs.length/\x.k=6 then 8
 else if 5<=fs.length/\x.k=3 then 4
 else 0
theorem zT5 {f:List Pr} {p q:Pr} (h:q∈xP f p):q=p∨q∈f∨(∃r∈f,q=⟨r.t,p.v⟩):=by
 induction f with
 |nil=> simp[xP] at h;exact .inl h
 |cons a f ih=>
  simp only[xP] at h
  split at h
  ·rcases List.mem_cons.1 h with rfl|h
   ·exact .inr (.inr ⟨a,by simp,rfl⟩)
   ·exact .inr (.inl (by simp[h]))
  ·rcases List.mem_cons.1 h with rfl|h
   ·exact .inr (.inl (by simp))
   ·rcases ih h with h|h|⟨r,hr,h⟩
    ·exact .inl h
    ·exact .inr (.inl (by simp[h]))
    ·exact .inr (.inr ⟨r,by simp[hr],h⟩)
theorem zY8 {g f:List Pr} {P:Pr->Prop} (hg:∀p∈g,P p) (hf:∀p∈f,P p) (hP:∀p q,P p->P q->P ⟨p.t,q.v⟩):∀p∈xA g f,P p:=by
 unfold xA
 induction f generalizing g with
 |nil=> exact hg
 |cons a f ih=>
  refine ih (g:=xP g a) (fun p hp=> ?_) (fun p hp=> hf p (by simp[hp]))
  rcases zT5 hp with rfl|h|⟨r,hr,rfl⟩
  ·exact hf _ (by simp)
  ·exact hg p h
  ·exact hP r a (hg r hr) (hf a (by simp))
theorem zRq {f:List Pr} {fs:List (List Pr)} {t v:Int} (hc:xO f fs t v=0):0<=t/\t<12:=by
 unfold xO at hc
 split at hc
 ·cases hc
 ·omega
theorem zXs (fs:List (List Pr)):(zAk fs).length<=12:=zQk fs 12
theorem qJs {fs:List (List Pr)} {p:Pr} (hp:p∈zAk fs):∃f∈fs,p∈f:=by
 unfold zAk zCw at hp
 obtain⟨t,_,ht⟩:=List.mem_filterMap.1 hp
 simp only[Option.map_eq_some_iff] at ht
 obtain⟨v,hv,rfl⟩:=ht
 unfold zAd at hv
 obtain⟨f,hf,hg⟩:=List.exists_of_findSome?_eq_some hv
 refine⟨f,hf,?_⟩
 unfold jP at hg
 simp only[Option.map_eq_some_iff] at hg
 obtain⟨q,hq,rfl⟩:=hg
 have h1:=List.mem_of_find?_eq_some hq
 have h2:q.t=(t:Int):=by simpa using List.find?_some hq
 rw[←h2];exact h1
end YtnemoimbeefngaaGreat
end Go.Proofs
namespace Go.Proofs
namespace YtnemoimbeefngaaGreat
open Go.Abs
def zHv (v:Int):Int:=if zAq v then v else 9221120237041090560
theorem qM4 (v:Int) (H:AH GD):zP Tryz.prog cfg 184 [.int .u64 v] H fun r H'=> r=.ret (.int .u64 (zHv v))/\H'=H:=by
 refine zX (tbl:=[(96,zBd)]) (by simp[zMo]) 0 0 (af:=a184) rfl ?_
 rw[a184,b184,qB]
 refine⟨by simp,?_⟩
 simp -implicitDefEqProofs [zBd]
 repeat' (first|with_reducible apply And.intro|with_reducible intro _)
 all_goals simp[zHv, *]
def zR9:qW GD:=fun args H=> match args with
 |[x]=> (asU x).map fun v=> (True,.ret (.int .u64 (zHv v)),H)
 |_=> none
theorem qF7:qI Tryz.prog cfg 184 zR9:=by
 intro args H p r H' h hp
 unfold zR9 at h
 split at h
 case h_2=> cases h
 simp only[Option.map_eq_some_iff] at h
 obtain⟨v,hv,h⟩:=h
 cases h
 rw[zGk hv]
 exact qM4 v H
def zDl (a b:Int):Bool:=decide (zHv a=zHv b)
theorem qNs (a b:Int) (H:AH GD):zP Tryz.prog cfg 133 [.int .u64 a,.int .u64 b] H fun r H'=> r=.ret (.bool (zDl a b))/\H'=H:=by
 refine zX (tbl:=[(184,zR9)]) (by simp[qF7]) 0 0 (af:=a133) rfl ?_
 rw[a133,b133,qB]
 refine⟨by simp,?_⟩
 simp -implicitDefEqProofs [zR9]
 simp[zDl]
def zH6:qW GD:=fun args H=> match args with
 |[x,y]=> (asU x).bind fun a=> (asU y).map fun b=> (True,.ret (.bool (zDl a b)),H)
 |_=> none
theorem zTi:qI Tryz.prog cfg 133 zH6:=by
 intro args H p r H' h hp
 unfold zH6 at h
 split at h
 case h_2=> cases h
 simp only[Option.map_eq_some_iff,Option.bind_eq_some_iff] at h
 obtain⟨a,ha,b,hb,h⟩:=h
 cases h
 rw[zGk ha,zGk hb]
 exact qNs a b H
end YtnemoimbeefngaaGreat
end Go.Proofs
namespace Go.Proofs
namespace YtnemoimbeefngaaGreat
open Go.Abs
def zDc (l:List Ent) (t:Int):Option Ent:=l.find? fun e=> e.t==t
def zA2 (l:List Ent) (e:Ent):Int:=
 if e.t<0∨12<=e.t∨1099511627776<e.n then 2
 else if !zAq e.v then 3
 else if (zDc l e.t).isSome then 0
 else if (8:Int)<=l.length then 4
 else 0
def zBs (l:List Ent) (e:Ent):List Ent:=
 if zA2 l e=0/\(zDc l e.t).isNone then l++[e] else l
theorem zLa (l:List Ent):(zCh l).length=l.length:=by simp[zCh]
theorem zSs (l:List Ent):xI (zCh l)=true:=by
 induction l with
 |nil=> rfl
 |cons e l ih=> simp[zCh,xI,xY] at ih⊢;exact ih
theorem zLj (e:Ent) (l:List Ent):zAb (e::l)=.int .i64 e.t::.int .u64 e.v::.int .u64 e.n::zAb l:=rfl
theorem zCm (l:List Ent):(zAb l).length=l.length*3:=by
 induction l with
 |nil=> rfl
 |cons e l ih=> rw[zLj,List.length_cons,List.length_cons,List.length_cons,ih,List.length_cons];omega
theorem zVr (l:List Ent):xI (zAb l)=true:=by
 induction l with
 |nil=> rfl
 |cons e l ih=> rw[zLj];simp[xI,xY,ih]
theorem qB8 (θ:Nat->Nat) (l:List Ent):zAu θ (zCh l)=zCh l:=zAy θ _ (zSs l)
theorem qHd (θ:Nat->Nat) (l:List Ent):zAu θ (zAb l)=zAb l:=zAy θ _ (zVr l)
theorem zYt (θ:Nat->Nat) (l:List Ent):zJm θ (zB8 l)=zB8 l:=by
 simp only[zJm,zB8,List.map_map]
 refine List.map_congr_left fun e _=> ?_
 simp only[Function.comp]
 rw[zEo θ (.int .i64 e.t) rfl,zEo θ e.val rfl]
theorem zQn (l:List Ent) (e:Ent):zCh (l++[e])=zCh l++[.int .i64 e.t]:=by simp[zCh]
theorem qG7 (l:List Ent) (e:Ent):zAb (l++[e])=zAb l++[.int .i64 e.t,.int .u64 e.v,.int .u64 e.n]:=by simp[zAb,Ent.cells]
theorem zXy (l:List Ent):(zCh l).take l.length=zCh l:=List.take_of_length_le (by simp[zLa])
theorem zQp (l:List Ent):(zAb l).take (l.length*3)=zAb l:=List.take_of_length_le (by simp[zCm])
theorem zFf {i:Nat} {x:Ent}:∀{l:List Ent},l[i]?=some x->((zAb l).drop (i*3)).take 3=x.cells:=by
 induction i with
 |zero=>
  intro l h
  cases l with
  |nil=> simp at h
  |cons e l=> simp at h;subst h;rfl
 |succ i ih=>
  intro l h
  cases l with
  |nil=> simp at h
  |cons e l=>
   rw[zLj,show (i+1)*3=i*3+1+1+1 by omega]
   simpa using ih (l:=l) (by simpa using h)
def zHg (l:List Ent):Prop:=(l.map (·.t)).Nodup
theorem zHg.get {l:List Ent} (h:zHg l):∀(i:Nat) (x:Ent),l[i]?=some x->zDc l x.t=some x:=by
 induction l with
 |nil=> intro i x hx;simp at hx
 |cons a l ih=>
  intro i x hx
  simp only[zHg,List.map_cons,List.nodup_cons] at h
  cases i with
  |zero=> simp at hx;subst hx;simp[zDc]
  |succ i=>
   have hx':l[i]?=some x:=by simpa using hx
   have hne:(a.t==x.t)=false:=by
    simp only[beq_eq_false_iff_ne,ne_eq]
    intro e
    exact h.1 (List.mem_map.2 ⟨x,List.mem_of_getElem? hx',e.symm⟩)
   simp only[zDc,List.find?_cons,hne]
   exact ih h.2 i x hx'
theorem zRr (l:List Ent):(zB8 l).length=l.length:=by simp[zB8]
theorem zZv (l:List Ent) (e:Ent):zB8 (l++[e])=zB8 l++[(.int .i64 e.t,e.val)]:=by simp[zB8]
theorem zZo {l:List Ent} {t:Int} (h:∀x∈l,x.t≠t):zDc l t=none:=by
 simp only[zDc,List.find?_eq_none]
 intro x hx
 simpa using h x hx
theorem zKq {l:List Ent} {es:List MapEntry} {c:Nat} (h:zA3 (zB8 l) es c) (hu:zHg l) (t:Int):zB7 false (.int .i64 t) es=some ((zDc l t).map Ent.val):=by
 have key:∀es':List MapEntry,(∀e∈es',∃x∈l,e.key=.int .i64 x.t/\e.val=x.val)->
   (zB7 false (.int .i64 t) es'=some none/\∀e∈es',e.key≠.int .i64 t)∨∃x∈l,x.t=t/\zB7 false (.int .i64 t) es'=some (some x.val):=by
  intro es'
  induction es' with
  |nil=> intro _;exact .inl ⟨rfl,fun e he=> by simp at he⟩
  |cons e es' ih=>
   intro hm
   obtain⟨x,hx,hk,hv⟩:=hm e (by simp)
   rw[zB7,hk,zIa]
   simp only[Bool.false_eq_true,if_false,if_true]
   by_cases ht:t=x.t
   ·right
    refine⟨x,hx,ht.symm,?_⟩
    simp[ht,hv]
   ·have h1:(t==x.t)=false:=by simpa using ht
    rw[h1]
    rcases ih (fun e he=> hm e (by simp[he])) with ⟨h2,h3⟩|h2
    ·refine .inl ⟨h2,fun e' he'=> ?_⟩
     rcases List.mem_cons.1 he' with rfl|he'
     ·rw[hk];intro h4;injection h4 with _ h5;exact ht h5.symm
     ·exact h3 e' he'
    ·exact .inr h2
 have hmem:∀e∈es,∃x∈l,e.key=.int .i64 x.t/\e.val=x.val:=by
  intro e he
  have:(e.key,e.val)∈zB8 l:=h.1.mem_iff.1 (List.mem_map.2 ⟨e,he,rfl⟩)
  obtain⟨x,hx,hp⟩:=List.mem_map.1 this
  simp only[Prod.mk.injEq] at hp
  exact⟨x,hx,hp.1.symm,hp.2.symm⟩
 rcases key es hmem with ⟨h1,h2⟩|⟨x,hx,ht,h1⟩
 ·rw[h1,zZo fun x hx ht=> ?_];rfl
  have:((Value.int .i64 x.t,x.val):Value × Value)∈zB4 es:=h.1.mem_iff.2 (List.mem_map.2 ⟨x,hx,rfl⟩)
  obtain⟨e,he,hp⟩:=List.mem_map.1 this
  simp only[Prod.mk.injEq] at hp
  exact h2 e he (by rw[hp.1,ht])
 ·obtain⟨i,hi⟩:=List.mem_iff_getElem?.1 hx
  have:=hu.get i x hi
  rw[ht] at this
  rw[h1,this];rfl
theorem qCk {l:List Ent} {es:List MapEntry} {c:Nat} (h:zA3 (zB8 l) es c) (hu:zHg l) (x:Ent) (hn:zDc l x.t=none):zGn false (.int .i64 x.t) x.val c es=some (es++[⟨.int .i64 x.t,x.val,c⟩],c+1):=
 zP0 (by rw[zKq h hu,hn];rfl)
theorem qEm {l:List Ent} {es:List MapEntry} {c:Nat} (h:zA3 (zB8 l) es c) (x:Ent):zA3 (zB8 (l++[x])) (es++[⟨.int .i64 x.t,x.val,c⟩]) (c+1):=by
 rw[zZv];exact h.add _ _
structure Good (l:List Ent):Prop where
 len:l.length<=8
 uniq:zHg l
 range:∀e∈l,0<=e.t/\e.t<12
def goodL (l:List Ent):Prop:=l.length<=8/\zHg l/\∀e∈l,0<=e.t
theorem Good.goodL {l:List Ent} (h:Good l):goodL l:=⟨h.len,h.uniq,fun e he=> (h.range e he).1⟩
theorem qIk:Good []:=⟨by simp,by simp[zHg],fun e he=> by simp at he⟩
theorem qEl {l:List Ent} {e:Ent} (h:zA2 l e=0):0<=e.t/\e.t<12:=by
 unfold zA2 at h
 split at h
 ·cases h
 ·omega
theorem qPz {l:List Ent} {e:Ent} (h:zA2 l e=0) (hg:zDc l e.t=none):l.length<8:=by
 unfold zA2 at h
 split at h
 ·cases h
 ·split at h
  ·cases h
  ·rw[hg] at h
   simp at h
   omega
theorem qEo {l:List Ent} {e:Ent} (h:zA2 l e=0) (hg:zDc l e.t=none):zBs l e=l++[e]:=by simp[zBs,h,hg]
theorem qEn {l:List Ent} {e x:Ent} (hg:zDc l e.t=some x):zBs l e=l:=by simp[zBs,hg]
theorem qJu {l:List Ent} {e:Ent} (h:zA2 l e≠0):zBs l e=l:=by simp[zBs,h]
theorem Good.add {l:List Ent} (h:Good l) (e:Ent):Good (zBs l e):=by
 by_cases hc:zA2 l e=0
 ·cases hg:zDc l e.t with
  |some x=> rw[qEn hg];exact h
  |none=>
   rw[qEo hc hg]
   have:=qPz hc hg
   refine⟨by simp;omega,?_,fun y hy=> ?_⟩
   ·show ((l++[e]).map (·.t)).Nodup
    rw[List.map_append]
    refine List.nodup_append.2 ⟨h.uniq,by simp,?_⟩
    rintro a ha b hb rfl
    simp only[List.map_cons,List.map_nil,List.mem_singleton] at hb
    subst hb
    obtain⟨x,hx,hxe⟩:=List.mem_map.1 ha
    simp only[zDc,List.find?_eq_none] at hg
    exact absurd hxe (by simpa using hg x hx)
   ·rcases List.mem_append.1 hy with hy|hy
    ·exact h.range y hy
    ·have:y=e:=by simpa using hy
     subst this;exact qEl hc
 ·rw[qJu hc];exact h
def zM7:Value->Option Ent
 |.agg ⟨[.int .i64 t,.int .u64 v,.int .u64 n]⟩=> some ⟨t,v,n⟩
 |_=> none
theorem qJq (t v n:Int):zM7 (.agg #[.int .i64 t,.int .u64 v,.int .u64 n])=some ⟨t,v,n⟩:=rfl
theorem qEj (e:Ent):zM7 e.val=some e:=rfl
theorem zRd {v:Value} {e:Ent} (h:zM7 v=some e):v=e.val:=by
 unfold zM7 at h
 split at h
 ·cases h;rfl
 ·cases h
def zHr (H:AH GD) (k:Nat):Option (Nat × List Ent):=
 match H.get k with
 |some (.hi (.set c l))=> some (c,l)
 |_=> none
def zIp (H:AH GD) (k:Nat):Option (List Ent):=
 match H.get k with
 |some (.hi (.rset l))=> some l
 |_=> none
theorem zD5 {H:AH GD} {k:Nat} {x:Nat × List Ent} (h:zHr H k=some x):H.get k=some (.hi (.set x.1 x.2)):=by
 unfold zHr at h
 split at h
 ·rename_i h2;cases h;exact h2
 ·cases h
theorem zF4 {H:AH GD} {k:Nat} {l:List Ent} (h:zIp H k=some l):H.get k=some (.hi (.rset l)):=by
 unfold zIp at h
 split at h
 ·rename_i h2;cases h;exact h2
 ·cases h
attribute [simp] qJq qEj zHr zIp qB8 qHd zYt
end YtnemoimbeefngaaGreat
end Go.Proofs
namespace Go.Proofs
namespace YtnemoimbeefngaaGreat
open Go.Abs
theorem qCf {l:List Ent} {es:List MapEntry} {c:Nat} (h:zA3 (zB8 l) es c) (θ:Nat->Nat):es.map (fun e=> (⟨ren θ e.key,ren θ e.val,e.born⟩:MapEntry))=es:=
 zVy θ fun e he=> by
  have:(e.key,e.val)∈zB8 l:=h.1.mem_iff.1 (List.mem_map.2 ⟨e,he,rfl⟩)
  obtain⟨x,_,hp⟩:=List.mem_map.1 this
  simp only[Prod.mk.injEq] at hp
  rw[←hp.1,←hp.2]
  exact⟨rfl,rfl⟩
theorem zP.openSet {f:FuncId} {args:List Value} {K:AEnd->AH GD->Prop} {c:Nat} {l:List Ent}
  (h:∀es cc,zA3 (zB8 l) es cc->es.length=l.length->(∀θ,es.map (fun e=> (⟨ren θ e.key,ren θ e.val,e.born⟩:MapEntry))=es)->zP Tryz.prog cfg f args (AH.of [some (.arr 163 [.slice (some ⟨1,0,none⟩) l.length 1,.map (some 2)]),some (.arr 3 (zCh l)),some (.map es cc)]) K):
  zP Tryz.prog cfg f args (AH.of [some (.hi (.set c l))]) K:=by
 have e:zFt frag (AH.of [some (.hi (.set c l))]) 0=some (AH.of [some (.arr 163 [.slice (some ⟨1,0,none⟩) l.length 1,.map (some 2)]),some (.arr 3 (zCh l)),some (.mapq (zB8 l))]):=by
  simp[zFh]
 refine zP.opn 0 e (zP.expose 2 (ps:=zB8 l) rfl fun es cc hes=> ?_)
 have:=h es cc hes (by rw[hes.len,zRr]) (qCf hes)
 rw[zOy _ _ _ (by simp)]
 exact this
theorem qNm (t v n:Int) (c:Nat) (l:List Ent) (hu:zHg l):zP Tryz.prog cfg 143 [.pointer (some ⟨0,0,none⟩),.agg #[.int .i64 t,.int .u64 v,.int .u64 n]] (AH.of [some (.hi (.set c l))])
  fun r H'=> r=.ret (.int .i64 (zA2 l ⟨t,v,n⟩))/\H'=AH.of [some (.hi (.set c (zBs l ⟨t,v,n⟩)))]:=by
 refine zP.ends ?_
 refine zP.openSet fun es cc hes hlen hren=> ?_
 refine zX (tbl:=[]) (by simp) 0 2 (af:=a143) rfl ?_
 rw[a143,b143,qB]
 refine⟨by simp,?_⟩
 have hf:=zKq hes hu
 have hg:zDc l t=none->zGn false (.int .i64 t) (.agg #[.int .i64 t,.int .u64 v,.int .u64 n]) cc es=some (es++[⟨.int .i64 t,.agg #[.int .i64 t,.int .u64 v,.int .u64 n],cc⟩],cc+1):=qCk hes hu ⟨t,v,n⟩
 have hadd:zA3 (zB8 (l++[⟨t,v,n⟩])) (es++[⟨.int .i64 t,.agg #[.int .i64 t,.int .u64 v,.int .u64 n],cc⟩]) (cc+1):=qEm hes ⟨t,v,n⟩
 cases h5:zDc l t with
 |some e=>
  simp -implicitDefEqProofs [forms96,a96,b96,hf,h5,Ent.val,Ent.cells]
  repeat' (first|with_reducible apply And.intro|with_reducible intro _)
  all_goals (refine zA [.pack (GD.set c l) 0 [1,2]] [0] ?_ ?_ ?_<;> simp[zFh,AObj.mine,zBs,zA2,zAq,hes, *]<;> omega)
 |none=>
  simp -implicitDefEqProofs [forms96,a96,b96,hf,h5,hg h5,zLa,zXy]
  repeat' (first|with_reducible apply And.intro|with_reducible intro _)
  all_goals first
   |omega
   |(refine zA [.pack (GD.set c l) 0 [1,2]] [0] ?_ ?_ ?_<;> simp[zFh,AObj.mine,zBs,zA2,zAq,hes, *]<;> omega)
   |(subst_vars;refine zA [.pack (GD.set c (l++[⟨t,9221120237041090560,n⟩])) 0 [6,2]] [0] ?_ ?_ ?_<;> simp[zFh,AObj.mine,zBs,zA2,zAq,zQn,hadd, *]<;> omega)
   |(refine zA [.pack (GD.set c (l++[⟨t,v,n⟩])) 0 [6,2]] [0] ?_ ?_ ?_<;> simp[zFh,AObj.mine,zBs,zA2,zAq,zQn,hadd, *]<;> omega)
end YtnemoimbeefngaaGreat
end Go.Proofs
namespace Go.Proofs
namespace YtnemoimbeefngaaGreat
open Go.Abs
theorem qQj:zP Tryz.prog cfg 81 [] (AH.of []) fun r H'=> r=.ret (.pointer (some ⟨0,0,none⟩))/\H'=AH.of [some (.hi (.set 0 []))]:=by
 refine zP.ends ?_
 refine zX (tbl:=[]) (by simp) 0 0 (af:=a81) rfl ?_
 rw[a81,b81,qB]
 refine⟨by simp,?_⟩
 simp -implicitDefEqProofs
 refine zA [.nil 3,.pack (GD.set 0 []) 1 [2,0]] [1] ?_ ?_ ?_<;> simp[zFh,AObj.mine,zCh,zB8,zJm,zA3.nil]
theorem qNw:zP Tryz.prog cfg 118 [] (AH.of []) fun r H'=> r=.ret (.pointer (some ⟨0,0,none⟩))/\H'=AH.of [some (.hi (.rset []))]:=by
 refine zP.ends ?_
 refine zX (tbl:=[]) (by simp) 0 0 (af:=a118) rfl ?_
 rw[a118,b118,qB]
 refine⟨by simp,?_⟩
 simp -implicitDefEqProofs
 refine zA [.nil 155,.pack (GD.rset []) 0 [1]] [0] ?_ ?_ ?_<;> simp[zBg,AObj.mine,zAb]
def st81:qW GD:=fun args H=> match args with
 |[]=> some (True,.ret (.pointer (some ⟨H.next,0,none⟩)),H.add (.hi (.set 0 [])))
 |_=> none
def zSd:qW GD:=fun args H=> match args with
 |[]=> some (True,.ret (.pointer (some ⟨H.next,0,none⟩)),H.add (.hi (.rset [])))
 |_=> none
theorem qLn:qI Tryz.prog cfg 81 st81:=by
 intro args H p r H' h hp
 unfold st81 at h
 split at h
 case h_2=> cases h
 cases h
 exact qQj.atK (xE rfl) [] (by simp) (by simp) trivial (by simp) (by simp) (by simp)
theorem qGu:qI Tryz.prog cfg 118 zSd:=by
 intro args H p r H' h hp
 unfold zSd at h
 split at h
 case h_2=> cases h
 cases h
 exact qNw.atK (xE rfl) [] (by simp) (by simp) trivial (by simp) (by simp) (by simp)
def zMq:qW GD:=fun args H=> match args with
 |[x,y]=> (zH0 x).bind fun k=> (zM7 y).bind fun e=> (zHr H k).map fun s=> (zHg s.2,.ret (.int .i64 (zA2 s.2 e)),H.upd k (.hi (.set s.1 (zBs s.2 e))))
 |_=> none
theorem qGm:qI Tryz.prog cfg 143 zMq:=by
 intro args H p r H' h hp
 unfold zMq at h
 split at h
 case h_2=> cases h
 simp only[Option.map_eq_some_iff,Option.bind_eq_some_iff] at h
 obtain⟨k,hk,e,he,s,hs,h⟩:=h
 cases h
 rw[zFd hk,zRd he]
 exact (qNm e.t e.v e.n s.1 s.2 hp).atK (xE rfl) [k] (by simp) (by simp) (by simp[zD5 hs]) (by simp[Ent.val,Ent.cells]) (by simp) (by simp)
def zHi:Ent:=⟨0,0,0⟩
def zN1 (l:List Ent) (t:Int):Value:=.tuple #[((zDc l t).getD zHi).val,.bool (zDc l t).isSome]
end YtnemoimbeefngaaGreat
end Go.Proofs
namespace Go.Proofs
namespace YtnemoimbeefngaaGreat
open Go.Abs
theorem qPd {l:List Ent} {i:Nat} {e:Ent} {t:Int} (hi:l[i]?=some e) (hno:∀(j:Nat) (x:Ent),j<i->l[j]?=some x->x.t≠t) (he:e.t=t):zDc l t=some e:=by
 induction l generalizing i with
 |nil=> simp at hi
 |cons a l ih=>
  cases i with
  |zero=> simp at hi;subst hi;simp[zDc,he]
  |succ i=>
   have h0:=hno 0 a (by omega) rfl
   have:(a.t==t)=false:=by simpa using h0
   simp only[zDc,List.find?_cons,this]
   exact ih (i:=i) (by simpa using hi) fun j x hj hx=> hno (j+1) x (by omega) (by simpa using hx)
theorem qDv {l:List Ent} {t:Int} (hno:∀(j:Nat) (x:Ent),l[j]?=some x->x.t≠t):zDc l t=none:=by
 simp only[zDc,List.find?_eq_none]
 intro x hx
 obtain⟨j,hj⟩:=List.mem_iff_getElem?.1 hx
 simpa using hno j x hj
theorem qN5 {l:List Ent} {i:Nat} {x:Ent} (h:l[i]?=some x):(zAb l)[i*3]?=some (.int .i64 x.t):=by
 have:=zFf h
 have h2:(((zAb l).drop (i*3)).take 3)[0]?=some (.int .i64 x.t):=by rw[this];rfl
 simpa using h2
theorem qMz (t:Int) (l:List Ent) (hl:l.length<9223372036854775807):zP Tryz.prog cfg 204 [.pointer (some ⟨0,0,none⟩),.int .i64 t] (AH.of [some (.hi (.rset l))])
  fun r H'=> r=.ret (zN1 l t)/\H'=AH.of [some (.hi (.rset l))]:=by
 refine zP.ends ?_
 refine zP.opn 0 rfl ?_
 refine zX (tbl:=[]) (by simp) (l.length+1) 0 (af:=a204) rfl ?_
 rw[a204,b204,qB]
 refine⟨by simp,?_⟩
 simp -implicitDefEqProofs [zBg]
 refine zAp (xC zAh (xD (by simp)) _ _ noY jT) (fun m tm H=> ∃i:Nat,m+i=l.length/\(∀j x,j<i->l[j]?=some x->x.t≠t)/\tm 0=.pointer (some ⟨0,0,none⟩)/\tm 1=.int .i64 t/\tm 4=.pointer (some ⟨2,0,none⟩)/\tm 5=.bool false/\tm 6=.int .i64 i/\
  H=AH.of [some (.arr 170 [.slice (some ⟨1,0,none⟩) l.length 1]),some (.arr 155 (zAb l)),some (.arr 155 [.int .i64 0,.int .u64 0,.int .u64 0])]) (m:=l.length) ⟨0,by simp⟩ (by omega) ?_
 rintro m tm H ⟨i,hm,hno,t0,t1,t4,t5,t6,rfl⟩
 by_cases hi:i<l.length
 ·obtain⟨x,hx⟩:∃x,l[i]?=some x:=⟨l[i],List.getElem?_eq_getElem hi⟩
  have hi':(i:Int)<l.length:=by omega
  have h3:i*3+3<=(zAb l).length:=by rw[zCm];omega
  have hw:IntKind.i64.wrap ((i:Int)+1)=((i+1:Nat):Int):=by rw[qX (by omega) (by omega)];omega
  simp -implicitDefEqProofs [t0,t1,t4,t5,t6,hi,hi',qN5 hx,zFf hx,h3,Ent.cells,hw]
  refine⟨fun he=> ?_,fun he=> ⟨m - 1,by omega,i+1,by omega,fun j y hj hy=> ?_,by omega⟩⟩
  ·have:=qPd hx hno he
   refine zA [.pack (GD.rset l) 0 [1]] [0] ?_ ?_ ?_<;> simp[zBg,AObj.mine,zN1,this,Ent.val,Ent.cells]
  ·by_cases hji:j=i
   ·subst hji;rw[hx] at hy;cases hy;exact he
   ·exact hno j y (by omega) hy
 ·have hi':¬(i:Int)<l.length:=by omega
  have hn:zDc l t=none:=qDv fun j x hx=> hno j x (by
   rcases Nat.lt_or_ge j l.length with h|h
   ·omega
   ·rw[List.getElem?_eq_none h] at hx;cases hx) hx
  simp -implicitDefEqProofs [t0,t1,t4,t5,t6,hi']
  refine zA [.pack (GD.rset l) 0 [1]] [0] ?_ ?_ ?_<;> simp[zBg,AObj.mine,zN1,hn,zHi,Ent.val,Ent.cells]
def zOl:qW GD:=fun args H=> match args with
 |[x,y]=> (zH0 x).bind fun k=> (asI y).bind fun t=> (zIp H k).map fun l=> (l.length<9223372036854775807,.ret (zN1 l t),H)
 |_=> none
theorem qF4:qI Tryz.prog cfg 204 zOl:=by
 intro args H p r H' h hp
 unfold zOl at h
 split at h
 case h_2=> cases h
 simp only[Option.map_eq_some_iff,Option.bind_eq_some_iff] at h
 obtain⟨k,hk,t,ht,l,hs,h⟩:=h
 cases h
 rw[zFd hk,qPy ht]
 exact (qMz t l hp).atK (xE rfl) [k] (by simp) (by simp) (by simp[zF4 hs]) (by simp) (by simp[zN1,Ent.val,Ent.cells]) (by simp[xB (zF4 hs)])
def zS9:List (FuncId × qW GD):=[(204,zOl),(98,zE7)]
theorem qLa:∀x∈zS9,qI Tryz.prog cfg x.1 x.2:=by simp[zS9,qF4,zJt]
theorem qNa (t v n:Int) (l:List Ent) (hl:l.length<=8) (hv0:0<=v) (hv1:v<18446744073709551616):zP Tryz.prog cfg 175 [.pointer (some ⟨0,0,none⟩),.agg #[.int .i64 t,.int .u64 v,.int .u64 n]] (AH.of [some (.hi (.rset l))])
  fun r H'=> r=.ret (.int .i64 (zA2 l ⟨t,v,n⟩))/\H'=AH.of [some (.hi (.rset (zBs l ⟨t,v,n⟩)))]:=by
 refine zP.ends ?_
 refine zX (tbl:=zS9) qLa 0 2 (af:=a175) rfl ?_
 rw[a175,b175,qB]
 refine⟨by simp,?_⟩
 have hl2:l.length*3<=(zAb l).length:=by rw[zCm];omega
 have hl3:l.length<9223372036854775807:=by omega
 have hl4:l.length*24<=140737488355328/\l.length<=9223372036854775807/\(l.length+1)*24<=140737488355328/\l.length<=9223372036854775806:=by omega
 cases h5:zDc l t with
 |some e=>
  simp -implicitDefEqProofs [zS9,zE7,zOl,zN1,h5,Ent.val,Ent.cells,zHi,zBg,hv0,hv1,hl3]
  repeat' (first|with_reducible apply And.intro|with_reducible intro _)
  all_goals (refine zA [] [0] ?_ ?_ ?_<;> simp[zBs,zA2, *]<;> omega)
 |none=>
  simp -implicitDefEqProofs [zS9,zE7,zOl,zN1,h5,Ent.val,Ent.cells,zHi,zBg,hl2,zQp,zCm,hv0,hv1,hl3,hl4]
  repeat' (first|with_reducible apply And.intro|with_reducible intro _)
  all_goals first
   |(refine zA [] [0] ?_ ?_ ?_<;> simp[zBs,zA2, *]<;> omega)
   |(refine zA [.pack (GD.rset l) 0 [3]] [0] ?_ ?_ ?_<;> simp[zBg,AObj.mine,zBs,zA2, *]<;> omega)
   |(refine zA [.pack (GD.rset (l++[⟨t,v,n⟩])) 0 [7]] [0] ?_ ?_ ?_<;> simp[zBg,AObj.mine,zBs,zA2,qG7, *]<;> omega)
def zMp:qW GD:=fun args H=> match args with
 |[x,y]=> (zH0 x).bind fun k=> (zM7 y).bind fun e=> (zIp H k).map fun l=> (l.length<=8/\0<=e.v/\e.v<18446744073709551616,.ret (.int .i64 (zA2 l e)),H.upd k (.hi (.rset (zBs l e))))
 |_=> none
theorem qGd:qI Tryz.prog cfg 175 zMp:=by
 intro args H p r H' h hp
 unfold zMp at h
 split at h
 case h_2=> cases h
 simp only[Option.map_eq_some_iff,Option.bind_eq_some_iff] at h
 obtain⟨k,hk,e,he,l,hs,h⟩:=h
 cases h
 rw[zFd hk,zRd he]
 exact (qNa e.t e.v e.n l hp.1 hp.2.1 hp.2.2).atK (xE rfl) [k] (by simp) (by simp) (by simp[zF4 hs]) (by simp[Ent.val,Ent.cells]) (by simp) (by simp)
end YtnemoimbeefngaaGreat
end Go.Proofs
namespace Go.Proofs
namespace YtnemoimbeefngaaGreat
open Go.Abs
theorem qB1 {l:List Ent} {i:Nat} {x:Ent} (h:l[i]?=some x):zAb (l.take (i+1))=zAb (l.take i)++[.int .i64 x.t,.int .u64 x.v,.int .u64 x.n]:=by
 rw[List.take_add_one,h]
 simp[zAb,Ent.cells]
theorem qEx {l:List Ent} {i:Nat} {x:Ent} (h:l[i]?=some x):(zCh l)[i]?=some (.int .i64 x.t):=by simp[zCh,h]
theorem qQg (c:Nat) (l:List Ent) (hl:l.length<=8) (hu:zHg l):zP Tryz.prog cfg 92 [.pointer (some ⟨0,0,none⟩)] (AH.of [some (.hi (.set c l))])
  fun r H'=> r=.ret (.slice (some ⟨1,0,none⟩) l.length 1)/\H'=AH.of [some (.hi (.set c l)),some (.arr 155 (zAb l))]:=by
 refine zP.ends ?_
 refine zP.openSet fun es cc hes hlen hren=> ?_
 have hf:=zKq hes hu
 refine zX (tbl:=[]) (by simp) (l.length+1) 0 (af:=a92) rfl ?_
 rw[a92,b92,qB]
 refine⟨by simp,?_⟩
 simp -implicitDefEqProofs [zFh]
 refine zBm (xC zAh (xD (by simp)) _ _ noY jT) (fun m tm H=> ∃i:Nat,m+i=l.length/\tm 0=.pointer (some ⟨0,0,none⟩)/\tm 3=.slice (some ⟨3,0,none⟩) i 1/\tm 11=.slice (some ⟨1,0,none⟩) l.length 1/\tm 12=.int .i64 l.length/\tm 13=.int .i64 i/\
  H=AH.of [some (.arr 163 [.slice (some ⟨1,0,none⟩) l.length 1,.map (some 2)]),some (.arr 3 (zCh l)),some (.map es cc),some (.arr 155 (zAb (l.take i)))]) (m:=l.length) ?_ (by omega) ?_
 ·refine zG5 [.nil 155] [0,1,2,3] [some (.arr 163 [.slice (some ⟨1,0,none⟩) l.length 1,.map (some 2)]),some (.arr 3 (zCh l)),some (.map es cc),some (.arr 155 [])] [(3,.slice (some ⟨3,0,none⟩) 0 1)] l.length (by omega) ?_ ?_ ?_ ⟨0,?_⟩<;> simp[zAb,hren]
  done
 rintro m tm H ⟨i,hm,t0,t3,t11,t12,t13,rfl⟩
 by_cases hi:i<l.length
 ·obtain⟨x,hx⟩:∃x,l[i]?=some x:=⟨l[i],List.getElem?_eq_getElem hi⟩
  have hi':(i:Int)<l.length:=by omega
  have hw:IntKind.i64.wrap ((i:Int)+1)=((i+1:Nat):Int):=by rw[qX (by omega) (by omega)];omega
  have hr1:i*3<=(zAb (l.take i)).length:=by rw[zCm,List.length_take];omega
  have hr2:(zAb (l.take i)).take (i*3)=zAb (l.take i):=List.take_of_length_le (by rw[zCm,List.length_take];omega)
  have hr3:(i+1)*24<=140737488355328/\i<=9223372036854775806:=by omega
  simp -implicitDefEqProofs [t0,t3,t11,t12,t13,hi,hi',qEx hx,hf,hu.get i x hx,Ent.val,Ent.cells,hr1,hr2,hr3,hw]
  refine qS [] [0,1,2,5] [some (.arr 163 [.slice (some ⟨1,0,none⟩) l.length 1,.map (some 2)]),some (.arr 3 (zCh l)),some (.map es cc),some (.arr 155 (zAb (l.take (i+1))))] (m - 1) (by omega) ?_ ?_ ⟨i+1,by omega,?_⟩<;> simp[t0,t3,t11,t12,t13,qB1 hx,hren]
  done
 ·have hi':¬(i:Int)<l.length:=by omega
  have hil:i=l.length:=by omega
  subst hil
  simp -implicitDefEqProofs [t0,t3,t11,t12,t13,hi']
  refine zA [.pack (GD.set c l) 0 [1,2]] [0,3] ?_ ?_ ?_<;> simp[zFh,AObj.mine,hes]
end YtnemoimbeefngaaGreat
end Go.Proofs
namespace Go.Proofs
namespace YtnemoimbeefngaaGreat
open Go.Abs
end YtnemoimbeefngaaGreat
end Go.Proofs
namespace Go.Proofs
namespace YtnemoimbeefngaaGreat
open Go.Abs
def zGz (h:List Int) (e:Ent):Bool:=decide ((h.length:Int)<=e.t)|| !zDl ((h[e.t.toNat]?).getD 0) e.v
def brk (l:List Ent) (h:List Int):Option Ent:=l.find? (zGz h)
def zIv:qW GD:=fun args H=> match args with
 |[x]=> (zH0 x).bind fun k=> (zHr H k).map fun s=> (s.2.length<=8/\zHg s.2,.ret (.slice (some ⟨H.next,0,none⟩) s.2.length 1),H.add (.arr 155 (zAb s.2)))
 |_=> none
theorem zPp:qI Tryz.prog cfg 92 zIv:=by
 intro args H p r H' h hp
 unfold zIv at h
 split at h
 case h_2=> cases h
 simp only[Option.map_eq_some_iff,Option.bind_eq_some_iff] at h
 obtain⟨k,hk,s,hs,h⟩:=h
 cases h
 rw[zFd hk]
 exact (qQg s.1 s.2 hp.1 hp.2).atK (xE rfl) [k] (by simp) (by simp) (by simp[zD5 hs]) (by simp) (by simp) (by simp[xB (zD5 hs)])
def zPl:List (FuncId × qW GD):=[(92,zIv),(133,zH6)]
theorem zWr:∀x∈zPl,qI Tryz.prog cfg x.1 x.2:=by simp[zPl,zPp,zTi]
theorem zU5 {l:List Ent} {h:List Int} (hno:∀(j:Nat) (x:Ent),l[j]?=some x->zGz h x=false):brk l h=none:=by
 simp only[brk,List.find?_eq_none]
 intro x hx
 obtain⟨j,hj⟩:=List.mem_iff_getElem?.1 hx
 simpa using hno j x hj
theorem zPb {l:List Ent} {h:List Int} {i:Nat} {e:Ent} (hi:l[i]?=some e) (hno:∀(j:Nat) (x:Ent),j<i->l[j]?=some x->zGz h x=false) (he:zGz h e=true):brk l h=some e:=by
 induction l generalizing i with
 |nil=> simp at hi
 |cons a l ih=>
  cases i with
  |zero=> simp at hi;subst hi;simp[brk,he]
  |succ i=>
   have h0:=hno 0 a (by omega) rfl
   simp only[brk,List.find?_cons,h0]
   exact ih (i:=i) (by simpa using hi) fun j x hj hx=> hno (j+1) x (by omega) (by simpa using hx)
theorem qNi (c tg:Nat) (l:List Ent) (h:List Int) (hl:l.length<=8) (hu:zHg l) (h0:∀e∈l,0<=e.t):zP Tryz.prog cfg 148 [.pointer (some ⟨0,0,none⟩),.slice (some ⟨1,0,none⟩) h.length tg] (AH.of [some (.hi (.set c l)),some (.ro (us h))])
  fun r H'=> r=.ret (.tuple #[.int .i64 ((brk l h).getD zHi).t,.bool (brk l h).isSome])/\H'=AH.of [some (.hi (.set c l)),some (.ro (us h))]:=by
 refine zP.ends ?_
 refine zX (tbl:=zPl) zWr (l.length+1) 0 (af:=a148) rfl ?_
 rw[a148,b148,qB]
 refine⟨by simp,?_⟩
 simp -implicitDefEqProofs [zPl,zIv,hl,hu]
 refine zBm (xC zAh (xD zWr) _ _ noY jT) (fun m tm H=> ∃i:Nat,m+i=l.length/\(∀(j:Nat) (x:Ent),j<i->l[j]?=some x->zGz h x=false)/\tm 1=.slice (some ⟨1,0,none⟩) h.length tg/\tm 9=.slice (some ⟨2,0,none⟩) l.length 1/\tm 10=.int .i64 l.length/\tm 11=.int .i64 i/\
  H=AH.of [some (.hi (.set c l)),some (.ro (us h)),some (.arr 155 (zAb l))]) (m:=l.length) ?_ (by omega) ?_
 ·refine qS [] [0,1,2] [some (.hi (.set c l)),some (.ro (us h)),some (.arr 155 (zAb l))] l.length (by omega) ?_ ?_ ⟨0,?_⟩<;> simp[zF3]
  done
 rintro m tm H ⟨i,hm,hno,t1,t9,t10,t11,rfl⟩
 by_cases hi:i<l.length
 ·obtain⟨x,hx⟩:∃x,l[i]?=some x:=⟨l[i],List.getElem?_eq_getElem hi⟩
  have hi':(i:Int)<l.length:=by omega
  have hw:IntKind.i64.wrap ((i:Int)+1)=((i+1:Nat):Int):=by rw[qX (by omega) (by omega)];omega
  have r3:=zFf hx
  have hle:i*3+3<=(zAb l).length:=by rw[zCm];omega
  have hx0:0<=x.t:=h0 x (List.mem_of_getElem? hx)
  by_cases hb:(h.length:Int)<=x.t
  ·have hbad:zGz h x=true:=by simp[zGz,hb]
   simp -implicitDefEqProofs [zPl,zH6,t1,t9,t10,t11,hi,hi',r3,hle,Ent.cells,hw,hb]
   refine zA [] [0,1] ?_ ?_ ?_<;> simp[zPb hx hno hbad,zF3]
  ·obtain⟨v,hv⟩:∃v,h[x.t.toNat]?=some v:=⟨h[x.t.toNat],List.getElem?_eq_getElem (by omega)⟩
   have hb2:x.t<h.length:=by omega
   have hbad:zGz h x= !zDl v x.v:=by simp[zGz,hb,hv]
   simp -implicitDefEqProofs [zPl,zH6,t1,t9,t10,t11,hi,hi',r3,hle,Ent.cells,hw,hb,hb2,hx0,zEb hv]
   refine⟨fun hs=> ?_,fun hs=> ?_⟩
   ·refine zA [] [0,1] ?_ ?_ ?_<;> simp[zPb hx hno (by simp[hbad,hs]),zF3]
   ·refine qS [] [0,1,2] [some (.hi (.set c l)),some (.ro (us h)),some (.arr 155 (zAb l))] (m - 1) (by omega) ?_ ?_ ⟨i+1,by omega,?_⟩
    ·simp
    ·simp[zF3]
    ·refine⟨fun j y hj hy=> ?_,?_⟩
     ·by_cases hji:j=i
      ·subst hji;rw[hx] at hy;cases hy;simp[hbad,hs]
      ·exact hno j y (by omega) hy
     ·simp[t1,t9,t10,t11]
 ·have hi':¬(i:Int)<l.length:=by omega
  have hn:brk l h=none:=zU5 fun j x hx=> hno j x (by
   rcases Nat.lt_or_ge j l.length with h|h
   ·omega
   ·rw[List.getElem?_eq_none h] at hx;cases hx) hx
  simp -implicitDefEqProofs [t1,t9,t10,t11,hi']
  refine zA [] [0,1] ?_ ?_ ?_<;> simp[hn,zHi,zF3]
theorem zVg {l:List Ent} {e x:Ent} (h:x∈zBs l e):x∈l∨x=e:=by
 unfold zBs at h
 split at h
 ·rcases List.mem_append.1 h with h|h
  ·exact .inl h
  ·exact .inr (by simpa using h)
 ·exact .inl h
end YtnemoimbeefngaaGreat
end Go.Proofs
namespace Go.Proofs
namespace YtnemoimbeefngaaGreat
open Go.Abs
def getLk (H:AH GD) (k:Nat):Option (Option Int × Int):=
 match H.get k with
 |some (.hi (.lk o c))=> some (o,c)
 |_=> none
attribute [simp] getLk
theorem qQb:zP Tryz.prog cfg 97 [] (AH.of []) fun r H'=> r=.ret (.pointer (some ⟨0,0,none⟩))/\H'=AH.of [some (.hi (.lk none 0))]:=by
 refine zP.ends ?_
 refine zX (tbl:=[]) (by simp) 0 0 (af:=a97) rfl ?_
 rw[a97,b97,qB]
 refine⟨by simp,?_⟩
 simp -implicitDefEqProofs
 refine zA [.pack (GD.lk none 0) 0 []] [0] ?_ ?_ ?_<;> simp[zBj,AObj.mine]
def zDw:Option Int->Int->Value
 |none,c=> .tuple #[.int .u64 c,.int .i64 0]
 |some _,_=> .tuple #[.int .u64 0,.int .i64 7]
theorem qQk (o:Option Int) (c:Int):zP Tryz.prog cfg 80 [.pointer (some ⟨0,0,none⟩)] (AH.of [some (.hi (.lk o c))])
  fun r H'=> r=.ret (zDw o c)/\H'=AH.of [some (.hi (.lk o c))]:=by
 refine zP.ends ?_
 cases o with
 |none=>
  refine zX (tbl:=[]) (by simp) 0 4 (af:=a80) rfl ?_
  rw[a80,b80,qB]
  refine⟨by simp,?_⟩
  simp -implicitDefEqProofs [forms128,a128,b128,forms183,a183,b183,forms129,a129,b129,forms130,a130,b130,zBj]
  refine zA [.pack (GD.lk none c) 0 []] [0] ?_ ?_ ?_<;> simp[zBj,AObj.mine,zDw]
 |some x=>
  refine zX (tbl:=[]) (by simp) 0 4 (af:=a80) rfl ?_
  rw[a80,b80,qB]
  refine⟨by simp,?_⟩
  simp -implicitDefEqProofs [forms128,a128,b128,forms183,a183,b183,forms129,a129,b129,forms130,a130,b130,zBz]
  refine zA [.pack (GD.lk (some x) c) 0 [4]] [0] ?_ ?_ ?_<;> simp[zBz,AObj.mine,zDw]
def zBu (o:Option Int) (c w at_:Int):Int:=if w<0∨4<=w then 2 else if o.isSome then 7 else if c≠at_ then 8 else if 1099511627775<=c then 4 else 0
theorem qNp (o:Option Int) (c w a:Int):zP Tryz.prog cfg 137 [.pointer (some ⟨0,0,none⟩),.int .i64 w,.int .u64 a] (AH.of [some (.hi (.lk o c))])
  fun r H'=> r=.ret (.int .i64 (zBu o c w a))/\H'=AH.of [some (.hi (if zBu o c w a=0 then .lk (some w) (IntKind.u64.wrap (c+1)) else .lk o c))]:=by
 refine zP.ends ?_
 by_cases h1:w<0
 ·have h1':¬0<=w:=by omega
  refine zX (tbl:=[]) (by simp) 0 4 (af:=a137) rfl ?_
  rw[a137,b137,qB]
  refine⟨by simp,?_⟩
  simp -implicitDefEqProofs [forms128,a128,b128,forms183,a183,b183,forms187,a187,b187,forms130,a130,b130,h1,h1']
  refine zA [] [0] ?_ ?_ ?_<;> simp[zBu,h1]
 have h1':0<=w:=by omega
 by_cases h2:4<=w
 ·have h2':¬w<4:=by omega
  refine zX (tbl:=[]) (by simp) 0 4 (af:=a137) rfl ?_
  rw[a137,b137,qB]
  refine⟨by simp,?_⟩
  simp -implicitDefEqProofs [forms128,a128,b128,forms183,a183,b183,forms187,a187,b187,forms130,a130,b130,h1,h1',h2,h2']
  refine zA [] [0] ?_ ?_ ?_<;> simp[zBu,h1,h2]
 have h2':w<4:=by omega
 cases o with
 |some x=>
  refine zX (tbl:=[]) (by simp) 0 4 (af:=a137) rfl ?_
  rw[a137,b137,qB]
  refine⟨by simp,?_⟩
  simp -implicitDefEqProofs [forms128,a128,b128,forms183,a183,b183,forms187,a187,b187,forms130,a130,b130,h1,h1',h2,h2',zBz]
  refine zA [.pack (GD.lk (some x) c) 0 [5]] [0] ?_ ?_ ?_<;> simp[zBz,AObj.mine,zBu,h1,h2]
 |none=>
  by_cases h3:c=a
  ·by_cases h4:c<1099511627775
   ·have h4':¬1099511627775<=c:=by omega
    subst h3
    refine zX (tbl:=[]) (by simp) 0 4 (af:=a137) rfl ?_
    rw[a137,b137,qB]
    refine⟨by simp,?_⟩
    simp -implicitDefEqProofs [forms128,a128,b128,forms183,a183,b183,forms187,a187,b187,forms130,a130,b130,h1,h1',h2,h2',h4,zBj]
    refine zA [.pack (GD.lk (some w) (IntKind.u64.wrap (c+1))) 0 [2]] [0] ?_ ?_ ?_<;> simp[zBz,AObj.mine,zBu,h1,h2,h4']
   ·have h4':1099511627775<=c:=by omega
    subst h3
    refine zX (tbl:=[]) (by simp) 0 4 (af:=a137) rfl ?_
    rw[a137,b137,qB]
    refine⟨by simp,?_⟩
    simp -implicitDefEqProofs [forms128,a128,b128,forms183,a183,b183,forms187,a187,b187,forms130,a130,b130,h1,h1',h2,h2',h4,zBj]
    refine zA [.pack (GD.lk none c) 0 []] [0] ?_ ?_ ?_<;> simp[zBj,AObj.mine,zBu,h1,h2,h4']
  ·refine zX (tbl:=[]) (by simp) 0 4 (af:=a137) rfl ?_
   rw[a137,b137,qB]
   refine⟨by simp,?_⟩
   simp -implicitDefEqProofs [forms128,a128,b128,forms183,a183,b183,forms187,a187,b187,forms130,a130,b130,h1,h1',h2,h2',h3,zBj]
   refine zA [.pack (GD.lk none c) 0 []] [0] ?_ ?_ ?_<;> simp[zBj,AObj.mine,zBu,h1,h2,h3]
theorem qNo (o:Option Int) (c w:Int):zP Tryz.prog cfg 139 [.pointer (some ⟨0,0,none⟩),.int .i64 w] (AH.of [some (.hi (.lk o c))])
  fun r H'=> r=.ret (.int .i64 (if o=some w then 0 else 8))/\H'=AH.of [some (.hi (if o=some w then .lk none (IntKind.u64.wrap (c+1)) else .lk o c))]:=by
 refine zP.ends ?_
 cases o with
 |none=>
  refine zX (tbl:=[]) (by simp) 0 5 (af:=a139) rfl ?_
  rw[a139,b139,qB]
  refine⟨by simp,?_⟩
  simp -implicitDefEqProofs [forms128,a128,b128,forms183,a183,b183,forms185,a185,b185,forms207,a207,b207,forms188,a188,b188,forms130,a130,b130,zBj]
  refine zA [.pack (GD.lk none c) 0 []] [0] ?_ ?_ ?_<;> simp[zBj,AObj.mine]
 |some x=>
  by_cases h:x=w
  ·subst h
   refine zX (tbl:=[]) (by simp) 0 5 (af:=a139) rfl ?_
   rw[a139,b139,qB]
   refine⟨by simp,?_⟩
   simp -implicitDefEqProofs [forms128,a128,b128,forms183,a183,b183,forms185,a185,b185,forms207,a207,b207,forms188,a188,b188,forms130,a130,b130,zBz]
   refine zA [.pack (GD.lk none (IntKind.u64.wrap (c+1))) 0 []] [0] ?_ ?_ ?_<;> simp[zBj,AObj.mine]
  ·refine zX (tbl:=[]) (by simp) 0 5 (af:=a139) rfl ?_
   rw[a139,b139,qB]
   refine⟨by simp,?_⟩
   simp -implicitDefEqProofs [forms128,a128,b128,forms183,a183,b183,forms185,a185,b185,forms207,a207,b207,forms188,a188,b188,forms130,a130,b130,zBz,h]
   refine zA [.pack (GD.lk (some x) c) 0 [5]] [0] ?_ ?_ ?_<;> simp[zBz,AObj.mine,h]
theorem qNq (o:Option Int) (c w:Int):zP Tryz.prog cfg 135 [.pointer (some ⟨0,0,none⟩),.int .i64 w] (AH.of [some (.hi (.lk o c))])
  fun r H'=> r=.ret (.int .i64 (if o=some w then 0 else 8))/\H'=AH.of [some (.hi (if o=some w then .lk none (IntKind.u64.wrap (c - 1)) else .lk o c))]:=by
 refine zP.ends ?_
 cases o with
 |none=>
  refine zX (tbl:=[]) (by simp) 0 5 (af:=a135) rfl ?_
  rw[a135,b135,qB]
  refine⟨by simp,?_⟩
  simp -implicitDefEqProofs [forms128,a128,b128,forms183,a183,b183,forms185,a185,b185,forms207,a207,b207,forms186,a186,b186,forms130,a130,b130,zBj]
  refine zA [.pack (GD.lk none c) 0 []] [0] ?_ ?_ ?_<;> simp[zBj,AObj.mine]
 |some x=>
  by_cases h:x=w
  ·subst h
   refine zX (tbl:=[]) (by simp) 0 5 (af:=a135) rfl ?_
   rw[a135,b135,qB]
   refine⟨by simp,?_⟩
   simp -implicitDefEqProofs [forms128,a128,b128,forms183,a183,b183,forms185,a185,b185,forms207,a207,b207,forms186,a186,b186,forms130,a130,b130,zBz]
   refine zA [.pack (GD.lk none (IntKind.u64.wrap (c - 1))) 0 []] [0] ?_ ?_ ?_<;> simp[zBj,AObj.mine]
  ·refine zX (tbl:=[]) (by simp) 0 5 (af:=a135) rfl ?_
   rw[a135,b135,qB]
   refine⟨by simp,?_⟩
   simp -implicitDefEqProofs [forms128,a128,b128,forms183,a183,b183,forms185,a185,b185,forms207,a207,b207,forms186,a186,b186,forms130,a130,b130,zBz,h]
   refine zA [.pack (GD.lk (some x) c) 0 [5]] [0] ?_ ?_ ?_<;> simp[zBz,AObj.mine,h]
def zEg:Option Int->Value
 |none=> .tuple #[.int .i64 0,.bool false]
 |some x=> .tuple #[.int .i64 x,.bool true]
theorem qQe (o:Option Int) (c:Int):zP Tryz.prog cfg 94 [.pointer (some ⟨0,0,none⟩)] (AH.of [some (.hi (.lk o c))])
  fun r H'=> r=.ret (zEg o)/\H'=AH.of [some (.hi (.lk o c))]:=by
 refine zP.ends ?_
 cases o with
 |none=>
  refine zX (tbl:=[]) (by simp) 0 0 (af:=a94) rfl ?_
  rw[a94,b94,qB]
  refine⟨by simp,?_⟩
  simp -implicitDefEqProofs [zBj]
  refine zA [.pack (GD.lk none c) 0 []] [0] ?_ ?_ ?_<;> simp[zBj,AObj.mine,zEg]
 |some x=>
  refine zX (tbl:=[]) (by simp) 0 0 (af:=a94) rfl ?_
  rw[a94,b94,qB]
  refine⟨by simp,?_⟩
  simp -implicitDefEqProofs [zBz]
  refine zA [.pack (GD.lk (some x) c) 0 [1]] [0] ?_ ?_ ?_<;> simp[zBz,AObj.mine,zEg]
theorem qNr (o:Option Int) (c a:Int):zP Tryz.prog cfg 134 [.pointer (some ⟨0,0,none⟩),.int .u64 a] (AH.of [some (.hi (.lk o c))])
  fun r H'=> r=.ret (.bool (decide (c=a)))/\H'=AH.of [some (.hi (.lk o c))]:=by
 refine zP.ends ?_
 cases o with
 |none=>
  refine zX (tbl:=[]) (by simp) 0 0 (af:=a134) rfl ?_
  rw[a134,b134,qB]
  refine⟨by simp,?_⟩
  simp -implicitDefEqProofs [zBj]
  refine zA [.pack (GD.lk none c) 0 []] [0] ?_ ?_ ?_<;> simp[zBj,AObj.mine]
 |some x=>
  refine zX (tbl:=[]) (by simp) 0 0 (af:=a134) rfl ?_
  rw[a134,b134,qB]
  refine⟨by simp,?_⟩
  simp -implicitDefEqProofs [zBz]
  refine zA [.pack (GD.lk (some x) c) 0 [1]] [0] ?_ ?_ ?_<;> simp[zBz,AObj.mine]
theorem qQ0 (o:Option Int) (c:Int):zP Tryz.prog cfg 49 [.pointer (some ⟨0,0,none⟩)] (AH.of [some (.hi (.lk o c))])
  fun r H'=> r=.ret (.int .u64 c)/\H'=AH.of [some (.hi (.lk o c))]:=by
 refine zP.ends ?_
 cases o with
 |none=>
  refine zX (tbl:=[]) (by simp) 0 0 (af:=a49) rfl ?_
  rw[a49,b49,qB]
  refine⟨by simp,?_⟩
  simp -implicitDefEqProofs [zBj]
  refine zA [.pack (GD.lk none c) 0 []] [0] ?_ ?_ ?_<;> simp[zBj,AObj.mine]
 |some x=>
  refine zX (tbl:=[]) (by simp) 0 0 (af:=a49) rfl ?_
  rw[a49,b49,qB]
  refine⟨by simp,?_⟩
  simp -implicitDefEqProofs [zBz]
  refine zA [.pack (GD.lk (some x) c) 0 [1]] [0] ?_ ?_ ?_<;> simp[zBz,AObj.mine]
end YtnemoimbeefngaaGreat
end Go.Proofs
namespace Go.Proofs
namespace YtnemoimbeefngaaGreat
open Go.Abs
def st97:qW GD:=fun args H=> match args with
 |[]=> some (True,.ret (.pointer (some ⟨H.next,0,none⟩)),H.add (.hi (.lk none 0)))
 |_=> none
theorem qLk:qI Tryz.prog cfg 97 st97:=by
 intro args H p r H' h hp
 unfold st97 at h
 split at h
 case h_2=> cases h
 cases h
 exact qQb.atK (xE rfl) [] (by simp) (by simp) trivial (by simp) (by simp) (by simp)
def d80:zAl
 |.lk o c,[]=> some (True,zDw o c,.lk o c)
 |_,_=> none
theorem zPq:qI Tryz.prog cfg 80 (qC d80):=xJ fun d rest p v d' h hp=> by
 unfold d80 at h
 split at h
 ·cases h;exact⟨rfl,by unfold zDw;split<;> rfl,qQk _ _⟩
 ·cases h
def zQf:zAl
 |.lk o c,[.int .i64 w,.int .u64 a]=> some (True,.int .i64 (zBu o c w a),if zBu o c w a=0 then .lk (some w) (IntKind.u64.wrap (c+1)) else .lk o c)
 |_,_=> none
theorem qGo:qI Tryz.prog cfg 137 (qC zQf):=xJ fun d rest p v d' h hp=> by
 unfold zQf at h
 split at h
 ·cases h;exact⟨rfl,rfl,qNp _ _ _ _⟩
 ·cases h
def d139:zAl
 |.lk o c,[.int .i64 w]=> some (True,.int .i64 (if o=some w then 0 else 8),if o=some w then .lk none (IntKind.u64.wrap (c+1)) else .lk o c)
 |_,_=> none
theorem qGn:qI Tryz.prog cfg 139 (qC d139):=xJ fun d rest p v d' h hp=> by
 unfold d139 at h
 split at h
 ·cases h;exact⟨rfl,rfl,qNo _ _ _⟩
 ·cases h
def zHb:zAl
 |.lk o c,[.int .i64 w]=> some (True,.int .i64 (if o=some w then 0 else 8),if o=some w then .lk none (IntKind.u64.wrap (c - 1)) else .lk o c)
 |_,_=> none
theorem qGp:qI Tryz.prog cfg 135 (qC zHb):=xJ fun d rest p v d' h hp=> by
 unfold zHb at h
 split at h
 ·cases h;exact⟨rfl,rfl,qNq _ _ _⟩
 ·cases h
def d94:zAl
 |.lk o c,[]=> some (True,zEg o,.lk o c)
 |_,_=> none
theorem zPo:qI Tryz.prog cfg 94 (qC d94):=xJ fun d rest p v d' h hp=> by
 unfold d94 at h
 split at h
 ·cases h;exact⟨rfl,by unfold zEg;split<;> rfl,qQe _ _⟩
 ·cases h
def zKu:zAl
 |.lk o c,[.int .u64 a]=> some (True,.bool (decide (c=a)),.lk o c)
 |_,_=> none
theorem qGq:qI Tryz.prog cfg 134 (qC zKu):=xJ fun d rest p v d' h hp=> by
 unfold zKu at h
 split at h
 ·cases h;exact⟨rfl,rfl,qNr _ _ _⟩
 ·cases h
def d49:zAl
 |.lk o c,[]=> some (True,.int .u64 c,.lk o c)
 |_,_=> none
theorem qL8:qI Tryz.prog cfg 49 (qC d49):=xJ fun d rest p v d' h hp=> by
 unfold d49 at h
 split at h
 ·cases h;exact⟨rfl,rfl,qQ0 _ _⟩
 ·cases h
end YtnemoimbeefngaaGreat
end Go.Proofs
namespace Go.Proofs
namespace YtnemoimbeefngaaGreat
open Go.Abs
theorem zZu (l:List Ev):xI (evs l)=true:=by
 induction l with
 |nil=> rfl
 |cons e l ih=>
  show xI (.int .u8 e.k::.int .i64 e.a::.int .i64 e.t::.int .u64 e.v::evs l)=true
  simp[xI,xY,ih]
theorem zPy (θ:Nat->Nat) (l:List Ev):zAu θ (evs l)=evs l:=zAy θ _ (zZu l)
attribute [simp] zPy
theorem qT (l:List Ev):(evs l).length=l.length*4:=by
 induction l with
 |nil=> rfl
 |cons e l ih=>
  show (.int .u8 e.k::.int .i64 e.a::.int .i64 e.t::.int .u64 e.v::evs l:List Value).length=_
  simp[ih];omega
theorem zW (a b:List Ev):evs (a++b)=evs a++evs b:=by simp[evs]
theorem zY (e:Ev):evs [e]=[.int .u8 e.k,.int .i64 e.a,.int .i64 e.t,.int .u64 e.v]:=rfl
theorem jB (l:List Ev):(evs l).take (l.length*4)=evs l:=List.take_of_length_le (by simp[qT])
theorem qPh:evs []=[]:=rfl
theorem qI4 (e:Ev) (l:List Ev):evs (e::l)=.int .u8 e.k::.int .i64 e.a::.int .i64 e.t::.int .u64 e.v::evs l:=rfl
def zG0:List Value->Option (List Ev)
 |[]=> some []
 |.int .u8 k::.int .i64 a::.int .i64 t::.int .u64 v::l=> (zG0 l).map (⟨k,a,t,v⟩::·)
 |_=> none
theorem zL8:∀l:List Ev,zG0 (evs l)=some l
 |[]=> rfl
 |e::l=> by
  show (zG0 (evs l)).map (_::·)=_
  rw[zL8 l];rfl
theorem zL7:∀{cs:List Value} {l:List Ev},zG0 cs=some l->cs=evs l
 |cs,l,e=> by
  unfold zG0 at e
  split at e
  ·cases e;rfl
  ·simp only[Option.map_eq_some_iff] at e
   obtain⟨l',e1,rfl⟩:=e
   rw[zL7 e1];rfl
  ·cases e
attribute [simp] zL8
theorem qHx {i:Nat} {x:Ev}:∀{l:List Ev},l[i]?=some x->((evs l).drop (i*4)).take 4=x.cells:=by
 induction i with
 |zero=>
  intro l h
  cases l with
  |nil=> simp at h
  |cons e l=> simp at h;subst h;rfl
 |succ i ih=>
  intro l h
  cases l with
  |nil=> simp at h
  |cons e l=>
   rw[qI4,show (i+1)*4=i*4+1+1+1+1 by omega]
   simpa using ih (l:=l) (by simpa using h)
theorem qC2 {i:Nat} {x:Ev} {l:List Ev} (h:l[i]?=some x):((evs l).drop (i*4)).take 4=[.int .u8 x.k,.int .i64 x.a,.int .i64 x.t,.int .u64 x.v]:=qHx h
theorem qI3 {l:List Ev} {i:Nat} (h:i<l.length):i*4+4<=(evs l).length:=by rw[qT];omega
def qSj (H:AH GD) (k:Nat):Option (List Ev):=match H.get k with
 |some (.ro cs)=> zG0 cs
 |some (.arr _ cs)=> zG0 cs
 |_=> none
end YtnemoimbeefngaaGreat
end Go.Proofs
namespace Go.Proofs
namespace YtnemoimbeefngaaGreat
open Go.Abs
def zZ (ts:Nat->Option Att) (th:Nat) (x:Option Att):Nat->Option Att:=fun i=> if i=th then x else ts i
theorem zEj (ts:Nat->Option Att) (th:Nat) (x:Option Att):zZ ts th x th=x:=by simp[zZ]
theorem zDk (ts:Nat->Option Att) {th i:Nat} (x:Option Att) (h:i≠th):zZ ts th x i=ts i:=by simp[zZ,h]
def zEa (n:Nat) (c:Int):Att:=⟨n,c,[],[[]],false,⟨0,0,0⟩,0,0,0,0,0,false⟩
def zC8 (s:NS) (th:Nat):Int:=if (s.ts th).isSome then 8 else if 64<=s.ky.length then 4 else if s.o.isSome then 7 else 0
def zCa (s:NS) (th:Nat):NS:={ s with ts:=zZ s.ts th (some (zEa s.ky.length s.c)),ev:=s.ev++[⟨1,s.ky.length,0,0⟩],ky:=s.ky++[s.c+1],wy:=s.wy++[0] }
def zA9 (a:Att) (hl:Nat) (x:Ak):Int:=
 if x.k=0∨7<x.k then 2
 else if (x.k=1∨x.k=2)/\(x.t<0∨(hl:Int)<=x.t) then 2
 else if x.k=2/\zAq x.v=false then 3
 else if a.fs.length=1/\(x.k=4∨x.k=5) then 8
 else if 1<a.fs.length/\x.k=6 then 8
 else if 5<=a.fs.length/\x.k=3 then 4
 else 0
def zCl (s:NS) (th:Nat) (x:Ak):Int:=match s.ts th with
 |none=> 8
 |some a=> if a.asked then 7 else zA9 a s.hp.length x
def qU (s:NS) (th:Nat) (x:Ak):NS:=match s.ts th with
 |none=> s
 |some a=> { s with ts:=zZ s.ts th (some { a with asked:=true,ra:=x,at_:=0,nx:=0 }) }
def qY (s:NS) (th:Nat) (a:Att) (why:Int):NS:=
 { o:=if s.o=some (th:Int) then none else s.o,c:=if s.o=some (th:Int) then s.c - 1 else s.c,hp:=s.hp,ts:=zZ s.ts th none,ev:=s.ev++[⟨9,a.n,0,0⟩],ky:=s.ky,wy:=s.wy.set a.n why }
def zAj (s:NS) (th:Nat) (a:Att):NS:={ s with ts:=zZ s.ts th none,ev:=s.ev++[⟨8,a.n,0,0⟩] }
def zCj (s:NS) (th:Nat) (a:Att):NS:={ s with ts:=zZ s.ts th (some a) }
def zB5 (s:NS) (th:Nat) (a:Att) (v:Int):NS:={ s with ts:=zZ s.ts th (some { a with asked:=false }),ev:=s.ev++[⟨2,a.n,a.ra.t,v⟩] }
def zB0 (s:NS) (th:Nat) (a:Att):Rp × NS:=
 if a.at_=4 then match s.o with
  |some o=> (qO o,s)
  |none=> (qJ,zCj s th { a with seen:=s.c,at_:=5,nx:=0 })
 else if a.at_=5 then match a.es[a.nx]? with
  |none=> (qJ,zCj s th { a with at_:=6 })
  |some e=> if zDl ((s.hp[e.t.toNat]?).getD 0) e.v then (qJ,zCj s th { a with nx:=a.nx+1 }) else (qP 1,qY s th a 1)
 else if s.c=a.seen then (qJ,{ s with ts:=zZ s.ts th (some { a with snap:=a.seen,at_:=a.back }),ky:=s.ky.set a.n (a.seen+1) })
 else (qJ,zCj s th { a with at_:=4 })
def zDm (s:NS) (th:Nat) (a:Att):Rp × NS:=
 match zAd a.fs a.ra.t with
 |some v=> (qK v,zB5 s th a v)
 |none=>
  if a.at_=0 then (qJ,zCj s th { a with val:=(s.hp[a.ra.t.toNat]?).getD 0,at_:=1 })
  else if s.c=a.snap then (if zA2 a.es ⟨a.ra.t,a.val,0⟩=0 then (qK a.val,zB5 s th { a with es:=zBs a.es ⟨a.ra.t,a.val,0⟩ } a.val) else (qP 2,qY s th a 2))
  else (qJ,zCj s th { a with at_:=4,back:=0 })
def zCt (s:NS) (th:Nat) (a:Att):Rp × NS:=
 if a.at_=0 then
  (if zAk a.fs=[] then (qP 0,zAj { s with ev:=s.ev++[⟨7,a.n,0,0⟩] } th a) else (qJ,{ s with ts:=zZ s.ts th (some { a with at_:=1 }),ev:=s.ev++[⟨7,a.n,0,0⟩] }))
 else if a.at_=1 then
  (if zBu s.o s.c th a.snap=0 then (qJ,{ s with o:=some (th:Int),c:=s.c+1,ts:=zZ s.ts th (some { a with dec:=true,at_:=2,nx:=0 }),ky:=s.ky.set a.n (a.snap+2) })
   else if zBu s.o s.c th a.snap=4 then (qP 2,qY s th a 2)
   else (qJ,zCj s th { a with at_:=4,back:=1 }))
 else if a.at_=2 then match (zAk a.fs)[a.nx]? with
  |some p=> (qJ,{ s with hp:=s.hp.set p.t.toNat p.v,ts:=zZ s.ts th (some { a with nx:=a.nx+1,at_:=if a.nx+1=(zAk a.fs).length then 3 else 2 }) })
  |none=> (qJ,s)
 else (qP 0,zAj { s with o:=none,c:=s.c+1 } th a)
def zCb (s:NS) (th:Nat) (a:Att):Rp × NS:=
 if a.ra.k=3 then (qK 0,{ s with ts:=zZ s.ts th (some { a with asked:=false,fs:=zOw a.fs }),ev:=s.ev++[⟨4,a.n,0,0⟩] })
 else if a.ra.k=4 then (qK 0,{ s with ts:=zZ s.ts th (some { a with asked:=false,fs:=zO6 a.fs }),ev:=s.ev++[⟨5,a.n,0,0⟩] })
 else if a.ra.k=5 then (qK 0,{ s with ts:=zZ s.ts th (some { a with asked:=false,fs:=zG7 a.fs }),ev:=s.ev++[⟨6,a.n,0,0⟩] })
 else if zId a.fs a.ra.t a.ra.v=0 then (qK 0,{ s with ts:=zZ s.ts th (some { a with asked:=false,fs:=zMt a.fs a.ra.t a.ra.v }),ev:=s.ev++[⟨3,a.n,a.ra.t,a.ra.v⟩] })
 else (qP 2,qY s th a 2)
def zAs (s:NS) (th:Nat):Rp × NS:=match s.ts th with
 |none=> (qQ 8,s)
 |some a=>
  if a.asked=false then (qQ 8,s)
  else if 4<=a.at_ then zB0 s th a
  else if a.ra.k=7 then (qP 4,qY s th a 4)
  else if a.ra.k=6 then zCt s th a
  else if a.ra.k=1 then zDm s th a
  else zCb s th a
def zKj (s:NS) (th:Nat):Int:=match s.ts th with
 |none=> 8
 |some a=> if a.dec then 8 else 0
def zGr (s:NS) (th:Nat):NS:=match s.ts th with
 |none=> s
 |some a=> if a.dec then s else qY s th a 3
structure Att.Ok (a:Att) (s:NS):Prop where
 n:a.n<s.wy.length
 snap:0<=a.snap/\a.snap<=s.c
 es:Good a.es
 est:∀e∈a.es,e.t<s.hp.length
 fs:zA6 a.fs
 fst:∀f∈a.fs,∀p∈f,0<=p.t/\p.t<s.hp.length/\0<=p.v/\p.v<18446744073709551616
 seen:0<=a.seen/\a.seen<=s.c
 val:0<=a.val/\a.val<18446744073709551616
 at_:a.at_<=6
 back:a.back<=1
 nx:a.nx<=100
 ask:a.asked=true->1<=a.ra.k/\a.ra.k<=7/\(a.ra.k=1∨a.ra.k=2->0<=a.ra.t/\a.ra.t<s.hp.length)/\0<=a.ra.v/\a.ra.v<18446744073709551616
 wr:a.asked=true->a.at_=2->a.nx<(zAk a.fs).length
 kr:a.asked=true->a.at_<4->a.ra.k=1->a.at_<=1
 ko:a.asked=true->a.ra.k≠1->a.ra.k≠6->a.at_=0
 kb:a.asked=true->4<=a.at_->(a.ra.k=1/\a.back=0)∨(a.ra.k=6/\a.back=1)
 la:a.at_=5->a.nx<=a.es.length
 ww:a.asked=true->(a.ra.k=3->a.fs.length<5)/\(a.ra.k=4∨a.ra.k=5->1<a.fs.length)
 ne:a.asked=true->a.ra.k=6->a.at_≠0->zAk a.fs≠[]
def qKr (o:Option Int) (th:Nat) (a:Att):Prop:=
 (a.dec=true->o=some (th:Int)/\a.asked=true/\a.ra.k=6/\(a.at_=2∨a.at_=3))/\(a.asked=true->a.ra.k=6->(a.at_=2∨a.at_=3)->a.dec=true)
structure NS.Ok (s:NS):Prop where
 hp:1<=s.hp.length/\s.hp.length<=12
 hv:∀v∈s.hp,0<=v/\v<18446744073709551616
 c:0<=s.c/\s.c<=1099511627776
 held':∀x,s.o=some x->1<=s.c/\s.c<=1099511627775
 ky:s.ky.length<=64
 kw:s.wy.length=s.ky.length
 ts:∀th a,s.ts th=some a->a.Ok s
 own:∀x,s.o=some x->∃(th:Nat) (a:Att),x=(th:Int)/\s.ts th=some a/\a.dec=true
 dec:∀th a,s.ts th=some a->qKr s.o th a
 th4:∀th,4<=th->s.ts th=none
theorem NS.Ok.held {s:NS} (h:s.Ok):∀x,s.o=some x->1<=s.c:=fun x hx=> (h.held' x hx).1
end YtnemoimbeefngaaGreat
end Go.Proofs
namespace Go.Proofs
namespace YtnemoimbeefngaaGreat
open Go.Abs
def isI (t:Int) (p:Value × Value):Bool:=match p.1 with
 |.int .i64 n=> decide (n=t)
 |_=> false
def zPi (ps:List (Value × Value)):Prop:=(∀p∈ps,∃n:Int,p.1=.int .i64 n)/\(ps.map (·.1)).Nodup
theorem zN2 {ps:List (Value × Value)} {es:List MapEntry} {c:Nat} (h:zA3 ps es c) (hk:zPi ps) (t:Int):zB7 false (.int .i64 t) es=some ((ps.find? (isI t)).map (·.2)):=by
 have key:∀es':List MapEntry,(∀e∈es',∃n:Int,e.key=.int .i64 n)->zB7 false (.int .i64 t) es'=some ((es'.find? fun e=> isI t (e.key,e.val)).map (·.val)):=by
  intro es'
  induction es' with
  |nil=> intro _;rfl
  |cons e es' ih=>
   intro hm
   obtain⟨n,hn⟩:=hm e (by simp)
   rw[zB7,hn,zIa,List.find?_cons]
   simp only[Bool.false_eq_true,if_false,if_true,isI,hn]
   by_cases ht:t=n
   ·simp[ht]
   ·have h1:(t==n)=false:=by simpa using ht
    have h2:decide (n=t)=false:=by simpa using fun e=> ht e.symm
    rw[h1,h2]
    have:=ih fun e he=> hm e (by simp[he])
    simpa [isI] using this
 have hes:∀e∈es,∃n:Int,e.key=.int .i64 n:=fun e he=> hk.1 (e.key,e.val) (h.1.mem_iff.1 (List.mem_map.2 ⟨e,he,rfl⟩))
 rw[key es hes]
 congr 1
 have hfp:(es.find? fun e=> isI t (e.key,e.val)).map (·.val)=((zB4 es).find? (isI t)).map (·.2):=by
  unfold zB4
  rw[List.find?_map]
  cases hx:es.find? (isI t∘fun e=> (e.key,e.val)) with
  |none=>
   have:es.find? (fun e=> isI t (e.key,e.val))=none:=hx
   rw[this];rfl
  |some e=>
   have:es.find? (fun e=> isI t (e.key,e.val))=some e:=hx
   rw[this];rfl
 rw[hfp]
 have hu:∀a b:List (Value × Value),a.Perm b->(∀p∈a,∃n:Int,p.1=.int .i64 n)->(a.map (·.1)).Nodup->(a.find? (isI t)).map (·.2)=(b.find? (isI t)).map (·.2):=by
  intro a b hp
  induction hp with
  |nil=> intros;rfl
  |cons x _ ih=>
   intro h1 h2
   simp only[List.map_cons,List.nodup_cons] at h2
   rw[List.find?_cons,List.find?_cons]
   cases isI t x
   ·exact ih (fun p hp=> h1 p (by simp[hp])) h2.2
   ·rfl
  |swap x y l=>
   intro h1 h2
   simp only[List.map_cons,List.nodup_cons,List.mem_cons,not_or] at h2
   rw[List.find?_cons,List.find?_cons,List.find?_cons,List.find?_cons]
   cases hx:isI t x<;> cases hy:isI t y
   ·rfl
   ·rfl
   ·rfl
   ·exfalso
    obtain⟨n,hn⟩:=h1 x (by simp)
    obtain⟨m,hm⟩:=h1 y (by simp)
    simp only[isI,hn,hm,decide_eq_true_eq] at hx hy
    exact h2.1.1 (by rw[hn,hm,hx,hy])
  |trans p1 _ ih1 ih2=>
   intro h1 h2
   exact (ih1 h1 h2).trans (ih2 (fun p hp=> h1 p (p1.mem_iff.2 hp)) ((p1.map _).nodup_iff.1 h2))
 exact hu _ _ h.1 (fun p hp=> hk.1 p (h.1.mem_iff.1 hp)) ((h.1.map _).nodup_iff.2 hk.2)
theorem qPs {es:List MapEntry} {c:Nat} {ps:List (Value × Value)} (h:zA3 ps es c) (hk:zPi ps) (t:Int):∃es',zHn false (.int .i64 t) es=some es'/\zA3 (ps.filter fun p=> !isI t p) es' c:=by
 have key:∀es':List MapEntry,(∀e∈es',∃n:Int,e.key=.int .i64 n)->((zB4 es').map (·.1)).Nodup->∃es2,zHn false (.int .i64 t) es'=some es2/\zB4 es2=(zB4 es').filter (fun p=> !isI t p)/\(es2.map (·.born)).Sublist (es'.map (·.born)):=by
  intro es'
  induction es' with
  |nil=> intro _ _;exact⟨[],rfl,rfl,.slnil⟩
  |cons e es' ih=>
   intro hm hn
   obtain⟨n,hk⟩:=hm e (by simp)
   simp only[zB4,List.map_cons,List.nodup_cons] at hn
   obtain⟨es2,a1,a2,a3⟩:=ih (fun e he=> hm e (by simp[he])) hn.2
   rw[zHn,hk,zIa]
   simp only[Bool.false_eq_true,if_false,if_true]
   have hi:isI t (e.key,e.val)=decide (n=t):=by simp[isI,hk]
   by_cases ht:t=n
   ·refine⟨es',by simp[ht],?_,?_⟩
    ·have h1:isI t (e.key,e.val)=true:=by rw[hi];simp[ht]
     have h2:(zB4 es').filter (fun p=> !isI t p)=zB4 es':=by
      rw[List.filter_eq_self]
      intro p hp
      cases hx:isI t p
      ·rfl
      ·exfalso
       obtain⟨e',he',rfl⟩:=List.mem_map.1 hp
       obtain⟨m,hm2⟩:=hm e' (by simp[he'])
       simp only[isI,hm2,decide_eq_true_eq] at hx
       refine hn.1 (List.mem_map.2 ⟨(e'.key,e'.val),hp,?_⟩)
       rw[hm2,hk,hx,ht]
     show zB4 es'=((e.key,e.val)::zB4 es').filter _
     rw[List.filter_cons,h1]
     simp[h2]
    ·exact List.sublist_cons_self _ _
   ·have h1:(t==n)=false:=by simpa using ht
    refine⟨e::es2,by rw[h1,a1];rfl,?_,?_⟩
    ·have h2:isI t (e.key,e.val)=false:=by rw[hi];simpa using fun e=> ht e.symm
     show (e.key,e.val)::zB4 es2=((e.key,e.val)::zB4 es').filter _
     rw[List.filter_cons,h2,a2];rfl
    ·exact a3.cons_cons _
 obtain⟨es',a1,a2,a3⟩:=key es (fun e he=> hk.1 (e.key,e.val) (h.1.mem_iff.1 (List.mem_map.2 ⟨e,he,rfl⟩))) ((h.1.map _).nodup_iff.2 hk.2)
 refine⟨es',a1,by rw[a2];exact h.1.filter _,a3.nodup h.2.1,fun e he=> ?_⟩
 have:e.born∈es.map (·.born):=a3.subset (List.mem_map.2 ⟨e,he,rfl⟩)
 obtain⟨x,hx,hxb⟩:=List.mem_map.1 this
 rw[←hxb];exact h.2.2 x hx
theorem qAe {ps qs:List (Value × Value)} {es:List MapEntry} {c:Nat} (h:zA3 ps es c) (hp:ps.Perm qs):zA3 qs es c:=⟨h.1.trans hp,h.2⟩
theorem qEy (k0 k1 k2 k3:Nat) (ts:Nat->Option Att):zPi (tpK k0 k1 k2 k3 ts):=by
 unfold zPi tpK
 cases ts 0<;> cases ts 1<;> cases ts 2<;> cases ts 3<;> simp[tp1]
def jO (k:Nat) (x:Option Att):Option Value:=x.map fun _=> .pointer (some ⟨k,0,none⟩)
theorem zSw (k0 k1 k2 k3:Nat) (ts:Nat->Option Att):((tpK k0 k1 k2 k3 ts).find? (isI 0)).map (·.2)=jO k0 (ts 0):=by
 unfold tpK
 cases ts 0<;> cases ts 1<;> cases ts 2<;> cases ts 3<;> simp[tp1,isI,jO]
theorem zSv (k0 k1 k2 k3:Nat) (ts:Nat->Option Att):((tpK k0 k1 k2 k3 ts).find? (isI 1)).map (·.2)=jO k1 (ts 1):=by
 unfold tpK
 cases ts 0<;> cases ts 1<;> cases ts 2<;> cases ts 3<;> simp[tp1,isI,jO]
theorem zSu (k0 k1 k2 k3:Nat) (ts:Nat->Option Att):((tpK k0 k1 k2 k3 ts).find? (isI 2)).map (·.2)=jO k2 (ts 2):=by
 unfold tpK
 cases ts 0<;> cases ts 1<;> cases ts 2<;> cases ts 3<;> simp[tp1,isI,jO]
theorem zSt (k0 k1 k2 k3:Nat) (ts:Nat->Option Att):((tpK k0 k1 k2 k3 ts).find? (isI 3)).map (·.2)=jO k3 (ts 3):=by
 unfold tpK
 cases ts 0<;> cases ts 1<;> cases ts 2<;> cases ts 3<;> simp[tp1,isI,jO]
theorem qRr (θ:Nat->Nat) (k0 k1 k2 k3:Nat) (ts:Nat->Option Att):zJm θ (tpK k0 k1 k2 k3 ts)=tpK (θ k0) (θ k1) (θ k2) (θ k3) ts:=by
 unfold tpK
 cases ts 0<;> cases ts 1<;> cases ts 2<;> cases ts 3<;> simp[tp1,zJm,ren]
theorem qK1 (k0 k1 k2 k3:Nat) (ts:Nat->Option Att) (th:Nat) {a b:Att} (h:ts th=some a):tpK k0 k1 k2 k3 (zZ ts th (some b))=tpK k0 k1 k2 k3 ts:=by
 have e:∀i:Nat,∀j:Int,∀k:Nat,tp1 j k (zZ ts th (some b) i)=tp1 j k (ts i):=fun i j k=> by
  by_cases hi:i=th
  ·subst hi;rw[zEj,h];rfl
  ·rw[zDk _ _ hi]
 unfold tpK
 rw[e,e,e,e]
theorem qK2 (k0 k1 k2 k3:Nat) (ts:Nat->Option Att) {th:Nat} (hth:th<4):(tpK k0 k1 k2 k3 ts).filter (fun p=> !isI (th:Int) p)=tpK k0 k1 k2 k3 (zZ ts th none):=by
 have h:th=0∨th=1∨th=2∨th=3:=by omega
 unfold tpK
 rcases h with rfl|rfl|rfl|rfl<;> simp only[zZ]<;> cases ts 0<;> cases ts 1<;> cases ts 2<;> cases ts 3<;> simp[tp1,isI]
theorem qE2 (k k0 k1 k2 k3:Nat) (ts:Nat->Option Att) (h:ts 0=none) (a:Att):(tpK k0 k1 k2 k3 ts++[((.int .i64 0:Value),(.pointer (some ⟨k,0,none⟩):Value))]).Perm (tpK k k1 k2 k3 (zZ ts 0 (some a))):=by
 have e:tpK k k1 k2 k3 (zZ ts 0 (some a))=[((.int .i64 0:Value),(.pointer (some ⟨k,0,none⟩):Value))]++tpK k0 k1 k2 k3 ts:=by simp[tpK,zZ,tp1,h]
 rw[e];exact List.perm_append_comm
theorem qE1 (k k0 k1 k2 k3:Nat) (ts:Nat->Option Att) (h:ts 1=none) (a:Att):(tpK k0 k1 k2 k3 ts++[((.int .i64 1:Value),(.pointer (some ⟨k,0,none⟩):Value))]).Perm (tpK k0 k k2 k3 (zZ ts 1 (some a))):=by
 have e1:tpK k0 k1 k2 k3 ts=tp1 0 k0 (ts 0)++(tp1 2 k2 (ts 2)++tp1 3 k3 (ts 3)):=by simp[tpK,tp1,h]
 have e2:tpK k0 k k2 k3 (zZ ts 1 (some a))=tp1 0 k0 (ts 0)++([((.int .i64 1:Value),(.pointer (some ⟨k,0,none⟩):Value))]++(tp1 2 k2 (ts 2)++tp1 3 k3 (ts 3))):=by simp[tpK,zZ,tp1]
 rw[e1,e2,List.append_assoc]
 exact List.Perm.append_left _ List.perm_append_comm
theorem qE0 (k k0 k1 k2 k3:Nat) (ts:Nat->Option Att) (h:ts 2=none) (a:Att):(tpK k0 k1 k2 k3 ts++[((.int .i64 2:Value),(.pointer (some ⟨k,0,none⟩):Value))]).Perm (tpK k0 k1 k k3 (zZ ts 2 (some a))):=by
 have e1:tpK k0 k1 k2 k3 ts=(tp1 0 k0 (ts 0)++tp1 1 k1 (ts 1))++tp1 3 k3 (ts 3):=by simp[tpK,tp1,h]
 have e2:tpK k0 k1 k k3 (zZ ts 2 (some a))=(tp1 0 k0 (ts 0)++tp1 1 k1 (ts 1))++([((.int .i64 2:Value),(.pointer (some ⟨k,0,none⟩):Value))]++tp1 3 k3 (ts 3)):=by simp[tpK,zZ,tp1]
 rw[e1,e2,List.append_assoc]
 exact List.Perm.append_left _ List.perm_append_comm
theorem qEz (k k0 k1 k2 k3:Nat) (ts:Nat->Option Att) (h:ts 3=none) (a:Att):(tpK k0 k1 k2 k3 ts++[((.int .i64 3:Value),(.pointer (some ⟨k,0,none⟩):Value))]).Perm (tpK k0 k1 k2 k (zZ ts 3 (some a))):=by
 have e:tpK k0 k1 k2 k (zZ ts 3 (some a))=tpK k0 k1 k2 k3 ts++[((.int .i64 3:Value),(.pointer (some ⟨k,0,none⟩):Value))]:=by simp[tpK,zZ,tp1,h]
 rw[e]
theorem zD (a:Att):zBo (some a)=.hi (.att a):=rfl
theorem qE:zBo none=.arr 100 []:=rfl
theorem qB9 (θ:Nat->Nat) (x:Option Att):(zBo x).ren θ=zBo x:=by cases x<;> simp[zBo,zOt,zMs,zAu]
theorem zY6 (x:Option Att):(zBo x).mine=true:=by cases x<;> rfl
theorem qDe (x:Option Att):leO (zBo x) (zBo x)=True:=eq_true (zNw _)
theorem zXv (l:List Int):xI (u8s l)=true:=by
 induction l with
 |nil=> rfl
 |cons e l ih=>
  show xI (.int .u8 e::u8s l)=true
  simp[xI,xY,ih]
theorem qN9 (θ:Nat->Nat) (l:List Int):zAu θ (u8s l)=u8s l:=zAy θ _ (zXv l)
theorem zCq (l:List Int):(u8s l).length=l.length:=by simp[u8s]
theorem zH3 (a b:List Int):u8s (a++b)=u8s a++u8s b:=by simp[u8s]
theorem qN (h:List Int) (i:Nat) (v:Int):(u8s h).set i (.int .u8 v)=u8s (h.set i v):=by simp[u8s,List.map_set]
theorem qFf (l:List Int):(u8s l).take l.length=u8s l:=List.take_of_length_le (by simp[u8s])
theorem zMc (v:Int):u8s [v]=[.int .u8 v]:=rfl
theorem qHw (e:TypeId) (cs:List Value):(AObj.arr e cs:AObj GD).mine=true:=rfl
theorem qOw (d:GD):(AObj.hi d).mine=true:=rfl
theorem qHv (es:List MapEntry) (c:Nat):(AObj.map es c:AObj GD).mine=true:=rfl
theorem qCz (ps:List (Value × Value)):(AObj.mapq ps:AObj GD).mine=true:=rfl
attribute [simp] qHw qOw qHv qCz qB9 zY6 qDe zPy qN9 qRr
def o1 (th:Nat):Nat:=if th=0 then 1 else 0
def o2 (th:Nat):Nat:=if th<=1 then 2 else 1
def o3 (th:Nat):Nat:=if th<=2 then 3 else 2
def tpF (th:Nat) (ts:Nat->Option Att):List (Value × Value):=match th with
 |0=> tpK 7 8 9 10 ts
 |1=> tpK 8 7 9 10 ts
 |2=> tpK 8 9 7 10 ts
 |_=> tpK 8 9 10 7 ts
def jA (s:NS) (th:Nat) (es:List MapEntry) (cc:Nat):List (Option (AObj GD)):=
 [some (.arr 90 [.pointer (some ⟨1,0,none⟩),.slice (some ⟨2,0,none⟩) s.hp.length 1,.map (some 3),.slice (some ⟨4,0,none⟩) s.ev.length 1,.slice (some ⟨5,0,none⟩) s.ky.length 1,.slice (some ⟨6,0,none⟩) s.wy.length 1]),
  some (.hi (.lk s.o s.c)),some (.arr 49 (us s.hp)),some (.map es cc),some (.arr 84 (evs s.ev)),some (.arr 38 (us s.ky)),some (.arr 61 (u8s s.wy)),some (zBo (s.ts th)),some (zBo (s.ts (o1 th))),some (zBo (s.ts (o2 th))),some (zBo (s.ts (o3 th)))]
theorem qH {th:Nat} (h:th<4):th=0∨th=1∨th=2∨th=3:=by omega
theorem zP.openEng {f:FuncId} {args:List Value} {K:AEnd->AH GD->Prop} {s:NS} {th:Nat} (hth:th<4)
  (h:∀es cc,zA3 (tpF th s.ts) es cc->zP Tryz.prog cfg f args (AH.of (jA s th es cc)) K):zP Tryz.prog cfg f args (AH.of [some (.hi (.eng s))]) K:=by
 have e:zFt frag (AH.of [some (.hi (.eng s))]) 0=some (AH.of [some (.arr 90 [.pointer (some ⟨1,0,none⟩),.slice (some ⟨2,0,none⟩) s.hp.length 1,.map (some 3),.slice (some ⟨4,0,none⟩) s.ev.length 1,.slice (some ⟨5,0,none⟩) s.ky.length 1,.slice (some ⟨6,0,none⟩) s.wy.length 1]),
  some (.hi (.lk s.o s.c)),some (.arr 49 (us s.hp)),some (.mapq (tpK 7 8 9 10 s.ts)),some (.arr 84 (evs s.ev)),some (.arr 38 (us s.ky)),some (.arr 61 (u8s s.wy)),some (zBo (s.ts 0)),some (zBo (s.ts 1)),some (zBo (s.ts 2)),some (zBo (s.ts 3))]):=by
  simp[zJ]
 have see:xV Tryz.prog cfg (AH.of [some (.hi (.eng s))]) (AH.of ([some (.arr 90 [.pointer (some ⟨1,0,none⟩),.slice (some ⟨2,0,none⟩) s.hp.length 1,.map (some 3),.slice (some ⟨4,0,none⟩) s.ev.length 1,.slice (some ⟨5,0,none⟩) s.ky.length 1,.slice (some ⟨6,0,none⟩) s.wy.length 1]),
  some (.hi (.lk s.o s.c)),some (.arr 49 (us s.hp)),some (.mapq (tpF th s.ts)),some (.arr 84 (evs s.ev)),some (.arr 38 (us s.ky)),some (.arr 61 (u8s s.wy)),some (zBo (s.ts th)),some (zBo (s.ts (o1 th))),some (zBo (s.ts (o2 th))),some (zBo (s.ts (o3 th)))])):=by
  rcases qH hth with rfl|rfl|rfl|rfl
  ·exact (zDb e).names (ks:=[0,1,2,3,4,5,6,7,8,9,10]) (by simp[tpF,o1,o2,o3])
  ·exact (zDb e).names (ks:=[0,1,2,3,4,5,6,8,7,9,10]) (by simp[tpF,o1,o2,o3])
  ·exact (zDb e).names (ks:=[0,1,2,3,4,5,6,9,7,8,10]) (by simp[tpF,o1,o2,o3])
  ·exact (zDb e).names (ks:=[0,1,2,3,4,5,6,10,7,8,9]) (by simp[tpF,o1,o2,o3])
 refine zP.seesG see (zP.expose 3 (ps:=tpF th s.ts) rfl fun es cc hes=> ?_)
 have:=h es cc hes
 rw[zOy _ _ _ (by simp)]
 exact this
theorem zJ1 (th:Nat) (ts:Nat->Option Att):zPi (tpF th ts):=by
 unfold tpF
 split<;> exact qEy _ _ _ _ _
theorem jE {s:NS} {th:Nat} (hth:th<4) {es:List MapEntry} {cc:Nat} (h:zA3 (tpF th s.ts) es cc):zB7 false (.int .i64 th) es=some (jO 7 (s.ts th)):=by
 rw[zN2 h (zJ1 _ _)]
 rcases qH hth with rfl|rfl|rfl|rfl
 ·exact congrArg some (zSw _ _ _ _ _)
 ·exact congrArg some (zSv _ _ _ _ _)
 ·exact congrArg some (zSu _ _ _ _ _)
 ·exact congrArg some (zSt _ _ _ _ _)
theorem zAr (th:Nat) (ts:Nat->Option Att) {a b:Att} (h:ts th=some a):tpF th (zZ ts th (some b))=tpF th ts:=by
 unfold tpF
 split<;> exact qK1 _ _ _ _ _ _ h
theorem zE3 {s:NS} {th:Nat} (hth:th<4) {es:List MapEntry} {cc:Nat} (h:zA3 (tpF th s.ts) es cc):∃es',zHn false (.int .i64 th) es=some es'/\zA3 (tpF th (zZ s.ts th none)) es' cc:=by
 obtain⟨es',h1,h2⟩:=qPs h (zJ1 _ _) th
 refine⟨es',h1,?_⟩
 have e:(tpF th s.ts).filter (fun p=> !isI (th:Int) p)=tpF th (zZ s.ts th none):=by
  unfold tpF
  split<;> exact qK2 _ _ _ _ _ hth
 rwa [e] at h2
def tpG (th k:Nat) (ts:Nat->Option Att):List (Value × Value):=match th with
 |0=> tpK k 8 9 10 ts
 |1=> tpK 8 k 9 10 ts
 |2=> tpK 8 9 k 10 ts
 |_=> tpK 8 9 10 k ts
theorem qRu {s:NS} {th:Nat} (hth:th<4) {es:List MapEntry} {cc:Nat} (h:zA3 (tpF th s.ts) es cc) (hn:s.ts th=none) (k:Nat) (a:Att):
  zGn false (.int .i64 th) (.pointer (some ⟨k,0,none⟩)) cc es=some (es++[⟨.int .i64 th,.pointer (some ⟨k,0,none⟩),cc⟩],cc+1)/\zA3 (tpG th k (zZ s.ts th (some a))) (es++[⟨.int .i64 th,.pointer (some ⟨k,0,none⟩),cc⟩]) (cc+1):=by
 refine⟨zP0 (by rw[jE hth h,hn];rfl),qAe (h.add _ _) ?_⟩
 rcases qH hth with rfl|rfl|rfl|rfl
 ·exact qE2 k 7 8 9 10 s.ts hn a
 ·exact qE1 k 8 7 9 10 s.ts hn a
 ·exact qE0 k 8 9 7 10 s.ts hn a
 ·exact qEz k 8 9 10 7 s.ts hn a
end YtnemoimbeefngaaGreat
end Go.Proofs
namespace Go.Proofs
namespace YtnemoimbeefngaaGreat
open Go.Abs
def tblB:List (FuncId × qW GD):=[(80,qC d80),(81,st81),(82,st82)]
theorem qK8:∀x∈tblB,qI Tryz.prog cfg x.1 x.2:=by simp[tblB,zPq,qLn,qLm]
theorem zU7 {s:NS} {th:Nat} (h:zC8 s th=0):s.ts th=none/\s.ky.length<64/\s.o=none:=by
 unfold zC8 at h
 split at h
 ·cases h
 ·split at h
  ·cases h
  ·split at h
   ·cases h
   ·refine⟨?_,by omega,?_⟩
    ·cases hx:s.ts th
     ·rfl
     ·simp_all
    ·cases hx:s.o
     ·rfl
     ·simp_all
theorem zX9 (s:NS) (hs:s.Ok) (hev:s.ev.length<=100000) (th:Nat) (hth:th<4) (hc:zC8 s th=0):zP Tryz.prog cfg 24 [.pointer (some ⟨0,0,none⟩),.int .i64 th] (AH.of [some (.hi (.eng s))])
  fun r H'=> r=.ret (.tuple #[.int .i64 s.ky.length,.int .i64 0])/\H'=AH.of [some (.hi (.eng (zCa s th)))]:=by
 refine zP.ends ?_
 obtain⟨h1,h2,h3⟩:=zU7 hc
 refine zP.openEng hth fun es cc hes=> ?_
 have ft:=jE hth hes
 have z1:¬(th:Int)<0:=by omega
 have z2:¬4<=(th:Int):=by omega
 obtain⟨hput,hadd⟩:=qRu hth hes h1 13 (zEa s.ky.length s.c)
 have hcr:=hs.c
 have hw:IntKind.u64.wrap (s.c+1)=s.c+1:=zBn (by omega) (by omega)
 have hk1:¬(64:Int)<=s.ky.length:=by omega
 have hkl:(s.ky.length+1)*8<=140737488355328/\s.ky.length<=9223372036854775806:=by omega
 have hwl:(s.wy.length+1)<=140737488355328/\s.wy.length<=9223372036854775806:=by have:=hs.kw;omega
 have hel:(s.ev.length+1)*32<=140737488355328/\s.ev.length<=9223372036854775806:=by omega
 have t1:=zJr s.ky
 have t2:=qFf s.wy
 have t3:=jB s.ev
 have hpe:=hs.kw
 refine zX (tbl:=tblB) qK8 0 3 (af:=a24) rfl ?_
 rw[a24,b24,qB]
 refine⟨by simp,?_⟩
 simp -implicitDefEqProofs [jA,tblB,qC,d80,st81,st82,forms79,a79,b79,forms83,a83,b83,z1,z2,h1,h2,h3,ft,jO,zDw,hk1,hw,hkl,hwl,hel,t1,t2,t3,hput,zC5,zCq,qT]
 rcases qH hth with rfl|rfl|rfl|rfl
 ·refine zA [.pack (GD.att (zEa s.ky.length s.c)) 13 [11,12],.pack (GD.eng (zCa s 0)) 0 [1,2,3,20,15,17,13,8,9,10]] [0] ?_ ?_ ?_<;> simp[zH,zJ,zEa,Att.ask,zCa,zZ,zD,zJa,zOa,zH3,zMc,zW,zY,h3,hpe,o1,o2,o3]<;> exact hadd
 ·refine zA [.pack (GD.att (zEa s.ky.length s.c)) 13 [11,12],.pack (GD.eng (zCa s 1)) 0 [1,2,3,20,15,17,8,13,9,10]] [0] ?_ ?_ ?_<;> simp[zH,zJ,zEa,Att.ask,zCa,zZ,zD,zJa,zOa,zH3,zMc,zW,zY,h3,hpe,o1,o2,o3]<;> exact hadd
 ·refine zA [.pack (GD.att (zEa s.ky.length s.c)) 13 [11,12],.pack (GD.eng (zCa s 2)) 0 [1,2,3,20,15,17,8,9,13,10]] [0] ?_ ?_ ?_<;> simp[zH,zJ,zEa,Att.ask,zCa,zZ,zD,zJa,zOa,zH3,zMc,zW,zY,h3,hpe,o1,o2,o3]<;> exact hadd
 ·refine zA [.pack (GD.att (zEa s.ky.length s.c)) 13 [11,12],.pack (GD.eng (zCa s 3)) 0 [1,2,3,20,15,17,8,9,10,13]] [0] ?_ ?_ ?_<;> simp[zH,zJ,zEa,Att.ask,zCa,zZ,zD,zJa,zOa,zH3,zMc,zW,zY,h3,hpe,o1,o2,o3]<;> exact hadd
def zMl:List (FuncId × qW GD):=[(80,qC d80)]
theorem zNj:∀x∈zMl,qI Tryz.prog cfg x.1 x.2:=by simp[zMl,zPq]
theorem zRk (s:NS) (hs:s.Ok) (th:Nat) (hth:th<4) (hc:zC8 s th≠0):zP Tryz.prog cfg 24 [.pointer (some ⟨0,0,none⟩),.int .i64 th] (AH.of [some (.hi (.eng s))])
  fun r H'=> r=.ret (.tuple #[.int .i64 0,.int .i64 (zC8 s th)])/\H'=AH.of [some (.hi (.eng s))]:=by
 refine zP.ends ?_
 refine zP.openEng hth fun es cc hes=> ?_
 have ft:=jE hth hes
 have z1:¬(th:Int)<0:=by omega
 have z2:¬4<=(th:Int):=by omega
 unfold zC8 at hc⊢
 cases h1:s.ts th with
 |some a=>
  refine zX (tbl:=zMl) zNj 0 3 (af:=a24) rfl ?_
  rw[a24,b24,qB]
  refine⟨by simp,?_⟩
  simp -implicitDefEqProofs [jA,forms79,a79,b79,z1,z2,h1,ft,jO]
  rcases qH hth with rfl|rfl|rfl|rfl
  ·refine zA [.pack (GD.eng s) 0 [1,2,3,4,5,6,7,8,9,10]] [0] ?_ ?_ ?_<;> simp[zJ,h1,o1,o2,o3]<;> exact hes
  ·refine zA [.pack (GD.eng s) 0 [1,2,3,4,5,6,8,7,9,10]] [0] ?_ ?_ ?_<;> simp[zJ,h1,o1,o2,o3]<;> exact hes
  ·refine zA [.pack (GD.eng s) 0 [1,2,3,4,5,6,8,9,7,10]] [0] ?_ ?_ ?_<;> simp[zJ,h1,o1,o2,o3]<;> exact hes
  ·refine zA [.pack (GD.eng s) 0 [1,2,3,4,5,6,8,9,10,7]] [0] ?_ ?_ ?_<;> simp[zJ,h1,o1,o2,o3]<;> exact hes
 |none=>
  by_cases h2:64<=s.ky.length
  ·have h2':(64:Int)<=s.ky.length:=by omega
   refine zX (tbl:=zMl) zNj 0 3 (af:=a24) rfl ?_
   rw[a24,b24,qB]
   refine⟨by simp,?_⟩
   simp -implicitDefEqProofs [jA,forms79,a79,b79,z1,z2,h1,ft,jO,h2,h2']
   rcases qH hth with rfl|rfl|rfl|rfl
   ·refine zA [.pack (GD.eng s) 0 [1,2,3,4,5,6,7,8,9,10]] [0] ?_ ?_ ?_<;> simp[zJ,h1,o1,o2,o3]<;> exact hes
   ·refine zA [.pack (GD.eng s) 0 [1,2,3,4,5,6,8,7,9,10]] [0] ?_ ?_ ?_<;> simp[zJ,h1,o1,o2,o3]<;> exact hes
   ·refine zA [.pack (GD.eng s) 0 [1,2,3,4,5,6,8,9,7,10]] [0] ?_ ?_ ?_<;> simp[zJ,h1,o1,o2,o3]<;> exact hes
   ·refine zA [.pack (GD.eng s) 0 [1,2,3,4,5,6,8,9,10,7]] [0] ?_ ?_ ?_<;> simp[zJ,h1,o1,o2,o3]<;> exact hes
  ·have h2':¬(64:Int)<=s.ky.length:=by omega
   cases h3:s.o with
   |none=> simp[h1,h2,h3] at hc
   |some x=>
    refine zX (tbl:=zMl) zNj 0 3 (af:=a24) rfl ?_
    rw[a24,b24,qB]
    refine⟨by simp,?_⟩
    simp -implicitDefEqProofs [jA,zMl,qC,d80,forms79,a79,b79,z1,z2,h1,ft,jO,h2,h2',h3,zDw]
    rcases qH hth with rfl|rfl|rfl|rfl
    ·refine zA [.pack (GD.eng s) 0 [1,2,3,4,5,6,7,8,9,10]] [0] ?_ ?_ ?_<;> simp[zJ,h1,h3,o1,o2,o3]<;> exact hes
    ·refine zA [.pack (GD.eng s) 0 [1,2,3,4,5,6,8,7,9,10]] [0] ?_ ?_ ?_<;> simp[zJ,h1,h3,o1,o2,o3]<;> exact hes
    ·refine zA [.pack (GD.eng s) 0 [1,2,3,4,5,6,8,9,7,10]] [0] ?_ ?_ ?_<;> simp[zJ,h1,h3,o1,o2,o3]<;> exact hes
    ·refine zA [.pack (GD.eng s) 0 [1,2,3,4,5,6,8,9,10,7]] [0] ?_ ?_ ?_<;> simp[zJ,h1,h3,o1,o2,o3]<;> exact hes
theorem zNo (d:GD) (t:Int) (ht:t<0∨4<=t):zP Tryz.prog cfg 24 [.pointer (some ⟨0,0,none⟩),.int .i64 t] (AH.of [some (.hi d)])
  fun r H'=> r=.ret (.tuple #[.int .i64 0,.int .i64 2])/\H'=AH.of [some (.hi d)]:=by
 refine zP.ends ?_
 have ht':¬t<0->4<=t:=fun h=> by omega
 refine zX (tbl:=[]) (by simp) 0 3 (af:=a24) rfl ?_
 rw[a24,b24,qB]
 refine⟨by simp,?_⟩
 by_cases h1:t<0
 ·simp -implicitDefEqProofs [forms79,a79,b79,h1]
  refine zA [] [0] ?_ ?_ ?_<;> simp
 ·simp -implicitDefEqProofs [forms79,a79,b79,h1,ht' h1]
  refine zA [] [0] ?_ ?_ ?_<;> simp
def zBv (t:Int):Option Nat:=if t<0∨4<=t then none else some t.toNat
theorem zDo {t:Int} (h:zBv t=none):t<0∨4<=t:=by
 unfold zBv at h
 split at h
 ·assumption
 ·cases h
theorem zA4 {t:Int} {th:Nat} (h:zBv t=some th):th<4/\t=(th:Int):=by
 unfold zBv at h
 split at h
 ·cases h
 ·cases h;omega
def zGy (s:NS) (t:Int):Value:=match zBv t with
 |none=> .tuple #[.int .i64 0,.int .i64 2]
 |some th=> if zC8 s th=0 then .tuple #[.int .i64 s.ky.length,.int .i64 0] else .tuple #[.int .i64 0,.int .i64 (zC8 s th)]
def zDt (s:NS) (t:Int):NS:=match zBv t with
 |none=> s
 |some th=> if zC8 s th=0 then zCa s th else s
def d24:zAl
 |.eng s,[.int .i64 t]=> some (s.Ok/\s.ev.length<=100000,zGy s t,.eng (zDt s t))
 |_,_=> none
theorem zWz:qI Tryz.prog cfg 24 (qC d24):=xJ fun d rest p v d' h hp=> by
 unfold d24 at h
 split at h
 case h_2=> cases h
 rename_i s t
 cases h
 cases ht:zBv t with
 |none=> simp only[zGy,zDt,ht];exact⟨rfl,rfl,zNo _ _ (zDo ht)⟩
 |some th=>
  obtain⟨h1,rfl⟩:=zA4 ht
  simp only[zGy,zDt,ht]
  by_cases hc:zC8 s th=0
  ·rw[if_pos hc,if_pos hc];exact⟨rfl,rfl,zX9 s hp.1 hp.2 th h1 hc⟩
  ·rw[if_neg hc,if_neg hc];exact⟨rfl,rfl,zRk s hp.1 th h1 hc⟩
end YtnemoimbeefngaaGreat
end Go.Proofs
namespace Go.Proofs
namespace YtnemoimbeefngaaGreat
open Go.Abs
def xX:List (FuncId × qW GD):=[(132,qC zCe),(96,zBd)]
theorem zAw:∀x∈xX,qI Tryz.prog cfg x.1 x.2:=by simp[xX,qGr,zMo]
theorem zAc (a:Att) (h:a.asked=false):a.ask=⟨0,0,0⟩:=by simp[Att.ask,h]
theorem xM (a:Att) (h:a.asked=true):a.ask=a.ra:=by simp[Att.ask,h]
theorem ask_0 (s:NS) (hs:s.Ok) (th:Nat) (hth:th<4) (a:Att) (ha:s.ts th=some a) (hf:a.asked=false) (t v:Int):zP Tryz.prog cfg 27 [.pointer (some ⟨0,0,none⟩),.int .i64 th,.agg #[.int .u8 0,.int .i64 t,.int .u64 v]] (AH.of [some (.hi (.eng s))])
  fun r H'=> r=.ret (.int .i64 2)/\H'=AH.of [some (.hi (.eng s))]:=by
 refine zP.ends ?_
 refine zP.openEng hth fun es cc hes=> ?_
 have ft:=jE hth hes
 have z1:¬(th:Int)<0:=by omega
 have z2:¬4<=(th:Int):=by omega
 have hac:=zAc a hf
 obtain⟨dp,hdp⟩:∃dp,(a.fs.length:Int) - 1=dp:=⟨_,rfl⟩
 refine zX (tbl:=xX) zAw 0 3 (af:=a27) rfl ?_
 rw[a27,b27,qB]
 refine⟨by simp,?_⟩
 simp -implicitDefEqProofs [jA,xX,qC,zCe,zBd,forms79,a79,b79,forms84,a84,b84,z1,z2,ha,ft,jO,zD,zH,hac,hdp,]
 rcases qH hth with rfl|rfl|rfl|rfl
 ·refine zA [.pack (GD.att a) 7 [12,13],.pack (GD.eng s) 0 [1,2,3,4,5,6,7,8,9,10]] [0] ?_ ?_ ?_<;> simp[zH,zJ,hac,ha,zD,hdp,o1,o2,o3]<;> exact hes
 ·refine zA [.pack (GD.att a) 7 [12,13],.pack (GD.eng s) 0 [1,2,3,4,5,6,8,7,9,10]] [0] ?_ ?_ ?_<;> simp[zH,zJ,hac,ha,zD,hdp,o1,o2,o3]<;> exact hes
 ·refine zA [.pack (GD.att a) 7 [12,13],.pack (GD.eng s) 0 [1,2,3,4,5,6,8,9,7,10]] [0] ?_ ?_ ?_<;> simp[zH,zJ,hac,ha,zD,hdp,o1,o2,o3]<;> exact hes
 ·refine zA [.pack (GD.att a) 7 [12,13],.pack (GD.eng s) 0 [1,2,3,4,5,6,8,9,10,7]] [0] ?_ ?_ ?_<;> simp[zH,zJ,hac,ha,zD,hdp,o1,o2,o3]<;> exact hes
theorem ask_9 (s:NS) (hs:s.Ok) (th:Nat) (hth:th<4) (a:Att) (ha:s.ts th=some a) (hf:a.asked=false) (k:Int) (hk:7<k) (t v:Int):zP Tryz.prog cfg 27 [.pointer (some ⟨0,0,none⟩),.int .i64 th,.agg #[.int .u8 k,.int .i64 t,.int .u64 v]] (AH.of [some (.hi (.eng s))])
  fun r H'=> r=.ret (.int .i64 2)/\H'=AH.of [some (.hi (.eng s))]:=by
 refine zP.ends ?_
 refine zP.openEng hth fun es cc hes=> ?_
 have ft:=jE hth hes
 have z1:¬(th:Int)<0:=by omega
 have z2:¬4<=(th:Int):=by omega
 have hac:=zAc a hf
 obtain⟨dp,hdp⟩:∃dp,(a.fs.length:Int) - 1=dp:=⟨_,rfl⟩
 have k0:¬k=0:=by omega
 have k1:¬k=1:=by omega
 have k2:¬k=2:=by omega
 have k7:7<k:=hk
 clear hk
 refine zX (tbl:=xX) zAw 0 3 (af:=a27) rfl ?_
 rw[a27,b27,qB]
 refine⟨by simp,?_⟩
 simp -implicitDefEqProofs [jA,xX,qC,zCe,zBd,forms79,a79,b79,forms84,a84,b84,z1,z2,ha,ft,jO,zD,zH,hac,hdp,k0,k1,k2,k7]
 rcases qH hth with rfl|rfl|rfl|rfl
 ·refine zA [.pack (GD.att a) 7 [12,13],.pack (GD.eng s) 0 [1,2,3,4,5,6,7,8,9,10]] [0] ?_ ?_ ?_<;> simp[zH,zJ,hac,ha,zD,hdp,o1,o2,o3]<;> exact hes
 ·refine zA [.pack (GD.att a) 7 [12,13],.pack (GD.eng s) 0 [1,2,3,4,5,6,8,7,9,10]] [0] ?_ ?_ ?_<;> simp[zH,zJ,hac,ha,zD,hdp,o1,o2,o3]<;> exact hes
 ·refine zA [.pack (GD.att a) 7 [12,13],.pack (GD.eng s) 0 [1,2,3,4,5,6,8,9,7,10]] [0] ?_ ?_ ?_<;> simp[zH,zJ,hac,ha,zD,hdp,o1,o2,o3]<;> exact hes
 ·refine zA [.pack (GD.att a) 7 [12,13],.pack (GD.eng s) 0 [1,2,3,4,5,6,8,9,10,7]] [0] ?_ ?_ ?_<;> simp[zH,zJ,hac,ha,zD,hdp,o1,o2,o3]<;> exact hes
theorem qTd (s:NS) (hs:s.Ok) (th:Nat) (hth:th<4) (a:Att) (ha:s.ts th=some a) (hf:a.asked=false) (t v:Int) (ht:t<0):zP Tryz.prog cfg 27 [.pointer (some ⟨0,0,none⟩),.int .i64 th,.agg #[.int .u8 1,.int .i64 t,.int .u64 v]] (AH.of [some (.hi (.eng s))])
  fun r H'=> r=.ret (.int .i64 2)/\H'=AH.of [some (.hi (.eng s))]:=by
 refine zP.ends ?_
 refine zP.openEng hth fun es cc hes=> ?_
 have ft:=jE hth hes
 have z1:¬(th:Int)<0:=by omega
 have z2:¬4<=(th:Int):=by omega
 have hac:=zAc a hf
 obtain⟨dp,hdp⟩:∃dp,(a.fs.length:Int) - 1=dp:=⟨_,rfl⟩
 have t1:t<0:=ht
 refine zX (tbl:=xX) zAw 0 3 (af:=a27) rfl ?_
 rw[a27,b27,qB]
 refine⟨by simp,?_⟩
 simp -implicitDefEqProofs [jA,xX,qC,zCe,zBd,forms79,a79,b79,forms84,a84,b84,z1,z2,ha,ft,jO,zD,zH,hac,hdp,t1]
 rcases qH hth with rfl|rfl|rfl|rfl
 ·refine zA [.pack (GD.att a) 7 [12,13],.pack (GD.eng s) 0 [1,2,3,4,5,6,7,8,9,10]] [0] ?_ ?_ ?_<;> simp[zH,zJ,hac,ha,zD,hdp,o1,o2,o3]<;> exact hes
 ·refine zA [.pack (GD.att a) 7 [12,13],.pack (GD.eng s) 0 [1,2,3,4,5,6,8,7,9,10]] [0] ?_ ?_ ?_<;> simp[zH,zJ,hac,ha,zD,hdp,o1,o2,o3]<;> exact hes
 ·refine zA [.pack (GD.att a) 7 [12,13],.pack (GD.eng s) 0 [1,2,3,4,5,6,8,9,7,10]] [0] ?_ ?_ ?_<;> simp[zH,zJ,hac,ha,zD,hdp,o1,o2,o3]<;> exact hes
 ·refine zA [.pack (GD.att a) 7 [12,13],.pack (GD.eng s) 0 [1,2,3,4,5,6,8,9,10,7]] [0] ?_ ?_ ?_<;> simp[zH,zJ,hac,ha,zD,hdp,o1,o2,o3]<;> exact hes
theorem qTf (s:NS) (hs:s.Ok) (th:Nat) (hth:th<4) (a:Att) (ha:s.ts th=some a) (hf:a.asked=false) (t v:Int) (ht:0<=t/\(s.hp.length:Int)<=t):zP Tryz.prog cfg 27 [.pointer (some ⟨0,0,none⟩),.int .i64 th,.agg #[.int .u8 1,.int .i64 t,.int .u64 v]] (AH.of [some (.hi (.eng s))])
  fun r H'=> r=.ret (.int .i64 2)/\H'=AH.of [some (.hi (.eng s))]:=by
 refine zP.ends ?_
 refine zP.openEng hth fun es cc hes=> ?_
 have ft:=jE hth hes
 have z1:¬(th:Int)<0:=by omega
 have z2:¬4<=(th:Int):=by omega
 have hac:=zAc a hf
 obtain⟨dp,hdp⟩:∃dp,(a.fs.length:Int) - 1=dp:=⟨_,rfl⟩
 have t1:¬t<0:=by omega
 have t2:(s.hp.length:Int)<=t:=ht.2
 refine zX (tbl:=xX) zAw 0 3 (af:=a27) rfl ?_
 rw[a27,b27,qB]
 refine⟨by simp,?_⟩
 simp -implicitDefEqProofs [jA,xX,qC,zCe,zBd,forms79,a79,b79,forms84,a84,b84,z1,z2,ha,ft,jO,zD,zH,hac,hdp,t1,t2]
 rcases qH hth with rfl|rfl|rfl|rfl
 ·refine zA [.pack (GD.att a) 7 [12,13],.pack (GD.eng s) 0 [1,2,3,4,5,6,7,8,9,10]] [0] ?_ ?_ ?_<;> simp[zH,zJ,hac,ha,zD,hdp,o1,o2,o3]<;> exact hes
 ·refine zA [.pack (GD.att a) 7 [12,13],.pack (GD.eng s) 0 [1,2,3,4,5,6,8,7,9,10]] [0] ?_ ?_ ?_<;> simp[zH,zJ,hac,ha,zD,hdp,o1,o2,o3]<;> exact hes
 ·refine zA [.pack (GD.att a) 7 [12,13],.pack (GD.eng s) 0 [1,2,3,4,5,6,8,9,7,10]] [0] ?_ ?_ ?_<;> simp[zH,zJ,hac,ha,zD,hdp,o1,o2,o3]<;> exact hes
 ·refine zA [.pack (GD.att a) 7 [12,13],.pack (GD.eng s) 0 [1,2,3,4,5,6,8,9,10,7]] [0] ?_ ?_ ?_<;> simp[zH,zJ,hac,ha,zD,hdp,o1,o2,o3]<;> exact hes
theorem qS8 (s:NS) (hs:s.Ok) (th:Nat) (hth:th<4) (a:Att) (ha:s.ts th=some a) (hf:a.asked=false) (t v:Int) (ht:t<0):zP Tryz.prog cfg 27 [.pointer (some ⟨0,0,none⟩),.int .i64 th,.agg #[.int .u8 2,.int .i64 t,.int .u64 v]] (AH.of [some (.hi (.eng s))])
  fun r H'=> r=.ret (.int .i64 2)/\H'=AH.of [some (.hi (.eng s))]:=by
 refine zP.ends ?_
 refine zP.openEng hth fun es cc hes=> ?_
 have ft:=jE hth hes
 have z1:¬(th:Int)<0:=by omega
 have z2:¬4<=(th:Int):=by omega
 have hac:=zAc a hf
 obtain⟨dp,hdp⟩:∃dp,(a.fs.length:Int) - 1=dp:=⟨_,rfl⟩
 have t1:t<0:=ht
 refine zX (tbl:=xX) zAw 0 3 (af:=a27) rfl ?_
 rw[a27,b27,qB]
 refine⟨by simp,?_⟩
 simp -implicitDefEqProofs [jA,xX,qC,zCe,zBd,forms79,a79,b79,forms84,a84,b84,z1,z2,ha,ft,jO,zD,zH,hac,hdp,t1]
 rcases qH hth with rfl|rfl|rfl|rfl
 ·refine zA [.pack (GD.att a) 7 [12,13],.pack (GD.eng s) 0 [1,2,3,4,5,6,7,8,9,10]] [0] ?_ ?_ ?_<;> simp[zH,zJ,hac,ha,zD,hdp,o1,o2,o3]<;> exact hes
 ·refine zA [.pack (GD.att a) 7 [12,13],.pack (GD.eng s) 0 [1,2,3,4,5,6,8,7,9,10]] [0] ?_ ?_ ?_<;> simp[zH,zJ,hac,ha,zD,hdp,o1,o2,o3]<;> exact hes
 ·refine zA [.pack (GD.att a) 7 [12,13],.pack (GD.eng s) 0 [1,2,3,4,5,6,8,9,7,10]] [0] ?_ ?_ ?_<;> simp[zH,zJ,hac,ha,zD,hdp,o1,o2,o3]<;> exact hes
 ·refine zA [.pack (GD.att a) 7 [12,13],.pack (GD.eng s) 0 [1,2,3,4,5,6,8,9,10,7]] [0] ?_ ?_ ?_<;> simp[zH,zJ,hac,ha,zD,hdp,o1,o2,o3]<;> exact hes
theorem qTa (s:NS) (hs:s.Ok) (th:Nat) (hth:th<4) (a:Att) (ha:s.ts th=some a) (hf:a.asked=false) (t v:Int) (ht:0<=t/\(s.hp.length:Int)<=t):zP Tryz.prog cfg 27 [.pointer (some ⟨0,0,none⟩),.int .i64 th,.agg #[.int .u8 2,.int .i64 t,.int .u64 v]] (AH.of [some (.hi (.eng s))])
  fun r H'=> r=.ret (.int .i64 2)/\H'=AH.of [some (.hi (.eng s))]:=by
 refine zP.ends ?_
 refine zP.openEng hth fun es cc hes=> ?_
 have ft:=jE hth hes
 have z1:¬(th:Int)<0:=by omega
 have z2:¬4<=(th:Int):=by omega
 have hac:=zAc a hf
 obtain⟨dp,hdp⟩:∃dp,(a.fs.length:Int) - 1=dp:=⟨_,rfl⟩
 have t1:¬t<0:=by omega
 have t2:(s.hp.length:Int)<=t:=ht.2
 refine zX (tbl:=xX) zAw 0 3 (af:=a27) rfl ?_
 rw[a27,b27,qB]
 refine⟨by simp,?_⟩
 simp -implicitDefEqProofs [jA,xX,qC,zCe,zBd,forms79,a79,b79,forms84,a84,b84,z1,z2,ha,ft,jO,zD,zH,hac,hdp,t1,t2]
 rcases qH hth with rfl|rfl|rfl|rfl
 ·refine zA [.pack (GD.att a) 7 [12,13],.pack (GD.eng s) 0 [1,2,3,4,5,6,7,8,9,10]] [0] ?_ ?_ ?_<;> simp[zH,zJ,hac,ha,zD,hdp,o1,o2,o3]<;> exact hes
 ·refine zA [.pack (GD.att a) 7 [12,13],.pack (GD.eng s) 0 [1,2,3,4,5,6,8,7,9,10]] [0] ?_ ?_ ?_<;> simp[zH,zJ,hac,ha,zD,hdp,o1,o2,o3]<;> exact hes
 ·refine zA [.pack (GD.att a) 7 [12,13],.pack (GD.eng s) 0 [1,2,3,4,5,6,8,9,7,10]] [0] ?_ ?_ ?_<;> simp[zH,zJ,hac,ha,zD,hdp,o1,o2,o3]<;> exact hes
 ·refine zA [.pack (GD.att a) 7 [12,13],.pack (GD.eng s) 0 [1,2,3,4,5,6,8,9,10,7]] [0] ?_ ?_ ?_<;> simp[zH,zJ,hac,ha,zD,hdp,o1,o2,o3]<;> exact hes
theorem qS7 (s:NS) (hs:s.Ok) (th:Nat) (hth:th<4) (a:Att) (ha:s.ts th=some a) (hf:a.asked=false) (t v:Int) (ht:0<=t/\t<s.hp.length) (hv:zAq v=false):zP Tryz.prog cfg 27 [.pointer (some ⟨0,0,none⟩),.int .i64 th,.agg #[.int .u8 2,.int .i64 t,.int .u64 v]] (AH.of [some (.hi (.eng s))])
  fun r H'=> r=.ret (.int .i64 3)/\H'=AH.of [some (.hi (.eng s))]:=by
 refine zP.ends ?_
 refine zP.openEng hth fun es cc hes=> ?_
 have ft:=jE hth hes
 have z1:¬(th:Int)<0:=by omega
 have z2:¬4<=(th:Int):=by omega
 have hac:=zAc a hf
 obtain⟨dp,hdp⟩:∃dp,(a.fs.length:Int) - 1=dp:=⟨_,rfl⟩
 have t1:¬t<0:=by omega
 have t2:¬(s.hp.length:Int)<=t:=by omega
 have r1:zAq v=false:=hv
 refine zX (tbl:=xX) zAw 0 3 (af:=a27) rfl ?_
 rw[a27,b27,qB]
 refine⟨by simp,?_⟩
 simp -implicitDefEqProofs [jA,xX,qC,zCe,zBd,forms79,a79,b79,forms84,a84,b84,z1,z2,ha,ft,jO,zD,zH,hac,hdp,t1,t2,r1]
 rcases qH hth with rfl|rfl|rfl|rfl
 ·refine zA [.pack (GD.att a) 7 [12,13],.pack (GD.eng s) 0 [1,2,3,4,5,6,7,8,9,10]] [0] ?_ ?_ ?_<;> simp[zH,zJ,hac,ha,zD,hdp,o1,o2,o3]<;> exact hes
 ·refine zA [.pack (GD.att a) 7 [12,13],.pack (GD.eng s) 0 [1,2,3,4,5,6,8,7,9,10]] [0] ?_ ?_ ?_<;> simp[zH,zJ,hac,ha,zD,hdp,o1,o2,o3]<;> exact hes
 ·refine zA [.pack (GD.att a) 7 [12,13],.pack (GD.eng s) 0 [1,2,3,4,5,6,8,9,7,10]] [0] ?_ ?_ ?_<;> simp[zH,zJ,hac,ha,zD,hdp,o1,o2,o3]<;> exact hes
 ·refine zA [.pack (GD.att a) 7 [12,13],.pack (GD.eng s) 0 [1,2,3,4,5,6,8,9,10,7]] [0] ?_ ?_ ?_<;> simp[zH,zJ,hac,ha,zD,hdp,o1,o2,o3]<;> exact hes
theorem qTc (s:NS) (hs:s.Ok) (th:Nat) (hth:th<4) (a:Att) (ha:s.ts th=some a) (hf:a.asked=false) (t v:Int) (ht:0<=t/\t<s.hp.length) (hd:a.fs.length=1):zP Tryz.prog cfg 27 [.pointer (some ⟨0,0,none⟩),.int .i64 th,.agg #[.int .u8 1,.int .i64 t,.int .u64 v]] (AH.of [some (.hi (.eng s))])
  fun r H'=> r=.ret (.int .i64 0)/\H'=AH.of [some (.hi (.eng (qU s th ⟨1,t,v⟩)))]:=by
 refine zP.ends ?_
 refine zP.openEng hth fun es cc hes=> ?_
 have ft:=jE hth hes
 have z1:¬(th:Int)<0:=by omega
 have z2:¬4<=(th:Int):=by omega
 have hac:=zAc a hf
 obtain⟨dp,hdp⟩:∃dp,(a.fs.length:Int) - 1=dp:=⟨_,rfl⟩
 have t1:¬t<0:=by omega
 have t2:¬(s.hp.length:Int)<=t:=by omega
 have e1:(dp=0)=True:=eq_true (by omega)
 have e2:(0<dp)=False:=eq_false (by omega)
 have e3:(4<=dp)=False:=eq_false (by omega)
 refine zX (tbl:=xX) zAw 0 3 (af:=a27) rfl ?_
 rw[a27,b27,qB]
 refine⟨by simp,?_⟩
 simp -implicitDefEqProofs [jA,xX,qC,zCe,zBd,forms79,a79,b79,forms84,a84,b84,z1,z2,ha,ft,jO,zD,zH,hac,hdp,t1,t2,e1,e2,e3]
 have htp:=zAr th s.ts (b:={ a with asked:=true,ra:=⟨1,t,v⟩,at_:=0,nx:=0 }) ha
 rw[←htp] at hes
 rcases qH hth with rfl|rfl|rfl|rfl
 ·refine zA [.pack (GD.att { a with asked:=true,ra:=⟨1,t,v⟩,at_:=0,nx:=0 }) 7 [12,13],.pack (GD.eng (qU s 0 ⟨1,t,v⟩)) 0 [1,2,3,4,5,6,7,8,9,10]] [0] ?_ ?_ ?_<;> simp[zH,zJ,Att.ask,qU,zZ,ha,zD,o1,o2,o3,hdp]<;> exact hes
 ·refine zA [.pack (GD.att { a with asked:=true,ra:=⟨1,t,v⟩,at_:=0,nx:=0 }) 7 [12,13],.pack (GD.eng (qU s 1 ⟨1,t,v⟩)) 0 [1,2,3,4,5,6,8,7,9,10]] [0] ?_ ?_ ?_<;> simp[zH,zJ,Att.ask,qU,zZ,ha,zD,o1,o2,o3,hdp]<;> exact hes
 ·refine zA [.pack (GD.att { a with asked:=true,ra:=⟨1,t,v⟩,at_:=0,nx:=0 }) 7 [12,13],.pack (GD.eng (qU s 2 ⟨1,t,v⟩)) 0 [1,2,3,4,5,6,8,9,7,10]] [0] ?_ ?_ ?_<;> simp[zH,zJ,Att.ask,qU,zZ,ha,zD,o1,o2,o3,hdp]<;> exact hes
 ·refine zA [.pack (GD.att { a with asked:=true,ra:=⟨1,t,v⟩,at_:=0,nx:=0 }) 7 [12,13],.pack (GD.eng (qU s 3 ⟨1,t,v⟩)) 0 [1,2,3,4,5,6,8,9,10,7]] [0] ?_ ?_ ?_<;> simp[zH,zJ,Att.ask,qU,zZ,ha,zD,o1,o2,o3,hdp]<;> exact hes
theorem qS6 (s:NS) (hs:s.Ok) (th:Nat) (hth:th<4) (a:Att) (ha:s.ts th=some a) (hf:a.asked=false) (t v:Int) (ht:0<=t/\t<s.hp.length) (hv:zAq v=true) (hd:a.fs.length=1):zP Tryz.prog cfg 27 [.pointer (some ⟨0,0,none⟩),.int .i64 th,.agg #[.int .u8 2,.int .i64 t,.int .u64 v]] (AH.of [some (.hi (.eng s))])
  fun r H'=> r=.ret (.int .i64 0)/\H'=AH.of [some (.hi (.eng (qU s th ⟨2,t,v⟩)))]:=by
 refine zP.ends ?_
 refine zP.openEng hth fun es cc hes=> ?_
 have ft:=jE hth hes
 have z1:¬(th:Int)<0:=by omega
 have z2:¬4<=(th:Int):=by omega
 have hac:=zAc a hf
 obtain⟨dp,hdp⟩:∃dp,(a.fs.length:Int) - 1=dp:=⟨_,rfl⟩
 have t1:¬t<0:=by omega
 have t2:¬(s.hp.length:Int)<=t:=by omega
 have r1:zAq v=true:=hv
 have e1:(dp=0)=True:=eq_true (by omega)
 have e2:(0<dp)=False:=eq_false (by omega)
 have e3:(4<=dp)=False:=eq_false (by omega)
 refine zX (tbl:=xX) zAw 0 3 (af:=a27) rfl ?_
 rw[a27,b27,qB]
 refine⟨by simp,?_⟩
 simp -implicitDefEqProofs [jA,xX,qC,zCe,zBd,forms79,a79,b79,forms84,a84,b84,z1,z2,ha,ft,jO,zD,zH,hac,hdp,t1,t2,r1,e1,e2,e3]
 have htp:=zAr th s.ts (b:={ a with asked:=true,ra:=⟨2,t,v⟩,at_:=0,nx:=0 }) ha
 rw[←htp] at hes
 rcases qH hth with rfl|rfl|rfl|rfl
 ·refine zA [.pack (GD.att { a with asked:=true,ra:=⟨2,t,v⟩,at_:=0,nx:=0 }) 7 [12,13],.pack (GD.eng (qU s 0 ⟨2,t,v⟩)) 0 [1,2,3,4,5,6,7,8,9,10]] [0] ?_ ?_ ?_<;> simp[zH,zJ,Att.ask,qU,zZ,ha,zD,o1,o2,o3,hdp]<;> exact hes
 ·refine zA [.pack (GD.att { a with asked:=true,ra:=⟨2,t,v⟩,at_:=0,nx:=0 }) 7 [12,13],.pack (GD.eng (qU s 1 ⟨2,t,v⟩)) 0 [1,2,3,4,5,6,8,7,9,10]] [0] ?_ ?_ ?_<;> simp[zH,zJ,Att.ask,qU,zZ,ha,zD,o1,o2,o3,hdp]<;> exact hes
 ·refine zA [.pack (GD.att { a with asked:=true,ra:=⟨2,t,v⟩,at_:=0,nx:=0 }) 7 [12,13],.pack (GD.eng (qU s 2 ⟨2,t,v⟩)) 0 [1,2,3,4,5,6,8,9,7,10]] [0] ?_ ?_ ?_<;> simp[zH,zJ,Att.ask,qU,zZ,ha,zD,o1,o2,o3,hdp]<;> exact hes
 ·refine zA [.pack (GD.att { a with asked:=true,ra:=⟨2,t,v⟩,at_:=0,nx:=0 }) 7 [12,13],.pack (GD.eng (qU s 3 ⟨2,t,v⟩)) 0 [1,2,3,4,5,6,8,9,10,7]] [0] ?_ ?_ ?_<;> simp[zH,zJ,Att.ask,qU,zZ,ha,zD,o1,o2,o3,hdp]<;> exact hes
theorem qS3 (s:NS) (hs:s.Ok) (th:Nat) (hth:th<4) (a:Att) (ha:s.ts th=some a) (hf:a.asked=false) (t v:Int) (hd:a.fs.length=1):zP Tryz.prog cfg 27 [.pointer (some ⟨0,0,none⟩),.int .i64 th,.agg #[.int .u8 3,.int .i64 t,.int .u64 v]] (AH.of [some (.hi (.eng s))])
  fun r H'=> r=.ret (.int .i64 0)/\H'=AH.of [some (.hi (.eng (qU s th ⟨3,t,v⟩)))]:=by
 refine zP.ends ?_
 refine zP.openEng hth fun es cc hes=> ?_
 have ft:=jE hth hes
 have z1:¬(th:Int)<0:=by omega
 have z2:¬4<=(th:Int):=by omega
 have hac:=zAc a hf
 obtain⟨dp,hdp⟩:∃dp,(a.fs.length:Int) - 1=dp:=⟨_,rfl⟩
 have e1:(dp=0)=True:=eq_true (by omega)
 have e2:(0<dp)=False:=eq_false (by omega)
 have e3:(4<=dp)=False:=eq_false (by omega)
 refine zX (tbl:=xX) zAw 0 3 (af:=a27) rfl ?_
 rw[a27,b27,qB]
 refine⟨by simp,?_⟩
 simp -implicitDefEqProofs [jA,xX,qC,zCe,zBd,forms79,a79,b79,forms84,a84,b84,z1,z2,ha,ft,jO,zD,zH,hac,hdp,e1,e2,e3]
 have htp:=zAr th s.ts (b:={ a with asked:=true,ra:=⟨3,t,v⟩,at_:=0,nx:=0 }) ha
 rw[←htp] at hes
 rcases qH hth with rfl|rfl|rfl|rfl
 ·refine zA [.pack (GD.att { a with asked:=true,ra:=⟨3,t,v⟩,at_:=0,nx:=0 }) 7 [12,13],.pack (GD.eng (qU s 0 ⟨3,t,v⟩)) 0 [1,2,3,4,5,6,7,8,9,10]] [0] ?_ ?_ ?_<;> simp[zH,zJ,Att.ask,qU,zZ,ha,zD,o1,o2,o3,hdp]<;> exact hes
 ·refine zA [.pack (GD.att { a with asked:=true,ra:=⟨3,t,v⟩,at_:=0,nx:=0 }) 7 [12,13],.pack (GD.eng (qU s 1 ⟨3,t,v⟩)) 0 [1,2,3,4,5,6,8,7,9,10]] [0] ?_ ?_ ?_<;> simp[zH,zJ,Att.ask,qU,zZ,ha,zD,o1,o2,o3,hdp]<;> exact hes
 ·refine zA [.pack (GD.att { a with asked:=true,ra:=⟨3,t,v⟩,at_:=0,nx:=0 }) 7 [12,13],.pack (GD.eng (qU s 2 ⟨3,t,v⟩)) 0 [1,2,3,4,5,6,8,9,7,10]] [0] ?_ ?_ ?_<;> simp[zH,zJ,Att.ask,qU,zZ,ha,zD,o1,o2,o3,hdp]<;> exact hes
 ·refine zA [.pack (GD.att { a with asked:=true,ra:=⟨3,t,v⟩,at_:=0,nx:=0 }) 7 [12,13],.pack (GD.eng (qU s 3 ⟨3,t,v⟩)) 0 [1,2,3,4,5,6,8,9,10,7]] [0] ?_ ?_ ?_<;> simp[zH,zJ,Att.ask,qU,zZ,ha,zD,o1,o2,o3,hdp]<;> exact hes
theorem qS0 (s:NS) (hs:s.Ok) (th:Nat) (hth:th<4) (a:Att) (ha:s.ts th=some a) (hf:a.asked=false) (t v:Int) (hd:a.fs.length=1):zP Tryz.prog cfg 27 [.pointer (some ⟨0,0,none⟩),.int .i64 th,.agg #[.int .u8 4,.int .i64 t,.int .u64 v]] (AH.of [some (.hi (.eng s))])
  fun r H'=> r=.ret (.int .i64 8)/\H'=AH.of [some (.hi (.eng s))]:=by
 refine zP.ends ?_
 refine zP.openEng hth fun es cc hes=> ?_
 have ft:=jE hth hes
 have z1:¬(th:Int)<0:=by omega
 have z2:¬4<=(th:Int):=by omega
 have hac:=zAc a hf
 obtain⟨dp,hdp⟩:∃dp,(a.fs.length:Int) - 1=dp:=⟨_,rfl⟩
 have e1:(dp=0)=True:=eq_true (by omega)
 have e2:(0<dp)=False:=eq_false (by omega)
 have e3:(4<=dp)=False:=eq_false (by omega)
 refine zX (tbl:=xX) zAw 0 3 (af:=a27) rfl ?_
 rw[a27,b27,qB]
 refine⟨by simp,?_⟩
 simp -implicitDefEqProofs [jA,xX,qC,zCe,zBd,forms79,a79,b79,forms84,a84,b84,z1,z2,ha,ft,jO,zD,zH,hac,hdp,e1,e2,e3]
 rcases qH hth with rfl|rfl|rfl|rfl
 ·refine zA [.pack (GD.att a) 7 [12,13],.pack (GD.eng s) 0 [1,2,3,4,5,6,7,8,9,10]] [0] ?_ ?_ ?_<;> simp[zH,zJ,hac,ha,zD,hdp,o1,o2,o3]<;> exact hes
 ·refine zA [.pack (GD.att a) 7 [12,13],.pack (GD.eng s) 0 [1,2,3,4,5,6,8,7,9,10]] [0] ?_ ?_ ?_<;> simp[zH,zJ,hac,ha,zD,hdp,o1,o2,o3]<;> exact hes
 ·refine zA [.pack (GD.att a) 7 [12,13],.pack (GD.eng s) 0 [1,2,3,4,5,6,8,9,7,10]] [0] ?_ ?_ ?_<;> simp[zH,zJ,hac,ha,zD,hdp,o1,o2,o3]<;> exact hes
 ·refine zA [.pack (GD.att a) 7 [12,13],.pack (GD.eng s) 0 [1,2,3,4,5,6,8,9,10,7]] [0] ?_ ?_ ?_<;> simp[zH,zJ,hac,ha,zD,hdp,o1,o2,o3]<;> exact hes
theorem qSx (s:NS) (hs:s.Ok) (th:Nat) (hth:th<4) (a:Att) (ha:s.ts th=some a) (hf:a.asked=false) (t v:Int) (hd:a.fs.length=1):zP Tryz.prog cfg 27 [.pointer (some ⟨0,0,none⟩),.int .i64 th,.agg #[.int .u8 5,.int .i64 t,.int .u64 v]] (AH.of [some (.hi (.eng s))])
  fun r H'=> r=.ret (.int .i64 8)/\H'=AH.of [some (.hi (.eng s))]:=by
 refine zP.ends ?_
 refine zP.openEng hth fun es cc hes=> ?_
 have ft:=jE hth hes
 have z1:¬(th:Int)<0:=by omega
 have z2:¬4<=(th:Int):=by omega
 have hac:=zAc a hf
 obtain⟨dp,hdp⟩:∃dp,(a.fs.length:Int) - 1=dp:=⟨_,rfl⟩
 have e1:(dp=0)=True:=eq_true (by omega)
 have e2:(0<dp)=False:=eq_false (by omega)
 have e3:(4<=dp)=False:=eq_false (by omega)
 refine zX (tbl:=xX) zAw 0 3 (af:=a27) rfl ?_
 rw[a27,b27,qB]
 refine⟨by simp,?_⟩
 simp -implicitDefEqProofs [jA,xX,qC,zCe,zBd,forms79,a79,b79,forms84,a84,b84,z1,z2,ha,ft,jO,zD,zH,hac,hdp,e1,e2,e3]
 rcases qH hth with rfl|rfl|rfl|rfl
 ·refine zA [.pack (GD.att a) 7 [12,13],.pack (GD.eng s) 0 [1,2,3,4,5,6,7,8,9,10]] [0] ?_ ?_ ?_<;> simp[zH,zJ,hac,ha,zD,hdp,o1,o2,o3]<;> exact hes
 ·refine zA [.pack (GD.att a) 7 [12,13],.pack (GD.eng s) 0 [1,2,3,4,5,6,8,7,9,10]] [0] ?_ ?_ ?_<;> simp[zH,zJ,hac,ha,zD,hdp,o1,o2,o3]<;> exact hes
 ·refine zA [.pack (GD.att a) 7 [12,13],.pack (GD.eng s) 0 [1,2,3,4,5,6,8,9,7,10]] [0] ?_ ?_ ?_<;> simp[zH,zJ,hac,ha,zD,hdp,o1,o2,o3]<;> exact hes
 ·refine zA [.pack (GD.att a) 7 [12,13],.pack (GD.eng s) 0 [1,2,3,4,5,6,8,9,10,7]] [0] ?_ ?_ ?_<;> simp[zH,zJ,hac,ha,zD,hdp,o1,o2,o3]<;> exact hes
theorem qSu (s:NS) (hs:s.Ok) (th:Nat) (hth:th<4) (a:Att) (ha:s.ts th=some a) (hf:a.asked=false) (t v:Int) (hd:a.fs.length=1):zP Tryz.prog cfg 27 [.pointer (some ⟨0,0,none⟩),.int .i64 th,.agg #[.int .u8 6,.int .i64 t,.int .u64 v]] (AH.of [some (.hi (.eng s))])
  fun r H'=> r=.ret (.int .i64 0)/\H'=AH.of [some (.hi (.eng (qU s th ⟨6,t,v⟩)))]:=by
 refine zP.ends ?_
 refine zP.openEng hth fun es cc hes=> ?_
 have ft:=jE hth hes
 have z1:¬(th:Int)<0:=by omega
 have z2:¬4<=(th:Int):=by omega
 have hac:=zAc a hf
 obtain⟨dp,hdp⟩:∃dp,(a.fs.length:Int) - 1=dp:=⟨_,rfl⟩
 have e1:(dp=0)=True:=eq_true (by omega)
 have e2:(0<dp)=False:=eq_false (by omega)
 have e3:(4<=dp)=False:=eq_false (by omega)
 refine zX (tbl:=xX) zAw 0 3 (af:=a27) rfl ?_
 rw[a27,b27,qB]
 refine⟨by simp,?_⟩
 simp -implicitDefEqProofs [jA,xX,qC,zCe,zBd,forms79,a79,b79,forms84,a84,b84,z1,z2,ha,ft,jO,zD,zH,hac,hdp,e1,e2,e3]
 have htp:=zAr th s.ts (b:={ a with asked:=true,ra:=⟨6,t,v⟩,at_:=0,nx:=0 }) ha
 rw[←htp] at hes
 rcases qH hth with rfl|rfl|rfl|rfl
 ·refine zA [.pack (GD.att { a with asked:=true,ra:=⟨6,t,v⟩,at_:=0,nx:=0 }) 7 [12,13],.pack (GD.eng (qU s 0 ⟨6,t,v⟩)) 0 [1,2,3,4,5,6,7,8,9,10]] [0] ?_ ?_ ?_<;> simp[zH,zJ,Att.ask,qU,zZ,ha,zD,o1,o2,o3,hdp]<;> exact hes
 ·refine zA [.pack (GD.att { a with asked:=true,ra:=⟨6,t,v⟩,at_:=0,nx:=0 }) 7 [12,13],.pack (GD.eng (qU s 1 ⟨6,t,v⟩)) 0 [1,2,3,4,5,6,8,7,9,10]] [0] ?_ ?_ ?_<;> simp[zH,zJ,Att.ask,qU,zZ,ha,zD,o1,o2,o3,hdp]<;> exact hes
 ·refine zA [.pack (GD.att { a with asked:=true,ra:=⟨6,t,v⟩,at_:=0,nx:=0 }) 7 [12,13],.pack (GD.eng (qU s 2 ⟨6,t,v⟩)) 0 [1,2,3,4,5,6,8,9,7,10]] [0] ?_ ?_ ?_<;> simp[zH,zJ,Att.ask,qU,zZ,ha,zD,o1,o2,o3,hdp]<;> exact hes
 ·refine zA [.pack (GD.att { a with asked:=true,ra:=⟨6,t,v⟩,at_:=0,nx:=0 }) 7 [12,13],.pack (GD.eng (qU s 3 ⟨6,t,v⟩)) 0 [1,2,3,4,5,6,8,9,10,7]] [0] ?_ ?_ ?_<;> simp[zH,zJ,Att.ask,qU,zZ,ha,zD,o1,o2,o3,hdp]<;> exact hes
theorem qSr (s:NS) (hs:s.Ok) (th:Nat) (hth:th<4) (a:Att) (ha:s.ts th=some a) (hf:a.asked=false) (t v:Int) (hd:a.fs.length=1):zP Tryz.prog cfg 27 [.pointer (some ⟨0,0,none⟩),.int .i64 th,.agg #[.int .u8 7,.int .i64 t,.int .u64 v]] (AH.of [some (.hi (.eng s))])
  fun r H'=> r=.ret (.int .i64 0)/\H'=AH.of [some (.hi (.eng (qU s th ⟨7,t,v⟩)))]:=by
 refine zP.ends ?_
 refine zP.openEng hth fun es cc hes=> ?_
 have ft:=jE hth hes
 have z1:¬(th:Int)<0:=by omega
 have z2:¬4<=(th:Int):=by omega
 have hac:=zAc a hf
 obtain⟨dp,hdp⟩:∃dp,(a.fs.length:Int) - 1=dp:=⟨_,rfl⟩
 have e1:(dp=0)=True:=eq_true (by omega)
 have e2:(0<dp)=False:=eq_false (by omega)
 have e3:(4<=dp)=False:=eq_false (by omega)
 refine zX (tbl:=xX) zAw 0 3 (af:=a27) rfl ?_
 rw[a27,b27,qB]
 refine⟨by simp,?_⟩
 simp -implicitDefEqProofs [jA,xX,qC,zCe,zBd,forms79,a79,b79,forms84,a84,b84,z1,z2,ha,ft,jO,zD,zH,hac,hdp,e1,e2,e3]
 have htp:=zAr th s.ts (b:={ a with asked:=true,ra:=⟨7,t,v⟩,at_:=0,nx:=0 }) ha
 rw[←htp] at hes
 rcases qH hth with rfl|rfl|rfl|rfl
 ·refine zA [.pack (GD.att { a with asked:=true,ra:=⟨7,t,v⟩,at_:=0,nx:=0 }) 7 [12,13],.pack (GD.eng (qU s 0 ⟨7,t,v⟩)) 0 [1,2,3,4,5,6,7,8,9,10]] [0] ?_ ?_ ?_<;> simp[zH,zJ,Att.ask,qU,zZ,ha,zD,o1,o2,o3,hdp]<;> exact hes
 ·refine zA [.pack (GD.att { a with asked:=true,ra:=⟨7,t,v⟩,at_:=0,nx:=0 }) 7 [12,13],.pack (GD.eng (qU s 1 ⟨7,t,v⟩)) 0 [1,2,3,4,5,6,8,7,9,10]] [0] ?_ ?_ ?_<;> simp[zH,zJ,Att.ask,qU,zZ,ha,zD,o1,o2,o3,hdp]<;> exact hes
 ·refine zA [.pack (GD.att { a with asked:=true,ra:=⟨7,t,v⟩,at_:=0,nx:=0 }) 7 [12,13],.pack (GD.eng (qU s 2 ⟨7,t,v⟩)) 0 [1,2,3,4,5,6,8,9,7,10]] [0] ?_ ?_ ?_<;> simp[zH,zJ,Att.ask,qU,zZ,ha,zD,o1,o2,o3,hdp]<;> exact hes
 ·refine zA [.pack (GD.att { a with asked:=true,ra:=⟨7,t,v⟩,at_:=0,nx:=0 }) 7 [12,13],.pack (GD.eng (qU s 3 ⟨7,t,v⟩)) 0 [1,2,3,4,5,6,8,9,10,7]] [0] ?_ ?_ ?_<;> simp[zH,zJ,Att.ask,qU,zZ,ha,zD,o1,o2,o3,hdp]<;> exact hes
theorem qTe (s:NS) (hs:s.Ok) (th:Nat) (hth:th<4) (a:Att) (ha:s.ts th=some a) (hf:a.asked=false) (t v:Int) (ht:0<=t/\t<s.hp.length) (hd:a.fs.length≠1/\1<=a.fs.length/\a.fs.length<5):zP Tryz.prog cfg 27 [.pointer (some ⟨0,0,none⟩),.int .i64 th,.agg #[.int .u8 1,.int .i64 t,.int .u64 v]] (AH.of [some (.hi (.eng s))])
  fun r H'=> r=.ret (.int .i64 0)/\H'=AH.of [some (.hi (.eng (qU s th ⟨1,t,v⟩)))]:=by
 refine zP.ends ?_
 refine zP.openEng hth fun es cc hes=> ?_
 have ft:=jE hth hes
 have z1:¬(th:Int)<0:=by omega
 have z2:¬4<=(th:Int):=by omega
 have hac:=zAc a hf
 obtain⟨dp,hdp⟩:∃dp,(a.fs.length:Int) - 1=dp:=⟨_,rfl⟩
 have t1:¬t<0:=by omega
 have t2:¬(s.hp.length:Int)<=t:=by omega
 have e1:(dp=0)=False:=eq_false (by omega)
 have e2:(0<dp)=True:=eq_true (by omega)
 have e3:(4<=dp)=False:=eq_false (by omega)
 refine zX (tbl:=xX) zAw 0 3 (af:=a27) rfl ?_
 rw[a27,b27,qB]
 refine⟨by simp,?_⟩
 simp -implicitDefEqProofs [jA,xX,qC,zCe,zBd,forms79,a79,b79,forms84,a84,b84,z1,z2,ha,ft,jO,zD,zH,hac,hdp,t1,t2,e1,e2,e3]
 have htp:=zAr th s.ts (b:={ a with asked:=true,ra:=⟨1,t,v⟩,at_:=0,nx:=0 }) ha
 rw[←htp] at hes
 rcases qH hth with rfl|rfl|rfl|rfl
 ·refine zA [.pack (GD.att { a with asked:=true,ra:=⟨1,t,v⟩,at_:=0,nx:=0 }) 7 [12,13],.pack (GD.eng (qU s 0 ⟨1,t,v⟩)) 0 [1,2,3,4,5,6,7,8,9,10]] [0] ?_ ?_ ?_<;> simp[zH,zJ,Att.ask,qU,zZ,ha,zD,o1,o2,o3,hdp]<;> exact hes
 ·refine zA [.pack (GD.att { a with asked:=true,ra:=⟨1,t,v⟩,at_:=0,nx:=0 }) 7 [12,13],.pack (GD.eng (qU s 1 ⟨1,t,v⟩)) 0 [1,2,3,4,5,6,8,7,9,10]] [0] ?_ ?_ ?_<;> simp[zH,zJ,Att.ask,qU,zZ,ha,zD,o1,o2,o3,hdp]<;> exact hes
 ·refine zA [.pack (GD.att { a with asked:=true,ra:=⟨1,t,v⟩,at_:=0,nx:=0 }) 7 [12,13],.pack (GD.eng (qU s 2 ⟨1,t,v⟩)) 0 [1,2,3,4,5,6,8,9,7,10]] [0] ?_ ?_ ?_<;> simp[zH,zJ,Att.ask,qU,zZ,ha,zD,o1,o2,o3,hdp]<;> exact hes
 ·refine zA [.pack (GD.att { a with asked:=true,ra:=⟨1,t,v⟩,at_:=0,nx:=0 }) 7 [12,13],.pack (GD.eng (qU s 3 ⟨1,t,v⟩)) 0 [1,2,3,4,5,6,8,9,10,7]] [0] ?_ ?_ ?_<;> simp[zH,zJ,Att.ask,qU,zZ,ha,zD,o1,o2,o3,hdp]<;> exact hes
theorem qS9 (s:NS) (hs:s.Ok) (th:Nat) (hth:th<4) (a:Att) (ha:s.ts th=some a) (hf:a.asked=false) (t v:Int) (ht:0<=t/\t<s.hp.length) (hv:zAq v=true) (hd:a.fs.length≠1/\1<=a.fs.length/\a.fs.length<5):zP Tryz.prog cfg 27 [.pointer (some ⟨0,0,none⟩),.int .i64 th,.agg #[.int .u8 2,.int .i64 t,.int .u64 v]] (AH.of [some (.hi (.eng s))])
  fun r H'=> r=.ret (.int .i64 0)/\H'=AH.of [some (.hi (.eng (qU s th ⟨2,t,v⟩)))]:=by
 refine zP.ends ?_
 refine zP.openEng hth fun es cc hes=> ?_
 have ft:=jE hth hes
 have z1:¬(th:Int)<0:=by omega
 have z2:¬4<=(th:Int):=by omega
 have hac:=zAc a hf
 obtain⟨dp,hdp⟩:∃dp,(a.fs.length:Int) - 1=dp:=⟨_,rfl⟩
 have t1:¬t<0:=by omega
 have t2:¬(s.hp.length:Int)<=t:=by omega
 have r1:zAq v=true:=hv
 have e1:(dp=0)=False:=eq_false (by omega)
 have e2:(0<dp)=True:=eq_true (by omega)
 have e3:(4<=dp)=False:=eq_false (by omega)
 refine zX (tbl:=xX) zAw 0 3 (af:=a27) rfl ?_
 rw[a27,b27,qB]
 refine⟨by simp,?_⟩
 simp -implicitDefEqProofs [jA,xX,qC,zCe,zBd,forms79,a79,b79,forms84,a84,b84,z1,z2,ha,ft,jO,zD,zH,hac,hdp,t1,t2,r1,e1,e2,e3]
 have htp:=zAr th s.ts (b:={ a with asked:=true,ra:=⟨2,t,v⟩,at_:=0,nx:=0 }) ha
 rw[←htp] at hes
 rcases qH hth with rfl|rfl|rfl|rfl
 ·refine zA [.pack (GD.att { a with asked:=true,ra:=⟨2,t,v⟩,at_:=0,nx:=0 }) 7 [12,13],.pack (GD.eng (qU s 0 ⟨2,t,v⟩)) 0 [1,2,3,4,5,6,7,8,9,10]] [0] ?_ ?_ ?_<;> simp[zH,zJ,Att.ask,qU,zZ,ha,zD,o1,o2,o3,hdp]<;> exact hes
 ·refine zA [.pack (GD.att { a with asked:=true,ra:=⟨2,t,v⟩,at_:=0,nx:=0 }) 7 [12,13],.pack (GD.eng (qU s 1 ⟨2,t,v⟩)) 0 [1,2,3,4,5,6,8,7,9,10]] [0] ?_ ?_ ?_<;> simp[zH,zJ,Att.ask,qU,zZ,ha,zD,o1,o2,o3,hdp]<;> exact hes
 ·refine zA [.pack (GD.att { a with asked:=true,ra:=⟨2,t,v⟩,at_:=0,nx:=0 }) 7 [12,13],.pack (GD.eng (qU s 2 ⟨2,t,v⟩)) 0 [1,2,3,4,5,6,8,9,7,10]] [0] ?_ ?_ ?_<;> simp[zH,zJ,Att.ask,qU,zZ,ha,zD,o1,o2,o3,hdp]<;> exact hes
 ·refine zA [.pack (GD.att { a with asked:=true,ra:=⟨2,t,v⟩,at_:=0,nx:=0 }) 7 [12,13],.pack (GD.eng (qU s 3 ⟨2,t,v⟩)) 0 [1,2,3,4,5,6,8,9,10,7]] [0] ?_ ?_ ?_<;> simp[zH,zJ,Att.ask,qU,zZ,ha,zD,o1,o2,o3,hdp]<;> exact hes
theorem qS4 (s:NS) (hs:s.Ok) (th:Nat) (hth:th<4) (a:Att) (ha:s.ts th=some a) (hf:a.asked=false) (t v:Int) (hd:a.fs.length≠1/\1<=a.fs.length/\a.fs.length<5):zP Tryz.prog cfg 27 [.pointer (some ⟨0,0,none⟩),.int .i64 th,.agg #[.int .u8 3,.int .i64 t,.int .u64 v]] (AH.of [some (.hi (.eng s))])
  fun r H'=> r=.ret (.int .i64 0)/\H'=AH.of [some (.hi (.eng (qU s th ⟨3,t,v⟩)))]:=by
 refine zP.ends ?_
 refine zP.openEng hth fun es cc hes=> ?_
 have ft:=jE hth hes
 have z1:¬(th:Int)<0:=by omega
 have z2:¬4<=(th:Int):=by omega
 have hac:=zAc a hf
 obtain⟨dp,hdp⟩:∃dp,(a.fs.length:Int) - 1=dp:=⟨_,rfl⟩
 have e1:(dp=0)=False:=eq_false (by omega)
 have e2:(0<dp)=True:=eq_true (by omega)
 have e3:(4<=dp)=False:=eq_false (by omega)
 refine zX (tbl:=xX) zAw 0 3 (af:=a27) rfl ?_
 rw[a27,b27,qB]
 refine⟨by simp,?_⟩
 simp -implicitDefEqProofs [jA,xX,qC,zCe,zBd,forms79,a79,b79,forms84,a84,b84,z1,z2,ha,ft,jO,zD,zH,hac,hdp,e1,e2,e3]
 have htp:=zAr th s.ts (b:={ a with asked:=true,ra:=⟨3,t,v⟩,at_:=0,nx:=0 }) ha
 rw[←htp] at hes
 rcases qH hth with rfl|rfl|rfl|rfl
 ·refine zA [.pack (GD.att { a with asked:=true,ra:=⟨3,t,v⟩,at_:=0,nx:=0 }) 7 [12,13],.pack (GD.eng (qU s 0 ⟨3,t,v⟩)) 0 [1,2,3,4,5,6,7,8,9,10]] [0] ?_ ?_ ?_<;> simp[zH,zJ,Att.ask,qU,zZ,ha,zD,o1,o2,o3,hdp]<;> exact hes
 ·refine zA [.pack (GD.att { a with asked:=true,ra:=⟨3,t,v⟩,at_:=0,nx:=0 }) 7 [12,13],.pack (GD.eng (qU s 1 ⟨3,t,v⟩)) 0 [1,2,3,4,5,6,8,7,9,10]] [0] ?_ ?_ ?_<;> simp[zH,zJ,Att.ask,qU,zZ,ha,zD,o1,o2,o3,hdp]<;> exact hes
 ·refine zA [.pack (GD.att { a with asked:=true,ra:=⟨3,t,v⟩,at_:=0,nx:=0 }) 7 [12,13],.pack (GD.eng (qU s 2 ⟨3,t,v⟩)) 0 [1,2,3,4,5,6,8,9,7,10]] [0] ?_ ?_ ?_<;> simp[zH,zJ,Att.ask,qU,zZ,ha,zD,o1,o2,o3,hdp]<;> exact hes
 ·refine zA [.pack (GD.att { a with asked:=true,ra:=⟨3,t,v⟩,at_:=0,nx:=0 }) 7 [12,13],.pack (GD.eng (qU s 3 ⟨3,t,v⟩)) 0 [1,2,3,4,5,6,8,9,10,7]] [0] ?_ ?_ ?_<;> simp[zH,zJ,Att.ask,qU,zZ,ha,zD,o1,o2,o3,hdp]<;> exact hes
theorem qS1 (s:NS) (hs:s.Ok) (th:Nat) (hth:th<4) (a:Att) (ha:s.ts th=some a) (hf:a.asked=false) (t v:Int) (hd:a.fs.length≠1/\1<=a.fs.length/\a.fs.length<5):zP Tryz.prog cfg 27 [.pointer (some ⟨0,0,none⟩),.int .i64 th,.agg #[.int .u8 4,.int .i64 t,.int .u64 v]] (AH.of [some (.hi (.eng s))])
  fun r H'=> r=.ret (.int .i64 0)/\H'=AH.of [some (.hi (.eng (qU s th ⟨4,t,v⟩)))]:=by
 refine zP.ends ?_
 refine zP.openEng hth fun es cc hes=> ?_
 have ft:=jE hth hes
 have z1:¬(th:Int)<0:=by omega
 have z2:¬4<=(th:Int):=by omega
 have hac:=zAc a hf
 obtain⟨dp,hdp⟩:∃dp,(a.fs.length:Int) - 1=dp:=⟨_,rfl⟩
 have e1:(dp=0)=False:=eq_false (by omega)
 have e2:(0<dp)=True:=eq_true (by omega)
 have e3:(4<=dp)=False:=eq_false (by omega)
 refine zX (tbl:=xX) zAw 0 3 (af:=a27) rfl ?_
 rw[a27,b27,qB]
 refine⟨by simp,?_⟩
 simp -implicitDefEqProofs [jA,xX,qC,zCe,zBd,forms79,a79,b79,forms84,a84,b84,z1,z2,ha,ft,jO,zD,zH,hac,hdp,e1,e2,e3]
 have htp:=zAr th s.ts (b:={ a with asked:=true,ra:=⟨4,t,v⟩,at_:=0,nx:=0 }) ha
 rw[←htp] at hes
 rcases qH hth with rfl|rfl|rfl|rfl
 ·refine zA [.pack (GD.att { a with asked:=true,ra:=⟨4,t,v⟩,at_:=0,nx:=0 }) 7 [12,13],.pack (GD.eng (qU s 0 ⟨4,t,v⟩)) 0 [1,2,3,4,5,6,7,8,9,10]] [0] ?_ ?_ ?_<;> simp[zH,zJ,Att.ask,qU,zZ,ha,zD,o1,o2,o3,hdp]<;> exact hes
 ·refine zA [.pack (GD.att { a with asked:=true,ra:=⟨4,t,v⟩,at_:=0,nx:=0 }) 7 [12,13],.pack (GD.eng (qU s 1 ⟨4,t,v⟩)) 0 [1,2,3,4,5,6,8,7,9,10]] [0] ?_ ?_ ?_<;> simp[zH,zJ,Att.ask,qU,zZ,ha,zD,o1,o2,o3,hdp]<;> exact hes
 ·refine zA [.pack (GD.att { a with asked:=true,ra:=⟨4,t,v⟩,at_:=0,nx:=0 }) 7 [12,13],.pack (GD.eng (qU s 2 ⟨4,t,v⟩)) 0 [1,2,3,4,5,6,8,9,7,10]] [0] ?_ ?_ ?_<;> simp[zH,zJ,Att.ask,qU,zZ,ha,zD,o1,o2,o3,hdp]<;> exact hes
 ·refine zA [.pack (GD.att { a with asked:=true,ra:=⟨4,t,v⟩,at_:=0,nx:=0 }) 7 [12,13],.pack (GD.eng (qU s 3 ⟨4,t,v⟩)) 0 [1,2,3,4,5,6,8,9,10,7]] [0] ?_ ?_ ?_<;> simp[zH,zJ,Att.ask,qU,zZ,ha,zD,o1,o2,o3,hdp]<;> exact hes
theorem qSy (s:NS) (hs:s.Ok) (th:Nat) (hth:th<4) (a:Att) (ha:s.ts th=some a) (hf:a.asked=false) (t v:Int) (hd:a.fs.length≠1/\1<=a.fs.length/\a.fs.length<5):zP Tryz.prog cfg 27 [.pointer (some ⟨0,0,none⟩),.int .i64 th,.agg #[.int .u8 5,.int .i64 t,.int .u64 v]] (AH.of [some (.hi (.eng s))])
  fun r H'=> r=.ret (.int .i64 0)/\H'=AH.of [some (.hi (.eng (qU s th ⟨5,t,v⟩)))]:=by
 refine zP.ends ?_
 refine zP.openEng hth fun es cc hes=> ?_
 have ft:=jE hth hes
 have z1:¬(th:Int)<0:=by omega
 have z2:¬4<=(th:Int):=by omega
 have hac:=zAc a hf
 obtain⟨dp,hdp⟩:∃dp,(a.fs.length:Int) - 1=dp:=⟨_,rfl⟩
 have e1:(dp=0)=False:=eq_false (by omega)
 have e2:(0<dp)=True:=eq_true (by omega)
 have e3:(4<=dp)=False:=eq_false (by omega)
 refine zX (tbl:=xX) zAw 0 3 (af:=a27) rfl ?_
 rw[a27,b27,qB]
 refine⟨by simp,?_⟩
 simp -implicitDefEqProofs [jA,xX,qC,zCe,zBd,forms79,a79,b79,forms84,a84,b84,z1,z2,ha,ft,jO,zD,zH,hac,hdp,e1,e2,e3]
 have htp:=zAr th s.ts (b:={ a with asked:=true,ra:=⟨5,t,v⟩,at_:=0,nx:=0 }) ha
 rw[←htp] at hes
 rcases qH hth with rfl|rfl|rfl|rfl
 ·refine zA [.pack (GD.att { a with asked:=true,ra:=⟨5,t,v⟩,at_:=0,nx:=0 }) 7 [12,13],.pack (GD.eng (qU s 0 ⟨5,t,v⟩)) 0 [1,2,3,4,5,6,7,8,9,10]] [0] ?_ ?_ ?_<;> simp[zH,zJ,Att.ask,qU,zZ,ha,zD,o1,o2,o3,hdp]<;> exact hes
 ·refine zA [.pack (GD.att { a with asked:=true,ra:=⟨5,t,v⟩,at_:=0,nx:=0 }) 7 [12,13],.pack (GD.eng (qU s 1 ⟨5,t,v⟩)) 0 [1,2,3,4,5,6,8,7,9,10]] [0] ?_ ?_ ?_<;> simp[zH,zJ,Att.ask,qU,zZ,ha,zD,o1,o2,o3,hdp]<;> exact hes
 ·refine zA [.pack (GD.att { a with asked:=true,ra:=⟨5,t,v⟩,at_:=0,nx:=0 }) 7 [12,13],.pack (GD.eng (qU s 2 ⟨5,t,v⟩)) 0 [1,2,3,4,5,6,8,9,7,10]] [0] ?_ ?_ ?_<;> simp[zH,zJ,Att.ask,qU,zZ,ha,zD,o1,o2,o3,hdp]<;> exact hes
 ·refine zA [.pack (GD.att { a with asked:=true,ra:=⟨5,t,v⟩,at_:=0,nx:=0 }) 7 [12,13],.pack (GD.eng (qU s 3 ⟨5,t,v⟩)) 0 [1,2,3,4,5,6,8,9,10,7]] [0] ?_ ?_ ?_<;> simp[zH,zJ,Att.ask,qU,zZ,ha,zD,o1,o2,o3,hdp]<;> exact hes
theorem qSv (s:NS) (hs:s.Ok) (th:Nat) (hth:th<4) (a:Att) (ha:s.ts th=some a) (hf:a.asked=false) (t v:Int) (hd:a.fs.length≠1/\1<=a.fs.length/\a.fs.length<5):zP Tryz.prog cfg 27 [.pointer (some ⟨0,0,none⟩),.int .i64 th,.agg #[.int .u8 6,.int .i64 t,.int .u64 v]] (AH.of [some (.hi (.eng s))])
  fun r H'=> r=.ret (.int .i64 8)/\H'=AH.of [some (.hi (.eng s))]:=by
 refine zP.ends ?_
 refine zP.openEng hth fun es cc hes=> ?_
 have ft:=jE hth hes
 have z1:¬(th:Int)<0:=by omega
 have z2:¬4<=(th:Int):=by omega
 have hac:=zAc a hf
 obtain⟨dp,hdp⟩:∃dp,(a.fs.length:Int) - 1=dp:=⟨_,rfl⟩
 have e1:(dp=0)=False:=eq_false (by omega)
 have e2:(0<dp)=True:=eq_true (by omega)
 have e3:(4<=dp)=False:=eq_false (by omega)
 refine zX (tbl:=xX) zAw 0 3 (af:=a27) rfl ?_
 rw[a27,b27,qB]
 refine⟨by simp,?_⟩
 simp -implicitDefEqProofs [jA,xX,qC,zCe,zBd,forms79,a79,b79,forms84,a84,b84,z1,z2,ha,ft,jO,zD,zH,hac,hdp,e1,e2,e3]
 rcases qH hth with rfl|rfl|rfl|rfl
 ·refine zA [.pack (GD.att a) 7 [12,13],.pack (GD.eng s) 0 [1,2,3,4,5,6,7,8,9,10]] [0] ?_ ?_ ?_<;> simp[zH,zJ,hac,ha,zD,hdp,o1,o2,o3]<;> exact hes
 ·refine zA [.pack (GD.att a) 7 [12,13],.pack (GD.eng s) 0 [1,2,3,4,5,6,8,7,9,10]] [0] ?_ ?_ ?_<;> simp[zH,zJ,hac,ha,zD,hdp,o1,o2,o3]<;> exact hes
 ·refine zA [.pack (GD.att a) 7 [12,13],.pack (GD.eng s) 0 [1,2,3,4,5,6,8,9,7,10]] [0] ?_ ?_ ?_<;> simp[zH,zJ,hac,ha,zD,hdp,o1,o2,o3]<;> exact hes
 ·refine zA [.pack (GD.att a) 7 [12,13],.pack (GD.eng s) 0 [1,2,3,4,5,6,8,9,10,7]] [0] ?_ ?_ ?_<;> simp[zH,zJ,hac,ha,zD,hdp,o1,o2,o3]<;> exact hes
theorem qSs (s:NS) (hs:s.Ok) (th:Nat) (hth:th<4) (a:Att) (ha:s.ts th=some a) (hf:a.asked=false) (t v:Int) (hd:a.fs.length≠1/\1<=a.fs.length/\a.fs.length<5):zP Tryz.prog cfg 27 [.pointer (some ⟨0,0,none⟩),.int .i64 th,.agg #[.int .u8 7,.int .i64 t,.int .u64 v]] (AH.of [some (.hi (.eng s))])
  fun r H'=> r=.ret (.int .i64 0)/\H'=AH.of [some (.hi (.eng (qU s th ⟨7,t,v⟩)))]:=by
 refine zP.ends ?_
 refine zP.openEng hth fun es cc hes=> ?_
 have ft:=jE hth hes
 have z1:¬(th:Int)<0:=by omega
 have z2:¬4<=(th:Int):=by omega
 have hac:=zAc a hf
 obtain⟨dp,hdp⟩:∃dp,(a.fs.length:Int) - 1=dp:=⟨_,rfl⟩
 have e1:(dp=0)=False:=eq_false (by omega)
 have e2:(0<dp)=True:=eq_true (by omega)
 have e3:(4<=dp)=False:=eq_false (by omega)
 refine zX (tbl:=xX) zAw 0 3 (af:=a27) rfl ?_
 rw[a27,b27,qB]
 refine⟨by simp,?_⟩
 simp -implicitDefEqProofs [jA,xX,qC,zCe,zBd,forms79,a79,b79,forms84,a84,b84,z1,z2,ha,ft,jO,zD,zH,hac,hdp,e1,e2,e3]
 have htp:=zAr th s.ts (b:={ a with asked:=true,ra:=⟨7,t,v⟩,at_:=0,nx:=0 }) ha
 rw[←htp] at hes
 rcases qH hth with rfl|rfl|rfl|rfl
 ·refine zA [.pack (GD.att { a with asked:=true,ra:=⟨7,t,v⟩,at_:=0,nx:=0 }) 7 [12,13],.pack (GD.eng (qU s 0 ⟨7,t,v⟩)) 0 [1,2,3,4,5,6,7,8,9,10]] [0] ?_ ?_ ?_<;> simp[zH,zJ,Att.ask,qU,zZ,ha,zD,o1,o2,o3,hdp]<;> exact hes
 ·refine zA [.pack (GD.att { a with asked:=true,ra:=⟨7,t,v⟩,at_:=0,nx:=0 }) 7 [12,13],.pack (GD.eng (qU s 1 ⟨7,t,v⟩)) 0 [1,2,3,4,5,6,8,7,9,10]] [0] ?_ ?_ ?_<;> simp[zH,zJ,Att.ask,qU,zZ,ha,zD,o1,o2,o3,hdp]<;> exact hes
 ·refine zA [.pack (GD.att { a with asked:=true,ra:=⟨7,t,v⟩,at_:=0,nx:=0 }) 7 [12,13],.pack (GD.eng (qU s 2 ⟨7,t,v⟩)) 0 [1,2,3,4,5,6,8,9,7,10]] [0] ?_ ?_ ?_<;> simp[zH,zJ,Att.ask,qU,zZ,ha,zD,o1,o2,o3,hdp]<;> exact hes
 ·refine zA [.pack (GD.att { a with asked:=true,ra:=⟨7,t,v⟩,at_:=0,nx:=0 }) 7 [12,13],.pack (GD.eng (qU s 3 ⟨7,t,v⟩)) 0 [1,2,3,4,5,6,8,9,10,7]] [0] ?_ ?_ ?_<;> simp[zH,zJ,Att.ask,qU,zZ,ha,zD,o1,o2,o3,hdp]<;> exact hes
theorem qTg (s:NS) (hs:s.Ok) (th:Nat) (hth:th<4) (a:Att) (ha:s.ts th=some a) (hf:a.asked=false) (t v:Int) (ht:0<=t/\t<s.hp.length) (hd:a.fs.length≥5):zP Tryz.prog cfg 27 [.pointer (some ⟨0,0,none⟩),.int .i64 th,.agg #[.int .u8 1,.int .i64 t,.int .u64 v]] (AH.of [some (.hi (.eng s))])
  fun r H'=> r=.ret (.int .i64 0)/\H'=AH.of [some (.hi (.eng (qU s th ⟨1,t,v⟩)))]:=by
 refine zP.ends ?_
 refine zP.openEng hth fun es cc hes=> ?_
 have ft:=jE hth hes
 have z1:¬(th:Int)<0:=by omega
 have z2:¬4<=(th:Int):=by omega
 have hac:=zAc a hf
 obtain⟨dp,hdp⟩:∃dp,(a.fs.length:Int) - 1=dp:=⟨_,rfl⟩
 have t1:¬t<0:=by omega
 have t2:¬(s.hp.length:Int)<=t:=by omega
 have e1:(dp=0)=False:=eq_false (by omega)
 have e2:(0<dp)=True:=eq_true (by omega)
 have e3:(4<=dp)=True:=eq_true (by omega)
 refine zX (tbl:=xX) zAw 0 3 (af:=a27) rfl ?_
 rw[a27,b27,qB]
 refine⟨by simp,?_⟩
 simp -implicitDefEqProofs [jA,xX,qC,zCe,zBd,forms79,a79,b79,forms84,a84,b84,z1,z2,ha,ft,jO,zD,zH,hac,hdp,t1,t2,e1,e2,e3]
 have htp:=zAr th s.ts (b:={ a with asked:=true,ra:=⟨1,t,v⟩,at_:=0,nx:=0 }) ha
 rw[←htp] at hes
 rcases qH hth with rfl|rfl|rfl|rfl
 ·refine zA [.pack (GD.att { a with asked:=true,ra:=⟨1,t,v⟩,at_:=0,nx:=0 }) 7 [12,13],.pack (GD.eng (qU s 0 ⟨1,t,v⟩)) 0 [1,2,3,4,5,6,7,8,9,10]] [0] ?_ ?_ ?_<;> simp[zH,zJ,Att.ask,qU,zZ,ha,zD,o1,o2,o3,hdp]<;> exact hes
 ·refine zA [.pack (GD.att { a with asked:=true,ra:=⟨1,t,v⟩,at_:=0,nx:=0 }) 7 [12,13],.pack (GD.eng (qU s 1 ⟨1,t,v⟩)) 0 [1,2,3,4,5,6,8,7,9,10]] [0] ?_ ?_ ?_<;> simp[zH,zJ,Att.ask,qU,zZ,ha,zD,o1,o2,o3,hdp]<;> exact hes
 ·refine zA [.pack (GD.att { a with asked:=true,ra:=⟨1,t,v⟩,at_:=0,nx:=0 }) 7 [12,13],.pack (GD.eng (qU s 2 ⟨1,t,v⟩)) 0 [1,2,3,4,5,6,8,9,7,10]] [0] ?_ ?_ ?_<;> simp[zH,zJ,Att.ask,qU,zZ,ha,zD,o1,o2,o3,hdp]<;> exact hes
 ·refine zA [.pack (GD.att { a with asked:=true,ra:=⟨1,t,v⟩,at_:=0,nx:=0 }) 7 [12,13],.pack (GD.eng (qU s 3 ⟨1,t,v⟩)) 0 [1,2,3,4,5,6,8,9,10,7]] [0] ?_ ?_ ?_<;> simp[zH,zJ,Att.ask,qU,zZ,ha,zD,o1,o2,o3,hdp]<;> exact hes
theorem qTb (s:NS) (hs:s.Ok) (th:Nat) (hth:th<4) (a:Att) (ha:s.ts th=some a) (hf:a.asked=false) (t v:Int) (ht:0<=t/\t<s.hp.length) (hv:zAq v=true) (hd:a.fs.length≥5):zP Tryz.prog cfg 27 [.pointer (some ⟨0,0,none⟩),.int .i64 th,.agg #[.int .u8 2,.int .i64 t,.int .u64 v]] (AH.of [some (.hi (.eng s))])
  fun r H'=> r=.ret (.int .i64 0)/\H'=AH.of [some (.hi (.eng (qU s th ⟨2,t,v⟩)))]:=by
 refine zP.ends ?_
 refine zP.openEng hth fun es cc hes=> ?_
 have ft:=jE hth hes
 have z1:¬(th:Int)<0:=by omega
 have z2:¬4<=(th:Int):=by omega
 have hac:=zAc a hf
 obtain⟨dp,hdp⟩:∃dp,(a.fs.length:Int) - 1=dp:=⟨_,rfl⟩
 have t1:¬t<0:=by omega
 have t2:¬(s.hp.length:Int)<=t:=by omega
 have r1:zAq v=true:=hv
 have e1:(dp=0)=False:=eq_false (by omega)
 have e2:(0<dp)=True:=eq_true (by omega)
 have e3:(4<=dp)=True:=eq_true (by omega)
 refine zX (tbl:=xX) zAw 0 3 (af:=a27) rfl ?_
 rw[a27,b27,qB]
 refine⟨by simp,?_⟩
 simp -implicitDefEqProofs [jA,xX,qC,zCe,zBd,forms79,a79,b79,forms84,a84,b84,z1,z2,ha,ft,jO,zD,zH,hac,hdp,t1,t2,r1,e1,e2,e3]
 have htp:=zAr th s.ts (b:={ a with asked:=true,ra:=⟨2,t,v⟩,at_:=0,nx:=0 }) ha
 rw[←htp] at hes
 rcases qH hth with rfl|rfl|rfl|rfl
 ·refine zA [.pack (GD.att { a with asked:=true,ra:=⟨2,t,v⟩,at_:=0,nx:=0 }) 7 [12,13],.pack (GD.eng (qU s 0 ⟨2,t,v⟩)) 0 [1,2,3,4,5,6,7,8,9,10]] [0] ?_ ?_ ?_<;> simp[zH,zJ,Att.ask,qU,zZ,ha,zD,o1,o2,o3,hdp]<;> exact hes
 ·refine zA [.pack (GD.att { a with asked:=true,ra:=⟨2,t,v⟩,at_:=0,nx:=0 }) 7 [12,13],.pack (GD.eng (qU s 1 ⟨2,t,v⟩)) 0 [1,2,3,4,5,6,8,7,9,10]] [0] ?_ ?_ ?_<;> simp[zH,zJ,Att.ask,qU,zZ,ha,zD,o1,o2,o3,hdp]<;> exact hes
 ·refine zA [.pack (GD.att { a with asked:=true,ra:=⟨2,t,v⟩,at_:=0,nx:=0 }) 7 [12,13],.pack (GD.eng (qU s 2 ⟨2,t,v⟩)) 0 [1,2,3,4,5,6,8,9,7,10]] [0] ?_ ?_ ?_<;> simp[zH,zJ,Att.ask,qU,zZ,ha,zD,o1,o2,o3,hdp]<;> exact hes
 ·refine zA [.pack (GD.att { a with asked:=true,ra:=⟨2,t,v⟩,at_:=0,nx:=0 }) 7 [12,13],.pack (GD.eng (qU s 3 ⟨2,t,v⟩)) 0 [1,2,3,4,5,6,8,9,10,7]] [0] ?_ ?_ ?_<;> simp[zH,zJ,Att.ask,qU,zZ,ha,zD,o1,o2,o3,hdp]<;> exact hes
theorem qS5 (s:NS) (hs:s.Ok) (th:Nat) (hth:th<4) (a:Att) (ha:s.ts th=some a) (hf:a.asked=false) (t v:Int) (hd:a.fs.length≥5):zP Tryz.prog cfg 27 [.pointer (some ⟨0,0,none⟩),.int .i64 th,.agg #[.int .u8 3,.int .i64 t,.int .u64 v]] (AH.of [some (.hi (.eng s))])
  fun r H'=> r=.ret (.int .i64 4)/\H'=AH.of [some (.hi (.eng s))]:=by
 refine zP.ends ?_
 refine zP.openEng hth fun es cc hes=> ?_
 have ft:=jE hth hes
 have z1:¬(th:Int)<0:=by omega
 have z2:¬4<=(th:Int):=by omega
 have hac:=zAc a hf
 obtain⟨dp,hdp⟩:∃dp,(a.fs.length:Int) - 1=dp:=⟨_,rfl⟩
 have e1:(dp=0)=False:=eq_false (by omega)
 have e2:(0<dp)=True:=eq_true (by omega)
 have e3:(4<=dp)=True:=eq_true (by omega)
 refine zX (tbl:=xX) zAw 0 3 (af:=a27) rfl ?_
 rw[a27,b27,qB]
 refine⟨by simp,?_⟩
 simp -implicitDefEqProofs [jA,xX,qC,zCe,zBd,forms79,a79,b79,forms84,a84,b84,z1,z2,ha,ft,jO,zD,zH,hac,hdp,e1,e2,e3]
 rcases qH hth with rfl|rfl|rfl|rfl
 ·refine zA [.pack (GD.att a) 7 [12,13],.pack (GD.eng s) 0 [1,2,3,4,5,6,7,8,9,10]] [0] ?_ ?_ ?_<;> simp[zH,zJ,hac,ha,zD,hdp,o1,o2,o3]<;> exact hes
 ·refine zA [.pack (GD.att a) 7 [12,13],.pack (GD.eng s) 0 [1,2,3,4,5,6,8,7,9,10]] [0] ?_ ?_ ?_<;> simp[zH,zJ,hac,ha,zD,hdp,o1,o2,o3]<;> exact hes
 ·refine zA [.pack (GD.att a) 7 [12,13],.pack (GD.eng s) 0 [1,2,3,4,5,6,8,9,7,10]] [0] ?_ ?_ ?_<;> simp[zH,zJ,hac,ha,zD,hdp,o1,o2,o3]<;> exact hes
 ·refine zA [.pack (GD.att a) 7 [12,13],.pack (GD.eng s) 0 [1,2,3,4,5,6,8,9,10,7]] [0] ?_ ?_ ?_<;> simp[zH,zJ,hac,ha,zD,hdp,o1,o2,o3]<;> exact hes
theorem qS2 (s:NS) (hs:s.Ok) (th:Nat) (hth:th<4) (a:Att) (ha:s.ts th=some a) (hf:a.asked=false) (t v:Int) (hd:a.fs.length≥5):zP Tryz.prog cfg 27 [.pointer (some ⟨0,0,none⟩),.int .i64 th,.agg #[.int .u8 4,.int .i64 t,.int .u64 v]] (AH.of [some (.hi (.eng s))])
  fun r H'=> r=.ret (.int .i64 0)/\H'=AH.of [some (.hi (.eng (qU s th ⟨4,t,v⟩)))]:=by
 refine zP.ends ?_
 refine zP.openEng hth fun es cc hes=> ?_
 have ft:=jE hth hes
 have z1:¬(th:Int)<0:=by omega
 have z2:¬4<=(th:Int):=by omega
 have hac:=zAc a hf
 obtain⟨dp,hdp⟩:∃dp,(a.fs.length:Int) - 1=dp:=⟨_,rfl⟩
 have e1:(dp=0)=False:=eq_false (by omega)
 have e2:(0<dp)=True:=eq_true (by omega)
 have e3:(4<=dp)=True:=eq_true (by omega)
 refine zX (tbl:=xX) zAw 0 3 (af:=a27) rfl ?_
 rw[a27,b27,qB]
 refine⟨by simp,?_⟩
 simp -implicitDefEqProofs [jA,xX,qC,zCe,zBd,forms79,a79,b79,forms84,a84,b84,z1,z2,ha,ft,jO,zD,zH,hac,hdp,e1,e2,e3]
 have htp:=zAr th s.ts (b:={ a with asked:=true,ra:=⟨4,t,v⟩,at_:=0,nx:=0 }) ha
 rw[←htp] at hes
 rcases qH hth with rfl|rfl|rfl|rfl
 ·refine zA [.pack (GD.att { a with asked:=true,ra:=⟨4,t,v⟩,at_:=0,nx:=0 }) 7 [12,13],.pack (GD.eng (qU s 0 ⟨4,t,v⟩)) 0 [1,2,3,4,5,6,7,8,9,10]] [0] ?_ ?_ ?_<;> simp[zH,zJ,Att.ask,qU,zZ,ha,zD,o1,o2,o3,hdp]<;> exact hes
 ·refine zA [.pack (GD.att { a with asked:=true,ra:=⟨4,t,v⟩,at_:=0,nx:=0 }) 7 [12,13],.pack (GD.eng (qU s 1 ⟨4,t,v⟩)) 0 [1,2,3,4,5,6,8,7,9,10]] [0] ?_ ?_ ?_<;> simp[zH,zJ,Att.ask,qU,zZ,ha,zD,o1,o2,o3,hdp]<;> exact hes
 ·refine zA [.pack (GD.att { a with asked:=true,ra:=⟨4,t,v⟩,at_:=0,nx:=0 }) 7 [12,13],.pack (GD.eng (qU s 2 ⟨4,t,v⟩)) 0 [1,2,3,4,5,6,8,9,7,10]] [0] ?_ ?_ ?_<;> simp[zH,zJ,Att.ask,qU,zZ,ha,zD,o1,o2,o3,hdp]<;> exact hes
 ·refine zA [.pack (GD.att { a with asked:=true,ra:=⟨4,t,v⟩,at_:=0,nx:=0 }) 7 [12,13],.pack (GD.eng (qU s 3 ⟨4,t,v⟩)) 0 [1,2,3,4,5,6,8,9,10,7]] [0] ?_ ?_ ?_<;> simp[zH,zJ,Att.ask,qU,zZ,ha,zD,o1,o2,o3,hdp]<;> exact hes
theorem qSz (s:NS) (hs:s.Ok) (th:Nat) (hth:th<4) (a:Att) (ha:s.ts th=some a) (hf:a.asked=false) (t v:Int) (hd:a.fs.length≥5):zP Tryz.prog cfg 27 [.pointer (some ⟨0,0,none⟩),.int .i64 th,.agg #[.int .u8 5,.int .i64 t,.int .u64 v]] (AH.of [some (.hi (.eng s))])
  fun r H'=> r=.ret (.int .i64 0)/\H'=AH.of [some (.hi (.eng (qU s th ⟨5,t,v⟩)))]:=by
 refine zP.ends ?_
 refine zP.openEng hth fun es cc hes=> ?_
 have ft:=jE hth hes
 have z1:¬(th:Int)<0:=by omega
 have z2:¬4<=(th:Int):=by omega
 have hac:=zAc a hf
 obtain⟨dp,hdp⟩:∃dp,(a.fs.length:Int) - 1=dp:=⟨_,rfl⟩
 have e1:(dp=0)=False:=eq_false (by omega)
 have e2:(0<dp)=True:=eq_true (by omega)
 have e3:(4<=dp)=True:=eq_true (by omega)
 refine zX (tbl:=xX) zAw 0 3 (af:=a27) rfl ?_
 rw[a27,b27,qB]
 refine⟨by simp,?_⟩
 simp -implicitDefEqProofs [jA,xX,qC,zCe,zBd,forms79,a79,b79,forms84,a84,b84,z1,z2,ha,ft,jO,zD,zH,hac,hdp,e1,e2,e3]
 have htp:=zAr th s.ts (b:={ a with asked:=true,ra:=⟨5,t,v⟩,at_:=0,nx:=0 }) ha
 rw[←htp] at hes
 rcases qH hth with rfl|rfl|rfl|rfl
 ·refine zA [.pack (GD.att { a with asked:=true,ra:=⟨5,t,v⟩,at_:=0,nx:=0 }) 7 [12,13],.pack (GD.eng (qU s 0 ⟨5,t,v⟩)) 0 [1,2,3,4,5,6,7,8,9,10]] [0] ?_ ?_ ?_<;> simp[zH,zJ,Att.ask,qU,zZ,ha,zD,o1,o2,o3,hdp]<;> exact hes
 ·refine zA [.pack (GD.att { a with asked:=true,ra:=⟨5,t,v⟩,at_:=0,nx:=0 }) 7 [12,13],.pack (GD.eng (qU s 1 ⟨5,t,v⟩)) 0 [1,2,3,4,5,6,8,7,9,10]] [0] ?_ ?_ ?_<;> simp[zH,zJ,Att.ask,qU,zZ,ha,zD,o1,o2,o3,hdp]<;> exact hes
 ·refine zA [.pack (GD.att { a with asked:=true,ra:=⟨5,t,v⟩,at_:=0,nx:=0 }) 7 [12,13],.pack (GD.eng (qU s 2 ⟨5,t,v⟩)) 0 [1,2,3,4,5,6,8,9,7,10]] [0] ?_ ?_ ?_<;> simp[zH,zJ,Att.ask,qU,zZ,ha,zD,o1,o2,o3,hdp]<;> exact hes
 ·refine zA [.pack (GD.att { a with asked:=true,ra:=⟨5,t,v⟩,at_:=0,nx:=0 }) 7 [12,13],.pack (GD.eng (qU s 3 ⟨5,t,v⟩)) 0 [1,2,3,4,5,6,8,9,10,7]] [0] ?_ ?_ ?_<;> simp[zH,zJ,Att.ask,qU,zZ,ha,zD,o1,o2,o3,hdp]<;> exact hes
theorem qSw (s:NS) (hs:s.Ok) (th:Nat) (hth:th<4) (a:Att) (ha:s.ts th=some a) (hf:a.asked=false) (t v:Int) (hd:a.fs.length≥5):zP Tryz.prog cfg 27 [.pointer (some ⟨0,0,none⟩),.int .i64 th,.agg #[.int .u8 6,.int .i64 t,.int .u64 v]] (AH.of [some (.hi (.eng s))])
  fun r H'=> r=.ret (.int .i64 8)/\H'=AH.of [some (.hi (.eng s))]:=by
 refine zP.ends ?_
 refine zP.openEng hth fun es cc hes=> ?_
 have ft:=jE hth hes
 have z1:¬(th:Int)<0:=by omega
 have z2:¬4<=(th:Int):=by omega
 have hac:=zAc a hf
 obtain⟨dp,hdp⟩:∃dp,(a.fs.length:Int) - 1=dp:=⟨_,rfl⟩
 have e1:(dp=0)=False:=eq_false (by omega)
 have e2:(0<dp)=True:=eq_true (by omega)
 have e3:(4<=dp)=True:=eq_true (by omega)
 refine zX (tbl:=xX) zAw 0 3 (af:=a27) rfl ?_
 rw[a27,b27,qB]
 refine⟨by simp,?_⟩
 simp -implicitDefEqProofs [jA,xX,qC,zCe,zBd,forms79,a79,b79,forms84,a84,b84,z1,z2,ha,ft,jO,zD,zH,hac,hdp,e1,e2,e3]
 rcases qH hth with rfl|rfl|rfl|rfl
 ·refine zA [.pack (GD.att a) 7 [12,13],.pack (GD.eng s) 0 [1,2,3,4,5,6,7,8,9,10]] [0] ?_ ?_ ?_<;> simp[zH,zJ,hac,ha,zD,hdp,o1,o2,o3]<;> exact hes
 ·refine zA [.pack (GD.att a) 7 [12,13],.pack (GD.eng s) 0 [1,2,3,4,5,6,8,7,9,10]] [0] ?_ ?_ ?_<;> simp[zH,zJ,hac,ha,zD,hdp,o1,o2,o3]<;> exact hes
 ·refine zA [.pack (GD.att a) 7 [12,13],.pack (GD.eng s) 0 [1,2,3,4,5,6,8,9,7,10]] [0] ?_ ?_ ?_<;> simp[zH,zJ,hac,ha,zD,hdp,o1,o2,o3]<;> exact hes
 ·refine zA [.pack (GD.att a) 7 [12,13],.pack (GD.eng s) 0 [1,2,3,4,5,6,8,9,10,7]] [0] ?_ ?_ ?_<;> simp[zH,zJ,hac,ha,zD,hdp,o1,o2,o3]<;> exact hes
theorem qSt (s:NS) (hs:s.Ok) (th:Nat) (hth:th<4) (a:Att) (ha:s.ts th=some a) (hf:a.asked=false) (t v:Int) (hd:a.fs.length≥5):zP Tryz.prog cfg 27 [.pointer (some ⟨0,0,none⟩),.int .i64 th,.agg #[.int .u8 7,.int .i64 t,.int .u64 v]] (AH.of [some (.hi (.eng s))])
  fun r H'=> r=.ret (.int .i64 0)/\H'=AH.of [some (.hi (.eng (qU s th ⟨7,t,v⟩)))]:=by
 refine zP.ends ?_
 refine zP.openEng hth fun es cc hes=> ?_
 have ft:=jE hth hes
 have z1:¬(th:Int)<0:=by omega
 have z2:¬4<=(th:Int):=by omega
 have hac:=zAc a hf
 obtain⟨dp,hdp⟩:∃dp,(a.fs.length:Int) - 1=dp:=⟨_,rfl⟩
 have e1:(dp=0)=False:=eq_false (by omega)
 have e2:(0<dp)=True:=eq_true (by omega)
 have e3:(4<=dp)=True:=eq_true (by omega)
 refine zX (tbl:=xX) zAw 0 3 (af:=a27) rfl ?_
 rw[a27,b27,qB]
 refine⟨by simp,?_⟩
 simp -implicitDefEqProofs [jA,xX,qC,zCe,zBd,forms79,a79,b79,forms84,a84,b84,z1,z2,ha,ft,jO,zD,zH,hac,hdp,e1,e2,e3]
 have htp:=zAr th s.ts (b:={ a with asked:=true,ra:=⟨7,t,v⟩,at_:=0,nx:=0 }) ha
 rw[←htp] at hes
 rcases qH hth with rfl|rfl|rfl|rfl
 ·refine zA [.pack (GD.att { a with asked:=true,ra:=⟨7,t,v⟩,at_:=0,nx:=0 }) 7 [12,13],.pack (GD.eng (qU s 0 ⟨7,t,v⟩)) 0 [1,2,3,4,5,6,7,8,9,10]] [0] ?_ ?_ ?_<;> simp[zH,zJ,Att.ask,qU,zZ,ha,zD,o1,o2,o3,hdp]<;> exact hes
 ·refine zA [.pack (GD.att { a with asked:=true,ra:=⟨7,t,v⟩,at_:=0,nx:=0 }) 7 [12,13],.pack (GD.eng (qU s 1 ⟨7,t,v⟩)) 0 [1,2,3,4,5,6,8,7,9,10]] [0] ?_ ?_ ?_<;> simp[zH,zJ,Att.ask,qU,zZ,ha,zD,o1,o2,o3,hdp]<;> exact hes
 ·refine zA [.pack (GD.att { a with asked:=true,ra:=⟨7,t,v⟩,at_:=0,nx:=0 }) 7 [12,13],.pack (GD.eng (qU s 2 ⟨7,t,v⟩)) 0 [1,2,3,4,5,6,8,9,7,10]] [0] ?_ ?_ ?_<;> simp[zH,zJ,Att.ask,qU,zZ,ha,zD,o1,o2,o3,hdp]<;> exact hes
 ·refine zA [.pack (GD.att { a with asked:=true,ra:=⟨7,t,v⟩,at_:=0,nx:=0 }) 7 [12,13],.pack (GD.eng (qU s 3 ⟨7,t,v⟩)) 0 [1,2,3,4,5,6,8,9,10,7]] [0] ?_ ?_ ?_<;> simp[zH,zJ,Att.ask,qU,zZ,ha,zD,o1,o2,o3,hdp]<;> exact hes
theorem zVb (s:NS) (th:Nat) (hth:th<4) (hb:s.ts th=none∨∃a,s.ts th=some a/\a.asked=true/\1<=a.ra.k) (x:Ak):zP Tryz.prog cfg 27 [.pointer (some ⟨0,0,none⟩),.int .i64 th,.agg #[.int .u8 x.k,.int .i64 x.t,.int .u64 x.v]] (AH.of [some (.hi (.eng s))])
  fun r H'=> r=.ret (.int .i64 (zCl s th x))/\H'=AH.of [some (.hi (.eng s))]:=by
 refine zP.ends ?_
 refine zP.openEng hth fun es cc hes=> ?_
 have ft:=jE hth hes
 have z1:¬(th:Int)<0:=by omega
 have z2:¬4<=(th:Int):=by omega
 rcases hb with ha|⟨a,ha,hk,hk1⟩
 ·refine zX (tbl:=[]) (by simp) 0 3 (af:=a27) rfl ?_
  rw[a27,b27,qB]
  refine⟨by simp,?_⟩
  simp -implicitDefEqProofs [jA,forms79,a79,b79,z1,z2,ha,ft,jO]
  rcases qH hth with rfl|rfl|rfl|rfl
  ·refine zA [.pack (GD.eng s) 0 [1,2,3,4,5,6,7,8,9,10]] [0] ?_ ?_ ?_<;> simp[zJ,ha,o1,o2,o3,zCl]<;> exact hes
  ·refine zA [.pack (GD.eng s) 0 [1,2,3,4,5,6,8,7,9,10]] [0] ?_ ?_ ?_<;> simp[zJ,ha,o1,o2,o3,zCl]<;> exact hes
  ·refine zA [.pack (GD.eng s) 0 [1,2,3,4,5,6,8,9,7,10]] [0] ?_ ?_ ?_<;> simp[zJ,ha,o1,o2,o3,zCl]<;> exact hes
  ·refine zA [.pack (GD.eng s) 0 [1,2,3,4,5,6,8,9,10,7]] [0] ?_ ?_ ?_<;> simp[zJ,ha,o1,o2,o3,zCl]<;> exact hes
 ·have hac:=xM a hk
  have hk0:¬a.ra.k=0:=by omega
  refine zX (tbl:=[]) (by simp) 0 3 (af:=a27) rfl ?_
  rw[a27,b27,qB]
  refine⟨by simp,?_⟩
  simp -implicitDefEqProofs [jA,forms79,a79,b79,z1,z2,ha,ft,jO,zD,zH,hac,hk0]
  rcases qH hth with rfl|rfl|rfl|rfl
  ·refine zA [.pack (GD.att a) 7 [12,13],.pack (GD.eng s) 0 [1,2,3,4,5,6,7,8,9,10]] [0] ?_ ?_ ?_<;> simp[zH,zJ,hac,ha,zD,o1,o2,o3,zCl,hk]<;> exact hes
  ·refine zA [.pack (GD.att a) 7 [12,13],.pack (GD.eng s) 0 [1,2,3,4,5,6,8,7,9,10]] [0] ?_ ?_ ?_<;> simp[zH,zJ,hac,ha,zD,o1,o2,o3,zCl,hk]<;> exact hes
  ·refine zA [.pack (GD.att a) 7 [12,13],.pack (GD.eng s) 0 [1,2,3,4,5,6,8,9,7,10]] [0] ?_ ?_ ?_<;> simp[zH,zJ,hac,ha,zD,o1,o2,o3,zCl,hk]<;> exact hes
  ·refine zA [.pack (GD.att a) 7 [12,13],.pack (GD.eng s) 0 [1,2,3,4,5,6,8,9,10,7]] [0] ?_ ?_ ?_<;> simp[zH,zJ,hac,ha,zD,o1,o2,o3,zCl,hk]<;> exact hes
theorem qEi (d:GD) (t:Int) (ht:t<0∨4<=t) (x:Ak):zP Tryz.prog cfg 27 [.pointer (some ⟨0,0,none⟩),.int .i64 t,.agg #[.int .u8 x.k,.int .i64 x.t,.int .u64 x.v]] (AH.of [some (.hi d)])
  fun r H'=> r=.ret (.int .i64 2)/\H'=AH.of [some (.hi d)]:=by
 refine zP.ends ?_
 have ht':¬t<0->4<=t:=fun h=> by omega
 refine zX (tbl:=[]) (by simp) 0 3 (af:=a27) rfl ?_
 rw[a27,b27,qB]
 refine⟨by simp,?_⟩
 by_cases h1:t<0
 ·simp -implicitDefEqProofs [forms79,a79,b79,h1]
  refine zA [] [0] ?_ ?_ ?_<;> simp
 ·simp -implicitDefEqProofs [forms79,a79,b79,h1,ht' h1]
  refine zA [] [0] ?_ ?_ ?_<;> simp
end YtnemoimbeefngaaGreat
end Go.Proofs
namespace Go.Proofs
namespace YtnemoimbeefngaaGreat
open Go.Abs
theorem zRl (s:NS) (hs:s.Ok) (th:Nat) (hth:th<4) (a:Att) (ha:s.ts th=some a) (hf:a.asked=false) (x:Ak) (hk0:0<=x.k):zP Tryz.prog cfg 27 [.pointer (some ⟨0,0,none⟩),.int .i64 th,.agg #[.int .u8 x.k,.int .i64 x.t,.int .u64 x.v]] (AH.of [some (.hi (.eng s))])
  fun r H'=> r=.ret (.int .i64 (zA9 a s.hp.length x))/\H'=AH.of [some (.hi (.eng (if zA9 a s.hp.length x=0 then qU s th x else s)))]:=by
 have hl1:1<=a.fs.length:=by
  have:=(hs.ts th a ha).fs.1
  cases h:a.fs with
  |nil=> exact absurd h this
  |cons f fs=> simp
 obtain⟨k,t,v⟩:=x
 simp only at hk0⊢
 have hd:a.fs.length=1∨(a.fs.length≠1/\1<=a.fs.length/\a.fs.length<5)∨a.fs.length≥5:=by omega
 have ht:t<0∨(0<=t/\(s.hp.length:Int)<=t)∨(0<=t/\t<s.hp.length):=by omega
 have go:∀{c:Int} {s':NS},zA9 a s.hp.length ⟨k,t,v⟩=c->(if c=0 then qU s th ⟨k,t,v⟩ else s)=s'->zP Tryz.prog cfg 27 [.pointer (some ⟨0,0,none⟩),.int .i64 th,.agg #[.int .u8 k,.int .i64 t,.int .u64 v]] (AH.of [some (.hi (.eng s))]) (fun r H'=> r=.ret (.int .i64 c)/\H'=AH.of [some (.hi (.eng s'))])->
   zP Tryz.prog cfg 27 [.pointer (some ⟨0,0,none⟩),.int .i64 th,.agg #[.int .u8 k,.int .i64 t,.int .u64 v]] (AH.of [some (.hi (.eng s))]) (fun r H'=> r=.ret (.int .i64 (zA9 a s.hp.length ⟨k,t,v⟩))/\H'=AH.of [some (.hi (.eng (if zA9 a s.hp.length ⟨k,t,v⟩=0 then qU s th ⟨k,t,v⟩ else s)))]):=by
  intro c s' h1 h2 h3
  rw[h1,h2];exact h3
 have hk:k=0∨7<k∨k=1∨k=2∨k=3∨k=4∨k=5∨k=6∨k=7:=by omega
 rcases hk with rfl|hk|rfl|rfl|rfl|rfl|rfl|rfl|rfl
 ·exact go (by simp[zA9]) rfl (ask_0 s hs th hth a ha hf t v)
 ·exact go (by simp[zA9,hk]) rfl (ask_9 s hs th hth a ha hf k hk t v)
 ·rcases ht with ht|ht|ht
  ·exact go (by simp[zA9,ht]) rfl (qTd s hs th hth a ha hf t v ht)
  ·exact go (by simp[zA9,ht.2]) rfl (qTf s hs th hth a ha hf t v ht)
  ·have t1:¬t<0:=by omega
   have t2:¬(s.hp.length:Int)<=t:=by omega
   have hw:zA9 a s.hp.length ⟨1,t,v⟩=0:=by simp[zA9,t1,t2]
   rcases hd with hd|hd|hd
   ·exact go hw rfl (qTc s hs th hth a ha hf t v ht hd)
   ·exact go hw rfl (qTe s hs th hth a ha hf t v ht hd)
   ·exact go hw rfl (qTg s hs th hth a ha hf t v ht hd)
 ·rcases ht with ht|ht|ht
  ·exact go (by simp[zA9,ht]) rfl (qS8 s hs th hth a ha hf t v ht)
  ·exact go (by simp[zA9,ht.2]) rfl (qTa s hs th hth a ha hf t v ht)
  ·have t1:¬t<0:=by omega
   have t2:¬(s.hp.length:Int)<=t:=by omega
   cases hr:zAq v with
   |false=> exact go (by simp[zA9,t1,t2,hr]) rfl (qS7 s hs th hth a ha hf t v ht hr)
   |true=>
    have hw:zA9 a s.hp.length ⟨2,t,v⟩=0:=by simp[zA9,t1,t2,hr]
    rcases hd with hd|hd|hd
    ·exact go hw rfl (qS6 s hs th hth a ha hf t v ht hr hd)
    ·exact go hw rfl (qS9 s hs th hth a ha hf t v ht hr hd)
    ·exact go hw rfl (qTb s hs th hth a ha hf t v ht hr hd)
 ·rcases hd with hd|hd|hd
  ·exact go (by simp[zA9];omega) rfl (qS3 s hs th hth a ha hf t v hd)
  ·exact go (by simp[zA9];omega) rfl (qS4 s hs th hth a ha hf t v hd)
  ·have h5:5<=a.fs.length:=hd
   exact go (by simp[zA9,h5]) rfl (qS5 s hs th hth a ha hf t v hd)
 ·rcases hd with hd|hd|hd
  ·exact go (by simp[zA9,hd]) rfl (qS0 s hs th hth a ha hf t v hd)
  ·exact go (by simp[zA9,hd.1]) rfl (qS1 s hs th hth a ha hf t v hd)
  ·have h5:¬a.fs.length=1:=by omega
   exact go (by simp[zA9,h5]) rfl (qS2 s hs th hth a ha hf t v hd)
 ·rcases hd with hd|hd|hd
  ·exact go (by simp[zA9,hd]) rfl (qSx s hs th hth a ha hf t v hd)
  ·exact go (by simp[zA9,hd.1]) rfl (qSy s hs th hth a ha hf t v hd)
  ·have h5:¬a.fs.length=1:=by omega
   exact go (by simp[zA9,h5]) rfl (qSz s hs th hth a ha hf t v hd)
 ·rcases hd with hd|hd|hd
  ·exact go (by simp[zA9,hd]) rfl (qSu s hs th hth a ha hf t v hd)
  ·have h5:1<a.fs.length:=by omega
   exact go (by simp[zA9,h5]) rfl (qSv s hs th hth a ha hf t v hd)
  ·have h5:1<a.fs.length:=by omega
   exact go (by simp[zA9,h5]) rfl (qSw s hs th hth a ha hf t v hd)
 ·rcases hd with hd|hd|hd
  ·exact go (by simp[zA9]) rfl (qSr s hs th hth a ha hf t v hd)
  ·exact go (by simp[zA9]) rfl (qSs s hs th hth a ha hf t v hd)
  ·exact go (by simp[zA9]) rfl (qSt s hs th hth a ha hf t v hd)
def zL4 (s:NS) (t:Int) (x:Ak):Int:=match zBv t with
 |none=> 2
 |some th=> zCl s th x
def zEy (s:NS) (t:Int) (x:Ak):NS:=match zBv t with
 |none=> s
 |some th=> if zCl s th x=0 then qU s th x else s
def d27:zAl
 |.eng s,[.int .i64 t,.agg ⟨[.int .u8 k,.int .i64 tv,.int .u64 v]⟩]=> some (s.Ok/\0<=k,.int .i64 (zL4 s t ⟨k,tv,v⟩),.eng (zEy s t ⟨k,tv,v⟩))
 |_,_=> none
theorem zWy:qI Tryz.prog cfg 27 (qC d27):=xJ fun d rest p v d' h hp=> by
 unfold d27 at h
 split at h
 case h_2=> cases h
 rename_i s t k tv v
 cases h
 refine⟨rfl,rfl,?_⟩
 cases ht:zBv t with
 |none=> simp only[zL4,zEy,ht];exact qEi _ _ (zDo ht) ⟨k,tv,v⟩
 |some th=>
  obtain⟨h1,rfl⟩:=zA4 ht
  simp only[zL4,zEy,ht]
  cases ha:s.ts th with
  |none=>
   have e:zCl s th ⟨k,tv,v⟩=8:=by simp[zCl,ha]
   rw[if_neg (by rw[e];decide)]
   exact zVb s th h1 (.inl ha) ⟨k,tv,v⟩
  |some a=>
   cases hf:a.asked with
   |true=>
    have e:zCl s th ⟨k,tv,v⟩=7:=by simp[zCl,ha,hf]
    rw[if_neg (by rw[e];decide)]
    exact zVb s th h1 (.inr ⟨a,ha,hf,((hp.1.ts th a ha).ask hf).1⟩) ⟨k,tv,v⟩
   |false=>
    have e:zCl s th ⟨k,tv,v⟩=zA9 a s.hp.length ⟨k,tv,v⟩:=by simp[zCl,ha,hf]
    rw[e]
    exact zRl s hp.1 th h1 a ha hf ⟨k,tv,v⟩ hp.2
end YtnemoimbeefngaaGreat
end Go.Proofs
