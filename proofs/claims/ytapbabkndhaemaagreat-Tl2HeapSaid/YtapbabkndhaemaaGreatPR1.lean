/-
  THE DATA, and how each lies.
-/
import Derived.Test.YtapbabkndhaemaaGreatPF
import Derived.Test.YtapbabkndhaemaaGreatPA3
import Derived.Test.YtapbabkndhaemaaGreatRows
import Derived.Shelf.Slices.CompactI
import Derived.Shelf.Sort.Plain
import Derived.Test.YtapbabkndhaemaaGreatProg
set_option linter.unusedSimpArgs false
set_option linter.unusedVariables false
set_option linter.unnecessarySimpa false
set_option linter.unusedSectionVars false
set_option maxHeartbeats 32000000
set_option maxRecDepth 100000
namespace Go.Proofs
namespace YtapbabkndhaemaaGreat
open Go.Abs
structure Ent where
 t:Int
 v:Int
 n:Int
 deriving DecidableEq
structure Pr where
 t:Int
 v:Int
 deriving DecidableEq
structure Ev where
 k:Int
 a:Int
 t:Int
 v:Int
 deriving DecidableEq
structure Ak where
 k:Int
 t:Int
 v:Int
 deriving DecidableEq
structure Att where
 n:Nat
 snap:Int
 es:List Ent
 fs:List (List Pr)
 asked:Bool
 ra:Ak
 at_:Nat
 back:Nat
 nx:Nat
 seen:Int
 val:Int
 dec:Bool
 deriving DecidableEq
structure NS where
 o:Option Int
 c:Int
 hp:List Int
 ts:Nat->Option Att
 ev:List Ev
 ky:List Int
 wy:List Int
structure TA where
 n:Nat
 rv:Int
 wv:Int
 es:List Ent
 fs:List (List Pr)
 ra:Ak
 ph:Nat
 nx:Nat
 sw:Int
 sv:Int
 ss:Nat
 dec:Bool
 deriving DecidableEq
structure Fate where
 n:Nat
 key:Int
 why:Int
 deriving DecidableEq
structure TS where
 ws:List Int
 c:Int
 hp:List Int
 ts:Nat->Option TA
 ev:List Ev
 ft:List Fate
inductive GD where
 |lk (o:Option Int) (c:Int)
 |rlk (o:Option Int) (c:Int)
 |stk (fs:List (List Pr))
 |log (fs:List (List Pr))
 |rlog (fs:List (List Pr))
 |att (a:Att)
 |ratt (a:Att)
 |eng (s:NS)
 |reng (s:NS)
 |set (c:Nat) (l:List Ent)
 |rset (l:List Ent)
 |tab (ws:List Int) (c:Int)
 |rtab (ws:List Int) (c:Int)
 |vints (l:List Int)
 |tatt (a:TA)
 |teng (s:TS)
def Fate.cells (f:Fate):List Value:=[.int .i64 f.n,.int .u64 f.key,.int .u8 f.why]
def qN (l:List Fate):List Value:=l.flatMap Fate.cells
def Ent.cells (e:Ent):List Value:=[.int .i64 e.t,.int .u64 e.v,.int .u64 e.n]
def Ent.val (e:Ent):Value:=.agg e.cells.toArray
def zCy (l:List Ent):List (Value × Value):=l.map fun e=> (.int .i64 e.t,e.val)
def zDz (l:List Ent):List Value:=l.map fun e=> .int .i64 e.t
def zD2 (l:List Ent):List Value:=l.flatMap Ent.cells
def us (h:List Int):List Value:=h.map fun v=> .int .u64 v
def Pr.cells (p:Pr):List Value:=[.int .i64 p.t,.int .u64 p.v]
def prs (l:List Pr):List Value:=l.flatMap Pr.cells
def Ev.cells (e:Ev):List Value:=[.int .u8 e.k,.int .i64 e.a,.int .i64 e.t,.int .u64 e.v]
def evs (l:List Ev):List Value:=l.flatMap Ev.cells
def u8s (l:List Int):List Value:=l.map fun v=> .int .u8 v
def Att.ask (a:Att):Ak:=if a.asked then a.ra else ⟨0,0,0⟩
def nextP:List (List Pr)->Value
 |[]=> .pointer none
 |_::_=> .pointer (some ⟨2,0,none⟩)
def nextO:List (List Pr)->List (AObj GD)
 |[]=> []
 |f::fs=> [.hi (.stk (f::fs))]
def stkO:List (List Pr)->List (AObj GD)
 |[]=> [.arr 213 []]
 |f::fs=> .arr 213 [.slice (some ⟨1,0,none⟩) f.length 1,nextP fs]::.arr 104 (prs f)::nextO fs
def lkO:Option Int->Int->List (AObj GD)
 |none,c=> [.arr 0 [.pointer none,.int .u64 c]]
 |some x,c=> [.arr 0 [.pointer (some ⟨1,0,none⟩),.int .u64 c],.arr 3 [.int .i64 x]]
def qW (f:List Pr) (t:Int):Option Int:=(f.find? fun p=> p.t==t).map (·.v)
def zFz:List Int:=[0,1,2,3,4,5,6,7,8,9,10,11]
def jP (f:List Pr):List Value:=(zFz.map fun t=> .bool (qW f t).isSome)++zFz.map fun t=> .int .u64 ((qW f t).getD 0)
def zV3:Option Att->AObj GD
 |some a=> .hi (.att a)
 |none=> .arr 0 []
def zRz:Option Att->AObj GD
 |some a=> .hi (.ratt a)
 |none=> .arr 0 []
def tp1 (i:Int) (k:Nat):Option Att->List (Value × Value)
 |some _=> [(.int .i64 i,.pointer (some ⟨k,0,none⟩))]
 |none=> []
def tpK (k0 k1 k2 k3:Nat) (ts:Nat->Option Att):List (Value × Value):=tp1 0 k0 (ts 0)++(tp1 1 k1 (ts 1)++(tp1 2 k2 (ts 2)++tp1 3 k3 (ts 3)))
def rptr (k:Nat):Option Att->Value
 |some _=> .pointer (some ⟨k,0,none⟩)
 |none=> .pointer none
def zBz:Option TA->AObj GD
 |some a=> .hi (.tatt a)
 |none=> .arr 98 []
def zBc (k:Nat):Option TA->Value
 |some _=> .pointer (some ⟨k,0,none⟩)
 |none=> .pointer none
def keyC (ky wy:List Int):List Value:=(ky.zip wy).flatMap fun x=> [.int .u64 x.1,.int .u8 x.2]
def frag:GD->List (AObj GD)
 |.lk o c=> lkO o c
 |.rlk o c=> [.arr 0 [.int .u64 c,.bool o.isSome,.int .i64 (o.getD 0)]]
 |.stk fs=> stkO fs
 |.log fs=> [.arr 168 [.pointer (some ⟨1,0,none⟩),.int .i64 ((fs.length:Int) - 1)],.hi (.stk fs)]
 |.rlog fs=> [.arr 196 [.slice (some ⟨1,0,none⟩) fs.length 1],.arr 246 (fs.reverse.flatMap jP)]
 |.att a=> [.arr 0 [.pointer (some ⟨1,0,none⟩),.pointer (some ⟨2,0,none⟩),.int .i64 a.n,.int .u64 a.snap,.int .u8 a.ask.k,.int .i64 a.ask.t,.int .u64 a.ask.v,.int .i64 a.at_,.int .i64 a.back,.int .i64 a.nx,.int .u64 a.seen,.int .u64 a.val,.bool a.dec],
  .hi (.set 0 a.es),.hi (.log a.fs)]
 |.ratt a=> [.arr 0 [.int .i64 a.n,.int .u64 a.snap,.pointer (some ⟨1,0,none⟩),.pointer (some ⟨2,0,none⟩),.bool a.asked,.int .u8 a.ra.k,.int .i64 a.ra.t,.int .u64 a.ra.v,.int .i64 (if a.at_<4 then a.at_ else a.at_+6),.int .i64 a.back,.int .i64 a.nx,.int .u64 a.seen,.int .u64 a.val,.bool a.dec],
  .hi (.rset a.es),.hi (.rlog a.fs)]
 |.eng s=> [.arr 0 [.pointer (some ⟨1,0,none⟩),.slice (some ⟨2,0,none⟩) s.hp.length 1,.map (some 3),.slice (some ⟨4,0,none⟩) s.ev.length 1,.slice (some ⟨5,0,none⟩) s.ky.length 1,.slice (some ⟨6,0,none⟩) s.wy.length 1],
  .hi (.lk s.o s.c),.arr 30 (us s.hp),.mapq (tpK 7 8 9 10 s.ts),.arr 121 (evs s.ev),.arr 29 (us s.ky),.arr 39 (u8s s.wy),zV3 (s.ts 0),zV3 (s.ts 1),zV3 (s.ts 2),zV3 (s.ts 3)]
 |.reng s=> [.arr 0 [.slice (some ⟨1,0,none⟩) s.hp.length 1,.pointer (some ⟨2,0,none⟩),rptr 5 (s.ts 0),rptr 6 (s.ts 1),rptr 7 (s.ts 2),rptr 8 (s.ts 3),.slice (some ⟨3,0,none⟩) s.ev.length 1,.slice (some ⟨4,0,none⟩) s.ky.length 1],
  .arr 30 (us s.hp),.hi (.rlk s.o s.c),.arr 121 (evs s.ev),.arr 0 (keyC s.ky s.wy),zRz (s.ts 0),zRz (s.ts 1),zRz (s.ts 2),zRz (s.ts 3)]
 |.set c l=> [.arr 163 [.slice (some ⟨1,0,none⟩) l.length 1,.map (some 2)],.arr 3 (zDz l),.mapq (zCy l)]
 |.rset l=> [.arr 193 [.slice (some ⟨1,0,none⟩) l.length 1],.arr 191 (zD2 l)]
 |.tab ws c=> [.arr 159 [.int .u64 c,.slice (some ⟨1,0,none⟩) ws.length 1],.arr 29 (us ws)]
 |.rtab ws c=> [.arr 149 [.slice (some ⟨1,0,none⟩) ws.length 1,.int .u64 c],.arr 29 (us ws)]
 |.vints l=> [.arr 55 [.slice (some ⟨1,0,none⟩) l.length 1],.arr 3 (qI l)]
 |.tatt a=> [.arr 98 [.pointer (some ⟨1,0,none⟩),.pointer (some ⟨2,0,none⟩),.int .i64 a.n,.int .u64 a.rv,.int .u64 a.wv,.int .u8 a.ra.k,.int .i64 a.ra.t,.int .u64 a.ra.v,.int .i64 a.ph,.int .i64 a.nx,.int .u64 a.sw,.int .u64 a.sv,.int .i64 a.ss,.bool a.dec],
  .hi (.set 0 a.es),.hi (.log a.fs)]
 |.teng s=> [.arr 89 [.pointer (some ⟨1,0,none⟩),.slice (some ⟨2,0,none⟩) s.hp.length 1,zBc 5 (s.ts 0),zBc 6 (s.ts 1),zBc 7 (s.ts 2),zBc 8 (s.ts 3),.slice (some ⟨3,0,none⟩) s.ev.length 1,.slice (some ⟨4,0,none⟩) s.ft.length 1],
  .hi (.tab s.ws s.c),.arr 30 (us s.hp),.arr 121 (evs s.ev),.arr 100 (qN s.ft),zBz (s.ts 0),zBz (s.ts 1),zBz (s.ts 2),zBz (s.ts 3)]
theorem qX (f:List Pr):frag (.stk [f])=[.arr 213 [.slice (some ⟨1,0,none⟩) f.length 1,.pointer none],.arr 104 (prs f)]:=rfl
theorem qZ (f g:List Pr) (fs:List (List Pr)):frag (.stk (f::g::fs))=[.arr 213 [.slice (some ⟨1,0,none⟩) f.length 1,.pointer (some ⟨2,0,none⟩)],.arr 104 (prs f),.hi (.stk (g::fs))]:=rfl
theorem qV (fs:List (List Pr)):frag (.log fs)=[.arr 168 [.pointer (some ⟨1,0,none⟩),.int .i64 ((fs.length:Int) - 1)],.hi (.stk fs)]:=rfl
theorem zGx (c:Nat) (l:List Ent):frag (.set c l)=[.arr 163 [.slice (some ⟨1,0,none⟩) l.length 1,.map (some 2)],.arr 3 (zDz l),.mapq (zCy l)]:=rfl
theorem xG (ws:List Int) (c:Int):frag (.tab ws c)=[.arr 159 [.int .u64 c,.slice (some ⟨1,0,none⟩) ws.length 1],.arr 29 (us ws)]:=rfl
theorem zDp (ws:List Int) (c:Int):frag (.rtab ws c)=[.arr 149 [.slice (some ⟨1,0,none⟩) ws.length 1,.int .u64 c],.arr 29 (us ws)]:=rfl
theorem zIp (l:List Int):frag (.vints l)=[.arr 55 [.slice (some ⟨1,0,none⟩) l.length 1],.arr 3 (qI l)]:=rfl
theorem zX (a:TA):frag (.tatt a)=[.arr 98 [.pointer (some ⟨1,0,none⟩),.pointer (some ⟨2,0,none⟩),.int .i64 a.n,.int .u64 a.rv,.int .u64 a.wv,.int .u8 a.ra.k,.int .i64 a.ra.t,.int .u64 a.ra.v,.int .i64 a.ph,.int .i64 a.nx,.int .u64 a.sw,.int .u64 a.sv,.int .i64 a.ss,.bool a.dec],
 .hi (.set 0 a.es),.hi (.log a.fs)]:=rfl
theorem qG (s:TS):frag (.teng s)=[.arr 89 [.pointer (some ⟨1,0,none⟩),.slice (some ⟨2,0,none⟩) s.hp.length 1,zBc 5 (s.ts 0),zBc 6 (s.ts 1),zBc 7 (s.ts 2),zBc 8 (s.ts 3),.slice (some ⟨3,0,none⟩) s.ev.length 1,.slice (some ⟨4,0,none⟩) s.ft.length 1],
 .hi (.tab s.ws s.c),.arr 30 (us s.hp),.arr 121 (evs s.ev),.arr 100 (qN s.ft),zBz (s.ts 0),zBz (s.ts 1),zBz (s.ts 2),zBz (s.ts 3)]:=rfl
abbrev cfg:=zAw Tryz.prog frag
abbrev G:=gX Tryz.prog frag
theorem zP {tbl:List (FuncId × qH GD)} (h:∀x∈tbl,zY Tryz.prog cfg x.1 x.2) (F d:Nat) {f:FuncId} {af:AF} (hf:forms f=some af) {args:List Value} {H:AH GD} {K:AEnd->AH GD->Prop}
  (hr:af.run (G (xS G (zHh (jT Tryz.prog cfg) tbl) forms F d noY) (xS G (zHh (jT Tryz.prog cfg) tbl) forms F d)) F args H K):zD Tryz.prog cfg f args H K:=
 qRx jG hmix hext (qS h) qN3 F d hf hr
end YtapbabkndhaemaaGreat
end Go.Proofs
/-
 WHAT IS READ off arguments and heaps.
-/
namespace Go.Proofs
namespace YtapbabkndhaemaaGreat
open Go.Abs
def zTl:Value->Option Nat
 |.pointer (some ⟨k,0,none⟩)=> some k
 |_=> none
theorem qTz (k:Nat):zTl (.pointer (some ⟨k,0,none⟩))=some k:=rfl
theorem zX9 {v:Value} {k:Nat} (h:zTl v=some k):v=.pointer (some ⟨k,0,none⟩):=by
 unfold zTl at h
 split at h
 ·cases h;rfl
 ·cases h
def asU:Value->Option Int
 |.int .u64 v=> some v
 |_=> none
def asI:Value->Option Int
 |.int .i64 v=> some v
 |_=> none
theorem qX2 (v:Int):asU (.int .u64 v)=some v:=rfl
theorem qX3 (v:Int):asI (.int .i64 v)=some v:=rfl
theorem zT4 {x:Value} {v:Int} (h:asU x=some v):x=.int .u64 v:=by
 unfold asU at h
 split at h
 ·cases h;rfl
 ·cases h
theorem qO {H:AH GD} {k:Nat} {o:AObj GD} (h:H.get k=some o):H.upd k o=H:=by
 refine AH.ext' rfl fun j=> ?_
 rw[AH.get_upd]
 split
 ·rename_i e;subst e;exact h.symm
 ·rfl
theorem xZ (h:List Int) (i:Nat) (v:Int):(us h).set i (.int .u64 v)=us (h.set i v):=by simp[us,List.map_set]
theorem qBr (l:List Int):(us l).take l.length=us l:=List.take_of_length_le (by simp[us])
theorem zAd (h:List Int):(us h).length=h.length:=by simp[us]
theorem qFq (h:List Int):jJ (us h)=true:=by
 induction h with
 |nil=> rfl
 |cons v h ih=> simp[us,jJ,xD] at ih⊢;exact ih
theorem qWt (θ:Nat->Nat) (h:List Int):zAh θ (us h)=us h:=xV θ _ (qFq h)
theorem zEt {h:List Int} {i:Nat} {v:Int} (hv:h[i]?=some v):(us h)[i]?=some (.int .u64 v):=by simp[us,hv]
def sl0:Value->Option (Nat × Nat × Nat)
 |.slice (some ⟨k,0,none⟩) n c=> some (k,n,c)
 |_=> none
theorem qVt (k n c:Nat):sl0 (.slice (some ⟨k,0,none⟩) n c)=some (k,n,c):=rfl
theorem qB4 {v:Value} {q:Nat × Nat × Nat} (h:sl0 v=some q):v=.slice (some ⟨q.1,0,none⟩) q.2.1 q.2.2:=by
 unfold sl0 at h
 split at h
 ·cases h;rfl
 ·cases h
def zL7:List Value->Option (List Int)
 |[]=> some []
 |.int .u64 v::l=> (zL7 l).map (v::·)
 |_=> none
theorem zFs:∀h:List Int,zL7 (us h)=some h
 |[]=> rfl
 |v::h=> by
  show (zL7 (us h)).map (v::·)=_
  rw[zFs h];rfl
theorem zLi:∀{cs:List Value} {h:List Int},zL7 cs=some h->cs=us h
 |[],h,e=> by cases e;rfl
 |v::cs,h,e=> by
  unfold zL7 at e
  split at e
  ·simp_all
  ·rename_i v' l heq
   cases heq
   simp only[Option.map_eq_some_iff] at e
   obtain⟨h',e1,rfl⟩:=e
   rw[zLi e1];rfl
  ·cases e
def zDa (H:AH GD) (k:Nat):Option (TypeId × List Int):=
 match H.get k with
 |some (.arr e cs)=> (zL7 cs).map fun h=> (e,h)
 |_=> none
theorem zDk {H:AH GD} {k:Nat} {x:TypeId × List Int} (hg:zDa H k=some x):H.get k=some (.arr x.1 (us x.2)):=by
 unfold zDa at hg
 split at hg
 ·rename_i e cs he
  simp only[Option.map_eq_some_iff] at hg
  obtain⟨h,h1,rfl⟩:=hg
  rw[he,zLi h1]
 ·cases hg
theorem qBh (H:AH GD) (k:Nat) (o o':AObj GD):(H.upd k o).upd k o'=H.upd k o':=by
 refine AH.ext' rfl fun j=> ?_
 simp only[AH.get_upd]
 split<;> rfl
theorem qVi:us []=[]:=rfl
def zJu:List Value->Option (List Int)
 |[]=> some []
 |.int .i64 v::l=> (zJu l).map (v::·)
 |_=> none
theorem zCs:∀h:List Int,zJu (qI h)=some h
 |[]=> rfl
 |v::h=> by
  show (zJu (qI h)).map (v::·)=_
  rw[zCs h];rfl
theorem zNc:∀{cs:List Value} {h:List Int},zJu cs=some h->cs=qI h
 |[],h,e=> by cases e;rfl
 |v::cs,h,e=> by
  unfold zJu at e
  split at e
  ·simp_all
  ·rename_i v' l heq
   cases heq
   simp only[Option.map_eq_some_iff] at e
   obtain⟨h',e1,rfl⟩:=e
   rw[zNc e1];rfl
  ·cases e
theorem zFp {h:List Int} {i:Nat} {v:Int} (hv:h[i]?=some v):(qI h)[i]?=some (.int .i64 v):=by simp[qI,hv]
theorem zF8 {h:List Int} {i:Nat} {v:Int} (hv:h[i]?=some v) (p:i<(qI h).length):(qI h)[i]'p=.int .i64 v:=by
 have:=zFp hv
 rw[List.getElem?_eq_getElem p] at this
 exact Option.some.inj this
theorem zEl (a b:List Int):qI (a++b)=qI a++qI b:=by simp[qI]
theorem zJp (l:List Int):(qI l).take l.length=qI l:=List.take_of_length_le (by simp)
def zA1 (H:AH GD) (k:Nat):Option (TypeId × List Int):=
 match H.get k with
 |some (.arr e cs)=> (zJu cs).map fun h=> (e,h)
 |_=> none
theorem zA8 {H:AH GD} {k:Nat} {x:TypeId × List Int} (hg:zA1 H k=some x):H.get k=some (.arr x.1 (qI x.2)):=by
 unfold zA1 at hg
 split at hg
 ·rename_i e cs he
  simp only[Option.map_eq_some_iff] at hg
  obtain⟨h,h1,rfl⟩:=hg
  rw[he,zNc h1]
 ·cases hg
theorem jV {i n:Nat} (hi:i<n) (hn:n<=1000000):IntKind.i64.wrap ((i:Int)+1)=((i+1:Nat):Int):=by rw[qF (by omega) (by omega)];omega
theorem qGy {α:Type} {a b:List α} (hl:a.length=b.length) (h:∀j,j<a.length->a[j]?=b[j]?):a=b:=by
 refine List.ext_getElem? fun j=> ?_
 rcases Nat.lt_or_ge j a.length with hj|hj
 ·exact h j hj
 ·rw[List.getElem?_eq_none hj,List.getElem?_eq_none (by omega)]
theorem zEk (v:Int):qI [v]=[.int .i64 v]:=rfl
theorem qMo:zTl (.pointer none)=none:=rfl
def qP6:Value->Option Unit
 |.pointer none=> some ()
 |_=> none
theorem qNg:qP6 (.pointer none)=some ():=rfl
theorem qIj (k o:Nat):qP6 (.pointer (some ⟨k,o,none⟩))=none:=rfl
abbrev zFd:=List Value->Option (Prop × Value)
def qE (f:zFd):qH GD:=fun args H=> (f args).map fun x=> (x.1,.ret x.2,H)
theorem zDw {fid:FuncId} {f:zFd} (h:∀args p v,f args=some (p,v)->p->jJ args=true/\xD v=true/\zD Tryz.prog cfg fid args (AH.of []) fun r H'=> r=.ret v/\H'=AH.of []):zY Tryz.prog cfg fid (qE f):=by
 intro args H p r H' he hp
 simp only[qE,Option.map_eq_some_iff] at he
 obtain⟨⟨p',v⟩,h1,h2⟩:=he
 cases h2
 obtain⟨g1,g2,hr⟩:=h args p' v h1 hp
 exact hr.atK (jD rfl) [] (by simp) (by simp) trivial (by rw[xV _ _ g1]) (by rw[zK4,zD0 _ _ g2]) (by simp)
abbrev zDs:=GD->List Value->Option (Prop × Value × GD)
def zZ (g:zDs):qH GD:=fun args H=> match args with
 |.pointer (some ⟨k,0,none⟩)::rest=> match H.get k with
  |some (.hi d)=> (g d rest).map fun x=> (x.1,.ret x.2.1,H.upd k (.hi x.2.2))
  |_=> none
 |_=> none
theorem zCk {fid:FuncId} {g:zDs} (h:∀d rest p v d',g d rest=some (p,v,d')->p->jJ rest=true/\xD v=true/\zD Tryz.prog cfg fid (.pointer (some ⟨0,0,none⟩)::rest) (AH.of [some (.hi d)]) fun r H'=> r=.ret v/\H'=AH.of [some (.hi d')]):zY Tryz.prog cfg fid (zZ g):=by
 intro args H p r H' he hp
 unfold zZ at he
 split at he
 case h_2=> cases he
 split at he
 case h_2=> cases he
 simp only[Option.map_eq_some_iff] at he
 obtain⟨⟨p',v,d'⟩,h1,h2⟩:=he
 rename_i k rest x d hk
 cases h2
 obtain⟨g1,g2,hr⟩:=h d rest p' v d' h1 hp
 exact hr.atK (jD rfl) [k] (by simp) (by simp) (by simp[hk]) (by rw[zAh,xV _ _ g1];simp) (by rw[zK4,zD0 _ _ g2]) (by simp)
attribute [simp] qWt qTz qMo qX2 qX3 qVt zFs zL7 zCs qNg qIj
end YtapbabkndhaemaaGreat
end Go.Proofs
/-
 What the arguments of laws read as:numbers,truth values.
-/
namespace Go.Proofs
namespace YtapbabkndhaemaaGreat
open Go.Abs Go.ChangeShapes Go.WideShapes Go.ChangeAt Go.RowKit
set_option maxRecDepth 100000
theorem own:ownKnob Tryz.prog.godebug=none:=by kernel_rfl
section
variable {H:Type} {enc:TypeId × Value->H} {w:World}
theorem qVh {n:Int} (h:(Lit.int .u64 n).wf=true):0<=n/\n<18446744073709551616:=by
 have:0<=n/\n<=18446744073709551615:=by simpa [Lit.wf,IntKind.min,IntKind.max,IntKind.signed,IntKind.bits] using h
 omega
theorem wf_u8 {n:Int} (h:(Lit.int .u8 n).wf=true):0<=n/\n<256:=by
 have:0<=n/\n<=255:=by simpa [Lit.wf,IntKind.min,IntKind.max,IntKind.signed,IntKind.bits] using h
 omega
end
end YtapbabkndhaemaaGreat
end Go.Proofs
/-
 WRITES:frames.
-/
namespace Go.Proofs
namespace YtapbabkndhaemaaGreat
open Go.Abs
def xE:List Pr->Pr->List Pr
 |[],p=> [p]
 |q::f,p=> if q.t=p.t then ⟨q.t,p.v⟩::f else q::xE f p
theorem zHw (p:Pr) (l:List Pr):prs (p::l)=.int .i64 p.t::.int .u64 p.v::prs l:=rfl
theorem zB8 (l:List Pr):(prs l).length=l.length*2:=by
 induction l with
 |nil=> rfl
 |cons e l ih=> rw[zHw,List.length_cons,List.length_cons,ih,List.length_cons];omega
theorem zKc (a b:List Pr):prs (a++b)=prs a++prs b:=by simp[prs]
theorem qD2 (l:List Pr):jJ (prs l)=true:=by
 induction l with
 |nil=> rfl
 |cons e l ih=> rw[zHw];simp[jJ,xD,ih]
theorem qTt (θ:Nat->Nat) (l:List Pr):zAh θ (prs l)=prs l:=xV θ _ (qD2 l)
theorem zKy (l:List Pr):(prs l).take (l.length*2)=prs l:=List.take_of_length_le (by simp[zB8])
theorem zK7 {i:Nat} {x:Pr}:∀{l:List Pr},l[i]?=some x->((prs l).drop (i*2)).take 2=x.cells:=by
 induction i with
 |zero=>
  intro l h
  cases l with
  |nil=> simp at h
  |cons e l=> simp at h;subst h;rfl
 |succ i ih=>
  intro l h
  cases l with
  |nil=> simp at h
  |cons e l=>
   rw[zHw,show (i+1)*2=i*2+1+1 by omega]
   simpa using ih (l:=l) (by simpa using h)
theorem zMc {l:List Pr} {i:Nat} {x:Pr} (h:l[i]?=some x):(prs l)[i*2]?=some (.int .i64 x.t)/\(prs l)[i*2+1]?=some (.int .u64 x.v):=by
 have h3:=zK7 h
 have g:∀j,j<2->(prs l)[i*2+j]?=x.cells[j]?:=fun j hj=> by
  rw[←h3,List.getElem?_take,if_pos hj,List.getElem?_drop]
 exact⟨g 0 (by omega),g 1 (by omega)⟩
theorem zKb (p:Pr):prs [p]=[.int .i64 p.t,.int .u64 p.v]:=rfl
attribute [simp] qTt
def zAl (o:Option Int):Value:=.tuple #[.int .u64 (o.getD 0),.bool o.isSome]
theorem qEn {f:List Pr} {t:Int} {i:Nat} {x:Pr} (hpre:∀(j:Nat) (y:Pr),j<i->f[j]?=some y->y.t≠t) (hx:f[i]?=some x) (ht:x.t=t):qW f t=some x.v:=by
 induction f generalizing i with
 |nil=> simp at hx
 |cons a f ih=>
  cases i with
  |zero=> simp at hx;subst hx;simp[qW,ht]
  |succ i=>
   have ha:a.t≠t:=hpre 0 a (by omega) rfl
   have:qW (a::f) t=qW f t:=by simp[qW,ha]
   rw[this]
   exact ih (i:=i) (fun j y hj hy=> hpre (j+1) y (by omega) (by simpa using hy)) (by simpa using hx)
theorem qIu {f:List Pr} {t:Int} (h:∀(j:Nat) (y:Pr),f[j]?=some y->y.t≠t):qW f t=none:=by
 have:f.find? (fun p=> p.t==t)=none:=by
  rw[List.find?_eq_none]
  intro x hx
  obtain⟨j,hj⟩:=List.mem_iff_getElem?.1 hx
  simpa using h j x hj
 simp[qW,this]
theorem qTy {f:List Pr} {p:Pr} {i:Nat} {x:Pr} (hpre:∀(j:Nat) (y:Pr),j<i->f[j]?=some y->y.t≠p.t) (hx:f[i]?=some x) (ht:x.t=p.t):xE f p=f.set i p:=by
 induction f generalizing i with
 |nil=> simp at hx
 |cons a f ih=>
  cases i with
  |zero=>
   simp at hx;subst hx
   have:p=⟨a.t,p.v⟩:=by cases p;simp_all
   simp[xE,ht]
  |succ i=>
   have ha:a.t≠p.t:=hpre 0 a (by omega) rfl
   simp only[xE,if_neg ha,List.set_cons_succ]
   rw[ih (i:=i) (fun j y hj hy=> hpre (j+1) y (by omega) (by simpa using hy)) (by simpa using hx)]
theorem qMm {f:List Pr} {p:Pr} (h:∀(j:Nat) (y:Pr),f[j]?=some y->y.t≠p.t):xE f p=f++[p]:=by
 induction f with
 |nil=> rfl
 |cons a f ih=>
  have ha:a.t≠p.t:=h 0 a rfl
  simp only[xE,if_neg ha,List.cons_append]
  rw[ih fun j y hj=> h (j+1) y (by simpa using hj)]
theorem zTk (f:List Pr) (p:Pr):(xE f p).length<=f.length+1:=by
 induction f with
 |nil=> simp[xE]
 |cons a f ih=>
  simp only[xE]
  split
  ·simp
  ·simp;omega
theorem qT0 {f:List Pr} {i:Nat} {x p:Pr} (hx:f[i]?=some x) (ht:x.t=p.t):(prs f).set (i*2+1) (.int .u64 p.v)=prs (f.set i p):=by
 induction f generalizing i with
 |nil=> simp at hx
 |cons a f ih=>
  cases i with
  |zero=>
   simp at hx;subst hx
   simp[zHw,ht]
  |succ i=>
   rw[zHw,show (i+1)*2+1=i*2+1+1+1 by omega,List.set_cons_succ,List.set_cons_succ,ih (by simpa using hx),List.set_cons_succ,zHw]
theorem qS3 (e:TypeId) (f:List Pr) (tg:Nat) (t:Int) (hl:f.length<=1000):zD Tryz.prog cfg 164 [.slice (some ⟨0,0,none⟩) f.length tg,.int .i64 t] (AH.of [some (.arr e (prs f))])
  fun r H'=> r=.ret (zAl (qW f t))/\H'=AH.of [some (.arr e (prs f))]:=by
 refine zD.ends ?_
 obtain⟨n,hn⟩:∃n,f.length=n:=⟨_,rfl⟩
 rw[hn]
 refine zP (tbl:=[]) (by simp) 1001 0 (af:=a164) rfl ?_
 rw[a164,b164,zW]
 refine⟨by simp,?_⟩
 simp -implicitDefEqProofs
 refine zA3 (qR jG (qS (by simp)) _ _ noY qM) (fun m tm H=> ∃i:Nat,m+i=n/\(∀(j:Nat) (y:Pr),j<i->f[j]?=some y->y.t≠t)/\tm 1=.int .i64 t/\tm 8=.slice (some ⟨0,0,none⟩) n tg/\tm 9=.int .i64 n/\tm 10=.int .i64 i/\H=AH.of [some (.arr e (prs f))]) (m:=n) ?_ (by omega) ?_
 ·refine qD [] [0] [some (.arr e (prs f))] n (by omega) ?_ ?_ ⟨0,by omega,fun j y hj=> by omega,?_,?_,?_,?_,rfl⟩<;> simp
 rintro m tm H ⟨i,hm,hpre,t1,t8,t9,t10,rfl⟩
 by_cases hi:i<n
 ·obtain⟨x,hx⟩:=zAs (l:=f) (i:=i) (by omega)
  have hi':(i:Int)<n:=by omega
  have hwr:=jV hi (by omega)
  have rx:=zK7 hx
  have lx:i*2+2<=(prs f).length:=by rw[zB8];omega
  by_cases hxt:x.t=t
  ·have hg:=qEn hpre hx hxt
   simp -implicitDefEqProofs [t1,t8,t9,t10,hi,hi',rx,lx,Pr.cells,hxt]
   refine zA [] [0] ?_ ?_ ?_<;> simp[hg,zAl]
  ·have hpre2:∀(j:Nat) (y:Pr),j<i+1->f[j]?=some y->y.t≠t:=fun j y hj hy=> by
    by_cases e:j=i
    ·subst e;rw[hx] at hy;cases hy;exact hxt
    ·exact hpre j y (by omega) hy
   simp -implicitDefEqProofs [t1,t8,t9,t10,hi,hi',rx,lx,Pr.cells,hxt,hwr]
   refine qD [] [0] [some (.arr e (prs f))] (m - 1) (by omega) ?_ ?_ ⟨i+1,by omega,hpre2,?_,?_,?_,?_,rfl⟩<;> simp[t1,t8,t9]
 ·have hie:i=n:=by omega
  subst hie
  have hg:qW f t=none:=qIu fun j y hy=> hpre j y (by
   have:=(List.getElem?_eq_some_iff.1 hy).1;omega) hy
  simp -implicitDefEqProofs [t1,t8,t9,t10]
  refine zA [] [0] ?_ ?_ ?_<;> simp[hg,zAl]
def zPq:List Value->Option (List Pr)
 |[]=> some []
 |.int .i64 t::.int .u64 v::l=> (zPq l).map (⟨t,v⟩::·)
 |_=> none
theorem zUy:∀l:List Pr,zPq (prs l)=some l
 |[]=> rfl
 |e::l=> by rw[zHw,zPq,zUy l];rfl
theorem zUz:∀{cs:List Value} {l:List Pr},zPq cs=some l->cs=prs l
 |cs,l,e=> by
  unfold zPq at e
  split at e
  ·cases e;rfl
  ·simp only[Option.map_eq_some_iff] at e
   obtain⟨l',e1,rfl⟩:=e
   rw[zUz e1];rfl
  ·cases e
def zMe (H:AH GD) (k:Nat):Option (TypeId × List Pr):=
 match H.get k with
 |some (.arr e cs)=> (zPq cs).map fun h=> (e,h)
 |_=> none
theorem zHc {H:AH GD} {k:Nat} {x:TypeId × List Pr} (hg:zMe H k=some x):H.get k=some (.arr x.1 (prs x.2)):=by
 unfold zMe at hg
 split at hg
 ·rename_i e cs he
  simp only[Option.map_eq_some_iff] at hg
  obtain⟨h,h1,rfl⟩:=hg
  rw[he,zUz h1]
 ·cases hg
attribute [simp] zUy zMe
def zCm:qH GD:=fun args H=> match args with
 |[.slice (some ⟨k,0,none⟩) n _,.int .i64 t]=> (zMe H k).map fun x=> (n=x.2.length/\x.2.length<=1000,.ret (zAl (qW x.2 t)),H)
 |_=> none
theorem zXh:zY Tryz.prog cfg 164 zCm:=by
 intro args H p r H' h hp
 unfold zCm at h
 split at h
 case h_2=> cases h
 simp only[Option.map_eq_some_iff] at h
 obtain⟨x,hx,h⟩:=h
 rename_i k n tg t
 cases h
 rw[hp.1]
 exact (qS3 x.1 x.2 tg t hp.2).atK (jD rfl) [k] (by simp) (by simp) (by simp[zHc hx]) (by simp) (by simp[zAl]) (by simp[qO (zHc hx)])
theorem qR6 (e:TypeId) (l:List Pr) (tg:Nat) (hl:l.length<=1000):zD Tryz.prog cfg 246 [.slice (some ⟨0,0,none⟩) l.length tg] (AH.of [some (.arr e (prs l))])
  fun r H'=> r=.ret (.slice (some ⟨1,0,none⟩) l.length 1)/\H'=AH.of [some (.arr e (prs l)),some (.arr 104 (prs l))]:=by
 refine zD.ends ?_
 refine zP (tbl:=[]) (by simp) 0 0 (af:=a246) rfl ?_
 rw[a246,b246,zW]
 refine⟨by simp,?_⟩
 have h1:l.length*16<=140737488355328/\l.length<=9223372036854775807:=by omega
 have h2:=zKy l
 have h3:l.length*2<=(prs l).length:=by rw[zB8];omega
 simp -implicitDefEqProofs [h1,h2,h3]
 repeat' (first|with_reducible apply And.intro|with_reducible intro _)
 all_goals first
  |(refine zA [] [0,2] ?_ ?_ ?_<;> simp;done)
  |(have:l=[]:=by assumption
    subst this
    refine zPl (r':=.ret (.slice (some ⟨1,0,none⟩) 0 1)) (zPf (by simp)) (zA [.nil 104] [0,1] ?_ ?_ ?_)<;> simp[prs])
def zVu:qH GD:=fun args H=> match args with
 |[.slice (some ⟨k,0,none⟩) n _]=> (zMe H k).map fun x=> (n=x.2.length/\x.2.length<=1000,.ret (.slice (some ⟨H.next,0,none⟩) x.2.length 1),H.add (.arr 104 (prs x.2)))
 |_=> none
theorem qK3:zY Tryz.prog cfg 246 zVu:=by
 intro args H p r H' h hp
 unfold zVu at h
 split at h
 case h_2=> cases h
 simp only[Option.map_eq_some_iff] at h
 obtain⟨x,hx,h⟩:=h
 rename_i k n tg
 cases h
 rw[hp.1]
 exact (qR6 x.1 x.2 tg hp.2).atK (jD rfl) [k] (by simp) (by simp) (by simp[zHc hx]) (by simp) (by simp) (by simp[qO (zHc hx)])
def zRj:List (FuncId × qH GD):=[(246,zVu)]
theorem zUa:∀x∈zRj,zY Tryz.prog cfg x.1 x.2:=by simp[zRj,qK3]
theorem qSh (e:TypeId) (f:List Pr) (tg:Nat) (p:Pr) (hl:f.length<=1000):zD Tryz.prog cfg 215 [.slice (some ⟨0,0,none⟩) f.length tg,.agg #[.int .i64 p.t,.int .u64 p.v]] (AH.of [some (.arr e (prs f))])
  fun r H'=> r=.ret (.slice (some ⟨1,0,none⟩) (xE f p).length 1)/\H'=AH.of [some (.arr e (prs f)),some (.arr 104 (prs (xE f p)))]:=by
 refine zD.ends ?_
 obtain⟨n,hn⟩:∃n,f.length=n:=⟨_,rfl⟩
 rw[hn]
 have hn2:n<=1000:=by omega
 refine zP (tbl:=zRj) zUa 1001 0 (af:=a215) rfl ?_
 rw[a215,b215,zW]
 refine⟨by simp,?_⟩
 simp -implicitDefEqProofs [zRj,zVu,hn,hn2]
 refine jH (qR jG (qS zUa) _ _ noY qM) (fun m tm H=> ∃i:Nat,m+i=n/\(∀(j:Nat) (y:Pr),j<i->f[j]?=some y->y.t≠p.t)/\tm 3=.pointer (some ⟨1,0,none⟩)/\tm 5=.slice (some ⟨2,0,none⟩) n 1/\tm 10=.int .i64 n/\tm 11=.int .i64 i/\H=AH.of [some (.arr e (prs f)),some (.arr 104 [.int .i64 p.t,.int .u64 p.v]),some (.arr 104 (prs f))]) (m:=n) ⟨0,by simp⟩ (by omega) ?_
 rintro m tm H ⟨i,hm,hpre,t3,t5,t10,t11,rfl⟩
 by_cases hi:i<n
 ·obtain⟨x,hx⟩:=zAs (l:=f) (i:=i) (by omega)
  have hi':(i:Int)<n:=by omega
  have hwr:=jV hi (by omega)
  have rx:=(zMc hx).1
  have lx:i*2+1<(prs f).length:=by rw[zB8];omega
  have lx2:i*2+2<=(prs f).length:=by rw[zB8];omega
  by_cases hxt:x.t=p.t
  ·have hg:=qTy hpre hx hxt
   have hset:=qT0 hx hxt
   simp -implicitDefEqProofs [t3,t5,t10,t11,hi,hi',rx,lx,lx2,hxt,hset]
   refine zA [] [0,2] ?_ ?_ ?_<;> simp[hg,hn]
  ·have hpre2:∀(j:Nat) (y:Pr),j<i+1->f[j]?=some y->y.t≠p.t:=fun j y hj hy=> by
    by_cases e:j=i
    ·subst e;rw[hx] at hy;cases hy;exact hxt
    ·exact hpre j y (by omega) hy
   simp -implicitDefEqProofs [t3,t5,t10,t11,hi,hi',rx,lx,hxt,hwr]
   exact⟨m - 1,by omega,i+1,by omega,hpre2,by omega⟩
 ·have hie:i=n:=by omega
  subst hie
  have hg:xE f p=f++[p]:=qMm fun j y hy=> hpre j y (by
   have:=(List.getElem?_eq_some_iff.1 hy).1;omega) hy
  have h1:(i+1)*16<=140737488355328/\i<=9223372036854775806:=by omega
  have h2:(prs f).take (i*2)=prs f:=by rw[←hn];exact zKy f
  have h3:i*2<=(prs f).length:=by rw[zB8];omega
  simp -implicitDefEqProofs [t3,t5,t10,t11,h1,h2,h3]
  refine zA [] [0,4] ?_ ?_ ?_<;> simp[hg,hn,zKc,zKb]
def zFh:qH GD:=fun args H=> match args with
 |[.slice (some ⟨k,0,none⟩) n _,.agg ⟨[.int .i64 t,.int .u64 v]⟩]=> (zMe H k).map fun x=> (n=x.2.length/\x.2.length<=1000,.ret (.slice (some ⟨H.next,0,none⟩) (xE x.2 ⟨t,v⟩).length 1),H.add (.arr 104 (prs (xE x.2 ⟨t,v⟩))))
 |_=> none
theorem zXa:zY Tryz.prog cfg 215 zFh:=by
 intro args H p r H' h hp
 unfold zFh at h
 split at h
 case h_2=> cases h
 simp only[Option.map_eq_some_iff] at h
 obtain⟨x,hx,h⟩:=h
 rename_i k n tg t v
 cases h
 rw[hp.1]
 exact (qSh x.1 x.2 tg ⟨t,v⟩ hp.2).atK (jD rfl) [k] (by simp) (by simp) (by simp[zHc hx]) (by simp) (by simp) (by simp[qO (zHc hx)])
end YtapbabkndhaemaaGreat
end Go.Proofs
/-
 WRITES:New,Push,Drop,Depth.
-/
namespace Go.Proofs
namespace YtapbabkndhaemaaGreat
open Go.Abs
theorem qWa:zD Tryz.prog cfg 48 [] (AH.of []) fun r H'=> r=.ret (.pointer (some ⟨0,0,none⟩))/\H'=AH.of [some (.hi (.log [[]]))]:=by
 refine zD.ends ?_
 refine zP (tbl:=[]) (by simp) 0 2 (af:=a48) rfl ?_
 rw[a48,b48,zW]
 refine⟨by simp,?_⟩
 simp -implicitDefEqProofs [forms106,a106,b106]
 refine zA [.nil 104,.pack (GD.stk [[]]) 0 [2],.pack (GD.log [[]]) 1 [0]] [1] ?_ ?_ ?_<;> simp[qX,qV,AObj.mine,prs]
def st48:qH GD:=fun args H=> match args with
 |[]=> some (True,.ret (.pointer (some ⟨H.next,0,none⟩)),H.add (.hi (.log [[]])))
 |_=> none
theorem qRj:zY Tryz.prog cfg 48 st48:=by
 intro args H p r H' h hp
 unfold st48 at h
 split at h
 case h_2=> cases h
 cases h
 exact qWa.atK (jD rfl) [] (by simp) (by simp) trivial (by simp) (by simp) (by simp)
theorem qS6 (f:List Pr) (fs:List (List Pr)) (hl:fs.length<=100):zD Tryz.prog cfg 158 [.pointer (some ⟨0,0,none⟩)] (AH.of [some (.hi (.log (f::fs)))])
  fun r H'=> r=.ret (.int .i64 (if 4<=fs.length then 4 else 0))/\H'=AH.of [some (.hi (if 4<=fs.length then .log (f::fs) else .log ([]::f::fs)))]:=by
 refine zD.ends ?_
 by_cases h:4<=fs.length
 ·have h':(4:Int)<=fs.length:=by omega
  refine zP (tbl:=[]) (by simp) 0 2 (af:=a158) rfl ?_
  rw[a158,b158,zW]
  refine⟨by simp,?_⟩
  simp -implicitDefEqProofs [forms106,a106,b106,qV,h,h']
  refine zA [.pack (GD.log (f::fs)) 0 [1]] [0] ?_ ?_ ?_<;> simp[qV,AObj.mine,h]
 ·have h':¬(4:Int)<=fs.length:=by omega
  have hw:IntKind.i64.wrap ((fs.length:Int)+1)=(fs.length:Int)+1:=qF (by omega) (by omega)
  refine zP (tbl:=[]) (by simp) 0 2 (af:=a158) rfl ?_
  rw[a158,b158,zW]
  refine⟨by simp,?_⟩
  simp -implicitDefEqProofs [forms106,a106,b106,qV,h,h',hw]
  refine zA [.nil 104,.pack (GD.stk ([]::f::fs)) 2 [3,1],.pack (GD.log ([]::f::fs)) 0 [2]] [0] ?_ ?_ ?_<;> simp[qV,qZ,AObj.mine,prs,h]
def d158:zDs
 |.log (f::fs),[]=> some (fs.length<=100,.int .i64 (if 4<=fs.length then 4 else 0),if 4<=fs.length then .log (f::fs) else .log ([]::f::fs))
 |_,_=> none
theorem qLt:zY Tryz.prog cfg 158 (zZ d158):=zCk fun d rest p v d' h hp=> by
 unfold d158 at h
 split at h
 ·cases h;exact⟨rfl,rfl,qS6 _ _ hp⟩
 ·cases h
theorem qS5 (f:List Pr) (fs:List (List Pr)) (hl:fs.length<=100):zD Tryz.prog cfg 159 [.pointer (some ⟨0,0,none⟩)] (AH.of [some (.hi (.log (f::fs)))])
  fun r H'=> r=.ret (.int .i64 (if fs=[] then 8 else 0))/\H'=AH.of [some (.hi (if fs=[] then .log (f::fs) else .log fs))]:=by
 refine zD.ends ?_
 cases fs with
 |nil=>
  refine zP (tbl:=[]) (by simp) 0 2 (af:=a159) rfl ?_
  rw[a159,b159,zW]
  refine⟨by simp,?_⟩
  simp -implicitDefEqProofs [forms214,a214,b214,qV]
  refine zA [.pack (GD.log [f]) 0 [1]] [0] ?_ ?_ ?_<;> simp[qV,AObj.mine]
 |cons g fs=>
  have hne:¬((fs.length:Int)+1=0):=by omega
  have hl':fs.length+1<=100:=hl
  have hw:IntKind.i64.wrap (fs.length:Int)=fs.length:=qF (by omega) (by omega)
  refine zP (tbl:=[]) (by simp) 0 2 (af:=a159) rfl ?_
  rw[a159,b159,zW]
  refine⟨by simp,?_⟩
  simp -implicitDefEqProofs [forms214,a214,b214,qV,qZ,hne,hw]
  refine zA [.pack (GD.log (g::fs)) 0 [3]] [0] ?_ ?_ ?_<;> simp[qV,AObj.mine]
def d159:zDs
 |.log (f::fs),[]=> some (fs.length<=100,.int .i64 (if fs=[] then 8 else 0),if fs=[] then .log (f::fs) else .log fs)
 |_,_=> none
theorem qLs:zY Tryz.prog cfg 159 (zZ d159):=zCk fun d rest p v d' h hp=> by
 unfold d159 at h
 split at h
 ·cases h;exact⟨rfl,rfl,qS5 _ _ hp⟩
 ·cases h
theorem qTm (fs:List (List Pr)):zD Tryz.prog cfg 107 [.pointer (some ⟨0,0,none⟩)] (AH.of [some (.hi (.log fs))])
  fun r H'=> r=.ret (.int .i64 ((fs.length:Int) - 1))/\H'=AH.of [some (.hi (.log fs))]:=by
 refine zD.ends ?_
 refine zP (tbl:=[]) (by simp) 0 2 (af:=a107) rfl ?_
 rw[a107,b107,zW]
 refine⟨by simp,?_⟩
 simp -implicitDefEqProofs [qV]
 refine zA [.pack (GD.log fs) 0 [1]] [0] ?_ ?_ ?_<;> simp[qV,AObj.mine]
def zEc:zDs
 |.log fs,[]=> some (True,.int .i64 ((fs.length:Int) - 1),.log fs)
 |_,_=> none
theorem qL4:zY Tryz.prog cfg 107 (zZ zEc):=zCk fun d rest p v d' h hp=> by
 unfold zEc at h
 split at h
 ·cases h;exact⟨rfl,rfl,qTm _⟩
 ·cases h
end YtapbabkndhaemaaGreat
end Go.Proofs
/-
 WRITES:Get,down the frames.
-/
namespace Go.Proofs
namespace YtapbabkndhaemaaGreat
open Go.Abs
def qQ (fs:List (List Pr)) (t:Int):Option Int:=fs.findSome? fun f=> qW f t
theorem zIl (t:Int):qQ [] t=none:=rfl
theorem zDg {f:List Pr} {fs:List (List Pr)} {t v:Int} (h:qW f t=some v):qQ (f::fs) t=some v:=by simp[qQ,h]
theorem zBr {f:List Pr} {fs:List (List Pr)} {t:Int} (h:qW f t=none):qQ (f::fs) t=qQ fs t:=by simp[qQ,h]
def zEe (fs:List (List Pr)):Int:=((fs.map List.length).sum:Nat)
theorem zIh:zEe []=0:=rfl
theorem zBq (f:List Pr) (fs:List (List Pr)):zEe (f::fs)=f.length+zEe fs:=by simp[zEe]
theorem zNj (fs:List (List Pr)):0<=zEe fs:=by simp[zEe]
theorem zSd {f:List Pr}:∀{fs:List (List Pr)},f∈fs->(f.length:Int)<=zEe fs
 |g::fs,h=> by
  rw[zBq]
  rcases List.mem_cons.1 h with rfl|h
  ·have:=zNj fs;omega
  ·have:=zSd h;omega
def zBb (fs:List (List Pr)):Prop:=fs≠[]/\fs.length<=5/\zEe fs<=16
theorem zBb.le {fs:List (List Pr)} (h:zBb fs):∀f∈fs,f.length<=1000:=fun f hf=> by
 have:=zSd hf
 have:=h.2.2
 omega
inductive GW (fs:List (List Pr)) (t dd:Int) (r:Loop):Nat->AH GD->Prop
 |c0 (f:List Pr) (rs:List (List Pr)) (h:fs=f::rs):GW fs t dd r 5 (AH.of [some (.arr 168 [.pointer (some ⟨4,0,none⟩),.int .i64 dd]),some (.arr 3 [.int .i64 t]),some (.arr 30 [.int .u64 0]),some (.arr 4 [.bool false]),some (.hi (.stk (f::rs))),some (.arr 164 [.pointer (some ⟨4,0,none⟩)]),some (.loopr r 0 none)])
 |c1 (g1 f:List Pr) (rs:List (List Pr)) (h:fs=g1::f::rs) (n1:qW g1 t=none):GW fs t dd r 4 (AH.of [some (.arr 168 [.pointer (some ⟨4,0,none⟩),.int .i64 dd]),some (.arr 3 [.int .i64 t]),some (.arr 30 [.int .u64 0]),some (.arr 4 [.bool false]),some (.arr 213 [.slice (some ⟨7,0,none⟩) g1.length 1,.pointer (some ⟨8,0,none⟩)]),some (.arr 164 [.pointer (some ⟨8,0,none⟩)]),some (.loopr r 0 none),some (.arr 104 (prs g1)),some (.hi (.stk (f::rs)))])
 |n1 (g1:List Pr) (h:fs=[g1]) (n1:qW g1 t=none):GW fs t dd r 4 (AH.of [some (.arr 168 [.pointer (some ⟨4,0,none⟩),.int .i64 dd]),some (.arr 3 [.int .i64 t]),some (.arr 30 [.int .u64 0]),some (.arr 4 [.bool false]),some (.arr 213 [.slice (some ⟨7,0,none⟩) g1.length 1,.pointer none]),some (.arr 164 [.pointer none]),some (.loopr r 0 none),some (.arr 104 (prs g1))])
 |c2 (g1 g2 f:List Pr) (rs:List (List Pr)) (h:fs=g1::g2::f::rs) (n1:qW g1 t=none) (n2:qW g2 t=none):GW fs t dd r 3 (AH.of [some (.arr 168 [.pointer (some ⟨4,0,none⟩),.int .i64 dd]),some (.arr 3 [.int .i64 t]),some (.arr 30 [.int .u64 0]),some (.arr 4 [.bool false]),some (.arr 213 [.slice (some ⟨7,0,none⟩) g1.length 1,.pointer (some ⟨8,0,none⟩)]),some (.arr 164 [.pointer (some ⟨10,0,none⟩)]),some (.loopr r 0 none),some (.arr 104 (prs g1)),some (.arr 213 [.slice (some ⟨9,0,none⟩) g2.length 1,.pointer (some ⟨10,0,none⟩)]),some (.arr 104 (prs g2)),some (.hi (.stk (f::rs)))])
 |n2 (g1 g2:List Pr) (h:fs=[g1,g2]) (n1:qW g1 t=none) (n2:qW g2 t=none):GW fs t dd r 3 (AH.of [some (.arr 168 [.pointer (some ⟨4,0,none⟩),.int .i64 dd]),some (.arr 3 [.int .i64 t]),some (.arr 30 [.int .u64 0]),some (.arr 4 [.bool false]),some (.arr 213 [.slice (some ⟨7,0,none⟩) g1.length 1,.pointer (some ⟨8,0,none⟩)]),some (.arr 164 [.pointer none]),some (.loopr r 0 none),some (.arr 104 (prs g1)),some (.arr 213 [.slice (some ⟨9,0,none⟩) g2.length 1,.pointer none]),some (.arr 104 (prs g2))])
 |c3 (g1 g2 g3 f:List Pr) (rs:List (List Pr)) (h:fs=g1::g2::g3::f::rs) (n1:qW g1 t=none) (n2:qW g2 t=none) (n3:qW g3 t=none):GW fs t dd r 2 (AH.of [some (.arr 168 [.pointer (some ⟨4,0,none⟩),.int .i64 dd]),some (.arr 3 [.int .i64 t]),some (.arr 30 [.int .u64 0]),some (.arr 4 [.bool false]),some (.arr 213 [.slice (some ⟨7,0,none⟩) g1.length 1,.pointer (some ⟨8,0,none⟩)]),some (.arr 164 [.pointer (some ⟨12,0,none⟩)]),some (.loopr r 0 none),some (.arr 104 (prs g1)),some (.arr 213 [.slice (some ⟨9,0,none⟩) g2.length 1,.pointer (some ⟨10,0,none⟩)]),some (.arr 104 (prs g2)),some (.arr 213 [.slice (some ⟨11,0,none⟩) g3.length 1,.pointer (some ⟨12,0,none⟩)]),some (.arr 104 (prs g3)),some (.hi (.stk (f::rs)))])
 |n3 (g1 g2 g3:List Pr) (h:fs=[g1,g2,g3]) (n1:qW g1 t=none) (n2:qW g2 t=none) (n3:qW g3 t=none):GW fs t dd r 2 (AH.of [some (.arr 168 [.pointer (some ⟨4,0,none⟩),.int .i64 dd]),some (.arr 3 [.int .i64 t]),some (.arr 30 [.int .u64 0]),some (.arr 4 [.bool false]),some (.arr 213 [.slice (some ⟨7,0,none⟩) g1.length 1,.pointer (some ⟨8,0,none⟩)]),some (.arr 164 [.pointer none]),some (.loopr r 0 none),some (.arr 104 (prs g1)),some (.arr 213 [.slice (some ⟨9,0,none⟩) g2.length 1,.pointer (some ⟨10,0,none⟩)]),some (.arr 104 (prs g2)),some (.arr 213 [.slice (some ⟨11,0,none⟩) g3.length 1,.pointer none]),some (.arr 104 (prs g3))])
 |c4 (g1 g2 g3 g4 f:List Pr) (rs:List (List Pr)) (h:fs=g1::g2::g3::g4::f::rs) (n1:qW g1 t=none) (n2:qW g2 t=none) (n3:qW g3 t=none) (n4:qW g4 t=none):GW fs t dd r 1 (AH.of [some (.arr 168 [.pointer (some ⟨4,0,none⟩),.int .i64 dd]),some (.arr 3 [.int .i64 t]),some (.arr 30 [.int .u64 0]),some (.arr 4 [.bool false]),some (.arr 213 [.slice (some ⟨7,0,none⟩) g1.length 1,.pointer (some ⟨8,0,none⟩)]),some (.arr 164 [.pointer (some ⟨14,0,none⟩)]),some (.loopr r 0 none),some (.arr 104 (prs g1)),some (.arr 213 [.slice (some ⟨9,0,none⟩) g2.length 1,.pointer (some ⟨10,0,none⟩)]),some (.arr 104 (prs g2)),some (.arr 213 [.slice (some ⟨11,0,none⟩) g3.length 1,.pointer (some ⟨12,0,none⟩)]),some (.arr 104 (prs g3)),some (.arr 213 [.slice (some ⟨13,0,none⟩) g4.length 1,.pointer (some ⟨14,0,none⟩)]),some (.arr 104 (prs g4)),some (.hi (.stk (f::rs)))])
 |n4 (g1 g2 g3 g4:List Pr) (h:fs=[g1,g2,g3,g4]) (n1:qW g1 t=none) (n2:qW g2 t=none) (n3:qW g3 t=none) (n4:qW g4 t=none):GW fs t dd r 1 (AH.of [some (.arr 168 [.pointer (some ⟨4,0,none⟩),.int .i64 dd]),some (.arr 3 [.int .i64 t]),some (.arr 30 [.int .u64 0]),some (.arr 4 [.bool false]),some (.arr 213 [.slice (some ⟨7,0,none⟩) g1.length 1,.pointer (some ⟨8,0,none⟩)]),some (.arr 164 [.pointer none]),some (.loopr r 0 none),some (.arr 104 (prs g1)),some (.arr 213 [.slice (some ⟨9,0,none⟩) g2.length 1,.pointer (some ⟨10,0,none⟩)]),some (.arr 104 (prs g2)),some (.arr 213 [.slice (some ⟨11,0,none⟩) g3.length 1,.pointer (some ⟨12,0,none⟩)]),some (.arr 104 (prs g3)),some (.arr 213 [.slice (some ⟨13,0,none⟩) g4.length 1,.pointer none]),some (.arr 104 (prs g4))])
 |n5 (g1 g2 g3 g4 g5:List Pr) (h:fs=[g1,g2,g3,g4,g5]) (n1:qW g1 t=none) (n2:qW g2 t=none) (n3:qW g3 t=none) (n4:qW g4 t=none) (n5:qW g5 t=none):GW fs t dd r 0 (AH.of [some (.arr 168 [.pointer (some ⟨4,0,none⟩),.int .i64 dd]),some (.arr 3 [.int .i64 t]),some (.arr 30 [.int .u64 0]),some (.arr 4 [.bool false]),some (.arr 213 [.slice (some ⟨7,0,none⟩) g1.length 1,.pointer (some ⟨8,0,none⟩)]),some (.arr 164 [.pointer none]),some (.loopr r 0 none),some (.arr 104 (prs g1)),some (.arr 213 [.slice (some ⟨9,0,none⟩) g2.length 1,.pointer (some ⟨10,0,none⟩)]),some (.arr 104 (prs g2)),some (.arr 213 [.slice (some ⟨11,0,none⟩) g3.length 1,.pointer (some ⟨12,0,none⟩)]),some (.arr 104 (prs g3)),some (.arr 213 [.slice (some ⟨13,0,none⟩) g4.length 1,.pointer (some ⟨14,0,none⟩)]),some (.arr 104 (prs g4)),some (.arr 213 [.slice (some ⟨15,0,none⟩) g5.length 1,.pointer none]),some (.arr 104 (prs g5))])
def zEz:List (FuncId × qH GD):=[(164,zCm)]
theorem zS1:∀x∈zEz,zY Tryz.prog cfg x.1 x.2:=by simp[zEz,zXh]
theorem qTl (fs:List (List Pr)) (t:Int) (hne:fs≠[]) (hl:fs.length<=5) (hf:∀f∈fs,f.length<=1000):zD Tryz.prog cfg 112 [.pointer (some ⟨0,0,none⟩),.int .i64 t] (AH.of [some (.hi (.log fs))])
  fun r H'=> r=.ret (zAl (qQ fs t))/\H'=AH.of [some (.hi (.log fs))]:=by
 refine zD.ends ?_
 obtain⟨dd,hdd⟩:∃dd,(fs.length:Int) - 1=dd:=⟨_,rfl⟩
 refine zP (tbl:=zEz) zS1 6 4 (af:=a112) rfl ?_
 rw[a112,b112,zW]
 refine⟨by simp,?_⟩
 simp -implicitDefEqProofs [zEz,forms163,a163,b163,forms217,a217,b217,qV,hdd]
 intro r
 refine jH (qR jG (qS zS1) _ _ _ (zLl (qR jG (qS zS1) _ _ noY qM))) (fun m tm H=> tm 0=.func (.yield 6) #[] #[]/\tm 1=.pointer (some ⟨5,0,none⟩)/\GW fs t dd r m H) (m:=5) ?_ (by omega) ?_
 ·cases fs with
  |nil=> exact (hne rfl).elim
  |cons f rs=> exact⟨by simp,by simp,.c0 f rs rfl⟩
 rintro m tm H ⟨t0,t1,hw⟩
 cases hw with
 |c0 f rs h=>
  subst h
  have hfl:f.length<=1000:=hf f (by simp)
  cases hv:qW f t with
  |some v=>
   cases rs with
   |nil=>
    simp -implicitDefEqProofs [zEz,zCm,t0,t1,hv,hfl,qX,zAl]
    refine zA [.pack (GD.stk [f]) 4 [7],.pack (GD.log (f::[])) 0 [4]] [0] ?_ ?_ ?_<;> simp[qX,qZ,qV,AObj.mine,zBr,zDg,hv,zAl,←hdd]
   |cons q rs=>
    simp -implicitDefEqProofs [zEz,zCm,t0,t1,hv,hfl,qZ,zAl]
    refine zA [.pack (GD.stk (f::q::rs)) 4 [7,8],.pack (GD.log (f::q::rs)) 0 [4]] [0] ?_ ?_ ?_<;> simp[qX,qZ,qV,AObj.mine,zBr,zDg,hv,zAl,←hdd]
  |none=>
   cases rs with
   |nil=>
    simp -implicitDefEqProofs [zEz,zCm,t0,t1,hv,hfl,qX,zAl]
    exact⟨4,by omega,.n1 f rfl hv⟩
   |cons q rs=>
    simp -implicitDefEqProofs [zEz,zCm,t0,t1,hv,hfl,qZ,zAl]
    exact⟨4,by omega,.c1 f q rs rfl hv⟩
 |c1 g1 f rs h n1=>
  subst h
  have hfl:f.length<=1000:=hf f (by simp)
  cases hv:qW f t with
  |some v=>
   cases rs with
   |nil=>
    simp -implicitDefEqProofs [zEz,zCm,t0,t1,hv,hfl,qX,zAl]
    refine zA [.pack (GD.stk [f]) 8 [9],.pack (GD.stk (g1::f::[])) 4 [7,8],.pack (GD.log (g1::f::[])) 0 [4]] [0] ?_ ?_ ?_<;> simp[qX,qZ,qV,AObj.mine,zBr,zDg,n1,hv,zAl,←hdd]
   |cons q rs=>
    simp -implicitDefEqProofs [zEz,zCm,t0,t1,hv,hfl,qZ,zAl]
    refine zA [.pack (GD.stk (f::q::rs)) 8 [9,10],.pack (GD.stk (g1::f::q::rs)) 4 [7,8],.pack (GD.log (g1::f::q::rs)) 0 [4]] [0] ?_ ?_ ?_<;> simp[qX,qZ,qV,AObj.mine,zBr,zDg,n1,hv,zAl,←hdd]
  |none=>
   cases rs with
   |nil=>
    simp -implicitDefEqProofs [zEz,zCm,t0,t1,hv,hfl,qX,zAl]
    exact⟨3,by omega,.n2 g1 f rfl n1 hv⟩
   |cons q rs=>
    simp -implicitDefEqProofs [zEz,zCm,t0,t1,hv,hfl,qZ,zAl]
    exact⟨3,by omega,.c2 g1 f q rs rfl n1 hv⟩
 |n1 g1 h n1=>
  subst h
  simp -implicitDefEqProofs [t0,t1]
  refine zA [.pack (GD.stk [g1]) 4 [7],.pack (GD.log (g1::[])) 0 [4]] [0] ?_ ?_ ?_<;> simp[qX,qZ,qV,AObj.mine,zBr,zIl,zAl,n1,←hdd]
 |c2 g1 g2 f rs h n1 n2=>
  subst h
  have hfl:f.length<=1000:=hf f (by simp)
  cases hv:qW f t with
  |some v=>
   cases rs with
   |nil=>
    simp -implicitDefEqProofs [zEz,zCm,t0,t1,hv,hfl,qX,zAl]
    refine zA [.pack (GD.stk [f]) 10 [11],.pack (GD.stk (g2::f::[])) 8 [9,10],.pack (GD.stk (g1::g2::f::[])) 4 [7,8],.pack (GD.log (g1::g2::f::[])) 0 [4]] [0] ?_ ?_ ?_<;> simp[qX,qZ,qV,AObj.mine,zBr,zDg,n1,n2,hv,zAl,←hdd]
   |cons q rs=>
    simp -implicitDefEqProofs [zEz,zCm,t0,t1,hv,hfl,qZ,zAl]
    refine zA [.pack (GD.stk (f::q::rs)) 10 [11,12],.pack (GD.stk (g2::f::q::rs)) 8 [9,10],.pack (GD.stk (g1::g2::f::q::rs)) 4 [7,8],.pack (GD.log (g1::g2::f::q::rs)) 0 [4]] [0] ?_ ?_ ?_<;> simp[qX,qZ,qV,AObj.mine,zBr,zDg,n1,n2,hv,zAl,←hdd]
  |none=>
   cases rs with
   |nil=>
    simp -implicitDefEqProofs [zEz,zCm,t0,t1,hv,hfl,qX,zAl]
    exact⟨2,by omega,.n3 g1 g2 f rfl n1 n2 hv⟩
   |cons q rs=>
    simp -implicitDefEqProofs [zEz,zCm,t0,t1,hv,hfl,qZ,zAl]
    exact⟨2,by omega,.c3 g1 g2 f q rs rfl n1 n2 hv⟩
 |n2 g1 g2 h n1 n2=>
  subst h
  simp -implicitDefEqProofs [t0,t1]
  refine zA [.pack (GD.stk [g2]) 8 [9],.pack (GD.stk (g1::g2::[])) 4 [7,8],.pack (GD.log (g1::g2::[])) 0 [4]] [0] ?_ ?_ ?_<;> simp[qX,qZ,qV,AObj.mine,zBr,zIl,zAl,n1,n2,←hdd]
 |c3 g1 g2 g3 f rs h n1 n2 n3=>
  subst h
  have hfl:f.length<=1000:=hf f (by simp)
  cases hv:qW f t with
  |some v=>
   cases rs with
   |nil=>
    simp -implicitDefEqProofs [zEz,zCm,t0,t1,hv,hfl,qX,zAl]
    refine zA [.pack (GD.stk [f]) 12 [13],.pack (GD.stk (g3::f::[])) 10 [11,12],.pack (GD.stk (g2::g3::f::[])) 8 [9,10],.pack (GD.stk (g1::g2::g3::f::[])) 4 [7,8],.pack (GD.log (g1::g2::g3::f::[])) 0 [4]] [0] ?_ ?_ ?_<;> simp[qX,qZ,qV,AObj.mine,zBr,zDg,n1,n2,n3,hv,zAl,←hdd]
   |cons q rs=>
    simp -implicitDefEqProofs [zEz,zCm,t0,t1,hv,hfl,qZ,zAl]
    refine zA [.pack (GD.stk (f::q::rs)) 12 [13,14],.pack (GD.stk (g3::f::q::rs)) 10 [11,12],.pack (GD.stk (g2::g3::f::q::rs)) 8 [9,10],.pack (GD.stk (g1::g2::g3::f::q::rs)) 4 [7,8],.pack (GD.log (g1::g2::g3::f::q::rs)) 0 [4]] [0] ?_ ?_ ?_<;> simp[qX,qZ,qV,AObj.mine,zBr,zDg,n1,n2,n3,hv,zAl,←hdd]
  |none=>
   cases rs with
   |nil=>
    simp -implicitDefEqProofs [zEz,zCm,t0,t1,hv,hfl,qX,zAl]
    exact⟨1,by omega,.n4 g1 g2 g3 f rfl n1 n2 n3 hv⟩
   |cons q rs=>
    simp -implicitDefEqProofs [zEz,zCm,t0,t1,hv,hfl,qZ,zAl]
    exact⟨1,by omega,.c4 g1 g2 g3 f q rs rfl n1 n2 n3 hv⟩
 |n3 g1 g2 g3 h n1 n2 n3=>
  subst h
  simp -implicitDefEqProofs [t0,t1]
  refine zA [.pack (GD.stk [g3]) 10 [11],.pack (GD.stk (g2::g3::[])) 8 [9,10],.pack (GD.stk (g1::g2::g3::[])) 4 [7,8],.pack (GD.log (g1::g2::g3::[])) 0 [4]] [0] ?_ ?_ ?_<;> simp[qX,qZ,qV,AObj.mine,zBr,zIl,zAl,n1,n2,n3,←hdd]
 |c4 g1 g2 g3 g4 f rs h n1 n2 n3 n4=>
  subst h
  have hfl:f.length<=1000:=hf f (by simp)
  cases hv:qW f t with
  |some v=>
   cases rs with
   |nil=>
    simp -implicitDefEqProofs [zEz,zCm,t0,t1,hv,hfl,qX,zAl]
    refine zA [.pack (GD.stk [f]) 14 [15],.pack (GD.stk (g4::f::[])) 12 [13,14],.pack (GD.stk (g3::g4::f::[])) 10 [11,12],.pack (GD.stk (g2::g3::g4::f::[])) 8 [9,10],.pack (GD.stk (g1::g2::g3::g4::f::[])) 4 [7,8],.pack (GD.log (g1::g2::g3::g4::f::[])) 0 [4]] [0] ?_ ?_ ?_<;> simp[qX,qZ,qV,AObj.mine,zBr,zDg,n1,n2,n3,n4,hv,zAl,←hdd]
   |cons q rs=>
    simp at hl
  |none=>
   cases rs with
   |nil=>
    simp -implicitDefEqProofs [zEz,zCm,t0,t1,hv,hfl,qX,zAl]
    exact .n5 g1 g2 g3 g4 f rfl n1 n2 n3 n4 hv
   |cons q rs=>
    simp at hl
 |n4 g1 g2 g3 g4 h n1 n2 n3 n4=>
  subst h
  simp -implicitDefEqProofs [t0,t1]
  refine zA [.pack (GD.stk [g4]) 12 [13],.pack (GD.stk (g3::g4::[])) 10 [11,12],.pack (GD.stk (g2::g3::g4::[])) 8 [9,10],.pack (GD.stk (g1::g2::g3::g4::[])) 4 [7,8],.pack (GD.log (g1::g2::g3::g4::[])) 0 [4]] [0] ?_ ?_ ?_<;> simp[qX,qZ,qV,AObj.mine,zBr,zIl,zAl,n1,n2,n3,n4,←hdd]
 |n5 g1 g2 g3 g4 g5 h n1 n2 n3 n4 n5=>
  subst h
  simp -implicitDefEqProofs [t0,t1]
  refine zA [.pack (GD.stk [g5]) 14 [15],.pack (GD.stk (g4::g5::[])) 12 [13,14],.pack (GD.stk (g3::g4::g5::[])) 10 [11,12],.pack (GD.stk (g2::g3::g4::g5::[])) 8 [9,10],.pack (GD.stk (g1::g2::g3::g4::g5::[])) 4 [7,8],.pack (GD.log (g1::g2::g3::g4::g5::[])) 0 [4]] [0] ?_ ?_ ?_<;> simp[qX,qZ,qV,AObj.mine,zBr,zIl,zAl,n1,n2,n3,n4,n5,←hdd]
def zHj:zDs
 |.log fs,[.int .i64 t]=> some (zBb fs,zAl (qQ fs t),.log fs)
 |_,_=> none
theorem zXn:zY Tryz.prog cfg 112 (zZ zHj):=zCk fun d rest p v d' h hp=> by
 unfold zHj at h
 split at h
 ·cases h;exact⟨rfl,rfl,qTl _ _ hp.1 hp.2.1 hp.le⟩
 ·cases h
end YtapbabkndhaemaaGreat
end Go.Proofs
/-
 WRITES:Len,down the frames.
-/
namespace Go.Proofs
namespace YtapbabkndhaemaaGreat
open Go.Abs
inductive LW (fs:List (List Pr)) (dd:Int) (r:Loop):Nat->AH GD->Prop
 |c0 (f:List Pr) (rs:List (List Pr)) (h:fs=f::rs) (s:Int) (hs:s=0):LW fs dd r 5 (AH.of [some (.arr 168 [.pointer (some ⟨2,0,none⟩),.int .i64 dd]),some (.arr 3 [.int .i64 s]),some (.hi (.stk (f::rs))),some (.arr 164 [.pointer (some ⟨2,0,none⟩)]),some (.loopr r 0 none)])
 |c1 (g1 f:List Pr) (rs:List (List Pr)) (h:fs=g1::f::rs) (s:Int) (hs:s=(g1.length:Int)):LW fs dd r 4 (AH.of [some (.arr 168 [.pointer (some ⟨2,0,none⟩),.int .i64 dd]),some (.arr 3 [.int .i64 s]),some (.arr 213 [.slice (some ⟨5,0,none⟩) g1.length 1,.pointer (some ⟨6,0,none⟩)]),some (.arr 164 [.pointer (some ⟨6,0,none⟩)]),some (.loopr r 0 none),some (.arr 104 (prs g1)),some (.hi (.stk (f::rs)))])
 |n1 (g1:List Pr) (h:fs=[g1]) (s:Int) (hs:s=(g1.length:Int)):LW fs dd r 4 (AH.of [some (.arr 168 [.pointer (some ⟨2,0,none⟩),.int .i64 dd]),some (.arr 3 [.int .i64 s]),some (.arr 213 [.slice (some ⟨5,0,none⟩) g1.length 1,.pointer none]),some (.arr 164 [.pointer none]),some (.loopr r 0 none),some (.arr 104 (prs g1))])
 |c2 (g1 g2 f:List Pr) (rs:List (List Pr)) (h:fs=g1::g2::f::rs) (s:Int) (hs:s=(g1.length:Int)+(g2.length:Int)):LW fs dd r 3 (AH.of [some (.arr 168 [.pointer (some ⟨2,0,none⟩),.int .i64 dd]),some (.arr 3 [.int .i64 s]),some (.arr 213 [.slice (some ⟨5,0,none⟩) g1.length 1,.pointer (some ⟨6,0,none⟩)]),some (.arr 164 [.pointer (some ⟨8,0,none⟩)]),some (.loopr r 0 none),some (.arr 104 (prs g1)),some (.arr 213 [.slice (some ⟨7,0,none⟩) g2.length 1,.pointer (some ⟨8,0,none⟩)]),some (.arr 104 (prs g2)),some (.hi (.stk (f::rs)))])
 |n2 (g1 g2:List Pr) (h:fs=[g1,g2]) (s:Int) (hs:s=(g1.length:Int)+(g2.length:Int)):LW fs dd r 3 (AH.of [some (.arr 168 [.pointer (some ⟨2,0,none⟩),.int .i64 dd]),some (.arr 3 [.int .i64 s]),some (.arr 213 [.slice (some ⟨5,0,none⟩) g1.length 1,.pointer (some ⟨6,0,none⟩)]),some (.arr 164 [.pointer none]),some (.loopr r 0 none),some (.arr 104 (prs g1)),some (.arr 213 [.slice (some ⟨7,0,none⟩) g2.length 1,.pointer none]),some (.arr 104 (prs g2))])
 |c3 (g1 g2 g3 f:List Pr) (rs:List (List Pr)) (h:fs=g1::g2::g3::f::rs) (s:Int) (hs:s=(g1.length:Int)+(g2.length:Int)+(g3.length:Int)):LW fs dd r 2 (AH.of [some (.arr 168 [.pointer (some ⟨2,0,none⟩),.int .i64 dd]),some (.arr 3 [.int .i64 s]),some (.arr 213 [.slice (some ⟨5,0,none⟩) g1.length 1,.pointer (some ⟨6,0,none⟩)]),some (.arr 164 [.pointer (some ⟨10,0,none⟩)]),some (.loopr r 0 none),some (.arr 104 (prs g1)),some (.arr 213 [.slice (some ⟨7,0,none⟩) g2.length 1,.pointer (some ⟨8,0,none⟩)]),some (.arr 104 (prs g2)),some (.arr 213 [.slice (some ⟨9,0,none⟩) g3.length 1,.pointer (some ⟨10,0,none⟩)]),some (.arr 104 (prs g3)),some (.hi (.stk (f::rs)))])
 |n3 (g1 g2 g3:List Pr) (h:fs=[g1,g2,g3]) (s:Int) (hs:s=(g1.length:Int)+(g2.length:Int)+(g3.length:Int)):LW fs dd r 2 (AH.of [some (.arr 168 [.pointer (some ⟨2,0,none⟩),.int .i64 dd]),some (.arr 3 [.int .i64 s]),some (.arr 213 [.slice (some ⟨5,0,none⟩) g1.length 1,.pointer (some ⟨6,0,none⟩)]),some (.arr 164 [.pointer none]),some (.loopr r 0 none),some (.arr 104 (prs g1)),some (.arr 213 [.slice (some ⟨7,0,none⟩) g2.length 1,.pointer (some ⟨8,0,none⟩)]),some (.arr 104 (prs g2)),some (.arr 213 [.slice (some ⟨9,0,none⟩) g3.length 1,.pointer none]),some (.arr 104 (prs g3))])
 |c4 (g1 g2 g3 g4 f:List Pr) (rs:List (List Pr)) (h:fs=g1::g2::g3::g4::f::rs) (s:Int) (hs:s=(g1.length:Int)+(g2.length:Int)+(g3.length:Int)+(g4.length:Int)):LW fs dd r 1 (AH.of [some (.arr 168 [.pointer (some ⟨2,0,none⟩),.int .i64 dd]),some (.arr 3 [.int .i64 s]),some (.arr 213 [.slice (some ⟨5,0,none⟩) g1.length 1,.pointer (some ⟨6,0,none⟩)]),some (.arr 164 [.pointer (some ⟨12,0,none⟩)]),some (.loopr r 0 none),some (.arr 104 (prs g1)),some (.arr 213 [.slice (some ⟨7,0,none⟩) g2.length 1,.pointer (some ⟨8,0,none⟩)]),some (.arr 104 (prs g2)),some (.arr 213 [.slice (some ⟨9,0,none⟩) g3.length 1,.pointer (some ⟨10,0,none⟩)]),some (.arr 104 (prs g3)),some (.arr 213 [.slice (some ⟨11,0,none⟩) g4.length 1,.pointer (some ⟨12,0,none⟩)]),some (.arr 104 (prs g4)),some (.hi (.stk (f::rs)))])
 |n4 (g1 g2 g3 g4:List Pr) (h:fs=[g1,g2,g3,g4]) (s:Int) (hs:s=(g1.length:Int)+(g2.length:Int)+(g3.length:Int)+(g4.length:Int)):LW fs dd r 1 (AH.of [some (.arr 168 [.pointer (some ⟨2,0,none⟩),.int .i64 dd]),some (.arr 3 [.int .i64 s]),some (.arr 213 [.slice (some ⟨5,0,none⟩) g1.length 1,.pointer (some ⟨6,0,none⟩)]),some (.arr 164 [.pointer none]),some (.loopr r 0 none),some (.arr 104 (prs g1)),some (.arr 213 [.slice (some ⟨7,0,none⟩) g2.length 1,.pointer (some ⟨8,0,none⟩)]),some (.arr 104 (prs g2)),some (.arr 213 [.slice (some ⟨9,0,none⟩) g3.length 1,.pointer (some ⟨10,0,none⟩)]),some (.arr 104 (prs g3)),some (.arr 213 [.slice (some ⟨11,0,none⟩) g4.length 1,.pointer none]),some (.arr 104 (prs g4))])
 |n5 (g1 g2 g3 g4 g5:List Pr) (h:fs=[g1,g2,g3,g4,g5]) (s:Int) (hs:s=(g1.length:Int)+(g2.length:Int)+(g3.length:Int)+(g4.length:Int)+(g5.length:Int)):LW fs dd r 0 (AH.of [some (.arr 168 [.pointer (some ⟨2,0,none⟩),.int .i64 dd]),some (.arr 3 [.int .i64 s]),some (.arr 213 [.slice (some ⟨5,0,none⟩) g1.length 1,.pointer (some ⟨6,0,none⟩)]),some (.arr 164 [.pointer none]),some (.loopr r 0 none),some (.arr 104 (prs g1)),some (.arr 213 [.slice (some ⟨7,0,none⟩) g2.length 1,.pointer (some ⟨8,0,none⟩)]),some (.arr 104 (prs g2)),some (.arr 213 [.slice (some ⟨9,0,none⟩) g3.length 1,.pointer (some ⟨10,0,none⟩)]),some (.arr 104 (prs g3)),some (.arr 213 [.slice (some ⟨11,0,none⟩) g4.length 1,.pointer (some ⟨12,0,none⟩)]),some (.arr 104 (prs g4)),some (.arr 213 [.slice (some ⟨13,0,none⟩) g5.length 1,.pointer none]),some (.arr 104 (prs g5))])
theorem qSg (fs:List (List Pr)) (hne:fs≠[]) (hl:fs.length<=5) (hf:∀f∈fs,f.length<=1000):zD Tryz.prog cfg 216 [.pointer (some ⟨0,0,none⟩)] (AH.of [some (.hi (.log fs))])
  fun r H'=> r=.ret (.int .i64 (zEe fs))/\H'=AH.of [some (.hi (.log fs))]:=by
 refine zD.ends ?_
 obtain⟨dd,hdd⟩:∃dd,(fs.length:Int) - 1=dd:=⟨_,rfl⟩
 refine zP (tbl:=[]) (by simp) 6 4 (af:=a216) rfl ?_
 rw[a216,b216,zW]
 refine⟨by simp,?_⟩
 simp -implicitDefEqProofs [forms163,a163,b163,forms217,a217,b217,qV,hdd]
 intro r
 refine jH (qR jG (qS (by simp)) _ _ _ (zLl (qR jG (qS (by simp)) _ _ noY qM))) (fun m tm H=> tm 0=.func (.yield 4) #[] #[]/\tm 1=.pointer (some ⟨3,0,none⟩)/\LW fs dd r m H) (m:=5) ?_ (by omega) ?_
 ·cases fs with
  |nil=> exact (hne rfl).elim
  |cons f rs=> exact⟨by simp,by simp,.c0 f rs rfl 0 rfl⟩
 rintro m tm H ⟨t0,t1,hw⟩
 cases hw with
 |c0 f rs h s hs=>
  subst h
  have hfl:f.length<=1000:=hf f (by simp)
  have hs0:∀x∈(f::rs:List (List Pr)),x.length<=1000:=hf
  have hwr:IntKind.i64.wrap (s+f.length)=s+f.length:=qF (by omega) (by omega)
  cases rs with
  |nil=>
   simp -implicitDefEqProofs [t0,t1,hwr,qX]
   exact⟨4,by omega,.n1 f rfl (s+f.length) (by omega)⟩
  |cons q rs=>
   simp -implicitDefEqProofs [t0,t1,hwr,qZ]
   exact⟨4,by omega,.c1 f q rs rfl (s+f.length) (by omega)⟩
 |c1 g1 f rs h s hs=>
  subst h
  have hfl:f.length<=1000:=hf f (by simp)
  have hs0:∀x∈(g1::f::rs:List (List Pr)),x.length<=1000:=hf
  have hg1:g1.length<=1000:=hf g1 (by simp)
  have hwr:IntKind.i64.wrap (s+f.length)=s+f.length:=qF (by omega) (by omega)
  cases rs with
  |nil=>
   simp -implicitDefEqProofs [t0,t1,hwr,qX]
   exact⟨3,by omega,.n2 g1 f rfl (s+f.length) (by omega)⟩
  |cons q rs=>
   simp -implicitDefEqProofs [t0,t1,hwr,qZ]
   exact⟨3,by omega,.c2 g1 f q rs rfl (s+f.length) (by omega)⟩
 |n1 g1 h s hs=>
  subst h
  simp -implicitDefEqProofs [t0,t1]
  refine zA [.pack (GD.stk [g1]) 2 [5],.pack (GD.log (g1::[])) 0 [2]] [0] ?_ ?_ ?_<;> simp[qX,qZ,qV,AObj.mine,zBq,zIh,←hdd]<;> omega
 |c2 g1 g2 f rs h s hs=>
  subst h
  have hfl:f.length<=1000:=hf f (by simp)
  have hs0:∀x∈(g1::g2::f::rs:List (List Pr)),x.length<=1000:=hf
  have hg1:g1.length<=1000:=hf g1 (by simp)
  have hg2:g2.length<=1000:=hf g2 (by simp)
  have hwr:IntKind.i64.wrap (s+f.length)=s+f.length:=qF (by omega) (by omega)
  cases rs with
  |nil=>
   simp -implicitDefEqProofs [t0,t1,hwr,qX]
   exact⟨2,by omega,.n3 g1 g2 f rfl (s+f.length) (by omega)⟩
  |cons q rs=>
   simp -implicitDefEqProofs [t0,t1,hwr,qZ]
   exact⟨2,by omega,.c3 g1 g2 f q rs rfl (s+f.length) (by omega)⟩
 |n2 g1 g2 h s hs=>
  subst h
  simp -implicitDefEqProofs [t0,t1]
  refine zA [.pack (GD.stk [g2]) 6 [7],.pack (GD.stk (g1::g2::[])) 2 [5,6],.pack (GD.log (g1::g2::[])) 0 [2]] [0] ?_ ?_ ?_<;> simp[qX,qZ,qV,AObj.mine,zBq,zIh,←hdd]<;> omega
 |c3 g1 g2 g3 f rs h s hs=>
  subst h
  have hfl:f.length<=1000:=hf f (by simp)
  have hs0:∀x∈(g1::g2::g3::f::rs:List (List Pr)),x.length<=1000:=hf
  have hg1:g1.length<=1000:=hf g1 (by simp)
  have hg2:g2.length<=1000:=hf g2 (by simp)
  have hg3:g3.length<=1000:=hf g3 (by simp)
  have hwr:IntKind.i64.wrap (s+f.length)=s+f.length:=qF (by omega) (by omega)
  cases rs with
  |nil=>
   simp -implicitDefEqProofs [t0,t1,hwr,qX]
   exact⟨1,by omega,.n4 g1 g2 g3 f rfl (s+f.length) (by omega)⟩
  |cons q rs=>
   simp -implicitDefEqProofs [t0,t1,hwr,qZ]
   exact⟨1,by omega,.c4 g1 g2 g3 f q rs rfl (s+f.length) (by omega)⟩
 |n3 g1 g2 g3 h s hs=>
  subst h
  simp -implicitDefEqProofs [t0,t1]
  refine zA [.pack (GD.stk [g3]) 8 [9],.pack (GD.stk (g2::g3::[])) 6 [7,8],.pack (GD.stk (g1::g2::g3::[])) 2 [5,6],.pack (GD.log (g1::g2::g3::[])) 0 [2]] [0] ?_ ?_ ?_<;> simp[qX,qZ,qV,AObj.mine,zBq,zIh,←hdd]<;> omega
 |c4 g1 g2 g3 g4 f rs h s hs=>
  subst h
  have hfl:f.length<=1000:=hf f (by simp)
  have hs0:∀x∈(g1::g2::g3::g4::f::rs:List (List Pr)),x.length<=1000:=hf
  have hg1:g1.length<=1000:=hf g1 (by simp)
  have hg2:g2.length<=1000:=hf g2 (by simp)
  have hg3:g3.length<=1000:=hf g3 (by simp)
  have hg4:g4.length<=1000:=hf g4 (by simp)
  have hwr:IntKind.i64.wrap (s+f.length)=s+f.length:=qF (by omega) (by omega)
  cases rs with
  |nil=>
   simp -implicitDefEqProofs [t0,t1,hwr,qX]
   exact .n5 g1 g2 g3 g4 f rfl (s+f.length) (by omega)
  |cons q rs=>
   simp at hl
 |n4 g1 g2 g3 g4 h s hs=>
  subst h
  simp -implicitDefEqProofs [t0,t1]
  refine zA [.pack (GD.stk [g4]) 10 [11],.pack (GD.stk (g3::g4::[])) 8 [9,10],.pack (GD.stk (g2::g3::g4::[])) 6 [7,8],.pack (GD.stk (g1::g2::g3::g4::[])) 2 [5,6],.pack (GD.log (g1::g2::g3::g4::[])) 0 [2]] [0] ?_ ?_ ?_<;> simp[qX,qZ,qV,AObj.mine,zBq,zIh,←hdd]<;> omega
 |n5 g1 g2 g3 g4 g5 h s hs=>
  subst h
  simp -implicitDefEqProofs [t0,t1]
  refine zA [.pack (GD.stk [g5]) 12 [13],.pack (GD.stk (g4::g5::[])) 10 [11,12],.pack (GD.stk (g3::g4::g5::[])) 8 [9,10],.pack (GD.stk (g2::g3::g4::g5::[])) 6 [7,8],.pack (GD.stk (g1::g2::g3::g4::g5::[])) 2 [5,6],.pack (GD.log (g1::g2::g3::g4::g5::[])) 0 [2]] [0] ?_ ?_ ?_<;> simp[qX,qZ,qV,AObj.mine,zBq,zIh,←hdd]<;> omega
def zQz:zDs
 |.log fs,[]=> some (zBb fs,.int .i64 (zEe fs),.log fs)
 |_,_=> none
theorem qK9:zY Tryz.prog cfg 216 (zZ zQz):=zCk fun d rest p v d' h hp=> by
 unfold zQz at h
 split at h
 ·cases h;exact⟨rfl,rfl,qSg _ hp.1 hp.2.1 hp.le⟩
 ·cases h
end YtapbabkndhaemaaGreat
end Go.Proofs
/-
 VALUES:which are right;which are the same.
-/
namespace Go.Proofs
namespace YtapbabkndhaemaaGreat
open Go.Abs
def zAg (v:Int):Bool:=decide (zKv .u64 v 9223372036854775808<=9218868437227405312)||decide (v=9221120237041090560)
theorem qWd (v:Int) (H:AH GD):zD Tryz.prog cfg 43 [.int .u64 v] H fun r H'=> r=.ret (.bool (zAg v))/\H'=H:=by
 refine zP (tbl:=[]) (by simp) 0 0 (af:=a43) rfl ?_
 rw[a43,b43,zW]
 refine⟨by simp,?_⟩
 simp -implicitDefEqProofs
 repeat' (first|with_reducible apply And.intro|with_reducible intro _)
 all_goals (simp[zAg, *]<;> omega)
def zCp:qH GD:=fun args H=> match args with
 |[x]=> (asU x).map fun v=> (True,.ret (.bool (zAg v)),H)
 |_=> none
theorem zTa:zY Tryz.prog cfg 43 zCp:=by
 intro args H p r H' h hp
 unfold zCp at h
 split at h
 case h_2=> cases h
 simp only[Option.map_eq_some_iff] at h
 obtain⟨v,hv,h⟩:=h
 cases h
 rw[zT4 hv]
 exact qWd v H
theorem qVx (v:Int) (h0:0<=v) (h1:v<18446744073709551616) (H:AH GD):zD Tryz.prog cfg 97 [.int .u64 v] H fun r H'=> r=.ret (.bool (zAg v))/\H'=H:=by
 refine zP (tbl:=[]) (by simp) 0 0 (af:=a97) rfl ?_
 rw[a97,b97,zW]
 refine⟨by simp,?_⟩
 have e:zB4 .eql (.float .f64 v.toNat) (.float .f64 v.toNat)=some (.bool (decide (zKv .u64 v 9223372036854775808<=9218868437227405312))):=by
  simp only[zB4,qD5,zZr h0 h1]
  simp
  omega
 simp -implicitDefEqProofs [e]
 repeat' (first|with_reducible apply And.intro|with_reducible intro _)
 all_goals (simp[zAg, *]<;> omega)
def zA2:qH GD:=fun args H=> match args with
 |[x]=> (asU x).map fun v=> (0<=v/\v<18446744073709551616,.ret (.bool (zAg v)),H)
 |_=> none
theorem zS5:zY Tryz.prog cfg 97 zA2:=by
 intro args H p r H' h hp
 unfold zA2 at h
 split at h
 case h_2=> cases h
 simp only[Option.map_eq_some_iff] at h
 obtain⟨v,hv,h⟩:=h
 cases h
 rw[zT4 hv]
 exact qVx v hp.1 hp.2 H
end YtapbabkndhaemaaGreat
end Go.Proofs
/-
 WRITES:Put.
-/
namespace Go.Proofs
namespace YtapbabkndhaemaaGreat
open Go.Abs
def jQ (f:List Pr) (fs:List (List Pr)) (t v:Int):Int:=
 if t<0∨12<=t then 2 else if zAg v=false then 3 else if (qW f t).isNone=true/\16<=zEe (f::fs) then 4 else 0
def zEy:List (FuncId × qH GD):=[(164,zCm),(215,zFh),(216,zZ zQz),(43,zCp)]
theorem zG3:∀x∈zEy,zY Tryz.prog cfg x.1 x.2:=by simp[zEy,zXh,zXa,qK9,zTa]
theorem qS4 (f:List Pr) (fs:List (List Pr)) (t v:Int) (hg:zBb (f::fs)) (hv:0<=v/\v<18446744073709551616):zD Tryz.prog cfg 161 [.pointer (some ⟨0,0,none⟩),.int .i64 t,.int .u64 v] (AH.of [some (.hi (.log (f::fs)))])
  fun r H'=> r=.ret (.int .i64 (jQ f fs t v))/\H'=AH.of [some (.hi (if jQ f fs t v=0 then .log (xE f ⟨t,v⟩::fs) else .log (f::fs)))]:=by
 refine zD.ends ?_
 have hfl:f.length<=1000:=hg.le f (by simp)
 have hgg:zBb (f::fs):=hg
 by_cases h1:t<0
 ·refine zP (tbl:=zEy) zG3 0 2 (af:=a161) rfl ?_
  rw[a161,b161,zW]
  refine⟨by simp,?_⟩
  simp -implicitDefEqProofs [h1]
  refine zA [] [0] ?_ ?_ ?_<;> simp[jQ,h1]
 by_cases h2:12<=t
 ·refine zP (tbl:=zEy) zG3 0 2 (af:=a161) rfl ?_
  rw[a161,b161,zW]
  refine⟨by simp,?_⟩
  simp -implicitDefEqProofs [h1,h2]
  refine zA [] [0] ?_ ?_ ?_<;> simp[jQ,h1,h2]
 cases h3:zAg v with
 |false=>
  refine zP (tbl:=zEy) zG3 0 2 (af:=a161) rfl ?_
  rw[a161,b161,zW]
  refine⟨by simp,?_⟩
  simp -implicitDefEqProofs [h1,h2,h3,zEy,zCp,hv.1,hv.2]
  refine zA [] [0] ?_ ?_ ?_<;> simp[jQ,h1,h2,h3]
 |true=>
  have done:∀(hc:jQ f fs t v=0),(GD.log (xE f ⟨t,v⟩::fs))=if jQ f fs t v=0 then .log (xE f ⟨t,v⟩::fs) else .log (f::fs):=fun hc=> by rw[if_pos hc]
  cases h4:qW f t with
  |some w=>
   have hc:jQ f fs t v=0:=by simp[jQ,h1,h2,h3,h4]
   cases fs with
   |nil=>
    refine zP (tbl:=zEy) zG3 0 2 (af:=a161) rfl ?_
    rw[a161,b161,zW]
    refine⟨by simp,?_⟩
    simp -implicitDefEqProofs [h1,h2,h3,h4,zEy,zCp,hv.1,hv.2,zCm,zFh,hfl,zAl,forms106,a106,b106,qV,qX]
    refine zA [.pack (GD.stk [xE f ⟨t,v⟩]) 4 [3],.pack (GD.log [xE f ⟨t,v⟩]) 0 [4]] [0] ?_ ?_ ?_<;> simp[hc,qX,qV,AObj.mine]
   |cons q rs=>
    refine zP (tbl:=zEy) zG3 0 2 (af:=a161) rfl ?_
    rw[a161,b161,zW]
    refine⟨by simp,?_⟩
    simp -implicitDefEqProofs [h1,h2,h3,h4,zEy,zCp,hv.1,hv.2,zCm,zFh,hfl,zAl,forms106,a106,b106,qV,qZ]
    refine zA [.pack (GD.stk (xE f ⟨t,v⟩::q::rs)) 5 [4,3],.pack (GD.log (xE f ⟨t,v⟩::q::rs)) 0 [5]] [0] ?_ ?_ ?_<;> simp[hc,qZ,qV,AObj.mine]
  |none=>
   by_cases h5:16<=zEe (f::fs)
   ·have hc:jQ f fs t v=4:=by simp[jQ,h1,h2,h3,h4,h5]
    cases fs with
    |nil=>
     refine zP (tbl:=zEy) zG3 0 2 (af:=a161) rfl ?_
     rw[a161,b161,zW]
     refine⟨by simp,?_⟩
     simp -implicitDefEqProofs [h1,h2,h3,h4,zEy,zCp,hv.1,hv.2,zCm,zFh,hfl,zAl,forms106,a106,b106,qV,qX]
     refine zF5 [.pack (GD.stk [f]) 1 [2],.pack (GD.log [f]) 0 [1]] ?_ ?_
     ·simp[qX,qV,AObj.mine]
     simp -implicitDefEqProofs [zEy,zZ,zQz,hgg,h5]
     refine zA [] [0] ?_ ?_ ?_<;> simp[hc]
    |cons q rs=>
     refine zP (tbl:=zEy) zG3 0 2 (af:=a161) rfl ?_
     rw[a161,b161,zW]
     refine⟨by simp,?_⟩
     simp -implicitDefEqProofs [h1,h2,h3,h4,zEy,zCp,hv.1,hv.2,zCm,zFh,hfl,zAl,forms106,a106,b106,qV,qZ]
     refine zF5 [.pack (GD.stk (f::q::rs)) 1 [2,3],.pack (GD.log (f::q::rs)) 0 [1]] ?_ ?_
     ·simp[qZ,qV,AObj.mine]
     simp -implicitDefEqProofs [zEy,zZ,zQz,hgg,h5]
     refine zA [] [0] ?_ ?_ ?_<;> simp[hc]
   ·have hc:jQ f fs t v=0:=by simp[jQ,h1,h2,h3,h4,h5]
    cases fs with
    |nil=>
     refine zP (tbl:=zEy) zG3 0 2 (af:=a161) rfl ?_
     rw[a161,b161,zW]
     refine⟨by simp,?_⟩
     simp -implicitDefEqProofs [h1,h2,h3,h4,zEy,zCp,hv.1,hv.2,zCm,zFh,hfl,zAl,forms106,a106,b106,qV,qX]
     refine zF5 [.pack (GD.stk [f]) 1 [2],.pack (GD.log [f]) 0 [1]] ?_ ?_
     ·simp[qX,qV,AObj.mine]
     simp -implicitDefEqProofs [zEy,zZ,zQz,hgg,h5,zFh,hfl,forms106,a106,b106,qV,qX]
     refine zA [.pack (GD.stk [xE f ⟨t,v⟩]) 6 [5],.pack (GD.log [xE f ⟨t,v⟩]) 0 [6]] [0] ?_ ?_ ?_<;> simp[hc,qX,qV,AObj.mine]
    |cons q rs=>
     refine zP (tbl:=zEy) zG3 0 2 (af:=a161) rfl ?_
     rw[a161,b161,zW]
     refine⟨by simp,?_⟩
     simp -implicitDefEqProofs [h1,h2,h3,h4,zEy,zCp,hv.1,hv.2,zCm,zFh,hfl,zAl,forms106,a106,b106,qV,qZ]
     refine zF5 [.pack (GD.stk (f::q::rs)) 1 [2,3],.pack (GD.log (f::q::rs)) 0 [1]] ?_ ?_
     ·simp[qZ,qV,AObj.mine]
     simp -implicitDefEqProofs [zEy,zZ,zQz,hgg,h5,zFh,hfl,forms106,a106,b106,qV,qZ]
     refine zA [.pack (GD.stk (xE f ⟨t,v⟩::q::rs)) 8 [7,6],.pack (GD.log (xE f ⟨t,v⟩::q::rs)) 0 [8]] [0] ?_ ?_ ?_<;> simp[hc,qZ,qV,AObj.mine]
def zZe:zDs
 |.log (f::fs),[.int .i64 t,.int .u64 v]=> some (zBb (f::fs)/\0<=v/\v<18446744073709551616,.int .i64 (jQ f fs t v),if jQ f fs t v=0 then .log (xE f ⟨t,v⟩::fs) else .log (f::fs))
 |_,_=> none
theorem qLq:zY Tryz.prog cfg 161 (zZ zZe):=zCk fun d rest p v d' h hp=> by
 unfold zZe at h
 split at h
 ·cases h;exact⟨rfl,rfl,qS4 _ _ _ _ hp.1 hp.2⟩
 ·cases h
end YtapbabkndhaemaaGreat
end Go.Proofs
/-
 WRITES:Merge,All.
-/
namespace Go.Proofs
namespace YtapbabkndhaemaaGreat
open Go.Abs
def jO (g f:List Pr):List Pr:=f.foldl xE g
theorem zP1 {g f:List Pr} {i:Nat} {x:Pr} (h:f[i]?=some x):jO g (f.take (i+1))=xE (jO g (f.take i)) x:=by
 unfold jO
 rw[List.take_add_one,h,List.foldl_append]
 rfl
theorem zOa (g f:List Pr):(jO g f).length<=g.length+f.length:=by
 unfold jO
 induction f generalizing g with
 |nil=> simp
 |cons a f ih=>
  have h1:=ih (xE g a)
  have h2:=zTk g a
  simp only[List.foldl_cons,List.length_cons]
  omega
def zNq:List (FuncId × qH GD):=[(215,zFh)]
theorem zO1:∀x∈zNq,zY Tryz.prog cfg x.1 x.2:=by simp[zNq,zXa]
theorem qG2 (f:List Pr):zD Tryz.prog cfg 160 [.pointer (some ⟨0,0,none⟩)] (AH.of [some (.hi (.log [f]))])
  fun r H'=> r=.ret (.int .i64 8)/\H'=AH.of [some (.hi (.log [f]))]:=by
 refine zD.ends ?_
 refine zP (tbl:=[]) (by simp) 0 2 (af:=a160) rfl ?_
 rw[a160,b160,zW]
 refine⟨by simp,?_⟩
 simp -implicitDefEqProofs [forms214,a214,b214,qV]
 refine zA [.pack (GD.log [f]) 0 [1]] [0] ?_ ?_ ?_<;> simp[qV,AObj.mine]
theorem qG1 (f g:List Pr) (rs:List (List Pr)) (hl:rs.length<=100) (hfg:f.length+g.length<=1000):zD Tryz.prog cfg 160 [.pointer (some ⟨0,0,none⟩)] (AH.of [some (.hi (.log (f::g::rs)))])
  fun r H'=> r=.ret (.int .i64 0)/\H'=AH.of [some (.hi (.log (jO g f::rs)))]:=by
 refine zD.ends ?_
 have hne:¬((rs.length:Int)+1=0):=by omega
 have hw:IntKind.i64.wrap (rs.length:Int)=rs.length:=qF (by omega) (by omega)
 obtain⟨n,hn⟩:∃n,f.length=n:=⟨_,rfl⟩
 cases rs with
 |nil=>
  refine zP (tbl:=zNq) zO1 1001 2 (af:=a160) rfl ?_
  rw[a160,b160,zW]
  refine⟨by simp,?_⟩
  have hw0:IntKind.i64.wrap 0=0:=by decide
  simp -implicitDefEqProofs [forms214,a214,b214,qV,qZ,qX,hn,hw0]
  refine zA3 (qR jG (qS zO1) _ _ noY qM) (fun m tm H=> ∃i:Nat,m+i=n/\tm 0=.pointer (some ⟨0,0,none⟩)/\tm 23=.slice (some ⟨2,0,none⟩) n 1/\tm 24=.int .i64 n/\tm 25=.int .i64 i/\∃q:Nat,tm 5=.slice (some ⟨q,0,none⟩) (jO g (f.take i)).length 1/\
   ((q=4/\jO g (f.take i)=g/\H=AH.of [some (.arr 168 [.pointer (some ⟨3,0,none⟩),.int .i64 0]),none,some (.arr 104 (prs f)),some (.arr 213 [.slice (some ⟨4,0,none⟩) g.length 1,.pointer none]),some (.arr 104 (prs g))])∨
    (q=5/\H=AH.of [some (.arr 168 [.pointer (some ⟨3,0,none⟩),.int .i64 0]),none,some (.arr 104 (prs f)),some (.arr 213 [.slice (some ⟨4,0,none⟩) g.length 1,.pointer none]),some (.arr 104 (prs g)),some (.arr 104 (prs (jO g (f.take i))))]))) (m:=n) ?_ (by omega) ?_
  ·refine qD [] [0,1,2,3,4] [some (.arr 168 [.pointer (some ⟨3,0,none⟩),.int .i64 0]),none,some (.arr 104 (prs f)),some (.arr 213 [.slice (some ⟨4,0,none⟩) g.length 1,.pointer none]),some (.arr 104 (prs g))] n (by omega) ?_ ?_ ⟨0,by omega,?_,?_,?_,?_,4,?_,.inl ⟨rfl,rfl,rfl⟩⟩<;> simp[jO]
  rintro m tm H ⟨i,hm,t0,t23,t24,t25,q,t5,hH⟩
  have hml:(jO g (f.take i)).length<=1000:=by
   have:=zOa g (f.take i)
   rw[List.length_take] at this
   omega
  by_cases hi:i<n
  ·obtain⟨x,hx⟩:=zAs (l:=f) (i:=i) (by omega)
   have hi':(i:Int)<n:=by omega
   have hwr:=jV hi (by omega)
   have rx:=zK7 hx
   have lx:i*2+2<=(prs f).length:=by rw[zB8];omega
   have hsuc:=zP1 (g:=g) hx
   rcases hH with ⟨rfl,hg,rfl⟩|⟨rfl,rfl⟩
   ·rw[hg] at t5 hsuc hml
    simp -implicitDefEqProofs [zNq,zFh,t0,t5,t23,t24,t25,hi,hi',rx,lx,Pr.cells,hwr,hml]
    refine qD [] [0,1,2,3,4,6] [some (.arr 168 [.pointer (some ⟨3,0,none⟩),.int .i64 0]),none,some (.arr 104 (prs f)),some (.arr 213 [.slice (some ⟨4,0,none⟩) g.length 1,.pointer none]),some (.arr 104 (prs g)),some (.arr 104 (prs (jO g (f.take (i+1)))))] (m - 1) (by omega) ?_ ?_ ⟨i+1,by omega,?_,?_,?_,?_,5,?_,.inr ⟨rfl,rfl⟩⟩<;> simp[t0,t23,t24,hsuc]
   ·simp -implicitDefEqProofs [zNq,zFh,t0,t5,t23,t24,t25,hi,hi',rx,lx,Pr.cells,hwr,hml]
    refine qD [] [0,1,2,3,4,7] [some (.arr 168 [.pointer (some ⟨3,0,none⟩),.int .i64 0]),none,some (.arr 104 (prs f)),some (.arr 213 [.slice (some ⟨4,0,none⟩) g.length 1,.pointer none]),some (.arr 104 (prs g)),some (.arr 104 (prs (jO g (f.take (i+1)))))] (m - 1) (by omega) ?_ ?_ ⟨i+1,by omega,?_,?_,?_,?_,5,?_,.inr ⟨rfl,rfl⟩⟩<;> simp[t0,t23,t24,hsuc]
  ·have hie:i=n:=by omega
   subst hie
   have hf:f.take i=f:=List.take_of_length_le (by omega)
   rw[hf] at t5 hH
   rcases hH with ⟨rfl,hg,rfl⟩|⟨rfl,rfl⟩
   ·rw[hg] at t5
    simp -implicitDefEqProofs [t0,t5,t23,t24,t25,forms106,a106,b106]
    refine zA [.pack (GD.stk [g]) 5 [4],.pack (GD.log [g]) 0 [5]] [0] ?_ ?_ ?_<;> simp[qX,qV,AObj.mine,hg]
   ·simp -implicitDefEqProofs [t0,t5,t23,t24,t25,forms106,a106,b106]
    refine zA [.pack (GD.stk [jO g f]) 6 [5],.pack (GD.log [jO g f]) 0 [6]] [0] ?_ ?_ ?_<;> simp[qX,qV,AObj.mine]
 |cons p rs=>
  obtain⟨dd,hdd⟩:∃dd,(rs.length:Int)+1=dd:=⟨_,rfl⟩
  have hw2:IntKind.i64.wrap ((rs.length:Int)+1)=(rs.length:Int)+1:=qF (by omega) (by simp at hl;omega)
  have hne2:¬(dd+1=0):=by omega
  rw[hdd] at hw2
  refine zP (tbl:=zNq) zO1 1001 2 (af:=a160) rfl ?_
  rw[a160,b160,zW]
  refine⟨by simp,?_⟩
  simp -implicitDefEqProofs [forms214,a214,b214,qV,qZ,hn,hdd,hw2,hne2]
  refine zA3 (qR jG (qS zO1) _ _ noY qM) (fun m tm H=> ∃i:Nat,m+i=n/\tm 0=.pointer (some ⟨0,0,none⟩)/\tm 23=.slice (some ⟨2,0,none⟩) n 1/\tm 24=.int .i64 n/\tm 25=.int .i64 i/\∃q:Nat,tm 5=.slice (some ⟨q,0,none⟩) (jO g (f.take i)).length 1/\
   ((q=4/\jO g (f.take i)=g/\H=AH.of [some (.arr 168 [.pointer (some ⟨3,0,none⟩),.int .i64 dd]),none,some (.arr 104 (prs f)),some (.arr 213 [.slice (some ⟨4,0,none⟩) g.length 1,.pointer (some ⟨5,0,none⟩)]),some (.arr 104 (prs g)),some (.hi (.stk (p::rs)))])∨
    (q=6/\H=AH.of [some (.arr 168 [.pointer (some ⟨3,0,none⟩),.int .i64 dd]),none,some (.arr 104 (prs f)),some (.arr 213 [.slice (some ⟨4,0,none⟩) g.length 1,.pointer (some ⟨5,0,none⟩)]),some (.arr 104 (prs g)),some (.hi (.stk (p::rs))),some (.arr 104 (prs (jO g (f.take i))))]))) (m:=n) ?_ (by omega) ?_
  ·refine qD [] [0,1,2,3,4,5] [some (.arr 168 [.pointer (some ⟨3,0,none⟩),.int .i64 dd]),none,some (.arr 104 (prs f)),some (.arr 213 [.slice (some ⟨4,0,none⟩) g.length 1,.pointer (some ⟨5,0,none⟩)]),some (.arr 104 (prs g)),some (.hi (.stk (p::rs)))] n (by omega) ?_ ?_ ⟨0,by omega,?_,?_,?_,?_,4,?_,.inl ⟨rfl,rfl,rfl⟩⟩<;> simp[jO]
  rintro m tm H ⟨i,hm,t0,t23,t24,t25,q,t5,hH⟩
  have hml:(jO g (f.take i)).length<=1000:=by
   have:=zOa g (f.take i)
   rw[List.length_take] at this
   omega
  by_cases hi:i<n
  ·obtain⟨x,hx⟩:=zAs (l:=f) (i:=i) (by omega)
   have hi':(i:Int)<n:=by omega
   have hwr:=jV hi (by omega)
   have rx:=zK7 hx
   have lx:i*2+2<=(prs f).length:=by rw[zB8];omega
   have hsuc:=zP1 (g:=g) hx
   rcases hH with ⟨rfl,hg,rfl⟩|⟨rfl,rfl⟩
   ·rw[hg] at t5 hsuc hml
    simp -implicitDefEqProofs [zNq,zFh,t0,t5,t23,t24,t25,hi,hi',rx,lx,Pr.cells,hwr,hml]
    refine qD [] [0,1,2,3,4,5,7] [some (.arr 168 [.pointer (some ⟨3,0,none⟩),.int .i64 dd]),none,some (.arr 104 (prs f)),some (.arr 213 [.slice (some ⟨4,0,none⟩) g.length 1,.pointer (some ⟨5,0,none⟩)]),some (.arr 104 (prs g)),some (.hi (.stk (p::rs))),some (.arr 104 (prs (jO g (f.take (i+1)))))] (m - 1) (by omega) ?_ ?_ ⟨i+1,by omega,?_,?_,?_,?_,6,?_,.inr ⟨rfl,rfl⟩⟩<;> simp[t0,t23,t24,hsuc]
   ·simp -implicitDefEqProofs [zNq,zFh,t0,t5,t23,t24,t25,hi,hi',rx,lx,Pr.cells,hwr,hml]
    refine qD [] [0,1,2,3,4,5,8] [some (.arr 168 [.pointer (some ⟨3,0,none⟩),.int .i64 dd]),none,some (.arr 104 (prs f)),some (.arr 213 [.slice (some ⟨4,0,none⟩) g.length 1,.pointer (some ⟨5,0,none⟩)]),some (.arr 104 (prs g)),some (.hi (.stk (p::rs))),some (.arr 104 (prs (jO g (f.take (i+1)))))] (m - 1) (by omega) ?_ ?_ ⟨i+1,by omega,?_,?_,?_,?_,6,?_,.inr ⟨rfl,rfl⟩⟩<;> simp[t0,t23,t24,hsuc]
  ·have hie:i=n:=by omega
   subst hie
   have hf:f.take i=f:=List.take_of_length_le (by omega)
   rw[hf] at t5 hH
   rcases hH with ⟨rfl,hg,rfl⟩|⟨rfl,rfl⟩
   ·rw[hg] at t5
    simp -implicitDefEqProofs [t0,t5,t23,t24,t25,forms106,a106,b106]
    refine zA [.pack (GD.stk (g::p::rs)) 6 [4,5],.pack (GD.log (g::p::rs)) 0 [6]] [0] ?_ ?_ ?_<;> simp[qZ,qV,AObj.mine,hg,hdd]
   ·simp -implicitDefEqProofs [t0,t5,t23,t24,t25,forms106,a106,b106]
    refine zA [.pack (GD.stk (jO g f::p::rs)) 7 [6,5],.pack (GD.log (jO g f::p::rs)) 0 [7]] [0] ?_ ?_ ?_<;> simp[qZ,qV,AObj.mine,hdd]
def d160:zDs
 |.log [f],[]=> some (True,.int .i64 8,.log [f])
 |.log (f::g::rs),[]=> some (zBb (f::g::rs),.int .i64 0,.log (jO g f::rs))
 |_,_=> none
theorem qLr:zY Tryz.prog cfg 160 (zZ d160):=zCk fun d rest p v d' h hp=> by
 unfold d160 at h
 split at h
 ·cases h;exact⟨rfl,rfl,qG2 _⟩
 ·cases h
  refine⟨rfl,rfl,qG1 _ _ _ ?_ ?_⟩
  ·have:=hp.2.1;simp at this;omega
  ·have:=hp.2.2;rw[zBq,zBq] at this
   have:=zNj ‹List (List Pr)›
   omega
 ·cases h
def zC3 (fs:List (List Pr)) (n:Nat):List Pr:=(List.range n).filterMap fun t:Nat=> (qQ fs t).map fun v=> (⟨t,v⟩:Pr)
def jC (fs:List (List Pr)):List Pr:=zC3 fs 12
theorem zOo (fs:List (List Pr)) (n:Nat):zC3 fs (n+1)=zC3 fs n++(match qQ fs n with|some v=> [⟨n,v⟩]|none=> []):=by
 unfold zC3
 rw[List.range_succ,List.filterMap_append]
 cases h:qQ fs n<;> simp[h]
theorem zPt (fs:List (List Pr)) (n:Nat):(zC3 fs n).length<=n:=by
 unfold zC3
 have:=List.length_filterMap_le (fun t:Nat=> (qQ fs t).map fun v=> (⟨t,v⟩:Pr)) (List.range n)
 simpa using this
def zWz:List (FuncId × qH GD):=[(112,zZ zHj)]
theorem qBq:∀x∈zWz,zY Tryz.prog cfg x.1 x.2:=by simp[zWz,zXn]
theorem qV8 (fs:List (List Pr)) (hg:zBb fs):zD Tryz.prog cfg 55 [.pointer (some ⟨0,0,none⟩)] (AH.of [some (.hi (.log fs))])
  fun r H'=> r=.ret (.slice (some ⟨1,0,none⟩) (jC fs).length 1)/\H'=AH.of [some (.hi (.log fs)),some (.arr 104 (prs (jC fs)))]:=by
 refine zD.ends ?_
 refine zP (tbl:=zWz) qBq 13 0 (af:=a55) rfl ?_
 rw[a55,b55,zW]
 refine⟨by simp,?_⟩
 simp -implicitDefEqProofs
 refine zA3 (qR jG (qS qBq) _ _ noY qM) (fun m tm H=> ∃i:Nat,m+i=12/\tm 0=.pointer (some ⟨0,0,none⟩)/\tm 3=.slice (some ⟨1,0,none⟩) (zC3 fs i).length 1/\tm 7=.int .i64 i/\H=AH.of [some (.hi (.log fs)),some (.arr 104 (prs (zC3 fs i)))]) (m:=12) ?_ (by omega) ?_
 ·refine zF4 [.nil 104] [0,1] [some (.hi (.log fs)),some (.arr 104 (prs []))] [(3,.slice (some ⟨1,0,none⟩) 0 1)] 12 (by omega) ?_ ?_ ?_ ⟨0,by omega,?_,?_,?_,rfl⟩<;> simp[zC3,prs]
  done
 rintro m tm H ⟨i,hm,t0,t3,t7,rfl⟩
 have hle:=zPt fs i
 by_cases hi:i<12
 ·have hi':(i:Int)<12:=by omega
  have hwr:=jV hi (by omega)
  have hsuc:=zOo fs i
  have hr3:((zC3 fs i).length+1)*16<=140737488355328/\(zC3 fs i).length<=9223372036854775806:=by omega
  have htk:=zKy (zC3 fs i)
  have hll:(zC3 fs i).length*2<=(prs (zC3 fs i)).length:=by rw[zB8];omega
  cases hv:qQ fs i with
  |none=>
   simp only[hv,List.append_nil] at hsuc
   simp -implicitDefEqProofs [zWz,zZ,zHj,hg,t0,t3,t7,hi,hi',hwr,hv,zAl]
   refine qD [] [0,1] [some (.hi (.log fs)),some (.arr 104 (prs (zC3 fs (i+1))))] (m - 1) (by omega) ?_ ?_ ⟨i+1,by omega,?_,?_,?_,rfl⟩<;> simp[t0,t3,hsuc]
  |some v=>
   simp only[hv] at hsuc
   simp -implicitDefEqProofs [zWz,zZ,zHj,hg,t0,t3,t7,hi,hi',hwr,hv,zAl,hr3,htk,hll]
   refine qD [] [0,3] [some (.hi (.log fs)),some (.arr 104 (prs (zC3 fs (i+1))))] (m - 1) (by omega) ?_ ?_ ⟨i+1,by omega,?_,?_,?_,rfl⟩<;> simp[t0,hsuc,zKc,zKb]
 ·have hie:i=12:=by omega
  subst hie
  simp -implicitDefEqProofs [t0,t3,t7]
  refine zA [] [0,1] ?_ ?_ ?_<;> simp[jC]
def zMp:qH GD:=fun args H=> match args with
 |[.pointer (some ⟨k,0,none⟩)]=> match H.get k with
  |some (.hi (.log fs))=> some (zBb fs,.ret (.slice (some ⟨H.next,0,none⟩) (jC fs).length 1),H.add (.arr 104 (prs (jC fs))))
  |_=> none
 |_=> none
theorem qBv:zY Tryz.prog cfg 55 zMp:=by
 intro args H p r H' h hp
 unfold zMp at h
 split at h
 case h_2=> cases h
 split at h
 case h_2=> cases h
 rename_i k x fs hk
 cases h
 exact (qV8 fs hp).atK (jD rfl) [k] (by simp) (by simp) (by simp[hk]) (by simp) (by simp) (by simp[qO hk])
end YtapbabkndhaemaaGreat
end Go.Proofs
/-
 WRITES:what is good stays so.
-/
namespace Go.Proofs
namespace YtapbabkndhaemaaGreat
open Go.Abs
theorem zLc:zBb [[]]:=⟨by simp,by simp,by simp[zEe]⟩
theorem qMn {f:List Pr} {p:Pr}:(xE f p).length=f.length∨(qW f p.t=none/\(xE f p).length=f.length+1):=by
 induction f with
 |nil=> exact .inr ⟨rfl,rfl⟩
 |cons a f ih=>
  simp only[xE]
  split
  ·exact .inl rfl
  ·rename_i h
   have e:qW (a::f) p.t=qW f p.t:=by simp[qW,h]
   rcases ih with h1|⟨h1,h2⟩
   ·exact .inl (by simp[h1])
   ·exact .inr ⟨by rw[e];exact h1,by simp[h2]⟩
theorem zX6 {f:List Pr} {fs:List (List Pr)} {t v:Int} (h:zBb (f::fs)) (hc:jQ f fs t v=0):zBb (xE f ⟨t,v⟩::fs):=by
 refine⟨by simp,by simpa using h.2.1,?_⟩
 have h16:=h.2.2
 rw[zBq] at h16⊢
 rcases qMn (f:=f) (p:=⟨t,v⟩) with h1|⟨h1,h2⟩
 ·rw[h1];exact h16
 ·unfold jQ at hc
  split at hc
  ·cases hc
  ·split at hc
   ·cases hc
   ·split at hc
    ·cases hc
    ·rename_i h3
     have h1':qW f t=none:=h1
     rw[h1',zBq] at h3
     simp at h3
     rw[h2]
     omega
theorem zSa {f g:List Pr} {fs:List (List Pr)} (h:zBb (f::g::fs)):zBb (jO g f::fs):=by
 refine⟨by simp,by have:=h.2.1;simp at this⊢;omega,?_⟩
 have h16:=h.2.2
 have:=zOa g f
 rw[zBq,zBq] at h16
 rw[zBq]
 omega
theorem zUu {f g:List Pr} {fs:List (List Pr)} (h:zBb (f::g::fs)):zBb (g::fs):=by
 refine⟨by simp,by have:=h.2.1;simp at this⊢;omega,?_⟩
 have h16:=h.2.2
 rw[zBq] at h16
 omega
theorem zUi {f:List Pr} {fs:List (List Pr)} (h:zBb (f::fs)) (hl:(f::fs).length<5):zBb ([]::f::fs):=by
 refine⟨by simp,by simp at hl⊢;omega,?_⟩
 have h16:=h.2.2
 rw[zBq]
 simpa using h16
end YtapbabkndhaemaaGreat
end Go.Proofs
/-
 What engines have in common:replies,frames behind a deed,what may be asked for.
-/
namespace Go.Proofs
namespace YtapbabkndhaemaaGreat
open Go.Abs
structure Rp where
 done:Bool
 val:Int
 busy:Bool
 owner:Int
 ended:Bool
 why:Int
 err:Int
 deriving DecidableEq
def Rp.cells (r:Rp):List Value:=[.bool r.done,.int .u64 r.val,.bool r.busy,.int .i64 r.owner,.bool r.ended,.int .u8 r.why,.int .i64 r.err]
def Rp.v (r:Rp):Value:=.agg r.cells.toArray
def jB:Rp:=⟨false,0,false,0,false,0,0⟩
def zA5 (e:Int):Rp:=⟨false,0,false,0,false,0,e⟩
def xM (v:Int):Rp:=⟨true,v,false,0,false,0,0⟩
def xR (why:Int):Rp:=⟨true,0,false,0,true,why,0⟩
def zAz (o:Int):Rp:=⟨false,0,true,o,false,0,0⟩
def zMw (fs:List (List Pr)):List (List Pr):=if 5<=fs.length then fs else []::fs
def zPm:List (List Pr)->List (List Pr)
 |f::g::fs=> g::fs
 |fs=> fs
def zKs:List (List Pr)->List (List Pr)
 |f::g::fs=> jO g f::fs
 |fs=> fs
def zPb:List (List Pr)->Int->Int->List (List Pr)
 |f::fs,t,v=> xE f ⟨t,v⟩::fs
 |[],_,_=> []
def zPc:List (List Pr)->Int->Int->Int
 |f::fs,t,v=> jQ f fs t v
 |[],_,_=> 0
def zB2 (fs:List (List Pr)) (hl:Nat) (x:Ak):Int:=
 if x.k=0∨7<x.k then 2
 else if (x.k=1∨x.k=2)/\(x.t<0∨(hl:Int)<=x.t) then 2
 else if x.k=2/\zAg x.v=false then 3
 else if fs.length=1/\(x.k=4∨x.k=5) then 8
 else if 1<fs.length/\x.k=6 then 8
 else if 5<=fs.length/\x.k=3 then 4
 else 0
theorem zQm {f:List Pr} {p q:Pr} (h:q∈xE f p):q=p∨q∈f∨(∃r∈f,q=⟨r.t,p.v⟩):=by
 induction f with
 |nil=> simp[xE] at h;exact .inl h
 |cons a f ih=>
  simp only[xE] at h
  split at h
  ·rcases List.mem_cons.1 h with rfl|h
   ·exact .inr (.inr ⟨a,by simp,rfl⟩)
   ·exact .inr (.inl (by simp[h]))
  ·rcases List.mem_cons.1 h with rfl|h
   ·exact .inr (.inl (by simp))
   ·rcases ih h with h|h|⟨r,hr,h⟩
    ·exact .inl h
    ·exact .inr (.inl (by simp[h]))
    ·exact .inr (.inr ⟨r,by simp[hr],h⟩)
theorem zSb {g f:List Pr} {P:Pr->Prop} (hg:∀p∈g,P p) (hf:∀p∈f,P p) (hP:∀p q,P p->P q->P ⟨p.t,q.v⟩):∀p∈jO g f,P p:=by
 unfold jO
 induction f generalizing g with
 |nil=> exact hg
 |cons a f ih=>
  refine ih (g:=xE g a) (fun p hp=> ?_) (fun p hp=> hf p (by simp[hp]))
  rcases zQm hp with rfl|h|⟨r,hr,rfl⟩
  ·exact hf _ (by simp)
  ·exact hg p h
  ·exact hP r a (hg r hr) (hf a (by simp))
theorem qCz (fs:List (List Pr)):(jC fs).length<=12:=zPt fs 12
theorem zZx {fs:List (List Pr)} {p:Pr} (hp:p∈jC fs):∃f∈fs,p∈f:=by
 unfold jC zC3 at hp
 obtain⟨t,_,ht⟩:=List.mem_filterMap.1 hp
 simp only[Option.map_eq_some_iff] at ht
 obtain⟨v,hv,rfl⟩:=ht
 unfold qQ at hv
 obtain⟨f,hf,hg⟩:=List.exists_of_findSome?_eq_some hv
 refine⟨f,hf,?_⟩
 unfold qW at hg
 simp only[Option.map_eq_some_iff] at hg
 obtain⟨q,hq,rfl⟩:=hg
 have h1:=List.mem_of_find?_eq_some hq
 have h2:q.t=(t:Int):=by simpa using List.find?_some hq
 rw[←h2];exact h1
end YtapbabkndhaemaaGreat
end Go.Proofs
/-
 VALUES:which are the same.
-/
namespace Go.Proofs
namespace YtapbabkndhaemaaGreat
open Go.Abs
end YtapbabkndhaemaaGreat
end Go.Proofs
/-
 What was read,as data.
-/
namespace Go.Proofs
namespace YtapbabkndhaemaaGreat
open Go.Abs
def zGq (l:List Ent) (t:Int):Option Ent:=l.find? fun e=> e.t==t
def zCe (l:List Ent) (e:Ent):Int:=
 if e.t<0∨12<=e.t∨1099511627776<e.n then 2
 else if !zAg e.v then 3
 else if (zGq l e.t).isSome then 0
 else if (8:Int)<=l.length then 4
 else 0
def zDy (l:List Ent) (e:Ent):List Ent:=
 if zCe l e=0/\(zGq l e.t).isNone then l++[e] else l
theorem zNn (l:List Ent):(zDz l).length=l.length:=by simp[zDz]
theorem zWf (l:List Ent):jJ (zDz l)=true:=by
 induction l with
 |nil=> rfl
 |cons e l ih=> simp[zDz,jJ,xD] at ih⊢;exact ih
theorem zNw (e:Ent) (l:List Ent):zD2 (e::l)=.int .i64 e.t::.int .u64 e.v::.int .u64 e.n::zD2 l:=rfl
theorem zPx (l:List Ent):(zD2 l).length=l.length*3:=by
 induction l with
 |nil=> rfl
 |cons e l ih=> rw[zNw,List.length_cons,List.length_cons,List.length_cons,ih,List.length_cons];omega
theorem qAj (l:List Ent):jJ (zD2 l)=true:=by
 induction l with
 |nil=> rfl
 |cons e l ih=> rw[zNw];simp[jJ,xD,ih]
theorem qG8 (θ:Nat->Nat) (l:List Ent):zAh θ (zDz l)=zDz l:=xV θ _ (zWf l)
theorem qMe (θ:Nat->Nat) (l:List Ent):zAh θ (zD2 l)=zD2 l:=xV θ _ (qAj l)
theorem qD0 (θ:Nat->Nat) (l:List Ent):zQj θ (zCy l)=zCy l:=by
 simp only[zQj,zCy,List.map_map]
 refine List.map_congr_left fun e _=> ?_
 simp only[Function.comp]
 rw[zD0 θ (.int .i64 e.t) rfl,zD0 θ e.val rfl]
theorem zT7 (l:List Ent) (e:Ent):zDz (l++[e])=zDz l++[.int .i64 e.t]:=by simp[zDz]
theorem qDb (l:List Ent):(zDz l).take l.length=zDz l:=List.take_of_length_le (by simp[zNn])
theorem qH4 {i:Nat} {x:Ent}:∀{l:List Ent},l[i]?=some x->((zD2 l).drop (i*3)).take 3=x.cells:=by
 induction i with
 |zero=>
  intro l h
  cases l with
  |nil=> simp at h
  |cons e l=> simp at h;subst h;rfl
 |succ i ih=>
  intro l h
  cases l with
  |nil=> simp at h
  |cons e l=>
   rw[zNw,show (i+1)*3=i*3+1+1+1 by omega]
   simpa using ih (l:=l) (by simpa using h)
def zLj (l:List Ent):Prop:=(l.map (·.t)).Nodup
theorem zLj.get {l:List Ent} (h:zLj l):∀(i:Nat) (x:Ent),l[i]?=some x->zGq l x.t=some x:=by
 induction l with
 |nil=> intro i x hx;simp at hx
 |cons a l ih=>
  intro i x hx
  simp only[zLj,List.map_cons,List.nodup_cons] at h
  cases i with
  |zero=> simp at hx;subst hx;simp[zGq]
  |succ i=>
   have hx':l[i]?=some x:=by simpa using hx
   have hne:(a.t==x.t)=false:=by
    simp only[beq_eq_false_iff_ne,ne_eq]
    intro e
    exact h.1 (List.mem_map.2 ⟨x,List.mem_of_getElem? hx',e.symm⟩)
   simp only[zGq,List.find?_cons,hne]
   exact ih h.2 i x hx'
theorem zVg (l:List Ent):(zCy l).length=l.length:=by simp[zCy]
theorem qEw (l:List Ent) (e:Ent):zCy (l++[e])=zCy l++[(.int .i64 e.t,e.val)]:=by simp[zCy]
theorem qEo {l:List Ent} {t:Int} (h:∀x∈l,x.t≠t):zGq l t=none:=by
 simp only[zGq,List.find?_eq_none]
 intro x hx
 simpa using h x hx
theorem zM8 {l:List Ent} {es:List MapEntry} {c:Nat} (h:zC4 (zCy l) es c) (hu:zLj l) (t:Int):zDb false (.int .i64 t) es=some ((zGq l t).map Ent.val):=by
 have key:∀es':List MapEntry,(∀e∈es',∃x∈l,e.key=.int .i64 x.t/\e.val=x.val)->
   (zDb false (.int .i64 t) es'=some none/\∀e∈es',e.key≠.int .i64 t)∨∃x∈l,x.t=t/\zDb false (.int .i64 t) es'=some (some x.val):=by
  intro es'
  induction es' with
  |nil=> intro _;exact .inl ⟨rfl,fun e he=> by simp at he⟩
  |cons e es' ih=>
   intro hm
   obtain⟨x,hx,hk,hv⟩:=hm e (by simp)
   rw[zDb,hk,zJe]
   simp only[Bool.false_eq_true,if_false,if_true]
   by_cases ht:t=x.t
   ·right
    refine⟨x,hx,ht.symm,?_⟩
    simp[ht,hv]
   ·have h1:(t==x.t)=false:=by simpa using ht
    rw[h1]
    rcases ih (fun e he=> hm e (by simp[he])) with ⟨h2,h3⟩|h2
    ·refine .inl ⟨h2,fun e' he'=> ?_⟩
     rcases List.mem_cons.1 he' with rfl|he'
     ·rw[hk];intro h4;injection h4 with _ h5;exact ht h5.symm
     ·exact h3 e' he'
    ·exact .inr h2
 have hmem:∀e∈es,∃x∈l,e.key=.int .i64 x.t/\e.val=x.val:=by
  intro e he
  have:(e.key,e.val)∈zCy l:=h.1.mem_iff.1 (List.mem_map.2 ⟨e,he,rfl⟩)
  obtain⟨x,hx,hp⟩:=List.mem_map.1 this
  simp only[Prod.mk.injEq] at hp
  exact⟨x,hx,hp.1.symm,hp.2.symm⟩
 rcases key es hmem with ⟨h1,h2⟩|⟨x,hx,ht,h1⟩
 ·rw[h1,qEo fun x hx ht=> ?_];rfl
  have:((Value.int .i64 x.t,x.val):Value × Value)∈zFj es:=h.1.mem_iff.2 (List.mem_map.2 ⟨x,hx,rfl⟩)
  obtain⟨e,he,hp⟩:=List.mem_map.1 this
  simp only[Prod.mk.injEq] at hp
  exact h2 e he (by rw[hp.1,ht])
 ·obtain⟨i,hi⟩:=List.mem_iff_getElem?.1 hx
  have:=hu.get i x hi
  rw[ht] at this
  rw[h1,this];rfl
theorem qHk {l:List Ent} {es:List MapEntry} {c:Nat} (h:zC4 (zCy l) es c) (hu:zLj l) (x:Ent) (hn:zGq l x.t=none):zJf false (.int .i64 x.t) x.val c es=some (es++[⟨.int .i64 x.t,x.val,c⟩],c+1):=
 qCa (by rw[zM8 h hu,hn];rfl)
theorem qJr {l:List Ent} {es:List MapEntry} {c:Nat} (h:zC4 (zCy l) es c) (x:Ent):zC4 (zCy (l++[x])) (es++[⟨.int .i64 x.t,x.val,c⟩]) (c+1):=by
 rw[qEw];exact h.add _ _
structure Good (l:List Ent):Prop where
 len:l.length<=8
 uniq:zLj l
 range:∀e∈l,0<=e.t/\e.t<12
theorem qNl:Good []:=⟨by simp,by simp[zLj],fun e he=> by simp at he⟩
theorem qJq {l:List Ent} {e:Ent} (h:zCe l e=0):0<=e.t/\e.t<12:=by
 unfold zCe at h
 split at h
 ·cases h
 ·omega
theorem qVa {l:List Ent} {e:Ent} (h:zCe l e=0) (hg:zGq l e.t=none):l.length<8:=by
 unfold zCe at h
 split at h
 ·cases h
 ·split at h
  ·cases h
  ·rw[hg] at h
   simp at h
   omega
theorem qJt {l:List Ent} {e:Ent} (h:zCe l e=0) (hg:zGq l e.t=none):zDy l e=l++[e]:=by simp[zDy,h,hg]
theorem qJs {l:List Ent} {e x:Ent} (hg:zGq l e.t=some x):zDy l e=l:=by simp[zDy,hg]
theorem qO3 {l:List Ent} {e:Ent} (h:zCe l e≠0):zDy l e=l:=by simp[zDy,h]
theorem Good.add {l:List Ent} (h:Good l) (e:Ent):Good (zDy l e):=by
 by_cases hc:zCe l e=0
 ·cases hg:zGq l e.t with
  |some x=> rw[qJs hg];exact h
  |none=>
   rw[qJt hc hg]
   have:=qVa hc hg
   refine⟨by simp;omega,?_,fun y hy=> ?_⟩
   ·show ((l++[e]).map (·.t)).Nodup
    rw[List.map_append]
    refine List.nodup_append.2 ⟨h.uniq,by simp,?_⟩
    rintro a ha b hb rfl
    simp only[List.map_cons,List.map_nil,List.mem_singleton] at hb
    subst hb
    obtain⟨x,hx,hxe⟩:=List.mem_map.1 ha
    simp only[zGq,List.find?_eq_none] at hg
    exact absurd hxe (by simpa using hg x hx)
   ·rcases List.mem_append.1 hy with hy|hy
    ·exact h.range y hy
    ·have:y=e:=by simpa using hy
     subst this;exact qJq hc
 ·rw[qO3 hc];exact h
def zSr:Value->Option Ent
 |.agg ⟨[.int .i64 t,.int .u64 v,.int .u64 n]⟩=> some ⟨t,v,n⟩
 |_=> none
theorem qOw (t v n:Int):zSr (.agg #[.int .i64 t,.int .u64 v,.int .u64 n])=some ⟨t,v,n⟩:=rfl
theorem qJl (e:Ent):zSr e.val=some e:=rfl
theorem qJm {v:Value} {e:Ent} (h:zSr v=some e):v=e.val:=by
 unfold zSr at h
 split at h
 ·cases h;rfl
 ·cases h
def zOe (H:AH GD) (k:Nat):Option (Nat × List Ent):=
 match H.get k with
 |some (.hi (.set c l))=> some (c,l)
 |_=> none
def qUq (H:AH GD) (k:Nat):Option (List Ent):=
 match H.get k with
 |some (.hi (.rset l))=> some l
 |_=> none
theorem zM4 {H:AH GD} {k:Nat} {x:Nat × List Ent} (h:zOe H k=some x):H.get k=some (.hi (.set x.1 x.2)):=by
 unfold zOe at h
 split at h
 ·rename_i h2;cases h;exact h2
 ·cases h
attribute [simp] qOw qJl zOe qUq qG8 qMe qD0
end YtapbabkndhaemaaGreat
end Go.Proofs
/-
 Set.Add:what it comes to.
-/
namespace Go.Proofs
namespace YtapbabkndhaemaaGreat
open Go.Abs
theorem qHf {l:List Ent} {es:List MapEntry} {c:Nat} (h:zC4 (zCy l) es c) (θ:Nat->Nat):es.map (fun e=> (⟨ren θ e.key,ren θ e.val,e.born⟩:MapEntry))=es:=
 qAp θ fun e he=> by
  have:(e.key,e.val)∈zCy l:=h.1.mem_iff.1 (List.mem_map.2 ⟨e,he,rfl⟩)
  obtain⟨x,_,hp⟩:=List.mem_map.1 this
  simp only[Prod.mk.injEq] at hp
  rw[←hp.1,←hp.2]
  exact⟨rfl,rfl⟩
theorem zD.openSet {f:FuncId} {args:List Value} {K:AEnd->AH GD->Prop} {c:Nat} {l:List Ent}
  (h:∀es cc,zC4 (zCy l) es cc->es.length=l.length->(∀θ,es.map (fun e=> (⟨ren θ e.key,ren θ e.val,e.born⟩:MapEntry))=es)->zD Tryz.prog cfg f args (AH.of [some (.arr 163 [.slice (some ⟨1,0,none⟩) l.length 1,.map (some 2)]),some (.arr 3 (zDz l)),some (.map es cc)]) K):
  zD Tryz.prog cfg f args (AH.of [some (.hi (.set c l))]) K:=by
 have e:zJg frag (AH.of [some (.hi (.set c l))]) 0=some (AH.of [some (.arr 163 [.slice (some ⟨1,0,none⟩) l.length 1,.map (some 2)]),some (.arr 3 (zDz l)),some (.mapq (zCy l))]):=by
  simp[zGx]
 refine zD.opn 0 e (zD.expose 2 (ps:=zCy l) rfl fun es cc hes=> ?_)
 have:=h es cc hes (by rw[hes.len,zVg]) (qHf hes)
 rw[zR6 _ _ _ (by simp)]
 exact this
theorem qS8 (t v n:Int) (c:Nat) (l:List Ent) (hu:zLj l):zD Tryz.prog cfg 153 [.pointer (some ⟨0,0,none⟩),.agg #[.int .i64 t,.int .u64 v,.int .u64 n]] (AH.of [some (.hi (.set c l))])
  fun r H'=> r=.ret (.int .i64 (zCe l ⟨t,v,n⟩))/\H'=AH.of [some (.hi (.set c (zDy l ⟨t,v,n⟩)))]:=by
 refine zD.ends ?_
 refine zD.openSet fun es cc hes hlen hren=> ?_
 refine zP (tbl:=[]) (by simp) 0 2 (af:=a153) rfl ?_
 rw[a153,b153,zW]
 refine⟨by simp,?_⟩
 have hf:=zM8 hes hu
 have hg:zGq l t=none->zJf false (.int .i64 t) (.agg #[.int .i64 t,.int .u64 v,.int .u64 n]) cc es=some (es++[⟨.int .i64 t,.agg #[.int .i64 t,.int .u64 v,.int .u64 n],cc⟩],cc+1):=qHk hes hu ⟨t,v,n⟩
 have hadd:zC4 (zCy (l++[⟨t,v,n⟩])) (es++[⟨.int .i64 t,.agg #[.int .i64 t,.int .u64 v,.int .u64 n],cc⟩]) (cc+1):=qJr hes ⟨t,v,n⟩
 cases h5:zGq l t with
 |some e=>
  simp -implicitDefEqProofs [forms43,a43,b43,hf,h5,Ent.val,Ent.cells]
  repeat' (first|with_reducible apply And.intro|with_reducible intro _)
  all_goals (refine zA [.pack (GD.set c l) 0 [1,2]] [0] ?_ ?_ ?_<;> simp[zGx,AObj.mine,zDy,zCe,zAg,hes, *]<;> omega)
 |none=>
  simp -implicitDefEqProofs [forms43,a43,b43,hf,h5,hg h5,zNn,qDb]
  repeat' (first|with_reducible apply And.intro|with_reducible intro _)
  all_goals first
   |omega
   |(refine zA [.pack (GD.set c l) 0 [1,2]] [0] ?_ ?_ ?_<;> simp[zGx,AObj.mine,zDy,zCe,zAg,hes, *]<;> omega)
   |(subst_vars;refine zA [.pack (GD.set c (l++[⟨t,9221120237041090560,n⟩])) 0 [6,2]] [0] ?_ ?_ ?_<;> simp[zGx,AObj.mine,zDy,zCe,zAg,zT7,hadd, *]<;> omega)
   |(refine zA [.pack (GD.set c (l++[⟨t,v,n⟩])) 0 [6,2]] [0] ?_ ?_ ?_<;> simp[zGx,AObj.mine,zDy,zCe,zAg,zT7,hadd, *]<;> omega)
end YtapbabkndhaemaaGreat
end Go.Proofs
/-
 Values;New,Get,Len:what they come to,as steps.
-/
namespace Go.Proofs
namespace YtapbabkndhaemaaGreat
open Go.Abs
theorem qWb:zD Tryz.prog cfg 47 [] (AH.of []) fun r H'=> r=.ret (.pointer (some ⟨0,0,none⟩))/\H'=AH.of [some (.hi (.set 0 []))]:=by
 refine zD.ends ?_
 refine zP (tbl:=[]) (by simp) 0 0 (af:=a47) rfl ?_
 rw[a47,b47,zW]
 refine⟨by simp,?_⟩
 simp -implicitDefEqProofs
 refine zA [.nil 3,.pack (GD.set 0 []) 1 [2,0]] [1] ?_ ?_ ?_<;> simp[zGx,AObj.mine,zDz,zCy,zQj,zC4.nil]
def st47:qH GD:=fun args H=> match args with
 |[]=> some (True,.ret (.pointer (some ⟨H.next,0,none⟩)),H.add (.hi (.set 0 [])))
 |_=> none
theorem qRk:zY Tryz.prog cfg 47 st47:=by
 intro args H p r H' h hp
 unfold st47 at h
 split at h
 case h_2=> cases h
 cases h
 exact qWb.atK (jD rfl) [] (by simp) (by simp) trivial (by simp) (by simp) (by simp)
def zRw:qH GD:=fun args H=> match args with
 |[x,y]=> (zTl x).bind fun k=> (zSr y).bind fun e=> (zOe H k).map fun s=> (zLj s.2,.ret (.int .i64 (zCe s.2 e)),H.upd k (.hi (.set s.1 (zDy s.2 e))))
 |_=> none
theorem qLv:zY Tryz.prog cfg 153 zRw:=by
 intro args H p r H' h hp
 unfold zRw at h
 split at h
 case h_2=> cases h
 simp only[Option.map_eq_some_iff,Option.bind_eq_some_iff] at h
 obtain⟨k,hk,e,he,s,hs,h⟩:=h
 cases h
 rw[zX9 hk,qJm he]
 exact (qS8 e.t e.v e.n s.1 s.2 hp).atK (jD rfl) [k] (by simp) (by simp) (by simp[zM4 hs]) (by simp[Ent.val,Ent.cells]) (by simp) (by simp)
end YtapbabkndhaemaaGreat
end Go.Proofs
/-
 The reference:Get,Add.
-/
namespace Go.Proofs
namespace YtapbabkndhaemaaGreat
open Go.Abs
end YtapbabkndhaemaaGreat
end Go.Proofs
/-
 List,play.
-/
namespace Go.Proofs
namespace YtapbabkndhaemaaGreat
open Go.Abs
theorem qG4 {l:List Ent} {i:Nat} {x:Ent} (h:l[i]?=some x):zD2 (l.take (i+1))=zD2 (l.take i)++[.int .i64 x.t,.int .u64 x.v,.int .u64 x.n]:=by
 rw[List.take_add_one,h]
 simp[zD2,Ent.cells]
theorem qJ3 {l:List Ent} {i:Nat} {x:Ent} (h:l[i]?=some x):(zDz l)[i]?=some (.int .i64 x.t):=by simp[zDz,h]
theorem qVw (c:Nat) (l:List Ent) (hl:l.length<=8) (hu:zLj l):zD Tryz.prog cfg 98 [.pointer (some ⟨0,0,none⟩)] (AH.of [some (.hi (.set c l))])
  fun r H'=> r=.ret (.slice (some ⟨1,0,none⟩) l.length 1)/\H'=AH.of [some (.hi (.set c l)),some (.arr 191 (zD2 l))]:=by
 refine zD.ends ?_
 refine zD.openSet fun es cc hes hlen hren=> ?_
 have hf:=zM8 hes hu
 refine zP (tbl:=[]) (by simp) (l.length+1) 0 (af:=a98) rfl ?_
 rw[a98,b98,zW]
 refine⟨by simp,?_⟩
 simp -implicitDefEqProofs [zGx]
 refine zA3 (qR jG (qS (by simp)) _ _ noY qM) (fun m tm H=> ∃i:Nat,m+i=l.length/\tm 0=.pointer (some ⟨0,0,none⟩)/\tm 3=.slice (some ⟨3,0,none⟩) i 1/\tm 11=.slice (some ⟨1,0,none⟩) l.length 1/\tm 12=.int .i64 l.length/\tm 13=.int .i64 i/\
  H=AH.of [some (.arr 163 [.slice (some ⟨1,0,none⟩) l.length 1,.map (some 2)]),some (.arr 3 (zDz l)),some (.map es cc),some (.arr 191 (zD2 (l.take i)))]) (m:=l.length) ?_ (by omega) ?_
 ·refine zF4 [.nil 191] [0,1,2,3] [some (.arr 163 [.slice (some ⟨1,0,none⟩) l.length 1,.map (some 2)]),some (.arr 3 (zDz l)),some (.map es cc),some (.arr 191 [])] [(3,.slice (some ⟨3,0,none⟩) 0 1)] l.length (by omega) ?_ ?_ ?_ ⟨0,?_⟩<;> simp[zD2,hren]
  done
 rintro m tm H ⟨i,hm,t0,t3,t11,t12,t13,rfl⟩
 by_cases hi:i<l.length
 ·obtain⟨x,hx⟩:∃x,l[i]?=some x:=⟨l[i],List.getElem?_eq_getElem hi⟩
  have hi':(i:Int)<l.length:=by omega
  have hw:IntKind.i64.wrap ((i:Int)+1)=((i+1:Nat):Int):=by rw[qF (by omega) (by omega)];omega
  have hr1:i*3<=(zD2 (l.take i)).length:=by rw[zPx,List.length_take];omega
  have hr2:(zD2 (l.take i)).take (i*3)=zD2 (l.take i):=List.take_of_length_le (by rw[zPx,List.length_take];omega)
  have hr3:(i+1)*24<=140737488355328/\i<=9223372036854775806:=by omega
  simp -implicitDefEqProofs [t0,t3,t11,t12,t13,hi,hi',qJ3 hx,hf,hu.get i x hx,Ent.val,Ent.cells,hr1,hr2,hr3,hw]
  refine qD [] [0,1,2,5] [some (.arr 163 [.slice (some ⟨1,0,none⟩) l.length 1,.map (some 2)]),some (.arr 3 (zDz l)),some (.map es cc),some (.arr 191 (zD2 (l.take (i+1))))] (m - 1) (by omega) ?_ ?_ ⟨i+1,by omega,?_⟩<;> simp[t0,t3,t11,t12,t13,qG4 hx,hren]
  done
 ·have hi':¬(i:Int)<l.length:=by omega
  have hil:i=l.length:=by omega
  subst hil
  simp -implicitDefEqProofs [t0,t3,t11,t12,t13,hi']
  refine zA [.pack (GD.set c l) 0 [1,2]] [0,3] ?_ ?_ ?_<;> simp[zGx,AObj.mine,hes]
end YtapbabkndhaemaaGreat
end Go.Proofs
/-
 play.
-/
namespace Go.Proofs
namespace YtapbabkndhaemaaGreat
open Go.Abs
def Ent.Ok (e:Ent):Prop:=0<=e.v/\e.v<18446744073709551616
end YtapbabkndhaemaaGreat
end Go.Proofs
/-
 Broken,Valid,Newest;live.
-/
namespace Go.Proofs
namespace YtapbabkndhaemaaGreat
open Go.Abs
def zS4:qH GD:=fun args H=> match args with
 |[x]=> (zTl x).bind fun k=> (zOe H k).map fun s=> (s.2.length<=8/\zLj s.2,.ret (.slice (some ⟨H.next,0,none⟩) s.2.length 1),H.add (.arr 191 (zD2 s.2)))
 |_=> none
theorem qRe:zY Tryz.prog cfg 98 zS4:=by
 intro args H p r H' h hp
 unfold zS4 at h
 split at h
 case h_2=> cases h
 simp only[Option.map_eq_some_iff,Option.bind_eq_some_iff] at h
 obtain⟨k,hk,s,hs,h⟩:=h
 cases h
 rw[zX9 hk]
 exact (qVw s.1 s.2 hp.1 hp.2).atK (jD rfl) [k] (by simp) (by simp) (by simp[zM4 hs]) (by simp) (by simp) (by simp[qO (zM4 hs)])
theorem qO1 {l:List Ent} {e x:Ent} (h:x∈zDy l e):x∈l∨x=e:=by
 unfold zDy at h
 split at h
 ·rcases List.mem_append.1 h with h|h
  ·exact .inl h
  ·exact .inr (by simpa using h)
 ·exact .inl h
end YtapbabkndhaemaaGreat
end Go.Proofs
/-
 LOCK WORDS:what they say;the program's functions,and the reference's.
-/
namespace Go.Proofs
namespace YtapbabkndhaemaaGreat
open Go.Abs
def zAx (w:Int):Int:=if w % 32=0 then -1 else (w % 32 - 1) / 2
def zBp (w:Int):Int:=w / 32
structure RightW (w:Int):Prop where
 lo:0<=w
 ver:w / 32<=1099511627776
 low:w % 32=0∨w % 32=1∨w % 32=3∨w % 32=5∨w % 32=7
def zBg (w:Int) (i:Nat):Bool:=decide ((w / 2 ^ i) % 2=1)
theorem qU6 {w d:Int} (h0:0<=w) (h1:w<18446744073709551616) (hd:0<d):zQ4 .u64 (w.fdiv d) 1=w / d % 2:=by
 rw[Int.fdiv_eq_ediv_of_nonneg _ (by omega)]
 have h2:0<=w / d:=Int.ediv_nonneg h0 (by omega)
 have h3:w / d<=w:=Int.ediv_le_self _ h0
 exact zZq h2 (by omega)
def fl (w:Int) (i:Nat):List Value:=[.bool (decide (0<i) && zBg w 0),.bool (decide (1<i) && zBg w 1),.bool (decide (2<i) && zBg w 2),.bool (decide (3<i) && zBg w 3),.bool (decide (4<i) && zBg w 4)]
theorem qSn (w:Int) (h0:0<=w) (h1:w<18446744073709551616):zD Tryz.prog cfg 204 [.int .u64 w] (AH.of [])
  fun r H'=> r=.ret (.agg #[.bool (zBg w 0),.bool (zBg w 1),.bool (zBg w 2),.bool (zBg w 3),.bool (zBg w 4)])/\H'=AH.of []:=by
 refine zD.ends ?_
 refine zP (tbl:=[]) (by simp) 6 0 (af:=a204) rfl ?_
 rw[a204,b204,zW]
 refine⟨by simp,?_⟩
 simp -implicitDefEqProofs
 have hb:∀d,0<d->zQ4 .u64 (w.fdiv d) 1=w / d % 2:=fun d hd=> qU6 h0 h1 hd
 refine jH (qR jG (qS (by simp)) _ _ noY qM) (fun m tm H=> ∃i:Nat,m+i=5/\tm 0=.int .u64 w/\tm 2=.pointer (some ⟨0,0,none⟩)/\tm 3=.pointer (some ⟨1,0,none⟩)/\tm 5=.int .i64 i/\
  H=AH.of [some (.arr 250 [.bool false,.bool false,.bool false,.bool false,.bool false]),some (.arr 250 (fl w i))]) (m:=5) ⟨0,by simp[fl]⟩ (by omega) ?_
 rintro m tm H ⟨i,hm,t0,t2,t3,t5,rfl⟩
 obtain rfl|rfl|rfl|rfl|rfl|rfl:i=0∨i=1∨i=2∨i=3∨i=4∨i=5:=by omega
 ·simp -implicitDefEqProofs [t0,t2,t3,t5,hb,fl,zBg,qF,zZq h0 h1]
  exact⟨m - 1,by omega,1,by omega,by simp⟩
 ·simp -implicitDefEqProofs [t0,t2,t3,t5,hb,fl,zBg,qF,IntKind.bits]
  exact⟨m - 1,by omega,2,by omega,by simp⟩
 ·simp -implicitDefEqProofs [t0,t2,t3,t5,hb,fl,zBg,qF,IntKind.bits]
  exact⟨m - 1,by omega,3,by omega,by simp⟩
 ·simp -implicitDefEqProofs [t0,t2,t3,t5,hb,fl,zBg,qF,IntKind.bits]
  exact⟨m - 1,by omega,4,by omega,by simp⟩
 ·simp -implicitDefEqProofs [t0,t2,t3,t5,hb,fl,zBg,qF,IntKind.bits]
  exact⟨m - 1,by omega,5,by omega,by simp⟩
 ·simp -implicitDefEqProofs [t0,t2,t3,t5,fl]
  refine zA [] [] ?_ ?_ ?_<;> simp
def zMr:qH GD:=fun args H=> match args with
 |[x]=> (asU x).map fun w=> (0<=w/\w<18446744073709551616,.ret (.agg #[.bool (zBg w 0),.bool (zBg w 1),.bool (zBg w 2),.bool (zBg w 3),.bool (zBg w 4)]),H)
 |_=> none
theorem zXc:zY Tryz.prog cfg 204 zMr:=by
 intro args H p r H' h hp
 unfold zMr at h
 split at h
 case h_2=> cases h
 simp only[Option.map_eq_some_iff] at h
 obtain⟨w,hw,h⟩:=h
 cases h
 rw[zT4 hw]
 exact (qSn w hp.1 hp.2).atK (jD rfl) [] (by simp) (by simp) trivial (by simp) (by simp) (by simp)
end YtapbabkndhaemaaGreat
end Go.Proofs
/-
 Lock words:split,Read,Lock,Unlock,Restore,Next of the program.
-/
namespace Go.Proofs
namespace YtapbabkndhaemaaGreat
open Go.Abs
def mkW (o v:Int):Int:=v*32+if o<0 then 0 else o*2+1
theorem RightW.hi {w:Int} (h:RightW w):w<18446744073709551616:=by have:=h.ver;omega
theorem RightW.own {w:Int} (h:RightW w): -1<=zAx w/\zAx w<4:=by
 have:=h.low
 unfold zAx
 split<;> omega
theorem qM0 {w:Int} (h:RightW w):mkW (zAx w) (zBp w)=w:=by
 have:=h.low
 unfold mkW zAx zBp
 split<;> split<;> omega
theorem zN9 {o v:Int} (h: -1<=o/\o<4) (h0:0<=v) (h1:v<=1099511627776):RightW (mkW o v):=by
 unfold mkW
 constructor<;> split<;> omega
theorem zMd {o v:Int} (h: -1<=o/\o<4):zAx (mkW o v)=o:=by
 unfold mkW zAx
 split<;> split<;> omega
theorem zKp {o v:Int} (h: -1<=o/\o<4):zBp (mkW o v)=v:=by
 unfold mkW zBp
 split<;> omega
theorem RightW.ver0 {w:Int} (h:RightW w):0<=zBp w/\zBp w<=1099511627776:=⟨by have:=h.lo;unfold zBp;omega,h.ver⟩
def acc (x1 x2:Bool) (i:Nat):Int:=(if x1=true/\0<i then 1 else 0)+(if x2=true/\1<i then 2 else 0)
theorem zLq (w:Int) (h:RightW w) (hl:w % 32≠0) (x1 x2:Bool) (b1:zBg w 1=x1) (b2:zBg w 2=x2) (ho:zAx w=acc x1 x2 4):zD Tryz.prog cfg 149 [.int .u64 w] (AH.of [])
  fun r H'=> r=.ret (.tuple #[.agg #[.int .i64 (zAx w),.int .u64 (zBp w)],.bool true])/\H'=AH.of []:=by
 refine zD.ends ?_
 have h0:=h.lo
 have h1:=h.hi
 have hv:=h.ver
 have hd:w.fdiv 32=w / 32:=Int.fdiv_eq_ediv_of_nonneg _ (by omega)
 have hlow:=h.low
 have b0:zBg w 0=true:=by simp[zBg];omega
 have b3:zBg w 3=false:=by simp[zBg];omega
 have b4:zBg w 4=false:=by simp[zBg];omega
 have hor1:bOr .i64 0 1=1:=by decide
 have hor2:bOr .i64 0 2=2:=by decide
 have hor3:bOr .i64 1 2=3:=by decide
 have ok:∀x∈[(204,zMr)],zY Tryz.prog cfg x.1 x.2:=by simp[zXc]
 refine zP (tbl:=[(204,zMr)]) ok 6 2 (af:=a149) rfl ?_
 rw[a149,b149,zW]
 refine⟨by simp,?_⟩
 simp -implicitDefEqProofs [zMr,h0,h1,b0,b1,b2,b3,b4,hd,IntKind.bits,zEq,zQ5]
 refine jH (qR jG (qS ok) _ _ noY qM) (fun m tm H=> ∃i:Nat,m+i=4/\tm 2=.pointer (some ⟨0,0,none⟩)/\tm 4=.pointer (some ⟨1,0,none⟩)/\tm 5=.pointer (some ⟨2,0,none⟩)/\tm 16=.int .i64 i/\
  H=AH.of [some (.arr 209 [.int .i64 0,.int .u64 0]),some (.arr 250 [.bool true,.bool x1,.bool x2,.bool false,.bool false]),some (.arr 209 [.int .i64 (acc x1 x2 i),.int .u64 (w / 32)])]) (m:=4) ⟨0,by simp[acc]⟩ (by omega) ?_
 rintro m tm H ⟨i,hm,t2,t4,t5,t16,rfl⟩
 cases x1<;> cases x2<;> (
  obtain rfl|rfl|rfl|rfl|rfl:i=0∨i=1∨i=2∨i=3∨i=4:=by omega
  ·simp -implicitDefEqProofs [t2,t4,t5,t16,qF,IntKind.bits,acc,hor1,hor2,hor3]
   exact⟨m - 1,by omega,1,by omega,by simp⟩
  ·simp -implicitDefEqProofs [t2,t4,t5,t16,qF,IntKind.bits,acc,hor1,hor2,hor3]
   exact⟨m - 1,by omega,2,by omega,by simp⟩
  ·simp -implicitDefEqProofs [t2,t4,t5,t16,qF,IntKind.bits,acc,hor1,hor2,hor3]
   exact⟨m - 1,by omega,3,by omega,by simp⟩
  ·simp -implicitDefEqProofs [t2,t4,t5,t16,qF,IntKind.bits,acc,hor1,hor2,hor3]
   exact⟨m - 1,by omega,4,by omega,by simp⟩
  ·simp -implicitDefEqProofs [t2,t4,t5,t16,qF,IntKind.bits,acc,forms205,a205,b205,forms238,a238,b238,hv]
   refine zA [] [] ?_ ?_ ?_<;> simp[zBp,ho,acc])
theorem qTa (w:Int) (h:RightW w):zD Tryz.prog cfg 149 [.int .u64 w] (AH.of [])
  fun r H'=> r=.ret (.tuple #[.agg #[.int .i64 (zAx w),.int .u64 (zBp w)],.bool true])/\H'=AH.of []:=by
 by_cases hl:w % 32=0
 ·refine zD.ends ?_
  have h0:=h.lo
  have h1:=h.hi
  have hv:=h.ver
  refine zP (tbl:=[(204,zMr)]) (by simp[zXc]) 6 2 (af:=a149) rfl ?_
  rw[a149,b149,zW]
  refine⟨by simp,?_⟩
  have hd:w.fdiv 32=w / 32:=Int.fdiv_eq_ediv_of_nonneg _ (by omega)
  have b0:zBg w 0=false:=by simp[zBg];omega
  have b1:zBg w 1=false:=by simp[zBg];omega
  have b2:zBg w 2=false:=by simp[zBg];omega
  have b3:zBg w 3=false:=by simp[zBg];omega
  have b4:zBg w 4=false:=by simp[zBg];omega
  simp -implicitDefEqProofs [zMr,h0,h1,b0,b1,b2,b3,b4,hd,IntKind.bits,zEq,zQ5,forms205,a205,b205,hv]
  refine zA [] [] ?_ ?_ ?_<;> simp[zAx,zBp,hl]
 ·have hlow:=h.low
  rcases (by omega:w % 32=1∨w % 32=3∨w % 32=5∨w % 32=7) with q|q|q|q
  ·exact zLq w h hl false false (by simp[zBg];omega) (by simp[zBg];omega) (by simp[zAx,acc];omega)
  ·exact zLq w h hl true false (by simp[zBg];omega) (by simp[zBg];omega) (by simp[zAx,acc];omega)
  ·exact zLq w h hl false true (by simp[zBg];omega) (by simp[zBg];omega) (by simp[zAx,acc];omega)
  ·exact zLq w h hl true true (by simp[zBg];omega) (by simp[zBg];omega) (by simp[zAx,acc];omega)
end YtapbabkndhaemaaGreat
end Go.Proofs
/-
 Lock words:Read,Lock,Unlock,Restore,Next of the program.
-/
namespace Go.Proofs
namespace YtapbabkndhaemaaGreat
open Go.Abs
def zGt (w o:Int):Int:=if ¬(0<=o/\o<4) then 2 else if zAx w=o then 6 else if zAx w≠ -1 then 7 else 0
def zHb (w o:Int):Int:=if zGt w o=0 then mkW o (zBp w) else 0
def zE0 (w o v:Int):Int:=if ¬(0<=o/\o<4)∨1099511627776<v then 2 else if zAx w≠o∨v<zBp w then 8 else 0
def zFk (w o v:Int):Int:=if zE0 w o v=0 then mkW (-1) v else 0
def zG8 (w o:Int):Int:=if ¬(0<=o/\o<4) then 2 else if zAx w≠o then 8 else 0
def zG7 (w o:Int):Int:=if zG8 w o=0 then mkW (-1) (zBp w) else 0
def zEi (v:Int):Int:=if 1099511627776<v then 2 else if v=1099511627776 then 4 else 0
def zD1 (v:Int):Int:=if zEi v=0 then v+1 else 0
def zMx:zFd
 |[.int .u64 w]=> some (RightW w,.tuple #[.agg #[.int .i64 (zAx w),.int .u64 (zBp w)],.bool true])
 |_=> none
abbrev qDi:=qE zMx
theorem zXj:zY Tryz.prog cfg 149 qDi:=zDw fun args p v h hp=> by
 unfold zMx at h
 split at h
 ·cases h;exact⟨rfl,rfl,qTa _ hp⟩
 ·cases h
theorem qOo {o v:Int} (ho:0<=o/\o<4) (h0:0<=v) (h1:v<=1099511627776):bOr .u64 (v*32) (bOr .u64 (o*2) 1)=mkW o v:=by
 have e1:bOr .u64 (o*2) 1=o*2+1:=by
  have:=qCy (a:=o) (b:=1) 1 ho.1 (by omega) (by decide) (by omega)
  simpa using this
 have e2:=qCy (a:=v) (b:=o*2+1) 5 h0 (by omega) (by show o*2+1<32;omega) (by show v*32+(o*2+1)<_;omega)
 rw[e1]
 have e3:(2:Int) ^ 5=32:=by decide
 rw[e3] at e2
 rw[e2]
 unfold mkW
 rw[if_neg (by omega)]
theorem qRy (o v:Int) (ho: -1<=o/\o<4) (h0:0<=v) (h1:v<=1099511627776):zD Tryz.prog cfg 258 [.agg #[.int .i64 o,.int .u64 v]] (AH.of [])
  fun r H'=> r=.ret (.int .u64 (mkW o v))/\H'=AH.of []:=by
 refine zD.ends ?_
 refine zP (tbl:=[]) (by simp) 0 0 (af:=a258) rfl ?_
 rw[a258,b258,zW]
 refine⟨by simp,?_⟩
 have hw:IntKind.u64.wrap (v*32)=v*32:=zB5 (by omega) (by omega)
 by_cases hn:o= -1
 ·subst hn
  simp -implicitDefEqProofs [IntKind.bits,hw]
  refine zA [] [] ?_ ?_ ?_<;> simp[mkW]
 ·have ho':0<=o/\o<4:=by omega
  have hw2:IntKind.u64.wrap o=o:=zB5 (by omega) (by omega)
  have hw3:IntKind.u64.wrap (o*2)=o*2:=zB5 (by omega) (by omega)
  simp -implicitDefEqProofs [IntKind.bits,hw,hn,hw2,hw3,qOo ho' h0 h1]
  refine zA [] [] ?_ ?_ ?_<;> simp
def zYb:zFd
 |[.agg ⟨[.int .i64 o,.int .u64 v]⟩]=> some ((-1<=o/\o<4)/\0<=v/\v<=1099511627776,.int .u64 (mkW o v))
 |_=> none
abbrev qPs:=qE zYb
theorem qKx:zY Tryz.prog cfg 258 qPs:=zDw fun args p v h hp=> by
 unfold zYb at h
 split at h
 ·cases h;exact⟨rfl,rfl,qRy _ _ hp.1 hp.2.1 hp.2.2⟩
 ·cases h
def zLx:List (FuncId × qH GD):=[(149,qDi),(258,qPs)]
theorem zOv:∀x∈zLx,zY Tryz.prog cfg x.1 x.2:=by simp[zLx,zXj,qKx]
theorem qS1 (w:Int) (h:RightW w):zD Tryz.prog cfg 178 [.int .u64 w] (AH.of [])
  fun r H'=> r=.ret (.tuple #[.int .i64 (zAx w),.int .u64 (zBp w),.int .i64 0])/\H'=AH.of []:=by
 refine zD.ends ?_
 refine zP (tbl:=zLx) zOv 0 0 (af:=a178) rfl ?_
 rw[a178,b178,zW]
 refine⟨by simp,?_⟩
 simp -implicitDefEqProofs [zLx,qE,zMx,h]
 refine zA [] [] ?_ ?_ ?_<;> simp
def zHy:zFd
 |[.int .u64 w]=> some (RightW w,.tuple #[.int .i64 (zAx w),.int .u64 (zBp w),.int .i64 0])
 |_=> none
abbrev qP1:=qE zHy
theorem qLo:zY Tryz.prog cfg 178 qP1:=zDw fun args p v h hp=> by
 unfold zHy at h
 split at h
 ·cases h;exact⟨rfl,rfl,qS1 _ hp⟩
 ·cases h
theorem qR7 (w o:Int) (h:RightW w):zD Tryz.prog cfg 242 [.int .u64 w,.int .i64 o] (AH.of [])
  fun r H'=> r=.ret (.tuple #[.int .u64 (zHb w o),.int .i64 (zGt w o)])/\H'=AH.of []:=by
 refine zD.ends ?_
 have hv:=h.ver0
 have hw:=h.own
 refine zP (tbl:=zLx) zOv 0 4 (af:=a242) rfl ?_
 rw[a242,b242,zW]
 refine⟨by simp,?_⟩
 simp -implicitDefEqProofs [zLx,qE,zMx,h,forms244,a244,b244,forms238,a238,b238,forms255,a255,b255,forms205,a205,b205,forms245,a245,b245,zYb]
 repeat' (first|with_reducible apply And.intro|with_reducible intro _)
 all_goals first
  |omega
  |(refine zA [] [] ?_ ?_ ?_<;> simp[zGt,zHb, *]<;> omega)
def zIy:zFd
 |[.int .u64 w,.int .i64 o]=> some (RightW w,.tuple #[.int .u64 (zHb w o),.int .i64 (zGt w o)])
 |_=> none
abbrev qPx:=qE zIy
theorem qK4:zY Tryz.prog cfg 242 qPx:=zDw fun args p v h hp=> by
 unfold zIy at h
 split at h
 ·cases h;exact⟨rfl,rfl,qR7 _ _ hp⟩
 ·cases h
theorem qSi (w o v:Int) (h:RightW w) (hv0:0<=v):zD Tryz.prog cfg 213 [.int .u64 w,.int .i64 o,.int .u64 v] (AH.of [])
  fun r H'=> r=.ret (.tuple #[.int .u64 (zFk w o v),.int .i64 (zE0 w o v)])/\H'=AH.of []:=by
 refine zD.ends ?_
 have hv:=h.ver0
 have hw:=h.own
 refine zP (tbl:=zLx) zOv 0 4 (af:=a213) rfl ?_
 rw[a213,b213,zW]
 refine⟨by simp,?_⟩
 simp -implicitDefEqProofs [zLx,qE,zMx,h,forms244,a244,b244,forms238,a238,b238,forms255,a255,b255,forms205,a205,b205,forms245,a245,b245,zYb]
 repeat' (first|with_reducible apply And.intro|with_reducible intro _)
 all_goals first
  |omega
  |(refine zA [] [] ?_ ?_ ?_<;> simp[zE0,zFk, *]<;> omega)
def zI1:zFd
 |[.int .u64 w,.int .i64 o,.int .u64 v]=> some (RightW w/\0<=v,.tuple #[.int .u64 (zFk w o v),.int .i64 (zE0 w o v)])
 |_=> none
abbrev qP0:=qE zI1
theorem qLa:zY Tryz.prog cfg 213 qP0:=zDw fun args p v h hp=> by
 unfold zI1 at h
 split at h
 ·cases h;exact⟨rfl,rfl,qSi _ _ _ hp.1 hp.2⟩
 ·cases h
theorem qSf (w o:Int) (h:RightW w):zD Tryz.prog cfg 219 [.int .u64 w,.int .i64 o] (AH.of [])
  fun r H'=> r=.ret (.tuple #[.int .u64 (zG7 w o),.int .i64 (zG8 w o)])/\H'=AH.of []:=by
 refine zD.ends ?_
 have hv:=h.ver0
 have hw:=h.own
 refine zP (tbl:=zLx) zOv 0 4 (af:=a219) rfl ?_
 rw[a219,b219,zW]
 refine⟨by simp,?_⟩
 simp -implicitDefEqProofs [zLx,qE,zMx,h,forms244,a244,b244,forms238,a238,b238,forms255,a255,b255,forms205,a205,b205,forms245,a245,b245,zYb]
 repeat' (first|with_reducible apply And.intro|with_reducible intro _)
 all_goals first
  |omega
  |(refine zA [] [] ?_ ?_ ?_<;> simp[zG8,zG7, *]<;> omega)
def zI0:zFd
 |[.int .u64 w,.int .i64 o]=> some (RightW w,.tuple #[.int .u64 (zG7 w o),.int .i64 (zG8 w o)])
 |_=> none
abbrev qPz:=qE zI0
theorem qK8:zY Tryz.prog cfg 219 qPz:=zDw fun args p v h hp=> by
 unfold zI0 at h
 split at h
 ·cases h;exact⟨rfl,rfl,qSf _ _ hp⟩
 ·cases h
theorem qR0 (v:Int) (h0:0<=v):zD Tryz.prog cfg 256 [.int .u64 v] (AH.of [])
  fun r H'=> r=.ret (.tuple #[.int .u64 (zD1 v),.int .i64 (zEi v)])/\H'=AH.of []:=by
 refine zD.ends ?_
 refine zP (tbl:=[]) (by simp) 0 0 (af:=a256) rfl ?_
 rw[a256,b256,zW]
 refine⟨by simp,?_⟩
 have hw:v<1099511627776->IntKind.u64.wrap (v+1)=v+1:=fun h=> zB5 (by omega) (by omega)
 simp -implicitDefEqProofs
 repeat' (first|with_reducible apply And.intro|with_reducible intro _)
 all_goals first
  |omega
  |(refine zA [] [] ?_ ?_ ?_<;> simp[zEi,zD1, *]<;> omega)
def zIu:zFd
 |[.int .u64 v]=> some (0<=v,.tuple #[.int .u64 (zD1 v),.int .i64 (zEi v)])
 |_=> none
abbrev qPt:=qE zIu
theorem qKy:zY Tryz.prog cfg 256 qPt:=zDw fun args p v h hp=> by
 unfold zIu at h
 split at h
 ·cases h;exact⟨rfl,rfl,qR0 _ hp⟩
 ·cases h
end YtapbabkndhaemaaGreat
end Go.Proofs
/-
 Lock words:the reference's functions.
-/
namespace Go.Proofs
namespace YtapbabkndhaemaaGreat
open Go.Abs
theorem qVk {w:Int} (h:0<=w):w.tmod 32=w % 32:=Int.tmod_eq_emod_of_nonneg h
theorem qVq {w:Int} (h:0<=w):w.tdiv 32=w / 32:=Int.tdiv_eq_ediv_of_nonneg h
theorem qR8 (o v:Int) (h0:0<=v) (h1:v<=1099511627776) (ho:0<=o/\o<4):zD Tryz.prog cfg 237 [.int .i64 o,.int .u64 v] (AH.of [])
  fun r H'=> r=.ret (.tuple #[.int .u64 (mkW o v),.int .i64 0])/\H'=AH.of []:=by
 refine zD.ends ?_
 refine zP (tbl:=[]) (by simp) 0 4 (af:=a237) rfl ?_
 rw[a237,b237,zW]
 refine⟨by simp,?_⟩
 have e1:IntKind.u64.wrap (v*32)=v*32:=zB5 (by omega) (by omega)
 have e2:IntKind.u64.wrap o=o:=zB5 (by omega) (by omega)
 have e3:IntKind.u64.wrap (o*2)=o*2:=zB5 (by omega) (by omega)
 have e4:IntKind.u64.wrap (v*32+o*2)=v*32+o*2:=zB5 (by omega) (by omega)
 have e5:IntKind.u64.wrap (v*32+o*2+1)=v*32+o*2+1:=zB5 (by omega) (by omega)
 simp -implicitDefEqProofs [forms252,a252,b252,e1,e2,e3,e4,e5,h1]
 repeat' (first|with_reducible apply And.intro|with_reducible intro _)
 all_goals first
  |omega
  |(refine zA [] [] ?_ ?_ ?_<;> simp[mkW, *]<;> omega)
def zTn:zFd
 |[.int .i64 o,.int .u64 v]=> some (0<=v/\v<=1099511627776/\(0<=o/\o<4),.tuple #[.int .u64 (mkW o v),.int .i64 0])
 |_=> none
abbrev zVv:=qE zTn
theorem zW7:zY Tryz.prog cfg 237 zVv:=zDw fun args p v h hp=> by
 unfold zTn at h
 split at h
 ·cases h;exact⟨rfl,rfl,qR8 _ _ hp.1 hp.2.1 hp.2.2⟩
 ·cases h
theorem qSo (w:Int) (h:RightW w):zD Tryz.prog cfg 203 [.int .u64 w] (AH.of [])
  fun r H'=> r=.ret (.tuple #[.int .i64 (zAx w),.int .u64 (zBp w),.int .i64 0])/\H'=AH.of []:=by
 refine zD.ends ?_
 have h0:=h.lo
 have hv:=h.ver0
 have hv2:=h.ver
 have hlow:=h.low
 have ok:∀x∈[(237,zVv)],zY Tryz.prog cfg x.1 x.2:=by simp[zW7]
 refine zP (tbl:=[(237,zVv)]) ok 5 0 (af:=a203) rfl ?_
 rw[a203,b203,zW]
 refine⟨by simp,?_⟩
 have hwr:IntKind.u64.wrap (w / 32)=w / 32:=zB5 (by omega) (by omega)
 simp -implicitDefEqProofs [qVk h0,qVq h0,hwr]
 refine⟨fun hb=> by omega,fun _=> ⟨fun hz=> ?_,fun hz=> ?_⟩⟩
 ·refine zA [] [] ?_ ?_ ?_<;> simp[zAx,zBp,hz]
 have how:zAx w=(w % 32 - 1) / 2:=by unfold zAx;rw[if_neg hz]
 refine jH (qR jG (qS ok) _ _ noY qM) (fun m tm H=> ∃i:Nat,m+i=4/\(i:Int)<=zAx w/\tm 0=.int .u64 w/\tm 5=.int .u64 (w / 32)/\tm 6=.int .i64 i/\H=AH.of []) (m:=4) ⟨0,by omega,by omega,by simp⟩ (by omega) ?_
 rintro m tm H ⟨i,hm,hi,t0,t5,t6,rfl⟩
 have hi4:(i:Int)<4:=by omega
 have hw:=qF (n:=(i:Int)+1) (by omega) (by omega)
 have hvv:0<=w / 32:=by omega
 simp -implicitDefEqProofs [qE,zTn,t0,t5,t6,hi4,hw,hv2,hvv]
 refine⟨fun he=> ?_,fun he=> ?_⟩
 ·have:zAx w=i:=by
   rw[←he];exact zMd (by omega)
  refine zA [] [] ?_ ?_ ?_<;> simp[this,zBp]
 ·have:(i:Int)≠zAx w:=fun e=> he (by rw[e];exact qM0 h)
  exact⟨m - 1,by omega,i+1,by omega,by omega,by simp⟩
def zHi:zFd
 |[.int .u64 w]=> some (RightW w,.tuple #[.int .i64 (zAx w),.int .u64 (zBp w),.int .i64 0])
 |_=> none
abbrev qDg:=qE zHi
theorem zXd:zY Tryz.prog cfg 203 qDg:=zDw fun args p v h hp=> by
 unfold zHi at h
 split at h
 ·cases h;exact⟨rfl,rfl,qSo _ hp⟩
 ·cases h
def zLn:List (FuncId × qH GD):=[(203,qDg),(237,zVv)]
theorem zP8:∀x∈zLn,zY Tryz.prog cfg x.1 x.2:=by simp[zLn,zXd,zW7]
theorem qR3 (w o:Int) (h:RightW w):zD Tryz.prog cfg 250 [.int .u64 w,.int .i64 o] (AH.of [])
  fun r H'=> r=.ret (.tuple #[.int .u64 (zHb w o),.int .i64 (zGt w o)])/\H'=AH.of []:=by
 refine zD.ends ?_
 have hv:=h.ver0
 have hw:=h.own
 refine zP (tbl:=zLn) zP8 0 4 (af:=a250) rfl ?_
 rw[a250,b250,zW]
 refine⟨by simp,?_⟩
 simp -implicitDefEqProofs [zLn,qE,zHi,zTn,h,forms252,a252,b252,forms253,a253,b253]
 repeat' (first|with_reducible apply And.intro|with_reducible intro _)
 all_goals first
  |omega
  |(refine zA [] [] ?_ ?_ ?_<;> simp[zGt,zHb, *]<;> omega)
def zIw:zFd
 |[.int .u64 w,.int .i64 o]=> some (RightW w,.tuple #[.int .u64 (zHb w o),.int .i64 (zGt w o)])
 |_=> none
abbrev qPv:=qE zIw
theorem qK1:zY Tryz.prog cfg 250 qPv:=zDw fun args p v h hp=> by
 unfold zIw at h
 split at h
 ·cases h;exact⟨rfl,rfl,qR3 _ _ hp⟩
 ·cases h
theorem qSa (w o v:Int) (h:RightW w) (hv0:0<=v):zD Tryz.prog cfg 234 [.int .u64 w,.int .i64 o,.int .u64 v] (AH.of [])
  fun r H'=> r=.ret (.tuple #[.int .u64 (zFk w o v),.int .i64 (zE0 w o v)])/\H'=AH.of []:=by
 refine zD.ends ?_
 have hv:=h.ver0
 have hw:=h.own
 have e1:v<=1099511627776->IntKind.u64.wrap (v*32)=v*32:=fun h=> zB5 (by omega) (by omega)
 refine zP (tbl:=zLn) zP8 0 4 (af:=a234) rfl ?_
 rw[a234,b234,zW]
 refine⟨by simp,?_⟩
 simp -implicitDefEqProofs [zLn,qE,zHi,zTn,h,forms252,a252,b252,forms253,a253,b253]
 repeat' (first|with_reducible apply And.intro|with_reducible intro _)
 all_goals first
  |omega
  |(refine zA [] [] ?_ ?_ ?_<;> simp[zE0,zFk,mkW, *]<;> omega)
def zIz:zFd
 |[.int .u64 w,.int .i64 o,.int .u64 v]=> some (RightW w/\0<=v,.tuple #[.int .u64 (zFk w o v),.int .i64 (zE0 w o v)])
 |_=> none
abbrev qPy:=qE zIz
theorem qK6:zY Tryz.prog cfg 234 qPy:=zDw fun args p v h hp=> by
 unfold zIz at h
 split at h
 ·cases h;exact⟨rfl,rfl,qSa _ _ _ hp.1 hp.2⟩
 ·cases h
theorem qR4 (w o:Int) (h:RightW w):zD Tryz.prog cfg 249 [.int .u64 w,.int .i64 o] (AH.of [])
  fun r H'=> r=.ret (.tuple #[.int .u64 (zG7 w o),.int .i64 (zG8 w o)])/\H'=AH.of []:=by
 refine zD.ends ?_
 have hv:=h.ver0
 have hw:=h.own
 have e1:IntKind.u64.wrap (zBp w*32)=zBp w*32:=zB5 (by omega) (by omega)
 refine zP (tbl:=zLn) zP8 0 4 (af:=a249) rfl ?_
 rw[a249,b249,zW]
 refine⟨by simp,?_⟩
 simp -implicitDefEqProofs [zLn,qE,zHi,zTn,h,forms252,a252,b252,forms253,a253,b253,e1]
 repeat' (first|with_reducible apply And.intro|with_reducible intro _)
 all_goals first
  |omega
  |(refine zA [] [] ?_ ?_ ?_<;> simp[zG8,zG7,mkW, *]<;> omega)
def zIx:zFd
 |[.int .u64 w,.int .i64 o]=> some (RightW w,.tuple #[.int .u64 (zG7 w o),.int .i64 (zG8 w o)])
 |_=> none
abbrev qPw:=qE zIx
theorem qK2:zY Tryz.prog cfg 249 qPw:=zDw fun args p v h hp=> by
 unfold zIx at h
 split at h
 ·cases h;exact⟨rfl,rfl,qR4 _ _ hp⟩
 ·cases h
theorem qR2 (v:Int) (h0:0<=v):zD Tryz.prog cfg 251 [.int .u64 v] (AH.of [])
  fun r H'=> r=.ret (.tuple #[.int .u64 (zD1 v),.int .i64 (zEi v)])/\H'=AH.of []:=by
 refine zD.ends ?_
 refine zP (tbl:=[]) (by simp) 0 0 (af:=a251) rfl ?_
 rw[a251,b251,zW]
 refine⟨by simp,?_⟩
 have hw:v<1099511627776->IntKind.u64.wrap (v+1)=v+1:=fun h=> zB5 (by omega) (by omega)
 simp -implicitDefEqProofs
 repeat' (first|with_reducible apply And.intro|with_reducible intro _)
 all_goals first
  |omega
  |(refine zA [] [] ?_ ?_ ?_<;> simp[zEi,zD1, *]<;> omega)
def zIv:zFd
 |[.int .u64 v]=> some (0<=v,.tuple #[.int .u64 (zD1 v),.int .i64 (zEi v)])
 |_=> none
abbrev qPu:=qE zIv
theorem qK0:zY Tryz.prog cfg 251 qPu:=zDw fun args p v h hp=> by
 unfold zIv at h
 split at h
 ·cases h;exact⟨rfl,rfl,qR2 _ hp⟩
 ·cases h
end YtapbabkndhaemaaGreat
end Go.Proofs
/-
 STRIPES:what a table is;what its methods come to:of the program,and of the reference.
-/
namespace Go.Proofs
namespace YtapbabkndhaemaaGreat
open Go.Abs
structure GoodT (ws:List Int) (c:Int):Prop where
 len1:1<=ws.length
 len8:ws.length<=8
 right:∀w∈ws,RightW w/\zBp w<=c
 c0:0<=c
 c1:c<=1099511627776
def getW (ws:List Int) (s:Int):Int:=ws.getD s.toNat 0
def inR (ws:List Int) (s:Int):Prop:=0<=s/\s<ws.length
instance (ws:List Int) (s:Int):Decidable (inR ws s):=by unfold inR;infer_instance
theorem GoodT.get {ws:List Int} {c:Int} (h:GoodT ws c) {i:Nat} {w:Int} (hi:ws[i]?=some w):RightW w/\zBp w<=c:=h.right w (List.mem_of_getElem? hi)
theorem zA0 {ws:List Int} {i:Nat} {w:Int} (hi:ws[i]?=some w):getW ws i=w:=by simp[getW,hi]
def zGw (ws:List Int) (o s:Int):Int:=if inR ws s then zGt (getW ws s) o else 2
def zCx (ws:List Int) (o s:Int):List Int:=if zGw ws o s=0 then ws.set s.toNat (zHb (getW ws s) o) else ws
def zFy (ws:List Int) (c o s v:Int):Int:=if inR ws s then (if c<v then 2 else zE0 (getW ws s) o v) else 2
def xI (ws:List Int) (c o s v:Int):List Int:=if zFy ws c o s v=0 then ws.set s.toNat (zFk (getW ws s) o v) else ws
def zD3 (ws:List Int) (o s:Int):Int:=if inR ws s then zG8 (getW ws s) o else 2
def zA4 (ws:List Int) (o s:Int):List Int:=if zD3 ws o s=0 then ws.set s.toNat (zG7 (getW ws s) o) else ws
def zBl (ws:List Int) (s:Int):Int:=if inR ws s then getW ws s else 0
def zQ8 (ws:List Int) (s:Int):Int:=if inR ws s then 0 else 2
def zDh (ws:List Int) (s:Int):Int:=if inR ws s then (if 0<=zAx (getW ws s) then zAx (getW ws s) else 0) else 0
def zDi (ws:List Int) (s:Int):Bool:=if inR ws s then decide (0<=zAx (getW ws s)) else false
def zAu (ws:List Int) (s:Int):Int:=if inR ws s then zBp (getW ws s) else 0
def zH8 (c:Int):Int:=if zEi c=0 then zD1 c else c
def ofT (ws:List Int) (t:Int):Int:=if 0<=t/\t<12 then (t*5+3) % ws.length else -1
def zCo:List (FuncId × qH GD):=[(242,qPx),(213,qP0),(219,qPz),(256,qPt),(178,qP1),(250,qPv),(234,qPy),(249,qPw),(251,qPu),(203,qDg)]
theorem zEn:∀x∈zCo,zY Tryz.prog cfg x.1 x.2:=by simp[zCo,qK4,qLa,qK8,qKy,qLo,qK1,qK6,qK2,qK0,zXd]
theorem qSk (ws:List Int) (c:Int) (o s:Int) (h:GoodT ws c):zD Tryz.prog cfg 209 [.pointer (some ⟨0,0,none⟩),.int .i64 o,.int .i64 s] (AH.of [some (.hi (.tab ws c))])
  fun r H'=> r=.ret (.int .i64 (zGw ws o s))/\H'=AH.of [some (.hi (.tab (zCx ws o s) (c)))]:=by
 refine zD.ends ?_
 refine zD.opn 0 rfl ?_
 have h0:=h.c0
 have h8:=h.len8
 refine zP (tbl:=zCo) zEn 0 4 (af:=a209) rfl ?_
 rw[a209,b209,zW]
 refine⟨by simp,?_⟩
 by_cases hr:inR ws s
 ·obtain⟨i,rfl⟩:=Int.eq_ofNat_of_zero_le hr.1
  have hi:i<ws.length:=by have:=hr.2;omega
  obtain⟨w,hx⟩:∃w,ws[i]?=some w:=⟨ws[i],List.getElem?_eq_getElem hi⟩
  have hw:=h.get hx
  have hi':¬(ws.length:Int)<=i:=by omega
  have hi2:(i:Int)<ws.length:=by omega
  have hi3:¬(i:Int)<0:=by omega
  simp -implicitDefEqProofs [zCo,qE,zIy,zI1,zI0,zIu,zHy,zIw,zIz,zIx,zIv,zHi,xG,forms211,a211,b211,forms148,a148,b148,forms241,a241,b241,hi,hi',hi2,hi3,zEt hx,hw.1,xZ]
  repeat' (first|with_reducible apply And.intro|with_reducible intro _)
  all_goals first
   |omega
   |(rw[zAd];omega)
   |(refine zA [.pack (GD.tab (zCx ws o i) (c)) 0 [1]] [0] ?_ ?_ ?_<;> simp[zGw,zCx,xG,AObj.mine,hr,zA0 hx, *]<;> omega)
 ·have hr2:s<0∨(ws.length:Int)<=s:=by unfold inR at hr;omega
  simp -implicitDefEqProofs [zCo,xG,forms211,a211,b211,forms148,a148,b148,forms241,a241,b241]
  repeat' (first|with_reducible apply And.intro|with_reducible intro _)
  all_goals first
   |omega
   |(rw[zAd];omega)
   |(refine zA [.pack (GD.tab ws c) 0 [1]] [0] ?_ ?_ ?_<;> simp[zGw,zCx,xG,AObj.mine,hr]<;> omega)
def zVw:qH GD:=fun args H=> match args with
 |[.pointer (some ⟨k,0,none⟩),.int .i64 o,.int .i64 s]=> match H.get k with
  |some (.hi (.tab ws c))=> some (GoodT ws c,.ret (.int .i64 (zGw ws o s)),H.upd k (.hi (.tab (zCx ws o s) (c))))
  |_=> none
 |_=> none
theorem qLc:zY Tryz.prog cfg 209 zVw:=by
 intro args H p r H' h hp
 unfold zVw at h
 split at h
 case h_2=> cases h
 split at h
 case h_2=> cases h
 rename_i k o s x1 ws c hk
 cases h
 exact (qSk ws c o s hp).atK (jD rfl) [k] (by simp) (by simp) (by simp[hk]) (by simp) (by simp) (by simp[qO hk])
theorem qS7 (ws:List Int) (c:Int) (o s v:Int) (h:GoodT ws c) (hv:0<=v):zD Tryz.prog cfg 156 [.pointer (some ⟨0,0,none⟩),.int .i64 o,.int .i64 s,.int .u64 v] (AH.of [some (.hi (.tab ws c))])
  fun r H'=> r=.ret (.int .i64 (zFy ws c o s v))/\H'=AH.of [some (.hi (.tab (xI ws c o s v) (c)))]:=by
 refine zD.ends ?_
 refine zD.opn 0 rfl ?_
 have h0:=h.c0
 have h8:=h.len8
 refine zP (tbl:=zCo) zEn 0 4 (af:=a156) rfl ?_
 rw[a156,b156,zW]
 refine⟨by simp,?_⟩
 by_cases hr:inR ws s
 ·obtain⟨i,rfl⟩:=Int.eq_ofNat_of_zero_le hr.1
  have hi:i<ws.length:=by have:=hr.2;omega
  obtain⟨w,hx⟩:∃w,ws[i]?=some w:=⟨ws[i],List.getElem?_eq_getElem hi⟩
  have hw:=h.get hx
  have hi':¬(ws.length:Int)<=i:=by omega
  have hi2:(i:Int)<ws.length:=by omega
  have hi3:¬(i:Int)<0:=by omega
  by_cases hcv:c<v
  ·simp -implicitDefEqProofs [zCo,qE,zIy,zI1,zI0,zIu,zHy,zIw,zIz,zIx,zIv,zHi,xG,forms211,a211,b211,forms148,a148,b148,forms212,a212,b212,hi,hi',hi2,hi3,zEt hx,hw.1,xZ,hv,hcv]
   repeat' (first|with_reducible apply And.intro|with_reducible intro _)
   all_goals first
    |omega
    |(rw[zAd];omega)
    |(refine zA [.pack (GD.tab (xI ws c o i v) (c)) 0 [1]] [0] ?_ ?_ ?_<;> simp[zFy,xI,xG,AObj.mine,hr,zA0 hx, *]<;> omega)
  ·simp -implicitDefEqProofs [zCo,qE,zIy,zI1,zI0,zIu,zHy,zIw,zIz,zIx,zIv,zHi,xG,forms211,a211,b211,forms148,a148,b148,forms212,a212,b212,hi,hi',hi2,hi3,zEt hx,hw.1,xZ,hv,hcv]
   repeat' (first|with_reducible apply And.intro|with_reducible intro _)
   all_goals first
    |omega
    |(rw[zAd];omega)
    |(refine zA [.pack (GD.tab (xI ws c o i v) (c)) 0 [1]] [0] ?_ ?_ ?_<;> simp[zFy,xI,xG,AObj.mine,hr,zA0 hx, *]<;> omega)
 ·have hr2:s<0∨(ws.length:Int)<=s:=by unfold inR at hr;omega
  simp -implicitDefEqProofs [zCo,xG,forms211,a211,b211,forms148,a148,b148,forms212,a212,b212]
  repeat' (first|with_reducible apply And.intro|with_reducible intro _)
  all_goals first
   |omega
   |(rw[zAd];omega)
   |(refine zA [.pack (GD.tab ws c) 0 [1]] [0] ?_ ?_ ?_<;> simp[zFy,xI,xG,AObj.mine,hr]<;> omega)
def zRv:qH GD:=fun args H=> match args with
 |[.pointer (some ⟨k,0,none⟩),.int .i64 o,.int .i64 s,.int .u64 v]=> match H.get k with
  |some (.hi (.tab ws c))=> some (GoodT ws c/\0<=v,.ret (.int .i64 (zFy ws c o s v)),H.upd k (.hi (.tab (xI ws c o s v) (c))))
  |_=> none
 |_=> none
theorem qLu:zY Tryz.prog cfg 156 zRv:=by
 intro args H p r H' h hp
 unfold zRv at h
 split at h
 case h_2=> cases h
 split at h
 case h_2=> cases h
 rename_i k o s v x1 ws c hk
 cases h
 exact (qS7 ws c o s v hp.1 hp.2).atK (jD rfl) [k] (by simp) (by simp) (by simp[hk]) (by simp) (by simp) (by simp[qO hk])
theorem qS2 (ws:List Int) (c:Int) (o s:Int) (h:GoodT ws c):zD Tryz.prog cfg 165 [.pointer (some ⟨0,0,none⟩),.int .i64 o,.int .i64 s] (AH.of [some (.hi (.tab ws c))])
  fun r H'=> r=.ret (.int .i64 (zD3 ws o s))/\H'=AH.of [some (.hi (.tab (zA4 ws o s) (c)))]:=by
 refine zD.ends ?_
 refine zD.opn 0 rfl ?_
 have h0:=h.c0
 have h8:=h.len8
 refine zP (tbl:=zCo) zEn 0 4 (af:=a165) rfl ?_
 rw[a165,b165,zW]
 refine⟨by simp,?_⟩
 by_cases hr:inR ws s
 ·obtain⟨i,rfl⟩:=Int.eq_ofNat_of_zero_le hr.1
  have hi:i<ws.length:=by have:=hr.2;omega
  obtain⟨w,hx⟩:∃w,ws[i]?=some w:=⟨ws[i],List.getElem?_eq_getElem hi⟩
  have hw:=h.get hx
  have hi':¬(ws.length:Int)<=i:=by omega
  have hi2:(i:Int)<ws.length:=by omega
  have hi3:¬(i:Int)<0:=by omega
  simp -implicitDefEqProofs [zCo,qE,zIy,zI1,zI0,zIu,zHy,zIw,zIz,zIx,zIv,zHi,xG,forms211,a211,b211,forms148,a148,b148,forms218,a218,b218,hi,hi',hi2,hi3,zEt hx,hw.1,xZ]
  repeat' (first|with_reducible apply And.intro|with_reducible intro _)
  all_goals first
   |omega
   |(rw[zAd];omega)
   |(refine zA [.pack (GD.tab (zA4 ws o i) (c)) 0 [1]] [0] ?_ ?_ ?_<;> simp[zD3,zA4,xG,AObj.mine,hr,zA0 hx, *]<;> omega)
 ·have hr2:s<0∨(ws.length:Int)<=s:=by unfold inR at hr;omega
  simp -implicitDefEqProofs [zCo,xG,forms211,a211,b211,forms148,a148,b148,forms218,a218,b218]
  repeat' (first|with_reducible apply And.intro|with_reducible intro _)
  all_goals first
   |omega
   |(rw[zAd];omega)
   |(refine zA [.pack (GD.tab ws c) 0 [1]] [0] ?_ ?_ ?_<;> simp[zD3,zA4,xG,AObj.mine,hr]<;> omega)
def zV0:qH GD:=fun args H=> match args with
 |[.pointer (some ⟨k,0,none⟩),.int .i64 o,.int .i64 s]=> match H.get k with
  |some (.hi (.tab ws c))=> some (GoodT ws c,.ret (.int .i64 (zD3 ws o s)),H.upd k (.hi (.tab (zA4 ws o s) (c))))
  |_=> none
 |_=> none
theorem qLp:zY Tryz.prog cfg 165 zV0:=by
 intro args H p r H' h hp
 unfold zV0 at h
 split at h
 case h_2=> cases h
 split at h
 case h_2=> cases h
 rename_i k o s x1 ws c hk
 cases h
 exact (qS2 ws c o s hp).atK (jD rfl) [k] (by simp) (by simp) (by simp[hk]) (by simp) (by simp) (by simp[qO hk])
theorem qSb (ws:List Int) (c:Int) (o s:Int) (h:GoodT ws c):zD Tryz.prog cfg 230 [.pointer (some ⟨0,0,none⟩),.int .i64 o,.int .i64 s] (AH.of [some (.hi (.rtab ws c))])
  fun r H'=> r=.ret (.int .i64 (zD3 ws o s))/\H'=AH.of [some (.hi (.rtab (zA4 ws o s) (c)))]:=by
 refine zD.ends ?_
 refine zD.opn 0 rfl ?_
 have h0:=h.c0
 have h8:=h.len8
 refine zP (tbl:=zCo) zEn 0 4 (af:=a230) rfl ?_
 rw[a230,b230,zW]
 refine⟨by simp,?_⟩
 by_cases hr:inR ws s
 ·obtain⟨i,rfl⟩:=Int.eq_ofNat_of_zero_le hr.1
  have hi:i<ws.length:=by have:=hr.2;omega
  obtain⟨w,hx⟩:∃w,ws[i]?=some w:=⟨ws[i],List.getElem?_eq_getElem hi⟩
  have hw:=h.get hx
  have hi':¬(ws.length:Int)<=i:=by omega
  have hi2:(i:Int)<ws.length:=by omega
  have hi3:¬(i:Int)<0:=by omega
  simp -implicitDefEqProofs [zCo,qE,zIy,zI1,zI0,zIu,zHy,zIw,zIz,zIx,zIv,zHi,zDp,forms201,a201,b201,hi,hi',hi2,hi3,zEt hx,hw.1,xZ]
  repeat' (first|with_reducible apply And.intro|with_reducible intro _)
  all_goals first
   |omega
   |(rw[zAd];omega)
   |(refine zA [.pack (GD.rtab (zA4 ws o i) (c)) 0 [1]] [0] ?_ ?_ ?_<;> simp[zD3,zA4,zDp,AObj.mine,hr,zA0 hx, *]<;> omega)
 ·have hr2:s<0∨(ws.length:Int)<=s:=by unfold inR at hr;omega
  simp -implicitDefEqProofs [zCo,zDp,forms201,a201,b201]
  repeat' (first|with_reducible apply And.intro|with_reducible intro _)
  all_goals first
   |omega
   |(rw[zAd];omega)
   |(refine zA [.pack (GD.rtab ws c) 0 [1]] [0] ?_ ?_ ?_<;> simp[zD3,zA4,zDp,AObj.mine,hr]<;> omega)
def qDf:qH GD:=fun args H=> match args with
 |[.pointer (some ⟨k,0,none⟩),.int .i64 o,.int .i64 s]=> match H.get k with
  |some (.hi (.rtab ws c))=> some (GoodT ws c,.ret (.int .i64 (zD3 ws o s)),H.upd k (.hi (.rtab (zA4 ws o s) (c))))
  |_=> none
 |_=> none
theorem qK7:zY Tryz.prog cfg 230 qDf:=by
 intro args H p r H' h hp
 unfold qDf at h
 split at h
 case h_2=> cases h
 split at h
 case h_2=> cases h
 rename_i k o s x1 ws c hk
 cases h
 exact (qSb ws c o s hp).atK (jD rfl) [k] (by simp) (by simp) (by simp[hk]) (by simp) (by simp) (by simp[qO hk])
end YtapbabkndhaemaaGreat
end Go.Proofs
/-
 Stripes:what is read off a table;its clock.
-/
namespace Go.Proofs
namespace YtapbabkndhaemaaGreat
open Go.Abs
theorem qTp (ws:List Int) (c:Int) (s:Int) (h:GoodT ws c):zD Tryz.prog cfg 102 [.pointer (some ⟨0,0,none⟩),.int .i64 s] (AH.of [some (.hi (.tab ws c))])
  fun r H'=> r=.ret (.tuple #[.int .u64 (zBl ws s),.int .i64 (zQ8 ws s)])/\H'=AH.of [some (.hi (.tab (ws) (c)))]:=by
 refine zD.ends ?_
 refine zD.opn 0 rfl ?_
 have h0:=h.c0
 have h8:=h.len8
 refine zP (tbl:=zCo) zEn 0 4 (af:=a102) rfl ?_
 rw[a102,b102,zW]
 refine⟨by simp,?_⟩
 by_cases hr:inR ws s
 ·obtain⟨i,rfl⟩:=Int.eq_ofNat_of_zero_le hr.1
  have hi:i<ws.length:=by have:=hr.2;omega
  obtain⟨w,hx⟩:∃w,ws[i]?=some w:=⟨ws[i],List.getElem?_eq_getElem hi⟩
  have hw:=h.get hx
  have hi':¬(ws.length:Int)<=i:=by omega
  have hi2:(i:Int)<ws.length:=by omega
  have hi3:¬(i:Int)<0:=by omega
  simp -implicitDefEqProofs [zCo,qE,zIy,zI1,zI0,zIu,zHy,zIw,zIz,zIx,zIv,zHi,xG,forms148,a148,b148,hi,hi',hi2,hi3,zEt hx,hw.1,xZ]
  repeat' (first|with_reducible apply And.intro|with_reducible intro _)
  all_goals first
   |omega
   |(rw[zAd];omega)
   |(refine zA [.pack (GD.tab (ws) (c)) 0 [1]] [0] ?_ ?_ ?_<;> simp[zBl,zQ8,xG,AObj.mine,hr,zA0 hx, *]<;> omega)
 ·have hr2:s<0∨(ws.length:Int)<=s:=by unfold inR at hr;omega
  simp -implicitDefEqProofs [zCo,xG,forms148,a148,b148]
  repeat' (first|with_reducible apply And.intro|with_reducible intro _)
  all_goals first
   |omega
   |(rw[zAd];omega)
   |(refine zA [.pack (GD.tab ws c) 0 [1]] [0] ?_ ?_ ?_<;> simp[zBl,zQ8,xG,AObj.mine,hr]<;> omega)
def zF2:qH GD:=fun args H=> match args with
 |[.pointer (some ⟨k,0,none⟩),.int .i64 s]=> match H.get k with
  |some (.hi (.tab ws c))=> some (GoodT ws c,.ret (.tuple #[.int .u64 (zBl ws s),.int .i64 (zQ8 ws s)]),H)
  |_=> none
 |_=> none
theorem qL6:zY Tryz.prog cfg 102 zF2:=by
 intro args H p r H' h hp
 unfold zF2 at h
 split at h
 case h_2=> cases h
 split at h
 case h_2=> cases h
 rename_i k s x1 ws c hk
 cases h
 exact (qTp ws c s hp).atK (jD rfl) [k] (by simp) (by simp) (by simp[hk]) (by simp) (by simp) (by simp[qO hk])
theorem qSm (ws:List Int) (c:Int) (s:Int) (h:GoodT ws c):zD Tryz.prog cfg 206 [.pointer (some ⟨0,0,none⟩),.int .i64 s] (AH.of [some (.hi (.tab ws c))])
  fun r H'=> r=.ret (.tuple #[.int .i64 (zDh ws s),.bool (zDi ws s)])/\H'=AH.of [some (.hi (.tab (ws) (c)))]:=by
 refine zD.ends ?_
 refine zD.opn 0 rfl ?_
 have h0:=h.c0
 have h8:=h.len8
 refine zP (tbl:=zCo) zEn 0 4 (af:=a206) rfl ?_
 rw[a206,b206,zW]
 refine⟨by simp,?_⟩
 by_cases hr:inR ws s
 ·obtain⟨i,rfl⟩:=Int.eq_ofNat_of_zero_le hr.1
  have hi:i<ws.length:=by have:=hr.2;omega
  obtain⟨w,hx⟩:∃w,ws[i]?=some w:=⟨ws[i],List.getElem?_eq_getElem hi⟩
  have hw:=h.get hx
  have hi':¬(ws.length:Int)<=i:=by omega
  have hi2:(i:Int)<ws.length:=by omega
  have hi3:¬(i:Int)<0:=by omega
  simp -implicitDefEqProofs [zCo,qE,zIy,zI1,zI0,zIu,zHy,zIw,zIz,zIx,zIv,zHi,xG,forms148,a148,b148,hi,hi',hi2,hi3,zEt hx,hw.1,xZ]
  repeat' (first|with_reducible apply And.intro|with_reducible intro _)
  all_goals first
   |omega
   |(rw[zAd];omega)
   |(refine zA [.pack (GD.tab (ws) (c)) 0 [1]] [0] ?_ ?_ ?_<;> simp[zDh,zDi,xG,AObj.mine,hr,zA0 hx, *]<;> omega)
 ·have hr2:s<0∨(ws.length:Int)<=s:=by unfold inR at hr;omega
  simp -implicitDefEqProofs [zCo,xG,forms148,a148,b148]
  repeat' (first|with_reducible apply And.intro|with_reducible intro _)
  all_goals first
   |omega
   |(rw[zAd];omega)
   |(refine zA [.pack (GD.tab ws c) 0 [1]] [0] ?_ ?_ ?_<;> simp[zDh,zDi,xG,AObj.mine,hr]<;> omega)
def zF1:qH GD:=fun args H=> match args with
 |[.pointer (some ⟨k,0,none⟩),.int .i64 s]=> match H.get k with
  |some (.hi (.tab ws c))=> some (GoodT ws c,.ret (.tuple #[.int .i64 (zDh ws s),.bool (zDi ws s)]),H)
  |_=> none
 |_=> none
theorem qLe:zY Tryz.prog cfg 206 zF1:=by
 intro args H p r H' h hp
 unfold zF1 at h
 split at h
 case h_2=> cases h
 split at h
 case h_2=> cases h
 rename_i k s x1 ws c hk
 cases h
 exact (qSm ws c s hp).atK (jD rfl) [k] (by simp) (by simp) (by simp[hk]) (by simp) (by simp) (by simp[qO hk])
theorem qSp (ws:List Int) (c:Int) (s:Int) (h:GoodT ws c):zD Tryz.prog cfg 202 [.pointer (some ⟨0,0,none⟩),.int .i64 s] (AH.of [some (.hi (.rtab ws c))])
  fun r H'=> r=.ret (.tuple #[.int .i64 (zDh ws s),.bool (zDi ws s)])/\H'=AH.of [some (.hi (.rtab (ws) (c)))]:=by
 refine zD.ends ?_
 refine zD.opn 0 rfl ?_
 have h0:=h.c0
 have h8:=h.len8
 refine zP (tbl:=zCo) zEn 0 4 (af:=a202) rfl ?_
 rw[a202,b202,zW]
 refine⟨by simp,?_⟩
 by_cases hr:inR ws s
 ·obtain⟨i,rfl⟩:=Int.eq_ofNat_of_zero_le hr.1
  have hi:i<ws.length:=by have:=hr.2;omega
  obtain⟨w,hx⟩:∃w,ws[i]?=some w:=⟨ws[i],List.getElem?_eq_getElem hi⟩
  have hw:=h.get hx
  have hi':¬(ws.length:Int)<=i:=by omega
  have hi2:(i:Int)<ws.length:=by omega
  have hi3:¬(i:Int)<0:=by omega
  simp -implicitDefEqProofs [zCo,qE,zIy,zI1,zI0,zIu,zHy,zIw,zIz,zIx,zIv,zHi,zDp,forms201,a201,b201,hi,hi',hi2,hi3,zEt hx,hw.1,xZ]
  repeat' (first|with_reducible apply And.intro|with_reducible intro _)
  all_goals first
   |omega
   |(rw[zAd];omega)
   |(refine zA [.pack (GD.rtab (ws) (c)) 0 [1]] [0] ?_ ?_ ?_<;> simp[zDh,zDi,zDp,AObj.mine,hr,zA0 hx, *]<;> omega)
 ·have hr2:s<0∨(ws.length:Int)<=s:=by unfold inR at hr;omega
  simp -implicitDefEqProofs [zCo,zDp,forms201,a201,b201]
  repeat' (first|with_reducible apply And.intro|with_reducible intro _)
  all_goals first
   |omega
   |(rw[zAd];omega)
   |(refine zA [.pack (GD.rtab ws c) 0 [1]] [0] ?_ ?_ ?_<;> simp[zDh,zDi,zDp,AObj.mine,hr]<;> omega)
def qDh:qH GD:=fun args H=> match args with
 |[.pointer (some ⟨k,0,none⟩),.int .i64 s]=> match H.get k with
  |some (.hi (.rtab ws c))=> some (GoodT ws c,.ret (.tuple #[.int .i64 (zDh ws s),.bool (zDi ws s)]),H)
  |_=> none
 |_=> none
theorem qLf:zY Tryz.prog cfg 202 qDh:=by
 intro args H p r H' h hp
 unfold qDh at h
 split at h
 case h_2=> cases h
 split at h
 case h_2=> cases h
 rename_i k s x1 ws c hk
 cases h
 exact (qSp ws c s hp).atK (jD rfl) [k] (by simp) (by simp) (by simp[hk]) (by simp) (by simp) (by simp[qO hk])
theorem qS9 (ws:List Int) (c:Int) (s:Int) (h:GoodT ws c):zD Tryz.prog cfg 152 [.pointer (some ⟨0,0,none⟩),.int .i64 s] (AH.of [some (.hi (.tab ws c))])
  fun r H'=> r=.ret (.int .u64 (zAu ws s))/\H'=AH.of [some (.hi (.tab (ws) (c)))]:=by
 refine zD.ends ?_
 refine zD.opn 0 rfl ?_
 have h0:=h.c0
 have h8:=h.len8
 refine zP (tbl:=zCo) zEn 0 4 (af:=a152) rfl ?_
 rw[a152,b152,zW]
 refine⟨by simp,?_⟩
 by_cases hr:inR ws s
 ·obtain⟨i,rfl⟩:=Int.eq_ofNat_of_zero_le hr.1
  have hi:i<ws.length:=by have:=hr.2;omega
  obtain⟨w,hx⟩:∃w,ws[i]?=some w:=⟨ws[i],List.getElem?_eq_getElem hi⟩
  have hw:=h.get hx
  have hi':¬(ws.length:Int)<=i:=by omega
  have hi2:(i:Int)<ws.length:=by omega
  have hi3:¬(i:Int)<0:=by omega
  simp -implicitDefEqProofs [zCo,qE,zIy,zI1,zI0,zIu,zHy,zIw,zIz,zIx,zIv,zHi,xG,forms148,a148,b148,hi,hi',hi2,hi3,zEt hx,hw.1,xZ]
  repeat' (first|with_reducible apply And.intro|with_reducible intro _)
  all_goals first
   |omega
   |(rw[zAd];omega)
   |(refine zA [.pack (GD.tab (ws) (c)) 0 [1]] [0] ?_ ?_ ?_<;> simp[zAu,xG,AObj.mine,hr,zA0 hx, *]<;> omega)
 ·have hr2:s<0∨(ws.length:Int)<=s:=by unfold inR at hr;omega
  simp -implicitDefEqProofs [zCo,xG,forms148,a148,b148]
  repeat' (first|with_reducible apply And.intro|with_reducible intro _)
  all_goals first
   |omega
   |(rw[zAd];omega)
   |(refine zA [.pack (GD.tab ws c) 0 [1]] [0] ?_ ?_ ?_<;> simp[zAu,xG,AObj.mine,hr]<;> omega)
def zG4:qH GD:=fun args H=> match args with
 |[.pointer (some ⟨k,0,none⟩),.int .i64 s]=> match H.get k with
  |some (.hi (.tab ws c))=> some (GoodT ws c,.ret (.int .u64 (zAu ws s)),H)
  |_=> none
 |_=> none
theorem qLw:zY Tryz.prog cfg 152 zG4:=by
 intro args H p r H' h hp
 unfold zG4 at h
 split at h
 case h_2=> cases h
 split at h
 case h_2=> cases h
 rename_i k s x1 ws c hk
 cases h
 exact (qS9 ws c s hp).atK (jD rfl) [k] (by simp) (by simp) (by simp[hk]) (by simp) (by simp) (by simp[qO hk])
theorem qSj (ws:List Int) (c:Int) (h:GoodT ws c):zD Tryz.prog cfg 210 [.pointer (some ⟨0,0,none⟩)] (AH.of [some (.hi (.tab ws c))])
  fun r H'=> r=.ret (.tuple #[.int .u64 (zD1 c),.int .i64 (zEi c)])/\H'=AH.of [some (.hi (.tab (ws) (zH8 c)))]:=by
 refine zD.ends ?_
 refine zD.opn 0 rfl ?_
 have h0:=h.c0
 have h8:=h.len8
 refine zP (tbl:=zCo) zEn 0 4 (af:=a210) rfl ?_
 rw[a210,b210,zW]
 refine⟨by simp,?_⟩
 simp -implicitDefEqProofs [zCo,qE,zIy,zI1,zI0,zIu,zHy,zIw,zIz,zIx,zIv,zHi,xG,forms243,a243,b243,h0]
 repeat' (first|with_reducible apply And.intro|with_reducible intro _)
 all_goals first
  |omega
  |(rw[zAd];omega)
  |(refine zA [.pack (GD.tab (ws) (zH8 c)) 0 [1]] [0] ?_ ?_ ?_<;> simp[zH8,zD1,xG,AObj.mine, *]<;> omega)
def zRs:qH GD:=fun args H=> match args with
 |[.pointer (some ⟨k,0,none⟩)]=> match H.get k with
  |some (.hi (.tab ws c))=> some (GoodT ws c,.ret (.tuple #[.int .u64 (zD1 c),.int .i64 (zEi c)]),H.upd k (.hi (.tab (ws) (zH8 c))))
  |_=> none
 |_=> none
theorem qLb:zY Tryz.prog cfg 210 zRs:=by
 intro args H p r H' h hp
 unfold zRs at h
 split at h
 case h_2=> cases h
 split at h
 case h_2=> cases h
 rename_i k x1 ws c hk
 cases h
 exact (qSj ws c hp).atK (jD rfl) [k] (by simp) (by simp) (by simp[hk]) (by simp) (by simp) (by simp[qO hk])
theorem qV9 (ws:List Int) (c:Int) (h:GoodT ws c):zD Tryz.prog cfg 49 [.pointer (some ⟨0,0,none⟩)] (AH.of [some (.hi (.tab ws c))])
  fun r H'=> r=.ret (.int .u64 c)/\H'=AH.of [some (.hi (.tab (ws) (c)))]:=by
 refine zD.ends ?_
 refine zD.opn 0 rfl ?_
 have h0:=h.c0
 have h8:=h.len8
 refine zP (tbl:=zCo) zEn 0 4 (af:=a49) rfl ?_
 rw[a49,b49,zW]
 refine⟨by simp,?_⟩
 simp -implicitDefEqProofs [zCo,qE,zIy,zI1,zI0,zIu,zHy,zIw,zIz,zIx,zIv,zHi,xG,h0]
 repeat' (first|with_reducible apply And.intro|with_reducible intro _)
 all_goals first
  |omega
  |(rw[zAd];omega)
  |(refine zA [.pack (GD.tab (ws) (c)) 0 [1]] [0] ?_ ?_ ?_<;> simp[xG,AObj.mine, *]<;> omega)
def zW4:qH GD:=fun args H=> match args with
 |[.pointer (some ⟨k,0,none⟩)]=> match H.get k with
  |some (.hi (.tab ws c))=> some (GoodT ws c,.ret (.int .u64 c),H)
  |_=> none
 |_=> none
theorem qBw:zY Tryz.prog cfg 49 zW4:=by
 intro args H p r H' h hp
 unfold zW4 at h
 split at h
 case h_2=> cases h
 split at h
 case h_2=> cases h
 rename_i k x1 ws c hk
 cases h
 exact (qV9 ws c hp).atK (jD rfl) [k] (by simp) (by simp) (by simp[hk]) (by simp) (by simp) (by simp[qO hk])
end YtapbabkndhaemaaGreat
end Go.Proofs
/-
 Stripes:a table stays right;New,Of,Fork.
-/
namespace Go.Proofs
namespace YtapbabkndhaemaaGreat
open Go.Abs
theorem qAx {w o c:Int} (h:RightW w/\zBp w<=c) (hc:zGt w o=0):RightW (zHb w o)/\zBp (zHb w o)<=c:=by
 have hv:=h.1.ver0
 have ho: -1<=o/\o<4:=by
  unfold zGt at hc
  by_cases h1:¬(0<=o/\o<4)
  ·rw[if_pos h1] at hc;cases hc
  ·omega
 unfold zHb
 rw[if_pos hc,zKp ho]
 exact⟨zN9 ho hv.1 hv.2,h.2⟩
theorem zU6 {w o v c:Int} (h:RightW w/\zBp w<=c) (hv:0<=v) (hvc:v<=c) (hc:zE0 w o v=0):RightW (zFk w o v)/\zBp (zFk w o v)<=c:=by
 have h2:v<=1099511627776:=by
  unfold zE0 at hc
  by_cases h1:¬(0<=o/\o<4)∨1099511627776<v
  ·rw[if_pos h1] at hc;cases hc
  ·omega
 unfold zFk
 rw[if_pos hc,zKp (by omega)]
 exact⟨zN9 (by omega) hv h2,hvc⟩
theorem qAn {w o c:Int} (h:RightW w/\zBp w<=c) (hc:zG8 w o=0):RightW (zG7 w o)/\zBp (zG7 w o)<=c:=by
 have hv:=h.1.ver0
 unfold zG7
 rw[if_pos hc,zKp (by omega)]
 exact⟨zN9 (by omega) hv.1 hv.2,h.2⟩
theorem GoodT.set {ws:List Int} {c:Int} (h:GoodT ws c) (i:Nat) {v:Int} (hv:RightW v/\zBp v<=c):GoodT (ws.set i v) c:=by
 refine⟨by simpa using h.len1,by simpa using h.len8,fun w hw=> ?_,h.c0,h.c1⟩
 rcases List.mem_or_eq_of_mem_set hw with h1|h1
 ·exact h.right w h1
 ·rw[h1];exact hv
theorem GoodT.getW {ws:List Int} {c:Int} (h:GoodT ws c) {s:Int} (hs:inR ws s):RightW (getW ws s)/\zBp (getW ws s)<=c:=by
 obtain⟨i,rfl⟩:=Int.eq_ofNat_of_zero_le hs.1
 have hi:i<ws.length:=by have:=hs.2;omega
 rw[zA0 (List.getElem?_eq_getElem hi)]
 exact h.get (List.getElem?_eq_getElem hi)
theorem GoodT.lock {ws:List Int} {c:Int} (h:GoodT ws c) (o s:Int):GoodT (zCx ws o s) c:=by
 unfold zCx
 split
 ·rename_i hc
  unfold zGw at hc
  split at hc
  ·exact h.set _ (qAx (h.getW (by assumption)) hc)
  ·cases hc
 ·exact h
theorem GoodT.unlock {ws:List Int} {c:Int} (h:GoodT ws c) (o s:Int) {v:Int} (hv:0<=v):GoodT (xI ws c o s v) c:=by
 unfold xI
 split
 ·rename_i hc
  unfold zFy at hc
  split at hc
  ·split at hc
   ·cases hc
   ·exact h.set _ (zU6 (h.getW (by assumption)) hv (by omega) hc)
  ·cases hc
 ·exact h
theorem GoodT.rest {ws:List Int} {c:Int} (h:GoodT ws c) (o s:Int):GoodT (zA4 ws o s) c:=by
 unfold zA4
 split
 ·rename_i hc
  unfold zD3 at hc
  split at hc
  ·exact h.set _ (qAn (h.getW (by assumption)) hc)
  ·cases hc
 ·exact h
theorem zP7 {c:Int} (h:c<=1099511627776):zH8 c=if c<1099511627776 then c+1 else c:=by
 simp only[zH8,zD1,zEi]
 (repeat' split)<;> omega
theorem zWo {c:Int} (h:c<=1099511627776):c<=zH8 c:=by
 rw[zP7 h];split<;> omega
theorem GoodT.tick {ws:List Int} {c:Int} (h:GoodT ws c):GoodT ws (zH8 c):=by
 refine⟨h.len1,h.len8,fun w hw=> ⟨(h.right w hw).1,Int.le_trans (h.right w hw).2 (zWo h.c1)⟩,Int.le_trans h.c0 (zWo h.c1),?_⟩
 have:=h.c1
 rw[zP7 h.c1];split<;> omega
def zIf (n:Nat):List Int:=List.replicate n 0
theorem qWr:RightW 0:=⟨by omega,by decide,.inl (by decide)⟩
theorem GoodT.new {n:Nat} (h1:1<=n) (h8:n<=8):GoodT (zIf n) 0:=by
 refine⟨by simpa [zIf] using h1,by simpa [zIf] using h8,fun w hw=> ?_,by omega,by omega⟩
 rw[List.eq_of_mem_replicate hw]
 exact⟨qWr,by decide⟩
theorem qVj (n:Nat):us (zIf n)=List.replicate n (.int .u64 0):=by simp[us,zIf]
theorem qWe (n:Nat) (h1:1<=n) (h8:n<=8):zD Tryz.prog cfg 41 [.int .i64 n] (AH.of [])
  fun r H'=> r=.ret (.pointer (some ⟨0,0,none⟩))/\H'=AH.of [some (.hi (.tab (zIf n) 0))]:=by
 refine zD.ends ?_
 refine zP (tbl:=[]) (by simp) 0 0 (af:=a41) rfl ?_
 rw[a41,b41,zW]
 refine⟨by simp,?_⟩
 have e1:¬(n:Int)<1:=by omega
 have e2:¬8<(n:Int):=by omega
 simp -implicitDefEqProofs [e1,e2]
 rw[←qVj]
 have hn:(zIf n).length=n:=by simp[zIf]
 refine⟨by omega,zA [.pack (GD.tab (zIf n) 0) 1 [0]] [1] ?_ ?_ ?_⟩<;> simp[xG,AObj.mine,hn]
def st41:qH GD:=fun args H=> match args with
 |[.int .i64 n]=> some (1<=n/\n<=8,.ret (.pointer (some ⟨H.next,0,none⟩)),H.add (.hi (.tab (zIf n.toNat) 0)))
 |_=> none
theorem qRl:zY Tryz.prog cfg 41 st41:=by
 intro args H p r H' h hp
 unfold st41 at h
 split at h
 case h_2=> cases h
 rename_i n
 cases h
 have e:n=(n.toNat:Int):=by omega
 have:=qWe n.toNat (by omega) (by omega)
 rw[←e] at this
 exact this.atK (jD rfl) [] (by simp) (by simp) trivial (by simp) (by simp) (by simp[AObj.ren])
theorem zR8 {ws:List Int} {c t:Int} (h:GoodT ws c) (ht:0<=t/\t<12):0<=ofT ws t/\ofT ws t<ws.length:=by
 have:=h.len1
 unfold ofT
 rw[if_pos ht]
 exact⟨Int.emod_nonneg _ (by omega),Int.emod_lt_of_pos _ (by omega)⟩
theorem qTo (ws:List Int) (c t:Int) (h:GoodT ws c):zD Tryz.prog cfg 103 [.pointer (some ⟨0,0,none⟩),.int .i64 t] (AH.of [some (.hi (.tab ws c))])
  fun r H'=> r=.ret (.int .i64 (ofT ws t))/\H'=AH.of [some (.hi (.tab ws c))]:=by
 refine zD.ends ?_
 have h1:=h.len1
 have h8:=h.len8
 refine zP (tbl:=[]) (by simp) 0 0 (af:=a103) rfl ?_
 rw[a103,b103,zW]
 refine⟨by simp,?_⟩
 by_cases ht:0<=t/\t<12
 ·have e1:¬t<0:=by omega
  have e2:¬12<=t:=by omega
  have e3:IntKind.i64.wrap (t*5)=t*5:=qF (by omega) (by omega)
  have e4:IntKind.i64.wrap (t*5+3)=t*5+3:=qF (by omega) (by omega)
  have e5:¬(ws.length:Int)=0:=by omega
  have e6:(t*5+3).tmod ws.length=(t*5+3) % ws.length:=Int.tmod_eq_emod_of_nonneg (by omega)
  have e7:ws≠[]:=by intro e;rw[e] at h1;simp at h1
  simp -implicitDefEqProofs [xG,e1,e2,e3,e4,e5,e6,e7]
  refine zA [.pack (GD.tab ws c) 0 [1]] [0] ?_ ?_ ?_<;> simp[xG,AObj.mine,ofT,ht]
 ·simp -implicitDefEqProofs
  repeat' (first|with_reducible apply And.intro|with_reducible intro _)
  all_goals first
   |omega
   |(refine zA [] [0] ?_ ?_ ?_<;> simp[ofT,ht])
def zEu:qH GD:=fun args H=> match args with
 |[.pointer (some ⟨k,0,none⟩),.int .i64 t]=> match H.get k with
  |some (.hi (.tab ws c))=> some (GoodT ws c,.ret (.int .i64 (ofT ws t)),H)
  |_=> none
 |_=> none
theorem zXo:zY Tryz.prog cfg 103 zEu:=by
 intro args H p r H' h hp
 unfold zEu at h
 split at h
 case h_2=> cases h
 split at h
 case h_2=> cases h
 rename_i k t x1 ws c hk
 cases h
 exact (qTo ws c t hp).atK (jD rfl) [k] (by simp) (by simp) (by simp[hk]) (by simp) (by simp) (by simp[qO hk])
theorem qTb (ws:List Int) (c t:Int) (h:GoodT ws c):zD Tryz.prog cfg 144 [.pointer (some ⟨0,0,none⟩),.int .i64 t] (AH.of [some (.hi (.rtab ws c))])
  fun r H'=> r=.ret (.int .i64 (ofT ws t))/\H'=AH.of [some (.hi (.rtab ws c))]:=by
 refine zD.ends ?_
 have h1:=h.len1
 have h8:=h.len8
 refine zP (tbl:=[]) (by simp) 0 0 (af:=a144) rfl ?_
 rw[a144,b144,zW]
 refine⟨by simp,?_⟩
 by_cases ht:0<=t/\t<12
 ·have e1:¬t<0:=by omega
  have e2:¬12<=t:=by omega
  have e3:IntKind.i64.wrap (t*5)=t*5:=qF (by omega) (by omega)
  have e4:IntKind.i64.wrap (t*5+3)=t*5+3:=qF (by omega) (by omega)
  have e5:¬(ws.length:Int)=0:=by omega
  have e6:(t*5+3).tmod ws.length=(t*5+3) % ws.length:=Int.tmod_eq_emod_of_nonneg (by omega)
  have e7:ws≠[]:=by intro e;rw[e] at h1;simp at h1
  simp -implicitDefEqProofs [zDp,e1,e2,e3,e4,e5,e6,e7]
  refine zA [.pack (GD.rtab ws c) 0 [1]] [0] ?_ ?_ ?_<;> simp[zDp,AObj.mine,ofT,ht]
 ·simp -implicitDefEqProofs
  repeat' (first|with_reducible apply And.intro|with_reducible intro _)
  all_goals first
   |omega
   |(refine zA [] [0] ?_ ?_ ?_<;> simp[ofT,ht])
def qDj:qH GD:=fun args H=> match args with
 |[.pointer (some ⟨k,0,none⟩),.int .i64 t]=> match H.get k with
  |some (.hi (.rtab ws c))=> some (GoodT ws c,.ret (.int .i64 (ofT ws t)),H)
  |_=> none
 |_=> none
theorem qLx:zY Tryz.prog cfg 144 qDj:=by
 intro args H p r H' h hp
 unfold qDj at h
 split at h
 case h_2=> cases h
 split at h
 case h_2=> cases h
 rename_i k t x1 ws c hk
 cases h
 exact (qTb ws c t hp).atK (jD rfl) [k] (by simp) (by simp) (by simp[hk]) (by simp) (by simp) (by simp[qO hk])
end YtapbabkndhaemaaGreat
end Go.Proofs
/-
 Stripes:what an owner holds.
-/
namespace Go.Proofs
namespace YtapbabkndhaemaaGreat
open Go.Abs
def isH (ws:List Int) (o:Int) (i:Nat):Bool:=decide (zDi ws i=true/\zDh ws i=o)
def zEw (ws:List Int) (o:Int) (n:Nat):List Int:=((List.range n).filter (isH ws o)).map fun i:Nat=> (i:Int)
def jZ (ws:List Int) (o:Int):List Int:=zEw ws o ws.length
theorem qEm (ws:List Int) (o:Int) (n:Nat):zEw ws o (n+1)=zEw ws o n++(if isH ws o n then [(n:Int)] else []):=by
 unfold zEw
 rw[List.range_succ,List.filter_append,List.map_append]
 by_cases h:isH ws o n<;> simp[h]
theorem zQu (ws:List Int) (o:Int) (n:Nat):(zEw ws o n).length<=n:=by
 unfold zEw
 rw[List.length_map]
 have:=List.length_filter_le (isH ws o) (List.range n)
 simpa using this
theorem qIk {ws:List Int} {o:Int} {i:Nat} {w:Int} (hi:ws[i]?=some w):isH ws o i=decide (zAx w=o/\0<=o):=by
 have hl:i<ws.length:=by
  rcases Nat.lt_or_ge i ws.length with h|h
  ·exact h
  ·rw[List.getElem?_eq_none h] at hi;cases hi
 have hr:inR ws i:=⟨by omega,by omega⟩
 unfold isH zDi zDh
 rw[if_pos hr,if_pos hr,zA0 hi]
 by_cases h:0<=zAx w
 ·simp[h];intro e;omega
 ·simp[h];intro e;omega
theorem qV6 (ws:List Int) (c o:Int) (h:GoodT ws c):zD Tryz.prog cfg 58 [.pointer (some ⟨0,0,none⟩),.int .i64 o] (AH.of [some (.hi (.tab ws c))])
  fun r H'=> r=.ret (.slice (some ⟨1,0,none⟩) (jZ ws o).length 1)/\H'=AH.of [some (.hi (.tab ws c)),some (.arr 3 (qI (jZ ws o)))]:=by
 refine zD.ends ?_
 refine zD.opn 0 rfl ?_
 have h8:=h.len8
 refine zP (tbl:=zCo) zEn 10 3 (af:=a58) rfl ?_
 rw[a58,b58,zW]
 refine⟨by simp,?_⟩
 simp -implicitDefEqProofs [zCo,xG,forms116,a116,b116,forms177,a177,b177]
 intro r
 refine zA3 (qR jG (qS zEn) _ _ _ (zLl (qR jG (qS zEn) _ _ noY qM))) (fun m tm H=> ∃i:Nat,m+i=ws.length/\tm 0=.func (.yield 5) #[] #[]/\tm 2=.pointer (some ⟨4,0,none⟩)/\tm 14=.slice (some ⟨1,0,none⟩) ws.length 1/\tm 15=.int .i64 ws.length/\tm 16=.int .i64 i/\
  H=AH.of [some (.arr 159 [.int .u64 c,.slice (some ⟨1,0,none⟩) ws.length 1]),some (.arr 29 (us ws)),some (.hi (.vints (zEw ws o i))),some (.arr 80 [.pointer (some ⟨0,0,none⟩)]),some (.arr 3 [.int .i64 o]),some (.loopr r 0 none)]) (m:=ws.length) ?_ (by omega) ?_
 ·refine qD [.nil 3,.pack (GD.vints []) 2 [6]] [0,1,2,3,4,5] [some (.arr 159 [.int .u64 c,.slice (some ⟨1,0,none⟩) ws.length 1]),some (.arr 29 (us ws)),some (.hi (.vints [])),some (.arr 80 [.pointer (some ⟨0,0,none⟩)]),some (.arr 3 [.int .i64 o]),some (.loopr r 0 none)] ws.length (by omega) ?_ ?_ ⟨0,?_⟩<;> simp[zEw,zIp,AObj.mine,qI]
  done
 rintro m tm H ⟨i,hm,t0,t2,t14,t15,t16,rfl⟩
 have hle:=zQu ws o i
 by_cases hi:i<ws.length
 ·obtain⟨w,hx⟩:∃w,ws[i]?=some w:=⟨ws[i],List.getElem?_eq_getElem hi⟩
  have hw:=(h.get hx).1
  have hi':(i:Int)<ws.length:=by omega
  have hwr:=jV hi (by omega)
  have hr3:((zEw ws o i).length+1)*8<=140737488355328/\(zEw ws o i).length<=9223372036854775806:=by omega
  have htk:=zJp (zEw ws o i)
  have hsuc:=qEm ws o i
  rw[qIk hx] at hsuc
  by_cases hp:zAx w=o/\0<=o
  ·have hp1:=hp.1
   have hp2:=hp.2
   simp -implicitDefEqProofs [zCo,qE,zHy,t0,t2,t14,t15,t16,hi,hi',zEt hx,hw,hwr,hp1,hp2,zIp,hr3,htk]
   refine qD [.pack (GD.vints (zEw ws o (i+1))) 2 [8]] [0,1,2,3,4,5] [some (.arr 159 [.int .u64 c,.slice (some ⟨1,0,none⟩) ws.length 1]),some (.arr 29 (us ws)),some (.hi (.vints (zEw ws o (i+1)))),some (.arr 80 [.pointer (some ⟨0,0,none⟩)]),some (.arr 3 [.int .i64 o]),some (.loopr r 0 none)] (m - 1) (by omega) ?_ ?_ ⟨i+1,by omega,?_⟩<;> simp[t0,t2,t14,t15,t16,zIp,AObj.mine,hsuc,hp,zEl,zEk]
  ·have hp':zAx w=o->¬0<=o:=fun e h=> hp ⟨e,h⟩
   simp -implicitDefEqProofs [zCo,qE,zHy,t0,t2,t14,t15,t16,hi,hi',zEt hx,hw,hwr,zIp]
   repeat' (first|with_reducible apply And.intro|with_reducible intro _)
   all_goals first
    |omega
    |(refine qD [] [0,1,2,3,4,5] [some (.arr 159 [.int .u64 c,.slice (some ⟨1,0,none⟩) ws.length 1]),some (.arr 29 (us ws)),some (.hi (.vints (zEw ws o (i+1)))),some (.arr 80 [.pointer (some ⟨0,0,none⟩)]),some (.arr 3 [.int .i64 o]),some (.loopr r 0 none)] (m - 1) (by omega) ?_ ?_ ⟨i+1,by omega,?_⟩<;> simp[t0,t2,t14,t15,t16,hsuc,hp];done)
 ·have hi':¬(i:Int)<ws.length:=by omega
  have hil:i=ws.length:=by omega
  simp -implicitDefEqProofs [t0,t2,t14,t15,t16,hi',zIp]
  refine zA [.pack (GD.tab ws c) 0 [1]] [0,6] ?_ ?_ ?_<;> simp[xG,AObj.mine,jZ,hil]
def zK0:qH GD:=fun args H=> match args with
 |[.pointer (some ⟨k,0,none⟩),.int .i64 o]=> match H.get k with
  |some (.hi (.tab ws c))=> some (GoodT ws c,.ret (.slice (some ⟨H.next,0,none⟩) (jZ ws o).length 1),H.add (.arr 3 (qI (jZ ws o))))
  |_=> none
 |_=> none
theorem zS7:zY Tryz.prog cfg 58 zK0:=by
 intro args H p r H' h hp
 unfold zK0 at h
 split at h
 case h_2=> cases h
 split at h
 case h_2=> cases h
 rename_i k o x1 ws c hk
 cases h
 exact (qV6 ws c o hp).atK (jD rfl) [k] (by simp) (by simp) (by simp[hk]) (by simp) (by simp) (by simp[qO hk,AObj.ren])
end YtapbabkndhaemaaGreat
end Go.Proofs
/-
 Stripes:may,Held of the reference;Drop.
-/
namespace Go.Proofs
namespace YtapbabkndhaemaaGreat
open Go.Abs
def mayC (ws:List Int) (s:Int):Int:=if inR ws s then 0 else 2
theorem qSq (ws:List Int) (c s:Int) (h:GoodT ws c):zD Tryz.prog cfg 201 [.pointer (some ⟨0,0,none⟩),.int .i64 s] (AH.of [some (.hi (.rtab ws c))])
  fun r H'=> r=.ret (.int .i64 (mayC ws s))/\H'=AH.of [some (.hi (.rtab ws c))]:=by
 refine zD.ends ?_
 refine zP (tbl:=[]) (by simp) 0 0 (af:=a201) rfl ?_
 rw[a201,b201,zW]
 refine⟨by simp,?_⟩
 simp -implicitDefEqProofs [zDp]
 repeat' (first|with_reducible apply And.intro|with_reducible intro _)
 all_goals first
  |(refine zA [] [0] ?_ ?_ ?_<;> simp[mayC,inR, *]<;> omega)
  |(refine zA [.pack (GD.rtab ws c) 0 [1]] [0] ?_ ?_ ?_<;> simp[zDp,AObj.mine,mayC,inR, *]<;> omega)
def zVx:qH GD:=fun args H=> match args with
 |[.pointer (some ⟨k,0,none⟩),.int .i64 s]=> match H.get k with
  |some (.hi (.rtab ws c))=> some (GoodT ws c,.ret (.int .i64 (mayC ws s)),H)
  |_=> none
 |_=> none
theorem zXe:zY Tryz.prog cfg 201 zVx:=by
 intro args H p r H' h hp
 unfold zVx at h
 split at h
 case h_2=> cases h
 split at h
 case h_2=> cases h
 rename_i k s x1 ws c hk
 cases h
 exact (qSq ws c s hp).atK (jD rfl) [k] (by simp) (by simp) (by simp[hk]) (by simp) (by simp) (by simp[qO hk])
def zWy:List (FuncId × qH GD):=[(201,zVx),(202,qDh),(230,qDf),(165,zV0),(58,zK0)]
theorem qBp:∀x∈zWy,zY Tryz.prog cfg x.1 x.2:=by simp[zWy,zXe,qLf,qK7,qLp,zS7]
theorem zOd (ws:List Int) (o:Int) (i:Nat):isH ws o i=match ws[i]? with
  |some w=> decide (zAx w=o/\0<=o)
  |none=> false:=by
 cases hx:ws[i]? with
 |some w=> exact qIk hx
 |none=>
  have:¬inR ws i:=fun hr=> by
   have hl:=hr.2
   rw[List.getElem?_eq_getElem (by omega)] at hx;cases hx
  simp[isH,zDi,this]
theorem zLz {ws:List Int} {c o:Int} (h:GoodT ws c) (i:Nat):(zD3 ws o i=0)↔isH ws o i=true:=by
 rw[zOd]
 unfold zD3 zG8
 cases hx:ws[i]? with
 |some w=>
  have hl:i<ws.length:=by
   rcases Nat.lt_or_ge i ws.length with h|h
   ·exact h
   ·rw[List.getElem?_eq_none h] at hx;cases hx
  have hr:inR ws i:=⟨by omega,by omega⟩
  have ho:=(h.get hx).1.own
  rw[if_pos hr,zA0 hx]
  simp only[decide_eq_true_eq]
  (repeat' split)<;> omega
 |none=>
  have:¬inR ws i:=fun hr=> by
   have hl:=hr.2
   rw[List.getElem?_eq_getElem (by omega)] at hx;cases hx
  rw[if_neg this]
  simp
theorem zMu {ws:List Int} {c o:Int} (h:GoodT ws c) {i:Nat} (hn:isH ws o i=false):zA4 ws o i=ws:=by
 unfold zA4
 rw[if_neg]
 intro e
 rw[(zLz h i).1 e] at hn;cases hn
theorem zVf (ws:List Int) (o s:Int):(zA4 ws o s).length=ws.length:=by
 unfold zA4;split<;> simp
theorem zYs (ws:List Int) (o:Int) {i j:Nat} (hij:i≠j):isH (zA4 ws o i) o j=isH ws o j:=by
 rw[zOd,zOd]
 have e:(zA4 ws o i)[j]?=ws[j]?:=by
  unfold zA4
  split
  ·rw[Int.toNat_natCast,List.getElem?_set_ne hij]
  ·rfl
 rw[e]
def zE7 (o:Int) (l:List Nat) (ws:List Int):List Int:=l.foldl (fun ws (i:Nat)=> zA4 ws o i) ws
def zDn (ws:List Int) (o:Int) (n:Nat):List Int:=zE7 o (List.range n) ws
def zDc (ws:List Int) (o:Int):List Int:=zDn ws o ws.length
theorem zN2 (ws:List Int) (o:Int) (n:Nat):zDn ws o (n+1)=zA4 (zDn ws o n) o n:=by
 simp[zDn,zE7,List.range_succ,List.foldl_append]
theorem zJ9 {ws:List Int} {c:Int} (h:GoodT ws c) (o:Int) (l:List Nat):GoodT (zE7 o l ws) c:=by
 induction l generalizing ws with
 |nil=> exact h
 |cons i l ih=> exact ih (h.rest o i)
theorem zK2 (o:Int) (l:List Nat) (ws:List Int):(zE7 o l ws).length=ws.length:=by
 induction l generalizing ws with
 |nil=> rfl
 |cons i l ih=> exact (ih _).trans (zVf _ _ _)
theorem zN1 (o c:Int):∀(l:List Nat) (ws:List Int),GoodT ws c->l.Nodup->zE7 o (l.filter (isH ws o)) ws=zE7 o l ws
 |[],_,_,_=> rfl
 |i::l,ws,h,hn=> by
  rw[List.nodup_cons] at hn
  have e:l.filter (isH (zA4 ws o i) o)=l.filter (isH ws o):=List.filter_congr fun j hj=> zYs _ _ fun e=> hn.1 (e▸hj)
  have ih:=zN1 o c l (zA4 ws o i) (h.rest o i) hn.2
  rw[e] at ih
  show _=zE7 o l (zA4 ws o i)
  rw[←ih,List.filter_cons]
  cases hq:isH ws o i with
  |true=> rw[if_pos rfl];rfl
  |false=> rw[if_neg (by simp),zMu h hq]
theorem qI1 {ws:List Int} {c:Int} (h:GoodT ws c) (o:Int):zE7 o ((List.range ws.length).filter (isH ws o)) ws=zDc ws o:=zN1 o c _ ws h List.nodup_range
theorem GoodT.drop {ws:List Int} {c:Int} (h:GoodT ws c) (o:Int):GoodT (zDc ws o) c:=zJ9 h o _
end YtapbabkndhaemaaGreat
end Go.Proofs
/-
 slices.Clone of words.
-/
namespace Go.Proofs
namespace YtapbabkndhaemaaGreat
open Go.Abs
end YtapbabkndhaemaaGreat
end Go.Proofs
/-
 Stripes:Drop,Fork.
-/
namespace Go.Proofs
namespace YtapbabkndhaemaaGreat
open Go.Abs
theorem qTk (ws:List Int) (c o:Int) (h:GoodT ws c):zD Tryz.prog cfg 113 [.pointer (some ⟨0,0,none⟩),.int .i64 o] (AH.of [some (.hi (.tab ws c))])
  fun r H'=> r=.ret (.int .i64 (jZ ws o).length)/\H'=AH.of [some (.hi (.tab (zDc ws o) c))]:=by
 refine zD.ends ?_
 have h8:=h.len8
 have hd:=qI1 h o
 have hle:=zQu ws o ws.length
 have hH:jZ ws o=((List.range ws.length).filter (isH ws o)).map fun i:Nat=> (i:Int):=rfl
 have hlen:(jZ ws o).length<=8:=Nat.le_trans hle h8
 generalize (List.range ws.length).filter (isH ws o)=hl at hd hH
 obtain⟨li,hli⟩:∃li,jZ ws o=li:=⟨_,rfl⟩
 rw[hli] at hH hlen⊢
 have hll:li.length=hl.length:=by rw[hH,List.length_map]
 refine zP (tbl:=zWy) qBp 10 0 (af:=a113) rfl ?_
 rw[a113,b113,zW]
 refine⟨by simp,?_⟩
 simp -implicitDefEqProofs [zWy,zK0,h,hli]
 refine zA3 (qR jG (qS qBp) _ _ noY qM) (fun m tm H=> ∃j:Nat,m+j=li.length/\tm 0=.pointer (some ⟨0,0,none⟩)/\tm 1=.int .i64 o/\tm 5=.slice (some ⟨1,0,none⟩) li.length 1/\tm 11=.slice (some ⟨1,0,none⟩) li.length 1/\tm 12=.int .i64 li.length/\tm 13=.int .i64 j/\
  H=AH.of [some (.hi (.tab (zE7 o (hl.take j) ws) c)),some (.arr 3 (qI li))]) (m:=li.length) ?_ (by omega) ?_
 ·refine qD [] [0,1] [some (.hi (.tab ws c)),some (.arr 3 (qI li))] li.length (by omega) ?_ ?_ ⟨0,?_⟩<;> simp[zE7]
  done
 rintro m tm H ⟨j,hm,t0,t1,t5,t11,t12,t13,rfl⟩
 by_cases hj:j<li.length
 ·obtain⟨i,hx⟩:=zAs (l:=hl) (i:=j) (by omega)
  have hx2:li[j]?=some (i:Int):=by rw[hH];simp[hx]
  have hj':(j:Int)<li.length:=by omega
  have hwr:=jV hj (by omega)
  have hst:zE7 o (hl.take (j+1)) ws=zA4 (zE7 o (hl.take j) ws) o i:=by
   rw[List.take_add_one,hx];simp[zE7,List.foldl_append]
  have hgood:=zJ9 h o (hl.take j)
  simp -implicitDefEqProofs [zWy,zV0,hgood,t0,t1,t5,t11,t12,t13,hj,hj',zFp hx2,zF8 hx2,hwr]
  refine qD [] [0,1] [some (.hi (.tab (zE7 o (hl.take (j+1)) ws) c)),some (.arr 3 (qI li))] (m - 1) (by omega) ?_ ?_ ⟨j+1,by omega,?_⟩<;> simp[t0,t1,t5,t11,t12,t13,hst]
  done
 ·have hj':¬(j:Int)<li.length:=by omega
  have hjl:hl.take j=hl:=List.take_of_length_le (by omega)
  simp -implicitDefEqProofs [t0,t1,t5,t11,t12,t13,hj',hjl,hd]
  refine zA [] [0] ?_ ?_ ?_<;> simp
def zHs:qH GD:=fun args H=> match args with
 |[.pointer (some ⟨k,0,none⟩),.int .i64 o]=> match H.get k with
  |some (.hi (.tab ws c))=> some (GoodT ws c,.ret (.int .i64 (jZ ws o).length),H.upd k (.hi (.tab (zDc ws o) c)))
  |_=> none
 |_=> none
theorem qL3:zY Tryz.prog cfg 113 zHs:=by
 intro args H p r H' h hp
 unfold zHs at h
 split at h
 case h_2=> cases h
 split at h
 case h_2=> cases h
 rename_i k o x1 ws c hk
 cases h
 exact (qTk ws c o hp).atK (jD rfl) [k] (by simp) (by simp) (by simp[hk]) (by simp) (by simp) (by simp[AObj.ren])
end YtapbabkndhaemaaGreat
end Go.Proofs
/-
 Are two zD2 of whole numbers one? (the reference)
-/
namespace Go.Proofs
namespace YtapbabkndhaemaaGreat
open Go.Abs
end YtapbabkndhaemaaGreat
end Go.Proofs
/-
 Stripes:a deed on both;do both tell the same?
-/
namespace Go.Proofs
namespace YtapbabkndhaemaaGreat
open Go.Abs
structure Deed where
 k:Int
 o:Int
 s:Int
 v:Int
def Deed.cells (d:Deed):List Value:=[.int .i64 d.k,.int .i64 d.o,.int .i64 d.s,.int .u64 d.v]
def Deed.Ok (d:Deed):Prop:=0<=d.v
def qP9 (ws:List Int) (c:Int) (d:Deed):List Int:=
 if d.k=0 then zCx ws d.o d.s else if d.k=1 then xI ws c d.o d.s d.v else if d.k=2 then zA4 ws d.o d.s else if d.k=3 then zDc ws d.o else ws
def qQa (c:Int) (d:Deed):Int:=if d.k=4 then zH8 c else c
theorem GoodT.deed {ws:List Int} {c:Int} (h:GoodT ws c) {d:Deed} (hd:d.Ok):GoodT (qP9 ws c d) (qQa c d):=by
 unfold qP9 qQa
 by_cases h0:d.k=0
 ·simp[h0];exact h.lock _ _
 ·by_cases h1:d.k=1
  ·simp[h1];exact h.unlock _ _ hd
  ·by_cases h2:d.k=2
   ·simp[h2];exact h.rest _ _
   ·by_cases h3:d.k=3
    ·simp[h3];exact h.drop _
    ·simp[h0,h1,h2,h3]
     split
     ·exact h.tick
     ·exact h
end YtapbabkndhaemaaGreat
end Go.Proofs
/-
 Stripes:live,play.
-/
namespace Go.Proofs
namespace YtapbabkndhaemaaGreat
open Go.Abs
def zHt (l:List Deed):List Value:=l.flatMap Deed.cells
theorem qEy (d:Deed) (l:List Deed):zHt (d::l)=.int .i64 d.k::.int .i64 d.o::.int .i64 d.s::.int .u64 d.v::zHt l:=rfl
theorem zZa (l:List Deed):jJ (zHt l)=true:=by
 induction l with
 |nil=> rfl
 |cons e l ih=> rw[qEy];simpa [jJ,xD] using ih
theorem qHe (θ:Nat->Nat) (l:List Deed):zAh θ (zHt l)=zHt l:=xV θ _ (zZa l)
attribute [simp] qHe
def zT5:List Value->Option (List Deed)
 |[]=> some []
 |.int .i64 k::.int .i64 o::.int .i64 s::.int .u64 v::l=> (zT5 l).map (⟨k,o,s,v⟩::·)
 |_=> none
theorem zNl:∀l:List Deed,zT5 (zHt l)=some l
 |[]=> rfl
 |e::l=> by
  show (zT5 (zHt l)).map (_::·)=_
  rw[zNl l];rfl
attribute [simp] zNl
end YtapbabkndhaemaaGreat
end Go.Proofs
/-
 Stripes:what drops,and what rises. The law of the forks.
-/
namespace Go.Proofs
namespace YtapbabkndhaemaaGreat
open Go.Abs
theorem zL9 (ws:List Int) (i:Nat):zAu ws i=match ws[i]? with
  |some w=> zBp w
  |none=> 0:=by
 cases hx:ws[i]? with
 |some w=>
  have hl:i<ws.length:=by
   rcases Nat.lt_or_ge i ws.length with h|h
   ·exact h
   ·rw[List.getElem?_eq_none h] at hx;cases hx
  unfold zAu
  rw[if_pos (show inR ws i from ⟨by omega,by omega⟩),zA0 hx]
 |none=>
  have:¬inR ws i:=fun hr=> by
   have hl:=hr.2
   rw[List.getElem?_eq_getElem (by omega)] at hx;cases hx
  unfold zAu
  rw[if_neg this]
theorem at_lt {ws:List Int} {i:Nat} {w:Int} (hx:ws[i]?=some w):i<ws.length:=by
 rcases Nat.lt_or_ge i ws.length with h|h
 ·exact h
 ·rw[List.getElem?_eq_none h] at hx;cases hx
theorem zP5 {ws:List Int} {i j:Nat} {v:Int} (hi:i<ws.length):zAu (ws.set i v) j=if i=j then zBp v else zAu ws j:=by
 rw[zL9,zL9,List.getElem?_set]
 by_cases h:i=j
 ·subst h;simp[hi]
 ·simp[h]
theorem qJ0 {ws:List Int} {c s:Int} (h:GoodT ws c):0<=zAu ws s/\zAu ws s<=c:=by
 unfold zAu
 split
 ·exact⟨((h.getW (by assumption)).1.ver0).1,(h.getW (by assumption)).2⟩
 ·exact⟨by omega,h.c0⟩
theorem qMd {ws:List Int} {c:Int} (h:GoodT ws c) (o:Int) (i j:Nat):zAu (zA4 ws o i) j=zAu ws j:=by
 unfold zA4
 split
 ·rename_i hc
  have hr:inR ws i:=by
   unfold zD3 at hc
   split at hc
   ·assumption
   ·cases hc
  have hl:i<ws.length:=by have:=hr.2;omega
  obtain⟨w,hx⟩:∃w,ws[i]?=some w:=⟨ws[i],List.getElem?_eq_getElem hl⟩
  have hc2:zG8 w o=0:=by unfold zD3 at hc;rwa [if_pos hr,zA0 hx] at hc
  rw[Int.toNat_natCast,zP5 hl]
  split
  ·rename_i e;subst e
   rw[zA0 hx,zG7,if_pos hc2,zKp (by omega),zL9,hx]
  ·rfl
 ·rfl
theorem zUg {c:Int} (o:Int) (j:Nat):∀(l:List Nat) (ws:List Int),GoodT ws c->zAu (zE7 o l ws) j=zAu ws j
 |[],_,_=> rfl
 |i::l,ws,h=> by
  show zAu (zE7 o l (zA4 ws o i)) j=_
  rw[zUg o j l _ (h.rest o i),qMd h]
theorem zY8 {ws:List Int} {c:Int} (h:GoodT ws c) (o:Int) (j:Nat):zAu (zDc ws o) j=zAu ws j:=zUg o j _ ws h
theorem zYk {ws:List Int} {c:Int} (h:GoodT ws c) (o s:Int) (j:Nat):zAu (zCx ws o s) j=zAu ws j:=by
 unfold zCx
 split
 ·rename_i hc
  have hr:inR ws s:=by
   unfold zGw at hc
   split at hc
   ·assumption
   ·cases hc
  obtain⟨i,rfl⟩:=Int.eq_ofNat_of_zero_le hr.1
  have hl:i<ws.length:=by have:=hr.2;omega
  obtain⟨w,hx⟩:∃w,ws[i]?=some w:=⟨ws[i],List.getElem?_eq_getElem hl⟩
  have hc2:zGt w o=0:=by unfold zGw at hc;rwa [if_pos hr,zA0 hx] at hc
  have ho: -1<=o/\o<4:=by
   unfold zGt at hc2
   by_cases h1:¬(0<=o/\o<4)
   ·rw[if_pos h1] at hc2;cases hc2
   ·omega
  rw[Int.toNat_natCast,zP5 hl]
  split
  ·rename_i e;subst e
   rw[zA0 hx,zHb,if_pos hc2,zKp ho,zL9,hx]
  ·rfl
 ·rfl
end YtapbabkndhaemaaGreat
end Go.Proofs
/-
 Stripes:the law of the one owner;the law of the versions.
-/
namespace Go.Proofs
namespace YtapbabkndhaemaaGreat
open Go.Abs
theorem qAy {ws:List Int} {c:Int} (h:GoodT ws c) (o:Int) (i:Nat):isH (zA4 ws o i) o i=false:=by
 cases hq:isH ws o i with
 |false=> rw[zMu h hq,hq]
 |true=>
  have hc:=(zLz h i).2 hq
  have hr:inR ws i:=by
   unfold zD3 at hc
   split at hc
   ·assumption
   ·cases hc
  have hl:i<ws.length:=by have:=hr.2;omega
  obtain⟨w,hx⟩:∃w,ws[i]?=some w:=⟨ws[i],List.getElem?_eq_getElem hl⟩
  have hc2:zG8 w o=0:=by unfold zD3 at hc;rwa [if_pos hr,zA0 hx] at hc
  unfold zA4
  rw[if_pos hc,zOd,Int.toNat_natCast,List.getElem?_set_self hl,zA0 hx]
  simp only[zG7,if_pos hc2]
  rw[zMd (by omega)]
  simp
  intro e;omega
theorem qCl {ws:List Int} {c:Int} (h:GoodT ws c) (o:Int) {j:Nat}:∀{n:Nat},j<n->isH (zDn ws o n) o j=false
 |0,hn=> by omega
 |n+1,hn=> by
  rw[zN2]
  by_cases e:n=j
  ·subst e;exact qAy (zJ9 h o _) o n
  ·rw[zYs _ _ e];exact qCl h o (by omega)
theorem qIn {ws:List Int} {c:Int} (h:GoodT ws c) (o:Int):jZ (zDc ws o) o=[]:=by
 unfold jZ zEw
 rw[List.map_eq_nil_iff,List.filter_eq_nil_iff]
 intro j hj
 have hl:(zDc ws o).length=ws.length:=zK2 _ _ _
 rw[List.mem_range,hl] at hj
 rw[show isH (zDc ws o) o j=false from qCl h o hj]
 decide
end YtapbabkndhaemaaGreat
end Go.Proofs
/-
 DERIVED:THE SHELF's CONTRACTS AT THIS DUMP,IN PLAIN WORDS (tools/lay-plain.mjs out of 'TryzShelf.lean',which tools/lay-shelf.mjs wrote):THE SAME DECLARATIONS UNDER THE SAME NAMES:'import','namespace','open','def','theorem' AND NOTHING ELSE:no command of the shelf's:FOR A HAND-IN. Each laying:the table of numbers ('.._ren') and one theorem,a field a fact of the dump's own or the kernel's comparison;each zHz:ONE APPLICATION.
-/
namespace Go.Proofs
open Go.Shelf
def Tryz.lays189_ren:Go.Shelf.Ren:=⟨fun|189=> 57|125=> 115|257=> 114|128=> 175|129=> 176|294=> 166|295=> 167|296=> 168|297=> 169|298=> 170|299=> 171|216=> 172|300=> 173|301=> 174|328=> 220|329=> 221|330=> 222|331=> 223|332=> 224|215=> 225|343=> 247|n=> n,fun|28=> 55|3=> 3|46=> 174|0=> 0|51=> 235|53=> 29|4=> 4|183=> 228|182=> 227|131=> 51|5=> 5|9=> 9|218=> 263|222=> 266|228=> 280|229=> 281|n=> n,fun|n=> n⟩
theorem Tryz.lays189:Go.Proofs.Lays.n189 Tryz.prog Tryz.lays189_ren:={
 mixed:=by kernel_rfl
 f125:=Tryz.func115.trans (congrArg some (by kernel_rfl))
 f128:=Tryz.func175.trans (congrArg some (by kernel_rfl))
 f129:=Tryz.func176.trans (congrArg some (by kernel_rfl))
 f189:=Tryz.func57.trans (congrArg some (by kernel_rfl))
 f215:=Tryz.func225.trans (congrArg some (by kernel_rfl))
 f216:=Tryz.func172.trans (congrArg some (by kernel_rfl))
 f257:=Tryz.func114.trans (congrArg some (by kernel_rfl))
 f294:=Tryz.func166.trans (congrArg some (by kernel_rfl))
 f295:=Tryz.func167.trans (congrArg some (by kernel_rfl))
 f296:=Tryz.func168.trans (congrArg some (by kernel_rfl))
 f297:=Tryz.func169.trans (congrArg some (by kernel_rfl))
 f298:=Tryz.func170.trans (congrArg some (by kernel_rfl))
 f299:=Tryz.func171.trans (congrArg some (by kernel_rfl))
 f300:=Tryz.func173.trans (congrArg some (by kernel_rfl))
 f301:=Tryz.func174.trans (congrArg some (by kernel_rfl))
 f328:=Tryz.func220.trans (congrArg some (by kernel_rfl))
 f329:=Tryz.func221.trans (congrArg some (by kernel_rfl))
 f330:=Tryz.func222.trans (congrArg some (by kernel_rfl))
 f331:=Tryz.func223.trans (congrArg some (by kernel_rfl))
 f332:=Tryz.func224.trans (congrArg some (by kernel_rfl))
 f343:=Tryz.func247.trans (congrArg some (by kernel_rfl))
 t0:=Tryz.underlying0
 a0:=Tryz.isAgg0
 z0:=Tryz.sizeOf0
 v0:=Tryz.zeroValue0
 t3:=Tryz.underlying3
 a3:=Tryz.isAgg3
 z3:=Tryz.sizeOf3
 v3:=Tryz.zeroValue3
 t4:=Tryz.underlying4
 a4:=Tryz.isAgg4
 z4:=Tryz.sizeOf4
 v4:=Tryz.zeroValue4
 t5:=Tryz.underlying5
 a5:=Tryz.isAgg5
 z5:=Tryz.sizeOf5
 v5:=Tryz.zeroValue5
 t9:=Tryz.underlying9
 a9:=Tryz.isAgg9
 z9:=Tryz.sizeOf9
 v9:=Tryz.zeroValue9
 t28:=Tryz.underlying55
 a28:=Tryz.isAgg55
 z28:=Tryz.sizeOf55
 v28:=Tryz.zeroValue55
 t46:=Tryz.underlying174
 a46:=Tryz.isAgg174
 z46:=Tryz.sizeOf174
 v46:=Tryz.zeroValue174
 t51:=Tryz.underlying235
 a51:=Tryz.isAgg235
 z51:=Tryz.sizeOf235
 v51:=Tryz.zeroValue235
 t53:=Tryz.underlying29
 a53:=Tryz.isAgg29
 z53:=Tryz.sizeOf29
 v53:=Tryz.zeroValue29
 t131:=Tryz.underlying51
 a131:=Tryz.isAgg51
 z131:=Tryz.sizeOf51
 v131:=Tryz.zeroValue51
 t182:=Tryz.underlying227
 a182:=Tryz.isAgg227
 z182:=Tryz.sizeOf227
 v182:=Tryz.zeroValue227
 t183:=Tryz.underlying228
 a183:=Tryz.isAgg228
 z183:=Tryz.sizeOf228
 v183:=Tryz.zeroValue228
 t218:=Tryz.underlying263
 a218:=Tryz.isAgg263
 z218:=Tryz.sizeOf263
 v218:=Tryz.zeroValue263
 t222:=Tryz.underlying266
 a222:=Tryz.isAgg266
 z222:=Tryz.sizeOf266
 v222:=Tryz.zeroValue266
 t228:=Tryz.underlying280
 a228:=Tryz.isAgg280
 z228:=Tryz.sizeOf280
 v228:=Tryz.zeroValue280
 t229:=Tryz.underlying281
 a229:=Tryz.isAgg281
 z229:=Tryz.sizeOf281
 v229:=Tryz.zeroValue281 }
open Go.Sort Go.RowKit in
theorem Tryz.slices_Sort_int (blk off cap:Nat) (zs:List Int) (w:World) (hH:Holds (Value.int .i64) w blk off zs.toArray) (hblk:blk<w.heap.size) (hsz:zs.length<4611686018427387904):
 Calls Tryz.prog 57 #[.slice (some ⟨blk,off,none⟩) zs.length cap] w fun e w'=>
  e=.returned (.tuple #[])/\∃n os,w'=grow (putRow (Value.int .i64) (Sort.ahead w n) blk off (zs.mergeSort fun x y=> decide (x<=y)).toArray) os:=Any.slices_Sort_int Tryz.lays189 blk off cap zs w hH hblk hsz
def Tryz.laysNm220_ren:Go.Shelf.Ren:=⟨fun|20=> 254|n=> n,fun|22=> 55|3=> 3|4=> 4|0=> 0|n=> n,fun|n=> n⟩
theorem Tryz.laysNm220:Go.Proofs.Lays2.n20 Tryz.prog Tryz.laysNm220_ren:={
 mixed:=by kernel_rfl
 f20:=Tryz.func254.trans (congrArg some (by kernel_rfl))
 t0:=Tryz.underlying0
 a0:=Tryz.isAgg0
 z0:=Tryz.sizeOf0
 v0:=Tryz.zeroValue0
 t3:=Tryz.underlying3
 a3:=Tryz.isAgg3
 z3:=Tryz.sizeOf3
 v3:=Tryz.zeroValue3
 t4:=Tryz.underlying4
 a4:=Tryz.isAgg4
 z4:=Tryz.sizeOf4
 v4:=Tryz.zeroValue4
 t22:=Tryz.underlying55
 a22:=Tryz.isAgg55
 z22:=Tryz.sizeOf55
 v22:=Tryz.zeroValue55
 i3:=by kernel_rfl }
open Go.RowKit Go.Lib Go.Sort in
theorem Tryz.slices_Compact_int (blk off cap:Nat) (zs:List Int) (w:World) (hH:Holds (Value.int .i64) w blk off zs.toArray) (hsz:zs.length<=9223372036854775807) (hcap:zs.length<=cap):
 Calls Tryz.prog 254 #[.slice (some ⟨blk,off,none⟩) zs.length cap] w fun e w'=> e=.returned (.slice (some ⟨blk,off,none⟩) (Lib.compact zs).length cap)/\∃q,w'=putRow (Value.int .i64) (Sort.ahead w q) blk off (Lib.compact zs++List.replicate (zs.length - (Lib.compact zs).length) 0).toArray:=Any.slices_Compact_int Tryz.laysNm220 blk off cap zs w hH hsz hcap
open Go.RowKit Go.Lib Go.Sort in
theorem Tryz.slices_Compact_int_empty (a:Option Addr) (cap:Nat) (w:World):
 Calls Tryz.prog 254 #[.slice a 0 cap] w fun e w'=> e=.returned (.slice a 0 cap)/\w'=w:=Any.slices_Compact_int_empty Tryz.laysNm220 a cap w
end Go.Proofs
/-
 slices.Sort of whole numbers.
-/
namespace Go.Proofs
namespace YtapbabkndhaemaaGreat
open Go.Abs
theorem qRv:∀args w,(callFunc 57 args).run Tryz.prog w=.ok (.enter 57 args) w:=zJl Tryz.func57 (by kernel_rfl) (by kernel_rfl)
theorem qDo (e:TypeId) (tg:Nat):zD Tryz.prog cfg 57 [.slice (some ⟨0,0,none⟩) 0 tg] (AH.of [some (.arr e (qI []))])
  fun r H'=> r=.ret (.tuple #[])/\H'=AH.of [some (.arr e (qI []))]:=by
 refine zD.ends ?_
 refine zP (tbl:=[]) (by simp) 3 5 (af:=a57) rfl ?_
 rw[a57,b57,zW]
 refine⟨by simp,?_⟩
 have w1:IntKind.u64.wrap 0=0:=by decide
 have w2:IntKind.u8.wrap 0=0:=by decide
 have w3:IntKind.i64.wrap 0=0:=by decide
 have w4:IntKind.i64.wrap 1=1:=by decide
 simp -implicitDefEqProofs [forms114,a114,b114,forms115,a115,b115,forms176,a176,b176,w1,w2,w3]
 refine zUm (qR jG (qS (by simp)) _ _ noY qM) (by omega) ?_
 simp -implicitDefEqProofs [forms166,a166,b166,w3,w4]
 refine zUm (qR jG (qS (by simp)) _ _ noY qM) (by omega) ?_
 simp -implicitDefEqProofs [w3]
 refine zA [] [0] ?_ ?_ ?_<;> simp
theorem qV7 (e:TypeId) (l:List Int) (tg:Nat) (hl:l.length<=1000000):zD Tryz.prog cfg 57 [.slice (some ⟨0,0,none⟩) l.length tg] (AH.of [some (.arr e (qI l))])
  fun r H'=> r=.ret (.tuple #[])/\H'=AH.of [some (.arr e (qI (zA7 l)))]:=by
 by_cases hz:l=[]
 ·subst hz
  have:zA7 []=[]:=List.eq_nil_of_length_eq_zero (by simp)
  rw[this]
  exact qDo e tg
 ·exact qGz qRv (fun blk off cap zs w h1 h2 h3=> Tryz.slices_Sort_int blk off cap zs w h1 h2 h3) e l tg hz (by omega)
def zS8:qH GD:=fun args H=> match args with
 |[x]=> (sl0 x).bind fun q=> (zA1 H q.1).map fun l=> (q.2.1=l.2.length/\l.2.length<=1000000,.ret (.tuple #[]),H.upd q.1 (.arr l.1 (qI (zA7 l.2))))
 |_=> none
theorem qBu:zY Tryz.prog cfg 57 zS8:=by
 intro args H p r H' h hp
 unfold zS8 at h
 split at h
 case h_2=> cases h
 simp only[Option.map_eq_some_iff,Option.bind_eq_some_iff] at h
 obtain⟨q,hq,l,hl,h⟩:=h
 cases h
 rw[qB4 hq,hp.1]
 exact (qV7 l.1 l.2 q.2.2 hp.2).atK (jD rfl) [q.1] (by simp) (by simp) (by simp[zA8 hl]) (by simp) (by simp) (by simp)
end YtapbabkndhaemaaGreat
end Go.Proofs
/-
 slices.Compact of whole numbers.
-/
namespace Go.Proofs
namespace YtapbabkndhaemaaGreat
open Go.Abs
theorem zSl:∀args w,(callFunc 254 args).run Tryz.prog w=.ok (.enter 254 args) w:=zJl Tryz.func254 (by kernel_rfl) (by kernel_rfl)
theorem qR1 (e:TypeId) (l:List Int) (tg:Nat) (hl:l.length<=1000000):zD Tryz.prog cfg 254 [.slice (some ⟨0,0,none⟩) l.length tg] (AH.of [some (.arr e (qI l))])
  fun r H'=> r=.ret (.slice (some ⟨0,0,none⟩) (Lib.compact l).length tg)/\H'=AH.of [some (.arr e (qI (Lib.compact l)))]:=by
 by_cases hz:l=[]
 ·subst hz
  exact zVa zSl (fun a cap w=> Tryz.slices_Compact_int_empty a cap w) e tg
 ·exact zXv zSl (fun blk off cap zs w h1 h2 h3=> Tryz.slices_Compact_int blk off cap zs w h1 h2 h3) e l tg hz (by omega)
def zVt:qH GD:=fun args H=> match args with
 |[x]=> (sl0 x).bind fun q=> (zA1 H q.1).map fun l=> (q.2.1=l.2.length/\l.2.length<=1000000,.ret (.slice (some ⟨q.1,0,none⟩) (Lib.compact l.2).length q.2.2),H.upd q.1 (.arr l.1 (qI (Lib.compact l.2))))
 |_=> none
theorem qKz:zY Tryz.prog cfg 254 zVt:=by
 intro args H p r H' h hp
 unfold zVt at h
 split at h
 case h_2=> cases h
 simp only[Option.map_eq_some_iff,Option.bind_eq_some_iff] at h
 obtain⟨q,hq,l,hl,h⟩:=h
 cases h
 rw[qB4 hq,hp.1]
 exact (qR1 l.1 l.2 q.2.2 hp.2).atK (jD rfl) [q.1] (by simp) (by simp) (by simp[zA8 hl]) (by simp) (by simp) (by simp)
end YtapbabkndhaemaaGreat
end Go.Proofs
/-
 Stripes:those of some variables,rising,each once:the plain law.
-/
namespace Go.Proofs
namespace YtapbabkndhaemaaGreat
open Go.Abs
def zGp (ws:List Int) (l:List Int) (i:Nat):List Int:=((l.take i).map (ofT ws)).filter fun s=> decide (0<=s)
def zEo (ws:List Int) (l:List Int) (n:Nat):List Int:=Lib.compact (zA7 (zGp ws l n))
def zYw (ws:List Int) (l:List Int) (n:Nat) (s:Nat):Bool:=(l.take n).any fun t=> decide (ofT ws t=s)
def zIc (ws:List Int) (l:List Int) (n:Nat) (s:Nat):List Int:=((List.range s).filter (zYw ws l n)).map fun i:Nat=> (i:Int)
theorem qGo (ws l:List Int):zGp ws l 0=[]:=by simp[zGp]
theorem qGp {ws l:List Int} {i:Nat} {t:Int} (hx:l[i]?=some t):zGp ws l (i+1)=zGp ws l i++(if 0<=ofT ws t then [ofT ws t] else []):=by
 unfold zGp
 rw[List.take_add_one,hx,List.map_append,List.filter_append]
 by_cases h:0<=ofT ws t<;> simp[h]
theorem qRb (ws l:List Int) (i:Nat):(zGp ws l i).length<=i:=by
 unfold zGp
 have:=List.length_filter_le (fun s:Int=> decide (0<=s)) ((l.take i).map (ofT ws))
 rw[List.length_map,List.length_take] at this
 omega
theorem qDp (ws l:List Int) (n s:Nat):zIc ws l n (s+1)=zIc ws l n s++(if zYw ws l n s then [(s:Int)] else []):=by
 unfold zIc
 rw[List.range_succ,List.filter_append,List.map_append]
 by_cases h:zYw ws l n s<;> simp[h]
theorem qL9 (ws l:List Int) (n s:Nat):(zIc ws l n s).length<=s:=by
 unfold zIc
 rw[List.length_map]
 have:=List.length_filter_le (zYw ws l n) (List.range s)
 simpa using this
theorem zXy (ws l:List Int) (n s:Nat):(zIc ws l n s).Pairwise (· <·):=by
 induction s with
 |zero=> simp[zIc]
 |succ s ih=>
  rw[qDp,List.pairwise_append]
  refine⟨ih,by split<;> simp,fun a ha b hb=> ?_⟩
  have hb':b=s:=by
   split at hb
   ·simpa using hb
   ·simp at hb
  subst hb'
  unfold zIc at ha
  obtain⟨i,hi,rfl⟩:=List.mem_map.1 ha
  have:=List.mem_range.1 (List.mem_filter.1 hi).1
  omega
theorem zNr {ws:List Int} {c:Int} (h:GoodT ws c) (l:List Int) (n:Nat):zEo ws l n=zIc ws l n ws.length:=by
 refine zRq (zTy _) (zXy ws l n ws.length) fun v=> ?_
 unfold zEo
 rw[zP3]
 unfold zGp zIc zYw
 simp only[List.mem_filter,List.mem_map,List.mem_range,decide_eq_true_eq,List.any_eq_true]
 constructor
 ·rintro⟨⟨t,ht,rfl⟩,h0⟩
  have hlt:ofT ws t<ws.length:=by
   by_cases hb:0<=t/\t<12
   ·exact (zR8 h hb).2
   ·unfold ofT at h0;rw[if_neg hb] at h0;omega
  exact⟨(ofT ws t).toNat,⟨by omega,t,ht,by omega⟩,by omega⟩
 ·rintro⟨i,⟨_,t,ht,e⟩,rfl⟩
  exact⟨⟨t,ht,e⟩,by omega⟩
end YtapbabkndhaemaaGreat
end Go.Proofs
/-
 Stripes of some variables:both walked;the law's run.
-/
namespace Go.Proofs
namespace YtapbabkndhaemaaGreat
open Go.Abs
def zOx:List (FuncId × qH GD):=[(103,zEu),(57,zS8),(254,zVt),(144,qDj),(201,zVx)]
theorem zWr:∀x∈zOx,zY Tryz.prog cfg x.1 x.2:=by simp[zOx,zXo,qBu,qKz,qLx,zXe]
end YtapbabkndhaemaaGreat
end Go.Proofs
/-
 EVENTS:zD2 of them,and what is read off one.
-/
namespace Go.Proofs
namespace YtapbabkndhaemaaGreat
open Go.Abs
theorem qEv (l:List Ev):jJ (evs l)=true:=by
 induction l with
 |nil=> rfl
 |cons e l ih=>
  show jJ (.int .u8 e.k::.int .i64 e.a::.int .i64 e.t::.int .u64 e.v::evs l)=true
  simp[jJ,xD,ih]
theorem qB7 (θ:Nat->Nat) (l:List Ev):zAh θ (evs l)=evs l:=xV θ _ (qEv l)
attribute [simp] qB7
theorem jM (l:List Ev):(evs l).length=l.length*4:=by
 induction l with
 |nil=> rfl
 |cons e l ih=>
  show (.int .u8 e.k::.int .i64 e.a::.int .i64 e.t::.int .u64 e.v::evs l:List Value).length=_
  simp[ih];omega
theorem jS (a b:List Ev):evs (a++b)=evs a++evs b:=by simp[evs]
theorem jR (e:Ev):evs [e]=[.int .u8 e.k,.int .i64 e.a,.int .i64 e.t,.int .u64 e.v]:=rfl
theorem zAf (l:List Ev):(evs l).take (l.length*4)=evs l:=List.take_of_length_le (by simp[jM])
theorem qUw:evs []=[]:=rfl
theorem qN7 (e:Ev) (l:List Ev):evs (e::l)=.int .u8 e.k::.int .i64 e.a::.int .i64 e.t::.int .u64 e.v::evs l:=rfl
def zA6:List Value->Option (List Ev)
 |[]=> some []
 |.int .u8 k::.int .i64 a::.int .i64 t::.int .u64 v::l=> (zA6 l).map (⟨k,a,t,v⟩::·)
 |_=> none
theorem zU1:∀l:List Ev,zA6 (evs l)=some l
 |[]=> rfl
 |e::l=> by
  show (zA6 (evs l)).map (_::·)=_
  rw[zU1 l];rfl
theorem zBu:∀{cs:List Value} {l:List Ev},zA6 cs=some l->cs=evs l
 |cs,l,e=> by
  unfold zA6 at e
  split at e
  ·cases e;rfl
  ·simp only[Option.map_eq_some_iff] at e
   obtain⟨l',e1,rfl⟩:=e
   rw[zBu e1];rfl
  ·cases e
attribute [simp] zU1
theorem zYi {i:Nat} {x:Ev}:∀{l:List Ev},l[i]?=some x->((evs l).drop (i*4)).take 4=x.cells:=by
 induction i with
 |zero=>
  intro l h
  cases l with
  |nil=> simp at h
  |cons e l=> simp at h;subst h;rfl
 |succ i ih=>
  intro l h
  cases l with
  |nil=> simp at h
  |cons e l=>
   rw[qN7,show (i+1)*4=i*4+1+1+1+1 by omega]
   simpa using ih (l:=l) (by simpa using h)
theorem zCz {i:Nat} {x:Ev} {l:List Ev} (h:l[i]?=some x):((evs l).drop (i*4)).take 4=[.int .u8 x.k,.int .i64 x.a,.int .i64 x.t,.int .u64 x.v]:=zYi h
theorem zLe {l:List Ev} {i:Nat} {x:Ev} (h:l[i]?=some x):(evs l)[i*4]?=some (.int .u8 x.k)/\(evs l)[i*4+1]?=some (.int .i64 x.a)/\(evs l)[i*4+2]?=some (.int .i64 x.t)/\(evs l)[i*4+3]?=some (.int .u64 x.v):=by
 have h3:=zYi h
 have g:∀j,j<4->(evs l)[i*4+j]?=x.cells[j]?:=fun j hj=> by
  rw[←h3,List.getElem?_take,if_pos hj,List.getElem?_drop]
 exact⟨g 0 (by omega),g 1 (by omega),g 2 (by omega),g 3 (by omega)⟩
theorem zB0 {l:List Ev} {i:Nat} (h:i<l.length):i*4+4<=(evs l).length:=by rw[jM];omega
def zOf (H:AH GD) (k:Nat):Option (List Ev):=match H.get k with
 |some (.ro cs)=> zA6 cs
 |some (.arr _ cs)=> zA6 cs
 |_=> none
theorem zSf {H:AH GD} {k:Nat} {l:List Ev} (h:zOf H k=some l):H.get k=some (.ro (evs l))∨∃e,H.get k=some (.arr e (evs l)):=by
 unfold zOf at h
 split at h
 ·rename_i cs hk
  rw[zBu h] at hk;exact .inl hk
 ·rename_i e cs hk
  rw[zBu h] at hk;exact .inr ⟨e,hk⟩
 ·cases h
abbrev zSw:=List Ev->List Value->Option (Prop × Value)
def zAi (g:zSw):qH GD:=fun args H=> match args with
 |.slice (some ⟨k,0,none⟩) n _::rest=> match zOf H k with
  |some l=> if n<=l.length then (g (l.take n) rest).map fun x=> (x.1,.ret x.2,H) else none
  |none=> none
 |_=> none
theorem qD1 {fid:FuncId} {g:zSw} (h:∀(l:List Ev) (n c:Nat) (rest:List Value) (p:Prop) (v:Value),n<=l.length->g (l.take n) rest=some (p,v)->p->jJ rest=true/\xD v=true/\
  zD Tryz.prog cfg fid (.slice (some ⟨0,0,none⟩) n c::rest) (AH.of [some (.ro (evs l))]) fun r H'=> r=.ret v/\H'=AH.of [some (.ro (evs l))]):zY Tryz.prog cfg fid (zAi g):=by
 intro args H p r H' he hp
 unfold zAi at he
 split at he
 case h_2=> cases he
 rename_i k n c rest
 split at he
 case h_2=> cases he
 rename_i l hl
 split at he
 case isFalse=> cases he
 rename_i hn
 simp only[Option.map_eq_some_iff] at he
 obtain⟨⟨p',v⟩,h1,h2⟩:=he
 cases h2
 obtain⟨g1,g2,hr⟩:=h l n c rest p' v hn h1 hp
 rcases zSf hl with hk|⟨e,hk⟩
 ·exact hr.atK (zCj fun i cs hi=> by rcases i with _|_|i<;> simp at hi⊢;exact hi) [k] (by simp) (by simp) (by simp[hk]) (by rw[zAh,xV _ _ g1];simp) (by rw[zK4,zD0 _ _ g2]) (by simp[qO hk])
 ·refine zD.borrow k hk ?_
  have hk2:(H.upd k (.ro (evs l))).get k=some (.ro (evs l)):=by rw[AH.get_upd,if_pos rfl]
  have hr2:=hr.atK (H:=H.upd k (.ro (evs l))) (args:=.slice (some ⟨k,0,none⟩) n c::rest) (r':=.ret v) (H':=H.upd k (.ro (evs l))) (zCj fun i cs hi=> by rcases i with _|_|i<;> simp at hi⊢;exact hi) [k] (by simp) (by simp) (by simp[hk2]) (by rw[zAh,xV _ _ g1];simp) (by rw[zK4,zD0 _ _ g2]) (by simp[qO hk2])
  refine hr2.mono ?_
  rintro r H' ⟨e1,rfl⟩
  refine⟨hk2,fun j cs2 hj hcs hne=> ⟨cs2,?_,hne⟩,e1,?_⟩
  ·rw[AH.get_upd,if_neg hj] at hcs;exact hcs
  ·rw[qBh,qO hk]
abbrev zZ1:=List Ev->List Value->Option (Prop × Nat × TypeId × List Value)
def zX1 (g:zZ1):qH GD:=fun args H=> match args with
 |.slice (some ⟨k,0,none⟩) n _::rest=> match zOf H k with
  |some l=> if n<=l.length then (g (l.take n) rest).map fun x=> (k<H.next/\x.1,.ret (.slice (some ⟨H.next,0,none⟩) x.2.1 1),H.add (.arr x.2.2.1 x.2.2.2)) else none
  |none=> none
 |_=> none
theorem rn_ok {fid:FuncId} {g:zZ1} (h:∀(l:List Ev) (n c:Nat) (rest:List Value) (p:Prop) (m:Nat) (t:TypeId) (cs:List Value),n<=l.length->g (l.take n) rest=some (p,m,t,cs)->p->jJ rest=true/\jJ cs=true/\
  zD Tryz.prog cfg fid (.slice (some ⟨0,0,none⟩) n c::rest) (AH.of [some (.ro (evs l))]) fun r H'=> r=.ret (.slice (some ⟨1,0,none⟩) m 1)/\H'=AH.of [some (.ro (evs l)),some (.arr t cs)]):zY Tryz.prog cfg fid (zX1 g):=by
 intro args H p r H' he hp
 unfold zX1 at he
 split at he
 case h_2=> cases he
 rename_i k n c rest
 split at he
 case h_2=> cases he
 rename_i l hl
 split at he
 case isFalse=> cases he
 rename_i hn
 simp only[Option.map_eq_some_iff] at he
 obtain⟨⟨p',m,t,cs⟩,h1,h2⟩:=he
 cases h2
 obtain⟨g1,g2,hr⟩:=h l n c rest p' m t cs hn h1 hp.2
 rcases zSf hl with hk|⟨e,hk⟩
 ·exact hr.atK (zCj fun i cs hi=> by rcases i with _|_|i<;> simp at hi⊢;exact hi) [k] (by simp) (by simp) (by simp[hk]) (by rw[zAh,xV _ _ g1];simp) (by simp) (by simp[qO hk,xV _ _ g2])
 ·refine zD.borrow k hk ?_
  have hk2:(H.upd k (.ro (evs l))).get k=some (.ro (evs l)):=by rw[AH.get_upd,if_pos rfl]
  have hr2:=hr.atK (H:=H.upd k (.ro (evs l))) (args:=.slice (some ⟨k,0,none⟩) n c::rest) (r':=.ret (.slice (some ⟨H.next,0,none⟩) m 1)) (H':=(H.upd k (.ro (evs l))).add (.arr t cs)) (zCj fun i cs hi=> by rcases i with _|_|i<;> simp at hi⊢;exact hi) [k] (by simp) (by simp) (by simp[hk2]) (by rw[zAh,xV _ _ g1];simp) (by simp) (by simp[qO hk2,xV _ _ g2])
  have hkl:k≠H.next:=Nat.ne_of_lt hp.1
  refine hr2.mono ?_
  rintro r H' ⟨e1,rfl⟩
  refine⟨by rw[AH.get_add,AH.next_upd,if_neg hkl,hk2],fun j cs2 hj hcs hne=> ⟨cs2,?_,hne⟩,e1,?_⟩
  ·rw[AH.get_add,AH.next_upd] at hcs
   split at hcs
   ·cases hcs
   ·rw[AH.get_upd,if_neg hj] at hcs;exact hcs
  ·refine AH.ext' (by simp) fun j=> ?_
   rw[AH.get_upd,AH.get_add,AH.get_add,AH.next_upd,AH.get_upd]
   by_cases hj:j=k
   ·subst hj;rw[if_pos rfl,if_neg hkl,hk]
   ·rw[if_neg hj,if_neg hj]
end YtapbabkndhaemaaGreat
end Go.Proofs
/-
 TL2:what its functions come to.
-/
namespace Go.Proofs
namespace YtapbabkndhaemaaGreat
open Go.Abs
def qB (ts:Nat->Option TA) (th:Nat) (x:Option TA):Nat->Option TA:=fun i=> if i=th then x else ts i
theorem zNt (ts:Nat->Option TA) (th:Nat) (x:Option TA):qB ts th x th=x:=by simp[qB]
theorem zJ7 (ts:Nat->Option TA) {th i:Nat} (x:Option TA) (h:i≠th):qB ts th x i=ts i:=by simp[qB,h]
def zB9 (n:Nat) (c:Int):TA:=⟨n,c,0,[],[[]],⟨0,0,0⟩,0,0,0,0,0,false⟩
def zD8 (s:TS) (th:Nat):Int:=if (s.ts th).isSome then 8 else if 64<=s.ft.length then 4 else 0
def zAt (s:TS) (th:Nat):TS:={ s with ts:=qB s.ts th (some (zB9 s.ft.length s.c)),ev:=s.ev++[⟨1,s.ft.length,0,0⟩],ft:=s.ft++[⟨s.ft.length,2*s.c+1,0⟩] }
def zE5 (s:TS) (th:Nat) (x:Ak):Int:=match s.ts th with
 |none=> 8
 |some a=> if a.ra.k≠0 then 7 else zB2 a.fs s.hp.length x
def zAr (s:TS) (th:Nat) (x:Ak):TS:=match s.ts th with
 |none=> s
 |some a=> { s with ts:=qB s.ts th (some { a with ra:=x,ph:=0,nx:=0,sw:=0,sv:=0,ss:=0 }) }
def zCn (l:List Fate) (n:Nat) (w:Int):List Fate:=match l[n]? with
 |some f=> l.set n { f with why:=w }
 |none=> l
def zF7 (l:List Fate) (n:Nat) (k:Int):List Fate:=match l[n]? with
 |some f=> l.set n { f with key:=k }
 |none=> l
def zBf (s:TS) (th:Nat) (a:TA) (why:Int):TS:=
 { ws:=zDc s.ws th,c:=s.c,hp:=s.hp,ts:=qB s.ts th none,ev:=s.ev++[⟨9,a.n,0,0⟩],ft:=zCn s.ft a.n why }
def zBi (s:TS) (th:Nat) (a:TA):TS:={ s with ts:=qB s.ts th none,ev:=s.ev++[⟨8,a.n,0,0⟩] }
def zDq (s:TS) (th:Nat) (a:TA):TS:={ s with ts:=qB s.ts th (some a) }
def zCl (s:TS) (th:Nat) (a:TA) (v:Int):TS:={ s with ts:=qB s.ts th (some { a with ra:=⟨0,0,0⟩ }),ev:=s.ev++[⟨2,a.n,a.ra.t,v⟩] }
def zD4 (ws:List Int) (th:Nat) (st:Int):Bool:=zDi ws st && decide (zDh ws st≠(th:Int))
def zC8 (s:TS) (th:Nat) (a:TA):Rp × TS:=
 match qQ a.fs a.ra.t with
 |some v=> (xM v,zCl s th a v)
 |none=>
  if a.ss=0 then
   (if zD4 s.ws th (ofT s.ws a.ra.t)=true then (zAz (zDh s.ws (ofT s.ws a.ra.t)),s)
    else if a.rv<zAu s.ws (ofT s.ws a.ra.t) then (xR 1,zBf s th a 1)
    else (jB,zDq s th { a with ss:=1,sw:=zBl s.ws (ofT s.ws a.ra.t) }))
  else if a.ss=1 then (jB,zDq s th { a with ss:=2,sv:=(s.hp[a.ra.t.toNat]?).getD 0 })
  else if zBl s.ws (ofT s.ws a.ra.t)=a.sw then
   (if zCe a.es ⟨a.ra.t,a.sv,zAu s.ws (ofT s.ws a.ra.t)⟩=0 then (xM a.sv,zCl s th { a with ss:=3,es:=zDy a.es ⟨a.ra.t,a.sv,zAu s.ws (ofT s.ws a.ra.t)⟩ } a.sv) else (xR 2,zBf s th a 2))
  else (xR 1,zBf s th a 1)
def zHm (ws:List Int) (fs:List (List Pr)):List Int:=zEo ws ((jC fs).map (·.t)) (jC fs).length
def zFq (l held:List Int):Option Int:=l.find? fun s=> decide (s∉held)
def zGg (s:TS) (th:Nat) (a:TA):Rp × TS:=
 match zFq (zHm s.ws a.fs) (jZ s.ws th) with
 |some st=> if zD4 s.ws th st=true then (zAz (zDh s.ws st),s) else (jB,{ s with ws:=zCx s.ws th st })
 |none=> if zEi s.c=0 then (jB,{ s with c:=zD1 s.c,ts:=qB s.ts th (some { a with wv:=zD1 s.c,ph:=2,nx:=0 }) }) else (xR 2,zBf s th a 2)
def zKd (w:Int) (o:Int) (v:Int):Bool:=(decide (zAx w= -1)||decide (zAx w=o)) && decide (zBp w<=v)
def zGj (s:TS) (th:Nat) (a:TA):Rp × TS:=
 match a.es[a.nx]? with
 |none=> (jB,{ s with ts:=qB s.ts th (some { a with dec:=true,ph:=3,nx:=0 }),ft:=zF7 s.ft a.n (2*a.wv) })
 |some e=> if zKd (zBl s.ws (ofT s.ws e.t)) th a.rv=true then (jB,zDq s th { a with nx:=a.nx+1 }) else (xR 1,zBf s th a 1)
def zC9 (s:TS) (th:Nat) (a:TA):Rp × TS:=
 if a.ph=0 then
  (if jC a.fs=[] then (xR 0,zBi { s with ev:=s.ev++[⟨7,a.n,0,0⟩] } th a) else (jB,{ s with ts:=qB s.ts th (some { a with ph:=1 }),ev:=s.ev++[⟨7,a.n,0,0⟩] }))
 else if a.ph=1 then zGg s th a
 else if a.ph=2 then zGj s th a
 else if a.ph=3 then (match (jC a.fs)[a.nx]? with
  |some p=> (jB,{ s with hp:=s.hp.set p.t.toNat p.v,ts:=qB s.ts th (some { a with nx:=a.nx+1,ph:=if a.nx+1=(jC a.fs).length then 4 else 3 }) })
  |none=> (jB,s))
 else (match jZ s.ws th with
  |[]=> (jB,s)
  |[h]=> (xR 0,zBi { s with ws:=xI s.ws s.c th h a.wv } th a)
  |h::_=> (jB,{ s with ws:=xI s.ws s.c th h a.wv }))
def zDu (s:TS) (th:Nat) (a:TA):Rp × TS:=
 if a.ra.k=3 then (xM 0,{ s with ts:=qB s.ts th (some { a with ra:=⟨0,0,0⟩,fs:=zMw a.fs }),ev:=s.ev++[⟨4,a.n,0,0⟩] })
 else if a.ra.k=4 then (xM 0,{ s with ts:=qB s.ts th (some { a with ra:=⟨0,0,0⟩,fs:=zPm a.fs }),ev:=s.ev++[⟨5,a.n,0,0⟩] })
 else if a.ra.k=5 then (xM 0,{ s with ts:=qB s.ts th (some { a with ra:=⟨0,0,0⟩,fs:=zKs a.fs }),ev:=s.ev++[⟨6,a.n,0,0⟩] })
 else if zPc a.fs a.ra.t a.ra.v=0 then (xM 0,{ s with ts:=qB s.ts th (some { a with ra:=⟨0,0,0⟩,fs:=zPb a.fs a.ra.t a.ra.v }),ev:=s.ev++[⟨3,a.n,a.ra.t,a.ra.v⟩] })
 else (xR 2,zBf s th a 2)
def zBd (s:TS) (th:Nat):Rp × TS:=match s.ts th with
 |none=> (zA5 8,s)
 |some a=>
  if a.ra.k=0 then (zA5 8,s)
  else if a.ra.k=1 then zC8 s th a
  else if a.ra.k=6 then zC9 s th a
  else if a.ra.k=7 then (xR 4,zBf s th a 4)
  else zDu s th a
def zRe (s:TS) (th:Nat):Int:=match s.ts th with
 |none=> 8
 |some a=> if a.dec then 8 else 0
def zFl (s:TS) (th:Nat):TS:=match s.ts th with
 |none=> s
 |some a=> if a.dec then s else zBf s th a 3
structure TA.Ok (a:TA) (s:TS):Prop where
 n:a.n<s.ft.length
 rv:0<=a.rv/\a.rv<=s.c
 wv:0<=a.wv/\a.wv<=s.c
 es:Good a.es
 est:∀e∈a.es,e.t<s.hp.length
 fs:zBb a.fs
 fst:∀f∈a.fs,∀p∈f,0<=p.t/\p.t<s.hp.length/\0<=p.v/\p.v<18446744073709551616
 ask:0<=a.ra.k/\a.ra.k<=7/\(a.ra.k=1∨a.ra.k=2->0<=a.ra.t/\a.ra.t<s.hp.length)/\0<=a.ra.v/\a.ra.v<18446744073709551616
 sw:0<=a.sw/\a.sw<18446744073709551616
 sv:0<=a.sv/\a.sv<18446744073709551616
 ss:a.ss<=3
 sr:a.ra.k=1->a.ss<=2
 nx:a.nx<=100
 ph:a.ph<=4
 p2:a.ph=2->a.nx<=a.es.length
 p3:a.ph=3->a.nx<(jC a.fs).length
 p6:a.ph≠0->a.ra.k=6/\jC a.fs≠[]
 ww:(a.ra.k=3->a.fs.length<5)/\(a.ra.k=4∨a.ra.k=5->1<a.fs.length)
def xX (ws:List Int) (i:Nat):Int:=match ws[i]? with
 |some w=> zAx w
 |none=> -1
def zOr (ws:List Int) (th:Nat) (a:TA):Prop:=
 (a.ph=0->jZ ws th=[])/\(2<=a.ph->jZ ws th≠[])/\(a.dec=true↔3<=a.ph)/\(2<=a.ph->∀i:Nat,xX ws i=th->zAu ws i<=a.wv)
structure TS.Ok (s:TS):Prop where
 hp:1<=s.hp.length/\s.hp.length<=12
 hv:∀v∈s.hp,0<=v/\v<18446744073709551616
 tab:GoodT s.ws s.c
 ft:s.ft.length<=64
 ts:∀th a,s.ts th=some a->a.Ok s
 lk:∀th a,s.ts th=some a->zOr s.ws th a
 no:∀th,s.ts th=none->jZ s.ws (th:Int)=[]
 th4:∀th,4<=th->s.ts th=none
end YtapbabkndhaemaaGreat
end Go.Proofs
/-
 TL2:an engine is opened.
-/
namespace Go.Proofs
namespace YtapbabkndhaemaaGreat
open Go.Abs
def p4 (x:Nat):Nat->List Nat
 |0=> [x,6,7,8]
 |1=> [6,x,7,8]
 |2=> [6,7,x,8]
 |_=> [6,7,8,x]
theorem zAa (th:Nat):∃q,q=th:=⟨_,rfl⟩
theorem qL {th:Nat} (h:th<4):th=0∨th=1∨th=2∨th=3:=by omega
def u1 (th:Nat):Nat:=if th=0 then 1 else 0
def u2 (th:Nat):Nat:=if th<=1 then 2 else 1
def u3 (th:Nat):Nat:=if th<=2 then 3 else 2
def tps (th:Nat) (q:Value) (ts:Nat->Option TA):List Value:=match th with
 |0=> [q,zBc 6 (ts 1),zBc 7 (ts 2),zBc 8 (ts 3)]
 |1=> [zBc 6 (ts 0),q,zBc 7 (ts 2),zBc 8 (ts 3)]
 |2=> [zBc 6 (ts 0),zBc 7 (ts 1),q,zBc 8 (ts 3)]
 |_=> [zBc 6 (ts 0),zBc 7 (ts 1),zBc 8 (ts 2),q]
def qC (a b:Value) (th:Nat) (q:Value) (ts:Nat->Option TA) (x y:Value):List Value:=a::b::(tps th q ts++[x,y])
theorem jI (a b:Value) (th:Nat) (q:Value) (ts:Nat->Option TA) (x y:Value):(qC a b th q ts x y).length=8:=by unfold qC tps;split<;> rfl
theorem xQ (a b:Value) (th:Nat) (q:Value) (ts:Nat->Option TA) (x y:Value):(qC a b th q ts x y)[0]?=some a:=rfl
theorem jA (a b:Value) (th:Nat) (q:Value) (ts:Nat->Option TA) (x y:Value):(qC a b th q ts x y)[1]?=some b:=rfl
theorem xP (a b:Value) (th:Nat) (q:Value) (ts:Nat->Option TA) (x y:Value):(qC a b th q ts x y)[6]?=some x:=by unfold qC tps;split<;> rfl
theorem xK (a b:Value) (th:Nat) (q:Value) (ts:Nat->Option TA) (x y:Value):(qC a b th q ts x y)[7]?=some y:=by unfold qC tps;split<;> rfl
theorem qBo (a b:Value) {th:Nat} (h:th<4) (q:Value) (ts:Nat->Option TA) (x y:Value):(qC a b th q ts x y)[2+th]?=some q:=by
 rcases qL h with rfl|rfl|rfl|rfl<;> rfl
theorem jX (a b:Value) (th:Nat) (q:Value) (ts:Nat->Option TA) (x y:Value) (h:0<(qC a b th q ts x y).length):(qC a b th q ts x y)[0]'h=a:=rfl
theorem xC (a b:Value) (th:Nat) (q:Value) (ts:Nat->Option TA) (x y:Value) (h:1<(qC a b th q ts x y).length):(qC a b th q ts x y)[1]'h=b:=rfl
theorem xB (a b:Value) (th:Nat) (q:Value) (ts:Nat->Option TA) (x y:Value) (h:6<(qC a b th q ts x y).length):(qC a b th q ts x y)[6]'h=x:=by
 have:=xP a b th q ts x y
 rw[List.getElem?_eq_getElem h] at this
 exact Option.some.inj this
theorem xA (a b:Value) (th:Nat) (q:Value) (ts:Nat->Option TA) (x y:Value) (h:7<(qC a b th q ts x y).length):(qC a b th q ts x y)[7]'h=y:=by
 have:=xK a b th q ts x y
 rw[List.getElem?_eq_getElem h] at this
 exact Option.some.inj this
theorem qKi (a b:Value) {th:Nat} (ht:th<4) (q:Value) (ts:Nat->Option TA) (x y:Value) (h:2+th<(qC a b th q ts x y).length):(qC a b th q ts x y)[2+th]'h=q:=by
 have:=qBo a b ht q ts x y
 rw[List.getElem?_eq_getElem h] at this
 exact Option.some.inj this
theorem xU (a b:Value) (th:Nat) (q:Value) (ts:Nat->Option TA) (x y v:Value):(qC a b th q ts x y).set 6 v=qC a b th q ts v y:=by unfold qC tps;split<;> rfl
theorem xT (a b:Value) (th:Nat) (q:Value) (ts:Nat->Option TA) (x y v:Value):(qC a b th q ts x y).set 7 v=qC a b th q ts x v:=by unfold qC tps;split<;> rfl
theorem qKh (a b:Value) {th:Nat} (h:th<4) (q:Value) (ts:Nat->Option TA) (x y v:Value):(qC a b th q ts x y).set (2+th) v=qC a b th v ts x y:=by
 rcases qL h with rfl|rfl|rfl|rfl<;> rfl
theorem zJ (k:Nat) (a:TA):zBc k (some a)=.pointer (some ⟨k,0,none⟩):=rfl
theorem zR (k:Nat):zBc k none=.pointer none:=rfl
theorem qIa (k:Nat) (o:Option TA):leV (zBc k o) (zBc k o)=True:=zQr _
theorem qGj (θ:Nat->Nat) (k:Nat) (o:Option TA):ren θ (zBc k o)=zBc (θ k) o:=by cases o<;> rfl
theorem zH (a:TA):zBz (some a)=.hi (.tatt a):=rfl
theorem jF:zBz none=.arr 98 []:=rfl
theorem qDy (θ:Nat->Nat) (x:Option TA):(zBz x).ren θ=zBz x:=by cases x<;> simp[zBz,qHc,qB8,zAh]
theorem qAv (x:Option TA):(zBz x).mine=true:=by cases x<;> rfl
theorem qEe (x:Option TA):leO (zBz x) (zBz x)=True:=eq_true (qNa _)
theorem qFt (e:TypeId) (cs:List Value):(AObj.arr e cs:AObj GD).mine=true:=rfl
theorem qJ2 (d:GD):(AObj.hi d).mine=true:=rfl
theorem qFs (es:List MapEntry) (c:Nat):(AObj.map es c:AObj GD).mine=true:=rfl
theorem zCa (e:Fate) (l:List Fate):qN (e::l)=.int .i64 e.n::.int .u64 e.key::.int .u8 e.why::qN l:=rfl
theorem zOk (a b:List Fate):qN (a++b)=qN a++qN b:=by simp[qN]
theorem zY2 (e:Fate):qN [e]=[.int .i64 e.n,.int .u64 e.key,.int .u8 e.why]:=rfl
theorem zBn (l:List Fate):(qN l).length=l.length*3:=by
 induction l with
 |nil=> rfl
 |cons e l ih=> rw[zCa];simp[ih];omega
theorem zY3 (l:List Fate):jJ (qN l)=true:=by
 induction l with
 |nil=> rfl
 |cons e l ih=> rw[zCa];simp[jJ,xD,ih]
theorem qHd (θ:Nat->Nat) (l:List Fate):zAh θ (qN l)=qN l:=xV θ _ (zY3 l)
theorem qDc (l:List Fate):(qN l).take (l.length*3)=qN l:=List.take_of_length_le (by simp[zBn])
theorem zEm (w:Int):∀{l:List Fate} {n:Nat},n<l.length->(qN l).set (n*3+2) (.int .u8 w)=qN (zCn l n w)
 |[],n,h=> by simp at h
 |e::l,0,h=> by simp[zCn,zCa]
 |e::l,n+1,h=> by
  have ih:=zEm w (l:=l) (n:=n) (by simpa using h)
  obtain⟨f,hf⟩:=zAs (l:=l) (i:=n) (by simpa using h)
  rw[zCa,show (n+1)*3+2=(n*3+2)+1+1+1 by omega]
  simp only[List.set_cons_succ,ih]
  simp[zCn,hf,zCa]
theorem zUs (w:Int):∀{l:List Fate} {n:Nat},n<l.length->(qN l).set (n*3+1) (.int .u64 w)=qN (zF7 l n w)
 |[],n,h=> by simp at h
 |e::l,0,h=> by simp[zF7,zCa]
 |e::l,n+1,h=> by
  have ih:=zUs w (l:=l) (n:=n) (by simpa using h)
  obtain⟨f,hf⟩:=zAs (l:=l) (i:=n) (by simpa using h)
  rw[zCa,show (n+1)*3+1=(n*3+1)+1+1+1 by omega]
  simp only[List.set_cons_succ,ih]
  simp[zF7,hf,zCa]
theorem xL (l:List Fate) (n:Nat) (w:Int):(zCn l n w).length=l.length:=by unfold zCn;split<;> simp
theorem xF (l:List Fate) (n:Nat) (w:Int):(zF7 l n w).length=l.length:=by unfold zF7;split<;> simp
attribute [simp] qFt qJ2 qFs qDy qAv qEe qB7 qHd qGj qIa
def qK (s:TS) (th:Nat):List (Option (AObj GD)):=
 [some (.arr 89 (qC (.pointer (some ⟨1,0,none⟩)) (.slice (some ⟨2,0,none⟩) s.hp.length 1) th (zBc 5 (s.ts th)) s.ts (.slice (some ⟨3,0,none⟩) s.ev.length 1) (.slice (some ⟨4,0,none⟩) s.ft.length 1))),
  some (.hi (.tab s.ws s.c)),some (.arr 30 (us s.hp)),some (.arr 121 (evs s.ev)),some (.arr 100 (qN s.ft)),some (zBz (s.ts th)),some (zBz (s.ts (u1 th))),some (zBz (s.ts (u2 th))),some (zBz (s.ts (u3 th)))]
theorem zAq {th:Nat} (hth:th<4):¬(th:Int)<0/\¬4<=(th:Int)/\(th:Int)<4/\2+th+1<=8/\(∀a b q ts x y,(qC a b th q ts x y)[2+th]?=some q)/\(∀a b q ts x y (h:2+th<(qC a b th q ts x y).length),(qC a b th q ts x y)[2+th]'h=q)/\(∀a b q ts x y v,(qC a b th q ts x y).set (2+th) v=qC a b th v ts x y):=
 ⟨by omega,by omega,by omega,by omega,fun a b q ts x y=> qBo a b hth q ts x y,fun a b q ts x y h=> qKi a b hth q ts x y h,fun a b q ts x y v=> qKh a b hth q ts x y v⟩
theorem zD.openTEng {f:FuncId} {args:List Value} {K:AEnd->AH GD->Prop} {s:TS} {th:Nat} (hth:th<4)
  (h:zD Tryz.prog cfg f args (AH.of (qK s th)) K):zD Tryz.prog cfg f args (AH.of [some (.hi (.teng s))]) K:=by
 have e:zJg frag (AH.of [some (.hi (.teng s))]) 0=some (AH.of [some (.arr 89 [.pointer (some ⟨1,0,none⟩),.slice (some ⟨2,0,none⟩) s.hp.length 1,zBc 5 (s.ts 0),zBc 6 (s.ts 1),zBc 7 (s.ts 2),zBc 8 (s.ts 3),.slice (some ⟨3,0,none⟩) s.ev.length 1,.slice (some ⟨4,0,none⟩) s.ft.length 1]),
   some (.hi (.tab s.ws s.c)),some (.arr 30 (us s.hp)),some (.arr 121 (evs s.ev)),some (.arr 100 (qN s.ft)),some (zBz (s.ts 0)),some (zBz (s.ts 1)),some (zBz (s.ts 2)),some (zBz (s.ts 3))]):=by
  simp[qG]
 have see:jT Tryz.prog cfg (AH.of [some (.hi (.teng s))]) (AH.of (qK s th)):=by
  rcases qL hth with rfl|rfl|rfl|rfl
  ·exact (zI2 e).names (ks:=[0,1,2,3,4,5,6,7,8]) (by simp[qK,qC,tps,u1,u2,u3])
  ·exact (zI2 e).names (ks:=[0,1,2,3,4,6,5,7,8]) (by simp[qK,qC,tps,u1,u2,u3])
  ·exact (zI2 e).names (ks:=[0,1,2,3,4,7,5,6,8]) (by simp[qK,qC,tps,u1,u2,u3])
  ·exact (zI2 e).names (ks:=[0,1,2,3,4,8,5,6,7]) (by simp[qK,qC,tps,u1,u2,u3])
 exact zD.seesG see h
end YtapbabkndhaemaaGreat
end Go.Proofs
/-
 slices.Contains of whole numbers.
-/
namespace Go.Proofs
namespace YtapbabkndhaemaaGreat
open Go.Abs
theorem qSl (e:TypeId) (l:List Int) (tg:Nat) (x:Int) (hl:l.length<=1000):zD Tryz.prog cfg 208 [.slice (some ⟨0,0,none⟩) l.length tg,.int .i64 x] (AH.of [some (.arr e (qI l))])
  fun r H'=> r=.ret (.bool (decide (x∈l)))/\H'=AH.of [some (.arr e (qI l))]:=by
 refine zD.ends ?_
 obtain⟨n,hn⟩:∃n,l.length=n:=⟨_,rfl⟩
 rw[hn]
 refine zP (tbl:=[]) (by simp) 1001 2 (af:=a208) rfl ?_
 rw[a208,b208,zW]
 refine⟨by simp,?_⟩
 simp -implicitDefEqProofs [forms240,a240,b240]
 refine jH (qR jG (qS (by simp)) _ _ noY qM) (fun m tm H=> ∃i:Nat,m+i=n/\(∀j y,j<i->l[j]?=some y->y≠x)/\tm 0=.slice (some ⟨0,0,none⟩) n tg/\tm 1=.int .i64 x/\tm 7=.int .i64 n/\tm 8=.int .i64 i/\H=AH.of [some (.arr e (qI l))]) (m:=n) ⟨0,by simp⟩ (by omega) ?_
 rintro m tm H ⟨i,hm,hpre,t0,t1,t7,t8,rfl⟩
 by_cases hi:i<n
 ·obtain⟨y,hy⟩:=zAs (l:=l) (i:=i) (by omega)
  have hi':(i:Int)<n:=by omega
  have hwr:=jV hi (by omega)
  have uy:=zFp hy
  by_cases hxy:x=y
  ·subst hxy
   have hin:x∈l:=List.mem_of_getElem? hy
   simp -implicitDefEqProofs [t0,t1,t7,t8,hi,hi',uy,hwr,hin]
   refine zA [] [0] ?_ ?_ ?_<;> simp
  ·have hpre2:∀j z,j<i+1->l[j]?=some z->z≠x:=fun j z hj hz=> by
    by_cases h:j=i
    ·subst h;rw[hy] at hz;cases hz;exact fun h=> hxy h.symm
    ·exact hpre j z (by omega) hz
   simp -implicitDefEqProofs [t0,t1,t7,t8,hi,hi',uy,hwr,hxy]
   exact⟨m - 1,by omega,i+1,by omega,hpre2,by omega⟩
 ·have hin:x∉l:=fun h=> by
   obtain⟨j,hj⟩:=List.getElem?_of_mem h
   have:=(List.getElem?_eq_some_iff.1 hj).1
   exact hpre j x (by omega) hj rfl
  have hi':¬(i:Int)<n:=by omega
  simp -implicitDefEqProofs [t0,t1,t7,t8,hi',hin]
  refine zA [] [0] ?_ ?_ ?_<;> simp
def zO8:qH GD:=fun args H=> match args with
 |[.slice (some ⟨k,0,none⟩) n _,.int .i64 x]=> match zA1 H k with
  |some l=> some (n=l.2.length/\l.2.length<=1000,.ret (.bool (decide (x∈l.2))),H)
  |none=> none
 |_=> none
theorem qLd:zY Tryz.prog cfg 208 zO8:=by
 intro args H p r H' h hp
 unfold zO8 at h
 split at h
 case h_2=> cases h
 split at h
 case h_2=> cases h
 rename_i k n tg x _ l hl
 cases h
 rw[hp.1]
 exact (qSl l.1 l.2 tg x hp.2).atK (jD rfl) [k] (by simp) (by simp) (by simp[zA8 hl]) (by simp) (by simp) (by simp[qO (zA8 hl)])
theorem zY0 (L:List (Option (AObj GD))) (k:Nat):zA1 (AH.of L) k=match (L[k]?).join with
 |some (.arr e cs)=> (zJu cs).map fun h=> (e,h)
 |_=> none:=rfl
attribute [simp] zY0
end YtapbabkndhaemaaGreat
end Go.Proofs
/-
 TL2:may a word be read;stripes of a row of one's own.
-/
namespace Go.Proofs
namespace YtapbabkndhaemaaGreat
open Go.Abs
def zOy:List (FuncId × qH GD):=[(149,qDi)]
theorem qKk:∀x∈zOy,zY Tryz.prog cfg x.1 x.2:=by simp[zOy,zXj]
theorem qTn (w o v:Int) (h:RightW w):zD Tryz.prog cfg 104 [.int .u64 w,.int .i64 o,.int .u64 v] (AH.of [])
  fun r H'=> r=.ret (.bool (zKd w o v))/\H'=AH.of []:=by
 refine zD.ends ?_
 unfold zKd
 generalize hO:zAx w=ow
 generalize hV:zBp w=vw
 refine zP (tbl:=zOy) qKk 0 0 (af:=a104) rfl ?_
 rw[a104,b104,zW]
 refine⟨by simp,?_⟩
 by_cases h1:ow= -1
 ·simp -implicitDefEqProofs [zOy,qE,zMx,h,hO,hV,h1]
  refine zA [] [] ?_ ?_ ?_<;> simp
 ·by_cases h2:ow=o
  ·simp -implicitDefEqProofs [zOy,qE,zMx,h,hO,hV,h1,h2]
   refine zA [] [] ?_ ?_ ?_<;> simp
  ·simp -implicitDefEqProofs [zOy,qE,zMx,h,hO,hV,h1,h2]
   refine zA [] [] ?_ ?_ ?_<;> simp
def p104:zFd
 |[.int .u64 w,.int .i64 o,.int .u64 v]=> some (RightW w,.bool (zKd w o v))
 |_=> none
abbrev qP2:=qE p104
theorem qL5:zY Tryz.prog cfg 104 qP2:=zDw fun args p v h hp=> by
 unfold p104 at h
 split at h
 ·cases h;exact⟨rfl,rfl,qTn _ _ _ hp⟩
 ·cases h
theorem zQh (ws:List Int) (c:Int) (l:List Int) (n tg:Nat) (e:TypeId) (h:GoodT ws c) (hn:n<=l.length) (hs:n<=1000):zD Tryz.prog cfg 239 [.pointer (some ⟨0,0,none⟩),.slice (some ⟨1,0,none⟩) n tg] (AH.of [some (.hi (.tab ws c)),some (.arr e (qI l))])
  fun r H'=> r=.ret (.slice (some ⟨2,0,none⟩) (zEo ws l n).length 1)/\H'=AH.of [some (.hi (.tab ws c)),some (.arr e (qI l)),some (.arr 3 (qI (zEo ws l n)))]:=by
 refine zD.ends ?_
 refine zP (tbl:=zOx) zWr 1001 0 (af:=a239) rfl ?_
 rw[a239,b239,zW]
 refine⟨by simp,?_⟩
 simp -implicitDefEqProofs
 refine zA3 (qR jG (qS zWr) _ _ noY qM) (fun m tm H=> ∃i:Nat,m+i=n/\tm 0=.pointer (some ⟨0,0,none⟩)/\tm 9=.slice (some ⟨1,0,none⟩) n tg/\tm 10=.int .i64 n/\tm 11=.int .i64 i/\tm 5=.slice (some ⟨2,0,none⟩) (zGp ws l i).length 1/\
  H=AH.of [some (.hi (.tab ws c)),some (.arr e (qI l)),some (.arr 3 (qI (zGp ws l i)))]) (m:=n) ?_ (by omega) ?_
 ·refine zF4 [.nil 3] [0,1,2] [some (.hi (.tab ws c)),some (.arr e (qI l)),some (.arr 3 (qI []))] [(5,.slice (some ⟨2,0,none⟩) 0 1)] n (by omega) ?_ ?_ ?_ ⟨0,?_⟩<;> simp[qGo,show qI []=[] from rfl]
 rintro m tm H ⟨i,hm,t0,t9,t10,t11,t5,rfl⟩
 have hle:=qRb ws l i
 by_cases hi:i<n
 ·obtain⟨x,hx⟩:=zAs (l:=l) (i:=i) (by omega)
  have hi':(i:Int)<n:=by omega
  have hil:i<l.length:=by omega
  have hwr:=jV hi (by omega)
  have hsuc:=qGp (ws:=ws) hx
  have hat:=zFp hx
  have hget:=zF8 hx
  have hr3:((zGp ws l i).length+1)*8<=140737488355328/\(zGp ws l i).length<=9223372036854775806:=by omega
  have htk:=zJp (zGp ws l i)
  by_cases hp:0<=ofT ws x
  ·rw[if_pos hp] at hsuc
   simp -implicitDefEqProofs [zOx,zEu,h,t0,t9,t10,t11,t5,hi,hi',hil,hwr,hat,hget,hp,hr3,htk]
   refine qD [] [0,1,4] [some (.hi (.tab ws c)),some (.arr e (qI l)),some (.arr 3 (qI (zGp ws l (i+1))))] (m - 1) (by omega) ?_ ?_ ⟨i+1,by omega,?_⟩<;> simp[t0,t9,t10,t11,t5,hsuc,zEl,zEk]
  ·rw[if_neg hp] at hsuc
   simp -implicitDefEqProofs [zOx,zEu,h,t0,t9,t10,t11,t5,hi,hi',hil,hwr,hat,hget,hp,hr3,htk]
   refine qD [] [0,1,2] [some (.hi (.tab ws c)),some (.arr e (qI l)),some (.arr 3 (qI (zGp ws l (i+1))))] (m - 1) (by omega) ?_ ?_ ⟨i+1,by omega,?_⟩<;> simp[t0,t9,t10,t11,t5,hsuc]
 ·have hie:i=n:=by omega
  subst hie
  have hb:(zGp ws l i).length<=1000000:=by omega
  simp -implicitDefEqProofs [zOx,zS8,zVt,sl0,zA1,t0,t9,t10,t11,t5,hb]
  refine zA [] [0,1,2] ?_ ?_ ?_<;> simp[zEo]
def zMo:qH GD:=fun args H=> match args with
 |[.pointer (some ⟨k,0,none⟩),.slice (some ⟨j,0,none⟩) n tg]=> match H.get k with
  |some (.hi (.tab ws c))=> match H.get j with
   |some (.arr e cs)=> (zJu cs).map fun l=> (GoodT ws c/\n<=l.length/\n<=1000,.ret (.slice (some ⟨H.next,0,none⟩) (zEo ws l n).length 1),H.add (.arr 3 (qI (zEo ws l n))))
   |_=> none
  |_=> none
 |_=> none
theorem qAe:zY Tryz.prog cfg 239 zMo:=by
 intro args H p r H' h hp
 unfold zMo at h
 split at h
 case h_2=> cases h
 split at h
 case h_2=> cases h
 split at h
 case h_2=> cases h
 simp only[Option.map_eq_some_iff] at h
 obtain⟨l,hl,h⟩:=h
 rename_i k j n tg x1 ws c hk x2 e cs hj
 cases h
 rw[zNc hl] at hj
 have hkj:k≠j:=by rintro rfl;rw[hk] at hj;cases hj
 exact (zQh ws c l n tg e hp.1 hp.2.1 hp.2.2).atK (jD rfl) [k,j] (by simp[hkj]) (by simp) (by simp[hk,hj]) (by simp) (by simp) (by simp[qO hk,qO hj])
end YtapbabkndhaemaaGreat
end Go.Proofs
