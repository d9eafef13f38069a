/-
  THE DATA, and how each lies.
-/
import Derived.Test.YtnemoimbeefngaaGreatPF
import Derived.Test.YtnemoimbeefngaaGreatPA3
import Derived.Test.YtnemoimbeefngaaGreatRows
set_option linter.unusedSimpArgs false
set_option linter.unusedVariables false
set_option linter.unnecessarySimpa false
set_option linter.unusedSectionVars false
set_option maxHeartbeats 32000000
set_option maxRecDepth 100000
namespace Go.Proofs
namespace YtnemoimbeefngaaGreat
open Go.Abs
structure Ent where
 t:Int
 v:Int
 n:Int
 deriving DecidableEq
structure Pr where
 t:Int
 v:Int
 deriving DecidableEq
structure Ev where
 k:Int
 a:Int
 t:Int
 v:Int
 deriving DecidableEq
structure Ak where
 k:Int
 t:Int
 v:Int
 deriving DecidableEq
structure Att where
 n:Nat
 snap:Int
 es:List Ent
 fs:List (List Pr)
 asked:Bool
 ra:Ak
 at_:Nat
 back:Nat
 nx:Nat
 seen:Int
 val:Int
 dec:Bool
 deriving DecidableEq
structure NS where
 o:Option Int
 c:Int
 hp:List Int
 ts:Nat->Option Att
 ev:List Ev
 ky:List Int
 wy:List Int
structure TA where
 n:Nat
 rv:Int
 wv:Int
 es:List Ent
 fs:List (List Pr)
 ra:Ak
 ph:Nat
 nx:Nat
 sw:Int
 sv:Int
 ss:Nat
 dec:Bool
 deriving DecidableEq
structure Fate where
 n:Nat
 key:Int
 why:Int
 deriving DecidableEq
structure TS where
 ws:List Int
 c:Int
 hp:List Int
 ts:Nat->Option TA
 ev:List Ev
 ft:List Fate
inductive GD where
 |lk (o:Option Int) (c:Int)
 |rlk (o:Option Int) (c:Int)
 |stk (fs:List (List Pr))
 |log (fs:List (List Pr))
 |rlog (fs:List (List Pr))
 |att (a:Att)
 |ratt (a:Att)
 |eng (s:NS)
 |reng (s:NS)
 |set (c:Nat) (l:List Ent)
 |rset (l:List Ent)
 |tab (ws:List Int) (c:Int)
 |rtab (ws:List Int) (c:Int)
 |vints (l:List Int)
 |tatt (a:TA)
 |teng (s:TS)
def Fate.cells (f:Fate):List Value:=[.int .i64 f.n,.int .u64 f.key,.int .u8 f.why]
def zMv (l:List Fate):List Value:=l.flatMap Fate.cells
def Ent.cells (e:Ent):List Value:=[.int .i64 e.t,.int .u64 e.v,.int .u64 e.n]
def Ent.val (e:Ent):Value:=.agg e.cells.toArray
def zBw (l:List Ent):List (Value × Value):=l.map fun e=> (.int .i64 e.t,e.val)
def zCr (l:List Ent):List Value:=l.map fun e=> .int .i64 e.t
def zC9 (l:List Ent):List Value:=l.flatMap Ent.cells
def us (h:List Int):List Value:=h.map fun v=> .int .u64 v
def Pr.cells (p:Pr):List Value:=[.int .i64 p.t,.int .u64 p.v]
def prs (l:List Pr):List Value:=l.flatMap Pr.cells
def Ev.cells (e:Ev):List Value:=[.int .u8 e.k,.int .i64 e.a,.int .i64 e.t,.int .u64 e.v]
def evs (l:List Ev):List Value:=l.flatMap Ev.cells
def u8s (l:List Int):List Value:=l.map fun v=> .int .u8 v
def Att.ask (a:Att):Ak:=if a.asked then a.ra else ⟨0,0,0⟩
def nextP:List (List Pr)->Value
 |[]=> .pointer none
 |_::_=> .pointer (some ⟨2,0,none⟩)
def nextO:List (List Pr)->List (AObj GD)
 |[]=> []
 |f::fs=> [.hi (.stk (f::fs))]
def stkO:List (List Pr)->List (AObj GD)
 |[]=> [.arr 220 []]
 |f::fs=> .arr 220 [.slice (some ⟨1,0,none⟩) f.length 1,nextP fs]::.arr 157 (prs f)::nextO fs
def lkO:Option Int->Int->List (AObj GD)
 |none,c=> [.arr 152 [.pointer none,.int .u64 c]]
 |some x,c=> [.arr 152 [.pointer (some ⟨1,0,none⟩),.int .u64 c],.arr 3 [.int .i64 x]]
def qZ (f:List Pr) (t:Int):Option Int:=(f.find? fun p=> p.t==t).map (·.v)
def zEf:List Int:=[0,1,2,3,4,5,6,7,8,9,10,11]
def jS (f:List Pr):List Value:=(zEf.map fun t=> .bool (qZ f t).isSome)++zEf.map fun t=> .int .u64 ((qZ f t).getD 0)
def zBp:Option Att->AObj GD
 |some a=> .hi (.att a)
 |none=> .arr 100 []
def zOp:Option Att->AObj GD
 |some a=> .hi (.ratt a)
 |none=> .arr 123 []
def tp1 (i:Int) (k:Nat):Option Att->List (Value × Value)
 |some _=> [(.int .i64 i,.pointer (some ⟨k,0,none⟩))]
 |none=> []
def tpK (k0 k1 k2 k3:Nat) (ts:Nat->Option Att):List (Value × Value):=tp1 0 k0 (ts 0)++(tp1 1 k1 (ts 1)++(tp1 2 k2 (ts 2)++tp1 3 k3 (ts 3)))
def rptr (k:Nat):Option Att->Value
 |some _=> .pointer (some ⟨k,0,none⟩)
 |none=> .pointer none
def zFq:Option TA->AObj GD
 |some a=> .hi (.tatt a)
 |none=> .arr 0 []
def zI7 (k:Nat):Option TA->Value
 |some _=> .pointer (some ⟨k,0,none⟩)
 |none=> .pointer none
def keyC (ky wy:List Int):List Value:=(ky.zip wy).flatMap fun x=> [.int .u64 x.1,.int .u8 x.2]
def frag:GD->List (AObj GD)
 |.lk o c=> lkO o c
 |.rlk o c=> [.arr 168 [.int .u64 c,.bool o.isSome,.int .i64 (o.getD 0)]]
 |.stk fs=> stkO fs
 |.log fs=> [.arr 166 [.pointer (some ⟨1,0,none⟩),.int .i64 ((fs.length:Int) - 1)],.hi (.stk fs)]
 |.rlog fs=> [.arr 173 [.slice (some ⟨1,0,none⟩) fs.length 1],.arr 214 (fs.reverse.flatMap jS)]
 |.att a=> [.arr 100 [.pointer (some ⟨1,0,none⟩),.pointer (some ⟨2,0,none⟩),.int .i64 a.n,.int .u64 a.snap,.int .u8 a.ask.k,.int .i64 a.ask.t,.int .u64 a.ask.v,.int .i64 a.at_,.int .i64 a.back,.int .i64 a.nx,.int .u64 a.seen,.int .u64 a.val,.bool a.dec],
  .hi (.set 0 a.es),.hi (.log a.fs)]
 |.ratt a=> [.arr 123 [.int .i64 a.n,.int .u64 a.snap,.pointer (some ⟨1,0,none⟩),.pointer (some ⟨2,0,none⟩),.bool a.asked,.int .u8 a.ra.k,.int .i64 a.ra.t,.int .u64 a.ra.v,.int .i64 (if a.at_<4 then a.at_ else a.at_+6),.int .i64 a.back,.int .i64 a.nx,.int .u64 a.seen,.int .u64 a.val,.bool a.dec],
  .hi (.rset a.es),.hi (.rlog a.fs)]
 |.eng s=> [.arr 90 [.pointer (some ⟨1,0,none⟩),.slice (some ⟨2,0,none⟩) s.hp.length 1,.map (some 3),.slice (some ⟨4,0,none⟩) s.ev.length 1,.slice (some ⟨5,0,none⟩) s.ky.length 1,.slice (some ⟨6,0,none⟩) s.wy.length 1],
  .hi (.lk s.o s.c),.arr 49 (us s.hp),.mapq (tpK 7 8 9 10 s.ts),.arr 84 (evs s.ev),.arr 38 (us s.ky),.arr 61 (u8s s.wy),zBp (s.ts 0),zBp (s.ts 1),zBp (s.ts 2),zBp (s.ts 3)]
 |.reng s=> [.arr 118 [.slice (some ⟨1,0,none⟩) s.hp.length 1,.pointer (some ⟨2,0,none⟩),rptr 5 (s.ts 0),rptr 6 (s.ts 1),rptr 7 (s.ts 2),rptr 8 (s.ts 3),.slice (some ⟨3,0,none⟩) s.ev.length 1,.slice (some ⟨4,0,none⟩) s.ky.length 1],
  .arr 49 (us s.hp),.hi (.rlk s.o s.c),.arr 84 (evs s.ev),.arr 159 (keyC s.ky s.wy),zOp (s.ts 0),zOp (s.ts 1),zOp (s.ts 2),zOp (s.ts 3)]
 |.set c l=> [.arr 163 [.slice (some ⟨1,0,none⟩) l.length 1,.map (some 2)],.arr 3 (zCr l),.mapq (zBw l)]
 |.rset l=> [.arr 170 [.slice (some ⟨1,0,none⟩) l.length 1],.arr 155 (zC9 l)]
 |.tab ws c=> [.arr 0 [.int .u64 c,.slice (some ⟨1,0,none⟩) ws.length 1],.arr 38 (us ws)]
 |.rtab ws c=> [.arr 0 [.slice (some ⟨1,0,none⟩) ws.length 1,.int .u64 c],.arr 38 (us ws)]
 |.vints l=> [.arr 33 [.slice (some ⟨1,0,none⟩) l.length 1],.arr 3 (jA l)]
 |.tatt a=> [.arr 0 [.pointer (some ⟨1,0,none⟩),.pointer (some ⟨2,0,none⟩),.int .i64 a.n,.int .u64 a.rv,.int .u64 a.wv,.int .u8 a.ra.k,.int .i64 a.ra.t,.int .u64 a.ra.v,.int .i64 a.ph,.int .i64 a.nx,.int .u64 a.sw,.int .u64 a.sv,.int .i64 a.ss,.bool a.dec],
  .hi (.set 0 a.es),.hi (.log a.fs)]
 |.teng s=> [.arr 0 [.pointer (some ⟨1,0,none⟩),.slice (some ⟨2,0,none⟩) s.hp.length 1,zI7 5 (s.ts 0),zI7 6 (s.ts 1),zI7 7 (s.ts 2),zI7 8 (s.ts 3),.slice (some ⟨3,0,none⟩) s.ev.length 1,.slice (some ⟨4,0,none⟩) s.ft.length 1],
  .hi (.tab s.ws s.c),.arr 49 (us s.hp),.arr 84 (evs s.ev),.arr 0 (zMv s.ft),zFq (s.ts 0),zFq (s.ts 1),zFq (s.ts 2),zFq (s.ts 3)]
theorem zA2 (c:Int):frag (.lk none c)=[.arr 152 [.pointer none,.int .u64 c]]:=rfl
theorem zBr (x c:Int):frag (.lk (some x) c)=[.arr 152 [.pointer (some ⟨1,0,none⟩),.int .u64 c],.arr 3 [.int .i64 x]]:=rfl
theorem jB (f:List Pr):frag (.stk [f])=[.arr 220 [.slice (some ⟨1,0,none⟩) f.length 1,.pointer none],.arr 157 (prs f)]:=rfl
theorem jD (f g:List Pr) (fs:List (List Pr)):frag (.stk (f::g::fs))=[.arr 220 [.slice (some ⟨1,0,none⟩) f.length 1,.pointer (some ⟨2,0,none⟩)],.arr 157 (prs f),.hi (.stk (g::fs))]:=rfl
theorem qY (fs:List (List Pr)):frag (.log fs)=[.arr 166 [.pointer (some ⟨1,0,none⟩),.int .i64 ((fs.length:Int) - 1)],.hi (.stk fs)]:=rfl
theorem zH (a:Att):frag (.att a)=[.arr 100 [.pointer (some ⟨1,0,none⟩),.pointer (some ⟨2,0,none⟩),.int .i64 a.n,.int .u64 a.snap,.int .u8 a.ask.k,.int .i64 a.ask.t,.int .u64 a.ask.v,.int .i64 a.at_,.int .i64 a.back,.int .i64 a.nx,.int .u64 a.seen,.int .u64 a.val,.bool a.dec],
 .hi (.set 0 a.es),.hi (.log a.fs)]:=rfl
theorem zJ (s:NS):frag (.eng s)=[.arr 90 [.pointer (some ⟨1,0,none⟩),.slice (some ⟨2,0,none⟩) s.hp.length 1,.map (some 3),.slice (some ⟨4,0,none⟩) s.ev.length 1,.slice (some ⟨5,0,none⟩) s.ky.length 1,.slice (some ⟨6,0,none⟩) s.wy.length 1],
 .hi (.lk s.o s.c),.arr 49 (us s.hp),.mapq (tpK 7 8 9 10 s.ts),.arr 84 (evs s.ev),.arr 38 (us s.ky),.arr 61 (u8s s.wy),zBp (s.ts 0),zBp (s.ts 1),zBp (s.ts 2),zBp (s.ts 3)]:=rfl
theorem zE6 (c:Nat) (l:List Ent):frag (.set c l)=[.arr 163 [.slice (some ⟨1,0,none⟩) l.length 1,.map (some 2)],.arr 3 (zCr l),.mapq (zBw l)]:=rfl
abbrev cfg:=zAg Tryz.prog frag
abbrev G:=gX Tryz.prog frag
theorem zY {tbl:List (FuncId × qQ GD)} (h:∀x∈tbl,qE Tryz.prog cfg x.1 x.2) (F d:Nat) {f:FuncId} {af:AF} (hf:forms f=some af) {args:List Value} {H:AH GD} {K:AEnd->AH GD->Prop}
  (hr:af.run (G (xN G (zFp (jW Tryz.prog cfg) tbl) forms F d noY) (xN G (zFp (jW Tryz.prog cfg) tbl) forms F d)) F args H K):zP Tryz.prog cfg f args H K:=
 qLo xE hmix hext (jG h) qIc F d hf hr
end YtnemoimbeefngaaGreat
end Go.Proofs
namespace Go.Proofs
namespace YtnemoimbeefngaaGreat
open Go.Abs
def zP1:Value->Option Nat
 |.pointer (some ⟨k,0,none⟩)=> some k
 |_=> none
theorem qM1 (k:Nat):zP1 (.pointer (some ⟨k,0,none⟩))=some k:=rfl
theorem zT2 {v:Value} {k:Nat} (h:zP1 v=some k):v=.pointer (some ⟨k,0,none⟩):=by
 unfold zP1 at h
 split at h
 ·cases h;rfl
 ·cases h
def asU:Value->Option Int
 |.int .u64 v=> some v
 |_=> none
def asI:Value->Option Int
 |.int .i64 v=> some v
 |_=> none
theorem qRs (v:Int):asU (.int .u64 v)=some v:=rfl
theorem qRt (v:Int):asI (.int .i64 v)=some v:=rfl
theorem zJ1 {x:Value} {v:Int} (h:asU x=some v):x=.int .u64 v:=by
 unfold asU at h
 split at h
 ·cases h;rfl
 ·cases h
theorem jF {H:AH GD} {k:Nat} {o:AObj GD} (h:H.get k=some o):H.upd k o=H:=by
 refine AH.ext' rfl fun j=> ?_
 rw[AH.get_upd]
 split
 ·rename_i e;subst e;exact h.symm
 ·rfl
theorem qH (h:List Int) (i:Nat) (v:Int):(us h).set i (.int .u64 v)=us (h.set i v):=by simp[us,List.map_set]
theorem zPi (l:List Int):(us l).take l.length=us l:=List.take_of_length_le (by simp[us])
theorem zC5 (h:List Int):(us h).length=h.length:=by simp[us]
theorem qAo (h:List Int):jM (us h)=true:=by
 induction h with
 |nil=> rfl
 |cons v h ih=> simp[us,jM,xD] at ih⊢;exact ih
theorem qPs (θ:Nat->Nat) (h:List Int):xV θ (us h)=us h:=xI θ _ (qAo h)
theorem zFw {h:List Int} {i:Nat} {v:Int} (hv:h[i]?=some v):(us h)[i]?=some (.int .u64 v):=by simp[us,hv]
def sl0:Value->Option (Nat × Nat × Nat)
 |.slice (some ⟨k,0,none⟩) n c=> some (k,n,c)
 |_=> none
theorem qOt (k n c:Nat):sl0 (.slice (some ⟨k,0,none⟩) n c)=some (k,n,c):=rfl
theorem qLl {v:Value} {q:Nat × Nat × Nat} (h:sl0 v=some q):v=.slice (some ⟨q.1,0,none⟩) q.2.1 q.2.2:=by
 unfold sl0 at h
 split at h
 ·cases h;rfl
 ·cases h
def zJr:List Value->Option (List Int)
 |[]=> some []
 |.int .u64 v::l=> (zJr l).map (v::·)
 |_=> none
theorem zD6:∀h:List Int,zJr (us h)=some h
 |[]=> rfl
 |v::h=> by
  show (zJr (us h)).map (v::·)=_
  rw[zD6 h];rfl
theorem zI1:∀{cs:List Value} {h:List Int},zJr cs=some h->cs=us h
 |[],h,e=> by cases e;rfl
 |v::cs,h,e=> by
  unfold zJr at e
  split at e
  ·simp_all
  ·rename_i v' l heq
   cases heq
   simp only[Option.map_eq_some_iff] at e
   obtain⟨h',e1,rfl⟩:=e
   rw[zI1 e1];rfl
  ·cases e
def zB8 (H:AH GD) (k:Nat):Option (TypeId × List Int):=
 match H.get k with
 |some (.arr e cs)=> (zJr cs).map fun h=> (e,h)
 |_=> none
theorem zCg {H:AH GD} {k:Nat} {x:TypeId × List Int} (hg:zB8 H k=some x):H.get k=some (.arr x.1 (us x.2)):=by
 unfold zB8 at hg
 split at hg
 ·rename_i e cs he
  simp only[Option.map_eq_some_iff] at hg
  obtain⟨h,h1,rfl⟩:=hg
  rw[he,zI1 h1]
 ·cases hg
theorem zWr (H:AH GD) (k:Nat) (o o':AObj GD):(H.upd k o).upd k o'=H.upd k o':=by
 refine AH.ext' rfl fun j=> ?_
 simp only[AH.get_upd]
 split<;> rfl
theorem zN9 (v:Int):us [v]=[.int .u64 v]:=rfl
theorem qOq:us []=[]:=rfl
theorem zI5 (a b:List Int):us (a++b)=us a++us b:=by simp[us]
def zI2:List Value->Option (List Int)
 |[]=> some []
 |.int .i64 v::l=> (zI2 l).map (v::·)
 |_=> none
theorem zBh:∀h:List Int,zI2 (jA h)=some h
 |[]=> rfl
 |v::h=> by
  show (zI2 (jA h)).map (v::·)=_
  rw[zBh h];rfl
theorem zO9:∀{cs:List Value} {h:List Int},zI2 cs=some h->cs=jA h
 |[],h,e=> by cases e;rfl
 |v::cs,h,e=> by
  unfold zI2 at e
  split at e
  ·simp_all
  ·rename_i v' l heq
   cases heq
   simp only[Option.map_eq_some_iff] at e
   obtain⟨h',e1,rfl⟩:=e
   rw[zO9 e1];rfl
  ·cases e
theorem zG1 {h:List Int} {i:Nat} {v:Int} (hv:h[i]?=some v):(jA h)[i]?=some (.int .i64 v):=by simp[jA,hv]
theorem zG0 {h:List Int} {i:Nat} {v:Int} (hv:h[i]?=some v) (p:i<(jA h).length):(jA h)[i]'p=.int .i64 v:=by
 have:=zG1 hv
 rw[List.getElem?_eq_getElem p] at this
 exact Option.some.inj this
theorem zFu (a b:List Int):jA (a++b)=jA a++jA b:=by simp[jA]
theorem zQp (l:List Int):(jA l).take l.length=jA l:=List.take_of_length_le (by simp)
def zAl (H:AH GD) (k:Nat):Option (TypeId × List Int):=
 match H.get k with
 |some (.arr e cs)=> (zI2 cs).map fun h=> (e,h)
 |_=> none
theorem zA6 {H:AH GD} {k:Nat} {x:TypeId × List Int} (hg:zAl H k=some x):H.get k=some (.arr x.1 (jA x.2)):=by
 unfold zAl at hg
 split at hg
 ·rename_i e cs he
  simp only[Option.map_eq_some_iff] at hg
  obtain⟨h,h1,rfl⟩:=hg
  rw[he,zO9 h1]
 ·cases hg
theorem xQ {i n:Nat} (hi:i<n) (hn:n<=1000000):IntKind.i64.wrap ((i:Int)+1)=((i+1:Nat):Int):=by rw[qO (by omega) (by omega)];omega
theorem qBi {α:Type} {a b:List α} (hl:a.length=b.length) (h:∀j,j<a.length->a[j]?=b[j]?):a=b:=by
 refine List.ext_getElem? fun j=> ?_
 rcases Nat.lt_or_ge j a.length with hj|hj
 ·exact h j hj
 ·rw[List.getElem?_eq_none hj,List.getElem?_eq_none (by omega)]
theorem zFt (v:Int):jA [v]=[.int .i64 v]:=rfl
theorem qGy:zP1 (.pointer none)=none:=rfl
def qJ3:Value->Option Unit
 |.pointer none=> some ()
 |_=> none
theorem qHm:qJ3 (.pointer none)=some ():=rfl
theorem qC9 (k o:Nat):qJ3 (.pointer (some ⟨k,o,none⟩))=none:=rfl
abbrev zBm:=GD->List Value->Option (Prop × Value × GD)
def qA (g:zBm):qQ GD:=fun args H=> match args with
 |.pointer (some ⟨k,0,none⟩)::rest=> match H.get k with
  |some (.hi d)=> (g d rest).map fun x=> (x.1,.ret x.2.1,H.upd k (.hi x.2.2))
  |_=> none
 |_=> none
theorem zAm {fid:FuncId} {g:zBm} (h:∀d rest p v d',g d rest=some (p,v,d')->p->jM rest=true/\xD v=true/\zP Tryz.prog cfg fid (.pointer (some ⟨0,0,none⟩)::rest) (AH.of [some (.hi d)]) fun r H'=> r=.ret v/\H'=AH.of [some (.hi d')]):qE Tryz.prog cfg fid (qA g):=by
 intro args H p r H' he hp
 unfold qA at he
 split at he
 case h_2=> cases he
 split at he
 case h_2=> cases he
 simp only[Option.map_eq_some_iff] at he
 obtain⟨⟨p',v,d'⟩,h1,h2⟩:=he
 rename_i k rest x d hk
 cases h2
 obtain⟨g1,g2,hr⟩:=h d rest p' v d' h1 hp
 exact hr.atK (zAb rfl) [k] (by simp) (by simp) (by simp[hk]) (by rw[xV,xI _ _ g1];simp) (by rw[zKc,zC4 _ _ g2]) (by simp)
attribute [simp] qPs qM1 qGy qRs qRt qOt zD6 zJr zBh qHm qC9
end YtnemoimbeefngaaGreat
end Go.Proofs
namespace Go.Proofs
namespace YtnemoimbeefngaaGreat
open Go.Abs Go.ChangeShapes Go.WideShapes Go.ChangeAt Go.RowKit
set_option maxRecDepth 100000
theorem own:ownKnob Tryz.prog.godebug=none:=by kernel_rfl
section
variable {H:Type} {enc:TypeId × Value->H} {w:World}
theorem qOp {n:Int} (h:(Lit.int .u64 n).wf=true):0<=n/\n<18446744073709551616:=by
 have:0<=n/\n<=18446744073709551615:=by simpa [Lit.wf,IntKind.min,IntKind.max,IntKind.signed,IntKind.bits] using h
 omega
theorem wf_u8 {n:Int} (h:(Lit.int .u8 n).wf=true):0<=n/\n<256:=by
 have:0<=n/\n<=255:=by simpa [Lit.wf,IntKind.min,IntKind.max,IntKind.signed,IntKind.bits] using h
 omega
end
end YtnemoimbeefngaaGreat
end Go.Proofs
namespace Go.Proofs
namespace YtnemoimbeefngaaGreat
open Go.Abs
def jX:List Pr->Pr->List Pr
 |[],p=> [p]
 |q::f,p=> if q.t=p.t then ⟨q.t,p.v⟩::f else q::jX f p
theorem zF1 (p:Pr) (l:List Pr):prs (p::l)=.int .i64 p.t::.int .u64 p.v::prs l:=rfl
theorem zBk (l:List Pr):(prs l).length=l.length*2:=by
 induction l with
 |nil=> rfl
 |cons e l ih=> rw[zF1,List.length_cons,List.length_cons,ih,List.length_cons];omega
theorem zH3 (a b:List Pr):prs (a++b)=prs a++prs b:=by simp[prs]
theorem zY0 (l:List Pr):jM (prs l)=true:=by
 induction l with
 |nil=> rfl
 |cons e l ih=> rw[zF1];simp[jM,xD,ih]
theorem qMv (θ:Nat->Nat) (l:List Pr):xV θ (prs l)=prs l:=xI θ _ (zY0 l)
theorem zIn (l:List Pr):(prs l).take (l.length*2)=prs l:=List.take_of_length_le (by simp[zBk])
theorem zKe {i:Nat} {x:Pr}:∀{l:List Pr},l[i]?=some x->((prs l).drop (i*2)).take 2=x.cells:=by
 induction i with
 |zero=>
  intro l h
  cases l with
  |nil=> simp at h
  |cons e l=> simp at h;subst h;rfl
 |succ i ih=>
  intro l h
  cases l with
  |nil=> simp at h
  |cons e l=>
   rw[zF1,show (i+1)*2=i*2+1+1 by omega]
   simpa using ih (l:=l) (by simpa using h)
theorem zJx {l:List Pr} {i:Nat} {x:Pr} (h:l[i]?=some x):(prs l)[i*2]?=some (.int .i64 x.t)/\(prs l)[i*2+1]?=some (.int .u64 x.v):=by
 have h3:=zKe h
 have g:∀j,j<2->(prs l)[i*2+j]?=x.cells[j]?:=fun j hj=> by
  rw[←h3,List.getElem?_take,if_pos hj,List.getElem?_drop]
 exact⟨g 0 (by omega),g 1 (by omega)⟩
theorem zH2 (p:Pr):prs [p]=[.int .i64 p.t,.int .u64 p.v]:=rfl
attribute [simp] qMv
def zAd (o:Option Int):Value:=.tuple #[.int .u64 (o.getD 0),.bool o.isSome]
theorem zZn {f:List Pr} {t:Int} {i:Nat} {x:Pr} (hpre:∀(j:Nat) (y:Pr),j<i->f[j]?=some y->y.t≠t) (hx:f[i]?=some x) (ht:x.t=t):qZ f t=some x.v:=by
 induction f generalizing i with
 |nil=> simp at hx
 |cons a f ih=>
  cases i with
  |zero=> simp at hx;subst hx;simp[qZ,ht]
  |succ i=>
   have ha:a.t≠t:=hpre 0 a (by omega) rfl
   have:qZ (a::f) t=qZ f t:=by simp[qZ,ha]
   rw[this]
   exact ih (i:=i) (fun j y hj hy=> hpre (j+1) y (by omega) (by simpa using hy)) (by simpa using hx)
theorem qDi {f:List Pr} {t:Int} (h:∀(j:Nat) (y:Pr),f[j]?=some y->y.t≠t):qZ f t=none:=by
 have:f.find? (fun p=> p.t==t)=none:=by
  rw[List.find?_eq_none]
  intro x hx
  obtain⟨j,hj⟩:=List.mem_iff_getElem?.1 hx
  simpa using h j x hj
 simp[qZ,this]
theorem qM0 {f:List Pr} {p:Pr} {i:Nat} {x:Pr} (hpre:∀(j:Nat) (y:Pr),j<i->f[j]?=some y->y.t≠p.t) (hx:f[i]?=some x) (ht:x.t=p.t):jX f p=f.set i p:=by
 induction f generalizing i with
 |nil=> simp at hx
 |cons a f ih=>
  cases i with
  |zero=>
   simp at hx;subst hx
   have:p=⟨a.t,p.v⟩:=by cases p;simp_all
   simp[jX,ht]
  |succ i=>
   have ha:a.t≠p.t:=hpre 0 a (by omega) rfl
   simp only[jX,if_neg ha,List.set_cons_succ]
   rw[ih (i:=i) (fun j y hj hy=> hpre (j+1) y (by omega) (by simpa using hy)) (by simpa using hx)]
theorem qGw {f:List Pr} {p:Pr} (h:∀(j:Nat) (y:Pr),f[j]?=some y->y.t≠p.t):jX f p=f++[p]:=by
 induction f with
 |nil=> rfl
 |cons a f ih=>
  have ha:a.t≠p.t:=h 0 a rfl
  simp only[jX,if_neg ha,List.cons_append]
  rw[ih fun j y hj=> h (j+1) y (by simpa using hj)]
theorem zP0 (f:List Pr) (p:Pr):(jX f p).length<=f.length+1:=by
 induction f with
 |nil=> simp[jX]
 |cons a f ih=>
  simp only[jX]
  split
  ·simp
  ·simp;omega
theorem qM2 {f:List Pr} {i:Nat} {x p:Pr} (hx:f[i]?=some x) (ht:x.t=p.t):(prs f).set (i*2+1) (.int .u64 p.v)=prs (f.set i p):=by
 induction f generalizing i with
 |nil=> simp at hx
 |cons a f ih=>
  cases i with
  |zero=>
   simp at hx;subst hx
   simp[zF1,ht]
  |succ i=>
   rw[zF1,show (i+1)*2+1=i*2+1+1+1 by omega,List.set_cons_succ,List.set_cons_succ,ih (by simpa using hx),List.set_cons_succ,zF1]
theorem qMc (e:TypeId) (f:List Pr) (tg:Nat) (t:Int) (hl:f.length<=1000):zP Tryz.prog cfg 141 [.slice (some ⟨0,0,none⟩) f.length tg,.int .i64 t] (AH.of [some (.arr e (prs f))])
  fun r H'=> r=.ret (zAd (qZ f t))/\H'=AH.of [some (.arr e (prs f))]:=by
 refine zP.ends ?_
 obtain⟨n,hn⟩:∃n,f.length=n:=⟨_,rfl⟩
 rw[hn]
 refine zY (tbl:=[]) (by simp) 1001 0 (af:=a141) rfl ?_
 rw[a141,b141,qB]
 refine⟨by simp,?_⟩
 simp -implicitDefEqProofs
 refine zBj (jE xE (jG (by simp)) _ _ noY qX) (fun m tm H=> ∃i:Nat,m+i=n/\(∀(j:Nat) (y:Pr),j<i->f[j]?=some y->y.t≠t)/\tm 1=.int .i64 t/\tm 8=.slice (some ⟨0,0,none⟩) n tg/\tm 9=.int .i64 n/\tm 10=.int .i64 i/\H=AH.of [some (.arr e (prs f))]) (m:=n) ?_ (by omega) ?_
 ·refine qN [] [0] [some (.arr e (prs f))] n (by omega) ?_ ?_ ⟨0,by omega,fun j y hj=> by omega,?_,?_,?_,?_,rfl⟩<;> simp
 rintro m tm H ⟨i,hm,hpre,t1,t8,t9,t10,rfl⟩
 by_cases hi:i<n
 ·obtain⟨x,hx⟩:=zAp (l:=f) (i:=i) (by omega)
  have hi':(i:Int)<n:=by omega
  have hwr:=xQ hi (by omega)
  have rx:=zKe hx
  have lx:i*2+2<=(prs f).length:=by rw[zBk];omega
  by_cases hxt:x.t=t
  ·have hg:=zZn hpre hx hxt
   simp -implicitDefEqProofs [t1,t8,t9,t10,hi,hi',rx,lx,Pr.cells,hxt]
   refine zA [] [0] ?_ ?_ ?_<;> simp[hg,zAd]
  ·have hpre2:∀(j:Nat) (y:Pr),j<i+1->f[j]?=some y->y.t≠t:=fun j y hj hy=> by
    by_cases e:j=i
    ·subst e;rw[hx] at hy;cases hy;exact hxt
    ·exact hpre j y (by omega) hy
   simp -implicitDefEqProofs [t1,t8,t9,t10,hi,hi',rx,lx,Pr.cells,hxt,hwr]
   refine qN [] [0] [some (.arr e (prs f))] (m - 1) (by omega) ?_ ?_ ⟨i+1,by omega,hpre2,?_,?_,?_,?_,rfl⟩<;> simp[t1,t8,t9]
 ·have hie:i=n:=by omega
  subst hie
  have hg:qZ f t=none:=qDi fun j y hy=> hpre j y (by
   have:=(List.getElem?_eq_some_iff.1 hy).1;omega) hy
  simp -implicitDefEqProofs [t1,t8,t9,t10]
  refine zA [] [0] ?_ ?_ ?_<;> simp[hg,zAd]
def zM1:List Value->Option (List Pr)
 |[]=> some []
 |.int .i64 t::.int .u64 v::l=> (zM1 l).map (⟨t,v⟩::·)
 |_=> none
theorem zRd:∀l:List Pr,zM1 (prs l)=some l
 |[]=> rfl
 |e::l=> by rw[zF1,zM1,zRd l];rfl
theorem zRe:∀{cs:List Value} {l:List Pr},zM1 cs=some l->cs=prs l
 |cs,l,e=> by
  unfold zM1 at e
  split at e
  ·cases e;rfl
  ·simp only[Option.map_eq_some_iff] at e
   obtain⟨l',e1,rfl⟩:=e
   rw[zRe e1];rfl
  ·cases e
def zJy (H:AH GD) (k:Nat):Option (TypeId × List Pr):=
 match H.get k with
 |some (.arr e cs)=> (zM1 cs).map fun h=> (e,h)
 |_=> none
theorem zFh {H:AH GD} {k:Nat} {x:TypeId × List Pr} (hg:zJy H k=some x):H.get k=some (.arr x.1 (prs x.2)):=by
 unfold zJy at hg
 split at hg
 ·rename_i e cs he
  simp only[Option.map_eq_some_iff] at hg
  obtain⟨h,h1,rfl⟩:=hg
  rw[he,zRe h1]
 ·cases hg
attribute [simp] zRd zJy
def zBo:qQ GD:=fun args H=> match args with
 |[.slice (some ⟨k,0,none⟩) n _,.int .i64 t]=> (zJy H k).map fun x=> (n=x.2.length/\x.2.length<=1000,.ret (zAd (qZ x.2 t)),H)
 |_=> none
theorem zTe:qE Tryz.prog cfg 141 zBo:=by
 intro args H p r H' h hp
 unfold zBo at h
 split at h
 case h_2=> cases h
 simp only[Option.map_eq_some_iff] at h
 obtain⟨x,hx,h⟩:=h
 rename_i k n tg t
 cases h
 rw[hp.1]
 exact (qMc x.1 x.2 tg t hp.2).atK (zAb rfl) [k] (by simp) (by simp) (by simp[zFh hx]) (by simp) (by simp[zAd]) (by simp[jF (zFh hx)])
theorem qLq (e:TypeId) (l:List Pr) (tg:Nat) (hl:l.length<=1000):zP Tryz.prog cfg 208 [.slice (some ⟨0,0,none⟩) l.length tg] (AH.of [some (.arr e (prs l))])
  fun r H'=> r=.ret (.slice (some ⟨1,0,none⟩) l.length 1)/\H'=AH.of [some (.arr e (prs l)),some (.arr 157 (prs l))]:=by
 refine zP.ends ?_
 refine zY (tbl:=[]) (by simp) 0 0 (af:=a208) rfl ?_
 rw[a208,b208,qB]
 refine⟨by simp,?_⟩
 have h1:l.length*16<=140737488355328/\l.length<=9223372036854775807:=by omega
 have h2:=zIn l
 have h3:l.length*2<=(prs l).length:=by rw[zBk];omega
 simp -implicitDefEqProofs [h1,h2,h3]
 repeat' (first|with_reducible apply And.intro|with_reducible intro _)
 all_goals first
  |(refine zA [] [0,2] ?_ ?_ ?_<;> simp;done)
  |(have:l=[]:=by assumption
    subst this
    refine zMw (r':=.ret (.slice (some ⟨1,0,none⟩) 0 1)) (zMp (by simp)) (zA [.nil 157] [0,1] ?_ ?_ ?_)<;> simp[prs])
def zR4:qQ GD:=fun args H=> match args with
 |[.slice (some ⟨k,0,none⟩) n _]=> (zJy H k).map fun x=> (n=x.2.length/\x.2.length<=1000,.ret (.slice (some ⟨H.next,0,none⟩) x.2.length 1),H.add (.arr 157 (prs x.2)))
 |_=> none
theorem qFs:qE Tryz.prog cfg 208 zR4:=by
 intro args H p r H' h hp
 unfold zR4 at h
 split at h
 case h_2=> cases h
 simp only[Option.map_eq_some_iff] at h
 obtain⟨x,hx,h⟩:=h
 rename_i k n tg
 cases h
 rw[hp.1]
 exact (qLq x.1 x.2 tg hp.2).atK (zAb rfl) [k] (by simp) (by simp) (by simp[zFh hx]) (by simp) (by simp) (by simp[jF (zFh hx)])
def zOe:List (FuncId × qQ GD):=[(208,zR4)]
theorem zQn:∀x∈zOe,qE Tryz.prog cfg x.1 x.2:=by simp[zOe,qFs]
theorem qLw (e:TypeId) (f:List Pr) (tg:Nat) (p:Pr) (hl:f.length<=1000):zP Tryz.prog cfg 191 [.slice (some ⟨0,0,none⟩) f.length tg,.agg #[.int .i64 p.t,.int .u64 p.v]] (AH.of [some (.arr e (prs f))])
  fun r H'=> r=.ret (.slice (some ⟨1,0,none⟩) (jX f p).length 1)/\H'=AH.of [some (.arr e (prs f)),some (.arr 157 (prs (jX f p)))]:=by
 refine zP.ends ?_
 obtain⟨n,hn⟩:∃n,f.length=n:=⟨_,rfl⟩
 rw[hn]
 have hn2:n<=1000:=by omega
 refine zY (tbl:=zOe) zQn 1001 0 (af:=a191) rfl ?_
 rw[a191,b191,qB]
 refine⟨by simp,?_⟩
 simp -implicitDefEqProofs [zOe,zR4,hn,hn2]
 refine xB (jE xE (jG zQn) _ _ noY qX) (fun m tm H=> ∃i:Nat,m+i=n/\(∀(j:Nat) (y:Pr),j<i->f[j]?=some y->y.t≠p.t)/\tm 3=.pointer (some ⟨1,0,none⟩)/\tm 5=.slice (some ⟨2,0,none⟩) n 1/\tm 10=.int .i64 n/\tm 11=.int .i64 i/\H=AH.of [some (.arr e (prs f)),some (.arr 157 [.int .i64 p.t,.int .u64 p.v]),some (.arr 157 (prs f))]) (m:=n) ⟨0,by simp⟩ (by omega) ?_
 rintro m tm H ⟨i,hm,hpre,t3,t5,t10,t11,rfl⟩
 by_cases hi:i<n
 ·obtain⟨x,hx⟩:=zAp (l:=f) (i:=i) (by omega)
  have hi':(i:Int)<n:=by omega
  have hwr:=xQ hi (by omega)
  have rx:=(zJx hx).1
  have lx:i*2+1<(prs f).length:=by rw[zBk];omega
  have lx2:i*2+2<=(prs f).length:=by rw[zBk];omega
  by_cases hxt:x.t=p.t
  ·have hg:=qM0 hpre hx hxt
   have hset:=qM2 hx hxt
   simp -implicitDefEqProofs [t3,t5,t10,t11,hi,hi',rx,lx,lx2,hxt,hset]
   refine zA [] [0,2] ?_ ?_ ?_<;> simp[hg,hn]
  ·have hpre2:∀(j:Nat) (y:Pr),j<i+1->f[j]?=some y->y.t≠p.t:=fun j y hj hy=> by
    by_cases e:j=i
    ·subst e;rw[hx] at hy;cases hy;exact hxt
    ·exact hpre j y (by omega) hy
   simp -implicitDefEqProofs [t3,t5,t10,t11,hi,hi',rx,lx,hxt,hwr]
   exact⟨m - 1,by omega,i+1,by omega,hpre2,by omega⟩
 ·have hie:i=n:=by omega
  subst hie
  have hg:jX f p=f++[p]:=qGw fun j y hy=> hpre j y (by
   have:=(List.getElem?_eq_some_iff.1 hy).1;omega) hy
  have h1:(i+1)*16<=140737488355328/\i<=9223372036854775806:=by omega
  have h2:(prs f).take (i*2)=prs f:=by rw[←hn];exact zIn f
  have h3:i*2<=(prs f).length:=by rw[zBk];omega
  simp -implicitDefEqProofs [t3,t5,t10,t11,h1,h2,h3]
  refine zA [] [0,4] ?_ ?_ ?_<;> simp[hg,hn,zH3,zH2]
def zD0:qQ GD:=fun args H=> match args with
 |[.slice (some ⟨k,0,none⟩) n _,.agg ⟨[.int .i64 t,.int .u64 v]⟩]=> (zJy H k).map fun x=> (n=x.2.length/\x.2.length<=1000,.ret (.slice (some ⟨H.next,0,none⟩) (jX x.2 ⟨t,v⟩).length 1),H.add (.arr 157 (prs (jX x.2 ⟨t,v⟩))))
 |_=> none
theorem zS9:qE Tryz.prog cfg 191 zD0:=by
 intro args H p r H' h hp
 unfold zD0 at h
 split at h
 case h_2=> cases h
 simp only[Option.map_eq_some_iff] at h
 obtain⟨x,hx,h⟩:=h
 rename_i k n tg t v
 cases h
 rw[hp.1]
 exact (qLw x.1 x.2 tg ⟨t,v⟩ hp.2).atK (zAb rfl) [k] (by simp) (by simp) (by simp[zFh hx]) (by simp) (by simp) (by simp[jF (zFh hx)])
end YtnemoimbeefngaaGreat
end Go.Proofs
namespace Go.Proofs
namespace YtnemoimbeefngaaGreat
open Go.Abs
theorem qO3:zP Tryz.prog cfg 82 [] (AH.of []) fun r H'=> r=.ret (.pointer (some ⟨0,0,none⟩))/\H'=AH.of [some (.hi (.log [[]]))]:=by
 refine zP.ends ?_
 refine zY (tbl:=[]) (by simp) 0 2 (af:=a82) rfl ?_
 rw[a82,b82,qB]
 refine⟨by simp,?_⟩
 simp -implicitDefEqProofs [forms131,a131,b131]
 refine zA [.nil 157,.pack (GD.stk [[]]) 0 [2],.pack (GD.log [[]]) 1 [0]] [1] ?_ ?_ ?_<;> simp[jB,qY,AObj.mine,prs]
def st82:qQ GD:=fun args H=> match args with
 |[]=> some (True,.ret (.pointer (some ⟨H.next,0,none⟩)),H.add (.hi (.log [[]])))
 |_=> none
theorem qK5:qE Tryz.prog cfg 82 st82:=by
 intro args H p r H' h hp
 unfold st82 at h
 split at h
 case h_2=> cases h
 cases h
 exact qO3.atK (zAb rfl) [] (by simp) (by simp) trivial (by simp) (by simp) (by simp)
theorem qMa (f:List Pr) (fs:List (List Pr)) (hl:fs.length<=100):zP Tryz.prog cfg 144 [.pointer (some ⟨0,0,none⟩)] (AH.of [some (.hi (.log (f::fs)))])
  fun r H'=> r=.ret (.int .i64 (if 4<=fs.length then 4 else 0))/\H'=AH.of [some (.hi (if 4<=fs.length then .log (f::fs) else .log ([]::f::fs)))]:=by
 refine zP.ends ?_
 by_cases h:4<=fs.length
 ·have h':(4:Int)<=fs.length:=by omega
  refine zY (tbl:=[]) (by simp) 0 2 (af:=a144) rfl ?_
  rw[a144,b144,qB]
  refine⟨by simp,?_⟩
  simp -implicitDefEqProofs [forms131,a131,b131,qY,h,h']
  refine zA [.pack (GD.log (f::fs)) 0 [1]] [0] ?_ ?_ ?_<;> simp[qY,AObj.mine,h]
 ·have h':¬(4:Int)<=fs.length:=by omega
  have hw:IntKind.i64.wrap ((fs.length:Int)+1)=(fs.length:Int)+1:=qO (by omega) (by omega)
  refine zY (tbl:=[]) (by simp) 0 2 (af:=a144) rfl ?_
  rw[a144,b144,qB]
  refine⟨by simp,?_⟩
  simp -implicitDefEqProofs [forms131,a131,b131,qY,h,h',hw]
  refine zA [.nil 157,.pack (GD.stk ([]::f::fs)) 2 [3,1],.pack (GD.log ([]::f::fs)) 0 [2]] [0] ?_ ?_ ?_<;> simp[qY,jD,AObj.mine,prs,h]
def d144:zBm
 |.log (f::fs),[]=> some (fs.length<=100,.int .i64 (if 4<=fs.length then 4 else 0),if 4<=fs.length then .log (f::fs) else .log ([]::f::fs))
 |_,_=> none
theorem qF7:qE Tryz.prog cfg 144 (qA d144):=zAm fun d rest p v d' h hp=> by
 unfold d144 at h
 split at h
 ·cases h;exact⟨rfl,rfl,qMa _ _ hp⟩
 ·cases h
theorem qL9 (f:List Pr) (fs:List (List Pr)) (hl:fs.length<=100):zP Tryz.prog cfg 145 [.pointer (some ⟨0,0,none⟩)] (AH.of [some (.hi (.log (f::fs)))])
  fun r H'=> r=.ret (.int .i64 (if fs=[] then 8 else 0))/\H'=AH.of [some (.hi (if fs=[] then .log (f::fs) else .log fs))]:=by
 refine zP.ends ?_
 cases fs with
 |nil=>
  refine zY (tbl:=[]) (by simp) 0 2 (af:=a145) rfl ?_
  rw[a145,b145,qB]
  refine⟨by simp,?_⟩
  simp -implicitDefEqProofs [forms190,a190,b190,qY]
  refine zA [.pack (GD.log [f]) 0 [1]] [0] ?_ ?_ ?_<;> simp[qY,AObj.mine]
 |cons g fs=>
  have hne:¬((fs.length:Int)+1=0):=by omega
  have hl':fs.length+1<=100:=hl
  have hw:IntKind.i64.wrap (fs.length:Int)=fs.length:=qO (by omega) (by omega)
  refine zY (tbl:=[]) (by simp) 0 2 (af:=a145) rfl ?_
  rw[a145,b145,qB]
  refine⟨by simp,?_⟩
  simp -implicitDefEqProofs [forms190,a190,b190,qY,jD,hne,hw]
  refine zA [.pack (GD.log (g::fs)) 0 [3]] [0] ?_ ?_ ?_<;> simp[qY,AObj.mine]
def d145:zBm
 |.log (f::fs),[]=> some (fs.length<=100,.int .i64 (if fs=[] then 8 else 0),if fs=[] then .log (f::fs) else .log fs)
 |_,_=> none
theorem qF6:qE Tryz.prog cfg 145 (qA d145):=zAm fun d rest p v d' h hp=> by
 unfold d145 at h
 split at h
 ·cases h;exact⟨rfl,rfl,qL9 _ _ hp⟩
 ·cases h
theorem qMi (fs:List (List Pr)):zP Tryz.prog cfg 132 [.pointer (some ⟨0,0,none⟩)] (AH.of [some (.hi (.log fs))])
  fun r H'=> r=.ret (.int .i64 ((fs.length:Int) - 1))/\H'=AH.of [some (.hi (.log fs))]:=by
 refine zP.ends ?_
 refine zY (tbl:=[]) (by simp) 0 2 (af:=a132) rfl ?_
 rw[a132,b132,qB]
 refine⟨by simp,?_⟩
 simp -implicitDefEqProofs [qY]
 refine zA [.pack (GD.log fs) 0 [1]] [0] ?_ ?_ ?_<;> simp[qY,AObj.mine]
def zB5:zBm
 |.log fs,[]=> some (True,.int .i64 ((fs.length:Int) - 1),.log fs)
 |_,_=> none
theorem qGe:qE Tryz.prog cfg 132 (qA zB5):=zAm fun d rest p v d' h hp=> by
 unfold zB5 at h
 split at h
 ·cases h;exact⟨rfl,rfl,qMi _⟩
 ·cases h
end YtnemoimbeefngaaGreat
end Go.Proofs
namespace Go.Proofs
namespace YtnemoimbeefngaaGreat
open Go.Abs
def qT (fs:List (List Pr)) (t:Int):Option Int:=fs.findSome? fun f=> qZ f t
theorem zGj (t:Int):qT [] t=none:=rfl
theorem zCd {f:List Pr} {fs:List (List Pr)} {t v:Int} (h:qZ f t=some v):qT (f::fs) t=some v:=by simp[qT,h]
theorem zAw {f:List Pr} {fs:List (List Pr)} {t:Int} (h:qZ f t=none):qT (f::fs) t=qT fs t:=by simp[qT,h]
def zC0 (fs:List (List Pr)):Int:=((fs.map List.length).sum:Nat)
theorem zGg:zC0 []=0:=rfl
theorem zAv (f:List Pr) (fs:List (List Pr)):zC0 (f::fs)=f.length+zC0 fs:=by simp[zC0]
theorem zK2 (fs:List (List Pr)):0<=zC0 fs:=by simp[zC0]
theorem zO1 {f:List Pr}:∀{fs:List (List Pr)},f∈fs->(f.length:Int)<=zC0 fs
 |g::fs,h=> by
  rw[zAv]
  rcases List.mem_cons.1 h with rfl|h
  ·have:=zK2 fs;omega
  ·have:=zO1 h;omega
def zAn (fs:List (List Pr)):Prop:=fs≠[]/\fs.length<=5/\zC0 fs<=16
theorem zAn.le {fs:List (List Pr)} (h:zAn fs):∀f∈fs,f.length<=1000:=fun f hf=> by
 have:=zO1 hf
 have:=h.2.2
 omega
inductive GW (fs:List (List Pr)) (t dd:Int) (r:Loop):Nat->AH GD->Prop
 |c0 (f:List Pr) (rs:List (List Pr)) (h:fs=f::rs):GW fs t dd r 5 (AH.of [some (.arr 166 [.pointer (some ⟨4,0,none⟩),.int .i64 dd]),some (.arr 3 [.int .i64 t]),some (.arr 49 [.int .u64 0]),some (.arr 4 [.bool false]),some (.hi (.stk (f::rs))),some (.arr 164 [.pointer (some ⟨4,0,none⟩)]),some (.loopr r 0 none)])
 |c1 (g1 f:List Pr) (rs:List (List Pr)) (h:fs=g1::f::rs) (n1:qZ g1 t=none):GW fs t dd r 4 (AH.of [some (.arr 166 [.pointer (some ⟨4,0,none⟩),.int .i64 dd]),some (.arr 3 [.int .i64 t]),some (.arr 49 [.int .u64 0]),some (.arr 4 [.bool false]),some (.arr 220 [.slice (some ⟨7,0,none⟩) g1.length 1,.pointer (some ⟨8,0,none⟩)]),some (.arr 164 [.pointer (some ⟨8,0,none⟩)]),some (.loopr r 0 none),some (.arr 157 (prs g1)),some (.hi (.stk (f::rs)))])
 |n1 (g1:List Pr) (h:fs=[g1]) (n1:qZ g1 t=none):GW fs t dd r 4 (AH.of [some (.arr 166 [.pointer (some ⟨4,0,none⟩),.int .i64 dd]),some (.arr 3 [.int .i64 t]),some (.arr 49 [.int .u64 0]),some (.arr 4 [.bool false]),some (.arr 220 [.slice (some ⟨7,0,none⟩) g1.length 1,.pointer none]),some (.arr 164 [.pointer none]),some (.loopr r 0 none),some (.arr 157 (prs g1))])
 |c2 (g1 g2 f:List Pr) (rs:List (List Pr)) (h:fs=g1::g2::f::rs) (n1:qZ g1 t=none) (n2:qZ g2 t=none):GW fs t dd r 3 (AH.of [some (.arr 166 [.pointer (some ⟨4,0,none⟩),.int .i64 dd]),some (.arr 3 [.int .i64 t]),some (.arr 49 [.int .u64 0]),some (.arr 4 [.bool false]),some (.arr 220 [.slice (some ⟨7,0,none⟩) g1.length 1,.pointer (some ⟨8,0,none⟩)]),some (.arr 164 [.pointer (some ⟨10,0,none⟩)]),some (.loopr r 0 none),some (.arr 157 (prs g1)),some (.arr 220 [.slice (some ⟨9,0,none⟩) g2.length 1,.pointer (some ⟨10,0,none⟩)]),some (.arr 157 (prs g2)),some (.hi (.stk (f::rs)))])
 |n2 (g1 g2:List Pr) (h:fs=[g1,g2]) (n1:qZ g1 t=none) (n2:qZ g2 t=none):GW fs t dd r 3 (AH.of [some (.arr 166 [.pointer (some ⟨4,0,none⟩),.int .i64 dd]),some (.arr 3 [.int .i64 t]),some (.arr 49 [.int .u64 0]),some (.arr 4 [.bool false]),some (.arr 220 [.slice (some ⟨7,0,none⟩) g1.length 1,.pointer (some ⟨8,0,none⟩)]),some (.arr 164 [.pointer none]),some (.loopr r 0 none),some (.arr 157 (prs g1)),some (.arr 220 [.slice (some ⟨9,0,none⟩) g2.length 1,.pointer none]),some (.arr 157 (prs g2))])
 |c3 (g1 g2 g3 f:List Pr) (rs:List (List Pr)) (h:fs=g1::g2::g3::f::rs) (n1:qZ g1 t=none) (n2:qZ g2 t=none) (n3:qZ g3 t=none):GW fs t dd r 2 (AH.of [some (.arr 166 [.pointer (some ⟨4,0,none⟩),.int .i64 dd]),some (.arr 3 [.int .i64 t]),some (.arr 49 [.int .u64 0]),some (.arr 4 [.bool false]),some (.arr 220 [.slice (some ⟨7,0,none⟩) g1.length 1,.pointer (some ⟨8,0,none⟩)]),some (.arr 164 [.pointer (some ⟨12,0,none⟩)]),some (.loopr r 0 none),some (.arr 157 (prs g1)),some (.arr 220 [.slice (some ⟨9,0,none⟩) g2.length 1,.pointer (some ⟨10,0,none⟩)]),some (.arr 157 (prs g2)),some (.arr 220 [.slice (some ⟨11,0,none⟩) g3.length 1,.pointer (some ⟨12,0,none⟩)]),some (.arr 157 (prs g3)),some (.hi (.stk (f::rs)))])
 |n3 (g1 g2 g3:List Pr) (h:fs=[g1,g2,g3]) (n1:qZ g1 t=none) (n2:qZ g2 t=none) (n3:qZ g3 t=none):GW fs t dd r 2 (AH.of [some (.arr 166 [.pointer (some ⟨4,0,none⟩),.int .i64 dd]),some (.arr 3 [.int .i64 t]),some (.arr 49 [.int .u64 0]),some (.arr 4 [.bool false]),some (.arr 220 [.slice (some ⟨7,0,none⟩) g1.length 1,.pointer (some ⟨8,0,none⟩)]),some (.arr 164 [.pointer none]),some (.loopr r 0 none),some (.arr 157 (prs g1)),some (.arr 220 [.slice (some ⟨9,0,none⟩) g2.length 1,.pointer (some ⟨10,0,none⟩)]),some (.arr 157 (prs g2)),some (.arr 220 [.slice (some ⟨11,0,none⟩) g3.length 1,.pointer none]),some (.arr 157 (prs g3))])
 |c4 (g1 g2 g3 g4 f:List Pr) (rs:List (List Pr)) (h:fs=g1::g2::g3::g4::f::rs) (n1:qZ g1 t=none) (n2:qZ g2 t=none) (n3:qZ g3 t=none) (n4:qZ g4 t=none):GW fs t dd r 1 (AH.of [some (.arr 166 [.pointer (some ⟨4,0,none⟩),.int .i64 dd]),some (.arr 3 [.int .i64 t]),some (.arr 49 [.int .u64 0]),some (.arr 4 [.bool false]),some (.arr 220 [.slice (some ⟨7,0,none⟩) g1.length 1,.pointer (some ⟨8,0,none⟩)]),some (.arr 164 [.pointer (some ⟨14,0,none⟩)]),some (.loopr r 0 none),some (.arr 157 (prs g1)),some (.arr 220 [.slice (some ⟨9,0,none⟩) g2.length 1,.pointer (some ⟨10,0,none⟩)]),some (.arr 157 (prs g2)),some (.arr 220 [.slice (some ⟨11,0,none⟩) g3.length 1,.pointer (some ⟨12,0,none⟩)]),some (.arr 157 (prs g3)),some (.arr 220 [.slice (some ⟨13,0,none⟩) g4.length 1,.pointer (some ⟨14,0,none⟩)]),some (.arr 157 (prs g4)),some (.hi (.stk (f::rs)))])
 |n4 (g1 g2 g3 g4:List Pr) (h:fs=[g1,g2,g3,g4]) (n1:qZ g1 t=none) (n2:qZ g2 t=none) (n3:qZ g3 t=none) (n4:qZ g4 t=none):GW fs t dd r 1 (AH.of [some (.arr 166 [.pointer (some ⟨4,0,none⟩),.int .i64 dd]),some (.arr 3 [.int .i64 t]),some (.arr 49 [.int .u64 0]),some (.arr 4 [.bool false]),some (.arr 220 [.slice (some ⟨7,0,none⟩) g1.length 1,.pointer (some ⟨8,0,none⟩)]),some (.arr 164 [.pointer none]),some (.loopr r 0 none),some (.arr 157 (prs g1)),some (.arr 220 [.slice (some ⟨9,0,none⟩) g2.length 1,.pointer (some ⟨10,0,none⟩)]),some (.arr 157 (prs g2)),some (.arr 220 [.slice (some ⟨11,0,none⟩) g3.length 1,.pointer (some ⟨12,0,none⟩)]),some (.arr 157 (prs g3)),some (.arr 220 [.slice (some ⟨13,0,none⟩) g4.length 1,.pointer none]),some (.arr 157 (prs g4))])
 |n5 (g1 g2 g3 g4 g5:List Pr) (h:fs=[g1,g2,g3,g4,g5]) (n1:qZ g1 t=none) (n2:qZ g2 t=none) (n3:qZ g3 t=none) (n4:qZ g4 t=none) (n5:qZ g5 t=none):GW fs t dd r 0 (AH.of [some (.arr 166 [.pointer (some ⟨4,0,none⟩),.int .i64 dd]),some (.arr 3 [.int .i64 t]),some (.arr 49 [.int .u64 0]),some (.arr 4 [.bool false]),some (.arr 220 [.slice (some ⟨7,0,none⟩) g1.length 1,.pointer (some ⟨8,0,none⟩)]),some (.arr 164 [.pointer none]),some (.loopr r 0 none),some (.arr 157 (prs g1)),some (.arr 220 [.slice (some ⟨9,0,none⟩) g2.length 1,.pointer (some ⟨10,0,none⟩)]),some (.arr 157 (prs g2)),some (.arr 220 [.slice (some ⟨11,0,none⟩) g3.length 1,.pointer (some ⟨12,0,none⟩)]),some (.arr 157 (prs g3)),some (.arr 220 [.slice (some ⟨13,0,none⟩) g4.length 1,.pointer (some ⟨14,0,none⟩)]),some (.arr 157 (prs g4)),some (.arr 220 [.slice (some ⟨15,0,none⟩) g5.length 1,.pointer none]),some (.arr 157 (prs g5))])
def zDh:List (FuncId × qQ GD):=[(141,zBo)]
theorem zPh:∀x∈zDh,qE Tryz.prog cfg x.1 x.2:=by simp[zDh,zTe]
theorem qO2 (fs:List (List Pr)) (t:Int) (hne:fs≠[]) (hl:fs.length<=5) (hf:∀f∈fs,f.length<=1000):zP Tryz.prog cfg 88 [.pointer (some ⟨0,0,none⟩),.int .i64 t] (AH.of [some (.hi (.log fs))])
  fun r H'=> r=.ret (zAd (qT fs t))/\H'=AH.of [some (.hi (.log fs))]:=by
 refine zP.ends ?_
 obtain⟨dd,hdd⟩:∃dd,(fs.length:Int) - 1=dd:=⟨_,rfl⟩
 refine zY (tbl:=zDh) zPh 6 4 (af:=a88) rfl ?_
 rw[a88,b88,qB]
 refine⟨by simp,?_⟩
 simp -implicitDefEqProofs [zDh,forms140,a140,b140,forms189,a189,b189,qY,hdd]
 intro r
 refine xB (jE xE (jG zPh) _ _ _ (zQl (jE xE (jG zPh) _ _ noY qX))) (fun m tm H=> tm 0=.func (.yield 6) #[] #[]/\tm 1=.pointer (some ⟨5,0,none⟩)/\GW fs t dd r m H) (m:=5) ?_ (by omega) ?_
 ·cases fs with
  |nil=> exact (hne rfl).elim
  |cons f rs=> exact⟨by simp,by simp,.c0 f rs rfl⟩
 rintro m tm H ⟨t0,t1,hw⟩
 cases hw with
 |c0 f rs h=>
  subst h
  have hfl:f.length<=1000:=hf f (by simp)
  cases hv:qZ f t with
  |some v=>
   cases rs with
   |nil=>
    simp -implicitDefEqProofs [zDh,zBo,t0,t1,hv,hfl,jB,zAd]
    refine zA [.pack (GD.stk [f]) 4 [7],.pack (GD.log (f::[])) 0 [4]] [0] ?_ ?_ ?_<;> simp[jB,jD,qY,AObj.mine,zAw,zCd,hv,zAd,←hdd]
   |cons q rs=>
    simp -implicitDefEqProofs [zDh,zBo,t0,t1,hv,hfl,jD,zAd]
    refine zA [.pack (GD.stk (f::q::rs)) 4 [7,8],.pack (GD.log (f::q::rs)) 0 [4]] [0] ?_ ?_ ?_<;> simp[jB,jD,qY,AObj.mine,zAw,zCd,hv,zAd,←hdd]
  |none=>
   cases rs with
   |nil=>
    simp -implicitDefEqProofs [zDh,zBo,t0,t1,hv,hfl,jB,zAd]
    exact⟨4,by omega,.n1 f rfl hv⟩
   |cons q rs=>
    simp -implicitDefEqProofs [zDh,zBo,t0,t1,hv,hfl,jD,zAd]
    exact⟨4,by omega,.c1 f q rs rfl hv⟩
 |c1 g1 f rs h n1=>
  subst h
  have hfl:f.length<=1000:=hf f (by simp)
  cases hv:qZ f t with
  |some v=>
   cases rs with
   |nil=>
    simp -implicitDefEqProofs [zDh,zBo,t0,t1,hv,hfl,jB,zAd]
    refine zA [.pack (GD.stk [f]) 8 [9],.pack (GD.stk (g1::f::[])) 4 [7,8],.pack (GD.log (g1::f::[])) 0 [4]] [0] ?_ ?_ ?_<;> simp[jB,jD,qY,AObj.mine,zAw,zCd,n1,hv,zAd,←hdd]
   |cons q rs=>
    simp -implicitDefEqProofs [zDh,zBo,t0,t1,hv,hfl,jD,zAd]
    refine zA [.pack (GD.stk (f::q::rs)) 8 [9,10],.pack (GD.stk (g1::f::q::rs)) 4 [7,8],.pack (GD.log (g1::f::q::rs)) 0 [4]] [0] ?_ ?_ ?_<;> simp[jB,jD,qY,AObj.mine,zAw,zCd,n1,hv,zAd,←hdd]
  |none=>
   cases rs with
   |nil=>
    simp -implicitDefEqProofs [zDh,zBo,t0,t1,hv,hfl,jB,zAd]
    exact⟨3,by omega,.n2 g1 f rfl n1 hv⟩
   |cons q rs=>
    simp -implicitDefEqProofs [zDh,zBo,t0,t1,hv,hfl,jD,zAd]
    exact⟨3,by omega,.c2 g1 f q rs rfl n1 hv⟩
 |n1 g1 h n1=>
  subst h
  simp -implicitDefEqProofs [t0,t1]
  refine zA [.pack (GD.stk [g1]) 4 [7],.pack (GD.log (g1::[])) 0 [4]] [0] ?_ ?_ ?_<;> simp[jB,jD,qY,AObj.mine,zAw,zGj,zAd,n1,←hdd]
 |c2 g1 g2 f rs h n1 n2=>
  subst h
  have hfl:f.length<=1000:=hf f (by simp)
  cases hv:qZ f t with
  |some v=>
   cases rs with
   |nil=>
    simp -implicitDefEqProofs [zDh,zBo,t0,t1,hv,hfl,jB,zAd]
    refine zA [.pack (GD.stk [f]) 10 [11],.pack (GD.stk (g2::f::[])) 8 [9,10],.pack (GD.stk (g1::g2::f::[])) 4 [7,8],.pack (GD.log (g1::g2::f::[])) 0 [4]] [0] ?_ ?_ ?_<;> simp[jB,jD,qY,AObj.mine,zAw,zCd,n1,n2,hv,zAd,←hdd]
   |cons q rs=>
    simp -implicitDefEqProofs [zDh,zBo,t0,t1,hv,hfl,jD,zAd]
    refine zA [.pack (GD.stk (f::q::rs)) 10 [11,12],.pack (GD.stk (g2::f::q::rs)) 8 [9,10],.pack (GD.stk (g1::g2::f::q::rs)) 4 [7,8],.pack (GD.log (g1::g2::f::q::rs)) 0 [4]] [0] ?_ ?_ ?_<;> simp[jB,jD,qY,AObj.mine,zAw,zCd,n1,n2,hv,zAd,←hdd]
  |none=>
   cases rs with
   |nil=>
    simp -implicitDefEqProofs [zDh,zBo,t0,t1,hv,hfl,jB,zAd]
    exact⟨2,by omega,.n3 g1 g2 f rfl n1 n2 hv⟩
   |cons q rs=>
    simp -implicitDefEqProofs [zDh,zBo,t0,t1,hv,hfl,jD,zAd]
    exact⟨2,by omega,.c3 g1 g2 f q rs rfl n1 n2 hv⟩
 |n2 g1 g2 h n1 n2=>
  subst h
  simp -implicitDefEqProofs [t0,t1]
  refine zA [.pack (GD.stk [g2]) 8 [9],.pack (GD.stk (g1::g2::[])) 4 [7,8],.pack (GD.log (g1::g2::[])) 0 [4]] [0] ?_ ?_ ?_<;> simp[jB,jD,qY,AObj.mine,zAw,zGj,zAd,n1,n2,←hdd]
 |c3 g1 g2 g3 f rs h n1 n2 n3=>
  subst h
  have hfl:f.length<=1000:=hf f (by simp)
  cases hv:qZ f t with
  |some v=>
   cases rs with
   |nil=>
    simp -implicitDefEqProofs [zDh,zBo,t0,t1,hv,hfl,jB,zAd]
    refine zA [.pack (GD.stk [f]) 12 [13],.pack (GD.stk (g3::f::[])) 10 [11,12],.pack (GD.stk (g2::g3::f::[])) 8 [9,10],.pack (GD.stk (g1::g2::g3::f::[])) 4 [7,8],.pack (GD.log (g1::g2::g3::f::[])) 0 [4]] [0] ?_ ?_ ?_<;> simp[jB,jD,qY,AObj.mine,zAw,zCd,n1,n2,n3,hv,zAd,←hdd]
   |cons q rs=>
    simp -implicitDefEqProofs [zDh,zBo,t0,t1,hv,hfl,jD,zAd]
    refine zA [.pack (GD.stk (f::q::rs)) 12 [13,14],.pack (GD.stk (g3::f::q::rs)) 10 [11,12],.pack (GD.stk (g2::g3::f::q::rs)) 8 [9,10],.pack (GD.stk (g1::g2::g3::f::q::rs)) 4 [7,8],.pack (GD.log (g1::g2::g3::f::q::rs)) 0 [4]] [0] ?_ ?_ ?_<;> simp[jB,jD,qY,AObj.mine,zAw,zCd,n1,n2,n3,hv,zAd,←hdd]
  |none=>
   cases rs with
   |nil=>
    simp -implicitDefEqProofs [zDh,zBo,t0,t1,hv,hfl,jB,zAd]
    exact⟨1,by omega,.n4 g1 g2 g3 f rfl n1 n2 n3 hv⟩
   |cons q rs=>
    simp -implicitDefEqProofs [zDh,zBo,t0,t1,hv,hfl,jD,zAd]
    exact⟨1,by omega,.c4 g1 g2 g3 f q rs rfl n1 n2 n3 hv⟩
 |n3 g1 g2 g3 h n1 n2 n3=>
  subst h
  simp -implicitDefEqProofs [t0,t1]
  refine zA [.pack (GD.stk [g3]) 10 [11],.pack (GD.stk (g2::g3::[])) 8 [9,10],.pack (GD.stk (g1::g2::g3::[])) 4 [7,8],.pack (GD.log (g1::g2::g3::[])) 0 [4]] [0] ?_ ?_ ?_<;> simp[jB,jD,qY,AObj.mine,zAw,zGj,zAd,n1,n2,n3,←hdd]
 |c4 g1 g2 g3 g4 f rs h n1 n2 n3 n4=>
  subst h
  have hfl:f.length<=1000:=hf f (by simp)
  cases hv:qZ f t with
  |some v=>
   cases rs with
   |nil=>
    simp -implicitDefEqProofs [zDh,zBo,t0,t1,hv,hfl,jB,zAd]
    refine zA [.pack (GD.stk [f]) 14 [15],.pack (GD.stk (g4::f::[])) 12 [13,14],.pack (GD.stk (g3::g4::f::[])) 10 [11,12],.pack (GD.stk (g2::g3::g4::f::[])) 8 [9,10],.pack (GD.stk (g1::g2::g3::g4::f::[])) 4 [7,8],.pack (GD.log (g1::g2::g3::g4::f::[])) 0 [4]] [0] ?_ ?_ ?_<;> simp[jB,jD,qY,AObj.mine,zAw,zCd,n1,n2,n3,n4,hv,zAd,←hdd]
   |cons q rs=>
    simp at hl
  |none=>
   cases rs with
   |nil=>
    simp -implicitDefEqProofs [zDh,zBo,t0,t1,hv,hfl,jB,zAd]
    exact .n5 g1 g2 g3 g4 f rfl n1 n2 n3 n4 hv
   |cons q rs=>
    simp at hl
 |n4 g1 g2 g3 g4 h n1 n2 n3 n4=>
  subst h
  simp -implicitDefEqProofs [t0,t1]
  refine zA [.pack (GD.stk [g4]) 12 [13],.pack (GD.stk (g3::g4::[])) 10 [11,12],.pack (GD.stk (g2::g3::g4::[])) 8 [9,10],.pack (GD.stk (g1::g2::g3::g4::[])) 4 [7,8],.pack (GD.log (g1::g2::g3::g4::[])) 0 [4]] [0] ?_ ?_ ?_<;> simp[jB,jD,qY,AObj.mine,zAw,zGj,zAd,n1,n2,n3,n4,←hdd]
 |n5 g1 g2 g3 g4 g5 h n1 n2 n3 n4 n5=>
  subst h
  simp -implicitDefEqProofs [t0,t1]
  refine zA [.pack (GD.stk [g5]) 14 [15],.pack (GD.stk (g4::g5::[])) 12 [13,14],.pack (GD.stk (g3::g4::g5::[])) 10 [11,12],.pack (GD.stk (g2::g3::g4::g5::[])) 8 [9,10],.pack (GD.stk (g1::g2::g3::g4::g5::[])) 4 [7,8],.pack (GD.log (g1::g2::g3::g4::g5::[])) 0 [4]] [0] ?_ ?_ ?_<;> simp[jB,jD,qY,AObj.mine,zAw,zGj,zAd,n1,n2,n3,n4,n5,←hdd]
def d88:zBm
 |.log fs,[.int .i64 t]=> some (zAn fs,zAd (qT fs t),.log fs)
 |_,_=> none
theorem zWw:qE Tryz.prog cfg 88 (qA d88):=zAm fun d rest p v d' h hp=> by
 unfold d88 at h
 split at h
 ·cases h;exact⟨rfl,rfl,qO2 _ _ hp.1 hp.2.1 hp.le⟩
 ·cases h
end YtnemoimbeefngaaGreat
end Go.Proofs
namespace Go.Proofs
namespace YtnemoimbeefngaaGreat
open Go.Abs
inductive LW (fs:List (List Pr)) (dd:Int) (r:Loop):Nat->AH GD->Prop
 |c0 (f:List Pr) (rs:List (List Pr)) (h:fs=f::rs) (s:Int) (hs:s=0):LW fs dd r 5 (AH.of [some (.arr 166 [.pointer (some ⟨2,0,none⟩),.int .i64 dd]),some (.arr 3 [.int .i64 s]),some (.hi (.stk (f::rs))),some (.arr 164 [.pointer (some ⟨2,0,none⟩)]),some (.loopr r 0 none)])
 |c1 (g1 f:List Pr) (rs:List (List Pr)) (h:fs=g1::f::rs) (s:Int) (hs:s=(g1.length:Int)):LW fs dd r 4 (AH.of [some (.arr 166 [.pointer (some ⟨2,0,none⟩),.int .i64 dd]),some (.arr 3 [.int .i64 s]),some (.arr 220 [.slice (some ⟨5,0,none⟩) g1.length 1,.pointer (some ⟨6,0,none⟩)]),some (.arr 164 [.pointer (some ⟨6,0,none⟩)]),some (.loopr r 0 none),some (.arr 157 (prs g1)),some (.hi (.stk (f::rs)))])
 |n1 (g1:List Pr) (h:fs=[g1]) (s:Int) (hs:s=(g1.length:Int)):LW fs dd r 4 (AH.of [some (.arr 166 [.pointer (some ⟨2,0,none⟩),.int .i64 dd]),some (.arr 3 [.int .i64 s]),some (.arr 220 [.slice (some ⟨5,0,none⟩) g1.length 1,.pointer none]),some (.arr 164 [.pointer none]),some (.loopr r 0 none),some (.arr 157 (prs g1))])
 |c2 (g1 g2 f:List Pr) (rs:List (List Pr)) (h:fs=g1::g2::f::rs) (s:Int) (hs:s=(g1.length:Int)+(g2.length:Int)):LW fs dd r 3 (AH.of [some (.arr 166 [.pointer (some ⟨2,0,none⟩),.int .i64 dd]),some (.arr 3 [.int .i64 s]),some (.arr 220 [.slice (some ⟨5,0,none⟩) g1.length 1,.pointer (some ⟨6,0,none⟩)]),some (.arr 164 [.pointer (some ⟨8,0,none⟩)]),some (.loopr r 0 none),some (.arr 157 (prs g1)),some (.arr 220 [.slice (some ⟨7,0,none⟩) g2.length 1,.pointer (some ⟨8,0,none⟩)]),some (.arr 157 (prs g2)),some (.hi (.stk (f::rs)))])
 |n2 (g1 g2:List Pr) (h:fs=[g1,g2]) (s:Int) (hs:s=(g1.length:Int)+(g2.length:Int)):LW fs dd r 3 (AH.of [some (.arr 166 [.pointer (some ⟨2,0,none⟩),.int .i64 dd]),some (.arr 3 [.int .i64 s]),some (.arr 220 [.slice (some ⟨5,0,none⟩) g1.length 1,.pointer (some ⟨6,0,none⟩)]),some (.arr 164 [.pointer none]),some (.loopr r 0 none),some (.arr 157 (prs g1)),some (.arr 220 [.slice (some ⟨7,0,none⟩) g2.length 1,.pointer none]),some (.arr 157 (prs g2))])
 |c3 (g1 g2 g3 f:List Pr) (rs:List (List Pr)) (h:fs=g1::g2::g3::f::rs) (s:Int) (hs:s=(g1.length:Int)+(g2.length:Int)+(g3.length:Int)):LW fs dd r 2 (AH.of [some (.arr 166 [.pointer (some ⟨2,0,none⟩),.int .i64 dd]),some (.arr 3 [.int .i64 s]),some (.arr 220 [.slice (some ⟨5,0,none⟩) g1.length 1,.pointer (some ⟨6,0,none⟩)]),some (.arr 164 [.pointer (some ⟨10,0,none⟩)]),some (.loopr r 0 none),some (.arr 157 (prs g1)),some (.arr 220 [.slice (some ⟨7,0,none⟩) g2.length 1,.pointer (some ⟨8,0,none⟩)]),some (.arr 157 (prs g2)),some (.arr 220 [.slice (some ⟨9,0,none⟩) g3.length 1,.pointer (some ⟨10,0,none⟩)]),some (.arr 157 (prs g3)),some (.hi (.stk (f::rs)))])
 |n3 (g1 g2 g3:List Pr) (h:fs=[g1,g2,g3]) (s:Int) (hs:s=(g1.length:Int)+(g2.length:Int)+(g3.length:Int)):LW fs dd r 2 (AH.of [some (.arr 166 [.pointer (some ⟨2,0,none⟩),.int .i64 dd]),some (.arr 3 [.int .i64 s]),some (.arr 220 [.slice (some ⟨5,0,none⟩) g1.length 1,.pointer (some ⟨6,0,none⟩)]),some (.arr 164 [.pointer none]),some (.loopr r 0 none),some (.arr 157 (prs g1)),some (.arr 220 [.slice (some ⟨7,0,none⟩) g2.length 1,.pointer (some ⟨8,0,none⟩)]),some (.arr 157 (prs g2)),some (.arr 220 [.slice (some ⟨9,0,none⟩) g3.length 1,.pointer none]),some (.arr 157 (prs g3))])
 |c4 (g1 g2 g3 g4 f:List Pr) (rs:List (List Pr)) (h:fs=g1::g2::g3::g4::f::rs) (s:Int) (hs:s=(g1.length:Int)+(g2.length:Int)+(g3.length:Int)+(g4.length:Int)):LW fs dd r 1 (AH.of [some (.arr 166 [.pointer (some ⟨2,0,none⟩),.int .i64 dd]),some (.arr 3 [.int .i64 s]),some (.arr 220 [.slice (some ⟨5,0,none⟩) g1.length 1,.pointer (some ⟨6,0,none⟩)]),some (.arr 164 [.pointer (some ⟨12,0,none⟩)]),some (.loopr r 0 none),some (.arr 157 (prs g1)),some (.arr 220 [.slice (some ⟨7,0,none⟩) g2.length 1,.pointer (some ⟨8,0,none⟩)]),some (.arr 157 (prs g2)),some (.arr 220 [.slice (some ⟨9,0,none⟩) g3.length 1,.pointer (some ⟨10,0,none⟩)]),some (.arr 157 (prs g3)),some (.arr 220 [.slice (some ⟨11,0,none⟩) g4.length 1,.pointer (some ⟨12,0,none⟩)]),some (.arr 157 (prs g4)),some (.hi (.stk (f::rs)))])
 |n4 (g1 g2 g3 g4:List Pr) (h:fs=[g1,g2,g3,g4]) (s:Int) (hs:s=(g1.length:Int)+(g2.length:Int)+(g3.length:Int)+(g4.length:Int)):LW fs dd r 1 (AH.of [some (.arr 166 [.pointer (some ⟨2,0,none⟩),.int .i64 dd]),some (.arr 3 [.int .i64 s]),some (.arr 220 [.slice (some ⟨5,0,none⟩) g1.length 1,.pointer (some ⟨6,0,none⟩)]),some (.arr 164 [.pointer none]),some (.loopr r 0 none),some (.arr 157 (prs g1)),some (.arr 220 [.slice (some ⟨7,0,none⟩) g2.length 1,.pointer (some ⟨8,0,none⟩)]),some (.arr 157 (prs g2)),some (.arr 220 [.slice (some ⟨9,0,none⟩) g3.length 1,.pointer (some ⟨10,0,none⟩)]),some (.arr 157 (prs g3)),some (.arr 220 [.slice (some ⟨11,0,none⟩) g4.length 1,.pointer none]),some (.arr 157 (prs g4))])
 |n5 (g1 g2 g3 g4 g5:List Pr) (h:fs=[g1,g2,g3,g4,g5]) (s:Int) (hs:s=(g1.length:Int)+(g2.length:Int)+(g3.length:Int)+(g4.length:Int)+(g5.length:Int)):LW fs dd r 0 (AH.of [some (.arr 166 [.pointer (some ⟨2,0,none⟩),.int .i64 dd]),some (.arr 3 [.int .i64 s]),some (.arr 220 [.slice (some ⟨5,0,none⟩) g1.length 1,.pointer (some ⟨6,0,none⟩)]),some (.arr 164 [.pointer none]),some (.loopr r 0 none),some (.arr 157 (prs g1)),some (.arr 220 [.slice (some ⟨7,0,none⟩) g2.length 1,.pointer (some ⟨8,0,none⟩)]),some (.arr 157 (prs g2)),some (.arr 220 [.slice (some ⟨9,0,none⟩) g3.length 1,.pointer (some ⟨10,0,none⟩)]),some (.arr 157 (prs g3)),some (.arr 220 [.slice (some ⟨11,0,none⟩) g4.length 1,.pointer (some ⟨12,0,none⟩)]),some (.arr 157 (prs g4)),some (.arr 220 [.slice (some ⟨13,0,none⟩) g5.length 1,.pointer none]),some (.arr 157 (prs g5))])
theorem qLv (fs:List (List Pr)) (hne:fs≠[]) (hl:fs.length<=5) (hf:∀f∈fs,f.length<=1000):zP Tryz.prog cfg 192 [.pointer (some ⟨0,0,none⟩)] (AH.of [some (.hi (.log fs))])
  fun r H'=> r=.ret (.int .i64 (zC0 fs))/\H'=AH.of [some (.hi (.log fs))]:=by
 refine zP.ends ?_
 obtain⟨dd,hdd⟩:∃dd,(fs.length:Int) - 1=dd:=⟨_,rfl⟩
 refine zY (tbl:=[]) (by simp) 6 4 (af:=a192) rfl ?_
 rw[a192,b192,qB]
 refine⟨by simp,?_⟩
 simp -implicitDefEqProofs [forms140,a140,b140,forms189,a189,b189,qY,hdd]
 intro r
 refine xB (jE xE (jG (by simp)) _ _ _ (zQl (jE xE (jG (by simp)) _ _ noY qX))) (fun m tm H=> tm 0=.func (.yield 4) #[] #[]/\tm 1=.pointer (some ⟨3,0,none⟩)/\LW fs dd r m H) (m:=5) ?_ (by omega) ?_
 ·cases fs with
  |nil=> exact (hne rfl).elim
  |cons f rs=> exact⟨by simp,by simp,.c0 f rs rfl 0 rfl⟩
 rintro m tm H ⟨t0,t1,hw⟩
 cases hw with
 |c0 f rs h s hs=>
  subst h
  have hfl:f.length<=1000:=hf f (by simp)
  have hs0:∀x∈(f::rs:List (List Pr)),x.length<=1000:=hf
  have hwr:IntKind.i64.wrap (s+f.length)=s+f.length:=qO (by omega) (by omega)
  cases rs with
  |nil=>
   simp -implicitDefEqProofs [t0,t1,hwr,jB]
   exact⟨4,by omega,.n1 f rfl (s+f.length) (by omega)⟩
  |cons q rs=>
   simp -implicitDefEqProofs [t0,t1,hwr,jD]
   exact⟨4,by omega,.c1 f q rs rfl (s+f.length) (by omega)⟩
 |c1 g1 f rs h s hs=>
  subst h
  have hfl:f.length<=1000:=hf f (by simp)
  have hs0:∀x∈(g1::f::rs:List (List Pr)),x.length<=1000:=hf
  have hg1:g1.length<=1000:=hf g1 (by simp)
  have hwr:IntKind.i64.wrap (s+f.length)=s+f.length:=qO (by omega) (by omega)
  cases rs with
  |nil=>
   simp -implicitDefEqProofs [t0,t1,hwr,jB]
   exact⟨3,by omega,.n2 g1 f rfl (s+f.length) (by omega)⟩
  |cons q rs=>
   simp -implicitDefEqProofs [t0,t1,hwr,jD]
   exact⟨3,by omega,.c2 g1 f q rs rfl (s+f.length) (by omega)⟩
 |n1 g1 h s hs=>
  subst h
  simp -implicitDefEqProofs [t0,t1]
  refine zA [.pack (GD.stk [g1]) 2 [5],.pack (GD.log (g1::[])) 0 [2]] [0] ?_ ?_ ?_<;> simp[jB,jD,qY,AObj.mine,zAv,zGg,←hdd]<;> omega
 |c2 g1 g2 f rs h s hs=>
  subst h
  have hfl:f.length<=1000:=hf f (by simp)
  have hs0:∀x∈(g1::g2::f::rs:List (List Pr)),x.length<=1000:=hf
  have hg1:g1.length<=1000:=hf g1 (by simp)
  have hg2:g2.length<=1000:=hf g2 (by simp)
  have hwr:IntKind.i64.wrap (s+f.length)=s+f.length:=qO (by omega) (by omega)
  cases rs with
  |nil=>
   simp -implicitDefEqProofs [t0,t1,hwr,jB]
   exact⟨2,by omega,.n3 g1 g2 f rfl (s+f.length) (by omega)⟩
  |cons q rs=>
   simp -implicitDefEqProofs [t0,t1,hwr,jD]
   exact⟨2,by omega,.c3 g1 g2 f q rs rfl (s+f.length) (by omega)⟩
 |n2 g1 g2 h s hs=>
  subst h
  simp -implicitDefEqProofs [t0,t1]
  refine zA [.pack (GD.stk [g2]) 6 [7],.pack (GD.stk (g1::g2::[])) 2 [5,6],.pack (GD.log (g1::g2::[])) 0 [2]] [0] ?_ ?_ ?_<;> simp[jB,jD,qY,AObj.mine,zAv,zGg,←hdd]<;> omega
 |c3 g1 g2 g3 f rs h s hs=>
  subst h
  have hfl:f.length<=1000:=hf f (by simp)
  have hs0:∀x∈(g1::g2::g3::f::rs:List (List Pr)),x.length<=1000:=hf
  have hg1:g1.length<=1000:=hf g1 (by simp)
  have hg2:g2.length<=1000:=hf g2 (by simp)
  have hg3:g3.length<=1000:=hf g3 (by simp)
  have hwr:IntKind.i64.wrap (s+f.length)=s+f.length:=qO (by omega) (by omega)
  cases rs with
  |nil=>
   simp -implicitDefEqProofs [t0,t1,hwr,jB]
   exact⟨1,by omega,.n4 g1 g2 g3 f rfl (s+f.length) (by omega)⟩
  |cons q rs=>
   simp -implicitDefEqProofs [t0,t1,hwr,jD]
   exact⟨1,by omega,.c4 g1 g2 g3 f q rs rfl (s+f.length) (by omega)⟩
 |n3 g1 g2 g3 h s hs=>
  subst h
  simp -implicitDefEqProofs [t0,t1]
  refine zA [.pack (GD.stk [g3]) 8 [9],.pack (GD.stk (g2::g3::[])) 6 [7,8],.pack (GD.stk (g1::g2::g3::[])) 2 [5,6],.pack (GD.log (g1::g2::g3::[])) 0 [2]] [0] ?_ ?_ ?_<;> simp[jB,jD,qY,AObj.mine,zAv,zGg,←hdd]<;> omega
 |c4 g1 g2 g3 g4 f rs h s hs=>
  subst h
  have hfl:f.length<=1000:=hf f (by simp)
  have hs0:∀x∈(g1::g2::g3::g4::f::rs:List (List Pr)),x.length<=1000:=hf
  have hg1:g1.length<=1000:=hf g1 (by simp)
  have hg2:g2.length<=1000:=hf g2 (by simp)
  have hg3:g3.length<=1000:=hf g3 (by simp)
  have hg4:g4.length<=1000:=hf g4 (by simp)
  have hwr:IntKind.i64.wrap (s+f.length)=s+f.length:=qO (by omega) (by omega)
  cases rs with
  |nil=>
   simp -implicitDefEqProofs [t0,t1,hwr,jB]
   exact .n5 g1 g2 g3 g4 f rfl (s+f.length) (by omega)
  |cons q rs=>
   simp at hl
 |n4 g1 g2 g3 g4 h s hs=>
  subst h
  simp -implicitDefEqProofs [t0,t1]
  refine zA [.pack (GD.stk [g4]) 10 [11],.pack (GD.stk (g3::g4::[])) 8 [9,10],.pack (GD.stk (g2::g3::g4::[])) 6 [7,8],.pack (GD.stk (g1::g2::g3::g4::[])) 2 [5,6],.pack (GD.log (g1::g2::g3::g4::[])) 0 [2]] [0] ?_ ?_ ?_<;> simp[jB,jD,qY,AObj.mine,zAv,zGg,←hdd]<;> omega
 |n5 g1 g2 g3 g4 g5 h s hs=>
  subst h
  simp -implicitDefEqProofs [t0,t1]
  refine zA [.pack (GD.stk [g5]) 12 [13],.pack (GD.stk (g4::g5::[])) 10 [11,12],.pack (GD.stk (g3::g4::g5::[])) 8 [9,10],.pack (GD.stk (g2::g3::g4::g5::[])) 6 [7,8],.pack (GD.stk (g1::g2::g3::g4::g5::[])) 2 [5,6],.pack (GD.log (g1::g2::g3::g4::g5::[])) 0 [2]] [0] ?_ ?_ ?_<;> simp[jB,jD,qY,AObj.mine,zAv,zGg,←hdd]<;> omega
def zN1:zBm
 |.log fs,[]=> some (zAn fs,.int .i64 (zC0 fs),.log fs)
 |_,_=> none
theorem qFu:qE Tryz.prog cfg 192 (qA zN1):=zAm fun d rest p v d' h hp=> by
 unfold zN1 at h
 split at h
 ·cases h;exact⟨rfl,rfl,qLv _ hp.1 hp.2.1 hp.le⟩
 ·cases h
end YtnemoimbeefngaaGreat
end Go.Proofs
namespace Go.Proofs
namespace YtnemoimbeefngaaGreat
open Go.Abs
def jN (v:Int):Bool:=decide (zIj .u64 v 9223372036854775808<=9218868437227405312)||decide (v=9221120237041090560)
theorem qOy (v:Int) (H:AH GD):zP Tryz.prog cfg 96 [.int .u64 v] H fun r H'=> r=.ret (.bool (jN v))/\H'=H:=by
 refine zY (tbl:=[]) (by simp) 0 0 (af:=a96) rfl ?_
 rw[a96,b96,qB]
 refine⟨by simp,?_⟩
 simp -implicitDefEqProofs
 repeat' (first|with_reducible apply And.intro|with_reducible intro _)
 all_goals (simp[jN, *]<;> omega)
def zAu:qQ GD:=fun args H=> match args with
 |[x]=> (asU x).map fun v=> (True,.ret (.bool (jN v)),H)
 |_=> none
theorem zMg:qE Tryz.prog cfg 96 zAu:=by
 intro args H p r H' h hp
 unfold zAu at h
 split at h
 case h_2=> cases h
 simp only[Option.map_eq_some_iff] at h
 obtain⟨v,hv,h⟩:=h
 cases h
 rw[zJ1 hv]
 exact qOy v H
theorem qOw (v:Int) (h0:0<=v) (h1:v<18446744073709551616) (H:AH GD):zP Tryz.prog cfg 98 [.int .u64 v] H fun r H'=> r=.ret (.bool (jN v))/\H'=H:=by
 refine zY (tbl:=[]) (by simp) 0 0 (af:=a98) rfl ?_
 rw[a98,b98,qB]
 refine⟨by simp,?_⟩
 have e:zA8 .eql (.float .f64 v.toNat) (.float .f64 v.toNat)=some (.bool (decide (zIj .u64 v 9223372036854775808<=9218868437227405312))):=by
  simp only[zA8,zY3,zVb h0 h1]
  simp
  omega
 simp -implicitDefEqProofs [e]
 repeat' (first|with_reducible apply And.intro|with_reducible intro _)
 all_goals (simp[jN, *]<;> omega)
def zAi:qQ GD:=fun args H=> match args with
 |[x]=> (asU x).map fun v=> (0<=v/\v<18446744073709551616,.ret (.bool (jN v)),H)
 |_=> none
theorem zPl:qE Tryz.prog cfg 98 zAi:=by
 intro args H p r H' h hp
 unfold zAi at h
 split at h
 case h_2=> cases h
 simp only[Option.map_eq_some_iff] at h
 obtain⟨v,hv,h⟩:=h
 cases h
 rw[zJ1 hv]
 exact qOw v hp.1 hp.2 H
end YtnemoimbeefngaaGreat
end Go.Proofs
namespace Go.Proofs
namespace YtnemoimbeefngaaGreat
open Go.Abs
def jU (f:List Pr) (fs:List (List Pr)) (t v:Int):Int:=
 if t<0∨12<=t then 2 else if jN v=false then 3 else if (qZ f t).isNone=true/\16<=zC0 (f::fs) then 4 else 0
def zDg:List (FuncId × qQ GD):=[(141,zBo),(191,zD0),(192,qA zN1),(96,zAu)]
theorem zFc:∀x∈zDg,qE Tryz.prog cfg x.1 x.2:=by simp[zDg,zTe,zS9,qFu,zMg]
theorem qL8 (f:List Pr) (fs:List (List Pr)) (t v:Int) (hg:zAn (f::fs)) (hv:0<=v/\v<18446744073709551616):zP Tryz.prog cfg 147 [.pointer (some ⟨0,0,none⟩),.int .i64 t,.int .u64 v] (AH.of [some (.hi (.log (f::fs)))])
  fun r H'=> r=.ret (.int .i64 (jU f fs t v))/\H'=AH.of [some (.hi (if jU f fs t v=0 then .log (jX f ⟨t,v⟩::fs) else .log (f::fs)))]:=by
 refine zP.ends ?_
 have hfl:f.length<=1000:=hg.le f (by simp)
 have hgg:zAn (f::fs):=hg
 by_cases h1:t<0
 ·refine zY (tbl:=zDg) zFc 0 2 (af:=a147) rfl ?_
  rw[a147,b147,qB]
  refine⟨by simp,?_⟩
  simp -implicitDefEqProofs [h1]
  refine zA [] [0] ?_ ?_ ?_<;> simp[jU,h1]
 by_cases h2:12<=t
 ·refine zY (tbl:=zDg) zFc 0 2 (af:=a147) rfl ?_
  rw[a147,b147,qB]
  refine⟨by simp,?_⟩
  simp -implicitDefEqProofs [h1,h2]
  refine zA [] [0] ?_ ?_ ?_<;> simp[jU,h1,h2]
 cases h3:jN v with
 |false=>
  refine zY (tbl:=zDg) zFc 0 2 (af:=a147) rfl ?_
  rw[a147,b147,qB]
  refine⟨by simp,?_⟩
  simp -implicitDefEqProofs [h1,h2,h3,zDg,zAu,hv.1,hv.2]
  refine zA [] [0] ?_ ?_ ?_<;> simp[jU,h1,h2,h3]
 |true=>
  have done:∀(hc:jU f fs t v=0),(GD.log (jX f ⟨t,v⟩::fs))=if jU f fs t v=0 then .log (jX f ⟨t,v⟩::fs) else .log (f::fs):=fun hc=> by rw[if_pos hc]
  cases h4:qZ f t with
  |some w=>
   have hc:jU f fs t v=0:=by simp[jU,h1,h2,h3,h4]
   cases fs with
   |nil=>
    refine zY (tbl:=zDg) zFc 0 2 (af:=a147) rfl ?_
    rw[a147,b147,qB]
    refine⟨by simp,?_⟩
    simp -implicitDefEqProofs [h1,h2,h3,h4,zDg,zAu,hv.1,hv.2,zBo,zD0,hfl,zAd,forms131,a131,b131,qY,jB]
    refine zA [.pack (GD.stk [jX f ⟨t,v⟩]) 4 [3],.pack (GD.log [jX f ⟨t,v⟩]) 0 [4]] [0] ?_ ?_ ?_<;> simp[hc,jB,qY,AObj.mine]
   |cons q rs=>
    refine zY (tbl:=zDg) zFc 0 2 (af:=a147) rfl ?_
    rw[a147,b147,qB]
    refine⟨by simp,?_⟩
    simp -implicitDefEqProofs [h1,h2,h3,h4,zDg,zAu,hv.1,hv.2,zBo,zD0,hfl,zAd,forms131,a131,b131,qY,jD]
    refine zA [.pack (GD.stk (jX f ⟨t,v⟩::q::rs)) 5 [4,3],.pack (GD.log (jX f ⟨t,v⟩::q::rs)) 0 [5]] [0] ?_ ?_ ?_<;> simp[hc,jD,qY,AObj.mine]
  |none=>
   by_cases h5:16<=zC0 (f::fs)
   ·have hc:jU f fs t v=4:=by simp[jU,h1,h2,h3,h4,h5]
    cases fs with
    |nil=>
     refine zY (tbl:=zDg) zFc 0 2 (af:=a147) rfl ?_
     rw[a147,b147,qB]
     refine⟨by simp,?_⟩
     simp -implicitDefEqProofs [h1,h2,h3,h4,zDg,zAu,hv.1,hv.2,zBo,zD0,hfl,zAd,forms131,a131,b131,qY,jB]
     refine zEh [.pack (GD.stk [f]) 1 [2],.pack (GD.log [f]) 0 [1]] ?_ ?_
     ·simp[jB,qY,AObj.mine]
     simp -implicitDefEqProofs [zDg,qA,zN1,hgg,h5]
     refine zA [] [0] ?_ ?_ ?_<;> simp[hc]
    |cons q rs=>
     refine zY (tbl:=zDg) zFc 0 2 (af:=a147) rfl ?_
     rw[a147,b147,qB]
     refine⟨by simp,?_⟩
     simp -implicitDefEqProofs [h1,h2,h3,h4,zDg,zAu,hv.1,hv.2,zBo,zD0,hfl,zAd,forms131,a131,b131,qY,jD]
     refine zEh [.pack (GD.stk (f::q::rs)) 1 [2,3],.pack (GD.log (f::q::rs)) 0 [1]] ?_ ?_
     ·simp[jD,qY,AObj.mine]
     simp -implicitDefEqProofs [zDg,qA,zN1,hgg,h5]
     refine zA [] [0] ?_ ?_ ?_<;> simp[hc]
   ·have hc:jU f fs t v=0:=by simp[jU,h1,h2,h3,h4,h5]
    cases fs with
    |nil=>
     refine zY (tbl:=zDg) zFc 0 2 (af:=a147) rfl ?_
     rw[a147,b147,qB]
     refine⟨by simp,?_⟩
     simp -implicitDefEqProofs [h1,h2,h3,h4,zDg,zAu,hv.1,hv.2,zBo,zD0,hfl,zAd,forms131,a131,b131,qY,jB]
     refine zEh [.pack (GD.stk [f]) 1 [2],.pack (GD.log [f]) 0 [1]] ?_ ?_
     ·simp[jB,qY,AObj.mine]
     simp -implicitDefEqProofs [zDg,qA,zN1,hgg,h5,zD0,hfl,forms131,a131,b131,qY,jB]
     refine zA [.pack (GD.stk [jX f ⟨t,v⟩]) 6 [5],.pack (GD.log [jX f ⟨t,v⟩]) 0 [6]] [0] ?_ ?_ ?_<;> simp[hc,jB,qY,AObj.mine]
    |cons q rs=>
     refine zY (tbl:=zDg) zFc 0 2 (af:=a147) rfl ?_
     rw[a147,b147,qB]
     refine⟨by simp,?_⟩
     simp -implicitDefEqProofs [h1,h2,h3,h4,zDg,zAu,hv.1,hv.2,zBo,zD0,hfl,zAd,forms131,a131,b131,qY,jD]
     refine zEh [.pack (GD.stk (f::q::rs)) 1 [2,3],.pack (GD.log (f::q::rs)) 0 [1]] ?_ ?_
     ·simp[jD,qY,AObj.mine]
     simp -implicitDefEqProofs [zDg,qA,zN1,hgg,h5,zD0,hfl,forms131,a131,b131,qY,jD]
     refine zA [.pack (GD.stk (jX f ⟨t,v⟩::q::rs)) 8 [7,6],.pack (GD.log (jX f ⟨t,v⟩::q::rs)) 0 [8]] [0] ?_ ?_ ?_<;> simp[hc,jD,qY,AObj.mine]
def zQa:zBm
 |.log (f::fs),[.int .i64 t,.int .u64 v]=> some (zAn (f::fs)/\0<=v/\v<18446744073709551616,.int .i64 (jU f fs t v),if jU f fs t v=0 then .log (jX f ⟨t,v⟩::fs) else .log (f::fs))
 |_,_=> none
theorem qF4:qE Tryz.prog cfg 147 (qA zQa):=zAm fun d rest p v d' h hp=> by
 unfold zQa at h
 split at h
 ·cases h;exact⟨rfl,rfl,qL8 _ _ _ _ hp.1 hp.2⟩
 ·cases h
end YtnemoimbeefngaaGreat
end Go.Proofs
namespace Go.Proofs
namespace YtnemoimbeefngaaGreat
open Go.Abs
def jJ (g f:List Pr):List Pr:=f.foldl jX g
theorem zNa {g f:List Pr} {i:Nat} {x:Pr} (h:f[i]?=some x):jJ g (f.take (i+1))=jX (jJ g (f.take i)) x:=by
 unfold jJ
 rw[List.take_add_one,h,List.foldl_append]
 rfl
theorem zLq (g f:List Pr):(jJ g f).length<=g.length+f.length:=by
 unfold jJ
 induction f generalizing g with
 |nil=> simp
 |cons a f ih=>
  have h1:=ih (jX g a)
  have h2:=zP0 g a
  simp only[List.foldl_cons,List.length_cons]
  omega
def zK7:List (FuncId × qQ GD):=[(191,zD0)]
theorem zMc:∀x∈zK7,qE Tryz.prog cfg x.1 x.2:=by simp[zK7,zS9]
theorem qBm (f:List Pr):zP Tryz.prog cfg 146 [.pointer (some ⟨0,0,none⟩)] (AH.of [some (.hi (.log [f]))])
  fun r H'=> r=.ret (.int .i64 8)/\H'=AH.of [some (.hi (.log [f]))]:=by
 refine zP.ends ?_
 refine zY (tbl:=[]) (by simp) 0 2 (af:=a146) rfl ?_
 rw[a146,b146,qB]
 refine⟨by simp,?_⟩
 simp -implicitDefEqProofs [forms190,a190,b190,qY]
 refine zA [.pack (GD.log [f]) 0 [1]] [0] ?_ ?_ ?_<;> simp[qY,AObj.mine]
theorem qBl (f g:List Pr) (rs:List (List Pr)) (hl:rs.length<=100) (hfg:f.length+g.length<=1000):zP Tryz.prog cfg 146 [.pointer (some ⟨0,0,none⟩)] (AH.of [some (.hi (.log (f::g::rs)))])
  fun r H'=> r=.ret (.int .i64 0)/\H'=AH.of [some (.hi (.log (jJ g f::rs)))]:=by
 refine zP.ends ?_
 have hne:¬((rs.length:Int)+1=0):=by omega
 have hw:IntKind.i64.wrap (rs.length:Int)=rs.length:=qO (by omega) (by omega)
 obtain⟨n,hn⟩:∃n,f.length=n:=⟨_,rfl⟩
 cases rs with
 |nil=>
  refine zY (tbl:=zK7) zMc 1001 2 (af:=a146) rfl ?_
  rw[a146,b146,qB]
  refine⟨by simp,?_⟩
  have hw0:IntKind.i64.wrap 0=0:=by decide
  simp -implicitDefEqProofs [forms190,a190,b190,qY,jD,jB,hn,hw0]
  refine zBj (jE xE (jG zMc) _ _ noY qX) (fun m tm H=> ∃i:Nat,m+i=n/\tm 0=.pointer (some ⟨0,0,none⟩)/\tm 23=.slice (some ⟨2,0,none⟩) n 1/\tm 24=.int .i64 n/\tm 25=.int .i64 i/\∃q:Nat,tm 5=.slice (some ⟨q,0,none⟩) (jJ g (f.take i)).length 1/\
   ((q=4/\jJ g (f.take i)=g/\H=AH.of [some (.arr 166 [.pointer (some ⟨3,0,none⟩),.int .i64 0]),none,some (.arr 157 (prs f)),some (.arr 220 [.slice (some ⟨4,0,none⟩) g.length 1,.pointer none]),some (.arr 157 (prs g))])∨
    (q=5/\H=AH.of [some (.arr 166 [.pointer (some ⟨3,0,none⟩),.int .i64 0]),none,some (.arr 157 (prs f)),some (.arr 220 [.slice (some ⟨4,0,none⟩) g.length 1,.pointer none]),some (.arr 157 (prs g)),some (.arr 157 (prs (jJ g (f.take i))))]))) (m:=n) ?_ (by omega) ?_
  ·refine qN [] [0,1,2,3,4] [some (.arr 166 [.pointer (some ⟨3,0,none⟩),.int .i64 0]),none,some (.arr 157 (prs f)),some (.arr 220 [.slice (some ⟨4,0,none⟩) g.length 1,.pointer none]),some (.arr 157 (prs g))] n (by omega) ?_ ?_ ⟨0,by omega,?_,?_,?_,?_,4,?_,.inl ⟨rfl,rfl,rfl⟩⟩<;> simp[jJ]
  rintro m tm H ⟨i,hm,t0,t23,t24,t25,q,t5,hH⟩
  have hml:(jJ g (f.take i)).length<=1000:=by
   have:=zLq g (f.take i)
   rw[List.length_take] at this
   omega
  by_cases hi:i<n
  ·obtain⟨x,hx⟩:=zAp (l:=f) (i:=i) (by omega)
   have hi':(i:Int)<n:=by omega
   have hwr:=xQ hi (by omega)
   have rx:=zKe hx
   have lx:i*2+2<=(prs f).length:=by rw[zBk];omega
   have hsuc:=zNa (g:=g) hx
   rcases hH with ⟨rfl,hg,rfl⟩|⟨rfl,rfl⟩
   ·rw[hg] at t5 hsuc hml
    simp -implicitDefEqProofs [zK7,zD0,t0,t5,t23,t24,t25,hi,hi',rx,lx,Pr.cells,hwr,hml]
    refine qN [] [0,1,2,3,4,6] [some (.arr 166 [.pointer (some ⟨3,0,none⟩),.int .i64 0]),none,some (.arr 157 (prs f)),some (.arr 220 [.slice (some ⟨4,0,none⟩) g.length 1,.pointer none]),some (.arr 157 (prs g)),some (.arr 157 (prs (jJ g (f.take (i+1)))))] (m - 1) (by omega) ?_ ?_ ⟨i+1,by omega,?_,?_,?_,?_,5,?_,.inr ⟨rfl,rfl⟩⟩<;> simp[t0,t23,t24,hsuc]
   ·simp -implicitDefEqProofs [zK7,zD0,t0,t5,t23,t24,t25,hi,hi',rx,lx,Pr.cells,hwr,hml]
    refine qN [] [0,1,2,3,4,7] [some (.arr 166 [.pointer (some ⟨3,0,none⟩),.int .i64 0]),none,some (.arr 157 (prs f)),some (.arr 220 [.slice (some ⟨4,0,none⟩) g.length 1,.pointer none]),some (.arr 157 (prs g)),some (.arr 157 (prs (jJ g (f.take (i+1)))))] (m - 1) (by omega) ?_ ?_ ⟨i+1,by omega,?_,?_,?_,?_,5,?_,.inr ⟨rfl,rfl⟩⟩<;> simp[t0,t23,t24,hsuc]
  ·have hie:i=n:=by omega
   subst hie
   have hf:f.take i=f:=List.take_of_length_le (by omega)
   rw[hf] at t5 hH
   rcases hH with ⟨rfl,hg,rfl⟩|⟨rfl,rfl⟩
   ·rw[hg] at t5
    simp -implicitDefEqProofs [t0,t5,t23,t24,t25,forms131,a131,b131]
    refine zA [.pack (GD.stk [g]) 5 [4],.pack (GD.log [g]) 0 [5]] [0] ?_ ?_ ?_<;> simp[jB,qY,AObj.mine,hg]
   ·simp -implicitDefEqProofs [t0,t5,t23,t24,t25,forms131,a131,b131]
    refine zA [.pack (GD.stk [jJ g f]) 6 [5],.pack (GD.log [jJ g f]) 0 [6]] [0] ?_ ?_ ?_<;> simp[jB,qY,AObj.mine]
 |cons p rs=>
  obtain⟨dd,hdd⟩:∃dd,(rs.length:Int)+1=dd:=⟨_,rfl⟩
  have hw2:IntKind.i64.wrap ((rs.length:Int)+1)=(rs.length:Int)+1:=qO (by omega) (by simp at hl;omega)
  have hne2:¬(dd+1=0):=by omega
  rw[hdd] at hw2
  refine zY (tbl:=zK7) zMc 1001 2 (af:=a146) rfl ?_
  rw[a146,b146,qB]
  refine⟨by simp,?_⟩
  simp -implicitDefEqProofs [forms190,a190,b190,qY,jD,hn,hdd,hw2,hne2]
  refine zBj (jE xE (jG zMc) _ _ noY qX) (fun m tm H=> ∃i:Nat,m+i=n/\tm 0=.pointer (some ⟨0,0,none⟩)/\tm 23=.slice (some ⟨2,0,none⟩) n 1/\tm 24=.int .i64 n/\tm 25=.int .i64 i/\∃q:Nat,tm 5=.slice (some ⟨q,0,none⟩) (jJ g (f.take i)).length 1/\
   ((q=4/\jJ g (f.take i)=g/\H=AH.of [some (.arr 166 [.pointer (some ⟨3,0,none⟩),.int .i64 dd]),none,some (.arr 157 (prs f)),some (.arr 220 [.slice (some ⟨4,0,none⟩) g.length 1,.pointer (some ⟨5,0,none⟩)]),some (.arr 157 (prs g)),some (.hi (.stk (p::rs)))])∨
    (q=6/\H=AH.of [some (.arr 166 [.pointer (some ⟨3,0,none⟩),.int .i64 dd]),none,some (.arr 157 (prs f)),some (.arr 220 [.slice (some ⟨4,0,none⟩) g.length 1,.pointer (some ⟨5,0,none⟩)]),some (.arr 157 (prs g)),some (.hi (.stk (p::rs))),some (.arr 157 (prs (jJ g (f.take i))))]))) (m:=n) ?_ (by omega) ?_
  ·refine qN [] [0,1,2,3,4,5] [some (.arr 166 [.pointer (some ⟨3,0,none⟩),.int .i64 dd]),none,some (.arr 157 (prs f)),some (.arr 220 [.slice (some ⟨4,0,none⟩) g.length 1,.pointer (some ⟨5,0,none⟩)]),some (.arr 157 (prs g)),some (.hi (.stk (p::rs)))] n (by omega) ?_ ?_ ⟨0,by omega,?_,?_,?_,?_,4,?_,.inl ⟨rfl,rfl,rfl⟩⟩<;> simp[jJ]
  rintro m tm H ⟨i,hm,t0,t23,t24,t25,q,t5,hH⟩
  have hml:(jJ g (f.take i)).length<=1000:=by
   have:=zLq g (f.take i)
   rw[List.length_take] at this
   omega
  by_cases hi:i<n
  ·obtain⟨x,hx⟩:=zAp (l:=f) (i:=i) (by omega)
   have hi':(i:Int)<n:=by omega
   have hwr:=xQ hi (by omega)
   have rx:=zKe hx
   have lx:i*2+2<=(prs f).length:=by rw[zBk];omega
   have hsuc:=zNa (g:=g) hx
   rcases hH with ⟨rfl,hg,rfl⟩|⟨rfl,rfl⟩
   ·rw[hg] at t5 hsuc hml
    simp -implicitDefEqProofs [zK7,zD0,t0,t5,t23,t24,t25,hi,hi',rx,lx,Pr.cells,hwr,hml]
    refine qN [] [0,1,2,3,4,5,7] [some (.arr 166 [.pointer (some ⟨3,0,none⟩),.int .i64 dd]),none,some (.arr 157 (prs f)),some (.arr 220 [.slice (some ⟨4,0,none⟩) g.length 1,.pointer (some ⟨5,0,none⟩)]),some (.arr 157 (prs g)),some (.hi (.stk (p::rs))),some (.arr 157 (prs (jJ g (f.take (i+1)))))] (m - 1) (by omega) ?_ ?_ ⟨i+1,by omega,?_,?_,?_,?_,6,?_,.inr ⟨rfl,rfl⟩⟩<;> simp[t0,t23,t24,hsuc]
   ·simp -implicitDefEqProofs [zK7,zD0,t0,t5,t23,t24,t25,hi,hi',rx,lx,Pr.cells,hwr,hml]
    refine qN [] [0,1,2,3,4,5,8] [some (.arr 166 [.pointer (some ⟨3,0,none⟩),.int .i64 dd]),none,some (.arr 157 (prs f)),some (.arr 220 [.slice (some ⟨4,0,none⟩) g.length 1,.pointer (some ⟨5,0,none⟩)]),some (.arr 157 (prs g)),some (.hi (.stk (p::rs))),some (.arr 157 (prs (jJ g (f.take (i+1)))))] (m - 1) (by omega) ?_ ?_ ⟨i+1,by omega,?_,?_,?_,?_,6,?_,.inr ⟨rfl,rfl⟩⟩<;> simp[t0,t23,t24,hsuc]
  ·have hie:i=n:=by omega
   subst hie
   have hf:f.take i=f:=List.take_of_length_le (by omega)
   rw[hf] at t5 hH
   rcases hH with ⟨rfl,hg,rfl⟩|⟨rfl,rfl⟩
   ·rw[hg] at t5
    simp -implicitDefEqProofs [t0,t5,t23,t24,t25,forms131,a131,b131]
    refine zA [.pack (GD.stk (g::p::rs)) 6 [4,5],.pack (GD.log (g::p::rs)) 0 [6]] [0] ?_ ?_ ?_<;> simp[jD,qY,AObj.mine,hg,hdd]
   ·simp -implicitDefEqProofs [t0,t5,t23,t24,t25,forms131,a131,b131]
    refine zA [.pack (GD.stk (jJ g f::p::rs)) 7 [6,5],.pack (GD.log (jJ g f::p::rs)) 0 [7]] [0] ?_ ?_ ?_<;> simp[jD,qY,AObj.mine,hdd]
def d146:zBm
 |.log [f],[]=> some (True,.int .i64 8,.log [f])
 |.log (f::g::rs),[]=> some (zAn (f::g::rs),.int .i64 0,.log (jJ g f::rs))
 |_,_=> none
theorem qF5:qE Tryz.prog cfg 146 (qA d146):=zAm fun d rest p v d' h hp=> by
 unfold d146 at h
 split at h
 ·cases h;exact⟨rfl,rfl,qBm _⟩
 ·cases h
  refine⟨rfl,rfl,qBl _ _ _ ?_ ?_⟩
  ·have:=hp.2.1;simp at this;omega
  ·have:=hp.2.2;rw[zAv,zAv] at this
   have:=zK2 ‹List (List Pr)›
   omega
 ·cases h
def zBz (fs:List (List Pr)) (n:Nat):List Pr:=(List.range n).filterMap fun t:Nat=> (qT fs t).map fun v=> (⟨t,v⟩:Pr)
def jO (fs:List (List Pr)):List Pr:=zBz fs 12
theorem zL2 (fs:List (List Pr)) (n:Nat):zBz fs (n+1)=zBz fs n++(match qT fs n with|some v=> [⟨n,v⟩]|none=> []):=by
 unfold zBz
 rw[List.range_succ,List.filterMap_append]
 cases h:qT fs n<;> simp[h]
theorem zM3 (fs:List (List Pr)) (n:Nat):(zBz fs n).length<=n:=by
 unfold zBz
 have:=List.length_filterMap_le (fun t:Nat=> (qT fs t).map fun v=> (⟨t,v⟩:Pr)) (List.range n)
 simpa using this
def zS2:List (FuncId × qQ GD):=[(88,qA d88)]
theorem zWu:∀x∈zS2,qE Tryz.prog cfg x.1 x.2:=by simp[zS2,zWw]
theorem qO0 (fs:List (List Pr)) (hg:zAn fs):zP Tryz.prog cfg 93 [.pointer (some ⟨0,0,none⟩)] (AH.of [some (.hi (.log fs))])
  fun r H'=> r=.ret (.slice (some ⟨1,0,none⟩) (jO fs).length 1)/\H'=AH.of [some (.hi (.log fs)),some (.arr 157 (prs (jO fs)))]:=by
 refine zP.ends ?_
 refine zY (tbl:=zS2) zWu 13 0 (af:=a93) rfl ?_
 rw[a93,b93,qB]
 refine⟨by simp,?_⟩
 simp -implicitDefEqProofs
 refine zBj (jE xE (jG zWu) _ _ noY qX) (fun m tm H=> ∃i:Nat,m+i=12/\tm 0=.pointer (some ⟨0,0,none⟩)/\tm 3=.slice (some ⟨1,0,none⟩) (zBz fs i).length 1/\tm 7=.int .i64 i/\H=AH.of [some (.hi (.log fs)),some (.arr 157 (prs (zBz fs i)))]) (m:=12) ?_ (by omega) ?_
 ·refine zGu [.nil 157] [0,1] [some (.hi (.log fs)),some (.arr 157 (prs []))] [(3,.slice (some ⟨1,0,none⟩) 0 1)] 12 (by omega) ?_ ?_ ?_ ⟨0,by omega,?_,?_,?_,rfl⟩<;> simp[zBz,prs]
  done
 rintro m tm H ⟨i,hm,t0,t3,t7,rfl⟩
 have hle:=zM3 fs i
 by_cases hi:i<12
 ·have hi':(i:Int)<12:=by omega
  have hwr:=xQ hi (by omega)
  have hsuc:=zL2 fs i
  have hr3:((zBz fs i).length+1)*16<=140737488355328/\(zBz fs i).length<=9223372036854775806:=by omega
  have htk:=zIn (zBz fs i)
  have hll:(zBz fs i).length*2<=(prs (zBz fs i)).length:=by rw[zBk];omega
  cases hv:qT fs i with
  |none=>
   simp only[hv,List.append_nil] at hsuc
   simp -implicitDefEqProofs [zS2,qA,d88,hg,t0,t3,t7,hi,hi',hwr,hv,zAd]
   refine qN [] [0,1] [some (.hi (.log fs)),some (.arr 157 (prs (zBz fs (i+1))))] (m - 1) (by omega) ?_ ?_ ⟨i+1,by omega,?_,?_,?_,rfl⟩<;> simp[t0,t3,hsuc]
  |some v=>
   simp only[hv] at hsuc
   simp -implicitDefEqProofs [zS2,qA,d88,hg,t0,t3,t7,hi,hi',hwr,hv,zAd,hr3,htk,hll]
   refine qN [] [0,3] [some (.hi (.log fs)),some (.arr 157 (prs (zBz fs (i+1))))] (m - 1) (by omega) ?_ ?_ ⟨i+1,by omega,?_,?_,?_,rfl⟩<;> simp[t0,hsuc,zH3,zH2]
 ·have hie:i=12:=by omega
  subst hie
  simp -implicitDefEqProofs [t0,t3,t7]
  refine zA [] [0,1] ?_ ?_ ?_<;> simp[jO]
def zIo:qQ GD:=fun args H=> match args with
 |[.pointer (some ⟨k,0,none⟩)]=> match H.get k with
  |some (.hi (.log fs))=> some (zAn fs,.ret (.slice (some ⟨H.next,0,none⟩) (jO fs).length 1),H.add (.arr 157 (prs (jO fs))))
  |_=> none
 |_=> none
theorem qK3:qE Tryz.prog cfg 93 zIo:=by
 intro args H p r H' h hp
 unfold zIo at h
 split at h
 case h_2=> cases h
 split at h
 case h_2=> cases h
 rename_i k x fs hk
 cases h
 exact (qO0 fs hp).atK (zAb rfl) [k] (by simp) (by simp) (by simp[hk]) (by simp) (by simp) (by simp[jF hk])
end YtnemoimbeefngaaGreat
end Go.Proofs
namespace Go.Proofs
namespace YtnemoimbeefngaaGreat
open Go.Abs
theorem zLs:zAn [[]]:=⟨by simp,by simp,by simp[zC0]⟩
theorem qGx {f:List Pr} {p:Pr}:(jX f p).length=f.length∨(qZ f p.t=none/\(jX f p).length=f.length+1):=by
 induction f with
 |nil=> exact .inr ⟨rfl,rfl⟩
 |cons a f ih=>
  simp only[jX]
  split
  ·exact .inl rfl
  ·rename_i h
   have e:qZ (a::f) p.t=qZ f p.t:=by simp[qZ,h]
   rcases ih with h1|⟨h1,h2⟩
   ·exact .inl (by simp[h1])
   ·exact .inr ⟨by rw[e];exact h1,by simp[h2]⟩
theorem zTz {f:List Pr} {fs:List (List Pr)} {t v:Int} (h:zAn (f::fs)) (hc:jU f fs t v=0):zAn (jX f ⟨t,v⟩::fs):=by
 refine⟨by simp,by simpa using h.2.1,?_⟩
 have h16:=h.2.2
 rw[zAv] at h16⊢
 rcases qGx (f:=f) (p:=⟨t,v⟩) with h1|⟨h1,h2⟩
 ·rw[h1];exact h16
 ·unfold jU at hc
  split at hc
  ·cases hc
  ·split at hc
   ·cases hc
   ·split at hc
    ·cases hc
    ·rename_i h3
     have h1':qZ f t=none:=h1
     rw[h1',zAv] at h3
     simp at h3
     rw[h2]
     omega
theorem zOy {f g:List Pr} {fs:List (List Pr)} (h:zAn (f::g::fs)):zAn (jJ g f::fs):=by
 refine⟨by simp,by have:=h.2.1;simp at this⊢;omega,?_⟩
 have h16:=h.2.2
 have:=zLq g f
 rw[zAv,zAv] at h16
 rw[zAv]
 omega
theorem zQ9 {f g:List Pr} {fs:List (List Pr)} (h:zAn (f::g::fs)):zAn (g::fs):=by
 refine⟨by simp,by have:=h.2.1;simp at this⊢;omega,?_⟩
 have h16:=h.2.2
 rw[zAv] at h16
 omega
theorem zQw {f:List Pr} {fs:List (List Pr)} (h:zAn (f::fs)) (hl:(f::fs).length<5):zAn ([]::f::fs):=by
 refine⟨by simp,by simp at hl⊢;omega,?_⟩
 have h16:=h.2.2
 rw[zAv]
 simpa using h16
end YtnemoimbeefngaaGreat
end Go.Proofs
namespace Go.Proofs
namespace YtnemoimbeefngaaGreat
open Go.Abs
structure Rp where
 done:Bool
 val:Int
 busy:Bool
 owner:Int
 ended:Bool
 why:Int
 err:Int
 deriving DecidableEq
def Rp.cells (r:Rp):List Value:=[.bool r.done,.int .u64 r.val,.bool r.busy,.int .i64 r.owner,.bool r.ended,.int .u8 r.why,.int .i64 r.err]
def Rp.v (r:Rp):Value:=.agg r.cells.toArray
def qF:Rp:=⟨false,0,false,0,false,0,0⟩
def qK (e:Int):Rp:=⟨false,0,false,0,false,0,e⟩
def qG (v:Int):Rp:=⟨true,v,false,0,false,0,0⟩
def qJ (why:Int):Rp:=⟨true,0,false,0,true,why,0⟩
def qI (o:Int):Rp:=⟨false,0,true,o,false,0,0⟩
def zMn (fs:List (List Pr)):List (List Pr):=if 5<=fs.length then fs else []::fs
def zMx:List (List Pr)->List (List Pr)
 |f::g::fs=> g::fs
 |fs=> fs
def zIh:List (List Pr)->List (List Pr)
 |f::g::fs=> jJ g f::fs
 |fs=> fs
def zMm:List (List Pr)->Int->Int->List (List Pr)
 |f::fs,t,v=> jX f ⟨t,v⟩::fs
 |[],_,_=> []
def zJc:List (List Pr)->Int->Int->Int
 |f::fs,t,v=> jU f fs t v
 |[],_,_=> 0
theorem zNo {f:List Pr} {p q:Pr} (h:q∈jX f p):q=p∨q∈f∨(∃r∈f,q=⟨r.t,p.v⟩):=by
 induction f with
 |nil=> simp[jX] at h;exact .inl h
 |cons a f ih=>
  simp only[jX] at h
  split at h
  ·rcases List.mem_cons.1 h with rfl|h
   ·exact .inr (.inr ⟨a,by simp,rfl⟩)
   ·exact .inr (.inl (by simp[h]))
  ·rcases List.mem_cons.1 h with rfl|h
   ·exact .inr (.inl (by simp))
   ·rcases ih h with h|h|⟨r,hr,h⟩
    ·exact .inl h
    ·exact .inr (.inl (by simp[h]))
    ·exact .inr (.inr ⟨r,by simp[hr],h⟩)
theorem zOz {g f:List Pr} {P:Pr->Prop} (hg:∀p∈g,P p) (hf:∀p∈f,P p) (hP:∀p q,P p->P q->P ⟨p.t,q.v⟩):∀p∈jJ g f,P p:=by
 unfold jJ
 induction f generalizing g with
 |nil=> exact hg
 |cons a f ih=>
  refine ih (g:=jX g a) (fun p hp=> ?_) (fun p hp=> hf p (by simp[hp]))
  rcases zNo hp with rfl|h|⟨r,hr,rfl⟩
  ·exact hf _ (by simp)
  ·exact hg p h
  ·exact hP r a (hg r hr) (hf a (by simp))
theorem qOh (fs:List (List Pr)):(jO fs).length<=12:=zM3 fs 12
theorem qI7 {fs:List (List Pr)} {p:Pr} (hp:p∈jO fs):∃f∈fs,p∈f:=by
 unfold jO zBz at hp
 obtain⟨t,_,ht⟩:=List.mem_filterMap.1 hp
 simp only[Option.map_eq_some_iff] at ht
 obtain⟨v,hv,rfl⟩:=ht
 unfold qT at hv
 obtain⟨f,hf,hg⟩:=List.exists_of_findSome?_eq_some hv
 refine⟨f,hf,?_⟩
 unfold qZ at hg
 simp only[Option.map_eq_some_iff] at hg
 obtain⟨q,hq,rfl⟩:=hg
 have h1:=List.mem_of_find?_eq_some hq
 have h2:q.t=(t:Int):=by simpa using List.find?_some hq
 rw[←h2];exact h1
end YtnemoimbeefngaaGreat
end Go.Proofs
namespace Go.Proofs
namespace YtnemoimbeefngaaGreat
open Go.Abs
def zJz (v:Int):Int:=if jN v then v else 9221120237041090560
theorem qLx (v:Int) (H:AH GD):zP Tryz.prog cfg 184 [.int .u64 v] H fun r H'=> r=.ret (.int .u64 (zJz v))/\H'=H:=by
 refine zY (tbl:=[(96,zAu)]) (by simp[zMg]) 0 0 (af:=a184) rfl ?_
 rw[a184,b184,qB]
 refine⟨by simp,?_⟩
 simp -implicitDefEqProofs [zAu]
 repeat' (first|with_reducible apply And.intro|with_reducible intro _)
 all_goals simp[zJz, *]
def zR5:qQ GD:=fun args H=> match args with
 |[x]=> (asU x).map fun v=> (True,.ret (.int .u64 (zJz v)),H)
 |_=> none
theorem qFv:qE Tryz.prog cfg 184 zR5:=by
 intro args H p r H' h hp
 unfold zR5 at h
 split at h
 case h_2=> cases h
 simp only[Option.map_eq_some_iff] at h
 obtain⟨v,hv,h⟩:=h
 cases h
 rw[zJ1 hv]
 exact qLx v H
def zHb (a b:Int):Bool:=decide (zJz a=zJz b)
theorem qMh (a b:Int) (H:AH GD):zP Tryz.prog cfg 133 [.int .u64 a,.int .u64 b] H fun r H'=> r=.ret (.bool (zHb a b))/\H'=H:=by
 refine zY (tbl:=[(184,zR5)]) (by simp[qFv]) 0 0 (af:=a133) rfl ?_
 rw[a133,b133,qB]
 refine⟨by simp,?_⟩
 simp -implicitDefEqProofs [zR5]
 simp[zHb]
def zMj:qQ GD:=fun args H=> match args with
 |[x,y]=> (asU x).bind fun a=> (asU y).map fun b=> (True,.ret (.bool (zHb a b)),H)
 |_=> none
theorem qGd:qE Tryz.prog cfg 133 zMj:=by
 intro args H p r H' h hp
 unfold zMj at h
 split at h
 case h_2=> cases h
 simp only[Option.map_eq_some_iff,Option.bind_eq_some_iff] at h
 obtain⟨a,ha,b,hb,h⟩:=h
 cases h
 rw[zJ1 ha,zJ1 hb]
 exact qMh a b H
end YtnemoimbeefngaaGreat
end Go.Proofs
namespace Go.Proofs
namespace YtnemoimbeefngaaGreat
open Go.Abs
def zEk (l:List Ent) (t:Int):Option Ent:=l.find? fun e=> e.t==t
def zBi (l:List Ent) (e:Ent):Int:=
 if e.t<0∨12<=e.t∨1099511627776<e.n then 2
 else if !jN e.v then 3
 else if (zEk l e.t).isSome then 0
 else if (8:Int)<=l.length then 4
 else 0
def zBe (l:List Ent) (e:Ent):List Ent:=
 if zBi l e=0/\(zEk l e.t).isNone then l++[e] else l
theorem zK6 (l:List Ent):(zCr l).length=l.length:=by simp[zCr]
theorem zSn (l:List Ent):jM (zCr l)=true:=by
 induction l with
 |nil=> rfl
 |cons e l ih=> simp[zCr,jM,xD] at ih⊢;exact ih
theorem zLf (e:Ent) (l:List Ent):zC9 (e::l)=.int .i64 e.t::.int .u64 e.v::.int .u64 e.n::zC9 l:=rfl
theorem zM6 (l:List Ent):(zC9 l).length=l.length*3:=by
 induction l with
 |nil=> rfl
 |cons e l ih=> rw[zLf,List.length_cons,List.length_cons,List.length_cons,ih,List.length_cons];omega
theorem zVw (l:List Ent):jM (zC9 l)=true:=by
 induction l with
 |nil=> rfl
 |cons e l ih=> rw[zLf];simp[jM,xD,ih]
theorem qBv (θ:Nat->Nat) (l:List Ent):xV θ (zCr l)=zCr l:=xI θ _ (zSn l)
theorem qGo (θ:Nat->Nat) (l:List Ent):xV θ (zC9 l)=zC9 l:=xI θ _ (zVw l)
theorem zYy (θ:Nat->Nat) (l:List Ent):zJi θ (zBw l)=zBw l:=by
 simp only[zJi,zBw,List.map_map]
 refine List.map_congr_left fun e _=> ?_
 simp only[Function.comp]
 rw[zC4 θ (.int .i64 e.t) rfl,zC4 θ e.val rfl]
theorem zQm (l:List Ent) (e:Ent):zCr (l++[e])=zCr l++[.int .i64 e.t]:=by simp[zCr]
theorem zYc (l:List Ent):(zCr l).take l.length=zCr l:=List.take_of_length_le (by simp[zK6])
theorem qCq {i:Nat} {x:Ent}:∀{l:List Ent},l[i]?=some x->((zC9 l).drop (i*3)).take 3=x.cells:=by
 induction i with
 |zero=>
  intro l h
  cases l with
  |nil=> simp at h
  |cons e l=> simp at h;subst h;rfl
 |succ i ih=>
  intro l h
  cases l with
  |nil=> simp at h
  |cons e l=>
   rw[zLf,show (i+1)*3=i*3+1+1+1 by omega]
   simpa using ih (l:=l) (by simpa using h)
def zI3 (l:List Ent):Prop:=(l.map (·.t)).Nodup
theorem zI3.get {l:List Ent} (h:zI3 l):∀(i:Nat) (x:Ent),l[i]?=some x->zEk l x.t=some x:=by
 induction l with
 |nil=> intro i x hx;simp at hx
 |cons a l ih=>
  intro i x hx
  simp only[zI3,List.map_cons,List.nodup_cons] at h
  cases i with
  |zero=> simp at hx;subst hx;simp[zEk]
  |succ i=>
   have hx':l[i]?=some x:=by simpa using hx
   have hne:(a.t==x.t)=false:=by
    simp only[beq_eq_false_iff_ne,ne_eq]
    intro e
    exact h.1 (List.mem_map.2 ⟨x,List.mem_of_getElem? hx',e.symm⟩)
   simp only[zEk,List.find?_cons,hne]
   exact ih h.2 i x hx'
theorem zRt (l:List Ent):(zBw l).length=l.length:=by simp[zBw]
theorem zZu (l:List Ent) (e:Ent):zBw (l++[e])=zBw l++[(.int .i64 e.t,e.val)]:=by simp[zBw]
theorem zZo {l:List Ent} {t:Int} (h:∀x∈l,x.t≠t):zEk l t=none:=by
 simp only[zEk,List.find?_eq_none]
 intro x hx
 simpa using h x hx
theorem zKo {l:List Ent} {es:List MapEntry} {c:Nat} (h:zAf (zBw l) es c) (hu:zI3 l) (t:Int):zB2 false (.int .i64 t) es=some ((zEk l t).map Ent.val):=by
 have key:∀es':List MapEntry,(∀e∈es',∃x∈l,e.key=.int .i64 x.t/\e.val=x.val)->
   (zB2 false (.int .i64 t) es'=some none/\∀e∈es',e.key≠.int .i64 t)∨∃x∈l,x.t=t/\zB2 false (.int .i64 t) es'=some (some x.val):=by
  intro es'
  induction es' with
  |nil=> intro _;exact .inl ⟨rfl,fun e he=> by simp at he⟩
  |cons e es' ih=>
   intro hm
   obtain⟨x,hx,hk,hv⟩:=hm e (by simp)
   rw[zB2,hk,zH0]
   simp only[Bool.false_eq_true,if_false,if_true]
   by_cases ht:t=x.t
   ·right
    refine⟨x,hx,ht.symm,?_⟩
    simp[ht,hv]
   ·have h1:(t==x.t)=false:=by simpa using ht
    rw[h1]
    rcases ih (fun e he=> hm e (by simp[he])) with ⟨h2,h3⟩|h2
    ·refine .inl ⟨h2,fun e' he'=> ?_⟩
     rcases List.mem_cons.1 he' with rfl|he'
     ·rw[hk];intro h4;injection h4 with _ h5;exact ht h5.symm
     ·exact h3 e' he'
    ·exact .inr h2
 have hmem:∀e∈es,∃x∈l,e.key=.int .i64 x.t/\e.val=x.val:=by
  intro e he
  have:(e.key,e.val)∈zBw l:=h.1.mem_iff.1 (List.mem_map.2 ⟨e,he,rfl⟩)
  obtain⟨x,hx,hp⟩:=List.mem_map.1 this
  simp only[Prod.mk.injEq] at hp
  exact⟨x,hx,hp.1.symm,hp.2.symm⟩
 rcases key es hmem with ⟨h1,h2⟩|⟨x,hx,ht,h1⟩
 ·rw[h1,zZo fun x hx ht=> ?_];rfl
  have:((Value.int .i64 x.t,x.val):Value × Value)∈zBt es:=h.1.mem_iff.2 (List.mem_map.2 ⟨x,hx,rfl⟩)
  obtain⟨e,he,hp⟩:=List.mem_map.1 this
  simp only[Prod.mk.injEq] at hp
  exact h2 e he (by rw[hp.1,ht])
 ·obtain⟨i,hi⟩:=List.mem_iff_getElem?.1 hx
  have:=hu.get i x hi
  rw[ht] at this
  rw[h1,this];rfl
theorem qB8 {l:List Ent} {es:List MapEntry} {c:Nat} (h:zAf (zBw l) es c) (hu:zI3 l) (x:Ent) (hn:zEk l x.t=none):zGd false (.int .i64 x.t) x.val c es=some (es++[⟨.int .i64 x.t,x.val,c⟩],c+1):=
 zPz (by rw[zKo h hu,hn];rfl)
theorem qEf {l:List Ent} {es:List MapEntry} {c:Nat} (h:zAf (zBw l) es c) (x:Ent):zAf (zBw (l++[x])) (es++[⟨.int .i64 x.t,x.val,c⟩]) (c+1):=by
 rw[zZu];exact h.add _ _
structure Good (l:List Ent):Prop where
 len:l.length<=8
 uniq:zI3 l
 range:∀e∈l,0<=e.t/\e.t<12
theorem qHt:Good []:=⟨by simp,by simp[zI3],fun e he=> by simp at he⟩
theorem qEe {l:List Ent} {e:Ent} (h:zBi l e=0):0<=e.t/\e.t<12:=by
 unfold zBi at h
 split at h
 ·cases h
 ·omega
theorem qOi {l:List Ent} {e:Ent} (h:zBi l e=0) (hg:zEk l e.t=none):l.length<8:=by
 unfold zBi at h
 split at h
 ·cases h
 ·split at h
  ·cases h
  ·rw[hg] at h
   simp at h
   omega
theorem qEh {l:List Ent} {e:Ent} (h:zBi l e=0) (hg:zEk l e.t=none):zBe l e=l++[e]:=by simp[zBe,h,hg]
theorem qEg {l:List Ent} {e x:Ent} (hg:zEk l e.t=some x):zBe l e=l:=by simp[zBe,hg]
theorem qJb {l:List Ent} {e:Ent} (h:zBi l e≠0):zBe l e=l:=by simp[zBe,h]
theorem Good.add {l:List Ent} (h:Good l) (e:Ent):Good (zBe l e):=by
 by_cases hc:zBi l e=0
 ·cases hg:zEk l e.t with
  |some x=> rw[qEg hg];exact h
  |none=>
   rw[qEh hc hg]
   have:=qOi hc hg
   refine⟨by simp;omega,?_,fun y hy=> ?_⟩
   ·show ((l++[e]).map (·.t)).Nodup
    rw[List.map_append]
    refine List.nodup_append.2 ⟨h.uniq,by simp,?_⟩
    rintro a ha b hb rfl
    simp only[List.map_cons,List.map_nil,List.mem_singleton] at hb
    subst hb
    obtain⟨x,hx,hxe⟩:=List.mem_map.1 ha
    simp only[zEk,List.find?_eq_none] at hg
    exact absurd hxe (by simpa using hg x hx)
   ·rcases List.mem_append.1 hy with hy|hy
    ·exact h.range y hy
    ·have:y=e:=by simpa using hy
     subst this;exact qEe hc
 ·rw[qJb hc];exact h
def zPa:Value->Option Ent
 |.agg ⟨[.int .i64 t,.int .u64 v,.int .u64 n]⟩=> some ⟨t,v,n⟩
 |_=> none
theorem qI4 (t v n:Int):zPa (.agg #[.int .i64 t,.int .u64 v,.int .u64 n])=some ⟨t,v,n⟩:=rfl
theorem qD9 (e:Ent):zPa e.val=some e:=rfl
theorem qEa {v:Value} {e:Ent} (h:zPa v=some e):v=e.val:=by
 unfold zPa at h
 split at h
 ·cases h;rfl
 ·cases h
def zLt (H:AH GD) (k:Nat):Option (Nat × List Ent):=
 match H.get k with
 |some (.hi (.set c l))=> some (c,l)
 |_=> none
def qNt (H:AH GD) (k:Nat):Option (List Ent):=
 match H.get k with
 |some (.hi (.rset l))=> some l
 |_=> none
theorem zKk {H:AH GD} {k:Nat} {x:Nat × List Ent} (h:zLt H k=some x):H.get k=some (.hi (.set x.1 x.2)):=by
 unfold zLt at h
 split at h
 ·rename_i h2;cases h;exact h2
 ·cases h
attribute [simp] qI4 qD9 zLt qNt qBv qGo zYy
end YtnemoimbeefngaaGreat
end Go.Proofs
namespace Go.Proofs
namespace YtnemoimbeefngaaGreat
open Go.Abs
theorem qB2 {l:List Ent} {es:List MapEntry} {c:Nat} (h:zAf (zBw l) es c) (θ:Nat->Nat):es.map (fun e=> (⟨ren θ e.key,ren θ e.val,e.born⟩:MapEntry))=es:=
 zV2 θ fun e he=> by
  have:(e.key,e.val)∈zBw l:=h.1.mem_iff.1 (List.mem_map.2 ⟨e,he,rfl⟩)
  obtain⟨x,_,hp⟩:=List.mem_map.1 this
  simp only[Prod.mk.injEq] at hp
  rw[←hp.1,←hp.2]
  exact⟨rfl,rfl⟩
theorem zP.openSet {f:FuncId} {args:List Value} {K:AEnd->AH GD->Prop} {c:Nat} {l:List Ent}
  (h:∀es cc,zAf (zBw l) es cc->es.length=l.length->(∀θ,es.map (fun e=> (⟨ren θ e.key,ren θ e.val,e.born⟩:MapEntry))=es)->zP Tryz.prog cfg f args (AH.of [some (.arr 163 [.slice (some ⟨1,0,none⟩) l.length 1,.map (some 2)]),some (.arr 3 (zCr l)),some (.map es cc)]) K):
  zP Tryz.prog cfg f args (AH.of [some (.hi (.set c l))]) K:=by
 have e:zHc frag (AH.of [some (.hi (.set c l))]) 0=some (AH.of [some (.arr 163 [.slice (some ⟨1,0,none⟩) l.length 1,.map (some 2)]),some (.arr 3 (zCr l)),some (.mapq (zBw l))]):=by
  simp[zE6]
 refine zP.opn 0 e (zP.expose 2 (ps:=zBw l) rfl fun es cc hes=> ?_)
 have:=h es cc hes (by rw[hes.len,zRt]) (qB2 hes)
 rw[zOv _ _ _ (by simp)]
 exact this
theorem qMb (t v n:Int) (c:Nat) (l:List Ent) (hu:zI3 l):zP Tryz.prog cfg 143 [.pointer (some ⟨0,0,none⟩),.agg #[.int .i64 t,.int .u64 v,.int .u64 n]] (AH.of [some (.hi (.set c l))])
  fun r H'=> r=.ret (.int .i64 (zBi l ⟨t,v,n⟩))/\H'=AH.of [some (.hi (.set c (zBe l ⟨t,v,n⟩)))]:=by
 refine zP.ends ?_
 refine zP.openSet fun es cc hes hlen hren=> ?_
 refine zY (tbl:=[]) (by simp) 0 2 (af:=a143) rfl ?_
 rw[a143,b143,qB]
 refine⟨by simp,?_⟩
 have hf:=zKo hes hu
 have hg:zEk l t=none->zGd false (.int .i64 t) (.agg #[.int .i64 t,.int .u64 v,.int .u64 n]) cc es=some (es++[⟨.int .i64 t,.agg #[.int .i64 t,.int .u64 v,.int .u64 n],cc⟩],cc+1):=qB8 hes hu ⟨t,v,n⟩
 have hadd:zAf (zBw (l++[⟨t,v,n⟩])) (es++[⟨.int .i64 t,.agg #[.int .i64 t,.int .u64 v,.int .u64 n],cc⟩]) (cc+1):=qEf hes ⟨t,v,n⟩
 cases h5:zEk l t with
 |some e=>
  simp -implicitDefEqProofs [forms96,a96,b96,hf,h5,Ent.val,Ent.cells]
  repeat' (first|with_reducible apply And.intro|with_reducible intro _)
  all_goals (refine zA [.pack (GD.set c l) 0 [1,2]] [0] ?_ ?_ ?_<;> simp[zE6,AObj.mine,zBe,zBi,jN,hes, *]<;> omega)
 |none=>
  simp -implicitDefEqProofs [forms96,a96,b96,hf,h5,hg h5,zK6,zYc]
  repeat' (first|with_reducible apply And.intro|with_reducible intro _)
  all_goals first
   |omega
   |(refine zA [.pack (GD.set c l) 0 [1,2]] [0] ?_ ?_ ?_<;> simp[zE6,AObj.mine,zBe,zBi,jN,hes, *]<;> omega)
   |(subst_vars;refine zA [.pack (GD.set c (l++[⟨t,9221120237041090560,n⟩])) 0 [6,2]] [0] ?_ ?_ ?_<;> simp[zE6,AObj.mine,zBe,zBi,jN,zQm,hadd, *]<;> omega)
   |(refine zA [.pack (GD.set c (l++[⟨t,v,n⟩])) 0 [6,2]] [0] ?_ ?_ ?_<;> simp[zE6,AObj.mine,zBe,zBi,jN,zQm,hadd, *]<;> omega)
end YtnemoimbeefngaaGreat
end Go.Proofs
namespace Go.Proofs
namespace YtnemoimbeefngaaGreat
open Go.Abs
theorem qO4:zP Tryz.prog cfg 81 [] (AH.of []) fun r H'=> r=.ret (.pointer (some ⟨0,0,none⟩))/\H'=AH.of [some (.hi (.set 0 []))]:=by
 refine zP.ends ?_
 refine zY (tbl:=[]) (by simp) 0 0 (af:=a81) rfl ?_
 rw[a81,b81,qB]
 refine⟨by simp,?_⟩
 simp -implicitDefEqProofs
 refine zA [.nil 3,.pack (GD.set 0 []) 1 [2,0]] [1] ?_ ?_ ?_<;> simp[zE6,AObj.mine,zCr,zBw,zJi,zAf.nil]
def st81:qQ GD:=fun args H=> match args with
 |[]=> some (True,.ret (.pointer (some ⟨H.next,0,none⟩)),H.add (.hi (.set 0 [])))
 |_=> none
theorem qK6:qE Tryz.prog cfg 81 st81:=by
 intro args H p r H' h hp
 unfold st81 at h
 split at h
 case h_2=> cases h
 cases h
 exact qO4.atK (zAb rfl) [] (by simp) (by simp) trivial (by simp) (by simp) (by simp)
def zMi:qQ GD:=fun args H=> match args with
 |[x,y]=> (zP1 x).bind fun k=> (zPa y).bind fun e=> (zLt H k).map fun s=> (zI3 s.2,.ret (.int .i64 (zBi s.2 e)),H.upd k (.hi (.set s.1 (zBe s.2 e))))
 |_=> none
theorem qF8:qE Tryz.prog cfg 143 zMi:=by
 intro args H p r H' h hp
 unfold zMi at h
 split at h
 case h_2=> cases h
 simp only[Option.map_eq_some_iff,Option.bind_eq_some_iff] at h
 obtain⟨k,hk,e,he,s,hs,h⟩:=h
 cases h
 rw[zT2 hk,qEa he]
 exact (qMb e.t e.v e.n s.1 s.2 hp).atK (zAb rfl) [k] (by simp) (by simp) (by simp[zKk hs]) (by simp[Ent.val,Ent.cells]) (by simp) (by simp)
end YtnemoimbeefngaaGreat
end Go.Proofs
namespace Go.Proofs
namespace YtnemoimbeefngaaGreat
open Go.Abs
end YtnemoimbeefngaaGreat
end Go.Proofs
namespace Go.Proofs
namespace YtnemoimbeefngaaGreat
open Go.Abs
theorem qBq {l:List Ent} {i:Nat} {x:Ent} (h:l[i]?=some x):zC9 (l.take (i+1))=zC9 (l.take i)++[.int .i64 x.t,.int .u64 x.v,.int .u64 x.n]:=by
 rw[List.take_add_one,h]
 simp[zC9,Ent.cells]
theorem qEr {l:List Ent} {i:Nat} {x:Ent} (h:l[i]?=some x):(zCr l)[i]?=some (.int .i64 x.t):=by simp[zCr,h]
theorem qO1 (c:Nat) (l:List Ent) (hl:l.length<=8) (hu:zI3 l):zP Tryz.prog cfg 92 [.pointer (some ⟨0,0,none⟩)] (AH.of [some (.hi (.set c l))])
  fun r H'=> r=.ret (.slice (some ⟨1,0,none⟩) l.length 1)/\H'=AH.of [some (.hi (.set c l)),some (.arr 155 (zC9 l))]:=by
 refine zP.ends ?_
 refine zP.openSet fun es cc hes hlen hren=> ?_
 have hf:=zKo hes hu
 refine zY (tbl:=[]) (by simp) (l.length+1) 0 (af:=a92) rfl ?_
 rw[a92,b92,qB]
 refine⟨by simp,?_⟩
 simp -implicitDefEqProofs [zE6]
 refine zBj (jE xE (jG (by simp)) _ _ noY qX) (fun m tm H=> ∃i:Nat,m+i=l.length/\tm 0=.pointer (some ⟨0,0,none⟩)/\tm 3=.slice (some ⟨3,0,none⟩) i 1/\tm 11=.slice (some ⟨1,0,none⟩) l.length 1/\tm 12=.int .i64 l.length/\tm 13=.int .i64 i/\
  H=AH.of [some (.arr 163 [.slice (some ⟨1,0,none⟩) l.length 1,.map (some 2)]),some (.arr 3 (zCr l)),some (.map es cc),some (.arr 155 (zC9 (l.take i)))]) (m:=l.length) ?_ (by omega) ?_
 ·refine zGu [.nil 155] [0,1,2,3] [some (.arr 163 [.slice (some ⟨1,0,none⟩) l.length 1,.map (some 2)]),some (.arr 3 (zCr l)),some (.map es cc),some (.arr 155 [])] [(3,.slice (some ⟨3,0,none⟩) 0 1)] l.length (by omega) ?_ ?_ ?_ ⟨0,?_⟩<;> simp[zC9,hren]
  done
 rintro m tm H ⟨i,hm,t0,t3,t11,t12,t13,rfl⟩
 by_cases hi:i<l.length
 ·obtain⟨x,hx⟩:∃x,l[i]?=some x:=⟨l[i],List.getElem?_eq_getElem hi⟩
  have hi':(i:Int)<l.length:=by omega
  have hw:IntKind.i64.wrap ((i:Int)+1)=((i+1:Nat):Int):=by rw[qO (by omega) (by omega)];omega
  have hr1:i*3<=(zC9 (l.take i)).length:=by rw[zM6,List.length_take];omega
  have hr2:(zC9 (l.take i)).take (i*3)=zC9 (l.take i):=List.take_of_length_le (by rw[zM6,List.length_take];omega)
  have hr3:(i+1)*24<=140737488355328/\i<=9223372036854775806:=by omega
  simp -implicitDefEqProofs [t0,t3,t11,t12,t13,hi,hi',qEr hx,hf,hu.get i x hx,Ent.val,Ent.cells,hr1,hr2,hr3,hw]
  refine qN [] [0,1,2,5] [some (.arr 163 [.slice (some ⟨1,0,none⟩) l.length 1,.map (some 2)]),some (.arr 3 (zCr l)),some (.map es cc),some (.arr 155 (zC9 (l.take (i+1))))] (m - 1) (by omega) ?_ ?_ ⟨i+1,by omega,?_⟩<;> simp[t0,t3,t11,t12,t13,qBq hx,hren]
  done
 ·have hi':¬(i:Int)<l.length:=by omega
  have hil:i=l.length:=by omega
  subst hil
  simp -implicitDefEqProofs [t0,t3,t11,t12,t13,hi']
  refine zA [.pack (GD.set c l) 0 [1,2]] [0,3] ?_ ?_ ?_<;> simp[zE6,AObj.mine,hes]
end YtnemoimbeefngaaGreat
end Go.Proofs
namespace Go.Proofs
namespace YtnemoimbeefngaaGreat
open Go.Abs
end YtnemoimbeefngaaGreat
end Go.Proofs
namespace Go.Proofs
namespace YtnemoimbeefngaaGreat
open Go.Abs
def zNi:qQ GD:=fun args H=> match args with
 |[x]=> (zP1 x).bind fun k=> (zLt H k).map fun s=> (s.2.length<=8/\zI3 s.2,.ret (.slice (some ⟨H.next,0,none⟩) s.2.length 1),H.add (.arr 155 (zC9 s.2)))
 |_=> none
theorem qK4:qE Tryz.prog cfg 92 zNi:=by
 intro args H p r H' h hp
 unfold zNi at h
 split at h
 case h_2=> cases h
 simp only[Option.map_eq_some_iff,Option.bind_eq_some_iff] at h
 obtain⟨k,hk,s,hs,h⟩:=h
 cases h
 rw[zT2 hk]
 exact (qO1 s.1 s.2 hp.1 hp.2).atK (zAb rfl) [k] (by simp) (by simp) (by simp[zKk hs]) (by simp) (by simp) (by simp[jF (zKk hs)])
theorem qJa {l:List Ent} {e x:Ent} (h:x∈zBe l e):x∈l∨x=e:=by
 unfold zBe at h
 split at h
 ·rcases List.mem_append.1 h with h|h
  ·exact .inl h
  ·exact .inr (by simpa using h)
 ·exact .inl h
end YtnemoimbeefngaaGreat
end Go.Proofs
namespace Go.Proofs
namespace YtnemoimbeefngaaGreat
open Go.Abs
def getLk (H:AH GD) (k:Nat):Option (Option Int × Int):=
 match H.get k with
 |some (.hi (.lk o c))=> some (o,c)
 |_=> none
attribute [simp] getLk
theorem qOx:zP Tryz.prog cfg 97 [] (AH.of []) fun r H'=> r=.ret (.pointer (some ⟨0,0,none⟩))/\H'=AH.of [some (.hi (.lk none 0))]:=by
 refine zP.ends ?_
 refine zY (tbl:=[]) (by simp) 0 0 (af:=a97) rfl ?_
 rw[a97,b97,qB]
 refine⟨by simp,?_⟩
 simp -implicitDefEqProofs
 refine zA [.pack (GD.lk none 0) 0 []] [0] ?_ ?_ ?_<;> simp[zA2,AObj.mine]
def zHx:Option Int->Int->Value
 |none,c=> .tuple #[.int .u64 c,.int .i64 0]
 |some _,_=> .tuple #[.int .u64 0,.int .i64 7]
theorem qO5 (o:Option Int) (c:Int):zP Tryz.prog cfg 80 [.pointer (some ⟨0,0,none⟩)] (AH.of [some (.hi (.lk o c))])
  fun r H'=> r=.ret (zHx o c)/\H'=AH.of [some (.hi (.lk o c))]:=by
 refine zP.ends ?_
 cases o with
 |none=>
  refine zY (tbl:=[]) (by simp) 0 4 (af:=a80) rfl ?_
  rw[a80,b80,qB]
  refine⟨by simp,?_⟩
  simp -implicitDefEqProofs [forms128,a128,b128,forms183,a183,b183,forms129,a129,b129,forms130,a130,b130,zA2]
  refine zA [.pack (GD.lk none c) 0 []] [0] ?_ ?_ ?_<;> simp[zA2,AObj.mine,zHx]
 |some x=>
  refine zY (tbl:=[]) (by simp) 0 4 (af:=a80) rfl ?_
  rw[a80,b80,qB]
  refine⟨by simp,?_⟩
  simp -implicitDefEqProofs [forms128,a128,b128,forms183,a183,b183,forms129,a129,b129,forms130,a130,b130,zBr]
  refine zA [.pack (GD.lk (some x) c) 0 [4]] [0] ?_ ?_ ?_<;> simp[zBr,AObj.mine,zHx]
def zDx (o:Option Int) (c w at_:Int):Int:=if w<0∨4<=w then 2 else if o.isSome then 7 else if c≠at_ then 8 else if 1099511627775<=c then 4 else 0
theorem qMe (o:Option Int) (c w a:Int):zP Tryz.prog cfg 137 [.pointer (some ⟨0,0,none⟩),.int .i64 w,.int .u64 a] (AH.of [some (.hi (.lk o c))])
  fun r H'=> r=.ret (.int .i64 (zDx o c w a))/\H'=AH.of [some (.hi (if zDx o c w a=0 then .lk (some w) (IntKind.u64.wrap (c+1)) else .lk o c))]:=by
 refine zP.ends ?_
 by_cases h1:w<0
 ·have h1':¬0<=w:=by omega
  refine zY (tbl:=[]) (by simp) 0 4 (af:=a137) rfl ?_
  rw[a137,b137,qB]
  refine⟨by simp,?_⟩
  simp -implicitDefEqProofs [forms128,a128,b128,forms183,a183,b183,forms187,a187,b187,forms130,a130,b130,h1,h1']
  refine zA [] [0] ?_ ?_ ?_<;> simp[zDx,h1]
 have h1':0<=w:=by omega
 by_cases h2:4<=w
 ·have h2':¬w<4:=by omega
  refine zY (tbl:=[]) (by simp) 0 4 (af:=a137) rfl ?_
  rw[a137,b137,qB]
  refine⟨by simp,?_⟩
  simp -implicitDefEqProofs [forms128,a128,b128,forms183,a183,b183,forms187,a187,b187,forms130,a130,b130,h1,h1',h2,h2']
  refine zA [] [0] ?_ ?_ ?_<;> simp[zDx,h1,h2]
 have h2':w<4:=by omega
 cases o with
 |some x=>
  refine zY (tbl:=[]) (by simp) 0 4 (af:=a137) rfl ?_
  rw[a137,b137,qB]
  refine⟨by simp,?_⟩
  simp -implicitDefEqProofs [forms128,a128,b128,forms183,a183,b183,forms187,a187,b187,forms130,a130,b130,h1,h1',h2,h2',zBr]
  refine zA [.pack (GD.lk (some x) c) 0 [5]] [0] ?_ ?_ ?_<;> simp[zBr,AObj.mine,zDx,h1,h2]
 |none=>
  by_cases h3:c=a
  ·by_cases h4:c<1099511627775
   ·have h4':¬1099511627775<=c:=by omega
    subst h3
    refine zY (tbl:=[]) (by simp) 0 4 (af:=a137) rfl ?_
    rw[a137,b137,qB]
    refine⟨by simp,?_⟩
    simp -implicitDefEqProofs [forms128,a128,b128,forms183,a183,b183,forms187,a187,b187,forms130,a130,b130,h1,h1',h2,h2',h4,zA2]
    refine zA [.pack (GD.lk (some w) (IntKind.u64.wrap (c+1))) 0 [2]] [0] ?_ ?_ ?_<;> simp[zBr,AObj.mine,zDx,h1,h2,h4']
   ·have h4':1099511627775<=c:=by omega
    subst h3
    refine zY (tbl:=[]) (by simp) 0 4 (af:=a137) rfl ?_
    rw[a137,b137,qB]
    refine⟨by simp,?_⟩
    simp -implicitDefEqProofs [forms128,a128,b128,forms183,a183,b183,forms187,a187,b187,forms130,a130,b130,h1,h1',h2,h2',h4,zA2]
    refine zA [.pack (GD.lk none c) 0 []] [0] ?_ ?_ ?_<;> simp[zA2,AObj.mine,zDx,h1,h2,h4']
  ·refine zY (tbl:=[]) (by simp) 0 4 (af:=a137) rfl ?_
   rw[a137,b137,qB]
   refine⟨by simp,?_⟩
   simp -implicitDefEqProofs [forms128,a128,b128,forms183,a183,b183,forms187,a187,b187,forms130,a130,b130,h1,h1',h2,h2',h3,zA2]
   refine zA [.pack (GD.lk none c) 0 []] [0] ?_ ?_ ?_<;> simp[zA2,AObj.mine,zDx,h1,h2,h3]
theorem qMd (o:Option Int) (c w:Int):zP Tryz.prog cfg 139 [.pointer (some ⟨0,0,none⟩),.int .i64 w] (AH.of [some (.hi (.lk o c))])
  fun r H'=> r=.ret (.int .i64 (if o=some w then 0 else 8))/\H'=AH.of [some (.hi (if o=some w then .lk none (IntKind.u64.wrap (c+1)) else .lk o c))]:=by
 refine zP.ends ?_
 cases o with
 |none=>
  refine zY (tbl:=[]) (by simp) 0 5 (af:=a139) rfl ?_
  rw[a139,b139,qB]
  refine⟨by simp,?_⟩
  simp -implicitDefEqProofs [forms128,a128,b128,forms183,a183,b183,forms185,a185,b185,forms207,a207,b207,forms188,a188,b188,forms130,a130,b130,zA2]
  refine zA [.pack (GD.lk none c) 0 []] [0] ?_ ?_ ?_<;> simp[zA2,AObj.mine]
 |some x=>
  by_cases h:x=w
  ·subst h
   refine zY (tbl:=[]) (by simp) 0 5 (af:=a139) rfl ?_
   rw[a139,b139,qB]
   refine⟨by simp,?_⟩
   simp -implicitDefEqProofs [forms128,a128,b128,forms183,a183,b183,forms185,a185,b185,forms207,a207,b207,forms188,a188,b188,forms130,a130,b130,zBr]
   refine zA [.pack (GD.lk none (IntKind.u64.wrap (c+1))) 0 []] [0] ?_ ?_ ?_<;> simp[zA2,AObj.mine]
  ·refine zY (tbl:=[]) (by simp) 0 5 (af:=a139) rfl ?_
   rw[a139,b139,qB]
   refine⟨by simp,?_⟩
   simp -implicitDefEqProofs [forms128,a128,b128,forms183,a183,b183,forms185,a185,b185,forms207,a207,b207,forms188,a188,b188,forms130,a130,b130,zBr,h]
   refine zA [.pack (GD.lk (some x) c) 0 [5]] [0] ?_ ?_ ?_<;> simp[zBr,AObj.mine,h]
theorem qMf (o:Option Int) (c w:Int):zP Tryz.prog cfg 135 [.pointer (some ⟨0,0,none⟩),.int .i64 w] (AH.of [some (.hi (.lk o c))])
  fun r H'=> r=.ret (.int .i64 (if o=some w then 0 else 8))/\H'=AH.of [some (.hi (if o=some w then .lk none (IntKind.u64.wrap (c - 1)) else .lk o c))]:=by
 refine zP.ends ?_
 cases o with
 |none=>
  refine zY (tbl:=[]) (by simp) 0 5 (af:=a135) rfl ?_
  rw[a135,b135,qB]
  refine⟨by simp,?_⟩
  simp -implicitDefEqProofs [forms128,a128,b128,forms183,a183,b183,forms185,a185,b185,forms207,a207,b207,forms186,a186,b186,forms130,a130,b130,zA2]
  refine zA [.pack (GD.lk none c) 0 []] [0] ?_ ?_ ?_<;> simp[zA2,AObj.mine]
 |some x=>
  by_cases h:x=w
  ·subst h
   refine zY (tbl:=[]) (by simp) 0 5 (af:=a135) rfl ?_
   rw[a135,b135,qB]
   refine⟨by simp,?_⟩
   simp -implicitDefEqProofs [forms128,a128,b128,forms183,a183,b183,forms185,a185,b185,forms207,a207,b207,forms186,a186,b186,forms130,a130,b130,zBr]
   refine zA [.pack (GD.lk none (IntKind.u64.wrap (c - 1))) 0 []] [0] ?_ ?_ ?_<;> simp[zA2,AObj.mine]
  ·refine zY (tbl:=[]) (by simp) 0 5 (af:=a135) rfl ?_
   rw[a135,b135,qB]
   refine⟨by simp,?_⟩
   simp -implicitDefEqProofs [forms128,a128,b128,forms183,a183,b183,forms185,a185,b185,forms207,a207,b207,forms186,a186,b186,forms130,a130,b130,zBr,h]
   refine zA [.pack (GD.lk (some x) c) 0 [5]] [0] ?_ ?_ ?_<;> simp[zBr,AObj.mine,h]
def zP4:Option Int->Value
 |none=> .tuple #[.int .i64 0,.bool false]
 |some x=> .tuple #[.int .i64 x,.bool true]
theorem qOz (o:Option Int) (c:Int):zP Tryz.prog cfg 94 [.pointer (some ⟨0,0,none⟩)] (AH.of [some (.hi (.lk o c))])
  fun r H'=> r=.ret (zP4 o)/\H'=AH.of [some (.hi (.lk o c))]:=by
 refine zP.ends ?_
 cases o with
 |none=>
  refine zY (tbl:=[]) (by simp) 0 0 (af:=a94) rfl ?_
  rw[a94,b94,qB]
  refine⟨by simp,?_⟩
  simp -implicitDefEqProofs [zA2]
  refine zA [.pack (GD.lk none c) 0 []] [0] ?_ ?_ ?_<;> simp[zA2,AObj.mine,zP4]
 |some x=>
  refine zY (tbl:=[]) (by simp) 0 0 (af:=a94) rfl ?_
  rw[a94,b94,qB]
  refine⟨by simp,?_⟩
  simp -implicitDefEqProofs [zBr]
  refine zA [.pack (GD.lk (some x) c) 0 [1]] [0] ?_ ?_ ?_<;> simp[zBr,AObj.mine,zP4]
theorem qMg (o:Option Int) (c a:Int):zP Tryz.prog cfg 134 [.pointer (some ⟨0,0,none⟩),.int .u64 a] (AH.of [some (.hi (.lk o c))])
  fun r H'=> r=.ret (.bool (decide (c=a)))/\H'=AH.of [some (.hi (.lk o c))]:=by
 refine zP.ends ?_
 cases o with
 |none=>
  refine zY (tbl:=[]) (by simp) 0 0 (af:=a134) rfl ?_
  rw[a134,b134,qB]
  refine⟨by simp,?_⟩
  simp -implicitDefEqProofs [zA2]
  refine zA [.pack (GD.lk none c) 0 []] [0] ?_ ?_ ?_<;> simp[zA2,AObj.mine]
 |some x=>
  refine zY (tbl:=[]) (by simp) 0 0 (af:=a134) rfl ?_
  rw[a134,b134,qB]
  refine⟨by simp,?_⟩
  simp -implicitDefEqProofs [zBr]
  refine zA [.pack (GD.lk (some x) c) 0 [1]] [0] ?_ ?_ ?_<;> simp[zBr,AObj.mine]
theorem qO6 (o:Option Int) (c:Int):zP Tryz.prog cfg 49 [.pointer (some ⟨0,0,none⟩)] (AH.of [some (.hi (.lk o c))])
  fun r H'=> r=.ret (.int .u64 c)/\H'=AH.of [some (.hi (.lk o c))]:=by
 refine zP.ends ?_
 cases o with
 |none=>
  refine zY (tbl:=[]) (by simp) 0 0 (af:=a49) rfl ?_
  rw[a49,b49,qB]
  refine⟨by simp,?_⟩
  simp -implicitDefEqProofs [zA2]
  refine zA [.pack (GD.lk none c) 0 []] [0] ?_ ?_ ?_<;> simp[zA2,AObj.mine]
 |some x=>
  refine zY (tbl:=[]) (by simp) 0 0 (af:=a49) rfl ?_
  rw[a49,b49,qB]
  refine⟨by simp,?_⟩
  simp -implicitDefEqProofs [zBr]
  refine zA [.pack (GD.lk (some x) c) 0 [1]] [0] ?_ ?_ ?_<;> simp[zBr,AObj.mine]
end YtnemoimbeefngaaGreat
end Go.Proofs
namespace Go.Proofs
namespace YtnemoimbeefngaaGreat
open Go.Abs
def st97:qQ GD:=fun args H=> match args with
 |[]=> some (True,.ret (.pointer (some ⟨H.next,0,none⟩)),H.add (.hi (.lk none 0)))
 |_=> none
theorem qK2:qE Tryz.prog cfg 97 st97:=by
 intro args H p r H' h hp
 unfold st97 at h
 split at h
 case h_2=> cases h
 cases h
 exact qOx.atK (zAb rfl) [] (by simp) (by simp) trivial (by simp) (by simp) (by simp)
def d80:zBm
 |.lk o c,[]=> some (True,zHx o c,.lk o c)
 |_,_=> none
theorem zPm:qE Tryz.prog cfg 80 (qA d80):=zAm fun d rest p v d' h hp=> by
 unfold d80 at h
 split at h
 ·cases h;exact⟨rfl,by unfold zHx;split<;> rfl,qO5 _ _⟩
 ·cases h
def zQb:zBm
 |.lk o c,[.int .i64 w,.int .u64 a]=> some (True,.int .i64 (zDx o c w a),if zDx o c w a=0 then .lk (some w) (IntKind.u64.wrap (c+1)) else .lk o c)
 |_,_=> none
theorem qGa:qE Tryz.prog cfg 137 (qA zQb):=zAm fun d rest p v d' h hp=> by
 unfold zQb at h
 split at h
 ·cases h;exact⟨rfl,rfl,qMe _ _ _ _⟩
 ·cases h
def d139:zBm
 |.lk o c,[.int .i64 w]=> some (True,.int .i64 (if o=some w then 0 else 8),if o=some w then .lk none (IntKind.u64.wrap (c+1)) else .lk o c)
 |_,_=> none
theorem qF9:qE Tryz.prog cfg 139 (qA d139):=zAm fun d rest p v d' h hp=> by
 unfold d139 at h
 split at h
 ·cases h;exact⟨rfl,rfl,qMd _ _ _⟩
 ·cases h
def zG3:zBm
 |.lk o c,[.int .i64 w]=> some (True,.int .i64 (if o=some w then 0 else 8),if o=some w then .lk none (IntKind.u64.wrap (c - 1)) else .lk o c)
 |_,_=> none
theorem qGb:qE Tryz.prog cfg 135 (qA zG3):=zAm fun d rest p v d' h hp=> by
 unfold zG3 at h
 split at h
 ·cases h;exact⟨rfl,rfl,qMf _ _ _⟩
 ·cases h
def d94:zBm
 |.lk o c,[]=> some (True,zP4 o,.lk o c)
 |_,_=> none
theorem zWv:qE Tryz.prog cfg 94 (qA d94):=zAm fun d rest p v d' h hp=> by
 unfold d94 at h
 split at h
 ·cases h;exact⟨rfl,by unfold zP4;split<;> rfl,qOz _ _⟩
 ·cases h
def zKr:zBm
 |.lk o c,[.int .u64 a]=> some (True,.bool (decide (c=a)),.lk o c)
 |_,_=> none
theorem qGc:qE Tryz.prog cfg 134 (qA zKr):=zAm fun d rest p v d' h hp=> by
 unfold zKr at h
 split at h
 ·cases h;exact⟨rfl,rfl,qMg _ _ _⟩
 ·cases h
def d49:zBm
 |.lk o c,[]=> some (True,.int .u64 c,.lk o c)
 |_,_=> none
theorem qK7:qE Tryz.prog cfg 49 (qA d49):=zAm fun d rest p v d' h hp=> by
 unfold d49 at h
 split at h
 ·cases h;exact⟨rfl,rfl,qO6 _ _⟩
 ·cases h
end YtnemoimbeefngaaGreat
end Go.Proofs
namespace Go.Proofs
namespace YtnemoimbeefngaaGreat
open Go.Abs
theorem zZt (l:List Ev):jM (evs l)=true:=by
 induction l with
 |nil=> rfl
 |cons e l ih=>
  show jM (.int .u8 e.k::.int .i64 e.a::.int .i64 e.t::.int .u64 e.v::evs l)=true
  simp[jM,xD,ih]
theorem zPw (θ:Nat->Nat) (l:List Ev):xV θ (evs l)=evs l:=xI θ _ (zZt l)
attribute [simp] zPw
theorem jL (l:List Ev):(evs l).length=l.length*4:=by
 induction l with
 |nil=> rfl
 |cons e l ih=>
  show (.int .u8 e.k::.int .i64 e.a::.int .i64 e.t::.int .u64 e.v::evs l:List Value).length=_
  simp[ih];omega
theorem zX (a b:List Ev):evs (a++b)=evs a++evs b:=by simp[evs]
theorem zW (e:Ev):evs [e]=[.int .u8 e.k,.int .i64 e.a,.int .i64 e.t,.int .u64 e.v]:=rfl
theorem xJ (l:List Ev):(evs l).take (l.length*4)=evs l:=List.take_of_length_le (by simp[jL])
theorem qN0:evs []=[]:=rfl
theorem qIg (e:Ev) (l:List Ev):evs (e::l)=.int .u8 e.k::.int .i64 e.a::.int .i64 e.t::.int .u64 e.v::evs l:=rfl
def zAj:List Value->Option (List Ev)
 |[]=> some []
 |.int .u8 k::.int .i64 a::.int .i64 t::.int .u64 v::l=> (zAj l).map (⟨k,a,t,v⟩::·)
 |_=> none
theorem zRg:∀l:List Ev,zAj (evs l)=some l
 |[]=> rfl
 |e::l=> by
  show (zAj (evs l)).map (_::·)=_
  rw[zRg l];rfl
theorem zA0:∀{cs:List Value} {l:List Ev},zAj cs=some l->cs=evs l
 |cs,l,e=> by
  unfold zAj at e
  split at e
  ·cases e;rfl
  ·simp only[Option.map_eq_some_iff] at e
   obtain⟨l',e1,rfl⟩:=e
   rw[zA0 e1];rfl
  ·cases e
attribute [simp] zRg
theorem zUb {i:Nat} {x:Ev}:∀{l:List Ev},l[i]?=some x->((evs l).drop (i*4)).take 4=x.cells:=by
 induction i with
 |zero=>
  intro l h
  cases l with
  |nil=> simp at h
  |cons e l=> simp at h;subst h;rfl
 |succ i ih=>
  intro l h
  cases l with
  |nil=> simp at h
  |cons e l=>
   rw[qIg,show (i+1)*4=i*4+1+1+1+1 by omega]
   simpa using ih (l:=l) (by simpa using h)
theorem zB0 {i:Nat} {x:Ev} {l:List Ev} (h:l[i]?=some x):((evs l).drop (i*4)).take 4=[.int .u8 x.k,.int .i64 x.a,.int .i64 x.t,.int .u64 x.v]:=zUb h
theorem zIx {l:List Ev} {i:Nat} {x:Ev} (h:l[i]?=some x):(evs l)[i*4]?=some (.int .u8 x.k)/\(evs l)[i*4+1]?=some (.int .i64 x.a)/\(evs l)[i*4+2]?=some (.int .i64 x.t)/\(evs l)[i*4+3]?=some (.int .u64 x.v):=by
 have h3:=zUb h
 have g:∀j,j<4->(evs l)[i*4+j]?=x.cells[j]?:=fun j hj=> by
  rw[←h3,List.getElem?_take,if_pos hj,List.getElem?_drop]
 exact⟨g 0 (by omega),g 1 (by omega),g 2 (by omega),g 3 (by omega)⟩
theorem zA3 {l:List Ev} {i:Nat} (h:i<l.length):i*4+4<=(evs l).length:=by rw[jL];omega
def zLu (H:AH GD) (k:Nat):Option (List Ev):=match H.get k with
 |some (.ro cs)=> zAj cs
 |some (.arr _ cs)=> zAj cs
 |_=> none
theorem zO3 {H:AH GD} {k:Nat} {l:List Ev} (h:zLu H k=some l):H.get k=some (.ro (evs l))∨∃e,H.get k=some (.arr e (evs l)):=by
 unfold zLu at h
 split at h
 ·rename_i cs hk
  rw[zA0 h] at hk;exact .inl hk
 ·rename_i e cs hk
  rw[zA0 h] at hk;exact .inr ⟨e,hk⟩
 ·cases h
abbrev zPf:=List Ev->List Value->Option (Prop × Value)
def xW (g:zPf):qQ GD:=fun args H=> match args with
 |.slice (some ⟨k,0,none⟩) n _::rest=> match zLu H k with
  |some l=> if n<=l.length then (g (l.take n) rest).map fun x=> (x.1,.ret x.2,H) else none
  |none=> none
 |_=> none
theorem zYz {fid:FuncId} {g:zPf} (h:∀(l:List Ev) (n c:Nat) (rest:List Value) (p:Prop) (v:Value),n<=l.length->g (l.take n) rest=some (p,v)->p->jM rest=true/\xD v=true/\
  zP Tryz.prog cfg fid (.slice (some ⟨0,0,none⟩) n c::rest) (AH.of [some (.ro (evs l))]) fun r H'=> r=.ret v/\H'=AH.of [some (.ro (evs l))]):qE Tryz.prog cfg fid (xW g):=by
 intro args H p r H' he hp
 unfold xW at he
 split at he
 case h_2=> cases he
 rename_i k n c rest
 split at he
 case h_2=> cases he
 rename_i l hl
 split at he
 case isFalse=> cases he
 rename_i hn
 simp only[Option.map_eq_some_iff] at he
 obtain⟨⟨p',v⟩,h1,h2⟩:=he
 cases h2
 obtain⟨g1,g2,hr⟩:=h l n c rest p' v hn h1 hp
 rcases zO3 hl with hk|⟨e,hk⟩
 ·exact hr.atK (zBn fun i cs hi=> by rcases i with _|_|i<;> simp at hi⊢;exact hi) [k] (by simp) (by simp) (by simp[hk]) (by rw[xV,xI _ _ g1];simp) (by rw[zKc,zC4 _ _ g2]) (by simp[jF hk])
 ·refine zP.borrow k hk ?_
  have hk2:(H.upd k (.ro (evs l))).get k=some (.ro (evs l)):=by rw[AH.get_upd,if_pos rfl]
  have hr2:=hr.atK (H:=H.upd k (.ro (evs l))) (args:=.slice (some ⟨k,0,none⟩) n c::rest) (r':=.ret v) (H':=H.upd k (.ro (evs l))) (zBn fun i cs hi=> by rcases i with _|_|i<;> simp at hi⊢;exact hi) [k] (by simp) (by simp) (by simp[hk2]) (by rw[xV,xI _ _ g1];simp) (by rw[zKc,zC4 _ _ g2]) (by simp[jF hk2])
  refine hr2.mono ?_
  rintro r H' ⟨e1,rfl⟩
  refine⟨hk2,fun j cs2 hj hcs hne=> ⟨cs2,?_,hne⟩,e1,?_⟩
  ·rw[AH.get_upd,if_neg hj] at hcs;exact hcs
  ·rw[zWr,jF hk]
abbrev zVm:=List Ev->List Value->Option (Prop × Nat × TypeId × List Value)
def zTt (g:zVm):qQ GD:=fun args H=> match args with
 |.slice (some ⟨k,0,none⟩) n _::rest=> match zLu H k with
  |some l=> if n<=l.length then (g (l.take n) rest).map fun x=> (k<H.next/\x.1,.ret (.slice (some ⟨H.next,0,none⟩) x.2.1 1),H.add (.arr x.2.2.1 x.2.2.2)) else none
  |none=> none
 |_=> none
theorem rn_ok {fid:FuncId} {g:zVm} (h:∀(l:List Ev) (n c:Nat) (rest:List Value) (p:Prop) (m:Nat) (t:TypeId) (cs:List Value),n<=l.length->g (l.take n) rest=some (p,m,t,cs)->p->jM rest=true/\jM cs=true/\
  zP Tryz.prog cfg fid (.slice (some ⟨0,0,none⟩) n c::rest) (AH.of [some (.ro (evs l))]) fun r H'=> r=.ret (.slice (some ⟨1,0,none⟩) m 1)/\H'=AH.of [some (.ro (evs l)),some (.arr t cs)]):qE Tryz.prog cfg fid (zTt g):=by
 intro args H p r H' he hp
 unfold zTt at he
 split at he
 case h_2=> cases he
 rename_i k n c rest
 split at he
 case h_2=> cases he
 rename_i l hl
 split at he
 case isFalse=> cases he
 rename_i hn
 simp only[Option.map_eq_some_iff] at he
 obtain⟨⟨p',m,t,cs⟩,h1,h2⟩:=he
 cases h2
 obtain⟨g1,g2,hr⟩:=h l n c rest p' m t cs hn h1 hp.2
 rcases zO3 hl with hk|⟨e,hk⟩
 ·exact hr.atK (zBn fun i cs hi=> by rcases i with _|_|i<;> simp at hi⊢;exact hi) [k] (by simp) (by simp) (by simp[hk]) (by rw[xV,xI _ _ g1];simp) (by simp) (by simp[jF hk,xI _ _ g2])
 ·refine zP.borrow k hk ?_
  have hk2:(H.upd k (.ro (evs l))).get k=some (.ro (evs l)):=by rw[AH.get_upd,if_pos rfl]
  have hr2:=hr.atK (H:=H.upd k (.ro (evs l))) (args:=.slice (some ⟨k,0,none⟩) n c::rest) (r':=.ret (.slice (some ⟨H.next,0,none⟩) m 1)) (H':=(H.upd k (.ro (evs l))).add (.arr t cs)) (zBn fun i cs hi=> by rcases i with _|_|i<;> simp at hi⊢;exact hi) [k] (by simp) (by simp) (by simp[hk2]) (by rw[xV,xI _ _ g1];simp) (by simp) (by simp[jF hk2,xI _ _ g2])
  have hkl:k≠H.next:=Nat.ne_of_lt hp.1
  refine hr2.mono ?_
  rintro r H' ⟨e1,rfl⟩
  refine⟨by rw[AH.get_add,AH.next_upd,if_neg hkl,hk2],fun j cs2 hj hcs hne=> ⟨cs2,?_,hne⟩,e1,?_⟩
  ·rw[AH.get_add,AH.next_upd] at hcs
   split at hcs
   ·cases hcs
   ·rw[AH.get_upd,if_neg hj] at hcs;exact hcs
  ·refine AH.ext' (by simp) fun j=> ?_
   rw[AH.get_upd,AH.get_add,AH.get_add,AH.next_upd,AH.get_upd]
   by_cases hj:j=k
   ·subst hj;rw[if_pos rfl,if_neg hkl,hk]
   ·rw[if_neg hj,if_neg hj]
end YtnemoimbeefngaaGreat
end Go.Proofs
namespace Go.Proofs
namespace YtnemoimbeefngaaGreat
open Go.Abs
def zR (ts:Nat->Option Att) (th:Nat) (x:Option Att):Nat->Option Att:=fun i=> if i=th then x else ts i
theorem zEb (ts:Nat->Option Att) (th:Nat) (x:Option Att):zR ts th x th=x:=by simp[zR]
theorem zC3 (ts:Nat->Option Att) {th i:Nat} (x:Option Att) (h:i≠th):zR ts th x i=ts i:=by simp[zR,h]
def zCm (n:Nat) (c:Int):Att:=⟨n,c,[],[[]],false,⟨0,0,0⟩,0,0,0,0,0,false⟩
def zDu (s:NS) (th:Nat):Int:=if (s.ts th).isSome then 8 else if 64<=s.ky.length then 4 else if s.o.isSome then 7 else 0
def zAh (s:NS) (th:Nat):NS:={ s with ts:=zR s.ts th (some (zCm s.ky.length s.c)),ev:=s.ev++[⟨1,s.ky.length,0,0⟩],ky:=s.ky++[s.c+1],wy:=s.wy++[0] }
def zAo (a:Att) (hl:Nat) (x:Ak):Int:=
 if x.k=0∨7<x.k then 2
 else if (x.k=1∨x.k=2)/\(x.t<0∨(hl:Int)<=x.t) then 2
 else if x.k=2/\jN x.v=false then 3
 else if a.fs.length=1/\(x.k=4∨x.k=5) then 8
 else if 1<a.fs.length/\x.k=6 then 8
 else if 5<=a.fs.length/\x.k=3 then 4
 else 0
def zDz (s:NS) (th:Nat) (x:Ak):Int:=match s.ts th with
 |none=> 8
 |some a=> if a.asked then 7 else zAo a s.hp.length x
def qL (s:NS) (th:Nat) (x:Ak):NS:=match s.ts th with
 |none=> s
 |some a=> { s with ts:=zR s.ts th (some { a with asked:=true,ra:=x,at_:=0,nx:=0 }) }
def qP (s:NS) (th:Nat) (a:Att) (why:Int):NS:=
 { o:=if s.o=some (th:Int) then none else s.o,c:=if s.o=some (th:Int) then s.c - 1 else s.c,hp:=s.hp,ts:=zR s.ts th none,ev:=s.ev++[⟨9,a.n,0,0⟩],ky:=s.ky,wy:=s.wy.set a.n why }
def xG (s:NS) (th:Nat) (a:Att):NS:={ s with ts:=zR s.ts th none,ev:=s.ev++[⟨8,a.n,0,0⟩] }
def zCx (s:NS) (th:Nat) (a:Att):NS:={ s with ts:=zR s.ts th (some a) }
def zBd (s:NS) (th:Nat) (a:Att) (v:Int):NS:={ s with ts:=zR s.ts th (some { a with asked:=false }),ev:=s.ev++[⟨2,a.n,a.ra.t,v⟩] }
def zCu (s:NS) (th:Nat) (a:Att):Rp × NS:=
 if a.at_=4 then match s.o with
  |some o=> (qI o,s)
  |none=> (qF,zCx s th { a with seen:=s.c,at_:=5,nx:=0 })
 else if a.at_=5 then match a.es[a.nx]? with
  |none=> (qF,zCx s th { a with at_:=6 })
  |some e=> if zHb ((s.hp[e.t.toNat]?).getD 0) e.v then (qF,zCx s th { a with nx:=a.nx+1 }) else (qJ 1,qP s th a 1)
 else if s.c=a.seen then (qF,{ s with ts:=zR s.ts th (some { a with snap:=a.seen,at_:=a.back }),ky:=s.ky.set a.n (a.seen+1) })
 else (qF,zCx s th { a with at_:=4 })
def zEg (s:NS) (th:Nat) (a:Att):Rp × NS:=
 match qT a.fs a.ra.t with
 |some v=> (qG v,zBd s th a v)
 |none=>
  if a.at_=0 then (qF,zCx s th { a with val:=(s.hp[a.ra.t.toNat]?).getD 0,at_:=1 })
  else if s.c=a.snap then (if zBi a.es ⟨a.ra.t,a.val,0⟩=0 then (qG a.val,zBd s th { a with es:=zBe a.es ⟨a.ra.t,a.val,0⟩ } a.val) else (qJ 2,qP s th a 2))
  else (qF,zCx s th { a with at_:=4,back:=0 })
def zDp (s:NS) (th:Nat) (a:Att):Rp × NS:=
 if a.at_=0 then
  (if jO a.fs=[] then (qJ 0,xG { s with ev:=s.ev++[⟨7,a.n,0,0⟩] } th a) else (qF,{ s with ts:=zR s.ts th (some { a with at_:=1 }),ev:=s.ev++[⟨7,a.n,0,0⟩] }))
 else if a.at_=1 then
  (if zDx s.o s.c th a.snap=0 then (qF,{ s with o:=some (th:Int),c:=s.c+1,ts:=zR s.ts th (some { a with dec:=true,at_:=2,nx:=0 }),ky:=s.ky.set a.n (a.snap+2) })
   else if zDx s.o s.c th a.snap=4 then (qJ 2,qP s th a 2)
   else (qF,zCx s th { a with at_:=4,back:=1 }))
 else if a.at_=2 then match (jO a.fs)[a.nx]? with
  |some p=> (qF,{ s with hp:=s.hp.set p.t.toNat p.v,ts:=zR s.ts th (some { a with nx:=a.nx+1,at_:=if a.nx+1=(jO a.fs).length then 3 else 2 }) })
  |none=> (qF,s)
 else (qJ 0,xG { s with o:=none,c:=s.c+1 } th a)
def zDd (s:NS) (th:Nat) (a:Att):Rp × NS:=
 if a.ra.k=3 then (qG 0,{ s with ts:=zR s.ts th (some { a with asked:=false,fs:=zMn a.fs }),ev:=s.ev++[⟨4,a.n,0,0⟩] })
 else if a.ra.k=4 then (qG 0,{ s with ts:=zR s.ts th (some { a with asked:=false,fs:=zMx a.fs }),ev:=s.ev++[⟨5,a.n,0,0⟩] })
 else if a.ra.k=5 then (qG 0,{ s with ts:=zR s.ts th (some { a with asked:=false,fs:=zIh a.fs }),ev:=s.ev++[⟨6,a.n,0,0⟩] })
 else if zJc a.fs a.ra.t a.ra.v=0 then (qG 0,{ s with ts:=zR s.ts th (some { a with asked:=false,fs:=zMm a.fs a.ra.t a.ra.v }),ev:=s.ev++[⟨3,a.n,a.ra.t,a.ra.v⟩] })
 else (qJ 2,qP s th a 2)
def zA5 (s:NS) (th:Nat):Rp × NS:=match s.ts th with
 |none=> (qK 8,s)
 |some a=>
  if a.asked=false then (qK 8,s)
  else if 4<=a.at_ then zCu s th a
  else if a.ra.k=7 then (qJ 4,qP s th a 4)
  else if a.ra.k=6 then zDp s th a
  else if a.ra.k=1 then zEg s th a
  else zDd s th a
def zSc (s:NS) (th:Nat):Int:=match s.ts th with
 |none=> 8
 |some a=> if a.dec then 8 else 0
def zGi (s:NS) (th:Nat):NS:=match s.ts th with
 |none=> s
 |some a=> if a.dec then s else qP s th a 3
structure Att.Ok (a:Att) (s:NS):Prop where
 n:a.n<s.wy.length
 snap:0<=a.snap/\a.snap<=s.c
 es:Good a.es
 est:∀e∈a.es,e.t<s.hp.length
 fs:zAn a.fs
 fst:∀f∈a.fs,∀p∈f,0<=p.t/\p.t<s.hp.length/\0<=p.v/\p.v<18446744073709551616
 seen:0<=a.seen/\a.seen<=s.c
 val:0<=a.val/\a.val<18446744073709551616
 at_:a.at_<=6
 back:a.back<=1
 nx:a.nx<=100
 ask:a.asked=true->1<=a.ra.k/\a.ra.k<=7/\(a.ra.k=1∨a.ra.k=2->0<=a.ra.t/\a.ra.t<s.hp.length)/\0<=a.ra.v/\a.ra.v<18446744073709551616
 wr:a.asked=true->a.at_=2->a.nx<(jO a.fs).length
 kr:a.asked=true->a.at_<4->a.ra.k=1->a.at_<=1
 ko:a.asked=true->a.ra.k≠1->a.ra.k≠6->a.at_=0
 kb:a.asked=true->4<=a.at_->(a.ra.k=1/\a.back=0)∨(a.ra.k=6/\a.back=1)
 la:a.at_=5->a.nx<=a.es.length
 ww:a.asked=true->(a.ra.k=3->a.fs.length<5)/\(a.ra.k=4∨a.ra.k=5->1<a.fs.length)
 ne:a.asked=true->a.ra.k=6->a.at_≠0->jO a.fs≠[]
def qKa (o:Option Int) (th:Nat) (a:Att):Prop:=
 (a.dec=true->o=some (th:Int)/\a.asked=true/\a.ra.k=6/\(a.at_=2∨a.at_=3))/\(a.asked=true->a.ra.k=6->(a.at_=2∨a.at_=3)->a.dec=true)
structure NS.Ok (s:NS):Prop where
 hp:1<=s.hp.length/\s.hp.length<=12
 hv:∀v∈s.hp,0<=v/\v<18446744073709551616
 c:0<=s.c/\s.c<=1099511627776
 held':∀x,s.o=some x->1<=s.c/\s.c<=1099511627775
 ky:s.ky.length<=64
 kw:s.wy.length=s.ky.length
 ts:∀th a,s.ts th=some a->a.Ok s
 own:∀x,s.o=some x->∃(th:Nat) (a:Att),x=(th:Int)/\s.ts th=some a/\a.dec=true
 dec:∀th a,s.ts th=some a->qKa s.o th a
 th4:∀th,4<=th->s.ts th=none
theorem NS.Ok.held {s:NS} (h:s.Ok):∀x,s.o=some x->1<=s.c:=fun x hx=> (h.held' x hx).1
end YtnemoimbeefngaaGreat
end Go.Proofs
namespace Go.Proofs
namespace YtnemoimbeefngaaGreat
open Go.Abs
def isI (t:Int) (p:Value × Value):Bool:=match p.1 with
 |.int .i64 n=> decide (n=t)
 |_=> false
def zPg (ps:List (Value × Value)):Prop:=(∀p∈ps,∃n:Int,p.1=.int .i64 n)/\(ps.map (·.1)).Nodup
theorem zUp {ps:List (Value × Value)} {es:List MapEntry} {c:Nat} (h:zAf ps es c) (hk:zPg ps) (t:Int):zB2 false (.int .i64 t) es=some ((ps.find? (isI t)).map (·.2)):=by
 have key:∀es':List MapEntry,(∀e∈es',∃n:Int,e.key=.int .i64 n)->zB2 false (.int .i64 t) es'=some ((es'.find? fun e=> isI t (e.key,e.val)).map (·.val)):=by
  intro es'
  induction es' with
  |nil=> intro _;rfl
  |cons e es' ih=>
   intro hm
   obtain⟨n,hn⟩:=hm e (by simp)
   rw[zB2,hn,zH0,List.find?_cons]
   simp only[Bool.false_eq_true,if_false,if_true,isI,hn]
   by_cases ht:t=n
   ·simp[ht]
   ·have h1:(t==n)=false:=by simpa using ht
    have h2:decide (n=t)=false:=by simpa using fun e=> ht e.symm
    rw[h1,h2]
    have:=ih fun e he=> hm e (by simp[he])
    simpa [isI] using this
 have hes:∀e∈es,∃n:Int,e.key=.int .i64 n:=fun e he=> hk.1 (e.key,e.val) (h.1.mem_iff.1 (List.mem_map.2 ⟨e,he,rfl⟩))
 rw[key es hes]
 congr 1
 have hfp:(es.find? fun e=> isI t (e.key,e.val)).map (·.val)=((zBt es).find? (isI t)).map (·.2):=by
  unfold zBt
  rw[List.find?_map]
  cases hx:es.find? (isI t∘fun e=> (e.key,e.val)) with
  |none=>
   have:es.find? (fun e=> isI t (e.key,e.val))=none:=hx
   rw[this];rfl
  |some e=>
   have:es.find? (fun e=> isI t (e.key,e.val))=some e:=hx
   rw[this];rfl
 rw[hfp]
 have hu:∀a b:List (Value × Value),a.Perm b->(∀p∈a,∃n:Int,p.1=.int .i64 n)->(a.map (·.1)).Nodup->(a.find? (isI t)).map (·.2)=(b.find? (isI t)).map (·.2):=by
  intro a b hp
  induction hp with
  |nil=> intros;rfl
  |cons x _ ih=>
   intro h1 h2
   simp only[List.map_cons,List.nodup_cons] at h2
   rw[List.find?_cons,List.find?_cons]
   cases isI t x
   ·exact ih (fun p hp=> h1 p (by simp[hp])) h2.2
   ·rfl
  |swap x y l=>
   intro h1 h2
   simp only[List.map_cons,List.nodup_cons,List.mem_cons,not_or] at h2
   rw[List.find?_cons,List.find?_cons,List.find?_cons,List.find?_cons]
   cases hx:isI t x<;> cases hy:isI t y
   ·rfl
   ·rfl
   ·rfl
   ·exfalso
    obtain⟨n,hn⟩:=h1 x (by simp)
    obtain⟨m,hm⟩:=h1 y (by simp)
    simp only[isI,hn,hm,decide_eq_true_eq] at hx hy
    exact h2.1.1 (by rw[hn,hm,hx,hy])
  |trans p1 _ ih1 ih2=>
   intro h1 h2
   exact (ih1 h1 h2).trans (ih2 (fun p hp=> h1 p (p1.mem_iff.2 hp)) ((p1.map _).nodup_iff.1 h2))
 exact hu _ _ h.1 (fun p hp=> hk.1 p (h.1.mem_iff.1 hp)) ((h.1.map _).nodup_iff.2 hk.2)
theorem qN9 {es:List MapEntry} {c:Nat} {ps:List (Value × Value)} (h:zAf ps es c) (hk:zPg ps) (t:Int):∃es',zHf false (.int .i64 t) es=some es'/\zAf (ps.filter fun p=> !isI t p) es' c:=by
 have key:∀es':List MapEntry,(∀e∈es',∃n:Int,e.key=.int .i64 n)->((zBt es').map (·.1)).Nodup->∃es2,zHf false (.int .i64 t) es'=some es2/\zBt es2=(zBt es').filter (fun p=> !isI t p)/\(es2.map (·.born)).Sublist (es'.map (·.born)):=by
  intro es'
  induction es' with
  |nil=> intro _ _;exact⟨[],rfl,rfl,.slnil⟩
  |cons e es' ih=>
   intro hm hn
   obtain⟨n,hk⟩:=hm e (by simp)
   simp only[zBt,List.map_cons,List.nodup_cons] at hn
   obtain⟨es2,a1,a2,a3⟩:=ih (fun e he=> hm e (by simp[he])) hn.2
   rw[zHf,hk,zH0]
   simp only[Bool.false_eq_true,if_false,if_true]
   have hi:isI t (e.key,e.val)=decide (n=t):=by simp[isI,hk]
   by_cases ht:t=n
   ·refine⟨es',by simp[ht],?_,?_⟩
    ·have h1:isI t (e.key,e.val)=true:=by rw[hi];simp[ht]
     have h2:(zBt es').filter (fun p=> !isI t p)=zBt es':=by
      rw[List.filter_eq_self]
      intro p hp
      cases hx:isI t p
      ·rfl
      ·exfalso
       obtain⟨e',he',rfl⟩:=List.mem_map.1 hp
       obtain⟨m,hm2⟩:=hm e' (by simp[he'])
       simp only[isI,hm2,decide_eq_true_eq] at hx
       refine hn.1 (List.mem_map.2 ⟨(e'.key,e'.val),hp,?_⟩)
       rw[hm2,hk,hx,ht]
     show zBt es'=((e.key,e.val)::zBt es').filter _
     rw[List.filter_cons,h1]
     simp[h2]
    ·exact List.sublist_cons_self _ _
   ·have h1:(t==n)=false:=by simpa using ht
    refine⟨e::es2,by rw[h1,a1];rfl,?_,?_⟩
    ·have h2:isI t (e.key,e.val)=false:=by rw[hi];simpa using fun e=> ht e.symm
     show (e.key,e.val)::zBt es2=((e.key,e.val)::zBt es').filter _
     rw[List.filter_cons,h2,a2];rfl
    ·exact a3.cons_cons _
 obtain⟨es',a1,a2,a3⟩:=key es (fun e he=> hk.1 (e.key,e.val) (h.1.mem_iff.1 (List.mem_map.2 ⟨e,he,rfl⟩))) ((h.1.map _).nodup_iff.2 hk.2)
 refine⟨es',a1,by rw[a2];exact h.1.filter _,a3.nodup h.2.1,fun e he=> ?_⟩
 have:e.born∈es.map (·.born):=a3.subset (List.mem_map.2 ⟨e,he,rfl⟩)
 obtain⟨x,hx,hxb⟩:=List.mem_map.1 this
 rw[←hxb];exact h.2.2 x hx
theorem qAc {ps qs:List (Value × Value)} {es:List MapEntry} {c:Nat} (h:zAf ps es c) (hp:ps.Perm qs):zAf qs es c:=⟨h.1.trans hp,h.2⟩
theorem qEs (k0 k1 k2 k3:Nat) (ts:Nat->Option Att):zPg (tpK k0 k1 k2 k3 ts):=by
 unfold zPg tpK
 cases ts 0<;> cases ts 1<;> cases ts 2<;> cases ts 3<;> simp[tp1]
def jI (k:Nat) (x:Option Att):Option Value:=x.map fun _=> .pointer (some ⟨k,0,none⟩)
theorem zSr (k0 k1 k2 k3:Nat) (ts:Nat->Option Att):((tpK k0 k1 k2 k3 ts).find? (isI 0)).map (·.2)=jI k0 (ts 0):=by
 unfold tpK
 cases ts 0<;> cases ts 1<;> cases ts 2<;> cases ts 3<;> simp[tp1,isI,jI]
theorem zSq (k0 k1 k2 k3:Nat) (ts:Nat->Option Att):((tpK k0 k1 k2 k3 ts).find? (isI 1)).map (·.2)=jI k1 (ts 1):=by
 unfold tpK
 cases ts 0<;> cases ts 1<;> cases ts 2<;> cases ts 3<;> simp[tp1,isI,jI]
theorem zSp (k0 k1 k2 k3:Nat) (ts:Nat->Option Att):((tpK k0 k1 k2 k3 ts).find? (isI 2)).map (·.2)=jI k2 (ts 2):=by
 unfold tpK
 cases ts 0<;> cases ts 1<;> cases ts 2<;> cases ts 3<;> simp[tp1,isI,jI]
theorem zSo (k0 k1 k2 k3:Nat) (ts:Nat->Option Att):((tpK k0 k1 k2 k3 ts).find? (isI 3)).map (·.2)=jI k3 (ts 3):=by
 unfold tpK
 cases ts 0<;> cases ts 1<;> cases ts 2<;> cases ts 3<;> simp[tp1,isI,jI]
theorem qPt (θ:Nat->Nat) (k0 k1 k2 k3:Nat) (ts:Nat->Option Att):zJi θ (tpK k0 k1 k2 k3 ts)=tpK (θ k0) (θ k1) (θ k2) (θ k3) ts:=by
 unfold tpK
 cases ts 0<;> cases ts 1<;> cases ts 2<;> cases ts 3<;> simp[tp1,zJi,ren]
theorem qKi (k0 k1 k2 k3:Nat) (ts:Nat->Option Att) (th:Nat) {a b:Att} (h:ts th=some a):tpK k0 k1 k2 k3 (zR ts th (some b))=tpK k0 k1 k2 k3 ts:=by
 have e:∀i:Nat,∀j:Int,∀k:Nat,tp1 j k (zR ts th (some b) i)=tp1 j k (ts i):=fun i j k=> by
  by_cases hi:i=th
  ·subst hi;rw[zEb,h];rfl
  ·rw[zC3 _ _ hi]
 unfold tpK
 rw[e,e,e,e]
theorem qKj (k0 k1 k2 k3:Nat) (ts:Nat->Option Att) {th:Nat} (hth:th<4):(tpK k0 k1 k2 k3 ts).filter (fun p=> !isI (th:Int) p)=tpK k0 k1 k2 k3 (zR ts th none):=by
 have h:th=0∨th=1∨th=2∨th=3:=by omega
 unfold tpK
 rcases h with rfl|rfl|rfl|rfl<;> simp only[zR]<;> cases ts 0<;> cases ts 1<;> cases ts 2<;> cases ts 3<;> simp[tp1,isI]
theorem qEw (k k0 k1 k2 k3:Nat) (ts:Nat->Option Att) (h:ts 0=none) (a:Att):(tpK k0 k1 k2 k3 ts++[((.int .i64 0:Value),(.pointer (some ⟨k,0,none⟩):Value))]).Perm (tpK k k1 k2 k3 (zR ts 0 (some a))):=by
 have e:tpK k k1 k2 k3 (zR ts 0 (some a))=[((.int .i64 0:Value),(.pointer (some ⟨k,0,none⟩):Value))]++tpK k0 k1 k2 k3 ts:=by simp[tpK,zR,tp1,h]
 rw[e];exact List.perm_append_comm
theorem qEv (k k0 k1 k2 k3:Nat) (ts:Nat->Option Att) (h:ts 1=none) (a:Att):(tpK k0 k1 k2 k3 ts++[((.int .i64 1:Value),(.pointer (some ⟨k,0,none⟩):Value))]).Perm (tpK k0 k k2 k3 (zR ts 1 (some a))):=by
 have e1:tpK k0 k1 k2 k3 ts=tp1 0 k0 (ts 0)++(tp1 2 k2 (ts 2)++tp1 3 k3 (ts 3)):=by simp[tpK,tp1,h]
 have e2:tpK k0 k k2 k3 (zR ts 1 (some a))=tp1 0 k0 (ts 0)++([((.int .i64 1:Value),(.pointer (some ⟨k,0,none⟩):Value))]++(tp1 2 k2 (ts 2)++tp1 3 k3 (ts 3))):=by simp[tpK,zR,tp1]
 rw[e1,e2,List.append_assoc]
 exact List.Perm.append_left _ List.perm_append_comm
theorem qEu (k k0 k1 k2 k3:Nat) (ts:Nat->Option Att) (h:ts 2=none) (a:Att):(tpK k0 k1 k2 k3 ts++[((.int .i64 2:Value),(.pointer (some ⟨k,0,none⟩):Value))]).Perm (tpK k0 k1 k k3 (zR ts 2 (some a))):=by
 have e1:tpK k0 k1 k2 k3 ts=(tp1 0 k0 (ts 0)++tp1 1 k1 (ts 1))++tp1 3 k3 (ts 3):=by simp[tpK,tp1,h]
 have e2:tpK k0 k1 k k3 (zR ts 2 (some a))=(tp1 0 k0 (ts 0)++tp1 1 k1 (ts 1))++([((.int .i64 2:Value),(.pointer (some ⟨k,0,none⟩):Value))]++tp1 3 k3 (ts 3)):=by simp[tpK,zR,tp1]
 rw[e1,e2,List.append_assoc]
 exact List.Perm.append_left _ List.perm_append_comm
theorem qEt (k k0 k1 k2 k3:Nat) (ts:Nat->Option Att) (h:ts 3=none) (a:Att):(tpK k0 k1 k2 k3 ts++[((.int .i64 3:Value),(.pointer (some ⟨k,0,none⟩):Value))]).Perm (tpK k0 k1 k2 k (zR ts 3 (some a))):=by
 have e:tpK k0 k1 k2 k (zR ts 3 (some a))=tpK k0 k1 k2 k3 ts++[((.int .i64 3:Value),(.pointer (some ⟨k,0,none⟩):Value))]:=by simp[tpK,zR,tp1,h]
 rw[e]
theorem zD (a:Att):zBp (some a)=.hi (.att a):=rfl
theorem zZ:zBp none=.arr 100 []:=rfl
theorem qBw (θ:Nat->Nat) (x:Option Att):(zBp x).ren θ=zBp x:=by cases x<;> simp[zBp,zTx,zPx,xV]
theorem zZa (x:Option Att):(zBp x).mine=true:=by cases x<;> rfl
theorem qC2 (x:Option Att):leO (zBp x) (zBp x)=True:=eq_true (zUe _)
theorem zYa (l:List Int):jM (u8s l)=true:=by
 induction l with
 |nil=> rfl
 |cons e l ih=>
  show jM (.int .u8 e::u8s l)=true
  simp[jM,xD,ih]
theorem qMu (θ:Nat->Nat) (l:List Int):xV θ (u8s l)=u8s l:=xI θ _ (zYa l)
theorem zCe (l:List Int):(u8s l).length=l.length:=by simp[u8s]
theorem zHv (a b:List Int):u8s (a++b)=u8s a++u8s b:=by simp[u8s]
theorem qC (h:List Int) (i:Nat) (v:Int):(u8s h).set i (.int .u8 v)=u8s (h.set i v):=by simp[u8s,List.map_set]
theorem qE4 (l:List Int):(u8s l).take l.length=u8s l:=List.take_of_length_le (by simp[u8s])
theorem zL7 (v:Int):u8s [v]=[.int .u8 v]:=rfl
theorem qG7 (e:TypeId) (cs:List Value):(AObj.arr e cs:AObj GD).mine=true:=rfl
theorem qNe (d:GD):(AObj.hi d).mine=true:=rfl
theorem qG6 (es:List MapEntry) (c:Nat):(AObj.map es c:AObj GD).mine=true:=rfl
theorem qCo (ps:List (Value × Value)):(AObj.mapq ps:AObj GD).mine=true:=rfl
attribute [simp] qG7 qNe qG6 qCo qBw zZa qC2 zPw qMu qPt
def o1 (th:Nat):Nat:=if th=0 then 1 else 0
def o2 (th:Nat):Nat:=if th<=1 then 2 else 1
def o3 (th:Nat):Nat:=if th<=2 then 3 else 2
def tpF (th:Nat) (ts:Nat->Option Att):List (Value × Value):=match th with
 |0=> tpK 7 8 9 10 ts
 |1=> tpK 8 7 9 10 ts
 |2=> tpK 8 9 7 10 ts
 |_=> tpK 8 9 10 7 ts
def qW (s:NS) (th:Nat) (es:List MapEntry) (cc:Nat):List (Option (AObj GD)):=
 [some (.arr 90 [.pointer (some ⟨1,0,none⟩),.slice (some ⟨2,0,none⟩) s.hp.length 1,.map (some 3),.slice (some ⟨4,0,none⟩) s.ev.length 1,.slice (some ⟨5,0,none⟩) s.ky.length 1,.slice (some ⟨6,0,none⟩) s.wy.length 1]),
  some (.hi (.lk s.o s.c)),some (.arr 49 (us s.hp)),some (.map es cc),some (.arr 84 (evs s.ev)),some (.arr 38 (us s.ky)),some (.arr 61 (u8s s.wy)),some (zBp (s.ts th)),some (zBp (s.ts (o1 th))),some (zBp (s.ts (o2 th))),some (zBp (s.ts (o3 th)))]
theorem qM {th:Nat} (h:th<4):th=0∨th=1∨th=2∨th=3:=by omega
theorem zP.openEng {f:FuncId} {args:List Value} {K:AEnd->AH GD->Prop} {s:NS} {th:Nat} (hth:th<4)
  (h:∀es cc,zAf (tpF th s.ts) es cc->zP Tryz.prog cfg f args (AH.of (qW s th es cc)) K):zP Tryz.prog cfg f args (AH.of [some (.hi (.eng s))]) K:=by
 have e:zHc frag (AH.of [some (.hi (.eng s))]) 0=some (AH.of [some (.arr 90 [.pointer (some ⟨1,0,none⟩),.slice (some ⟨2,0,none⟩) s.hp.length 1,.map (some 3),.slice (some ⟨4,0,none⟩) s.ev.length 1,.slice (some ⟨5,0,none⟩) s.ky.length 1,.slice (some ⟨6,0,none⟩) s.wy.length 1]),
  some (.hi (.lk s.o s.c)),some (.arr 49 (us s.hp)),some (.mapq (tpK 7 8 9 10 s.ts)),some (.arr 84 (evs s.ev)),some (.arr 38 (us s.ky)),some (.arr 61 (u8s s.wy)),some (zBp (s.ts 0)),some (zBp (s.ts 1)),some (zBp (s.ts 2)),some (zBp (s.ts 3))]):=by
  simp[zJ]
 have see:jW Tryz.prog cfg (AH.of [some (.hi (.eng s))]) (AH.of ([some (.arr 90 [.pointer (some ⟨1,0,none⟩),.slice (some ⟨2,0,none⟩) s.hp.length 1,.map (some 3),.slice (some ⟨4,0,none⟩) s.ev.length 1,.slice (some ⟨5,0,none⟩) s.ky.length 1,.slice (some ⟨6,0,none⟩) s.wy.length 1]),
  some (.hi (.lk s.o s.c)),some (.arr 49 (us s.hp)),some (.mapq (tpF th s.ts)),some (.arr 84 (evs s.ev)),some (.arr 38 (us s.ky)),some (.arr 61 (u8s s.wy)),some (zBp (s.ts th)),some (zBp (s.ts (o1 th))),some (zBp (s.ts (o2 th))),some (zBp (s.ts (o3 th)))])):=by
  rcases qM hth with rfl|rfl|rfl|rfl
  ·exact (zGv e).names (ks:=[0,1,2,3,4,5,6,7,8,9,10]) (by simp[tpF,o1,o2,o3])
  ·exact (zGv e).names (ks:=[0,1,2,3,4,5,6,8,7,9,10]) (by simp[tpF,o1,o2,o3])
  ·exact (zGv e).names (ks:=[0,1,2,3,4,5,6,9,7,8,10]) (by simp[tpF,o1,o2,o3])
  ·exact (zGv e).names (ks:=[0,1,2,3,4,5,6,10,7,8,9]) (by simp[tpF,o1,o2,o3])
 refine zP.seesG see (zP.expose 3 (ps:=tpF th s.ts) rfl fun es cc hes=> ?_)
 have:=h es cc hes
 rw[zOv _ _ _ (by simp)]
 exact this
theorem zNd (th:Nat) (ts:Nat->Option Att):zPg (tpF th ts):=by
 unfold tpF
 split<;> exact qEs _ _ _ _ _
theorem qV {s:NS} {th:Nat} (hth:th<4) {es:List MapEntry} {cc:Nat} (h:zAf (tpF th s.ts) es cc):zB2 false (.int .i64 th) es=some (jI 7 (s.ts th)):=by
 rw[zUp h (zNd _ _)]
 rcases qM hth with rfl|rfl|rfl|rfl
 ·exact congrArg some (zSr _ _ _ _ _)
 ·exact congrArg some (zSq _ _ _ _ _)
 ·exact congrArg some (zSp _ _ _ _ _)
 ·exact congrArg some (zSo _ _ _ _ _)
theorem xS (th:Nat) (ts:Nat->Option Att) {a b:Att} (h:ts th=some a):tpF th (zR ts th (some b))=tpF th ts:=by
 unfold tpF
 split<;> exact qKi _ _ _ _ _ _ h
theorem zEs {s:NS} {th:Nat} (hth:th<4) {es:List MapEntry} {cc:Nat} (h:zAf (tpF th s.ts) es cc):∃es',zHf false (.int .i64 th) es=some es'/\zAf (tpF th (zR s.ts th none)) es' cc:=by
 obtain⟨es',h1,h2⟩:=qN9 h (zNd _ _) th
 refine⟨es',h1,?_⟩
 have e:(tpF th s.ts).filter (fun p=> !isI (th:Int) p)=tpF th (zR s.ts th none):=by
  unfold tpF
  split<;> exact qKj _ _ _ _ _ hth
 rwa [e] at h2
def tpG (th k:Nat) (ts:Nat->Option Att):List (Value × Value):=match th with
 |0=> tpK k 8 9 10 ts
 |1=> tpK 8 k 9 10 ts
 |2=> tpK 8 9 k 10 ts
 |_=> tpK 8 9 10 k ts
theorem qPw {s:NS} {th:Nat} (hth:th<4) {es:List MapEntry} {cc:Nat} (h:zAf (tpF th s.ts) es cc) (hn:s.ts th=none) (k:Nat) (a:Att):
  zGd false (.int .i64 th) (.pointer (some ⟨k,0,none⟩)) cc es=some (es++[⟨.int .i64 th,.pointer (some ⟨k,0,none⟩),cc⟩],cc+1)/\zAf (tpG th k (zR s.ts th (some a))) (es++[⟨.int .i64 th,.pointer (some ⟨k,0,none⟩),cc⟩]) (cc+1):=by
 refine⟨zPz (by rw[qV hth h,hn];rfl),qAc (h.add _ _) ?_⟩
 rcases qM hth with rfl|rfl|rfl|rfl
 ·exact qEw k 7 8 9 10 s.ts hn a
 ·exact qEv k 8 7 9 10 s.ts hn a
 ·exact qEu k 8 9 7 10 s.ts hn a
 ·exact qEt k 8 9 10 7 s.ts hn a
end YtnemoimbeefngaaGreat
end Go.Proofs
namespace Go.Proofs
namespace YtnemoimbeefngaaGreat
open Go.Abs
def tblB:List (FuncId × qQ GD):=[(80,qA d80),(81,st81),(82,st82)]
theorem qKq:∀x∈tblB,qE Tryz.prog cfg x.1 x.2:=by simp[tblB,zPm,qK6,qK5]
theorem qI0 {s:NS} {th:Nat} (h:zDu s th=0):s.ts th=none/\s.ky.length<64/\s.o=none:=by
 unfold zDu at h
 split at h
 ·cases h
 ·split at h
  ·cases h
  ·split at h
   ·cases h
   ·refine⟨?_,by omega,?_⟩
    ·cases hx:s.ts th
     ·rfl
     ·simp_all
    ·cases hx:s.o
     ·rfl
     ·simp_all
theorem zYn (s:NS) (hs:s.Ok) (hev:s.ev.length<=100000) (th:Nat) (hth:th<4) (hc:zDu s th=0):zP Tryz.prog cfg 24 [.pointer (some ⟨0,0,none⟩),.int .i64 th] (AH.of [some (.hi (.eng s))])
  fun r H'=> r=.ret (.tuple #[.int .i64 s.ky.length,.int .i64 0])/\H'=AH.of [some (.hi (.eng (zAh s th)))]:=by
 refine zP.ends ?_
 obtain⟨h1,h2,h3⟩:=qI0 hc
 refine zP.openEng hth fun es cc hes=> ?_
 have ft:=qV hth hes
 have z1:¬(th:Int)<0:=by omega
 have z2:¬4<=(th:Int):=by omega
 obtain⟨hput,hadd⟩:=qPw hth hes h1 13 (zCm s.ky.length s.c)
 have hcr:=hs.c
 have hw:IntKind.u64.wrap (s.c+1)=s.c+1:=zDw (by omega) (by omega)
 have hk1:¬(64:Int)<=s.ky.length:=by omega
 have hkl:(s.ky.length+1)*8<=140737488355328/\s.ky.length<=9223372036854775806:=by omega
 have hwl:(s.wy.length+1)<=140737488355328/\s.wy.length<=9223372036854775806:=by have:=hs.kw;omega
 have hel:(s.ev.length+1)*32<=140737488355328/\s.ev.length<=9223372036854775806:=by omega
 have t1:=zPi s.ky
 have t2:=qE4 s.wy
 have t3:=xJ s.ev
 have hpe:=hs.kw
 refine zY (tbl:=tblB) qKq 0 3 (af:=a24) rfl ?_
 rw[a24,b24,qB]
 refine⟨by simp,?_⟩
 simp -implicitDefEqProofs [qW,tblB,qA,d80,st81,st82,forms79,a79,b79,forms83,a83,b83,z1,z2,h1,h2,h3,ft,jI,zHx,hk1,hw,hkl,hwl,hel,t1,t2,t3,hput,zC5,zCe,jL]
 rcases qM hth with rfl|rfl|rfl|rfl
 ·refine zA [.pack (GD.att (zCm s.ky.length s.c)) 13 [11,12],.pack (GD.eng (zAh s 0)) 0 [1,2,3,20,15,17,13,8,9,10]] [0] ?_ ?_ ?_<;> simp[zH,zJ,zCm,Att.ask,zAh,zR,zD,zI5,zN9,zHv,zL7,zX,zW,h3,hpe,o1,o2,o3]<;> exact hadd
 ·refine zA [.pack (GD.att (zCm s.ky.length s.c)) 13 [11,12],.pack (GD.eng (zAh s 1)) 0 [1,2,3,20,15,17,8,13,9,10]] [0] ?_ ?_ ?_<;> simp[zH,zJ,zCm,Att.ask,zAh,zR,zD,zI5,zN9,zHv,zL7,zX,zW,h3,hpe,o1,o2,o3]<;> exact hadd
 ·refine zA [.pack (GD.att (zCm s.ky.length s.c)) 13 [11,12],.pack (GD.eng (zAh s 2)) 0 [1,2,3,20,15,17,8,9,13,10]] [0] ?_ ?_ ?_<;> simp[zH,zJ,zCm,Att.ask,zAh,zR,zD,zI5,zN9,zHv,zL7,zX,zW,h3,hpe,o1,o2,o3]<;> exact hadd
 ·refine zA [.pack (GD.att (zCm s.ky.length s.c)) 13 [11,12],.pack (GD.eng (zAh s 3)) 0 [1,2,3,20,15,17,8,9,10,13]] [0] ?_ ?_ ?_<;> simp[zH,zJ,zCm,Att.ask,zAh,zR,zD,zI5,zN9,zHv,zL7,zX,zW,h3,hpe,o1,o2,o3]<;> exact hadd
def zMe:List (FuncId × qQ GD):=[(80,qA d80)]
theorem zNf:∀x∈zMe,qE Tryz.prog cfg x.1 x.2:=by simp[zMe,zPm]
theorem zRn (s:NS) (hs:s.Ok) (th:Nat) (hth:th<4) (hc:zDu s th≠0):zP Tryz.prog cfg 24 [.pointer (some ⟨0,0,none⟩),.int .i64 th] (AH.of [some (.hi (.eng s))])
  fun r H'=> r=.ret (.tuple #[.int .i64 0,.int .i64 (zDu s th)])/\H'=AH.of [some (.hi (.eng s))]:=by
 refine zP.ends ?_
 refine zP.openEng hth fun es cc hes=> ?_
 have ft:=qV hth hes
 have z1:¬(th:Int)<0:=by omega
 have z2:¬4<=(th:Int):=by omega
 unfold zDu at hc⊢
 cases h1:s.ts th with
 |some a=>
  refine zY (tbl:=zMe) zNf 0 3 (af:=a24) rfl ?_
  rw[a24,b24,qB]
  refine⟨by simp,?_⟩
  simp -implicitDefEqProofs [qW,forms79,a79,b79,z1,z2,h1,ft,jI]
  rcases qM hth with rfl|rfl|rfl|rfl
  ·refine zA [.pack (GD.eng s) 0 [1,2,3,4,5,6,7,8,9,10]] [0] ?_ ?_ ?_<;> simp[zJ,h1,o1,o2,o3]<;> exact hes
  ·refine zA [.pack (GD.eng s) 0 [1,2,3,4,5,6,8,7,9,10]] [0] ?_ ?_ ?_<;> simp[zJ,h1,o1,o2,o3]<;> exact hes
  ·refine zA [.pack (GD.eng s) 0 [1,2,3,4,5,6,8,9,7,10]] [0] ?_ ?_ ?_<;> simp[zJ,h1,o1,o2,o3]<;> exact hes
  ·refine zA [.pack (GD.eng s) 0 [1,2,3,4,5,6,8,9,10,7]] [0] ?_ ?_ ?_<;> simp[zJ,h1,o1,o2,o3]<;> exact hes
 |none=>
  by_cases h2:64<=s.ky.length
  ·have h2':(64:Int)<=s.ky.length:=by omega
   refine zY (tbl:=zMe) zNf 0 3 (af:=a24) rfl ?_
   rw[a24,b24,qB]
   refine⟨by simp,?_⟩
   simp -implicitDefEqProofs [qW,forms79,a79,b79,z1,z2,h1,ft,jI,h2,h2']
   rcases qM hth with rfl|rfl|rfl|rfl
   ·refine zA [.pack (GD.eng s) 0 [1,2,3,4,5,6,7,8,9,10]] [0] ?_ ?_ ?_<;> simp[zJ,h1,o1,o2,o3]<;> exact hes
   ·refine zA [.pack (GD.eng s) 0 [1,2,3,4,5,6,8,7,9,10]] [0] ?_ ?_ ?_<;> simp[zJ,h1,o1,o2,o3]<;> exact hes
   ·refine zA [.pack (GD.eng s) 0 [1,2,3,4,5,6,8,9,7,10]] [0] ?_ ?_ ?_<;> simp[zJ,h1,o1,o2,o3]<;> exact hes
   ·refine zA [.pack (GD.eng s) 0 [1,2,3,4,5,6,8,9,10,7]] [0] ?_ ?_ ?_<;> simp[zJ,h1,o1,o2,o3]<;> exact hes
  ·have h2':¬(64:Int)<=s.ky.length:=by omega
   cases h3:s.o with
   |none=> simp[h1,h2,h3] at hc
   |some x=>
    refine zY (tbl:=zMe) zNf 0 3 (af:=a24) rfl ?_
    rw[a24,b24,qB]
    refine⟨by simp,?_⟩
    simp -implicitDefEqProofs [qW,zMe,qA,d80,forms79,a79,b79,z1,z2,h1,ft,jI,h2,h2',h3,zHx]
    rcases qM hth with rfl|rfl|rfl|rfl
    ·refine zA [.pack (GD.eng s) 0 [1,2,3,4,5,6,7,8,9,10]] [0] ?_ ?_ ?_<;> simp[zJ,h1,h3,o1,o2,o3]<;> exact hes
    ·refine zA [.pack (GD.eng s) 0 [1,2,3,4,5,6,8,7,9,10]] [0] ?_ ?_ ?_<;> simp[zJ,h1,h3,o1,o2,o3]<;> exact hes
    ·refine zA [.pack (GD.eng s) 0 [1,2,3,4,5,6,8,9,7,10]] [0] ?_ ?_ ?_<;> simp[zJ,h1,h3,o1,o2,o3]<;> exact hes
    ·refine zA [.pack (GD.eng s) 0 [1,2,3,4,5,6,8,9,10,7]] [0] ?_ ?_ ?_<;> simp[zJ,h1,h3,o1,o2,o3]<;> exact hes
theorem zNk (d:GD) (t:Int) (ht:t<0∨4<=t):zP Tryz.prog cfg 24 [.pointer (some ⟨0,0,none⟩),.int .i64 t] (AH.of [some (.hi d)])
  fun r H'=> r=.ret (.tuple #[.int .i64 0,.int .i64 2])/\H'=AH.of [some (.hi d)]:=by
 refine zP.ends ?_
 have ht':¬t<0->4<=t:=fun h=> by omega
 refine zY (tbl:=[]) (by simp) 0 3 (af:=a24) rfl ?_
 rw[a24,b24,qB]
 refine⟨by simp,?_⟩
 by_cases h1:t<0
 ·simp -implicitDefEqProofs [forms79,a79,b79,h1]
  refine zA [] [0] ?_ ?_ ?_<;> simp
 ·simp -implicitDefEqProofs [forms79,a79,b79,h1,ht' h1]
  refine zA [] [0] ?_ ?_ ?_<;> simp
def zFo (t:Int):Option Nat:=if t<0∨4<=t then none else some t.toNat
theorem zI6 {t:Int} (h:zFo t=none):t<0∨4<=t:=by
 unfold zFo at h
 split at h
 ·assumption
 ·cases h
theorem zB6 {t:Int} {th:Nat} (h:zFo t=some th):th<4/\t=(th:Int):=by
 unfold zFo at h
 split at h
 ·cases h
 ·cases h;omega
def zO7 (s:NS) (t:Int):Value:=match zFo t with
 |none=> .tuple #[.int .i64 0,.int .i64 2]
 |some th=> if zDu s th=0 then .tuple #[.int .i64 s.ky.length,.int .i64 0] else .tuple #[.int .i64 0,.int .i64 (zDu s th)]
def zDt (s:NS) (t:Int):NS:=match zFo t with
 |none=> s
 |some th=> if zDu s th=0 then zAh s th else s
def d24:zBm
 |.eng s,[.int .i64 t]=> some (s.Ok/\s.ev.length<=100000,zO7 s t,.eng (zDt s t))
 |_,_=> none
theorem zW3:qE Tryz.prog cfg 24 (qA d24):=zAm fun d rest p v d' h hp=> by
 unfold d24 at h
 split at h
 case h_2=> cases h
 rename_i s t
 cases h
 cases ht:zFo t with
 |none=> simp only[zO7,zDt,ht];exact⟨rfl,rfl,zNk _ _ (zI6 ht)⟩
 |some th=>
  obtain⟨h1,rfl⟩:=zB6 ht
  simp only[zO7,zDt,ht]
  by_cases hc:zDu s th=0
  ·rw[if_pos hc,if_pos hc];exact⟨rfl,rfl,zYn s hp.1 hp.2 th h1 hc⟩
  ·rw[if_neg hc,if_neg hc];exact⟨rfl,rfl,zRn s hp.1 th h1 hc⟩
end YtnemoimbeefngaaGreat
end Go.Proofs
namespace Go.Proofs
namespace YtnemoimbeefngaaGreat
open Go.Abs
def xC:List (FuncId × qQ GD):=[(132,qA zB5),(96,zAu)]
theorem xY:∀x∈xC,qE Tryz.prog cfg x.1 x.2:=by simp[xC,qGe,zMg]
theorem xK (a:Att) (h:a.asked=false):a.ask=⟨0,0,0⟩:=by simp[Att.ask,h]
theorem jV (a:Att) (h:a.asked=true):a.ask=a.ra:=by simp[Att.ask,h]
theorem ask_0 (s:NS) (hs:s.Ok) (th:Nat) (hth:th<4) (a:Att) (ha:s.ts th=some a) (hf:a.asked=false) (t v:Int):zP Tryz.prog cfg 27 [.pointer (some ⟨0,0,none⟩),.int .i64 th,.agg #[.int .u8 0,.int .i64 t,.int .u64 v]] (AH.of [some (.hi (.eng s))])
  fun r H'=> r=.ret (.int .i64 2)/\H'=AH.of [some (.hi (.eng s))]:=by
 refine zP.ends ?_
 refine zP.openEng hth fun es cc hes=> ?_
 have ft:=qV hth hes
 have z1:¬(th:Int)<0:=by omega
 have z2:¬4<=(th:Int):=by omega
 have hac:=xK a hf
 obtain⟨dp,hdp⟩:∃dp,(a.fs.length:Int) - 1=dp:=⟨_,rfl⟩
 refine zY (tbl:=xC) xY 0 3 (af:=a27) rfl ?_
 rw[a27,b27,qB]
 refine⟨by simp,?_⟩
 simp -implicitDefEqProofs [qW,xC,qA,zB5,zAu,forms79,a79,b79,forms84,a84,b84,z1,z2,ha,ft,jI,zD,zH,hac,hdp,]
 rcases qM hth with rfl|rfl|rfl|rfl
 ·refine zA [.pack (GD.att a) 7 [12,13],.pack (GD.eng s) 0 [1,2,3,4,5,6,7,8,9,10]] [0] ?_ ?_ ?_<;> simp[zH,zJ,hac,ha,zD,hdp,o1,o2,o3]<;> exact hes
 ·refine zA [.pack (GD.att a) 7 [12,13],.pack (GD.eng s) 0 [1,2,3,4,5,6,8,7,9,10]] [0] ?_ ?_ ?_<;> simp[zH,zJ,hac,ha,zD,hdp,o1,o2,o3]<;> exact hes
 ·refine zA [.pack (GD.att a) 7 [12,13],.pack (GD.eng s) 0 [1,2,3,4,5,6,8,9,7,10]] [0] ?_ ?_ ?_<;> simp[zH,zJ,hac,ha,zD,hdp,o1,o2,o3]<;> exact hes
 ·refine zA [.pack (GD.att a) 7 [12,13],.pack (GD.eng s) 0 [1,2,3,4,5,6,8,9,10,7]] [0] ?_ ?_ ?_<;> simp[zH,zJ,hac,ha,zD,hdp,o1,o2,o3]<;> exact hes
theorem ask_9 (s:NS) (hs:s.Ok) (th:Nat) (hth:th<4) (a:Att) (ha:s.ts th=some a) (hf:a.asked=false) (k:Int) (hk:7<k) (t v:Int):zP Tryz.prog cfg 27 [.pointer (some ⟨0,0,none⟩),.int .i64 th,.agg #[.int .u8 k,.int .i64 t,.int .u64 v]] (AH.of [some (.hi (.eng s))])
  fun r H'=> r=.ret (.int .i64 2)/\H'=AH.of [some (.hi (.eng s))]:=by
 refine zP.ends ?_
 refine zP.openEng hth fun es cc hes=> ?_
 have ft:=qV hth hes
 have z1:¬(th:Int)<0:=by omega
 have z2:¬4<=(th:Int):=by omega
 have hac:=xK a hf
 obtain⟨dp,hdp⟩:∃dp,(a.fs.length:Int) - 1=dp:=⟨_,rfl⟩
 have k0:¬k=0:=by omega
 have k1:¬k=1:=by omega
 have k2:¬k=2:=by omega
 have k7:7<k:=hk
 clear hk
 refine zY (tbl:=xC) xY 0 3 (af:=a27) rfl ?_
 rw[a27,b27,qB]
 refine⟨by simp,?_⟩
 simp -implicitDefEqProofs [qW,xC,qA,zB5,zAu,forms79,a79,b79,forms84,a84,b84,z1,z2,ha,ft,jI,zD,zH,hac,hdp,k0,k1,k2,k7]
 rcases qM hth with rfl|rfl|rfl|rfl
 ·refine zA [.pack (GD.att a) 7 [12,13],.pack (GD.eng s) 0 [1,2,3,4,5,6,7,8,9,10]] [0] ?_ ?_ ?_<;> simp[zH,zJ,hac,ha,zD,hdp,o1,o2,o3]<;> exact hes
 ·refine zA [.pack (GD.att a) 7 [12,13],.pack (GD.eng s) 0 [1,2,3,4,5,6,8,7,9,10]] [0] ?_ ?_ ?_<;> simp[zH,zJ,hac,ha,zD,hdp,o1,o2,o3]<;> exact hes
 ·refine zA [.pack (GD.att a) 7 [12,13],.pack (GD.eng s) 0 [1,2,3,4,5,6,8,9,7,10]] [0] ?_ ?_ ?_<;> simp[zH,zJ,hac,ha,zD,hdp,o1,o2,o3]<;> exact hes
 ·refine zA [.pack (GD.att a) 7 [12,13],.pack (GD.eng s) 0 [1,2,3,4,5,6,8,9,10,7]] [0] ?_ ?_ ?_<;> simp[zH,zJ,hac,ha,zD,hdp,o1,o2,o3]<;> exact hes
theorem qRo (s:NS) (hs:s.Ok) (th:Nat) (hth:th<4) (a:Att) (ha:s.ts th=some a) (hf:a.asked=false) (t v:Int) (ht:t<0):zP Tryz.prog cfg 27 [.pointer (some ⟨0,0,none⟩),.int .i64 th,.agg #[.int .u8 1,.int .i64 t,.int .u64 v]] (AH.of [some (.hi (.eng s))])
  fun r H'=> r=.ret (.int .i64 2)/\H'=AH.of [some (.hi (.eng s))]:=by
 refine zP.ends ?_
 refine zP.openEng hth fun es cc hes=> ?_
 have ft:=qV hth hes
 have z1:¬(th:Int)<0:=by omega
 have z2:¬4<=(th:Int):=by omega
 have hac:=xK a hf
 obtain⟨dp,hdp⟩:∃dp,(a.fs.length:Int) - 1=dp:=⟨_,rfl⟩
 have t1:t<0:=ht
 refine zY (tbl:=xC) xY 0 3 (af:=a27) rfl ?_
 rw[a27,b27,qB]
 refine⟨by simp,?_⟩
 simp -implicitDefEqProofs [qW,xC,qA,zB5,zAu,forms79,a79,b79,forms84,a84,b84,z1,z2,ha,ft,jI,zD,zH,hac,hdp,t1]
 rcases qM hth with rfl|rfl|rfl|rfl
 ·refine zA [.pack (GD.att a) 7 [12,13],.pack (GD.eng s) 0 [1,2,3,4,5,6,7,8,9,10]] [0] ?_ ?_ ?_<;> simp[zH,zJ,hac,ha,zD,hdp,o1,o2,o3]<;> exact hes
 ·refine zA [.pack (GD.att a) 7 [12,13],.pack (GD.eng s) 0 [1,2,3,4,5,6,8,7,9,10]] [0] ?_ ?_ ?_<;> simp[zH,zJ,hac,ha,zD,hdp,o1,o2,o3]<;> exact hes
 ·refine zA [.pack (GD.att a) 7 [12,13],.pack (GD.eng s) 0 [1,2,3,4,5,6,8,9,7,10]] [0] ?_ ?_ ?_<;> simp[zH,zJ,hac,ha,zD,hdp,o1,o2,o3]<;> exact hes
 ·refine zA [.pack (GD.att a) 7 [12,13],.pack (GD.eng s) 0 [1,2,3,4,5,6,8,9,10,7]] [0] ?_ ?_ ?_<;> simp[zH,zJ,hac,ha,zD,hdp,o1,o2,o3]<;> exact hes
theorem qRq (s:NS) (hs:s.Ok) (th:Nat) (hth:th<4) (a:Att) (ha:s.ts th=some a) (hf:a.asked=false) (t v:Int) (ht:0<=t/\(s.hp.length:Int)<=t):zP Tryz.prog cfg 27 [.pointer (some ⟨0,0,none⟩),.int .i64 th,.agg #[.int .u8 1,.int .i64 t,.int .u64 v]] (AH.of [some (.hi (.eng s))])
  fun r H'=> r=.ret (.int .i64 2)/\H'=AH.of [some (.hi (.eng s))]:=by
 refine zP.ends ?_
 refine zP.openEng hth fun es cc hes=> ?_
 have ft:=qV hth hes
 have z1:¬(th:Int)<0:=by omega
 have z2:¬4<=(th:Int):=by omega
 have hac:=xK a hf
 obtain⟨dp,hdp⟩:∃dp,(a.fs.length:Int) - 1=dp:=⟨_,rfl⟩
 have t1:¬t<0:=by omega
 have t2:(s.hp.length:Int)<=t:=ht.2
 refine zY (tbl:=xC) xY 0 3 (af:=a27) rfl ?_
 rw[a27,b27,qB]
 refine⟨by simp,?_⟩
 simp -implicitDefEqProofs [qW,xC,qA,zB5,zAu,forms79,a79,b79,forms84,a84,b84,z1,z2,ha,ft,jI,zD,zH,hac,hdp,t1,t2]
 rcases qM hth with rfl|rfl|rfl|rfl
 ·refine zA [.pack (GD.att a) 7 [12,13],.pack (GD.eng s) 0 [1,2,3,4,5,6,7,8,9,10]] [0] ?_ ?_ ?_<;> simp[zH,zJ,hac,ha,zD,hdp,o1,o2,o3]<;> exact hes
 ·refine zA [.pack (GD.att a) 7 [12,13],.pack (GD.eng s) 0 [1,2,3,4,5,6,8,7,9,10]] [0] ?_ ?_ ?_<;> simp[zH,zJ,hac,ha,zD,hdp,o1,o2,o3]<;> exact hes
 ·refine zA [.pack (GD.att a) 7 [12,13],.pack (GD.eng s) 0 [1,2,3,4,5,6,8,9,7,10]] [0] ?_ ?_ ?_<;> simp[zH,zJ,hac,ha,zD,hdp,o1,o2,o3]<;> exact hes
 ·refine zA [.pack (GD.att a) 7 [12,13],.pack (GD.eng s) 0 [1,2,3,4,5,6,8,9,10,7]] [0] ?_ ?_ ?_<;> simp[zH,zJ,hac,ha,zD,hdp,o1,o2,o3]<;> exact hes
theorem qRj (s:NS) (hs:s.Ok) (th:Nat) (hth:th<4) (a:Att) (ha:s.ts th=some a) (hf:a.asked=false) (t v:Int) (ht:t<0):zP Tryz.prog cfg 27 [.pointer (some ⟨0,0,none⟩),.int .i64 th,.agg #[.int .u8 2,.int .i64 t,.int .u64 v]] (AH.of [some (.hi (.eng s))])
  fun r H'=> r=.ret (.int .i64 2)/\H'=AH.of [some (.hi (.eng s))]:=by
 refine zP.ends ?_
 refine zP.openEng hth fun es cc hes=> ?_
 have ft:=qV hth hes
 have z1:¬(th:Int)<0:=by omega
 have z2:¬4<=(th:Int):=by omega
 have hac:=xK a hf
 obtain⟨dp,hdp⟩:∃dp,(a.fs.length:Int) - 1=dp:=⟨_,rfl⟩
 have t1:t<0:=ht
 refine zY (tbl:=xC) xY 0 3 (af:=a27) rfl ?_
 rw[a27,b27,qB]
 refine⟨by simp,?_⟩
 simp -implicitDefEqProofs [qW,xC,qA,zB5,zAu,forms79,a79,b79,forms84,a84,b84,z1,z2,ha,ft,jI,zD,zH,hac,hdp,t1]
 rcases qM hth with rfl|rfl|rfl|rfl
 ·refine zA [.pack (GD.att a) 7 [12,13],.pack (GD.eng s) 0 [1,2,3,4,5,6,7,8,9,10]] [0] ?_ ?_ ?_<;> simp[zH,zJ,hac,ha,zD,hdp,o1,o2,o3]<;> exact hes
 ·refine zA [.pack (GD.att a) 7 [12,13],.pack (GD.eng s) 0 [1,2,3,4,5,6,8,7,9,10]] [0] ?_ ?_ ?_<;> simp[zH,zJ,hac,ha,zD,hdp,o1,o2,o3]<;> exact hes
 ·refine zA [.pack (GD.att a) 7 [12,13],.pack (GD.eng s) 0 [1,2,3,4,5,6,8,9,7,10]] [0] ?_ ?_ ?_<;> simp[zH,zJ,hac,ha,zD,hdp,o1,o2,o3]<;> exact hes
 ·refine zA [.pack (GD.att a) 7 [12,13],.pack (GD.eng s) 0 [1,2,3,4,5,6,8,9,10,7]] [0] ?_ ?_ ?_<;> simp[zH,zJ,hac,ha,zD,hdp,o1,o2,o3]<;> exact hes
theorem qRl (s:NS) (hs:s.Ok) (th:Nat) (hth:th<4) (a:Att) (ha:s.ts th=some a) (hf:a.asked=false) (t v:Int) (ht:0<=t/\(s.hp.length:Int)<=t):zP Tryz.prog cfg 27 [.pointer (some ⟨0,0,none⟩),.int .i64 th,.agg #[.int .u8 2,.int .i64 t,.int .u64 v]] (AH.of [some (.hi (.eng s))])
  fun r H'=> r=.ret (.int .i64 2)/\H'=AH.of [some (.hi (.eng s))]:=by
 refine zP.ends ?_
 refine zP.openEng hth fun es cc hes=> ?_
 have ft:=qV hth hes
 have z1:¬(th:Int)<0:=by omega
 have z2:¬4<=(th:Int):=by omega
 have hac:=xK a hf
 obtain⟨dp,hdp⟩:∃dp,(a.fs.length:Int) - 1=dp:=⟨_,rfl⟩
 have t1:¬t<0:=by omega
 have t2:(s.hp.length:Int)<=t:=ht.2
 refine zY (tbl:=xC) xY 0 3 (af:=a27) rfl ?_
 rw[a27,b27,qB]
 refine⟨by simp,?_⟩
 simp -implicitDefEqProofs [qW,xC,qA,zB5,zAu,forms79,a79,b79,forms84,a84,b84,z1,z2,ha,ft,jI,zD,zH,hac,hdp,t1,t2]
 rcases qM hth with rfl|rfl|rfl|rfl
 ·refine zA [.pack (GD.att a) 7 [12,13],.pack (GD.eng s) 0 [1,2,3,4,5,6,7,8,9,10]] [0] ?_ ?_ ?_<;> simp[zH,zJ,hac,ha,zD,hdp,o1,o2,o3]<;> exact hes
 ·refine zA [.pack (GD.att a) 7 [12,13],.pack (GD.eng s) 0 [1,2,3,4,5,6,8,7,9,10]] [0] ?_ ?_ ?_<;> simp[zH,zJ,hac,ha,zD,hdp,o1,o2,o3]<;> exact hes
 ·refine zA [.pack (GD.att a) 7 [12,13],.pack (GD.eng s) 0 [1,2,3,4,5,6,8,9,7,10]] [0] ?_ ?_ ?_<;> simp[zH,zJ,hac,ha,zD,hdp,o1,o2,o3]<;> exact hes
 ·refine zA [.pack (GD.att a) 7 [12,13],.pack (GD.eng s) 0 [1,2,3,4,5,6,8,9,10,7]] [0] ?_ ?_ ?_<;> simp[zH,zJ,hac,ha,zD,hdp,o1,o2,o3]<;> exact hes
theorem qRi (s:NS) (hs:s.Ok) (th:Nat) (hth:th<4) (a:Att) (ha:s.ts th=some a) (hf:a.asked=false) (t v:Int) (ht:0<=t/\t<s.hp.length) (hv:jN v=false):zP Tryz.prog cfg 27 [.pointer (some ⟨0,0,none⟩),.int .i64 th,.agg #[.int .u8 2,.int .i64 t,.int .u64 v]] (AH.of [some (.hi (.eng s))])
  fun r H'=> r=.ret (.int .i64 3)/\H'=AH.of [some (.hi (.eng s))]:=by
 refine zP.ends ?_
 refine zP.openEng hth fun es cc hes=> ?_
 have ft:=qV hth hes
 have z1:¬(th:Int)<0:=by omega
 have z2:¬4<=(th:Int):=by omega
 have hac:=xK a hf
 obtain⟨dp,hdp⟩:∃dp,(a.fs.length:Int) - 1=dp:=⟨_,rfl⟩
 have t1:¬t<0:=by omega
 have t2:¬(s.hp.length:Int)<=t:=by omega
 have r1:jN v=false:=hv
 refine zY (tbl:=xC) xY 0 3 (af:=a27) rfl ?_
 rw[a27,b27,qB]
 refine⟨by simp,?_⟩
 simp -implicitDefEqProofs [qW,xC,qA,zB5,zAu,forms79,a79,b79,forms84,a84,b84,z1,z2,ha,ft,jI,zD,zH,hac,hdp,t1,t2,r1]
 rcases qM hth with rfl|rfl|rfl|rfl
 ·refine zA [.pack (GD.att a) 7 [12,13],.pack (GD.eng s) 0 [1,2,3,4,5,6,7,8,9,10]] [0] ?_ ?_ ?_<;> simp[zH,zJ,hac,ha,zD,hdp,o1,o2,o3]<;> exact hes
 ·refine zA [.pack (GD.att a) 7 [12,13],.pack (GD.eng s) 0 [1,2,3,4,5,6,8,7,9,10]] [0] ?_ ?_ ?_<;> simp[zH,zJ,hac,ha,zD,hdp,o1,o2,o3]<;> exact hes
 ·refine zA [.pack (GD.att a) 7 [12,13],.pack (GD.eng s) 0 [1,2,3,4,5,6,8,9,7,10]] [0] ?_ ?_ ?_<;> simp[zH,zJ,hac,ha,zD,hdp,o1,o2,o3]<;> exact hes
 ·refine zA [.pack (GD.att a) 7 [12,13],.pack (GD.eng s) 0 [1,2,3,4,5,6,8,9,10,7]] [0] ?_ ?_ ?_<;> simp[zH,zJ,hac,ha,zD,hdp,o1,o2,o3]<;> exact hes
theorem qRn (s:NS) (hs:s.Ok) (th:Nat) (hth:th<4) (a:Att) (ha:s.ts th=some a) (hf:a.asked=false) (t v:Int) (ht:0<=t/\t<s.hp.length) (hd:a.fs.length=1):zP Tryz.prog cfg 27 [.pointer (some ⟨0,0,none⟩),.int .i64 th,.agg #[.int .u8 1,.int .i64 t,.int .u64 v]] (AH.of [some (.hi (.eng s))])
  fun r H'=> r=.ret (.int .i64 0)/\H'=AH.of [some (.hi (.eng (qL s th ⟨1,t,v⟩)))]:=by
 refine zP.ends ?_
 refine zP.openEng hth fun es cc hes=> ?_
 have ft:=qV hth hes
 have z1:¬(th:Int)<0:=by omega
 have z2:¬4<=(th:Int):=by omega
 have hac:=xK a hf
 obtain⟨dp,hdp⟩:∃dp,(a.fs.length:Int) - 1=dp:=⟨_,rfl⟩
 have t1:¬t<0:=by omega
 have t2:¬(s.hp.length:Int)<=t:=by omega
 have e1:(dp=0)=True:=eq_true (by omega)
 have e2:(0<dp)=False:=eq_false (by omega)
 have e3:(4<=dp)=False:=eq_false (by omega)
 refine zY (tbl:=xC) xY 0 3 (af:=a27) rfl ?_
 rw[a27,b27,qB]
 refine⟨by simp,?_⟩
 simp -implicitDefEqProofs [qW,xC,qA,zB5,zAu,forms79,a79,b79,forms84,a84,b84,z1,z2,ha,ft,jI,zD,zH,hac,hdp,t1,t2,e1,e2,e3]
 have htp:=xS th s.ts (b:={ a with asked:=true,ra:=⟨1,t,v⟩,at_:=0,nx:=0 }) ha
 rw[←htp] at hes
 rcases qM hth with rfl|rfl|rfl|rfl
 ·refine zA [.pack (GD.att { a with asked:=true,ra:=⟨1,t,v⟩,at_:=0,nx:=0 }) 7 [12,13],.pack (GD.eng (qL s 0 ⟨1,t,v⟩)) 0 [1,2,3,4,5,6,7,8,9,10]] [0] ?_ ?_ ?_<;> simp[zH,zJ,Att.ask,qL,zR,ha,zD,o1,o2,o3,hdp]<;> exact hes
 ·refine zA [.pack (GD.att { a with asked:=true,ra:=⟨1,t,v⟩,at_:=0,nx:=0 }) 7 [12,13],.pack (GD.eng (qL s 1 ⟨1,t,v⟩)) 0 [1,2,3,4,5,6,8,7,9,10]] [0] ?_ ?_ ?_<;> simp[zH,zJ,Att.ask,qL,zR,ha,zD,o1,o2,o3,hdp]<;> exact hes
 ·refine zA [.pack (GD.att { a with asked:=true,ra:=⟨1,t,v⟩,at_:=0,nx:=0 }) 7 [12,13],.pack (GD.eng (qL s 2 ⟨1,t,v⟩)) 0 [1,2,3,4,5,6,8,9,7,10]] [0] ?_ ?_ ?_<;> simp[zH,zJ,Att.ask,qL,zR,ha,zD,o1,o2,o3,hdp]<;> exact hes
 ·refine zA [.pack (GD.att { a with asked:=true,ra:=⟨1,t,v⟩,at_:=0,nx:=0 }) 7 [12,13],.pack (GD.eng (qL s 3 ⟨1,t,v⟩)) 0 [1,2,3,4,5,6,8,9,10,7]] [0] ?_ ?_ ?_<;> simp[zH,zJ,Att.ask,qL,zR,ha,zD,o1,o2,o3,hdp]<;> exact hes
theorem qRh (s:NS) (hs:s.Ok) (th:Nat) (hth:th<4) (a:Att) (ha:s.ts th=some a) (hf:a.asked=false) (t v:Int) (ht:0<=t/\t<s.hp.length) (hv:jN v=true) (hd:a.fs.length=1):zP Tryz.prog cfg 27 [.pointer (some ⟨0,0,none⟩),.int .i64 th,.agg #[.int .u8 2,.int .i64 t,.int .u64 v]] (AH.of [some (.hi (.eng s))])
  fun r H'=> r=.ret (.int .i64 0)/\H'=AH.of [some (.hi (.eng (qL s th ⟨2,t,v⟩)))]:=by
 refine zP.ends ?_
 refine zP.openEng hth fun es cc hes=> ?_
 have ft:=qV hth hes
 have z1:¬(th:Int)<0:=by omega
 have z2:¬4<=(th:Int):=by omega
 have hac:=xK a hf
 obtain⟨dp,hdp⟩:∃dp,(a.fs.length:Int) - 1=dp:=⟨_,rfl⟩
 have t1:¬t<0:=by omega
 have t2:¬(s.hp.length:Int)<=t:=by omega
 have r1:jN v=true:=hv
 have e1:(dp=0)=True:=eq_true (by omega)
 have e2:(0<dp)=False:=eq_false (by omega)
 have e3:(4<=dp)=False:=eq_false (by omega)
 refine zY (tbl:=xC) xY 0 3 (af:=a27) rfl ?_
 rw[a27,b27,qB]
 refine⟨by simp,?_⟩
 simp -implicitDefEqProofs [qW,xC,qA,zB5,zAu,forms79,a79,b79,forms84,a84,b84,z1,z2,ha,ft,jI,zD,zH,hac,hdp,t1,t2,r1,e1,e2,e3]
 have htp:=xS th s.ts (b:={ a with asked:=true,ra:=⟨2,t,v⟩,at_:=0,nx:=0 }) ha
 rw[←htp] at hes
 rcases qM hth with rfl|rfl|rfl|rfl
 ·refine zA [.pack (GD.att { a with asked:=true,ra:=⟨2,t,v⟩,at_:=0,nx:=0 }) 7 [12,13],.pack (GD.eng (qL s 0 ⟨2,t,v⟩)) 0 [1,2,3,4,5,6,7,8,9,10]] [0] ?_ ?_ ?_<;> simp[zH,zJ,Att.ask,qL,zR,ha,zD,o1,o2,o3,hdp]<;> exact hes
 ·refine zA [.pack (GD.att { a with asked:=true,ra:=⟨2,t,v⟩,at_:=0,nx:=0 }) 7 [12,13],.pack (GD.eng (qL s 1 ⟨2,t,v⟩)) 0 [1,2,3,4,5,6,8,7,9,10]] [0] ?_ ?_ ?_<;> simp[zH,zJ,Att.ask,qL,zR,ha,zD,o1,o2,o3,hdp]<;> exact hes
 ·refine zA [.pack (GD.att { a with asked:=true,ra:=⟨2,t,v⟩,at_:=0,nx:=0 }) 7 [12,13],.pack (GD.eng (qL s 2 ⟨2,t,v⟩)) 0 [1,2,3,4,5,6,8,9,7,10]] [0] ?_ ?_ ?_<;> simp[zH,zJ,Att.ask,qL,zR,ha,zD,o1,o2,o3,hdp]<;> exact hes
 ·refine zA [.pack (GD.att { a with asked:=true,ra:=⟨2,t,v⟩,at_:=0,nx:=0 }) 7 [12,13],.pack (GD.eng (qL s 3 ⟨2,t,v⟩)) 0 [1,2,3,4,5,6,8,9,10,7]] [0] ?_ ?_ ?_<;> simp[zH,zJ,Att.ask,qL,zR,ha,zD,o1,o2,o3,hdp]<;> exact hes
theorem qRe (s:NS) (hs:s.Ok) (th:Nat) (hth:th<4) (a:Att) (ha:s.ts th=some a) (hf:a.asked=false) (t v:Int) (hd:a.fs.length=1):zP Tryz.prog cfg 27 [.pointer (some ⟨0,0,none⟩),.int .i64 th,.agg #[.int .u8 3,.int .i64 t,.int .u64 v]] (AH.of [some (.hi (.eng s))])
  fun r H'=> r=.ret (.int .i64 0)/\H'=AH.of [some (.hi (.eng (qL s th ⟨3,t,v⟩)))]:=by
 refine zP.ends ?_
 refine zP.openEng hth fun es cc hes=> ?_
 have ft:=qV hth hes
 have z1:¬(th:Int)<0:=by omega
 have z2:¬4<=(th:Int):=by omega
 have hac:=xK a hf
 obtain⟨dp,hdp⟩:∃dp,(a.fs.length:Int) - 1=dp:=⟨_,rfl⟩
 have e1:(dp=0)=True:=eq_true (by omega)
 have e2:(0<dp)=False:=eq_false (by omega)
 have e3:(4<=dp)=False:=eq_false (by omega)
 refine zY (tbl:=xC) xY 0 3 (af:=a27) rfl ?_
 rw[a27,b27,qB]
 refine⟨by simp,?_⟩
 simp -implicitDefEqProofs [qW,xC,qA,zB5,zAu,forms79,a79,b79,forms84,a84,b84,z1,z2,ha,ft,jI,zD,zH,hac,hdp,e1,e2,e3]
 have htp:=xS th s.ts (b:={ a with asked:=true,ra:=⟨3,t,v⟩,at_:=0,nx:=0 }) ha
 rw[←htp] at hes
 rcases qM hth with rfl|rfl|rfl|rfl
 ·refine zA [.pack (GD.att { a with asked:=true,ra:=⟨3,t,v⟩,at_:=0,nx:=0 }) 7 [12,13],.pack (GD.eng (qL s 0 ⟨3,t,v⟩)) 0 [1,2,3,4,5,6,7,8,9,10]] [0] ?_ ?_ ?_<;> simp[zH,zJ,Att.ask,qL,zR,ha,zD,o1,o2,o3,hdp]<;> exact hes
 ·refine zA [.pack (GD.att { a with asked:=true,ra:=⟨3,t,v⟩,at_:=0,nx:=0 }) 7 [12,13],.pack (GD.eng (qL s 1 ⟨3,t,v⟩)) 0 [1,2,3,4,5,6,8,7,9,10]] [0] ?_ ?_ ?_<;> simp[zH,zJ,Att.ask,qL,zR,ha,zD,o1,o2,o3,hdp]<;> exact hes
 ·refine zA [.pack (GD.att { a with asked:=true,ra:=⟨3,t,v⟩,at_:=0,nx:=0 }) 7 [12,13],.pack (GD.eng (qL s 2 ⟨3,t,v⟩)) 0 [1,2,3,4,5,6,8,9,7,10]] [0] ?_ ?_ ?_<;> simp[zH,zJ,Att.ask,qL,zR,ha,zD,o1,o2,o3,hdp]<;> exact hes
 ·refine zA [.pack (GD.att { a with asked:=true,ra:=⟨3,t,v⟩,at_:=0,nx:=0 }) 7 [12,13],.pack (GD.eng (qL s 3 ⟨3,t,v⟩)) 0 [1,2,3,4,5,6,8,9,10,7]] [0] ?_ ?_ ?_<;> simp[zH,zJ,Att.ask,qL,zR,ha,zD,o1,o2,o3,hdp]<;> exact hes
theorem qRb (s:NS) (hs:s.Ok) (th:Nat) (hth:th<4) (a:Att) (ha:s.ts th=some a) (hf:a.asked=false) (t v:Int) (hd:a.fs.length=1):zP Tryz.prog cfg 27 [.pointer (some ⟨0,0,none⟩),.int .i64 th,.agg #[.int .u8 4,.int .i64 t,.int .u64 v]] (AH.of [some (.hi (.eng s))])
  fun r H'=> r=.ret (.int .i64 8)/\H'=AH.of [some (.hi (.eng s))]:=by
 refine zP.ends ?_
 refine zP.openEng hth fun es cc hes=> ?_
 have ft:=qV hth hes
 have z1:¬(th:Int)<0:=by omega
 have z2:¬4<=(th:Int):=by omega
 have hac:=xK a hf
 obtain⟨dp,hdp⟩:∃dp,(a.fs.length:Int) - 1=dp:=⟨_,rfl⟩
 have e1:(dp=0)=True:=eq_true (by omega)
 have e2:(0<dp)=False:=eq_false (by omega)
 have e3:(4<=dp)=False:=eq_false (by omega)
 refine zY (tbl:=xC) xY 0 3 (af:=a27) rfl ?_
 rw[a27,b27,qB]
 refine⟨by simp,?_⟩
 simp -implicitDefEqProofs [qW,xC,qA,zB5,zAu,forms79,a79,b79,forms84,a84,b84,z1,z2,ha,ft,jI,zD,zH,hac,hdp,e1,e2,e3]
 rcases qM hth with rfl|rfl|rfl|rfl
 ·refine zA [.pack (GD.att a) 7 [12,13],.pack (GD.eng s) 0 [1,2,3,4,5,6,7,8,9,10]] [0] ?_ ?_ ?_<;> simp[zH,zJ,hac,ha,zD,hdp,o1,o2,o3]<;> exact hes
 ·refine zA [.pack (GD.att a) 7 [12,13],.pack (GD.eng s) 0 [1,2,3,4,5,6,8,7,9,10]] [0] ?_ ?_ ?_<;> simp[zH,zJ,hac,ha,zD,hdp,o1,o2,o3]<;> exact hes
 ·refine zA [.pack (GD.att a) 7 [12,13],.pack (GD.eng s) 0 [1,2,3,4,5,6,8,9,7,10]] [0] ?_ ?_ ?_<;> simp[zH,zJ,hac,ha,zD,hdp,o1,o2,o3]<;> exact hes
 ·refine zA [.pack (GD.att a) 7 [12,13],.pack (GD.eng s) 0 [1,2,3,4,5,6,8,9,10,7]] [0] ?_ ?_ ?_<;> simp[zH,zJ,hac,ha,zD,hdp,o1,o2,o3]<;> exact hes
theorem qQ8 (s:NS) (hs:s.Ok) (th:Nat) (hth:th<4) (a:Att) (ha:s.ts th=some a) (hf:a.asked=false) (t v:Int) (hd:a.fs.length=1):zP Tryz.prog cfg 27 [.pointer (some ⟨0,0,none⟩),.int .i64 th,.agg #[.int .u8 5,.int .i64 t,.int .u64 v]] (AH.of [some (.hi (.eng s))])
  fun r H'=> r=.ret (.int .i64 8)/\H'=AH.of [some (.hi (.eng s))]:=by
 refine zP.ends ?_
 refine zP.openEng hth fun es cc hes=> ?_
 have ft:=qV hth hes
 have z1:¬(th:Int)<0:=by omega
 have z2:¬4<=(th:Int):=by omega
 have hac:=xK a hf
 obtain⟨dp,hdp⟩:∃dp,(a.fs.length:Int) - 1=dp:=⟨_,rfl⟩
 have e1:(dp=0)=True:=eq_true (by omega)
 have e2:(0<dp)=False:=eq_false (by omega)
 have e3:(4<=dp)=False:=eq_false (by omega)
 refine zY (tbl:=xC) xY 0 3 (af:=a27) rfl ?_
 rw[a27,b27,qB]
 refine⟨by simp,?_⟩
 simp -implicitDefEqProofs [qW,xC,qA,zB5,zAu,forms79,a79,b79,forms84,a84,b84,z1,z2,ha,ft,jI,zD,zH,hac,hdp,e1,e2,e3]
 rcases qM hth with rfl|rfl|rfl|rfl
 ·refine zA [.pack (GD.att a) 7 [12,13],.pack (GD.eng s) 0 [1,2,3,4,5,6,7,8,9,10]] [0] ?_ ?_ ?_<;> simp[zH,zJ,hac,ha,zD,hdp,o1,o2,o3]<;> exact hes
 ·refine zA [.pack (GD.att a) 7 [12,13],.pack (GD.eng s) 0 [1,2,3,4,5,6,8,7,9,10]] [0] ?_ ?_ ?_<;> simp[zH,zJ,hac,ha,zD,hdp,o1,o2,o3]<;> exact hes
 ·refine zA [.pack (GD.att a) 7 [12,13],.pack (GD.eng s) 0 [1,2,3,4,5,6,8,9,7,10]] [0] ?_ ?_ ?_<;> simp[zH,zJ,hac,ha,zD,hdp,o1,o2,o3]<;> exact hes
 ·refine zA [.pack (GD.att a) 7 [12,13],.pack (GD.eng s) 0 [1,2,3,4,5,6,8,9,10,7]] [0] ?_ ?_ ?_<;> simp[zH,zJ,hac,ha,zD,hdp,o1,o2,o3]<;> exact hes
theorem qQ5 (s:NS) (hs:s.Ok) (th:Nat) (hth:th<4) (a:Att) (ha:s.ts th=some a) (hf:a.asked=false) (t v:Int) (hd:a.fs.length=1):zP Tryz.prog cfg 27 [.pointer (some ⟨0,0,none⟩),.int .i64 th,.agg #[.int .u8 6,.int .i64 t,.int .u64 v]] (AH.of [some (.hi (.eng s))])
  fun r H'=> r=.ret (.int .i64 0)/\H'=AH.of [some (.hi (.eng (qL s th ⟨6,t,v⟩)))]:=by
 refine zP.ends ?_
 refine zP.openEng hth fun es cc hes=> ?_
 have ft:=qV hth hes
 have z1:¬(th:Int)<0:=by omega
 have z2:¬4<=(th:Int):=by omega
 have hac:=xK a hf
 obtain⟨dp,hdp⟩:∃dp,(a.fs.length:Int) - 1=dp:=⟨_,rfl⟩
 have e1:(dp=0)=True:=eq_true (by omega)
 have e2:(0<dp)=False:=eq_false (by omega)
 have e3:(4<=dp)=False:=eq_false (by omega)
 refine zY (tbl:=xC) xY 0 3 (af:=a27) rfl ?_
 rw[a27,b27,qB]
 refine⟨by simp,?_⟩
 simp -implicitDefEqProofs [qW,xC,qA,zB5,zAu,forms79,a79,b79,forms84,a84,b84,z1,z2,ha,ft,jI,zD,zH,hac,hdp,e1,e2,e3]
 have htp:=xS th s.ts (b:={ a with asked:=true,ra:=⟨6,t,v⟩,at_:=0,nx:=0 }) ha
 rw[←htp] at hes
 rcases qM hth with rfl|rfl|rfl|rfl
 ·refine zA [.pack (GD.att { a with asked:=true,ra:=⟨6,t,v⟩,at_:=0,nx:=0 }) 7 [12,13],.pack (GD.eng (qL s 0 ⟨6,t,v⟩)) 0 [1,2,3,4,5,6,7,8,9,10]] [0] ?_ ?_ ?_<;> simp[zH,zJ,Att.ask,qL,zR,ha,zD,o1,o2,o3,hdp]<;> exact hes
 ·refine zA [.pack (GD.att { a with asked:=true,ra:=⟨6,t,v⟩,at_:=0,nx:=0 }) 7 [12,13],.pack (GD.eng (qL s 1 ⟨6,t,v⟩)) 0 [1,2,3,4,5,6,8,7,9,10]] [0] ?_ ?_ ?_<;> simp[zH,zJ,Att.ask,qL,zR,ha,zD,o1,o2,o3,hdp]<;> exact hes
 ·refine zA [.pack (GD.att { a with asked:=true,ra:=⟨6,t,v⟩,at_:=0,nx:=0 }) 7 [12,13],.pack (GD.eng (qL s 2 ⟨6,t,v⟩)) 0 [1,2,3,4,5,6,8,9,7,10]] [0] ?_ ?_ ?_<;> simp[zH,zJ,Att.ask,qL,zR,ha,zD,o1,o2,o3,hdp]<;> exact hes
 ·refine zA [.pack (GD.att { a with asked:=true,ra:=⟨6,t,v⟩,at_:=0,nx:=0 }) 7 [12,13],.pack (GD.eng (qL s 3 ⟨6,t,v⟩)) 0 [1,2,3,4,5,6,8,9,10,7]] [0] ?_ ?_ ?_<;> simp[zH,zJ,Att.ask,qL,zR,ha,zD,o1,o2,o3,hdp]<;> exact hes
theorem qQ2 (s:NS) (hs:s.Ok) (th:Nat) (hth:th<4) (a:Att) (ha:s.ts th=some a) (hf:a.asked=false) (t v:Int) (hd:a.fs.length=1):zP Tryz.prog cfg 27 [.pointer (some ⟨0,0,none⟩),.int .i64 th,.agg #[.int .u8 7,.int .i64 t,.int .u64 v]] (AH.of [some (.hi (.eng s))])
  fun r H'=> r=.ret (.int .i64 0)/\H'=AH.of [some (.hi (.eng (qL s th ⟨7,t,v⟩)))]:=by
 refine zP.ends ?_
 refine zP.openEng hth fun es cc hes=> ?_
 have ft:=qV hth hes
 have z1:¬(th:Int)<0:=by omega
 have z2:¬4<=(th:Int):=by omega
 have hac:=xK a hf
 obtain⟨dp,hdp⟩:∃dp,(a.fs.length:Int) - 1=dp:=⟨_,rfl⟩
 have e1:(dp=0)=True:=eq_true (by omega)
 have e2:(0<dp)=False:=eq_false (by omega)
 have e3:(4<=dp)=False:=eq_false (by omega)
 refine zY (tbl:=xC) xY 0 3 (af:=a27) rfl ?_
 rw[a27,b27,qB]
 refine⟨by simp,?_⟩
 simp -implicitDefEqProofs [qW,xC,qA,zB5,zAu,forms79,a79,b79,forms84,a84,b84,z1,z2,ha,ft,jI,zD,zH,hac,hdp,e1,e2,e3]
 have htp:=xS th s.ts (b:={ a with asked:=true,ra:=⟨7,t,v⟩,at_:=0,nx:=0 }) ha
 rw[←htp] at hes
 rcases qM hth with rfl|rfl|rfl|rfl
 ·refine zA [.pack (GD.att { a with asked:=true,ra:=⟨7,t,v⟩,at_:=0,nx:=0 }) 7 [12,13],.pack (GD.eng (qL s 0 ⟨7,t,v⟩)) 0 [1,2,3,4,5,6,7,8,9,10]] [0] ?_ ?_ ?_<;> simp[zH,zJ,Att.ask,qL,zR,ha,zD,o1,o2,o3,hdp]<;> exact hes
 ·refine zA [.pack (GD.att { a with asked:=true,ra:=⟨7,t,v⟩,at_:=0,nx:=0 }) 7 [12,13],.pack (GD.eng (qL s 1 ⟨7,t,v⟩)) 0 [1,2,3,4,5,6,8,7,9,10]] [0] ?_ ?_ ?_<;> simp[zH,zJ,Att.ask,qL,zR,ha,zD,o1,o2,o3,hdp]<;> exact hes
 ·refine zA [.pack (GD.att { a with asked:=true,ra:=⟨7,t,v⟩,at_:=0,nx:=0 }) 7 [12,13],.pack (GD.eng (qL s 2 ⟨7,t,v⟩)) 0 [1,2,3,4,5,6,8,9,7,10]] [0] ?_ ?_ ?_<;> simp[zH,zJ,Att.ask,qL,zR,ha,zD,o1,o2,o3,hdp]<;> exact hes
 ·refine zA [.pack (GD.att { a with asked:=true,ra:=⟨7,t,v⟩,at_:=0,nx:=0 }) 7 [12,13],.pack (GD.eng (qL s 3 ⟨7,t,v⟩)) 0 [1,2,3,4,5,6,8,9,10,7]] [0] ?_ ?_ ?_<;> simp[zH,zJ,Att.ask,qL,zR,ha,zD,o1,o2,o3,hdp]<;> exact hes
theorem qRp (s:NS) (hs:s.Ok) (th:Nat) (hth:th<4) (a:Att) (ha:s.ts th=some a) (hf:a.asked=false) (t v:Int) (ht:0<=t/\t<s.hp.length) (hd:a.fs.length≠1/\1<=a.fs.length/\a.fs.length<5):zP Tryz.prog cfg 27 [.pointer (some ⟨0,0,none⟩),.int .i64 th,.agg #[.int .u8 1,.int .i64 t,.int .u64 v]] (AH.of [some (.hi (.eng s))])
  fun r H'=> r=.ret (.int .i64 0)/\H'=AH.of [some (.hi (.eng (qL s th ⟨1,t,v⟩)))]:=by
 refine zP.ends ?_
 refine zP.openEng hth fun es cc hes=> ?_
 have ft:=qV hth hes
 have z1:¬(th:Int)<0:=by omega
 have z2:¬4<=(th:Int):=by omega
 have hac:=xK a hf
 obtain⟨dp,hdp⟩:∃dp,(a.fs.length:Int) - 1=dp:=⟨_,rfl⟩
 have t1:¬t<0:=by omega
 have t2:¬(s.hp.length:Int)<=t:=by omega
 have e1:(dp=0)=False:=eq_false (by omega)
 have e2:(0<dp)=True:=eq_true (by omega)
 have e3:(4<=dp)=False:=eq_false (by omega)
 refine zY (tbl:=xC) xY 0 3 (af:=a27) rfl ?_
 rw[a27,b27,qB]
 refine⟨by simp,?_⟩
 simp -implicitDefEqProofs [qW,xC,qA,zB5,zAu,forms79,a79,b79,forms84,a84,b84,z1,z2,ha,ft,jI,zD,zH,hac,hdp,t1,t2,e1,e2,e3]
 have htp:=xS th s.ts (b:={ a with asked:=true,ra:=⟨1,t,v⟩,at_:=0,nx:=0 }) ha
 rw[←htp] at hes
 rcases qM hth with rfl|rfl|rfl|rfl
 ·refine zA [.pack (GD.att { a with asked:=true,ra:=⟨1,t,v⟩,at_:=0,nx:=0 }) 7 [12,13],.pack (GD.eng (qL s 0 ⟨1,t,v⟩)) 0 [1,2,3,4,5,6,7,8,9,10]] [0] ?_ ?_ ?_<;> simp[zH,zJ,Att.ask,qL,zR,ha,zD,o1,o2,o3,hdp]<;> exact hes
 ·refine zA [.pack (GD.att { a with asked:=true,ra:=⟨1,t,v⟩,at_:=0,nx:=0 }) 7 [12,13],.pack (GD.eng (qL s 1 ⟨1,t,v⟩)) 0 [1,2,3,4,5,6,8,7,9,10]] [0] ?_ ?_ ?_<;> simp[zH,zJ,Att.ask,qL,zR,ha,zD,o1,o2,o3,hdp]<;> exact hes
 ·refine zA [.pack (GD.att { a with asked:=true,ra:=⟨1,t,v⟩,at_:=0,nx:=0 }) 7 [12,13],.pack (GD.eng (qL s 2 ⟨1,t,v⟩)) 0 [1,2,3,4,5,6,8,9,7,10]] [0] ?_ ?_ ?_<;> simp[zH,zJ,Att.ask,qL,zR,ha,zD,o1,o2,o3,hdp]<;> exact hes
 ·refine zA [.pack (GD.att { a with asked:=true,ra:=⟨1,t,v⟩,at_:=0,nx:=0 }) 7 [12,13],.pack (GD.eng (qL s 3 ⟨1,t,v⟩)) 0 [1,2,3,4,5,6,8,9,10,7]] [0] ?_ ?_ ?_<;> simp[zH,zJ,Att.ask,qL,zR,ha,zD,o1,o2,o3,hdp]<;> exact hes
theorem qRk (s:NS) (hs:s.Ok) (th:Nat) (hth:th<4) (a:Att) (ha:s.ts th=some a) (hf:a.asked=false) (t v:Int) (ht:0<=t/\t<s.hp.length) (hv:jN v=true) (hd:a.fs.length≠1/\1<=a.fs.length/\a.fs.length<5):zP Tryz.prog cfg 27 [.pointer (some ⟨0,0,none⟩),.int .i64 th,.agg #[.int .u8 2,.int .i64 t,.int .u64 v]] (AH.of [some (.hi (.eng s))])
  fun r H'=> r=.ret (.int .i64 0)/\H'=AH.of [some (.hi (.eng (qL s th ⟨2,t,v⟩)))]:=by
 refine zP.ends ?_
 refine zP.openEng hth fun es cc hes=> ?_
 have ft:=qV hth hes
 have z1:¬(th:Int)<0:=by omega
 have z2:¬4<=(th:Int):=by omega
 have hac:=xK a hf
 obtain⟨dp,hdp⟩:∃dp,(a.fs.length:Int) - 1=dp:=⟨_,rfl⟩
 have t1:¬t<0:=by omega
 have t2:¬(s.hp.length:Int)<=t:=by omega
 have r1:jN v=true:=hv
 have e1:(dp=0)=False:=eq_false (by omega)
 have e2:(0<dp)=True:=eq_true (by omega)
 have e3:(4<=dp)=False:=eq_false (by omega)
 refine zY (tbl:=xC) xY 0 3 (af:=a27) rfl ?_
 rw[a27,b27,qB]
 refine⟨by simp,?_⟩
 simp -implicitDefEqProofs [qW,xC,qA,zB5,zAu,forms79,a79,b79,forms84,a84,b84,z1,z2,ha,ft,jI,zD,zH,hac,hdp,t1,t2,r1,e1,e2,e3]
 have htp:=xS th s.ts (b:={ a with asked:=true,ra:=⟨2,t,v⟩,at_:=0,nx:=0 }) ha
 rw[←htp] at hes
 rcases qM hth with rfl|rfl|rfl|rfl
 ·refine zA [.pack (GD.att { a with asked:=true,ra:=⟨2,t,v⟩,at_:=0,nx:=0 }) 7 [12,13],.pack (GD.eng (qL s 0 ⟨2,t,v⟩)) 0 [1,2,3,4,5,6,7,8,9,10]] [0] ?_ ?_ ?_<;> simp[zH,zJ,Att.ask,qL,zR,ha,zD,o1,o2,o3,hdp]<;> exact hes
 ·refine zA [.pack (GD.att { a with asked:=true,ra:=⟨2,t,v⟩,at_:=0,nx:=0 }) 7 [12,13],.pack (GD.eng (qL s 1 ⟨2,t,v⟩)) 0 [1,2,3,4,5,6,8,7,9,10]] [0] ?_ ?_ ?_<;> simp[zH,zJ,Att.ask,qL,zR,ha,zD,o1,o2,o3,hdp]<;> exact hes
 ·refine zA [.pack (GD.att { a with asked:=true,ra:=⟨2,t,v⟩,at_:=0,nx:=0 }) 7 [12,13],.pack (GD.eng (qL s 2 ⟨2,t,v⟩)) 0 [1,2,3,4,5,6,8,9,7,10]] [0] ?_ ?_ ?_<;> simp[zH,zJ,Att.ask,qL,zR,ha,zD,o1,o2,o3,hdp]<;> exact hes
 ·refine zA [.pack (GD.att { a with asked:=true,ra:=⟨2,t,v⟩,at_:=0,nx:=0 }) 7 [12,13],.pack (GD.eng (qL s 3 ⟨2,t,v⟩)) 0 [1,2,3,4,5,6,8,9,10,7]] [0] ?_ ?_ ?_<;> simp[zH,zJ,Att.ask,qL,zR,ha,zD,o1,o2,o3,hdp]<;> exact hes
theorem qRf (s:NS) (hs:s.Ok) (th:Nat) (hth:th<4) (a:Att) (ha:s.ts th=some a) (hf:a.asked=false) (t v:Int) (hd:a.fs.length≠1/\1<=a.fs.length/\a.fs.length<5):zP Tryz.prog cfg 27 [.pointer (some ⟨0,0,none⟩),.int .i64 th,.agg #[.int .u8 3,.int .i64 t,.int .u64 v]] (AH.of [some (.hi (.eng s))])
  fun r H'=> r=.ret (.int .i64 0)/\H'=AH.of [some (.hi (.eng (qL s th ⟨3,t,v⟩)))]:=by
 refine zP.ends ?_
 refine zP.openEng hth fun es cc hes=> ?_
 have ft:=qV hth hes
 have z1:¬(th:Int)<0:=by omega
 have z2:¬4<=(th:Int):=by omega
 have hac:=xK a hf
 obtain⟨dp,hdp⟩:∃dp,(a.fs.length:Int) - 1=dp:=⟨_,rfl⟩
 have e1:(dp=0)=False:=eq_false (by omega)
 have e2:(0<dp)=True:=eq_true (by omega)
 have e3:(4<=dp)=False:=eq_false (by omega)
 refine zY (tbl:=xC) xY 0 3 (af:=a27) rfl ?_
 rw[a27,b27,qB]
 refine⟨by simp,?_⟩
 simp -implicitDefEqProofs [qW,xC,qA,zB5,zAu,forms79,a79,b79,forms84,a84,b84,z1,z2,ha,ft,jI,zD,zH,hac,hdp,e1,e2,e3]
 have htp:=xS th s.ts (b:={ a with asked:=true,ra:=⟨3,t,v⟩,at_:=0,nx:=0 }) ha
 rw[←htp] at hes
 rcases qM hth with rfl|rfl|rfl|rfl
 ·refine zA [.pack (GD.att { a with asked:=true,ra:=⟨3,t,v⟩,at_:=0,nx:=0 }) 7 [12,13],.pack (GD.eng (qL s 0 ⟨3,t,v⟩)) 0 [1,2,3,4,5,6,7,8,9,10]] [0] ?_ ?_ ?_<;> simp[zH,zJ,Att.ask,qL,zR,ha,zD,o1,o2,o3,hdp]<;> exact hes
 ·refine zA [.pack (GD.att { a with asked:=true,ra:=⟨3,t,v⟩,at_:=0,nx:=0 }) 7 [12,13],.pack (GD.eng (qL s 1 ⟨3,t,v⟩)) 0 [1,2,3,4,5,6,8,7,9,10]] [0] ?_ ?_ ?_<;> simp[zH,zJ,Att.ask,qL,zR,ha,zD,o1,o2,o3,hdp]<;> exact hes
 ·refine zA [.pack (GD.att { a with asked:=true,ra:=⟨3,t,v⟩,at_:=0,nx:=0 }) 7 [12,13],.pack (GD.eng (qL s 2 ⟨3,t,v⟩)) 0 [1,2,3,4,5,6,8,9,7,10]] [0] ?_ ?_ ?_<;> simp[zH,zJ,Att.ask,qL,zR,ha,zD,o1,o2,o3,hdp]<;> exact hes
 ·refine zA [.pack (GD.att { a with asked:=true,ra:=⟨3,t,v⟩,at_:=0,nx:=0 }) 7 [12,13],.pack (GD.eng (qL s 3 ⟨3,t,v⟩)) 0 [1,2,3,4,5,6,8,9,10,7]] [0] ?_ ?_ ?_<;> simp[zH,zJ,Att.ask,qL,zR,ha,zD,o1,o2,o3,hdp]<;> exact hes
theorem qRc (s:NS) (hs:s.Ok) (th:Nat) (hth:th<4) (a:Att) (ha:s.ts th=some a) (hf:a.asked=false) (t v:Int) (hd:a.fs.length≠1/\1<=a.fs.length/\a.fs.length<5):zP Tryz.prog cfg 27 [.pointer (some ⟨0,0,none⟩),.int .i64 th,.agg #[.int .u8 4,.int .i64 t,.int .u64 v]] (AH.of [some (.hi (.eng s))])
  fun r H'=> r=.ret (.int .i64 0)/\H'=AH.of [some (.hi (.eng (qL s th ⟨4,t,v⟩)))]:=by
 refine zP.ends ?_
 refine zP.openEng hth fun es cc hes=> ?_
 have ft:=qV hth hes
 have z1:¬(th:Int)<0:=by omega
 have z2:¬4<=(th:Int):=by omega
 have hac:=xK a hf
 obtain⟨dp,hdp⟩:∃dp,(a.fs.length:Int) - 1=dp:=⟨_,rfl⟩
 have e1:(dp=0)=False:=eq_false (by omega)
 have e2:(0<dp)=True:=eq_true (by omega)
 have e3:(4<=dp)=False:=eq_false (by omega)
 refine zY (tbl:=xC) xY 0 3 (af:=a27) rfl ?_
 rw[a27,b27,qB]
 refine⟨by simp,?_⟩
 simp -implicitDefEqProofs [qW,xC,qA,zB5,zAu,forms79,a79,b79,forms84,a84,b84,z1,z2,ha,ft,jI,zD,zH,hac,hdp,e1,e2,e3]
 have htp:=xS th s.ts (b:={ a with asked:=true,ra:=⟨4,t,v⟩,at_:=0,nx:=0 }) ha
 rw[←htp] at hes
 rcases qM hth with rfl|rfl|rfl|rfl
 ·refine zA [.pack (GD.att { a with asked:=true,ra:=⟨4,t,v⟩,at_:=0,nx:=0 }) 7 [12,13],.pack (GD.eng (qL s 0 ⟨4,t,v⟩)) 0 [1,2,3,4,5,6,7,8,9,10]] [0] ?_ ?_ ?_<;> simp[zH,zJ,Att.ask,qL,zR,ha,zD,o1,o2,o3,hdp]<;> exact hes
 ·refine zA [.pack (GD.att { a with asked:=true,ra:=⟨4,t,v⟩,at_:=0,nx:=0 }) 7 [12,13],.pack (GD.eng (qL s 1 ⟨4,t,v⟩)) 0 [1,2,3,4,5,6,8,7,9,10]] [0] ?_ ?_ ?_<;> simp[zH,zJ,Att.ask,qL,zR,ha,zD,o1,o2,o3,hdp]<;> exact hes
 ·refine zA [.pack (GD.att { a with asked:=true,ra:=⟨4,t,v⟩,at_:=0,nx:=0 }) 7 [12,13],.pack (GD.eng (qL s 2 ⟨4,t,v⟩)) 0 [1,2,3,4,5,6,8,9,7,10]] [0] ?_ ?_ ?_<;> simp[zH,zJ,Att.ask,qL,zR,ha,zD,o1,o2,o3,hdp]<;> exact hes
 ·refine zA [.pack (GD.att { a with asked:=true,ra:=⟨4,t,v⟩,at_:=0,nx:=0 }) 7 [12,13],.pack (GD.eng (qL s 3 ⟨4,t,v⟩)) 0 [1,2,3,4,5,6,8,9,10,7]] [0] ?_ ?_ ?_<;> simp[zH,zJ,Att.ask,qL,zR,ha,zD,o1,o2,o3,hdp]<;> exact hes
theorem qQ9 (s:NS) (hs:s.Ok) (th:Nat) (hth:th<4) (a:Att) (ha:s.ts th=some a) (hf:a.asked=false) (t v:Int) (hd:a.fs.length≠1/\1<=a.fs.length/\a.fs.length<5):zP Tryz.prog cfg 27 [.pointer (some ⟨0,0,none⟩),.int .i64 th,.agg #[.int .u8 5,.int .i64 t,.int .u64 v]] (AH.of [some (.hi (.eng s))])
  fun r H'=> r=.ret (.int .i64 0)/\H'=AH.of [some (.hi (.eng (qL s th ⟨5,t,v⟩)))]:=by
 refine zP.ends ?_
 refine zP.openEng hth fun es cc hes=> ?_
 have ft:=qV hth hes
 have z1:¬(th:Int)<0:=by omega
 have z2:¬4<=(th:Int):=by omega
 have hac:=xK a hf
 obtain⟨dp,hdp⟩:∃dp,(a.fs.length:Int) - 1=dp:=⟨_,rfl⟩
 have e1:(dp=0)=False:=eq_false (by omega)
 have e2:(0<dp)=True:=eq_true (by omega)
 have e3:(4<=dp)=False:=eq_false (by omega)
 refine zY (tbl:=xC) xY 0 3 (af:=a27) rfl ?_
 rw[a27,b27,qB]
 refine⟨by simp,?_⟩
 simp -implicitDefEqProofs [qW,xC,qA,zB5,zAu,forms79,a79,b79,forms84,a84,b84,z1,z2,ha,ft,jI,zD,zH,hac,hdp,e1,e2,e3]
 have htp:=xS th s.ts (b:={ a with asked:=true,ra:=⟨5,t,v⟩,at_:=0,nx:=0 }) ha
 rw[←htp] at hes
 rcases qM hth with rfl|rfl|rfl|rfl
 ·refine zA [.pack (GD.att { a with asked:=true,ra:=⟨5,t,v⟩,at_:=0,nx:=0 }) 7 [12,13],.pack (GD.eng (qL s 0 ⟨5,t,v⟩)) 0 [1,2,3,4,5,6,7,8,9,10]] [0] ?_ ?_ ?_<;> simp[zH,zJ,Att.ask,qL,zR,ha,zD,o1,o2,o3,hdp]<;> exact hes
 ·refine zA [.pack (GD.att { a with asked:=true,ra:=⟨5,t,v⟩,at_:=0,nx:=0 }) 7 [12,13],.pack (GD.eng (qL s 1 ⟨5,t,v⟩)) 0 [1,2,3,4,5,6,8,7,9,10]] [0] ?_ ?_ ?_<;> simp[zH,zJ,Att.ask,qL,zR,ha,zD,o1,o2,o3,hdp]<;> exact hes
 ·refine zA [.pack (GD.att { a with asked:=true,ra:=⟨5,t,v⟩,at_:=0,nx:=0 }) 7 [12,13],.pack (GD.eng (qL s 2 ⟨5,t,v⟩)) 0 [1,2,3,4,5,6,8,9,7,10]] [0] ?_ ?_ ?_<;> simp[zH,zJ,Att.ask,qL,zR,ha,zD,o1,o2,o3,hdp]<;> exact hes
 ·refine zA [.pack (GD.att { a with asked:=true,ra:=⟨5,t,v⟩,at_:=0,nx:=0 }) 7 [12,13],.pack (GD.eng (qL s 3 ⟨5,t,v⟩)) 0 [1,2,3,4,5,6,8,9,10,7]] [0] ?_ ?_ ?_<;> simp[zH,zJ,Att.ask,qL,zR,ha,zD,o1,o2,o3,hdp]<;> exact hes
theorem qQ6 (s:NS) (hs:s.Ok) (th:Nat) (hth:th<4) (a:Att) (ha:s.ts th=some a) (hf:a.asked=false) (t v:Int) (hd:a.fs.length≠1/\1<=a.fs.length/\a.fs.length<5):zP Tryz.prog cfg 27 [.pointer (some ⟨0,0,none⟩),.int .i64 th,.agg #[.int .u8 6,.int .i64 t,.int .u64 v]] (AH.of [some (.hi (.eng s))])
  fun r H'=> r=.ret (.int .i64 8)/\H'=AH.of [some (.hi (.eng s))]:=by
 refine zP.ends ?_
 refine zP.openEng hth fun es cc hes=> ?_
 have ft:=qV hth hes
 have z1:¬(th:Int)<0:=by omega
 have z2:¬4<=(th:Int):=by omega
 have hac:=xK a hf
 obtain⟨dp,hdp⟩:∃dp,(a.fs.length:Int) - 1=dp:=⟨_,rfl⟩
 have e1:(dp=0)=False:=eq_false (by omega)
 have e2:(0<dp)=True:=eq_true (by omega)
 have e3:(4<=dp)=False:=eq_false (by omega)
 refine zY (tbl:=xC) xY 0 3 (af:=a27) rfl ?_
 rw[a27,b27,qB]
 refine⟨by simp,?_⟩
 simp -implicitDefEqProofs [qW,xC,qA,zB5,zAu,forms79,a79,b79,forms84,a84,b84,z1,z2,ha,ft,jI,zD,zH,hac,hdp,e1,e2,e3]
 rcases qM hth with rfl|rfl|rfl|rfl
 ·refine zA [.pack (GD.att a) 7 [12,13],.pack (GD.eng s) 0 [1,2,3,4,5,6,7,8,9,10]] [0] ?_ ?_ ?_<;> simp[zH,zJ,hac,ha,zD,hdp,o1,o2,o3]<;> exact hes
 ·refine zA [.pack (GD.att a) 7 [12,13],.pack (GD.eng s) 0 [1,2,3,4,5,6,8,7,9,10]] [0] ?_ ?_ ?_<;> simp[zH,zJ,hac,ha,zD,hdp,o1,o2,o3]<;> exact hes
 ·refine zA [.pack (GD.att a) 7 [12,13],.pack (GD.eng s) 0 [1,2,3,4,5,6,8,9,7,10]] [0] ?_ ?_ ?_<;> simp[zH,zJ,hac,ha,zD,hdp,o1,o2,o3]<;> exact hes
 ·refine zA [.pack (GD.att a) 7 [12,13],.pack (GD.eng s) 0 [1,2,3,4,5,6,8,9,10,7]] [0] ?_ ?_ ?_<;> simp[zH,zJ,hac,ha,zD,hdp,o1,o2,o3]<;> exact hes
theorem qQ3 (s:NS) (hs:s.Ok) (th:Nat) (hth:th<4) (a:Att) (ha:s.ts th=some a) (hf:a.asked=false) (t v:Int) (hd:a.fs.length≠1/\1<=a.fs.length/\a.fs.length<5):zP Tryz.prog cfg 27 [.pointer (some ⟨0,0,none⟩),.int .i64 th,.agg #[.int .u8 7,.int .i64 t,.int .u64 v]] (AH.of [some (.hi (.eng s))])
  fun r H'=> r=.ret (.int .i64 0)/\H'=AH.of [some (.hi (.eng (qL s th ⟨7,t,v⟩)))]:=by
 refine zP.ends ?_
 refine zP.openEng hth fun es cc hes=> ?_
 have ft:=qV hth hes
 have z1:¬(th:Int)<0:=by omega
 have z2:¬4<=(th:Int):=by omega
 have hac:=xK a hf
 obtain⟨dp,hdp⟩:∃dp,(a.fs.length:Int) - 1=dp:=⟨_,rfl⟩
 have e1:(dp=0)=False:=eq_false (by omega)
 have e2:(0<dp)=True:=eq_true (by omega)
 have e3:(4<=dp)=False:=eq_false (by omega)
 refine zY (tbl:=xC) xY 0 3 (af:=a27) rfl ?_
 rw[a27,b27,qB]
 refine⟨by simp,?_⟩
 simp -implicitDefEqProofs [qW,xC,qA,zB5,zAu,forms79,a79,b79,forms84,a84,b84,z1,z2,ha,ft,jI,zD,zH,hac,hdp,e1,e2,e3]
 have htp:=xS th s.ts (b:={ a with asked:=true,ra:=⟨7,t,v⟩,at_:=0,nx:=0 }) ha
 rw[←htp] at hes
 rcases qM hth with rfl|rfl|rfl|rfl
 ·refine zA [.pack (GD.att { a with asked:=true,ra:=⟨7,t,v⟩,at_:=0,nx:=0 }) 7 [12,13],.pack (GD.eng (qL s 0 ⟨7,t,v⟩)) 0 [1,2,3,4,5,6,7,8,9,10]] [0] ?_ ?_ ?_<;> simp[zH,zJ,Att.ask,qL,zR,ha,zD,o1,o2,o3,hdp]<;> exact hes
 ·refine zA [.pack (GD.att { a with asked:=true,ra:=⟨7,t,v⟩,at_:=0,nx:=0 }) 7 [12,13],.pack (GD.eng (qL s 1 ⟨7,t,v⟩)) 0 [1,2,3,4,5,6,8,7,9,10]] [0] ?_ ?_ ?_<;> simp[zH,zJ,Att.ask,qL,zR,ha,zD,o1,o2,o3,hdp]<;> exact hes
 ·refine zA [.pack (GD.att { a with asked:=true,ra:=⟨7,t,v⟩,at_:=0,nx:=0 }) 7 [12,13],.pack (GD.eng (qL s 2 ⟨7,t,v⟩)) 0 [1,2,3,4,5,6,8,9,7,10]] [0] ?_ ?_ ?_<;> simp[zH,zJ,Att.ask,qL,zR,ha,zD,o1,o2,o3,hdp]<;> exact hes
 ·refine zA [.pack (GD.att { a with asked:=true,ra:=⟨7,t,v⟩,at_:=0,nx:=0 }) 7 [12,13],.pack (GD.eng (qL s 3 ⟨7,t,v⟩)) 0 [1,2,3,4,5,6,8,9,10,7]] [0] ?_ ?_ ?_<;> simp[zH,zJ,Att.ask,qL,zR,ha,zD,o1,o2,o3,hdp]<;> exact hes
theorem qRr (s:NS) (hs:s.Ok) (th:Nat) (hth:th<4) (a:Att) (ha:s.ts th=some a) (hf:a.asked=false) (t v:Int) (ht:0<=t/\t<s.hp.length) (hd:a.fs.length≥5):zP Tryz.prog cfg 27 [.pointer (some ⟨0,0,none⟩),.int .i64 th,.agg #[.int .u8 1,.int .i64 t,.int .u64 v]] (AH.of [some (.hi (.eng s))])
  fun r H'=> r=.ret (.int .i64 0)/\H'=AH.of [some (.hi (.eng (qL s th ⟨1,t,v⟩)))]:=by
 refine zP.ends ?_
 refine zP.openEng hth fun es cc hes=> ?_
 have ft:=qV hth hes
 have z1:¬(th:Int)<0:=by omega
 have z2:¬4<=(th:Int):=by omega
 have hac:=xK a hf
 obtain⟨dp,hdp⟩:∃dp,(a.fs.length:Int) - 1=dp:=⟨_,rfl⟩
 have t1:¬t<0:=by omega
 have t2:¬(s.hp.length:Int)<=t:=by omega
 have e1:(dp=0)=False:=eq_false (by omega)
 have e2:(0<dp)=True:=eq_true (by omega)
 have e3:(4<=dp)=True:=eq_true (by omega)
 refine zY (tbl:=xC) xY 0 3 (af:=a27) rfl ?_
 rw[a27,b27,qB]
 refine⟨by simp,?_⟩
 simp -implicitDefEqProofs [qW,xC,qA,zB5,zAu,forms79,a79,b79,forms84,a84,b84,z1,z2,ha,ft,jI,zD,zH,hac,hdp,t1,t2,e1,e2,e3]
 have htp:=xS th s.ts (b:={ a with asked:=true,ra:=⟨1,t,v⟩,at_:=0,nx:=0 }) ha
 rw[←htp] at hes
 rcases qM hth with rfl|rfl|rfl|rfl
 ·refine zA [.pack (GD.att { a with asked:=true,ra:=⟨1,t,v⟩,at_:=0,nx:=0 }) 7 [12,13],.pack (GD.eng (qL s 0 ⟨1,t,v⟩)) 0 [1,2,3,4,5,6,7,8,9,10]] [0] ?_ ?_ ?_<;> simp[zH,zJ,Att.ask,qL,zR,ha,zD,o1,o2,o3,hdp]<;> exact hes
 ·refine zA [.pack (GD.att { a with asked:=true,ra:=⟨1,t,v⟩,at_:=0,nx:=0 }) 7 [12,13],.pack (GD.eng (qL s 1 ⟨1,t,v⟩)) 0 [1,2,3,4,5,6,8,7,9,10]] [0] ?_ ?_ ?_<;> simp[zH,zJ,Att.ask,qL,zR,ha,zD,o1,o2,o3,hdp]<;> exact hes
 ·refine zA [.pack (GD.att { a with asked:=true,ra:=⟨1,t,v⟩,at_:=0,nx:=0 }) 7 [12,13],.pack (GD.eng (qL s 2 ⟨1,t,v⟩)) 0 [1,2,3,4,5,6,8,9,7,10]] [0] ?_ ?_ ?_<;> simp[zH,zJ,Att.ask,qL,zR,ha,zD,o1,o2,o3,hdp]<;> exact hes
 ·refine zA [.pack (GD.att { a with asked:=true,ra:=⟨1,t,v⟩,at_:=0,nx:=0 }) 7 [12,13],.pack (GD.eng (qL s 3 ⟨1,t,v⟩)) 0 [1,2,3,4,5,6,8,9,10,7]] [0] ?_ ?_ ?_<;> simp[zH,zJ,Att.ask,qL,zR,ha,zD,o1,o2,o3,hdp]<;> exact hes
theorem qRm (s:NS) (hs:s.Ok) (th:Nat) (hth:th<4) (a:Att) (ha:s.ts th=some a) (hf:a.asked=false) (t v:Int) (ht:0<=t/\t<s.hp.length) (hv:jN v=true) (hd:a.fs.length≥5):zP Tryz.prog cfg 27 [.pointer (some ⟨0,0,none⟩),.int .i64 th,.agg #[.int .u8 2,.int .i64 t,.int .u64 v]] (AH.of [some (.hi (.eng s))])
  fun r H'=> r=.ret (.int .i64 0)/\H'=AH.of [some (.hi (.eng (qL s th ⟨2,t,v⟩)))]:=by
 refine zP.ends ?_
 refine zP.openEng hth fun es cc hes=> ?_
 have ft:=qV hth hes
 have z1:¬(th:Int)<0:=by omega
 have z2:¬4<=(th:Int):=by omega
 have hac:=xK a hf
 obtain⟨dp,hdp⟩:∃dp,(a.fs.length:Int) - 1=dp:=⟨_,rfl⟩
 have t1:¬t<0:=by omega
 have t2:¬(s.hp.length:Int)<=t:=by omega
 have r1:jN v=true:=hv
 have e1:(dp=0)=False:=eq_false (by omega)
 have e2:(0<dp)=True:=eq_true (by omega)
 have e3:(4<=dp)=True:=eq_true (by omega)
 refine zY (tbl:=xC) xY 0 3 (af:=a27) rfl ?_
 rw[a27,b27,qB]
 refine⟨by simp,?_⟩
 simp -implicitDefEqProofs [qW,xC,qA,zB5,zAu,forms79,a79,b79,forms84,a84,b84,z1,z2,ha,ft,jI,zD,zH,hac,hdp,t1,t2,r1,e1,e2,e3]
 have htp:=xS th s.ts (b:={ a with asked:=true,ra:=⟨2,t,v⟩,at_:=0,nx:=0 }) ha
 rw[←htp] at hes
 rcases qM hth with rfl|rfl|rfl|rfl
 ·refine zA [.pack (GD.att { a with asked:=true,ra:=⟨2,t,v⟩,at_:=0,nx:=0 }) 7 [12,13],.pack (GD.eng (qL s 0 ⟨2,t,v⟩)) 0 [1,2,3,4,5,6,7,8,9,10]] [0] ?_ ?_ ?_<;> simp[zH,zJ,Att.ask,qL,zR,ha,zD,o1,o2,o3,hdp]<;> exact hes
 ·refine zA [.pack (GD.att { a with asked:=true,ra:=⟨2,t,v⟩,at_:=0,nx:=0 }) 7 [12,13],.pack (GD.eng (qL s 1 ⟨2,t,v⟩)) 0 [1,2,3,4,5,6,8,7,9,10]] [0] ?_ ?_ ?_<;> simp[zH,zJ,Att.ask,qL,zR,ha,zD,o1,o2,o3,hdp]<;> exact hes
 ·refine zA [.pack (GD.att { a with asked:=true,ra:=⟨2,t,v⟩,at_:=0,nx:=0 }) 7 [12,13],.pack (GD.eng (qL s 2 ⟨2,t,v⟩)) 0 [1,2,3,4,5,6,8,9,7,10]] [0] ?_ ?_ ?_<;> simp[zH,zJ,Att.ask,qL,zR,ha,zD,o1,o2,o3,hdp]<;> exact hes
 ·refine zA [.pack (GD.att { a with asked:=true,ra:=⟨2,t,v⟩,at_:=0,nx:=0 }) 7 [12,13],.pack (GD.eng (qL s 3 ⟨2,t,v⟩)) 0 [1,2,3,4,5,6,8,9,10,7]] [0] ?_ ?_ ?_<;> simp[zH,zJ,Att.ask,qL,zR,ha,zD,o1,o2,o3,hdp]<;> exact hes
theorem qRg (s:NS) (hs:s.Ok) (th:Nat) (hth:th<4) (a:Att) (ha:s.ts th=some a) (hf:a.asked=false) (t v:Int) (hd:a.fs.length≥5):zP Tryz.prog cfg 27 [.pointer (some ⟨0,0,none⟩),.int .i64 th,.agg #[.int .u8 3,.int .i64 t,.int .u64 v]] (AH.of [some (.hi (.eng s))])
  fun r H'=> r=.ret (.int .i64 4)/\H'=AH.of [some (.hi (.eng s))]:=by
 refine zP.ends ?_
 refine zP.openEng hth fun es cc hes=> ?_
 have ft:=qV hth hes
 have z1:¬(th:Int)<0:=by omega
 have z2:¬4<=(th:Int):=by omega
 have hac:=xK a hf
 obtain⟨dp,hdp⟩:∃dp,(a.fs.length:Int) - 1=dp:=⟨_,rfl⟩
 have e1:(dp=0)=False:=eq_false (by omega)
 have e2:(0<dp)=True:=eq_true (by omega)
 have e3:(4<=dp)=True:=eq_true (by omega)
 refine zY (tbl:=xC) xY 0 3 (af:=a27) rfl ?_
 rw[a27,b27,qB]
 refine⟨by simp,?_⟩
 simp -implicitDefEqProofs [qW,xC,qA,zB5,zAu,forms79,a79,b79,forms84,a84,b84,z1,z2,ha,ft,jI,zD,zH,hac,hdp,e1,e2,e3]
 rcases qM hth with rfl|rfl|rfl|rfl
 ·refine zA [.pack (GD.att a) 7 [12,13],.pack (GD.eng s) 0 [1,2,3,4,5,6,7,8,9,10]] [0] ?_ ?_ ?_<;> simp[zH,zJ,hac,ha,zD,hdp,o1,o2,o3]<;> exact hes
 ·refine zA [.pack (GD.att a) 7 [12,13],.pack (GD.eng s) 0 [1,2,3,4,5,6,8,7,9,10]] [0] ?_ ?_ ?_<;> simp[zH,zJ,hac,ha,zD,hdp,o1,o2,o3]<;> exact hes
 ·refine zA [.pack (GD.att a) 7 [12,13],.pack (GD.eng s) 0 [1,2,3,4,5,6,8,9,7,10]] [0] ?_ ?_ ?_<;> simp[zH,zJ,hac,ha,zD,hdp,o1,o2,o3]<;> exact hes
 ·refine zA [.pack (GD.att a) 7 [12,13],.pack (GD.eng s) 0 [1,2,3,4,5,6,8,9,10,7]] [0] ?_ ?_ ?_<;> simp[zH,zJ,hac,ha,zD,hdp,o1,o2,o3]<;> exact hes
theorem qRd (s:NS) (hs:s.Ok) (th:Nat) (hth:th<4) (a:Att) (ha:s.ts th=some a) (hf:a.asked=false) (t v:Int) (hd:a.fs.length≥5):zP Tryz.prog cfg 27 [.pointer (some ⟨0,0,none⟩),.int .i64 th,.agg #[.int .u8 4,.int .i64 t,.int .u64 v]] (AH.of [some (.hi (.eng s))])
  fun r H'=> r=.ret (.int .i64 0)/\H'=AH.of [some (.hi (.eng (qL s th ⟨4,t,v⟩)))]:=by
 refine zP.ends ?_
 refine zP.openEng hth fun es cc hes=> ?_
 have ft:=qV hth hes
 have z1:¬(th:Int)<0:=by omega
 have z2:¬4<=(th:Int):=by omega
 have hac:=xK a hf
 obtain⟨dp,hdp⟩:∃dp,(a.fs.length:Int) - 1=dp:=⟨_,rfl⟩
 have e1:(dp=0)=False:=eq_false (by omega)
 have e2:(0<dp)=True:=eq_true (by omega)
 have e3:(4<=dp)=True:=eq_true (by omega)
 refine zY (tbl:=xC) xY 0 3 (af:=a27) rfl ?_
 rw[a27,b27,qB]
 refine⟨by simp,?_⟩
 simp -implicitDefEqProofs [qW,xC,qA,zB5,zAu,forms79,a79,b79,forms84,a84,b84,z1,z2,ha,ft,jI,zD,zH,hac,hdp,e1,e2,e3]
 have htp:=xS th s.ts (b:={ a with asked:=true,ra:=⟨4,t,v⟩,at_:=0,nx:=0 }) ha
 rw[←htp] at hes
 rcases qM hth with rfl|rfl|rfl|rfl
 ·refine zA [.pack (GD.att { a with asked:=true,ra:=⟨4,t,v⟩,at_:=0,nx:=0 }) 7 [12,13],.pack (GD.eng (qL s 0 ⟨4,t,v⟩)) 0 [1,2,3,4,5,6,7,8,9,10]] [0] ?_ ?_ ?_<;> simp[zH,zJ,Att.ask,qL,zR,ha,zD,o1,o2,o3,hdp]<;> exact hes
 ·refine zA [.pack (GD.att { a with asked:=true,ra:=⟨4,t,v⟩,at_:=0,nx:=0 }) 7 [12,13],.pack (GD.eng (qL s 1 ⟨4,t,v⟩)) 0 [1,2,3,4,5,6,8,7,9,10]] [0] ?_ ?_ ?_<;> simp[zH,zJ,Att.ask,qL,zR,ha,zD,o1,o2,o3,hdp]<;> exact hes
 ·refine zA [.pack (GD.att { a with asked:=true,ra:=⟨4,t,v⟩,at_:=0,nx:=0 }) 7 [12,13],.pack (GD.eng (qL s 2 ⟨4,t,v⟩)) 0 [1,2,3,4,5,6,8,9,7,10]] [0] ?_ ?_ ?_<;> simp[zH,zJ,Att.ask,qL,zR,ha,zD,o1,o2,o3,hdp]<;> exact hes
 ·refine zA [.pack (GD.att { a with asked:=true,ra:=⟨4,t,v⟩,at_:=0,nx:=0 }) 7 [12,13],.pack (GD.eng (qL s 3 ⟨4,t,v⟩)) 0 [1,2,3,4,5,6,8,9,10,7]] [0] ?_ ?_ ?_<;> simp[zH,zJ,Att.ask,qL,zR,ha,zD,o1,o2,o3,hdp]<;> exact hes
theorem qRa (s:NS) (hs:s.Ok) (th:Nat) (hth:th<4) (a:Att) (ha:s.ts th=some a) (hf:a.asked=false) (t v:Int) (hd:a.fs.length≥5):zP Tryz.prog cfg 27 [.pointer (some ⟨0,0,none⟩),.int .i64 th,.agg #[.int .u8 5,.int .i64 t,.int .u64 v]] (AH.of [some (.hi (.eng s))])
  fun r H'=> r=.ret (.int .i64 0)/\H'=AH.of [some (.hi (.eng (qL s th ⟨5,t,v⟩)))]:=by
 refine zP.ends ?_
 refine zP.openEng hth fun es cc hes=> ?_
 have ft:=qV hth hes
 have z1:¬(th:Int)<0:=by omega
 have z2:¬4<=(th:Int):=by omega
 have hac:=xK a hf
 obtain⟨dp,hdp⟩:∃dp,(a.fs.length:Int) - 1=dp:=⟨_,rfl⟩
 have e1:(dp=0)=False:=eq_false (by omega)
 have e2:(0<dp)=True:=eq_true (by omega)
 have e3:(4<=dp)=True:=eq_true (by omega)
 refine zY (tbl:=xC) xY 0 3 (af:=a27) rfl ?_
 rw[a27,b27,qB]
 refine⟨by simp,?_⟩
 simp -implicitDefEqProofs [qW,xC,qA,zB5,zAu,forms79,a79,b79,forms84,a84,b84,z1,z2,ha,ft,jI,zD,zH,hac,hdp,e1,e2,e3]
 have htp:=xS th s.ts (b:={ a with asked:=true,ra:=⟨5,t,v⟩,at_:=0,nx:=0 }) ha
 rw[←htp] at hes
 rcases qM hth with rfl|rfl|rfl|rfl
 ·refine zA [.pack (GD.att { a with asked:=true,ra:=⟨5,t,v⟩,at_:=0,nx:=0 }) 7 [12,13],.pack (GD.eng (qL s 0 ⟨5,t,v⟩)) 0 [1,2,3,4,5,6,7,8,9,10]] [0] ?_ ?_ ?_<;> simp[zH,zJ,Att.ask,qL,zR,ha,zD,o1,o2,o3,hdp]<;> exact hes
 ·refine zA [.pack (GD.att { a with asked:=true,ra:=⟨5,t,v⟩,at_:=0,nx:=0 }) 7 [12,13],.pack (GD.eng (qL s 1 ⟨5,t,v⟩)) 0 [1,2,3,4,5,6,8,7,9,10]] [0] ?_ ?_ ?_<;> simp[zH,zJ,Att.ask,qL,zR,ha,zD,o1,o2,o3,hdp]<;> exact hes
 ·refine zA [.pack (GD.att { a with asked:=true,ra:=⟨5,t,v⟩,at_:=0,nx:=0 }) 7 [12,13],.pack (GD.eng (qL s 2 ⟨5,t,v⟩)) 0 [1,2,3,4,5,6,8,9,7,10]] [0] ?_ ?_ ?_<;> simp[zH,zJ,Att.ask,qL,zR,ha,zD,o1,o2,o3,hdp]<;> exact hes
 ·refine zA [.pack (GD.att { a with asked:=true,ra:=⟨5,t,v⟩,at_:=0,nx:=0 }) 7 [12,13],.pack (GD.eng (qL s 3 ⟨5,t,v⟩)) 0 [1,2,3,4,5,6,8,9,10,7]] [0] ?_ ?_ ?_<;> simp[zH,zJ,Att.ask,qL,zR,ha,zD,o1,o2,o3,hdp]<;> exact hes
theorem qQ7 (s:NS) (hs:s.Ok) (th:Nat) (hth:th<4) (a:Att) (ha:s.ts th=some a) (hf:a.asked=false) (t v:Int) (hd:a.fs.length≥5):zP Tryz.prog cfg 27 [.pointer (some ⟨0,0,none⟩),.int .i64 th,.agg #[.int .u8 6,.int .i64 t,.int .u64 v]] (AH.of [some (.hi (.eng s))])
  fun r H'=> r=.ret (.int .i64 8)/\H'=AH.of [some (.hi (.eng s))]:=by
 refine zP.ends ?_
 refine zP.openEng hth fun es cc hes=> ?_
 have ft:=qV hth hes
 have z1:¬(th:Int)<0:=by omega
 have z2:¬4<=(th:Int):=by omega
 have hac:=xK a hf
 obtain⟨dp,hdp⟩:∃dp,(a.fs.length:Int) - 1=dp:=⟨_,rfl⟩
 have e1:(dp=0)=False:=eq_false (by omega)
 have e2:(0<dp)=True:=eq_true (by omega)
 have e3:(4<=dp)=True:=eq_true (by omega)
 refine zY (tbl:=xC) xY 0 3 (af:=a27) rfl ?_
 rw[a27,b27,qB]
 refine⟨by simp,?_⟩
 simp -implicitDefEqProofs [qW,xC,qA,zB5,zAu,forms79,a79,b79,forms84,a84,b84,z1,z2,ha,ft,jI,zD,zH,hac,hdp,e1,e2,e3]
 rcases qM hth with rfl|rfl|rfl|rfl
 ·refine zA [.pack (GD.att a) 7 [12,13],.pack (GD.eng s) 0 [1,2,3,4,5,6,7,8,9,10]] [0] ?_ ?_ ?_<;> simp[zH,zJ,hac,ha,zD,hdp,o1,o2,o3]<;> exact hes
 ·refine zA [.pack (GD.att a) 7 [12,13],.pack (GD.eng s) 0 [1,2,3,4,5,6,8,7,9,10]] [0] ?_ ?_ ?_<;> simp[zH,zJ,hac,ha,zD,hdp,o1,o2,o3]<;> exact hes
 ·refine zA [.pack (GD.att a) 7 [12,13],.pack (GD.eng s) 0 [1,2,3,4,5,6,8,9,7,10]] [0] ?_ ?_ ?_<;> simp[zH,zJ,hac,ha,zD,hdp,o1,o2,o3]<;> exact hes
 ·refine zA [.pack (GD.att a) 7 [12,13],.pack (GD.eng s) 0 [1,2,3,4,5,6,8,9,10,7]] [0] ?_ ?_ ?_<;> simp[zH,zJ,hac,ha,zD,hdp,o1,o2,o3]<;> exact hes
theorem qQ4 (s:NS) (hs:s.Ok) (th:Nat) (hth:th<4) (a:Att) (ha:s.ts th=some a) (hf:a.asked=false) (t v:Int) (hd:a.fs.length≥5):zP Tryz.prog cfg 27 [.pointer (some ⟨0,0,none⟩),.int .i64 th,.agg #[.int .u8 7,.int .i64 t,.int .u64 v]] (AH.of [some (.hi (.eng s))])
  fun r H'=> r=.ret (.int .i64 0)/\H'=AH.of [some (.hi (.eng (qL s th ⟨7,t,v⟩)))]:=by
 refine zP.ends ?_
 refine zP.openEng hth fun es cc hes=> ?_
 have ft:=qV hth hes
 have z1:¬(th:Int)<0:=by omega
 have z2:¬4<=(th:Int):=by omega
 have hac:=xK a hf
 obtain⟨dp,hdp⟩:∃dp,(a.fs.length:Int) - 1=dp:=⟨_,rfl⟩
 have e1:(dp=0)=False:=eq_false (by omega)
 have e2:(0<dp)=True:=eq_true (by omega)
 have e3:(4<=dp)=True:=eq_true (by omega)
 refine zY (tbl:=xC) xY 0 3 (af:=a27) rfl ?_
 rw[a27,b27,qB]
 refine⟨by simp,?_⟩
 simp -implicitDefEqProofs [qW,xC,qA,zB5,zAu,forms79,a79,b79,forms84,a84,b84,z1,z2,ha,ft,jI,zD,zH,hac,hdp,e1,e2,e3]
 have htp:=xS th s.ts (b:={ a with asked:=true,ra:=⟨7,t,v⟩,at_:=0,nx:=0 }) ha
 rw[←htp] at hes
 rcases qM hth with rfl|rfl|rfl|rfl
 ·refine zA [.pack (GD.att { a with asked:=true,ra:=⟨7,t,v⟩,at_:=0,nx:=0 }) 7 [12,13],.pack (GD.eng (qL s 0 ⟨7,t,v⟩)) 0 [1,2,3,4,5,6,7,8,9,10]] [0] ?_ ?_ ?_<;> simp[zH,zJ,Att.ask,qL,zR,ha,zD,o1,o2,o3,hdp]<;> exact hes
 ·refine zA [.pack (GD.att { a with asked:=true,ra:=⟨7,t,v⟩,at_:=0,nx:=0 }) 7 [12,13],.pack (GD.eng (qL s 1 ⟨7,t,v⟩)) 0 [1,2,3,4,5,6,8,7,9,10]] [0] ?_ ?_ ?_<;> simp[zH,zJ,Att.ask,qL,zR,ha,zD,o1,o2,o3,hdp]<;> exact hes
 ·refine zA [.pack (GD.att { a with asked:=true,ra:=⟨7,t,v⟩,at_:=0,nx:=0 }) 7 [12,13],.pack (GD.eng (qL s 2 ⟨7,t,v⟩)) 0 [1,2,3,4,5,6,8,9,7,10]] [0] ?_ ?_ ?_<;> simp[zH,zJ,Att.ask,qL,zR,ha,zD,o1,o2,o3,hdp]<;> exact hes
 ·refine zA [.pack (GD.att { a with asked:=true,ra:=⟨7,t,v⟩,at_:=0,nx:=0 }) 7 [12,13],.pack (GD.eng (qL s 3 ⟨7,t,v⟩)) 0 [1,2,3,4,5,6,8,9,10,7]] [0] ?_ ?_ ?_<;> simp[zH,zJ,Att.ask,qL,zR,ha,zD,o1,o2,o3,hdp]<;> exact hes
theorem zVf (s:NS) (th:Nat) (hth:th<4) (hb:s.ts th=none∨∃a,s.ts th=some a/\a.asked=true/\1<=a.ra.k) (x:Ak):zP Tryz.prog cfg 27 [.pointer (some ⟨0,0,none⟩),.int .i64 th,.agg #[.int .u8 x.k,.int .i64 x.t,.int .u64 x.v]] (AH.of [some (.hi (.eng s))])
  fun r H'=> r=.ret (.int .i64 (zDz s th x))/\H'=AH.of [some (.hi (.eng s))]:=by
 refine zP.ends ?_
 refine zP.openEng hth fun es cc hes=> ?_
 have ft:=qV hth hes
 have z1:¬(th:Int)<0:=by omega
 have z2:¬4<=(th:Int):=by omega
 rcases hb with ha|⟨a,ha,hk,hk1⟩
 ·refine zY (tbl:=[]) (by simp) 0 3 (af:=a27) rfl ?_
  rw[a27,b27,qB]
  refine⟨by simp,?_⟩
  simp -implicitDefEqProofs [qW,forms79,a79,b79,z1,z2,ha,ft,jI]
  rcases qM hth with rfl|rfl|rfl|rfl
  ·refine zA [.pack (GD.eng s) 0 [1,2,3,4,5,6,7,8,9,10]] [0] ?_ ?_ ?_<;> simp[zJ,ha,o1,o2,o3,zDz]<;> exact hes
  ·refine zA [.pack (GD.eng s) 0 [1,2,3,4,5,6,8,7,9,10]] [0] ?_ ?_ ?_<;> simp[zJ,ha,o1,o2,o3,zDz]<;> exact hes
  ·refine zA [.pack (GD.eng s) 0 [1,2,3,4,5,6,8,9,7,10]] [0] ?_ ?_ ?_<;> simp[zJ,ha,o1,o2,o3,zDz]<;> exact hes
  ·refine zA [.pack (GD.eng s) 0 [1,2,3,4,5,6,8,9,10,7]] [0] ?_ ?_ ?_<;> simp[zJ,ha,o1,o2,o3,zDz]<;> exact hes
 ·have hac:=jV a hk
  have hk0:¬a.ra.k=0:=by omega
  refine zY (tbl:=[]) (by simp) 0 3 (af:=a27) rfl ?_
  rw[a27,b27,qB]
  refine⟨by simp,?_⟩
  simp -implicitDefEqProofs [qW,forms79,a79,b79,z1,z2,ha,ft,jI,zD,zH,hac,hk0]
  rcases qM hth with rfl|rfl|rfl|rfl
  ·refine zA [.pack (GD.att a) 7 [12,13],.pack (GD.eng s) 0 [1,2,3,4,5,6,7,8,9,10]] [0] ?_ ?_ ?_<;> simp[zH,zJ,hac,ha,zD,o1,o2,o3,zDz,hk]<;> exact hes
  ·refine zA [.pack (GD.att a) 7 [12,13],.pack (GD.eng s) 0 [1,2,3,4,5,6,8,7,9,10]] [0] ?_ ?_ ?_<;> simp[zH,zJ,hac,ha,zD,o1,o2,o3,zDz,hk]<;> exact hes
  ·refine zA [.pack (GD.att a) 7 [12,13],.pack (GD.eng s) 0 [1,2,3,4,5,6,8,9,7,10]] [0] ?_ ?_ ?_<;> simp[zH,zJ,hac,ha,zD,o1,o2,o3,zDz,hk]<;> exact hes
  ·refine zA [.pack (GD.att a) 7 [12,13],.pack (GD.eng s) 0 [1,2,3,4,5,6,8,9,10,7]] [0] ?_ ?_ ?_<;> simp[zH,zJ,hac,ha,zD,o1,o2,o3,zDz,hk]<;> exact hes
theorem qD7 (d:GD) (t:Int) (ht:t<0∨4<=t) (x:Ak):zP Tryz.prog cfg 27 [.pointer (some ⟨0,0,none⟩),.int .i64 t,.agg #[.int .u8 x.k,.int .i64 x.t,.int .u64 x.v]] (AH.of [some (.hi d)])
  fun r H'=> r=.ret (.int .i64 2)/\H'=AH.of [some (.hi d)]:=by
 refine zP.ends ?_
 have ht':¬t<0->4<=t:=fun h=> by omega
 refine zY (tbl:=[]) (by simp) 0 3 (af:=a27) rfl ?_
 rw[a27,b27,qB]
 refine⟨by simp,?_⟩
 by_cases h1:t<0
 ·simp -implicitDefEqProofs [forms79,a79,b79,h1]
  refine zA [] [0] ?_ ?_ ?_<;> simp
 ·simp -implicitDefEqProofs [forms79,a79,b79,h1,ht' h1]
  refine zA [] [0] ?_ ?_ ?_<;> simp
end YtnemoimbeefngaaGreat
end Go.Proofs
namespace Go.Proofs
namespace YtnemoimbeefngaaGreat
open Go.Abs
theorem zRo (s:NS) (hs:s.Ok) (th:Nat) (hth:th<4) (a:Att) (ha:s.ts th=some a) (hf:a.asked=false) (x:Ak) (hk0:0<=x.k):zP Tryz.prog cfg 27 [.pointer (some ⟨0,0,none⟩),.int .i64 th,.agg #[.int .u8 x.k,.int .i64 x.t,.int .u64 x.v]] (AH.of [some (.hi (.eng s))])
  fun r H'=> r=.ret (.int .i64 (zAo a s.hp.length x))/\H'=AH.of [some (.hi (.eng (if zAo a s.hp.length x=0 then qL s th x else s)))]:=by
 have hl1:1<=a.fs.length:=by
  have:=(hs.ts th a ha).fs.1
  cases h:a.fs with
  |nil=> exact absurd h this
  |cons f fs=> simp
 obtain⟨k,t,v⟩:=x
 simp only at hk0⊢
 have hd:a.fs.length=1∨(a.fs.length≠1/\1<=a.fs.length/\a.fs.length<5)∨a.fs.length≥5:=by omega
 have ht:t<0∨(0<=t/\(s.hp.length:Int)<=t)∨(0<=t/\t<s.hp.length):=by omega
 have go:∀{c:Int} {s':NS},zAo a s.hp.length ⟨k,t,v⟩=c->(if c=0 then qL s th ⟨k,t,v⟩ else s)=s'->zP Tryz.prog cfg 27 [.pointer (some ⟨0,0,none⟩),.int .i64 th,.agg #[.int .u8 k,.int .i64 t,.int .u64 v]] (AH.of [some (.hi (.eng s))]) (fun r H'=> r=.ret (.int .i64 c)/\H'=AH.of [some (.hi (.eng s'))])->
   zP Tryz.prog cfg 27 [.pointer (some ⟨0,0,none⟩),.int .i64 th,.agg #[.int .u8 k,.int .i64 t,.int .u64 v]] (AH.of [some (.hi (.eng s))]) (fun r H'=> r=.ret (.int .i64 (zAo a s.hp.length ⟨k,t,v⟩))/\H'=AH.of [some (.hi (.eng (if zAo a s.hp.length ⟨k,t,v⟩=0 then qL s th ⟨k,t,v⟩ else s)))]):=by
  intro c s' h1 h2 h3
  rw[h1,h2];exact h3
 have hk:k=0∨7<k∨k=1∨k=2∨k=3∨k=4∨k=5∨k=6∨k=7:=by omega
 rcases hk with rfl|hk|rfl|rfl|rfl|rfl|rfl|rfl|rfl
 ·exact go (by simp[zAo]) rfl (ask_0 s hs th hth a ha hf t v)
 ·exact go (by simp[zAo,hk]) rfl (ask_9 s hs th hth a ha hf k hk t v)
 ·rcases ht with ht|ht|ht
  ·exact go (by simp[zAo,ht]) rfl (qRo s hs th hth a ha hf t v ht)
  ·exact go (by simp[zAo,ht.2]) rfl (qRq s hs th hth a ha hf t v ht)
  ·have t1:¬t<0:=by omega
   have t2:¬(s.hp.length:Int)<=t:=by omega
   have hw:zAo a s.hp.length ⟨1,t,v⟩=0:=by simp[zAo,t1,t2]
   rcases hd with hd|hd|hd
   ·exact go hw rfl (qRn s hs th hth a ha hf t v ht hd)
   ·exact go hw rfl (qRp s hs th hth a ha hf t v ht hd)
   ·exact go hw rfl (qRr s hs th hth a ha hf t v ht hd)
 ·rcases ht with ht|ht|ht
  ·exact go (by simp[zAo,ht]) rfl (qRj s hs th hth a ha hf t v ht)
  ·exact go (by simp[zAo,ht.2]) rfl (qRl s hs th hth a ha hf t v ht)
  ·have t1:¬t<0:=by omega
   have t2:¬(s.hp.length:Int)<=t:=by omega
   cases hr:jN v with
   |false=> exact go (by simp[zAo,t1,t2,hr]) rfl (qRi s hs th hth a ha hf t v ht hr)
   |true=>
    have hw:zAo a s.hp.length ⟨2,t,v⟩=0:=by simp[zAo,t1,t2,hr]
    rcases hd with hd|hd|hd
    ·exact go hw rfl (qRh s hs th hth a ha hf t v ht hr hd)
    ·exact go hw rfl (qRk s hs th hth a ha hf t v ht hr hd)
    ·exact go hw rfl (qRm s hs th hth a ha hf t v ht hr hd)
 ·rcases hd with hd|hd|hd
  ·exact go (by simp[zAo];omega) rfl (qRe s hs th hth a ha hf t v hd)
  ·exact go (by simp[zAo];omega) rfl (qRf s hs th hth a ha hf t v hd)
  ·have h5:5<=a.fs.length:=hd
   exact go (by simp[zAo,h5]) rfl (qRg s hs th hth a ha hf t v hd)
 ·rcases hd with hd|hd|hd
  ·exact go (by simp[zAo,hd]) rfl (qRb s hs th hth a ha hf t v hd)
  ·exact go (by simp[zAo,hd.1]) rfl (qRc s hs th hth a ha hf t v hd)
  ·have h5:¬a.fs.length=1:=by omega
   exact go (by simp[zAo,h5]) rfl (qRd s hs th hth a ha hf t v hd)
 ·rcases hd with hd|hd|hd
  ·exact go (by simp[zAo,hd]) rfl (qQ8 s hs th hth a ha hf t v hd)
  ·exact go (by simp[zAo,hd.1]) rfl (qQ9 s hs th hth a ha hf t v hd)
  ·have h5:¬a.fs.length=1:=by omega
   exact go (by simp[zAo,h5]) rfl (qRa s hs th hth a ha hf t v hd)
 ·rcases hd with hd|hd|hd
  ·exact go (by simp[zAo,hd]) rfl (qQ5 s hs th hth a ha hf t v hd)
  ·have h5:1<a.fs.length:=by omega
   exact go (by simp[zAo,h5]) rfl (qQ6 s hs th hth a ha hf t v hd)
  ·have h5:1<a.fs.length:=by omega
   exact go (by simp[zAo,h5]) rfl (qQ7 s hs th hth a ha hf t v hd)
 ·rcases hd with hd|hd|hd
  ·exact go (by simp[zAo]) rfl (qQ2 s hs th hth a ha hf t v hd)
  ·exact go (by simp[zAo]) rfl (qQ3 s hs th hth a ha hf t v hd)
  ·exact go (by simp[zAo]) rfl (qQ4 s hs th hth a ha hf t v hd)
def zVg (s:NS) (t:Int) (x:Ak):Int:=match zFo t with
 |none=> 2
 |some th=> zDz s th x
def zE9 (s:NS) (t:Int) (x:Ak):NS:=match zFo t with
 |none=> s
 |some th=> if zDz s th x=0 then qL s th x else s
def d27:zBm
 |.eng s,[.int .i64 t,.agg ⟨[.int .u8 k,.int .i64 tv,.int .u64 v]⟩]=> some (s.Ok/\0<=k,.int .i64 (zVg s t ⟨k,tv,v⟩),.eng (zE9 s t ⟨k,tv,v⟩))
 |_,_=> none
theorem zW2:qE Tryz.prog cfg 27 (qA d27):=zAm fun d rest p v d' h hp=> by
 unfold d27 at h
 split at h
 case h_2=> cases h
 rename_i s t k tv v
 cases h
 refine⟨rfl,rfl,?_⟩
 cases ht:zFo t with
 |none=> simp only[zVg,zE9,ht];exact qD7 _ _ (zI6 ht) ⟨k,tv,v⟩
 |some th=>
  obtain⟨h1,rfl⟩:=zB6 ht
  simp only[zVg,zE9,ht]
  cases ha:s.ts th with
  |none=>
   have e:zDz s th ⟨k,tv,v⟩=8:=by simp[zDz,ha]
   rw[if_neg (by rw[e];decide)]
   exact zVf s th h1 (.inl ha) ⟨k,tv,v⟩
  |some a=>
   cases hf:a.asked with
   |true=>
    have e:zDz s th ⟨k,tv,v⟩=7:=by simp[zDz,ha,hf]
    rw[if_neg (by rw[e];decide)]
    exact zVf s th h1 (.inr ⟨a,ha,hf,((hp.1.ts th a ha).ask hf).1⟩) ⟨k,tv,v⟩
   |false=>
    have e:zDz s th ⟨k,tv,v⟩=zAo a s.hp.length ⟨k,tv,v⟩:=by simp[zDz,ha,hf]
    rw[e]
    exact zRo s hp.1 th h1 a ha hf ⟨k,tv,v⟩ hp.2
end YtnemoimbeefngaaGreat
end Go.Proofs
