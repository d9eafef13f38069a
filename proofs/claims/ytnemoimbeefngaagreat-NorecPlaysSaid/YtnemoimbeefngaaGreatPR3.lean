/-
  Valid, Newest; live.
-/
import Derived.Test.YtnemoimbeefngaaGreatPR1
import Derived.Shelf.Sort.Plain
import Derived.Test.YtnemoimbeefngaaGreatProg
import Derived.Test.YtnemoimbeefngaaGreatPR2
set_option linter.unusedSimpArgs false
set_option linter.unusedVariables false
set_option linter.unnecessarySimpa false
set_option linter.unusedSectionVars false
set_option maxHeartbeats 32000000
set_option maxRecDepth 100000
namespace Go.Proofs
namespace YtnemoimbeefngaaGreat
open Go.Abs
def zSb:qW GD:=fun args H=> match args with
 |[x,y]=> (zH0 x).bind fun k=> (sl0 y).bind fun q=> (zHr H k).bind fun s=> (zM0 H q.1).map fun h=> (goodL s.2/\q.2.1=h.length/\k≠q.1,.ret (.tuple #[.int .i64 ((brk s.2 h).getD zHi).t,.bool (brk s.2 h).isSome]),H)
 |_=> none
theorem qGh:qI Tryz.prog cfg 148 zSb:=by
 intro args H p r H' h hp
 unfold zSb at h
 split at h
 case h_2=> cases h
 simp only[Option.map_eq_some_iff,Option.bind_eq_some_iff] at h
 obtain⟨k,hk,q,hq,s,hs,w,hw,h⟩:=h
 cases h
 obtain⟨⟨h1,h2,h3⟩,h4,h5⟩:=hp
 rw[zFd hk,zG4 hq,h4]
 exact (qNi s.1 q.2.2 s.2 w h1 h2 h3).atK (zG6 fun i cs hi=> hi) [k,q.1] (by simp[h5]) (by simp) (by simp[zD5 hs,zLw hw,zF3]) (by simp) (by simp) (by simp[zF3,xB (zD5 hs),xB (zLw hw)])
def tbl8:List (FuncId × qW GD):=[(148,zSb)]
theorem qK9:∀x∈tbl8,qI Tryz.prog cfg x.1 x.2:=by simp[tbl8,qGh]
theorem qQd (c tg:Nat) (l:List Ent) (h:List Int) (hg:goodL l):zP Tryz.prog cfg 95 [.pointer (some ⟨0,0,none⟩),.slice (some ⟨1,0,none⟩) h.length tg] (AH.of [some (.hi (.set c l)),some (.ro (us h))])
  fun r H'=> r=.ret (.bool (brk l h).isNone)/\H'=AH.of [some (.hi (.set c l)),some (.ro (us h))]:=by
 refine zX (tbl:=tbl8) qK9 0 0 (af:=a95) rfl ?_
 rw[a95,b95,qB]
 refine⟨by simp,?_⟩
 simp -implicitDefEqProofs [tbl8,zSb,zM0,hg]
theorem zQw {H:AH GD} {k q n tg c:Nat} {l:List Ent} {h:List Int} (hk:H.get k=some (.hi (.set c l))) (hq:H.get q=some (.ro (us h))) (hg:goodL l) (hn:n=h.length) (hkq:k≠q):
  zP Tryz.prog cfg 95 [.pointer (some ⟨k,0,none⟩),.slice (some ⟨q,0,none⟩) n tg] H fun r H'=> r=.ret (.bool (brk l h).isNone)/\H'=H:=by
 subst hn
 exact (qQd c tg l h hg).atK (zG6 fun i cs hi=> hi) [k,q] (by simp[hkq]) (by simp) (by simp[hk,hq,zF3]) (by simp) (by simp) (by simp[zF3,xB hk,xB hq])
theorem zOo {H:AH GD} {k q n tg c:Nat} {e:TypeId} {l:List Ent} {h:List Int} (hk:H.get k=some (.hi (.set c l))) (hq:H.get q=some (.arr e (us h))) (hg:goodL l) (hn:n=h.length) (hkq:k≠q):
  zP Tryz.prog cfg 95 [.pointer (some ⟨k,0,none⟩),.slice (some ⟨q,0,none⟩) n tg] H fun r H'=> r=.ret (.bool (brk l h).isNone)/\H'=H:=by
 refine zP.borrow q hq ((zQw (q:=q) (h:=h) (by rw[AH.get_upd,if_neg hkq];exact hk) (by rw[AH.get_upd,if_pos rfl]) hg hn hkq).mono fun r H1 ⟨h1,h2⟩=> ?_)
 subst h2
 refine⟨by rw[AH.get_upd,if_pos rfl],fun j cs2 hj hcs hne=> ⟨cs2,by rw[AH.get_upd,if_neg hj] at hcs;exact hcs,hne⟩,h1,?_⟩
 rw[qKx,xB hq]
def st95:qW GD:=fun args H=> match args with
 |[x,.slice none 0 0]=> (zH0 x).bind fun k=> (zHr H k).map fun s=> (goodL s.2/\k<H.next,.ret (.bool (brk s.2 []).isNone),H.add (.arr 49 []))
 |[x,y]=> (zH0 x).bind fun k=> (sl0 y).bind fun q=> (zHr H k).bind fun s=> match zM0 H q.1,zFg H q.1 with
  |some h,_=> some (goodL s.2/\q.2.1=h.length/\k≠q.1,.ret (.bool (brk s.2 h).isNone),H)
  |_,some h=> some (goodL s.2/\q.2.1=h.2.length/\k≠q.1,.ret (.bool (brk s.2 h.2).isNone),H)
  |_,_=> none
 |_=> none
theorem qLl:qI Tryz.prog cfg 95 st95:=by
 intro args H p r H' h hp
 unfold st95 at h
 split at h
 ·simp only[Option.map_eq_some_iff,Option.bind_eq_some_iff] at h
  obtain⟨k,hk,s,hs,h⟩:=h
  cases h
  rw[zFd hk]
  refine zP.seesG (xV.nil H 49) (zP.args (args2:=[.pointer (some ⟨k,0,none⟩),.slice (some ⟨H.next,0,none⟩) 0 1]) rfl (by simp) ?_)
  exact zOo (c:=s.1) (l:=s.2) (h:=[]) (e:=49) (by rw[AH.get_add,if_neg (by omega)];exact zD5 hs) (by rw[AH.get_add,if_pos rfl];rfl) hp.1 rfl (by omega)
 ·simp only[Option.bind_eq_some_iff] at h
  obtain⟨k,hk,q,hq,s,hs,h⟩:=h
  rw[zFd hk,zG4 hq]
  split at h
  ·rename_i h1
   cases h
   exact zQw (zD5 hs) (zLw h1) hp.1 hp.2.1 hp.2.2
  ·rename_i h1 _
   cases h
   exact zOo (zD5 hs) (zEs h1) hp.1 hp.2.1 hp.2.2
  ·cases h
 ·cases h
end YtnemoimbeefngaaGreat
end Go.Proofs
namespace Go.Proofs
namespace YtnemoimbeefngaaGreat
open Go.Abs
def e1:Ent:=⟨2,4607182418800017408,7⟩
end YtnemoimbeefngaaGreat
end Go.Proofs
namespace Go.Proofs
namespace YtnemoimbeefngaaGreat
open Go.Abs
end YtnemoimbeefngaaGreat
end Go.Proofs
namespace Go.Proofs
namespace YtnemoimbeefngaaGreat
open Go.Abs
def zJz:List Value->Option (List Ent)
 |[]=> some []
 |.int .i64 t::.int .u64 v::.int .u64 n::l=> (zJz l).map (⟨t,v,n⟩::·)
 |_=> none
theorem zNg:∀l:List Ent,zJz (zAb l)=some l
 |[]=> rfl
 |e::l=> by
  show (zJz (zAb l)).map (_::·)=_
  rw[zNg l];rfl
theorem zPe:∀{cs:List Value} {l:List Ent},zJz cs=some l->cs=zAb l
 |cs,l,e=> by
  unfold zJz at e
  split at e
  ·cases e;rfl
  ·simp only[Option.map_eq_some_iff] at e
   obtain⟨l',e1,rfl⟩:=e
   rw[zPe e1];rfl
  ·cases e
attribute [simp] zNg
end YtnemoimbeefngaaGreat
end Go.Proofs
namespace Go.Proofs
namespace YtnemoimbeefngaaGreat
open Go.Abs
end YtnemoimbeefngaaGreat
end Go.Proofs
namespace Go.Proofs
open Go.Shelf
def Tryz.lays189_ren:Go.Shelf.Ren:=⟨fun|189=> 47|125=> 107|257=> 106|128=> 165|129=> 166|294=> 156|295=> 157|296=> 158|297=> 159|298=> 160|299=> 161|216=> 162|300=> 163|301=> 164|328=> 196|329=> 197|330=> 198|331=> 199|332=> 200|215=> 201|343=> 210|n=> n,fun|28=> 33|3=> 3|46=> 149|0=> 0|51=> 209|53=> 38|4=> 4|183=> 202|182=> 201|131=> 56|5=> 5|9=> 9|218=> 231|222=> 150|228=> 238|229=> 239|n=> n,fun|n=> n⟩
theorem Tryz.lays189:Go.Proofs.Lays.n189 Tryz.prog Tryz.lays189_ren:={
 mixed:=by kernel_rfl
 f125:=Tryz.func107.trans (congrArg some (by kernel_rfl))
 f128:=Tryz.func165.trans (congrArg some (by kernel_rfl))
 f129:=Tryz.func166.trans (congrArg some (by kernel_rfl))
 f189:=Tryz.func47.trans (congrArg some (by kernel_rfl))
 f215:=Tryz.func201.trans (congrArg some (by kernel_rfl))
 f216:=Tryz.func162.trans (congrArg some (by kernel_rfl))
 f257:=Tryz.func106.trans (congrArg some (by kernel_rfl))
 f294:=Tryz.func156.trans (congrArg some (by kernel_rfl))
 f295:=Tryz.func157.trans (congrArg some (by kernel_rfl))
 f296:=Tryz.func158.trans (congrArg some (by kernel_rfl))
 f297:=Tryz.func159.trans (congrArg some (by kernel_rfl))
 f298:=Tryz.func160.trans (congrArg some (by kernel_rfl))
 f299:=Tryz.func161.trans (congrArg some (by kernel_rfl))
 f300:=Tryz.func163.trans (congrArg some (by kernel_rfl))
 f301:=Tryz.func164.trans (congrArg some (by kernel_rfl))
 f328:=Tryz.func196.trans (congrArg some (by kernel_rfl))
 f329:=Tryz.func197.trans (congrArg some (by kernel_rfl))
 f330:=Tryz.func198.trans (congrArg some (by kernel_rfl))
 f331:=Tryz.func199.trans (congrArg some (by kernel_rfl))
 f332:=Tryz.func200.trans (congrArg some (by kernel_rfl))
 f343:=Tryz.func210.trans (congrArg some (by kernel_rfl))
 t0:=Tryz.underlying0
 a0:=Tryz.isAgg0
 z0:=Tryz.sizeOf0
 v0:=Tryz.zeroValue0
 t3:=Tryz.underlying3
 a3:=Tryz.isAgg3
 z3:=Tryz.sizeOf3
 v3:=Tryz.zeroValue3
 t4:=Tryz.underlying4
 a4:=Tryz.isAgg4
 z4:=Tryz.sizeOf4
 v4:=Tryz.zeroValue4
 t5:=Tryz.underlying5
 a5:=Tryz.isAgg5
 z5:=Tryz.sizeOf5
 v5:=Tryz.zeroValue5
 t9:=Tryz.underlying9
 a9:=Tryz.isAgg9
 z9:=Tryz.sizeOf9
 v9:=Tryz.zeroValue9
 t28:=Tryz.underlying33
 a28:=Tryz.isAgg33
 z28:=Tryz.sizeOf33
 v28:=Tryz.zeroValue33
 t46:=Tryz.underlying149
 a46:=Tryz.isAgg149
 z46:=Tryz.sizeOf149
 v46:=Tryz.zeroValue149
 t51:=Tryz.underlying209
 a51:=Tryz.isAgg209
 z51:=Tryz.sizeOf209
 v51:=Tryz.zeroValue209
 t53:=Tryz.underlying38
 a53:=Tryz.isAgg38
 z53:=Tryz.sizeOf38
 v53:=Tryz.zeroValue38
 t131:=Tryz.underlying56
 a131:=Tryz.isAgg56
 z131:=Tryz.sizeOf56
 v131:=Tryz.zeroValue56
 t182:=Tryz.underlying201
 a182:=Tryz.isAgg201
 z182:=Tryz.sizeOf201
 v182:=Tryz.zeroValue201
 t183:=Tryz.underlying202
 a183:=Tryz.isAgg202
 z183:=Tryz.sizeOf202
 v183:=Tryz.zeroValue202
 t218:=Tryz.underlying231
 a218:=Tryz.isAgg231
 z218:=Tryz.sizeOf231
 v218:=Tryz.zeroValue231
 t222:=Tryz.underlying150
 a222:=Tryz.isAgg150
 z222:=Tryz.sizeOf150
 v222:=Tryz.zeroValue150
 t228:=Tryz.underlying238
 a228:=Tryz.isAgg238
 z228:=Tryz.sizeOf238
 v228:=Tryz.zeroValue238
 t229:=Tryz.underlying239
 a229:=Tryz.isAgg239
 z229:=Tryz.sizeOf239
 v229:=Tryz.zeroValue239 }
open Go.Sort Go.RowKit in
theorem Tryz.slices_Sort_int (blk off cap:Nat) (zs:List Int) (w:World) (hH:Holds (Value.int .i64) w blk off zs.toArray) (hblk:blk<w.heap.size) (hsz:zs.length<4611686018427387904):
 Calls Tryz.prog 47 #[.slice (some ⟨blk,off,none⟩) zs.length cap] w fun e w'=>
  e=.returned (.tuple #[])/\∃n os,w'=grow (putRow (Value.int .i64) (Sort.ahead w n) blk off (zs.mergeSort fun x y=> decide (x<=y)).toArray) os:=Any.slices_Sort_int Tryz.lays189 blk off cap zs w hH hblk hsz
end Go.Proofs
namespace Go.Proofs
namespace YtnemoimbeefngaaGreat
open Go.Abs
theorem qMs:∀args w,(callFunc 47 args).run Tryz.prog w=.ok (.enter 47 args) w:=zJp Tryz.func47 (by kernel_rfl) (by kernel_rfl)
theorem zX6 (e:TypeId) (tg:Nat):zP Tryz.prog cfg 47 [.slice (some ⟨0,0,none⟩) 0 tg] (AH.of [some (.arr e (qZ []))])
  fun r H'=> r=.ret (.tuple #[])/\H'=AH.of [some (.arr e (qZ []))]:=by
 refine zP.ends ?_
 refine zX (tbl:=[]) (by simp) 3 5 (af:=a47) rfl ?_
 rw[a47,b47,qB]
 refine⟨by simp,?_⟩
 have w1:IntKind.u64.wrap 0=0:=by decide
 have w2:IntKind.u8.wrap 0=0:=by decide
 have w3:IntKind.i64.wrap 0=0:=by decide
 have w4:IntKind.i64.wrap 1=1:=by decide
 simp -implicitDefEqProofs [forms106,a106,b106,forms107,a107,b107,forms166,a166,b166,w1,w2,w3]
 refine zQ5 (xC zAh (xD (by simp)) _ _ noY jT) (by omega) ?_
 simp -implicitDefEqProofs [forms156,a156,b156,w3,w4]
 refine zQ5 (xC zAh (xD (by simp)) _ _ noY jT) (by omega) ?_
 simp -implicitDefEqProofs [w3]
 refine zA [] [0] ?_ ?_ ?_<;> simp
theorem qQ2 (e:TypeId) (l:List Int) (tg:Nat) (hl:l.length<=1000000):zP Tryz.prog cfg 47 [.slice (some ⟨0,0,none⟩) l.length tg] (AH.of [some (.arr e (qZ l))])
  fun r H'=> r=.ret (.tuple #[])/\H'=AH.of [some (.arr e (qZ (zE1 l)))]:=by
 by_cases hz:l=[]
 ·subst hz
  have:zE1 []=[]:=List.eq_nil_of_length_eq_zero (by simp)
  rw[this]
  exact zX6 e tg
 ·exact qBg qMs (fun blk off cap zs w h1 h2 h3=> Tryz.slices_Sort_int blk off cap zs w h1 h2 h3) e l tg hz (by omega)
def st47:qW GD:=fun args H=> match args with
 |[x]=> (sl0 x).bind fun q=> (zGd H q.1).map fun l=> (q.2.1=l.2.length/\l.2.length<=1000000,.ret (.tuple #[]),H.upd q.1 (.arr l.1 (qZ (zE1 l.2))))
 |_=> none
theorem qL9:qI Tryz.prog cfg 47 st47:=by
 intro args H p r H' h hp
 unfold st47 at h
 split at h
 case h_2=> cases h
 simp only[Option.map_eq_some_iff,Option.bind_eq_some_iff] at h
 obtain⟨q,hq,l,hl,h⟩:=h
 cases h
 rw[zG4 hq,hp.1]
 exact (qQ2 l.1 l.2 q.2.2 hp.2).atK (xE rfl) [q.1] (by simp) (by simp) (by simp[zF5 hl]) (by simp) (by simp) (by simp)
end YtnemoimbeefngaaGreat
end Go.Proofs
namespace Go.Proofs
namespace YtnemoimbeefngaaGreat
open Go.Abs
theorem qQo (e e':TypeId) (a b:List Int) (tg tg':Nat) (hn:a.length<=1000000):zP Tryz.prog cfg 63 [.slice (some ⟨0,0,none⟩) a.length tg,.slice (some ⟨1,0,none⟩) b.length tg'] (AH.of [some (.arr e (qZ a)),some (.arr e' (qZ b))])
  fun r H'=> r=.ret (.bool (decide (a=b)))/\H'=AH.of [some (.arr e (qZ a)),some (.arr e' (qZ b))]:=by
 refine zX (tbl:=[]) (by simp) (a.length+1) 0 (af:=a63) rfl ?_
 rw[a63,b63,qB]
 refine⟨by simp,?_⟩
 simp -implicitDefEqProofs
 refine⟨fun h1=> (by rintro rfl;exact h1 rfl),fun hl=> ?_⟩
 refine zAp (xC zAh (xD (by simp)) _ _ noY jT) (fun m tm H=> ∃i:Nat,m+i=a.length/\(∀j,j<i->a[j]?=b[j]?)/\tm 0=.slice (some ⟨0,0,none⟩) a.length tg/\tm 1=.slice (some ⟨1,0,none⟩) b.length tg'/\tm 5=.int .i64 i/\
  H=AH.of [some (.arr e (qZ a)),some (.arr e' (qZ b))]) (m:=a.length) ⟨0,by simp⟩ (by omega) ?_
 rintro m tm H ⟨i,hm,hno,t0,t1,t5,rfl⟩
 by_cases hi:i<a.length
 ·obtain⟨x,hx⟩:∃x,a[i]?=some x:=⟨a[i],List.getElem?_eq_getElem hi⟩
  obtain⟨y,hy⟩:=zCk (l:=b) (i:=i) (by omega)
  have hi':(i:Int)<a.length:=by omega
  have hib:(i:Int)<b.length:=by omega
  have hw:=zA8 hi hn
  simp -implicitDefEqProofs [t0,t1,t5,hi',hib,zP6 hx,zP6 hy,hw]
  refine⟨fun hne=> ?_,fun he=> ⟨m - 1,by omega,i+1,by omega,fun j hj=> ?_,by omega⟩⟩
  ·rintro rfl
   rw[hx] at hy;cases hy;exact hne rfl
  ·by_cases hji:j=i
   ·subst hji;rw[hx,hy,he]
   ·exact hno j (by omega)
 ·have hi':¬(i:Int)<a.length:=by omega
  simp -implicitDefEqProofs [t0,t1,t5,hi']
  exact zLh (by omega) fun j hj=> hno j (by omega)
def st63:qW GD:=fun args H=> match args with
 |[x,y]=> (sl0 x).bind fun q=> (sl0 y).bind fun u=> (zGd H q.1).bind fun a=> (zGd H u.1).map fun b=> (q.2.1=a.2.length/\u.2.1=b.2.length/\a.2.length<=1000000/\q.1≠u.1,.ret (.bool (decide (a.2=b.2))),H)
 |_=> none
theorem qLv:qI Tryz.prog cfg 63 st63:=by
 intro args H p r H' h hp
 unfold st63 at h
 split at h
 case h_2=> cases h
 simp only[Option.map_eq_some_iff,Option.bind_eq_some_iff] at h
 obtain⟨q,hq,u,hu,a,ha,b,hb,h⟩:=h
 cases h
 obtain⟨h1,h2,h3,h4⟩:=hp
 rw[zG4 hq,zG4 hu,h1,h2]
 exact (qQo a.1 b.1 a.2 b.2 q.2.2 u.2.2 h3).atK (xE rfl) [q.1,u.1] (by simp[h4]) (by simp) (by simp[zF5 ha,zF5 hb]) (by simp) (by simp) (by simp[xB (zF5 ha),xB (zF5 hb)])
end YtnemoimbeefngaaGreat
end Go.Proofs
namespace Go.Proofs
namespace YtnemoimbeefngaaGreat
open Go.Abs
theorem zXw (l:List Ent):zCh l=qZ (l.map (·.t)):=by simp[zCh,qZ]
theorem zVc (l:List Ent):zHw (zCh l)=some (l.map (·.t)):=by rw[zXw,zHo]
attribute [simp] zVc
end YtnemoimbeefngaaGreat
end Go.Proofs
namespace Go.Proofs
namespace YtnemoimbeefngaaGreat
open Go.Abs
def zJx (H:AH GD) (k:Nat):Option (TypeId × List Ent):=
 match H.get k with
 |some (.arr e cs)=> (zJz cs).map fun h=> (e,h)
 |_=> none
theorem zHk {H:AH GD} {k:Nat} {x:TypeId × List Ent} (hg:zJx H k=some x):H.get k=some (.arr x.1 (zAb x.2)):=by
 unfold zJx at hg
 split at hg
 ·rename_i e cs he
  simp only[Option.map_eq_some_iff] at hg
  obtain⟨h,h1,rfl⟩:=hg
  rw[he,zPe h1]
 ·cases hg
theorem qSm (x y:Ent):zHf [(0,1,false,.int),(1,1,false,.int),(2,1,false,.int)] x.cells y.cells=some (decide (x=y)):=by
 obtain⟨a,b,c⟩:=x;obtain⟨d,e,f⟩:=y
 have beq:∀x y:Int,(x==y)=decide (x=y):=fun x y=> by by_cases h:x=y<;> simp[h]
 simp[zHf,Ent.cells,beq]
 by_cases h1:a=d<;> by_cases h2:b=e<;> by_cases h3:c=f<;> simp[h1,h2,h3]
theorem qQx (e e':TypeId) (a b:List Ent) (tg tg':Nat) (hn:a.length<=1000000):zP Tryz.prog cfg 53 [.slice (some ⟨0,0,none⟩) a.length tg,.slice (some ⟨1,0,none⟩) b.length tg'] (AH.of [some (.arr e (zAb a)),some (.arr e' (zAb b))])
  fun r H'=> r=.ret (.bool (decide (a=b)))/\H'=AH.of [some (.arr e (zAb a)),some (.arr e' (zAb b))]:=by
 refine zX (tbl:=[]) (by simp) (a.length+1) 0 (af:=a53) rfl ?_
 rw[a53,b53,qB]
 refine⟨by simp,?_⟩
 simp -implicitDefEqProofs
 refine⟨fun h1=> (by rintro rfl;exact h1 rfl),fun hl=> ?_⟩
 refine zAp (xC zAh (xD (by simp)) _ _ noY jT) (fun m tm H=> ∃i:Nat,m+i=a.length/\(∀j,j<i->a[j]?=b[j]?)/\tm 0=.slice (some ⟨0,0,none⟩) a.length tg/\tm 1=.slice (some ⟨1,0,none⟩) b.length tg'/\tm 5=.int .i64 i/\
  H=AH.of [some (.arr e (zAb a)),some (.arr e' (zAb b))]) (m:=a.length) ⟨0,by simp⟩ (by omega) ?_
 rintro m tm H ⟨i,hm,hno,t0,t1,t5,rfl⟩
 by_cases hi:i<a.length
 ·obtain⟨x,hx⟩:∃x,a[i]?=some x:=⟨a[i],List.getElem?_eq_getElem hi⟩
  obtain⟨y,hy⟩:=zCk (l:=b) (i:=i) (by omega)
  have hi':(i:Int)<a.length:=by omega
  have hib:(i:Int)<b.length:=by omega
  have hw:=zA8 hi hn
  have hla:i*3+3<=(zAb a).length:=by rw[zCm];omega
  have hlb:i*3+3<=(zAb b).length:=by rw[zCm];omega
  have he:=qSm x y
  simp -implicitDefEqProofs [t0,t1,t5,hi',hib,hi,(show i<b.length by omega),zFf hx,zFf hy,hla,hlb,hw,zCg,he]
  refine⟨fun hne=> ?_,fun he=> ⟨m - 1,by omega,i+1,by omega,fun j hj=> ?_,by omega⟩⟩
  ·rintro rfl
   rw[hx] at hy;cases hy;exact hne rfl
  ·by_cases hji:j=i
   ·subst hji;rw[hx,hy,he]
   ·exact hno j (by omega)
 ·have hi':¬(i:Int)<a.length:=by omega
  simp -implicitDefEqProofs [t0,t1,t5,hi']
  exact zLh (by omega) fun j hj=> hno j (by omega)
def st53:qW GD:=fun args H=> match args with
 |[x,y]=> (sl0 x).bind fun q=> (sl0 y).bind fun u=> (zJx H q.1).bind fun a=> (zJx H u.1).map fun b=> (q.2.1=a.2.length/\u.2.1=b.2.length/\a.2.length<=1000000/\q.1≠u.1,.ret (.bool (decide (a.2=b.2))),H)
 |_=> none
theorem qL4:qI Tryz.prog cfg 53 st53:=by
 intro args H p r H' h hp
 unfold st53 at h
 split at h
 case h_2=> cases h
 simp only[Option.map_eq_some_iff,Option.bind_eq_some_iff] at h
 obtain⟨q,hq,u,hu,a,ha,b,hb,h⟩:=h
 cases h
 obtain⟨h1,h2,h3,h4⟩:=hp
 rw[zG4 hq,zG4 hu,h1,h2]
 exact (qQx a.1 b.1 a.2 b.2 q.2.2 u.2.2 h3).atK (xE rfl) [q.1,u.1] (by simp[h4]) (by simp) (by simp[zHk ha,zHk hb]) (by simp) (by simp) (by simp[xB (zHk ha),xB (zHk hb)])
end YtnemoimbeefngaaGreat
end Go.Proofs
namespace Go.Proofs
namespace YtnemoimbeefngaaGreat
open Go.Abs
theorem qN2 (l:List Ent) (hl:l.length<=8):zP Tryz.prog cfg 110 [.pointer (some ⟨0,0,none⟩)] (AH.of [some (.hi (.rset l))])
  fun r H'=> r=.ret (.slice (some ⟨1,0,none⟩) l.length 1)/\H'=AH.of [some (.hi (.rset l)),some (.arr 155 (zAb l))]:=by
 refine zP.ends ?_
 refine zX (tbl:=[]) (by simp) 0 0 (af:=a110) rfl ?_
 rw[a110,b110,qB]
 refine⟨by simp,?_⟩
 have h1:l.length*24<=140737488355328/\l.length<=9223372036854775807:=by omega
 have h2:l.length*3<=(zAb l).length:=by rw[zCm];omega
 simp -implicitDefEqProofs [zBg,h1,h2,zQp]
 refine zA [.pack (GD.rset l) 0 [2]] [0,3] ?_ ?_ ?_<;> simp[zBg,AObj.mine]
def zH7:qW GD:=fun args H=> match args with
 |[x]=> (zH0 x).bind fun k=> (zIp H k).map fun l=> (l.length<=8,.ret (.slice (some ⟨H.next,0,none⟩) l.length 1),H.add (.arr 155 (zAb l)))
 |_=> none
theorem zTm:qI Tryz.prog cfg 110 zH7:=by
 intro args H p r H' h hp
 unfold zH7 at h
 split at h
 case h_2=> cases h
 simp only[Option.map_eq_some_iff,Option.bind_eq_some_iff] at h
 obtain⟨k,hk,l,hs,h⟩:=h
 cases h
 rw[zFd hk]
 exact (qN2 l hp).atK (xE rfl) [k] (by simp) (by simp) (by simp[zF4 hs]) (by simp) (by simp) (by simp[xB (zF4 hs)])
def tv (l:List Ent):List Int:=l.map (·.t)
end YtnemoimbeefngaaGreat
end Go.Proofs
namespace Go.Proofs
namespace YtnemoimbeefngaaGreat
open Go.Abs
structure HA where
 tr:Bool
 en:Bool
 fs:List (List Pr)
def zPc (x:Ev):Bool:=decide (x.t=0) && decide (x.v=0)
def zVh (fs:List (List Pr)) (x:Ev):Int × List (List Pr):=
 match fs with
 |[]=> (1,[])
 |f::r=>
  if x.k=3 then (xO f r x.t x.v,if xO f r x.t x.v=0 then xP f ⟨x.t,x.v⟩::r else f::r)
  else if x.k=4 then (if 4<=r.length then 4 else 0,if 4<=r.length then f::r else []::f::r)
  else if x.k=5 then (if r=[] then 8 else 0,if r=[] then f::r else r)
  else if x.k=6 then (match r with
   |[]=> (8,[f])
   |g::rs=> (0,xA g f::rs))
  else (0,f::r)
def takeA (o:Option HA) (x:Ev):Option HA:=
 if x.k=1 then (match o with
  |none=> if zPc x=true then some ⟨false,false,[[]]⟩ else none
  |some _=> none)
 else match o with
 |none=> none
 |some a=>
  if a.en=true then none
  else if x.k=8 then (if a.tr=true/\zPc x=true then some { a with en:=true } else none)
  else if x.k=9 then (if zPc x=true then some { a with en:=true } else none)
  else if a.tr=true then none
  else if x.k=2 then (if 0<=x.t/\x.t<12/\zAq x.v=true then some a else none)
  else if x.k=3 then (if (zVh a.fs x).1=0 then some { a with fs:=(zVh a.fs x).2 } else none)
  else if x.k=4∨x.k=5∨x.k=6 then (if zPc x=true/\(zVh a.fs x).1=0 then some { a with fs:=(zVh a.fs x).2 } else none)
  else if x.k=7 then (if zPc x=true/\a.fs.length=1 then some { a with tr:=true } else none)
  else none
def setS (σ:Int->Option HA) (n:Int) (a:HA):Int->Option HA:=fun m=> if m=n then some a else σ m
def takeS (σ:Int->Option HA) (x:Ev):Option (Int->Option HA):=
 if 0<=x.a/\x.a<64 then (takeA (σ x.a) x).map fun a=> setS σ x.a a else none
def runF (σ:Int->Option HA):List Ev->Option (Int->Option HA)
 |[]=> some σ
 |x::l=> (takeS σ x).bind fun σ'=> runF σ' l
def qKj:Int->Option HA:=fun _=> none
def cutS (l:List Ev) (n:Int):List Ev:=l.filter fun x=> decide (x.a=n)
def stF (p:Bool × Int) (x:Ev):Bool × Int:=
 if x.k=1 then (true,p.2) else if x.k=7 then (p.1,2) else if x.k=8 then (p.1,3) else if x.k=9 then (p.1,4) else p
def stC (c:List Ev):Int:=if (c.foldl stF (false,1)).1=true then (c.foldl stF (false,1)).2 else 0
def zIu (l:List Ev) (n:Int):Int:=stC (cutS l n)
def endE (x:Ev):Bool:=decide (x.k=8)||decide (x.k=9)
def attF (out:List Int) (x:Ev):List Int:=if x.k=1/\x.a∉out then out++[x.a] else out
def attsS (l:List Ev):List Int:=l.foldl attF []
def zXr (e:Bool):List Ev->Int->Int->Bool
 |[],_,_=> false
 |x::l,a,b=> if x.a=b/\x.k=1 then e else zXr (e||(decide (x.a=a) && endE x)) l a b
def zXq (l:List Ev) (a b:Int):Bool:=zXr false l a b
def isK (k:Int) (x:Ev):Bool:=decide (x.k=k)
structure Cts where
 a:Nat
 c:Nat
 b:Nat
 o:Nat
 r:Nat
 w:Nat
 deriving DecidableEq
end YtnemoimbeefngaaGreat
end Go.Proofs
namespace Go.Proofs
namespace YtnemoimbeefngaaGreat
open Go.Abs
section
variable {l m:List Ev}
end
end YtnemoimbeefngaaGreat
end Go.Proofs
namespace Go.Proofs
namespace YtnemoimbeefngaaGreat
open Go.Abs
def rw (x:Ev):Bool:=isK 2 x||isK 3 x
section
variable {l:List Ev}
end
end YtnemoimbeefngaaGreat
end Go.Proofs
namespace Go.Proofs
namespace YtnemoimbeefngaaGreat
open Go.Abs
end YtnemoimbeefngaaGreat
end Go.Proofs
namespace Go.Proofs
namespace YtnemoimbeefngaaGreat
open Go.Abs
theorem zUp (L:List (Option (AObj GD))) (k:Nat):zGd (AH.of L) k=match (L[k]?).join with
 |some (.arr e cs)=> (zHw cs).map fun h=> (e,h)
 |_=> none:=rfl
attribute [simp] zUp
end YtnemoimbeefngaaGreat
end Go.Proofs
namespace Go.Proofs
namespace YtnemoimbeefngaaGreat
open Go.Abs
theorem zV8 (L:List (Option (AObj GD))) (k:Nat):qSj (AH.of L) k=match (L[k]?).join with
 |some (.ro cs)=> zG0 cs
 |some (.arr _ cs)=> zG0 cs
 |_=> none:=rfl
attribute [simp] zV8
end YtnemoimbeefngaaGreat
end Go.Proofs
namespace Go.Proofs
namespace YtnemoimbeefngaaGreat
open Go.Abs
end YtnemoimbeefngaaGreat
end Go.Proofs
namespace Go.Proofs
namespace YtnemoimbeefngaaGreat
open Go.Abs
end YtnemoimbeefngaaGreat
end Go.Proofs
namespace Go.Proofs
namespace YtnemoimbeefngaaGreat
open Go.Abs
end YtnemoimbeefngaaGreat
end Go.Proofs
namespace Go.Proofs
namespace YtnemoimbeefngaaGreat
open Go.Abs
end YtnemoimbeefngaaGreat
end Go.Proofs
namespace Go.Proofs
namespace YtnemoimbeefngaaGreat
open Go.Abs
structure RI (l:List Ev) (i:Nat) (σ:Int->Option HA) (kk:Int->Nat × Nat) (es:List MapEntry) (cl:Nat) (H:AH GD):Prop where
 run:runF qKj (l.take i)=some σ
 g0:H.get 0=some (.ro (evs l))
 g1:H.get 1=some (.arr 4 [.bool false])
 g2:H.get 2=some (.map es cl)
 n3:3<=H.next
 find:∀n,zB7 false (.int .i64 n) es=some ((σ n).map fun _=> .pointer (some ⟨(kk n).1,0,none⟩))
 at1:∀n a,σ n=some a->H.get (kk n).1=some (.arr 0 [.pointer (some ⟨(kk n).2,0,none⟩),.bool a.tr,.bool a.en])
 at2:∀n a,σ n=some a->H.get (kk n).2=some (.hi (.log a.fs))
 good:∀n a,σ n=some a->zA6 a.fs
 lt:∀n a,σ n=some a->3<=(kk n).1/\(kk n).1<H.next/\3<=(kk n).2/\(kk n).2<H.next
 ne:∀n m a b,σ n=some a->σ m=some b->(kk n).1≠(kk m).2/\(n≠m->(kk n).1≠(kk m).1/\(kk n).2≠(kk m).2)
section
variable {l:List Ev} {i:Nat} {σ:Int->Option HA} {kk:Int->Nat × Nat} {es:List MapEntry} {cl:Nat} {H H':AH GD} {x:Ev} {a a':HA}
end
end YtnemoimbeefngaaGreat
end Go.Proofs
namespace Go.Proofs
namespace YtnemoimbeefngaaGreat
open Go.Abs
end YtnemoimbeefngaaGreat
end Go.Proofs
namespace Go.Proofs
namespace YtnemoimbeefngaaGreat
open Go.Abs
end YtnemoimbeefngaaGreat
end Go.Proofs
namespace Go.Proofs
namespace YtnemoimbeefngaaGreat
open Go.Abs
theorem zV7 {fs:List (List Pr)} {m:Nat} {g:List Pr} (h:fs[m]?=some g) (t:Int):zAd (fs.drop m) t=match jP g t with|some v=> some v|none=> zAd (fs.drop (m+1)) t:=by
 obtain⟨hl,hg⟩:=List.getElem?_eq_some_iff.1 h
 rw[List.drop_eq_getElem_cons hl,hg]
 cases hp:jP g t with
 |none=> rw[zBf hp]
 |some v=> rw[zCp hp]
theorem qNg (fs:List (List Pr)) (t:Int) (hl:fs.length<=100) (ht:0<=t/\t<12):zP Tryz.prog cfg 167 [.pointer (some ⟨0,0,none⟩),.int .i64 t] (AH.of [some (.hi (.rlog fs))])
  fun r H'=> r=.ret (.tuple #[.int .u64 ((zAd fs t).getD 0),.bool (zAd fs t).isSome])/\H'=AH.of [some (.hi (.rlog fs))]:=by
 refine zP.ends ?_
 refine zP.opn 0 (H1:=AH.of [some (.arr 173 [.slice (some ⟨1,0,none⟩) fs.length 1]),some (.arr 214 (rf fs))]) (by simp[zFt,zAg]) ?_
 have hrl:=zE2 fs
 obtain⟨t,rfl⟩:∃i:Nat,t=i:=⟨t.toNat,by omega⟩
 have ht0:¬(t:Int)<0:=by omega
 have ht1:¬(12:Int)<=t:=by omega
 have ht2:(t:Int)<12:=by omega
 have htn:t<12:=by omega
 have hw0:IntKind.i64.wrap ((fs.length:Int) - 1)=(fs.length:Int) - 1:=qX (by omega) (by omega)
 refine zX (tbl:=[]) (by simp) 101 0 (af:=a167) rfl ?_
 rw[a167,b167,qB]
 refine⟨by simp,?_⟩
 simp -implicitDefEqProofs [ht0,ht1,hw0]
 refine zAp (xC zAh (xD (by simp)) _ _ noY jT) (fun m tm H=> m<=fs.length/\zAd (fs.drop (fs.length - m)) t=zAd fs t/\tm 0=.pointer (some ⟨0,0,none⟩)/\tm 1=.int .i64 t/\tm 6=.int .i64 ((m:Int) - 1)/\H=AH.of [some (.arr 173 [.slice (some ⟨1,0,none⟩) fs.length 1]),some (.arr 214 (rf fs))]) (m:=fs.length) (by simp) (by omega) ?_
 rintro m tm H ⟨hm,hg,t0,t1,t6,rfl⟩
 cases m with
 |zero=>
  have hno:zAd fs t=none:=by
   rw[←hg,Nat.sub_zero,List.drop_length];rfl
  simp -implicitDefEqProofs [t0,t1,t6,hno]
  refine zA [.pack (GD.rlog fs) 0 [1]] [0] ?_ ?_ ?_<;> simp[zAg,AObj.mine]
 |succ i=>
  rw[show ((i+1:Nat):Int) - 1=i by omega] at t6
  obtain⟨g,hgi⟩:=zCk (l:=fs.reverse) (i:=i) (by simp;omega)
  have hgf:fs[fs.length - (i+1)]?=some g:=by
   rw[List.getElem?_reverse (by omega)] at hgi
   rw[←hgi];congr 1;omega
  have hd:=zV7 hgf t
  rw[hg,show fs.length - (i+1)+1=fs.length - i by omega] at hd
  have hi':(i:Int)<fs.length:=by omega
  have hc:=zTy hgi (j:=t) (by omega)
  have hc2:=zTy hgi (j:=12+t) (by omega)
  rw[zEt g htn] at hc
  rw[zGt g htn] at hc2
  have hc3:(rf fs)[i*24+12+t]?=some (.int .u64 ((jP g t).getD 0)):=by rw[←hc2];congr 1;omega
  have hwr:IntKind.i64.wrap ((i:Int) - 1)=(i:Int) - 1:=qX (by omega) (by omega)
  cases hp:jP g t with
  |some v=>
   rw[hp] at hd hc hc2 hc3
   simp -implicitDefEqProofs [t0,t1,t6,ht2,hi',hc,hc2,hc3,hd]
   refine zA [.pack (GD.rlog fs) 0 [1]] [0] ?_ ?_ ?_<;> simp[zAg,AObj.mine]
  |none=>
   rw[hp] at hd hc
   simp -implicitDefEqProofs [t0,t1,t6,ht2,hi',hc,hwr]
   exact⟨i,by omega,by omega,hd.symm,by simp[t0,t1]⟩
def zH2:zAl
 |.rlog fs,[.int .i64 t]=> some (fs.length<=100/\0<=t/\t<12,.tuple #[.int .u64 ((zAd fs t).getD 0),.bool (zAd fs t).isSome],.rlog fs)
 |_,_=> none
theorem zTg:qI Tryz.prog cfg 167 (qC zH2):=xJ fun d rest p v d' h hp=> by
 unfold zH2 at h
 split at h
 ·cases h;exact⟨rfl,rfl,qNg _ _ hp.1 hp.2⟩
 ·cases h
def zOd:List (FuncId × qW GD):=[(167,qC zH2)]
theorem zSz:∀x∈zOd,qI Tryz.prog cfg x.1 x.2:=by simp[zOd,zTg]
theorem qN1 (fs:List (List Pr)) (hl:fs.length<=100):zP Tryz.prog cfg 111 [.pointer (some ⟨0,0,none⟩)] (AH.of [some (.hi (.rlog fs))])
  fun r H'=> r=.ret (.slice (some ⟨1,0,none⟩) (zAk fs).length 1)/\H'=AH.of [some (.hi (.rlog fs)),some (.arr 157 (prs (zAk fs)))]:=by
 refine zP.ends ?_
 refine zX (tbl:=zOd) zSz 13 0 (af:=a111) rfl ?_
 rw[a111,b111,qB]
 refine⟨by simp,?_⟩
 simp -implicitDefEqProofs
 refine zBm (xC zAh (xD zSz) _ _ noY jT) (fun m tm H=> ∃i:Nat,m+i=12/\tm 0=.pointer (some ⟨0,0,none⟩)/\tm 3=.slice (some ⟨1,0,none⟩) (zCw fs i).length 1/\tm 4=.int .i64 i/\H=AH.of [some (.hi (.rlog fs)),some (.arr 157 (prs (zCw fs i)))]) (m:=12) ?_ (by omega) ?_
 ·refine zG5 [.nil 157] [0,1] [some (.hi (.rlog fs)),some (.arr 157 (prs []))] [(3,.slice (some ⟨1,0,none⟩) 0 1)] 12 (by omega) ?_ ?_ ?_ ⟨0,by omega,?_,?_,?_,rfl⟩<;> simp[zCw,prs]
  done
 rintro m tm H ⟨i,hm,t0,t3,t4,rfl⟩
 have hle:=zQk fs i
 by_cases hi:i<12
 ·have hi':(i:Int)<12:=by omega
  have hwr:=zA8 hi (by omega)
  have hsuc:=zRg fs i
  have hr3:((zCw fs i).length+1)*16<=140737488355328/\(zCw fs i).length<=9223372036854775806:=by omega
  have htk:=zJ5 (zCw fs i)
  have hll:(zCw fs i).length*2<=(prs (zCw fs i)).length:=by rw[zCs];omega
  cases hv:zAd fs i with
  |none=>
   simp only[hv,List.append_nil] at hsuc
   simp -implicitDefEqProofs [zOd,qC,zH2,hl,t0,t3,t4,hi,hi',hwr,hv]
   refine qS [] [0,1] [some (.hi (.rlog fs)),some (.arr 157 (prs (zCw fs (i+1))))] (m - 1) (by omega) ?_ ?_ ⟨i+1,by omega,?_,?_,?_,rfl⟩<;> simp[t0,t3,hsuc]
  |some v=>
   simp only[hv] at hsuc
   simp -implicitDefEqProofs [zOd,qC,zH2,hl,t0,t3,t4,hi,hi',hwr,hv,hr3,htk,hll]
   refine qS [] [0,3] [some (.hi (.rlog fs)),some (.arr 157 (prs (zCw fs (i+1))))] (m - 1) (by omega) ?_ ?_ ⟨i+1,by omega,?_,?_,?_,rfl⟩<;> simp[t0,hsuc,zKb,zKa]
 ·have hie:i=12:=by omega
  subst hie
  simp -implicitDefEqProofs [t0,t3,t4]
  refine zA [] [0,1] ?_ ?_ ?_<;> simp[zAk]
def zFp:qW GD:=fun args H=> match args with
 |[.pointer (some ⟨k,0,none⟩)]=> match H.get k with
  |some (.hi (.rlog fs))=> some (fs.length<=100,.ret (.slice (some ⟨H.next,0,none⟩) (zAk fs).length 1),H.add (.arr 157 (prs (zAk fs))))
  |_=> none
 |_=> none
theorem zTl:qI Tryz.prog cfg 111 zFp:=by
 intro args H p r H' h hp
 unfold zFp at h
 split at h
 case h_2=> cases h
 split at h
 case h_2=> cases h
 rename_i k x fs hk
 cases h
 exact (qN1 fs hp).atK (xE rfl) [k] (by simp) (by simp) (by simp[hk]) (by simp) (by simp) (by simp[xB hk])
end YtnemoimbeefngaaGreat
end Go.Proofs
namespace Go.Proofs
namespace YtnemoimbeefngaaGreat
open Go.Abs
theorem qM0 (v:Int) (h0:0<=v) (h1:v<18446744073709551616) (H:AH GD):zP Tryz.prog cfg 202 [.int .u64 v] H fun r H'=> r=.ret (.int .u64 (zHv v))/\H'=H:=by
 refine zX (tbl:=[(98,zE7)]) (by simp[zJt]) 0 0 (af:=a202) rfl ?_
 rw[a202,b202,qB]
 refine⟨by simp,?_⟩
 simp -implicitDefEqProofs [zE7,h0,h1]
 repeat' (first|with_reducible apply And.intro|with_reducible intro _)
 all_goals simp[zHv, *]
def zR8:qW GD:=fun args H=> match args with
 |[x]=> (asU x).map fun v=> (0<=v/\v<18446744073709551616,.ret (.int .u64 (zHv v)),H)
 |_=> none
theorem qF5:qI Tryz.prog cfg 202 zR8:=by
 intro args H p r H' h hp
 unfold zR8 at h
 split at h
 case h_2=> cases h
 simp only[Option.map_eq_some_iff] at h
 obtain⟨v,hv,h⟩:=h
 cases h
 rw[zGk hv]
 exact qM0 v hp.1 hp.2 H
theorem qNd (a b:Int) (ha:0<=a/\a<18446744073709551616) (hb:0<=b/\b<18446744073709551616) (H:AH GD):zP Tryz.prog cfg 170 [.int .u64 a,.int .u64 b] H fun r H'=> r=.ret (.bool (zDl a b))/\H'=H:=by
 refine zX (tbl:=[(202,zR8)]) (by simp[qF5]) 0 0 (af:=a170) rfl ?_
 rw[a170,b170,qB]
 refine⟨by simp,?_⟩
 simp -implicitDefEqProofs [zR8,ha,hb]
 simp[zDl]
def zH5:qW GD:=fun args H=> match args with
 |[x,y]=> (asU x).bind fun a=> (asU y).map fun b=> ((0<=a/\a<18446744073709551616)/\0<=b/\b<18446744073709551616,.ret (.bool (zDl a b)),H)
 |_=> none
theorem zTf:qI Tryz.prog cfg 170 zH5:=by
 intro args H p r H' h hp
 unfold zH5 at h
 split at h
 case h_2=> cases h
 simp only[Option.map_eq_some_iff,Option.bind_eq_some_iff] at h
 obtain⟨a,ha,b,hb,h⟩:=h
 cases h
 rw[zGk ha,zGk hb]
 exact qNd a b hp.1 hp.2 H
structure FrOk (s:NS):Prop where
 fr:∀th a,s.ts th=some a->∀f∈a.fs,zFk f
 ev:∀th a,s.ts th=some a->∀e∈a.es,0<=e.v/\e.v<18446744073709551616
theorem zGe {s:NS} {th:Nat} {a:Att} {w:Int} (h:¬s.o=some (th:Int)):qY s th a w={ s with ts:=zZ s.ts th none,ev:=s.ev++[⟨9,a.n,0,0⟩],wy:=s.wy.set a.n w }:=by
 unfold qY
 rw[if_neg h,if_neg h]
theorem qB7 (d e:Ev):evs [d,e]=[.int .u8 d.k,.int .i64 d.a,.int .i64 d.t,.int .u64 d.v,.int .u8 e.k,.int .i64 e.a,.int .i64 e.t,.int .u64 e.v]:=rfl
theorem qHc {n:Nat} (h:n<=100000):(n+1+1)*32<=140737488355328/\n+1<=9223372036854775806/\(n+1)*32<=140737488355328/\n+1<=9223372036854775807:=⟨by omega,Nat.le_trans (Nat.succ_le_succ h) (by decide),by omega,Nat.le_trans (Nat.succ_le_succ h) (by decide)⟩
theorem zYa (l:List Ev) (n:Nat):(evs l++([.int .u8 7,.int .i64 n,.int .i64 0,.int .u64 0]:List Value)).take ((l.length+1)*4)=evs l++([.int .u8 7,.int .i64 n,.int .i64 0,.int .u64 0]:List Value):=by
 refine List.take_of_length_le ?_
 rw[List.length_append,qT]
 simp only[List.length_cons,List.length_nil]
 omega
theorem zIb {l:List Ent} {i:Nat} {e:Ent} (h:l[i]?=some e):(zAb l)[i*3]?=some (.int .i64 e.t)/\(zAb l)[i*3+1]?=some (.int .u64 e.v):=by
 have h3:=zFf h
 have g:∀j,j<3->(zAb l)[i*3+j]?=e.cells[j]?:=fun j hj=> by
  rw[←h3,List.getElem?_take,if_pos hj,List.getElem?_drop]
 exact⟨g 0 (by omega),g 1 (by omega)⟩
def xR:List (FuncId × qW GD):=[(117,qC zL0),(177,qC zQd),(178,qC d178),(172,qC zGx),(112,qC zKv),(171,qC zKt),(170,zH5),
 (110,zH7),(175,zMp),(167,qC zH2),(111,zFp),(179,qC d179),(180,qC zKs),(181,qC d181),(182,qC zQc)]
theorem zAn:∀x∈xR,qI Tryz.prog cfg x.1 x.2:=by simp[xR,zTj,qGc,qGb,zTe,zTk,qGe,zTf,zTm,qGd,zTg,zTl,qGa,zTd,qF9,qF8]
end YtnemoimbeefngaaGreat
end Go.Proofs
namespace Go.Proofs
namespace YtnemoimbeefngaaGreat
open Go.Abs
theorem qBz (s:NS) (hs:s.Ok) (hF:FrOk s) (hev:s.ev.length<=100000) (th:Nat) (hth:th<4) (a:Att) (ha:s.ts th=some a) (hk:a.asked=true) (hat:a.at_=4) (ho:s.o=none):zP Tryz.prog cfg 77 [.pointer (some ⟨0,0,none⟩),.int .i64 th] (AH.of [some (.hi (.reng s))])
  fun r H'=> r=.ret (qJ).v/\H'=AH.of [some (.hi (.reng ({ s with ts:=zZ s.ts th (some { a with seen:=s.c,at_:=5,nx:=0 }) })))]:=by
 refine zP.ends ?_
 generalize hS:(({ s with ts:=zZ s.ts th (some { a with seen:=s.c,at_:=5,nx:=0 }) }):NS)=S'
 refine zP.openREng hth ?_
 have z1:¬(th:Int)<0:=by omega
 have z2:¬4<=(th:Int):=by omega
 have z3:(th:Int)<4:=by omega
 have z4:2+th+1<=8:=by omega
 have gt:∀a b q ts x y,(zR a b th q ts x y)[2+th]?=some q:=fun a b q ts x y=> xS a b hth q ts x y
 have gg:∀a b q ts x y (h:2+th<(zR a b th q ts x y).length),(zR a b th q ts x y)[2+th]'h=q:=fun a b q ts x y h=> xH a b hth q ts x y h
 have gs:∀a b q ts x y v,(zR a b th q ts x y).set (2+th) v=zR a b th v ts x y:=fun a b q ts x y v=> xG a b hth q ts x y v
 have hok:=hs.ts th a ha
 have hel:=zAt hev
 have t3:=jB s.ev
 have hkk:=jZ hs.kw
 refine zX (tbl:=xR) zAn 0 5 (af:=a77) rfl ?_
 rw[a77,b77,qB]
 refine⟨by simp,?_⟩
 simp -implicitDefEqProofs [qL,xR,qC,forms116,a116,b116,forms120,a120,b120,forms122,a122,b122,forms123,a123,b123,forms176,a176,b176,forms125,a125,b125,forms173,a173,b173,forms124,a124,b124,forms174,a174,b174,forms126,a126,b126,forms127,a127,b127,z1,z2,z3,z4,gt,gg,gs,jX,jW,jV,jU,jN,jM,jL,jK,jJ,jI,jD,ha,qD,qG,qA,qF,hk,hel,t3,hkk,qT,zL0,hat,ho,zDw]
 subst hS
 obtain⟨q4,hq⟩:=thQ th
 rcases qH hth with rfl|rfl|rfl|rfl<;> (repeat' with_reducible apply And.intro)<;> (refine zA [.pack (GD.ratt { a with seen:=s.c,at_:=5,nx:=0 }) 5 [10,11],.pack (GD.reng ({ s with ts:=zZ s.ts q4 (some { a with seen:=s.c,at_:=5,nx:=0 }) })) 0 (1::2::3::4::v4 5 q4)] [0] ?_ ?_ ?_<;> simp[hq,v4,qF,qV,zR,rps,qD,qG,zZ,ha,qA,qR,o1,o2,o3,Rp.v,Rp.cells,qJ,qQ,qK,qP,qO,zW,zY,qM,hk,ho])
theorem qBy (s:NS) (hs:s.Ok) (hF:FrOk s) (hev:s.ev.length<=100000) (th:Nat) (hth:th<4) (a:Att) (ha:s.ts th=some a) (hk:a.asked=true) (hat:a.at_=5) (hx:a.nx=a.es.length):zP Tryz.prog cfg 77 [.pointer (some ⟨0,0,none⟩),.int .i64 th] (AH.of [some (.hi (.reng s))])
  fun r H'=> r=.ret (qJ).v/\H'=AH.of [some (.hi (.reng ({ s with ts:=zZ s.ts th (some { a with at_:=6 }) })))]:=by
 refine zP.ends ?_
 generalize hS:(({ s with ts:=zZ s.ts th (some { a with at_:=6 }) }):NS)=S'
 refine zP.openREng hth ?_
 have z1:¬(th:Int)<0:=by omega
 have z2:¬4<=(th:Int):=by omega
 have z3:(th:Int)<4:=by omega
 have z4:2+th+1<=8:=by omega
 have gt:∀a b q ts x y,(zR a b th q ts x y)[2+th]?=some q:=fun a b q ts x y=> xS a b hth q ts x y
 have gg:∀a b q ts x y (h:2+th<(zR a b th q ts x y).length),(zR a b th q ts x y)[2+th]'h=q:=fun a b q ts x y h=> xH a b hth q ts x y h
 have gs:∀a b q ts x y v,(zR a b th q ts x y).set (2+th) v=zR a b th v ts x y:=fun a b q ts x y v=> xG a b hth q ts x y v
 have hok:=hs.ts th a ha
 have hel:=zAt hev
 have t3:=jB s.ev
 have hkk:=jZ hs.kw
 have hg8:=hok.es.len
 have hx1:((a.es.length:Int)<=(a.nx:Int))=True:=eq_true (by omega)
 have hx2:(a.es.length<=a.nx)=True:=eq_true (by omega)
 refine zX (tbl:=xR) zAn 0 5 (af:=a77) rfl ?_
 rw[a77,b77,qB]
 refine⟨by simp,?_⟩
 simp -implicitDefEqProofs [qL,xR,qC,forms116,a116,b116,forms120,a120,b120,forms122,a122,b122,forms123,a123,b123,forms176,a176,b176,forms125,a125,b125,forms173,a173,b173,forms124,a124,b124,forms174,a174,b174,forms126,a126,b126,forms127,a127,b127,z1,z2,z3,z4,gt,gg,gs,jX,jW,jV,jU,jN,jM,jL,jK,jJ,jI,jD,ha,qD,qG,qA,qF,hk,hel,t3,hkk,qT,zH7,hat,hx1,hx2,hg8]
 subst hS
 obtain⟨q4,hq⟩:=thQ th
 rcases qH hth with rfl|rfl|rfl|rfl<;> (repeat' with_reducible apply And.intro)<;> (refine zA [.pack (GD.ratt { a with at_:=6 }) 5 [10,11],.pack (GD.reng ({ s with ts:=zZ s.ts q4 (some { a with at_:=6 }) })) 0 (1::2::3::4::v4 5 q4)] [0] ?_ ?_ ?_<;> simp[hq,v4,qF,qV,zR,rps,qD,qG,zZ,ha,qA,qR,o1,o2,o3,Rp.v,Rp.cells,qJ,qQ,qK,qP,qO,zW,zY,qM,hk])
theorem qBx (s:NS) (hs:s.Ok) (hF:FrOk s) (hev:s.ev.length<=100000) (th:Nat) (hth:th<4) (a:Att) (ha:s.ts th=some a) (hk:a.asked=true) (e:Ent) (hat:a.at_=5) (hx:a.es[a.nx]?=some e) (hsm:zDl ((s.hp[e.t.toNat]?).getD 0) e.v=true):zP Tryz.prog cfg 77 [.pointer (some ⟨0,0,none⟩),.int .i64 th] (AH.of [some (.hi (.reng s))])
  fun r H'=> r=.ret (qJ).v/\H'=AH.of [some (.hi (.reng ({ s with ts:=zZ s.ts th (some { a with at_:=5,nx:=a.nx+1 }) })))]:=by
 refine zP.ends ?_
 generalize hS:(({ s with ts:=zZ s.ts th (some { a with at_:=5,nx:=a.nx+1 }) }):NS)=S'
 refine zP.openREng hth ?_
 have z1:¬(th:Int)<0:=by omega
 have z2:¬4<=(th:Int):=by omega
 have z3:(th:Int)<4:=by omega
 have z4:2+th+1<=8:=by omega
 have gt:∀a b q ts x y,(zR a b th q ts x y)[2+th]?=some q:=fun a b q ts x y=> xS a b hth q ts x y
 have gg:∀a b q ts x y (h:2+th<(zR a b th q ts x y).length),(zR a b th q ts x y)[2+th]'h=q:=fun a b q ts x y h=> xH a b hth q ts x y h
 have gs:∀a b q ts x y v,(zR a b th q ts x y).set (2+th) v=zR a b th v ts x y:=fun a b q ts x y v=> xG a b hth q ts x y v
 have hok:=hs.ts th a ha
 have hel:=zAt hev
 have t3:=jB s.ev
 have hkk:=jZ hs.kw
 have hg8:=hok.es.len
 have hlt:=(List.getElem?_eq_some_iff.1 hx).1
 have hne:¬(a.es.length:Int)<=a.nx:=by omega
 have hlt2:(a.nx:Int)<a.es.length:=by omega
 have her:=hok.es.range e (List.mem_of_getElem? hx)
 have het:=hok.est e (List.mem_of_getElem? hx)
 have hev2:=hF.ev th a ha e (List.mem_of_getElem? hx)
 obtain⟨rx,rv⟩:=zIb hx
 obtain⟨y,hy⟩:∃y,s.hp[e.t.toNat]?=some y:=⟨s.hp[e.t.toNat]'(by omega),List.getElem?_eq_getElem (by omega)⟩
 rw[hy,Option.getD_some] at hsm
 have hyv:=hs.hv y (List.mem_of_getElem? hy)
 have uy:=zEb hy
 have hnx:=hok.nx
 have hwr:IntKind.i64.wrap ((a.nx:Int)+1)=((a.nx+1:Nat):Int):=by rw[qX (by omega) (by omega)];omega
 refine zX (tbl:=xR) zAn 0 5 (af:=a77) rfl ?_
 rw[a77,b77,qB]
 refine⟨by simp,?_⟩
 simp -implicitDefEqProofs [qL,xR,qC,forms116,a116,b116,forms120,a120,b120,forms122,a122,b122,forms123,a123,b123,forms176,a176,b176,forms125,a125,b125,forms173,a173,b173,forms124,a124,b124,forms174,a174,b174,forms126,a126,b126,forms127,a127,b127,z1,z2,z3,z4,gt,gg,gs,jX,jW,jV,jU,jN,jM,jL,jK,jJ,jI,jD,ha,qD,qG,qA,qF,hk,hel,t3,hkk,qT,zH7,zH5,hat,hne,hlt,hlt2,hg8,rx,rv,her,het,hev2,uy,hsm,hyv,hwr]
 subst hS
 obtain⟨q4,hq⟩:=thQ th
 rcases qH hth with rfl|rfl|rfl|rfl<;> (repeat' with_reducible apply And.intro)<;> (refine zA [.pack (GD.ratt { a with at_:=5,nx:=a.nx+1 }) 5 [10,11],.pack (GD.reng ({ s with ts:=zZ s.ts q4 (some { a with at_:=5,nx:=a.nx+1 }) })) 0 (1::2::3::4::v4 5 q4)] [0] ?_ ?_ ?_<;> simp[hq,v4,qF,qV,zR,rps,qD,qG,zZ,ha,qA,qR,o1,o2,o3,Rp.v,Rp.cells,qJ,qQ,qK,qP,qO,zW,zY,qM,hk])
theorem qBv (s:NS) (hs:s.Ok) (hF:FrOk s) (hev:s.ev.length<=100000) (th:Nat) (hth:th<4) (a:Att) (ha:s.ts th=some a) (hk:a.asked=true) (hat:a.at_=6) (hc:s.c=a.seen):zP Tryz.prog cfg 77 [.pointer (some ⟨0,0,none⟩),.int .i64 th] (AH.of [some (.hi (.reng s))])
  fun r H'=> r=.ret (qJ).v/\H'=AH.of [some (.hi (.reng ({ s with ts:=zZ s.ts th (some { a with snap:=a.seen,at_:=a.back }),ky:=s.ky.set a.n (a.seen+1) })))]:=by
 refine zP.ends ?_
 generalize hS:(({ s with ts:=zZ s.ts th (some { a with snap:=a.seen,at_:=a.back }),ky:=s.ky.set a.n (a.seen+1) }):NS)=S'
 refine zP.openREng hth ?_
 have z1:¬(th:Int)<0:=by omega
 have z2:¬4<=(th:Int):=by omega
 have z3:(th:Int)<4:=by omega
 have z4:2+th+1<=8:=by omega
 have gt:∀a b q ts x y,(zR a b th q ts x y)[2+th]?=some q:=fun a b q ts x y=> xS a b hth q ts x y
 have gg:∀a b q ts x y (h:2+th<(zR a b th q ts x y).length),(zR a b th q ts x y)[2+th]'h=q:=fun a b q ts x y h=> xH a b hth q ts x y h
 have gs:∀a b q ts x y v,(zR a b th q ts x y).set (2+th) v=zR a b th v ts x y:=fun a b q ts x y v=> xG a b hth q ts x y v
 have hok:=hs.ts th a ha
 have hel:=zAt hev
 have t3:=jB s.ev
 have hkk:=jZ hs.kw
 have hnk:a.n<s.ky.length:=by have:=hok.n;have:=hs.kw;omega
 have hnk2:(a.n:Int)<s.ky.length:=by omega
 have hnk3:a.n*2+2<=s.ky.length*2:=by omega
 have hnk4:a.n*2+1+1<=s.ky.length*2:=by omega
 have hnk5:a.n*2+1<=s.ky.length*2:=by omega
 have hse:=hok.seen
 have hsc:=hs.c
 have hw1:IntKind.u64.wrap (a.seen+1)=a.seen+1:=zBn (by omega) (by omega)
 have hkw:=zNy (ky:=s.ky) (wy:=s.wy) (a.seen+1) hs.kw hnk
 have hbk:a.back<4:=by have:=hok.back;omega
 have hkl:(s.ky.set a.n (a.seen+1)).length=s.ky.length:=List.length_set
 refine zX (tbl:=xR) zAn 0 5 (af:=a77) rfl ?_
 rw[a77,b77,qB]
 refine⟨by simp,?_⟩
 simp -implicitDefEqProofs [qL,xR,qC,forms116,a116,b116,forms120,a120,b120,forms122,a122,b122,forms123,a123,b123,forms176,a176,b176,forms125,a125,b125,forms173,a173,b173,forms124,a124,b124,forms174,a174,b174,forms126,a126,b126,forms127,a127,b127,z1,z2,z3,z4,gt,gg,gs,jX,jW,jV,jU,jN,jM,jL,jK,jJ,jI,jD,ha,qD,qG,qA,qF,hk,hel,t3,hkk,qT,zKt,hat,hc,hnk,hnk2,hnk3,hnk4,hnk5,hw1,hkw]
 subst hS
 obtain⟨q4,hq⟩:=thQ th
 rcases qH hth with rfl|rfl|rfl|rfl<;> (repeat' with_reducible apply And.intro)<;> (refine zA [.pack (GD.ratt { a with snap:=a.seen,at_:=a.back }) 5 [10,11],.pack (GD.reng ({ s with ts:=zZ s.ts q4 (some { a with snap:=a.seen,at_:=a.back }),ky:=s.ky.set a.n (a.seen+1) })) 0 (1::2::3::4::v4 5 q4)] [0] ?_ ?_ ?_<;> simp[hq,v4,qF,qV,zR,rps,qD,qG,zZ,ha,qA,qR,o1,o2,o3,Rp.v,Rp.cells,qJ,qQ,qK,qP,qO,zW,zY,qM,hk,hc,hbk])
theorem qBw (s:NS) (hs:s.Ok) (hF:FrOk s) (hev:s.ev.length<=100000) (th:Nat) (hth:th<4) (a:Att) (ha:s.ts th=some a) (hk:a.asked=true) (hat:a.at_=6) (hc:¬s.c=a.seen):zP Tryz.prog cfg 77 [.pointer (some ⟨0,0,none⟩),.int .i64 th] (AH.of [some (.hi (.reng s))])
  fun r H'=> r=.ret (qJ).v/\H'=AH.of [some (.hi (.reng ({ s with ts:=zZ s.ts th (some { a with at_:=4 }) })))]:=by
 refine zP.ends ?_
 generalize hS:(({ s with ts:=zZ s.ts th (some { a with at_:=4 }) }):NS)=S'
 refine zP.openREng hth ?_
 have z1:¬(th:Int)<0:=by omega
 have z2:¬4<=(th:Int):=by omega
 have z3:(th:Int)<4:=by omega
 have z4:2+th+1<=8:=by omega
 have gt:∀a b q ts x y,(zR a b th q ts x y)[2+th]?=some q:=fun a b q ts x y=> xS a b hth q ts x y
 have gg:∀a b q ts x y (h:2+th<(zR a b th q ts x y).length),(zR a b th q ts x y)[2+th]'h=q:=fun a b q ts x y h=> xH a b hth q ts x y h
 have gs:∀a b q ts x y v,(zR a b th q ts x y).set (2+th) v=zR a b th v ts x y:=fun a b q ts x y v=> xG a b hth q ts x y v
 have hok:=hs.ts th a ha
 have hel:=zAt hev
 have t3:=jB s.ev
 have hkk:=jZ hs.kw
 refine zX (tbl:=xR) zAn 0 5 (af:=a77) rfl ?_
 rw[a77,b77,qB]
 refine⟨by simp,?_⟩
 simp -implicitDefEqProofs [qL,xR,qC,forms116,a116,b116,forms120,a120,b120,forms122,a122,b122,forms123,a123,b123,forms176,a176,b176,forms125,a125,b125,forms173,a173,b173,forms124,a124,b124,forms174,a174,b174,forms126,a126,b126,forms127,a127,b127,z1,z2,z3,z4,gt,gg,gs,jX,jW,jV,jU,jN,jM,jL,jK,jJ,jI,jD,ha,qD,qG,qA,qF,hk,hel,t3,hkk,qT,zKt,hat,hc]
 subst hS
 obtain⟨q4,hq⟩:=thQ th
 rcases qH hth with rfl|rfl|rfl|rfl<;> (repeat' with_reducible apply And.intro)<;> (refine zA [.pack (GD.ratt { a with at_:=4 }) 5 [10,11],.pack (GD.reng ({ s with ts:=zZ s.ts q4 (some { a with at_:=4 }) })) 0 (1::2::3::4::v4 5 q4)] [0] ?_ ?_ ?_<;> simp[hq,v4,qF,qV,zR,rps,qD,qG,zZ,ha,qA,qR,o1,o2,o3,Rp.v,Rp.cells,qJ,qQ,qK,qP,qO,zW,zY,qM,hk])
theorem qB0 (s:NS) (hs:s.Ok) (hF:FrOk s) (hev:s.ev.length<=100000) (th:Nat) (hth:th<4) (a:Att) (ha:s.ts th=some a) (hk:a.asked=true) (x:Int) (hat:a.at_=4) (ho:s.o=some x):zP Tryz.prog cfg 77 [.pointer (some ⟨0,0,none⟩),.int .i64 th] (AH.of [some (.hi (.reng s))])
  fun r H'=> r=.ret (qO x).v/\H'=AH.of [some (.hi (.reng (s)))]:=by
 refine zP.ends ?_
 refine zP.openREng hth ?_
 have z1:¬(th:Int)<0:=by omega
 have z2:¬4<=(th:Int):=by omega
 have z3:(th:Int)<4:=by omega
 have z4:2+th+1<=8:=by omega
 have gt:∀a b q ts x y,(zR a b th q ts x y)[2+th]?=some q:=fun a b q ts x y=> xS a b hth q ts x y
 have gg:∀a b q ts x y (h:2+th<(zR a b th q ts x y).length),(zR a b th q ts x y)[2+th]'h=q:=fun a b q ts x y h=> xH a b hth q ts x y h
 have gs:∀a b q ts x y v,(zR a b th q ts x y).set (2+th) v=zR a b th v ts x y:=fun a b q ts x y v=> xG a b hth q ts x y v
 have hok:=hs.ts th a ha
 have hel:=zAt hev
 have t3:=jB s.ev
 have hkk:=jZ hs.kw
 refine zX (tbl:=xR) zAn 0 5 (af:=a77) rfl ?_
 rw[a77,b77,qB]
 refine⟨by simp,?_⟩
 simp -implicitDefEqProofs [qL,xR,qC,forms116,a116,b116,forms120,a120,b120,forms122,a122,b122,forms123,a123,b123,forms176,a176,b176,forms125,a125,b125,forms173,a173,b173,forms124,a124,b124,forms174,a174,b174,forms126,a126,b126,forms127,a127,b127,z1,z2,z3,z4,gt,gg,gs,jX,jW,jV,jU,jN,jM,jL,jK,jJ,jI,jD,ha,qD,qG,qA,qF,hk,hel,t3,hkk,qT,zL0,zKv,hat,ho,zDw,zEg]
 obtain⟨q4,hq⟩:=thQ th
 rcases qH hth with rfl|rfl|rfl|rfl<;> (repeat' with_reducible apply And.intro)<;> (refine zA [.pack (GD.ratt a) 5 [10,11],.pack (GD.reng s) 0 (1::2::3::4::v4 5 q4)] [0] ?_ ?_ ?_<;> simp[hq,v4,qF,qV,zR,rps,qD,qG,zZ,ha,qA,qR,o1,o2,o3,Rp.v,Rp.cells,qJ,qQ,qK,qP,qO,zW,zY,qM,hk,ho,hat])
end YtnemoimbeefngaaGreat
end Go.Proofs
namespace Go.Proofs
namespace YtnemoimbeefngaaGreat
open Go.Abs
theorem zYg (s:NS) (hs:s.Ok) (hF:FrOk s) (hev:s.ev.length<=100000) (th:Nat) (hth:th<4) (a:Att) (ha:s.ts th=some a) (hk:a.asked=true) (e:Ent) (hat:a.at_=5) (hx:a.es[a.nx]?=some e) (hsm:zDl ((s.hp[e.t.toNat]?).getD 0) e.v=false) (ho:s.o=some (th:Int)):zP Tryz.prog cfg 77 [.pointer (some ⟨0,0,none⟩),.int .i64 th] (AH.of [some (.hi (.reng s))])
  fun r H'=> r=.ret (qP 1).v/\H'=AH.of [some (.hi (.reng (qY s th a 1)))]:=by
 refine zP.ends ?_
 generalize hS:((qY s th a 1):NS)=S'
 refine zP.openREng hth ?_
 have z1:¬(th:Int)<0:=by omega
 have z2:¬4<=(th:Int):=by omega
 have z3:(th:Int)<4:=by omega
 have z4:2+th+1<=8:=by omega
 have gt:∀a b q ts x y,(zR a b th q ts x y)[2+th]?=some q:=fun a b q ts x y=> xS a b hth q ts x y
 have gg:∀a b q ts x y (h:2+th<(zR a b th q ts x y).length),(zR a b th q ts x y)[2+th]'h=q:=fun a b q ts x y h=> xH a b hth q ts x y h
 have gs:∀a b q ts x y v,(zR a b th q ts x y).set (2+th) v=zR a b th v ts x y:=fun a b q ts x y v=> xG a b hth q ts x y v
 have hok:=hs.ts th a ha
 have hel:=zAt hev
 have t3:=jB s.ev
 have hkk:=jZ hs.kw
 have hg8:=hok.es.len
 have hlt:=(List.getElem?_eq_some_iff.1 hx).1
 have hne:¬(a.es.length:Int)<=a.nx:=by omega
 have hlt2:(a.nx:Int)<a.es.length:=by omega
 have her:=hok.es.range e (List.mem_of_getElem? hx)
 have het:=hok.est e (List.mem_of_getElem? hx)
 have hev2:=hF.ev th a ha e (List.mem_of_getElem? hx)
 obtain⟨rx,rv⟩:=zIb hx
 obtain⟨y,hy⟩:∃y,s.hp[e.t.toNat]?=some y:=⟨s.hp[e.t.toNat]'(by omega),List.getElem?_eq_getElem (by omega)⟩
 rw[hy,Option.getD_some] at hsm
 have hyv:=hs.hv y (List.mem_of_getElem? hy)
 have uy:=zEb hy
 have hnk:a.n<s.ky.length:=by have:=hok.n;have:=hs.kw;omega
 have hnk2:(a.n:Int)<s.ky.length:=by omega
 have hnk3:a.n*2+2<=s.ky.length*2:=by omega
 have hnk4:a.n*2+1+1<=s.ky.length*2:=by omega
 have hnk5:a.n*2+1<=s.ky.length*2:=by omega
 have hkw:=zDr (ky:=s.ky) (wy:=s.wy) 1 hs.kw hnk
 have hcw:IntKind.u64.wrap (s.c - 1)=s.c - 1:=by have h1:=hs.held _ ho;have h2:=hs.c;exact zBn (by omega) (by omega)
 refine zX (tbl:=xR) zAn 0 5 (af:=a77) rfl ?_
 rw[a77,b77,qB]
 refine⟨by simp,?_⟩
 simp -implicitDefEqProofs [qL,xR,qC,forms116,a116,b116,forms120,a120,b120,forms122,a122,b122,forms123,a123,b123,forms176,a176,b176,forms125,a125,b125,forms173,a173,b173,forms124,a124,b124,forms174,a174,b174,forms126,a126,b126,forms127,a127,b127,z1,z2,z3,z4,gt,gg,gs,jX,jW,jV,jU,jN,jM,jL,jK,jJ,jI,jD,ha,qD,qG,qA,qF,hk,hel,t3,hkk,qT,zH7,zH5,hat,hne,hlt,hlt2,hg8,rx,rv,her,het,hev2,uy,hsm,hyv,zGx,ho,hnk,hnk2,hnk3,hnk4,hnk5,hkw,hcw]
 subst hS
 obtain⟨q4,hq⟩:=thQ th
 rcases qH hth with rfl|rfl|rfl|rfl<;> (repeat' with_reducible apply And.intro)<;> (refine zA [.nil 123,.pack (GD.reng (qY s q4 a 1)) 0 (1::2::19::4::v4 20 q4)] [0] ?_ ?_ ?_<;> simp[hq,v4,qF,qV,zR,rps,qD,qG,zZ,ha,qA,qR,o1,o2,o3,Rp.v,Rp.cells,qJ,qQ,qK,qP,qO,zW,zY,qM,hk,qY,ho])
theorem zYh (s:NS) (hs:s.Ok) (hF:FrOk s) (hev:s.ev.length<=100000) (th:Nat) (hth:th<4) (a:Att) (ha:s.ts th=some a) (hk:a.asked=true) (e:Ent) (hat:a.at_=5) (hx:a.es[a.nx]?=some e) (hsm:zDl ((s.hp[e.t.toNat]?).getD 0) e.v=false) (ho:¬s.o=some (th:Int)):zP Tryz.prog cfg 77 [.pointer (some ⟨0,0,none⟩),.int .i64 th] (AH.of [some (.hi (.reng s))])
  fun r H'=> r=.ret (qP 1).v/\H'=AH.of [some (.hi (.reng (qY s th a 1)))]:=by
 refine zP.ends ?_
 rw[zGe ho]
 generalize hS:(({ s with ts:=zZ s.ts th none,ev:=s.ev++[⟨9,a.n,0,0⟩],wy:=s.wy.set a.n 1 }):NS)=S'
 refine zP.openREng hth ?_
 have z1:¬(th:Int)<0:=by omega
 have z2:¬4<=(th:Int):=by omega
 have z3:(th:Int)<4:=by omega
 have z4:2+th+1<=8:=by omega
 have gt:∀a b q ts x y,(zR a b th q ts x y)[2+th]?=some q:=fun a b q ts x y=> xS a b hth q ts x y
 have gg:∀a b q ts x y (h:2+th<(zR a b th q ts x y).length),(zR a b th q ts x y)[2+th]'h=q:=fun a b q ts x y h=> xH a b hth q ts x y h
 have gs:∀a b q ts x y v,(zR a b th q ts x y).set (2+th) v=zR a b th v ts x y:=fun a b q ts x y v=> xG a b hth q ts x y v
 have hok:=hs.ts th a ha
 have hel:=zAt hev
 have t3:=jB s.ev
 have hkk:=jZ hs.kw
 have hg8:=hok.es.len
 have hlt:=(List.getElem?_eq_some_iff.1 hx).1
 have hne:¬(a.es.length:Int)<=a.nx:=by omega
 have hlt2:(a.nx:Int)<a.es.length:=by omega
 have her:=hok.es.range e (List.mem_of_getElem? hx)
 have het:=hok.est e (List.mem_of_getElem? hx)
 have hev2:=hF.ev th a ha e (List.mem_of_getElem? hx)
 obtain⟨rx,rv⟩:=zIb hx
 obtain⟨y,hy⟩:∃y,s.hp[e.t.toNat]?=some y:=⟨s.hp[e.t.toNat]'(by omega),List.getElem?_eq_getElem (by omega)⟩
 rw[hy,Option.getD_some] at hsm
 have hyv:=hs.hv y (List.mem_of_getElem? hy)
 have uy:=zEb hy
 have hnk:a.n<s.ky.length:=by have:=hok.n;have:=hs.kw;omega
 have hnk2:(a.n:Int)<s.ky.length:=by omega
 have hnk3:a.n*2+2<=s.ky.length*2:=by omega
 have hnk4:a.n*2+1+1<=s.ky.length*2:=by omega
 have hnk5:a.n*2+1<=s.ky.length*2:=by omega
 have hkw:=zDr (ky:=s.ky) (wy:=s.wy) 1 hs.kw hnk
 refine zX (tbl:=xR) zAn 0 5 (af:=a77) rfl ?_
 rw[a77,b77,qB]
 refine⟨by simp,?_⟩
 simp -implicitDefEqProofs [qL,xR,qC,forms116,a116,b116,forms120,a120,b120,forms122,a122,b122,forms123,a123,b123,forms176,a176,b176,forms125,a125,b125,forms173,a173,b173,forms124,a124,b124,forms174,a174,b174,forms126,a126,b126,forms127,a127,b127,z1,z2,z3,z4,gt,gg,gs,jX,jW,jV,jU,jN,jM,jL,jK,jJ,jI,jD,ha,qD,qG,qA,qF,hk,hel,t3,hkk,qT,zH7,zH5,hat,hne,hlt,hlt2,hg8,rx,rv,her,het,hev2,uy,hsm,hyv,zGx,ho,hnk,hnk2,hnk3,hnk4,hnk5,hkw]
 subst hS
 obtain⟨q4,hq⟩:=thQ th
 rcases qH hth with rfl|rfl|rfl|rfl<;> (repeat' with_reducible apply And.intro)<;> (refine zA [.nil 123,.pack (GD.reng ({ s with ts:=zZ s.ts q4 none,ev:=s.ev++[⟨9,a.n,0,0⟩],wy:=s.wy.set a.n 1 })) 0 (1::2::19::4::v4 20 q4)] [0] ?_ ?_ ?_<;> simp[hq,v4,qF,qV,zR,rps,qD,qG,zZ,ha,qA,qR,o1,o2,o3,Rp.v,Rp.cells,qJ,qQ,qK,qP,qO,zW,zY,qM,hk,zW])
theorem qBn (s:NS) (hs:s.Ok) (hF:FrOk s) (hev:s.ev.length<=100000) (th:Nat) (hth:th<4) (a:Att) (ha:s.ts th=some a) (hk:a.asked=true) (hat:a.at_<4) (hk7:a.ra.k=7) (ho:s.o=some (th:Int)):zP Tryz.prog cfg 77 [.pointer (some ⟨0,0,none⟩),.int .i64 th] (AH.of [some (.hi (.reng s))])
  fun r H'=> r=.ret (qP 4).v/\H'=AH.of [some (.hi (.reng (qY s th a 4)))]:=by
 refine zP.ends ?_
 generalize hS:((qY s th a 4):NS)=S'
 refine zP.openREng hth ?_
 have z1:¬(th:Int)<0:=by omega
 have z2:¬4<=(th:Int):=by omega
 have z3:(th:Int)<4:=by omega
 have z4:2+th+1<=8:=by omega
 have gt:∀a b q ts x y,(zR a b th q ts x y)[2+th]?=some q:=fun a b q ts x y=> xS a b hth q ts x y
 have gg:∀a b q ts x y (h:2+th<(zR a b th q ts x y).length),(zR a b th q ts x y)[2+th]'h=q:=fun a b q ts x y h=> xH a b hth q ts x y h
 have gs:∀a b q ts x y v,(zR a b th q ts x y).set (2+th) v=zR a b th v ts x y:=fun a b q ts x y v=> xG a b hth q ts x y v
 have hok:=hs.ts th a ha
 have hel:=zAt hev
 have t3:=jB s.ev
 have hkk:=jZ hs.kw
 have hlo:¬10<=(a.at_:Int):=by omega
 have hnk:a.n<s.ky.length:=by have:=hok.n;have:=hs.kw;omega
 have hnk2:(a.n:Int)<s.ky.length:=by omega
 have hnk3:a.n*2+2<=s.ky.length*2:=by omega
 have hnk4:a.n*2+1+1<=s.ky.length*2:=by omega
 have hnk5:a.n*2+1<=s.ky.length*2:=by omega
 have hkw:=zDr (ky:=s.ky) (wy:=s.wy) 4 hs.kw hnk
 have hcw:IntKind.u64.wrap (s.c - 1)=s.c - 1:=by have h1:=hs.held _ ho;have h2:=hs.c;exact zBn (by omega) (by omega)
 refine zX (tbl:=xR) zAn 0 5 (af:=a77) rfl ?_
 rw[a77,b77,qB]
 refine⟨by simp,?_⟩
 simp -implicitDefEqProofs [qL,xR,qC,forms116,a116,b116,forms120,a120,b120,forms122,a122,b122,forms123,a123,b123,forms176,a176,b176,forms125,a125,b125,forms173,a173,b173,forms124,a124,b124,forms174,a174,b174,forms126,a126,b126,forms127,a127,b127,z1,z2,z3,z4,gt,gg,gs,jX,jW,jV,jU,jN,jM,jL,jK,jJ,jI,jD,ha,qD,qG,qA,qF,hk,hel,t3,hkk,qT,hat,hlo,hk7,zGx,ho,hnk,hnk2,hnk3,hnk4,hnk5,hkw,hcw]
 subst hS
 obtain⟨q4,hq⟩:=thQ th
 rcases qH hth with rfl|rfl|rfl|rfl<;> (repeat' with_reducible apply And.intro)<;> (refine zA [.nil 123,.pack (GD.reng (qY s q4 a 4)) 0 (1::2::17::4::v4 18 q4)] [0] ?_ ?_ ?_<;> simp[hq,v4,qF,qV,zR,rps,qD,qG,zZ,ha,qA,qR,o1,o2,o3,Rp.v,Rp.cells,qJ,qQ,qK,qP,qO,zW,zY,qM,hk,qY,ho])
theorem qBo (s:NS) (hs:s.Ok) (hF:FrOk s) (hev:s.ev.length<=100000) (th:Nat) (hth:th<4) (a:Att) (ha:s.ts th=some a) (hk:a.asked=true) (hat:a.at_<4) (hk7:a.ra.k=7) (ho:¬s.o=some (th:Int)):zP Tryz.prog cfg 77 [.pointer (some ⟨0,0,none⟩),.int .i64 th] (AH.of [some (.hi (.reng s))])
  fun r H'=> r=.ret (qP 4).v/\H'=AH.of [some (.hi (.reng (qY s th a 4)))]:=by
 refine zP.ends ?_
 rw[zGe ho]
 generalize hS:(({ s with ts:=zZ s.ts th none,ev:=s.ev++[⟨9,a.n,0,0⟩],wy:=s.wy.set a.n 4 }):NS)=S'
 refine zP.openREng hth ?_
 have z1:¬(th:Int)<0:=by omega
 have z2:¬4<=(th:Int):=by omega
 have z3:(th:Int)<4:=by omega
 have z4:2+th+1<=8:=by omega
 have gt:∀a b q ts x y,(zR a b th q ts x y)[2+th]?=some q:=fun a b q ts x y=> xS a b hth q ts x y
 have gg:∀a b q ts x y (h:2+th<(zR a b th q ts x y).length),(zR a b th q ts x y)[2+th]'h=q:=fun a b q ts x y h=> xH a b hth q ts x y h
 have gs:∀a b q ts x y v,(zR a b th q ts x y).set (2+th) v=zR a b th v ts x y:=fun a b q ts x y v=> xG a b hth q ts x y v
 have hok:=hs.ts th a ha
 have hel:=zAt hev
 have t3:=jB s.ev
 have hkk:=jZ hs.kw
 have hlo:¬10<=(a.at_:Int):=by omega
 have hnk:a.n<s.ky.length:=by have:=hok.n;have:=hs.kw;omega
 have hnk2:(a.n:Int)<s.ky.length:=by omega
 have hnk3:a.n*2+2<=s.ky.length*2:=by omega
 have hnk4:a.n*2+1+1<=s.ky.length*2:=by omega
 have hnk5:a.n*2+1<=s.ky.length*2:=by omega
 have hkw:=zDr (ky:=s.ky) (wy:=s.wy) 4 hs.kw hnk
 refine zX (tbl:=xR) zAn 0 5 (af:=a77) rfl ?_
 rw[a77,b77,qB]
 refine⟨by simp,?_⟩
 simp -implicitDefEqProofs [qL,xR,qC,forms116,a116,b116,forms120,a120,b120,forms122,a122,b122,forms123,a123,b123,forms176,a176,b176,forms125,a125,b125,forms173,a173,b173,forms124,a124,b124,forms174,a174,b174,forms126,a126,b126,forms127,a127,b127,z1,z2,z3,z4,gt,gg,gs,jX,jW,jV,jU,jN,jM,jL,jK,jJ,jI,jD,ha,qD,qG,qA,qF,hk,hel,t3,hkk,qT,hat,hlo,hk7,zGx,ho,hnk,hnk2,hnk3,hnk4,hnk5,hkw]
 subst hS
 obtain⟨q4,hq⟩:=thQ th
 rcases qH hth with rfl|rfl|rfl|rfl<;> (repeat' with_reducible apply And.intro)<;> (refine zA [.nil 123,.pack (GD.reng ({ s with ts:=zZ s.ts q4 none,ev:=s.ev++[⟨9,a.n,0,0⟩],wy:=s.wy.set a.n 4 })) 0 (1::2::17::4::v4 18 q4)] [0] ?_ ?_ ?_<;> simp[hq,v4,qF,qV,zR,rps,qD,qG,zZ,ha,qA,qR,o1,o2,o3,Rp.v,Rp.cells,qJ,qQ,qK,qP,qO,zW,zY,qM,hk,zW])
end YtnemoimbeefngaaGreat
end Go.Proofs
namespace Go.Proofs
namespace YtnemoimbeefngaaGreat
open Go.Abs
theorem qG3 (s:NS) (hs:s.Ok) (hF:FrOk s) (hev:s.ev.length<=100000) (th:Nat) (hth:th<4) (a:Att) (ha:s.ts th=some a) (hk:a.asked=true) (hat:a.at_<4) (hk1:a.ra.k=1) (v:Int) (hv:zAd a.fs a.ra.t=some v):zP Tryz.prog cfg 77 [.pointer (some ⟨0,0,none⟩),.int .i64 th] (AH.of [some (.hi (.reng s))])
  fun r H'=> r=.ret (qK v).v/\H'=AH.of [some (.hi (.reng (zB5 s th (a) v)))]:=by
 refine zP.ends ?_
 generalize hS:((zB5 s th (a) v):NS)=S'
 refine zP.openREng hth ?_
 have z1:¬(th:Int)<0:=by omega
 have z2:¬4<=(th:Int):=by omega
 have z3:(th:Int)<4:=by omega
 have z4:2+th+1<=8:=by omega
 have gt:∀a b q ts x y,(zR a b th q ts x y)[2+th]?=some q:=fun a b q ts x y=> xS a b hth q ts x y
 have gg:∀a b q ts x y (h:2+th<(zR a b th q ts x y).length),(zR a b th q ts x y)[2+th]'h=q:=fun a b q ts x y h=> xH a b hth q ts x y h
 have gs:∀a b q ts x y v,(zR a b th q ts x y).set (2+th) v=zR a b th v ts x y:=fun a b q ts x y v=> xG a b hth q ts x y v
 have hok:=hs.ts th a ha
 have hel:=zAt hev
 have t3:=jB s.ev
 have hkk:=jZ hs.kw
 have hlo:¬10<=(a.at_:Int):=by omega
 have hgl:a.fs.length<=100:=by have:=hok.fs.2.1;omega
 have hra:=(hok.ask hk).2.2.1 (.inl hk1)
 have hr12:a.ra.t<12:=by have:=hs.hp.2;omega
 refine zX (tbl:=xR) zAn 0 5 (af:=a77) rfl ?_
 rw[a77,b77,qB]
 refine⟨by simp,?_⟩
 simp -implicitDefEqProofs [qL,xR,qC,forms116,a116,b116,forms120,a120,b120,forms122,a122,b122,forms123,a123,b123,forms176,a176,b176,forms125,a125,b125,forms173,a173,b173,forms124,a124,b124,forms174,a174,b174,forms126,a126,b126,forms127,a127,b127,z1,z2,z3,z4,gt,gg,gs,jX,jW,jV,jU,jN,jM,jL,jK,jJ,jI,jD,ha,qD,qG,qA,qF,hk,hel,t3,hkk,qT,zH2,hat,hlo,hk1,hgl,hra,hr12,hv]
 subst hS
 obtain⟨q4,hq⟩:=thQ th
 rcases qH hth with rfl|rfl|rfl|rfl<;> (repeat' with_reducible apply And.intro)<;> (refine zA [.pack (GD.ratt { (a) with asked:=false }) 5 [10,11],.pack (GD.reng (zB5 s q4 (a) v)) 0 (1::2::18::4::v4 5 q4)] [0] ?_ ?_ ?_<;> simp[hq,v4,qF,qV,zR,rps,qD,qG,zZ,ha,qA,qR,o1,o2,o3,Rp.v,Rp.cells,qJ,qQ,qK,qP,qO,zW,zY,qM,hk,zB5,hat,hk1])
theorem qG4 (s:NS) (hs:s.Ok) (hF:FrOk s) (hev:s.ev.length<=100000) (th:Nat) (hth:th<4) (a:Att) (ha:s.ts th=some a) (hk:a.asked=true) (hat:a.at_=0) (hk1:a.ra.k=1) (hv:zAd a.fs a.ra.t=none) (y:Int) (hy:s.hp[a.ra.t.toNat]?=some y):zP Tryz.prog cfg 77 [.pointer (some ⟨0,0,none⟩),.int .i64 th] (AH.of [some (.hi (.reng s))])
  fun r H'=> r=.ret (qJ).v/\H'=AH.of [some (.hi (.reng ({ s with ts:=zZ s.ts th (some { a with val:=y,at_:=1 }) })))]:=by
 refine zP.ends ?_
 generalize hS:(({ s with ts:=zZ s.ts th (some { a with val:=y,at_:=1 }) }):NS)=S'
 refine zP.openREng hth ?_
 have z1:¬(th:Int)<0:=by omega
 have z2:¬4<=(th:Int):=by omega
 have z3:(th:Int)<4:=by omega
 have z4:2+th+1<=8:=by omega
 have gt:∀a b q ts x y,(zR a b th q ts x y)[2+th]?=some q:=fun a b q ts x y=> xS a b hth q ts x y
 have gg:∀a b q ts x y (h:2+th<(zR a b th q ts x y).length),(zR a b th q ts x y)[2+th]'h=q:=fun a b q ts x y h=> xH a b hth q ts x y h
 have gs:∀a b q ts x y v,(zR a b th q ts x y).set (2+th) v=zR a b th v ts x y:=fun a b q ts x y v=> xG a b hth q ts x y v
 have hok:=hs.ts th a ha
 have hel:=zAt hev
 have t3:=jB s.ev
 have hkk:=jZ hs.kw
 have hgl:a.fs.length<=100:=by have:=hok.fs.2.1;omega
 have hra:=(hok.ask hk).2.2.1 (.inl hk1)
 have hr12:a.ra.t<12:=by have:=hs.hp.2;omega
 have uy:=zEb hy
 refine zX (tbl:=xR) zAn 0 5 (af:=a77) rfl ?_
 rw[a77,b77,qB]
 refine⟨by simp,?_⟩
 simp -implicitDefEqProofs [qL,xR,qC,forms116,a116,b116,forms120,a120,b120,forms122,a122,b122,forms123,a123,b123,forms176,a176,b176,forms125,a125,b125,forms173,a173,b173,forms124,a124,b124,forms174,a174,b174,forms126,a126,b126,forms127,a127,b127,z1,z2,z3,z4,gt,gg,gs,jX,jW,jV,jU,jN,jM,jL,jK,jJ,jI,jD,ha,qD,qG,qA,qF,hk,hel,t3,hkk,qT,zH2,hat,hk1,hgl,hv,hra,hr12,uy]
 subst hS
 obtain⟨q4,hq⟩:=thQ th
 rcases qH hth with rfl|rfl|rfl|rfl<;> (repeat' with_reducible apply And.intro)<;> (refine zA [.pack (GD.ratt { a with val:=y,at_:=1 }) 5 [10,11],.pack (GD.reng ({ s with ts:=zZ s.ts q4 (some { a with val:=y,at_:=1 }) })) 0 (1::2::3::4::v4 5 q4)] [0] ?_ ?_ ?_<;> simp[hq,v4,qF,qV,zR,rps,qD,qG,zZ,ha,qA,qR,o1,o2,o3,Rp.v,Rp.cells,qJ,qQ,qK,qP,qO,zW,zY,qM,hk,hk1])
theorem qBl (s:NS) (hs:s.Ok) (hF:FrOk s) (hev:s.ev.length<=100000) (th:Nat) (hth:th<4) (a:Att) (ha:s.ts th=some a) (hk:a.asked=true) (hat:a.at_=1) (hk1:a.ra.k=1) (hv:zAd a.fs a.ra.t=none) (hc:¬s.c=a.snap):zP Tryz.prog cfg 77 [.pointer (some ⟨0,0,none⟩),.int .i64 th] (AH.of [some (.hi (.reng s))])
  fun r H'=> r=.ret (qJ).v/\H'=AH.of [some (.hi (.reng ({ s with ts:=zZ s.ts th (some { a with at_:=4,back:=0 }) })))]:=by
 refine zP.ends ?_
 generalize hS:(({ s with ts:=zZ s.ts th (some { a with at_:=4,back:=0 }) }):NS)=S'
 refine zP.openREng hth ?_
 have z1:¬(th:Int)<0:=by omega
 have z2:¬4<=(th:Int):=by omega
 have z3:(th:Int)<4:=by omega
 have z4:2+th+1<=8:=by omega
 have gt:∀a b q ts x y,(zR a b th q ts x y)[2+th]?=some q:=fun a b q ts x y=> xS a b hth q ts x y
 have gg:∀a b q ts x y (h:2+th<(zR a b th q ts x y).length),(zR a b th q ts x y)[2+th]'h=q:=fun a b q ts x y h=> xH a b hth q ts x y h
 have gs:∀a b q ts x y v,(zR a b th q ts x y).set (2+th) v=zR a b th v ts x y:=fun a b q ts x y v=> xG a b hth q ts x y v
 have hok:=hs.ts th a ha
 have hel:=zAt hev
 have t3:=jB s.ev
 have hkk:=jZ hs.kw
 have hgl:a.fs.length<=100:=by have:=hok.fs.2.1;omega
 have hra:=(hok.ask hk).2.2.1 (.inl hk1)
 have hr12:a.ra.t<12:=by have:=hs.hp.2;omega
 refine zX (tbl:=xR) zAn 0 5 (af:=a77) rfl ?_
 rw[a77,b77,qB]
 refine⟨by simp,?_⟩
 simp -implicitDefEqProofs [qL,xR,qC,forms116,a116,b116,forms120,a120,b120,forms122,a122,b122,forms123,a123,b123,forms176,a176,b176,forms125,a125,b125,forms173,a173,b173,forms124,a124,b124,forms174,a174,b174,forms126,a126,b126,forms127,a127,b127,z1,z2,z3,z4,gt,gg,gs,jX,jW,jV,jU,jN,jM,jL,jK,jJ,jI,jD,ha,qD,qG,qA,qF,hk,hel,t3,hkk,qT,zH2,zKt,hat,hk1,hgl,hv,hra,hr12,hc]
 subst hS
 obtain⟨q4,hq⟩:=thQ th
 rcases qH hth with rfl|rfl|rfl|rfl<;> (repeat' with_reducible apply And.intro)<;> (refine zA [.pack (GD.ratt { a with at_:=4,back:=0 }) 5 [10,11],.pack (GD.reng ({ s with ts:=zZ s.ts q4 (some { a with at_:=4,back:=0 }) })) 0 (1::2::3::4::v4 5 q4)] [0] ?_ ?_ ?_<;> simp[hq,v4,qF,qV,zR,rps,qD,qG,zZ,ha,qA,qR,o1,o2,o3,Rp.v,Rp.cells,qJ,qQ,qK,qP,qO,zW,zY,qM,hk,hk1])
theorem qBm (s:NS) (hs:s.Ok) (hF:FrOk s) (hev:s.ev.length<=100000) (th:Nat) (hth:th<4) (a:Att) (ha:s.ts th=some a) (hk:a.asked=true) (hat:a.at_=1) (hk1:a.ra.k=1) (hv:zAd a.fs a.ra.t=none) (hc:s.c=a.snap) (hA:zA2 a.es ⟨a.ra.t,a.val,0⟩=0):zP Tryz.prog cfg 77 [.pointer (some ⟨0,0,none⟩),.int .i64 th] (AH.of [some (.hi (.reng s))])
  fun r H'=> r=.ret (qK a.val).v/\H'=AH.of [some (.hi (.reng (zB5 s th ({ a with es:=zBs a.es ⟨a.ra.t,a.val,0⟩ }) a.val)))]:=by
 refine zP.ends ?_
 generalize hS:((zB5 s th ({ a with es:=zBs a.es ⟨a.ra.t,a.val,0⟩ }) a.val):NS)=S'
 refine zP.openREng hth ?_
 have z1:¬(th:Int)<0:=by omega
 have z2:¬4<=(th:Int):=by omega
 have z3:(th:Int)<4:=by omega
 have z4:2+th+1<=8:=by omega
 have gt:∀a b q ts x y,(zR a b th q ts x y)[2+th]?=some q:=fun a b q ts x y=> xS a b hth q ts x y
 have gg:∀a b q ts x y (h:2+th<(zR a b th q ts x y).length),(zR a b th q ts x y)[2+th]'h=q:=fun a b q ts x y h=> xH a b hth q ts x y h
 have gs:∀a b q ts x y v,(zR a b th q ts x y).set (2+th) v=zR a b th v ts x y:=fun a b q ts x y v=> xG a b hth q ts x y v
 have hok:=hs.ts th a ha
 have hel:=zAt hev
 have t3:=jB s.ev
 have hkk:=jZ hs.kw
 have hgl:a.fs.length<=100:=by have:=hok.fs.2.1;omega
 have hra:=(hok.ask hk).2.2.1 (.inl hk1)
 have hr12:a.ra.t<12:=by have:=hs.hp.2;omega
 have hg8:=hok.es.len
 have hvl:=hok.val
 have hc1:(s.c=a.snap)=True:=eq_true hc
 refine zX (tbl:=xR) zAn 0 5 (af:=a77) rfl ?_
 rw[a77,b77,qB]
 refine⟨by simp,?_⟩
 simp -implicitDefEqProofs [qL,xR,qC,forms116,a116,b116,forms120,a120,b120,forms122,a122,b122,forms123,a123,b123,forms176,a176,b176,forms125,a125,b125,forms173,a173,b173,forms124,a124,b124,forms174,a174,b174,forms126,a126,b126,forms127,a127,b127,z1,z2,z3,z4,gt,gg,gs,jX,jW,jV,jU,jN,jM,jL,jK,jJ,jI,jD,ha,qD,qG,qA,qF,hk,hel,t3,hkk,qT,zH2,zKt,zMp,hat,hk1,hgl,hv,hra,hr12,hc1,hg8,hvl,hA]
 subst hS
 obtain⟨q4,hq⟩:=thQ th
 rcases qH hth with rfl|rfl|rfl|rfl<;> (repeat' with_reducible apply And.intro)<;> (refine zA [.pack (GD.ratt { ({ a with es:=zBs a.es ⟨a.ra.t,a.val,0⟩ }) with asked:=false }) 5 [10,11],.pack (GD.reng (zB5 s q4 ({ a with es:=zBs a.es ⟨a.ra.t,a.val,0⟩ }) a.val)) 0 (1::2::18::4::v4 5 q4)] [0] ?_ ?_ ?_<;> simp[hq,v4,qF,qV,zR,rps,qD,qG,zZ,ha,qA,qR,o1,o2,o3,Rp.v,Rp.cells,qJ,qQ,qK,qP,qO,zW,zY,qM,hk,zB5,hat,hk1])
theorem zYd (s:NS) (hs:s.Ok) (hF:FrOk s) (hev:s.ev.length<=100000) (th:Nat) (hth:th<4) (a:Att) (ha:s.ts th=some a) (hk:a.asked=true) (hat:a.at_=1) (hk1:a.ra.k=1) (hv:zAd a.fs a.ra.t=none) (hc:s.c=a.snap) (hA:¬zA2 a.es ⟨a.ra.t,a.val,0⟩=0) (ho:s.o=some (th:Int)):zP Tryz.prog cfg 77 [.pointer (some ⟨0,0,none⟩),.int .i64 th] (AH.of [some (.hi (.reng s))])
  fun r H'=> r=.ret (qP 2).v/\H'=AH.of [some (.hi (.reng (qY s th a 2)))]:=by
 refine zP.ends ?_
 generalize hS:((qY s th a 2):NS)=S'
 refine zP.openREng hth ?_
 have z1:¬(th:Int)<0:=by omega
 have z2:¬4<=(th:Int):=by omega
 have z3:(th:Int)<4:=by omega
 have z4:2+th+1<=8:=by omega
 have gt:∀a b q ts x y,(zR a b th q ts x y)[2+th]?=some q:=fun a b q ts x y=> xS a b hth q ts x y
 have gg:∀a b q ts x y (h:2+th<(zR a b th q ts x y).length),(zR a b th q ts x y)[2+th]'h=q:=fun a b q ts x y h=> xH a b hth q ts x y h
 have gs:∀a b q ts x y v,(zR a b th q ts x y).set (2+th) v=zR a b th v ts x y:=fun a b q ts x y v=> xG a b hth q ts x y v
 have hok:=hs.ts th a ha
 have hel:=zAt hev
 have t3:=jB s.ev
 have hkk:=jZ hs.kw
 have hgl:a.fs.length<=100:=by have:=hok.fs.2.1;omega
 have hra:=(hok.ask hk).2.2.1 (.inl hk1)
 have hr12:a.ra.t<12:=by have:=hs.hp.2;omega
 have hg8:=hok.es.len
 have hvl:=hok.val
 have hc1:(s.c=a.snap)=True:=eq_true hc
 have hnk:a.n<s.ky.length:=by have:=hok.n;have:=hs.kw;omega
 have hnk2:(a.n:Int)<s.ky.length:=by omega
 have hnk3:a.n*2+2<=s.ky.length*2:=by omega
 have hnk4:a.n*2+1+1<=s.ky.length*2:=by omega
 have hnk5:a.n*2+1<=s.ky.length*2:=by omega
 have hkw:=zDr (ky:=s.ky) (wy:=s.wy) 2 hs.kw hnk
 have hcw:IntKind.u64.wrap (s.c - 1)=s.c - 1:=by have h1:=hs.held _ ho;have h2:=hs.c;exact zBn (by omega) (by omega)
 refine zX (tbl:=xR) zAn 0 5 (af:=a77) rfl ?_
 rw[a77,b77,qB]
 refine⟨by simp,?_⟩
 simp -implicitDefEqProofs [qL,xR,qC,forms116,a116,b116,forms120,a120,b120,forms122,a122,b122,forms123,a123,b123,forms176,a176,b176,forms125,a125,b125,forms173,a173,b173,forms124,a124,b124,forms174,a174,b174,forms126,a126,b126,forms127,a127,b127,z1,z2,z3,z4,gt,gg,gs,jX,jW,jV,jU,jN,jM,jL,jK,jJ,jI,jD,ha,qD,qG,qA,qF,hk,hel,t3,hkk,qT,zH2,zKt,zMp,hat,hk1,hgl,hv,hra,hr12,hc1,hg8,hvl,hA,zGx,ho,hnk,hnk2,hnk3,hnk4,hnk5,hkw,hcw]
 subst hS
 obtain⟨q4,hq⟩:=thQ th
 rcases qH hth with rfl|rfl|rfl|rfl<;> (repeat' with_reducible apply And.intro)<;> (refine zA [.nil 123,.pack (GD.reng (qY s q4 a 2)) 0 (1::2::18::4::v4 19 q4)] [0] ?_ ?_ ?_<;> simp[hq,v4,qF,qV,zR,rps,qD,qG,zZ,ha,qA,qR,o1,o2,o3,Rp.v,Rp.cells,qJ,qQ,qK,qP,qO,zW,zY,qM,hk,qY,ho])
theorem zYe (s:NS) (hs:s.Ok) (hF:FrOk s) (hev:s.ev.length<=100000) (th:Nat) (hth:th<4) (a:Att) (ha:s.ts th=some a) (hk:a.asked=true) (hat:a.at_=1) (hk1:a.ra.k=1) (hv:zAd a.fs a.ra.t=none) (hc:s.c=a.snap) (hA:¬zA2 a.es ⟨a.ra.t,a.val,0⟩=0) (ho:¬s.o=some (th:Int)):zP Tryz.prog cfg 77 [.pointer (some ⟨0,0,none⟩),.int .i64 th] (AH.of [some (.hi (.reng s))])
  fun r H'=> r=.ret (qP 2).v/\H'=AH.of [some (.hi (.reng (qY s th a 2)))]:=by
 refine zP.ends ?_
 rw[zGe ho]
 generalize hS:(({ s with ts:=zZ s.ts th none,ev:=s.ev++[⟨9,a.n,0,0⟩],wy:=s.wy.set a.n 2 }):NS)=S'
 refine zP.openREng hth ?_
 have z1:¬(th:Int)<0:=by omega
 have z2:¬4<=(th:Int):=by omega
 have z3:(th:Int)<4:=by omega
 have z4:2+th+1<=8:=by omega
 have gt:∀a b q ts x y,(zR a b th q ts x y)[2+th]?=some q:=fun a b q ts x y=> xS a b hth q ts x y
 have gg:∀a b q ts x y (h:2+th<(zR a b th q ts x y).length),(zR a b th q ts x y)[2+th]'h=q:=fun a b q ts x y h=> xH a b hth q ts x y h
 have gs:∀a b q ts x y v,(zR a b th q ts x y).set (2+th) v=zR a b th v ts x y:=fun a b q ts x y v=> xG a b hth q ts x y v
 have hok:=hs.ts th a ha
 have hel:=zAt hev
 have t3:=jB s.ev
 have hkk:=jZ hs.kw
 have hgl:a.fs.length<=100:=by have:=hok.fs.2.1;omega
 have hra:=(hok.ask hk).2.2.1 (.inl hk1)
 have hr12:a.ra.t<12:=by have:=hs.hp.2;omega
 have hg8:=hok.es.len
 have hvl:=hok.val
 have hc1:(s.c=a.snap)=True:=eq_true hc
 have hnk:a.n<s.ky.length:=by have:=hok.n;have:=hs.kw;omega
 have hnk2:(a.n:Int)<s.ky.length:=by omega
 have hnk3:a.n*2+2<=s.ky.length*2:=by omega
 have hnk4:a.n*2+1+1<=s.ky.length*2:=by omega
 have hnk5:a.n*2+1<=s.ky.length*2:=by omega
 have hkw:=zDr (ky:=s.ky) (wy:=s.wy) 2 hs.kw hnk
 refine zX (tbl:=xR) zAn 0 5 (af:=a77) rfl ?_
 rw[a77,b77,qB]
 refine⟨by simp,?_⟩
 simp -implicitDefEqProofs [qL,xR,qC,forms116,a116,b116,forms120,a120,b120,forms122,a122,b122,forms123,a123,b123,forms176,a176,b176,forms125,a125,b125,forms173,a173,b173,forms124,a124,b124,forms174,a174,b174,forms126,a126,b126,forms127,a127,b127,z1,z2,z3,z4,gt,gg,gs,jX,jW,jV,jU,jN,jM,jL,jK,jJ,jI,jD,ha,qD,qG,qA,qF,hk,hel,t3,hkk,qT,zH2,zKt,zMp,hat,hk1,hgl,hv,hra,hr12,hc1,hg8,hvl,hA,zGx,ho,hnk,hnk2,hnk3,hnk4,hnk5,hkw]
 subst hS
 obtain⟨q4,hq⟩:=thQ th
 rcases qH hth with rfl|rfl|rfl|rfl<;> (repeat' with_reducible apply And.intro)<;> (refine zA [.nil 123,.pack (GD.reng ({ s with ts:=zZ s.ts q4 none,ev:=s.ev++[⟨9,a.n,0,0⟩],wy:=s.wy.set a.n 2 })) 0 (1::2::18::4::v4 19 q4)] [0] ?_ ?_ ?_<;> simp[hq,v4,qF,qV,zR,rps,qD,qG,zZ,ha,qA,qR,o1,o2,o3,Rp.v,Rp.cells,qJ,qQ,qK,qP,qO,zW,zY,qM,hk,zW])
end YtnemoimbeefngaaGreat
end Go.Proofs
namespace Go.Proofs
namespace YtnemoimbeefngaaGreat
open Go.Abs
theorem qBu (s:NS) (hs:s.Ok) (hF:FrOk s) (hev:s.ev.length<=100000) (th:Nat) (hth:th<4) (a:Att) (ha:s.ts th=some a) (hk:a.asked=true) (hat:a.at_=0) (hk6:a.ra.k=6) (hall:zAk a.fs=[]):zP Tryz.prog cfg 77 [.pointer (some ⟨0,0,none⟩),.int .i64 th] (AH.of [some (.hi (.reng s))])
  fun r H'=> r=.ret (qP 0).v/\H'=AH.of [some (.hi (.reng (zAj ({ s with ev:=s.ev++[⟨7,a.n,0,0⟩] }) th a)))]:=by
 refine zP.ends ?_
 generalize hS:((zAj ({ s with ev:=s.ev++[⟨7,a.n,0,0⟩] }) th a):NS)=S'
 refine zP.openREng hth ?_
 have z1:¬(th:Int)<0:=by omega
 have z2:¬4<=(th:Int):=by omega
 have z3:(th:Int)<4:=by omega
 have z4:2+th+1<=8:=by omega
 have gt:∀a b q ts x y,(zR a b th q ts x y)[2+th]?=some q:=fun a b q ts x y=> xS a b hth q ts x y
 have gg:∀a b q ts x y (h:2+th<(zR a b th q ts x y).length),(zR a b th q ts x y)[2+th]'h=q:=fun a b q ts x y h=> xH a b hth q ts x y h
 have gs:∀a b q ts x y v,(zR a b th q ts x y).set (2+th) v=zR a b th v ts x y:=fun a b q ts x y v=> xG a b hth q ts x y v
 have hok:=hs.ts th a ha
 have hel:=zAt hev
 have t3:=jB s.ev
 have hkk:=jZ hs.kw
 have hgl:a.fs.length<=100:=by have:=hok.fs.2.1;omega
 have hel2:=qHc hev
 have hel5:s.ev.length<=9223372036854775805:=Nat.le_trans hev (by decide)
 have hel4:(s.ev.length+1)*4<=s.ev.length*4+4:=by omega
 have t5:=zYa s.ev a.n
 refine zX (tbl:=xR) zAn 0 5 (af:=a77) rfl ?_
 rw[a77,b77,qB]
 refine⟨by simp,?_⟩
 simp -implicitDefEqProofs [qL,xR,qC,forms116,a116,b116,forms120,a120,b120,forms122,a122,b122,forms123,a123,b123,forms176,a176,b176,forms125,a125,b125,forms173,a173,b173,forms124,a124,b124,forms174,a174,b174,forms126,a126,b126,forms127,a127,b127,z1,z2,z3,z4,gt,gg,gs,jX,jW,jV,jU,jN,jM,jL,jK,jJ,jI,jD,ha,qD,qG,qA,qF,hk,hel,t3,hkk,qT,zFp,hat,hk6,hgl,hall,hel2,hel4,hel5,t5,prs]
 subst hS
 obtain⟨q4,hq⟩:=thQ th
 rcases qH hth with rfl|rfl|rfl|rfl<;> (repeat' with_reducible apply And.intro)<;> (refine zA [.nil 123,.pack (GD.reng (zAj ({ s with ev:=s.ev++[⟨7,a.n,0,0⟩] }) q4 a)) 0 (1::2::24::4::v4 25 q4)] [0] ?_ ?_ ?_<;> simp[hq,v4,qF,qV,zR,rps,qD,qG,zZ,ha,qA,qR,o1,o2,o3,Rp.v,Rp.cells,qJ,qQ,qK,qP,qO,zW,zY,qM,hk,zW,zY,qB7,zAj])
theorem qBt (s:NS) (hs:s.Ok) (hF:FrOk s) (hev:s.ev.length<=100000) (th:Nat) (hth:th<4) (a:Att) (ha:s.ts th=some a) (hk:a.asked=true) (hat:a.at_=0) (hk6:a.ra.k=6) (hall:¬zAk a.fs=[]):zP Tryz.prog cfg 77 [.pointer (some ⟨0,0,none⟩),.int .i64 th] (AH.of [some (.hi (.reng s))])
  fun r H'=> r=.ret (qJ).v/\H'=AH.of [some (.hi (.reng ({ s with ts:=zZ s.ts th (some { a with at_:=1 }),ev:=s.ev++[⟨7,a.n,0,0⟩] })))]:=by
 refine zP.ends ?_
 generalize hS:(({ s with ts:=zZ s.ts th (some { a with at_:=1 }),ev:=s.ev++[⟨7,a.n,0,0⟩] }):NS)=S'
 refine zP.openREng hth ?_
 have z1:¬(th:Int)<0:=by omega
 have z2:¬4<=(th:Int):=by omega
 have z3:(th:Int)<4:=by omega
 have z4:2+th+1<=8:=by omega
 have gt:∀a b q ts x y,(zR a b th q ts x y)[2+th]?=some q:=fun a b q ts x y=> xS a b hth q ts x y
 have gg:∀a b q ts x y (h:2+th<(zR a b th q ts x y).length),(zR a b th q ts x y)[2+th]'h=q:=fun a b q ts x y h=> xH a b hth q ts x y h
 have gs:∀a b q ts x y v,(zR a b th q ts x y).set (2+th) v=zR a b th v ts x y:=fun a b q ts x y v=> xG a b hth q ts x y v
 have hok:=hs.ts th a ha
 have hel:=zAt hev
 have t3:=jB s.ev
 have hkk:=jZ hs.kw
 have hgl:a.fs.length<=100:=by have:=hok.fs.2.1;omega
 have hln:¬(zAk a.fs).length=0:=fun h=> hall (List.length_eq_zero_iff.1 h)
 have hln2:¬((zAk a.fs).length:Int)=0:=by omega
 refine zX (tbl:=xR) zAn 0 5 (af:=a77) rfl ?_
 rw[a77,b77,qB]
 refine⟨by simp,?_⟩
 simp -implicitDefEqProofs [qL,xR,qC,forms116,a116,b116,forms120,a120,b120,forms122,a122,b122,forms123,a123,b123,forms176,a176,b176,forms125,a125,b125,forms173,a173,b173,forms124,a124,b124,forms174,a174,b174,forms126,a126,b126,forms127,a127,b127,z1,z2,z3,z4,gt,gg,gs,jX,jW,jV,jU,jN,jM,jL,jK,jJ,jI,jD,ha,qD,qG,qA,qF,hk,hel,t3,hkk,qT,zFp,hat,hk6,hgl,hall,hln,hln2]
 subst hS
 obtain⟨q4,hq⟩:=thQ th
 rcases qH hth with rfl|rfl|rfl|rfl<;> (repeat' with_reducible apply And.intro)<;> (refine zA [.pack (GD.ratt { a with at_:=1 }) 5 [10,11],.pack (GD.reng ({ s with ts:=zZ s.ts q4 (some { a with at_:=1 }),ev:=s.ev++[⟨7,a.n,0,0⟩] })) 0 (1::2::18::4::v4 5 q4)] [0] ?_ ?_ ?_<;> simp[hq,v4,qF,qV,zR,rps,qD,qG,zZ,ha,qA,qR,o1,o2,o3,Rp.v,Rp.cells,qJ,qQ,qK,qP,qO,zW,zY,qM,hk,hk6])
theorem qBr (s:NS) (hs:s.Ok) (hF:FrOk s) (hev:s.ev.length<=100000) (th:Nat) (hth:th<4) (a:Att) (ha:s.ts th=some a) (hk:a.asked=true) (hat:a.at_=1) (hk6:a.ra.k=6) (ht:zBu s.o s.c th a.snap=0):zP Tryz.prog cfg 77 [.pointer (some ⟨0,0,none⟩),.int .i64 th] (AH.of [some (.hi (.reng s))])
  fun r H'=> r=.ret (qJ).v/\H'=AH.of [some (.hi (.reng ({ s with ts:=zZ s.ts th (some { a with dec:=true,at_:=2,nx:=0 }),o:=some (th:Int),c:=s.c+1,ky:=s.ky.set a.n (a.snap+2) })))]:=by
 refine zP.ends ?_
 generalize hS:(({ s with ts:=zZ s.ts th (some { a with dec:=true,at_:=2,nx:=0 }),o:=some (th:Int),c:=s.c+1,ky:=s.ky.set a.n (a.snap+2) }):NS)=S'
 refine zP.openREng hth ?_
 have z1:¬(th:Int)<0:=by omega
 have z2:¬4<=(th:Int):=by omega
 have z3:(th:Int)<4:=by omega
 have z4:2+th+1<=8:=by omega
 have gt:∀a b q ts x y,(zR a b th q ts x y)[2+th]?=some q:=fun a b q ts x y=> xS a b hth q ts x y
 have gg:∀a b q ts x y (h:2+th<(zR a b th q ts x y).length),(zR a b th q ts x y)[2+th]'h=q:=fun a b q ts x y h=> xH a b hth q ts x y h
 have gs:∀a b q ts x y v,(zR a b th q ts x y).set (2+th) v=zR a b th v ts x y:=fun a b q ts x y v=> xG a b hth q ts x y v
 have hok:=hs.ts th a ha
 have hel:=zAt hev
 have t3:=jB s.ev
 have hkk:=jZ hs.kw
 have hgl:a.fs.length<=100:=by have:=hok.fs.2.1;omega
 have hnk:a.n<s.ky.length:=by have:=hok.n;have:=hs.kw;omega
 have hnk2:(a.n:Int)<s.ky.length:=by omega
 have hnk3:a.n*2+2<=s.ky.length*2:=by omega
 have hnk4:a.n*2+1+1<=s.ky.length*2:=by omega
 have hnk5:a.n*2+1<=s.ky.length*2:=by omega
 have hsc:=hs.c
 have hsn:=hok.snap
 have hw1:IntKind.u64.wrap (a.snap+2)=a.snap+2:=zBn (by omega) (by omega)
 have hw2:IntKind.u64.wrap (s.c+1)=s.c+1:=zBn (by omega) (by omega)
 have hkw:=zNy (ky:=s.ky) (wy:=s.wy) (a.snap+2) hs.kw hnk
 refine zX (tbl:=xR) zAn 0 5 (af:=a77) rfl ?_
 rw[a77,b77,qB]
 refine⟨by simp,?_⟩
 simp -implicitDefEqProofs [qL,xR,qC,forms116,a116,b116,forms120,a120,b120,forms122,a122,b122,forms123,a123,b123,forms176,a176,b176,forms125,a125,b125,forms173,a173,b173,forms124,a124,b124,forms174,a174,b174,forms126,a126,b126,forms127,a127,b127,z1,z2,z3,z4,gt,gg,gs,jX,jW,jV,jU,jN,jM,jL,jK,jJ,jI,jD,ha,qD,qG,qA,qF,hk,hel,t3,hkk,qT,zFp,zQd,hat,hk6,hgl,ht,hnk,hnk2,hnk3,hnk4,hnk5,hw1,hw2,hkw]
 subst hS
 obtain⟨q4,hq⟩:=thQ th
 rcases qH hth with rfl|rfl|rfl|rfl<;> (repeat' with_reducible apply And.intro)<;> (refine zA [.pack (GD.ratt { a with dec:=true,at_:=2,nx:=0 }) 5 [10,11],.pack (GD.reng ({ s with ts:=zZ s.ts q4 (some { a with dec:=true,at_:=2,nx:=0 }),o:=some (q4:Int),c:=s.c+1,ky:=s.ky.set a.n (a.snap+2) })) 0 (1::2::3::4::v4 5 q4)] [0] ?_ ?_ ?_<;> simp[hq,v4,qF,qV,zR,rps,qD,qG,zZ,ha,qA,qR,o1,o2,o3,Rp.v,Rp.cells,qJ,qQ,qK,qP,qO,zW,zY,qM,hk,hk6])
theorem zYf (s:NS) (hs:s.Ok) (hF:FrOk s) (hev:s.ev.length<=100000) (th:Nat) (hth:th<4) (a:Att) (ha:s.ts th=some a) (hk:a.asked=true) (hat:a.at_=1) (hk6:a.ra.k=6) (ht:zBu s.o s.c th a.snap=4) (ho:¬s.o=some (th:Int)):zP Tryz.prog cfg 77 [.pointer (some ⟨0,0,none⟩),.int .i64 th] (AH.of [some (.hi (.reng s))])
  fun r H'=> r=.ret (qP 2).v/\H'=AH.of [some (.hi (.reng (qY s th a 2)))]:=by
 refine zP.ends ?_
 rw[zGe ho]
 generalize hS:(({ s with ts:=zZ s.ts th none,ev:=s.ev++[⟨9,a.n,0,0⟩],wy:=s.wy.set a.n 2 }):NS)=S'
 refine zP.openREng hth ?_
 have z1:¬(th:Int)<0:=by omega
 have z2:¬4<=(th:Int):=by omega
 have z3:(th:Int)<4:=by omega
 have z4:2+th+1<=8:=by omega
 have gt:∀a b q ts x y,(zR a b th q ts x y)[2+th]?=some q:=fun a b q ts x y=> xS a b hth q ts x y
 have gg:∀a b q ts x y (h:2+th<(zR a b th q ts x y).length),(zR a b th q ts x y)[2+th]'h=q:=fun a b q ts x y h=> xH a b hth q ts x y h
 have gs:∀a b q ts x y v,(zR a b th q ts x y).set (2+th) v=zR a b th v ts x y:=fun a b q ts x y v=> xG a b hth q ts x y v
 have hok:=hs.ts th a ha
 have hel:=zAt hev
 have t3:=jB s.ev
 have hkk:=jZ hs.kw
 have hgl:a.fs.length<=100:=by have:=hok.fs.2.1;omega
 have hnk:a.n<s.ky.length:=by have:=hok.n;have:=hs.kw;omega
 have hnk2:(a.n:Int)<s.ky.length:=by omega
 have hnk3:a.n*2+2<=s.ky.length*2:=by omega
 have hnk4:a.n*2+1+1<=s.ky.length*2:=by omega
 have hnk5:a.n*2+1<=s.ky.length*2:=by omega
 have hkw:=zDr (ky:=s.ky) (wy:=s.wy) 2 hs.kw hnk
 refine zX (tbl:=xR) zAn 0 5 (af:=a77) rfl ?_
 rw[a77,b77,qB]
 refine⟨by simp,?_⟩
 simp -implicitDefEqProofs [qL,xR,qC,forms116,a116,b116,forms120,a120,b120,forms122,a122,b122,forms123,a123,b123,forms176,a176,b176,forms125,a125,b125,forms173,a173,b173,forms124,a124,b124,forms174,a174,b174,forms126,a126,b126,forms127,a127,b127,z1,z2,z3,z4,gt,gg,gs,jX,jW,jV,jU,jN,jM,jL,jK,jJ,jI,jD,ha,qD,qG,qA,qF,hk,hel,t3,hkk,qT,zFp,zQd,hat,hk6,hgl,ht,zGx,ho,hnk,hnk2,hnk3,hnk4,hnk5,hkw]
 subst hS
 obtain⟨q4,hq⟩:=thQ th
 rcases qH hth with rfl|rfl|rfl|rfl<;> (repeat' with_reducible apply And.intro)<;> (refine zA [.nil 123,.pack (GD.reng ({ s with ts:=zZ s.ts q4 none,ev:=s.ev++[⟨9,a.n,0,0⟩],wy:=s.wy.set a.n 2 })) 0 (1::2::19::4::v4 20 q4)] [0] ?_ ?_ ?_<;> simp[hq,v4,qF,qV,zR,rps,qD,qG,zZ,ha,qA,qR,o1,o2,o3,Rp.v,Rp.cells,qJ,qQ,qK,qP,qO,zW,zY,qM,hk,zW])
theorem qBs (s:NS) (hs:s.Ok) (hF:FrOk s) (hev:s.ev.length<=100000) (th:Nat) (hth:th<4) (a:Att) (ha:s.ts th=some a) (hk:a.asked=true) (hat:a.at_=1) (hk6:a.ra.k=6) (ht:¬zBu s.o s.c th a.snap=0) (ht4:¬zBu s.o s.c th a.snap=4):zP Tryz.prog cfg 77 [.pointer (some ⟨0,0,none⟩),.int .i64 th] (AH.of [some (.hi (.reng s))])
  fun r H'=> r=.ret (qJ).v/\H'=AH.of [some (.hi (.reng ({ s with ts:=zZ s.ts th (some { a with at_:=4,back:=1 }) })))]:=by
 refine zP.ends ?_
 generalize hS:(({ s with ts:=zZ s.ts th (some { a with at_:=4,back:=1 }) }):NS)=S'
 refine zP.openREng hth ?_
 have z1:¬(th:Int)<0:=by omega
 have z2:¬4<=(th:Int):=by omega
 have z3:(th:Int)<4:=by omega
 have z4:2+th+1<=8:=by omega
 have gt:∀a b q ts x y,(zR a b th q ts x y)[2+th]?=some q:=fun a b q ts x y=> xS a b hth q ts x y
 have gg:∀a b q ts x y (h:2+th<(zR a b th q ts x y).length),(zR a b th q ts x y)[2+th]'h=q:=fun a b q ts x y h=> xH a b hth q ts x y h
 have gs:∀a b q ts x y v,(zR a b th q ts x y).set (2+th) v=zR a b th v ts x y:=fun a b q ts x y v=> xG a b hth q ts x y v
 have hok:=hs.ts th a ha
 have hel:=zAt hev
 have t3:=jB s.ev
 have hkk:=jZ hs.kw
 have hgl:a.fs.length<=100:=by have:=hok.fs.2.1;omega
 refine zX (tbl:=xR) zAn 0 5 (af:=a77) rfl ?_
 rw[a77,b77,qB]
 refine⟨by simp,?_⟩
 simp -implicitDefEqProofs [qL,xR,qC,forms116,a116,b116,forms120,a120,b120,forms122,a122,b122,forms123,a123,b123,forms176,a176,b176,forms125,a125,b125,forms173,a173,b173,forms124,a124,b124,forms174,a174,b174,forms126,a126,b126,forms127,a127,b127,z1,z2,z3,z4,gt,gg,gs,jX,jW,jV,jU,jN,jM,jL,jK,jJ,jI,jD,ha,qD,qG,qA,qF,hk,hel,t3,hkk,qT,zFp,zQd,hat,hk6,hgl,ht,ht4]
 subst hS
 obtain⟨q4,hq⟩:=thQ th
 rcases qH hth with rfl|rfl|rfl|rfl<;> (repeat' with_reducible apply And.intro)<;> (refine zA [.pack (GD.ratt { a with at_:=4,back:=1 }) 5 [10,11],.pack (GD.reng ({ s with ts:=zZ s.ts q4 (some { a with at_:=4,back:=1 }) })) 0 (1::2::3::4::v4 5 q4)] [0] ?_ ?_ ?_<;> simp[hq,v4,qF,qV,zR,rps,qD,qG,zZ,ha,qA,qR,o1,o2,o3,Rp.v,Rp.cells,qJ,qQ,qK,qP,qO,zW,zY,qM,hk,hk6])
theorem qBp (s:NS) (hs:s.Ok) (hF:FrOk s) (hev:s.ev.length<=100000) (th:Nat) (hth:th<4) (a:Att) (ha:s.ts th=some a) (hk:a.asked=true) (hat:a.at_=2) (hk6:a.ra.k=6) (p:Pr) (hx:(zAk a.fs)[a.nx]?=some p) (hp:0<=p.t/\p.t<s.hp.length) (hl:¬a.nx+1=(zAk a.fs).length):zP Tryz.prog cfg 77 [.pointer (some ⟨0,0,none⟩),.int .i64 th] (AH.of [some (.hi (.reng s))])
  fun r H'=> r=.ret (qJ).v/\H'=AH.of [some (.hi (.reng ({ s with ts:=zZ s.ts th (some { a with nx:=a.nx+1,at_:=2 }),hp:=s.hp.set p.t.toNat p.v })))]:=by
 refine zP.ends ?_
 generalize hS:(({ s with ts:=zZ s.ts th (some { a with nx:=a.nx+1,at_:=2 }),hp:=s.hp.set p.t.toNat p.v }):NS)=S'
 refine zP.openREng hth ?_
 have z1:¬(th:Int)<0:=by omega
 have z2:¬4<=(th:Int):=by omega
 have z3:(th:Int)<4:=by omega
 have z4:2+th+1<=8:=by omega
 have gt:∀a b q ts x y,(zR a b th q ts x y)[2+th]?=some q:=fun a b q ts x y=> xS a b hth q ts x y
 have gg:∀a b q ts x y (h:2+th<(zR a b th q ts x y).length),(zR a b th q ts x y)[2+th]'h=q:=fun a b q ts x y h=> xH a b hth q ts x y h
 have gs:∀a b q ts x y v,(zR a b th q ts x y).set (2+th) v=zR a b th v ts x y:=fun a b q ts x y v=> xG a b hth q ts x y v
 have hok:=hs.ts th a ha
 have hel:=zAt hev
 have t3:=jB s.ev
 have hkk:=jZ hs.kw
 have hgl:a.fs.length<=100:=by have:=hok.fs.2.1;omega
 have hlt:=(List.getElem?_eq_some_iff.1 hx).1
 have hlt2:(a.nx:Int)<(zAk a.fs).length:=by omega
 obtain⟨rx,rv⟩:=zLs hx
 have hnx:=hok.nx
 have hwr:IntKind.i64.wrap ((a.nx:Int)+1)=((a.nx+1:Nat):Int):=by rw[qX (by omega) (by omega)];omega
 have hpl:(p.t.toNat:Int)<s.hp.length:=by omega
 have hpl2:p.t.toNat<s.hp.length:=by omega
 have hpl3:p.t.toNat+1<=s.hp.length:=by omega
 have hl2:¬(a.nx:Int)+1=(zAk a.fs).length:=by omega
 refine zX (tbl:=xR) zAn 0 5 (af:=a77) rfl ?_
 rw[a77,b77,qB]
 refine⟨by simp,?_⟩
 simp -implicitDefEqProofs [qL,xR,qC,forms116,a116,b116,forms120,a120,b120,forms122,a122,b122,forms123,a123,b123,forms176,a176,b176,forms125,a125,b125,forms173,a173,b173,forms124,a124,b124,forms174,a174,b174,forms126,a126,b126,forms127,a127,b127,z1,z2,z3,z4,gt,gg,gs,jX,jW,jV,jU,jN,jM,jL,jK,jJ,jI,jD,ha,qD,qG,qA,qF,hk,hel,t3,hkk,qT,zFp,hat,hk6,hgl,hlt,hlt2,rx,rv,hwr,hp,hpl,hpl2,hpl3,hl,hl2,zC5,qM]
 subst hS
 obtain⟨q4,hq⟩:=thQ th
 rcases qH hth with rfl|rfl|rfl|rfl<;> (repeat' with_reducible apply And.intro)<;> (refine zA [.pack (GD.ratt { a with nx:=a.nx+1,at_:=2 }) 5 [10,11],.pack (GD.reng ({ s with ts:=zZ s.ts q4 (some { a with nx:=a.nx+1,at_:=2 }),hp:=s.hp.set p.t.toNat p.v })) 0 (1::2::3::4::v4 5 q4)] [0] ?_ ?_ ?_<;> simp[hq,v4,qF,qV,zR,rps,qD,qG,zZ,ha,qA,qR,o1,o2,o3,Rp.v,Rp.cells,qJ,qQ,qK,qP,qO,zW,zY,qM,hk,hk6])
theorem qBq (s:NS) (hs:s.Ok) (hF:FrOk s) (hev:s.ev.length<=100000) (th:Nat) (hth:th<4) (a:Att) (ha:s.ts th=some a) (hk:a.asked=true) (hat:a.at_=2) (hk6:a.ra.k=6) (p:Pr) (hx:(zAk a.fs)[a.nx]?=some p) (hp:0<=p.t/\p.t<s.hp.length) (hl:a.nx+1=(zAk a.fs).length):zP Tryz.prog cfg 77 [.pointer (some ⟨0,0,none⟩),.int .i64 th] (AH.of [some (.hi (.reng s))])
  fun r H'=> r=.ret (qJ).v/\H'=AH.of [some (.hi (.reng ({ s with ts:=zZ s.ts th (some { a with nx:=a.nx+1,at_:=3 }),hp:=s.hp.set p.t.toNat p.v })))]:=by
 refine zP.ends ?_
 generalize hS:(({ s with ts:=zZ s.ts th (some { a with nx:=a.nx+1,at_:=3 }),hp:=s.hp.set p.t.toNat p.v }):NS)=S'
 refine zP.openREng hth ?_
 have z1:¬(th:Int)<0:=by omega
 have z2:¬4<=(th:Int):=by omega
 have z3:(th:Int)<4:=by omega
 have z4:2+th+1<=8:=by omega
 have gt:∀a b q ts x y,(zR a b th q ts x y)[2+th]?=some q:=fun a b q ts x y=> xS a b hth q ts x y
 have gg:∀a b q ts x y (h:2+th<(zR a b th q ts x y).length),(zR a b th q ts x y)[2+th]'h=q:=fun a b q ts x y h=> xH a b hth q ts x y h
 have gs:∀a b q ts x y v,(zR a b th q ts x y).set (2+th) v=zR a b th v ts x y:=fun a b q ts x y v=> xG a b hth q ts x y v
 have hok:=hs.ts th a ha
 have hel:=zAt hev
 have t3:=jB s.ev
 have hkk:=jZ hs.kw
 have hgl:a.fs.length<=100:=by have:=hok.fs.2.1;omega
 have hlt:=(List.getElem?_eq_some_iff.1 hx).1
 have hlt2:(a.nx:Int)<(zAk a.fs).length:=by omega
 obtain⟨rx,rv⟩:=zLs hx
 have hnx:=hok.nx
 have hwr:IntKind.i64.wrap ((a.nx:Int)+1)=((a.nx+1:Nat):Int):=by rw[qX (by omega) (by omega)];omega
 have hpl:(p.t.toNat:Int)<s.hp.length:=by omega
 have hpl2:p.t.toNat<s.hp.length:=by omega
 have hpl3:p.t.toNat+1<=s.hp.length:=by omega
 have hl2:((a.nx:Int)+1=((zAk a.fs).length:Int))=True:=eq_true (by omega)
 have hl3:(a.nx+1=(zAk a.fs).length)=True:=eq_true hl
 refine zX (tbl:=xR) zAn 0 5 (af:=a77) rfl ?_
 rw[a77,b77,qB]
 refine⟨by simp,?_⟩
 simp -implicitDefEqProofs [qL,xR,qC,forms116,a116,b116,forms120,a120,b120,forms122,a122,b122,forms123,a123,b123,forms176,a176,b176,forms125,a125,b125,forms173,a173,b173,forms124,a124,b124,forms174,a174,b174,forms126,a126,b126,forms127,a127,b127,z1,z2,z3,z4,gt,gg,gs,jX,jW,jV,jU,jN,jM,jL,jK,jJ,jI,jD,ha,qD,qG,qA,qF,hk,hel,t3,hkk,qT,zFp,hat,hk6,hgl,hlt,hlt2,rx,rv,hwr,hp,hpl,hpl2,hpl3,hl2,hl3,zC5,qM]
 subst hS
 obtain⟨q4,hq⟩:=thQ th
 rcases qH hth with rfl|rfl|rfl|rfl<;> (repeat' with_reducible apply And.intro)<;> (refine zA [.pack (GD.ratt { a with nx:=a.nx+1,at_:=3 }) 5 [10,11],.pack (GD.reng ({ s with ts:=zZ s.ts q4 (some { a with nx:=a.nx+1,at_:=3 }),hp:=s.hp.set p.t.toNat p.v })) 0 (1::2::3::4::v4 5 q4)] [0] ?_ ?_ ?_<;> simp[hq,v4,qF,qV,zR,rps,qD,qG,zZ,ha,qA,qR,o1,o2,o3,Rp.v,Rp.cells,qJ,qQ,qK,qP,qO,zW,zY,qM,hk,hk6])
theorem qG5 (s:NS) (hs:s.Ok) (hF:FrOk s) (hev:s.ev.length<=100000) (th:Nat) (hth:th<4) (a:Att) (ha:s.ts th=some a) (hk:a.asked=true) (hat:a.at_=3) (hk6:a.ra.k=6) (ho:s.o=some (th:Int)):zP Tryz.prog cfg 77 [.pointer (some ⟨0,0,none⟩),.int .i64 th] (AH.of [some (.hi (.reng s))])
  fun r H'=> r=.ret (qP 0).v/\H'=AH.of [some (.hi (.reng (zAj ({ s with o:=none,c:=s.c+1 }) th a)))]:=by
 refine zP.ends ?_
 generalize hS:((zAj ({ s with o:=none,c:=s.c+1 }) th a):NS)=S'
 refine zP.openREng hth ?_
 have z1:¬(th:Int)<0:=by omega
 have z2:¬4<=(th:Int):=by omega
 have z3:(th:Int)<4:=by omega
 have z4:2+th+1<=8:=by omega
 have gt:∀a b q ts x y,(zR a b th q ts x y)[2+th]?=some q:=fun a b q ts x y=> xS a b hth q ts x y
 have gg:∀a b q ts x y (h:2+th<(zR a b th q ts x y).length),(zR a b th q ts x y)[2+th]'h=q:=fun a b q ts x y h=> xH a b hth q ts x y h
 have gs:∀a b q ts x y v,(zR a b th q ts x y).set (2+th) v=zR a b th v ts x y:=fun a b q ts x y v=> xG a b hth q ts x y v
 have hok:=hs.ts th a ha
 have hel:=zAt hev
 have t3:=jB s.ev
 have hkk:=jZ hs.kw
 have hgl:a.fs.length<=100:=by have:=hok.fs.2.1;omega
 have hsc:=hs.c
 have hw2:IntKind.u64.wrap (s.c+1)=s.c+1:=zBn (by omega) (by omega)
 refine zX (tbl:=xR) zAn 0 5 (af:=a77) rfl ?_
 rw[a77,b77,qB]
 refine⟨by simp,?_⟩
 simp -implicitDefEqProofs [qL,xR,qC,forms116,a116,b116,forms120,a120,b120,forms122,a122,b122,forms123,a123,b123,forms176,a176,b176,forms125,a125,b125,forms173,a173,b173,forms124,a124,b124,forms174,a174,b174,forms126,a126,b126,forms127,a127,b127,z1,z2,z3,z4,gt,gg,gs,jX,jW,jV,jU,jN,jM,jL,jK,jJ,jI,jD,ha,qD,qG,qA,qF,hk,hel,t3,hkk,qT,zFp,d178,hat,hk6,hgl,ho,hw2]
 subst hS
 obtain⟨q4,hq⟩:=thQ th
 rcases qH hth with rfl|rfl|rfl|rfl<;> (repeat' with_reducible apply And.intro)<;> (refine zA [.nil 123,.pack (GD.reng (zAj ({ s with o:=none,c:=s.c+1 }) q4 a)) 0 (1::2::19::4::v4 20 q4)] [0] ?_ ?_ ?_<;> simp[hq,v4,qF,qV,zR,rps,qD,qG,zZ,ha,qA,qR,o1,o2,o3,Rp.v,Rp.cells,qJ,qQ,qK,qP,qO,zW,zY,qM,hk,zW,zY,zAj])
end YtnemoimbeefngaaGreat
end Go.Proofs
namespace Go.Proofs
namespace YtnemoimbeefngaaGreat
open Go.Abs
theorem qG2 (s:NS) (hs:s.Ok) (hF:FrOk s) (hev:s.ev.length<=100000) (th:Nat) (hth:th<4) (a:Att) (ha:s.ts th=some a) (hk:a.asked=true) (hat:a.at_<4) (hk3:a.ra.k=3) (f:List Pr) (fs:List (List Pr)) (hfs:a.fs=f::fs) (hl:¬4<=fs.length):zP Tryz.prog cfg 77 [.pointer (some ⟨0,0,none⟩),.int .i64 th] (AH.of [some (.hi (.reng s))])
  fun r H'=> r=.ret (qK 0).v/\H'=AH.of [some (.hi (.reng ({ s with ts:=zZ s.ts th (some { a with asked:=false,fs:=[]::f::fs }),ev:=s.ev++[⟨4,a.n,0,0⟩] })))]:=by
 refine zP.ends ?_
 generalize hS:(({ s with ts:=zZ s.ts th (some { a with asked:=false,fs:=[]::f::fs }),ev:=s.ev++[⟨4,a.n,0,0⟩] }):NS)=S'
 refine zP.openREng hth ?_
 have z1:¬(th:Int)<0:=by omega
 have z2:¬4<=(th:Int):=by omega
 have z3:(th:Int)<4:=by omega
 have z4:2+th+1<=8:=by omega
 have gt:∀a b q ts x y,(zR a b th q ts x y)[2+th]?=some q:=fun a b q ts x y=> xS a b hth q ts x y
 have gg:∀a b q ts x y (h:2+th<(zR a b th q ts x y).length),(zR a b th q ts x y)[2+th]'h=q:=fun a b q ts x y h=> xH a b hth q ts x y h
 have gs:∀a b q ts x y v,(zR a b th q ts x y).set (2+th) v=zR a b th v ts x y:=fun a b q ts x y v=> xG a b hth q ts x y v
 have hok:=hs.ts th a ha
 have hel:=zAt hev
 have t3:=jB s.ev
 have hkk:=jZ hs.kw
 have hlo:¬10<=(a.at_:Int):=by omega
 have hgl:=hok.fs
 have hne:=hok.fs.1
 rw[hfs] at hgl
 have hl5:fs.length<=100:=by have:=hgl.2.1;simp at this;omega
 refine zX (tbl:=xR) zAn 0 5 (af:=a77) rfl ?_
 rw[a77,b77,qB]
 refine⟨by simp,?_⟩
 simp -implicitDefEqProofs [qL,xR,qC,forms116,a116,b116,forms120,a120,b120,forms122,a122,b122,forms123,a123,b123,forms176,a176,b176,forms125,a125,b125,forms173,a173,b173,forms124,a124,b124,forms174,a174,b174,forms126,a126,b126,forms127,a127,b127,z1,z2,z3,z4,gt,gg,gs,jX,jW,jV,jU,jN,jM,jL,jK,jJ,jI,jD,ha,qD,qG,qA,qF,hk,hel,t3,hkk,qT,hat,hlo,d179,hk3,hfs,hl,hl5]
 subst hS
 obtain⟨q4,hq⟩:=thQ th
 rcases qH hth with rfl|rfl|rfl|rfl<;> (repeat' with_reducible apply And.intro)<;> (refine zA [.pack (GD.ratt { a with asked:=false,fs:=[]::f::fs }) 5 [10,11],.pack (GD.reng ({ s with ts:=zZ s.ts q4 (some { a with asked:=false,fs:=[]::f::fs }),ev:=s.ev++[⟨4,a.n,0,0⟩] })) 0 (1::2::19::4::v4 5 q4)] [0] ?_ ?_ ?_<;> simp[hq,v4,qF,qV,zR,rps,qD,qG,zZ,ha,qA,qR,o1,o2,o3,Rp.v,Rp.cells,qJ,qQ,qK,qP,qO,zW,zY,qM,hk,hat,hk3])
theorem qG1 (s:NS) (hs:s.Ok) (hF:FrOk s) (hev:s.ev.length<=100000) (th:Nat) (hth:th<4) (a:Att) (ha:s.ts th=some a) (hk:a.asked=true) (hat:a.at_<4) (hk4:a.ra.k=4) (f g:List Pr) (fs:List (List Pr)) (hfs:a.fs=f::g::fs):zP Tryz.prog cfg 77 [.pointer (some ⟨0,0,none⟩),.int .i64 th] (AH.of [some (.hi (.reng s))])
  fun r H'=> r=.ret (qK 0).v/\H'=AH.of [some (.hi (.reng ({ s with ts:=zZ s.ts th (some { a with asked:=false,fs:=g::fs }),ev:=s.ev++[⟨5,a.n,0,0⟩] })))]:=by
 refine zP.ends ?_
 generalize hS:(({ s with ts:=zZ s.ts th (some { a with asked:=false,fs:=g::fs }),ev:=s.ev++[⟨5,a.n,0,0⟩] }):NS)=S'
 refine zP.openREng hth ?_
 have z1:¬(th:Int)<0:=by omega
 have z2:¬4<=(th:Int):=by omega
 have z3:(th:Int)<4:=by omega
 have z4:2+th+1<=8:=by omega
 have gt:∀a b q ts x y,(zR a b th q ts x y)[2+th]?=some q:=fun a b q ts x y=> xS a b hth q ts x y
 have gg:∀a b q ts x y (h:2+th<(zR a b th q ts x y).length),(zR a b th q ts x y)[2+th]'h=q:=fun a b q ts x y h=> xH a b hth q ts x y h
 have gs:∀a b q ts x y v,(zR a b th q ts x y).set (2+th) v=zR a b th v ts x y:=fun a b q ts x y v=> xG a b hth q ts x y v
 have hok:=hs.ts th a ha
 have hel:=zAt hev
 have t3:=jB s.ev
 have hkk:=jZ hs.kw
 have hlo:¬10<=(a.at_:Int):=by omega
 have hgl:=hok.fs
 have hne:=hok.fs.1
 rw[hfs] at hgl
 have hl5:fs.length+1<=100:=by have:=hgl.2.1;simp at this;omega
 refine zX (tbl:=xR) zAn 0 5 (af:=a77) rfl ?_
 rw[a77,b77,qB]
 refine⟨by simp,?_⟩
 simp -implicitDefEqProofs [qL,xR,qC,forms116,a116,b116,forms120,a120,b120,forms122,a122,b122,forms123,a123,b123,forms176,a176,b176,forms125,a125,b125,forms173,a173,b173,forms124,a124,b124,forms174,a174,b174,forms126,a126,b126,forms127,a127,b127,z1,z2,z3,z4,gt,gg,gs,jX,jW,jV,jU,jN,jM,jL,jK,jJ,jI,jD,ha,qD,qG,qA,qF,hk,hel,t3,hkk,qT,hat,hlo,zKs,hk4,hfs,hl5]
 subst hS
 obtain⟨q4,hq⟩:=thQ th
 rcases qH hth with rfl|rfl|rfl|rfl<;> (repeat' with_reducible apply And.intro)<;> (refine zA [.pack (GD.ratt { a with asked:=false,fs:=g::fs }) 5 [10,11],.pack (GD.reng ({ s with ts:=zZ s.ts q4 (some { a with asked:=false,fs:=g::fs }),ev:=s.ev++[⟨5,a.n,0,0⟩] })) 0 (1::2::19::4::v4 5 q4)] [0] ?_ ?_ ?_<;> simp[hq,v4,qF,qV,zR,rps,qD,qG,zZ,ha,qA,qR,o1,o2,o3,Rp.v,Rp.cells,qJ,qQ,qK,qP,qO,zW,zY,qM,hk,hat,hk4])
theorem qG0 (s:NS) (hs:s.Ok) (hF:FrOk s) (hev:s.ev.length<=100000) (th:Nat) (hth:th<4) (a:Att) (ha:s.ts th=some a) (hk:a.asked=true) (hat:a.at_<4) (hk5:a.ra.k=5) (f g:List Pr) (fs:List (List Pr)) (hfs:a.fs=f::g::fs):zP Tryz.prog cfg 77 [.pointer (some ⟨0,0,none⟩),.int .i64 th] (AH.of [some (.hi (.reng s))])
  fun r H'=> r=.ret (qK 0).v/\H'=AH.of [some (.hi (.reng ({ s with ts:=zZ s.ts th (some { a with asked:=false,fs:=xA g f::fs }),ev:=s.ev++[⟨6,a.n,0,0⟩] })))]:=by
 refine zP.ends ?_
 generalize hS:(({ s with ts:=zZ s.ts th (some { a with asked:=false,fs:=xA g f::fs }),ev:=s.ev++[⟨6,a.n,0,0⟩] }):NS)=S'
 refine zP.openREng hth ?_
 have z1:¬(th:Int)<0:=by omega
 have z2:¬4<=(th:Int):=by omega
 have z3:(th:Int)<4:=by omega
 have z4:2+th+1<=8:=by omega
 have gt:∀a b q ts x y,(zR a b th q ts x y)[2+th]?=some q:=fun a b q ts x y=> xS a b hth q ts x y
 have gg:∀a b q ts x y (h:2+th<(zR a b th q ts x y).length),(zR a b th q ts x y)[2+th]'h=q:=fun a b q ts x y h=> xH a b hth q ts x y h
 have gs:∀a b q ts x y v,(zR a b th q ts x y).set (2+th) v=zR a b th v ts x y:=fun a b q ts x y v=> xG a b hth q ts x y v
 have hok:=hs.ts th a ha
 have hel:=zAt hev
 have t3:=jB s.ev
 have hkk:=jZ hs.kw
 have hlo:¬10<=(a.at_:Int):=by omega
 have hgl:=hok.fs
 have hne:=hok.fs.1
 rw[hfs] at hgl
 have hgf:zJ0 (f::g::fs):=⟨hgl,fun x hx=> hF.fr th a ha x (by rw[hfs];exact hx)⟩
 refine zX (tbl:=xR) zAn 0 5 (af:=a77) rfl ?_
 rw[a77,b77,qB]
 refine⟨by simp,?_⟩
 simp -implicitDefEqProofs [qL,xR,qC,forms116,a116,b116,forms120,a120,b120,forms122,a122,b122,forms123,a123,b123,forms176,a176,b176,forms125,a125,b125,forms173,a173,b173,forms124,a124,b124,forms174,a174,b174,forms126,a126,b126,forms127,a127,b127,z1,z2,z3,z4,gt,gg,gs,jX,jW,jV,jU,jN,jM,jL,jK,jJ,jI,jD,ha,qD,qG,qA,qF,hk,hel,t3,hkk,qT,hat,hlo,d181,hk5,hfs,hgf]
 subst hS
 obtain⟨q4,hq⟩:=thQ th
 rcases qH hth with rfl|rfl|rfl|rfl<;> (repeat' with_reducible apply And.intro)<;> (refine zA [.pack (GD.ratt { a with asked:=false,fs:=xA g f::fs }) 5 [10,11],.pack (GD.reng ({ s with ts:=zZ s.ts q4 (some { a with asked:=false,fs:=xA g f::fs }),ev:=s.ev++[⟨6,a.n,0,0⟩] })) 0 (1::2::19::4::v4 5 q4)] [0] ?_ ?_ ?_<;> simp[hq,v4,qF,qV,zR,rps,qD,qG,zZ,ha,qA,qR,o1,o2,o3,Rp.v,Rp.cells,qJ,qQ,qK,qP,qO,zW,zY,qM,hk,hat,hk5])
theorem qBk (s:NS) (hs:s.Ok) (hF:FrOk s) (hev:s.ev.length<=100000) (th:Nat) (hth:th<4) (a:Att) (ha:s.ts th=some a) (hk:a.asked=true) (hat:a.at_<4) (hk2:a.ra.k=2) (f:List Pr) (fs:List (List Pr)) (hfs:a.fs=f::fs) (hP:xO f fs a.ra.t a.ra.v=0):zP Tryz.prog cfg 77 [.pointer (some ⟨0,0,none⟩),.int .i64 th] (AH.of [some (.hi (.reng s))])
  fun r H'=> r=.ret (qK 0).v/\H'=AH.of [some (.hi (.reng ({ s with ts:=zZ s.ts th (some { a with asked:=false,fs:=xP f ⟨a.ra.t,a.ra.v⟩::fs }),ev:=s.ev++[⟨3,a.n,a.ra.t,a.ra.v⟩] })))]:=by
 refine zP.ends ?_
 generalize hS:(({ s with ts:=zZ s.ts th (some { a with asked:=false,fs:=xP f ⟨a.ra.t,a.ra.v⟩::fs }),ev:=s.ev++[⟨3,a.n,a.ra.t,a.ra.v⟩] }):NS)=S'
 refine zP.openREng hth ?_
 have z1:¬(th:Int)<0:=by omega
 have z2:¬4<=(th:Int):=by omega
 have z3:(th:Int)<4:=by omega
 have z4:2+th+1<=8:=by omega
 have gt:∀a b q ts x y,(zR a b th q ts x y)[2+th]?=some q:=fun a b q ts x y=> xS a b hth q ts x y
 have gg:∀a b q ts x y (h:2+th<(zR a b th q ts x y).length),(zR a b th q ts x y)[2+th]'h=q:=fun a b q ts x y h=> xH a b hth q ts x y h
 have gs:∀a b q ts x y v,(zR a b th q ts x y).set (2+th) v=zR a b th v ts x y:=fun a b q ts x y v=> xG a b hth q ts x y v
 have hok:=hs.ts th a ha
 have hel:=zAt hev
 have t3:=jB s.ev
 have hkk:=jZ hs.kw
 have hlo:¬10<=(a.at_:Int):=by omega
 have hgl:=hok.fs
 have hne:=hok.fs.1
 rw[hfs] at hgl
 have hgf:zJ0 (f::fs):=⟨hgl,fun x hx=> hF.fr th a ha x (by rw[hfs];exact hx)⟩
 have hrv:=(hok.ask hk).2.2.2
 refine zX (tbl:=xR) zAn 0 5 (af:=a77) rfl ?_
 rw[a77,b77,qB]
 refine⟨by simp,?_⟩
 simp -implicitDefEqProofs [qL,xR,qC,forms116,a116,b116,forms120,a120,b120,forms122,a122,b122,forms123,a123,b123,forms176,a176,b176,forms125,a125,b125,forms173,a173,b173,forms124,a124,b124,forms174,a174,b174,forms126,a126,b126,forms127,a127,b127,z1,z2,z3,z4,gt,gg,gs,jX,jW,jV,jU,jN,jM,jL,jK,jJ,jI,jD,ha,qD,qG,qA,qF,hk,hel,t3,hkk,qT,hat,hlo,zQc,hk2,hfs,hgf,hrv,hP]
 subst hS
 obtain⟨q4,hq⟩:=thQ th
 rcases qH hth with rfl|rfl|rfl|rfl<;> (repeat' with_reducible apply And.intro)<;> (refine zA [.pack (GD.ratt { a with asked:=false,fs:=xP f ⟨a.ra.t,a.ra.v⟩::fs }) 5 [10,11],.pack (GD.reng ({ s with ts:=zZ s.ts q4 (some { a with asked:=false,fs:=xP f ⟨a.ra.t,a.ra.v⟩::fs }),ev:=s.ev++[⟨3,a.n,a.ra.t,a.ra.v⟩] })) 0 (1::2::19::4::v4 5 q4)] [0] ?_ ?_ ?_<;> simp[hq,v4,qF,qV,zR,rps,qD,qG,zZ,ha,qA,qR,o1,o2,o3,Rp.v,Rp.cells,qJ,qQ,qK,qP,qO,zW,zY,qM,hk,hat,hk2])
theorem zYb (s:NS) (hs:s.Ok) (hF:FrOk s) (hev:s.ev.length<=100000) (th:Nat) (hth:th<4) (a:Att) (ha:s.ts th=some a) (hk:a.asked=true) (hat:a.at_<4) (hk2:a.ra.k=2) (f:List Pr) (fs:List (List Pr)) (hfs:a.fs=f::fs) (hP:¬xO f fs a.ra.t a.ra.v=0) (ho:s.o=some (th:Int)):zP Tryz.prog cfg 77 [.pointer (some ⟨0,0,none⟩),.int .i64 th] (AH.of [some (.hi (.reng s))])
  fun r H'=> r=.ret (qP 2).v/\H'=AH.of [some (.hi (.reng (qY s th a 2)))]:=by
 refine zP.ends ?_
 generalize hS:((qY s th a 2):NS)=S'
 refine zP.openREng hth ?_
 have z1:¬(th:Int)<0:=by omega
 have z2:¬4<=(th:Int):=by omega
 have z3:(th:Int)<4:=by omega
 have z4:2+th+1<=8:=by omega
 have gt:∀a b q ts x y,(zR a b th q ts x y)[2+th]?=some q:=fun a b q ts x y=> xS a b hth q ts x y
 have gg:∀a b q ts x y (h:2+th<(zR a b th q ts x y).length),(zR a b th q ts x y)[2+th]'h=q:=fun a b q ts x y h=> xH a b hth q ts x y h
 have gs:∀a b q ts x y v,(zR a b th q ts x y).set (2+th) v=zR a b th v ts x y:=fun a b q ts x y v=> xG a b hth q ts x y v
 have hok:=hs.ts th a ha
 have hel:=zAt hev
 have t3:=jB s.ev
 have hkk:=jZ hs.kw
 have hlo:¬10<=(a.at_:Int):=by omega
 have hgl:=hok.fs
 rw[hfs] at hgl
 have hgf:zJ0 (f::fs):=⟨hgl,fun x hx=> hF.fr th a ha x (by rw[hfs];exact hx)⟩
 have hrv:=(hok.ask hk).2.2.2
 have hnk:a.n<s.ky.length:=by have:=hok.n;have:=hs.kw;omega
 have hnk2:(a.n:Int)<s.ky.length:=by omega
 have hnk3:a.n*2+2<=s.ky.length*2:=by omega
 have hnk4:a.n*2+1+1<=s.ky.length*2:=by omega
 have hnk5:a.n*2+1<=s.ky.length*2:=by omega
 have hkw:=zDr (ky:=s.ky) (wy:=s.wy) 2 hs.kw hnk
 have hcw:IntKind.u64.wrap (s.c - 1)=s.c - 1:=by have h1:=hs.held _ ho;have h2:=hs.c;exact zBn (by omega) (by omega)
 refine zX (tbl:=xR) zAn 0 5 (af:=a77) rfl ?_
 rw[a77,b77,qB]
 refine⟨by simp,?_⟩
 simp -implicitDefEqProofs [qL,xR,qC,forms116,a116,b116,forms120,a120,b120,forms122,a122,b122,forms123,a123,b123,forms176,a176,b176,forms125,a125,b125,forms173,a173,b173,forms124,a124,b124,forms174,a174,b174,forms126,a126,b126,forms127,a127,b127,z1,z2,z3,z4,gt,gg,gs,jX,jW,jV,jU,jN,jM,jL,jK,jJ,jI,jD,ha,qD,qG,qA,qF,hk,hel,t3,hkk,qT,zQc,hat,hlo,hk2,hfs,hgf,hrv,hP,zGx,ho,hnk,hnk2,hnk3,hnk4,hnk5,hkw,hcw]
 subst hS
 obtain⟨q4,hq⟩:=thQ th
 rcases qH hth with rfl|rfl|rfl|rfl<;> (repeat' with_reducible apply And.intro)<;> (refine zA [.nil 123,.pack (GD.reng (qY s q4 a 2)) 0 (1::2::18::4::v4 19 q4)] [0] ?_ ?_ ?_<;> simp[hq,v4,qF,qV,zR,rps,qD,qG,zZ,ha,qA,qR,o1,o2,o3,Rp.v,Rp.cells,qJ,qQ,qK,qP,qO,zW,zY,qM,hk,qY,ho])
theorem zYc (s:NS) (hs:s.Ok) (hF:FrOk s) (hev:s.ev.length<=100000) (th:Nat) (hth:th<4) (a:Att) (ha:s.ts th=some a) (hk:a.asked=true) (hat:a.at_<4) (hk2:a.ra.k=2) (f:List Pr) (fs:List (List Pr)) (hfs:a.fs=f::fs) (hP:¬xO f fs a.ra.t a.ra.v=0) (ho:¬s.o=some (th:Int)):zP Tryz.prog cfg 77 [.pointer (some ⟨0,0,none⟩),.int .i64 th] (AH.of [some (.hi (.reng s))])
  fun r H'=> r=.ret (qP 2).v/\H'=AH.of [some (.hi (.reng (qY s th a 2)))]:=by
 refine zP.ends ?_
 rw[zGe ho]
 generalize hS:(({ s with ts:=zZ s.ts th none,ev:=s.ev++[⟨9,a.n,0,0⟩],wy:=s.wy.set a.n 2 }):NS)=S'
 refine zP.openREng hth ?_
 have z1:¬(th:Int)<0:=by omega
 have z2:¬4<=(th:Int):=by omega
 have z3:(th:Int)<4:=by omega
 have z4:2+th+1<=8:=by omega
 have gt:∀a b q ts x y,(zR a b th q ts x y)[2+th]?=some q:=fun a b q ts x y=> xS a b hth q ts x y
 have gg:∀a b q ts x y (h:2+th<(zR a b th q ts x y).length),(zR a b th q ts x y)[2+th]'h=q:=fun a b q ts x y h=> xH a b hth q ts x y h
 have gs:∀a b q ts x y v,(zR a b th q ts x y).set (2+th) v=zR a b th v ts x y:=fun a b q ts x y v=> xG a b hth q ts x y v
 have hok:=hs.ts th a ha
 have hel:=zAt hev
 have t3:=jB s.ev
 have hkk:=jZ hs.kw
 have hlo:¬10<=(a.at_:Int):=by omega
 have hgl:=hok.fs
 rw[hfs] at hgl
 have hgf:zJ0 (f::fs):=⟨hgl,fun x hx=> hF.fr th a ha x (by rw[hfs];exact hx)⟩
 have hrv:=(hok.ask hk).2.2.2
 have hnk:a.n<s.ky.length:=by have:=hok.n;have:=hs.kw;omega
 have hnk2:(a.n:Int)<s.ky.length:=by omega
 have hnk3:a.n*2+2<=s.ky.length*2:=by omega
 have hnk4:a.n*2+1+1<=s.ky.length*2:=by omega
 have hnk5:a.n*2+1<=s.ky.length*2:=by omega
 have hkw:=zDr (ky:=s.ky) (wy:=s.wy) 2 hs.kw hnk
 refine zX (tbl:=xR) zAn 0 5 (af:=a77) rfl ?_
 rw[a77,b77,qB]
 refine⟨by simp,?_⟩
 simp -implicitDefEqProofs [qL,xR,qC,forms116,a116,b116,forms120,a120,b120,forms122,a122,b122,forms123,a123,b123,forms176,a176,b176,forms125,a125,b125,forms173,a173,b173,forms124,a124,b124,forms174,a174,b174,forms126,a126,b126,forms127,a127,b127,z1,z2,z3,z4,gt,gg,gs,jX,jW,jV,jU,jN,jM,jL,jK,jJ,jI,jD,ha,qD,qG,qA,qF,hk,hel,t3,hkk,qT,zQc,hat,hlo,hk2,hfs,hgf,hrv,hP,zGx,ho,hnk,hnk2,hnk3,hnk4,hnk5,hkw]
 subst hS
 obtain⟨q4,hq⟩:=thQ th
 rcases qH hth with rfl|rfl|rfl|rfl<;> (repeat' with_reducible apply And.intro)<;> (refine zA [.nil 123,.pack (GD.reng ({ s with ts:=zZ s.ts q4 none,ev:=s.ev++[⟨9,a.n,0,0⟩],wy:=s.wy.set a.n 2 })) 0 (1::2::18::4::v4 19 q4)] [0] ?_ ?_ ?_<;> simp[hq,v4,qF,qV,zR,rps,qD,qG,zZ,ha,qA,qR,o1,o2,o3,Rp.v,Rp.cells,qJ,qQ,qK,qP,qO,zW,zY,qM,hk,zW])
end YtnemoimbeefngaaGreat
end Go.Proofs
namespace Go.Proofs
namespace YtnemoimbeefngaaGreat
open Go.Abs
theorem zOp (s:NS) (th:Nat) (hth:th<4) (hb:s.ts th=none∨∃a,s.ts th=some a/\a.asked=false):zP Tryz.prog cfg 77 [.pointer (some ⟨0,0,none⟩),.int .i64 th] (AH.of [some (.hi (.reng s))])
  fun r H'=> r=.ret (qQ 8).v/\H'=AH.of [some (.hi (.reng s))]:=by
 refine zP.ends ?_
 refine zP.openREng hth ?_
 have z1:¬(th:Int)<0:=by omega
 have z2:¬4<=(th:Int):=by omega
 have z3:(th:Int)<4:=by omega
 have z4:2+th+1<=8:=by omega
 have gt:∀a b q ts x y,(zR a b th q ts x y)[2+th]?=some q:=fun a b q ts x y=> xS a b hth q ts x y
 have gg:∀a b q ts x y (h:2+th<(zR a b th q ts x y).length),(zR a b th q ts x y)[2+th]'h=q:=fun a b q ts x y h=> xH a b hth q ts x y h
 have gs:∀a b q ts x y v,(zR a b th q ts x y).set (2+th) v=zR a b th v ts x y:=fun a b q ts x y v=> xG a b hth q ts x y v
 refine zX (tbl:=[]) (by simp) 0 3 (af:=a77) rfl ?_
 rw[a77,b77,qB]
 refine⟨by simp,?_⟩
 obtain⟨q4,hq⟩:=thQ th
 rcases hb with ha|⟨a,ha,hf⟩
 ·simp -implicitDefEqProofs [qL,forms116,a116,b116,z1,z2,z3,z4,gt,gg,gs,jX,jW,jV,jU,jN,jM,jL,jK,jJ,jI,jD,qD,qG,qA,ha]
  rcases qH hth with rfl|rfl|rfl|rfl<;> (refine zA [.pack (GD.reng s) 0 (1::2::3::4::v4 5 q4)] [0] ?_ ?_ ?_<;> simp[qV,hq,v4,zR,rps,qD,qG,qA,qR,o1,o2,o3,ha,qQ,Rp.v,Rp.cells])
 ·simp -implicitDefEqProofs [qL,forms116,a116,b116,z1,z2,z3,z4,gt,gg,gs,jX,jW,jV,jU,jN,jM,jL,jK,jJ,jI,jD,qD,qG,qA,ha,qF,hf]
  rcases qH hth with rfl|rfl|rfl|rfl<;> (refine zA [.pack (GD.ratt a) 5 [10,11],.pack (GD.reng s) 0 (1::2::3::4::v4 5 q4)] [0] ?_ ?_ ?_<;> simp[qV,hq,v4,zR,rps,qD,qG,qA,qR,o1,o2,o3,qF,ha,hf,qQ,Rp.v,Rp.cells])
theorem zVq (d:GD) (t:Int) (ht:t<0∨4<=t) (s:NS) (hd:d=.reng s):zP Tryz.prog cfg 77 [.pointer (some ⟨0,0,none⟩),.int .i64 t] (AH.of [some (.hi d)])
  fun r H'=> r=.ret (qQ 2).v/\H'=AH.of [some (.hi d)]:=by
 refine zP.ends ?_
 have ht':¬t<0->4<=t:=fun h=> by omega
 refine zX (tbl:=[]) (by simp) 0 3 (af:=a77) rfl ?_
 rw[a77,b77,qB]
 refine⟨by simp,?_⟩
 by_cases h1:t<0
 ·simp -implicitDefEqProofs [forms116,a116,b116,h1]
  refine zA [] [0] ?_ ?_ ?_<;> simp[qQ,Rp.v,Rp.cells]
 ·simp -implicitDefEqProofs [forms116,a116,b116,h1,ht' h1]
  refine zA [] [0] ?_ ?_ ?_<;> simp[qQ,Rp.v,Rp.cells]
theorem zAo {f:FuncId} {args:List Value} {H:AH GD} {r r':Rp} {s s':NS} (h:zP Tryz.prog cfg f args H fun r1 H'=> r1=.ret r.v/\H'=AH.of [some (.hi (.reng s))]) (e:(r,s)=(r',s')):
  zP Tryz.prog cfg f args H fun r1 H'=> r1=.ret r'.v/\H'=AH.of [some (.hi (.reng s'))]:=by
 cases e;exact h
theorem zX7 (s:NS) (hs:s.Ok) (hF:FrOk s) (hev:s.ev.length<=100000) (th:Nat) (hth:th<4):
  zP Tryz.prog cfg 77 [.pointer (some ⟨0,0,none⟩),.int .i64 th] (AH.of [some (.hi (.reng s))])
  fun r H'=> r=.ret (zAs s th).1.v/\H'=AH.of [some (.hi (.reng (zAs s th).2))]:=by
 cases ha:s.ts th with
 |none=> exact zAo (zOp s th hth (.inl ha)) (by simp[zAs,ha])
 |some a=>
  cases hk:a.asked with
  |false=> exact zAo (zOp s th hth (.inr ⟨a,ha,hk⟩)) (by simp[zAs,ha,hk])
  |true=>
   have hok:=hs.ts th a ha
   have hask:=hok.ask hk
   by_cases h4:4<=a.at_
   ·have e0:zAs s th=zB0 s th a:=by simp[zAs,ha,hk,h4]
    rw[e0]
    have h6:=hok.at_
    have hat:a.at_=4∨a.at_=5∨a.at_=6:=by omega
    rcases hat with hat|hat|hat
    ·cases ho:s.o with
     |none=> exact zAo (qBz s hs hF hev th hth a ha hk hat ho) (by simp[zB0,hat,ho,zCj])
     |some x=> exact zAo (qB0 s hs hF hev th hth a ha hk x hat ho) (by simp[zB0,hat,ho])
    ·cases hx:a.es[a.nx]? with
     |none=>
      have hge:a.es.length<=a.nx:=List.getElem?_eq_none_iff.1 hx
      by_cases hnx:a.nx=a.es.length
      ·exact zAo (qBy s hs hF hev th hth a ha hk hat hnx) (by simp[zB0,hat,hx,zCj])
      ·exact absurd (Nat.le_antisymm (hok.la hat) hge) hnx
     |some e=>
      cases hsm:zDl ((s.hp[e.t.toNat]?).getD 0) e.v with
      |true=> exact zAo (qBx s hs hF hev th hth a ha hk e hat hx hsm) (by simp[zB0,hat,hx,hsm,zCj])
      |false=>
       by_cases ho:s.o=some (th:Int)
       ·exact zAo (zYg s hs hF hev th hth a ha hk e hat hx hsm ho) (by simp[zB0,hat,hx,hsm])
       ·exact zAo (zYh s hs hF hev th hth a ha hk e hat hx hsm ho) (by simp[zB0,hat,hx,hsm])
    ·by_cases hc:s.c=a.seen
     ·exact zAo (qBv s hs hF hev th hth a ha hk hat hc) (by simp[zB0,hat,hc])
     ·exact zAo (qBw s hs hF hev th hth a ha hk hat hc) (by simp[zB0,hat,hc,zCj])
   ·have hlt:a.at_<4:=by omega
    have hkk:a.ra.k=1∨a.ra.k=2∨a.ra.k=3∨a.ra.k=4∨a.ra.k=5∨a.ra.k=6∨a.ra.k=7:=by have:=hask.1;have:=hask.2.1;omega
    obtain⟨f,fs,hfs⟩:∃f fs,a.fs=f::fs:=by
     cases h:a.fs with
     |nil=> exact absurd h hok.fs.1
     |cons f fs=> exact⟨f,fs,rfl⟩
    have hwt:=hok.ww hk
    rcases hkk with k1|k2|k3|k4|k5|k6|k7
    ·have e0:zAs s th=zDm s th a:=by simp[zAs,ha,hk,h4,k1]
     rw[e0]
     cases hv:zAd a.fs a.ra.t with
     |some v=> exact zAo (qG3 s hs hF hev th hth a ha hk hlt k1 v hv) (by simp[zDm,hv])
     |none=>
      have h1:=hok.kr hk hlt k1
      have hra:=hask.2.2.1 (.inl k1)
      obtain⟨y,hy⟩:∃y,s.hp[a.ra.t.toNat]?=some y:=⟨s.hp[a.ra.t.toNat]'(by omega),List.getElem?_eq_getElem (by omega)⟩
      have hat:a.at_=0∨a.at_=1:=by omega
      rcases hat with hat|hat
      ·exact zAo (qG4 s hs hF hev th hth a ha hk hat k1 hv y hy) (by simp[zDm,hv,hat,hy,zCj])
      ·by_cases hc:s.c=a.snap
       ·by_cases hA:zA2 a.es ⟨a.ra.t,a.val,0⟩=0
        ·exact zAo (qBm s hs hF hev th hth a ha hk hat k1 hv hc hA) (by simp[zDm,hv,hat,hc,hA])
        ·by_cases ho:s.o=some (th:Int)
         ·exact zAo (zYd s hs hF hev th hth a ha hk hat k1 hv hc hA ho) (by simp[zDm,hv,hat,hc,hA])
         ·exact zAo (zYe s hs hF hev th hth a ha hk hat k1 hv hc hA ho) (by simp[zDm,hv,hat,hc,hA])
       ·exact zAo (qBl s hs hF hev th hth a ha hk hat k1 hv hc) (by simp[zDm,hv,hat,hc,zCj])
    ·have e0:zAs s th=zCb s th a:=by simp[zAs,ha,hk,h4,k2]
     rw[e0]
     by_cases hP:xO f fs a.ra.t a.ra.v=0
     ·exact zAo (qBk s hs hF hev th hth a ha hk hlt k2 f fs hfs hP) (by simp[zCb,k2,hfs,zId,zMt,hP])
     ·by_cases ho:s.o=some (th:Int)
      ·exact zAo (zYb s hs hF hev th hth a ha hk hlt k2 f fs hfs hP ho) (by simp[zCb,k2,hfs,zId,hP])
      ·exact zAo (zYc s hs hF hev th hth a ha hk hlt k2 f fs hfs hP ho) (by simp[zCb,k2,hfs,zId,hP])
    ·have e0:zAs s th=zCb s th a:=by simp[zAs,ha,hk,h4,k3]
     rw[e0]
     have hl:=hwt.1 k3
     rw[hfs] at hl
     have hl4:¬4<=fs.length:=by simp at hl;omega
     have hl5:¬5<=fs.length+1:=by omega
     exact zAo (qG2 s hs hF hev th hth a ha hk hlt k3 f fs hfs hl4) (by simp[zCb,k3,hfs,zOw,hl4])
    ·have e0:zAs s th=zCb s th a:=by simp[zAs,ha,hk,h4,k4]
     rw[e0]
     have hl:=hwt.2 (.inl k4)
     rw[hfs] at hl
     cases fs with
     |nil=> simp at hl
     |cons g rs=> exact zAo (qG1 s hs hF hev th hth a ha hk hlt k4 f g rs hfs) (by simp[zCb,k4,hfs,zO6])
    ·have e0:zAs s th=zCb s th a:=by simp[zAs,ha,hk,h4,k5]
     rw[e0]
     have hl:=hwt.2 (.inr k5)
     rw[hfs] at hl
     cases fs with
     |nil=> simp at hl
     |cons g rs=> exact zAo (qG0 s hs hF hev th hth a ha hk hlt k5 f g rs hfs) (by simp[zCb,k5,hfs,zG7])
    ·have e0:zAs s th=zCt s th a:=by simp[zAs,ha,hk,h4,k6]
     rw[e0]
     have hat:a.at_=0∨a.at_=1∨a.at_=2∨a.at_=3:=by omega
     rcases hat with hat|hat|hat|hat
     ·by_cases hall:zAk a.fs=[]
      ·exact zAo (qBu s hs hF hev th hth a ha hk hat k6 hall) (by simp[zCt,hat,hall])
      ·exact zAo (qBt s hs hF hev th hth a ha hk hat k6 hall) (by simp[zCt,hat,hall])
     ·by_cases ht:zBu s.o s.c th a.snap=0
      ·exact zAo (qBr s hs hF hev th hth a ha hk hat k6 ht) (by simp[zCt,hat,ht])
      ·by_cases ht4:zBu s.o s.c th a.snap=4
       ·have ho:¬s.o=some (th:Int):=fun ho=> by
         have z1:¬(th:Int)<0:=by omega
         have z2:¬4<=(th:Int):=by omega
         rw[ho] at ht4
         simp[zBu,z1,z2] at ht4
        exact zAo (zYf s hs hF hev th hth a ha hk hat k6 ht4 ho) (by simp[zCt,hat,ht4])
       ·exact zAo (qBs s hs hF hev th hth a ha hk hat k6 ht ht4) (by simp[zCt,hat,ht,ht4,zCj])
     ·have hw:=hok.wr hk hat
      obtain⟨p,hp⟩:∃p,(zAk a.fs)[a.nx]?=some p:=⟨_,List.getElem?_eq_getElem hw⟩
      have hpr:=zQz hok (List.mem_of_getElem? hp)
      by_cases hl:a.nx+1=(zAk a.fs).length
      ·exact zAo (qBq s hs hF hev th hth a ha hk hat k6 p hp hpr hl) (by simp[zCt,hat,hp,hl])
      ·exact zAo (qBp s hs hF hev th hth a ha hk hat k6 p hp hpr hl) (by simp[zCt,hat,hp,hl])
     ·exact zAo (qG5 s hs hF hev th hth a ha hk hat k6 ((hs.dec th a ha).1 ((hs.dec th a ha).2 hk k6 (.inr hat))).1) (by simp[zCt,hat])
    ·have e0:zAs s th=(qP 4,qY s th a 4):=by simp[zAs,ha,hk,h4,k7]
     rw[e0]
     by_cases ho:s.o=some (th:Int)
     ·exact qBn s hs hF hev th hth a ha hk hlt k7 ho
     ·exact qBo s hs hF hev th hth a ha hk hlt k7 ho
def d77:zAl
 |.reng s,[.int .i64 t]=> some (s.Ok/\FrOk s/\s.ev.length<=100000,(zH4 s t).v,.reng (zDj s t))
 |_,_=> none
theorem qLp:qI Tryz.prog cfg 77 (qC d77):=xJ fun d rest p v d' h hp=> by
 unfold d77 at h
 split at h
 case h_2=> cases h
 rename_i s t
 cases h
 refine⟨rfl,zQx _,?_⟩
 cases ht:zBv t with
 |none=> simp only[zH4,zDj,ht];exact zVq _ _ (zDo ht) s rfl
 |some th=>
  obtain⟨h1,rfl⟩:=zA4 ht
  simp only[zH4,zDj,ht]
  exact zX7 s hp.1 hp.2.1 hp.2.2 th h1
def zR4:List (FuncId × qW GD):=[(172,qC zGx)]
theorem qFd:∀x∈zR4,qI Tryz.prog cfg x.1 x.2:=by simp[zR4,zTe]
theorem qB4 (s:NS) (hs:s.Ok) (hev:s.ev.length<=100000) (th:Nat) (hth:th<4) (a:Att) (ha:s.ts th=some a) (hd:a.dec=false):zP Tryz.prog cfg 78 [.pointer (some ⟨0,0,none⟩),.int .i64 th] (AH.of [some (.hi (.reng s))])
  fun r H'=> r=.ret (.int .i64 0)/\H'=AH.of [some (.hi (.reng (qY s th a 3)))]:=by
 refine zP.ends ?_
 have ho:=zKd hs ha hd
 rw[zGe ho]
 generalize hS:(({ s with ts:=zZ s.ts th none,ev:=s.ev++[⟨9,a.n,0,0⟩],wy:=s.wy.set a.n 3 }):NS)=S'
 refine zP.openREng hth ?_
 have z1:¬(th:Int)<0:=by omega
 have z2:¬4<=(th:Int):=by omega
 have z3:(th:Int)<4:=by omega
 have z4:2+th+1<=8:=by omega
 have gt:∀a b q ts x y,(zR a b th q ts x y)[2+th]?=some q:=fun a b q ts x y=> xS a b hth q ts x y
 have gg:∀a b q ts x y (h:2+th<(zR a b th q ts x y).length),(zR a b th q ts x y)[2+th]'h=q:=fun a b q ts x y h=> xH a b hth q ts x y h
 have gs:∀a b q ts x y v,(zR a b th q ts x y).set (2+th) v=zR a b th v ts x y:=fun a b q ts x y v=> xG a b hth q ts x y v
 have hok:=hs.ts th a ha
 have hel:=zAt hev
 have t3:=jB s.ev
 have hkk:=jZ hs.kw
 have hnk:a.n<s.ky.length:=by have:=hok.n;have:=hs.kw;omega
 have hnk2:(a.n:Int)<s.ky.length:=by omega
 have hnk3:a.n*2+2<=s.ky.length*2:=by omega
 have hnk4:a.n*2+1+1<=s.ky.length*2:=by omega
 have hkw:=zDr (ky:=s.ky) (wy:=s.wy) 3 hs.kw hnk
 refine zX (tbl:=zR4) qFd 0 5 (af:=a78) rfl ?_
 rw[a78,b78,qB]
 refine⟨by simp,?_⟩
 simp -implicitDefEqProofs [qL,forms116,a116,b116,z1,z2,z3,z4,gt,gg,gs,jX,jW,jV,jU,jN,jM,jL,jK,jJ,jI,jD,qD,qG,qA,zR4,qC,forms123,a123,b123,forms120,a120,b120,ha,qF,hd,hel,t3,hkk,qT,zGx,ho,hnk,hnk2,hnk3,hnk4,hkw]
 subst hS
 obtain⟨q4,hq⟩:=thQ th
 rcases qH hth with rfl|rfl|rfl|rfl<;> (repeat' with_reducible apply And.intro)<;> (refine zA [.nil 123,.pack (GD.reng ({ s with ts:=zZ s.ts q4 none,ev:=s.ev++[⟨9,a.n,0,0⟩],wy:=s.wy.set a.n 3 })) 0 (1::2::16::4::v4 17 q4)] [0] ?_ ?_ ?_<;> simp[qV,hq,v4,zR,rps,qD,qG,qA,qR,o1,o2,o3,zZ,ha,zW,zY])
theorem zTx (s:NS) (th:Nat) (hth:th<4) (hb:s.ts th=none∨∃a,s.ts th=some a/\a.dec=true):zP Tryz.prog cfg 78 [.pointer (some ⟨0,0,none⟩),.int .i64 th] (AH.of [some (.hi (.reng s))])
  fun r H'=> r=.ret (.int .i64 8)/\H'=AH.of [some (.hi (.reng s))]:=by
 refine zP.ends ?_
 refine zP.openREng hth ?_
 have z1:¬(th:Int)<0:=by omega
 have z2:¬4<=(th:Int):=by omega
 have z3:(th:Int)<4:=by omega
 have z4:2+th+1<=8:=by omega
 have gt:∀a b q ts x y,(zR a b th q ts x y)[2+th]?=some q:=fun a b q ts x y=> xS a b hth q ts x y
 have gg:∀a b q ts x y (h:2+th<(zR a b th q ts x y).length),(zR a b th q ts x y)[2+th]'h=q:=fun a b q ts x y h=> xH a b hth q ts x y h
 have gs:∀a b q ts x y v,(zR a b th q ts x y).set (2+th) v=zR a b th v ts x y:=fun a b q ts x y v=> xG a b hth q ts x y v
 refine zX (tbl:=[]) (by simp) 0 3 (af:=a78) rfl ?_
 rw[a78,b78,qB]
 refine⟨by simp,?_⟩
 obtain⟨q4,hq⟩:=thQ th
 rcases hb with ha|⟨a,ha,hf⟩
 ·simp -implicitDefEqProofs [qL,forms116,a116,b116,z1,z2,z3,z4,gt,gg,gs,jX,jW,jV,jU,jN,jM,jL,jK,jJ,jI,jD,qD,qG,qA,ha]
  rcases qH hth with rfl|rfl|rfl|rfl<;> (refine zA [.pack (GD.reng s) 0 (1::2::3::4::v4 5 q4)] [0] ?_ ?_ ?_<;> simp[qV,hq,v4,zR,rps,qD,qG,qA,qR,o1,o2,o3,ha])
 ·simp -implicitDefEqProofs [qL,forms116,a116,b116,z1,z2,z3,z4,gt,gg,gs,jX,jW,jV,jU,jN,jM,jL,jK,jJ,jI,jD,qD,qG,qA,ha,qF,hf]
  rcases qH hth with rfl|rfl|rfl|rfl<;> (refine zA [.pack (GD.ratt a) 5 [9,10],.pack (GD.reng s) 0 (1::2::3::4::v4 5 q4)] [0] ?_ ?_ ?_<;> simp[qV,hq,v4,zR,rps,qD,qG,qA,qR,o1,o2,o3,qF,ha,hf])
theorem zVw (s:NS) (t:Int) (ht:t<0∨4<=t):zP Tryz.prog cfg 78 [.pointer (some ⟨0,0,none⟩),.int .i64 t] (AH.of [some (.hi (.reng s))])
  fun r H'=> r=.ret (.int .i64 2)/\H'=AH.of [some (.hi (.reng s))]:=by
 refine zP.ends ?_
 have ht':¬t<0->4<=t:=fun h=> by omega
 refine zX (tbl:=[]) (by simp) 0 3 (af:=a78) rfl ?_
 rw[a78,b78,qB]
 refine⟨by simp,?_⟩
 by_cases h1:t<0
 ·simp -implicitDefEqProofs [forms116,a116,b116,h1]
  refine zA [] [0] ?_ ?_ ?_<;> simp
 ·simp -implicitDefEqProofs [forms116,a116,b116,h1,ht' h1]
  refine zA [] [0] ?_ ?_ ?_<;> simp
def d78:zAl
 |.reng s,[.int .i64 t]=> some (s.Ok/\s.ev.length<=100000,.int .i64 (zMw s t),.reng (zFu s t))
 |_,_=> none
theorem qLo:qI Tryz.prog cfg 78 (qC d78):=xJ fun d rest p v d' h hp=> by
 unfold d78 at h
 split at h
 case h_2=> cases h
 rename_i s t
 cases h
 refine⟨rfl,rfl,?_⟩
 cases ht:zBv t with
 |none=> simp only[zMw,zFu,ht];exact zVw _ _ (zDo ht)
 |some th=>
  obtain⟨h1,rfl⟩:=zA4 ht
  simp only[zMw,zFu,ht]
  cases ha:s.ts th with
  |none=>
   simp only[zKj,zGr,ha]
   exact zTx s th h1 (.inl ha)
  |some a=>
   cases hd:a.dec with
   |true=>
    simp only[zKj,zGr,ha,hd,if_true]
    exact zTx s th h1 (.inr ⟨a,ha,hd⟩)
   |false=>
    simp only[zKj,zGr,ha,hd,Bool.false_eq_true,if_false]
    exact qB4 s hp.1 hp.2 th h1 a ha hd
end YtnemoimbeefngaaGreat
end Go.Proofs
namespace Go.Proofs
namespace YtnemoimbeefngaaGreat
open Go.Abs
theorem qCh (s:NS) (hs:s.Ok) (th:Nat) (hth:th<4) (hc:zC8 s th≠0):zP Tryz.prog cfg 75 [.pointer (some ⟨0,0,none⟩),.int .i64 th] (AH.of [some (.hi (.reng s))])
  fun r H'=> r=.ret (.tuple #[.int .i64 0,.int .i64 (zC8 s th)])/\H'=AH.of [some (.hi (.reng s))]:=by
 refine zP.ends ?_
 refine zP.openREng hth ?_
 have z1:¬(th:Int)<0:=by omega
 have z2:¬4<=(th:Int):=by omega
 have z3:(th:Int)<4:=by omega
 have z4:2+th+1<=8:=by omega
 have gt:∀a b q ts x y,(zR a b th q ts x y)[2+th]?=some q:=fun a b q ts x y=> xS a b hth q ts x y
 have gg:∀a b q ts x y (h:2+th<(zR a b th q ts x y).length),(zR a b th q ts x y)[2+th]'h=q:=fun a b q ts x y h=> xH a b hth q ts x y h
 have gs:∀a b q ts x y v,(zR a b th q ts x y).set (2+th) v=zR a b th v ts x y:=fun a b q ts x y v=> xG a b hth q ts x y v
 refine zX (tbl:=zJe) zS7 0 3 (af:=a75) rfl ?_
 rw[a75,b75,qB]
 refine⟨by simp,?_⟩
 unfold zC8 at hc⊢
 obtain⟨q4,hq⟩:=thQ th
 cases h1:s.ts th with
 |some a=>
  simp -implicitDefEqProofs [qL,forms116,a116,b116,z1,z2,z3,z4,gt,gg,gs,jX,jW,jV,jU,jN,jM,jL,jK,jJ,jI,jD,qD,qG,qA,zJe,h1]
  rcases qH hth with rfl|rfl|rfl|rfl<;> (refine zA [.pack (GD.reng s) 0 (1::2::3::4::v4 5 q4)] [0] ?_ ?_ ?_<;> simp[qV,hq,v4,zR,rps,qD,qG,qA,qR,o1,o2,o3,h1])
 |none=>
  by_cases h2:64<=s.ky.length
  ·have h2':(64:Int)<=s.ky.length:=by omega
   simp -implicitDefEqProofs [qL,forms116,a116,b116,z1,z2,z3,z4,gt,gg,gs,jX,jW,jV,jU,jN,jM,jL,jK,jJ,jI,jD,qD,qG,qA,zJe,h1,h2,h2']
   rcases qH hth with rfl|rfl|rfl|rfl<;> (refine zA [.pack (GD.reng s) 0 (1::2::3::4::v4 5 q4)] [0] ?_ ?_ ?_<;> simp[qV,hq,v4,zR,rps,qD,qG,qA,qR,o1,o2,o3,h1])
  ·have h2':¬(64:Int)<=s.ky.length:=by omega
   cases h3:s.o with
   |none=> simp[h1,h2,h3] at hc
   |some x=>
    simp -implicitDefEqProofs [qL,forms116,a116,b116,z1,z2,z3,z4,gt,gg,gs,jX,jW,jV,jU,jN,jM,jL,jK,jJ,jI,jD,qD,qG,qA,zJe,qC,zL0,h1,h2,h2',h3,zDw]
    rcases qH hth with rfl|rfl|rfl|rfl<;> (refine zA [.pack (GD.reng s) 0 (1::2::3::4::v4 5 q4)] [0] ?_ ?_ ?_<;> simp[qV,hq,v4,zR,rps,qD,qG,qA,qR,o1,o2,o3,h1,h3])
theorem zT2 (s:NS) (t:Int) (ht:t<0∨4<=t):zP Tryz.prog cfg 75 [.pointer (some ⟨0,0,none⟩),.int .i64 t] (AH.of [some (.hi (.reng s))])
  fun r H'=> r=.ret (.tuple #[.int .i64 0,.int .i64 2])/\H'=AH.of [some (.hi (.reng s))]:=by
 refine zP.ends ?_
 have ht':¬t<0->4<=t:=fun h=> by omega
 refine zX (tbl:=[]) (by simp) 0 3 (af:=a75) rfl ?_
 rw[a75,b75,qB]
 refine⟨by simp,?_⟩
 by_cases h1:t<0
 ·simp -implicitDefEqProofs [forms116,a116,b116,h1]
  refine zA [] [0] ?_ ?_ ?_<;> simp
 ·simp -implicitDefEqProofs [forms116,a116,b116,h1,ht' h1]
  refine zA [] [0] ?_ ?_ ?_<;> simp
def d75:zAl
 |.reng s,[.int .i64 t]=> some (s.Ok/\s.ev.length<=100000,zGy s t,.reng (zDt s t))
 |_,_=> none
theorem qLr:qI Tryz.prog cfg 75 (qC d75):=xJ fun d rest p v d' h hp=> by
 unfold d75 at h
 split at h
 case h_2=> cases h
 rename_i s t
 cases h
 cases ht:zBv t with
 |none=> simp only[zGy,zDt,ht];exact⟨rfl,rfl,zT2 _ _ (zDo ht)⟩
 |some th=>
  obtain⟨h1,rfl⟩:=zA4 ht
  simp only[zGy,zDt,ht]
  by_cases hc:zC8 s th=0
  ·rw[if_pos hc,if_pos hc];exact⟨rfl,rfl,zYu s hp.1 hp.2 th h1 hc⟩
  ·rw[if_neg hc,if_neg hc];exact⟨rfl,rfl,qCh s hp.1 th h1 hc⟩
def zR5:List (FuncId × qW GD):=[(169,qC d169),(98,zE7)]
theorem qFe:∀x∈zR5,qI Tryz.prog cfg x.1 x.2:=by simp[zR5,qGf,zJt]
theorem qNu (fs:List (List Pr)) (hl:Nat) (k t v:Int) (h1:1<=fs.length/\fs.length<=5) (hk0:0<=k) (hv:0<=v/\v<18446744073709551616):zP Tryz.prog cfg 121 [.agg #[.int .u8 k,.int .i64 t,.int .u64 v],.int .i64 hl,.pointer (some ⟨0,0,none⟩)] (AH.of [some (.hi (.rlog fs))])
  fun r H'=> r=.ret (.int .i64 (zI9 fs hl ⟨k,t,v⟩))/\H'=AH.of [some (.hi (.rlog fs))]:=by
 refine zP.ends ?_
 have hl1:fs.length<=1000:=by omega
 obtain⟨n,hn⟩:∃n,fs.length=n:=⟨_,rfl⟩
 rw[hn] at h1 hl1
 obtain⟨dp,hdp⟩:∃dp,(n:Int) - 1=dp:=⟨_,rfl⟩
 have hd0:dp=0↔n=1:=by omega
 have hd1:0<dp↔1<n:=by omega
 have hd4:4<=dp↔5<=n:=by omega
 refine zX (tbl:=zR5) qFe 0 2 (af:=a121) rfl ?_
 rw[a121,b121,qB]
 refine⟨by simp,?_⟩
 have hk:k=0∨k=1∨k=2∨k=3∨k=4∨k=5∨k=6∨k=7∨7<k:=by omega
 by_cases t0:t<0<;> by_cases t1:(hl:Int)<=t<;> by_cases n1:n=1<;> by_cases n5:5<=n<;> (first|(exfalso;omega)|skip)<;> cases hr:zAq v<;>
  rcases hk with rfl|rfl|rfl|rfl|rfl|rfl|rfl|rfl|k7<;>
  (have n2:1<n↔¬n=1:=by omega)<;>
  (try (have k0:¬k=0:=by omega))<;> (try (have k1:¬k=1:=by omega))<;> (try (have k2:¬k=2:=by omega))<;>
  (simp -implicitDefEqProofs [zR5,qC,d169,zE7,hn,hdp,hl1,hd0,hd1,hd4,n1,n2,n5,t0,t1,hv,hr, *]
   refine zA [] [0] ?_ ?_ ?_<;> simp[zI9,hn,n1,n2,n5,t0,t1,hr, *])
end YtnemoimbeefngaaGreat
end Go.Proofs
namespace Go.Proofs
namespace YtnemoimbeefngaaGreat
open Go.Abs
def zDq (h:List Int):Bool:=decide (1<=h.length) && decide (h.length<=12) && h.all zAq
def zOh:List (FuncId × qW GD):=[(98,zE7)]
theorem zS3:∀x∈zOh,qI Tryz.prog cfg x.1 x.2:=by simp[zOh,zJt]
theorem qQ6 (h:List Int) (tg:Nat) (hv:∀v∈h,0<=v/\v<18446744073709551616):zP Tryz.prog cfg 36 [.slice (some ⟨0,0,none⟩) h.length tg] (AH.of [some (.ro (us h))])
  fun r H'=> r=.ret (.bool (zDq h))/\H'=AH.of [some (.ro (us h))]:=by
 refine zP.ends ?_
 obtain⟨n,hn⟩:∃n,h.length=n:=⟨_,rfl⟩
 rw[hn]
 refine zX (tbl:=zOh) zS3 13 0 (af:=a36) rfl ?_
 rw[a36,b36,qB]
 refine⟨by simp,?_⟩
 by_cases h1:n<1
 ·have hb:zDq h=false:=by simp[zDq,hn];omega
  have h1':(n:Int)<1:=by omega
  simp -implicitDefEqProofs [h1',hb]
  refine zA [] [0] ?_ ?_ ?_<;> simp
 by_cases h2:12<n
 ·have hb:zDq h=false:=by simp[zDq,hn];omega
  have h1':¬(n:Int)<1:=by omega
  have h2':(12:Int)<n:=by omega
  simp -implicitDefEqProofs [h1',h2',hb]
  refine zA [] [0] ?_ ?_ ?_<;> simp
 have h1':¬(n:Int)<1:=by omega
 have h2':¬(12:Int)<n:=by omega
 simp -implicitDefEqProofs [h1',h2']
 refine zAp (xC zAh (xD zS3) _ _ noY jT) (fun m tm H=> ∃i:Nat,m+i=n/\(∀j v,j<i->h[j]?=some v->zAq v=true)/\tm 0=.slice (some ⟨0,0,none⟩) n tg/\tm 3=.int .i64 i/\H=AH.of [some (.ro (us h))]) (m:=n) ⟨0,by simp⟩ (by omega) ?_
 rintro m tm H ⟨i,hm,hall,t0,t3,rfl⟩
 by_cases hi:i<n
 ·obtain⟨x,hx⟩:=zCk (l:=h) (i:=i) (by omega)
  have hi':(i:Int)<n:=by omega
  have hwr:=zA8 hi (by omega)
  have ux:=zEb hx
  have hxv:=hv x (List.mem_of_getElem? hx)
  cases hr:zAq x with
  |true=>
   have hall2:∀j v,j<i+1->h[j]?=some v->zAq v=true:=fun j v hj hv=> by
    by_cases e:j=i
    ·subst e;rw[hx] at hv;cases hv;exact hr
    ·exact hall j v (by omega) hv
   simp -implicitDefEqProofs [zOh,zE7,t0,t3,hi,hi',hwr,ux,hxv,hr]
   exact⟨m - 1,by omega,i+1,by omega,hall2,by simp[t0]⟩
  |false=>
   have hb:zDq h=false:=by
    have:h.all zAq=false:=by
     rw[List.all_eq_false]
     exact⟨x,List.mem_of_getElem? hx,by simp[hr]⟩
    simp[zDq,this]
   simp -implicitDefEqProofs [zOh,zE7,t0,t3,hi,hi',hwr,ux,hxv,hr,hb]
   refine zA [] [0] ?_ ?_ ?_<;> simp
 ·have hi':¬(i:Int)<n:=by omega
  have hb:zDq h=true:=by
   have:h.all zAq=true:=by
    rw[List.all_eq_true]
    intro v hv
    obtain⟨j,hj⟩:=List.getElem?_of_mem hv
    have:=(List.getElem?_eq_some_iff.1 hj).1
    exact hall j v (by omega) hj
   simp[zDq,this,hn];omega
  simp -implicitDefEqProofs [t0,t3,hi',hb]
  refine zA [] [0] ?_ ?_ ?_<;> simp
def st36:qW GD:=fun args H=> match args with
 |[.slice (some ⟨k,0,none⟩) n _]=> match H.get k with
  |some (.ro cs)=> (zHd cs).map fun l=> (n=l.length/\∀v∈l,0<=v/\v<18446744073709551616,.ret (.bool (zDq l)),H)
  |_=> none
 |_=> none
theorem qMb:qI Tryz.prog cfg 36 st36:=by
 intro args H p r H' h hp
 unfold st36 at h
 split at h
 case h_2=> cases h
 split at h
 case h_2=> cases h
 simp only[Option.map_eq_some_iff] at h
 obtain⟨l,hl,h⟩:=h
 rename_i k n tg x cs hk
 cases h
 rw[zFj hl] at hk
 rw[hp.1]
 exact (qQ6 l tg hp.2).atK (zG6 fun i cs hi=> by rcases i with _|i<;> simp at hi⊢;exact hi) [k] (by simp) (by simp) (by simp[hk]) (by simp) (by simp) (by simp[xB hk])
end YtnemoimbeefngaaGreat
end Go.Proofs
namespace Go.Proofs
namespace YtnemoimbeefngaaGreat
open Go.Abs
def zOm:qW GD:=fun args H=> match args with
 |[.agg ⟨[.int .u8 k,.int .i64 t,.int .u64 v]⟩,.int .i64 hl,.pointer (some ⟨q,0,none⟩)]=> match H.get q with
  |some (.hi (.rlog fs))=> some ((1<=fs.length/\fs.length<=5)/\0<=k/\(0<=v/\v<18446744073709551616)/\0<=hl,.ret (.int .i64 (zI9 fs hl.toNat ⟨k,t,v⟩)),H)
  |_=> none
 |_=> none
theorem qGs:qI Tryz.prog cfg 121 zOm:=by
 intro args H p r H' h hp
 unfold zOm at h
 split at h
 case h_2=> cases h
 split at h
 case h_2=> cases h
 rename_i k t v hl q x fs hq
 cases h
 obtain⟨p1,p2,p3,p4⟩:=hp
 obtain⟨hl,rfl⟩:=Int.eq_ofNat_of_zero_le p4
 simp only[Int.toNat_natCast]
 exact (qNu fs hl k t v p1 p2 p3).atK (xE rfl) [q] (by simp) (by simp) (by simp[hq]) (by simp) (by simp) (by simp[xB hq])
def zJ4:List (FuncId × qW GD):=[(121,zOm)]
theorem zNk:∀x∈zJ4,qI Tryz.prog cfg x.1 x.2:=by simp[zJ4,qGs]
theorem qHi (s:NS) (hs:s.Ok) (th:Nat) (hth:th<4) (a:Att) (ha:s.ts th=some a) (hf:a.asked=false) (k t v:Int) (hk0:0<=k) (hv:0<=v/\v<18446744073709551616) (hc:zI9 a.fs s.hp.length ⟨k,t,v⟩=0):zP Tryz.prog cfg 76 [.pointer (some ⟨0,0,none⟩),.int .i64 th,.agg #[.int .u8 k,.int .i64 t,.int .u64 v]] (AH.of [some (.hi (.reng s))])
  fun r H'=> r=.ret (.int .i64 (0))/\H'=AH.of [some (.hi (.reng ({ s with ts:=zZ s.ts th (some { a with asked:=true,ra:=⟨k,t,v⟩,at_:=0,nx:=0 }) })))]:=by
 refine zP.ends ?_
 generalize hS:(({ s with ts:=zZ s.ts th (some { a with asked:=true,ra:=⟨k,t,v⟩,at_:=0,nx:=0 }) }):NS)=S'
 refine zP.openREng hth ?_
 have z1:¬(th:Int)<0:=by omega
 have z2:¬4<=(th:Int):=by omega
 have z3:(th:Int)<4:=by omega
 have z4:2+th+1<=8:=by omega
 have gt:∀a b q ts x y,(zR a b th q ts x y)[2+th]?=some q:=fun a b q ts x y=> xS a b hth q ts x y
 have gg:∀a b q ts x y (h:2+th<(zR a b th q ts x y).length),(zR a b th q ts x y)[2+th]'h=q:=fun a b q ts x y h=> xH a b hth q ts x y h
 have gs:∀a b q ts x y v,(zR a b th q ts x y).set (2+th) v=zR a b th v ts x y:=fun a b q ts x y v=> xG a b hth q ts x y v
 have hok:=hs.ts th a ha
 have hf1:1<=a.fs.length/\a.fs.length<=5:=by
  have:=hok.fs
  refine⟨?_,this.2.1⟩
  rcases h:a.fs with _|⟨x,y⟩
  ·exact absurd h this.1
  ·simp
 refine zX (tbl:=zJ4) zNk 0 2 (af:=a76) rfl ?_
 rw[a76,b76,qB]
 refine⟨by simp,?_⟩
 simp -implicitDefEqProofs [qL,forms116,a116,b116,z1,z2,z3,z4,gt,gg,gs,jX,jW,jV,jU,jN,jM,jL,jK,jJ,jI,jD,qD,qG,qA,zJ4,zOm,ha,qF,hf,hf1,hk0,hv,hc]
 subst hS
 obtain⟨q4,hq⟩:=thQ th
 rcases qH hth with rfl|rfl|rfl|rfl<;> (repeat' with_reducible apply And.intro)<;> (refine zA [.pack (GD.ratt { a with asked:=true,ra:=⟨k,t,v⟩,at_:=0,nx:=0 }) 5 [10,11],.pack (GD.reng ({ s with ts:=zZ s.ts q4 (some { a with asked:=true,ra:=⟨k,t,v⟩,at_:=0,nx:=0 }) })) 0 (1::2::3::4::v4 5 q4)] [0] ?_ ?_ ?_<;> simp[qV,hq,v4,zR,rps,qD,qG,qA,qR,o1,o2,o3,qF,zZ,ha,hf])
theorem qOf (s:NS) (hs:s.Ok) (th:Nat) (hth:th<4) (a:Att) (ha:s.ts th=some a) (hf:a.asked=false) (k t v:Int) (hk0:0<=k) (hv:0<=v/\v<18446744073709551616) (hc:¬zI9 a.fs s.hp.length ⟨k,t,v⟩=0):zP Tryz.prog cfg 76 [.pointer (some ⟨0,0,none⟩),.int .i64 th,.agg #[.int .u8 k,.int .i64 t,.int .u64 v]] (AH.of [some (.hi (.reng s))])
  fun r H'=> r=.ret (.int .i64 (zI9 a.fs s.hp.length ⟨k,t,v⟩))/\H'=AH.of [some (.hi (.reng (s)))]:=by
 refine zP.ends ?_
 refine zP.openREng hth ?_
 have z1:¬(th:Int)<0:=by omega
 have z2:¬4<=(th:Int):=by omega
 have z3:(th:Int)<4:=by omega
 have z4:2+th+1<=8:=by omega
 have gt:∀a b q ts x y,(zR a b th q ts x y)[2+th]?=some q:=fun a b q ts x y=> xS a b hth q ts x y
 have gg:∀a b q ts x y (h:2+th<(zR a b th q ts x y).length),(zR a b th q ts x y)[2+th]'h=q:=fun a b q ts x y h=> xH a b hth q ts x y h
 have gs:∀a b q ts x y v,(zR a b th q ts x y).set (2+th) v=zR a b th v ts x y:=fun a b q ts x y v=> xG a b hth q ts x y v
 have hok:=hs.ts th a ha
 have hf1:1<=a.fs.length/\a.fs.length<=5:=by
  have:=hok.fs
  refine⟨?_,this.2.1⟩
  rcases h:a.fs with _|⟨x,y⟩
  ·exact absurd h this.1
  ·simp
 refine zX (tbl:=zJ4) zNk 0 2 (af:=a76) rfl ?_
 rw[a76,b76,qB]
 refine⟨by simp,?_⟩
 simp -implicitDefEqProofs [qL,forms116,a116,b116,z1,z2,z3,z4,gt,gg,gs,jX,jW,jV,jU,jN,jM,jL,jK,jJ,jI,jD,qD,qG,qA,zJ4,zOm,ha,qF,hf,hf1,hk0,hv,hc]
 obtain⟨q4,hq⟩:=thQ th
 rcases qH hth with rfl|rfl|rfl|rfl<;> (repeat' with_reducible apply And.intro)<;> (refine zA [.pack (GD.ratt a) 5 [10,11],.pack (GD.reng (s)) 0 (1::2::3::4::v4 5 q4)] [0] ?_ ?_ ?_<;> simp[qV,hq,v4,zR,rps,qD,qG,qA,qR,o1,o2,o3,qF,zZ,ha,hf])
theorem zQy (s:NS) (th:Nat) (hth:th<4) (hb:s.ts th=none∨∃a,s.ts th=some a/\a.asked=true) (k t v:Int):zP Tryz.prog cfg 76 [.pointer (some ⟨0,0,none⟩),.int .i64 th,.agg #[.int .u8 k,.int .i64 t,.int .u64 v]] (AH.of [some (.hi (.reng s))])
  fun r H'=> r=.ret (.int .i64 (zCl s th ⟨k,t,v⟩))/\H'=AH.of [some (.hi (.reng s))]:=by
 refine zP.ends ?_
 refine zP.openREng hth ?_
 have z1:¬(th:Int)<0:=by omega
 have z2:¬4<=(th:Int):=by omega
 have z3:(th:Int)<4:=by omega
 have z4:2+th+1<=8:=by omega
 have gt:∀a b q ts x y,(zR a b th q ts x y)[2+th]?=some q:=fun a b q ts x y=> xS a b hth q ts x y
 have gg:∀a b q ts x y (h:2+th<(zR a b th q ts x y).length),(zR a b th q ts x y)[2+th]'h=q:=fun a b q ts x y h=> xH a b hth q ts x y h
 have gs:∀a b q ts x y v,(zR a b th q ts x y).set (2+th) v=zR a b th v ts x y:=fun a b q ts x y v=> xG a b hth q ts x y v
 refine zX (tbl:=zJ4) zNk 0 2 (af:=a76) rfl ?_
 rw[a76,b76,qB]
 refine⟨by simp,?_⟩
 obtain⟨q4,hq⟩:=thQ th
 rcases hb with ha|⟨a,ha,hf⟩
 ·have hr:zCl s th ⟨k,t,v⟩=8:=by simp[zCl,ha]
  simp -implicitDefEqProofs [qL,forms116,a116,b116,z1,z2,z3,z4,gt,gg,gs,jX,jW,jV,jU,jN,jM,jL,jK,jJ,jI,jD,qD,qG,qA,ha,hr]
  rcases qH hth with rfl|rfl|rfl|rfl<;> (refine zA [.pack (GD.reng s) 0 (1::2::3::4::v4 5 q4)] [0] ?_ ?_ ?_<;> simp[qV,hq,v4,zR,rps,qD,qG,qA,qR,o1,o2,o3,ha])
 ·have hr:zCl s th ⟨k,t,v⟩=7:=by simp[zCl,ha,hf]
  simp -implicitDefEqProofs [qL,forms116,a116,b116,z1,z2,z3,z4,gt,gg,gs,jX,jW,jV,jU,jN,jM,jL,jK,jJ,jI,jD,qD,qG,qA,ha,qF,hf,hr]
  rcases qH hth with rfl|rfl|rfl|rfl<;> (refine zA [.pack (GD.ratt a) 5 [10,11],.pack (GD.reng s) 0 (1::2::3::4::v4 5 q4)] [0] ?_ ?_ ?_<;> simp[qV,hq,v4,zR,rps,qD,qG,qA,qR,o1,o2,o3,qF,ha,hf])
theorem zYv (s:NS) (t:Int) (ht:t<0∨4<=t) (k tv v:Int):zP Tryz.prog cfg 76 [.pointer (some ⟨0,0,none⟩),.int .i64 t,.agg #[.int .u8 k,.int .i64 tv,.int .u64 v]] (AH.of [some (.hi (.reng s))])
  fun r H'=> r=.ret (.int .i64 2)/\H'=AH.of [some (.hi (.reng s))]:=by
 refine zP.ends ?_
 have ht':¬t<0->4<=t:=fun h=> by omega
 refine zX (tbl:=[]) (by simp) 0 3 (af:=a76) rfl ?_
 rw[a76,b76,qB]
 refine⟨by simp,?_⟩
 by_cases h1:t<0
 ·simp -implicitDefEqProofs [forms116,a116,b116,h1]
  refine zA [] [0] ?_ ?_ ?_<;> simp
 ·simp -implicitDefEqProofs [forms116,a116,b116,h1,ht' h1]
  refine zA [] [0] ?_ ?_ ?_<;> simp
def d76:zAl
 |.reng s,[.int .i64 t,.agg ⟨[.int .u8 k,.int .i64 tv,.int .u64 v]⟩]=> some (s.Ok/\0<=k/\0<=v/\v<18446744073709551616,.int .i64 (zL4 s t ⟨k,tv,v⟩),.reng (zEy s t ⟨k,tv,v⟩))
 |_,_=> none
theorem qLq:qI Tryz.prog cfg 76 (qC d76):=xJ fun d rest p v d' h hp=> by
 unfold d76 at h
 split at h
 case h_2=> cases h
 rename_i s t k tv v
 cases h
 refine⟨rfl,rfl,?_⟩
 cases ht:zBv t with
 |none=> simp only[zL4,zEy,ht];exact zYv _ _ (zDo ht) k tv v
 |some th=>
  obtain⟨h1,rfl⟩:=zA4 ht
  simp only[zL4,zEy,ht]
  cases ha:s.ts th with
  |none=>
   have e:zCl s th ⟨k,tv,v⟩=8:=by simp[zCl,ha]
   rw[if_neg (by rw[e];decide)]
   exact zQy s th h1 (.inl ha) k tv v
  |some a=>
   cases hf:a.asked with
   |true=>
    have e:zCl s th ⟨k,tv,v⟩=7:=by simp[zCl,ha,hf]
    rw[if_neg (by rw[e];decide)]
    exact zQy s th h1 (.inr ⟨a,ha,hf⟩) k tv v
   |false=>
    have e:zCl s th ⟨k,tv,v⟩=zI9 a.fs s.hp.length ⟨k,tv,v⟩:=by simp[zCl,ha,hf];rfl
    have e2:qU s th ⟨k,tv,v⟩={ s with ts:=zZ s.ts th (some { a with asked:=true,ra:=⟨k,tv,v⟩,at_:=0,nx:=0 }) }:=by simp[qU,ha]
    rw[e]
    by_cases hc:zI9 a.fs s.hp.length ⟨k,tv,v⟩=0
    ·rw[if_pos hc,hc,e2];exact qHi s hp.1 th h1 a ha hf k tv v hp.2.1 hp.2.2 hc
    ·rw[if_neg hc];exact qOf s hp.1 th h1 a ha hf k tv v hp.2.1 hp.2.2 hc
end YtnemoimbeefngaaGreat
end Go.Proofs
namespace Go.Proofs
namespace YtnemoimbeefngaaGreat
open Go.Abs
def zMg:List (FuncId × qW GD):=[(170,zH5)]
theorem zS0:∀x∈zMg,qI Tryz.prog cfg x.1 x.2:=by simp[zMg,zTf]
theorem qNf (e:TypeId) (tg:Nat) (l:List Ent) (h:List Int) (hl:l.length<=8) (h0:∀e∈l,0<=e.t) (hv:∀e∈l,0<=e.v/\e.v<18446744073709551616) (hh:∀v∈h,0<=v/\v<18446744073709551616):zP Tryz.prog cfg 168 [.pointer (some ⟨0,0,none⟩),.slice (some ⟨1,0,none⟩) h.length tg] (AH.of [some (.hi (.rset l)),some (.arr e (us h))])
  fun r H'=> r=.ret (.tuple #[.int .i64 ((brk l h).getD zHi).t,.bool (brk l h).isSome])/\H'=AH.of [some (.hi (.rset l)),some (.arr e (us h))]:=by
 refine zP.ends ?_
 refine zX (tbl:=zMg) zS0 (l.length+1) 0 (af:=a168) rfl ?_
 rw[a168,b168,qB]
 refine⟨by simp,?_⟩
 simp -implicitDefEqProofs
 refine zBm (xC zAh (xD zS0) _ _ noY jT) (fun m tm H=> ∃i:Nat,m+i=l.length/\(∀(j:Nat) (x:Ent),j<i->l[j]?=some x->zGz h x=false)/\tm 0=.pointer (some ⟨0,0,none⟩)/\tm 1=.slice (some ⟨1,0,none⟩) h.length tg/\tm 6=.int .i64 i/\
  H=AH.of [some (.hi (.rset l)),some (.arr e (us h))]) (m:=l.length) ?_ (by omega) ?_
 ·refine qS [] [0,1] [some (.hi (.rset l)),some (.arr e (us h))] l.length (by omega) ?_ ?_ ⟨0,?_⟩<;> simp
  done
 rintro m tm H ⟨i,hm,hno,t0,t1,t6,rfl⟩
 by_cases hi:i<l.length
 ·obtain⟨x,hx⟩:∃x,l[i]?=some x:=⟨l[i],List.getElem?_eq_getElem hi⟩
  have hi':(i:Int)<l.length:=by omega
  have hw:IntKind.i64.wrap ((i:Int)+1)=((i+1:Nat):Int):=by rw[qX (by omega) (by omega)];omega
  obtain⟨r1,r2⟩:=zIb hx
  have hx0:0<=x.t:=h0 x (List.mem_of_getElem? hx)
  have hxv:=hv x (List.mem_of_getElem? hx)
  by_cases hb:(h.length:Int)<=x.t
  ·have hbad:zGz h x=true:=by simp[zGz,hb]
   simp -implicitDefEqProofs [zMg,zBg,t0,t1,t6,hi,hi',r1,r2,hw,hb]
   refine zA [.pack (GD.rset l) 0 [2]] [0,1] ?_ ?_ ?_<;> simp[zBg,AObj.mine,zPb hx hno hbad]
  ·obtain⟨v,hv⟩:∃v,h[x.t.toNat]?=some v:=⟨h[x.t.toNat],List.getElem?_eq_getElem (by omega)⟩
   have hb2:x.t<h.length:=by omega
   have hvv:=hh v (List.mem_of_getElem? hv)
   have hbad:zGz h x= !zDl v x.v:=by simp[zGz,hb,hv]
   have uv:=zEb hv
   cases hs:zDl v x.v with
   |false=>
    rw[hs] at hbad
    simp -implicitDefEqProofs [zMg,zH5,zBg,t0,t1,t6,hi,hi',r1,r2,hw,hb,hb2,hx0,hxv,hvv,uv,hs]
    refine zA [.pack (GD.rset l) 0 [2]] [0,1] ?_ ?_ ?_<;> simp[zBg,AObj.mine,zPb hx hno hbad]
   |true=>
    rw[hs] at hbad
    simp -implicitDefEqProofs [zMg,zH5,zBg,t0,t1,t6,hi,hi',r1,r2,hw,hb,hb2,hx0,hxv,hvv,uv,hs]
    refine qS [.pack (GD.rset l) 0 [2]] [0,1] [some (.hi (.rset l)),some (.arr e (us h))] (m - 1) (by omega) ?_ ?_ ⟨i+1,by omega,fun j y hj hy=> ?_,?_⟩
    ·simp[zBg]
    ·simp
    ·by_cases hji:j=i
     ·subst hji;rw[hx] at hy;cases hy;exact hbad
     ·exact hno j y (by omega) hy
    ·simp[t0,t1]
 ·have hi':¬(i:Int)<l.length:=by omega
  have hn:brk l h=none:=zU5 fun j x hj=> hno j x (by have:=(List.getElem?_eq_some_iff.1 hj).1;omega) hj
  simp -implicitDefEqProofs [zBg,t0,t1,t6,hi']
  refine zA [.pack (GD.rset l) 0 [2]] [0,1] ?_ ?_ ?_<;> simp[zBg,AObj.mine,hn,zHi]
def zSa:qW GD:=fun args H=> match args with
 |[.pointer (some ⟨k,0,none⟩),.slice (some ⟨q,0,none⟩) n _]=> match H.get k with
  |some (.hi (.rset l))=> (zFg H q).map fun h=> (n=h.2.length/\l.length<=8/\(∀e∈l,0<=e.t)/\(∀e∈l,0<=e.v/\e.v<18446744073709551616)/\(∀v∈h.2,0<=v/\v<18446744073709551616),.ret (.tuple #[.int .i64 ((brk l h.2).getD zHi).t,.bool (brk l h.2).isSome]),H)
  |_=> none
 |_=> none
theorem qGg:qI Tryz.prog cfg 168 zSa:=by
 intro args H p r H' h hp
 unfold zSa at h
 split at h
 case h_2=> cases h
 split at h
 case h_2=> cases h
 simp only[Option.map_eq_some_iff] at h
 obtain⟨w,hw,h⟩:=h
 rename_i k q n tg x l hk
 cases h
 obtain⟨rfl,h1,h2,h3,h4⟩:=hp
 have hq:=zEs hw
 have hkq:k≠q:=fun e=> by rw[e,hq] at hk;cases hk
 exact (qNf w.1 tg l w.2 h1 h2 h3 h4).atK (xE rfl) [k,q] (by simp[hkq]) (by simp) (by simp[hk,hq]) (by simp) (by simp) (by simp[xB hk,xB hq])
def zRz:List (FuncId × qW GD):=[(168,zSa)]
theorem qE7:∀x∈zRz,qI Tryz.prog cfg x.1 x.2:=by simp[zRz,qGg]
theorem qNz (e:TypeId) (tg:Nat) (l:List Ent) (h:List Int) (hl:l.length<=8) (h0:∀e∈l,0<=e.t) (hv:∀e∈l,0<=e.v/\e.v<18446744073709551616) (hh:∀v∈h,0<=v/\v<18446744073709551616):zP Tryz.prog cfg 113 [.pointer (some ⟨0,0,none⟩),.slice (some ⟨1,0,none⟩) h.length tg] (AH.of [some (.hi (.rset l)),some (.arr e (us h))])
  fun r H'=> r=.ret (.bool (brk l h).isNone)/\H'=AH.of [some (.hi (.rset l)),some (.arr e (us h))]:=by
 refine zP.ends ?_
 refine zX (tbl:=zRz) qE7 0 0 (af:=a113) rfl ?_
 rw[a113,b113,qB]
 refine⟨by simp,?_⟩
 simp -implicitDefEqProofs [zRz,zSa,zFg,zGj,hl]
 refine⟨⟨h0,hv,hh⟩,zA [] [0,1] ?_ ?_ ?_⟩<;> simp
def zSe:qW GD:=fun args H=> match args with
 |[.pointer (some ⟨k,0,none⟩),.slice (some ⟨q,0,none⟩) n _]=> match H.get k with
  |some (.hi (.rset l))=> (zFg H q).map fun h=> (n=h.2.length/\l.length<=8/\(∀e∈l,0<=e.t)/\(∀e∈l,0<=e.v/\e.v<18446744073709551616)/\(∀v∈h.2,0<=v/\v<18446744073709551616),.ret (.bool (brk l h.2).isNone),H)
  |_=> none
 |_=> none
theorem qGw:qI Tryz.prog cfg 113 zSe:=by
 intro args H p r H' h hp
 unfold zSe at h
 split at h
 case h_2=> cases h
 split at h
 case h_2=> cases h
 simp only[Option.map_eq_some_iff] at h
 obtain⟨w,hw,h⟩:=h
 rename_i k q n tg x l hk
 cases h
 obtain⟨rfl,h1,h2,h3,h4⟩:=hp
 have hq:=zEs hw
 have hkq:k≠q:=fun e=> by rw[e,hq] at hk;cases hk
 exact (qNz w.1 tg l w.2 h1 h2 h3 h4).atK (xE rfl) [k,q] (by simp[hkq]) (by simp) (by simp[hk,hq]) (by simp) (by simp) (by simp[xB hk,xB hq])
end YtnemoimbeefngaaGreat
end Go.Proofs
namespace Go.Proofs
namespace YtnemoimbeefngaaGreat
open Go.Abs
def zDn (s:NS) (t:Int):List Ent:=match (zBv t).bind s.ts with
 |some a=> a.es
 |none=> []
def zDh (s:NS) (t:Int):List Pr:=match (zBv t).bind s.ts with
 |some a=> zAk a.fs
 |none=> []
def zCf (s:NS) (t:Int):Value:=match (zBv t).bind s.ts with
 |some a=> .tuple #[.agg #[.int .u8 a.ask.k,.int .i64 a.ask.t,.int .u64 a.ask.v],.bool a.asked]
 |none=> .tuple #[.agg #[.int .u8 0,.int .i64 0,.int .u64 0],.bool false]
def zDe (s:NS) (t:Int):Bool:=match (zBv t).bind s.ts with
 |some a=> s.o.isNone && (brk a.es s.hp).isNone
 |none=> false
theorem zHq {t:Int} (h:zBv t=none):t<0∨(¬t<0/\4<=t):=by
 have:=zDo h
 omega
def zFo:List (FuncId × qW GD):=[]
theorem zC2:∀x∈zFo,qI Tryz.prog cfg x.1 x.2:=by simp[zFo]
def zMk:List (FuncId × qW GD):=[(110,zH7)]
theorem zS5:∀x∈zMk,qI Tryz.prog cfg x.1 x.2:=by simp[zMk,zTm]
def zMj:List (FuncId × qW GD):=[(111,zFp)]
theorem zS4:∀x∈zMj,qI Tryz.prog cfg x.1 x.2:=by simp[zMj,zTl]
def zFn:List (FuncId × qW GD):=[(112,qC zKv),(114,qC d114),(113,zSe)]
theorem zIt:∀x∈zFn,qI Tryz.prog cfg x.1 x.2:=by simp[zFn,zTk,qGv,qGw]
theorem qQz (s:NS) (t:Int) (hs:s.Ok):zP Tryz.prog cfg 51 [.pointer (some ⟨0,0,none⟩),.int .i64 t] (AH.of [some (.hi (.reng s))])
  fun r H'=> r=.ret (zEx s t)/\H'=AH.of [some (.hi (.reng s))]:=by
 refine zP.ends ?_
 cases ht:zBv t with
 |none=>
  refine zX (tbl:=zFo) zC2 0 3 (af:=a51) rfl ?_
  rw[a51,b51,qB]
  refine⟨by simp,?_⟩
  rcases zHq ht with h1|⟨h1,h2⟩
  ·simp -implicitDefEqProofs [forms109,a109,b109,forms116,a116,b116,h1]
   refine zA [] [0] ?_ ?_ ?_<;> simp[zEx,ht]
  ·simp -implicitDefEqProofs [forms109,a109,b109,forms116,a116,b116,h1,h2]
   refine zA [] [0] ?_ ?_ ?_<;> simp[zEx,ht]
 |some th=>
  obtain⟨hth,rfl⟩:=zA4 ht
  obtain⟨q4,hq⟩:=thQ th
  refine zP.openREng hth ?_
  have z1:¬(th:Int)<0:=by omega
  have z2:¬4<=(th:Int):=by omega
  have z3:(th:Int)<4:=by omega
  have z4:2+th+1<=8:=by omega
  have gt:∀a b q ts x y,(zR a b th q ts x y)[2+th]?=some q:=fun a b q ts x y=> xS a b hth q ts x y
  have gg:∀a b q ts x y (h:2+th<(zR a b th q ts x y).length),(zR a b th q ts x y)[2+th]'h=q:=fun a b q ts x y h=> xH a b hth q ts x y h
  have gs:∀a b q ts x y v,(zR a b th q ts x y).set (2+th) v=zR a b th v ts x y:=fun a b q ts x y v=> xG a b hth q ts x y v
  refine zX (tbl:=zFo) zC2 0 3 (af:=a51) rfl ?_
  rw[a51,b51,qB]
  refine⟨by simp,?_⟩
  cases ha:s.ts th with
  |none=>
   simp -implicitDefEqProofs [qL,forms116,a116,b116,z1,z2,z3,z4,gt,gg,gs,jX,jW,jV,jU,jN,jM,jL,jK,jJ,jI,jD,qD,qG,qA,forms109,a109,b109,zFo,qC,ha]
   have hR:zEx s th=.tuple #[.int .i64 0,.bool false]:=by simp[zEx,ht,ha]
   rw[hR]
   rcases qH hth with rfl|rfl|rfl|rfl<;> (refine zA [.pack (GD.reng s) 0 (1::2::3::4::v4 5 q4)] [0] ?_ ?_ ?_<;> simp[qV,hq,v4,zR,rps,qD,qG,qA,qR,o1,o2,o3,ha])
  |some a=>
   have hok:=hs.ts th a ha
   have hR:zEx s th=.tuple #[.int .i64 a.n,.bool true]:=by simp[zEx,ht,ha]
   simp -implicitDefEqProofs [qL,forms116,a116,b116,z1,z2,z3,z4,gt,gg,gs,jX,jW,jV,jU,jN,jM,jL,jK,jJ,jI,jD,qD,qG,qA,forms109,a109,b109,ha,qF,]
   rw[hR]
   rcases qH hth with rfl|rfl|rfl|rfl<;> (refine zA [.pack (GD.ratt a) 5 [9,10],.pack (GD.reng s) 0 (1::2::3::4::v4 5 q4)] [0] ?_ ?_ ?_<;> simp[qV,hq,v4,zR,rps,qD,qG,qA,qR,o1,o2,o3,qF,ha])
def d51:zAl
 |.reng s,[.int .i64 t]=> some (s.Ok,zEx s t,.reng s)
 |_,_=> none
theorem qL6:qI Tryz.prog cfg 51 (qC d51):=xJ fun d rest p v d' h hp=> by
 unfold d51 at h
 split at h
 ·cases h;exact⟨rfl,by (unfold zEx;split<;> rfl),qQz _ _ hp⟩
 ·cases h
theorem qQy (s:NS) (t:Int) (hs:s.Ok):zP Tryz.prog cfg 52 [.pointer (some ⟨0,0,none⟩),.int .i64 t] (AH.of [some (.hi (.reng s))])
  fun r H'=> r=.ret (zCf s t)/\H'=AH.of [some (.hi (.reng s))]:=by
 refine zP.ends ?_
 cases ht:zBv t with
 |none=>
  refine zX (tbl:=zFo) zC2 0 3 (af:=a52) rfl ?_
  rw[a52,b52,qB]
  refine⟨by simp,?_⟩
  rcases zHq ht with h1|⟨h1,h2⟩
  ·simp -implicitDefEqProofs [forms109,a109,b109,forms116,a116,b116,h1]
   refine zA [] [0] ?_ ?_ ?_<;> simp[zCf,ht]
  ·simp -implicitDefEqProofs [forms109,a109,b109,forms116,a116,b116,h1,h2]
   refine zA [] [0] ?_ ?_ ?_<;> simp[zCf,ht]
 |some th=>
  obtain⟨hth,rfl⟩:=zA4 ht
  obtain⟨q4,hq⟩:=thQ th
  refine zP.openREng hth ?_
  have z1:¬(th:Int)<0:=by omega
  have z2:¬4<=(th:Int):=by omega
  have z3:(th:Int)<4:=by omega
  have z4:2+th+1<=8:=by omega
  have gt:∀a b q ts x y,(zR a b th q ts x y)[2+th]?=some q:=fun a b q ts x y=> xS a b hth q ts x y
  have gg:∀a b q ts x y (h:2+th<(zR a b th q ts x y).length),(zR a b th q ts x y)[2+th]'h=q:=fun a b q ts x y h=> xH a b hth q ts x y h
  have gs:∀a b q ts x y v,(zR a b th q ts x y).set (2+th) v=zR a b th v ts x y:=fun a b q ts x y v=> xG a b hth q ts x y v
  refine zX (tbl:=zFo) zC2 0 3 (af:=a52) rfl ?_
  rw[a52,b52,qB]
  refine⟨by simp,?_⟩
  cases ha:s.ts th with
  |none=>
   simp -implicitDefEqProofs [qL,forms116,a116,b116,z1,z2,z3,z4,gt,gg,gs,jX,jW,jV,jU,jN,jM,jL,jK,jJ,jI,jD,qD,qG,qA,forms109,a109,b109,zFo,qC,ha]
   have hR:zCf s th=.tuple #[.agg #[.int .u8 0,.int .i64 0,.int .u64 0],.bool false]:=by simp[zCf,ht,ha]
   rw[hR]
   rcases qH hth with rfl|rfl|rfl|rfl<;> (refine zA [.pack (GD.reng s) 0 (1::2::3::4::v4 5 q4)] [0] ?_ ?_ ?_<;> simp[qV,hq,v4,zR,rps,qD,qG,qA,qR,o1,o2,o3,ha])
  |some a=>
   have hok:=hs.ts th a ha
   have hR:zCf s th=.tuple #[.agg #[.int .u8 a.ask.k,.int .i64 a.ask.t,.int .u64 a.ask.v],.bool a.asked]:=by simp[zCf,ht,ha]
   rw[hR]
   cases hk:a.asked with
   |true=>
    simp -implicitDefEqProofs [qL,forms116,a116,b116,z1,z2,z3,z4,gt,gg,gs,jX,jW,jV,jU,jN,jM,jL,jK,jJ,jI,jD,qD,qG,qA,forms109,a109,b109,ha,qF,hk]
    rcases qH hth with rfl|rfl|rfl|rfl<;> (refine zA [.pack (GD.ratt a) 5 [10,11],.pack (GD.reng s) 0 (1::2::3::4::v4 5 q4)] [0] ?_ ?_ ?_<;> simp[qV,hq,v4,zR,rps,qD,qG,qA,qR,o1,o2,o3,qF,Att.ask,hk,ha])
   |false=>
    simp -implicitDefEqProofs [qL,forms116,a116,b116,z1,z2,z3,z4,gt,gg,gs,jX,jW,jV,jU,jN,jM,jL,jK,jJ,jI,jD,qD,qG,qA,forms109,a109,b109,ha,qF,hk]
    rcases qH hth with rfl|rfl|rfl|rfl<;> (refine zA [.pack (GD.ratt a) 5 [10,11],.pack (GD.reng s) 0 (1::2::3::4::v4 5 q4)] [0] ?_ ?_ ?_<;> simp[qV,hq,v4,zR,rps,qD,qG,qA,qR,o1,o2,o3,qF,Att.ask,hk,ha])
def d52:zAl
 |.reng s,[.int .i64 t]=> some (s.Ok,zCf s t,.reng s)
 |_,_=> none
theorem qL5:qI Tryz.prog cfg 52 (qC d52):=xJ fun d rest p v d' h hp=> by
 unfold d52 at h
 split at h
 ·cases h;exact⟨rfl,by (unfold zCf;split<;> rfl),qQy _ _ hp⟩
 ·cases h
theorem qQw (s:NS) (t:Int) (hs:s.Ok):zP Tryz.prog cfg 54 [.pointer (some ⟨0,0,none⟩),.int .i64 t] (AH.of [some (.hi (.reng s))])
  fun r H'=> r=.ret (.slice (some ⟨1,0,none⟩) (zDn s t).length 1)/\H'=AH.of [some (.hi (.reng s)),some (.arr 155 (zAb (zDn s t)))]:=by
 refine zP.ends ?_
 cases ht:zBv t with
 |none=>
  refine zX (tbl:=zMk) zS5 0 3 (af:=a54) rfl ?_
  rw[a54,b54,qB]
  refine⟨by simp,?_⟩
  rcases zHq ht with h1|⟨h1,h2⟩
  ·simp -implicitDefEqProofs [forms109,a109,b109,forms116,a116,b116,h1]
   refine zBx (r':=.ret (.slice (some ⟨1,0,none⟩) 0 1)) (zBw (by simp)) (zA [.nil 155] [0,1] ?_ ?_ ?_)<;> simp[zDn,show zAb []=[] from rfl,ht]
  ·simp -implicitDefEqProofs [forms109,a109,b109,forms116,a116,b116,h1,h2]
   refine zBx (r':=.ret (.slice (some ⟨1,0,none⟩) 0 1)) (zBw (by simp)) (zA [.nil 155] [0,1] ?_ ?_ ?_)<;> simp[zDn,show zAb []=[] from rfl,ht]
 |some th=>
  obtain⟨hth,rfl⟩:=zA4 ht
  obtain⟨q4,hq⟩:=thQ th
  refine zP.openREng hth ?_
  have z1:¬(th:Int)<0:=by omega
  have z2:¬4<=(th:Int):=by omega
  have z3:(th:Int)<4:=by omega
  have z4:2+th+1<=8:=by omega
  have gt:∀a b q ts x y,(zR a b th q ts x y)[2+th]?=some q:=fun a b q ts x y=> xS a b hth q ts x y
  have gg:∀a b q ts x y (h:2+th<(zR a b th q ts x y).length),(zR a b th q ts x y)[2+th]'h=q:=fun a b q ts x y h=> xH a b hth q ts x y h
  have gs:∀a b q ts x y v,(zR a b th q ts x y).set (2+th) v=zR a b th v ts x y:=fun a b q ts x y v=> xG a b hth q ts x y v
  refine zX (tbl:=zMk) zS5 0 3 (af:=a54) rfl ?_
  rw[a54,b54,qB]
  refine⟨by simp,?_⟩
  cases ha:s.ts th with
  |none=>
   simp -implicitDefEqProofs [qL,forms116,a116,b116,z1,z2,z3,z4,gt,gg,gs,jX,jW,jV,jU,jN,jM,jL,jK,jJ,jI,jD,qD,qG,qA,forms109,a109,b109,zMk,qC,ha]
   have hR:zDn s th=[]:=by simp[zDn,show zAb []=[] from rfl,ht,ha]
   rw[hR]
   rcases qH hth with rfl|rfl|rfl|rfl<;> (refine zBx (r':=.ret (.slice (some ⟨9,0,none⟩) 0 1)) (zBw (by simp)) (zA [.pack (GD.reng s) 0 (1::2::3::4::v4 5 q4),.nil 155] [0,9] ?_ ?_ ?_)<;> simp[qV,hq,v4,zR,rps,qD,qG,qA,qR,o1,o2,o3,ha,zDn,show zAb []=[] from rfl])
  |some a=>
   have hok:=hs.ts th a ha
   have hR:zDn s th=a.es:=by simp[zDn,ht,ha]
   have hg8:=hok.es.len
   simp -implicitDefEqProofs [qL,forms116,a116,b116,z1,z2,z3,z4,gt,gg,gs,jX,jW,jV,jU,jN,jM,jL,jK,jJ,jI,jD,qD,qG,qA,forms109,a109,b109,ha,qF,zMk,zH7,hg8]
   rw[hR]
   rcases qH hth with rfl|rfl|rfl|rfl<;> (refine zA [.pack (GD.ratt a) 5 [9,10],.pack (GD.reng s) 0 (1::2::3::4::v4 5 q4)] [0,11] ?_ ?_ ?_<;> simp[qV,hq,v4,zR,rps,qD,qG,qA,qR,o1,o2,o3,qF,ha])
def st54:qW GD:=fun args H=> match args with
 |[.pointer (some ⟨k,0,none⟩),.int .i64 t]=> match H.get k with
  |some (.hi (.reng s))=> some (s.Ok,.ret (.slice (some ⟨H.next,0,none⟩) (zDn s t).length 1),H.add (.arr 155 (zAb (zDn s t))))
  |_=> none
 |_=> none
theorem qL3:qI Tryz.prog cfg 54 st54:=by
 intro args H p r H' h hp
 unfold st54 at h
 split at h
 case h_2=> cases h
 split at h
 case h_2=> cases h
 rename_i k t x s hk
 cases h
 exact (qQw s t hp).atK (xE rfl) [k] (by simp) (by simp) (by simp[hk]) (by simp) (by simp) (by simp[xB hk])
theorem qQu (s:NS) (t:Int) (hs:s.Ok):zP Tryz.prog cfg 56 [.pointer (some ⟨0,0,none⟩),.int .i64 t] (AH.of [some (.hi (.reng s))])
  fun r H'=> r=.ret (.slice (some ⟨1,0,none⟩) (zDh s t).length 1)/\H'=AH.of [some (.hi (.reng s)),some (.arr 157 (prs (zDh s t)))]:=by
 refine zP.ends ?_
 cases ht:zBv t with
 |none=>
  refine zX (tbl:=zMj) zS4 0 3 (af:=a56) rfl ?_
  rw[a56,b56,qB]
  refine⟨by simp,?_⟩
  rcases zHq ht with h1|⟨h1,h2⟩
  ·simp -implicitDefEqProofs [forms109,a109,b109,forms116,a116,b116,h1]
   refine zBx (r':=.ret (.slice (some ⟨1,0,none⟩) 0 1)) (zBw (by simp)) (zA [.nil 157] [0,1] ?_ ?_ ?_)<;> simp[zDh,show prs []=[] from rfl,ht]
  ·simp -implicitDefEqProofs [forms109,a109,b109,forms116,a116,b116,h1,h2]
   refine zBx (r':=.ret (.slice (some ⟨1,0,none⟩) 0 1)) (zBw (by simp)) (zA [.nil 157] [0,1] ?_ ?_ ?_)<;> simp[zDh,show prs []=[] from rfl,ht]
 |some th=>
  obtain⟨hth,rfl⟩:=zA4 ht
  obtain⟨q4,hq⟩:=thQ th
  refine zP.openREng hth ?_
  have z1:¬(th:Int)<0:=by omega
  have z2:¬4<=(th:Int):=by omega
  have z3:(th:Int)<4:=by omega
  have z4:2+th+1<=8:=by omega
  have gt:∀a b q ts x y,(zR a b th q ts x y)[2+th]?=some q:=fun a b q ts x y=> xS a b hth q ts x y
  have gg:∀a b q ts x y (h:2+th<(zR a b th q ts x y).length),(zR a b th q ts x y)[2+th]'h=q:=fun a b q ts x y h=> xH a b hth q ts x y h
  have gs:∀a b q ts x y v,(zR a b th q ts x y).set (2+th) v=zR a b th v ts x y:=fun a b q ts x y v=> xG a b hth q ts x y v
  refine zX (tbl:=zMj) zS4 0 3 (af:=a56) rfl ?_
  rw[a56,b56,qB]
  refine⟨by simp,?_⟩
  cases ha:s.ts th with
  |none=>
   simp -implicitDefEqProofs [qL,forms116,a116,b116,z1,z2,z3,z4,gt,gg,gs,jX,jW,jV,jU,jN,jM,jL,jK,jJ,jI,jD,qD,qG,qA,forms109,a109,b109,zMj,qC,ha]
   have hR:zDh s th=[]:=by simp[zDh,show prs []=[] from rfl,ht,ha]
   rw[hR]
   rcases qH hth with rfl|rfl|rfl|rfl<;> (refine zBx (r':=.ret (.slice (some ⟨9,0,none⟩) 0 1)) (zBw (by simp)) (zA [.pack (GD.reng s) 0 (1::2::3::4::v4 5 q4),.nil 157] [0,9] ?_ ?_ ?_)<;> simp[qV,hq,v4,zR,rps,qD,qG,qA,qR,o1,o2,o3,ha,zDh,show prs []=[] from rfl])
  |some a=>
   have hok:=hs.ts th a ha
   have hR:zDh s th=zAk a.fs:=by simp[zDh,ht,ha]
   have hgl:a.fs.length<=100:=by have:=hok.fs.2.1;omega
   simp -implicitDefEqProofs [qL,forms116,a116,b116,z1,z2,z3,z4,gt,gg,gs,jX,jW,jV,jU,jN,jM,jL,jK,jJ,jI,jD,qD,qG,qA,forms109,a109,b109,ha,qF,zMj,zFp,hgl]
   rw[hR]
   rcases qH hth with rfl|rfl|rfl|rfl<;> (refine zA [.pack (GD.ratt a) 5 [9,10],.pack (GD.reng s) 0 (1::2::3::4::v4 5 q4)] [0,11] ?_ ?_ ?_<;> simp[qV,hq,v4,zR,rps,qD,qG,qA,qR,o1,o2,o3,qF,ha])
def st56:qW GD:=fun args H=> match args with
 |[.pointer (some ⟨k,0,none⟩),.int .i64 t]=> match H.get k with
  |some (.hi (.reng s))=> some (s.Ok,.ret (.slice (some ⟨H.next,0,none⟩) (zDh s t).length 1),H.add (.arr 157 (prs (zDh s t))))
  |_=> none
 |_=> none
theorem qL1:qI Tryz.prog cfg 56 st56:=by
 intro args H p r H' h hp
 unfold st56 at h
 split at h
 case h_2=> cases h
 split at h
 case h_2=> cases h
 rename_i k t x s hk
 cases h
 exact (qQu s t hp).atK (xE rfl) [k] (by simp) (by simp) (by simp[hk]) (by simp) (by simp) (by simp[xB hk])
def zSg (a:Att):List Value:=[.int .i64 a.n,.int .u64 a.snap,.pointer (some ⟨9,0,none⟩),.pointer (some ⟨10,0,none⟩),.bool a.asked,.int .u8 a.ra.k,.int .i64 a.ra.t,.int .u64 a.ra.v,.int .i64 (if a.at_<4 then a.at_ else a.at_+6),.int .i64 a.back,.int .i64 a.nx,.int .u64 a.seen,.int .u64 a.val,.bool a.dec]
def zOs (s:NS) (th:Nat) (a:Att):List (Option (AObj GD)):=
 [some (.arr 118 (zR (.slice (some ⟨1,0,none⟩) s.hp.length 1) (.pointer (some ⟨2,0,none⟩)) th (.pointer (some ⟨5,0,none⟩)) s.ts (.slice (some ⟨3,0,none⟩) s.ev.length 1) (.slice (some ⟨4,0,none⟩) s.ky.length 1))),
  some (.arr 49 (us s.hp)),some (.hi (.rlk s.o s.c)),some (.arr 84 (evs s.ev)),some (.arr 159 (zDz s.ky s.wy)),some (.arr 123 (zSg a)),some (zBi (s.ts (o1 th))),some (zBi (s.ts (o2 th))),some (zBi (s.ts (o3 th))),some (.hi (.rset a.es)),some (.hi (.rlog a.fs))]
theorem zP.openRAtt {f:FuncId} {args:List Value} {K:AEnd->AH GD->Prop} {s:NS} {th:Nat} {a:Att} (ha:s.ts th=some a)
  (h:zP Tryz.prog cfg f args (AH.of (zOs s th a)) K):zP Tryz.prog cfg f args (AH.of (qL s th)) K:=by
 have e:zFt frag (AH.of (qL s th)) 5=some (AH.of (zOs s th a)):=by
  simp[qL,zOs,zSg,ha,qD,qA,qF]
 exact zP.seesG (zDb e) h
theorem qQs (s:NS) (t:Int) (hs:s.Ok) (hF:FrOk s):zP Tryz.prog cfg 58 [.pointer (some ⟨0,0,none⟩),.int .i64 t] (AH.of [some (.hi (.reng s))])
  fun r H'=> r=.ret (.bool (zDe s t))/\H'=AH.of [some (.hi (.reng s))]:=by
 refine zP.ends ?_
 cases ht:zBv t with
 |none=>
  refine zX (tbl:=zFn) zIt 0 3 (af:=a58) rfl ?_
  rw[a58,b58,qB]
  refine⟨by simp,?_⟩
  rcases zHq ht with h1|⟨h1,h2⟩
  ·simp -implicitDefEqProofs [forms109,a109,b109,forms116,a116,b116,h1]
   refine zA [] [0] ?_ ?_ ?_<;> simp[zDe,ht]
  ·simp -implicitDefEqProofs [forms109,a109,b109,forms116,a116,b116,h1,h2]
   refine zA [] [0] ?_ ?_ ?_<;> simp[zDe,ht]
 |some th=>
  obtain⟨hth,rfl⟩:=zA4 ht
  obtain⟨q4,hq⟩:=thQ th
  refine zP.openREng hth ?_
  have z1:¬(th:Int)<0:=by omega
  have z2:¬4<=(th:Int):=by omega
  have z3:(th:Int)<4:=by omega
  have z4:2+th+1<=8:=by omega
  have gt:∀a b q ts x y,(zR a b th q ts x y)[2+th]?=some q:=fun a b q ts x y=> xS a b hth q ts x y
  have gg:∀a b q ts x y (h:2+th<(zR a b th q ts x y).length),(zR a b th q ts x y)[2+th]'h=q:=fun a b q ts x y h=> xH a b hth q ts x y h
  have gs:∀a b q ts x y v,(zR a b th q ts x y).set (2+th) v=zR a b th v ts x y:=fun a b q ts x y v=> xG a b hth q ts x y v
  cases ha:s.ts th with
  |none=>
   refine zX (tbl:=zFn) zIt 0 3 (af:=a58) rfl ?_
   rw[a58,b58,qB]
   refine⟨by simp,?_⟩
   simp -implicitDefEqProofs [qL,forms116,a116,b116,z1,z2,z3,z4,gt,gg,gs,jX,jW,jV,jU,jN,jM,jL,jK,jJ,jI,jD,qD,qG,qA,forms109,a109,b109,zFn,qC,ha]
   have hR:zDe s th=false:=by simp[zDe,ht,ha]
   rw[hR]
   rcases qH hth with rfl|rfl|rfl|rfl<;> (refine zA [.pack (GD.reng s) 0 (1::2::3::4::v4 5 q4)] [0] ?_ ?_ ?_<;> simp[qV,hq,v4,zR,rps,qD,qG,qA,qR,o1,o2,o3,ha])
  |some a=>
   have hR:zDe s th=(s.o.isNone && (brk a.es s.hp).isNone):=by simp[zDe,ht,ha]
   rw[hR]
   have hok:=hs.ts th a ha
   have hg8:=hok.es.len
   have hr0:∀e∈a.es,0<=e.t:=fun e he=> (hok.es.range e he).1
   have hrv:=hF.ev th a ha
   have hhv:=hs.hv
   refine zP.openRAtt ha ?_
   refine zX (tbl:=zFn) zIt 0 3 (af:=a58) rfl ?_
   rw[a58,b58,qB]
   refine⟨by simp,?_⟩
   cases ho:s.o with
   |some x=>
    simp -implicitDefEqProofs [zOs,zSg,forms116,a116,b116,z1,z2,z3,z4,gt,gg,gs,jX,jW,jV,jU,jN,jM,jL,jK,jJ,jI,jD,qD,qG,qA,forms109,a109,b109,zFn,qC,zKv,zEg,ho]
    rcases qH hth with rfl|rfl|rfl|rfl<;> (refine zA [.pack (GD.ratt a) 5 [9,10],.pack (GD.reng s) 0 (1::2::3::4::v4 5 q4)] [0] ?_ ?_ ?_<;> simp[qV,hq,v4,zR,rps,qD,qG,qA,qR,o1,o2,o3,qF,ha,ho])
   |none=>
    simp -implicitDefEqProofs [zOs,zSg,forms116,a116,b116,z1,z2,z3,z4,gt,gg,gs,jX,jW,jV,jU,jN,jM,jL,jK,jJ,jI,jD,qD,qG,qA,forms109,a109,b109,zFn,qC,zKv,zEg,ho,zSe,zFg,zGj,hg8]
    refine⟨⟨hr0,hrv,hhv⟩,?_⟩
    rcases qH hth with rfl|rfl|rfl|rfl<;> (refine zA [.pack (GD.ratt a) 5 [9,10],.pack (GD.reng s) 0 (1::2::3::4::v4 5 q4)] [0] ?_ ?_ ?_<;> simp[qV,hq,v4,zR,rps,qD,qG,qA,qR,o1,o2,o3,qF,ha,ho])
def d58:zAl
 |.reng s,[.int .i64 t]=> some (s.Ok/\FrOk s,.bool (zDe s t),.reng s)
 |_,_=> none
theorem qLz:qI Tryz.prog cfg 58 (qC d58):=xJ fun d rest p v d' h hp=> by
 unfold d58 at h
 split at h
 ·cases h;exact⟨rfl,by rfl,qQs _ _ hp.1 hp.2⟩
 ·cases h
theorem qQt (s:NS) (t:Int):zP Tryz.prog cfg 57 [.pointer (some ⟨0,0,none⟩),.int .i64 t] (AH.of [some (.hi (.reng s))])
  fun r H'=> r=.ret (.bool (decide (s.o=some t)))/\H'=AH.of [some (.hi (.reng s))]:=by
 refine zP.ends ?_
 have hth:0<4:=by omega
 refine zP.openREng (th:=0) hth ?_
 refine zX (tbl:=zFn) zIt 0 3 (af:=a57) rfl ?_
 rw[a57,b57,qB]
 refine⟨by simp,?_⟩
 cases ho:s.o with
 |none=>
  simp -implicitDefEqProofs [qL,zR,rps,o1,o2,o3,zFn,qC,zKv,ho,zEg]
  refine zA [.pack (GD.reng s) 0 [1,2,3,4,5,6,7,8]] [0] ?_ ?_ ?_<;> simp[qV,zR,rps,o1,o2,o3,ho]
 |some x=>
  simp -implicitDefEqProofs [qL,zR,rps,o1,o2,o3,zFn,qC,zKv,ho,zEg]
  refine zA [.pack (GD.reng s) 0 [1,2,3,4,5,6,7,8]] [0] ?_ ?_ ?_<;> simp[qV,zR,rps,o1,o2,o3,ho]
def d57:zAl
 |.reng s,[.int .i64 t]=> some (True,.bool (decide (s.o=some t)),.reng s)
 |_,_=> none
theorem qL0:qI Tryz.prog cfg 57 (qC d57):=xJ fun d rest p v d' h hp=> by
 unfold d57 at h
 split at h
 ·cases h;exact⟨rfl,by rfl,qQt _ _⟩
 ·cases h
theorem qQl (s:NS):zP Tryz.prog cfg 66 [.pointer (some ⟨0,0,none⟩)] (AH.of [some (.hi (.reng s))])
  fun r H'=> r=.ret (.int .u64 s.c)/\H'=AH.of [some (.hi (.reng s))]:=by
 refine zP.ends ?_
 have hth:0<4:=by omega
 refine zP.openREng (th:=0) hth ?_
 refine zX (tbl:=zFn) zIt 0 3 (af:=a66) rfl ?_
 rw[a66,b66,qB]
 refine⟨by simp,?_⟩
 simp -implicitDefEqProofs [qL,zR,rps,o1,o2,o3,zFn,qC,d114]
 refine zA [.pack (GD.reng s) 0 [1,2,3,4,5,6,7,8]] [0] ?_ ?_ ?_<;> simp[qV,zR,rps,o1,o2,o3]
def d66:zAl
 |.reng s,[]=> some (True,.int .u64 s.c,.reng s)
 |_,_=> none
theorem qLs:qI Tryz.prog cfg 66 (qC d66):=xJ fun d rest p v d' h hp=> by
 unfold d66 at h
 split at h
 ·cases h;exact⟨rfl,by rfl,qQl _⟩
 ·cases h
theorem qQq (s:NS) (hs:s.Ok):zP Tryz.prog cfg 60 [.pointer (some ⟨0,0,none⟩)] (AH.of [some (.hi (.reng s))])
  fun r H'=> r=.ret (.slice (some ⟨1,0,none⟩) s.hp.length 1)/\H'=AH.of [some (.hi (.reng s)),some (.arr 49 (us s.hp))]:=by
 refine zP.ends ?_
 have hth:0<4:=by omega
 refine zP.openREng (th:=0) hth ?_
 have hl:s.hp.length*8<=140737488355328/\s.hp.length<=9223372036854775807:=by have:=hs.hp.2;omega
 refine zX (tbl:=zFo) zC2 0 3 (af:=a60) rfl ?_
 rw[a60,b60,qB]
 refine⟨by simp,?_⟩
 simp -implicitDefEqProofs [qL,zR,rps,o1,o2,o3,zC5,zJr,hl]
 refine zA [.pack (GD.reng s) 0 [1,2,3,4,5,6,7,8]] [0,10] ?_ ?_ ?_<;> simp[qV,zR,rps,o1,o2,o3]
def st60:qW GD:=fun args H=> match args with
 |[.pointer (some ⟨k,0,none⟩)]=> match H.get k with
  |some (.hi (.reng s))=> some (s.Ok,.ret (.slice (some ⟨H.next,0,none⟩) (s.hp).length 1),H.add (.arr 49 (us (s.hp))))
  |_=> none
 |_=> none
theorem qLx:qI Tryz.prog cfg 60 st60:=by
 intro args H p r H' h hp
 unfold st60 at h
 split at h
 case h_2=> cases h
 split at h
 case h_2=> cases h
 rename_i k x s hk
 cases h
 exact (qQq s hp).atK (xE rfl) [k] (by simp) (by simp) (by simp[hk]) (by simp) (by simp) (by simp[xB hk])
theorem qQp (s:NS) (hl:s.ev.length<=100000):zP Tryz.prog cfg 62 [.pointer (some ⟨0,0,none⟩)] (AH.of [some (.hi (.reng s))])
  fun r H'=> r=.ret (.slice (some ⟨1,0,none⟩) s.ev.length 1)/\H'=AH.of [some (.hi (.reng s)),some (.arr 84 (evs s.ev))]:=by
 refine zP.ends ?_
 have hth:0<4:=by omega
 refine zP.openREng (th:=0) hth ?_
 have hel:=zAt hl
 have t3:=jB s.ev
 refine zX (tbl:=zFo) zC2 0 3 (af:=a62) rfl ?_
 rw[a62,b62,qB]
 refine⟨by simp,?_⟩
 simp -implicitDefEqProofs [qL,zR,rps,o1,o2,o3,qT,t3,hel]
 refine zA [.pack (GD.reng s) 0 [1,2,3,4,5,6,7,8]] [0,10] ?_ ?_ ?_<;> simp[qV,zR,rps,o1,o2,o3]
def st62:qW GD:=fun args H=> match args with
 |[.pointer (some ⟨k,0,none⟩)]=> match H.get k with
  |some (.hi (.reng s))=> some (s.ev.length<=100000,.ret (.slice (some ⟨H.next,0,none⟩) (s.ev).length 1),H.add (.arr 84 (evs (s.ev))))
  |_=> none
 |_=> none
theorem qLw:qI Tryz.prog cfg 62 st62:=by
 intro args H p r H' h hp
 unfold st62 at h
 split at h
 case h_2=> cases h
 split at h
 case h_2=> cases h
 rename_i k x s hk
 cases h
 exact (qQp s hp).atK (xE rfl) [k] (by simp) (by simp) (by simp[hk]) (by simp) (by simp) (by simp[xB hk])
theorem qQr (s:NS) (hs:s.Ok) (n:Int):zP Tryz.prog cfg 59 [.pointer (some ⟨0,0,none⟩),.int .i64 n] (AH.of [some (.hi (.reng s))])
  fun r H'=> r=.ret (.int .u8 (zJl s n))/\H'=AH.of [some (.hi (.reng s))]:=by
 refine zP.ends ?_
 have hth:0<4:=by omega
 refine zP.openREng (th:=0) hth ?_
 have hkw:=hs.kw
 refine zX (tbl:=zFo) zC2 0 3 (af:=a59) rfl ?_
 rw[a59,b59,qB]
 refine⟨by simp,?_⟩
 by_cases h1:n<0
 ·simp -implicitDefEqProofs [qL,zR,rps,o1,o2,o3,h1]
  refine zA [.pack (GD.reng s) 0 [1,2,3,4,5,6,7,8]] [0] ?_ ?_ ?_<;> simp[qV,zR,rps,o1,o2,o3,zJl,h1]
 ·by_cases h2:(s.ky.length:Int)<=n
  ·have hg:s.wy[n.toNat]?=none:=List.getElem?_eq_none (by omega)
   simp -implicitDefEqProofs [qL,zR,rps,o1,o2,o3,h1,h2]
   refine zA [.pack (GD.reng s) 0 [1,2,3,4,5,6,7,8]] [0] ?_ ?_ ?_<;> simp[qV,zR,rps,o1,o2,o3,zJl,h1,hg]
  ·obtain⟨m,rfl⟩:=Int.eq_ofNat_of_zero_le (show 0<=n by omega)
   have hm:m<s.ky.length:=by omega
   have hkk:=(zMx (ky:=s.ky) (wy:=s.wy) hs.kw hm).2
   have h3:(m:Int)<s.ky.length:=by omega
   have h4:¬s.ky.length<=m:=by omega
   simp -implicitDefEqProofs [qL,zR,rps,o1,o2,o3,h1,h2,h3,h4,hm,hkk]
   refine zA [.pack (GD.reng s) 0 [1,2,3,4,5,6,7,8]] [0] ?_ ?_ ?_<;> simp[qV,zR,rps,o1,o2,o3,zJl,h1]
def d59:zAl
 |.reng s,[.int .i64 n]=> some (s.Ok,.int .u8 (zJl s n),.reng s)
 |_,_=> none
theorem qLy:qI Tryz.prog cfg 59 (qC d59):=xJ fun d rest p v d' h hp=> by
 unfold d59 at h
 split at h
 ·cases h;exact⟨rfl,by rfl,qQr _ hp _⟩
 ·cases h
end YtnemoimbeefngaaGreat
end Go.Proofs
namespace Go.Proofs
namespace YtnemoimbeefngaaGreat
open Go.Abs
def zDi:List (FuncId × qW GD):=[(92,zIv),(93,zG3),(95,st95),(94,qC d94)]
theorem zC1:∀x∈zDi,qI Tryz.prog cfg x.1 x.2:=by simp[zDi,zPp,zWs,qLl,zPo]
theorem qRc (s:NS) (t:Int) (hs:s.Ok):zP Tryz.prog cfg 26 [.pointer (some ⟨0,0,none⟩),.int .i64 t] (AH.of [some (.hi (.eng s))])
  fun r H'=> r=.ret (zCf s t)/\H'=AH.of [some (.hi (.eng s))]:=by
 refine zP.ends ?_
 cases ht:zBv t with
 |none=>
  refine zP.openEng (th:=0) (by omega) fun es cc hes=> ?_
  have ft:=zI3 hes ht
  have hR:zCf s t=.tuple #[.agg #[.int .u8 0,.int .i64 0,.int .u64 0],.bool false]:=by simp[zCf,ht]
  rw[hR]
  refine zX (tbl:=zDi) zC1 0 3 (af:=a26) rfl ?_
  rw[a26,b26,qB]
  refine⟨by simp,?_⟩
  simp -implicitDefEqProofs [jA,forms46,a46,b46,ft]
  refine zA [.pack (GD.eng s) 0 [1,2,3,4,5,6,7,8,9,10]] [0] ?_ ?_ ?_<;> simp[zJ,o1,o2,o3]<;> exact hes
 |some th=>
  obtain⟨hth,rfl⟩:=zA4 ht
  refine zP.openEng hth fun es cc hes=> ?_
  have ft:=jE hth hes
  cases ha:s.ts th with
  |none=>
   have hR:zCf s th=.tuple #[.agg #[.int .u8 0,.int .i64 0,.int .u64 0],.bool false]:=by simp[zCf,ht,ha]
   rw[hR]
   refine zX (tbl:=zDi) zC1 0 3 (af:=a26) rfl ?_
   rw[a26,b26,qB]
   refine⟨by simp,?_⟩
   simp -implicitDefEqProofs [jA,forms46,a46,b46,ha,ft,jO]
   rcases qH hth with rfl|rfl|rfl|rfl
   ·refine zA [.pack (GD.eng s) 0 [1,2,3,4,5,6,7,8,9,10]] [0] ?_ ?_ ?_<;> simp[zJ,o1,o2,o3,tpF,ha]<;> exact hes
   ·refine zA [.pack (GD.eng s) 0 [1,2,3,4,5,6,8,7,9,10]] [0] ?_ ?_ ?_<;> simp[zJ,o1,o2,o3,tpF,ha]<;> exact hes
   ·refine zA [.pack (GD.eng s) 0 [1,2,3,4,5,6,8,9,7,10]] [0] ?_ ?_ ?_<;> simp[zJ,o1,o2,o3,tpF,ha]<;> exact hes
   ·refine zA [.pack (GD.eng s) 0 [1,2,3,4,5,6,8,9,10,7]] [0] ?_ ?_ ?_<;> simp[zJ,o1,o2,o3,tpF,ha]<;> exact hes
  |some a=>
   have hR:zCf s th=.tuple #[.agg #[.int .u8 a.ask.k,.int .i64 a.ask.t,.int .u64 a.ask.v],.bool a.asked]:=by simp[zCf,ht,ha]
   rw[hR]
   have hok:=hs.ts th a ha
   cases hk:a.asked with
   |true=>
    have hac:=xM a hk
    have hk0:¬a.ra.k=0:=by have:=(hok.ask hk).1;omega
    refine zX (tbl:=zDi) zC1 0 3 (af:=a26) rfl ?_
    rw[a26,b26,qB]
    refine⟨by simp,?_⟩
    simp -implicitDefEqProofs [jA,forms46,a46,b46,ha,ft,jO,zD,zH,hac,hk0]
    rcases qH hth with rfl|rfl|rfl|rfl
    ·refine zA [.pack (GD.att a) 7 [12,13],.pack (GD.eng s) 0 [1,2,3,4,5,6,7,8,9,10]] [0] ?_ ?_ ?_<;> simp[zJ,o1,o2,o3,tpF,zH,ha,zD,hac]<;> exact hes
    ·refine zA [.pack (GD.att a) 7 [12,13],.pack (GD.eng s) 0 [1,2,3,4,5,6,8,7,9,10]] [0] ?_ ?_ ?_<;> simp[zJ,o1,o2,o3,tpF,zH,ha,zD,hac]<;> exact hes
    ·refine zA [.pack (GD.att a) 7 [12,13],.pack (GD.eng s) 0 [1,2,3,4,5,6,8,9,7,10]] [0] ?_ ?_ ?_<;> simp[zJ,o1,o2,o3,tpF,zH,ha,zD,hac]<;> exact hes
    ·refine zA [.pack (GD.att a) 7 [12,13],.pack (GD.eng s) 0 [1,2,3,4,5,6,8,9,10,7]] [0] ?_ ?_ ?_<;> simp[zJ,o1,o2,o3,tpF,zH,ha,zD,hac]<;> exact hes
   |false=>
    have hac:=zAc a hk
    refine zX (tbl:=zDi) zC1 0 3 (af:=a26) rfl ?_
    rw[a26,b26,qB]
    refine⟨by simp,?_⟩
    simp -implicitDefEqProofs [jA,forms46,a46,b46,ha,ft,jO,zD,zH,hac]
    rcases qH hth with rfl|rfl|rfl|rfl
    ·refine zA [.pack (GD.att a) 7 [12,13],.pack (GD.eng s) 0 [1,2,3,4,5,6,7,8,9,10]] [0] ?_ ?_ ?_<;> simp[zJ,o1,o2,o3,tpF,zH,ha,zD,hac]<;> exact hes
    ·refine zA [.pack (GD.att a) 7 [12,13],.pack (GD.eng s) 0 [1,2,3,4,5,6,8,7,9,10]] [0] ?_ ?_ ?_<;> simp[zJ,o1,o2,o3,tpF,zH,ha,zD,hac]<;> exact hes
    ·refine zA [.pack (GD.att a) 7 [12,13],.pack (GD.eng s) 0 [1,2,3,4,5,6,8,9,7,10]] [0] ?_ ?_ ?_<;> simp[zJ,o1,o2,o3,tpF,zH,ha,zD,hac]<;> exact hes
    ·refine zA [.pack (GD.att a) 7 [12,13],.pack (GD.eng s) 0 [1,2,3,4,5,6,8,9,10,7]] [0] ?_ ?_ ?_<;> simp[zJ,o1,o2,o3,tpF,zH,ha,zD,hac]<;> exact hes
def d26:zAl
 |.eng s,[.int .i64 t]=> some (s.Ok,zCf s t,.eng s)
 |_,_=> none
theorem qMi:qI Tryz.prog cfg 26 (qC d26):=xJ fun d rest p v d' h hp=> by
 unfold d26 at h
 split at h
 ·cases h;exact⟨rfl,by (unfold zCf;split<;> rfl),qRc _ _ hp⟩
 ·cases h
theorem qRa (s:NS) (t:Int) (hs:s.Ok):zP Tryz.prog cfg 31 [.pointer (some ⟨0,0,none⟩),.int .i64 t] (AH.of [some (.hi (.eng s))])
  fun r H'=> r=.ret (.slice (some ⟨1,0,none⟩) (zDn s t).length 1)/\H'=AH.of [some (.hi (.eng s)),some (.arr 155 (zAb (zDn s t)))]:=by
 refine zP.ends ?_
 cases ht:zBv t with
 |none=>
  refine zP.openEng (th:=0) (by omega) fun es cc hes=> ?_
  have ft:=zI3 hes ht
  have hR:zDn s t=[]:=by simp[zDn,ht]
  rw[hR]
  refine zX (tbl:=zDi) zC1 0 3 (af:=a31) rfl ?_
  rw[a31,b31,qB]
  refine⟨by simp,?_⟩
  simp -implicitDefEqProofs [jA,forms46,a46,b46,ft]
  refine zBx (r':=.ret (.slice (some ⟨11,0,none⟩) 0 1)) (zBw (by simp)) (zA [.pack (GD.eng s) 0 [1,2,3,4,5,6,7,8,9,10],.nil 155] [0,11] ?_ ?_ ?_)<;> simp[zJ,o1,o2,o3,show zAb []=[] from rfl]<;> exact hes
 |some th=>
  obtain⟨hth,rfl⟩:=zA4 ht
  refine zP.openEng hth fun es cc hes=> ?_
  have ft:=jE hth hes
  cases ha:s.ts th with
  |none=>
   have hR:zDn s th=[]:=by simp[zDn,ht,ha]
   rw[hR]
   refine zX (tbl:=zDi) zC1 0 3 (af:=a31) rfl ?_
   rw[a31,b31,qB]
   refine⟨by simp,?_⟩
   simp -implicitDefEqProofs [jA,forms46,a46,b46,ha,ft,jO]
   rcases qH hth with rfl|rfl|rfl|rfl
   ·refine zBx (r':=.ret (.slice (some ⟨11,0,none⟩) 0 1)) (zBw (by simp)) (zA [.pack (GD.eng s) 0 [1,2,3,4,5,6,7,8,9,10],.nil 155] [0,11] ?_ ?_ ?_)<;> simp[zJ,o1,o2,o3,tpF,ha,show zAb []=[] from rfl]<;> exact hes
   ·refine zBx (r':=.ret (.slice (some ⟨11,0,none⟩) 0 1)) (zBw (by simp)) (zA [.pack (GD.eng s) 0 [1,2,3,4,5,6,8,7,9,10],.nil 155] [0,11] ?_ ?_ ?_)<;> simp[zJ,o1,o2,o3,tpF,ha,show zAb []=[] from rfl]<;> exact hes
   ·refine zBx (r':=.ret (.slice (some ⟨11,0,none⟩) 0 1)) (zBw (by simp)) (zA [.pack (GD.eng s) 0 [1,2,3,4,5,6,8,9,7,10],.nil 155] [0,11] ?_ ?_ ?_)<;> simp[zJ,o1,o2,o3,tpF,ha,show zAb []=[] from rfl]<;> exact hes
   ·refine zBx (r':=.ret (.slice (some ⟨11,0,none⟩) 0 1)) (zBw (by simp)) (zA [.pack (GD.eng s) 0 [1,2,3,4,5,6,8,9,10,7],.nil 155] [0,11] ?_ ?_ ?_)<;> simp[zJ,o1,o2,o3,tpF,ha,show zAb []=[] from rfl]<;> exact hes
  |some a=>
   have hR:zDn s th=a.es:=by simp[zDn,ht,ha]
   rw[hR]
   have hok:=hs.ts th a ha
   have hg8:=hok.es.len
   have hgu:=hok.es.uniq
   refine zX (tbl:=zDi) zC1 0 3 (af:=a31) rfl ?_
   rw[a31,b31,qB]
   refine⟨by simp,?_⟩
   simp -implicitDefEqProofs [jA,forms46,a46,b46,ha,ft,jO,zD,zH,zDi,zIv,hg8,hgu]
   rcases qH hth with rfl|rfl|rfl|rfl
   ·refine zA [.pack (GD.att a) 7 [11,12],.pack (GD.eng s) 0 [1,2,3,4,5,6,7,8,9,10]] [0,13] ?_ ?_ ?_<;> simp[zJ,o1,o2,o3,tpF,zH,ha,zD]<;> exact hes
   ·refine zA [.pack (GD.att a) 7 [11,12],.pack (GD.eng s) 0 [1,2,3,4,5,6,8,7,9,10]] [0,13] ?_ ?_ ?_<;> simp[zJ,o1,o2,o3,tpF,zH,ha,zD]<;> exact hes
   ·refine zA [.pack (GD.att a) 7 [11,12],.pack (GD.eng s) 0 [1,2,3,4,5,6,8,9,7,10]] [0,13] ?_ ?_ ?_<;> simp[zJ,o1,o2,o3,tpF,zH,ha,zD]<;> exact hes
   ·refine zA [.pack (GD.att a) 7 [11,12],.pack (GD.eng s) 0 [1,2,3,4,5,6,8,9,10,7]] [0,13] ?_ ?_ ?_<;> simp[zJ,o1,o2,o3,tpF,zH,ha,zD]<;> exact hes
def st31:qW GD:=fun args H=> match args with
 |[.pointer (some ⟨k,0,none⟩),.int .i64 t]=> match H.get k with
  |some (.hi (.eng s))=> some (s.Ok,.ret (.slice (some ⟨H.next,0,none⟩) (zDn s t).length 1),H.add (.arr 155 (zAb (zDn s t))))
  |_=> none
 |_=> none
theorem qMf:qI Tryz.prog cfg 31 st31:=by
 intro args H p r H' h hp
 unfold st31 at h
 split at h
 case h_2=> cases h
 split at h
 case h_2=> cases h
 rename_i k t x s hk
 cases h
 exact (qRa s t hp).atK (xE rfl) [k] (by simp) (by simp) (by simp[hk]) (by simp) (by simp) (by simp[xB hk])
theorem qQ9 (s:NS) (t:Int) (hs:s.Ok):zP Tryz.prog cfg 32 [.pointer (some ⟨0,0,none⟩),.int .i64 t] (AH.of [some (.hi (.eng s))])
  fun r H'=> r=.ret (.slice (some ⟨1,0,none⟩) (zDh s t).length 1)/\H'=AH.of [some (.hi (.eng s)),some (.arr 157 (prs (zDh s t)))]:=by
 refine zP.ends ?_
 cases ht:zBv t with
 |none=>
  refine zP.openEng (th:=0) (by omega) fun es cc hes=> ?_
  have ft:=zI3 hes ht
  have hR:zDh s t=[]:=by simp[zDh,ht]
  rw[hR]
  refine zX (tbl:=zDi) zC1 0 3 (af:=a32) rfl ?_
  rw[a32,b32,qB]
  refine⟨by simp,?_⟩
  simp -implicitDefEqProofs [jA,forms46,a46,b46,ft]
  refine zBx (r':=.ret (.slice (some ⟨11,0,none⟩) 0 1)) (zBw (by simp)) (zA [.pack (GD.eng s) 0 [1,2,3,4,5,6,7,8,9,10],.nil 157] [0,11] ?_ ?_ ?_)<;> simp[zJ,o1,o2,o3,show prs []=[] from rfl]<;> exact hes
 |some th=>
  obtain⟨hth,rfl⟩:=zA4 ht
  refine zP.openEng hth fun es cc hes=> ?_
  have ft:=jE hth hes
  cases ha:s.ts th with
  |none=>
   have hR:zDh s th=[]:=by simp[zDh,ht,ha]
   rw[hR]
   refine zX (tbl:=zDi) zC1 0 3 (af:=a32) rfl ?_
   rw[a32,b32,qB]
   refine⟨by simp,?_⟩
   simp -implicitDefEqProofs [jA,forms46,a46,b46,ha,ft,jO]
   rcases qH hth with rfl|rfl|rfl|rfl
   ·refine zBx (r':=.ret (.slice (some ⟨11,0,none⟩) 0 1)) (zBw (by simp)) (zA [.pack (GD.eng s) 0 [1,2,3,4,5,6,7,8,9,10],.nil 157] [0,11] ?_ ?_ ?_)<;> simp[zJ,o1,o2,o3,tpF,ha,show prs []=[] from rfl]<;> exact hes
   ·refine zBx (r':=.ret (.slice (some ⟨11,0,none⟩) 0 1)) (zBw (by simp)) (zA [.pack (GD.eng s) 0 [1,2,3,4,5,6,8,7,9,10],.nil 157] [0,11] ?_ ?_ ?_)<;> simp[zJ,o1,o2,o3,tpF,ha,show prs []=[] from rfl]<;> exact hes
   ·refine zBx (r':=.ret (.slice (some ⟨11,0,none⟩) 0 1)) (zBw (by simp)) (zA [.pack (GD.eng s) 0 [1,2,3,4,5,6,8,9,7,10],.nil 157] [0,11] ?_ ?_ ?_)<;> simp[zJ,o1,o2,o3,tpF,ha,show prs []=[] from rfl]<;> exact hes
   ·refine zBx (r':=.ret (.slice (some ⟨11,0,none⟩) 0 1)) (zBw (by simp)) (zA [.pack (GD.eng s) 0 [1,2,3,4,5,6,8,9,10,7],.nil 157] [0,11] ?_ ?_ ?_)<;> simp[zJ,o1,o2,o3,tpF,ha,show prs []=[] from rfl]<;> exact hes
  |some a=>
   have hR:zDh s th=zAk a.fs:=by simp[zDh,ht,ha]
   rw[hR]
   have hok:=hs.ts th a ha
   have hgl:=hok.fs
   refine zX (tbl:=zDi) zC1 0 3 (af:=a32) rfl ?_
   rw[a32,b32,qB]
   refine⟨by simp,?_⟩
   simp -implicitDefEqProofs [jA,forms46,a46,b46,ha,ft,jO,zD,zH,zDi,zG3,hgl]
   rcases qH hth with rfl|rfl|rfl|rfl
   ·refine zA [.pack (GD.att a) 7 [11,12],.pack (GD.eng s) 0 [1,2,3,4,5,6,7,8,9,10]] [0,13] ?_ ?_ ?_<;> simp[zJ,o1,o2,o3,tpF,zH,ha,zD]<;> exact hes
   ·refine zA [.pack (GD.att a) 7 [11,12],.pack (GD.eng s) 0 [1,2,3,4,5,6,8,7,9,10]] [0,13] ?_ ?_ ?_<;> simp[zJ,o1,o2,o3,tpF,zH,ha,zD]<;> exact hes
   ·refine zA [.pack (GD.att a) 7 [11,12],.pack (GD.eng s) 0 [1,2,3,4,5,6,8,9,7,10]] [0,13] ?_ ?_ ?_<;> simp[zJ,o1,o2,o3,tpF,zH,ha,zD]<;> exact hes
   ·refine zA [.pack (GD.att a) 7 [11,12],.pack (GD.eng s) 0 [1,2,3,4,5,6,8,9,10,7]] [0,13] ?_ ?_ ?_<;> simp[zJ,o1,o2,o3,tpF,zH,ha,zD]<;> exact hes
def st32:qW GD:=fun args H=> match args with
 |[.pointer (some ⟨k,0,none⟩),.int .i64 t]=> match H.get k with
  |some (.hi (.eng s))=> some (s.Ok,.ret (.slice (some ⟨H.next,0,none⟩) (zDh s t).length 1),H.add (.arr 157 (prs (zDh s t))))
  |_=> none
 |_=> none
theorem qMe:qI Tryz.prog cfg 32 st32:=by
 intro args H p r H' h hp
 unfold st32 at h
 split at h
 case h_2=> cases h
 split at h
 case h_2=> cases h
 rename_i k t x s hk
 cases h
 exact (qQ9 s t hp).atK (xE rfl) [k] (by simp) (by simp) (by simp[hk]) (by simp) (by simp) (by simp[xB hk])
def zUu (s:NS) (th:Nat) (a:Att) (es:List MapEntry) (cc:Nat):List (Option (AObj GD)):=
 [some (.arr 90 [.pointer (some ⟨1,0,none⟩),.slice (some ⟨2,0,none⟩) s.hp.length 1,.map (some 3),.slice (some ⟨4,0,none⟩) s.ev.length 1,.slice (some ⟨5,0,none⟩) s.ky.length 1,.slice (some ⟨6,0,none⟩) s.wy.length 1]),
  some (.hi (.lk s.o s.c)),some (.arr 49 (us s.hp)),some (.map es cc),some (.arr 84 (evs s.ev)),some (.arr 38 (us s.ky)),some (.arr 61 (u8s s.wy)),
  some (.arr 100 [.pointer (some ⟨11,0,none⟩),.pointer (some ⟨12,0,none⟩),.int .i64 a.n,.int .u64 a.snap,.int .u8 a.ask.k,.int .i64 a.ask.t,.int .u64 a.ask.v,.int .i64 a.at_,.int .i64 a.back,.int .i64 a.nx,.int .u64 a.seen,.int .u64 a.val,.bool a.dec]),some (zBo (s.ts (o1 th))),some (zBo (s.ts (o2 th))),some (zBo (s.ts (o3 th))),some (.hi (.set 0 a.es)),some (.hi (.log a.fs))]
theorem zP.openAtt {f:FuncId} {args:List Value} {K:AEnd->AH GD->Prop} {s:NS} {th:Nat} {a:Att} {es:List MapEntry} {cc:Nat} (ha:s.ts th=some a)
  (h:zP Tryz.prog cfg f args (AH.of (zUu s th a es cc)) K):zP Tryz.prog cfg f args (AH.of (jA s th es cc)) K:=by
 have e:zFt frag (AH.of (jA s th es cc)) 7=some (AH.of (zUu s th a es cc)):=by
  simp[jA,zUu,ha,zD,zH]
 exact zP.seesG (zDb e) h
theorem qQ7 (s:NS) (t:Int) (hs:s.Ok):zP Tryz.prog cfg 34 [.pointer (some ⟨0,0,none⟩),.int .i64 t] (AH.of [some (.hi (.eng s))])
  fun r H'=> r=.ret (.bool (zDe s t))/\H'=AH.of [some (.hi (.eng s))]:=by
 refine zP.ends ?_
 cases ht:zBv t with
 |none=>
  refine zP.openEng (th:=0) (by omega) fun es cc hes=> ?_
  have ft:=zI3 hes ht
  have hR:zDe s t=false:=by simp[zDe,ht]
  rw[hR]
  refine zX (tbl:=zDi) zC1 0 3 (af:=a34) rfl ?_
  rw[a34,b34,qB]
  refine⟨by simp,?_⟩
  simp -implicitDefEqProofs [jA,forms46,a46,b46,ft]
  refine zA [.pack (GD.eng s) 0 [1,2,3,4,5,6,7,8,9,10]] [0] ?_ ?_ ?_<;> simp[zJ,o1,o2,o3]<;> exact hes
 |some th=>
  obtain⟨hth,rfl⟩:=zA4 ht
  refine zP.openEng hth fun es cc hes=> ?_
  have ft:=jE hth hes
  cases ha:s.ts th with
  |none=>
   have hR:zDe s th=false:=by simp[zDe,ht,ha]
   rw[hR]
   refine zX (tbl:=zDi) zC1 0 3 (af:=a34) rfl ?_
   rw[a34,b34,qB]
   refine⟨by simp,?_⟩
   simp -implicitDefEqProofs [jA,forms46,a46,b46,ha,ft,jO]
   rcases qH hth with rfl|rfl|rfl|rfl
   ·refine zA [.pack (GD.eng s) 0 [1,2,3,4,5,6,7,8,9,10]] [0] ?_ ?_ ?_<;> simp[zJ,o1,o2,o3,tpF,ha]<;> exact hes
   ·refine zA [.pack (GD.eng s) 0 [1,2,3,4,5,6,8,7,9,10]] [0] ?_ ?_ ?_<;> simp[zJ,o1,o2,o3,tpF,ha]<;> exact hes
   ·refine zA [.pack (GD.eng s) 0 [1,2,3,4,5,6,8,9,7,10]] [0] ?_ ?_ ?_<;> simp[zJ,o1,o2,o3,tpF,ha]<;> exact hes
   ·refine zA [.pack (GD.eng s) 0 [1,2,3,4,5,6,8,9,10,7]] [0] ?_ ?_ ?_<;> simp[zJ,o1,o2,o3,tpF,ha]<;> exact hes
  |some a=>
   have hR:zDe s th=(s.o.isNone && (brk a.es s.hp).isNone):=by simp[zDe,ht,ha]
   rw[hR]
   have hok:=hs.ts th a ha
   have hgg:=hok.es.goodL
   refine zP.openAtt ha ?_
   refine zX (tbl:=zDi) zC1 0 3 (af:=a34) rfl ?_
   rw[a34,b34,qB]
   refine⟨by simp,?_⟩
   cases ho:s.o with
   |some x=>
    simp -implicitDefEqProofs [zUu,forms46,a46,b46,ha,ft,jO,zDi,qC,d94,zEg,ho]
    rcases qH hth with rfl|rfl|rfl|rfl
    ·refine zA [.pack (GD.att a) 7 [11,12],.pack (GD.eng s) 0 [1,2,3,4,5,6,7,8,9,10]] [0] ?_ ?_ ?_<;> simp[zJ,o1,o2,o3,tpF,zH,ha,zD,ho]<;> exact hes
    ·refine zA [.pack (GD.att a) 7 [11,12],.pack (GD.eng s) 0 [1,2,3,4,5,6,8,7,9,10]] [0] ?_ ?_ ?_<;> simp[zJ,o1,o2,o3,tpF,zH,ha,zD,ho]<;> exact hes
    ·refine zA [.pack (GD.att a) 7 [11,12],.pack (GD.eng s) 0 [1,2,3,4,5,6,8,9,7,10]] [0] ?_ ?_ ?_<;> simp[zJ,o1,o2,o3,tpF,zH,ha,zD,ho]<;> exact hes
    ·refine zA [.pack (GD.att a) 7 [11,12],.pack (GD.eng s) 0 [1,2,3,4,5,6,8,9,10,7]] [0] ?_ ?_ ?_<;> simp[zJ,o1,o2,o3,tpF,zH,ha,zD,ho]<;> exact hes
   |none=>
    simp -implicitDefEqProofs [zUu,forms46,a46,b46,ha,ft,jO,zDi,qC,d94,zEg,ho,st95,zM0,zFg,zGj,hgg]
    rcases qH hth with rfl|rfl|rfl|rfl
    ·refine zA [.pack (GD.att a) 7 [11,12],.pack (GD.eng s) 0 [1,2,3,4,5,6,7,8,9,10]] [0] ?_ ?_ ?_<;> simp[zJ,o1,o2,o3,tpF,zH,ha,zD,ho]<;> exact hes
    ·refine zA [.pack (GD.att a) 7 [11,12],.pack (GD.eng s) 0 [1,2,3,4,5,6,8,7,9,10]] [0] ?_ ?_ ?_<;> simp[zJ,o1,o2,o3,tpF,zH,ha,zD,ho]<;> exact hes
    ·refine zA [.pack (GD.att a) 7 [11,12],.pack (GD.eng s) 0 [1,2,3,4,5,6,8,9,7,10]] [0] ?_ ?_ ?_<;> simp[zJ,o1,o2,o3,tpF,zH,ha,zD,ho]<;> exact hes
    ·refine zA [.pack (GD.att a) 7 [11,12],.pack (GD.eng s) 0 [1,2,3,4,5,6,8,9,10,7]] [0] ?_ ?_ ?_<;> simp[zJ,o1,o2,o3,tpF,zH,ha,zD,ho]<;> exact hes
def d34:zAl
 |.eng s,[.int .i64 t]=> some (s.Ok,.bool (zDe s t),.eng s)
 |_,_=> none
theorem qMc:qI Tryz.prog cfg 34 (qC d34):=xJ fun d rest p v d' h hp=> by
 unfold d34 at h
 split at h
 ·cases h;exact⟨rfl,by rfl,qQ7 _ _ hp⟩
 ·cases h
end YtnemoimbeefngaaGreat
end Go.Proofs
namespace Go.Proofs
namespace YtnemoimbeefngaaGreat
open Go.Abs
def zBq (s:NS) (i:Nat):List Int:=match s.ts i with
 |some a=> if a.dec=true then [(a.n:Int)] else []
 |none=> []
def zAv (s:NS):Nat->List Int
 |0=> []
 |i+1=> zAv s i++zBq s i
theorem zN4 (s:NS):∀i,(zAv s i).length<=i
 |0=> by simp[zAv]
 |i+1=> by
  have:=zN4 s i
  rw[zAv,List.length_append]
  unfold zBq
  split
  ·split<;> simp<;> omega
  ·simp;omega
theorem zRa {s:NS} {n:Int}:∀{i},n∈zAv s i↔∃th a,th<i/\s.ts th=some a/\a.dec=true/\n=(a.n:Int)
 |0=> by simp[zAv]
 |i+1=> by
  rw[zAv,List.mem_append,zRa]
  constructor
  ·rintro (⟨th,a,h1,h2,h3,h4⟩|h)
   ·exact⟨th,a,by omega,h2,h3,h4⟩
   ·unfold zBq at h
    split at h
    ·rename_i a ha
     split at h
     ·rename_i hd
      exact⟨i,a,by omega,ha,hd,by simpa using h⟩
     ·cases h
    ·cases h
  ·rintro⟨th,a,h1,h2,h3,h4⟩
   by_cases e:th=i
   ·subst e
    right
    unfold zBq
    rw[h2]
    simp[h3,h4]
   ·exact .inl ⟨th,a,by omega,h2,h3,h4⟩
theorem qPg {s:NS} {es:List MapEntry} {cc:Nat} (h:zA3 (tpF 0 s.ts) es cc):zB7 false (.int .i64 0) es=some (jO 7 (s.ts 0))/\zB7 false (.int .i64 1) es=some (jO 8 (s.ts 1))/\zB7 false (.int .i64 2) es=some (jO 9 (s.ts 2))/\zB7 false (.int .i64 3) es=some (jO 10 (s.ts 3)):=by
 refine⟨?_,?_,?_,?_⟩<;> rw[zN2 h (zJ1 _ _)]
 ·exact congrArg some (zSw _ _ _ _ _)
 ·exact congrArg some (zSv _ _ _ _ _)
 ·exact congrArg some (zSu _ _ _ _ _)
 ·exact congrArg some (zSt _ _ _ _ _)
theorem zEf {ts:Nat->Option Att} {es:List MapEntry} {cc:Nat} (h:zA3 (tpF 0 ts) es cc) {θ:Nat->Nat} (h7:θ 7=7) (h8:θ 8=8) (h9:θ 9=9) (h10:θ 10=10):
  es=es.map fun e=> { key:=ren θ e.key,val:=ren θ e.val,born:=e.born }:=by
 have hm:∀p∈tpF 0 ts,ren θ p.1=p.1/\ren θ p.2=p.2:=by
  intro p hp
  simp only[tpF,tpK,List.mem_append] at hp
  rcases hp with hp|hp|hp|hp<;> (unfold tp1 at hp;split at hp)<;> simp at hp<;> subst hp<;> simp[ren,h7,h8,h9,h10]
 conv=> lhs;rw[←List.map_id es]
 refine List.map_congr_left fun e he=> ?_
 obtain⟨a,b⟩:=hm (e.key,e.val) (h.1.mem_iff.1 (List.mem_map.2 ⟨e,he,rfl⟩))
 simp only at a b
 rw[a,b];rfl
def zR3:List (FuncId × qW GD):=[(47,st47)]
theorem zS6:∀x∈zR3,qI Tryz.prog cfg x.1 x.2:=by simp[zR3,qL9]
def deI (s:NS) (es:List MapEntry) (cc m:Nat) (tm:Nat->Value) (H:AH GD):Prop:=∃i:Nat,m+i=4/\tm 0=.pointer (some ⟨0,0,none⟩)/\tm 6=.int .i64 i/\tm 3=.slice (some ⟨11,0,none⟩) (zAv s i).length 1/\H=AH.of (jA s 0 es cc++[some (.arr 3 (qZ (zAv s i)))])
theorem qRk (s:NS):zP Tryz.prog cfg 14 [.pointer (some ⟨0,0,none⟩)] (AH.of [some (.hi (.eng s))])
  fun r H'=> r=.ret (.slice (some ⟨1,0,none⟩) (zAv s 4).length 1)/\H'=AH.of [some (.hi (.eng s)),some (.arr 3 (qZ (zE1 (zAv s 4))))]:=by
 refine zP.ends ?_
 refine zP.openEng (th:=0) (by omega) fun es cc hes=> ?_
 obtain⟨f0,f1,f2,f3⟩:=qPg hes
 refine zX (tbl:=zR3) zS6 5 3 (af:=a14) rfl ?_
 rw[a14,b14,qB]
 refine⟨by simp,?_⟩
 simp -implicitDefEqProofs [jA,o1,o2,o3]
 refine zBm (xC zAh (xD zS6) _ _ noY jT) (deI s es cc) (m:=4) ?_ (by omega) ?_
 ·refine zG5 [.nil 3] [0,1,2,3,4,5,6,7,8,9,10,11] (jA s 0 es cc++[some (.arr 3 (qZ []))]) [(3,.slice (some ⟨11,0,none⟩) 0 1)] 4 (by omega) ?_ ?_ ?_ ⟨0,?_⟩<;> simp[jA,o1,o2,o3,zAv,show qZ []=[] from rfl]<;> exact zEf hes rfl rfl rfl rfl
  done
 rintro m tm H ⟨i,hm,t0,t6,t3,rfl⟩
 have hle:=zN4 s i
 by_cases hi:i<4
 ·have hr3:((zAv s i).length+1)*8<=140737488355328/\(zAv s i).length<=9223372036854775806:=by omega
  have htk:=zQq (zAv s i)
  have hil:(zAv s i).length<=(qZ (zAv s i)).length:=by rw[zC4];omega
  have hsuc:zAv s (i+1)=zAv s i++zBq s i:=rfl
  have hi4:i=0∨i=1∨i=2∨i=3:=by omega
  rcases hi4 with rfl|rfl|rfl|rfl
  ·have hwr:IntKind.i64.wrap (0+1)=1:=by decide
   have hwr2:IntKind.i64.wrap 1=1:=by decide
   generalize zAv s 0=out at*
   cases ha:s.ts 0 with
   |none=>
    have hd:zBq s 0=[]:=by simp[zBq,ha]
    rw[hd,List.append_nil] at hsuc
    simp -implicitDefEqProofs [jA,o1,o2,o3,forms46,a46,b46,jO,f0,hwr,hwr2,t0,t6,t3,ha]
    refine qS [] [0,1,2,3,4,5,6,7,8,9,10,11] (jA s 0 es cc++[some (.arr 3 (qZ (zAv s 1)))]) (m - 1) (by omega) ?_ ?_ ⟨1,by omega,?_⟩<;> simp[jA,o1,o2,o3,ha,t0,t3,hsuc]<;> exact zEf hes rfl rfl rfl rfl
   |some a=>
    cases hdec:a.dec with
    |false=>
     have hd:zBq s 0=[]:=by simp[zBq,ha,hdec]
     rw[hd,List.append_nil] at hsuc
     simp -implicitDefEqProofs [jA,o1,o2,o3,forms46,a46,b46,jO,f0,hwr,hwr2,t0,t6,t3,ha,zD,zH,hdec]
     refine qS [.pack (GD.att a) 7 [12,13]] [0,1,2,3,4,5,6,7,8,9,10,11] (jA s 0 es cc++[some (.arr 3 (qZ (zAv s 1)))]) (m - 1) (by omega) ?_ ?_ ⟨1,by omega,?_⟩<;> simp[jA,o1,o2,o3,ha,zD,zH,hdec,t0,t3,hsuc]<;> exact zEf hes rfl rfl rfl rfl
    |true=>
     have hd:zBq s 0=[(a.n:Int)]:=by simp[zBq,ha,hdec]
     rw[hd] at hsuc
     simp -implicitDefEqProofs [jA,o1,o2,o3,forms46,a46,b46,jO,f0,hwr,hwr2,t0,t6,t3,ha,zD,zH,hdec,hr3,htk,hil]
     refine qS [.pack (GD.att a) 7 [12,13]] [0,1,2,3,4,5,6,7,8,9,10,15] (jA s 0 es cc++[some (.arr 3 (qZ (zAv s 1)))]) (m - 1) (by omega) ?_ ?_ ⟨1,by omega,?_⟩<;> simp[jA,o1,o2,o3,ha,zD,zH,hdec,t0,hsuc,zB2,zB1]<;> exact zEf hes rfl rfl rfl rfl
  ·have hwr:IntKind.i64.wrap (1+1)=2:=by decide
   have hwr2:IntKind.i64.wrap 2=2:=by decide
   generalize zAv s 1=out at*
   cases ha:s.ts 1 with
   |none=>
    have hd:zBq s 1=[]:=by simp[zBq,ha]
    rw[hd,List.append_nil] at hsuc
    simp -implicitDefEqProofs [jA,o1,o2,o3,forms46,a46,b46,jO,f1,hwr,hwr2,t0,t6,t3,ha]
    refine qS [] [0,1,2,3,4,5,6,7,8,9,10,11] (jA s 0 es cc++[some (.arr 3 (qZ (zAv s 2)))]) (m - 1) (by omega) ?_ ?_ ⟨2,by omega,?_⟩<;> simp[jA,o1,o2,o3,ha,t0,t3,hsuc]<;> exact zEf hes rfl rfl rfl rfl
   |some a=>
    cases hdec:a.dec with
    |false=>
     have hd:zBq s 1=[]:=by simp[zBq,ha,hdec]
     rw[hd,List.append_nil] at hsuc
     simp -implicitDefEqProofs [jA,o1,o2,o3,forms46,a46,b46,jO,f1,hwr,hwr2,t0,t6,t3,ha,zD,zH,hdec]
     refine qS [.pack (GD.att a) 8 [12,13]] [0,1,2,3,4,5,6,7,8,9,10,11] (jA s 0 es cc++[some (.arr 3 (qZ (zAv s 2)))]) (m - 1) (by omega) ?_ ?_ ⟨2,by omega,?_⟩<;> simp[jA,o1,o2,o3,ha,zD,zH,hdec,t0,t3,hsuc]<;> exact zEf hes rfl rfl rfl rfl
    |true=>
     have hd:zBq s 1=[(a.n:Int)]:=by simp[zBq,ha,hdec]
     rw[hd] at hsuc
     simp -implicitDefEqProofs [jA,o1,o2,o3,forms46,a46,b46,jO,f1,hwr,hwr2,t0,t6,t3,ha,zD,zH,hdec,hr3,htk,hil]
     refine qS [.pack (GD.att a) 8 [12,13]] [0,1,2,3,4,5,6,7,8,9,10,15] (jA s 0 es cc++[some (.arr 3 (qZ (zAv s 2)))]) (m - 1) (by omega) ?_ ?_ ⟨2,by omega,?_⟩<;> simp[jA,o1,o2,o3,ha,zD,zH,hdec,t0,hsuc,zB2,zB1]<;> exact zEf hes rfl rfl rfl rfl
  ·have hwr:IntKind.i64.wrap (2+1)=3:=by decide
   have hwr2:IntKind.i64.wrap 3=3:=by decide
   generalize zAv s 2=out at*
   cases ha:s.ts 2 with
   |none=>
    have hd:zBq s 2=[]:=by simp[zBq,ha]
    rw[hd,List.append_nil] at hsuc
    simp -implicitDefEqProofs [jA,o1,o2,o3,forms46,a46,b46,jO,f2,hwr,hwr2,t0,t6,t3,ha]
    refine qS [] [0,1,2,3,4,5,6,7,8,9,10,11] (jA s 0 es cc++[some (.arr 3 (qZ (zAv s 3)))]) (m - 1) (by omega) ?_ ?_ ⟨3,by omega,?_⟩<;> simp[jA,o1,o2,o3,ha,t0,t3,hsuc]<;> exact zEf hes rfl rfl rfl rfl
   |some a=>
    cases hdec:a.dec with
    |false=>
     have hd:zBq s 2=[]:=by simp[zBq,ha,hdec]
     rw[hd,List.append_nil] at hsuc
     simp -implicitDefEqProofs [jA,o1,o2,o3,forms46,a46,b46,jO,f2,hwr,hwr2,t0,t6,t3,ha,zD,zH,hdec]
     refine qS [.pack (GD.att a) 9 [12,13]] [0,1,2,3,4,5,6,7,8,9,10,11] (jA s 0 es cc++[some (.arr 3 (qZ (zAv s 3)))]) (m - 1) (by omega) ?_ ?_ ⟨3,by omega,?_⟩<;> simp[jA,o1,o2,o3,ha,zD,zH,hdec,t0,t3,hsuc]<;> exact zEf hes rfl rfl rfl rfl
    |true=>
     have hd:zBq s 2=[(a.n:Int)]:=by simp[zBq,ha,hdec]
     rw[hd] at hsuc
     simp -implicitDefEqProofs [jA,o1,o2,o3,forms46,a46,b46,jO,f2,hwr,hwr2,t0,t6,t3,ha,zD,zH,hdec,hr3,htk,hil]
     refine qS [.pack (GD.att a) 9 [12,13]] [0,1,2,3,4,5,6,7,8,9,10,15] (jA s 0 es cc++[some (.arr 3 (qZ (zAv s 3)))]) (m - 1) (by omega) ?_ ?_ ⟨3,by omega,?_⟩<;> simp[jA,o1,o2,o3,ha,zD,zH,hdec,t0,hsuc,zB2,zB1]<;> exact zEf hes rfl rfl rfl rfl
  ·have hwr:IntKind.i64.wrap (3+1)=4:=by decide
   have hwr2:IntKind.i64.wrap 4=4:=by decide
   generalize zAv s 3=out at*
   cases ha:s.ts 3 with
   |none=>
    have hd:zBq s 3=[]:=by simp[zBq,ha]
    rw[hd,List.append_nil] at hsuc
    simp -implicitDefEqProofs [jA,o1,o2,o3,forms46,a46,b46,jO,f3,hwr,hwr2,t0,t6,t3,ha]
    refine qS [] [0,1,2,3,4,5,6,7,8,9,10,11] (jA s 0 es cc++[some (.arr 3 (qZ (zAv s 4)))]) (m - 1) (by omega) ?_ ?_ ⟨4,by omega,?_⟩<;> simp[jA,o1,o2,o3,ha,t0,t3,hsuc]<;> exact zEf hes rfl rfl rfl rfl
   |some a=>
    cases hdec:a.dec with
    |false=>
     have hd:zBq s 3=[]:=by simp[zBq,ha,hdec]
     rw[hd,List.append_nil] at hsuc
     simp -implicitDefEqProofs [jA,o1,o2,o3,forms46,a46,b46,jO,f3,hwr,hwr2,t0,t6,t3,ha,zD,zH,hdec]
     refine qS [.pack (GD.att a) 10 [12,13]] [0,1,2,3,4,5,6,7,8,9,10,11] (jA s 0 es cc++[some (.arr 3 (qZ (zAv s 4)))]) (m - 1) (by omega) ?_ ?_ ⟨4,by omega,?_⟩<;> simp[jA,o1,o2,o3,ha,zD,zH,hdec,t0,t3,hsuc]<;> exact zEf hes rfl rfl rfl rfl
    |true=>
     have hd:zBq s 3=[(a.n:Int)]:=by simp[zBq,ha,hdec]
     rw[hd] at hsuc
     simp -implicitDefEqProofs [jA,o1,o2,o3,forms46,a46,b46,jO,f3,hwr,hwr2,t0,t6,t3,ha,zD,zH,hdec,hr3,htk,hil]
     refine qS [.pack (GD.att a) 10 [12,13]] [0,1,2,3,4,5,6,7,8,9,10,15] (jA s 0 es cc++[some (.arr 3 (qZ (zAv s 4)))]) (m - 1) (by omega) ?_ ?_ ⟨4,by omega,?_⟩<;> simp[jA,o1,o2,o3,ha,zD,zH,hdec,t0,hsuc,zB2,zB1]<;> exact zEf hes rfl rfl rfl rfl
 ·have hie:i=4:=by omega
  subst hie
  have hd6:(zAv s 4).length<=1000000:=by omega
  simp -implicitDefEqProofs [jA,o1,o2,o3,zR3,st47,sl0,zGd,t0,t6,t3,hd6]
  refine zA [.pack (GD.eng s) 0 [1,2,3,4,5,6,7,8,9,10]] [0,11] ?_ ?_ ?_<;> simp[zJ,o1,o2,o3]<;> exact hes
def st14:qW GD:=fun args H=> match args with
 |[.pointer (some ⟨k,0,none⟩)]=> match H.get k with
  |some (.hi (.eng s))=> some (True,.ret (.slice (some ⟨H.next,0,none⟩) (zAv s 4).length 1),H.add (.arr 3 (qZ (zE1 (zAv s 4)))))
  |_=> none
 |_=> none
theorem qMq:qI Tryz.prog cfg 14 st14:=by
 intro args H p r H' h hp
 unfold st14 at h
 split at h
 case h_2=> cases h
 split at h
 case h_2=> cases h
 rename_i k x s hk
 cases h
 exact (qRk s).atK (xE rfl) [k] (by simp) (by simp) (by simp[hk]) (by simp) (by simp) (by simp[xB hk])
end YtnemoimbeefngaaGreat
end Go.Proofs
