/-
  NOREC: Step. (Printed by tools/genstep.py.)
-/
import Derived.Test.YtnemoimbeefngaaGreatPR1
set_option linter.unusedSimpArgs false
set_option linter.unusedVariables false
set_option linter.unnecessarySimpa false
set_option linter.unusedSectionVars false
set_option maxHeartbeats 32000000
set_option maxRecDepth 100000
namespace Go.Proofs
namespace YtnemoimbeefngaaGreat
open Go.Abs
theorem zKr (d e:Ev):evs [d,e]=[.int .u8 d.k,.int .i64 d.a,.int .i64 d.t,.int .u64 d.v,.int .u8 e.k,.int .i64 e.a,.int .i64 e.t,.int .u64 e.v]:=rfl
theorem qI6 {n:Nat} (h:n<=100000):(n+1+1)*32<=140737488355328/\n+1<=9223372036854775806:=⟨by omega,Nat.le_trans (Nat.succ_le_succ h) (by decide)⟩
theorem qAy (l:List Ev) (n:Nat):(evs l++([.int .u8 7,.int .i64 n,.int .i64 0,.int .u64 0]:List Value)).take ((l.length+1)*4)=evs l++([.int .u8 7,.int .i64 n,.int .i64 0,.int .u64 0]:List Value):=by
 refine List.take_of_length_le ?_
 rw[List.length_append,qT]
 simp only[List.length_cons,List.length_nil]
 omega
theorem zLk {l:List Ent} {i:Nat} {e:Ent} (h:l[i]?=some e):(zAb l)[i*3]?=some (.int .i64 e.t)/\(zAb l)[i*3+1]?=some (.int .u64 e.v):=by
 have h3:=zFf h
 have g:∀j,j<3->(zAb l)[i*3+j]?=e.cells[j]?:=fun j hj=> by
  rw[←h3,List.getElem?_take,if_pos hj,List.getElem?_drop]
 exact⟨g 0 (by omega),g 1 (by omega)⟩
def jY:List (FuncId × qW GD):=[(80,qC d80),(137,qC zQf),(139,qC d139),(135,qC zHb),(94,qC d94),(134,qC zKu),
 (92,zIv),(143,zMq),(133,zH6),(88,qC d88),(93,zG3),(144,qC d144),(145,qC d145),(146,qC d146),(147,qC zQe)]
theorem zAa:∀x∈jY,qI Tryz.prog cfg x.1 x.2:=by simp[jY,zPq,qGo,qGn,qGp,zPo,qGq,zPp,qGm,zTi,zWt,zWs,qGl,qGk,qGj,qGi]
theorem qFz (s:NS) (hs:s.Ok) (hev:s.ev.length<=100000) (th:Nat) (hth:th<4) (a:Att) (ha:s.ts th=some a) (hk:a.asked=true) (hat:a.at_=4) (ho:s.o=none):zP Tryz.prog cfg 28 [.pointer (some ⟨0,0,none⟩),.int .i64 th] (AH.of [some (.hi (.eng s))])
  fun r H'=> r=.ret (qJ).v/\H'=AH.of [some (.hi (.eng ({ s with ts:=zZ s.ts th (some { a with seen:=s.c,at_:=5,nx:=0 }) })))]:=by
 refine zP.ends ?_
 generalize hS:(({ s with ts:=zZ s.ts th (some { a with seen:=s.c,at_:=5,nx:=0 }) }):NS)=S'
 refine zP.openEng hth fun es cc hes=> ?_
 have ft:=jE hth hes
 have z1:¬(th:Int)<0:=by omega
 have z2:¬4<=(th:Int):=by omega
 have hok:=hs.ts th a ha
 have hac:=xM a hk
 have hk0:¬a.ra.k=0:=by have:=(hok.ask hk).1;omega
 have hel:(s.ev.length+1)*32<=140737488355328/\s.ev.length<=9223372036854775806:=by omega
 have t3:=jB s.ev
 refine zX (tbl:=jY) zAa 0 5 (af:=a28) rfl ?_
 rw[a28,b28,qB]
 refine⟨by simp,?_⟩
 simp -implicitDefEqProofs [jA,jY,qC,forms79,a79,b79,forms83,a83,b83,forms85,a85,b85,forms86,a86,b86,forms136,a136,b136,forms87,a87,b87,forms89,a89,b89,forms90,a90,b90,forms91,a91,b91,forms142,a142,b142,forms138,a138,b138,z1,z2,ha,ft,jO,zD,zH,hac,hk0,hel,t3,qT,d80,hat,ho,zDw]
 have htp:=zAr th s.ts (b:={ a with seen:=s.c,at_:=5,nx:=0 }) ha
 rw[←htp] at hes
 subst hS
 have hba:Att.ask { a with seen:=s.c,at_:=5,nx:=0 }=a.ra:=by simp[Att.ask,hk]
 rcases qH hth with rfl|rfl|rfl|rfl
 ·refine zA [.pack (GD.att { a with seen:=s.c,at_:=5,nx:=0 }) 7 [12,13],.pack (GD.eng ({ s with ts:=zZ s.ts 0 (some { a with seen:=s.c,at_:=5,nx:=0 }) })) 0 [1,2,3,4,5,6,7,8,9,10]] [0] ?_ ?_ ?_<;> simp[zH,zJ,hba,zZ,ha,zD,qE,o1,o2,o3,Rp.v,Rp.cells,qJ,qQ,qK,qP,qO,zW,zY,qM,qN,ho]<;> exact hes
 ·refine zA [.pack (GD.att { a with seen:=s.c,at_:=5,nx:=0 }) 7 [12,13],.pack (GD.eng ({ s with ts:=zZ s.ts 1 (some { a with seen:=s.c,at_:=5,nx:=0 }) })) 0 [1,2,3,4,5,6,8,7,9,10]] [0] ?_ ?_ ?_<;> simp[zH,zJ,hba,zZ,ha,zD,qE,o1,o2,o3,Rp.v,Rp.cells,qJ,qQ,qK,qP,qO,zW,zY,qM,qN,ho]<;> exact hes
 ·refine zA [.pack (GD.att { a with seen:=s.c,at_:=5,nx:=0 }) 7 [12,13],.pack (GD.eng ({ s with ts:=zZ s.ts 2 (some { a with seen:=s.c,at_:=5,nx:=0 }) })) 0 [1,2,3,4,5,6,8,9,7,10]] [0] ?_ ?_ ?_<;> simp[zH,zJ,hba,zZ,ha,zD,qE,o1,o2,o3,Rp.v,Rp.cells,qJ,qQ,qK,qP,qO,zW,zY,qM,qN,ho]<;> exact hes
 ·refine zA [.pack (GD.att { a with seen:=s.c,at_:=5,nx:=0 }) 7 [12,13],.pack (GD.eng ({ s with ts:=zZ s.ts 3 (some { a with seen:=s.c,at_:=5,nx:=0 }) })) 0 [1,2,3,4,5,6,8,9,10,7]] [0] ?_ ?_ ?_<;> simp[zH,zJ,hba,zZ,ha,zD,qE,o1,o2,o3,Rp.v,Rp.cells,qJ,qQ,qK,qP,qO,zW,zY,qM,qN,ho]<;> exact hes
theorem qFy (s:NS) (hs:s.Ok) (hev:s.ev.length<=100000) (th:Nat) (hth:th<4) (a:Att) (ha:s.ts th=some a) (hk:a.asked=true) (hat:a.at_=5) (hx:a.nx=a.es.length):zP Tryz.prog cfg 28 [.pointer (some ⟨0,0,none⟩),.int .i64 th] (AH.of [some (.hi (.eng s))])
  fun r H'=> r=.ret (qJ).v/\H'=AH.of [some (.hi (.eng ({ s with ts:=zZ s.ts th (some { a with at_:=6 }) })))]:=by
 refine zP.ends ?_
 generalize hS:(({ s with ts:=zZ s.ts th (some { a with at_:=6 }) }):NS)=S'
 refine zP.openEng hth fun es cc hes=> ?_
 have ft:=jE hth hes
 have z1:¬(th:Int)<0:=by omega
 have z2:¬4<=(th:Int):=by omega
 have hok:=hs.ts th a ha
 have hac:=xM a hk
 have hk0:¬a.ra.k=0:=by have:=(hok.ask hk).1;omega
 have hel:(s.ev.length+1)*32<=140737488355328/\s.ev.length<=9223372036854775806:=by omega
 have t3:=jB s.ev
 have hg8:=hok.es.len
 have hgu:=hok.es.uniq
 have hx1:((a.nx:Int)=(a.es.length:Int))=True:=eq_true (by omega)
 have hx2:(a.nx=a.es.length)=True:=eq_true hx
 refine zX (tbl:=jY) zAa 0 5 (af:=a28) rfl ?_
 rw[a28,b28,qB]
 refine⟨by simp,?_⟩
 simp -implicitDefEqProofs [jA,jY,qC,forms79,a79,b79,forms83,a83,b83,forms85,a85,b85,forms86,a86,b86,forms136,a136,b136,forms87,a87,b87,forms89,a89,b89,forms90,a90,b90,forms91,a91,b91,forms142,a142,b142,forms138,a138,b138,z1,z2,ha,ft,jO,zD,zH,hac,hk0,hel,t3,qT,zIv,hat,hx1,hx2,hg8,hgu]
 have htp:=zAr th s.ts (b:={ a with at_:=6 }) ha
 rw[←htp] at hes
 subst hS
 have hba:Att.ask { a with at_:=6 }=a.ra:=by simp[Att.ask,hk]
 rcases qH hth with rfl|rfl|rfl|rfl
 ·refine zA [.pack (GD.att { a with at_:=6 }) 7 [12,13],.pack (GD.eng ({ s with ts:=zZ s.ts 0 (some { a with at_:=6 }) })) 0 [1,2,3,4,5,6,7,8,9,10]] [0] ?_ ?_ ?_<;> simp[zH,zJ,hba,zZ,ha,zD,qE,o1,o2,o3,Rp.v,Rp.cells,qJ,qQ,qK,qP,qO,zW,zY,qM,qN]<;> exact hes
 ·refine zA [.pack (GD.att { a with at_:=6 }) 7 [12,13],.pack (GD.eng ({ s with ts:=zZ s.ts 1 (some { a with at_:=6 }) })) 0 [1,2,3,4,5,6,8,7,9,10]] [0] ?_ ?_ ?_<;> simp[zH,zJ,hba,zZ,ha,zD,qE,o1,o2,o3,Rp.v,Rp.cells,qJ,qQ,qK,qP,qO,zW,zY,qM,qN]<;> exact hes
 ·refine zA [.pack (GD.att { a with at_:=6 }) 7 [12,13],.pack (GD.eng ({ s with ts:=zZ s.ts 2 (some { a with at_:=6 }) })) 0 [1,2,3,4,5,6,8,9,7,10]] [0] ?_ ?_ ?_<;> simp[zH,zJ,hba,zZ,ha,zD,qE,o1,o2,o3,Rp.v,Rp.cells,qJ,qQ,qK,qP,qO,zW,zY,qM,qN]<;> exact hes
 ·refine zA [.pack (GD.att { a with at_:=6 }) 7 [12,13],.pack (GD.eng ({ s with ts:=zZ s.ts 3 (some { a with at_:=6 }) })) 0 [1,2,3,4,5,6,8,9,10,7]] [0] ?_ ?_ ?_<;> simp[zH,zJ,hba,zZ,ha,zD,qE,o1,o2,o3,Rp.v,Rp.cells,qJ,qQ,qK,qP,qO,zW,zY,qM,qN]<;> exact hes
theorem qFx (s:NS) (hs:s.Ok) (hev:s.ev.length<=100000) (th:Nat) (hth:th<4) (a:Att) (ha:s.ts th=some a) (hk:a.asked=true) (e:Ent) (hat:a.at_=5) (hx:a.es[a.nx]?=some e) (hsm:zDl ((s.hp[e.t.toNat]?).getD 0) e.v=true):zP Tryz.prog cfg 28 [.pointer (some ⟨0,0,none⟩),.int .i64 th] (AH.of [some (.hi (.eng s))])
  fun r H'=> r=.ret (qJ).v/\H'=AH.of [some (.hi (.eng ({ s with ts:=zZ s.ts th (some { a with at_:=5,nx:=a.nx+1 }) })))]:=by
 refine zP.ends ?_
 generalize hS:(({ s with ts:=zZ s.ts th (some { a with at_:=5,nx:=a.nx+1 }) }):NS)=S'
 refine zP.openEng hth fun es cc hes=> ?_
 have ft:=jE hth hes
 have z1:¬(th:Int)<0:=by omega
 have z2:¬4<=(th:Int):=by omega
 have hok:=hs.ts th a ha
 have hac:=xM a hk
 have hk0:¬a.ra.k=0:=by have:=(hok.ask hk).1;omega
 have hel:(s.ev.length+1)*32<=140737488355328/\s.ev.length<=9223372036854775806:=by omega
 have t3:=jB s.ev
 have hg8:=hok.es.len
 have hgu:=hok.es.uniq
 have hlt:=(List.getElem?_eq_some_iff.1 hx).1
 have hne:¬(a.nx:Int)=a.es.length:=by omega
 have hlt2:(a.nx:Int)<a.es.length:=by omega
 have her:=hok.es.range e (List.mem_of_getElem? hx)
 have het:=hok.est e (List.mem_of_getElem? hx)
 obtain⟨rx,rv⟩:=zLk hx
 have hnx:=hok.nx
 have hwr:IntKind.i64.wrap ((a.nx:Int)+1)=((a.nx+1:Nat):Int):=by rw[qX (by omega) (by omega)];omega
 obtain⟨y,hy⟩:∃y,s.hp[e.t.toNat]?=some y:=⟨s.hp[e.t.toNat]'(by omega),List.getElem?_eq_getElem (by omega)⟩
 rw[hy,Option.getD_some] at hsm
 have hyv:=hs.hv y (List.mem_of_getElem? hy)
 have uy:=zEb hy
 refine zX (tbl:=jY) zAa 0 5 (af:=a28) rfl ?_
 rw[a28,b28,qB]
 refine⟨by simp,?_⟩
 simp -implicitDefEqProofs [jA,jY,qC,forms79,a79,b79,forms83,a83,b83,forms85,a85,b85,forms86,a86,b86,forms136,a136,b136,forms87,a87,b87,forms89,a89,b89,forms90,a90,b90,forms91,a91,b91,forms142,a142,b142,forms138,a138,b138,z1,z2,ha,ft,jO,zD,zH,hac,hk0,hel,t3,qT,zIv,zH6,hat,hne,hlt,hlt2,hg8,hgu,rx,rv,her,het,uy,hsm,hyv,hwr]
 have htp:=zAr th s.ts (b:={ a with at_:=5,nx:=a.nx+1 }) ha
 rw[←htp] at hes
 subst hS
 have hba:Att.ask { a with at_:=5,nx:=a.nx+1 }=a.ra:=by simp[Att.ask,hk]
 rcases qH hth with rfl|rfl|rfl|rfl
 ·refine zA [.pack (GD.att { a with at_:=5,nx:=a.nx+1 }) 7 [12,13],.pack (GD.eng ({ s with ts:=zZ s.ts 0 (some { a with at_:=5,nx:=a.nx+1 }) })) 0 [1,2,3,4,5,6,7,8,9,10]] [0] ?_ ?_ ?_<;> simp[zH,zJ,hba,zZ,ha,zD,qE,o1,o2,o3,Rp.v,Rp.cells,qJ,qQ,qK,qP,qO,zW,zY,qM,qN]<;> exact hes
 ·refine zA [.pack (GD.att { a with at_:=5,nx:=a.nx+1 }) 7 [12,13],.pack (GD.eng ({ s with ts:=zZ s.ts 1 (some { a with at_:=5,nx:=a.nx+1 }) })) 0 [1,2,3,4,5,6,8,7,9,10]] [0] ?_ ?_ ?_<;> simp[zH,zJ,hba,zZ,ha,zD,qE,o1,o2,o3,Rp.v,Rp.cells,qJ,qQ,qK,qP,qO,zW,zY,qM,qN]<;> exact hes
 ·refine zA [.pack (GD.att { a with at_:=5,nx:=a.nx+1 }) 7 [12,13],.pack (GD.eng ({ s with ts:=zZ s.ts 2 (some { a with at_:=5,nx:=a.nx+1 }) })) 0 [1,2,3,4,5,6,8,9,7,10]] [0] ?_ ?_ ?_<;> simp[zH,zJ,hba,zZ,ha,zD,qE,o1,o2,o3,Rp.v,Rp.cells,qJ,qQ,qK,qP,qO,zW,zY,qM,qN]<;> exact hes
 ·refine zA [.pack (GD.att { a with at_:=5,nx:=a.nx+1 }) 7 [12,13],.pack (GD.eng ({ s with ts:=zZ s.ts 3 (some { a with at_:=5,nx:=a.nx+1 }) })) 0 [1,2,3,4,5,6,8,9,10,7]] [0] ?_ ?_ ?_<;> simp[zH,zJ,hba,zZ,ha,zD,qE,o1,o2,o3,Rp.v,Rp.cells,qJ,qQ,qK,qP,qO,zW,zY,qM,qN]<;> exact hes
theorem qFv (s:NS) (hs:s.Ok) (hev:s.ev.length<=100000) (th:Nat) (hth:th<4) (a:Att) (ha:s.ts th=some a) (hk:a.asked=true) (hat:a.at_=6) (hc:s.c=a.seen):zP Tryz.prog cfg 28 [.pointer (some ⟨0,0,none⟩),.int .i64 th] (AH.of [some (.hi (.eng s))])
  fun r H'=> r=.ret (qJ).v/\H'=AH.of [some (.hi (.eng ({ s with ts:=zZ s.ts th (some { a with snap:=a.seen,at_:=a.back }),ky:=s.ky.set a.n (a.seen+1) })))]:=by
 refine zP.ends ?_
 generalize hS:(({ s with ts:=zZ s.ts th (some { a with snap:=a.seen,at_:=a.back }),ky:=s.ky.set a.n (a.seen+1) }):NS)=S'
 refine zP.openEng hth fun es cc hes=> ?_
 have ft:=jE hth hes
 have z1:¬(th:Int)<0:=by omega
 have z2:¬4<=(th:Int):=by omega
 have hok:=hs.ts th a ha
 have hac:=xM a hk
 have hk0:¬a.ra.k=0:=by have:=(hok.ask hk).1;omega
 have hel:(s.ev.length+1)*32<=140737488355328/\s.ev.length<=9223372036854775806:=by omega
 have t3:=jB s.ev
 have hnk:a.n<s.ky.length:=by have:=hok.n;have:=hs.kw;omega
 have hnk2:(a.n:Int)<s.ky.length:=by omega
 have hnk3:a.n+1<=s.ky.length:=by omega
 have hse:=hok.seen
 have hsc:=hs.c
 have hw1:IntKind.u64.wrap (a.seen+1)=a.seen+1:=zBn (by omega) (by omega)
 refine zX (tbl:=jY) zAa 0 5 (af:=a28) rfl ?_
 rw[a28,b28,qB]
 refine⟨by simp,?_⟩
 simp -implicitDefEqProofs [jA,jY,qC,forms79,a79,b79,forms83,a83,b83,forms85,a85,b85,forms86,a86,b86,forms136,a136,b136,forms87,a87,b87,forms89,a89,b89,forms90,a90,b90,forms91,a91,b91,forms142,a142,b142,forms138,a138,b138,z1,z2,ha,ft,jO,zD,zH,hac,hk0,hel,t3,qT,zKu,hat,hc,hnk,hnk2,hnk3,hw1,zC5,qM]
 have htp:=zAr th s.ts (b:={ a with snap:=a.seen,at_:=a.back }) ha
 rw[←htp] at hes
 subst hS
 have hba:Att.ask { a with snap:=a.seen,at_:=a.back }=a.ra:=by simp[Att.ask,hk]
 rcases qH hth with rfl|rfl|rfl|rfl
 ·refine zA [.pack (GD.att { a with snap:=a.seen,at_:=a.back }) 7 [12,13],.pack (GD.eng ({ s with ts:=zZ s.ts 0 (some { a with snap:=a.seen,at_:=a.back }),ky:=s.ky.set a.n (a.seen+1) })) 0 [1,2,3,4,5,6,7,8,9,10]] [0] ?_ ?_ ?_<;> simp[zH,zJ,hba,zZ,ha,zD,qE,o1,o2,o3,Rp.v,Rp.cells,qJ,qQ,qK,qP,qO,zW,zY,qM,qN,hc]<;> exact hes
 ·refine zA [.pack (GD.att { a with snap:=a.seen,at_:=a.back }) 7 [12,13],.pack (GD.eng ({ s with ts:=zZ s.ts 1 (some { a with snap:=a.seen,at_:=a.back }),ky:=s.ky.set a.n (a.seen+1) })) 0 [1,2,3,4,5,6,8,7,9,10]] [0] ?_ ?_ ?_<;> simp[zH,zJ,hba,zZ,ha,zD,qE,o1,o2,o3,Rp.v,Rp.cells,qJ,qQ,qK,qP,qO,zW,zY,qM,qN,hc]<;> exact hes
 ·refine zA [.pack (GD.att { a with snap:=a.seen,at_:=a.back }) 7 [12,13],.pack (GD.eng ({ s with ts:=zZ s.ts 2 (some { a with snap:=a.seen,at_:=a.back }),ky:=s.ky.set a.n (a.seen+1) })) 0 [1,2,3,4,5,6,8,9,7,10]] [0] ?_ ?_ ?_<;> simp[zH,zJ,hba,zZ,ha,zD,qE,o1,o2,o3,Rp.v,Rp.cells,qJ,qQ,qK,qP,qO,zW,zY,qM,qN,hc]<;> exact hes
 ·refine zA [.pack (GD.att { a with snap:=a.seen,at_:=a.back }) 7 [12,13],.pack (GD.eng ({ s with ts:=zZ s.ts 3 (some { a with snap:=a.seen,at_:=a.back }),ky:=s.ky.set a.n (a.seen+1) })) 0 [1,2,3,4,5,6,8,9,10,7]] [0] ?_ ?_ ?_<;> simp[zH,zJ,hba,zZ,ha,zD,qE,o1,o2,o3,Rp.v,Rp.cells,qJ,qQ,qK,qP,qO,zW,zY,qM,qN,hc]<;> exact hes
theorem qFw (s:NS) (hs:s.Ok) (hev:s.ev.length<=100000) (th:Nat) (hth:th<4) (a:Att) (ha:s.ts th=some a) (hk:a.asked=true) (hat:a.at_=6) (hc:¬s.c=a.seen):zP Tryz.prog cfg 28 [.pointer (some ⟨0,0,none⟩),.int .i64 th] (AH.of [some (.hi (.eng s))])
  fun r H'=> r=.ret (qJ).v/\H'=AH.of [some (.hi (.eng ({ s with ts:=zZ s.ts th (some { a with at_:=4 }) })))]:=by
 refine zP.ends ?_
 generalize hS:(({ s with ts:=zZ s.ts th (some { a with at_:=4 }) }):NS)=S'
 refine zP.openEng hth fun es cc hes=> ?_
 have ft:=jE hth hes
 have z1:¬(th:Int)<0:=by omega
 have z2:¬4<=(th:Int):=by omega
 have hok:=hs.ts th a ha
 have hac:=xM a hk
 have hk0:¬a.ra.k=0:=by have:=(hok.ask hk).1;omega
 have hel:(s.ev.length+1)*32<=140737488355328/\s.ev.length<=9223372036854775806:=by omega
 have t3:=jB s.ev
 refine zX (tbl:=jY) zAa 0 5 (af:=a28) rfl ?_
 rw[a28,b28,qB]
 refine⟨by simp,?_⟩
 simp -implicitDefEqProofs [jA,jY,qC,forms79,a79,b79,forms83,a83,b83,forms85,a85,b85,forms86,a86,b86,forms136,a136,b136,forms87,a87,b87,forms89,a89,b89,forms90,a90,b90,forms91,a91,b91,forms142,a142,b142,forms138,a138,b138,z1,z2,ha,ft,jO,zD,zH,hac,hk0,hel,t3,qT,zKu,hat,hc]
 have htp:=zAr th s.ts (b:={ a with at_:=4 }) ha
 rw[←htp] at hes
 subst hS
 have hba:Att.ask { a with at_:=4 }=a.ra:=by simp[Att.ask,hk]
 rcases qH hth with rfl|rfl|rfl|rfl
 ·refine zA [.pack (GD.att { a with at_:=4 }) 7 [12,13],.pack (GD.eng ({ s with ts:=zZ s.ts 0 (some { a with at_:=4 }) })) 0 [1,2,3,4,5,6,7,8,9,10]] [0] ?_ ?_ ?_<;> simp[zH,zJ,hba,zZ,ha,zD,qE,o1,o2,o3,Rp.v,Rp.cells,qJ,qQ,qK,qP,qO,zW,zY,qM,qN]<;> exact hes
 ·refine zA [.pack (GD.att { a with at_:=4 }) 7 [12,13],.pack (GD.eng ({ s with ts:=zZ s.ts 1 (some { a with at_:=4 }) })) 0 [1,2,3,4,5,6,8,7,9,10]] [0] ?_ ?_ ?_<;> simp[zH,zJ,hba,zZ,ha,zD,qE,o1,o2,o3,Rp.v,Rp.cells,qJ,qQ,qK,qP,qO,zW,zY,qM,qN]<;> exact hes
 ·refine zA [.pack (GD.att { a with at_:=4 }) 7 [12,13],.pack (GD.eng ({ s with ts:=zZ s.ts 2 (some { a with at_:=4 }) })) 0 [1,2,3,4,5,6,8,9,7,10]] [0] ?_ ?_ ?_<;> simp[zH,zJ,hba,zZ,ha,zD,qE,o1,o2,o3,Rp.v,Rp.cells,qJ,qQ,qK,qP,qO,zW,zY,qM,qN]<;> exact hes
 ·refine zA [.pack (GD.att { a with at_:=4 }) 7 [12,13],.pack (GD.eng ({ s with ts:=zZ s.ts 3 (some { a with at_:=4 }) })) 0 [1,2,3,4,5,6,8,9,10,7]] [0] ?_ ?_ ?_<;> simp[zH,zJ,hba,zZ,ha,zD,qE,o1,o2,o3,Rp.v,Rp.cells,qJ,qQ,qK,qP,qO,zW,zY,qM,qN]<;> exact hes
theorem qF0 (s:NS) (hs:s.Ok) (hev:s.ev.length<=100000) (th:Nat) (hth:th<4) (a:Att) (ha:s.ts th=some a) (hk:a.asked=true) (x:Int) (hat:a.at_=4) (ho:s.o=some x):zP Tryz.prog cfg 28 [.pointer (some ⟨0,0,none⟩),.int .i64 th] (AH.of [some (.hi (.eng s))])
  fun r H'=> r=.ret (qO x).v/\H'=AH.of [some (.hi (.eng (s)))]:=by
 refine zP.ends ?_
 refine zP.openEng hth fun es cc hes=> ?_
 have ft:=jE hth hes
 have z1:¬(th:Int)<0:=by omega
 have z2:¬4<=(th:Int):=by omega
 have hok:=hs.ts th a ha
 have hac:=xM a hk
 have hk0:¬a.ra.k=0:=by have:=(hok.ask hk).1;omega
 have hel:(s.ev.length+1)*32<=140737488355328/\s.ev.length<=9223372036854775806:=by omega
 have t3:=jB s.ev
 refine zX (tbl:=jY) zAa 0 5 (af:=a28) rfl ?_
 rw[a28,b28,qB]
 refine⟨by simp,?_⟩
 simp -implicitDefEqProofs [jA,jY,qC,forms79,a79,b79,forms83,a83,b83,forms85,a85,b85,forms86,a86,b86,forms136,a136,b136,forms87,a87,b87,forms89,a89,b89,forms90,a90,b90,forms91,a91,b91,forms142,a142,b142,forms138,a138,b138,z1,z2,ha,ft,jO,zD,zH,hac,hk0,hel,t3,qT,d80,d94,hat,ho,zDw,zEg]
 have hba:True:=trivial
 rcases qH hth with rfl|rfl|rfl|rfl
 ·refine zA [.pack (GD.att a) 7 [12,13],.pack (GD.eng s) 0 [1,2,3,4,5,6,7,8,9,10]] [0] ?_ ?_ ?_<;> simp[zH,zJ,hba,zZ,ha,zD,qE,o1,o2,o3,Rp.v,Rp.cells,qJ,qQ,qK,qP,qO,zW,zY,qM,qN,ho,hac,hat]<;> exact hes
 ·refine zA [.pack (GD.att a) 7 [12,13],.pack (GD.eng s) 0 [1,2,3,4,5,6,8,7,9,10]] [0] ?_ ?_ ?_<;> simp[zH,zJ,hba,zZ,ha,zD,qE,o1,o2,o3,Rp.v,Rp.cells,qJ,qQ,qK,qP,qO,zW,zY,qM,qN,ho,hac,hat]<;> exact hes
 ·refine zA [.pack (GD.att a) 7 [12,13],.pack (GD.eng s) 0 [1,2,3,4,5,6,8,9,7,10]] [0] ?_ ?_ ?_<;> simp[zH,zJ,hba,zZ,ha,zD,qE,o1,o2,o3,Rp.v,Rp.cells,qJ,qQ,qK,qP,qO,zW,zY,qM,qN,ho,hac,hat]<;> exact hes
 ·refine zA [.pack (GD.att a) 7 [12,13],.pack (GD.eng s) 0 [1,2,3,4,5,6,8,9,10,7]] [0] ?_ ?_ ?_<;> simp[zH,zJ,hba,zZ,ha,zD,qE,o1,o2,o3,Rp.v,Rp.cells,qJ,qQ,qK,qP,qO,zW,zY,qM,qN,ho,hac,hat]<;> exact hes
end YtnemoimbeefngaaGreat
end Go.Proofs
namespace Go.Proofs
namespace YtnemoimbeefngaaGreat
open Go.Abs
theorem qA6 (s:NS) (hs:s.Ok) (hev:s.ev.length<=100000) (th:Nat) (hth:th<4) (a:Att) (ha:s.ts th=some a) (hk:a.asked=true) (e:Ent) (hat:a.at_=5) (hx:a.es[a.nx]?=some e) (hsm:zDl ((s.hp[e.t.toNat]?).getD 0) e.v=false) (ho:s.o=some (th:Int)):zP Tryz.prog cfg 28 [.pointer (some ⟨0,0,none⟩),.int .i64 th] (AH.of [some (.hi (.eng s))])
  fun r H'=> r=.ret (qP 1).v/\H'=AH.of [some (.hi (.eng (qY s th a 1)))]:=by
 refine zP.ends ?_
 generalize hS:((qY s th a 1):NS)=S'
 refine zP.openEng hth fun es cc hes=> ?_
 have ft:=jE hth hes
 have z1:¬(th:Int)<0:=by omega
 have z2:¬4<=(th:Int):=by omega
 have hok:=hs.ts th a ha
 have hac:=xM a hk
 have hk0:¬a.ra.k=0:=by have:=(hok.ask hk).1;omega
 have hel:(s.ev.length+1)*32<=140737488355328/\s.ev.length<=9223372036854775806:=by omega
 have t3:=jB s.ev
 have hg8:=hok.es.len
 have hgu:=hok.es.uniq
 have hlt:=(List.getElem?_eq_some_iff.1 hx).1
 have hne:¬(a.nx:Int)=a.es.length:=by omega
 have hlt2:(a.nx:Int)<a.es.length:=by omega
 have her:=hok.es.range e (List.mem_of_getElem? hx)
 have het:=hok.est e (List.mem_of_getElem? hx)
 obtain⟨rx,rv⟩:=zLk hx
 obtain⟨y,hy⟩:∃y,s.hp[e.t.toNat]?=some y:=⟨s.hp[e.t.toNat]'(by omega),List.getElem?_eq_getElem (by omega)⟩
 rw[hy,Option.getD_some] at hsm
 have hyv:=hs.hv y (List.mem_of_getElem? hy)
 have uy:=zEb hy
 have hnw3:a.n+1<=s.wy.length:=hok.n
 have hcw:IntKind.u64.wrap (s.c - 1)=s.c - 1:=by have h1:=hs.held _ ho;have h2:=hs.c;exact zBn (by omega) (by omega)
 have hnw:=hok.n
 have hnw2:(a.n:Int)<s.wy.length:=by omega
 obtain⟨es2,hdel,hes2⟩:=zE3 hth hes
 refine zX (tbl:=jY) zAa 0 5 (af:=a28) rfl ?_
 rw[a28,b28,qB]
 refine⟨by simp,?_⟩
 simp -implicitDefEqProofs [jA,jY,qC,forms79,a79,b79,forms83,a83,b83,forms85,a85,b85,forms86,a86,b86,forms136,a136,b136,forms87,a87,b87,forms89,a89,b89,forms90,a90,b90,forms91,a91,b91,forms142,a142,b142,forms138,a138,b138,z1,z2,ha,ft,jO,zD,zH,hac,hk0,hel,t3,qT,zIv,zH6,hat,hne,hlt,hlt2,hg8,hgu,rx,rv,her,het,uy,hsm,hyv,zHb,ho,hnw,hnw2,hnw3,zCq,qN,hcw,hdel]
 subst hS
 have hba:True:=trivial
 rcases qH hth with rfl|rfl|rfl|rfl
 ·have ho0:s.o=some 0:=ho
  refine zA [.nil 100,.pack (GD.eng (qY s 0 a 1)) 0 [1,2,3,19,5,6,20,8,9,10]] [0] ?_ ?_ ?_<;> simp[zH,zJ,hba,zZ,ha,zD,qE,o1,o2,o3,Rp.v,Rp.cells,qJ,qQ,qK,qP,qO,zW,zY,qM,qN,qY,ho0]<;> exact hes2
 ·have ho0:s.o=some 1:=ho
  refine zA [.nil 100,.pack (GD.eng (qY s 1 a 1)) 0 [1,2,3,19,5,6,8,20,9,10]] [0] ?_ ?_ ?_<;> simp[zH,zJ,hba,zZ,ha,zD,qE,o1,o2,o3,Rp.v,Rp.cells,qJ,qQ,qK,qP,qO,zW,zY,qM,qN,qY,ho0]<;> exact hes2
 ·have ho0:s.o=some 2:=ho
  refine zA [.nil 100,.pack (GD.eng (qY s 2 a 1)) 0 [1,2,3,19,5,6,8,9,20,10]] [0] ?_ ?_ ?_<;> simp[zH,zJ,hba,zZ,ha,zD,qE,o1,o2,o3,Rp.v,Rp.cells,qJ,qQ,qK,qP,qO,zW,zY,qM,qN,qY,ho0]<;> exact hes2
 ·have ho0:s.o=some 3:=ho
  refine zA [.nil 100,.pack (GD.eng (qY s 3 a 1)) 0 [1,2,3,19,5,6,8,9,10,20]] [0] ?_ ?_ ?_<;> simp[zH,zJ,hba,zZ,ha,zD,qE,o1,o2,o3,Rp.v,Rp.cells,qJ,qQ,qK,qP,qO,zW,zY,qM,qN,qY,ho0]<;> exact hes2
theorem qA7 (s:NS) (hs:s.Ok) (hev:s.ev.length<=100000) (th:Nat) (hth:th<4) (a:Att) (ha:s.ts th=some a) (hk:a.asked=true) (e:Ent) (hat:a.at_=5) (hx:a.es[a.nx]?=some e) (hsm:zDl ((s.hp[e.t.toNat]?).getD 0) e.v=false) (ho:¬s.o=some (th:Int)):zP Tryz.prog cfg 28 [.pointer (some ⟨0,0,none⟩),.int .i64 th] (AH.of [some (.hi (.eng s))])
  fun r H'=> r=.ret (qP 1).v/\H'=AH.of [some (.hi (.eng (qY s th a 1)))]:=by
 refine zP.ends ?_
 generalize hS:((qY s th a 1):NS)=S'
 refine zP.openEng hth fun es cc hes=> ?_
 have ft:=jE hth hes
 have z1:¬(th:Int)<0:=by omega
 have z2:¬4<=(th:Int):=by omega
 have hok:=hs.ts th a ha
 have hac:=xM a hk
 have hk0:¬a.ra.k=0:=by have:=(hok.ask hk).1;omega
 have hel:(s.ev.length+1)*32<=140737488355328/\s.ev.length<=9223372036854775806:=by omega
 have t3:=jB s.ev
 have hg8:=hok.es.len
 have hgu:=hok.es.uniq
 have hlt:=(List.getElem?_eq_some_iff.1 hx).1
 have hne:¬(a.nx:Int)=a.es.length:=by omega
 have hlt2:(a.nx:Int)<a.es.length:=by omega
 have her:=hok.es.range e (List.mem_of_getElem? hx)
 have het:=hok.est e (List.mem_of_getElem? hx)
 obtain⟨rx,rv⟩:=zLk hx
 obtain⟨y,hy⟩:∃y,s.hp[e.t.toNat]?=some y:=⟨s.hp[e.t.toNat]'(by omega),List.getElem?_eq_getElem (by omega)⟩
 rw[hy,Option.getD_some] at hsm
 have hyv:=hs.hv y (List.mem_of_getElem? hy)
 have uy:=zEb hy
 have hnw3:a.n+1<=s.wy.length:=hok.n
 have hnw:=hok.n
 have hnw2:(a.n:Int)<s.wy.length:=by omega
 obtain⟨es2,hdel,hes2⟩:=zE3 hth hes
 refine zX (tbl:=jY) zAa 0 5 (af:=a28) rfl ?_
 rw[a28,b28,qB]
 refine⟨by simp,?_⟩
 simp -implicitDefEqProofs [jA,jY,qC,forms79,a79,b79,forms83,a83,b83,forms85,a85,b85,forms86,a86,b86,forms136,a136,b136,forms87,a87,b87,forms89,a89,b89,forms90,a90,b90,forms91,a91,b91,forms142,a142,b142,forms138,a138,b138,z1,z2,ha,ft,jO,zD,zH,hac,hk0,hel,t3,qT,zIv,zH6,hat,hne,hlt,hlt2,hg8,hgu,rx,rv,her,het,uy,hsm,hyv,zHb,ho,hnw,hnw2,hnw3,zCq,qN,hdel]
 subst hS
 have hba:True:=trivial
 rcases qH hth with rfl|rfl|rfl|rfl
 ·have ho0:¬s.o=some 0:=ho
  refine zA [.nil 100,.pack (GD.eng (qY s 0 a 1)) 0 [1,2,3,19,5,6,20,8,9,10]] [0] ?_ ?_ ?_<;> simp[zH,zJ,hba,zZ,ha,zD,qE,o1,o2,o3,Rp.v,Rp.cells,qJ,qQ,qK,qP,qO,zW,zY,qM,qN,qY,ho0]<;> exact hes2
 ·have ho0:¬s.o=some 1:=ho
  refine zA [.nil 100,.pack (GD.eng (qY s 1 a 1)) 0 [1,2,3,19,5,6,8,20,9,10]] [0] ?_ ?_ ?_<;> simp[zH,zJ,hba,zZ,ha,zD,qE,o1,o2,o3,Rp.v,Rp.cells,qJ,qQ,qK,qP,qO,zW,zY,qM,qN,qY,ho0]<;> exact hes2
 ·have ho0:¬s.o=some 2:=ho
  refine zA [.nil 100,.pack (GD.eng (qY s 2 a 1)) 0 [1,2,3,19,5,6,8,9,20,10]] [0] ?_ ?_ ?_<;> simp[zH,zJ,hba,zZ,ha,zD,qE,o1,o2,o3,Rp.v,Rp.cells,qJ,qQ,qK,qP,qO,zW,zY,qM,qN,qY,ho0]<;> exact hes2
 ·have ho0:¬s.o=some 3:=ho
  refine zA [.nil 100,.pack (GD.eng (qY s 3 a 1)) 0 [1,2,3,19,5,6,8,9,10,20]] [0] ?_ ?_ ?_<;> simp[zH,zJ,hba,zZ,ha,zD,qE,o1,o2,o3,Rp.v,Rp.cells,qJ,qQ,qK,qP,qO,zW,zY,qM,qN,qY,ho0]<;> exact hes2
theorem qFn (s:NS) (hs:s.Ok) (hev:s.ev.length<=100000) (th:Nat) (hth:th<4) (a:Att) (ha:s.ts th=some a) (hk:a.asked=true) (hat:a.at_<4) (hk7:a.ra.k=7) (ho:s.o=some (th:Int)):zP Tryz.prog cfg 28 [.pointer (some ⟨0,0,none⟩),.int .i64 th] (AH.of [some (.hi (.eng s))])
  fun r H'=> r=.ret (qP 4).v/\H'=AH.of [some (.hi (.eng (qY s th a 4)))]:=by
 refine zP.ends ?_
 generalize hS:((qY s th a 4):NS)=S'
 refine zP.openEng hth fun es cc hes=> ?_
 have ft:=jE hth hes
 have z1:¬(th:Int)<0:=by omega
 have z2:¬4<=(th:Int):=by omega
 have hok:=hs.ts th a ha
 have hac:=xM a hk
 have hk0:¬a.ra.k=0:=by have:=(hok.ask hk).1;omega
 have hel:(s.ev.length+1)*32<=140737488355328/\s.ev.length<=9223372036854775806:=by omega
 have t3:=jB s.ev
 have hlo:¬4<=(a.at_:Int):=by omega
 have hlo2:¬4<=a.at_:=by omega
 have hnw3:a.n+1<=s.wy.length:=hok.n
 have hcw:IntKind.u64.wrap (s.c - 1)=s.c - 1:=by have h1:=hs.held _ ho;have h2:=hs.c;exact zBn (by omega) (by omega)
 have hnw:=hok.n
 have hnw2:(a.n:Int)<s.wy.length:=by omega
 obtain⟨es2,hdel,hes2⟩:=zE3 hth hes
 refine zX (tbl:=jY) zAa 0 5 (af:=a28) rfl ?_
 rw[a28,b28,qB]
 refine⟨by simp,?_⟩
 simp -implicitDefEqProofs [jA,jY,qC,forms79,a79,b79,forms83,a83,b83,forms85,a85,b85,forms86,a86,b86,forms136,a136,b136,forms87,a87,b87,forms89,a89,b89,forms90,a90,b90,forms91,a91,b91,forms142,a142,b142,forms138,a138,b138,z1,z2,ha,ft,jO,zD,zH,hac,hk0,hel,t3,qT,hlo,hlo2,hk7,zHb,ho,hnw,hnw2,hnw3,zCq,qN,hcw,hdel]
 subst hS
 have hba:True:=trivial
 rcases qH hth with rfl|rfl|rfl|rfl
 ·have ho0:s.o=some 0:=ho
  refine zA [.nil 100,.pack (GD.eng (qY s 0 a 4)) 0 [1,2,3,17,5,6,18,8,9,10]] [0] ?_ ?_ ?_<;> simp[zH,zJ,hba,zZ,ha,zD,qE,o1,o2,o3,Rp.v,Rp.cells,qJ,qQ,qK,qP,qO,zW,zY,qM,qN,qY,ho0]<;> exact hes2
 ·have ho0:s.o=some 1:=ho
  refine zA [.nil 100,.pack (GD.eng (qY s 1 a 4)) 0 [1,2,3,17,5,6,8,18,9,10]] [0] ?_ ?_ ?_<;> simp[zH,zJ,hba,zZ,ha,zD,qE,o1,o2,o3,Rp.v,Rp.cells,qJ,qQ,qK,qP,qO,zW,zY,qM,qN,qY,ho0]<;> exact hes2
 ·have ho0:s.o=some 2:=ho
  refine zA [.nil 100,.pack (GD.eng (qY s 2 a 4)) 0 [1,2,3,17,5,6,8,9,18,10]] [0] ?_ ?_ ?_<;> simp[zH,zJ,hba,zZ,ha,zD,qE,o1,o2,o3,Rp.v,Rp.cells,qJ,qQ,qK,qP,qO,zW,zY,qM,qN,qY,ho0]<;> exact hes2
 ·have ho0:s.o=some 3:=ho
  refine zA [.nil 100,.pack (GD.eng (qY s 3 a 4)) 0 [1,2,3,17,5,6,8,9,10,18]] [0] ?_ ?_ ?_<;> simp[zH,zJ,hba,zZ,ha,zD,qE,o1,o2,o3,Rp.v,Rp.cells,qJ,qQ,qK,qP,qO,zW,zY,qM,qN,qY,ho0]<;> exact hes2
theorem qFo (s:NS) (hs:s.Ok) (hev:s.ev.length<=100000) (th:Nat) (hth:th<4) (a:Att) (ha:s.ts th=some a) (hk:a.asked=true) (hat:a.at_<4) (hk7:a.ra.k=7) (ho:¬s.o=some (th:Int)):zP Tryz.prog cfg 28 [.pointer (some ⟨0,0,none⟩),.int .i64 th] (AH.of [some (.hi (.eng s))])
  fun r H'=> r=.ret (qP 4).v/\H'=AH.of [some (.hi (.eng (qY s th a 4)))]:=by
 refine zP.ends ?_
 generalize hS:((qY s th a 4):NS)=S'
 refine zP.openEng hth fun es cc hes=> ?_
 have ft:=jE hth hes
 have z1:¬(th:Int)<0:=by omega
 have z2:¬4<=(th:Int):=by omega
 have hok:=hs.ts th a ha
 have hac:=xM a hk
 have hk0:¬a.ra.k=0:=by have:=(hok.ask hk).1;omega
 have hel:(s.ev.length+1)*32<=140737488355328/\s.ev.length<=9223372036854775806:=by omega
 have t3:=jB s.ev
 have hlo:¬4<=(a.at_:Int):=by omega
 have hlo2:¬4<=a.at_:=by omega
 have hnw3:a.n+1<=s.wy.length:=hok.n
 have hnw:=hok.n
 have hnw2:(a.n:Int)<s.wy.length:=by omega
 obtain⟨es2,hdel,hes2⟩:=zE3 hth hes
 refine zX (tbl:=jY) zAa 0 5 (af:=a28) rfl ?_
 rw[a28,b28,qB]
 refine⟨by simp,?_⟩
 simp -implicitDefEqProofs [jA,jY,qC,forms79,a79,b79,forms83,a83,b83,forms85,a85,b85,forms86,a86,b86,forms136,a136,b136,forms87,a87,b87,forms89,a89,b89,forms90,a90,b90,forms91,a91,b91,forms142,a142,b142,forms138,a138,b138,z1,z2,ha,ft,jO,zD,zH,hac,hk0,hel,t3,qT,hlo,hlo2,hk7,zHb,ho,hnw,hnw2,hnw3,zCq,qN,hdel]
 subst hS
 have hba:True:=trivial
 rcases qH hth with rfl|rfl|rfl|rfl
 ·have ho0:¬s.o=some 0:=ho
  refine zA [.nil 100,.pack (GD.eng (qY s 0 a 4)) 0 [1,2,3,17,5,6,18,8,9,10]] [0] ?_ ?_ ?_<;> simp[zH,zJ,hba,zZ,ha,zD,qE,o1,o2,o3,Rp.v,Rp.cells,qJ,qQ,qK,qP,qO,zW,zY,qM,qN,qY,ho0]<;> exact hes2
 ·have ho0:¬s.o=some 1:=ho
  refine zA [.nil 100,.pack (GD.eng (qY s 1 a 4)) 0 [1,2,3,17,5,6,8,18,9,10]] [0] ?_ ?_ ?_<;> simp[zH,zJ,hba,zZ,ha,zD,qE,o1,o2,o3,Rp.v,Rp.cells,qJ,qQ,qK,qP,qO,zW,zY,qM,qN,qY,ho0]<;> exact hes2
 ·have ho0:¬s.o=some 2:=ho
  refine zA [.nil 100,.pack (GD.eng (qY s 2 a 4)) 0 [1,2,3,17,5,6,8,9,18,10]] [0] ?_ ?_ ?_<;> simp[zH,zJ,hba,zZ,ha,zD,qE,o1,o2,o3,Rp.v,Rp.cells,qJ,qQ,qK,qP,qO,zW,zY,qM,qN,qY,ho0]<;> exact hes2
 ·have ho0:¬s.o=some 3:=ho
  refine zA [.nil 100,.pack (GD.eng (qY s 3 a 4)) 0 [1,2,3,17,5,6,8,9,10,18]] [0] ?_ ?_ ?_<;> simp[zH,zJ,hba,zZ,ha,zD,qE,o1,o2,o3,Rp.v,Rp.cells,qJ,qQ,qK,qP,qO,zW,zY,qM,qN,qY,ho0]<;> exact hes2
end YtnemoimbeefngaaGreat
end Go.Proofs
namespace Go.Proofs
namespace YtnemoimbeefngaaGreat
open Go.Abs
theorem qLg (s:NS) (hs:s.Ok) (hev:s.ev.length<=100000) (th:Nat) (hth:th<4) (a:Att) (ha:s.ts th=some a) (hk:a.asked=true) (hat:a.at_<4) (hk1:a.ra.k=1) (v:Int) (hv:zAd a.fs a.ra.t=some v):zP Tryz.prog cfg 28 [.pointer (some ⟨0,0,none⟩),.int .i64 th] (AH.of [some (.hi (.eng s))])
  fun r H'=> r=.ret (qK v).v/\H'=AH.of [some (.hi (.eng (zB5 s th (a) v)))]:=by
 refine zP.ends ?_
 generalize hS:((zB5 s th (a) v):NS)=S'
 refine zP.openEng hth fun es cc hes=> ?_
 have ft:=jE hth hes
 have z1:¬(th:Int)<0:=by omega
 have z2:¬4<=(th:Int):=by omega
 have hok:=hs.ts th a ha
 have hac:=xM a hk
 have hk0:¬a.ra.k=0:=by have:=(hok.ask hk).1;omega
 have hel:(s.ev.length+1)*32<=140737488355328/\s.ev.length<=9223372036854775806:=by omega
 have t3:=jB s.ev
 have hlo:¬4<=(a.at_:Int):=by omega
 have hlo2:¬4<=a.at_:=by omega
 have hgl:=hok.fs
 have hra:=(hok.ask hk).2.2.1 (.inl hk1)
 refine zX (tbl:=jY) zAa 0 5 (af:=a28) rfl ?_
 rw[a28,b28,qB]
 refine⟨by simp,?_⟩
 simp -implicitDefEqProofs [jA,jY,qC,forms79,a79,b79,forms83,a83,b83,forms85,a85,b85,forms86,a86,b86,forms136,a136,b136,forms87,a87,b87,forms89,a89,b89,forms90,a90,b90,forms91,a91,b91,forms142,a142,b142,forms138,a138,b138,z1,z2,ha,ft,jO,zD,zH,hac,hk0,hel,t3,qT,d88,hlo,hlo2,hk1,hgl,hv,zA0]
 have htp:=zAr th s.ts (b:={ (a) with asked:=false }) ha
 rw[←htp] at hes
 subst hS
 have hba:Att.ask { (a) with asked:=false }=⟨0,0,0⟩:=by simp[Att.ask,hk]
 rcases qH hth with rfl|rfl|rfl|rfl
 ·refine zA [.pack (GD.att { (a) with asked:=false }) 7 [12,13],.pack (GD.eng (zB5 s 0 (a) v)) 0 [1,2,3,17,5,6,7,8,9,10]] [0] ?_ ?_ ?_<;> simp[zH,zJ,hba,zZ,ha,zD,qE,o1,o2,o3,Rp.v,Rp.cells,qJ,qQ,qK,qP,qO,zW,zY,qM,qN,zB5]<;> exact hes
 ·refine zA [.pack (GD.att { (a) with asked:=false }) 7 [12,13],.pack (GD.eng (zB5 s 1 (a) v)) 0 [1,2,3,17,5,6,8,7,9,10]] [0] ?_ ?_ ?_<;> simp[zH,zJ,hba,zZ,ha,zD,qE,o1,o2,o3,Rp.v,Rp.cells,qJ,qQ,qK,qP,qO,zW,zY,qM,qN,zB5]<;> exact hes
 ·refine zA [.pack (GD.att { (a) with asked:=false }) 7 [12,13],.pack (GD.eng (zB5 s 2 (a) v)) 0 [1,2,3,17,5,6,8,9,7,10]] [0] ?_ ?_ ?_<;> simp[zH,zJ,hba,zZ,ha,zD,qE,o1,o2,o3,Rp.v,Rp.cells,qJ,qQ,qK,qP,qO,zW,zY,qM,qN,zB5]<;> exact hes
 ·refine zA [.pack (GD.att { (a) with asked:=false }) 7 [12,13],.pack (GD.eng (zB5 s 3 (a) v)) 0 [1,2,3,17,5,6,8,9,10,7]] [0] ?_ ?_ ?_<;> simp[zH,zJ,hba,zZ,ha,zD,qE,o1,o2,o3,Rp.v,Rp.cells,qJ,qQ,qK,qP,qO,zW,zY,qM,qN,zB5]<;> exact hes
theorem qLh (s:NS) (hs:s.Ok) (hev:s.ev.length<=100000) (th:Nat) (hth:th<4) (a:Att) (ha:s.ts th=some a) (hk:a.asked=true) (hat:a.at_=0) (hk1:a.ra.k=1) (hv:zAd a.fs a.ra.t=none) (y:Int) (hy:s.hp[a.ra.t.toNat]?=some y):zP Tryz.prog cfg 28 [.pointer (some ⟨0,0,none⟩),.int .i64 th] (AH.of [some (.hi (.eng s))])
  fun r H'=> r=.ret (qJ).v/\H'=AH.of [some (.hi (.eng ({ s with ts:=zZ s.ts th (some { a with val:=y,at_:=1 }) })))]:=by
 refine zP.ends ?_
 generalize hS:(({ s with ts:=zZ s.ts th (some { a with val:=y,at_:=1 }) }):NS)=S'
 refine zP.openEng hth fun es cc hes=> ?_
 have ft:=jE hth hes
 have z1:¬(th:Int)<0:=by omega
 have z2:¬4<=(th:Int):=by omega
 have hok:=hs.ts th a ha
 have hac:=xM a hk
 have hk0:¬a.ra.k=0:=by have:=(hok.ask hk).1;omega
 have hel:(s.ev.length+1)*32<=140737488355328/\s.ev.length<=9223372036854775806:=by omega
 have t3:=jB s.ev
 have hgl:=hok.fs
 have hra:=(hok.ask hk).2.2.1 (.inl hk1)
 have uy:=zEb hy
 refine zX (tbl:=jY) zAa 0 5 (af:=a28) rfl ?_
 rw[a28,b28,qB]
 refine⟨by simp,?_⟩
 simp -implicitDefEqProofs [jA,jY,qC,forms79,a79,b79,forms83,a83,b83,forms85,a85,b85,forms86,a86,b86,forms136,a136,b136,forms87,a87,b87,forms89,a89,b89,forms90,a90,b90,forms91,a91,b91,forms142,a142,b142,forms138,a138,b138,z1,z2,ha,ft,jO,zD,zH,hac,hk0,hel,t3,qT,d88,hat,hk1,hgl,hv,zA0,hra,uy]
 have htp:=zAr th s.ts (b:={ a with val:=y,at_:=1 }) ha
 rw[←htp] at hes
 subst hS
 have hba:Att.ask { a with val:=y,at_:=1 }=a.ra:=by simp[Att.ask,hk]
 rcases qH hth with rfl|rfl|rfl|rfl
 ·refine zA [.pack (GD.att { a with val:=y,at_:=1 }) 7 [12,13],.pack (GD.eng ({ s with ts:=zZ s.ts 0 (some { a with val:=y,at_:=1 }) })) 0 [1,2,3,4,5,6,7,8,9,10]] [0] ?_ ?_ ?_<;> simp[zH,zJ,hba,zZ,ha,zD,qE,o1,o2,o3,Rp.v,Rp.cells,qJ,qQ,qK,qP,qO,zW,zY,qM,qN,hk1]<;> exact hes
 ·refine zA [.pack (GD.att { a with val:=y,at_:=1 }) 7 [12,13],.pack (GD.eng ({ s with ts:=zZ s.ts 1 (some { a with val:=y,at_:=1 }) })) 0 [1,2,3,4,5,6,8,7,9,10]] [0] ?_ ?_ ?_<;> simp[zH,zJ,hba,zZ,ha,zD,qE,o1,o2,o3,Rp.v,Rp.cells,qJ,qQ,qK,qP,qO,zW,zY,qM,qN,hk1]<;> exact hes
 ·refine zA [.pack (GD.att { a with val:=y,at_:=1 }) 7 [12,13],.pack (GD.eng ({ s with ts:=zZ s.ts 2 (some { a with val:=y,at_:=1 }) })) 0 [1,2,3,4,5,6,8,9,7,10]] [0] ?_ ?_ ?_<;> simp[zH,zJ,hba,zZ,ha,zD,qE,o1,o2,o3,Rp.v,Rp.cells,qJ,qQ,qK,qP,qO,zW,zY,qM,qN,hk1]<;> exact hes
 ·refine zA [.pack (GD.att { a with val:=y,at_:=1 }) 7 [12,13],.pack (GD.eng ({ s with ts:=zZ s.ts 3 (some { a with val:=y,at_:=1 }) })) 0 [1,2,3,4,5,6,8,9,10,7]] [0] ?_ ?_ ?_<;> simp[zH,zJ,hba,zZ,ha,zD,qE,o1,o2,o3,Rp.v,Rp.cells,qJ,qQ,qK,qP,qO,zW,zY,qM,qN,hk1]<;> exact hes
theorem qFl (s:NS) (hs:s.Ok) (hev:s.ev.length<=100000) (th:Nat) (hth:th<4) (a:Att) (ha:s.ts th=some a) (hk:a.asked=true) (hat:a.at_=1) (hk1:a.ra.k=1) (hv:zAd a.fs a.ra.t=none) (hc:¬s.c=a.snap):zP Tryz.prog cfg 28 [.pointer (some ⟨0,0,none⟩),.int .i64 th] (AH.of [some (.hi (.eng s))])
  fun r H'=> r=.ret (qJ).v/\H'=AH.of [some (.hi (.eng ({ s with ts:=zZ s.ts th (some { a with at_:=4,back:=0 }) })))]:=by
 refine zP.ends ?_
 generalize hS:(({ s with ts:=zZ s.ts th (some { a with at_:=4,back:=0 }) }):NS)=S'
 refine zP.openEng hth fun es cc hes=> ?_
 have ft:=jE hth hes
 have z1:¬(th:Int)<0:=by omega
 have z2:¬4<=(th:Int):=by omega
 have hok:=hs.ts th a ha
 have hac:=xM a hk
 have hk0:¬a.ra.k=0:=by have:=(hok.ask hk).1;omega
 have hel:(s.ev.length+1)*32<=140737488355328/\s.ev.length<=9223372036854775806:=by omega
 have t3:=jB s.ev
 have hgl:=hok.fs
 have hra:=(hok.ask hk).2.2.1 (.inl hk1)
 refine zX (tbl:=jY) zAa 0 5 (af:=a28) rfl ?_
 rw[a28,b28,qB]
 refine⟨by simp,?_⟩
 simp -implicitDefEqProofs [jA,jY,qC,forms79,a79,b79,forms83,a83,b83,forms85,a85,b85,forms86,a86,b86,forms136,a136,b136,forms87,a87,b87,forms89,a89,b89,forms90,a90,b90,forms91,a91,b91,forms142,a142,b142,forms138,a138,b138,z1,z2,ha,ft,jO,zD,zH,hac,hk0,hel,t3,qT,d88,zKu,hat,hk1,hgl,hv,zA0,hc]
 have htp:=zAr th s.ts (b:={ a with at_:=4,back:=0 }) ha
 rw[←htp] at hes
 subst hS
 have hba:Att.ask { a with at_:=4,back:=0 }=a.ra:=by simp[Att.ask,hk]
 rcases qH hth with rfl|rfl|rfl|rfl
 ·refine zA [.pack (GD.att { a with at_:=4,back:=0 }) 7 [12,13],.pack (GD.eng ({ s with ts:=zZ s.ts 0 (some { a with at_:=4,back:=0 }) })) 0 [1,2,3,4,5,6,7,8,9,10]] [0] ?_ ?_ ?_<;> simp[zH,zJ,hba,zZ,ha,zD,qE,o1,o2,o3,Rp.v,Rp.cells,qJ,qQ,qK,qP,qO,zW,zY,qM,qN,hk1]<;> exact hes
 ·refine zA [.pack (GD.att { a with at_:=4,back:=0 }) 7 [12,13],.pack (GD.eng ({ s with ts:=zZ s.ts 1 (some { a with at_:=4,back:=0 }) })) 0 [1,2,3,4,5,6,8,7,9,10]] [0] ?_ ?_ ?_<;> simp[zH,zJ,hba,zZ,ha,zD,qE,o1,o2,o3,Rp.v,Rp.cells,qJ,qQ,qK,qP,qO,zW,zY,qM,qN,hk1]<;> exact hes
 ·refine zA [.pack (GD.att { a with at_:=4,back:=0 }) 7 [12,13],.pack (GD.eng ({ s with ts:=zZ s.ts 2 (some { a with at_:=4,back:=0 }) })) 0 [1,2,3,4,5,6,8,9,7,10]] [0] ?_ ?_ ?_<;> simp[zH,zJ,hba,zZ,ha,zD,qE,o1,o2,o3,Rp.v,Rp.cells,qJ,qQ,qK,qP,qO,zW,zY,qM,qN,hk1]<;> exact hes
 ·refine zA [.pack (GD.att { a with at_:=4,back:=0 }) 7 [12,13],.pack (GD.eng ({ s with ts:=zZ s.ts 3 (some { a with at_:=4,back:=0 }) })) 0 [1,2,3,4,5,6,8,9,10,7]] [0] ?_ ?_ ?_<;> simp[zH,zJ,hba,zZ,ha,zD,qE,o1,o2,o3,Rp.v,Rp.cells,qJ,qQ,qK,qP,qO,zW,zY,qM,qN,hk1]<;> exact hes
theorem qFm (s:NS) (hs:s.Ok) (hev:s.ev.length<=100000) (th:Nat) (hth:th<4) (a:Att) (ha:s.ts th=some a) (hk:a.asked=true) (hat:a.at_=1) (hk1:a.ra.k=1) (hv:zAd a.fs a.ra.t=none) (hc:s.c=a.snap) (hA:zA2 a.es ⟨a.ra.t,a.val,0⟩=0):zP Tryz.prog cfg 28 [.pointer (some ⟨0,0,none⟩),.int .i64 th] (AH.of [some (.hi (.eng s))])
  fun r H'=> r=.ret (qK a.val).v/\H'=AH.of [some (.hi (.eng (zB5 s th ({ a with es:=zBs a.es ⟨a.ra.t,a.val,0⟩ }) a.val)))]:=by
 refine zP.ends ?_
 generalize hS:((zB5 s th ({ a with es:=zBs a.es ⟨a.ra.t,a.val,0⟩ }) a.val):NS)=S'
 refine zP.openEng hth fun es cc hes=> ?_
 have ft:=jE hth hes
 have z1:¬(th:Int)<0:=by omega
 have z2:¬4<=(th:Int):=by omega
 have hok:=hs.ts th a ha
 have hac:=xM a hk
 have hk0:¬a.ra.k=0:=by have:=(hok.ask hk).1;omega
 have hel:(s.ev.length+1)*32<=140737488355328/\s.ev.length<=9223372036854775806:=by omega
 have t3:=jB s.ev
 have hgl:=hok.fs
 have hra:=(hok.ask hk).2.2.1 (.inl hk1)
 have hgu:=hok.es.uniq
 have hc1:(s.c=a.snap)=True:=eq_true hc
 have hat1:((a.at_:Int)=0)=False:=eq_false (by omega)
 have hat2:(a.at_=0)=False:=eq_false (by omega)
 have hlo:¬4<=(a.at_:Int):=by omega
 have hlo2:¬4<=a.at_:=by omega
 refine zX (tbl:=jY) zAa 0 5 (af:=a28) rfl ?_
 rw[a28,b28,qB]
 refine⟨by simp,?_⟩
 simp -implicitDefEqProofs [jA,jY,qC,forms79,a79,b79,forms83,a83,b83,forms85,a85,b85,forms86,a86,b86,forms136,a136,b136,forms87,a87,b87,forms89,a89,b89,forms90,a90,b90,forms91,a91,b91,forms142,a142,b142,forms138,a138,b138,z1,z2,ha,ft,jO,zD,zH,hac,hk0,hel,t3,qT,d88,zKu,zMq,hat1,hat2,hlo,hlo2,hk1,hgl,hv,zA0,hc1,hgu,hA]
 have htp:=zAr th s.ts (b:={ ({ a with es:=zBs a.es ⟨a.ra.t,a.val,0⟩ }) with asked:=false }) ha
 rw[←htp] at hes
 subst hS
 have hba:Att.ask { ({ a with es:=zBs a.es ⟨a.ra.t,a.val,0⟩ }) with asked:=false }=⟨0,0,0⟩:=by simp[Att.ask,hk]
 rcases qH hth with rfl|rfl|rfl|rfl
 ·refine zA [.pack (GD.att { ({ a with es:=zBs a.es ⟨a.ra.t,a.val,0⟩ }) with asked:=false }) 7 [12,13],.pack (GD.eng (zB5 s 0 ({ a with es:=zBs a.es ⟨a.ra.t,a.val,0⟩ }) a.val)) 0 [1,2,3,18,5,6,7,8,9,10]] [0] ?_ ?_ ?_<;> simp[zH,zJ,hba,zZ,ha,zD,qE,o1,o2,o3,Rp.v,Rp.cells,qJ,qQ,qK,qP,qO,zW,zY,qM,qN,zB5]<;> exact hes
 ·refine zA [.pack (GD.att { ({ a with es:=zBs a.es ⟨a.ra.t,a.val,0⟩ }) with asked:=false }) 7 [12,13],.pack (GD.eng (zB5 s 1 ({ a with es:=zBs a.es ⟨a.ra.t,a.val,0⟩ }) a.val)) 0 [1,2,3,18,5,6,8,7,9,10]] [0] ?_ ?_ ?_<;> simp[zH,zJ,hba,zZ,ha,zD,qE,o1,o2,o3,Rp.v,Rp.cells,qJ,qQ,qK,qP,qO,zW,zY,qM,qN,zB5]<;> exact hes
 ·refine zA [.pack (GD.att { ({ a with es:=zBs a.es ⟨a.ra.t,a.val,0⟩ }) with asked:=false }) 7 [12,13],.pack (GD.eng (zB5 s 2 ({ a with es:=zBs a.es ⟨a.ra.t,a.val,0⟩ }) a.val)) 0 [1,2,3,18,5,6,8,9,7,10]] [0] ?_ ?_ ?_<;> simp[zH,zJ,hba,zZ,ha,zD,qE,o1,o2,o3,Rp.v,Rp.cells,qJ,qQ,qK,qP,qO,zW,zY,qM,qN,zB5]<;> exact hes
 ·refine zA [.pack (GD.att { ({ a with es:=zBs a.es ⟨a.ra.t,a.val,0⟩ }) with asked:=false }) 7 [12,13],.pack (GD.eng (zB5 s 3 ({ a with es:=zBs a.es ⟨a.ra.t,a.val,0⟩ }) a.val)) 0 [1,2,3,18,5,6,8,9,10,7]] [0] ?_ ?_ ?_<;> simp[zH,zJ,hba,zZ,ha,zD,qE,o1,o2,o3,Rp.v,Rp.cells,qJ,qQ,qK,qP,qO,zW,zY,qM,qN,zB5]<;> exact hes
theorem qA3 (s:NS) (hs:s.Ok) (hev:s.ev.length<=100000) (th:Nat) (hth:th<4) (a:Att) (ha:s.ts th=some a) (hk:a.asked=true) (hat:a.at_=1) (hk1:a.ra.k=1) (hv:zAd a.fs a.ra.t=none) (hc:s.c=a.snap) (hA:¬zA2 a.es ⟨a.ra.t,a.val,0⟩=0) (ho:s.o=some (th:Int)):zP Tryz.prog cfg 28 [.pointer (some ⟨0,0,none⟩),.int .i64 th] (AH.of [some (.hi (.eng s))])
  fun r H'=> r=.ret (qP 2).v/\H'=AH.of [some (.hi (.eng (qY s th a 2)))]:=by
 refine zP.ends ?_
 generalize hS:((qY s th a 2):NS)=S'
 refine zP.openEng hth fun es cc hes=> ?_
 have ft:=jE hth hes
 have z1:¬(th:Int)<0:=by omega
 have z2:¬4<=(th:Int):=by omega
 have hok:=hs.ts th a ha
 have hac:=xM a hk
 have hk0:¬a.ra.k=0:=by have:=(hok.ask hk).1;omega
 have hel:(s.ev.length+1)*32<=140737488355328/\s.ev.length<=9223372036854775806:=by omega
 have t3:=jB s.ev
 have hgl:=hok.fs
 have hra:=(hok.ask hk).2.2.1 (.inl hk1)
 have hgu:=hok.es.uniq
 have hc1:(s.c=a.snap)=True:=eq_true hc
 have hnw3:a.n+1<=s.wy.length:=hok.n
 have hcw:IntKind.u64.wrap (s.c - 1)=s.c - 1:=by have h1:=hs.held _ ho;have h2:=hs.c;exact zBn (by omega) (by omega)
 have hnw:=hok.n
 have hnw2:(a.n:Int)<s.wy.length:=by omega
 obtain⟨es2,hdel,hes2⟩:=zE3 hth hes
 refine zX (tbl:=jY) zAa 0 5 (af:=a28) rfl ?_
 rw[a28,b28,qB]
 refine⟨by simp,?_⟩
 simp -implicitDefEqProofs [jA,jY,qC,forms79,a79,b79,forms83,a83,b83,forms85,a85,b85,forms86,a86,b86,forms136,a136,b136,forms87,a87,b87,forms89,a89,b89,forms90,a90,b90,forms91,a91,b91,forms142,a142,b142,forms138,a138,b138,z1,z2,ha,ft,jO,zD,zH,hac,hk0,hel,t3,qT,d88,zKu,zMq,hat,hk1,hgl,hv,zA0,hc1,hgu,hA,zHb,ho,hnw,hnw2,hnw3,zCq,qN,hcw,hdel]
 subst hS
 have hba:True:=trivial
 rcases qH hth with rfl|rfl|rfl|rfl
 ·have ho0:s.o=some 0:=ho
  refine zA [.nil 100,.pack (GD.eng (qY s 0 a 2)) 0 [1,2,3,18,5,6,19,8,9,10]] [0] ?_ ?_ ?_<;> simp[zH,zJ,hba,zZ,ha,zD,qE,o1,o2,o3,Rp.v,Rp.cells,qJ,qQ,qK,qP,qO,zW,zY,qM,qN,qY,ho0]<;> exact hes2
 ·have ho0:s.o=some 1:=ho
  refine zA [.nil 100,.pack (GD.eng (qY s 1 a 2)) 0 [1,2,3,18,5,6,8,19,9,10]] [0] ?_ ?_ ?_<;> simp[zH,zJ,hba,zZ,ha,zD,qE,o1,o2,o3,Rp.v,Rp.cells,qJ,qQ,qK,qP,qO,zW,zY,qM,qN,qY,ho0]<;> exact hes2
 ·have ho0:s.o=some 2:=ho
  refine zA [.nil 100,.pack (GD.eng (qY s 2 a 2)) 0 [1,2,3,18,5,6,8,9,19,10]] [0] ?_ ?_ ?_<;> simp[zH,zJ,hba,zZ,ha,zD,qE,o1,o2,o3,Rp.v,Rp.cells,qJ,qQ,qK,qP,qO,zW,zY,qM,qN,qY,ho0]<;> exact hes2
 ·have ho0:s.o=some 3:=ho
  refine zA [.nil 100,.pack (GD.eng (qY s 3 a 2)) 0 [1,2,3,18,5,6,8,9,10,19]] [0] ?_ ?_ ?_<;> simp[zH,zJ,hba,zZ,ha,zD,qE,o1,o2,o3,Rp.v,Rp.cells,qJ,qQ,qK,qP,qO,zW,zY,qM,qN,qY,ho0]<;> exact hes2
theorem qA4 (s:NS) (hs:s.Ok) (hev:s.ev.length<=100000) (th:Nat) (hth:th<4) (a:Att) (ha:s.ts th=some a) (hk:a.asked=true) (hat:a.at_=1) (hk1:a.ra.k=1) (hv:zAd a.fs a.ra.t=none) (hc:s.c=a.snap) (hA:¬zA2 a.es ⟨a.ra.t,a.val,0⟩=0) (ho:¬s.o=some (th:Int)):zP Tryz.prog cfg 28 [.pointer (some ⟨0,0,none⟩),.int .i64 th] (AH.of [some (.hi (.eng s))])
  fun r H'=> r=.ret (qP 2).v/\H'=AH.of [some (.hi (.eng (qY s th a 2)))]:=by
 refine zP.ends ?_
 generalize hS:((qY s th a 2):NS)=S'
 refine zP.openEng hth fun es cc hes=> ?_
 have ft:=jE hth hes
 have z1:¬(th:Int)<0:=by omega
 have z2:¬4<=(th:Int):=by omega
 have hok:=hs.ts th a ha
 have hac:=xM a hk
 have hk0:¬a.ra.k=0:=by have:=(hok.ask hk).1;omega
 have hel:(s.ev.length+1)*32<=140737488355328/\s.ev.length<=9223372036854775806:=by omega
 have t3:=jB s.ev
 have hgl:=hok.fs
 have hra:=(hok.ask hk).2.2.1 (.inl hk1)
 have hgu:=hok.es.uniq
 have hc1:(s.c=a.snap)=True:=eq_true hc
 have hnw3:a.n+1<=s.wy.length:=hok.n
 have hnw:=hok.n
 have hnw2:(a.n:Int)<s.wy.length:=by omega
 obtain⟨es2,hdel,hes2⟩:=zE3 hth hes
 refine zX (tbl:=jY) zAa 0 5 (af:=a28) rfl ?_
 rw[a28,b28,qB]
 refine⟨by simp,?_⟩
 simp -implicitDefEqProofs [jA,jY,qC,forms79,a79,b79,forms83,a83,b83,forms85,a85,b85,forms86,a86,b86,forms136,a136,b136,forms87,a87,b87,forms89,a89,b89,forms90,a90,b90,forms91,a91,b91,forms142,a142,b142,forms138,a138,b138,z1,z2,ha,ft,jO,zD,zH,hac,hk0,hel,t3,qT,d88,zKu,zMq,hat,hk1,hgl,hv,zA0,hc1,hgu,hA,zHb,ho,hnw,hnw2,hnw3,zCq,qN,hdel]
 subst hS
 have hba:True:=trivial
 rcases qH hth with rfl|rfl|rfl|rfl
 ·have ho0:¬s.o=some 0:=ho
  refine zA [.nil 100,.pack (GD.eng (qY s 0 a 2)) 0 [1,2,3,18,5,6,19,8,9,10]] [0] ?_ ?_ ?_<;> simp[zH,zJ,hba,zZ,ha,zD,qE,o1,o2,o3,Rp.v,Rp.cells,qJ,qQ,qK,qP,qO,zW,zY,qM,qN,qY,ho0]<;> exact hes2
 ·have ho0:¬s.o=some 1:=ho
  refine zA [.nil 100,.pack (GD.eng (qY s 1 a 2)) 0 [1,2,3,18,5,6,8,19,9,10]] [0] ?_ ?_ ?_<;> simp[zH,zJ,hba,zZ,ha,zD,qE,o1,o2,o3,Rp.v,Rp.cells,qJ,qQ,qK,qP,qO,zW,zY,qM,qN,qY,ho0]<;> exact hes2
 ·have ho0:¬s.o=some 2:=ho
  refine zA [.nil 100,.pack (GD.eng (qY s 2 a 2)) 0 [1,2,3,18,5,6,8,9,19,10]] [0] ?_ ?_ ?_<;> simp[zH,zJ,hba,zZ,ha,zD,qE,o1,o2,o3,Rp.v,Rp.cells,qJ,qQ,qK,qP,qO,zW,zY,qM,qN,qY,ho0]<;> exact hes2
 ·have ho0:¬s.o=some 3:=ho
  refine zA [.nil 100,.pack (GD.eng (qY s 3 a 2)) 0 [1,2,3,18,5,6,8,9,10,19]] [0] ?_ ?_ ?_<;> simp[zH,zJ,hba,zZ,ha,zD,qE,o1,o2,o3,Rp.v,Rp.cells,qJ,qQ,qK,qP,qO,zW,zY,qM,qN,qY,ho0]<;> exact hes2
end YtnemoimbeefngaaGreat
end Go.Proofs
namespace Go.Proofs
namespace YtnemoimbeefngaaGreat
open Go.Abs
theorem qFu (s:NS) (hs:s.Ok) (hev:s.ev.length<=100000) (th:Nat) (hth:th<4) (a:Att) (ha:s.ts th=some a) (hk:a.asked=true) (hat:a.at_=0) (hk6:a.ra.k=6) (hall:zAk a.fs=[]):zP Tryz.prog cfg 28 [.pointer (some ⟨0,0,none⟩),.int .i64 th] (AH.of [some (.hi (.eng s))])
  fun r H'=> r=.ret (qP 0).v/\H'=AH.of [some (.hi (.eng (zAj ({ s with ev:=s.ev++[⟨7,a.n,0,0⟩] }) th a)))]:=by
 refine zP.ends ?_
 generalize hS:((zAj ({ s with ev:=s.ev++[⟨7,a.n,0,0⟩] }) th a):NS)=S'
 refine zP.openEng hth fun es cc hes=> ?_
 have ft:=jE hth hes
 have z1:¬(th:Int)<0:=by omega
 have z2:¬4<=(th:Int):=by omega
 have hok:=hs.ts th a ha
 have hac:=xM a hk
 have hk0:¬a.ra.k=0:=by have:=(hok.ask hk).1;omega
 have hel:(s.ev.length+1)*32<=140737488355328/\s.ev.length<=9223372036854775806:=by omega
 have t3:=jB s.ev
 have hgl:=hok.fs
 have hel2:=qI6 hev
 have t5:=qAy s.ev a.n
 obtain⟨es2,hdel,hes2⟩:=zE3 hth hes
 refine zX (tbl:=jY) zAa 0 5 (af:=a28) rfl ?_
 rw[a28,b28,qB]
 refine⟨by simp,?_⟩
 simp -implicitDefEqProofs [jA,jY,qC,forms79,a79,b79,forms83,a83,b83,forms85,a85,b85,forms86,a86,b86,forms136,a136,b136,forms87,a87,b87,forms89,a89,b89,forms90,a90,b90,forms91,a91,b91,forms142,a142,b142,forms138,a138,b138,z1,z2,ha,ft,jO,zD,zH,hac,hk0,hel,t3,qT,zG3,hat,hk6,hgl,hall,hel2,t5,prs,hdel]
 refine⟨⟨by omega,by omega⟩,?_⟩
 subst hS
 have hba:True:=trivial
 rcases qH hth with rfl|rfl|rfl|rfl
 ·refine zA [.nil 100,.pack (GD.eng (zAj ({ s with ev:=s.ev++[⟨7,a.n,0,0⟩] }) 0 a)) 0 [1,2,3,22,5,6,23,8,9,10]] [0] ?_ ?_ ?_<;> simp[zH,zJ,hba,zZ,ha,zD,qE,o1,o2,o3,Rp.v,Rp.cells,qJ,qQ,qK,qP,qO,zW,zY,qM,qN,zW,zY,zKr,zAj]<;> exact hes2
 ·refine zA [.nil 100,.pack (GD.eng (zAj ({ s with ev:=s.ev++[⟨7,a.n,0,0⟩] }) 1 a)) 0 [1,2,3,22,5,6,8,23,9,10]] [0] ?_ ?_ ?_<;> simp[zH,zJ,hba,zZ,ha,zD,qE,o1,o2,o3,Rp.v,Rp.cells,qJ,qQ,qK,qP,qO,zW,zY,qM,qN,zW,zY,zKr,zAj]<;> exact hes2
 ·refine zA [.nil 100,.pack (GD.eng (zAj ({ s with ev:=s.ev++[⟨7,a.n,0,0⟩] }) 2 a)) 0 [1,2,3,22,5,6,8,9,23,10]] [0] ?_ ?_ ?_<;> simp[zH,zJ,hba,zZ,ha,zD,qE,o1,o2,o3,Rp.v,Rp.cells,qJ,qQ,qK,qP,qO,zW,zY,qM,qN,zW,zY,zKr,zAj]<;> exact hes2
 ·refine zA [.nil 100,.pack (GD.eng (zAj ({ s with ev:=s.ev++[⟨7,a.n,0,0⟩] }) 3 a)) 0 [1,2,3,22,5,6,8,9,10,23]] [0] ?_ ?_ ?_<;> simp[zH,zJ,hba,zZ,ha,zD,qE,o1,o2,o3,Rp.v,Rp.cells,qJ,qQ,qK,qP,qO,zW,zY,qM,qN,zW,zY,zKr,zAj]<;> exact hes2
theorem qFt (s:NS) (hs:s.Ok) (hev:s.ev.length<=100000) (th:Nat) (hth:th<4) (a:Att) (ha:s.ts th=some a) (hk:a.asked=true) (hat:a.at_=0) (hk6:a.ra.k=6) (hall:¬zAk a.fs=[]):zP Tryz.prog cfg 28 [.pointer (some ⟨0,0,none⟩),.int .i64 th] (AH.of [some (.hi (.eng s))])
  fun r H'=> r=.ret (qJ).v/\H'=AH.of [some (.hi (.eng ({ s with ts:=zZ s.ts th (some { a with at_:=1 }),ev:=s.ev++[⟨7,a.n,0,0⟩] })))]:=by
 refine zP.ends ?_
 generalize hS:(({ s with ts:=zZ s.ts th (some { a with at_:=1 }),ev:=s.ev++[⟨7,a.n,0,0⟩] }):NS)=S'
 refine zP.openEng hth fun es cc hes=> ?_
 have ft:=jE hth hes
 have z1:¬(th:Int)<0:=by omega
 have z2:¬4<=(th:Int):=by omega
 have hok:=hs.ts th a ha
 have hac:=xM a hk
 have hk0:¬a.ra.k=0:=by have:=(hok.ask hk).1;omega
 have hel:(s.ev.length+1)*32<=140737488355328/\s.ev.length<=9223372036854775806:=by omega
 have t3:=jB s.ev
 have hgl:=hok.fs
 have hln:¬(zAk a.fs).length=0:=fun h=> hall (List.length_eq_zero_iff.1 h)
 have hln2:¬((zAk a.fs).length:Int)=0:=by omega
 refine zX (tbl:=jY) zAa 0 5 (af:=a28) rfl ?_
 rw[a28,b28,qB]
 refine⟨by simp,?_⟩
 simp -implicitDefEqProofs [jA,jY,qC,forms79,a79,b79,forms83,a83,b83,forms85,a85,b85,forms86,a86,b86,forms136,a136,b136,forms87,a87,b87,forms89,a89,b89,forms90,a90,b90,forms91,a91,b91,forms142,a142,b142,forms138,a138,b138,z1,z2,ha,ft,jO,zD,zH,hac,hk0,hel,t3,qT,zG3,hat,hk6,hgl,hall,hln,hln2]
 have htp:=zAr th s.ts (b:={ a with at_:=1 }) ha
 rw[←htp] at hes
 subst hS
 have hba:Att.ask { a with at_:=1 }=a.ra:=by simp[Att.ask,hk]
 rcases qH hth with rfl|rfl|rfl|rfl
 ·refine zA [.pack (GD.att { a with at_:=1 }) 7 [12,13],.pack (GD.eng ({ s with ts:=zZ s.ts 0 (some { a with at_:=1 }),ev:=s.ev++[⟨7,a.n,0,0⟩] })) 0 [1,2,3,18,5,6,7,8,9,10]] [0] ?_ ?_ ?_<;> simp[zH,zJ,hba,zZ,ha,zD,qE,o1,o2,o3,Rp.v,Rp.cells,qJ,qQ,qK,qP,qO,zW,zY,qM,qN,hk6]<;> exact hes
 ·refine zA [.pack (GD.att { a with at_:=1 }) 7 [12,13],.pack (GD.eng ({ s with ts:=zZ s.ts 1 (some { a with at_:=1 }),ev:=s.ev++[⟨7,a.n,0,0⟩] })) 0 [1,2,3,18,5,6,8,7,9,10]] [0] ?_ ?_ ?_<;> simp[zH,zJ,hba,zZ,ha,zD,qE,o1,o2,o3,Rp.v,Rp.cells,qJ,qQ,qK,qP,qO,zW,zY,qM,qN,hk6]<;> exact hes
 ·refine zA [.pack (GD.att { a with at_:=1 }) 7 [12,13],.pack (GD.eng ({ s with ts:=zZ s.ts 2 (some { a with at_:=1 }),ev:=s.ev++[⟨7,a.n,0,0⟩] })) 0 [1,2,3,18,5,6,8,9,7,10]] [0] ?_ ?_ ?_<;> simp[zH,zJ,hba,zZ,ha,zD,qE,o1,o2,o3,Rp.v,Rp.cells,qJ,qQ,qK,qP,qO,zW,zY,qM,qN,hk6]<;> exact hes
 ·refine zA [.pack (GD.att { a with at_:=1 }) 7 [12,13],.pack (GD.eng ({ s with ts:=zZ s.ts 3 (some { a with at_:=1 }),ev:=s.ev++[⟨7,a.n,0,0⟩] })) 0 [1,2,3,18,5,6,8,9,10,7]] [0] ?_ ?_ ?_<;> simp[zH,zJ,hba,zZ,ha,zD,qE,o1,o2,o3,Rp.v,Rp.cells,qJ,qQ,qK,qP,qO,zW,zY,qM,qN,hk6]<;> exact hes
theorem qFr (s:NS) (hs:s.Ok) (hev:s.ev.length<=100000) (th:Nat) (hth:th<4) (a:Att) (ha:s.ts th=some a) (hk:a.asked=true) (hat:a.at_=1) (hk6:a.ra.k=6) (ht:zBu s.o s.c th a.snap=0):zP Tryz.prog cfg 28 [.pointer (some ⟨0,0,none⟩),.int .i64 th] (AH.of [some (.hi (.eng s))])
  fun r H'=> r=.ret (qJ).v/\H'=AH.of [some (.hi (.eng ({ s with ts:=zZ s.ts th (some { a with dec:=true,at_:=2,nx:=0 }),o:=some (th:Int),c:=s.c+1,ky:=s.ky.set a.n (a.snap+2) })))]:=by
 refine zP.ends ?_
 generalize hS:(({ s with ts:=zZ s.ts th (some { a with dec:=true,at_:=2,nx:=0 }),o:=some (th:Int),c:=s.c+1,ky:=s.ky.set a.n (a.snap+2) }):NS)=S'
 refine zP.openEng hth fun es cc hes=> ?_
 have ft:=jE hth hes
 have z1:¬(th:Int)<0:=by omega
 have z2:¬4<=(th:Int):=by omega
 have hok:=hs.ts th a ha
 have hac:=xM a hk
 have hk0:¬a.ra.k=0:=by have:=(hok.ask hk).1;omega
 have hel:(s.ev.length+1)*32<=140737488355328/\s.ev.length<=9223372036854775806:=by omega
 have t3:=jB s.ev
 have hgl:=hok.fs
 have hnk:a.n<s.ky.length:=by have:=hok.n;have:=hs.kw;omega
 have hnk2:(a.n:Int)<s.ky.length:=by omega
 have hnk3:a.n+1<=s.ky.length:=by omega
 have hsc:=hs.c
 have hsn:=hok.snap
 have hw1:IntKind.u64.wrap (a.snap+2)=a.snap+2:=zBn (by omega) (by omega)
 have hw2:IntKind.u64.wrap (s.c+1)=s.c+1:=zBn (by omega) (by omega)
 refine zX (tbl:=jY) zAa 0 5 (af:=a28) rfl ?_
 rw[a28,b28,qB]
 refine⟨by simp,?_⟩
 simp -implicitDefEqProofs [jA,jY,qC,forms79,a79,b79,forms83,a83,b83,forms85,a85,b85,forms86,a86,b86,forms136,a136,b136,forms87,a87,b87,forms89,a89,b89,forms90,a90,b90,forms91,a91,b91,forms142,a142,b142,forms138,a138,b138,z1,z2,ha,ft,jO,zD,zH,hac,hk0,hel,t3,qT,zG3,zQf,hat,hk6,hgl,ht,hnk,hnk2,hnk3,hw1,hw2,zC5,qM]
 have htp:=zAr th s.ts (b:={ a with dec:=true,at_:=2,nx:=0 }) ha
 rw[←htp] at hes
 subst hS
 have hba:Att.ask { a with dec:=true,at_:=2,nx:=0 }=a.ra:=by simp[Att.ask,hk]
 rcases qH hth with rfl|rfl|rfl|rfl
 ·refine zA [.pack (GD.att { a with dec:=true,at_:=2,nx:=0 }) 7 [12,13],.pack (GD.eng ({ s with ts:=zZ s.ts 0 (some { a with dec:=true,at_:=2,nx:=0 }),o:=some (0:Int),c:=s.c+1,ky:=s.ky.set a.n (a.snap+2) })) 0 [1,2,3,4,5,6,7,8,9,10]] [0] ?_ ?_ ?_<;> simp[zH,zJ,hba,zZ,ha,zD,qE,o1,o2,o3,Rp.v,Rp.cells,qJ,qQ,qK,qP,qO,zW,zY,qM,qN,hk6]<;> exact hes
 ·refine zA [.pack (GD.att { a with dec:=true,at_:=2,nx:=0 }) 7 [12,13],.pack (GD.eng ({ s with ts:=zZ s.ts 1 (some { a with dec:=true,at_:=2,nx:=0 }),o:=some (1:Int),c:=s.c+1,ky:=s.ky.set a.n (a.snap+2) })) 0 [1,2,3,4,5,6,8,7,9,10]] [0] ?_ ?_ ?_<;> simp[zH,zJ,hba,zZ,ha,zD,qE,o1,o2,o3,Rp.v,Rp.cells,qJ,qQ,qK,qP,qO,zW,zY,qM,qN,hk6]<;> exact hes
 ·refine zA [.pack (GD.att { a with dec:=true,at_:=2,nx:=0 }) 7 [12,13],.pack (GD.eng ({ s with ts:=zZ s.ts 2 (some { a with dec:=true,at_:=2,nx:=0 }),o:=some (2:Int),c:=s.c+1,ky:=s.ky.set a.n (a.snap+2) })) 0 [1,2,3,4,5,6,8,9,7,10]] [0] ?_ ?_ ?_<;> simp[zH,zJ,hba,zZ,ha,zD,qE,o1,o2,o3,Rp.v,Rp.cells,qJ,qQ,qK,qP,qO,zW,zY,qM,qN,hk6]<;> exact hes
 ·refine zA [.pack (GD.att { a with dec:=true,at_:=2,nx:=0 }) 7 [12,13],.pack (GD.eng ({ s with ts:=zZ s.ts 3 (some { a with dec:=true,at_:=2,nx:=0 }),o:=some (3:Int),c:=s.c+1,ky:=s.ky.set a.n (a.snap+2) })) 0 [1,2,3,4,5,6,8,9,10,7]] [0] ?_ ?_ ?_<;> simp[zH,zJ,hba,zZ,ha,zD,qE,o1,o2,o3,Rp.v,Rp.cells,qJ,qQ,qK,qP,qO,zW,zY,qM,qN,hk6]<;> exact hes
theorem qA5 (s:NS) (hs:s.Ok) (hev:s.ev.length<=100000) (th:Nat) (hth:th<4) (a:Att) (ha:s.ts th=some a) (hk:a.asked=true) (hat:a.at_=1) (hk6:a.ra.k=6) (ht:zBu s.o s.c th a.snap=4) (ho:¬s.o=some (th:Int)):zP Tryz.prog cfg 28 [.pointer (some ⟨0,0,none⟩),.int .i64 th] (AH.of [some (.hi (.eng s))])
  fun r H'=> r=.ret (qP 2).v/\H'=AH.of [some (.hi (.eng (qY s th a 2)))]:=by
 refine zP.ends ?_
 generalize hS:((qY s th a 2):NS)=S'
 refine zP.openEng hth fun es cc hes=> ?_
 have ft:=jE hth hes
 have z1:¬(th:Int)<0:=by omega
 have z2:¬4<=(th:Int):=by omega
 have hok:=hs.ts th a ha
 have hac:=xM a hk
 have hk0:¬a.ra.k=0:=by have:=(hok.ask hk).1;omega
 have hel:(s.ev.length+1)*32<=140737488355328/\s.ev.length<=9223372036854775806:=by omega
 have t3:=jB s.ev
 have hgl:=hok.fs
 have hnw3:a.n+1<=s.wy.length:=hok.n
 have hnw:=hok.n
 have hnw2:(a.n:Int)<s.wy.length:=by omega
 obtain⟨es2,hdel,hes2⟩:=zE3 hth hes
 refine zX (tbl:=jY) zAa 0 5 (af:=a28) rfl ?_
 rw[a28,b28,qB]
 refine⟨by simp,?_⟩
 simp -implicitDefEqProofs [jA,jY,qC,forms79,a79,b79,forms83,a83,b83,forms85,a85,b85,forms86,a86,b86,forms136,a136,b136,forms87,a87,b87,forms89,a89,b89,forms90,a90,b90,forms91,a91,b91,forms142,a142,b142,forms138,a138,b138,z1,z2,ha,ft,jO,zD,zH,hac,hk0,hel,t3,qT,zG3,zQf,hat,hk6,hgl,ht,zHb,ho,hnw,hnw2,hnw3,zCq,qN,hdel]
 subst hS
 have hba:True:=trivial
 rcases qH hth with rfl|rfl|rfl|rfl
 ·have ho0:¬s.o=some 0:=ho
  refine zA [.nil 100,.pack (GD.eng (qY s 0 a 2)) 0 [1,2,3,19,5,6,20,8,9,10]] [0] ?_ ?_ ?_<;> simp[zH,zJ,hba,zZ,ha,zD,qE,o1,o2,o3,Rp.v,Rp.cells,qJ,qQ,qK,qP,qO,zW,zY,qM,qN,qY,ho0]<;> exact hes2
 ·have ho0:¬s.o=some 1:=ho
  refine zA [.nil 100,.pack (GD.eng (qY s 1 a 2)) 0 [1,2,3,19,5,6,8,20,9,10]] [0] ?_ ?_ ?_<;> simp[zH,zJ,hba,zZ,ha,zD,qE,o1,o2,o3,Rp.v,Rp.cells,qJ,qQ,qK,qP,qO,zW,zY,qM,qN,qY,ho0]<;> exact hes2
 ·have ho0:¬s.o=some 2:=ho
  refine zA [.nil 100,.pack (GD.eng (qY s 2 a 2)) 0 [1,2,3,19,5,6,8,9,20,10]] [0] ?_ ?_ ?_<;> simp[zH,zJ,hba,zZ,ha,zD,qE,o1,o2,o3,Rp.v,Rp.cells,qJ,qQ,qK,qP,qO,zW,zY,qM,qN,qY,ho0]<;> exact hes2
 ·have ho0:¬s.o=some 3:=ho
  refine zA [.nil 100,.pack (GD.eng (qY s 3 a 2)) 0 [1,2,3,19,5,6,8,9,10,20]] [0] ?_ ?_ ?_<;> simp[zH,zJ,hba,zZ,ha,zD,qE,o1,o2,o3,Rp.v,Rp.cells,qJ,qQ,qK,qP,qO,zW,zY,qM,qN,qY,ho0]<;> exact hes2
theorem qFs (s:NS) (hs:s.Ok) (hev:s.ev.length<=100000) (th:Nat) (hth:th<4) (a:Att) (ha:s.ts th=some a) (hk:a.asked=true) (hat:a.at_=1) (hk6:a.ra.k=6) (ht:¬zBu s.o s.c th a.snap=0) (ht4:¬zBu s.o s.c th a.snap=4):zP Tryz.prog cfg 28 [.pointer (some ⟨0,0,none⟩),.int .i64 th] (AH.of [some (.hi (.eng s))])
  fun r H'=> r=.ret (qJ).v/\H'=AH.of [some (.hi (.eng ({ s with ts:=zZ s.ts th (some { a with at_:=4,back:=1 }) })))]:=by
 refine zP.ends ?_
 generalize hS:(({ s with ts:=zZ s.ts th (some { a with at_:=4,back:=1 }) }):NS)=S'
 refine zP.openEng hth fun es cc hes=> ?_
 have ft:=jE hth hes
 have z1:¬(th:Int)<0:=by omega
 have z2:¬4<=(th:Int):=by omega
 have hok:=hs.ts th a ha
 have hac:=xM a hk
 have hk0:¬a.ra.k=0:=by have:=(hok.ask hk).1;omega
 have hel:(s.ev.length+1)*32<=140737488355328/\s.ev.length<=9223372036854775806:=by omega
 have t3:=jB s.ev
 have hgl:=hok.fs
 refine zX (tbl:=jY) zAa 0 5 (af:=a28) rfl ?_
 rw[a28,b28,qB]
 refine⟨by simp,?_⟩
 simp -implicitDefEqProofs [jA,jY,qC,forms79,a79,b79,forms83,a83,b83,forms85,a85,b85,forms86,a86,b86,forms136,a136,b136,forms87,a87,b87,forms89,a89,b89,forms90,a90,b90,forms91,a91,b91,forms142,a142,b142,forms138,a138,b138,z1,z2,ha,ft,jO,zD,zH,hac,hk0,hel,t3,qT,zG3,zQf,hat,hk6,hgl,ht,ht4]
 have htp:=zAr th s.ts (b:={ a with at_:=4,back:=1 }) ha
 rw[←htp] at hes
 subst hS
 have hba:Att.ask { a with at_:=4,back:=1 }=a.ra:=by simp[Att.ask,hk]
 rcases qH hth with rfl|rfl|rfl|rfl
 ·refine zA [.pack (GD.att { a with at_:=4,back:=1 }) 7 [12,13],.pack (GD.eng ({ s with ts:=zZ s.ts 0 (some { a with at_:=4,back:=1 }) })) 0 [1,2,3,4,5,6,7,8,9,10]] [0] ?_ ?_ ?_<;> simp[zH,zJ,hba,zZ,ha,zD,qE,o1,o2,o3,Rp.v,Rp.cells,qJ,qQ,qK,qP,qO,zW,zY,qM,qN,hk6]<;> exact hes
 ·refine zA [.pack (GD.att { a with at_:=4,back:=1 }) 7 [12,13],.pack (GD.eng ({ s with ts:=zZ s.ts 1 (some { a with at_:=4,back:=1 }) })) 0 [1,2,3,4,5,6,8,7,9,10]] [0] ?_ ?_ ?_<;> simp[zH,zJ,hba,zZ,ha,zD,qE,o1,o2,o3,Rp.v,Rp.cells,qJ,qQ,qK,qP,qO,zW,zY,qM,qN,hk6]<;> exact hes
 ·refine zA [.pack (GD.att { a with at_:=4,back:=1 }) 7 [12,13],.pack (GD.eng ({ s with ts:=zZ s.ts 2 (some { a with at_:=4,back:=1 }) })) 0 [1,2,3,4,5,6,8,9,7,10]] [0] ?_ ?_ ?_<;> simp[zH,zJ,hba,zZ,ha,zD,qE,o1,o2,o3,Rp.v,Rp.cells,qJ,qQ,qK,qP,qO,zW,zY,qM,qN,hk6]<;> exact hes
 ·refine zA [.pack (GD.att { a with at_:=4,back:=1 }) 7 [12,13],.pack (GD.eng ({ s with ts:=zZ s.ts 3 (some { a with at_:=4,back:=1 }) })) 0 [1,2,3,4,5,6,8,9,10,7]] [0] ?_ ?_ ?_<;> simp[zH,zJ,hba,zZ,ha,zD,qE,o1,o2,o3,Rp.v,Rp.cells,qJ,qQ,qK,qP,qO,zW,zY,qM,qN,hk6]<;> exact hes
theorem qFp (s:NS) (hs:s.Ok) (hev:s.ev.length<=100000) (th:Nat) (hth:th<4) (a:Att) (ha:s.ts th=some a) (hk:a.asked=true) (hat:a.at_=2) (hk6:a.ra.k=6) (p:Pr) (hx:(zAk a.fs)[a.nx]?=some p) (hp:0<=p.t/\p.t<s.hp.length) (hl:¬a.nx+1=(zAk a.fs).length):zP Tryz.prog cfg 28 [.pointer (some ⟨0,0,none⟩),.int .i64 th] (AH.of [some (.hi (.eng s))])
  fun r H'=> r=.ret (qJ).v/\H'=AH.of [some (.hi (.eng ({ s with ts:=zZ s.ts th (some { a with nx:=a.nx+1,at_:=2 }),hp:=s.hp.set p.t.toNat p.v })))]:=by
 refine zP.ends ?_
 generalize hS:(({ s with ts:=zZ s.ts th (some { a with nx:=a.nx+1,at_:=2 }),hp:=s.hp.set p.t.toNat p.v }):NS)=S'
 refine zP.openEng hth fun es cc hes=> ?_
 have ft:=jE hth hes
 have z1:¬(th:Int)<0:=by omega
 have z2:¬4<=(th:Int):=by omega
 have hok:=hs.ts th a ha
 have hac:=xM a hk
 have hk0:¬a.ra.k=0:=by have:=(hok.ask hk).1;omega
 have hel:(s.ev.length+1)*32<=140737488355328/\s.ev.length<=9223372036854775806:=by omega
 have t3:=jB s.ev
 have hgl:=hok.fs
 have hlt:=(List.getElem?_eq_some_iff.1 hx).1
 have hlt2:(a.nx:Int)<(zAk a.fs).length:=by omega
 obtain⟨rx,rv⟩:=zLs hx
 have hnx:=hok.nx
 have hwr:IntKind.i64.wrap ((a.nx:Int)+1)=((a.nx+1:Nat):Int):=by rw[qX (by omega) (by omega)];omega
 have hpl:(p.t.toNat:Int)<s.hp.length:=by omega
 have hpl2:p.t.toNat<s.hp.length:=by omega
 have hpl3:p.t.toNat+1<=s.hp.length:=by omega
 have hl2:¬(a.nx:Int)+1=(zAk a.fs).length:=by omega
 refine zX (tbl:=jY) zAa 0 5 (af:=a28) rfl ?_
 rw[a28,b28,qB]
 refine⟨by simp,?_⟩
 simp -implicitDefEqProofs [jA,jY,qC,forms79,a79,b79,forms83,a83,b83,forms85,a85,b85,forms86,a86,b86,forms136,a136,b136,forms87,a87,b87,forms89,a89,b89,forms90,a90,b90,forms91,a91,b91,forms142,a142,b142,forms138,a138,b138,z1,z2,ha,ft,jO,zD,zH,hac,hk0,hel,t3,qT,zG3,hat,hk6,hgl,hlt,hlt2,rx,rv,hwr,hp,hpl,hpl2,hpl3,hl,hl2,zC5,qM]
 have htp:=zAr th s.ts (b:={ a with nx:=a.nx+1,at_:=2 }) ha
 rw[←htp] at hes
 subst hS
 have hba:Att.ask { a with nx:=a.nx+1,at_:=2 }=a.ra:=by simp[Att.ask,hk]
 rcases qH hth with rfl|rfl|rfl|rfl
 ·refine zA [.pack (GD.att { a with nx:=a.nx+1,at_:=2 }) 7 [12,13],.pack (GD.eng ({ s with ts:=zZ s.ts 0 (some { a with nx:=a.nx+1,at_:=2 }),hp:=s.hp.set p.t.toNat p.v })) 0 [1,2,3,4,5,6,7,8,9,10]] [0] ?_ ?_ ?_<;> simp[zH,zJ,hba,zZ,ha,zD,qE,o1,o2,o3,Rp.v,Rp.cells,qJ,qQ,qK,qP,qO,zW,zY,qM,qN,hk6]<;> exact hes
 ·refine zA [.pack (GD.att { a with nx:=a.nx+1,at_:=2 }) 7 [12,13],.pack (GD.eng ({ s with ts:=zZ s.ts 1 (some { a with nx:=a.nx+1,at_:=2 }),hp:=s.hp.set p.t.toNat p.v })) 0 [1,2,3,4,5,6,8,7,9,10]] [0] ?_ ?_ ?_<;> simp[zH,zJ,hba,zZ,ha,zD,qE,o1,o2,o3,Rp.v,Rp.cells,qJ,qQ,qK,qP,qO,zW,zY,qM,qN,hk6]<;> exact hes
 ·refine zA [.pack (GD.att { a with nx:=a.nx+1,at_:=2 }) 7 [12,13],.pack (GD.eng ({ s with ts:=zZ s.ts 2 (some { a with nx:=a.nx+1,at_:=2 }),hp:=s.hp.set p.t.toNat p.v })) 0 [1,2,3,4,5,6,8,9,7,10]] [0] ?_ ?_ ?_<;> simp[zH,zJ,hba,zZ,ha,zD,qE,o1,o2,o3,Rp.v,Rp.cells,qJ,qQ,qK,qP,qO,zW,zY,qM,qN,hk6]<;> exact hes
 ·refine zA [.pack (GD.att { a with nx:=a.nx+1,at_:=2 }) 7 [12,13],.pack (GD.eng ({ s with ts:=zZ s.ts 3 (some { a with nx:=a.nx+1,at_:=2 }),hp:=s.hp.set p.t.toNat p.v })) 0 [1,2,3,4,5,6,8,9,10,7]] [0] ?_ ?_ ?_<;> simp[zH,zJ,hba,zZ,ha,zD,qE,o1,o2,o3,Rp.v,Rp.cells,qJ,qQ,qK,qP,qO,zW,zY,qM,qN,hk6]<;> exact hes
theorem qFq (s:NS) (hs:s.Ok) (hev:s.ev.length<=100000) (th:Nat) (hth:th<4) (a:Att) (ha:s.ts th=some a) (hk:a.asked=true) (hat:a.at_=2) (hk6:a.ra.k=6) (p:Pr) (hx:(zAk a.fs)[a.nx]?=some p) (hp:0<=p.t/\p.t<s.hp.length) (hl:a.nx+1=(zAk a.fs).length):zP Tryz.prog cfg 28 [.pointer (some ⟨0,0,none⟩),.int .i64 th] (AH.of [some (.hi (.eng s))])
  fun r H'=> r=.ret (qJ).v/\H'=AH.of [some (.hi (.eng ({ s with ts:=zZ s.ts th (some { a with nx:=a.nx+1,at_:=3 }),hp:=s.hp.set p.t.toNat p.v })))]:=by
 refine zP.ends ?_
 generalize hS:(({ s with ts:=zZ s.ts th (some { a with nx:=a.nx+1,at_:=3 }),hp:=s.hp.set p.t.toNat p.v }):NS)=S'
 refine zP.openEng hth fun es cc hes=> ?_
 have ft:=jE hth hes
 have z1:¬(th:Int)<0:=by omega
 have z2:¬4<=(th:Int):=by omega
 have hok:=hs.ts th a ha
 have hac:=xM a hk
 have hk0:¬a.ra.k=0:=by have:=(hok.ask hk).1;omega
 have hel:(s.ev.length+1)*32<=140737488355328/\s.ev.length<=9223372036854775806:=by omega
 have t3:=jB s.ev
 have hgl:=hok.fs
 have hlt:=(List.getElem?_eq_some_iff.1 hx).1
 have hlt2:(a.nx:Int)<(zAk a.fs).length:=by omega
 obtain⟨rx,rv⟩:=zLs hx
 have hnx:=hok.nx
 have hwr:IntKind.i64.wrap ((a.nx:Int)+1)=((a.nx+1:Nat):Int):=by rw[qX (by omega) (by omega)];omega
 have hpl:(p.t.toNat:Int)<s.hp.length:=by omega
 have hpl2:p.t.toNat<s.hp.length:=by omega
 have hpl3:p.t.toNat+1<=s.hp.length:=by omega
 have hl2:((a.nx:Int)+1=((zAk a.fs).length:Int))=True:=eq_true (by omega)
 have hl3:(a.nx+1=(zAk a.fs).length)=True:=eq_true hl
 refine zX (tbl:=jY) zAa 0 5 (af:=a28) rfl ?_
 rw[a28,b28,qB]
 refine⟨by simp,?_⟩
 simp -implicitDefEqProofs [jA,jY,qC,forms79,a79,b79,forms83,a83,b83,forms85,a85,b85,forms86,a86,b86,forms136,a136,b136,forms87,a87,b87,forms89,a89,b89,forms90,a90,b90,forms91,a91,b91,forms142,a142,b142,forms138,a138,b138,z1,z2,ha,ft,jO,zD,zH,hac,hk0,hel,t3,qT,zG3,hat,hk6,hgl,hlt,hlt2,rx,rv,hwr,hp,hpl,hpl2,hpl3,hl2,hl3,zC5,qM]
 have htp:=zAr th s.ts (b:={ a with nx:=a.nx+1,at_:=3 }) ha
 rw[←htp] at hes
 subst hS
 have hba:Att.ask { a with nx:=a.nx+1,at_:=3 }=a.ra:=by simp[Att.ask,hk]
 rcases qH hth with rfl|rfl|rfl|rfl
 ·refine zA [.pack (GD.att { a with nx:=a.nx+1,at_:=3 }) 7 [12,13],.pack (GD.eng ({ s with ts:=zZ s.ts 0 (some { a with nx:=a.nx+1,at_:=3 }),hp:=s.hp.set p.t.toNat p.v })) 0 [1,2,3,4,5,6,7,8,9,10]] [0] ?_ ?_ ?_<;> simp[zH,zJ,hba,zZ,ha,zD,qE,o1,o2,o3,Rp.v,Rp.cells,qJ,qQ,qK,qP,qO,zW,zY,qM,qN,hk6]<;> exact hes
 ·refine zA [.pack (GD.att { a with nx:=a.nx+1,at_:=3 }) 7 [12,13],.pack (GD.eng ({ s with ts:=zZ s.ts 1 (some { a with nx:=a.nx+1,at_:=3 }),hp:=s.hp.set p.t.toNat p.v })) 0 [1,2,3,4,5,6,8,7,9,10]] [0] ?_ ?_ ?_<;> simp[zH,zJ,hba,zZ,ha,zD,qE,o1,o2,o3,Rp.v,Rp.cells,qJ,qQ,qK,qP,qO,zW,zY,qM,qN,hk6]<;> exact hes
 ·refine zA [.pack (GD.att { a with nx:=a.nx+1,at_:=3 }) 7 [12,13],.pack (GD.eng ({ s with ts:=zZ s.ts 2 (some { a with nx:=a.nx+1,at_:=3 }),hp:=s.hp.set p.t.toNat p.v })) 0 [1,2,3,4,5,6,8,9,7,10]] [0] ?_ ?_ ?_<;> simp[zH,zJ,hba,zZ,ha,zD,qE,o1,o2,o3,Rp.v,Rp.cells,qJ,qQ,qK,qP,qO,zW,zY,qM,qN,hk6]<;> exact hes
 ·refine zA [.pack (GD.att { a with nx:=a.nx+1,at_:=3 }) 7 [12,13],.pack (GD.eng ({ s with ts:=zZ s.ts 3 (some { a with nx:=a.nx+1,at_:=3 }),hp:=s.hp.set p.t.toNat p.v })) 0 [1,2,3,4,5,6,8,9,10,7]] [0] ?_ ?_ ?_<;> simp[zH,zJ,hba,zZ,ha,zD,qE,o1,o2,o3,Rp.v,Rp.cells,qJ,qQ,qK,qP,qO,zW,zY,qM,qN,hk6]<;> exact hes
theorem qLj (s:NS) (hs:s.Ok) (hev:s.ev.length<=100000) (th:Nat) (hth:th<4) (a:Att) (ha:s.ts th=some a) (hk:a.asked=true) (hat:a.at_=3) (hk6:a.ra.k=6) (ho:s.o=some (th:Int)):zP Tryz.prog cfg 28 [.pointer (some ⟨0,0,none⟩),.int .i64 th] (AH.of [some (.hi (.eng s))])
  fun r H'=> r=.ret (qP 0).v/\H'=AH.of [some (.hi (.eng (zAj ({ s with o:=none,c:=s.c+1 }) th a)))]:=by
 refine zP.ends ?_
 generalize hS:((zAj ({ s with o:=none,c:=s.c+1 }) th a):NS)=S'
 refine zP.openEng hth fun es cc hes=> ?_
 have ft:=jE hth hes
 have z1:¬(th:Int)<0:=by omega
 have z2:¬4<=(th:Int):=by omega
 have hok:=hs.ts th a ha
 have hac:=xM a hk
 have hk0:¬a.ra.k=0:=by have:=(hok.ask hk).1;omega
 have hel:(s.ev.length+1)*32<=140737488355328/\s.ev.length<=9223372036854775806:=by omega
 have t3:=jB s.ev
 have hgl:=hok.fs
 have hsc:=hs.c
 have hw2:IntKind.u64.wrap (s.c+1)=s.c+1:=zBn (by omega) (by omega)
 obtain⟨es2,hdel,hes2⟩:=zE3 hth hes
 refine zX (tbl:=jY) zAa 0 5 (af:=a28) rfl ?_
 rw[a28,b28,qB]
 refine⟨by simp,?_⟩
 simp -implicitDefEqProofs [jA,jY,qC,forms79,a79,b79,forms83,a83,b83,forms85,a85,b85,forms86,a86,b86,forms136,a136,b136,forms87,a87,b87,forms89,a89,b89,forms90,a90,b90,forms91,a91,b91,forms142,a142,b142,forms138,a138,b138,z1,z2,ha,ft,jO,zD,zH,hac,hk0,hel,t3,qT,zG3,d139,hat,hk6,hgl,ho,hw2,hdel]
 subst hS
 have hba:True:=trivial
 rcases qH hth with rfl|rfl|rfl|rfl
 ·have ho0:s.o=some 0:=ho
  refine zA [.nil 100,.pack (GD.eng (zAj ({ s with o:=none,c:=s.c+1 }) 0 a)) 0 [1,2,3,19,5,6,20,8,9,10]] [0] ?_ ?_ ?_<;> simp[zH,zJ,hba,zZ,ha,zD,qE,o1,o2,o3,Rp.v,Rp.cells,qJ,qQ,qK,qP,qO,zW,zY,qM,qN,zW,zY,zAj]<;> exact hes2
 ·have ho0:s.o=some 1:=ho
  refine zA [.nil 100,.pack (GD.eng (zAj ({ s with o:=none,c:=s.c+1 }) 1 a)) 0 [1,2,3,19,5,6,8,20,9,10]] [0] ?_ ?_ ?_<;> simp[zH,zJ,hba,zZ,ha,zD,qE,o1,o2,o3,Rp.v,Rp.cells,qJ,qQ,qK,qP,qO,zW,zY,qM,qN,zW,zY,zAj]<;> exact hes2
 ·have ho0:s.o=some 2:=ho
  refine zA [.nil 100,.pack (GD.eng (zAj ({ s with o:=none,c:=s.c+1 }) 2 a)) 0 [1,2,3,19,5,6,8,9,20,10]] [0] ?_ ?_ ?_<;> simp[zH,zJ,hba,zZ,ha,zD,qE,o1,o2,o3,Rp.v,Rp.cells,qJ,qQ,qK,qP,qO,zW,zY,qM,qN,zW,zY,zAj]<;> exact hes2
 ·have ho0:s.o=some 3:=ho
  refine zA [.nil 100,.pack (GD.eng (zAj ({ s with o:=none,c:=s.c+1 }) 3 a)) 0 [1,2,3,19,5,6,8,9,10,20]] [0] ?_ ?_ ?_<;> simp[zH,zJ,hba,zZ,ha,zD,qE,o1,o2,o3,Rp.v,Rp.cells,qJ,qQ,qK,qP,qO,zW,zY,qM,qN,zW,zY,zAj]<;> exact hes2
end YtnemoimbeefngaaGreat
end Go.Proofs
namespace Go.Proofs
namespace YtnemoimbeefngaaGreat
open Go.Abs
theorem qLf (s:NS) (hs:s.Ok) (hev:s.ev.length<=100000) (th:Nat) (hth:th<4) (a:Att) (ha:s.ts th=some a) (hk:a.asked=true) (hat:a.at_<4) (hk3:a.ra.k=3) (f:List Pr) (fs:List (List Pr)) (hfs:a.fs=f::fs) (hl:¬4<=fs.length):zP Tryz.prog cfg 28 [.pointer (some ⟨0,0,none⟩),.int .i64 th] (AH.of [some (.hi (.eng s))])
  fun r H'=> r=.ret (qK 0).v/\H'=AH.of [some (.hi (.eng ({ s with ts:=zZ s.ts th (some { a with asked:=false,fs:=[]::f::fs }),ev:=s.ev++[⟨4,a.n,0,0⟩] })))]:=by
 refine zP.ends ?_
 generalize hS:(({ s with ts:=zZ s.ts th (some { a with asked:=false,fs:=[]::f::fs }),ev:=s.ev++[⟨4,a.n,0,0⟩] }):NS)=S'
 refine zP.openEng hth fun es cc hes=> ?_
 have ft:=jE hth hes
 have z1:¬(th:Int)<0:=by omega
 have z2:¬4<=(th:Int):=by omega
 have hok:=hs.ts th a ha
 have hac:=xM a hk
 have hk0:¬a.ra.k=0:=by have:=(hok.ask hk).1;omega
 have hel:(s.ev.length+1)*32<=140737488355328/\s.ev.length<=9223372036854775806:=by omega
 have t3:=jB s.ev
 have hlo:¬4<=(a.at_:Int):=by omega
 have hlo2:¬4<=a.at_:=by omega
 have hgl:=hok.fs
 have hne:=hok.fs.1
 rw[hfs] at hgl
 have hl5:fs.length<=100:=by have:=hgl.2.1;simp at this;omega
 refine zX (tbl:=jY) zAa 0 5 (af:=a28) rfl ?_
 rw[a28,b28,qB]
 refine⟨by simp,?_⟩
 simp -implicitDefEqProofs [jA,jY,qC,forms79,a79,b79,forms83,a83,b83,forms85,a85,b85,forms86,a86,b86,forms136,a136,b136,forms87,a87,b87,forms89,a89,b89,forms90,a90,b90,forms91,a91,b91,forms142,a142,b142,forms138,a138,b138,z1,z2,ha,ft,jO,zD,zH,hac,hk0,hel,t3,qT,hlo,hlo2,d144,hk3,hfs,hl,hl5]
 have htp:=zAr th s.ts (b:={ a with asked:=false,fs:=[]::f::fs }) ha
 rw[←htp] at hes
 subst hS
 have hba:Att.ask { a with asked:=false,fs:=[]::f::fs }=⟨0,0,0⟩:=by simp[Att.ask,hk]
 rcases qH hth with rfl|rfl|rfl|rfl
 ·refine zA [.pack (GD.att { a with asked:=false,fs:=[]::f::fs }) 7 [12,13],.pack (GD.eng ({ s with ts:=zZ s.ts 0 (some { a with asked:=false,fs:=[]::f::fs }),ev:=s.ev++[⟨4,a.n,0,0⟩] })) 0 [1,2,3,18,5,6,7,8,9,10]] [0] ?_ ?_ ?_<;> simp[zH,zJ,hba,zZ,ha,zD,qE,o1,o2,o3,Rp.v,Rp.cells,qJ,qQ,qK,qP,qO,zW,zY,qM,qN,zW,zY]<;> exact hes
 ·refine zA [.pack (GD.att { a with asked:=false,fs:=[]::f::fs }) 7 [12,13],.pack (GD.eng ({ s with ts:=zZ s.ts 1 (some { a with asked:=false,fs:=[]::f::fs }),ev:=s.ev++[⟨4,a.n,0,0⟩] })) 0 [1,2,3,18,5,6,8,7,9,10]] [0] ?_ ?_ ?_<;> simp[zH,zJ,hba,zZ,ha,zD,qE,o1,o2,o3,Rp.v,Rp.cells,qJ,qQ,qK,qP,qO,zW,zY,qM,qN,zW,zY]<;> exact hes
 ·refine zA [.pack (GD.att { a with asked:=false,fs:=[]::f::fs }) 7 [12,13],.pack (GD.eng ({ s with ts:=zZ s.ts 2 (some { a with asked:=false,fs:=[]::f::fs }),ev:=s.ev++[⟨4,a.n,0,0⟩] })) 0 [1,2,3,18,5,6,8,9,7,10]] [0] ?_ ?_ ?_<;> simp[zH,zJ,hba,zZ,ha,zD,qE,o1,o2,o3,Rp.v,Rp.cells,qJ,qQ,qK,qP,qO,zW,zY,qM,qN,zW,zY]<;> exact hes
 ·refine zA [.pack (GD.att { a with asked:=false,fs:=[]::f::fs }) 7 [12,13],.pack (GD.eng ({ s with ts:=zZ s.ts 3 (some { a with asked:=false,fs:=[]::f::fs }),ev:=s.ev++[⟨4,a.n,0,0⟩] })) 0 [1,2,3,18,5,6,8,9,10,7]] [0] ?_ ?_ ?_<;> simp[zH,zJ,hba,zZ,ha,zD,qE,o1,o2,o3,Rp.v,Rp.cells,qJ,qQ,qK,qP,qO,zW,zY,qM,qN,zW,zY]<;> exact hes
theorem qLe (s:NS) (hs:s.Ok) (hev:s.ev.length<=100000) (th:Nat) (hth:th<4) (a:Att) (ha:s.ts th=some a) (hk:a.asked=true) (hat:a.at_<4) (hk4:a.ra.k=4) (f g:List Pr) (fs:List (List Pr)) (hfs:a.fs=f::g::fs):zP Tryz.prog cfg 28 [.pointer (some ⟨0,0,none⟩),.int .i64 th] (AH.of [some (.hi (.eng s))])
  fun r H'=> r=.ret (qK 0).v/\H'=AH.of [some (.hi (.eng ({ s with ts:=zZ s.ts th (some { a with asked:=false,fs:=g::fs }),ev:=s.ev++[⟨5,a.n,0,0⟩] })))]:=by
 refine zP.ends ?_
 generalize hS:(({ s with ts:=zZ s.ts th (some { a with asked:=false,fs:=g::fs }),ev:=s.ev++[⟨5,a.n,0,0⟩] }):NS)=S'
 refine zP.openEng hth fun es cc hes=> ?_
 have ft:=jE hth hes
 have z1:¬(th:Int)<0:=by omega
 have z2:¬4<=(th:Int):=by omega
 have hok:=hs.ts th a ha
 have hac:=xM a hk
 have hk0:¬a.ra.k=0:=by have:=(hok.ask hk).1;omega
 have hel:(s.ev.length+1)*32<=140737488355328/\s.ev.length<=9223372036854775806:=by omega
 have t3:=jB s.ev
 have hlo:¬4<=(a.at_:Int):=by omega
 have hlo2:¬4<=a.at_:=by omega
 have hgl:=hok.fs
 have hne:=hok.fs.1
 rw[hfs] at hgl
 have hl5:fs.length+1<=100:=by have:=hgl.2.1;simp at this;omega
 refine zX (tbl:=jY) zAa 0 5 (af:=a28) rfl ?_
 rw[a28,b28,qB]
 refine⟨by simp,?_⟩
 simp -implicitDefEqProofs [jA,jY,qC,forms79,a79,b79,forms83,a83,b83,forms85,a85,b85,forms86,a86,b86,forms136,a136,b136,forms87,a87,b87,forms89,a89,b89,forms90,a90,b90,forms91,a91,b91,forms142,a142,b142,forms138,a138,b138,z1,z2,ha,ft,jO,zD,zH,hac,hk0,hel,t3,qT,hlo,hlo2,d145,hk4,hfs,hl5]
 have htp:=zAr th s.ts (b:={ a with asked:=false,fs:=g::fs }) ha
 rw[←htp] at hes
 subst hS
 have hba:Att.ask { a with asked:=false,fs:=g::fs }=⟨0,0,0⟩:=by simp[Att.ask,hk]
 rcases qH hth with rfl|rfl|rfl|rfl
 ·refine zA [.pack (GD.att { a with asked:=false,fs:=g::fs }) 7 [12,13],.pack (GD.eng ({ s with ts:=zZ s.ts 0 (some { a with asked:=false,fs:=g::fs }),ev:=s.ev++[⟨5,a.n,0,0⟩] })) 0 [1,2,3,18,5,6,7,8,9,10]] [0] ?_ ?_ ?_<;> simp[zH,zJ,hba,zZ,ha,zD,qE,o1,o2,o3,Rp.v,Rp.cells,qJ,qQ,qK,qP,qO,zW,zY,qM,qN,zW,zY]<;> exact hes
 ·refine zA [.pack (GD.att { a with asked:=false,fs:=g::fs }) 7 [12,13],.pack (GD.eng ({ s with ts:=zZ s.ts 1 (some { a with asked:=false,fs:=g::fs }),ev:=s.ev++[⟨5,a.n,0,0⟩] })) 0 [1,2,3,18,5,6,8,7,9,10]] [0] ?_ ?_ ?_<;> simp[zH,zJ,hba,zZ,ha,zD,qE,o1,o2,o3,Rp.v,Rp.cells,qJ,qQ,qK,qP,qO,zW,zY,qM,qN,zW,zY]<;> exact hes
 ·refine zA [.pack (GD.att { a with asked:=false,fs:=g::fs }) 7 [12,13],.pack (GD.eng ({ s with ts:=zZ s.ts 2 (some { a with asked:=false,fs:=g::fs }),ev:=s.ev++[⟨5,a.n,0,0⟩] })) 0 [1,2,3,18,5,6,8,9,7,10]] [0] ?_ ?_ ?_<;> simp[zH,zJ,hba,zZ,ha,zD,qE,o1,o2,o3,Rp.v,Rp.cells,qJ,qQ,qK,qP,qO,zW,zY,qM,qN,zW,zY]<;> exact hes
 ·refine zA [.pack (GD.att { a with asked:=false,fs:=g::fs }) 7 [12,13],.pack (GD.eng ({ s with ts:=zZ s.ts 3 (some { a with asked:=false,fs:=g::fs }),ev:=s.ev++[⟨5,a.n,0,0⟩] })) 0 [1,2,3,18,5,6,8,9,10,7]] [0] ?_ ?_ ?_<;> simp[zH,zJ,hba,zZ,ha,zD,qE,o1,o2,o3,Rp.v,Rp.cells,qJ,qQ,qK,qP,qO,zW,zY,qM,qN,zW,zY]<;> exact hes
theorem qLd (s:NS) (hs:s.Ok) (hev:s.ev.length<=100000) (th:Nat) (hth:th<4) (a:Att) (ha:s.ts th=some a) (hk:a.asked=true) (hat:a.at_<4) (hk5:a.ra.k=5) (f g:List Pr) (fs:List (List Pr)) (hfs:a.fs=f::g::fs):zP Tryz.prog cfg 28 [.pointer (some ⟨0,0,none⟩),.int .i64 th] (AH.of [some (.hi (.eng s))])
  fun r H'=> r=.ret (qK 0).v/\H'=AH.of [some (.hi (.eng ({ s with ts:=zZ s.ts th (some { a with asked:=false,fs:=xA g f::fs }),ev:=s.ev++[⟨6,a.n,0,0⟩] })))]:=by
 refine zP.ends ?_
 generalize hS:(({ s with ts:=zZ s.ts th (some { a with asked:=false,fs:=xA g f::fs }),ev:=s.ev++[⟨6,a.n,0,0⟩] }):NS)=S'
 refine zP.openEng hth fun es cc hes=> ?_
 have ft:=jE hth hes
 have z1:¬(th:Int)<0:=by omega
 have z2:¬4<=(th:Int):=by omega
 have hok:=hs.ts th a ha
 have hac:=xM a hk
 have hk0:¬a.ra.k=0:=by have:=(hok.ask hk).1;omega
 have hel:(s.ev.length+1)*32<=140737488355328/\s.ev.length<=9223372036854775806:=by omega
 have t3:=jB s.ev
 have hlo:¬4<=(a.at_:Int):=by omega
 have hlo2:¬4<=a.at_:=by omega
 have hgl:=hok.fs
 have hne:=hok.fs.1
 rw[hfs] at hgl
 refine zX (tbl:=jY) zAa 0 5 (af:=a28) rfl ?_
 rw[a28,b28,qB]
 refine⟨by simp,?_⟩
 simp -implicitDefEqProofs [jA,jY,qC,forms79,a79,b79,forms83,a83,b83,forms85,a85,b85,forms86,a86,b86,forms136,a136,b136,forms87,a87,b87,forms89,a89,b89,forms90,a90,b90,forms91,a91,b91,forms142,a142,b142,forms138,a138,b138,z1,z2,ha,ft,jO,zD,zH,hac,hk0,hel,t3,qT,hlo,hlo2,d146,hk5,hfs,hgl]
 have htp:=zAr th s.ts (b:={ a with asked:=false,fs:=xA g f::fs }) ha
 rw[←htp] at hes
 subst hS
 have hba:Att.ask { a with asked:=false,fs:=xA g f::fs }=⟨0,0,0⟩:=by simp[Att.ask,hk]
 rcases qH hth with rfl|rfl|rfl|rfl
 ·refine zA [.pack (GD.att { a with asked:=false,fs:=xA g f::fs }) 7 [12,13],.pack (GD.eng ({ s with ts:=zZ s.ts 0 (some { a with asked:=false,fs:=xA g f::fs }),ev:=s.ev++[⟨6,a.n,0,0⟩] })) 0 [1,2,3,18,5,6,7,8,9,10]] [0] ?_ ?_ ?_<;> simp[zH,zJ,hba,zZ,ha,zD,qE,o1,o2,o3,Rp.v,Rp.cells,qJ,qQ,qK,qP,qO,zW,zY,qM,qN,zW,zY]<;> exact hes
 ·refine zA [.pack (GD.att { a with asked:=false,fs:=xA g f::fs }) 7 [12,13],.pack (GD.eng ({ s with ts:=zZ s.ts 1 (some { a with asked:=false,fs:=xA g f::fs }),ev:=s.ev++[⟨6,a.n,0,0⟩] })) 0 [1,2,3,18,5,6,8,7,9,10]] [0] ?_ ?_ ?_<;> simp[zH,zJ,hba,zZ,ha,zD,qE,o1,o2,o3,Rp.v,Rp.cells,qJ,qQ,qK,qP,qO,zW,zY,qM,qN,zW,zY]<;> exact hes
 ·refine zA [.pack (GD.att { a with asked:=false,fs:=xA g f::fs }) 7 [12,13],.pack (GD.eng ({ s with ts:=zZ s.ts 2 (some { a with asked:=false,fs:=xA g f::fs }),ev:=s.ev++[⟨6,a.n,0,0⟩] })) 0 [1,2,3,18,5,6,8,9,7,10]] [0] ?_ ?_ ?_<;> simp[zH,zJ,hba,zZ,ha,zD,qE,o1,o2,o3,Rp.v,Rp.cells,qJ,qQ,qK,qP,qO,zW,zY,qM,qN,zW,zY]<;> exact hes
 ·refine zA [.pack (GD.att { a with asked:=false,fs:=xA g f::fs }) 7 [12,13],.pack (GD.eng ({ s with ts:=zZ s.ts 3 (some { a with asked:=false,fs:=xA g f::fs }),ev:=s.ev++[⟨6,a.n,0,0⟩] })) 0 [1,2,3,18,5,6,8,9,10,7]] [0] ?_ ?_ ?_<;> simp[zH,zJ,hba,zZ,ha,zD,qE,o1,o2,o3,Rp.v,Rp.cells,qJ,qQ,qK,qP,qO,zW,zY,qM,qN,zW,zY]<;> exact hes
theorem qFk (s:NS) (hs:s.Ok) (hev:s.ev.length<=100000) (th:Nat) (hth:th<4) (a:Att) (ha:s.ts th=some a) (hk:a.asked=true) (hat:a.at_<4) (hk2:a.ra.k=2) (f:List Pr) (fs:List (List Pr)) (hfs:a.fs=f::fs) (hP:xO f fs a.ra.t a.ra.v=0):zP Tryz.prog cfg 28 [.pointer (some ⟨0,0,none⟩),.int .i64 th] (AH.of [some (.hi (.eng s))])
  fun r H'=> r=.ret (qK 0).v/\H'=AH.of [some (.hi (.eng ({ s with ts:=zZ s.ts th (some { a with asked:=false,fs:=xP f ⟨a.ra.t,a.ra.v⟩::fs }),ev:=s.ev++[⟨3,a.n,a.ra.t,a.ra.v⟩] })))]:=by
 refine zP.ends ?_
 generalize hS:(({ s with ts:=zZ s.ts th (some { a with asked:=false,fs:=xP f ⟨a.ra.t,a.ra.v⟩::fs }),ev:=s.ev++[⟨3,a.n,a.ra.t,a.ra.v⟩] }):NS)=S'
 refine zP.openEng hth fun es cc hes=> ?_
 have ft:=jE hth hes
 have z1:¬(th:Int)<0:=by omega
 have z2:¬4<=(th:Int):=by omega
 have hok:=hs.ts th a ha
 have hac:=xM a hk
 have hk0:¬a.ra.k=0:=by have:=(hok.ask hk).1;omega
 have hel:(s.ev.length+1)*32<=140737488355328/\s.ev.length<=9223372036854775806:=by omega
 have t3:=jB s.ev
 have hlo:¬4<=(a.at_:Int):=by omega
 have hlo2:¬4<=a.at_:=by omega
 have hgl:=hok.fs
 have hne:=hok.fs.1
 rw[hfs] at hgl
 have hrv:=(hok.ask hk).2.2.2
 refine zX (tbl:=jY) zAa 0 5 (af:=a28) rfl ?_
 rw[a28,b28,qB]
 refine⟨by simp,?_⟩
 simp -implicitDefEqProofs [jA,jY,qC,forms79,a79,b79,forms83,a83,b83,forms85,a85,b85,forms86,a86,b86,forms136,a136,b136,forms87,a87,b87,forms89,a89,b89,forms90,a90,b90,forms91,a91,b91,forms142,a142,b142,forms138,a138,b138,z1,z2,ha,ft,jO,zD,zH,hac,hk0,hel,t3,qT,hlo,hlo2,zQe,hk2,hfs,hgl,hrv,hP]
 have htp:=zAr th s.ts (b:={ a with asked:=false,fs:=xP f ⟨a.ra.t,a.ra.v⟩::fs }) ha
 rw[←htp] at hes
 subst hS
 have hba:Att.ask { a with asked:=false,fs:=xP f ⟨a.ra.t,a.ra.v⟩::fs }=⟨0,0,0⟩:=by simp[Att.ask,hk]
 rcases qH hth with rfl|rfl|rfl|rfl
 ·refine zA [.pack (GD.att { a with asked:=false,fs:=xP f ⟨a.ra.t,a.ra.v⟩::fs }) 7 [12,13],.pack (GD.eng ({ s with ts:=zZ s.ts 0 (some { a with asked:=false,fs:=xP f ⟨a.ra.t,a.ra.v⟩::fs }),ev:=s.ev++[⟨3,a.n,a.ra.t,a.ra.v⟩] })) 0 [1,2,3,18,5,6,7,8,9,10]] [0] ?_ ?_ ?_<;> simp[zH,zJ,hba,zZ,ha,zD,qE,o1,o2,o3,Rp.v,Rp.cells,qJ,qQ,qK,qP,qO,zW,zY,qM,qN,zW,zY]<;> exact hes
 ·refine zA [.pack (GD.att { a with asked:=false,fs:=xP f ⟨a.ra.t,a.ra.v⟩::fs }) 7 [12,13],.pack (GD.eng ({ s with ts:=zZ s.ts 1 (some { a with asked:=false,fs:=xP f ⟨a.ra.t,a.ra.v⟩::fs }),ev:=s.ev++[⟨3,a.n,a.ra.t,a.ra.v⟩] })) 0 [1,2,3,18,5,6,8,7,9,10]] [0] ?_ ?_ ?_<;> simp[zH,zJ,hba,zZ,ha,zD,qE,o1,o2,o3,Rp.v,Rp.cells,qJ,qQ,qK,qP,qO,zW,zY,qM,qN,zW,zY]<;> exact hes
 ·refine zA [.pack (GD.att { a with asked:=false,fs:=xP f ⟨a.ra.t,a.ra.v⟩::fs }) 7 [12,13],.pack (GD.eng ({ s with ts:=zZ s.ts 2 (some { a with asked:=false,fs:=xP f ⟨a.ra.t,a.ra.v⟩::fs }),ev:=s.ev++[⟨3,a.n,a.ra.t,a.ra.v⟩] })) 0 [1,2,3,18,5,6,8,9,7,10]] [0] ?_ ?_ ?_<;> simp[zH,zJ,hba,zZ,ha,zD,qE,o1,o2,o3,Rp.v,Rp.cells,qJ,qQ,qK,qP,qO,zW,zY,qM,qN,zW,zY]<;> exact hes
 ·refine zA [.pack (GD.att { a with asked:=false,fs:=xP f ⟨a.ra.t,a.ra.v⟩::fs }) 7 [12,13],.pack (GD.eng ({ s with ts:=zZ s.ts 3 (some { a with asked:=false,fs:=xP f ⟨a.ra.t,a.ra.v⟩::fs }),ev:=s.ev++[⟨3,a.n,a.ra.t,a.ra.v⟩] })) 0 [1,2,3,18,5,6,8,9,10,7]] [0] ?_ ?_ ?_<;> simp[zH,zJ,hba,zZ,ha,zD,qE,o1,o2,o3,Rp.v,Rp.cells,qJ,qQ,qK,qP,qO,zW,zY,qM,qN,zW,zY]<;> exact hes
theorem qA1 (s:NS) (hs:s.Ok) (hev:s.ev.length<=100000) (th:Nat) (hth:th<4) (a:Att) (ha:s.ts th=some a) (hk:a.asked=true) (hat:a.at_<4) (hk2:a.ra.k=2) (f:List Pr) (fs:List (List Pr)) (hfs:a.fs=f::fs) (hP:¬xO f fs a.ra.t a.ra.v=0) (ho:s.o=some (th:Int)):zP Tryz.prog cfg 28 [.pointer (some ⟨0,0,none⟩),.int .i64 th] (AH.of [some (.hi (.eng s))])
  fun r H'=> r=.ret (qP 2).v/\H'=AH.of [some (.hi (.eng (qY s th a 2)))]:=by
 refine zP.ends ?_
 generalize hS:((qY s th a 2):NS)=S'
 refine zP.openEng hth fun es cc hes=> ?_
 have ft:=jE hth hes
 have z1:¬(th:Int)<0:=by omega
 have z2:¬4<=(th:Int):=by omega
 have hok:=hs.ts th a ha
 have hac:=xM a hk
 have hk0:¬a.ra.k=0:=by have:=(hok.ask hk).1;omega
 have hel:(s.ev.length+1)*32<=140737488355328/\s.ev.length<=9223372036854775806:=by omega
 have t3:=jB s.ev
 have hlo:¬4<=(a.at_:Int):=by omega
 have hlo2:¬4<=a.at_:=by omega
 have hgl:=hok.fs
 rw[hfs] at hgl
 have hrv:=(hok.ask hk).2.2.2
 have hnw3:a.n+1<=s.wy.length:=hok.n
 have hcw:IntKind.u64.wrap (s.c - 1)=s.c - 1:=by have h1:=hs.held _ ho;have h2:=hs.c;exact zBn (by omega) (by omega)
 have hnw:=hok.n
 have hnw2:(a.n:Int)<s.wy.length:=by omega
 obtain⟨es2,hdel,hes2⟩:=zE3 hth hes
 refine zX (tbl:=jY) zAa 0 5 (af:=a28) rfl ?_
 rw[a28,b28,qB]
 refine⟨by simp,?_⟩
 simp -implicitDefEqProofs [jA,jY,qC,forms79,a79,b79,forms83,a83,b83,forms85,a85,b85,forms86,a86,b86,forms136,a136,b136,forms87,a87,b87,forms89,a89,b89,forms90,a90,b90,forms91,a91,b91,forms142,a142,b142,forms138,a138,b138,z1,z2,ha,ft,jO,zD,zH,hac,hk0,hel,t3,qT,zQe,hlo,hlo2,hk2,hfs,hgl,hrv,hP,zHb,ho,hnw,hnw2,hnw3,zCq,qN,hcw,hdel]
 subst hS
 have hba:True:=trivial
 rcases qH hth with rfl|rfl|rfl|rfl
 ·have ho0:s.o=some 0:=ho
  refine zA [.nil 100,.pack (GD.eng (qY s 0 a 2)) 0 [1,2,3,19,5,6,20,8,9,10]] [0] ?_ ?_ ?_<;> simp[zH,zJ,hba,zZ,ha,zD,qE,o1,o2,o3,Rp.v,Rp.cells,qJ,qQ,qK,qP,qO,zW,zY,qM,qN,qY,ho0]<;> exact hes2
 ·have ho0:s.o=some 1:=ho
  refine zA [.nil 100,.pack (GD.eng (qY s 1 a 2)) 0 [1,2,3,19,5,6,8,20,9,10]] [0] ?_ ?_ ?_<;> simp[zH,zJ,hba,zZ,ha,zD,qE,o1,o2,o3,Rp.v,Rp.cells,qJ,qQ,qK,qP,qO,zW,zY,qM,qN,qY,ho0]<;> exact hes2
 ·have ho0:s.o=some 2:=ho
  refine zA [.nil 100,.pack (GD.eng (qY s 2 a 2)) 0 [1,2,3,19,5,6,8,9,20,10]] [0] ?_ ?_ ?_<;> simp[zH,zJ,hba,zZ,ha,zD,qE,o1,o2,o3,Rp.v,Rp.cells,qJ,qQ,qK,qP,qO,zW,zY,qM,qN,qY,ho0]<;> exact hes2
 ·have ho0:s.o=some 3:=ho
  refine zA [.nil 100,.pack (GD.eng (qY s 3 a 2)) 0 [1,2,3,19,5,6,8,9,10,20]] [0] ?_ ?_ ?_<;> simp[zH,zJ,hba,zZ,ha,zD,qE,o1,o2,o3,Rp.v,Rp.cells,qJ,qQ,qK,qP,qO,zW,zY,qM,qN,qY,ho0]<;> exact hes2
theorem qA2 (s:NS) (hs:s.Ok) (hev:s.ev.length<=100000) (th:Nat) (hth:th<4) (a:Att) (ha:s.ts th=some a) (hk:a.asked=true) (hat:a.at_<4) (hk2:a.ra.k=2) (f:List Pr) (fs:List (List Pr)) (hfs:a.fs=f::fs) (hP:¬xO f fs a.ra.t a.ra.v=0) (ho:¬s.o=some (th:Int)):zP Tryz.prog cfg 28 [.pointer (some ⟨0,0,none⟩),.int .i64 th] (AH.of [some (.hi (.eng s))])
  fun r H'=> r=.ret (qP 2).v/\H'=AH.of [some (.hi (.eng (qY s th a 2)))]:=by
 refine zP.ends ?_
 generalize hS:((qY s th a 2):NS)=S'
 refine zP.openEng hth fun es cc hes=> ?_
 have ft:=jE hth hes
 have z1:¬(th:Int)<0:=by omega
 have z2:¬4<=(th:Int):=by omega
 have hok:=hs.ts th a ha
 have hac:=xM a hk
 have hk0:¬a.ra.k=0:=by have:=(hok.ask hk).1;omega
 have hel:(s.ev.length+1)*32<=140737488355328/\s.ev.length<=9223372036854775806:=by omega
 have t3:=jB s.ev
 have hlo:¬4<=(a.at_:Int):=by omega
 have hlo2:¬4<=a.at_:=by omega
 have hgl:=hok.fs
 rw[hfs] at hgl
 have hrv:=(hok.ask hk).2.2.2
 have hnw3:a.n+1<=s.wy.length:=hok.n
 have hnw:=hok.n
 have hnw2:(a.n:Int)<s.wy.length:=by omega
 obtain⟨es2,hdel,hes2⟩:=zE3 hth hes
 refine zX (tbl:=jY) zAa 0 5 (af:=a28) rfl ?_
 rw[a28,b28,qB]
 refine⟨by simp,?_⟩
 simp -implicitDefEqProofs [jA,jY,qC,forms79,a79,b79,forms83,a83,b83,forms85,a85,b85,forms86,a86,b86,forms136,a136,b136,forms87,a87,b87,forms89,a89,b89,forms90,a90,b90,forms91,a91,b91,forms142,a142,b142,forms138,a138,b138,z1,z2,ha,ft,jO,zD,zH,hac,hk0,hel,t3,qT,zQe,hlo,hlo2,hk2,hfs,hgl,hrv,hP,zHb,ho,hnw,hnw2,hnw3,zCq,qN,hdel]
 subst hS
 have hba:True:=trivial
 rcases qH hth with rfl|rfl|rfl|rfl
 ·have ho0:¬s.o=some 0:=ho
  refine zA [.nil 100,.pack (GD.eng (qY s 0 a 2)) 0 [1,2,3,19,5,6,20,8,9,10]] [0] ?_ ?_ ?_<;> simp[zH,zJ,hba,zZ,ha,zD,qE,o1,o2,o3,Rp.v,Rp.cells,qJ,qQ,qK,qP,qO,zW,zY,qM,qN,qY,ho0]<;> exact hes2
 ·have ho0:¬s.o=some 1:=ho
  refine zA [.nil 100,.pack (GD.eng (qY s 1 a 2)) 0 [1,2,3,19,5,6,8,20,9,10]] [0] ?_ ?_ ?_<;> simp[zH,zJ,hba,zZ,ha,zD,qE,o1,o2,o3,Rp.v,Rp.cells,qJ,qQ,qK,qP,qO,zW,zY,qM,qN,qY,ho0]<;> exact hes2
 ·have ho0:¬s.o=some 2:=ho
  refine zA [.nil 100,.pack (GD.eng (qY s 2 a 2)) 0 [1,2,3,19,5,6,8,9,20,10]] [0] ?_ ?_ ?_<;> simp[zH,zJ,hba,zZ,ha,zD,qE,o1,o2,o3,Rp.v,Rp.cells,qJ,qQ,qK,qP,qO,zW,zY,qM,qN,qY,ho0]<;> exact hes2
 ·have ho0:¬s.o=some 3:=ho
  refine zA [.nil 100,.pack (GD.eng (qY s 3 a 2)) 0 [1,2,3,19,5,6,8,9,10,20]] [0] ?_ ?_ ?_<;> simp[zH,zJ,hba,zZ,ha,zD,qE,o1,o2,o3,Rp.v,Rp.cells,qJ,qQ,qK,qP,qO,zW,zY,qM,qN,qY,ho0]<;> exact hes2
end YtnemoimbeefngaaGreat
end Go.Proofs
namespace Go.Proofs
namespace YtnemoimbeefngaaGreat
open Go.Abs
theorem zQr (s:NS) (th:Nat) (hth:th<4) (hb:s.ts th=none∨∃a,s.ts th=some a/\a.asked=false):zP Tryz.prog cfg 28 [.pointer (some ⟨0,0,none⟩),.int .i64 th] (AH.of [some (.hi (.eng s))])
  fun r H'=> r=.ret (qQ 8).v/\H'=AH.of [some (.hi (.eng s))]:=by
 refine zP.ends ?_
 refine zP.openEng hth fun es cc hes=> ?_
 have ft:=jE hth hes
 have z1:¬(th:Int)<0:=by omega
 have z2:¬4<=(th:Int):=by omega
 rcases hb with ha|⟨a,ha,hf⟩
 ·refine zX (tbl:=[]) (by simp) 0 3 (af:=a28) rfl ?_
  rw[a28,b28,qB]
  refine⟨by simp,?_⟩
  simp -implicitDefEqProofs [jA,forms79,a79,b79,z1,z2,ha,ft,jO]
  rcases qH hth with rfl|rfl|rfl|rfl
  ·refine zA [.pack (GD.eng s) 0 [1,2,3,4,5,6,7,8,9,10]] [0] ?_ ?_ ?_<;> simp[zJ,ha,o1,o2,o3,qQ,Rp.v,Rp.cells]<;> exact hes
  ·refine zA [.pack (GD.eng s) 0 [1,2,3,4,5,6,8,7,9,10]] [0] ?_ ?_ ?_<;> simp[zJ,ha,o1,o2,o3,qQ,Rp.v,Rp.cells]<;> exact hes
  ·refine zA [.pack (GD.eng s) 0 [1,2,3,4,5,6,8,9,7,10]] [0] ?_ ?_ ?_<;> simp[zJ,ha,o1,o2,o3,qQ,Rp.v,Rp.cells]<;> exact hes
  ·refine zA [.pack (GD.eng s) 0 [1,2,3,4,5,6,8,9,10,7]] [0] ?_ ?_ ?_<;> simp[zJ,ha,o1,o2,o3,qQ,Rp.v,Rp.cells]<;> exact hes
 ·have hac:=zAc a hf
  refine zX (tbl:=[]) (by simp) 0 3 (af:=a28) rfl ?_
  rw[a28,b28,qB]
  refine⟨by simp,?_⟩
  simp -implicitDefEqProofs [jA,forms79,a79,b79,z1,z2,ha,ft,jO,zD,zH,hac]
  rcases qH hth with rfl|rfl|rfl|rfl
  ·refine zA [.pack (GD.att a) 7 [12,13],.pack (GD.eng s) 0 [1,2,3,4,5,6,7,8,9,10]] [0] ?_ ?_ ?_<;> simp[zH,zJ,hac,ha,zD,o1,o2,o3,qQ,Rp.v,Rp.cells]<;> exact hes
  ·refine zA [.pack (GD.att a) 7 [12,13],.pack (GD.eng s) 0 [1,2,3,4,5,6,8,7,9,10]] [0] ?_ ?_ ?_<;> simp[zH,zJ,hac,ha,zD,o1,o2,o3,qQ,Rp.v,Rp.cells]<;> exact hes
  ·refine zA [.pack (GD.att a) 7 [12,13],.pack (GD.eng s) 0 [1,2,3,4,5,6,8,9,7,10]] [0] ?_ ?_ ?_<;> simp[zH,zJ,hac,ha,zD,o1,o2,o3,qQ,Rp.v,Rp.cells]<;> exact hes
  ·refine zA [.pack (GD.att a) 7 [12,13],.pack (GD.eng s) 0 [1,2,3,4,5,6,8,9,10,7]] [0] ?_ ?_ ?_<;> simp[zH,zJ,hac,ha,zD,o1,o2,o3,qQ,Rp.v,Rp.cells]<;> exact hes
theorem zX1 (d:GD) (t:Int) (ht:t<0∨4<=t):zP Tryz.prog cfg 28 [.pointer (some ⟨0,0,none⟩),.int .i64 t] (AH.of [some (.hi d)])
  fun r H'=> r=.ret (qQ 2).v/\H'=AH.of [some (.hi d)]:=by
 refine zP.ends ?_
 have ht':¬t<0->4<=t:=fun h=> by omega
 refine zX (tbl:=[]) (by simp) 0 3 (af:=a28) rfl ?_
 rw[a28,b28,qB]
 refine⟨by simp,?_⟩
 by_cases h1:t<0
 ·simp -implicitDefEqProofs [forms79,a79,b79,h1]
  refine zA [] [0] ?_ ?_ ?_<;> simp[qQ,Rp.v,Rp.cells]
 ·simp -implicitDefEqProofs [forms79,a79,b79,h1,ht' h1]
  refine zA [] [0] ?_ ?_ ?_<;> simp[qQ,Rp.v,Rp.cells]
theorem zAz {f:FuncId} {args:List Value} {H:AH GD} {r r':Rp} {s s':NS} (h:zP Tryz.prog cfg f args H fun r1 H'=> r1=.ret r.v/\H'=AH.of [some (.hi (.eng s))]) (e:(r,s)=(r',s')):
  zP Tryz.prog cfg f args H fun r1 H'=> r1=.ret r'.v/\H'=AH.of [some (.hi (.eng s'))]:=by
 cases e;exact h
theorem zQz {s:NS} {a:Att} (h:a.Ok s) {p:Pr} (hp:p∈zAk a.fs):0<=p.t/\p.t<s.hp.length:=by
 unfold zAk zCw at hp
 obtain⟨t,_,ht⟩:=List.mem_filterMap.1 hp
 simp only[Option.map_eq_some_iff] at ht
 obtain⟨v,hv,rfl⟩:=ht
 have:∃f∈a.fs,∃q∈f,q.t=(t:Int):=by
  unfold zAd at hv
  obtain⟨f,hf,hg⟩:=List.exists_of_findSome?_eq_some hv
  refine⟨f,hf,?_⟩
  unfold jP at hg
  simp only[Option.map_eq_some_iff] at hg
  obtain⟨q,hq,_⟩:=hg
  exact⟨q,List.mem_of_find?_eq_some hq,by simpa using List.find?_some hq⟩
 obtain⟨f,hf,q,hq,hqt⟩:=this
 have:=h.fst f hf q hq
 simp only
 rw[←hqt]
 exact⟨this.1,this.2.1⟩
theorem qBf (s:NS) (hs:s.Ok) (hev:s.ev.length<=100000) (th:Nat) (hth:th<4):
  zP Tryz.prog cfg 28 [.pointer (some ⟨0,0,none⟩),.int .i64 th] (AH.of [some (.hi (.eng s))])
  fun r H'=> r=.ret (zAs s th).1.v/\H'=AH.of [some (.hi (.eng (zAs s th).2))]:=by
 cases ha:s.ts th with
 |none=> exact zAz (zQr s th hth (.inl ha)) (by simp[zAs,ha])
 |some a=>
  cases hk:a.asked with
  |false=> exact zAz (zQr s th hth (.inr ⟨a,ha,hk⟩)) (by simp[zAs,ha,hk])
  |true=>
   have hok:=hs.ts th a ha
   have hask:=hok.ask hk
   by_cases h4:4<=a.at_
   ·have e0:zAs s th=zB0 s th a:=by simp[zAs,ha,hk,h4]
    rw[e0]
    have h6:=hok.at_
    have hat:a.at_=4∨a.at_=5∨a.at_=6:=by omega
    rcases hat with hat|hat|hat
    ·cases ho:s.o with
     |none=> exact zAz (qFz s hs hev th hth a ha hk hat ho) (by simp[zB0,hat,ho,zCj])
     |some x=> exact zAz (qF0 s hs hev th hth a ha hk x hat ho) (by simp[zB0,hat,ho])
    ·cases hx:a.es[a.nx]? with
     |none=>
      have hge:a.es.length<=a.nx:=List.getElem?_eq_none_iff.1 hx
      by_cases hnx:a.nx=a.es.length
      ·exact zAz (qFy s hs hev th hth a ha hk hat hnx) (by simp[zB0,hat,hx,zCj])
      ·exact absurd (Nat.le_antisymm (hok.la hat) hge) hnx
     |some e=>
      cases hsm:zDl ((s.hp[e.t.toNat]?).getD 0) e.v with
      |true=> exact zAz (qFx s hs hev th hth a ha hk e hat hx hsm) (by simp[zB0,hat,hx,hsm,zCj])
      |false=>
       by_cases ho:s.o=some (th:Int)
       ·exact zAz (qA6 s hs hev th hth a ha hk e hat hx hsm ho) (by simp[zB0,hat,hx,hsm])
       ·exact zAz (qA7 s hs hev th hth a ha hk e hat hx hsm ho) (by simp[zB0,hat,hx,hsm])
    ·by_cases hc:s.c=a.seen
     ·exact zAz (qFv s hs hev th hth a ha hk hat hc) (by simp[zB0,hat,hc])
     ·exact zAz (qFw s hs hev th hth a ha hk hat hc) (by simp[zB0,hat,hc,zCj])
   ·have hlt:a.at_<4:=by omega
    have hkk:a.ra.k=1∨a.ra.k=2∨a.ra.k=3∨a.ra.k=4∨a.ra.k=5∨a.ra.k=6∨a.ra.k=7:=by have:=hask.1;have:=hask.2.1;omega
    obtain⟨f,fs,hfs⟩:∃f fs,a.fs=f::fs:=by
     cases h:a.fs with
     |nil=> exact absurd h hok.fs.1
     |cons f fs=> exact⟨f,fs,rfl⟩
    have hwt:=hok.ww hk
    rcases hkk with k1|k2|k3|k4|k5|k6|k7
    ·have e0:zAs s th=zDm s th a:=by simp[zAs,ha,hk,h4,k1]
     rw[e0]
     cases hv:zAd a.fs a.ra.t with
     |some v=> exact zAz (qLg s hs hev th hth a ha hk hlt k1 v hv) (by simp[zDm,hv])
     |none=>
      have h1:=hok.kr hk hlt k1
      have hra:=hask.2.2.1 (.inl k1)
      obtain⟨y,hy⟩:∃y,s.hp[a.ra.t.toNat]?=some y:=⟨s.hp[a.ra.t.toNat]'(by omega),List.getElem?_eq_getElem (by omega)⟩
      have hat:a.at_=0∨a.at_=1:=by omega
      rcases hat with hat|hat
      ·exact zAz (qLh s hs hev th hth a ha hk hat k1 hv y hy) (by simp[zDm,hv,hat,hy,zCj])
      ·by_cases hc:s.c=a.snap
       ·by_cases hA:zA2 a.es ⟨a.ra.t,a.val,0⟩=0
        ·exact zAz (qFm s hs hev th hth a ha hk hat k1 hv hc hA) (by simp[zDm,hv,hat,hc,hA])
        ·by_cases ho:s.o=some (th:Int)
         ·exact zAz (qA3 s hs hev th hth a ha hk hat k1 hv hc hA ho) (by simp[zDm,hv,hat,hc,hA])
         ·exact zAz (qA4 s hs hev th hth a ha hk hat k1 hv hc hA ho) (by simp[zDm,hv,hat,hc,hA])
       ·exact zAz (qFl s hs hev th hth a ha hk hat k1 hv hc) (by simp[zDm,hv,hat,hc,zCj])
    ·have e0:zAs s th=zCb s th a:=by simp[zAs,ha,hk,h4,k2]
     rw[e0]
     by_cases hP:xO f fs a.ra.t a.ra.v=0
     ·exact zAz (qFk s hs hev th hth a ha hk hlt k2 f fs hfs hP) (by simp[zCb,k2,hfs,zId,zMt,hP])
     ·by_cases ho:s.o=some (th:Int)
      ·exact zAz (qA1 s hs hev th hth a ha hk hlt k2 f fs hfs hP ho) (by simp[zCb,k2,hfs,zId,hP])
      ·exact zAz (qA2 s hs hev th hth a ha hk hlt k2 f fs hfs hP ho) (by simp[zCb,k2,hfs,zId,hP])
    ·have e0:zAs s th=zCb s th a:=by simp[zAs,ha,hk,h4,k3]
     rw[e0]
     have hl:=hwt.1 k3
     rw[hfs] at hl
     have hl4:¬4<=fs.length:=by simp at hl;omega
     have hl5:¬5<=fs.length+1:=by omega
     exact zAz (qLf s hs hev th hth a ha hk hlt k3 f fs hfs hl4) (by simp[zCb,k3,hfs,zOw,hl4])
    ·have e0:zAs s th=zCb s th a:=by simp[zAs,ha,hk,h4,k4]
     rw[e0]
     have hl:=hwt.2 (.inl k4)
     rw[hfs] at hl
     cases fs with
     |nil=> simp at hl
     |cons g rs=> exact zAz (qLe s hs hev th hth a ha hk hlt k4 f g rs hfs) (by simp[zCb,k4,hfs,zO6])
    ·have e0:zAs s th=zCb s th a:=by simp[zAs,ha,hk,h4,k5]
     rw[e0]
     have hl:=hwt.2 (.inr k5)
     rw[hfs] at hl
     cases fs with
     |nil=> simp at hl
     |cons g rs=> exact zAz (qLd s hs hev th hth a ha hk hlt k5 f g rs hfs) (by simp[zCb,k5,hfs,zG7])
    ·have e0:zAs s th=zCt s th a:=by simp[zAs,ha,hk,h4,k6]
     rw[e0]
     have hat:a.at_=0∨a.at_=1∨a.at_=2∨a.at_=3:=by omega
     rcases hat with hat|hat|hat|hat
     ·by_cases hall:zAk a.fs=[]
      ·exact zAz (qFu s hs hev th hth a ha hk hat k6 hall) (by simp[zCt,hat,hall])
      ·exact zAz (qFt s hs hev th hth a ha hk hat k6 hall) (by simp[zCt,hat,hall])
     ·by_cases ht:zBu s.o s.c th a.snap=0
      ·exact zAz (qFr s hs hev th hth a ha hk hat k6 ht) (by simp[zCt,hat,ht])
      ·by_cases ht4:zBu s.o s.c th a.snap=4
       ·have ho:¬s.o=some (th:Int):=fun ho=> by
         have z1:¬(th:Int)<0:=by omega
         have z2:¬4<=(th:Int):=by omega
         rw[ho] at ht4
         simp[zBu,z1,z2] at ht4
        exact zAz (qA5 s hs hev th hth a ha hk hat k6 ht4 ho) (by simp[zCt,hat,ht4])
       ·exact zAz (qFs s hs hev th hth a ha hk hat k6 ht ht4) (by simp[zCt,hat,ht,ht4,zCj])
     ·have hw:=hok.wr hk hat
      obtain⟨p,hp⟩:∃p,(zAk a.fs)[a.nx]?=some p:=⟨_,List.getElem?_eq_getElem hw⟩
      have hpr:=zQz hok (List.mem_of_getElem? hp)
      by_cases hl:a.nx+1=(zAk a.fs).length
      ·exact zAz (qFq s hs hev th hth a ha hk hat k6 p hp hpr hl) (by simp[zCt,hat,hp,hl])
      ·exact zAz (qFp s hs hev th hth a ha hk hat k6 p hp hpr hl) (by simp[zCt,hat,hp,hl])
     ·exact zAz (qLj s hs hev th hth a ha hk hat k6 ((hs.dec th a ha).1 ((hs.dec th a ha).2 hk k6 (.inr hat))).1) (by simp[zCt,hat])
    ·have e0:zAs s th=(qP 4,qY s th a 4):=by simp[zAs,ha,hk,h4,k7]
     rw[e0]
     by_cases ho:s.o=some (th:Int)
     ·exact qFn s hs hev th hth a ha hk hlt k7 ho
     ·exact qFo s hs hev th hth a ha hk hlt k7 ho
end YtnemoimbeefngaaGreat
end Go.Proofs
namespace Go.Proofs
namespace YtnemoimbeefngaaGreat
open Go.Abs
theorem Att.Ok.mono {a:Att} {s s':NS} (h:a.Ok s) (h1:s.wy.length<=s'.wy.length) (h2:s'.hp.length=s.hp.length) (h3:s.c<=s'.c):a.Ok s' where
 n:=Nat.lt_of_lt_of_le h.n h1
 snap:=⟨h.snap.1,Int.le_trans h.snap.2 h3⟩
 es:=h.es
 est:=by rw[h2];exact h.est
 fs:=h.fs
 fst:=by rw[h2];exact h.fst
 seen:=⟨h.seen.1,Int.le_trans h.seen.2 h3⟩
 val:=h.val
 at_:=h.at_
 back:=h.back
 nx:=h.nx
 ask:=by rw[h2];exact h.ask
 wr:=h.wr
 kr:=h.kr
 ko:=h.ko
 kb:=h.kb
 la:=h.la
 ww:=h.ww
 ne:=h.ne
theorem NS.Ok.turn {s s':NS} (hs:s.Ok) {th:Nat} (hth:th<4) {x:Option Att} (hts:s'.ts=zZ s.ts th x) (hhp:s'.hp.length=s.hp.length) (hhv:∀v∈s'.hp,0<=v/\v<18446744073709551616) (hc:s.c<=s'.c/\s'.c<=1099511627776)
  (hh:∀x,s'.o=some x->1<=s'.c/\s'.c<=1099511627775) (hky:s'.ky.length<=64) (hkw:s'.wy.length=s'.ky.length) (hwl:s.wy.length<=s'.wy.length) (hb:∀b,x=some b->b.Ok s')
  (hown:∀x,s'.o=some x->∃(th:Nat) (a:Att),x=(th:Int)/\s'.ts th=some a/\a.dec=true) (hdec:∀i a,s'.ts i=some a->qKr s'.o i a):s'.Ok where
 hp:=by rw[hhp];exact hs.hp
 hv:=hhv
 c:=⟨Int.le_trans hs.c.1 hc.1,hc.2⟩
 held':=hh
 ky:=hky
 kw:=hkw
 ts:=fun i a hi=> by
  rw[hts] at hi
  by_cases he:i=th
  ·subst he;rw[zEj] at hi;exact hb a hi
  ·rw[zDk _ _ he] at hi;exact (hs.ts i a hi).mono hwl hhp hc.1
 own:=hown
 dec:=hdec
 th4:=fun i hi=> by rw[hts,zDk _ _ (by omega)];exact hs.th4 i hi
theorem zKd {s:NS} (hs:s.Ok) {th:Nat} {a:Att} (ha:s.ts th=some a) (hd:a.dec=false):¬s.o=some (th:Int):=fun ho=> by
 obtain⟨i,b,h1,h2,h3⟩:=hs.own _ ho
 have:i=th:=by omega
 subst this
 rw[ha] at h2;cases h2
 rw[hd] at h3;cases h3
theorem NS.Ok.turn0 {s s':NS} (hs:s.Ok) {th:Nat} (hth:th<4) {x:Option Att} (hts:s'.ts=zZ s.ts th x) (ho:s'.o=s.o) (hcc:s'.c=s.c) (hhp:s'.hp=s.hp) (hky:s'.ky.length<=64) (hkw:s'.wy.length=s'.ky.length) (hwl:s.wy.length<=s'.wy.length)
  (hold:∀a,s.ts th=some a->a.dec=false) (hb:∀b,x=some b->b.Ok s'/\b.dec=false/\¬(b.asked=true/\b.ra.k=6/\(b.at_=2∨b.at_=3))):s'.Ok:=by
 refine hs.turn hth hts (by rw[hhp]) (by rw[hhp];exact hs.hv) ⟨by omega,by rw[hcc];exact hs.c.2⟩ (by rw[ho,hcc];exact hs.held') hky hkw hwl (fun b h=> (hb b h).1) (fun y hy=> ?_) (fun i a hi=> ?_)
 ·rw[ho] at hy
  obtain⟨i,b,h1,h2,h3⟩:=hs.own y hy
  refine⟨i,b,h1,?_,h3⟩
  rw[hts,zDk _ _ ?_]
  ·exact h2
  ·rintro rfl;rw[hold b h2] at h3;cases h3
 ·rw[hts] at hi
  rw[ho]
  by_cases he:i=th
  ·subst he
   rw[zEj] at hi
   obtain⟨_,h2,h3⟩:=hb a hi
   refine⟨fun h=> (by rw[h2] at h;cases h),fun h4 h5 h6=> (h3 ⟨h4,h5,h6⟩).elim⟩
  ·rw[zDk _ _ he] at hi;exact hs.dec i a hi
theorem NS.Ok.begin {s:NS} (hs:s.Ok) {th:Nat} (hth:th<4) (h:zC8 s th=0):(zCa s th).Ok:=by
 have h1:s.ts th=none/\s.ky.length<64:=by
  unfold zC8 at h
  split at h
  ·cases h
  ·split at h
   ·cases h
   ·refine⟨?_,by omega⟩
    cases hx:s.ts th
    ·rfl
    ·simp_all
 refine hs.turn0 hth (s':=zCa s th) rfl rfl rfl rfl (by simp[zCa];omega) (by simp[zCa,hs.kw]) (by simp[zCa]) (fun a ha=> by rw[h1.1] at ha;cases ha) (fun b hb=> ?_)
 cases hb
 refine⟨?_,rfl,fun h=> by cases h.1⟩
 have hc:=hs.c
 exact { n:=(by simp[zEa,zCa,hs.kw])
         snap:=⟨hc.1,Int.le_refl _⟩
         es:=qIk
         est:=(fun e he=> by cases he)
         fs:=zUo
         fst:=(fun f hf p hp=> by simp only[zEa,List.mem_singleton] at hf;subst hf;cases hp)
         seen:=⟨Int.le_refl _,hc.1⟩
         val:=⟨by simp[zEa],by simp[zEa]⟩
         at_:=(by simp[zEa])
         back:=(by simp[zEa])
         nx:=(by simp[zEa])
         ask:=(fun h=> by cases h)
         wr:=(fun h=> by cases h)
         kr:=(fun h=> by cases h)
         ko:=(fun h=> by cases h)
         kb:=(fun h=> by cases h)
         la:=(fun h=> by cases h)
         ww:=(fun h=> by cases h)
         ne:=(fun h=> by cases h) }
theorem qKv {a:Att} {hl:Nat} {x:Ak} (h:zA9 a hl x=0) (hk:0<=x.k):1<=x.k/\x.k<=7/\(x.k=1∨x.k=2->0<=x.t/\x.t<hl)/\(x.k=3->a.fs.length<5)/\(x.k=4∨x.k=5->a.fs.length≠1):=by
 unfold zA9 at h
 split at h
 ·cases h
 split at h
 ·cases h
 split at h
 ·cases h
 split at h
 ·cases h
 split at h
 ·cases h
 split at h
 ·cases h
 ·refine⟨by omega,by omega,fun h=> by omega,fun h=> by omega,fun h=> by omega⟩
theorem NS.Ok.ask {s:NS} (hs:s.Ok) {th:Nat} (hth:th<4) {x:Ak} (hk:0<=x.k) (hv:0<=x.v/\x.v<18446744073709551616) (h:zCl s th x=0):(qU s th x).Ok:=by
 unfold zCl at h
 cases ha:s.ts th with
 |none=> rw[ha] at h;cases h
 |some a=>
  rw[ha] at h
  simp only at h
  cases hf:a.asked with
  |true=> rw[hf] at h;cases h
  |false=>
   rw[hf] at h
   have hw:=qKv (by simpa using h) hk
   have hok:=hs.ts th a ha
   have hd:a.dec=false:=by
    cases hd:a.dec
    ·rfl
    ·have:=((hs.dec th a ha).1 hd).2.1
     rw[hf] at this;cases this
   have hl1:1<=a.fs.length:=by
    have:=hok.fs.1
    cases h:a.fs with
    |nil=> exact absurd h this
    |cons f fs=> simp
   have e:qU s th x={ s with ts:=zZ s.ts th (some { a with asked:=true,ra:=x,at_:=0,nx:=0 }) }:=by simp[qU,ha]
   rw[e]
   refine hs.turn0 hth rfl rfl rfl rfl hs.ky hs.kw (Nat.le_refl _) (fun b hb=> by rw[ha] at hb;cases hb;exact hd) (fun b hb=> ?_)
   cases hb
   refine⟨?_,hd,fun h=> by simp at h⟩
   exact { n:=hok.n
           snap:=hok.snap
           es:=hok.es
           est:=hok.est
           fs:=hok.fs
           fst:=hok.fst
           seen:=hok.seen
           val:=hok.val
           at_:=(by simp)
           back:=hok.back
           nx:=(by simp)
           ask:=(fun _=> ⟨hw.1,hw.2.1,hw.2.2.1,hv⟩)
           wr:=(fun _ h=> by simp at h)
           kr:=(fun _ _ _=> by simp)
           ko:=(fun _ _ _=> rfl)
           kb:=(fun _ h=> by simp at h)
           la:=(fun h=> by simp at h)
           ww:=(fun _=> ⟨hw.2.2.2.1,fun h=> by have h2:=hw.2.2.2.2 h;show 1<a.fs.length;omega⟩)
           ne:=(fun _ _ h=> absurd rfl h) }
theorem NS.Ok.end {s:NS} (hs:s.Ok) {th:Nat} (hth:th<4) {a:Att} (ha:s.ts th=some a) (hd:a.dec=false) (why:Int):(qY s th a why).Ok:=by
 have ho:=zKd hs ha hd
 refine hs.turn0 hth (s':=qY s th a why) rfl (by simp[qY,ho]) (by simp[qY,ho]) rfl hs.ky (by simp[qY,hs.kw]) (by simp[qY]) (fun b hb=> by rw[ha] at hb;cases hb;exact hd) (fun b hb=> by cases hb)
theorem NS.Ok.kill {s:NS} (hs:s.Ok) {th:Nat} (hth:th<4):(zGr s th).Ok:=by
 unfold zGr
 cases ha:s.ts th with
 |none=> exact hs
 |some a=>
  simp only
  cases hd:a.dec with
  |true=> exact hs
  |false=> exact hs.end hth ha hd 3
end YtnemoimbeefngaaGreat
end Go.Proofs
namespace Go.Proofs
namespace YtnemoimbeefngaaGreat
open Go.Abs
theorem Att.Ok.free {a:Att} {s:NS} (h:a.Ok s) {es:List Ent} {fs:List (List Pr)} (he:Good es) (het:∀e∈es,e.t<s.hp.length) (hf:zA6 fs) (hft:∀f∈fs,∀p∈f,0<=p.t/\p.t<s.hp.length/\0<=p.v/\p.v<18446744073709551616) (hat:a.at_<4):
  ({ a with asked:=false,es:=es,fs:=fs }:Att).Ok s where
 n:=h.n
 snap:=h.snap
 es:=he
 est:=het
 fs:=hf
 fst:=hft
 seen:=h.seen
 val:=h.val
 at_:=h.at_
 back:=h.back
 nx:=h.nx
 ask:=fun h=> by cases h
 wr:=fun h=> by cases h
 kr:=fun h=> by cases h
 ko:=fun h=> by cases h
 kb:=fun h=> by cases h
 la:=fun h=> by simp only at h;omega
 ww:=fun h=> by cases h
 ne:=fun h=> by cases h
theorem Att.Ok.step {a b:Att} {s:NS} (h:a.Ok s) (hn:b.n=a.n) (hes:b.es=a.es) (hfs:b.fs=a.fs) (hask:b.asked=a.asked) (hra:b.ra=a.ra) (snap:0<=b.snap/\b.snap<=s.c) (seen:0<=b.seen/\b.seen<=s.c) (val:0<=b.val/\b.val<18446744073709551616)
  (hat:b.at_<=6) (back:b.back<=1) (nx:b.nx<=100) (wr:b.at_=2->b.nx<(zAk a.fs).length) (kr:b.at_<4->a.ra.k=1->b.at_<=1) (ko:a.ra.k≠1->a.ra.k≠6->b.at_=0) (kb:4<=b.at_->(a.ra.k=1/\b.back=0)∨(a.ra.k=6/\b.back=1)) (la:b.at_=5->b.nx<=a.es.length) (ne:a.ra.k=6->b.at_≠0->zAk a.fs≠[]):b.Ok s where
 n:=by rw[hn];exact h.n
 snap:=snap
 es:=by rw[hes];exact h.es
 est:=by rw[hes];exact h.est
 fs:=by rw[hfs];exact h.fs
 fst:=by rw[hfs];exact h.fst
 seen:=seen
 val:=val
 at_:=hat
 back:=back
 nx:=nx
 ask:=by rw[hask,hra];exact h.ask
 wr:=by rw[hask,hfs];exact fun _=> wr
 kr:=by rw[hask,hra];exact fun _=> kr
 ko:=by rw[hask,hra];exact fun _=> ko
 kb:=by rw[hask,hra];exact fun _=> kb
 la:=by rw[hes];exact la
 ww:=by rw[hask,hra,hfs];exact h.ww
 ne:=by rw[hask,hra,hfs];exact fun _=> ne
theorem qHs {s:NS} (hs:s.Ok) {th:Nat} (hth:th<4) {a:Att} (ha:s.ts th=some a) (hk:a.asked=true) (h4:4<=a.at_):(zB0 s th a).2.Ok:=by
 have hok:=hs.ts th a ha
 have hd:a.dec=false:=by
  cases hd:a.dec
  ·rfl
  ·have:=((hs.dec th a ha).1 hd).2.2.2;omega
 have hb4:=hok.kb hk h4
 have put:∀b:Att,b.Ok s->b.dec=false->¬(b.asked=true/\b.ra.k=6/\(b.at_=2∨b.at_=3))->(zCj s th b).Ok:=fun b h1 h2 h3=>
  hs.turn0 hth (s':=zCj s th b) rfl rfl rfl rfl hs.ky hs.kw (Nat.le_refl _) (fun c hc=> by rw[ha] at hc;cases hc;exact hd) (fun c hc=> by cases hc;exact⟨⟨h1.n,h1.snap,h1.es,h1.est,h1.fs,h1.fst,h1.seen,h1.val,h1.at_,h1.back,h1.nx,h1.ask,h1.wr,h1.kr,h1.ko,h1.kb,h1.la,h1.ww,h1.ne⟩,h2,h3⟩)
 have hko:a.ra.k≠1->a.ra.k≠6->a.at_=0:=hok.ko hk
 have hc:=hs.c
 unfold zB0
 split
 ·rename_i hat
  split
  ·exact hs
  ·refine put _ (hok.step rfl rfl rfl rfl rfl hok.snap ⟨hc.1,Int.le_refl _⟩ hok.val (by simp) hok.back (by simp) (fun h=> by simp at h) (fun h=> by simp at h) (fun h1 h2=> by have:=hko h1 h2;omega) (fun _=> hb4) (fun _=> by simp) (fun h6 _=> hok.ne hk h6 (by omega))) hd (by simp)
 ·split
  ·rename_i hat
   split
   ·refine put _ (hok.step rfl rfl rfl rfl rfl hok.snap hok.seen hok.val (by simp) hok.back hok.nx (fun h=> by simp at h) (fun h=> by simp at h) (fun h1 h2=> by have:=hko h1 h2;omega) (fun _=> hb4) (fun h=> by simp at h) (fun h6 _=> hok.ne hk h6 (by omega))) hd (by simp)
   ·rename_i e hx
    have hlt:=(List.getElem?_eq_some_iff.1 hx).1
    have h8:=hok.es.len
    split
    ·refine put _ (hok.step rfl rfl rfl rfl rfl hok.snap hok.seen hok.val hok.at_ hok.back (by simp;omega) (fun h=> by simp at h;omega) (fun h=> by simp at h;omega) (fun h1 h2=> by have:=hko h1 h2;omega) (fun _=> hb4) (fun _=> hlt) (fun h6 _=> hok.ne hk h6 (by omega))) hd (by simp;omega)
    ·exact hs.end hth ha hd 1
  ·split
   ·rename_i hat hc2
    have hbk:a.back=0∨a.back=1:=by have:=hok.back;omega
    refine hs.turn0 hth (s':={ s with ts:=zZ s.ts th (some { a with snap:=a.seen,at_:=a.back }),ky:=s.ky.set a.n (a.seen+1) }) rfl rfl rfl rfl (by simp;exact hs.ky) (by simp;exact hs.kw) (Nat.le_refl _) (fun c hc=> by rw[ha] at hc;cases hc;exact hd) (fun c hc=> ?_)
    cases hc
    have hok':a.Ok { s with ts:=zZ s.ts th (some { a with snap:=a.seen,at_:=a.back }),ky:=s.ky.set a.n (a.seen+1) }:=hok.mono (Nat.le_refl _) rfl (Int.le_refl _)
    refine⟨hok'.step rfl rfl rfl rfl rfl hok.seen hok.seen hok.val (by simp;omega) hok.back hok.nx (fun h=> by simp at h;omega) (fun _ h=> by simp;omega) (fun h1 h2=> by have:=hko h1 h2;omega) (fun h=> by simp at h;omega) (fun h=> by simp at h;omega) (fun h6 _=> hok.ne hk h6 (by omega)),hd,by simp;omega⟩
   ·rename_i hat hc2
    refine put _ (hok.step rfl rfl rfl rfl rfl hok.snap hok.seen hok.val (by simp) hok.back hok.nx (fun h=> by simp at h) (fun h=> by simp at h) (fun h1 h2=> by have:=hko h1 h2;omega) (fun _=> hb4) (fun h=> by simp at h) (fun h6 _=> hok.ne hk h6 (by omega))) hd (by simp)
theorem qOp {s:NS} (hs:s.Ok) {th:Nat} (hth:th<4) {a:Att} (ha:s.ts th=some a) (hk:a.asked=true) (h4:a.at_<4) (k1:a.ra.k=1):(zDm s th a).2.Ok:=by
 have hok:=hs.ts th a ha
 have hd:a.dec=false:=by
  cases hd:a.dec
  ·rfl
  ·have:=((hs.dec th a ha).1 hd).2.2.1;omega
 have put:∀b:Att,b.Ok s->b.dec=false->¬(b.asked=true/\b.ra.k=6/\(b.at_=2∨b.at_=3))->(zCj s th b).Ok:=fun b h1 h2 h3=>
  hs.turn0 hth (s':=zCj s th b) rfl rfl rfl rfl hs.ky hs.kw (Nat.le_refl _) (fun c hc=> by rw[ha] at hc;cases hc;exact hd) (fun c hc=> by cases hc;exact⟨⟨h1.n,h1.snap,h1.es,h1.est,h1.fs,h1.fst,h1.seen,h1.val,h1.at_,h1.back,h1.nx,h1.ask,h1.wr,h1.kr,h1.ko,h1.kb,h1.la,h1.ww,h1.ne⟩,h2,h3⟩)
 have got:∀(es:List Ent) (v:Int),Good es->(∀e∈es,e.t<s.hp.length)->(zB5 s th { a with es:=es } v).Ok:=fun es v h1 h2=> by
  refine hs.turn0 hth (s':=zB5 s th { a with es:=es } v) rfl rfl rfl rfl hs.ky hs.kw (Nat.le_refl _) (fun c hc=> by rw[ha] at hc;cases hc;exact hd) (fun c hc=> ?_)
  cases hc
  have hok':a.Ok (zB5 s th { a with es:=es } v):=hok.mono (Nat.le_refl _) rfl (Int.le_refl _)
  exact⟨hok'.free h1 h2 hok.fs hok.fst h4,hd,fun h=> by cases h.1⟩
 have hra:=(hok.ask hk).2.2.1 (.inl k1)
 unfold zDm
 split
 ·exact got a.es _ hok.es hok.est
 ·split
  ·rename_i hat
   obtain⟨y,hy⟩:∃y,s.hp[a.ra.t.toNat]?=some y:=⟨s.hp[a.ra.t.toNat]'(by omega),List.getElem?_eq_getElem (by omega)⟩
   have hyv:=hs.hv y (List.mem_of_getElem? hy)
   refine put _ (hok.step rfl rfl rfl rfl rfl hok.snap hok.seen (by simp[hy];exact hyv) (by simp) hok.back hok.nx (fun h=> by simp at h) (fun _ _=> by simp) (fun h1=> absurd k1 h1) (fun h=> by simp at h) (fun h=> by simp at h) (fun h6=> absurd (k1.symm.trans h6) (by decide))) hd (by simp)
  ·split
   ·split
    ·rename_i hA
     refine got _ _ (hok.es.add _) (fun e he=> ?_)
     rcases zVg he with he|rfl
     ·exact hok.est e he
     ·exact hra.2
    ·exact hs.end hth ha hd 2
   ·refine put _ (hok.step rfl rfl rfl rfl rfl hok.snap hok.seen hok.val (by simp) (by simp) hok.nx (fun h=> by simp at h) (fun h=> by simp at h) (fun h1=> absurd k1 h1) (fun _=> .inl ⟨k1,rfl⟩) (fun h=> by simp at h) (fun h6=> absurd (k1.symm.trans h6) (by decide))) hd (by simp)
theorem qOo {s:NS} (hs:s.Ok) {th:Nat} (hth:th<4) {a:Att} (ha:s.ts th=some a) (hk:a.asked=true) (h4:a.at_<4) (k2:a.ra.k=2∨a.ra.k=3∨a.ra.k=4∨a.ra.k=5):(zCb s th a).2.Ok:=by
 have hok:=hs.ts th a ha
 have hd:a.dec=false:=by
  cases hd:a.dec
  ·rfl
  ·have:=((hs.dec th a ha).1 hd).2.2.1;omega
 have go:∀(fs:List (List Pr)) (ev:List Ev),zA6 fs->(∀f∈fs,∀p∈f,0<=p.t/\p.t<s.hp.length/\0<=p.v/\p.v<18446744073709551616)->({ s with ts:=zZ s.ts th (some { a with asked:=false,fs:=fs }),ev:=ev }:NS).Ok:=fun fs ev h1 h2=> by
  refine hs.turn0 hth (s':={ s with ts:=zZ s.ts th (some { a with asked:=false,fs:=fs }),ev:=ev }) rfl rfl rfl rfl hs.ky hs.kw (Nat.le_refl _) (fun c hc=> by rw[ha] at hc;cases hc;exact hd) (fun c hc=> ?_)
  cases hc
  have hok':a.Ok { s with ts:=zZ s.ts th (some { a with asked:=false,fs:=fs }),ev:=ev }:=hok.mono (Nat.le_refl _) rfl (Int.le_refl _)
  exact⟨hok'.free hok.es hok.est h1 h2 h4,hd,fun h=> by cases h.1⟩
 obtain⟨f,fs,hfs⟩:∃f fs,a.fs=f::fs:=by
  cases h:a.fs with
  |nil=> exact absurd h hok.fs.1
  |cons f fs=> exact⟨f,fs,rfl⟩
 have hgl:=hok.fs
 have hft:=hok.fst
 have hww:=hok.ww hk
 rw[hfs] at hgl hft hww
 unfold zCb
 split
 ·rename_i k3
  have hl:=hww.1 k3
  have h5:¬5<=(f::fs).length:=by omega
  rw[hfs,zOw,if_neg h5]
  exact go _ _ (qCn hgl hl) fun g hg=> by
   rcases List.mem_cons.1 hg with rfl|hg
   ·intro p hp;cases hp
   ·exact hft g hg
 ·split
  ·rename_i k4
   have hl:=hww.2 (.inl k4)
   cases fs with
   |nil=> simp at hl
   |cons g rs=>
    rw[hfs]
    exact go _ _ (qDz hgl) fun q hq=> hft q (by simp only[zO6] at hq;exact List.mem_cons_of_mem _ hq)
  ·split
   ·rename_i k5
    have hl:=hww.2 (.inr k5)
    cases fs with
    |nil=> simp at hl
    |cons g rs=>
     rw[hfs]
     refine go _ _ (zY7 hgl) fun q hq=> ?_
     simp only[zG7] at hq
     rcases List.mem_cons.1 hq with rfl|hq
     ·exact zY8 (hft g (by simp)) (hft f (by simp)) fun p q h1 h2=> ⟨h1.1,h1.2.1,h2.2.2⟩
     ·exact hft q (by simp[hq])
   ·split
    ·rename_i k3 k4 k5 hP
     have k2':a.ra.k=2:=by omega
     have hra:=hok.ask hk
     have hr:=hra.2.2.1 (.inr k2')
     rw[hfs] at hP⊢
     simp only[zId] at hP
     refine go _ _ (qHk hgl hP) fun q hq=> ?_
     simp only[zMt] at hq
     rcases List.mem_cons.1 hq with rfl|hq
     ·intro p hp
      rcases zT5 hp with rfl|h|⟨r,hr2,rfl⟩
      ·exact⟨hr.1,hr.2,hra.2.2.2⟩
      ·exact hft f (by simp) p h
      ·have:=hft f (by simp) r hr2
       exact⟨this.1,this.2.1,hra.2.2.2⟩
     ·exact hft q (by simp[hq])
    ·exact hs.end hth ha hd 2
theorem qOq {s:NS} (hs:s.Ok) {th:Nat} (hth:th<4) {a:Att} (ha:s.ts th=some a) (hk:a.asked=true) (h4:a.at_<4) (k6:a.ra.k=6):(zCt s th a).2.Ok:=by
 have hok:=hs.ts th a ha
 have hc:=hs.c
 have hdec:=hs.dec th a ha
 have nod:¬(a.at_=2∨a.at_=3)->a.dec=false:=fun h=> by
  cases hd:a.dec
  ·rfl
  ·exact absurd (hdec.1 hd).2.2.2 h
 unfold zCt
 split
 ·rename_i hat
  have hd:=nod (by omega)
  split
  ·refine hs.turn0 hth (s':=zAj { s with ev:=s.ev++[⟨7,a.n,0,0⟩] } th a) rfl rfl rfl rfl hs.ky hs.kw (Nat.le_refl _) (fun c hc=> by rw[ha] at hc;cases hc;exact hd) (fun c hc=> by cases hc)
  ·refine hs.turn0 hth (s':={ s with ts:=zZ s.ts th (some { a with at_:=1 }),ev:=s.ev++[⟨7,a.n,0,0⟩] }) rfl rfl rfl rfl hs.ky hs.kw (Nat.le_refl _) (fun c hc=> by rw[ha] at hc;cases hc;exact hd) (fun c hc=> ?_)
   cases hc
   have hok':a.Ok { s with ts:=zZ s.ts th (some { a with at_:=1 }),ev:=s.ev++[⟨7,a.n,0,0⟩] }:=hok.mono (Nat.le_refl _) rfl (Int.le_refl _)
   exact⟨hok'.step rfl rfl rfl rfl rfl hok.snap hok.seen hok.val (by simp) hok.back hok.nx (fun h=> by simp at h) (fun _ _=> by simp) (fun _ h=> absurd k6 h) (fun h=> by simp at h) (fun h=> by simp at h) (fun _ _=> by assumption),hd,by simp⟩
 ·split
  ·rename_i hat
   have hd:=nod (by omega)
   have hnh:=zKd hs ha hd
   split
   ·rename_i ht
    have ho:s.o=none/\s.c=a.snap/\s.c<1099511627775:=by
     unfold zBu at ht
     split at ht
     ·cases ht
     ·split at ht
      ·cases ht
      ·split at ht
       ·cases ht
       ·split at ht
        ·cases ht
        ·rename_i h1 h2 h3 h4
         refine⟨?_,by omega,by omega⟩
         cases h:s.o
         ·rfl
         ·simp[h] at h2
    have hne:=hok.ne hk k6 (by omega)
    have hl0:0<(zAk a.fs).length:=List.length_pos_iff.2 hne
    have hok':a.Ok { s with o:=some (th:Int),c:=s.c+1,ts:=zZ s.ts th (some { a with dec:=true,at_:=2,nx:=0 }),ky:=s.ky.set a.n (a.snap+2) }:=hok.mono (Nat.le_refl _) rfl (by simp only;omega)
    refine hs.turn hth (s':={ s with o:=some (th:Int),c:=s.c+1,ts:=zZ s.ts th (some { a with dec:=true,at_:=2,nx:=0 }),ky:=s.ky.set a.n (a.snap+2) }) rfl rfl hs.hv ⟨by simp only;omega,by simp only;omega⟩ (fun x _=> ⟨by simp only;omega,by simp only;omega⟩) (by simp;exact hs.ky) (by simp;exact hs.kw) (Nat.le_refl _) (fun c hc=> ?_) (fun x hx=> ?_) (fun i c hi=> ?_)
    ·cases hc
     exact hok'.step rfl rfl rfl rfl rfl hok'.snap hok'.seen hok.val (by simp) hok.back (by simp) (fun _=> hl0) (fun _ h=> by omega) (fun _ h=> absurd k6 h) (fun h=> by simp at h) (fun h=> by simp at h) (fun _ _=> hne)
    ·cases hx
     exact⟨th,_,rfl,zEj _ _ _,rfl⟩
    ·simp only at hi⊢
     by_cases he:i=th
     ·subst he
      rw[zEj] at hi
      cases hi
      exact⟨fun _=> ⟨rfl,hk,k6,.inl rfl⟩,fun _ _ _=> rfl⟩
     ·rw[zDk _ _ he] at hi
      have hd:=hs.dec i c hi
      exact⟨(fun h=> by have:=(hd.1 h).1;rw[ho.1] at this;cases this),hd.2⟩
   ·split
    ·exact hs.end hth ha hd 2
    ·refine hs.turn0 hth (s':=zCj s th { a with at_:=4,back:=1 }) rfl rfl rfl rfl hs.ky hs.kw (Nat.le_refl _) (fun c hc=> by rw[ha] at hc;cases hc;exact hd) (fun c hc=> ?_)
     cases hc
     have hok':a.Ok (zCj s th { a with at_:=4,back:=1 }):=hok.mono (Nat.le_refl _) rfl (Int.le_refl _)
     exact⟨hok'.step rfl rfl rfl rfl rfl hok.snap hok.seen hok.val (by simp) (by simp) hok.nx (fun h=> by simp at h) (fun h=> by simp at h) (fun _ h=> absurd k6 h) (fun _=> .inr ⟨k6,rfl⟩) (fun h=> by simp at h) (fun _ _=> hok.ne hk k6 (by omega)),hd,by simp⟩
  ·split
   ·rename_i hat
    have hd:=hdec.2 hk k6 (.inl hat)
    have hx:=hdec.1 hd
    have hne:=hok.ne hk k6 (by omega)
    split
    ·rename_i p hp
     have hpm:=List.mem_of_getElem? hp
     have hlt:=(List.getElem?_eq_some_iff.1 hp).1
     have hl12:=zXs a.fs
     obtain⟨f,hf,hpf⟩:=qJs hpm
     have hpr:=hok.fst f hf p hpf
     obtain⟨b,hb⟩:∃b:Att,b={ a with nx:=a.nx+1,at_:=if a.nx+1=(zAk a.fs).length then 3 else 2 }:=⟨_,rfl⟩
     have hb2:b.at_=2∨b.at_=3:=by rw[hb];simp only;split<;> simp
     rw[←hb]
     have hok':a.Ok { s with hp:=s.hp.set p.t.toNat p.v,ts:=zZ s.ts th (some b) }:=hok.mono (Nat.le_refl _) (by simp) (Int.le_refl _)
     refine hs.turn hth (s':={ s with hp:=s.hp.set p.t.toNat p.v,ts:=zZ s.ts th (some b) }) rfl (by simp) (fun v hv=> ?_) ⟨Int.le_refl _,hc.2⟩ hs.held' hs.ky hs.kw (Nat.le_refl _) (fun c hc=> ?_) (fun x hx2=> ?_) (fun i c hi=> ?_)
     ·rcases List.mem_or_eq_of_mem_set hv with h|rfl
      ·exact hs.hv v h
      ·exact hpr.2.2
     ·cases hc
      refine hok'.step (by rw[hb]) (by rw[hb]) (by rw[hb]) (by rw[hb]) (by rw[hb]) (by rw[hb];exact hok.snap) (by rw[hb];exact hok.seen) (by rw[hb];exact hok.val) (by omega) (by rw[hb];exact hok.back) (by rw[hb];simp only;omega) (fun h=> ?_) (fun _ h=> by omega) (fun _ h=> absurd k6 h) (fun h=> by omega) (fun h=> by omega) (fun _ _=> hne)
      rw[hb] at h⊢
      simp only at h⊢
      split at h
      ·cases h
      ·omega
     ·obtain⟨i,c,h1,h2,h3⟩:=hs.own x hx2
      by_cases he:i=th
      ·subst he
       exact⟨i,b,h1,zEj _ _ _,by rw[hb];exact hd⟩
      ·exact⟨i,c,h1,by simp only;rw[zDk _ _ he];exact h2,h3⟩
     ·simp only at hi⊢
      by_cases he:i=th
      ·subst he
       rw[zEj] at hi
       cases hi
       exact⟨fun _=> ⟨hx.1,by rw[hb];exact hk,by rw[hb];exact k6,hb2⟩,fun _ _ _=> by rw[hb];exact hd⟩
      ·rw[zDk _ _ he] at hi
       exact hs.dec i c hi
    ·exact hs
   ·rename_i h0 h1 h2
    have hat:a.at_=3:=by omega
    have hd:=hdec.2 hk k6 (.inr hat)
    have hx:=hdec.1 hd
    have hh:=hs.held' _ hx.1
    refine hs.turn hth (s':=zAj { s with o:=none,c:=s.c+1 } th a) rfl rfl hs.hv ⟨by simp only[zAj];omega,by simp only[zAj];omega⟩ (fun x h=> by cases h) hs.ky hs.kw (Nat.le_refl _) (fun c hc=> by cases hc) (fun x h=> by cases h) (fun i c hi=> ?_)
    simp only[zAj] at hi⊢
    by_cases he:i=th
    ·subst he;rw[zEj] at hi;cases hi
    ·rw[zDk _ _ he] at hi
     have hd2:=hs.dec i c hi
     refine⟨fun h=> ?_,hd2.2⟩
     have:=(hd2.1 h).1
     rw[hx.1] at this
     simp only[Option.some.injEq] at this
     omega
theorem NS.Ok.step {s:NS} (hs:s.Ok) {th:Nat} (hth:th<4):(zAs s th).2.Ok:=by
 unfold zAs
 cases ha:s.ts th with
 |none=> exact hs
 |some a=>
  simp only
  cases hk:a.asked with
  |false=> exact hs
  |true=>
   simp only[Bool.true_eq_false,if_false]
   have hok:=hs.ts th a ha
   have hask:=hok.ask hk
   split
   ·rename_i h4;exact qHs hs hth ha hk h4
   ·rename_i h4
    have h4':a.at_<4:=by omega
    split
    ·rename_i k7
     have hd:a.dec=false:=by
      cases hd:a.dec
      ·rfl
      ·have:=((hs.dec th a ha).1 hd).2.2.1;omega
     exact hs.end hth ha hd 4
    ·split
     ·rename_i k6;exact qOq hs hth ha hk h4' k6
     ·split
      ·rename_i k1;exact qOp hs hth ha hk h4' k1
      ·refine qOo hs hth ha hk h4' ?_
       have:=hask.1;have:=hask.2.1;omega
end YtnemoimbeefngaaGreat
end Go.Proofs
namespace Go.Proofs
namespace YtnemoimbeefngaaGreat
open Go.Abs
def zH4 (s:NS) (t:Int):Rp:=match zBv t with
 |none=> qQ 2
 |some th=> (zAs s th).1
def zDj (s:NS) (t:Int):NS:=match zBv t with
 |none=> s
 |some th=> (zAs s th).2
theorem zQx (r:Rp):xY r.v=true:=rfl
def d28:zAl
 |.eng s,[.int .i64 t]=> some (s.Ok/\s.ev.length<=100000,(zH4 s t).v,.eng (zDj s t))
 |_,_=> none
theorem zWx:qI Tryz.prog cfg 28 (qC d28):=xJ fun d rest p v d' h hp=> by
 unfold d28 at h
 split at h
 case h_2=> cases h
 rename_i s t
 cases h
 refine⟨rfl,zQx _,?_⟩
 cases ht:zBv t with
 |none=> simp only[zH4,zDj,ht];exact zX1 _ _ (zDo ht)
 |some th=>
  obtain⟨h1,rfl⟩:=zA4 ht
  simp only[zH4,zDj,ht]
  exact qBf s hp.1 hp.2 th h1
theorem qH9 (s:NS) (hs:s.Ok) (hev:s.ev.length<=100000) (th:Nat) (hth:th<4) (a:Att) (ha:s.ts th=some a) (hd:a.dec=false):zP Tryz.prog cfg 29 [.pointer (some ⟨0,0,none⟩),.int .i64 th] (AH.of [some (.hi (.eng s))])
  fun r H'=> r=.ret (.int .i64 0)/\H'=AH.of [some (.hi (.eng (qY s th a 3)))]:=by
 refine zP.ends ?_
 have ho:=zKd hs ha hd
 generalize hS:((qY s th a 3):NS)=S'
 refine zP.openEng hth fun es cc hes=> ?_
 have ft:=jE hth hes
 have z1:¬(th:Int)<0:=by omega
 have z2:¬4<=(th:Int):=by omega
 have hok:=hs.ts th a ha
 have hel:(s.ev.length+1)*32<=140737488355328/\s.ev.length<=9223372036854775806:=by omega
 have t3:=jB s.ev
 have hnw3:a.n+1<=s.wy.length:=hok.n
 have hnw:=hok.n
 have hnw2:(a.n:Int)<s.wy.length:=by omega
 obtain⟨es2,hdel,hes2⟩:=zE3 hth hes
 refine zX (tbl:=jY) zAa 0 5 (af:=a29) rfl ?_
 rw[a29,b29,qB]
 refine⟨by simp,?_⟩
 simp -implicitDefEqProofs [jA,jY,qC,forms79,a79,b79,forms83,a83,b83,forms86,a86,b86,z1,z2,ha,ft,jO,zD,zH,hd,hel,t3,qT,zHb,ho,hnw,hnw2,hnw3,zCq,qN,hdel]
 subst hS
 rcases qH hth with rfl|rfl|rfl|rfl
 ·have ho0:¬s.o=some 0:=ho
  refine zA [.nil 100,.pack (GD.eng (qY s 0 a 3)) 0 [1,2,3,16,5,6,17,8,9,10]] [0] ?_ ?_ ?_<;> simp[zH,zJ,zZ,ha,zD,qE,o1,o2,o3,zW,zY,qM,qN,qY,ho0]<;> exact hes2
 ·have ho0:¬s.o=some 1:=ho
  refine zA [.nil 100,.pack (GD.eng (qY s 1 a 3)) 0 [1,2,3,16,5,6,8,17,9,10]] [0] ?_ ?_ ?_<;> simp[zH,zJ,zZ,ha,zD,qE,o1,o2,o3,zW,zY,qM,qN,qY,ho0]<;> exact hes2
 ·have ho0:¬s.o=some 2:=ho
  refine zA [.nil 100,.pack (GD.eng (qY s 2 a 3)) 0 [1,2,3,16,5,6,8,9,17,10]] [0] ?_ ?_ ?_<;> simp[zH,zJ,zZ,ha,zD,qE,o1,o2,o3,zW,zY,qM,qN,qY,ho0]<;> exact hes2
 ·have ho0:¬s.o=some 3:=ho
  refine zA [.nil 100,.pack (GD.eng (qY s 3 a 3)) 0 [1,2,3,16,5,6,8,9,10,17]] [0] ?_ ?_ ?_<;> simp[zH,zJ,zZ,ha,zD,qE,o1,o2,o3,zW,zY,qM,qN,qY,ho0]<;> exact hes2
theorem zXc (s:NS) (th:Nat) (hth:th<4) (hb:s.ts th=none∨∃a,s.ts th=some a/\a.dec=true):zP Tryz.prog cfg 29 [.pointer (some ⟨0,0,none⟩),.int .i64 th] (AH.of [some (.hi (.eng s))])
  fun r H'=> r=.ret (.int .i64 8)/\H'=AH.of [some (.hi (.eng s))]:=by
 refine zP.ends ?_
 refine zP.openEng hth fun es cc hes=> ?_
 have ft:=jE hth hes
 have z1:¬(th:Int)<0:=by omega
 have z2:¬4<=(th:Int):=by omega
 rcases hb with ha|⟨a,ha,hd⟩
 ·refine zX (tbl:=[]) (by simp) 0 3 (af:=a29) rfl ?_
  rw[a29,b29,qB]
  refine⟨by simp,?_⟩
  simp -implicitDefEqProofs [jA,forms79,a79,b79,z1,z2,ha,ft,jO]
  rcases qH hth with rfl|rfl|rfl|rfl
  ·refine zA [.pack (GD.eng s) 0 [1,2,3,4,5,6,7,8,9,10]] [0] ?_ ?_ ?_<;> simp[zJ,ha,o1,o2,o3]<;> exact hes
  ·refine zA [.pack (GD.eng s) 0 [1,2,3,4,5,6,8,7,9,10]] [0] ?_ ?_ ?_<;> simp[zJ,ha,o1,o2,o3]<;> exact hes
  ·refine zA [.pack (GD.eng s) 0 [1,2,3,4,5,6,8,9,7,10]] [0] ?_ ?_ ?_<;> simp[zJ,ha,o1,o2,o3]<;> exact hes
  ·refine zA [.pack (GD.eng s) 0 [1,2,3,4,5,6,8,9,10,7]] [0] ?_ ?_ ?_<;> simp[zJ,ha,o1,o2,o3]<;> exact hes
 ·refine zX (tbl:=[]) (by simp) 0 3 (af:=a29) rfl ?_
  rw[a29,b29,qB]
  refine⟨by simp,?_⟩
  simp -implicitDefEqProofs [jA,forms79,a79,b79,z1,z2,ha,ft,jO,zD,zH,hd]
  rcases qH hth with rfl|rfl|rfl|rfl
  ·refine zA [.pack (GD.att a) 7 [11,12],.pack (GD.eng s) 0 [1,2,3,4,5,6,7,8,9,10]] [0] ?_ ?_ ?_<;> simp[zH,zJ,hd,ha,zD,o1,o2,o3]<;> exact hes
  ·refine zA [.pack (GD.att a) 7 [11,12],.pack (GD.eng s) 0 [1,2,3,4,5,6,8,7,9,10]] [0] ?_ ?_ ?_<;> simp[zH,zJ,hd,ha,zD,o1,o2,o3]<;> exact hes
  ·refine zA [.pack (GD.att a) 7 [11,12],.pack (GD.eng s) 0 [1,2,3,4,5,6,8,9,7,10]] [0] ?_ ?_ ?_<;> simp[zH,zJ,hd,ha,zD,o1,o2,o3]<;> exact hes
  ·refine zA [.pack (GD.att a) 7 [11,12],.pack (GD.eng s) 0 [1,2,3,4,5,6,8,9,10,7]] [0] ?_ ?_ ?_<;> simp[zH,zJ,hd,ha,zD,o1,o2,o3]<;> exact hes
theorem zZc (d:GD) (t:Int) (ht:t<0∨4<=t):zP Tryz.prog cfg 29 [.pointer (some ⟨0,0,none⟩),.int .i64 t] (AH.of [some (.hi d)])
  fun r H'=> r=.ret (.int .i64 2)/\H'=AH.of [some (.hi d)]:=by
 refine zP.ends ?_
 have ht':¬t<0->4<=t:=fun h=> by omega
 refine zX (tbl:=[]) (by simp) 0 3 (af:=a29) rfl ?_
 rw[a29,b29,qB]
 refine⟨by simp,?_⟩
 by_cases h1:t<0
 ·simp -implicitDefEqProofs [forms79,a79,b79,h1]
  refine zA [] [0] ?_ ?_ ?_<;> simp
 ·simp -implicitDefEqProofs [forms79,a79,b79,h1,ht' h1]
  refine zA [] [0] ?_ ?_ ?_<;> simp
def zMw (s:NS) (t:Int):Int:=match zBv t with
 |none=> 2
 |some th=> zKj s th
def zFu (s:NS) (t:Int):NS:=match zBv t with
 |none=> s
 |some th=> zGr s th
def d29:zAl
 |.eng s,[.int .i64 t]=> some (s.Ok/\s.ev.length<=100000,.int .i64 (zMw s t),.eng (zFu s t))
 |_,_=> none
theorem qMh:qI Tryz.prog cfg 29 (qC d29):=xJ fun d rest p v d' h hp=> by
 unfold d29 at h
 split at h
 case h_2=> cases h
 rename_i s t
 cases h
 refine⟨rfl,rfl,?_⟩
 cases ht:zBv t with
 |none=> simp only[zMw,zFu,ht];exact zZc _ _ (zDo ht)
 |some th=>
  obtain⟨h1,rfl⟩:=zA4 ht
  simp only[zMw,zFu,ht]
  cases ha:s.ts th with
  |none=>
   simp only[zKj,zGr,ha]
   exact zXc s th h1 (.inl ha)
  |some a=>
   cases hd:a.dec with
   |true=>
    simp only[zKj,zGr,ha,hd,if_true]
    exact zXc s th h1 (.inr ⟨a,ha,hd⟩)
   |false=>
    simp only[zKj,zGr,ha,hd,Bool.false_eq_true,if_false]
    exact qH9 s hp.1 hp.2 th h1 a ha hd
def zEx (s:NS) (t:Int):Value:=match (zBv t).bind s.ts with
 |some a=> .tuple #[.int .i64 a.n,.bool true]
 |none=> .tuple #[.int .i64 0,.bool false]
theorem zI3 {s:NS} {es:List MapEntry} {cc:Nat} (h:zA3 (tpF 0 s.ts) es cc) {t:Int} (ht:zBv t=none):zB7 false (.int .i64 t) es=some none:=by
 have ht':=zDo ht
 rw[zN2 h (zJ1 _ _)]
 have:(tpF 0 s.ts).find? (isI t)=none:=by
  rw[List.find?_eq_none]
  intro p hp
  unfold tpF tpK at hp
  have key:∀(i:Int) (k:Nat) (x:Option Att),0<=i->i<4->p∈tp1 i k x->¬isI t p=true:=by
   intro i k x h1 h2 h3
   cases x with
   |none=> cases h3
   |some a=>
    simp only[tp1,List.mem_singleton] at h3
    subst h3
    simp only[isI,decide_eq_true_eq]
    omega
  simp only[List.mem_append] at hp
  rcases hp with h|h|h|h
  ·exact key 0 _ _ (by omega) (by omega) h
  ·exact key 1 _ _ (by omega) (by omega) h
  ·exact key 2 _ _ (by omega) (by omega) h
  ·exact key 3 _ _ (by omega) (by omega) h
 rw[this];rfl
theorem qRd (s:NS) (t:Int):zP Tryz.prog cfg 25 [.pointer (some ⟨0,0,none⟩),.int .i64 t] (AH.of [some (.hi (.eng s))])
  fun r H'=> r=.ret (zEx s t)/\H'=AH.of [some (.hi (.eng s))]:=by
 refine zP.ends ?_
 cases ht:zBv t with
 |none=>
  refine zP.openEng (th:=0) (by omega) fun es cc hes=> ?_
  have ft:=zI3 hes ht
  refine zX (tbl:=[]) (by simp) 0 3 (af:=a25) rfl ?_
  rw[a25,b25,qB]
  refine⟨by simp,?_⟩
  simp -implicitDefEqProofs [jA,forms46,a46,b46,ft]
  refine zA [.pack (GD.eng s) 0 [1,2,3,4,5,6,7,8,9,10]] [0] ?_ ?_ ?_<;> simp[zJ,o1,o2,o3,zEx,ht]<;> exact hes
 |some th=>
  obtain⟨hth,rfl⟩:=zA4 ht
  refine zP.openEng hth fun es cc hes=> ?_
  have ft:=jE hth hes
  cases ha:s.ts th with
  |none=>
   refine zX (tbl:=[]) (by simp) 0 3 (af:=a25) rfl ?_
   rw[a25,b25,qB]
   refine⟨by simp,?_⟩
   simp -implicitDefEqProofs [jA,forms46,a46,b46,ha,ft,jO]
   have hr:zEx s th=.tuple #[.int .i64 0,.bool false]:=by simp[zEx,ht,ha]
   rw[hr]
   rcases qH hth with rfl|rfl|rfl|rfl
   ·refine zA [.pack (GD.eng s) 0 [1,2,3,4,5,6,7,8,9,10]] [0] ?_ ?_ ?_<;> simp[zJ,ha,o1,o2,o3]<;> exact hes
   ·refine zA [.pack (GD.eng s) 0 [1,2,3,4,5,6,8,7,9,10]] [0] ?_ ?_ ?_<;> simp[zJ,ha,o1,o2,o3]<;> exact hes
   ·refine zA [.pack (GD.eng s) 0 [1,2,3,4,5,6,8,9,7,10]] [0] ?_ ?_ ?_<;> simp[zJ,ha,o1,o2,o3]<;> exact hes
   ·refine zA [.pack (GD.eng s) 0 [1,2,3,4,5,6,8,9,10,7]] [0] ?_ ?_ ?_<;> simp[zJ,ha,o1,o2,o3]<;> exact hes
  |some a=>
   refine zX (tbl:=[]) (by simp) 0 3 (af:=a25) rfl ?_
   rw[a25,b25,qB]
   refine⟨by simp,?_⟩
   simp -implicitDefEqProofs [jA,forms46,a46,b46,ha,ft,jO,zD,zH]
   have hr:zEx s th=.tuple #[.int .i64 a.n,.bool true]:=by simp[zEx,ht,ha]
   rw[hr]
   rcases qH hth with rfl|rfl|rfl|rfl
   ·refine zA [.pack (GD.att a) 7 [11,12],.pack (GD.eng s) 0 [1,2,3,4,5,6,7,8,9,10]] [0] ?_ ?_ ?_<;> simp[zH,zJ,ha,zD,o1,o2,o3]<;> exact hes
   ·refine zA [.pack (GD.att a) 7 [11,12],.pack (GD.eng s) 0 [1,2,3,4,5,6,8,7,9,10]] [0] ?_ ?_ ?_<;> simp[zH,zJ,ha,zD,o1,o2,o3]<;> exact hes
   ·refine zA [.pack (GD.att a) 7 [11,12],.pack (GD.eng s) 0 [1,2,3,4,5,6,8,9,7,10]] [0] ?_ ?_ ?_<;> simp[zH,zJ,ha,zD,o1,o2,o3]<;> exact hes
   ·refine zA [.pack (GD.att a) 7 [11,12],.pack (GD.eng s) 0 [1,2,3,4,5,6,8,9,10,7]] [0] ?_ ?_ ?_<;> simp[zH,zJ,ha,zD,o1,o2,o3]<;> exact hes
def d25:zAl
 |.eng s,[.int .i64 t]=> some (True,zEx s t,.eng s)
 |_,_=> none
theorem qMj:qI Tryz.prog cfg 25 (qC d25):=xJ fun d rest p v d' h hp=> by
 unfold d25 at h
 split at h
 ·cases h;exact⟨rfl,by unfold zEx;split<;> rfl,qRd _ _⟩
 ·cases h
def zLb:List (FuncId × qW GD):=[(94,qC d94),(49,qC d49)]
theorem zPj:∀x∈zLb,qI Tryz.prog cfg x.1 x.2:=by simp[zLb,zPo,qL8]
theorem qQ8 (s:NS) (t:Int):zP Tryz.prog cfg 33 [.pointer (some ⟨0,0,none⟩),.int .i64 t] (AH.of [some (.hi (.eng s))])
  fun r H'=> r=.ret (.bool (decide (s.o=some t)))/\H'=AH.of [some (.hi (.eng s))]:=by
 refine zP.ends ?_
 refine zP.openEng (th:=0) (by omega) fun es cc hes=> ?_
 cases ho:s.o with
 |none=>
  refine zX (tbl:=zLb) zPj 0 3 (af:=a33) rfl ?_
  rw[a33,b33,qB]
  refine⟨by simp,?_⟩
  simp -implicitDefEqProofs [jA,zLb,qC,d94,ho,zEg]
  refine zA [.pack (GD.eng s) 0 [1,2,3,4,5,6,7,8,9,10]] [0] ?_ ?_ ?_<;> simp[zJ,o1,o2,o3,ho]<;> exact hes
 |some x=>
  refine zX (tbl:=zLb) zPj 0 3 (af:=a33) rfl ?_
  rw[a33,b33,qB]
  refine⟨by simp,?_⟩
  simp -implicitDefEqProofs [jA,zLb,qC,d94,ho,zEg]
  refine zA [.pack (GD.eng s) 0 [1,2,3,4,5,6,7,8,9,10]] [0] ?_ ?_ ?_<;> simp[zJ,o1,o2,o3,ho]<;> exact hes
def d33:zAl
 |.eng s,[.int .i64 t]=> some (True,.bool (decide (s.o=some t)),.eng s)
 |_,_=> none
theorem qMd:qI Tryz.prog cfg 33 (qC d33):=xJ fun d rest p v d' h hp=> by
 unfold d33 at h
 split at h
 ·cases h;exact⟨rfl,rfl,qQ8 _ _⟩
 ·cases h
theorem qRi (s:NS):zP Tryz.prog cfg 17 [.pointer (some ⟨0,0,none⟩)] (AH.of [some (.hi (.eng s))])
  fun r H'=> r=.ret (.int .u64 s.c)/\H'=AH.of [some (.hi (.eng s))]:=by
 refine zP.ends ?_
 refine zP.openEng (th:=0) (by omega) fun es cc hes=> ?_
 refine zX (tbl:=zLb) zPj 0 3 (af:=a17) rfl ?_
 rw[a17,b17,qB]
 refine⟨by simp,?_⟩
 simp -implicitDefEqProofs [jA,zLb,qC,d49]
 refine zA [.pack (GD.eng s) 0 [1,2,3,4,5,6,7,8,9,10]] [0] ?_ ?_ ?_<;> simp[zJ,o1,o2,o3]<;> exact hes
def d17:zAl
 |.eng s,[]=> some (True,.int .u64 s.c,.eng s)
 |_,_=> none
theorem qMo:qI Tryz.prog cfg 17 (qC d17):=xJ fun d rest p v d' h hp=> by
 unfold d17 at h
 split at h
 ·cases h;exact⟨rfl,rfl,qRi _⟩
 ·cases h
def zJl (s:NS) (n:Int):Int:=if n<0 then 0 else (s.wy[n.toNat]?).getD 0
theorem qRb (s:NS) (n:Int):zP Tryz.prog cfg 30 [.pointer (some ⟨0,0,none⟩),.int .i64 n] (AH.of [some (.hi (.eng s))])
  fun r H'=> r=.ret (.int .u8 (zJl s n))/\H'=AH.of [some (.hi (.eng s))]:=by
 refine zP.ends ?_
 refine zP.openEng (th:=0) (by omega) fun es cc hes=> ?_
 by_cases h1:n<0
 ·refine zX (tbl:=[]) (by simp) 0 3 (af:=a30) rfl ?_
  rw[a30,b30,qB]
  refine⟨by simp,?_⟩
  simp -implicitDefEqProofs [jA,h1]
  refine zA [.pack (GD.eng s) 0 [1,2,3,4,5,6,7,8,9,10]] [0] ?_ ?_ ?_<;> simp[zJ,o1,o2,o3,zJl,h1]<;> exact hes
 ·by_cases h2:(s.wy.length:Int)<=n
  ·have hg:s.wy[n.toNat]?=none:=List.getElem?_eq_none (by omega)
   refine zX (tbl:=[]) (by simp) 0 3 (af:=a30) rfl ?_
   rw[a30,b30,qB]
   refine⟨by simp,?_⟩
   simp -implicitDefEqProofs [jA,h1,h2]
   refine zA [.pack (GD.eng s) 0 [1,2,3,4,5,6,7,8,9,10]] [0] ?_ ?_ ?_<;> simp[zJ,o1,o2,o3,zJl,h1,hg]<;> exact hes
  ·obtain⟨y,hy⟩:∃y,s.wy[n.toNat]?=some y:=⟨s.wy[n.toNat]'(by omega),List.getElem?_eq_getElem (by omega)⟩
   have hu:(u8s s.wy)[n.toNat]?=some (.int .u8 y):=by simp[u8s,hy]
   have h3:0<=n:=by omega
   have h4:n<s.wy.length:=by omega
   refine zX (tbl:=[]) (by simp) 0 3 (af:=a30) rfl ?_
   rw[a30,b30,qB]
   refine⟨by simp,?_⟩
   simp -implicitDefEqProofs [jA,h1,h2,h3,h4,hu]
   refine zA [.pack (GD.eng s) 0 [1,2,3,4,5,6,7,8,9,10]] [0] ?_ ?_ ?_<;> simp[zJ,o1,o2,o3,zJl,h1,hy]<;> exact hes
def d30:zAl
 |.eng s,[.int .i64 n]=> some (True,.int .u8 (zJl s n),.eng s)
 |_,_=> none
theorem qMg:qI Tryz.prog cfg 30 (qC d30):=xJ fun d rest p v d' h hp=> by
 unfold d30 at h
 split at h
 ·cases h;exact⟨rfl,rfl,qRb _ _⟩
 ·cases h
end YtnemoimbeefngaaGreat
end Go.Proofs
namespace Go.Proofs
namespace YtnemoimbeefngaaGreat
open Go.Abs
theorem qQ1 (e:TypeId) (l:List Int) (tg:Nat) (hl:l.length<=1000000):zP Tryz.prog cfg 48 [.slice (some ⟨0,0,none⟩) l.length tg] (AH.of [some (.arr e (us l))])
  fun r H'=> r=.ret (.slice (some ⟨1,0,none⟩) l.length 1)/\H'=AH.of [some (.arr e (us l)),some (.arr 49 (us l))]:=by
 refine zP.ends ?_
 refine zX (tbl:=[]) (by simp) 0 0 (af:=a48) rfl ?_
 rw[a48,b48,qB]
 refine⟨by simp,?_⟩
 have h1:l.length*8<=140737488355328/\l.length<=9223372036854775807:=by omega
 have h2:=zJr l
 simp -implicitDefEqProofs [h1,h2,zC5]
 repeat' (first|with_reducible apply And.intro|with_reducible intro _)
 all_goals first
  |(refine zA [] [0,2] ?_ ?_ ?_<;> simp;done)
  |(have:l=[]:=by assumption
    subst this
    refine zBx (r':=.ret (.slice (some ⟨1,0,none⟩) 0 1)) (zBw (by simp)) (zA [.nil 49] [0,1] ?_ ?_ ?_)<;> simp[us])
theorem zPx (l:List Int) (n tg:Nat) (hn:n=l.length) (hl:l.length<=1000000):zP Tryz.prog cfg 48 [.slice (some ⟨0,0,none⟩) n tg] (AH.of [some (.ro (us l))])
  fun r H'=> r=.ret (.slice (some ⟨1,0,none⟩) l.length 1)/\H'=AH.of [some (.ro (us l)),some (.arr 49 (us l))]:=by
 subst hn
 refine zP.ends ?_
 refine zX (tbl:=[]) (by simp) 0 0 (af:=a48) rfl ?_
 rw[a48,b48,qB]
 refine⟨by simp,?_⟩
 have h1:l.length*8<=140737488355328/\l.length<=9223372036854775807:=by omega
 have h2:=zJr l
 simp -implicitDefEqProofs [h1,h2,zC5]
 repeat' (first|with_reducible apply And.intro|with_reducible intro _)
 all_goals first
  |(refine zA [] [0,2] ?_ ?_ ?_<;> simp;done)
  |(have:l=[]:=by assumption
    subst this
    refine zBx (r':=.ret (.slice (some ⟨1,0,none⟩) 0 1)) (zBw (by simp)) (zA [.nil 49] [0,1] ?_ ?_ ?_)<;> simp[us])
def zPr:qW GD:=fun args H=> match args with
 |[.slice (some ⟨k,0,none⟩) n _]=> match H.get k with
  |some (.arr _ cs)=> (zHd cs).map fun l=> (n=l.length/\l.length<=1000000,.ret (.slice (some ⟨H.next,0,none⟩) l.length 1),H.add (.arr 49 (us l)))
  |some (.ro cs)=> (zHd cs).map fun l=> (n=l.length/\l.length<=1000000,.ret (.slice (some ⟨H.next,0,none⟩) l.length 1),H.add (.arr 49 (us l)))
  |_=> none
 |_=> none
theorem zWu:qI Tryz.prog cfg 48 zPr:=by
 intro args H p r H' h hp
 unfold zPr at h
 split at h
 case h_2=> cases h
 split at h
 ·simp only[Option.map_eq_some_iff] at h
  obtain⟨l,hl,h⟩:=h
  rename_i k n tg x e cs hk
  cases h
  rw[zFj hl] at hk
  rw[hp.1]
  exact (qQ1 e l tg hp.2).atK (xE rfl) [k] (by simp) (by simp) (by simp[hk]) (by simp) (by simp) (by simp[xB hk])
 ·simp only[Option.map_eq_some_iff] at h
  obtain⟨l,hl,h⟩:=h
  rename_i k n tg x cs hk
  cases h
  rw[zFj hl] at hk
  exact (zPx l n tg hp.1 hp.2).atK (zG6 fun i cs hi=> by rcases i with _|_|i<;> simp at hi⊢;exact hi) [k] (by simp) (by simp) (by simp[hk]) (by simp) (by simp) (by simp[xB hk])
 ·cases h
theorem qQ5 (e:TypeId) (l:List Ev) (tg:Nat) (hl:l.length<=1000000):zP Tryz.prog cfg 42 [.slice (some ⟨0,0,none⟩) l.length tg] (AH.of [some (.arr e (evs l))])
  fun r H'=> r=.ret (.slice (some ⟨1,0,none⟩) l.length 1)/\H'=AH.of [some (.arr e (evs l)),some (.arr 84 (evs l))]:=by
 refine zP.ends ?_
 refine zX (tbl:=[]) (by simp) 0 0 (af:=a42) rfl ?_
 rw[a42,b42,qB]
 refine⟨by simp,?_⟩
 have h1:l.length*32<=140737488355328/\l.length<=9223372036854775807:=by omega
 have h2:=jB l
 have h3:l.length*4<=(evs l).length:=by rw[qT];omega
 simp -implicitDefEqProofs [h1,h2,h3]
 repeat' (first|with_reducible apply And.intro|with_reducible intro _)
 all_goals first
  |(refine zA [] [0,2] ?_ ?_ ?_<;> simp;done)
  |(have:l=[]:=by assumption
    subst this
    refine zBx (r':=.ret (.slice (some ⟨1,0,none⟩) 0 1)) (zBw (by simp)) (zA [.nil 84] [0,1] ?_ ?_ ?_)<;> simp[evs])
def st42:qW GD:=fun args H=> match args with
 |[.slice (some ⟨k,0,none⟩) n _]=> match H.get k with
  |some (.arr _ cs)=> (zG0 cs).map fun l=> (n=l.length/\l.length<=1000000,.ret (.slice (some ⟨H.next,0,none⟩) l.length 1),H.add (.arr 84 (evs l)))
  |_=> none
 |_=> none
theorem qMa:qI Tryz.prog cfg 42 st42:=by
 intro args H p r H' h hp
 unfold st42 at h
 split at h
 case h_2=> cases h
 split at h
 ·simp only[Option.map_eq_some_iff] at h
  obtain⟨l,hl,h⟩:=h
  rename_i k n tg x e cs hk
  cases h
  rw[zL7 hl] at hk
  rw[hp.1]
  exact (qQ5 e l tg hp.2).atK (xE rfl) [k] (by simp) (by simp) (by simp[hk]) (by simp) (by simp) (by simp[xB hk])
 ·cases h
def zC7:List Int:=[0,4607182418800017408,9221120237041090560,9223372036854775808,0]
theorem zLy:∀v∈zC7,zAq v=true:=by
 intro v hv
 simp only[zC7,List.mem_cons,List.not_mem_nil,or_false] at hv
 rcases hv with rfl|rfl|rfl|rfl|rfl<;> decide
theorem zO4:zC7.length=5:=rfl
structure Dd where
 k:Int
 t:Int
 a:Ak
def Dd.cells (d:Dd):List Value:=[.int .i64 d.k,.int .i64 d.t,.int .u8 d.a.k,.int .i64 d.a.t,.int .u64 d.a.v]
def Dd.Ok (d:Dd):Prop:=(0<=d.a.k/\d.a.k<256)/\0<=d.a.v/\d.a.v<18446744073709551616
def dds (l:List Dd):List Value:=l.flatMap Dd.cells
theorem zI4 (d:Dd) (l:List Dd):dds (d::l)=.int .i64 d.k::.int .i64 d.t::.int .u8 d.a.k::.int .i64 d.a.t::.int .u64 d.a.v::dds l:=rfl
theorem zZy (l:List Dd):(dds l).length=l.length*5:=by
 induction l with
 |nil=> rfl
 |cons e l ih=> rw[zI4];simp[ih];omega
theorem zO8 (l:List Dd):xI (dds l)=true:=by
 induction l with
 |nil=> rfl
 |cons e l ih=> rw[zI4];simp[xI,xY,ih]
theorem qOd (θ:Nat->Nat) (l:List Dd):zAu θ (dds l)=dds l:=zAy θ _ (zO8 l)
theorem qHy {i:Nat} {x:Dd}:∀{l:List Dd},l[i]?=some x->((dds l).drop (i*5)).take 5=x.cells:=by
 induction i with
 |zero=>
  intro l h
  cases l with
  |nil=> simp at h
  |cons e l=> simp at h;subst h;rfl
 |succ i ih=>
  intro l h
  cases l with
  |nil=> simp at h
  |cons e l=>
   rw[zI4,show (i+1)*5=i*5+1+1+1+1+1 by omega]
   simpa using ih (l:=l) (by simpa using h)
attribute [simp] qOd
def zM8:List Value->Option (List Dd)
 |[]=> some []
 |.int .i64 k::.int .i64 t::.int .u8 a::.int .i64 b::.int .u64 c::l=> (zM8 l).map (⟨k,t,⟨a,b,c⟩⟩::·)
 |_=> none
theorem zRf:∀l:List Dd,zM8 (dds l)=some l
 |[]=> rfl
 |e::l=> by rw[zI4,zM8,zRf l];rfl
theorem zRe:∀{cs:List Value} {l:List Dd},zM8 cs=some l->cs=dds l
 |cs,l,e=> by
  unfold zM8 at e
  split at e
  ·cases e;rfl
  ·simp only[Option.map_eq_some_iff] at e
   obtain⟨l',e1,rfl⟩:=e
   rw[zRe e1];rfl
  ·cases e
attribute [simp] zRf
theorem qRh (e e':TypeId) (a b:List Int) (ta tb:Nat) (hl:a.length<=1000):zP Tryz.prog cfg 18 [.slice (some ⟨0,0,none⟩) a.length ta,.slice (some ⟨1,0,none⟩) b.length tb] (AH.of [some (.arr e (us a)),some (.arr e' (us b))])
  fun r H'=> r=.ret (.bool (decide (a=b)))/\H'=AH.of [some (.arr e (us a)),some (.arr e' (us b))]:=by
 refine zP.ends ?_
 obtain⟨n,hn⟩:∃n,a.length=n:=⟨_,rfl⟩
 by_cases hnm:b.length=n
 ·rw[hn,hnm]
  refine zX (tbl:=[]) (by simp) 1001 0 (af:=a18) rfl ?_
  rw[a18,b18,qB]
  refine⟨by simp,?_⟩
  simp -implicitDefEqProofs
  refine zAp (xC zAh (xD (by simp)) _ _ noY jT) (fun mm tm H=> ∃i:Nat,mm+i=n/\(∀j,j<i->a[j]?=b[j]?)/\tm 0=.slice (some ⟨0,0,none⟩) n ta/\tm 1=.slice (some ⟨1,0,none⟩) n tb/\tm 5=.int .i64 i/\H=AH.of [some (.arr e (us a)),some (.arr e' (us b))]) (m:=n) ⟨0,by simp⟩ (by omega) ?_
  rintro mm tm H ⟨i,hmm,hpre,t0,t1,t5,rfl⟩
  by_cases hi:i<n
  ·obtain⟨x,hx⟩:=zCk (l:=a) (i:=i) (by omega)
   obtain⟨y,hy⟩:=zCk (l:=b) (i:=i) (by omega)
   have hi':(i:Int)<n:=by omega
   have hwr:=zA8 hi (by omega)
   have ux:=zEb hx
   have uy:=zEb hy
   by_cases hxy:x=y
   ·subst hxy
    have hpre2:∀j,j<i+1->a[j]?=b[j]?:=fun j hj=> by
     by_cases h:j=i
     ·subst h;rw[hx,hy]
     ·exact hpre j (by omega)
    simp -implicitDefEqProofs [t0,t1,t5,hi,hi',ux,uy,hwr]
    exact⟨mm - 1,by omega,i+1,by omega,hpre2,by omega⟩
   ·have hne:¬a=b:=fun h=> by subst h;rw[hx] at hy;exact hxy (Option.some.inj hy)
    simp -implicitDefEqProofs [t0,t1,t5,hi,hi',ux,uy,hxy,hne]
    refine zA [] [0,1] ?_ ?_ ?_<;> simp
  ·have hab:a=b:=zLh (by omega) fun j hj=> hpre j (by omega)
   have hi':¬(i:Int)<n:=by omega
   simp -implicitDefEqProofs [t0,t1,t5,hi',hab]
   refine zA [] [0,1] ?_ ?_ ?_<;> simp
 ·have hne:¬a=b:=fun h=> hnm (by rw[←h];exact hn)
  have hnm':¬(n:Int)=b.length:=by omega
  have hnm2:¬n=b.length:=by omega
  rw[hn]
  refine zX (tbl:=[]) (by simp) 1001 0 (af:=a18) rfl ?_
  rw[a18,b18,qB]
  refine⟨by simp,?_⟩
  simp -implicitDefEqProofs [hnm',hnm2,hne]
  refine zA [] [0,1] ?_ ?_ ?_<;> simp
def st18:qW GD:=fun args H=> match args with
 |[.slice (some ⟨k,0,none⟩) n _,.slice (some ⟨j,0,none⟩) m _]=> match zFg H k,zFg H j with
  |some a,some b=> some (k≠j/\n=a.2.length/\m=b.2.length/\n<=1000,.ret (.bool (decide (a.2=b.2))),H)
  |_,_=> none
 |_=> none
theorem qMn:qI Tryz.prog cfg 18 st18:=by
 intro args H p r H' h hp
 unfold st18 at h
 split at h
 case h_2=> cases h
 split at h
 case h_2=> cases h
 rename_i k n ta j m tb _ _ a b h1 h2
 cases h
 obtain⟨p1,p2,p3,p4⟩:=hp
 subst p2 p3
 exact (qRh a.1 b.1 a.2 b.2 ta tb p4).atK (xE rfl) [k,j] (by simp[p1]) (by simp) (by simp[zEs h1,zEs h2]) (by simp) (by simp) (by simp[xB (zEs h1),xB (zEs h2)])
end YtnemoimbeefngaaGreat
end Go.Proofs
namespace Go.Proofs
namespace YtnemoimbeefngaaGreat
open Go.Abs
def zMe:List (FuncId × qW GD):=[(48,zPr),(42,st42)]
theorem zSy:∀x∈zMe,qI Tryz.prog cfg x.1 x.2:=by simp[zMe,zWu,qMa]
theorem qRj (s:NS) (hs:s.Ok):zP Tryz.prog cfg 16 [.pointer (some ⟨0,0,none⟩)] (AH.of [some (.hi (.eng s))])
  fun r H'=> r=.ret (.slice (some ⟨1,0,none⟩) s.hp.length 1)/\H'=AH.of [some (.hi (.eng s)),some (.arr 49 (us s.hp))]:=by
 refine zP.ends ?_
 refine zP.openEng (th:=0) (by omega) fun es cc hes=> ?_
 have hl:s.hp.length<=1000000:=by have:=hs.hp.2;omega
 refine zX (tbl:=zMe) zSy 0 3 (af:=a16) rfl ?_
 rw[a16,b16,qB]
 refine⟨by simp,?_⟩
 simp -implicitDefEqProofs [jA,zMe,zPr,hl]
 refine zA [.pack (GD.eng s) 0 [1,2,3,4,5,6,7,8,9,10]] [0,11] ?_ ?_ ?_<;> simp[zJ,o1,o2,o3]<;> exact hes
def st16:qW GD:=fun args H=> match args with
 |[.pointer (some ⟨k,0,none⟩)]=> match H.get k with
  |some (.hi (.eng s))=> some (s.Ok,.ret (.slice (some ⟨H.next,0,none⟩) s.hp.length 1),H.add (.arr 49 (us s.hp)))
  |_=> none
 |_=> none
theorem qMp:qI Tryz.prog cfg 16 st16:=by
 intro args H p r H' h hp
 unfold st16 at h
 split at h
 case h_2=> cases h
 split at h
 case h_2=> cases h
 rename_i k x s hk
 cases h
 exact (qRj s hp).atK (xE rfl) [k] (by simp) (by simp) (by simp[hk]) (by simp) (by simp) (by simp[xB hk])
theorem qRm (s:NS) (hl:s.ev.length<=1000000):zP Tryz.prog cfg 11 [.pointer (some ⟨0,0,none⟩)] (AH.of [some (.hi (.eng s))])
  fun r H'=> r=.ret (.slice (some ⟨1,0,none⟩) s.ev.length 1)/\H'=AH.of [some (.hi (.eng s)),some (.arr 84 (evs s.ev))]:=by
 refine zP.ends ?_
 refine zP.openEng (th:=0) (by omega) fun es cc hes=> ?_
 refine zX (tbl:=zMe) zSy 0 3 (af:=a11) rfl ?_
 rw[a11,b11,qB]
 refine⟨by simp,?_⟩
 simp -implicitDefEqProofs [jA,zMe,st42,hl]
 refine zA [.pack (GD.eng s) 0 [1,2,3,4,5,6,7,8,9,10]] [0,11] ?_ ?_ ?_<;> simp[zJ,o1,o2,o3]<;> exact hes
def zPu:qW GD:=fun args H=> match args with
 |[.pointer (some ⟨k,0,none⟩)]=> match H.get k with
  |some (.hi (.eng s))=> some (s.ev.length<=1000000,.ret (.slice (some ⟨H.next,0,none⟩) s.ev.length 1),H.add (.arr 84 (evs s.ev)))
  |_=> none
 |_=> none
theorem zW1:qI Tryz.prog cfg 11 zPu:=by
 intro args H p r H' h hp
 unfold zPu at h
 split at h
 case h_2=> cases h
 split at h
 case h_2=> cases h
 rename_i k x s hk
 cases h
 exact (qRm s hp).atK (xE rfl) [k] (by simp) (by simp) (by simp[hk]) (by simp) (by simp) (by simp[xB hk])
theorem qK0:u8s []=[]:=rfl
def zD9 (h:List Int):NS:=⟨none,0,h,fun _=> none,[],[],[]⟩
def zS2:List (FuncId × qW GD):=[(48,zPr),(96,zBd),(97,st97)]
theorem zWp:∀x∈zS2,qI Tryz.prog cfg x.1 x.2:=by simp[zS2,zWu,zMo,qLk]
theorem zTt (h:List Int) (tg:Nat) (h1:1<=h.length/\h.length<=12) (hr:∀v∈h,zAq v=true):zP Tryz.prog cfg 35 [.slice (some ⟨0,0,none⟩) h.length tg] (AH.of [some (.ro (us h))])
  fun r H'=> r=.ret (.pointer (some ⟨1,0,none⟩))/\H'=AH.of [some (.ro (us h)),some (.hi (.eng (zD9 h)))]:=by
 refine zP.ends ?_
 obtain⟨n,hn⟩:∃n,h.length=n:=⟨_,rfl⟩
 have z1:¬(n:Int)<1:=by omega
 have z2:¬(12:Int)<n:=by omega
 have hl:n<=1000000:=by omega
 rw[hn]
 refine zX (tbl:=zS2) zWp 13 2 (af:=a35) rfl ?_
 rw[a35,b35,qB]
 refine⟨by simp,?_⟩
 simp -implicitDefEqProofs [z1,z2]
 refine zAp (xC zAh (xD zWp) _ _ noY jT) (fun m tm H=> ∃i:Nat,m+i=n/\tm 0=.slice (some ⟨0,0,none⟩) n tg/\tm 13=.slice (some ⟨0,0,none⟩) n tg/\tm 14=.int .i64 n/\tm 15=.int .i64 i/\H=AH.of [some (.ro (us h))]) (m:=n) ⟨0,by simp⟩ (by omega) ?_
 rintro m tm H ⟨i,hm,t0,t13,t14,t15,rfl⟩
 by_cases hi:i<n
 ·obtain⟨x,hx⟩:=zCk (l:=h) (i:=i) (by omega)
  have hi':(i:Int)<n:=by omega
  have hwr:=zA8 hi (by omega)
  have ux:=zEb hx
  have hrx:=hr x (List.mem_of_getElem? hx)
  simp -implicitDefEqProofs [zS2,zBd,t0,t13,t14,t15,hi,hi',ux,hrx,hwr]
  exact⟨m - 1,by omega,i+1,by omega,by omega⟩
 ·have hie:i=n:=by omega
  subst hie
  simp -implicitDefEqProofs [zS2,st97,zPr,t0,t13,t14,t15,hn,hl]
  refine zA [.nil 84,.nil 38,.nil 61,.nil 100,.nil 100,.nil 100,.nil 100,.pack (GD.eng (zD9 h)) 4 [1,2,3,5,6,7,8,9,10,11]] [0,4] ?_ ?_ ?_<;> simp[zJ,zD9,qE,qPh,qP6,qK0,hn,tpK,tp1,zJm]
  exact zA3.nil 0
def zPs:qW GD:=fun args H=> match args with
 |[.slice (some ⟨k,0,none⟩) n _]=> match H.get k with
  |some (.arr _ cs)=> (zHd cs).map fun l=> (n=l.length/\k<H.next/\1<=l.length/\l.length<=12/\(∀v∈l,zAq v=true),.ret (.pointer (some ⟨H.next,0,none⟩)),H.add (.hi (.eng (zD9 l))))
  |_=> none
 |_=> none
theorem zWw:qI Tryz.prog cfg 35 zPs:=by
 intro args H p r H' h hp
 unfold zPs at h
 split at h
 case h_2=> cases h
 split at h
 case h_2=> cases h
 simp only[Option.map_eq_some_iff] at h
 obtain⟨l,hl,h⟩:=h
 rename_i k n tg x e cs hk
 cases h
 obtain⟨h1,hkn,h2,h3,h4⟩:=hp
 rw[zFj hl] at hk
 rw[h1]
 refine zP.borrow k hk ?_
 have hk2:(H.upd k (.ro (us l))).get k=some (.ro (us l)):=by rw[AH.get_upd,if_pos rfl]
 have hr:=(zTt l tg ⟨h2,h3⟩ h4).atK (H:=H.upd k (.ro (us l))) (args:=[.slice (some ⟨k,0,none⟩) l.length tg]) (r':=.ret (.pointer (some ⟨H.next,0,none⟩))) (H':=(H.upd k (.ro (us l))).add (.hi (.eng (zD9 l)))) (zG6 fun i cs hi=> by rcases i with _|_|i<;> simp at hi⊢;exact hi) [k] (by simp) (by simp) (by simp[hk2]) (by simp) (by simp) (by simp[xB hk2])
 refine hr.mono ?_
 rintro r H' ⟨e1,rfl⟩
 refine⟨by rw[AH.get_add,AH.next_upd,if_neg (by omega),AH.get_upd,if_pos rfl],fun j cs2 hj hcs hne=> ⟨cs2,?_,hne⟩,e1,?_⟩
 ·rw[AH.get_add,AH.next_upd] at hcs
  split at hcs
  ·cases hcs
  ·rw[AH.get_upd,if_neg hj] at hcs;exact hcs
 ·refine AH.ext' (by simp) fun j=> ?_
  rw[AH.get_upd,AH.get_add,AH.get_add,AH.next_upd,AH.get_upd]
  by_cases h:j=k
  ·subst h;rw[if_pos rfl,if_neg (by omega),hk]
  ·rw[if_neg h,if_neg h]
theorem qOv {h:List Int} (h1:1<=h.length/\h.length<=12) (h2:∀v∈h,0<=v/\v<18446744073709551616):(zD9 h).Ok where
 hp:=h1
 hv:=h2
 c:=⟨Int.le_refl _,by simp[zD9]⟩
 held':=fun x h=> by cases h
 ky:=by simp[zD9]
 kw:=rfl
 ts:=fun th a h=> by cases h
 own:=fun x h=> by cases h
 dec:=fun th a h=> by cases h
 th4:=fun _ _=> rfl
theorem zJh:(zD9 zC7).Ok:=qOv ⟨by decide,by decide⟩ (by decide)
end YtnemoimbeefngaaGreat
end Go.Proofs
namespace Go.Proofs
namespace YtnemoimbeefngaaGreat
open Go.Abs
theorem zQ2 {s:NS} (hs:s.Ok) (t:Int):(zDt s t).Ok:=by
 unfold zDt
 split
 ·exact hs
 ·rename_i th ht
  split
  ·exact hs.begin (zA4 ht).1 (by assumption)
  ·exact hs
theorem zP5 {s:NS} (hs:s.Ok) (t:Int) {x:Ak} (hk:0<=x.k) (hv:0<=x.v/\x.v<18446744073709551616):(zEy s t x).Ok:=by
 unfold zEy
 split
 ·exact hs
 ·rename_i th ht
  split
  ·exact hs.ask (zA4 ht).1 hk hv (by assumption)
  ·exact hs
theorem zNu {s:NS} (hs:s.Ok) (t:Int):(zDj s t).Ok:=by
 unfold zDj
 split
 ·exact hs
 ·rename_i th ht
  exact hs.step (zA4 ht).1
theorem qHr {s:NS} (hs:s.Ok) (t:Int):(zFu s t).Ok:=by
 unfold zFu
 split
 ·exact hs
 ·rename_i th ht
  exact hs.kill (zA4 ht).1
theorem qDw (s:NS) (t:Int):(zDt s t).ev.length<=s.ev.length+1:=by
 unfold zDt
 split
 ·omega
 ·split
  ·simp[zCa]
  ·omega
theorem qPk (s:NS) (t:Int) (x:Ak):(zEy s t x).ev=s.ev:=by
 unfold zEy
 split
 ·rfl
 ·split
  ·unfold qU;split<;> rfl
  ·rfl
theorem qPi (s:NS) (th:Nat):(zAs s th).2.ev.length<=s.ev.length+2:=by
 unfold zAs
 split
 ·simp only;omega
 ·rename_i a ha
  split
  ·simp only;omega
  split
  ·unfold zB0
   repeat' split
   all_goals simp[qY,zCj]
  split
  ·simp[qY]
  split
  ·unfold zCt
   repeat' split
   all_goals simp[qY,zCj,zAj]
  split
  ·unfold zDm
   repeat' split
   all_goals simp[qY,zCj,zB5]
  ·unfold zCb
   repeat' split
   all_goals simp[qY]
theorem qI5 (s:NS) (t:Int):(zDj s t).ev.length<=s.ev.length+2:=by
 unfold zDj
 split
 ·omega
 ·exact qPi s _
theorem qI7 (s:NS) (t:Int):(zFu s t).ev.length<=s.ev.length+1:=by
 unfold zFu
 split
 ·omega
 ·unfold zGr
  split
  ·omega
  ·split
   ·omega
   ·simp[qY]
def zB6 (s:NS) (d:Dd):NS:=
 if d.k=0 then zDt s d.t else if d.k=1 then zEy s d.t d.a else if d.k=2 then zDj s d.t else if d.k=3 then zFu s d.t else s
theorem zW8 {s:NS} (hs:s.Ok) {d:Dd} (hd:d.Ok):(zB6 s d).Ok:=by
 unfold zB6
 split
 ·exact zQ2 hs _
 split
 ·exact zP5 hs _ hd.1.1 hd.2
 split
 ·exact zNu hs _
 split
 ·exact qHr hs _
 ·exact hs
theorem qPj (s:NS) (d:Dd):(zB6 s d).ev.length<=s.ev.length+2:=by
 unfold zB6
 split
 ·have:=qDw s d.t;omega
 split
 ·rw[qPk];omega
 split
 ·exact qI5 s d.t
 split
 ·have:=qI7 s d.t;omega
 ·omega
def zCx (l:List Dd):NS:=l.foldl zB6 (zD9 zC7)
theorem zYx {l:List Dd} {i:Nat} {x:Dd} (h:l[i]?=some x):zCx (l.take (i+1))=zB6 (zCx (l.take i)) x:=by
 unfold zCx
 rw[List.take_add_one,h,List.foldl_append]
 rfl
theorem zT6 (l:List Dd) (hl:∀d∈l,d.Ok):(zCx l).Ok/\(zCx l).ev.length<=2*l.length:=by
 have key:∀(l:List Dd) (s:NS),(∀d∈l,d.Ok)->s.Ok->(l.foldl zB6 s).Ok/\(l.foldl zB6 s).ev.length<=s.ev.length+2*l.length:=by
  intro l
  induction l with
  |nil=> intro s _ h;exact⟨h,by simp⟩
  |cons d l ih=>
   intro s hd hs
   have h1:=ih (zB6 s d) (fun x hx=> hd x (by simp[hx])) (zW8 hs (hd d (by simp)))
   have h2:=qPj s d
   refine⟨h1.1,?_⟩
   have h3:=h1.2
   simp only[List.foldl_cons,List.length_cons]
   omega
 have:=key l (zD9 zC7) hl zJh
 refine⟨this.1,?_⟩
 have h2:=this.2
 have h0:(zD9 zC7).ev.length=0:=rfl
 unfold zCx
 omega
theorem zX8 (H:AH GD):zP Tryz.prog cfg 12 [] H fun r H'=> r=.ret (.slice (some ⟨H.next,0,none⟩) 5 1)/\H'=H.add (.arr 49 (us zC7)):=by
 have h0:zP Tryz.prog cfg 12 [] (AH.of []) fun r H'=> r=.ret (.slice (some ⟨0,0,none⟩) 5 1)/\H'=AH.of [some (.arr 49 (us zC7))]:=by
  refine zP.ends ?_
  refine zX (tbl:=[]) (by simp) 0 0 (af:=a12) rfl ?_
  rw[a12,b12,qB]
  refine⟨by simp,?_⟩
  simp -implicitDefEqProofs
  refine zA [] [0] ?_ ?_ ?_<;> simp[us,zC7]
 exact h0.atK (xE rfl) [] (by simp) (by simp) trivial (by simp) (by simp) (by simp)
def zPt:qW GD:=fun args H=> match args with
 |[]=> some (True,.ret (.slice (some ⟨H.next,0,none⟩) 5 1),H.add (.arr 49 (us zC7)))
 |_=> none
theorem zW0:qI Tryz.prog cfg 12 zPt:=by
 intro args H p r H' h hp
 unfold zPt at h
 split at h
 case h_2=> cases h
 cases h
 exact zX8 H
def zR2:List (FuncId × qW GD):=[(12,zPt),(35,zPs),(24,qC d24),(27,qC d27),(28,qC d28),(11,zPu)]
theorem qFb:∀x∈zR2,qI Tryz.prog cfg x.1 x.2:=by simp[zR2,zW0,zWw,zWz,zWy,zWx,zW1]
def lv1:NS:=zDt (zD9 zC7) 1
def lv2:NS:=zEy lv1 1 ⟨1,1,0⟩
def lv3:NS:=zDj lv2 1
def lv4:NS:=zDj lv3 1
def lv5:NS:=zEy lv4 1 ⟨6,0,0⟩
def lv6:NS:=zDj lv5 1
theorem qC6:lv1.Ok/\lv1.ev.length<=100000:=⟨zQ2 zJh 1,by decide+kernel⟩
theorem qC5:lv2.Ok/\lv2.ev.length<=100000:=⟨zP5 qC6.1 1 (by decide) (by decide),by decide+kernel⟩
theorem qC4:lv3.Ok/\lv3.ev.length<=100000:=⟨zNu qC5.1 1,by decide+kernel⟩
theorem qC3:lv4.Ok/\lv4.ev.length<=100000:=⟨zNu qC4.1 1,by decide+kernel⟩
theorem qR1:lv5.Ok/\lv5.ev.length<=100000:=⟨zP5 qC3.1 1 (by decide) (by decide),by decide+kernel⟩
theorem lv_b:zGy (zD9 zC7) 1=.tuple #[.int .i64 0,.int .i64 0]:=rfl
theorem lv_a1:zL4 lv1 1 ⟨1,1,0⟩=0:=by decide+kernel
theorem lv_a2:zL4 lv4 1 ⟨6,0,0⟩=0:=by decide+kernel
theorem lv_s2:zH4 lv3 1=qK 4607182418800017408:=by decide+kernel
theorem lv_s3:zH4 lv5 1=qP 0:=by decide+kernel
theorem lv_e:lv6.ev.length=4:=by decide+kernel
theorem runs9:zP Tryz.prog cfg 9 [] (AH.of []) fun r H'=> r=.ret (.bool true)/\H'=AH.of []:=by
 refine zP.ends ?_
 have h1:=zJh
 have h1e:(zD9 zC7).ev.length<=100000:=by decide
 have hr:=zLy
 have e1:zDt (zD9 zC7) 1=lv1:=rfl
 have e2:zEy lv1 1 ⟨1,1,0⟩=lv2:=rfl
 have e3:zDj lv2 1=lv3:=rfl
 have e4:zDj lv3 1=lv4:=rfl
 have e5:zEy lv4 1 ⟨6,0,0⟩=lv5:=rfl
 have e6:zDj lv5 1=lv6:=rfl
 refine zX (tbl:=zR2) qFb 0 0 (af:=a9) rfl ?_
 rw[a9,b9,qB]
 refine⟨by simp,?_⟩
 simp -implicitDefEqProofs [zR2,zPt,zPs,qC,d24,d27,d28,zPu,zO4,h1,h1e,hr,e1,e2,e3,e4,e5,e6,qC6,qC5,qC4,qC3,qR1,lv_b,lv_a1,lv_a2,lv_s2,lv_s3,lv_e,Rp.v,Rp.cells,qK,qP]
 refine⟨hr,zA [] [] ?_ ?_ ?_⟩<;> simp
def st9:qW GD:=fun args H=> match args with
 |[]=> some (True,.ret (.bool true),H)
 |_=> none
theorem qP7:qI Tryz.prog cfg 9 st9:=by
 intro args H p r H' h hp
 unfold st9 at h
 split at h
 case h_2=> cases h
 cases h
 exact runs9.atK (xE rfl) [] (by simp) (by simp) trivial (by simp) (by simp) (by simp)
end YtnemoimbeefngaaGreat
end Go.Proofs
namespace Go.Proofs
namespace YtnemoimbeefngaaGreat
open Go.Abs
structure Sole (s:NS) (th:Nat):Prop where
 others:∀i,i≠th->s.ts i=none
 low:∀a,s.ts th=some a->a.at_<4
 snap:∀a,s.ts th=some a->a.dec=false->a.snap=s.c
end YtnemoimbeefngaaGreat
end Go.Proofs
namespace Go.Proofs
namespace YtnemoimbeefngaaGreat
open Go.Abs
end YtnemoimbeefngaaGreat
end Go.Proofs
namespace Go.Proofs
namespace YtnemoimbeefngaaGreat
open Go.Abs Go.ChangeShapes Go.WideShapes Go.ChangeAt Go.RowKit
set_option maxRecDepth 100000
theorem zQh:Tryz.prog.cellsOf 53=5:=by kernel_rfl
theorem zXp:Tryz.prog.cellsOf 51=3:=by kernel_rfl
theorem qD9:Tryz.prog.cellsOf 3=1:=by kernel_rfl
def qR2:List TypeId:=[22,53,51,48,49,3,38,5]
theorem qO4:zGh Tryz.prog qR2=true:=by kernel_rfl
section
variable {H:Type} {enc:TypeId × Value->H} {w:World}
theorem qAc {fuel:Nat} {cs:List Value} {y:DataW H × List MemPlace} (h:DataW.trod enc Tryz.prog w 0 (fun _=> true) true fuel 51 cs=some y):∃e:Ak,cs=[.int .u8 e.k,.int .i64 e.t,.int .u64 e.v]/\(0<=e.k/\e.k<256)/\0<=e.v/\e.v<18446744073709551616:=by
 obtain⟨h1,h2⟩:=zTb Tryz.underlying51 (by kernel_rfl) h zXp
 obtain⟨v0,n0,y0,g0,t0⟩:=h2 0 _ rfl
 obtain⟨v1,n1,y1,g1,t1⟩:=h2 1 _ rfl
 obtain⟨v2,n2,y2,g2,t2⟩:=h2 2 _ rfl
 obtain⟨a,ha,_,hwa⟩:=DataW.trod_int Tryz.underlying48 t0
 obtain⟨b,hb,_,_⟩:=DataW.trod_int Tryz.underlying3 t1
 obtain⟨c,hc,_,hw⟩:=DataW.trod_int Tryz.underlying49 t2
 have h3:cs.length=3:=h1
 match cs,h3 with
 |[c0,c1,c2],_=>
  simp only[List.getElem?_cons_zero,List.getElem?_cons_succ,Option.some.injEq] at g0 g1 g2
  cases g0;cases g1;cases g2
  cases ha;cases hb;cases hc
  exact⟨⟨a,b,c⟩,rfl,wf_u8 hwa,qP5 hw⟩
theorem qJi {fuel:Nat} {cs:List Value} {y:DataW H × List MemPlace} (h:DataW.trod enc Tryz.prog w 0 (fun _=> true) true fuel 53 cs=some y):∃e:Dd,cs=e.cells/\e.Ok:=by
 obtain⟨xs,n,_,_,h1,h2,h3⟩:=DataW.trod_struct Tryz.underlying53 h
 have hl:cs.length=5:=by rw[h1,zQh]
 obtain⟨c0,c1,c2,c3,c4,rfl⟩:∃c0 c1 c2 c3 c4,cs=[c0,c1,c2,c3,c4]:=by
  match cs,hl with
  |[c0,c1,c2,c3,c4],_=> exact⟨c0,c1,c2,c3,c4,rfl⟩
 have f0:=h3 0 _ rfl
 have f1:=h3 1 _ rfl
 have f2:=h3 2 _ rfl
 have hx:xs.length=3:=h2
 have e0:xs[0]?=some xs[0]:=List.getElem?_eq_getElem (by omega)
 have e1:xs[1]?=some xs[1]:=List.getElem?_eq_getElem (by omega)
 have e2:xs[2]?=some xs[2]:=List.getElem?_eq_getElem (by omega)
 change DataW.trod enc Tryz.prog w 0 (fun _=> true) true n 3 (([c0,c1,c2,c3,c4].drop 0).take (Tryz.prog.cellsOf 3))=xs[0]? at f0
 change DataW.trod enc Tryz.prog w 0 (fun _=> true) true n 3 (([c0,c1,c2,c3,c4].drop 1).take (Tryz.prog.cellsOf 3))=xs[1]? at f1
 change DataW.trod enc Tryz.prog w 0 (fun _=> true) true n 51 (([c0,c1,c2,c3,c4].drop 2).take (Tryz.prog.cellsOf 51))=xs[2]? at f2
 rw[qD9,e0] at f0
 rw[qD9,e1] at f1
 rw[zXp,e2] at f2
 obtain⟨a,ha,_,_⟩:=DataW.trod_int Tryz.underlying3 f0
 obtain⟨b,hb,_,_⟩:=DataW.trod_int Tryz.underlying3 f1
 obtain⟨x,hx,hxo⟩:=qAc f2
 have ha':[c0]=[.int .i64 a]:=ha
 have hb':[c1]=[.int .i64 b]:=hb
 have hx':[c2,c3,c4]=[.int .u8 x.k,.int .i64 x.t,.int .u64 x.v]:=hx
 cases ha';cases hb';cases hx'
 exact⟨⟨a,b,x⟩,rfl,hxo⟩
theorem qPt (l:List Dd):(dds l).all (·.oneCell')=true:=by
 induction l with
 |nil=> rfl
 |cons e l ih=> rw[zI4];simpa [Value.oneCell'] using ih
theorem zVz {r:Reach} {b0:Nat} {v:Value} {d:DataW H} {ps:List MemPlace} (hok:Value.okWide Tryz.prog w r b0 22 v) (hd:DataW.Trod enc Tryz.prog w 0 (fun _=> true) true 22 v d ps):
  ∃l:List Dd,(∀e∈l,e.Ok)/\l.length<=maxLen/\zVj w v l.length (dds l):=
 qCs (ea:=Dd.cells) Tryz.underlying22 (by rw[zQh];omega) (fun x=> zQh.symm) (fun _ _ _ h=> qJi h) hok hd
end
end YtnemoimbeefngaaGreat
end Go.Proofs
namespace Go.Proofs
namespace YtnemoimbeefngaaGreat
open Go.Abs
theorem qN3:zP Tryz.prog cfg 108 [] (AH.of []) fun r H'=> r=.ret (.pointer (some ⟨0,0,none⟩))/\H'=AH.of [some (.hi (.rlk none 0))]:=by
 refine zP.ends ?_
 refine zX (tbl:=[]) (by simp) 0 0 (af:=a108) rfl ?_
 rw[a108,b108,qB]
 refine⟨by simp,?_⟩
 simp -implicitDefEqProofs
 refine zA [.pack (GD.rlk none 0) 0 []] [0] ?_ ?_ ?_<;> simp[zAe,AObj.mine]
def zSf:qW GD:=fun args H=> match args with
 |[]=> some (True,.ret (.pointer (some ⟨H.next,0,none⟩)),H.add (.hi (.rlk none 0)))
 |_=> none
theorem qGx:qI Tryz.prog cfg 108 zSf:=by
 intro args H p r H' h hp
 unfold zSf at h
 split at h
 case h_2=> cases h
 cases h
 exact qN3.atK (xE rfl) [] (by simp) (by simp) trivial (by simp) (by simp) (by simp)
theorem qNx (o:Option Int) (c:Int):zP Tryz.prog cfg 117 [.pointer (some ⟨0,0,none⟩)] (AH.of [some (.hi (.rlk o c))])
  fun r H'=> r=.ret (zDw o c)/\H'=AH.of [some (.hi (.rlk o c))]:=by
 refine zP.ends ?_
 refine zX (tbl:=[]) (by simp) 0 1 (af:=a117) rfl ?_
 rw[a117,b117,qB]
 refine⟨by simp,?_⟩
 cases o<;> simp -implicitDefEqProofs [zAe]
 ·refine zA [.pack (GD.rlk none c) 0 []] [0] ?_ ?_ ?_<;> simp[zAe,AObj.mine,zDw]
 ·rename_i x
  refine zA [.pack (GD.rlk (some x) c) 0 []] [0] ?_ ?_ ?_<;> simp[zAe,AObj.mine,zDw]
def zL0:zAl
 |.rlk o c,[]=> some (True,zDw o c,.rlk o c)
 |_,_=> none
theorem zTj:qI Tryz.prog cfg 117 (qC zL0):=xJ fun d rest p v d' h hp=> by
 unfold zL0 at h
 split at h
 ·cases h;exact⟨rfl,by unfold zDw;split<;> rfl,qNx _ _⟩
 ·cases h
theorem qM9 (o:Option Int) (c w a:Int):zP Tryz.prog cfg 177 [.pointer (some ⟨0,0,none⟩),.int .i64 w,.int .u64 a] (AH.of [some (.hi (.rlk o c))])
  fun r H'=> r=.ret (.int .i64 (zBu o c w a))/\H'=AH.of [some (.hi (if zBu o c w a=0 then .rlk (some w) (IntKind.u64.wrap (c+1)) else .rlk o c))]:=by
 refine zP.ends ?_
 refine zX (tbl:=[]) (by simp) 0 1 (af:=a177) rfl ?_
 rw[a177,b177,qB]
 refine⟨by simp,?_⟩
 by_cases h1:w<0
 ·simp -implicitDefEqProofs [h1]
  refine zA [] [0] ?_ ?_ ?_<;> simp[zBu,h1]
 by_cases h2:4<=w
 ·simp -implicitDefEqProofs [h1,h2]
  refine zA [] [0] ?_ ?_ ?_<;> simp[zBu,h1,h2]
 cases o with
 |some x=>
  simp -implicitDefEqProofs [h1,h2,zAe]
  refine zA [.pack (GD.rlk (some x) c) 0 []] [0] ?_ ?_ ?_<;> simp[zAe,AObj.mine,zBu,h1,h2]
 |none=>
  by_cases h3:c=a
  ·subst h3
   by_cases h4:1099511627775<=c
   ·simp -implicitDefEqProofs [h1,h2,h4,zAe]
    refine zA [.pack (GD.rlk none c) 0 []] [0] ?_ ?_ ?_<;> simp[zAe,AObj.mine,zBu,h1,h2,h4]
   ·simp -implicitDefEqProofs [h1,h2,h4,zAe]
    refine zA [.pack (GD.rlk (some w) (IntKind.u64.wrap (c+1))) 0 []] [0] ?_ ?_ ?_<;> simp[zAe,AObj.mine,zBu,h1,h2,h4]
  ·simp -implicitDefEqProofs [h1,h2,h3,zAe]
   refine zA [.pack (GD.rlk none c) 0 []] [0] ?_ ?_ ?_<;> simp[zAe,AObj.mine,zBu,h1,h2,h3]
def zQd:zAl
 |.rlk o c,[.int .i64 w,.int .u64 a]=> some (True,.int .i64 (zBu o c w a),if zBu o c w a=0 then .rlk (some w) (IntKind.u64.wrap (c+1)) else .rlk o c)
 |_,_=> none
theorem qGc:qI Tryz.prog cfg 177 (qC zQd):=xJ fun d rest p v d' h hp=> by
 unfold zQd at h
 split at h
 ·cases h;exact⟨rfl,rfl,qM9 _ _ _ _⟩
 ·cases h
theorem qM8 (o:Option Int) (c w:Int):zP Tryz.prog cfg 178 [.pointer (some ⟨0,0,none⟩),.int .i64 w] (AH.of [some (.hi (.rlk o c))])
  fun r H'=> r=.ret (.int .i64 (if o=some w then 0 else 8))/\H'=AH.of [some (.hi (if o=some w then .rlk none (IntKind.u64.wrap (c+1)) else .rlk o c))]:=by
 refine zP.ends ?_
 refine zX (tbl:=[]) (by simp) 0 2 (af:=a178) rfl ?_
 rw[a178,b178,qB]
 refine⟨by simp,?_⟩
 cases o with
 |none=>
  simp -implicitDefEqProofs [forms203,a203,b203,zAe]
  refine zA [.pack (GD.rlk none c) 0 []] [0] ?_ ?_ ?_<;> simp[zAe,AObj.mine]
 |some x=>
  by_cases h:x=w
  ·subst h
   simp -implicitDefEqProofs [forms203,a203,b203,zAe]
   refine zA [.pack (GD.rlk none (IntKind.u64.wrap (c+1))) 0 []] [0] ?_ ?_ ?_<;> simp[zAe,AObj.mine]
  ·simp -implicitDefEqProofs [forms203,a203,b203,zAe,h]
   refine zA [.pack (GD.rlk (some x) c) 0 []] [0] ?_ ?_ ?_<;> simp[zAe,AObj.mine,h]
def d178:zAl
 |.rlk o c,[.int .i64 w]=> some (True,.int .i64 (if o=some w then 0 else 8),if o=some w then .rlk none (IntKind.u64.wrap (c+1)) else .rlk o c)
 |_,_=> none
theorem qGb:qI Tryz.prog cfg 178 (qC d178):=xJ fun d rest p v d' h hp=> by
 unfold d178 at h
 split at h
 ·cases h;exact⟨rfl,rfl,qM8 _ _ _⟩
 ·cases h
theorem qNb (o:Option Int) (c w:Int):zP Tryz.prog cfg 172 [.pointer (some ⟨0,0,none⟩),.int .i64 w] (AH.of [some (.hi (.rlk o c))])
  fun r H'=> r=.ret (.int .i64 (if o=some w then 0 else 8))/\H'=AH.of [some (.hi (if o=some w then .rlk none (IntKind.u64.wrap (c - 1)) else .rlk o c))]:=by
 refine zP.ends ?_
 refine zX (tbl:=[]) (by simp) 0 2 (af:=a172) rfl ?_
 rw[a172,b172,qB]
 refine⟨by simp,?_⟩
 cases o with
 |none=>
  simp -implicitDefEqProofs [forms203,a203,b203,zAe]
  refine zA [.pack (GD.rlk none c) 0 []] [0] ?_ ?_ ?_<;> simp[zAe,AObj.mine]
 |some x=>
  by_cases h:x=w
  ·subst h
   simp -implicitDefEqProofs [forms203,a203,b203,zAe]
   refine zA [.pack (GD.rlk none (IntKind.u64.wrap (c - 1))) 0 []] [0] ?_ ?_ ?_<;> simp[zAe,AObj.mine]
  ·simp -implicitDefEqProofs [forms203,a203,b203,zAe,h]
   refine zA [.pack (GD.rlk (some x) c) 0 []] [0] ?_ ?_ ?_<;> simp[zAe,AObj.mine,h]
def zGx:zAl
 |.rlk o c,[.int .i64 w]=> some (True,.int .i64 (if o=some w then 0 else 8),if o=some w then .rlk none (IntKind.u64.wrap (c - 1)) else .rlk o c)
 |_,_=> none
theorem zTe:qI Tryz.prog cfg 172 (qC zGx):=xJ fun d rest p v d' h hp=> by
 unfold zGx at h
 split at h
 ·cases h;exact⟨rfl,rfl,qNb _ _ _⟩
 ·cases h
theorem qN0 (o:Option Int) (c:Int):zP Tryz.prog cfg 112 [.pointer (some ⟨0,0,none⟩)] (AH.of [some (.hi (.rlk o c))])
  fun r H'=> r=.ret (zEg o)/\H'=AH.of [some (.hi (.rlk o c))]:=by
 refine zP.ends ?_
 refine zX (tbl:=[]) (by simp) 0 1 (af:=a112) rfl ?_
 rw[a112,b112,qB]
 refine⟨by simp,?_⟩
 cases o<;> simp -implicitDefEqProofs [zAe]
 ·refine zA [.pack (GD.rlk none c) 0 []] [0] ?_ ?_ ?_<;> simp[zAe,AObj.mine,zEg]
 ·rename_i x
  refine zA [.pack (GD.rlk (some x) c) 0 []] [0] ?_ ?_ ?_<;> simp[zAe,AObj.mine,zEg]
def zKv:zAl
 |.rlk o c,[]=> some (True,zEg o,.rlk o c)
 |_,_=> none
theorem zTk:qI Tryz.prog cfg 112 (qC zKv):=xJ fun d rest p v d' h hp=> by
 unfold zKv at h
 split at h
 ·cases h;exact⟨rfl,by unfold zEg;split<;> rfl,qN0 _ _⟩
 ·cases h
theorem qNc (o:Option Int) (c a:Int):zP Tryz.prog cfg 171 [.pointer (some ⟨0,0,none⟩),.int .u64 a] (AH.of [some (.hi (.rlk o c))])
  fun r H'=> r=.ret (.bool (decide (c=a)))/\H'=AH.of [some (.hi (.rlk o c))]:=by
 refine zP.ends ?_
 refine zX (tbl:=[]) (by simp) 0 1 (af:=a171) rfl ?_
 rw[a171,b171,qB]
 refine⟨by simp,?_⟩
 by_cases h:c=a
 ·simp -implicitDefEqProofs [zAe,h]
  refine zA [.pack (GD.rlk o c) 0 []] [0] ?_ ?_ ?_<;> simp[zAe,AObj.mine,h]
 ·simp -implicitDefEqProofs [zAe,h]
  refine zA [.pack (GD.rlk o c) 0 []] [0] ?_ ?_ ?_<;> simp[zAe,AObj.mine,h]
def zKt:zAl
 |.rlk o c,[.int .u64 a]=> some (True,.bool (decide (c=a)),.rlk o c)
 |_,_=> none
theorem qGe:qI Tryz.prog cfg 171 (qC zKt):=xJ fun d rest p v d' h hp=> by
 unfold zKt at h
 split at h
 ·cases h;exact⟨rfl,rfl,qNc _ _ _⟩
 ·cases h
theorem qNy (o:Option Int) (c:Int):zP Tryz.prog cfg 114 [.pointer (some ⟨0,0,none⟩)] (AH.of [some (.hi (.rlk o c))])
  fun r H'=> r=.ret (.int .u64 c)/\H'=AH.of [some (.hi (.rlk o c))]:=by
 refine zP.ends ?_
 refine zX (tbl:=[]) (by simp) 0 1 (af:=a114) rfl ?_
 rw[a114,b114,qB]
 refine⟨by simp,?_⟩
 simp -implicitDefEqProofs [zAe]
 refine zA [.pack (GD.rlk o c) 0 []] [0] ?_ ?_ ?_<;> simp[zAe,AObj.mine]
def d114:zAl
 |.rlk o c,[]=> some (True,.int .u64 c,.rlk o c)
 |_,_=> none
theorem qGv:qI Tryz.prog cfg 114 (qC d114):=xJ fun d rest p v d' h hp=> by
 unfold d114 at h
 split at h
 ·cases h;exact⟨rfl,rfl,qNy _ _⟩
 ·cases h
end YtnemoimbeefngaaGreat
end Go.Proofs
namespace Go.Proofs
namespace YtnemoimbeefngaaGreat
open Go.Abs
def rf (fs:List (List Pr)):List Value:=fs.reverse.flatMap xQ
theorem zAg (fs:List (List Pr)):frag (.rlog fs)=[.arr 173 [.slice (some ⟨1,0,none⟩) fs.length 1],.arr 214 (rf fs)]:=rfl
theorem zFr (f:List Pr) (r:List (List Pr)):rf (f::r)=rf r++xQ f:=by simp[rf]
theorem zAi (f:List Pr):(xQ f).length=24:=by simp[xQ,zEm]
theorem zE2 (fs:List (List Pr)):(rf fs).length=fs.length*24:=by
 induction fs with
 |nil=> rfl
 |cons f r ih=> rw[zFr,List.length_append,ih,zAi,List.length_cons];omega
theorem zK7 (f:List Pr):xI (xQ f)=true:=by
 have h:∀l m:List Value,xI l=true->xI m=true->xI (l++m)=true:=by
  intro l m h1 h2
  induction l with
  |nil=> exact h2
  |cons x l ih=>
   simp only[xI,Bool.and_eq_true,List.cons_append] at h1⊢
   exact⟨h1.1,ih h1.2⟩
 refine h _ _ ?_ ?_<;> simp[zEm,xI,xY]
theorem qB6 (fs:List (List Pr)):xI (rf fs)=true:=by
 have h:∀l m:List Value,xI l=true->xI m=true->xI (l++m)=true:=by
  intro l m h1 h2
  induction l with
  |nil=> exact h2
  |cons x l ih=>
   simp only[xI,Bool.and_eq_true,List.cons_append] at h1⊢
   exact⟨h1.1,ih h1.2⟩
 induction fs with
 |nil=> rfl
 |cons f r ih=> rw[zFr];exact h _ _ ih (zK7 f)
theorem qRt (θ:Nat->Nat) (fs:List (List Pr)):zAu θ (rf fs)=rf fs:=zAy θ _ (qB6 fs)
theorem zPm (fs:List (List Pr)):(rf fs).take (fs.length*24)=rf fs:=List.take_of_length_le (by rw[zE2];omega)
theorem qRq:rf [[]]=[.bool false,.bool false,.bool false,.bool false,.bool false,.bool false,.bool false,.bool false,.bool false,.bool false,.bool false,.bool false,.int .u64 0,.int .u64 0,.int .u64 0,.int .u64 0,.int .u64 0,.int .u64 0,.int .u64 0,.int .u64 0,.int .u64 0,.int .u64 0,.int .u64 0,.int .u64 0]:=rfl
theorem qN7 (fs:List (List Pr)):rf ([]::fs)=rf fs++[.bool false,.bool false,.bool false,.bool false,.bool false,.bool false,.bool false,.bool false,.bool false,.bool false,.bool false,.bool false,.int .u64 0,.int .u64 0,.int .u64 0,.int .u64 0,.int .u64 0,.int .u64 0,.int .u64 0,.int .u64 0,.int .u64 0,.int .u64 0,.int .u64 0,.int .u64 0]:=zFr [] fs
attribute [simp] qRt
theorem qNv:zP Tryz.prog cfg 119 [] (AH.of []) fun r H'=> r=.ret (.pointer (some ⟨0,0,none⟩))/\H'=AH.of [some (.hi (.rlog [[]]))]:=by
 refine zP.ends ?_
 refine zX (tbl:=[]) (by simp) 0 0 (af:=a119) rfl ?_
 rw[a119,b119,qB]
 refine⟨by simp,?_⟩
 simp -implicitDefEqProofs
 refine zA [.pack (GD.rlog [[]]) 1 [0]] [1] ?_ ?_ ?_<;> simp[zAg,qRq,AObj.mine]
def zSc:qW GD:=fun args H=> match args with
 |[]=> some (True,.ret (.pointer (some ⟨H.next,0,none⟩)),H.add (.hi (.rlog [[]])))
 |_=> none
theorem qGt:qI Tryz.prog cfg 119 zSc:=by
 intro args H p r H' h hp
 unfold zSc at h
 split at h
 case h_2=> cases h
 cases h
 exact qNv.atK (xE rfl) [] (by simp) (by simp) trivial (by simp) (by simp) (by simp)
theorem qNe (fs:List (List Pr)) (hl:fs.length<=1000):zP Tryz.prog cfg 169 [.pointer (some ⟨0,0,none⟩)] (AH.of [some (.hi (.rlog fs))])
  fun r H'=> r=.ret (.int .i64 ((fs.length:Int) - 1))/\H'=AH.of [some (.hi (.rlog fs))]:=by
 refine zP.ends ?_
 have hw:IntKind.i64.wrap ((fs.length:Int) - 1)=(fs.length:Int) - 1:=qX (by omega) (by omega)
 refine zX (tbl:=[]) (by simp) 0 0 (af:=a169) rfl ?_
 rw[a169,b169,qB]
 refine⟨by simp,?_⟩
 simp -implicitDefEqProofs [zAg,hw]
 refine zA [.pack (GD.rlog fs) 0 [1]] [0] ?_ ?_ ?_<;> simp[zAg,AObj.mine]
def d169:zAl
 |.rlog fs,[]=> some (fs.length<=1000,.int .i64 ((fs.length:Int) - 1),.rlog fs)
 |_,_=> none
theorem qGf:qI Tryz.prog cfg 169 (qC d169):=xJ fun d rest p v d' h hp=> by
 unfold d169 at h
 split at h
 ·cases h;exact⟨rfl,rfl,qNe _ hp⟩
 ·cases h
theorem qM7 (f:List Pr) (r:List (List Pr)) (hl:r.length<=100):zP Tryz.prog cfg 179 [.pointer (some ⟨0,0,none⟩)] (AH.of [some (.hi (.rlog (f::r)))])
  fun x H'=> x=.ret (.int .i64 (if 4<=r.length then 4 else 0))/\H'=AH.of [some (.hi (if 4<=r.length then .rlog (f::r) else .rlog ([]::f::r)))]:=by
 refine zP.ends ?_
 obtain⟨fs,hfs⟩:∃fs,f::r=fs:=⟨_,rfl⟩
 have hlen:fs.length=r.length+1:=by rw[←hfs];rfl
 rw[hfs]
 have hw:IntKind.i64.wrap ((fs.length:Int) - 1)=(r.length:Int):=by rw[qX (by omega) (by omega)];omega
 refine zX (tbl:=[]) (by simp) 0 1 (af:=a179) rfl ?_
 rw[a179,b179,qB]
 refine⟨by simp,?_⟩
 by_cases h4:4<=r.length
 ·have h4':(4:Int)<=r.length:=by omega
  rw[if_pos h4,if_pos h4]
  simp -implicitDefEqProofs [zAg,forms169,a169,b169,hw,h4']
  refine zA [.pack (GD.rlog fs) 0 [1]] [0] ?_ ?_ ?_<;> simp[zAg,AObj.mine]
 ·have h4':¬(4:Int)<=r.length:=by omega
  rw[if_neg h4,if_neg h4]
  obtain⟨n,hn⟩:∃n,fs.length=n:=⟨_,rfl⟩
  have tk:=zPm fs
  have rl:=zE2 fs
  rw[hn] at tk hw rl
  have z1:n*112<=140737488355328/\n<=9223372036854775807:=by omega
  have z2:(n+1)*112<=140737488355328/\n<=9223372036854775806:=by omega
  have hpu:=qN7 fs
  simp -implicitDefEqProofs [zAg,hn,forms169,a169,b169,hw,h4',tk,rl,z1,z2]
  refine zA [.pack (GD.rlog ([]::fs)) 0 [5]] [0] ?_ ?_ ?_<;> simp[zAg,hn,AObj.mine,hpu]
def d179:zAl
 |.rlog (f::r),[]=> some (r.length<=100,.int .i64 (if 4<=r.length then 4 else 0),if 4<=r.length then .rlog (f::r) else .rlog ([]::f::r))
 |_,_=> none
theorem qGa:qI Tryz.prog cfg 179 (qC d179):=xJ fun d rest p v d' h hp=> by
 unfold d179 at h
 split at h
 ·cases h;exact⟨rfl,rfl,qM7 _ _ hp⟩
 ·cases h
theorem qM6 (f:List Pr) (r:List (List Pr)) (hl:r.length<=100):zP Tryz.prog cfg 180 [.pointer (some ⟨0,0,none⟩)] (AH.of [some (.hi (.rlog (f::r)))])
  fun x H'=> x=.ret (.int .i64 (if r=[] then 8 else 0))/\H'=AH.of [some (.hi (if r=[] then .rlog (f::r) else .rlog r))]:=by
 refine zP.ends ?_
 have hw:IntKind.i64.wrap (((r.length:Int)+1) - 1)=(r.length:Int):=by rw[qX (by omega) (by omega)];omega
 refine zX (tbl:=[]) (by simp) 0 1 (af:=a180) rfl ?_
 rw[a180,b180,qB]
 refine⟨by simp,?_⟩
 by_cases h0:r=[]
 ·rw[if_pos h0,if_pos h0]
  subst h0
  have hw0:IntKind.i64.wrap 0=0:=by decide
  simp -implicitDefEqProofs [zAg,forms169,a169,b169,hw0]
  refine zA [.pack (GD.rlog [f]) 0 [1]] [0] ?_ ?_ ?_<;> simp[zAg,AObj.mine]
 ·rw[if_neg h0,if_neg h0]
  have h1:¬(r.length:Int)=0:=by
   have:r.length≠0:=fun h=> h0 (List.eq_nil_of_length_eq_zero h)
   omega
  obtain⟨n,hn⟩:∃n,r.length=n:=⟨_,rfl⟩
  have tk:(rf (f::r)).take (n*24)=rf r:=by rw[zFr,←hn,List.take_append_of_le_length (by rw[zE2];omega)];exact zPm r
  have rl:=zE2 (f::r)
  rw[hn] at hw h1
  have hn1:(f::r).length=n+1:=by simp[hn]
  rw[hn1] at rl
  have z1:n*112<=140737488355328/\n<=9223372036854775807:=by omega
  have hw2:IntKind.i64.wrap (n:Int)=n:=qX (by omega) (by omega)
  have z2:n*24<=(n+1)*24:=by omega
  have z3:(n:Int)<=(n:Int)+1:=by omega
  have z4:¬n=0:=by omega
  simp -implicitDefEqProofs [zAg,hn,forms169,a169,b169,hw,hw2,h1,tk,rl,z1,z2,z3,z4,bound]
  refine zA [.pack (GD.rlog r) 0 [3]] [0] ?_ ?_ ?_<;> simp[zAg,hn,AObj.mine]
def zKs:zAl
 |.rlog (f::r),[]=> some (r.length<=100,.int .i64 (if r=[] then 8 else 0),if r=[] then .rlog (f::r) else .rlog r)
 |_,_=> none
theorem zTd:qI Tryz.prog cfg 180 (qC zKs):=xJ fun d rest p v d' h hp=> by
 unfold zKs at h
 split at h
 ·cases h;exact⟨rfl,rfl,qM6 _ _ hp⟩
 ·cases h
end YtnemoimbeefngaaGreat
end Go.Proofs
namespace Go.Proofs
namespace YtnemoimbeefngaaGreat
open Go.Abs
theorem zEt (g:List Pr) {t:Nat} (h:t<12):(xQ g)[t]?=some (.bool (jP g t).isSome):=by
 unfold xQ
 rw[List.getElem?_append_left (by simp[zEm];omega),List.getElem?_map]
 have:zEm[t]?=some (t:Int):=by
  match t,h with
  |0,_|1,_|2,_|3,_|4,_|5,_|6,_|7,_|8,_|9,_|10,_|11,_=> rfl
 rw[this];rfl
theorem zGt (g:List Pr) {t:Nat} (h:t<12):(xQ g)[12+t]?=some (.int .u64 ((jP g t).getD 0)):=by
 unfold xQ
 rw[List.getElem?_append_right (by simp[zEm]),List.getElem?_map]
 have:zEm[12+t - (zEm.map fun t=> Value.bool (jP g t).isSome).length]?=some (t:Int):=by
  match t,h with
  |0,_|1,_|2,_|3,_|4,_|5,_|6,_|7,_|8,_|9,_|10,_|11,_=> rfl
 rw[this];rfl
theorem zXj {α:Type} {f:α->List Value} {k:Nat} (hk:∀x,(f x).length=k):∀{l:List α} {i:Nat} {g:α},l[i]?=some g->((l.flatMap f).drop (i*k)).take k=f g
 |[],i,g,h=> by simp at h
 |x::l,0,g,h=> by
  simp at h;subst h
  rw[Nat.zero_mul,List.drop_zero,List.flatMap_cons,List.take_append_of_le_length (by rw[hk];omega),List.take_of_length_le (by rw[hk];omega)]
 |x::l,i+1,g,h=> by
  rw[List.flatMap_cons,Nat.succ_mul,Nat.add_comm,←List.drop_drop,List.drop_left' (hk x)]
  exact zXj hk (by simpa using h)
theorem rf_at {fs:List (List Pr)} {i:Nat} {g:List Pr} (h:fs.reverse[i]?=some g):((rf fs).drop (i*24)).take 24=xQ g:=zXj zAi h
theorem zTy {fs:List (List Pr)} {i:Nat} {g:List Pr} (h:fs.reverse[i]?=some g) {j:Nat} (hj:j<24):(rf fs)[i*24+j]?=(xQ g)[j]?:=by
 rw[←rf_at h,List.getElem?_take,if_pos hj,List.getElem?_drop]
def zEv (g:List Pr) (n:Nat):Nat:=(List.range n).countP fun t=> (jP g (t:Nat)).isSome
def zFb (fr:List (List Pr)):Nat:=(fr.map fun g=> zEv g 12).sum
theorem zJk (g:List Pr) (n:Nat):zEv g (n+1)=zEv g n+if (jP g (n:Nat)).isSome=true then 1 else 0:=by
 unfold zEv
 rw[List.range_succ,List.countP_append]
 simp[List.countP_cons]
theorem zXo (g:List Pr) (n:Nat):zEv g n<=n:=by
 have:=List.countP_le_length (p:=fun t:Nat=> (jP g (t:Nat)).isSome) (l:=List.range n)
 simpa [zEv] using this
theorem zZ0 {fr:List (List Pr)} {i:Nat} {g:List Pr} (h:fr[i]?=some g):zFb (fr.take (i+1))=zFb (fr.take i)+zEv g 12:=by
 unfold zFb
 rw[List.take_add_one,h,List.map_append,List.sum_append]
 simp
theorem qJk (fr:List (List Pr)):zFb fr<=12*fr.length:=by
 unfold zFb
 induction fr with
 |nil=> simp
 |cons g fr ih=>
  have:=zXo g 12
  simp only[List.map_cons,List.sum_cons,List.length_cons]
  omega
def zI5 (fs:List (List Pr)):Nat:=zFb fs.reverse
def lenI (fs:List (List Pr)) (m:Nat) (tm:Nat->Value) (H:AH GD):Prop:=∃i:Nat,m+i=fs.length/\tm 0=.pointer (some ⟨0,0,none⟩)/\tm 3=.int .i64 (zFb (fs.reverse.take i))/\tm 4=.int .i64 i/\H=AH.of [some (.arr 173 [.slice (some ⟨1,0,none⟩) fs.length 1]),some (.arr 214 (rf fs))]
def lenJ (fs:List (List Pr)) (g:List Pr) (i m:Nat) (tm:Nat->Value) (H:AH GD):Prop:=∃j:Nat,m+j=12/\tm 0=.pointer (some ⟨0,0,none⟩)/\tm 3=.int .i64 ((zFb (fs.reverse.take i)+zEv g j:Nat):Int)/\tm 4=.int .i64 i/\tm 5=.int .i64 j/\H=AH.of [some (.arr 173 [.slice (some ⟨1,0,none⟩) fs.length 1]),some (.arr 214 (rf fs))]
theorem qMy (fs:List (List Pr)) (hl:fs.length<=100):zP Tryz.prog cfg 206 [.pointer (some ⟨0,0,none⟩)] (AH.of [some (.hi (.rlog fs))])
  fun r H'=> r=.ret (.int .i64 (zI5 fs))/\H'=AH.of [some (.hi (.rlog fs))]:=by
 refine zP.ends ?_
 refine zP.opn 0 (H1:=AH.of [some (.arr 173 [.slice (some ⟨1,0,none⟩) fs.length 1]),some (.arr 214 (rf fs))]) (by simp[zFt,zAg]) ?_
 have hrl:=zE2 fs
 refine zX (tbl:=[]) (by simp) 101 0 (af:=a206) rfl ?_
 rw[a206,b206,qB]
 refine⟨by simp,?_⟩
 simp -implicitDefEqProofs
 refine zAp (xC zAh (xD (by simp)) _ _ noY jT) (lenI fs) (m:=fs.length) ⟨0,by omega,by simp[zFb]⟩ (by omega) ?_
 rintro m tm H ⟨i,hm,t0,t3,t4,rfl⟩
 by_cases hi:i<fs.length
 ·obtain⟨g,hg⟩:=zCk (l:=fs.reverse) (i:=i) (by simpa using hi)
  have hi':(i:Int)<fs.length:=by omega
  have hwr:=zA8 hi (by omega)
  have hsuc:=zZ0 hg
  have hb:=qJk (fs.reverse.take i)
  rw[List.length_take,List.length_reverse] at hb
  simp -implicitDefEqProofs [t0,t3,t4,hi']
  refine zAp (xC zAh (xD (by simp)) _ _ noY jT) (lenJ fs g i) (m:=12) ⟨0,by omega,by simp[t0,t3,t4,zEv]⟩ (by omega) ?_
  rintro m2 tm H ⟨j,hm2,t0,t3,t4,t5,rfl⟩
  by_cases hj:j<12
  ·have hj':(j:Int)<12:=by omega
   have hwj:=zA8 hj (by omega)
   have hc:=zTy hg (j:=j) (by omega)
   rw[zEt g hj] at hc
   have hcs:=zJk g j
   have hcl:=zXo g j
   have hw3:=zA8 (i:=zFb (fs.reverse.take i)+zEv g j) (n:=10000) (by omega) (by omega)
   obtain⟨C,hC⟩:∃C,zFb (fs.reverse.take i)+zEv g j=C:=⟨_,rfl⟩
   rw[hC] at t3 hw3
   cases hh:(jP g (j:Nat)).isSome with
   |true=>
    rw[hh] at hc hcs
    have hcs':zFb (fs.reverse.take i)+zEv g (j+1)=C+1:=by rw[hcs,←hC];simp;omega
    simp -implicitDefEqProofs [t0,t3,t4,t5,hi,hi',hj',hwj,hc,hw3]
    exact⟨m2 - 1,by omega,j+1,by omega,by simp[t0,t4,hcs']⟩
   |false=>
    rw[hh] at hc hcs
    have hcs':zFb (fs.reverse.take i)+zEv g (j+1)=C:=by rw[hcs,←hC];simp
    simp -implicitDefEqProofs [t0,t3,t4,t5,hi,hi',hj',hwj,hc]
    exact⟨m2 - 1,by omega,j+1,by omega,by simp[t0,t3,t4,hcs']⟩
  ·have hje:j=12:=by omega
   have hj':¬(j:Int)<12:=by omega
   rw[hje,←hsuc] at t3
   simp -implicitDefEqProofs [t0,t3,t4,t5,hj',hwr]
   exact⟨m - 1,by omega,i+1,by omega,by simp[t0,t3]⟩
 ·have hie:i=fs.length:=by omega
  have hi':¬(i:Int)<fs.length:=by omega
  have ht:fs.reverse.take i=fs.reverse:=List.take_of_length_le (by simp;omega)
  rw[ht] at t3
  change tm 3=.int .i64 (zI5 fs) at t3
  simp -implicitDefEqProofs [t0,t3,t4,hi']
  refine zA [.pack (GD.rlog fs) 0 [1]] [0] ?_ ?_ ?_<;> simp[zAg,AObj.mine]
def zQb:zAl
 |.rlog fs,[]=> some (fs.length<=100,.int .i64 (zI5 fs),.rlog fs)
 |_,_=> none
theorem qF3:qI Tryz.prog cfg 206 (qC zQb):=xJ fun d rest p v d' h hp=> by
 unfold zQb at h
 split at h
 ·cases h;exact⟨rfl,rfl,qMy _ hp⟩
 ·cases h
end YtnemoimbeefngaaGreat
end Go.Proofs
namespace Go.Proofs
namespace YtnemoimbeefngaaGreat
open Go.Abs
theorem zD6 (p:Pr) (f:List Pr) (t:Int):jP (p::f) t=if p.t=t then some p.v else jP f t:=by
 by_cases h:p.t=t<;> simp[jP,h]
theorem zKn (f:List Pr) (p:Pr) (t:Int):jP (xP f p) t=if p.t=t then some p.v else jP f t:=by
 induction f with
 |nil=> rw[xP,zD6]
 |cons q f ih=>
  rw[xP]
  by_cases h:q.t=p.t
  ·rw[if_pos h,zD6]
   simp only[h]
   by_cases h2:p.t=t
   ·simp[h2]
   ·have:¬q.t=t:=by omega
    simp[h2,zD6,this]
  ·rw[if_neg h,zD6,ih]
   by_cases h2:q.t=t
   ·have:¬p.t=t:=by omega
    simp[h2,this,zD6]
   ·simp[h2,zD6]
theorem zLx {f g:List Pr} {cs:List Value} (hl:cs.length=24) (h1:∀t:Nat,t<12->cs[t]?=some (.bool (jP f t).isSome)) (h2:∀t:Nat,t<12->cs[12+t]?=some (.int .u64 ((jP f t).getD 0))):cs=xQ f:=by
 refine List.ext_getElem? fun j=> ?_
 by_cases hj:j<12
 ·rw[h1 j hj,zEt f hj]
 ·by_cases hj2:j<24
  ·have e:j=12+(j - 12):=by omega
   rw[e,h2 _ (by omega),zGt f (by omega)]
  ·rw[List.getElem?_eq_none (by omega),List.getElem?_eq_none (by rw[zAi];omega)]
theorem zZp (f:List Pr) {t:Nat} (ht:t<12) (v:Int):((xQ f).set t (.bool true)).set (12+t) (.int .u64 v)=xQ (xP f ⟨t,v⟩):=by
 refine zLx (f:=xP f ⟨t,v⟩) (g:=f) (by simp[zAi]) (fun s hs=> ?_) (fun s hs=> ?_)
 ·rw[List.getElem?_set,if_neg (by omega),List.getElem?_set,zEt f hs,zKn]
  by_cases h:t=s
  ·subst h
   simp[zAi];omega
  ·have:¬(t:Int)=s:=by omega
   simp[h,this]
 ·rw[List.getElem?_set,List.length_set,zAi,List.getElem?_set,zGt f hs,zKn]
  by_cases h:t=s
  ·subst h
   simp;omega
  ·have:¬(t:Int)=s:=by omega
   have h2:¬12+t=12+s:=by omega
   have h3:¬t=12+s:=by omega
   simp[h2,h3,this,h]
theorem zGu (f:List Pr):(xQ f).all (·.oneCell')=true:=by simp[xQ,zEm,Value.oneCell']
theorem zJ7:∀(C A B:List Value),B.length=C.length->setMany (A++B) A.length C=A++C
 |[],A,B,h=> by
  have:B=[]:=List.eq_nil_of_length_eq_zero (by simpa using h)
  rw[this];rfl
 |c::C,A,B,h=> by
  cases B with
  |nil=> simp at h
  |cons b B=>
   rw[setMany]
   have e:(A++b::B).set A.length c=(A++[c])++B:=by
    rw[List.set_append_right _ _ (Nat.le_refl _)]
    simp
   have:=zJ7 C (A++[c]) B (by simpa using h)
   rw[List.length_append] at this
   rw[e,show A.length+1=A.length+[c].length from rfl,this]
   simp
theorem zE5 {A C:List Value} (h:A.length=C.length):setMany A 0 C=C:=by
 have:=zJ7 C [] A h
 simpa using this
theorem zM9 (f g:List Pr) (r:List (List Pr)) {k:Nat} (hk:k=r.length*24):setMany (rf (f::r)) k (xQ g)=rf (g::r):=by
 subst hk
 rw[zFr,zFr,←zE2 r]
 exact zJ7 _ _ _ (by rw[zAi,zAi])
theorem qB5 (f:List Pr) (r:List (List Pr)) {k:Nat} (hk:k=r.length*24):((rf (f::r)).drop k).take 24=xQ f:=by
 subst hk
 rw[zFr,←zE2 r,List.drop_left,List.take_of_length_le (by rw[zAi];omega)]
def zFk (f:List Pr):Prop:=(f.map (·.t)).Nodup/\∀p∈f,0<=p.t/\p.t<12
theorem zXi {f:List Pr} {t:Int} (h:∀p∈f,p.t≠t):jP f t=none:=by
 induction f with
 |nil=> rfl
 |cons p f ih=> rw[zD6,if_neg (h p (by simp)),ih fun q hq=> h q (List.mem_cons_of_mem _ hq)]
theorem qD3 {f:List Pr} (h:zFk f):zEv f 12=f.length:=by
 have hz:∀n,zEv [] n=0:=by
  intro n
  induction n with
  |zero=> rfl
  |succ n ih=> rw[zJk,ih];rfl
 induction f with
 |nil=> exact hz 12
 |cons p f ih=>
  obtain⟨h1,h2⟩:=h
  simp only[List.map_cons,List.nodup_cons] at h1
  have ih:=ih ⟨h1.2,fun q hq=> h2 q (List.mem_cons_of_mem _ hq)⟩
  obtain⟨t,ht⟩:∃t:Nat,p.t=t:=⟨p.t.toNat,by have:=h2 p (by simp);omega⟩
  have hlt:t<12:=by have:=h2 p (by simp);omega
  have hno:jP f t=none:=zXi fun q hq e=> h1.1 (by rw[ht,←e];exact List.mem_map.2 ⟨q,hq,rfl⟩)
  have key:∀n,zEv (p::f) n=zEv f n+if t<n then 1 else 0:=by
   intro n
   induction n with
   |zero=> simp[zEv]
   |succ n ihn=>
    rw[zJk,zJk,ihn,zD6,ht]
    by_cases h:t=n
    ·subst h
     rw[if_pos rfl,hno]
     simp
    ·have h':¬(t:Int)=n:=by omega
     rw[if_neg h']
     have e1:(t<n+1)↔(t<n):=by omega
     simp only[e1]
     omega
  rw[key 12,if_pos hlt,ih,List.length_cons]
theorem zZ1 {fs:List (List Pr)} (h:∀f∈fs,zFk f):(zI5 fs:Int)=zDf fs:=by
 unfold zI5 zFb zDf
 have e:(fs.reverse.map fun g=> zEv g 12).sum=(fs.map List.length).sum:=by
  rw[List.map_reverse,List.sum_reverse]
  congr 1
  exact List.map_congr_left fun f hf=> qD3 (h f hf)
 rw[e]
def zJd:List (FuncId × qW GD):=[(98,zE7),(206,qC zQb)]
theorem qE8:∀x∈zJd,qI Tryz.prog cfg x.1 x.2:=by simp[zJd,zJt,qF3]
theorem qM5 (f:List Pr) (r:List (List Pr)) (t v:Int) (hg:zA6 (f::r)) (hf:∀g∈f::r,zFk g) (hv:0<=v/\v<18446744073709551616):zP Tryz.prog cfg 182 [.pointer (some ⟨0,0,none⟩),.int .i64 t,.int .u64 v] (AH.of [some (.hi (.rlog (f::r)))])
  fun x H'=> x=.ret (.int .i64 (xO f r t v))/\H'=AH.of [some (.hi (if xO f r t v=0 then .rlog (xP f ⟨t,v⟩::r) else .rlog (f::r)))]:=by
 refine zP.ends ?_
 have hl5:r.length<=4:=by have:=hg.2.1;simp at this;omega
 have hcnt:=zZ1 hf
 refine zX (tbl:=zJd) qE8 0 2 (af:=a182) rfl ?_
 rw[a182,b182,qB]
 refine⟨by simp,?_⟩
 by_cases ht0:t<0
 ·have hc:xO f r t v=2:=by unfold xO;rw[if_pos (.inl ht0)]
  simp -implicitDefEqProofs [ht0,hc]
  refine zA [] [0] ?_ ?_ ?_<;> simp
 by_cases ht1:12<=t
 ·have hc:xO f r t v=2:=by unfold xO;rw[if_pos (.inr ht1)]
  simp -implicitDefEqProofs [ht0,ht1,hc]
  refine zA [] [0] ?_ ?_ ?_<;> simp
 cases hr:zAq v with
 |false=>
  have hc:xO f r t v=3:=by unfold xO;rw[if_neg (by omega),if_pos hr]
  simp -implicitDefEqProofs [zJd,zE7,ht0,ht1,hv,hr,hc]
  refine zA [] [0] ?_ ?_ ?_<;> simp
 |true=>
  obtain⟨n,hn⟩:∃n:Nat,t=n:=⟨t.toNat,by omega⟩
  subst hn
  have hn12:n<12:=by omega
  obtain⟨R,hR⟩:∃R,r.length=R:=⟨_,rfl⟩
  have hw:IntKind.i64.wrap (((R:Int)+1) - 1)=(R:Int):=by rw[qX (by omega) (by omega)];omega
  have hw2:IntKind.i64.wrap (R:Int)=R:=qX (by omega) (by omega)
  have hrl:=zE2 (f::r)
  simp only[List.length_cons,hR] at hrl
  have htop:=qB5 f r (k:=R*24) (by rw[hR])
  have hone:=zGu f
  have hfl:=zAi f
  have hhas:=zEt f hn12
  have hz:setMany [.bool false,.bool false,.bool false,.bool false,.bool false,.bool false,.bool false,.bool false,.bool false,.bool false,.bool false,.bool false,.int .u64 0,.int .u64 0,.int .u64 0,.int .u64 0,.int .u64 0,.int .u64 0,.int .u64 0,.int .u64 0,.int .u64 0,.int .u64 0,.int .u64 0,.int .u64 0] 0 (xQ f)=xQ f:=zE5 (by rw[zAi];rfl)
  have hle:R*24+24<=(R+1)*24:=by omega
  have hnn:(0:Int)<=R:=by omega
  have hlt:(R:Int)<(R:Int)+1:=by omega
  have hni:(n:Int)<12:=by omega
  have hn24:n+1<=24:=by omega
  have hn25:12+n+1<=24:=by omega
  have hn0:n<=23:=by omega
  have hn13:12+n<=23:=by omega
  have htk:(rf (f::r)).take ((R+1)*24)=rf (f::r):=List.take_of_length_le (by omega)
  have hal:((xQ f).set n (.bool true)).length=24:=by simp[zAi]
  have hput:=zZp f hn12 v
  have hfp:=zAi (xP f ⟨(n:Int),v⟩)
  have hop:=zGu (xP f ⟨(n:Int),v⟩)
  have hst:=zM9 f (xP f ⟨(n:Int),v⟩) r (k:=R*24) (by rw[hR])
  have hz1:(R+1)*112<=140737488355328/\R<=9223372036854775806:=by omega
  have hz2:(xQ (xP f ⟨(n:Int),v⟩)).take 24=xQ (xP f ⟨(n:Int),v⟩):=List.take_of_length_le (by rw[zAi];omega)
  have hz3:(xQ f).take 24=xQ f:=List.take_of_length_le (by rw[zAi];omega)
  cases hh:(jP f (n:Int)).isSome with
  |true=>
   have hc:xO f r n v=0:=by
    unfold xO
    rw[if_neg (by omega),if_neg (by simp[hr]),if_neg (by
     rintro⟨h,_⟩
     rw[Option.isNone_iff_eq_none] at h
     rw[h] at hh;cases hh)]
   rw[hh] at hhas
   rw[hc]
   simp -implicitDefEqProofs [zJd,zE7,ht0,ht1,hv,hr,zAg,hR,hw,hw2,hlt,hrl,htop,hone,hfl,hz,hle,hhas,hn12,hni,hn24,hn25,hnn,forms205,a205,b205,htk,hal,hput,hfp,hop,hst,hz1,hz2,hz3,hn0,hn13]
   refine zA [.pack (GD.rlog (xP f ⟨(n:Int),v⟩::r)) 0 [5]] [0] ?_ ?_ ?_<;> simp[zAg,hR,AObj.mine]
  |false=>
   rw[hh] at hhas
   have hno:(jP f (n:Int)).isNone=true:=by
    cases hx:jP f (n:Int) with
    |none=> rfl
    |some y=> rw[hx] at hh;cases hh
   simp -implicitDefEqProofs [zJd,zE7,ht0,ht1,hv,hr,zAg,hR,hw,hw2,hlt,hrl,htop,hone,hfl,hz,hle,hhas,hn12,hni,hn24,hn25,hnn,forms205,a205,b205,htk,hal,hput,hfp,hop,hst,hz1,hz2,hz3,hn0,hn13,qC,zQb]
   refine zEp [.pack (GD.rlog (f::r)) 0 [1]] ?_ ?_
   ·simp[zAg,hR,AObj.mine]
   by_cases h16:16<=zDf (f::r)
   ·have hc:xO f r n v=4:=by
     unfold xO
     rw[if_neg (by omega),if_neg (by simp[hr]),if_pos ⟨hno,h16⟩]
    have h16':(16:Int)<=(zI5 (f::r):Nat):=by rw[hcnt];exact h16
    rw[hc]
    have hl6:R+1<=100:=by omega
    simp -implicitDefEqProofs [zJd,zE7,ht0,ht1,hv,hr,zAg,hR,hw,hw2,hlt,hrl,htop,hone,hfl,hz,hle,hhas,hn12,hni,hn24,hn25,hnn,forms205,a205,b205,htk,hal,hput,hfp,hop,hst,hz1,hz2,hz3,hn0,hn13,qC,zQb,h16',hl6]
    refine zA [] [0] ?_ ?_ ?_<;> simp
   ·have hc:xO f r n v=0:=by
     unfold xO
     rw[if_neg (by omega),if_neg (by simp[hr]),if_neg (by rintro⟨_,h⟩;exact h16 h)]
    have h16':¬(16:Int)<=(zI5 (f::r):Nat):=by rw[hcnt];exact h16
    rw[hc]
    have hl6:R+1<=100:=by omega
    simp -implicitDefEqProofs [zJd,zE7,ht0,ht1,hv,hr,zAg,hR,hw,hw2,hlt,hrl,htop,hone,hfl,hz,hle,hhas,hn12,hni,hn24,hn25,hnn,forms205,a205,b205,htk,hal,hput,hfp,hop,hst,hz1,hz2,hz3,hn0,hn13,qC,zQb,h16',hl6]
    refine zA [.pack (GD.rlog (xP f ⟨(n:Int),v⟩::r)) 0 [6]] [0] ?_ ?_ ?_<;> simp[zAg,hR,AObj.mine]
def zJ0 (fs:List (List Pr)):Prop:=zA6 fs/\∀f∈fs,zFk f
def zQc:zAl
 |.rlog (f::r),[.int .i64 t,.int .u64 v]=> some (zJ0 (f::r)/\0<=v/\v<18446744073709551616,.int .i64 (xO f r t v),if xO f r t v=0 then .rlog (xP f ⟨t,v⟩::r) else .rlog (f::r))
 |_,_=> none
theorem qF8:qI Tryz.prog cfg 182 (qC zQc):=xJ fun d rest p v d' h hp=> by
 unfold zQc at h
 split at h
 ·cases h;exact⟨rfl,rfl,qM5 _ _ _ _ hp.1.1 hp.1.2 hp.2⟩
 ·cases h
theorem qCm {f:List Pr} {p:Pr} (h:(f.map (·.t)).Nodup):((xP f p).map (·.t)).Nodup:=by
 have mem:∀(f:List Pr) (x:Int),x∈(xP f p).map (·.t)->x=p.t∨x∈f.map (·.t):=by
  intro f x hx
  induction f with
  |nil=> simp[xP] at hx;exact .inl hx
  |cons q f ih=>
   rw[xP] at hx
   split at hx
   ·simp only[List.map_cons,List.mem_cons] at hx⊢
    rcases hx with hx|hx
    ·exact .inr (.inl hx)
    ·exact .inr (.inr hx)
   ·simp only[List.map_cons,List.mem_cons] at hx⊢
    rcases hx with hx|hx
    ·exact .inr (.inl hx)
    ·rcases ih hx with h|h
     ·exact .inl h
     ·exact .inr (.inr h)
 induction f with
 |nil=> simp[xP]
 |cons q f ih=>
  simp only[List.map_cons,List.nodup_cons] at h
  rw[xP]
  split
  ·simp only[List.map_cons,List.nodup_cons];exact h
  ·rename_i hq
   simp only[List.map_cons,List.nodup_cons]
   refine⟨fun hh=> ?_,ih h.2⟩
   rcases mem f _ hh with e|e
   ·exact hq e
   ·exact h.1 e
theorem qOg {f:List Pr} {p x:Pr} (h:x∈xP f p):x.t=p.t∨x∈f:=by
 induction f with
 |nil=> simp[xP] at h;exact .inl (by rw[h])
 |cons q f ih=>
  rw[xP] at h
  split at h
  ·rename_i e
   rcases List.mem_cons.1 h with rfl|h
   ·exact .inl e
   ·exact .inr (List.mem_cons_of_mem _ h)
  ·rcases List.mem_cons.1 h with rfl|h
   ·exact .inr (by simp)
   ·rcases ih h with h|h
    ·exact .inl h
    ·exact .inr (List.mem_cons_of_mem _ h)
theorem zOv {f:List Pr} {p:Pr} (h:zFk f) (hp:0<=p.t/\p.t<12):zFk (xP f p):=by
 refine⟨qCm h.1,fun x hx=> ?_⟩
 rcases qOg hx with e|hx
 ·rw[e];exact hp
 ·exact h.2 x hx
theorem zUe {g f:List Pr} (hg:zFk g) (hf:∀p∈f,0<=p.t/\p.t<12):zFk (xA g f):=by
 unfold xA
 induction f generalizing g with
 |nil=> exact hg
 |cons p f ih=> exact ih (g:=xP g p) (zOv hg (hf p (by simp))) fun q hq=> hf q (List.mem_cons_of_mem _ hq)
theorem zO3 {f:List Pr} (t:Int):∀{g:List Pr},(f.map (·.t)).Nodup->jP (xA g f) t=match jP f t with
  |some v=> some v
  |none=> jP g t:=by
 unfold xA
 induction f with
 |nil=> intro g _;rfl
 |cons p f ih=>
  intro g h
  simp only[List.map_cons,List.nodup_cons] at h
  rw[List.foldl_cons,ih h.2,zD6]
  by_cases hp:p.t=t
  ·have hno:jP f t=none:=zXi fun q hq e=> h.1 (by rw[hp,←e];exact List.mem_map.2 ⟨q,hq,rfl⟩)
   rw[hno,if_pos hp]
   simp only[zKn,hp,if_true]
  ·rw[if_neg hp]
   cases jP f t with
   |some v=> rfl
   |none=> simp only[zKn,hp,if_false]
end YtnemoimbeefngaaGreat
end Go.Proofs
namespace Go.Proofs
namespace YtnemoimbeefngaaGreat
open Go.Abs
def zC6 (f g:List Pr) (j:Nat):List Value:=(zEm.map fun t=> .bool (if t<j then (jP f t).isSome||(jP g t).isSome else (jP g t).isSome))++zEm.map fun t=> .int .u64 (if t<j then ((jP f t).or (jP g t)).getD 0 else (jP g t).getD 0)
theorem zD0 (f g:List Pr) (j:Nat):(zC6 f g j).length=24:=by simp[zC6,zEm]
theorem zWo {t:Nat} (h:t<12):zEm[t]?=some (t:Int):=by
 match t,h with
 |0,_|1,_|2,_|3,_|4,_|5,_|6,_|7,_|8,_|9,_|10,_|11,_=> rfl
theorem zIn (f g:List Pr) (j:Nat) {t:Nat} (h:t<12):(zC6 f g j)[t]?=some (.bool (if t<j then (jP f t).isSome||(jP g t).isSome else (jP g t).isSome)):=by
 unfold zC6
 rw[List.getElem?_append_left (by simp[zEm];omega),List.getElem?_map,zWo h]
 simp
theorem zIm (f g:List Pr) (j:Nat) {t:Nat} (h:t<12):(zC6 f g j)[12+t]?=some (.int .u64 (if t<j then ((jP f t).or (jP g t)).getD 0 else (jP g t).getD 0)):=by
 unfold zC6
 rw[List.getElem?_append_right (by simp[zEm]),List.getElem?_map]
 have e:12+t - (zEm.map fun t=> Value.bool (if t<(j:Int) then (jP f t).isSome||(jP g t).isSome else (jP g t).isSome)).length=t:=by simp[zEm]
 rw[e,zWo h]
 simp
theorem zUd (f g:List Pr):zC6 f g 0=xQ g:=zLx (f:=g) (g:=g) (zD0 f g 0) (fun t h=> by rw[zIn f g 0 h];simp) (fun t h=> by rw[zIm f g 0 h];simp)
theorem zXb {f g:List Pr} (hf:(f.map (·.t)).Nodup):zC6 f g 12=xQ (xA g f):=zLx (f:=xA g f) (g:=g) (zD0 f g 12) (fun t h=> by
 rw[zIn f g 12 h,if_pos h,zO3 _ hf]
 cases jP f t<;> simp) (fun t h=> by
 rw[zIm f g 12 h,if_pos h,zO3 _ hf]
 cases jP f t<;> simp)
theorem zXa {a b:List Value} (ha:a.length=24) (hb:b.length=24) (h1:∀t:Nat,t<12->a[t]?=b[t]?) (h2:∀t:Nat,t<12->a[12+t]?=b[12+t]?):a=b:=by
 refine List.ext_getElem? fun j=> ?_
 by_cases hj:j<12
 ·exact h1 j hj
 ·by_cases hj2:j<24
  ·have e:j=12+(j - 12):=by omega
   rw[e];exact h2 _ (by omega)
  ·rw[List.getElem?_eq_none (by omega),List.getElem?_eq_none (by omega)]
theorem qCy {f g:List Pr} {j:Nat} (hh:(jP f (j:Nat)).isSome=false):zC6 f g (j+1)=zC6 f g j:=by
 have hno:jP f (j:Nat)=none:=by
  cases h:jP f (j:Nat) with
  |none=> rfl
  |some v=> rw[h] at hh;cases hh
 refine zXa (zD0 _ _ _) (zD0 _ _ _) (fun t h=> ?_) (fun t h=> ?_)
 ·rw[zIn _ _ _ h,zIn _ _ _ h]
  by_cases e:t=j
  ·subst e;rw[if_pos (by omega),if_neg (by omega),hno];simp
  ·have:(t<j+1)↔(t<j):=by omega
   simp only[this]
 ·rw[zIm _ _ _ h,zIm _ _ _ h]
  by_cases e:t=j
  ·subst e;rw[if_pos (by omega),if_neg (by omega),hno];simp
  ·have:(t<j+1)↔(t<j):=by omega
   simp only[this]
theorem zW9 {f g:List Pr} {j:Nat} (hj:j<12) (hh:(jP f (j:Nat)).isSome=true):((zC6 f g j).set j (.bool true)).set (12+j) (.int .u64 ((jP f (j:Nat)).getD 0))=zC6 f g (j+1):=by
 obtain⟨v,hv⟩:=Option.isSome_iff_exists.1 hh
 refine zXa (by simp[zD0]) (zD0 _ _ _) (fun t h=> ?_) (fun t h=> ?_)
 ·rw[List.getElem?_set,if_neg (by omega),List.getElem?_set,zD0,zIn _ _ _ h,zIn _ _ _ h]
  by_cases e:j=t
  ·subst e;rw[if_pos rfl,if_pos (by omega),if_pos (by omega),hv];rfl
  ·have:(t<j+1)↔(t<j):=by omega
   simp only[this,if_neg e]
 ·rw[List.getElem?_set,List.length_set,zD0,List.getElem?_set,zIm _ _ _ h,zIm _ _ _ h]
  by_cases e:j=t
  ·subst e;rw[if_pos rfl,if_pos (by omega),if_pos (by omega),hv];simp
  ·have:(t<j+1)↔(t<j):=by omega
   have e2:¬12+j=12+t:=by omega
   have e3:¬j=12+t:=by omega
   simp only[this,if_neg e2,if_neg e3]
theorem zY5 (f g:List Pr) (j:Nat):xI (zC6 f g j)=true:=by
 simp[zC6,zEm,xI,xY]
theorem qOb (θ:Nat->Nat) (f g:List Pr) (j:Nat):zAu θ (zC6 f g j)=zC6 f g j:=zAy θ _ (zY5 f g j)
theorem zYs (θ:Nat->Nat) (f:List Pr):zAu θ (xQ f)=xQ f:=zAy θ _ (zK7 f)
attribute [simp] qOb zYs
def zHj:List (FuncId × qW GD):=[(180,qC zKs)]
theorem zJ2:∀x∈zHj,qI Tryz.prog cfg x.1 x.2:=by simp[zHj,zTd]
theorem qHb (f g:List Pr) (r:List (List Pr)) {k:Nat} (hk:k=r.length*24):((rf (f::g::r)).drop k).take 24=xQ g:=by
 subst hk
 rw[zFr,zFr,←zE2 r,List.append_assoc,List.drop_left,List.take_append_of_le_length (by rw[zAi];omega),List.take_of_length_le (by rw[zAi];omega)]
def mgI0 (f g:List Pr) (r:List (List Pr)) (R m:Nat) (tm:Nat->Value) (H:AH GD):Prop:=∃j:Nat,m+j=12/\tm 0=.pointer (some ⟨0,0,none⟩)/\tm 3=.int .i64 ((R:Int)+1+1)/\tm 4=.pointer (some ⟨2,0,none⟩)/\tm 5=.pointer (some ⟨3,0,none⟩)/\tm 6=.int .i64 j/\
 H=AH.of [some (.arr 173 [.slice (some ⟨1,0,none⟩) (R+2) 1]),some (.arr 214 (rf (f::g::r))),some (.arr 214 (xQ f)),some (.arr 214 (zC6 f g j))]
def mgI1 (f g:List Pr) (r:List (List Pr)) (R m:Nat) (tm:Nat->Value) (H:AH GD):Prop:=∃j:Nat,m+j=12/\tm 0=.pointer (some ⟨0,0,none⟩)/\tm 3=.int .i64 ((R:Int)+1+1)/\tm 4=.pointer (some ⟨3,0,none⟩)/\tm 5=.pointer (some ⟨2,0,none⟩)/\tm 6=.int .i64 j/\
 H=AH.of [some (.arr 173 [.slice (some ⟨1,0,none⟩) (R+2) 1]),some (.arr 214 (rf (f::g::r))),some (.arr 214 (zC6 f g j)),some (.arr 214 (xQ f))]
theorem qKh {R:Nat} (h:R<=3):(R+1)*112<=140737488355328/\R<=9223372036854775806:=by omega
theorem zVp (f g:List Pr) (r:List (List Pr)) (hg:zA6 (f::g::r)) (hf:(f.map (·.t)).Nodup):zP Tryz.prog cfg 181 [.pointer (some ⟨0,0,none⟩)] (AH.of [some (.hi (.rlog (f::g::r)))])
  fun x H'=> x=.ret (.int .i64 0)/\H'=AH.of [some (.hi (.rlog (xA g f::r)))]:=by
 refine zP.ends ?_
 have hl5:r.length<=3:=by have:=hg.2.1;simp at this;omega
 obtain⟨R,hR⟩:∃R,r.length=R:=⟨_,rfl⟩
 have hw1:IntKind.i64.wrap (((R:Int)+1+1) - 1)=(R:Int)+1:=by rw[qX (by omega) (by omega)];omega
 have hw2:IntKind.i64.wrap ((R:Int)+1)=(R:Int)+1:=qX (by omega) (by omega)
 have hw3:IntKind.i64.wrap (((R:Int)+1+1) - 2)=(R:Int):=by rw[qX (by omega) (by omega)];omega
 have hw4:IntKind.i64.wrap (R:Int)=(R:Int):=qX (by omega) (by omega)
 have hl1:¬((R:Int)+1=0):=by omega
 have hl2:(R:Int)+1<(R:Int)+1+1:=by omega
 have hl3:(R:Int)<(R:Int)+1+1:=by omega
 have hl4:(0:Int)<=(R:Int)+1:=by omega
 have hl7:((R:Int)+1).toNat=R+1:=by omega
 have htop:=qB5 f (g::r) (k:=(R+1)*24) (by simp[hR])
 have hbel:=qHb f g r (k:=R*24) (by rw[hR])
 have hfl:=zAi f
 have hgl:=zAi g
 have hof:=zGu f
 have hog:=zGu g
 have hzf:setMany [.bool false,.bool false,.bool false,.bool false,.bool false,.bool false,.bool false,.bool false,.bool false,.bool false,.bool false,.bool false,.int .u64 0,.int .u64 0,.int .u64 0,.int .u64 0,.int .u64 0,.int .u64 0,.int .u64 0,.int .u64 0,.int .u64 0,.int .u64 0,.int .u64 0,.int .u64 0] 0 (xQ f)=xQ f:=zE5 (by rw[zAi];rfl)
 have hzg:setMany [.bool false,.bool false,.bool false,.bool false,.bool false,.bool false,.bool false,.bool false,.bool false,.bool false,.bool false,.bool false,.int .u64 0,.int .u64 0,.int .u64 0,.int .u64 0,.int .u64 0,.int .u64 0,.int .u64 0,.int .u64 0,.int .u64 0,.int .u64 0,.int .u64 0,.int .u64 0] 0 (xQ g)=xQ g:=zE5 (by rw[zAi];rfl)
 have htf:(xQ f).take 24=xQ f:=List.take_of_length_le (by rw[zAi];omega)
 have htg:(xQ g).take 24=xQ g:=List.take_of_length_le (by rw[zAi];omega)
 have hrl:=zE2 (f::g::r)
 simp only[List.length_cons,hR] at hrl
 have hle1:(R+1)*24+24<=(R+1+1)*24:=by omega
 have hle2:R*24+24<=(R+1+1)*24:=by omega
 have hd1:R+1<=100:=by omega
 have hql:=zAi (xA g f)
 have hqo:=zGu (xA g f)
 have hqt:(xQ (xA g f)).take 24=xQ (xA g f):=List.take_of_length_le (by rw[zAi];omega)
 have hst:=zM9 g (xA g f) r (k:=R*24) (by rw[hR])
 have hrl2:=zE2 (g::r)
 simp only[List.length_cons,hR] at hrl2
 have htk2:=zPm (g::r)
 simp only[List.length_cons,hR] at htk2
 have hle3:R*24+24<=(R+1)*24:=Nat.le_of_eq (Nat.succ_mul R 24).symm
 have hlt2:(R:Int)<(R:Int)+1:=Int.lt_succ _
 refine zX (tbl:=zHj) zJ2 13 2 (af:=a181) rfl ?_
 rw[a181,b181,qB]
 refine⟨by simp,?_⟩
 simp -implicitDefEqProofs [zHj,zAg,forms169,a169,b169,forms205,a205,b205,hR,hw1,hw2,hw3,hl1,hl2,hl3,hl4,htop,hbel,hfl,hgl,hof,hog,hzf,hzg,htf,htg,hle1,hle2,hrl,hw4,hl7]
 refine⟨?_,?_⟩
 ·refine zBm (xC zAh (xD zJ2) _ _ noY jT) (mgI0 f g r R) (m:=12) ?_ (by omega) ?_
  ·refine qS [] [0,1,2,3] [some (.arr 173 [.slice (some ⟨1,0,none⟩) (R+2) 1]),some (.arr 214 (rf (f::g::r))),some (.arr 214 (xQ f)),some (.arr 214 (xQ g))] 12 (by omega) ?_ ?_ ⟨0,by omega,?_,?_,?_,?_,?_,by rw[zUd]⟩<;> simp
  rintro m tm H ⟨j,hm,t0,t3,t4,t5,t6,rfl⟩
  by_cases hj:j<12
  ·have hj':(j:Int)<12:=by omega
   have hwj:=zA8 hj (by omega)
   have hhas:=zEt f hj
   have hval:=zGt f hj
   have hml:=zD0 f g j
   have hj1:j<=23:=by omega
   have hj2:12+j<=23:=by omega
   cases hh:(jP f (j:Nat)).isSome with
   |false=>
    rw[hh] at hhas
    have hno:=qCy (f:=f) (g:=g) hh
    simp -implicitDefEqProofs [t0,t3,t4,t5,t6,hj,hj',hwj,hhas]
    refine qS [] [0,1,2,3] [some (.arr 173 [.slice (some ⟨1,0,none⟩) (R+2) 1]),some (.arr 214 (rf (f::g::r))),some (.arr 214 (xQ f)),some (.arr 214 (zC6 f g (j+1)))] (m - 1) (by omega) ?_ ?_ ⟨j+1,by omega,?_,?_,?_,?_,?_,rfl⟩<;> simp[t0,t3,t4,t5,hno]
   |true=>
    rw[hh] at hhas
    have hyes:=zW9 (f:=f) (g:=g) hj hh
    have hsl:((zC6 f g j).set j (.bool true)).length=24:=by simp[zD0]
    simp -implicitDefEqProofs [t0,t3,t4,t5,t6,hj,hj',hwj,hhas,hval,hml,hsl,hj1,hj2,hyes]
    refine qS [] [0,1,2,3] [some (.arr 173 [.slice (some ⟨1,0,none⟩) (R+2) 1]),some (.arr 214 (rf (f::g::r))),some (.arr 214 (xQ f)),some (.arr 214 (zC6 f g (j+1)))] (m - 1) (by omega) ?_ ?_ ⟨j+1,by omega,?_,?_,?_,?_,?_,rfl⟩<;> simp[t0,t3,t4,t5]
  ·have hje:j=12:=by omega
   have hj':¬(j:Int)<12:=by omega
   have hend:zC6 f g j=xQ (xA g f):=by rw[hje,zXb hf]
   rw[hend]
   have hz1:=qKh (R:=R) (by omega)
   simp -implicitDefEqProofs [t0,t3,t4,t5,t6,hj',zHj,qC,zKs]
   refine zEp [.pack (GD.rlog (f::g::r)) 0 [1]] ?_ ?_
   ·simp[zAg,hR,AObj.mine]
   simp -implicitDefEqProofs [t0,t3,t4,t5,t6,hj',zHj,qC,zKs,zAg,forms205,a205,b205,hR,hd1,hw3,hw4,hql,hqo,hqt,hst,hrl2,htk2,hz1,hle3,hlt2]
   refine zA [.pack (GD.rlog (xA g f::r)) 0 [7]] [0] ?_ ?_ ?_<;> simp[zAg,hR,AObj.mine]
 ·refine zBm (xC zAh (xD zJ2) _ _ noY jT) (mgI1 f g r R) (m:=12) ?_ (by omega) ?_
  ·refine qS [] [0,1,2,3] [some (.arr 173 [.slice (some ⟨1,0,none⟩) (R+2) 1]),some (.arr 214 (rf (f::g::r))),some (.arr 214 (xQ g)),some (.arr 214 (xQ f))] 12 (by omega) ?_ ?_ ⟨0,by omega,?_,?_,?_,?_,?_,by rw[zUd]⟩<;> simp
  rintro m tm H ⟨j,hm,t0,t3,t4,t5,t6,rfl⟩
  by_cases hj:j<12
  ·have hj':(j:Int)<12:=by omega
   have hwj:=zA8 hj (by omega)
   have hhas:=zEt f hj
   have hval:=zGt f hj
   have hml:=zD0 f g j
   have hj1:j<=23:=by omega
   have hj2:12+j<=23:=by omega
   cases hh:(jP f (j:Nat)).isSome with
   |false=>
    rw[hh] at hhas
    have hno:=qCy (f:=f) (g:=g) hh
    simp -implicitDefEqProofs [t0,t3,t4,t5,t6,hj,hj',hwj,hhas]
    refine qS [] [0,1,2,3] [some (.arr 173 [.slice (some ⟨1,0,none⟩) (R+2) 1]),some (.arr 214 (rf (f::g::r))),some (.arr 214 (zC6 f g (j+1))),some (.arr 214 (xQ f))] (m - 1) (by omega) ?_ ?_ ⟨j+1,by omega,?_,?_,?_,?_,?_,rfl⟩<;> simp[t0,t3,t4,t5,hno]
   |true=>
    rw[hh] at hhas
    have hyes:=zW9 (f:=f) (g:=g) hj hh
    have hsl:((zC6 f g j).set j (.bool true)).length=24:=by simp[zD0]
    simp -implicitDefEqProofs [t0,t3,t4,t5,t6,hj,hj',hwj,hhas,hval,hml,hsl,hj1,hj2,hyes]
    refine qS [] [0,1,2,3] [some (.arr 173 [.slice (some ⟨1,0,none⟩) (R+2) 1]),some (.arr 214 (rf (f::g::r))),some (.arr 214 (zC6 f g (j+1))),some (.arr 214 (xQ f))] (m - 1) (by omega) ?_ ?_ ⟨j+1,by omega,?_,?_,?_,?_,?_,rfl⟩<;> simp[t0,t3,t4,t5]
  ·have hje:j=12:=by omega
   have hj':¬(j:Int)<12:=by omega
   have hend:zC6 f g j=xQ (xA g f):=by rw[hje,zXb hf]
   rw[hend]
   have hz1:=qKh (R:=R) (by omega)
   simp -implicitDefEqProofs [t0,t3,t4,t5,t6,hj',zHj,qC,zKs]
   refine zEp [.pack (GD.rlog (f::g::r)) 0 [1]] ?_ ?_
   ·simp[zAg,hR,AObj.mine]
   simp -implicitDefEqProofs [t0,t3,t4,t5,t6,hj',zHj,qC,zKs,zAg,forms205,a205,b205,hR,hd1,hw3,hw4,hql,hqo,hqt,hst,hrl2,htk2,hz1,hle3,hlt2]
   refine zA [.pack (GD.rlog (xA g f::r)) 0 [7]] [0] ?_ ?_ ?_<;> simp[zAg,hR,AObj.mine]
end YtnemoimbeefngaaGreat
end Go.Proofs
namespace Go.Proofs
namespace YtnemoimbeefngaaGreat
open Go.Abs
theorem zTs (f:List Pr):zP Tryz.prog cfg 181 [.pointer (some ⟨0,0,none⟩)] (AH.of [some (.hi (.rlog [f]))])
  fun x H'=> x=.ret (.int .i64 8)/\H'=AH.of [some (.hi (.rlog [f]))]:=by
 refine zP.ends ?_
 have hw1:IntKind.i64.wrap 0=0:=by decide
 refine zX (tbl:=zHj) zJ2 13 2 (af:=a181) rfl ?_
 rw[a181,b181,qB]
 refine⟨by simp,?_⟩
 simp -implicitDefEqProofs [zHj,zAg,forms169,a169,b169,hw1]
 refine zA [.pack (GD.rlog [f]) 0 [1]] [0] ?_ ?_ ?_<;> simp[zAg,AObj.mine]
def d181:zAl
 |.rlog [f],[]=> some (True,.int .i64 8,.rlog [f])
 |.rlog (f::g::r),[]=> some (zJ0 (f::g::r),.int .i64 0,.rlog (xA g f::r))
 |_,_=> none
theorem qF9:qI Tryz.prog cfg 181 (qC d181):=xJ fun d rest p v d' h hp=> by
 unfold d181 at h
 split at h
 ·cases h;exact⟨rfl,rfl,zTs _⟩
 ·cases h;exact⟨rfl,rfl,zVp _ _ _ hp.1 (hp.2 _ (by simp)).1⟩
 ·cases h
end YtnemoimbeefngaaGreat
end Go.Proofs
namespace Go.Proofs
namespace YtnemoimbeefngaaGreat
open Go.Abs
def v4 (x:Nat):Nat->List Nat
 |0=> [x,6,7,8]
 |1=> [6,x,7,8]
 |2=> [6,7,x,8]
 |_=> [6,7,8,x]
theorem thQ (th:Nat):∃q,q=th:=⟨_,rfl⟩
def rps (th:Nat) (q:Value) (ts:Nat->Option Att):List Value:=match th with
 |0=> [q,zCd 6 (ts 1),zCd 7 (ts 2),zCd 8 (ts 3)]
 |1=> [zCd 6 (ts 0),q,zCd 7 (ts 2),zCd 8 (ts 3)]
 |2=> [zCd 6 (ts 0),zCd 7 (ts 1),q,zCd 8 (ts 3)]
 |_=> [zCd 6 (ts 0),zCd 7 (ts 1),zCd 8 (ts 2),q]
def zR (a b:Value) (th:Nat) (q:Value) (ts:Nat->Option Att) (x y:Value):List Value:=a::b::(rps th q ts++[x,y])
theorem jD (a b:Value) (th:Nat) (q:Value) (ts:Nat->Option Att) (x y:Value):(zR a b th q ts x y).length=8:=by unfold zR rps;split<;> rfl
theorem jX (a b:Value) (th:Nat) (q:Value) (ts:Nat->Option Att) (x y:Value):(zR a b th q ts x y)[0]?=some a:=rfl
theorem jW (a b:Value) (th:Nat) (q:Value) (ts:Nat->Option Att) (x y:Value):(zR a b th q ts x y)[1]?=some b:=rfl
theorem jV (a b:Value) (th:Nat) (q:Value) (ts:Nat->Option Att) (x y:Value):(zR a b th q ts x y)[6]?=some x:=by unfold zR rps;split<;> rfl
theorem jU (a b:Value) (th:Nat) (q:Value) (ts:Nat->Option Att) (x y:Value):(zR a b th q ts x y)[7]?=some y:=by unfold zR rps;split<;> rfl
theorem xS (a b:Value) {th:Nat} (h:th<4) (q:Value) (ts:Nat->Option Att) (x y:Value):(zR a b th q ts x y)[2+th]?=some q:=by
 rcases qH h with rfl|rfl|rfl|rfl<;> rfl
theorem jN (a b:Value) (th:Nat) (q:Value) (ts:Nat->Option Att) (x y:Value) (h:0<(zR a b th q ts x y).length):(zR a b th q ts x y)[0]'h=a:=rfl
theorem jM (a b:Value) (th:Nat) (q:Value) (ts:Nat->Option Att) (x y:Value) (h:1<(zR a b th q ts x y).length):(zR a b th q ts x y)[1]'h=b:=rfl
theorem jL (a b:Value) (th:Nat) (q:Value) (ts:Nat->Option Att) (x y:Value) (h:6<(zR a b th q ts x y).length):(zR a b th q ts x y)[6]'h=x:=by
 have:=jV a b th q ts x y
 rw[List.getElem?_eq_getElem h] at this
 exact Option.some.inj this
theorem jK (a b:Value) (th:Nat) (q:Value) (ts:Nat->Option Att) (x y:Value) (h:7<(zR a b th q ts x y).length):(zR a b th q ts x y)[7]'h=y:=by
 have:=jU a b th q ts x y
 rw[List.getElem?_eq_getElem h] at this
 exact Option.some.inj this
theorem xH (a b:Value) {th:Nat} (ht:th<4) (q:Value) (ts:Nat->Option Att) (x y:Value) (h:2+th<(zR a b th q ts x y).length):(zR a b th q ts x y)[2+th]'h=q:=by
 have:=xS a b ht q ts x y
 rw[List.getElem?_eq_getElem h] at this
 exact Option.some.inj this
theorem jJ (a b:Value) (th:Nat) (q:Value) (ts:Nat->Option Att) (x y v:Value):(zR a b th q ts x y).set 6 v=zR a b th q ts v y:=by unfold zR rps;split<;> rfl
theorem jI (a b:Value) (th:Nat) (q:Value) (ts:Nat->Option Att) (x y v:Value):(zR a b th q ts x y).set 7 v=zR a b th q ts x v:=by unfold zR rps;split<;> rfl
theorem xG (a b:Value) {th:Nat} (h:th<4) (q:Value) (ts:Nat->Option Att) (x y v:Value):(zR a b th q ts x y).set (2+th) v=zR a b th v ts x y:=by
 rcases qH h with rfl|rfl|rfl|rfl<;> rfl
theorem qD (k:Nat) (a:Att):zCd k (some a)=.pointer (some ⟨k,0,none⟩):=rfl
theorem qG (k:Nat):zCd k none=.pointer none:=rfl
theorem qH5 (k:Nat) (o:Option Att):leV (zCd k o) (zCd k o)=True:=zKi _
theorem qG6 (θ:Nat->Nat) (k:Nat) (o:Option Att):ren θ (zCd k o)=zCd (θ k) o:=by cases o<;> rfl
theorem qA (a:Att):zBi (some a)=.hi (.ratt a):=rfl
theorem qR:zBi none=.arr 123 []:=rfl
theorem zYr (θ:Nat->Nat) (x:Option Att):(zBi x).ren θ=zBi x:=by cases x<;> simp[zBi,zOt,zMs,zAu]
theorem zV4 (x:Option Att):(zBi x).mine=true:=by cases x<;> rfl
theorem zZb (x:Option Att):leO (zBi x) (zBi x)=True:=eq_true (zNw _)
theorem zEk (k w:Int) (ky wy:List Int):zDz (k::ky) (w::wy)=.int .u64 k::.int .u8 w::zDz ky wy:=rfl
theorem qIb (wy:List Int):zDz [] wy=[]:=rfl
theorem jZ:∀{ky wy:List Int},wy.length=ky.length->(zDz ky wy).length=ky.length*2
 |[],_,_=> rfl
 |k::ky,[],h=> by simp at h
 |k::ky,w::wy,h=> by
  rw[zEk]
  simp only[List.length_cons]
  rw[jZ (by simpa using h)];omega
theorem zNc:∀(ky wy:List Int),xI (zDz ky wy)=true
 |[],_=> rfl
 |k::ky,[]=> rfl
 |k::ky,w::wy=> by rw[zEk];simp[xI,xY,zNc ky wy]
theorem qHf (θ:Nat->Nat) (ky wy:List Int):zAu θ (zDz ky wy)=zDz ky wy:=zAy θ _ (zNc ky wy)
theorem zNd:∀{ky wy:List Int} (k w:Int),wy.length=ky.length->zDz (ky++[k]) (wy++[w])=zDz ky wy++[.int .u64 k,.int .u8 w]
 |[],[],_,_,_=> rfl
 |[],_::_,_,_,h=> by simp at h
 |_::_,[],_,_,h=> by simp at h
 |a::ky,b::wy,k,w,h=> by
  rw[List.cons_append,List.cons_append,zEk,zEk,zNd k w (by simpa using h)];rfl
theorem zDr:∀{ky wy:List Int} {n:Nat} (w:Int),wy.length=ky.length->n<ky.length->(zDz ky wy).set (n*2+1) (.int .u8 w)=zDz ky (wy.set n w)
 |[],_,n,_,_,h=> by simp at h
 |_::_,[],_,_,h,_=> by simp at h
 |a::ky,b::wy,0,w,_,_=> rfl
 |a::ky,b::wy,n+1,w,h,hn=> by
  rw[zEk,show (n+1)*2+1=(n*2+1)+1+1 by omega,List.set_cons_succ,List.set_cons_succ,zDr w (by simpa using h) (by simpa using hn)];rfl
theorem zNy:∀{ky wy:List Int} {n:Nat} (w:Int),wy.length=ky.length->n<ky.length->(zDz ky wy).set (n*2) (.int .u64 w)=zDz (ky.set n w) wy
 |[],_,n,_,_,h=> by simp at h
 |_::_,[],_,_,h,_=> by simp at h
 |a::ky,b::wy,0,w,_,_=> rfl
 |a::ky,b::wy,n+1,w,h,hn=> by
  rw[zEk,show (n+1)*2=(n*2)+1+1 by omega,List.set_cons_succ,List.set_cons_succ,zNy w (by simpa using h) (by simpa using hn)];rfl
theorem zMx:∀{ky wy:List Int} {n:Nat},wy.length=ky.length->n<ky.length->(zDz ky wy)[n*2]?=some (.int .u64 ((ky[n]?).getD 0))/\(zDz ky wy)[n*2+1]?=some (.int .u8 ((wy[n]?).getD 0))
 |[],_,n,_,h=> by simp at h
 |_::_,[],_,h,_=> by simp at h
 |a::ky,b::wy,0,_,_=> by simp[zEk]
 |a::ky,b::wy,n+1,h,hn=> by
  have:=zMx (ky:=ky) (wy:=wy) (n:=n) (by simpa using h) (by simpa using hn)
  rw[zEk,show (n+1)*2=(n*2)+1+1 by omega]
  simpa using this
theorem qAx {ky wy:List Int} (h:wy.length=ky.length):(zDz ky wy).take (ky.length*2)=zDz ky wy:=List.take_of_length_le (by rw[jZ h];omega)
attribute [simp] zYr zV4 zZb qG6 qH5 qHf
def qL (s:NS) (th:Nat):List (Option (AObj GD)):=
 [some (.arr 118 (zR (.slice (some ⟨1,0,none⟩) s.hp.length 1) (.pointer (some ⟨2,0,none⟩)) th (zCd 5 (s.ts th)) s.ts (.slice (some ⟨3,0,none⟩) s.ev.length 1) (.slice (some ⟨4,0,none⟩) s.ky.length 1))),
  some (.arr 49 (us s.hp)),some (.hi (.rlk s.o s.c)),some (.arr 84 (evs s.ev)),some (.arr 159 (zDz s.ky s.wy)),some (zBi (s.ts th)),some (zBi (s.ts (o1 th))),some (zBi (s.ts (o2 th))),some (zBi (s.ts (o3 th)))]
theorem zP.openREng {f:FuncId} {args:List Value} {K:AEnd->AH GD->Prop} {s:NS} {th:Nat} (hth:th<4)
  (h:zP Tryz.prog cfg f args (AH.of (qL s th)) K):zP Tryz.prog cfg f args (AH.of [some (.hi (.reng s))]) K:=by
 have e:zFt frag (AH.of [some (.hi (.reng s))]) 0=some (AH.of [some (.arr 118 [.slice (some ⟨1,0,none⟩) s.hp.length 1,.pointer (some ⟨2,0,none⟩),zCd 5 (s.ts 0),zCd 6 (s.ts 1),zCd 7 (s.ts 2),zCd 8 (s.ts 3),.slice (some ⟨3,0,none⟩) s.ev.length 1,.slice (some ⟨4,0,none⟩) s.ky.length 1]),
   some (.arr 49 (us s.hp)),some (.hi (.rlk s.o s.c)),some (.arr 84 (evs s.ev)),some (.arr 159 (zDz s.ky s.wy)),some (zBi (s.ts 0)),some (zBi (s.ts 1)),some (zBi (s.ts 2)),some (zBi (s.ts 3))]):=by
  simp[qV]
 have see:xV Tryz.prog cfg (AH.of [some (.hi (.reng s))]) (AH.of (qL s th)):=by
  rcases qH hth with rfl|rfl|rfl|rfl
  ·exact (zDb e).names (ks:=[0,1,2,3,4,5,6,7,8]) (by simp[qL,zR,rps,o1,o2,o3])
  ·exact (zDb e).names (ks:=[0,1,2,3,4,6,5,7,8]) (by simp[qL,zR,rps,o1,o2,o3])
  ·exact (zDb e).names (ks:=[0,1,2,3,4,7,5,6,8]) (by simp[qL,zR,rps,o1,o2,o3])
  ·exact (zDb e).names (ks:=[0,1,2,3,4,8,5,6,7]) (by simp[qL,zR,rps,o1,o2,o3])
 exact zP.seesG see h
end YtnemoimbeefngaaGreat
end Go.Proofs
namespace Go.Proofs
namespace YtnemoimbeefngaaGreat
open Go.Abs
def zJe:List (FuncId × qW GD):=[(117,qC zL0),(118,zSd),(119,zSc)]
theorem zS7:∀x∈zJe,qI Tryz.prog cfg x.1 x.2:=by simp[zJe,zTj,qGu,qGt]
theorem qHa (n:Nat) (h:n<=64):(n+1)*16<=140737488355328/\n<=9223372036854775806/\n*16<=140737488355328/\n<=9223372036854775807:=⟨by omega,Nat.le_trans h (by decide),by omega,Nat.le_trans h (by decide)⟩
theorem zAt {n:Nat} (h:n<=100000):(n+1)*32<=140737488355328/\n<=9223372036854775806/\n*32<=140737488355328/\n<=9223372036854775807:=⟨by omega,Nat.le_trans h (by decide),by omega,Nat.le_trans h (by decide)⟩
theorem zYu (s:NS) (hs:s.Ok) (hev:s.ev.length<=100000) (th:Nat) (hth:th<4) (hc:zC8 s th=0):zP Tryz.prog cfg 75 [.pointer (some ⟨0,0,none⟩),.int .i64 th] (AH.of [some (.hi (.reng s))])
  fun r H'=> r=.ret (.tuple #[.int .i64 s.ky.length,.int .i64 0])/\H'=AH.of [some (.hi (.reng (zCa s th)))]:=by
 refine zP.ends ?_
 obtain⟨h1,h2,h3⟩:=zU7 hc
 generalize hS:((zCa s th):NS)=S'
 refine zP.openREng hth ?_
 have z1:¬(th:Int)<0:=by omega
 have z2:¬4<=(th:Int):=by omega
 have z3:(th:Int)<4:=by omega
 have z4:2+th+1<=8:=by omega
 have gt:∀a b q ts x y,(zR a b th q ts x y)[2+th]?=some q:=fun a b q ts x y=> xS a b hth q ts x y
 have gg:∀a b q ts x y (h:2+th<(zR a b th q ts x y).length),(zR a b th q ts x y)[2+th]'h=q:=fun a b q ts x y h=> xH a b hth q ts x y h
 have gs:∀a b q ts x y v,(zR a b th q ts x y).set (2+th) v=zR a b th v ts x y:=fun a b q ts x y v=> xG a b hth q ts x y v
 have hcr:=hs.c
 have hw:IntKind.u64.wrap (s.c+1)=s.c+1:=zBn (by omega) (by omega)
 have hk1:¬(64:Int)<=s.ky.length:=by omega
 have hkl:=qHa s.ky.length hs.ky
 have hel:=zAt hev
 have t1:=qAx hs.kw
 have t3:=jB s.ev
 have hkk:=jZ hs.kw
 refine zX (tbl:=zJe) zS7 0 3 (af:=a75) rfl ?_
 rw[a75,b75,qB]
 refine⟨by simp,?_⟩
 simp -implicitDefEqProofs [qL,zJe,qC,zL0,zSd,zSc,forms116,a116,b116,forms120,a120,b120,z1,z2,z3,z4,gt,gg,gs,jX,jW,jV,jU,jN,jM,jL,jK,jJ,jI,jD,h1,qG,h3,zDw,hk1,hw,hkl,hel,t1,t3,hkk,qT]
 subst hS
 obtain⟨q4,hq⟩:=thQ th
 have hpe:=hs.kw
 have hka:=zNd (ky:=s.ky) (wy:=s.wy) (s.c+1) 0 hs.kw
 rcases qH hth with rfl|rfl|rfl|rfl<;> (repeat' with_reducible apply And.intro)<;> (refine zA [.pack (GD.ratt (zEa s.ky.length s.c)) 11 [9,10],.pack (GD.reng (zCa s q4)) 0 (1::2::20::15::v4 11 q4)] [0] ?_ ?_ ?_<;> simp[hq,v4,qF,qV,zR,rps,qD,qG,qA,qR,zEa,zCa,zZ,o1,o2,o3,h1,h3,hka,zW,zY])
end YtnemoimbeefngaaGreat
end Go.Proofs
