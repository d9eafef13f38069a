/-
  NOREC: Step. (Printed by tools/genstep.py.)
-/
import Derived.Test.YtnemoimbeefngaaGreatPR1
set_option linter.unusedSimpArgs false
set_option linter.unusedVariables false
set_option linter.unnecessarySimpa false
set_option linter.unusedSectionVars false
set_option maxHeartbeats 32000000
set_option maxRecDepth 100000
namespace Go.Proofs
namespace YtnemoimbeefngaaGreat
open Go.Abs
theorem zKp (d e:Ev):evs [d,e]=[.int .u8 d.k,.int .i64 d.a,.int .i64 d.t,.int .u64 d.v,.int .u8 e.k,.int .i64 e.a,.int .i64 e.t,.int .u64 e.v]:=rfl
theorem qIj {n:Nat} (h:n<=100000):(n+1+1)*32<=140737488355328/\n+1<=9223372036854775806:=⟨by omega,Nat.le_trans (Nat.succ_le_succ h) (by decide)⟩
theorem qAw (l:List Ev) (n:Nat):(evs l++([.int .u8 7,.int .i64 n,.int .i64 0,.int .u64 0]:List Value)).take ((l.length+1)*4)=evs l++([.int .u8 7,.int .i64 n,.int .i64 0,.int .u64 0]:List Value):=by
 refine List.take_of_length_le ?_
 rw[List.length_append,jL]
 simp only[List.length_cons,List.length_nil]
 omega
theorem zLg {l:List Ent} {i:Nat} {e:Ent} (h:l[i]?=some e):(zC9 l)[i*3]?=some (.int .i64 e.t)/\(zC9 l)[i*3+1]?=some (.int .u64 e.v):=by
 have h3:=qCq h
 have g:∀j,j<3->(zC9 l)[i*3+j]?=e.cells[j]?:=fun j hj=> by
  rw[←h3,List.getElem?_take,if_pos hj,List.getElem?_drop]
 exact⟨g 0 (by omega),g 1 (by omega)⟩
def jH:List (FuncId × qQ GD):=[(80,qA d80),(137,qA zQb),(139,qA d139),(135,qA zG3),(94,qA d94),(134,qA zKr),
 (92,zNi),(143,zMi),(133,zMj),(88,qA d88),(93,zIo),(144,qA d144),(145,qA d145),(146,qA d146),(147,qA zQa)]
theorem xF:∀x∈jH,qE Tryz.prog cfg x.1 x.2:=by simp[jH,zPm,qGa,qF9,qGb,zWv,qGc,qK4,qF8,qGd,zWw,qK3,qF7,qF6,qF5,qF4]
theorem qFo (s:NS) (hs:s.Ok) (hev:s.ev.length<=100000) (th:Nat) (hth:th<4) (a:Att) (ha:s.ts th=some a) (hk:a.asked=true) (hat:a.at_=4) (ho:s.o=none):zP Tryz.prog cfg 28 [.pointer (some ⟨0,0,none⟩),.int .i64 th] (AH.of [some (.hi (.eng s))])
  fun r H'=> r=.ret (qF).v/\H'=AH.of [some (.hi (.eng ({ s with ts:=zR s.ts th (some { a with seen:=s.c,at_:=5,nx:=0 }) })))]:=by
 refine zP.ends ?_
 generalize hS:(({ s with ts:=zR s.ts th (some { a with seen:=s.c,at_:=5,nx:=0 }) }):NS)=S'
 refine zP.openEng hth fun es cc hes=> ?_
 have ft:=qV hth hes
 have z1:¬(th:Int)<0:=by omega
 have z2:¬4<=(th:Int):=by omega
 have hok:=hs.ts th a ha
 have hac:=jV a hk
 have hk0:¬a.ra.k=0:=by have:=(hok.ask hk).1;omega
 have hel:(s.ev.length+1)*32<=140737488355328/\s.ev.length<=9223372036854775806:=by omega
 have t3:=xJ s.ev
 refine zY (tbl:=jH) xF 0 5 (af:=a28) rfl ?_
 rw[a28,b28,qB]
 refine⟨by simp,?_⟩
 simp -implicitDefEqProofs [qW,jH,qA,forms79,a79,b79,forms83,a83,b83,forms85,a85,b85,forms86,a86,b86,forms136,a136,b136,forms87,a87,b87,forms89,a89,b89,forms90,a90,b90,forms91,a91,b91,forms142,a142,b142,forms138,a138,b138,z1,z2,ha,ft,jI,zD,zH,hac,hk0,hel,t3,jL,d80,hat,ho,zHx]
 have htp:=xS th s.ts (b:={ a with seen:=s.c,at_:=5,nx:=0 }) ha
 rw[←htp] at hes
 subst hS
 have hba:Att.ask { a with seen:=s.c,at_:=5,nx:=0 }=a.ra:=by simp[Att.ask,hk]
 rcases qM hth with rfl|rfl|rfl|rfl
 ·refine zA [.pack (GD.att { a with seen:=s.c,at_:=5,nx:=0 }) 7 [12,13],.pack (GD.eng ({ s with ts:=zR s.ts 0 (some { a with seen:=s.c,at_:=5,nx:=0 }) })) 0 [1,2,3,4,5,6,7,8,9,10]] [0] ?_ ?_ ?_<;> simp[zH,zJ,hba,zR,ha,zD,zZ,o1,o2,o3,Rp.v,Rp.cells,qF,qK,qG,qJ,qI,zX,zW,qH,qC,ho]<;> exact hes
 ·refine zA [.pack (GD.att { a with seen:=s.c,at_:=5,nx:=0 }) 7 [12,13],.pack (GD.eng ({ s with ts:=zR s.ts 1 (some { a with seen:=s.c,at_:=5,nx:=0 }) })) 0 [1,2,3,4,5,6,8,7,9,10]] [0] ?_ ?_ ?_<;> simp[zH,zJ,hba,zR,ha,zD,zZ,o1,o2,o3,Rp.v,Rp.cells,qF,qK,qG,qJ,qI,zX,zW,qH,qC,ho]<;> exact hes
 ·refine zA [.pack (GD.att { a with seen:=s.c,at_:=5,nx:=0 }) 7 [12,13],.pack (GD.eng ({ s with ts:=zR s.ts 2 (some { a with seen:=s.c,at_:=5,nx:=0 }) })) 0 [1,2,3,4,5,6,8,9,7,10]] [0] ?_ ?_ ?_<;> simp[zH,zJ,hba,zR,ha,zD,zZ,o1,o2,o3,Rp.v,Rp.cells,qF,qK,qG,qJ,qI,zX,zW,qH,qC,ho]<;> exact hes
 ·refine zA [.pack (GD.att { a with seen:=s.c,at_:=5,nx:=0 }) 7 [12,13],.pack (GD.eng ({ s with ts:=zR s.ts 3 (some { a with seen:=s.c,at_:=5,nx:=0 }) })) 0 [1,2,3,4,5,6,8,9,10,7]] [0] ?_ ?_ ?_<;> simp[zH,zJ,hba,zR,ha,zD,zZ,o1,o2,o3,Rp.v,Rp.cells,qF,qK,qG,qJ,qI,zX,zW,qH,qC,ho]<;> exact hes
theorem qFn (s:NS) (hs:s.Ok) (hev:s.ev.length<=100000) (th:Nat) (hth:th<4) (a:Att) (ha:s.ts th=some a) (hk:a.asked=true) (hat:a.at_=5) (hx:a.nx=a.es.length):zP Tryz.prog cfg 28 [.pointer (some ⟨0,0,none⟩),.int .i64 th] (AH.of [some (.hi (.eng s))])
  fun r H'=> r=.ret (qF).v/\H'=AH.of [some (.hi (.eng ({ s with ts:=zR s.ts th (some { a with at_:=6 }) })))]:=by
 refine zP.ends ?_
 generalize hS:(({ s with ts:=zR s.ts th (some { a with at_:=6 }) }):NS)=S'
 refine zP.openEng hth fun es cc hes=> ?_
 have ft:=qV hth hes
 have z1:¬(th:Int)<0:=by omega
 have z2:¬4<=(th:Int):=by omega
 have hok:=hs.ts th a ha
 have hac:=jV a hk
 have hk0:¬a.ra.k=0:=by have:=(hok.ask hk).1;omega
 have hel:(s.ev.length+1)*32<=140737488355328/\s.ev.length<=9223372036854775806:=by omega
 have t3:=xJ s.ev
 have hg8:=hok.es.len
 have hgu:=hok.es.uniq
 have hx1:((a.nx:Int)=(a.es.length:Int))=True:=eq_true (by omega)
 have hx2:(a.nx=a.es.length)=True:=eq_true hx
 refine zY (tbl:=jH) xF 0 5 (af:=a28) rfl ?_
 rw[a28,b28,qB]
 refine⟨by simp,?_⟩
 simp -implicitDefEqProofs [qW,jH,qA,forms79,a79,b79,forms83,a83,b83,forms85,a85,b85,forms86,a86,b86,forms136,a136,b136,forms87,a87,b87,forms89,a89,b89,forms90,a90,b90,forms91,a91,b91,forms142,a142,b142,forms138,a138,b138,z1,z2,ha,ft,jI,zD,zH,hac,hk0,hel,t3,jL,zNi,hat,hx1,hx2,hg8,hgu]
 have htp:=xS th s.ts (b:={ a with at_:=6 }) ha
 rw[←htp] at hes
 subst hS
 have hba:Att.ask { a with at_:=6 }=a.ra:=by simp[Att.ask,hk]
 rcases qM hth with rfl|rfl|rfl|rfl
 ·refine zA [.pack (GD.att { a with at_:=6 }) 7 [12,13],.pack (GD.eng ({ s with ts:=zR s.ts 0 (some { a with at_:=6 }) })) 0 [1,2,3,4,5,6,7,8,9,10]] [0] ?_ ?_ ?_<;> simp[zH,zJ,hba,zR,ha,zD,zZ,o1,o2,o3,Rp.v,Rp.cells,qF,qK,qG,qJ,qI,zX,zW,qH,qC]<;> exact hes
 ·refine zA [.pack (GD.att { a with at_:=6 }) 7 [12,13],.pack (GD.eng ({ s with ts:=zR s.ts 1 (some { a with at_:=6 }) })) 0 [1,2,3,4,5,6,8,7,9,10]] [0] ?_ ?_ ?_<;> simp[zH,zJ,hba,zR,ha,zD,zZ,o1,o2,o3,Rp.v,Rp.cells,qF,qK,qG,qJ,qI,zX,zW,qH,qC]<;> exact hes
 ·refine zA [.pack (GD.att { a with at_:=6 }) 7 [12,13],.pack (GD.eng ({ s with ts:=zR s.ts 2 (some { a with at_:=6 }) })) 0 [1,2,3,4,5,6,8,9,7,10]] [0] ?_ ?_ ?_<;> simp[zH,zJ,hba,zR,ha,zD,zZ,o1,o2,o3,Rp.v,Rp.cells,qF,qK,qG,qJ,qI,zX,zW,qH,qC]<;> exact hes
 ·refine zA [.pack (GD.att { a with at_:=6 }) 7 [12,13],.pack (GD.eng ({ s with ts:=zR s.ts 3 (some { a with at_:=6 }) })) 0 [1,2,3,4,5,6,8,9,10,7]] [0] ?_ ?_ ?_<;> simp[zH,zJ,hba,zR,ha,zD,zZ,o1,o2,o3,Rp.v,Rp.cells,qF,qK,qG,qJ,qI,zX,zW,qH,qC]<;> exact hes
theorem qFm (s:NS) (hs:s.Ok) (hev:s.ev.length<=100000) (th:Nat) (hth:th<4) (a:Att) (ha:s.ts th=some a) (hk:a.asked=true) (e:Ent) (hat:a.at_=5) (hx:a.es[a.nx]?=some e) (hsm:zHb ((s.hp[e.t.toNat]?).getD 0) e.v=true):zP Tryz.prog cfg 28 [.pointer (some ⟨0,0,none⟩),.int .i64 th] (AH.of [some (.hi (.eng s))])
  fun r H'=> r=.ret (qF).v/\H'=AH.of [some (.hi (.eng ({ s with ts:=zR s.ts th (some { a with at_:=5,nx:=a.nx+1 }) })))]:=by
 refine zP.ends ?_
 generalize hS:(({ s with ts:=zR s.ts th (some { a with at_:=5,nx:=a.nx+1 }) }):NS)=S'
 refine zP.openEng hth fun es cc hes=> ?_
 have ft:=qV hth hes
 have z1:¬(th:Int)<0:=by omega
 have z2:¬4<=(th:Int):=by omega
 have hok:=hs.ts th a ha
 have hac:=jV a hk
 have hk0:¬a.ra.k=0:=by have:=(hok.ask hk).1;omega
 have hel:(s.ev.length+1)*32<=140737488355328/\s.ev.length<=9223372036854775806:=by omega
 have t3:=xJ s.ev
 have hg8:=hok.es.len
 have hgu:=hok.es.uniq
 have hlt:=(List.getElem?_eq_some_iff.1 hx).1
 have hne:¬(a.nx:Int)=a.es.length:=by omega
 have hlt2:(a.nx:Int)<a.es.length:=by omega
 have her:=hok.es.range e (List.mem_of_getElem? hx)
 have het:=hok.est e (List.mem_of_getElem? hx)
 obtain⟨rx,rv⟩:=zLg hx
 have hnx:=hok.nx
 have hwr:IntKind.i64.wrap ((a.nx:Int)+1)=((a.nx+1:Nat):Int):=by rw[qO (by omega) (by omega)];omega
 obtain⟨y,hy⟩:∃y,s.hp[e.t.toNat]?=some y:=⟨s.hp[e.t.toNat]'(by omega),List.getElem?_eq_getElem (by omega)⟩
 rw[hy,Option.getD_some] at hsm
 have hyv:=hs.hv y (List.mem_of_getElem? hy)
 have uy:=zFw hy
 refine zY (tbl:=jH) xF 0 5 (af:=a28) rfl ?_
 rw[a28,b28,qB]
 refine⟨by simp,?_⟩
 simp -implicitDefEqProofs [qW,jH,qA,forms79,a79,b79,forms83,a83,b83,forms85,a85,b85,forms86,a86,b86,forms136,a136,b136,forms87,a87,b87,forms89,a89,b89,forms90,a90,b90,forms91,a91,b91,forms142,a142,b142,forms138,a138,b138,z1,z2,ha,ft,jI,zD,zH,hac,hk0,hel,t3,jL,zNi,zMj,hat,hne,hlt,hlt2,hg8,hgu,rx,rv,her,het,uy,hsm,hyv,hwr]
 have htp:=xS th s.ts (b:={ a with at_:=5,nx:=a.nx+1 }) ha
 rw[←htp] at hes
 subst hS
 have hba:Att.ask { a with at_:=5,nx:=a.nx+1 }=a.ra:=by simp[Att.ask,hk]
 rcases qM hth with rfl|rfl|rfl|rfl
 ·refine zA [.pack (GD.att { a with at_:=5,nx:=a.nx+1 }) 7 [12,13],.pack (GD.eng ({ s with ts:=zR s.ts 0 (some { a with at_:=5,nx:=a.nx+1 }) })) 0 [1,2,3,4,5,6,7,8,9,10]] [0] ?_ ?_ ?_<;> simp[zH,zJ,hba,zR,ha,zD,zZ,o1,o2,o3,Rp.v,Rp.cells,qF,qK,qG,qJ,qI,zX,zW,qH,qC]<;> exact hes
 ·refine zA [.pack (GD.att { a with at_:=5,nx:=a.nx+1 }) 7 [12,13],.pack (GD.eng ({ s with ts:=zR s.ts 1 (some { a with at_:=5,nx:=a.nx+1 }) })) 0 [1,2,3,4,5,6,8,7,9,10]] [0] ?_ ?_ ?_<;> simp[zH,zJ,hba,zR,ha,zD,zZ,o1,o2,o3,Rp.v,Rp.cells,qF,qK,qG,qJ,qI,zX,zW,qH,qC]<;> exact hes
 ·refine zA [.pack (GD.att { a with at_:=5,nx:=a.nx+1 }) 7 [12,13],.pack (GD.eng ({ s with ts:=zR s.ts 2 (some { a with at_:=5,nx:=a.nx+1 }) })) 0 [1,2,3,4,5,6,8,9,7,10]] [0] ?_ ?_ ?_<;> simp[zH,zJ,hba,zR,ha,zD,zZ,o1,o2,o3,Rp.v,Rp.cells,qF,qK,qG,qJ,qI,zX,zW,qH,qC]<;> exact hes
 ·refine zA [.pack (GD.att { a with at_:=5,nx:=a.nx+1 }) 7 [12,13],.pack (GD.eng ({ s with ts:=zR s.ts 3 (some { a with at_:=5,nx:=a.nx+1 }) })) 0 [1,2,3,4,5,6,8,9,10,7]] [0] ?_ ?_ ?_<;> simp[zH,zJ,hba,zR,ha,zD,zZ,o1,o2,o3,Rp.v,Rp.cells,qF,qK,qG,qJ,qI,zX,zW,qH,qC]<;> exact hes
theorem qFk (s:NS) (hs:s.Ok) (hev:s.ev.length<=100000) (th:Nat) (hth:th<4) (a:Att) (ha:s.ts th=some a) (hk:a.asked=true) (hat:a.at_=6) (hc:s.c=a.seen):zP Tryz.prog cfg 28 [.pointer (some ⟨0,0,none⟩),.int .i64 th] (AH.of [some (.hi (.eng s))])
  fun r H'=> r=.ret (qF).v/\H'=AH.of [some (.hi (.eng ({ s with ts:=zR s.ts th (some { a with snap:=a.seen,at_:=a.back }),ky:=s.ky.set a.n (a.seen+1) })))]:=by
 refine zP.ends ?_
 generalize hS:(({ s with ts:=zR s.ts th (some { a with snap:=a.seen,at_:=a.back }),ky:=s.ky.set a.n (a.seen+1) }):NS)=S'
 refine zP.openEng hth fun es cc hes=> ?_
 have ft:=qV hth hes
 have z1:¬(th:Int)<0:=by omega
 have z2:¬4<=(th:Int):=by omega
 have hok:=hs.ts th a ha
 have hac:=jV a hk
 have hk0:¬a.ra.k=0:=by have:=(hok.ask hk).1;omega
 have hel:(s.ev.length+1)*32<=140737488355328/\s.ev.length<=9223372036854775806:=by omega
 have t3:=xJ s.ev
 have hnk:a.n<s.ky.length:=by have:=hok.n;have:=hs.kw;omega
 have hnk2:(a.n:Int)<s.ky.length:=by omega
 have hnk3:a.n+1<=s.ky.length:=by omega
 have hse:=hok.seen
 have hsc:=hs.c
 have hw1:IntKind.u64.wrap (a.seen+1)=a.seen+1:=zDw (by omega) (by omega)
 refine zY (tbl:=jH) xF 0 5 (af:=a28) rfl ?_
 rw[a28,b28,qB]
 refine⟨by simp,?_⟩
 simp -implicitDefEqProofs [qW,jH,qA,forms79,a79,b79,forms83,a83,b83,forms85,a85,b85,forms86,a86,b86,forms136,a136,b136,forms87,a87,b87,forms89,a89,b89,forms90,a90,b90,forms91,a91,b91,forms142,a142,b142,forms138,a138,b138,z1,z2,ha,ft,jI,zD,zH,hac,hk0,hel,t3,jL,zKr,hat,hc,hnk,hnk2,hnk3,hw1,zC5,qH]
 have htp:=xS th s.ts (b:={ a with snap:=a.seen,at_:=a.back }) ha
 rw[←htp] at hes
 subst hS
 have hba:Att.ask { a with snap:=a.seen,at_:=a.back }=a.ra:=by simp[Att.ask,hk]
 rcases qM hth with rfl|rfl|rfl|rfl
 ·refine zA [.pack (GD.att { a with snap:=a.seen,at_:=a.back }) 7 [12,13],.pack (GD.eng ({ s with ts:=zR s.ts 0 (some { a with snap:=a.seen,at_:=a.back }),ky:=s.ky.set a.n (a.seen+1) })) 0 [1,2,3,4,5,6,7,8,9,10]] [0] ?_ ?_ ?_<;> simp[zH,zJ,hba,zR,ha,zD,zZ,o1,o2,o3,Rp.v,Rp.cells,qF,qK,qG,qJ,qI,zX,zW,qH,qC,hc]<;> exact hes
 ·refine zA [.pack (GD.att { a with snap:=a.seen,at_:=a.back }) 7 [12,13],.pack (GD.eng ({ s with ts:=zR s.ts 1 (some { a with snap:=a.seen,at_:=a.back }),ky:=s.ky.set a.n (a.seen+1) })) 0 [1,2,3,4,5,6,8,7,9,10]] [0] ?_ ?_ ?_<;> simp[zH,zJ,hba,zR,ha,zD,zZ,o1,o2,o3,Rp.v,Rp.cells,qF,qK,qG,qJ,qI,zX,zW,qH,qC,hc]<;> exact hes
 ·refine zA [.pack (GD.att { a with snap:=a.seen,at_:=a.back }) 7 [12,13],.pack (GD.eng ({ s with ts:=zR s.ts 2 (some { a with snap:=a.seen,at_:=a.back }),ky:=s.ky.set a.n (a.seen+1) })) 0 [1,2,3,4,5,6,8,9,7,10]] [0] ?_ ?_ ?_<;> simp[zH,zJ,hba,zR,ha,zD,zZ,o1,o2,o3,Rp.v,Rp.cells,qF,qK,qG,qJ,qI,zX,zW,qH,qC,hc]<;> exact hes
 ·refine zA [.pack (GD.att { a with snap:=a.seen,at_:=a.back }) 7 [12,13],.pack (GD.eng ({ s with ts:=zR s.ts 3 (some { a with snap:=a.seen,at_:=a.back }),ky:=s.ky.set a.n (a.seen+1) })) 0 [1,2,3,4,5,6,8,9,10,7]] [0] ?_ ?_ ?_<;> simp[zH,zJ,hba,zR,ha,zD,zZ,o1,o2,o3,Rp.v,Rp.cells,qF,qK,qG,qJ,qI,zX,zW,qH,qC,hc]<;> exact hes
theorem qFl (s:NS) (hs:s.Ok) (hev:s.ev.length<=100000) (th:Nat) (hth:th<4) (a:Att) (ha:s.ts th=some a) (hk:a.asked=true) (hat:a.at_=6) (hc:¬s.c=a.seen):zP Tryz.prog cfg 28 [.pointer (some ⟨0,0,none⟩),.int .i64 th] (AH.of [some (.hi (.eng s))])
  fun r H'=> r=.ret (qF).v/\H'=AH.of [some (.hi (.eng ({ s with ts:=zR s.ts th (some { a with at_:=4 }) })))]:=by
 refine zP.ends ?_
 generalize hS:(({ s with ts:=zR s.ts th (some { a with at_:=4 }) }):NS)=S'
 refine zP.openEng hth fun es cc hes=> ?_
 have ft:=qV hth hes
 have z1:¬(th:Int)<0:=by omega
 have z2:¬4<=(th:Int):=by omega
 have hok:=hs.ts th a ha
 have hac:=jV a hk
 have hk0:¬a.ra.k=0:=by have:=(hok.ask hk).1;omega
 have hel:(s.ev.length+1)*32<=140737488355328/\s.ev.length<=9223372036854775806:=by omega
 have t3:=xJ s.ev
 refine zY (tbl:=jH) xF 0 5 (af:=a28) rfl ?_
 rw[a28,b28,qB]
 refine⟨by simp,?_⟩
 simp -implicitDefEqProofs [qW,jH,qA,forms79,a79,b79,forms83,a83,b83,forms85,a85,b85,forms86,a86,b86,forms136,a136,b136,forms87,a87,b87,forms89,a89,b89,forms90,a90,b90,forms91,a91,b91,forms142,a142,b142,forms138,a138,b138,z1,z2,ha,ft,jI,zD,zH,hac,hk0,hel,t3,jL,zKr,hat,hc]
 have htp:=xS th s.ts (b:={ a with at_:=4 }) ha
 rw[←htp] at hes
 subst hS
 have hba:Att.ask { a with at_:=4 }=a.ra:=by simp[Att.ask,hk]
 rcases qM hth with rfl|rfl|rfl|rfl
 ·refine zA [.pack (GD.att { a with at_:=4 }) 7 [12,13],.pack (GD.eng ({ s with ts:=zR s.ts 0 (some { a with at_:=4 }) })) 0 [1,2,3,4,5,6,7,8,9,10]] [0] ?_ ?_ ?_<;> simp[zH,zJ,hba,zR,ha,zD,zZ,o1,o2,o3,Rp.v,Rp.cells,qF,qK,qG,qJ,qI,zX,zW,qH,qC]<;> exact hes
 ·refine zA [.pack (GD.att { a with at_:=4 }) 7 [12,13],.pack (GD.eng ({ s with ts:=zR s.ts 1 (some { a with at_:=4 }) })) 0 [1,2,3,4,5,6,8,7,9,10]] [0] ?_ ?_ ?_<;> simp[zH,zJ,hba,zR,ha,zD,zZ,o1,o2,o3,Rp.v,Rp.cells,qF,qK,qG,qJ,qI,zX,zW,qH,qC]<;> exact hes
 ·refine zA [.pack (GD.att { a with at_:=4 }) 7 [12,13],.pack (GD.eng ({ s with ts:=zR s.ts 2 (some { a with at_:=4 }) })) 0 [1,2,3,4,5,6,8,9,7,10]] [0] ?_ ?_ ?_<;> simp[zH,zJ,hba,zR,ha,zD,zZ,o1,o2,o3,Rp.v,Rp.cells,qF,qK,qG,qJ,qI,zX,zW,qH,qC]<;> exact hes
 ·refine zA [.pack (GD.att { a with at_:=4 }) 7 [12,13],.pack (GD.eng ({ s with ts:=zR s.ts 3 (some { a with at_:=4 }) })) 0 [1,2,3,4,5,6,8,9,10,7]] [0] ?_ ?_ ?_<;> simp[zH,zJ,hba,zR,ha,zD,zZ,o1,o2,o3,Rp.v,Rp.cells,qF,qK,qG,qJ,qI,zX,zW,qH,qC]<;> exact hes
theorem qFp (s:NS) (hs:s.Ok) (hev:s.ev.length<=100000) (th:Nat) (hth:th<4) (a:Att) (ha:s.ts th=some a) (hk:a.asked=true) (x:Int) (hat:a.at_=4) (ho:s.o=some x):zP Tryz.prog cfg 28 [.pointer (some ⟨0,0,none⟩),.int .i64 th] (AH.of [some (.hi (.eng s))])
  fun r H'=> r=.ret (qI x).v/\H'=AH.of [some (.hi (.eng (s)))]:=by
 refine zP.ends ?_
 refine zP.openEng hth fun es cc hes=> ?_
 have ft:=qV hth hes
 have z1:¬(th:Int)<0:=by omega
 have z2:¬4<=(th:Int):=by omega
 have hok:=hs.ts th a ha
 have hac:=jV a hk
 have hk0:¬a.ra.k=0:=by have:=(hok.ask hk).1;omega
 have hel:(s.ev.length+1)*32<=140737488355328/\s.ev.length<=9223372036854775806:=by omega
 have t3:=xJ s.ev
 refine zY (tbl:=jH) xF 0 5 (af:=a28) rfl ?_
 rw[a28,b28,qB]
 refine⟨by simp,?_⟩
 simp -implicitDefEqProofs [qW,jH,qA,forms79,a79,b79,forms83,a83,b83,forms85,a85,b85,forms86,a86,b86,forms136,a136,b136,forms87,a87,b87,forms89,a89,b89,forms90,a90,b90,forms91,a91,b91,forms142,a142,b142,forms138,a138,b138,z1,z2,ha,ft,jI,zD,zH,hac,hk0,hel,t3,jL,d80,d94,hat,ho,zHx,zP4]
 have hba:True:=trivial
 rcases qM hth with rfl|rfl|rfl|rfl
 ·refine zA [.pack (GD.att a) 7 [12,13],.pack (GD.eng s) 0 [1,2,3,4,5,6,7,8,9,10]] [0] ?_ ?_ ?_<;> simp[zH,zJ,hba,zR,ha,zD,zZ,o1,o2,o3,Rp.v,Rp.cells,qF,qK,qG,qJ,qI,zX,zW,qH,qC,ho,hac,hat]<;> exact hes
 ·refine zA [.pack (GD.att a) 7 [12,13],.pack (GD.eng s) 0 [1,2,3,4,5,6,8,7,9,10]] [0] ?_ ?_ ?_<;> simp[zH,zJ,hba,zR,ha,zD,zZ,o1,o2,o3,Rp.v,Rp.cells,qF,qK,qG,qJ,qI,zX,zW,qH,qC,ho,hac,hat]<;> exact hes
 ·refine zA [.pack (GD.att a) 7 [12,13],.pack (GD.eng s) 0 [1,2,3,4,5,6,8,9,7,10]] [0] ?_ ?_ ?_<;> simp[zH,zJ,hba,zR,ha,zD,zZ,o1,o2,o3,Rp.v,Rp.cells,qF,qK,qG,qJ,qI,zX,zW,qH,qC,ho,hac,hat]<;> exact hes
 ·refine zA [.pack (GD.att a) 7 [12,13],.pack (GD.eng s) 0 [1,2,3,4,5,6,8,9,10,7]] [0] ?_ ?_ ?_<;> simp[zH,zJ,hba,zR,ha,zD,zZ,o1,o2,o3,Rp.v,Rp.cells,qF,qK,qG,qJ,qI,zX,zW,qH,qC,ho,hac,hat]<;> exact hes
end YtnemoimbeefngaaGreat
end Go.Proofs
namespace Go.Proofs
namespace YtnemoimbeefngaaGreat
open Go.Abs
theorem qA4 (s:NS) (hs:s.Ok) (hev:s.ev.length<=100000) (th:Nat) (hth:th<4) (a:Att) (ha:s.ts th=some a) (hk:a.asked=true) (e:Ent) (hat:a.at_=5) (hx:a.es[a.nx]?=some e) (hsm:zHb ((s.hp[e.t.toNat]?).getD 0) e.v=false) (ho:s.o=some (th:Int)):zP Tryz.prog cfg 28 [.pointer (some ⟨0,0,none⟩),.int .i64 th] (AH.of [some (.hi (.eng s))])
  fun r H'=> r=.ret (qJ 1).v/\H'=AH.of [some (.hi (.eng (qP s th a 1)))]:=by
 refine zP.ends ?_
 generalize hS:((qP s th a 1):NS)=S'
 refine zP.openEng hth fun es cc hes=> ?_
 have ft:=qV hth hes
 have z1:¬(th:Int)<0:=by omega
 have z2:¬4<=(th:Int):=by omega
 have hok:=hs.ts th a ha
 have hac:=jV a hk
 have hk0:¬a.ra.k=0:=by have:=(hok.ask hk).1;omega
 have hel:(s.ev.length+1)*32<=140737488355328/\s.ev.length<=9223372036854775806:=by omega
 have t3:=xJ s.ev
 have hg8:=hok.es.len
 have hgu:=hok.es.uniq
 have hlt:=(List.getElem?_eq_some_iff.1 hx).1
 have hne:¬(a.nx:Int)=a.es.length:=by omega
 have hlt2:(a.nx:Int)<a.es.length:=by omega
 have her:=hok.es.range e (List.mem_of_getElem? hx)
 have het:=hok.est e (List.mem_of_getElem? hx)
 obtain⟨rx,rv⟩:=zLg hx
 obtain⟨y,hy⟩:∃y,s.hp[e.t.toNat]?=some y:=⟨s.hp[e.t.toNat]'(by omega),List.getElem?_eq_getElem (by omega)⟩
 rw[hy,Option.getD_some] at hsm
 have hyv:=hs.hv y (List.mem_of_getElem? hy)
 have uy:=zFw hy
 have hnw3:a.n+1<=s.wy.length:=hok.n
 have hcw:IntKind.u64.wrap (s.c - 1)=s.c - 1:=by have h1:=hs.held _ ho;have h2:=hs.c;exact zDw (by omega) (by omega)
 have hnw:=hok.n
 have hnw2:(a.n:Int)<s.wy.length:=by omega
 obtain⟨es2,hdel,hes2⟩:=zEs hth hes
 refine zY (tbl:=jH) xF 0 5 (af:=a28) rfl ?_
 rw[a28,b28,qB]
 refine⟨by simp,?_⟩
 simp -implicitDefEqProofs [qW,jH,qA,forms79,a79,b79,forms83,a83,b83,forms85,a85,b85,forms86,a86,b86,forms136,a136,b136,forms87,a87,b87,forms89,a89,b89,forms90,a90,b90,forms91,a91,b91,forms142,a142,b142,forms138,a138,b138,z1,z2,ha,ft,jI,zD,zH,hac,hk0,hel,t3,jL,zNi,zMj,hat,hne,hlt,hlt2,hg8,hgu,rx,rv,her,het,uy,hsm,hyv,zG3,ho,hnw,hnw2,hnw3,zCe,qC,hcw,hdel]
 subst hS
 have hba:True:=trivial
 rcases qM hth with rfl|rfl|rfl|rfl
 ·have ho0:s.o=some 0:=ho
  refine zA [.nil 100,.pack (GD.eng (qP s 0 a 1)) 0 [1,2,3,19,5,6,20,8,9,10]] [0] ?_ ?_ ?_<;> simp[zH,zJ,hba,zR,ha,zD,zZ,o1,o2,o3,Rp.v,Rp.cells,qF,qK,qG,qJ,qI,zX,zW,qH,qC,qP,ho0]<;> exact hes2
 ·have ho0:s.o=some 1:=ho
  refine zA [.nil 100,.pack (GD.eng (qP s 1 a 1)) 0 [1,2,3,19,5,6,8,20,9,10]] [0] ?_ ?_ ?_<;> simp[zH,zJ,hba,zR,ha,zD,zZ,o1,o2,o3,Rp.v,Rp.cells,qF,qK,qG,qJ,qI,zX,zW,qH,qC,qP,ho0]<;> exact hes2
 ·have ho0:s.o=some 2:=ho
  refine zA [.nil 100,.pack (GD.eng (qP s 2 a 1)) 0 [1,2,3,19,5,6,8,9,20,10]] [0] ?_ ?_ ?_<;> simp[zH,zJ,hba,zR,ha,zD,zZ,o1,o2,o3,Rp.v,Rp.cells,qF,qK,qG,qJ,qI,zX,zW,qH,qC,qP,ho0]<;> exact hes2
 ·have ho0:s.o=some 3:=ho
  refine zA [.nil 100,.pack (GD.eng (qP s 3 a 1)) 0 [1,2,3,19,5,6,8,9,10,20]] [0] ?_ ?_ ?_<;> simp[zH,zJ,hba,zR,ha,zD,zZ,o1,o2,o3,Rp.v,Rp.cells,qF,qK,qG,qJ,qI,zX,zW,qH,qC,qP,ho0]<;> exact hes2
theorem qA5 (s:NS) (hs:s.Ok) (hev:s.ev.length<=100000) (th:Nat) (hth:th<4) (a:Att) (ha:s.ts th=some a) (hk:a.asked=true) (e:Ent) (hat:a.at_=5) (hx:a.es[a.nx]?=some e) (hsm:zHb ((s.hp[e.t.toNat]?).getD 0) e.v=false) (ho:¬s.o=some (th:Int)):zP Tryz.prog cfg 28 [.pointer (some ⟨0,0,none⟩),.int .i64 th] (AH.of [some (.hi (.eng s))])
  fun r H'=> r=.ret (qJ 1).v/\H'=AH.of [some (.hi (.eng (qP s th a 1)))]:=by
 refine zP.ends ?_
 generalize hS:((qP s th a 1):NS)=S'
 refine zP.openEng hth fun es cc hes=> ?_
 have ft:=qV hth hes
 have z1:¬(th:Int)<0:=by omega
 have z2:¬4<=(th:Int):=by omega
 have hok:=hs.ts th a ha
 have hac:=jV a hk
 have hk0:¬a.ra.k=0:=by have:=(hok.ask hk).1;omega
 have hel:(s.ev.length+1)*32<=140737488355328/\s.ev.length<=9223372036854775806:=by omega
 have t3:=xJ s.ev
 have hg8:=hok.es.len
 have hgu:=hok.es.uniq
 have hlt:=(List.getElem?_eq_some_iff.1 hx).1
 have hne:¬(a.nx:Int)=a.es.length:=by omega
 have hlt2:(a.nx:Int)<a.es.length:=by omega
 have her:=hok.es.range e (List.mem_of_getElem? hx)
 have het:=hok.est e (List.mem_of_getElem? hx)
 obtain⟨rx,rv⟩:=zLg hx
 obtain⟨y,hy⟩:∃y,s.hp[e.t.toNat]?=some y:=⟨s.hp[e.t.toNat]'(by omega),List.getElem?_eq_getElem (by omega)⟩
 rw[hy,Option.getD_some] at hsm
 have hyv:=hs.hv y (List.mem_of_getElem? hy)
 have uy:=zFw hy
 have hnw3:a.n+1<=s.wy.length:=hok.n
 have hnw:=hok.n
 have hnw2:(a.n:Int)<s.wy.length:=by omega
 obtain⟨es2,hdel,hes2⟩:=zEs hth hes
 refine zY (tbl:=jH) xF 0 5 (af:=a28) rfl ?_
 rw[a28,b28,qB]
 refine⟨by simp,?_⟩
 simp -implicitDefEqProofs [qW,jH,qA,forms79,a79,b79,forms83,a83,b83,forms85,a85,b85,forms86,a86,b86,forms136,a136,b136,forms87,a87,b87,forms89,a89,b89,forms90,a90,b90,forms91,a91,b91,forms142,a142,b142,forms138,a138,b138,z1,z2,ha,ft,jI,zD,zH,hac,hk0,hel,t3,jL,zNi,zMj,hat,hne,hlt,hlt2,hg8,hgu,rx,rv,her,het,uy,hsm,hyv,zG3,ho,hnw,hnw2,hnw3,zCe,qC,hdel]
 subst hS
 have hba:True:=trivial
 rcases qM hth with rfl|rfl|rfl|rfl
 ·have ho0:¬s.o=some 0:=ho
  refine zA [.nil 100,.pack (GD.eng (qP s 0 a 1)) 0 [1,2,3,19,5,6,20,8,9,10]] [0] ?_ ?_ ?_<;> simp[zH,zJ,hba,zR,ha,zD,zZ,o1,o2,o3,Rp.v,Rp.cells,qF,qK,qG,qJ,qI,zX,zW,qH,qC,qP,ho0]<;> exact hes2
 ·have ho0:¬s.o=some 1:=ho
  refine zA [.nil 100,.pack (GD.eng (qP s 1 a 1)) 0 [1,2,3,19,5,6,8,20,9,10]] [0] ?_ ?_ ?_<;> simp[zH,zJ,hba,zR,ha,zD,zZ,o1,o2,o3,Rp.v,Rp.cells,qF,qK,qG,qJ,qI,zX,zW,qH,qC,qP,ho0]<;> exact hes2
 ·have ho0:¬s.o=some 2:=ho
  refine zA [.nil 100,.pack (GD.eng (qP s 2 a 1)) 0 [1,2,3,19,5,6,8,9,20,10]] [0] ?_ ?_ ?_<;> simp[zH,zJ,hba,zR,ha,zD,zZ,o1,o2,o3,Rp.v,Rp.cells,qF,qK,qG,qJ,qI,zX,zW,qH,qC,qP,ho0]<;> exact hes2
 ·have ho0:¬s.o=some 3:=ho
  refine zA [.nil 100,.pack (GD.eng (qP s 3 a 1)) 0 [1,2,3,19,5,6,8,9,10,20]] [0] ?_ ?_ ?_<;> simp[zH,zJ,hba,zR,ha,zD,zZ,o1,o2,o3,Rp.v,Rp.cells,qF,qK,qG,qJ,qI,zX,zW,qH,qC,qP,ho0]<;> exact hes2
theorem qFc (s:NS) (hs:s.Ok) (hev:s.ev.length<=100000) (th:Nat) (hth:th<4) (a:Att) (ha:s.ts th=some a) (hk:a.asked=true) (hat:a.at_<4) (hk7:a.ra.k=7) (ho:s.o=some (th:Int)):zP Tryz.prog cfg 28 [.pointer (some ⟨0,0,none⟩),.int .i64 th] (AH.of [some (.hi (.eng s))])
  fun r H'=> r=.ret (qJ 4).v/\H'=AH.of [some (.hi (.eng (qP s th a 4)))]:=by
 refine zP.ends ?_
 generalize hS:((qP s th a 4):NS)=S'
 refine zP.openEng hth fun es cc hes=> ?_
 have ft:=qV hth hes
 have z1:¬(th:Int)<0:=by omega
 have z2:¬4<=(th:Int):=by omega
 have hok:=hs.ts th a ha
 have hac:=jV a hk
 have hk0:¬a.ra.k=0:=by have:=(hok.ask hk).1;omega
 have hel:(s.ev.length+1)*32<=140737488355328/\s.ev.length<=9223372036854775806:=by omega
 have t3:=xJ s.ev
 have hlo:¬4<=(a.at_:Int):=by omega
 have hlo2:¬4<=a.at_:=by omega
 have hnw3:a.n+1<=s.wy.length:=hok.n
 have hcw:IntKind.u64.wrap (s.c - 1)=s.c - 1:=by have h1:=hs.held _ ho;have h2:=hs.c;exact zDw (by omega) (by omega)
 have hnw:=hok.n
 have hnw2:(a.n:Int)<s.wy.length:=by omega
 obtain⟨es2,hdel,hes2⟩:=zEs hth hes
 refine zY (tbl:=jH) xF 0 5 (af:=a28) rfl ?_
 rw[a28,b28,qB]
 refine⟨by simp,?_⟩
 simp -implicitDefEqProofs [qW,jH,qA,forms79,a79,b79,forms83,a83,b83,forms85,a85,b85,forms86,a86,b86,forms136,a136,b136,forms87,a87,b87,forms89,a89,b89,forms90,a90,b90,forms91,a91,b91,forms142,a142,b142,forms138,a138,b138,z1,z2,ha,ft,jI,zD,zH,hac,hk0,hel,t3,jL,hlo,hlo2,hk7,zG3,ho,hnw,hnw2,hnw3,zCe,qC,hcw,hdel]
 subst hS
 have hba:True:=trivial
 rcases qM hth with rfl|rfl|rfl|rfl
 ·have ho0:s.o=some 0:=ho
  refine zA [.nil 100,.pack (GD.eng (qP s 0 a 4)) 0 [1,2,3,17,5,6,18,8,9,10]] [0] ?_ ?_ ?_<;> simp[zH,zJ,hba,zR,ha,zD,zZ,o1,o2,o3,Rp.v,Rp.cells,qF,qK,qG,qJ,qI,zX,zW,qH,qC,qP,ho0]<;> exact hes2
 ·have ho0:s.o=some 1:=ho
  refine zA [.nil 100,.pack (GD.eng (qP s 1 a 4)) 0 [1,2,3,17,5,6,8,18,9,10]] [0] ?_ ?_ ?_<;> simp[zH,zJ,hba,zR,ha,zD,zZ,o1,o2,o3,Rp.v,Rp.cells,qF,qK,qG,qJ,qI,zX,zW,qH,qC,qP,ho0]<;> exact hes2
 ·have ho0:s.o=some 2:=ho
  refine zA [.nil 100,.pack (GD.eng (qP s 2 a 4)) 0 [1,2,3,17,5,6,8,9,18,10]] [0] ?_ ?_ ?_<;> simp[zH,zJ,hba,zR,ha,zD,zZ,o1,o2,o3,Rp.v,Rp.cells,qF,qK,qG,qJ,qI,zX,zW,qH,qC,qP,ho0]<;> exact hes2
 ·have ho0:s.o=some 3:=ho
  refine zA [.nil 100,.pack (GD.eng (qP s 3 a 4)) 0 [1,2,3,17,5,6,8,9,10,18]] [0] ?_ ?_ ?_<;> simp[zH,zJ,hba,zR,ha,zD,zZ,o1,o2,o3,Rp.v,Rp.cells,qF,qK,qG,qJ,qI,zX,zW,qH,qC,qP,ho0]<;> exact hes2
theorem qFd (s:NS) (hs:s.Ok) (hev:s.ev.length<=100000) (th:Nat) (hth:th<4) (a:Att) (ha:s.ts th=some a) (hk:a.asked=true) (hat:a.at_<4) (hk7:a.ra.k=7) (ho:¬s.o=some (th:Int)):zP Tryz.prog cfg 28 [.pointer (some ⟨0,0,none⟩),.int .i64 th] (AH.of [some (.hi (.eng s))])
  fun r H'=> r=.ret (qJ 4).v/\H'=AH.of [some (.hi (.eng (qP s th a 4)))]:=by
 refine zP.ends ?_
 generalize hS:((qP s th a 4):NS)=S'
 refine zP.openEng hth fun es cc hes=> ?_
 have ft:=qV hth hes
 have z1:¬(th:Int)<0:=by omega
 have z2:¬4<=(th:Int):=by omega
 have hok:=hs.ts th a ha
 have hac:=jV a hk
 have hk0:¬a.ra.k=0:=by have:=(hok.ask hk).1;omega
 have hel:(s.ev.length+1)*32<=140737488355328/\s.ev.length<=9223372036854775806:=by omega
 have t3:=xJ s.ev
 have hlo:¬4<=(a.at_:Int):=by omega
 have hlo2:¬4<=a.at_:=by omega
 have hnw3:a.n+1<=s.wy.length:=hok.n
 have hnw:=hok.n
 have hnw2:(a.n:Int)<s.wy.length:=by omega
 obtain⟨es2,hdel,hes2⟩:=zEs hth hes
 refine zY (tbl:=jH) xF 0 5 (af:=a28) rfl ?_
 rw[a28,b28,qB]
 refine⟨by simp,?_⟩
 simp -implicitDefEqProofs [qW,jH,qA,forms79,a79,b79,forms83,a83,b83,forms85,a85,b85,forms86,a86,b86,forms136,a136,b136,forms87,a87,b87,forms89,a89,b89,forms90,a90,b90,forms91,a91,b91,forms142,a142,b142,forms138,a138,b138,z1,z2,ha,ft,jI,zD,zH,hac,hk0,hel,t3,jL,hlo,hlo2,hk7,zG3,ho,hnw,hnw2,hnw3,zCe,qC,hdel]
 subst hS
 have hba:True:=trivial
 rcases qM hth with rfl|rfl|rfl|rfl
 ·have ho0:¬s.o=some 0:=ho
  refine zA [.nil 100,.pack (GD.eng (qP s 0 a 4)) 0 [1,2,3,17,5,6,18,8,9,10]] [0] ?_ ?_ ?_<;> simp[zH,zJ,hba,zR,ha,zD,zZ,o1,o2,o3,Rp.v,Rp.cells,qF,qK,qG,qJ,qI,zX,zW,qH,qC,qP,ho0]<;> exact hes2
 ·have ho0:¬s.o=some 1:=ho
  refine zA [.nil 100,.pack (GD.eng (qP s 1 a 4)) 0 [1,2,3,17,5,6,8,18,9,10]] [0] ?_ ?_ ?_<;> simp[zH,zJ,hba,zR,ha,zD,zZ,o1,o2,o3,Rp.v,Rp.cells,qF,qK,qG,qJ,qI,zX,zW,qH,qC,qP,ho0]<;> exact hes2
 ·have ho0:¬s.o=some 2:=ho
  refine zA [.nil 100,.pack (GD.eng (qP s 2 a 4)) 0 [1,2,3,17,5,6,8,9,18,10]] [0] ?_ ?_ ?_<;> simp[zH,zJ,hba,zR,ha,zD,zZ,o1,o2,o3,Rp.v,Rp.cells,qF,qK,qG,qJ,qI,zX,zW,qH,qC,qP,ho0]<;> exact hes2
 ·have ho0:¬s.o=some 3:=ho
  refine zA [.nil 100,.pack (GD.eng (qP s 3 a 4)) 0 [1,2,3,17,5,6,8,9,10,18]] [0] ?_ ?_ ?_<;> simp[zH,zJ,hba,zR,ha,zD,zZ,o1,o2,o3,Rp.v,Rp.cells,qF,qK,qG,qJ,qI,zX,zW,qH,qC,qP,ho0]<;> exact hes2
end YtnemoimbeefngaaGreat
end Go.Proofs
namespace Go.Proofs
namespace YtnemoimbeefngaaGreat
open Go.Abs
theorem qKw (s:NS) (hs:s.Ok) (hev:s.ev.length<=100000) (th:Nat) (hth:th<4) (a:Att) (ha:s.ts th=some a) (hk:a.asked=true) (hat:a.at_<4) (hk1:a.ra.k=1) (v:Int) (hv:qT a.fs a.ra.t=some v):zP Tryz.prog cfg 28 [.pointer (some ⟨0,0,none⟩),.int .i64 th] (AH.of [some (.hi (.eng s))])
  fun r H'=> r=.ret (qG v).v/\H'=AH.of [some (.hi (.eng (zBd s th (a) v)))]:=by
 refine zP.ends ?_
 generalize hS:((zBd s th (a) v):NS)=S'
 refine zP.openEng hth fun es cc hes=> ?_
 have ft:=qV hth hes
 have z1:¬(th:Int)<0:=by omega
 have z2:¬4<=(th:Int):=by omega
 have hok:=hs.ts th a ha
 have hac:=jV a hk
 have hk0:¬a.ra.k=0:=by have:=(hok.ask hk).1;omega
 have hel:(s.ev.length+1)*32<=140737488355328/\s.ev.length<=9223372036854775806:=by omega
 have t3:=xJ s.ev
 have hlo:¬4<=(a.at_:Int):=by omega
 have hlo2:¬4<=a.at_:=by omega
 have hgl:=hok.fs
 have hra:=(hok.ask hk).2.2.1 (.inl hk1)
 refine zY (tbl:=jH) xF 0 5 (af:=a28) rfl ?_
 rw[a28,b28,qB]
 refine⟨by simp,?_⟩
 simp -implicitDefEqProofs [qW,jH,qA,forms79,a79,b79,forms83,a83,b83,forms85,a85,b85,forms86,a86,b86,forms136,a136,b136,forms87,a87,b87,forms89,a89,b89,forms90,a90,b90,forms91,a91,b91,forms142,a142,b142,forms138,a138,b138,z1,z2,ha,ft,jI,zD,zH,hac,hk0,hel,t3,jL,d88,hlo,hlo2,hk1,hgl,hv,zAd]
 have htp:=xS th s.ts (b:={ (a) with asked:=false }) ha
 rw[←htp] at hes
 subst hS
 have hba:Att.ask { (a) with asked:=false }=⟨0,0,0⟩:=by simp[Att.ask,hk]
 rcases qM hth with rfl|rfl|rfl|rfl
 ·refine zA [.pack (GD.att { (a) with asked:=false }) 7 [12,13],.pack (GD.eng (zBd s 0 (a) v)) 0 [1,2,3,17,5,6,7,8,9,10]] [0] ?_ ?_ ?_<;> simp[zH,zJ,hba,zR,ha,zD,zZ,o1,o2,o3,Rp.v,Rp.cells,qF,qK,qG,qJ,qI,zX,zW,qH,qC,zBd]<;> exact hes
 ·refine zA [.pack (GD.att { (a) with asked:=false }) 7 [12,13],.pack (GD.eng (zBd s 1 (a) v)) 0 [1,2,3,17,5,6,8,7,9,10]] [0] ?_ ?_ ?_<;> simp[zH,zJ,hba,zR,ha,zD,zZ,o1,o2,o3,Rp.v,Rp.cells,qF,qK,qG,qJ,qI,zX,zW,qH,qC,zBd]<;> exact hes
 ·refine zA [.pack (GD.att { (a) with asked:=false }) 7 [12,13],.pack (GD.eng (zBd s 2 (a) v)) 0 [1,2,3,17,5,6,8,9,7,10]] [0] ?_ ?_ ?_<;> simp[zH,zJ,hba,zR,ha,zD,zZ,o1,o2,o3,Rp.v,Rp.cells,qF,qK,qG,qJ,qI,zX,zW,qH,qC,zBd]<;> exact hes
 ·refine zA [.pack (GD.att { (a) with asked:=false }) 7 [12,13],.pack (GD.eng (zBd s 3 (a) v)) 0 [1,2,3,17,5,6,8,9,10,7]] [0] ?_ ?_ ?_<;> simp[zH,zJ,hba,zR,ha,zD,zZ,o1,o2,o3,Rp.v,Rp.cells,qF,qK,qG,qJ,qI,zX,zW,qH,qC,zBd]<;> exact hes
theorem qKx (s:NS) (hs:s.Ok) (hev:s.ev.length<=100000) (th:Nat) (hth:th<4) (a:Att) (ha:s.ts th=some a) (hk:a.asked=true) (hat:a.at_=0) (hk1:a.ra.k=1) (hv:qT a.fs a.ra.t=none) (y:Int) (hy:s.hp[a.ra.t.toNat]?=some y):zP Tryz.prog cfg 28 [.pointer (some ⟨0,0,none⟩),.int .i64 th] (AH.of [some (.hi (.eng s))])
  fun r H'=> r=.ret (qF).v/\H'=AH.of [some (.hi (.eng ({ s with ts:=zR s.ts th (some { a with val:=y,at_:=1 }) })))]:=by
 refine zP.ends ?_
 generalize hS:(({ s with ts:=zR s.ts th (some { a with val:=y,at_:=1 }) }):NS)=S'
 refine zP.openEng hth fun es cc hes=> ?_
 have ft:=qV hth hes
 have z1:¬(th:Int)<0:=by omega
 have z2:¬4<=(th:Int):=by omega
 have hok:=hs.ts th a ha
 have hac:=jV a hk
 have hk0:¬a.ra.k=0:=by have:=(hok.ask hk).1;omega
 have hel:(s.ev.length+1)*32<=140737488355328/\s.ev.length<=9223372036854775806:=by omega
 have t3:=xJ s.ev
 have hgl:=hok.fs
 have hra:=(hok.ask hk).2.2.1 (.inl hk1)
 have uy:=zFw hy
 refine zY (tbl:=jH) xF 0 5 (af:=a28) rfl ?_
 rw[a28,b28,qB]
 refine⟨by simp,?_⟩
 simp -implicitDefEqProofs [qW,jH,qA,forms79,a79,b79,forms83,a83,b83,forms85,a85,b85,forms86,a86,b86,forms136,a136,b136,forms87,a87,b87,forms89,a89,b89,forms90,a90,b90,forms91,a91,b91,forms142,a142,b142,forms138,a138,b138,z1,z2,ha,ft,jI,zD,zH,hac,hk0,hel,t3,jL,d88,hat,hk1,hgl,hv,zAd,hra,uy]
 have htp:=xS th s.ts (b:={ a with val:=y,at_:=1 }) ha
 rw[←htp] at hes
 subst hS
 have hba:Att.ask { a with val:=y,at_:=1 }=a.ra:=by simp[Att.ask,hk]
 rcases qM hth with rfl|rfl|rfl|rfl
 ·refine zA [.pack (GD.att { a with val:=y,at_:=1 }) 7 [12,13],.pack (GD.eng ({ s with ts:=zR s.ts 0 (some { a with val:=y,at_:=1 }) })) 0 [1,2,3,4,5,6,7,8,9,10]] [0] ?_ ?_ ?_<;> simp[zH,zJ,hba,zR,ha,zD,zZ,o1,o2,o3,Rp.v,Rp.cells,qF,qK,qG,qJ,qI,zX,zW,qH,qC,hk1]<;> exact hes
 ·refine zA [.pack (GD.att { a with val:=y,at_:=1 }) 7 [12,13],.pack (GD.eng ({ s with ts:=zR s.ts 1 (some { a with val:=y,at_:=1 }) })) 0 [1,2,3,4,5,6,8,7,9,10]] [0] ?_ ?_ ?_<;> simp[zH,zJ,hba,zR,ha,zD,zZ,o1,o2,o3,Rp.v,Rp.cells,qF,qK,qG,qJ,qI,zX,zW,qH,qC,hk1]<;> exact hes
 ·refine zA [.pack (GD.att { a with val:=y,at_:=1 }) 7 [12,13],.pack (GD.eng ({ s with ts:=zR s.ts 2 (some { a with val:=y,at_:=1 }) })) 0 [1,2,3,4,5,6,8,9,7,10]] [0] ?_ ?_ ?_<;> simp[zH,zJ,hba,zR,ha,zD,zZ,o1,o2,o3,Rp.v,Rp.cells,qF,qK,qG,qJ,qI,zX,zW,qH,qC,hk1]<;> exact hes
 ·refine zA [.pack (GD.att { a with val:=y,at_:=1 }) 7 [12,13],.pack (GD.eng ({ s with ts:=zR s.ts 3 (some { a with val:=y,at_:=1 }) })) 0 [1,2,3,4,5,6,8,9,10,7]] [0] ?_ ?_ ?_<;> simp[zH,zJ,hba,zR,ha,zD,zZ,o1,o2,o3,Rp.v,Rp.cells,qF,qK,qG,qJ,qI,zX,zW,qH,qC,hk1]<;> exact hes
theorem qFa (s:NS) (hs:s.Ok) (hev:s.ev.length<=100000) (th:Nat) (hth:th<4) (a:Att) (ha:s.ts th=some a) (hk:a.asked=true) (hat:a.at_=1) (hk1:a.ra.k=1) (hv:qT a.fs a.ra.t=none) (hc:¬s.c=a.snap):zP Tryz.prog cfg 28 [.pointer (some ⟨0,0,none⟩),.int .i64 th] (AH.of [some (.hi (.eng s))])
  fun r H'=> r=.ret (qF).v/\H'=AH.of [some (.hi (.eng ({ s with ts:=zR s.ts th (some { a with at_:=4,back:=0 }) })))]:=by
 refine zP.ends ?_
 generalize hS:(({ s with ts:=zR s.ts th (some { a with at_:=4,back:=0 }) }):NS)=S'
 refine zP.openEng hth fun es cc hes=> ?_
 have ft:=qV hth hes
 have z1:¬(th:Int)<0:=by omega
 have z2:¬4<=(th:Int):=by omega
 have hok:=hs.ts th a ha
 have hac:=jV a hk
 have hk0:¬a.ra.k=0:=by have:=(hok.ask hk).1;omega
 have hel:(s.ev.length+1)*32<=140737488355328/\s.ev.length<=9223372036854775806:=by omega
 have t3:=xJ s.ev
 have hgl:=hok.fs
 have hra:=(hok.ask hk).2.2.1 (.inl hk1)
 refine zY (tbl:=jH) xF 0 5 (af:=a28) rfl ?_
 rw[a28,b28,qB]
 refine⟨by simp,?_⟩
 simp -implicitDefEqProofs [qW,jH,qA,forms79,a79,b79,forms83,a83,b83,forms85,a85,b85,forms86,a86,b86,forms136,a136,b136,forms87,a87,b87,forms89,a89,b89,forms90,a90,b90,forms91,a91,b91,forms142,a142,b142,forms138,a138,b138,z1,z2,ha,ft,jI,zD,zH,hac,hk0,hel,t3,jL,d88,zKr,hat,hk1,hgl,hv,zAd,hc]
 have htp:=xS th s.ts (b:={ a with at_:=4,back:=0 }) ha
 rw[←htp] at hes
 subst hS
 have hba:Att.ask { a with at_:=4,back:=0 }=a.ra:=by simp[Att.ask,hk]
 rcases qM hth with rfl|rfl|rfl|rfl
 ·refine zA [.pack (GD.att { a with at_:=4,back:=0 }) 7 [12,13],.pack (GD.eng ({ s with ts:=zR s.ts 0 (some { a with at_:=4,back:=0 }) })) 0 [1,2,3,4,5,6,7,8,9,10]] [0] ?_ ?_ ?_<;> simp[zH,zJ,hba,zR,ha,zD,zZ,o1,o2,o3,Rp.v,Rp.cells,qF,qK,qG,qJ,qI,zX,zW,qH,qC,hk1]<;> exact hes
 ·refine zA [.pack (GD.att { a with at_:=4,back:=0 }) 7 [12,13],.pack (GD.eng ({ s with ts:=zR s.ts 1 (some { a with at_:=4,back:=0 }) })) 0 [1,2,3,4,5,6,8,7,9,10]] [0] ?_ ?_ ?_<;> simp[zH,zJ,hba,zR,ha,zD,zZ,o1,o2,o3,Rp.v,Rp.cells,qF,qK,qG,qJ,qI,zX,zW,qH,qC,hk1]<;> exact hes
 ·refine zA [.pack (GD.att { a with at_:=4,back:=0 }) 7 [12,13],.pack (GD.eng ({ s with ts:=zR s.ts 2 (some { a with at_:=4,back:=0 }) })) 0 [1,2,3,4,5,6,8,9,7,10]] [0] ?_ ?_ ?_<;> simp[zH,zJ,hba,zR,ha,zD,zZ,o1,o2,o3,Rp.v,Rp.cells,qF,qK,qG,qJ,qI,zX,zW,qH,qC,hk1]<;> exact hes
 ·refine zA [.pack (GD.att { a with at_:=4,back:=0 }) 7 [12,13],.pack (GD.eng ({ s with ts:=zR s.ts 3 (some { a with at_:=4,back:=0 }) })) 0 [1,2,3,4,5,6,8,9,10,7]] [0] ?_ ?_ ?_<;> simp[zH,zJ,hba,zR,ha,zD,zZ,o1,o2,o3,Rp.v,Rp.cells,qF,qK,qG,qJ,qI,zX,zW,qH,qC,hk1]<;> exact hes
theorem qFb (s:NS) (hs:s.Ok) (hev:s.ev.length<=100000) (th:Nat) (hth:th<4) (a:Att) (ha:s.ts th=some a) (hk:a.asked=true) (hat:a.at_=1) (hk1:a.ra.k=1) (hv:qT a.fs a.ra.t=none) (hc:s.c=a.snap) (hA:zBi a.es ⟨a.ra.t,a.val,0⟩=0):zP Tryz.prog cfg 28 [.pointer (some ⟨0,0,none⟩),.int .i64 th] (AH.of [some (.hi (.eng s))])
  fun r H'=> r=.ret (qG a.val).v/\H'=AH.of [some (.hi (.eng (zBd s th ({ a with es:=zBe a.es ⟨a.ra.t,a.val,0⟩ }) a.val)))]:=by
 refine zP.ends ?_
 generalize hS:((zBd s th ({ a with es:=zBe a.es ⟨a.ra.t,a.val,0⟩ }) a.val):NS)=S'
 refine zP.openEng hth fun es cc hes=> ?_
 have ft:=qV hth hes
 have z1:¬(th:Int)<0:=by omega
 have z2:¬4<=(th:Int):=by omega
 have hok:=hs.ts th a ha
 have hac:=jV a hk
 have hk0:¬a.ra.k=0:=by have:=(hok.ask hk).1;omega
 have hel:(s.ev.length+1)*32<=140737488355328/\s.ev.length<=9223372036854775806:=by omega
 have t3:=xJ s.ev
 have hgl:=hok.fs
 have hra:=(hok.ask hk).2.2.1 (.inl hk1)
 have hgu:=hok.es.uniq
 have hc1:(s.c=a.snap)=True:=eq_true hc
 have hat1:((a.at_:Int)=0)=False:=eq_false (by omega)
 have hat2:(a.at_=0)=False:=eq_false (by omega)
 have hlo:¬4<=(a.at_:Int):=by omega
 have hlo2:¬4<=a.at_:=by omega
 refine zY (tbl:=jH) xF 0 5 (af:=a28) rfl ?_
 rw[a28,b28,qB]
 refine⟨by simp,?_⟩
 simp -implicitDefEqProofs [qW,jH,qA,forms79,a79,b79,forms83,a83,b83,forms85,a85,b85,forms86,a86,b86,forms136,a136,b136,forms87,a87,b87,forms89,a89,b89,forms90,a90,b90,forms91,a91,b91,forms142,a142,b142,forms138,a138,b138,z1,z2,ha,ft,jI,zD,zH,hac,hk0,hel,t3,jL,d88,zKr,zMi,hat1,hat2,hlo,hlo2,hk1,hgl,hv,zAd,hc1,hgu,hA]
 have htp:=xS th s.ts (b:={ ({ a with es:=zBe a.es ⟨a.ra.t,a.val,0⟩ }) with asked:=false }) ha
 rw[←htp] at hes
 subst hS
 have hba:Att.ask { ({ a with es:=zBe a.es ⟨a.ra.t,a.val,0⟩ }) with asked:=false }=⟨0,0,0⟩:=by simp[Att.ask,hk]
 rcases qM hth with rfl|rfl|rfl|rfl
 ·refine zA [.pack (GD.att { ({ a with es:=zBe a.es ⟨a.ra.t,a.val,0⟩ }) with asked:=false }) 7 [12,13],.pack (GD.eng (zBd s 0 ({ a with es:=zBe a.es ⟨a.ra.t,a.val,0⟩ }) a.val)) 0 [1,2,3,18,5,6,7,8,9,10]] [0] ?_ ?_ ?_<;> simp[zH,zJ,hba,zR,ha,zD,zZ,o1,o2,o3,Rp.v,Rp.cells,qF,qK,qG,qJ,qI,zX,zW,qH,qC,zBd]<;> exact hes
 ·refine zA [.pack (GD.att { ({ a with es:=zBe a.es ⟨a.ra.t,a.val,0⟩ }) with asked:=false }) 7 [12,13],.pack (GD.eng (zBd s 1 ({ a with es:=zBe a.es ⟨a.ra.t,a.val,0⟩ }) a.val)) 0 [1,2,3,18,5,6,8,7,9,10]] [0] ?_ ?_ ?_<;> simp[zH,zJ,hba,zR,ha,zD,zZ,o1,o2,o3,Rp.v,Rp.cells,qF,qK,qG,qJ,qI,zX,zW,qH,qC,zBd]<;> exact hes
 ·refine zA [.pack (GD.att { ({ a with es:=zBe a.es ⟨a.ra.t,a.val,0⟩ }) with asked:=false }) 7 [12,13],.pack (GD.eng (zBd s 2 ({ a with es:=zBe a.es ⟨a.ra.t,a.val,0⟩ }) a.val)) 0 [1,2,3,18,5,6,8,9,7,10]] [0] ?_ ?_ ?_<;> simp[zH,zJ,hba,zR,ha,zD,zZ,o1,o2,o3,Rp.v,Rp.cells,qF,qK,qG,qJ,qI,zX,zW,qH,qC,zBd]<;> exact hes
 ·refine zA [.pack (GD.att { ({ a with es:=zBe a.es ⟨a.ra.t,a.val,0⟩ }) with asked:=false }) 7 [12,13],.pack (GD.eng (zBd s 3 ({ a with es:=zBe a.es ⟨a.ra.t,a.val,0⟩ }) a.val)) 0 [1,2,3,18,5,6,8,9,10,7]] [0] ?_ ?_ ?_<;> simp[zH,zJ,hba,zR,ha,zD,zZ,o1,o2,o3,Rp.v,Rp.cells,qF,qK,qG,qJ,qI,zX,zW,qH,qC,zBd]<;> exact hes
theorem qA1 (s:NS) (hs:s.Ok) (hev:s.ev.length<=100000) (th:Nat) (hth:th<4) (a:Att) (ha:s.ts th=some a) (hk:a.asked=true) (hat:a.at_=1) (hk1:a.ra.k=1) (hv:qT a.fs a.ra.t=none) (hc:s.c=a.snap) (hA:¬zBi a.es ⟨a.ra.t,a.val,0⟩=0) (ho:s.o=some (th:Int)):zP Tryz.prog cfg 28 [.pointer (some ⟨0,0,none⟩),.int .i64 th] (AH.of [some (.hi (.eng s))])
  fun r H'=> r=.ret (qJ 2).v/\H'=AH.of [some (.hi (.eng (qP s th a 2)))]:=by
 refine zP.ends ?_
 generalize hS:((qP s th a 2):NS)=S'
 refine zP.openEng hth fun es cc hes=> ?_
 have ft:=qV hth hes
 have z1:¬(th:Int)<0:=by omega
 have z2:¬4<=(th:Int):=by omega
 have hok:=hs.ts th a ha
 have hac:=jV a hk
 have hk0:¬a.ra.k=0:=by have:=(hok.ask hk).1;omega
 have hel:(s.ev.length+1)*32<=140737488355328/\s.ev.length<=9223372036854775806:=by omega
 have t3:=xJ s.ev
 have hgl:=hok.fs
 have hra:=(hok.ask hk).2.2.1 (.inl hk1)
 have hgu:=hok.es.uniq
 have hc1:(s.c=a.snap)=True:=eq_true hc
 have hnw3:a.n+1<=s.wy.length:=hok.n
 have hcw:IntKind.u64.wrap (s.c - 1)=s.c - 1:=by have h1:=hs.held _ ho;have h2:=hs.c;exact zDw (by omega) (by omega)
 have hnw:=hok.n
 have hnw2:(a.n:Int)<s.wy.length:=by omega
 obtain⟨es2,hdel,hes2⟩:=zEs hth hes
 refine zY (tbl:=jH) xF 0 5 (af:=a28) rfl ?_
 rw[a28,b28,qB]
 refine⟨by simp,?_⟩
 simp -implicitDefEqProofs [qW,jH,qA,forms79,a79,b79,forms83,a83,b83,forms85,a85,b85,forms86,a86,b86,forms136,a136,b136,forms87,a87,b87,forms89,a89,b89,forms90,a90,b90,forms91,a91,b91,forms142,a142,b142,forms138,a138,b138,z1,z2,ha,ft,jI,zD,zH,hac,hk0,hel,t3,jL,d88,zKr,zMi,hat,hk1,hgl,hv,zAd,hc1,hgu,hA,zG3,ho,hnw,hnw2,hnw3,zCe,qC,hcw,hdel]
 subst hS
 have hba:True:=trivial
 rcases qM hth with rfl|rfl|rfl|rfl
 ·have ho0:s.o=some 0:=ho
  refine zA [.nil 100,.pack (GD.eng (qP s 0 a 2)) 0 [1,2,3,18,5,6,19,8,9,10]] [0] ?_ ?_ ?_<;> simp[zH,zJ,hba,zR,ha,zD,zZ,o1,o2,o3,Rp.v,Rp.cells,qF,qK,qG,qJ,qI,zX,zW,qH,qC,qP,ho0]<;> exact hes2
 ·have ho0:s.o=some 1:=ho
  refine zA [.nil 100,.pack (GD.eng (qP s 1 a 2)) 0 [1,2,3,18,5,6,8,19,9,10]] [0] ?_ ?_ ?_<;> simp[zH,zJ,hba,zR,ha,zD,zZ,o1,o2,o3,Rp.v,Rp.cells,qF,qK,qG,qJ,qI,zX,zW,qH,qC,qP,ho0]<;> exact hes2
 ·have ho0:s.o=some 2:=ho
  refine zA [.nil 100,.pack (GD.eng (qP s 2 a 2)) 0 [1,2,3,18,5,6,8,9,19,10]] [0] ?_ ?_ ?_<;> simp[zH,zJ,hba,zR,ha,zD,zZ,o1,o2,o3,Rp.v,Rp.cells,qF,qK,qG,qJ,qI,zX,zW,qH,qC,qP,ho0]<;> exact hes2
 ·have ho0:s.o=some 3:=ho
  refine zA [.nil 100,.pack (GD.eng (qP s 3 a 2)) 0 [1,2,3,18,5,6,8,9,10,19]] [0] ?_ ?_ ?_<;> simp[zH,zJ,hba,zR,ha,zD,zZ,o1,o2,o3,Rp.v,Rp.cells,qF,qK,qG,qJ,qI,zX,zW,qH,qC,qP,ho0]<;> exact hes2
theorem qA2 (s:NS) (hs:s.Ok) (hev:s.ev.length<=100000) (th:Nat) (hth:th<4) (a:Att) (ha:s.ts th=some a) (hk:a.asked=true) (hat:a.at_=1) (hk1:a.ra.k=1) (hv:qT a.fs a.ra.t=none) (hc:s.c=a.snap) (hA:¬zBi a.es ⟨a.ra.t,a.val,0⟩=0) (ho:¬s.o=some (th:Int)):zP Tryz.prog cfg 28 [.pointer (some ⟨0,0,none⟩),.int .i64 th] (AH.of [some (.hi (.eng s))])
  fun r H'=> r=.ret (qJ 2).v/\H'=AH.of [some (.hi (.eng (qP s th a 2)))]:=by
 refine zP.ends ?_
 generalize hS:((qP s th a 2):NS)=S'
 refine zP.openEng hth fun es cc hes=> ?_
 have ft:=qV hth hes
 have z1:¬(th:Int)<0:=by omega
 have z2:¬4<=(th:Int):=by omega
 have hok:=hs.ts th a ha
 have hac:=jV a hk
 have hk0:¬a.ra.k=0:=by have:=(hok.ask hk).1;omega
 have hel:(s.ev.length+1)*32<=140737488355328/\s.ev.length<=9223372036854775806:=by omega
 have t3:=xJ s.ev
 have hgl:=hok.fs
 have hra:=(hok.ask hk).2.2.1 (.inl hk1)
 have hgu:=hok.es.uniq
 have hc1:(s.c=a.snap)=True:=eq_true hc
 have hnw3:a.n+1<=s.wy.length:=hok.n
 have hnw:=hok.n
 have hnw2:(a.n:Int)<s.wy.length:=by omega
 obtain⟨es2,hdel,hes2⟩:=zEs hth hes
 refine zY (tbl:=jH) xF 0 5 (af:=a28) rfl ?_
 rw[a28,b28,qB]
 refine⟨by simp,?_⟩
 simp -implicitDefEqProofs [qW,jH,qA,forms79,a79,b79,forms83,a83,b83,forms85,a85,b85,forms86,a86,b86,forms136,a136,b136,forms87,a87,b87,forms89,a89,b89,forms90,a90,b90,forms91,a91,b91,forms142,a142,b142,forms138,a138,b138,z1,z2,ha,ft,jI,zD,zH,hac,hk0,hel,t3,jL,d88,zKr,zMi,hat,hk1,hgl,hv,zAd,hc1,hgu,hA,zG3,ho,hnw,hnw2,hnw3,zCe,qC,hdel]
 subst hS
 have hba:True:=trivial
 rcases qM hth with rfl|rfl|rfl|rfl
 ·have ho0:¬s.o=some 0:=ho
  refine zA [.nil 100,.pack (GD.eng (qP s 0 a 2)) 0 [1,2,3,18,5,6,19,8,9,10]] [0] ?_ ?_ ?_<;> simp[zH,zJ,hba,zR,ha,zD,zZ,o1,o2,o3,Rp.v,Rp.cells,qF,qK,qG,qJ,qI,zX,zW,qH,qC,qP,ho0]<;> exact hes2
 ·have ho0:¬s.o=some 1:=ho
  refine zA [.nil 100,.pack (GD.eng (qP s 1 a 2)) 0 [1,2,3,18,5,6,8,19,9,10]] [0] ?_ ?_ ?_<;> simp[zH,zJ,hba,zR,ha,zD,zZ,o1,o2,o3,Rp.v,Rp.cells,qF,qK,qG,qJ,qI,zX,zW,qH,qC,qP,ho0]<;> exact hes2
 ·have ho0:¬s.o=some 2:=ho
  refine zA [.nil 100,.pack (GD.eng (qP s 2 a 2)) 0 [1,2,3,18,5,6,8,9,19,10]] [0] ?_ ?_ ?_<;> simp[zH,zJ,hba,zR,ha,zD,zZ,o1,o2,o3,Rp.v,Rp.cells,qF,qK,qG,qJ,qI,zX,zW,qH,qC,qP,ho0]<;> exact hes2
 ·have ho0:¬s.o=some 3:=ho
  refine zA [.nil 100,.pack (GD.eng (qP s 3 a 2)) 0 [1,2,3,18,5,6,8,9,10,19]] [0] ?_ ?_ ?_<;> simp[zH,zJ,hba,zR,ha,zD,zZ,o1,o2,o3,Rp.v,Rp.cells,qF,qK,qG,qJ,qI,zX,zW,qH,qC,qP,ho0]<;> exact hes2
end YtnemoimbeefngaaGreat
end Go.Proofs
namespace Go.Proofs
namespace YtnemoimbeefngaaGreat
open Go.Abs
theorem qFj (s:NS) (hs:s.Ok) (hev:s.ev.length<=100000) (th:Nat) (hth:th<4) (a:Att) (ha:s.ts th=some a) (hk:a.asked=true) (hat:a.at_=0) (hk6:a.ra.k=6) (hall:jO a.fs=[]):zP Tryz.prog cfg 28 [.pointer (some ⟨0,0,none⟩),.int .i64 th] (AH.of [some (.hi (.eng s))])
  fun r H'=> r=.ret (qJ 0).v/\H'=AH.of [some (.hi (.eng (xG ({ s with ev:=s.ev++[⟨7,a.n,0,0⟩] }) th a)))]:=by
 refine zP.ends ?_
 generalize hS:((xG ({ s with ev:=s.ev++[⟨7,a.n,0,0⟩] }) th a):NS)=S'
 refine zP.openEng hth fun es cc hes=> ?_
 have ft:=qV hth hes
 have z1:¬(th:Int)<0:=by omega
 have z2:¬4<=(th:Int):=by omega
 have hok:=hs.ts th a ha
 have hac:=jV a hk
 have hk0:¬a.ra.k=0:=by have:=(hok.ask hk).1;omega
 have hel:(s.ev.length+1)*32<=140737488355328/\s.ev.length<=9223372036854775806:=by omega
 have t3:=xJ s.ev
 have hgl:=hok.fs
 have hel2:=qIj hev
 have t5:=qAw s.ev a.n
 obtain⟨es2,hdel,hes2⟩:=zEs hth hes
 refine zY (tbl:=jH) xF 0 5 (af:=a28) rfl ?_
 rw[a28,b28,qB]
 refine⟨by simp,?_⟩
 simp -implicitDefEqProofs [qW,jH,qA,forms79,a79,b79,forms83,a83,b83,forms85,a85,b85,forms86,a86,b86,forms136,a136,b136,forms87,a87,b87,forms89,a89,b89,forms90,a90,b90,forms91,a91,b91,forms142,a142,b142,forms138,a138,b138,z1,z2,ha,ft,jI,zD,zH,hac,hk0,hel,t3,jL,zIo,hat,hk6,hgl,hall,hel2,t5,prs,hdel]
 refine⟨⟨by omega,by omega⟩,?_⟩
 subst hS
 have hba:True:=trivial
 rcases qM hth with rfl|rfl|rfl|rfl
 ·refine zA [.nil 100,.pack (GD.eng (xG ({ s with ev:=s.ev++[⟨7,a.n,0,0⟩] }) 0 a)) 0 [1,2,3,22,5,6,23,8,9,10]] [0] ?_ ?_ ?_<;> simp[zH,zJ,hba,zR,ha,zD,zZ,o1,o2,o3,Rp.v,Rp.cells,qF,qK,qG,qJ,qI,zX,zW,qH,qC,zX,zW,zKp,xG]<;> exact hes2
 ·refine zA [.nil 100,.pack (GD.eng (xG ({ s with ev:=s.ev++[⟨7,a.n,0,0⟩] }) 1 a)) 0 [1,2,3,22,5,6,8,23,9,10]] [0] ?_ ?_ ?_<;> simp[zH,zJ,hba,zR,ha,zD,zZ,o1,o2,o3,Rp.v,Rp.cells,qF,qK,qG,qJ,qI,zX,zW,qH,qC,zX,zW,zKp,xG]<;> exact hes2
 ·refine zA [.nil 100,.pack (GD.eng (xG ({ s with ev:=s.ev++[⟨7,a.n,0,0⟩] }) 2 a)) 0 [1,2,3,22,5,6,8,9,23,10]] [0] ?_ ?_ ?_<;> simp[zH,zJ,hba,zR,ha,zD,zZ,o1,o2,o3,Rp.v,Rp.cells,qF,qK,qG,qJ,qI,zX,zW,qH,qC,zX,zW,zKp,xG]<;> exact hes2
 ·refine zA [.nil 100,.pack (GD.eng (xG ({ s with ev:=s.ev++[⟨7,a.n,0,0⟩] }) 3 a)) 0 [1,2,3,22,5,6,8,9,10,23]] [0] ?_ ?_ ?_<;> simp[zH,zJ,hba,zR,ha,zD,zZ,o1,o2,o3,Rp.v,Rp.cells,qF,qK,qG,qJ,qI,zX,zW,qH,qC,zX,zW,zKp,xG]<;> exact hes2
theorem qFi (s:NS) (hs:s.Ok) (hev:s.ev.length<=100000) (th:Nat) (hth:th<4) (a:Att) (ha:s.ts th=some a) (hk:a.asked=true) (hat:a.at_=0) (hk6:a.ra.k=6) (hall:¬jO a.fs=[]):zP Tryz.prog cfg 28 [.pointer (some ⟨0,0,none⟩),.int .i64 th] (AH.of [some (.hi (.eng s))])
  fun r H'=> r=.ret (qF).v/\H'=AH.of [some (.hi (.eng ({ s with ts:=zR s.ts th (some { a with at_:=1 }),ev:=s.ev++[⟨7,a.n,0,0⟩] })))]:=by
 refine zP.ends ?_
 generalize hS:(({ s with ts:=zR s.ts th (some { a with at_:=1 }),ev:=s.ev++[⟨7,a.n,0,0⟩] }):NS)=S'
 refine zP.openEng hth fun es cc hes=> ?_
 have ft:=qV hth hes
 have z1:¬(th:Int)<0:=by omega
 have z2:¬4<=(th:Int):=by omega
 have hok:=hs.ts th a ha
 have hac:=jV a hk
 have hk0:¬a.ra.k=0:=by have:=(hok.ask hk).1;omega
 have hel:(s.ev.length+1)*32<=140737488355328/\s.ev.length<=9223372036854775806:=by omega
 have t3:=xJ s.ev
 have hgl:=hok.fs
 have hln:¬(jO a.fs).length=0:=fun h=> hall (List.length_eq_zero_iff.1 h)
 have hln2:¬((jO a.fs).length:Int)=0:=by omega
 refine zY (tbl:=jH) xF 0 5 (af:=a28) rfl ?_
 rw[a28,b28,qB]
 refine⟨by simp,?_⟩
 simp -implicitDefEqProofs [qW,jH,qA,forms79,a79,b79,forms83,a83,b83,forms85,a85,b85,forms86,a86,b86,forms136,a136,b136,forms87,a87,b87,forms89,a89,b89,forms90,a90,b90,forms91,a91,b91,forms142,a142,b142,forms138,a138,b138,z1,z2,ha,ft,jI,zD,zH,hac,hk0,hel,t3,jL,zIo,hat,hk6,hgl,hall,hln,hln2]
 have htp:=xS th s.ts (b:={ a with at_:=1 }) ha
 rw[←htp] at hes
 subst hS
 have hba:Att.ask { a with at_:=1 }=a.ra:=by simp[Att.ask,hk]
 rcases qM hth with rfl|rfl|rfl|rfl
 ·refine zA [.pack (GD.att { a with at_:=1 }) 7 [12,13],.pack (GD.eng ({ s with ts:=zR s.ts 0 (some { a with at_:=1 }),ev:=s.ev++[⟨7,a.n,0,0⟩] })) 0 [1,2,3,18,5,6,7,8,9,10]] [0] ?_ ?_ ?_<;> simp[zH,zJ,hba,zR,ha,zD,zZ,o1,o2,o3,Rp.v,Rp.cells,qF,qK,qG,qJ,qI,zX,zW,qH,qC,hk6]<;> exact hes
 ·refine zA [.pack (GD.att { a with at_:=1 }) 7 [12,13],.pack (GD.eng ({ s with ts:=zR s.ts 1 (some { a with at_:=1 }),ev:=s.ev++[⟨7,a.n,0,0⟩] })) 0 [1,2,3,18,5,6,8,7,9,10]] [0] ?_ ?_ ?_<;> simp[zH,zJ,hba,zR,ha,zD,zZ,o1,o2,o3,Rp.v,Rp.cells,qF,qK,qG,qJ,qI,zX,zW,qH,qC,hk6]<;> exact hes
 ·refine zA [.pack (GD.att { a with at_:=1 }) 7 [12,13],.pack (GD.eng ({ s with ts:=zR s.ts 2 (some { a with at_:=1 }),ev:=s.ev++[⟨7,a.n,0,0⟩] })) 0 [1,2,3,18,5,6,8,9,7,10]] [0] ?_ ?_ ?_<;> simp[zH,zJ,hba,zR,ha,zD,zZ,o1,o2,o3,Rp.v,Rp.cells,qF,qK,qG,qJ,qI,zX,zW,qH,qC,hk6]<;> exact hes
 ·refine zA [.pack (GD.att { a with at_:=1 }) 7 [12,13],.pack (GD.eng ({ s with ts:=zR s.ts 3 (some { a with at_:=1 }),ev:=s.ev++[⟨7,a.n,0,0⟩] })) 0 [1,2,3,18,5,6,8,9,10,7]] [0] ?_ ?_ ?_<;> simp[zH,zJ,hba,zR,ha,zD,zZ,o1,o2,o3,Rp.v,Rp.cells,qF,qK,qG,qJ,qI,zX,zW,qH,qC,hk6]<;> exact hes
theorem qFg (s:NS) (hs:s.Ok) (hev:s.ev.length<=100000) (th:Nat) (hth:th<4) (a:Att) (ha:s.ts th=some a) (hk:a.asked=true) (hat:a.at_=1) (hk6:a.ra.k=6) (ht:zDx s.o s.c th a.snap=0):zP Tryz.prog cfg 28 [.pointer (some ⟨0,0,none⟩),.int .i64 th] (AH.of [some (.hi (.eng s))])
  fun r H'=> r=.ret (qF).v/\H'=AH.of [some (.hi (.eng ({ s with ts:=zR s.ts th (some { a with dec:=true,at_:=2,nx:=0 }),o:=some (th:Int),c:=s.c+1,ky:=s.ky.set a.n (a.snap+2) })))]:=by
 refine zP.ends ?_
 generalize hS:(({ s with ts:=zR s.ts th (some { a with dec:=true,at_:=2,nx:=0 }),o:=some (th:Int),c:=s.c+1,ky:=s.ky.set a.n (a.snap+2) }):NS)=S'
 refine zP.openEng hth fun es cc hes=> ?_
 have ft:=qV hth hes
 have z1:¬(th:Int)<0:=by omega
 have z2:¬4<=(th:Int):=by omega
 have hok:=hs.ts th a ha
 have hac:=jV a hk
 have hk0:¬a.ra.k=0:=by have:=(hok.ask hk).1;omega
 have hel:(s.ev.length+1)*32<=140737488355328/\s.ev.length<=9223372036854775806:=by omega
 have t3:=xJ s.ev
 have hgl:=hok.fs
 have hnk:a.n<s.ky.length:=by have:=hok.n;have:=hs.kw;omega
 have hnk2:(a.n:Int)<s.ky.length:=by omega
 have hnk3:a.n+1<=s.ky.length:=by omega
 have hsc:=hs.c
 have hsn:=hok.snap
 have hw1:IntKind.u64.wrap (a.snap+2)=a.snap+2:=zDw (by omega) (by omega)
 have hw2:IntKind.u64.wrap (s.c+1)=s.c+1:=zDw (by omega) (by omega)
 refine zY (tbl:=jH) xF 0 5 (af:=a28) rfl ?_
 rw[a28,b28,qB]
 refine⟨by simp,?_⟩
 simp -implicitDefEqProofs [qW,jH,qA,forms79,a79,b79,forms83,a83,b83,forms85,a85,b85,forms86,a86,b86,forms136,a136,b136,forms87,a87,b87,forms89,a89,b89,forms90,a90,b90,forms91,a91,b91,forms142,a142,b142,forms138,a138,b138,z1,z2,ha,ft,jI,zD,zH,hac,hk0,hel,t3,jL,zIo,zQb,hat,hk6,hgl,ht,hnk,hnk2,hnk3,hw1,hw2,zC5,qH]
 have htp:=xS th s.ts (b:={ a with dec:=true,at_:=2,nx:=0 }) ha
 rw[←htp] at hes
 subst hS
 have hba:Att.ask { a with dec:=true,at_:=2,nx:=0 }=a.ra:=by simp[Att.ask,hk]
 rcases qM hth with rfl|rfl|rfl|rfl
 ·refine zA [.pack (GD.att { a with dec:=true,at_:=2,nx:=0 }) 7 [12,13],.pack (GD.eng ({ s with ts:=zR s.ts 0 (some { a with dec:=true,at_:=2,nx:=0 }),o:=some (0:Int),c:=s.c+1,ky:=s.ky.set a.n (a.snap+2) })) 0 [1,2,3,4,5,6,7,8,9,10]] [0] ?_ ?_ ?_<;> simp[zH,zJ,hba,zR,ha,zD,zZ,o1,o2,o3,Rp.v,Rp.cells,qF,qK,qG,qJ,qI,zX,zW,qH,qC,hk6]<;> exact hes
 ·refine zA [.pack (GD.att { a with dec:=true,at_:=2,nx:=0 }) 7 [12,13],.pack (GD.eng ({ s with ts:=zR s.ts 1 (some { a with dec:=true,at_:=2,nx:=0 }),o:=some (1:Int),c:=s.c+1,ky:=s.ky.set a.n (a.snap+2) })) 0 [1,2,3,4,5,6,8,7,9,10]] [0] ?_ ?_ ?_<;> simp[zH,zJ,hba,zR,ha,zD,zZ,o1,o2,o3,Rp.v,Rp.cells,qF,qK,qG,qJ,qI,zX,zW,qH,qC,hk6]<;> exact hes
 ·refine zA [.pack (GD.att { a with dec:=true,at_:=2,nx:=0 }) 7 [12,13],.pack (GD.eng ({ s with ts:=zR s.ts 2 (some { a with dec:=true,at_:=2,nx:=0 }),o:=some (2:Int),c:=s.c+1,ky:=s.ky.set a.n (a.snap+2) })) 0 [1,2,3,4,5,6,8,9,7,10]] [0] ?_ ?_ ?_<;> simp[zH,zJ,hba,zR,ha,zD,zZ,o1,o2,o3,Rp.v,Rp.cells,qF,qK,qG,qJ,qI,zX,zW,qH,qC,hk6]<;> exact hes
 ·refine zA [.pack (GD.att { a with dec:=true,at_:=2,nx:=0 }) 7 [12,13],.pack (GD.eng ({ s with ts:=zR s.ts 3 (some { a with dec:=true,at_:=2,nx:=0 }),o:=some (3:Int),c:=s.c+1,ky:=s.ky.set a.n (a.snap+2) })) 0 [1,2,3,4,5,6,8,9,10,7]] [0] ?_ ?_ ?_<;> simp[zH,zJ,hba,zR,ha,zD,zZ,o1,o2,o3,Rp.v,Rp.cells,qF,qK,qG,qJ,qI,zX,zW,qH,qC,hk6]<;> exact hes
theorem qA3 (s:NS) (hs:s.Ok) (hev:s.ev.length<=100000) (th:Nat) (hth:th<4) (a:Att) (ha:s.ts th=some a) (hk:a.asked=true) (hat:a.at_=1) (hk6:a.ra.k=6) (ht:zDx s.o s.c th a.snap=4) (ho:¬s.o=some (th:Int)):zP Tryz.prog cfg 28 [.pointer (some ⟨0,0,none⟩),.int .i64 th] (AH.of [some (.hi (.eng s))])
  fun r H'=> r=.ret (qJ 2).v/\H'=AH.of [some (.hi (.eng (qP s th a 2)))]:=by
 refine zP.ends ?_
 generalize hS:((qP s th a 2):NS)=S'
 refine zP.openEng hth fun es cc hes=> ?_
 have ft:=qV hth hes
 have z1:¬(th:Int)<0:=by omega
 have z2:¬4<=(th:Int):=by omega
 have hok:=hs.ts th a ha
 have hac:=jV a hk
 have hk0:¬a.ra.k=0:=by have:=(hok.ask hk).1;omega
 have hel:(s.ev.length+1)*32<=140737488355328/\s.ev.length<=9223372036854775806:=by omega
 have t3:=xJ s.ev
 have hgl:=hok.fs
 have hnw3:a.n+1<=s.wy.length:=hok.n
 have hnw:=hok.n
 have hnw2:(a.n:Int)<s.wy.length:=by omega
 obtain⟨es2,hdel,hes2⟩:=zEs hth hes
 refine zY (tbl:=jH) xF 0 5 (af:=a28) rfl ?_
 rw[a28,b28,qB]
 refine⟨by simp,?_⟩
 simp -implicitDefEqProofs [qW,jH,qA,forms79,a79,b79,forms83,a83,b83,forms85,a85,b85,forms86,a86,b86,forms136,a136,b136,forms87,a87,b87,forms89,a89,b89,forms90,a90,b90,forms91,a91,b91,forms142,a142,b142,forms138,a138,b138,z1,z2,ha,ft,jI,zD,zH,hac,hk0,hel,t3,jL,zIo,zQb,hat,hk6,hgl,ht,zG3,ho,hnw,hnw2,hnw3,zCe,qC,hdel]
 subst hS
 have hba:True:=trivial
 rcases qM hth with rfl|rfl|rfl|rfl
 ·have ho0:¬s.o=some 0:=ho
  refine zA [.nil 100,.pack (GD.eng (qP s 0 a 2)) 0 [1,2,3,19,5,6,20,8,9,10]] [0] ?_ ?_ ?_<;> simp[zH,zJ,hba,zR,ha,zD,zZ,o1,o2,o3,Rp.v,Rp.cells,qF,qK,qG,qJ,qI,zX,zW,qH,qC,qP,ho0]<;> exact hes2
 ·have ho0:¬s.o=some 1:=ho
  refine zA [.nil 100,.pack (GD.eng (qP s 1 a 2)) 0 [1,2,3,19,5,6,8,20,9,10]] [0] ?_ ?_ ?_<;> simp[zH,zJ,hba,zR,ha,zD,zZ,o1,o2,o3,Rp.v,Rp.cells,qF,qK,qG,qJ,qI,zX,zW,qH,qC,qP,ho0]<;> exact hes2
 ·have ho0:¬s.o=some 2:=ho
  refine zA [.nil 100,.pack (GD.eng (qP s 2 a 2)) 0 [1,2,3,19,5,6,8,9,20,10]] [0] ?_ ?_ ?_<;> simp[zH,zJ,hba,zR,ha,zD,zZ,o1,o2,o3,Rp.v,Rp.cells,qF,qK,qG,qJ,qI,zX,zW,qH,qC,qP,ho0]<;> exact hes2
 ·have ho0:¬s.o=some 3:=ho
  refine zA [.nil 100,.pack (GD.eng (qP s 3 a 2)) 0 [1,2,3,19,5,6,8,9,10,20]] [0] ?_ ?_ ?_<;> simp[zH,zJ,hba,zR,ha,zD,zZ,o1,o2,o3,Rp.v,Rp.cells,qF,qK,qG,qJ,qI,zX,zW,qH,qC,qP,ho0]<;> exact hes2
theorem qFh (s:NS) (hs:s.Ok) (hev:s.ev.length<=100000) (th:Nat) (hth:th<4) (a:Att) (ha:s.ts th=some a) (hk:a.asked=true) (hat:a.at_=1) (hk6:a.ra.k=6) (ht:¬zDx s.o s.c th a.snap=0) (ht4:¬zDx s.o s.c th a.snap=4):zP Tryz.prog cfg 28 [.pointer (some ⟨0,0,none⟩),.int .i64 th] (AH.of [some (.hi (.eng s))])
  fun r H'=> r=.ret (qF).v/\H'=AH.of [some (.hi (.eng ({ s with ts:=zR s.ts th (some { a with at_:=4,back:=1 }) })))]:=by
 refine zP.ends ?_
 generalize hS:(({ s with ts:=zR s.ts th (some { a with at_:=4,back:=1 }) }):NS)=S'
 refine zP.openEng hth fun es cc hes=> ?_
 have ft:=qV hth hes
 have z1:¬(th:Int)<0:=by omega
 have z2:¬4<=(th:Int):=by omega
 have hok:=hs.ts th a ha
 have hac:=jV a hk
 have hk0:¬a.ra.k=0:=by have:=(hok.ask hk).1;omega
 have hel:(s.ev.length+1)*32<=140737488355328/\s.ev.length<=9223372036854775806:=by omega
 have t3:=xJ s.ev
 have hgl:=hok.fs
 refine zY (tbl:=jH) xF 0 5 (af:=a28) rfl ?_
 rw[a28,b28,qB]
 refine⟨by simp,?_⟩
 simp -implicitDefEqProofs [qW,jH,qA,forms79,a79,b79,forms83,a83,b83,forms85,a85,b85,forms86,a86,b86,forms136,a136,b136,forms87,a87,b87,forms89,a89,b89,forms90,a90,b90,forms91,a91,b91,forms142,a142,b142,forms138,a138,b138,z1,z2,ha,ft,jI,zD,zH,hac,hk0,hel,t3,jL,zIo,zQb,hat,hk6,hgl,ht,ht4]
 have htp:=xS th s.ts (b:={ a with at_:=4,back:=1 }) ha
 rw[←htp] at hes
 subst hS
 have hba:Att.ask { a with at_:=4,back:=1 }=a.ra:=by simp[Att.ask,hk]
 rcases qM hth with rfl|rfl|rfl|rfl
 ·refine zA [.pack (GD.att { a with at_:=4,back:=1 }) 7 [12,13],.pack (GD.eng ({ s with ts:=zR s.ts 0 (some { a with at_:=4,back:=1 }) })) 0 [1,2,3,4,5,6,7,8,9,10]] [0] ?_ ?_ ?_<;> simp[zH,zJ,hba,zR,ha,zD,zZ,o1,o2,o3,Rp.v,Rp.cells,qF,qK,qG,qJ,qI,zX,zW,qH,qC,hk6]<;> exact hes
 ·refine zA [.pack (GD.att { a with at_:=4,back:=1 }) 7 [12,13],.pack (GD.eng ({ s with ts:=zR s.ts 1 (some { a with at_:=4,back:=1 }) })) 0 [1,2,3,4,5,6,8,7,9,10]] [0] ?_ ?_ ?_<;> simp[zH,zJ,hba,zR,ha,zD,zZ,o1,o2,o3,Rp.v,Rp.cells,qF,qK,qG,qJ,qI,zX,zW,qH,qC,hk6]<;> exact hes
 ·refine zA [.pack (GD.att { a with at_:=4,back:=1 }) 7 [12,13],.pack (GD.eng ({ s with ts:=zR s.ts 2 (some { a with at_:=4,back:=1 }) })) 0 [1,2,3,4,5,6,8,9,7,10]] [0] ?_ ?_ ?_<;> simp[zH,zJ,hba,zR,ha,zD,zZ,o1,o2,o3,Rp.v,Rp.cells,qF,qK,qG,qJ,qI,zX,zW,qH,qC,hk6]<;> exact hes
 ·refine zA [.pack (GD.att { a with at_:=4,back:=1 }) 7 [12,13],.pack (GD.eng ({ s with ts:=zR s.ts 3 (some { a with at_:=4,back:=1 }) })) 0 [1,2,3,4,5,6,8,9,10,7]] [0] ?_ ?_ ?_<;> simp[zH,zJ,hba,zR,ha,zD,zZ,o1,o2,o3,Rp.v,Rp.cells,qF,qK,qG,qJ,qI,zX,zW,qH,qC,hk6]<;> exact hes
theorem qFe (s:NS) (hs:s.Ok) (hev:s.ev.length<=100000) (th:Nat) (hth:th<4) (a:Att) (ha:s.ts th=some a) (hk:a.asked=true) (hat:a.at_=2) (hk6:a.ra.k=6) (p:Pr) (hx:(jO a.fs)[a.nx]?=some p) (hp:0<=p.t/\p.t<s.hp.length) (hl:¬a.nx+1=(jO a.fs).length):zP Tryz.prog cfg 28 [.pointer (some ⟨0,0,none⟩),.int .i64 th] (AH.of [some (.hi (.eng s))])
  fun r H'=> r=.ret (qF).v/\H'=AH.of [some (.hi (.eng ({ s with ts:=zR s.ts th (some { a with nx:=a.nx+1,at_:=2 }),hp:=s.hp.set p.t.toNat p.v })))]:=by
 refine zP.ends ?_
 generalize hS:(({ s with ts:=zR s.ts th (some { a with nx:=a.nx+1,at_:=2 }),hp:=s.hp.set p.t.toNat p.v }):NS)=S'
 refine zP.openEng hth fun es cc hes=> ?_
 have ft:=qV hth hes
 have z1:¬(th:Int)<0:=by omega
 have z2:¬4<=(th:Int):=by omega
 have hok:=hs.ts th a ha
 have hac:=jV a hk
 have hk0:¬a.ra.k=0:=by have:=(hok.ask hk).1;omega
 have hel:(s.ev.length+1)*32<=140737488355328/\s.ev.length<=9223372036854775806:=by omega
 have t3:=xJ s.ev
 have hgl:=hok.fs
 have hlt:=(List.getElem?_eq_some_iff.1 hx).1
 have hlt2:(a.nx:Int)<(jO a.fs).length:=by omega
 obtain⟨rx,rv⟩:=zJx hx
 have hnx:=hok.nx
 have hwr:IntKind.i64.wrap ((a.nx:Int)+1)=((a.nx+1:Nat):Int):=by rw[qO (by omega) (by omega)];omega
 have hpl:(p.t.toNat:Int)<s.hp.length:=by omega
 have hpl2:p.t.toNat<s.hp.length:=by omega
 have hpl3:p.t.toNat+1<=s.hp.length:=by omega
 have hl2:¬(a.nx:Int)+1=(jO a.fs).length:=by omega
 refine zY (tbl:=jH) xF 0 5 (af:=a28) rfl ?_
 rw[a28,b28,qB]
 refine⟨by simp,?_⟩
 simp -implicitDefEqProofs [qW,jH,qA,forms79,a79,b79,forms83,a83,b83,forms85,a85,b85,forms86,a86,b86,forms136,a136,b136,forms87,a87,b87,forms89,a89,b89,forms90,a90,b90,forms91,a91,b91,forms142,a142,b142,forms138,a138,b138,z1,z2,ha,ft,jI,zD,zH,hac,hk0,hel,t3,jL,zIo,hat,hk6,hgl,hlt,hlt2,rx,rv,hwr,hp,hpl,hpl2,hpl3,hl,hl2,zC5,qH]
 have htp:=xS th s.ts (b:={ a with nx:=a.nx+1,at_:=2 }) ha
 rw[←htp] at hes
 subst hS
 have hba:Att.ask { a with nx:=a.nx+1,at_:=2 }=a.ra:=by simp[Att.ask,hk]
 rcases qM hth with rfl|rfl|rfl|rfl
 ·refine zA [.pack (GD.att { a with nx:=a.nx+1,at_:=2 }) 7 [12,13],.pack (GD.eng ({ s with ts:=zR s.ts 0 (some { a with nx:=a.nx+1,at_:=2 }),hp:=s.hp.set p.t.toNat p.v })) 0 [1,2,3,4,5,6,7,8,9,10]] [0] ?_ ?_ ?_<;> simp[zH,zJ,hba,zR,ha,zD,zZ,o1,o2,o3,Rp.v,Rp.cells,qF,qK,qG,qJ,qI,zX,zW,qH,qC,hk6]<;> exact hes
 ·refine zA [.pack (GD.att { a with nx:=a.nx+1,at_:=2 }) 7 [12,13],.pack (GD.eng ({ s with ts:=zR s.ts 1 (some { a with nx:=a.nx+1,at_:=2 }),hp:=s.hp.set p.t.toNat p.v })) 0 [1,2,3,4,5,6,8,7,9,10]] [0] ?_ ?_ ?_<;> simp[zH,zJ,hba,zR,ha,zD,zZ,o1,o2,o3,Rp.v,Rp.cells,qF,qK,qG,qJ,qI,zX,zW,qH,qC,hk6]<;> exact hes
 ·refine zA [.pack (GD.att { a with nx:=a.nx+1,at_:=2 }) 7 [12,13],.pack (GD.eng ({ s with ts:=zR s.ts 2 (some { a with nx:=a.nx+1,at_:=2 }),hp:=s.hp.set p.t.toNat p.v })) 0 [1,2,3,4,5,6,8,9,7,10]] [0] ?_ ?_ ?_<;> simp[zH,zJ,hba,zR,ha,zD,zZ,o1,o2,o3,Rp.v,Rp.cells,qF,qK,qG,qJ,qI,zX,zW,qH,qC,hk6]<;> exact hes
 ·refine zA [.pack (GD.att { a with nx:=a.nx+1,at_:=2 }) 7 [12,13],.pack (GD.eng ({ s with ts:=zR s.ts 3 (some { a with nx:=a.nx+1,at_:=2 }),hp:=s.hp.set p.t.toNat p.v })) 0 [1,2,3,4,5,6,8,9,10,7]] [0] ?_ ?_ ?_<;> simp[zH,zJ,hba,zR,ha,zD,zZ,o1,o2,o3,Rp.v,Rp.cells,qF,qK,qG,qJ,qI,zX,zW,qH,qC,hk6]<;> exact hes
theorem qFf (s:NS) (hs:s.Ok) (hev:s.ev.length<=100000) (th:Nat) (hth:th<4) (a:Att) (ha:s.ts th=some a) (hk:a.asked=true) (hat:a.at_=2) (hk6:a.ra.k=6) (p:Pr) (hx:(jO a.fs)[a.nx]?=some p) (hp:0<=p.t/\p.t<s.hp.length) (hl:a.nx+1=(jO a.fs).length):zP Tryz.prog cfg 28 [.pointer (some ⟨0,0,none⟩),.int .i64 th] (AH.of [some (.hi (.eng s))])
  fun r H'=> r=.ret (qF).v/\H'=AH.of [some (.hi (.eng ({ s with ts:=zR s.ts th (some { a with nx:=a.nx+1,at_:=3 }),hp:=s.hp.set p.t.toNat p.v })))]:=by
 refine zP.ends ?_
 generalize hS:(({ s with ts:=zR s.ts th (some { a with nx:=a.nx+1,at_:=3 }),hp:=s.hp.set p.t.toNat p.v }):NS)=S'
 refine zP.openEng hth fun es cc hes=> ?_
 have ft:=qV hth hes
 have z1:¬(th:Int)<0:=by omega
 have z2:¬4<=(th:Int):=by omega
 have hok:=hs.ts th a ha
 have hac:=jV a hk
 have hk0:¬a.ra.k=0:=by have:=(hok.ask hk).1;omega
 have hel:(s.ev.length+1)*32<=140737488355328/\s.ev.length<=9223372036854775806:=by omega
 have t3:=xJ s.ev
 have hgl:=hok.fs
 have hlt:=(List.getElem?_eq_some_iff.1 hx).1
 have hlt2:(a.nx:Int)<(jO a.fs).length:=by omega
 obtain⟨rx,rv⟩:=zJx hx
 have hnx:=hok.nx
 have hwr:IntKind.i64.wrap ((a.nx:Int)+1)=((a.nx+1:Nat):Int):=by rw[qO (by omega) (by omega)];omega
 have hpl:(p.t.toNat:Int)<s.hp.length:=by omega
 have hpl2:p.t.toNat<s.hp.length:=by omega
 have hpl3:p.t.toNat+1<=s.hp.length:=by omega
 have hl2:((a.nx:Int)+1=((jO a.fs).length:Int))=True:=eq_true (by omega)
 have hl3:(a.nx+1=(jO a.fs).length)=True:=eq_true hl
 refine zY (tbl:=jH) xF 0 5 (af:=a28) rfl ?_
 rw[a28,b28,qB]
 refine⟨by simp,?_⟩
 simp -implicitDefEqProofs [qW,jH,qA,forms79,a79,b79,forms83,a83,b83,forms85,a85,b85,forms86,a86,b86,forms136,a136,b136,forms87,a87,b87,forms89,a89,b89,forms90,a90,b90,forms91,a91,b91,forms142,a142,b142,forms138,a138,b138,z1,z2,ha,ft,jI,zD,zH,hac,hk0,hel,t3,jL,zIo,hat,hk6,hgl,hlt,hlt2,rx,rv,hwr,hp,hpl,hpl2,hpl3,hl2,hl3,zC5,qH]
 have htp:=xS th s.ts (b:={ a with nx:=a.nx+1,at_:=3 }) ha
 rw[←htp] at hes
 subst hS
 have hba:Att.ask { a with nx:=a.nx+1,at_:=3 }=a.ra:=by simp[Att.ask,hk]
 rcases qM hth with rfl|rfl|rfl|rfl
 ·refine zA [.pack (GD.att { a with nx:=a.nx+1,at_:=3 }) 7 [12,13],.pack (GD.eng ({ s with ts:=zR s.ts 0 (some { a with nx:=a.nx+1,at_:=3 }),hp:=s.hp.set p.t.toNat p.v })) 0 [1,2,3,4,5,6,7,8,9,10]] [0] ?_ ?_ ?_<;> simp[zH,zJ,hba,zR,ha,zD,zZ,o1,o2,o3,Rp.v,Rp.cells,qF,qK,qG,qJ,qI,zX,zW,qH,qC,hk6]<;> exact hes
 ·refine zA [.pack (GD.att { a with nx:=a.nx+1,at_:=3 }) 7 [12,13],.pack (GD.eng ({ s with ts:=zR s.ts 1 (some { a with nx:=a.nx+1,at_:=3 }),hp:=s.hp.set p.t.toNat p.v })) 0 [1,2,3,4,5,6,8,7,9,10]] [0] ?_ ?_ ?_<;> simp[zH,zJ,hba,zR,ha,zD,zZ,o1,o2,o3,Rp.v,Rp.cells,qF,qK,qG,qJ,qI,zX,zW,qH,qC,hk6]<;> exact hes
 ·refine zA [.pack (GD.att { a with nx:=a.nx+1,at_:=3 }) 7 [12,13],.pack (GD.eng ({ s with ts:=zR s.ts 2 (some { a with nx:=a.nx+1,at_:=3 }),hp:=s.hp.set p.t.toNat p.v })) 0 [1,2,3,4,5,6,8,9,7,10]] [0] ?_ ?_ ?_<;> simp[zH,zJ,hba,zR,ha,zD,zZ,o1,o2,o3,Rp.v,Rp.cells,qF,qK,qG,qJ,qI,zX,zW,qH,qC,hk6]<;> exact hes
 ·refine zA [.pack (GD.att { a with nx:=a.nx+1,at_:=3 }) 7 [12,13],.pack (GD.eng ({ s with ts:=zR s.ts 3 (some { a with nx:=a.nx+1,at_:=3 }),hp:=s.hp.set p.t.toNat p.v })) 0 [1,2,3,4,5,6,8,9,10,7]] [0] ?_ ?_ ?_<;> simp[zH,zJ,hba,zR,ha,zD,zZ,o1,o2,o3,Rp.v,Rp.cells,qF,qK,qG,qJ,qI,zX,zW,qH,qC,hk6]<;> exact hes
theorem qKz (s:NS) (hs:s.Ok) (hev:s.ev.length<=100000) (th:Nat) (hth:th<4) (a:Att) (ha:s.ts th=some a) (hk:a.asked=true) (hat:a.at_=3) (hk6:a.ra.k=6) (ho:s.o=some (th:Int)):zP Tryz.prog cfg 28 [.pointer (some ⟨0,0,none⟩),.int .i64 th] (AH.of [some (.hi (.eng s))])
  fun r H'=> r=.ret (qJ 0).v/\H'=AH.of [some (.hi (.eng (xG ({ s with o:=none,c:=s.c+1 }) th a)))]:=by
 refine zP.ends ?_
 generalize hS:((xG ({ s with o:=none,c:=s.c+1 }) th a):NS)=S'
 refine zP.openEng hth fun es cc hes=> ?_
 have ft:=qV hth hes
 have z1:¬(th:Int)<0:=by omega
 have z2:¬4<=(th:Int):=by omega
 have hok:=hs.ts th a ha
 have hac:=jV a hk
 have hk0:¬a.ra.k=0:=by have:=(hok.ask hk).1;omega
 have hel:(s.ev.length+1)*32<=140737488355328/\s.ev.length<=9223372036854775806:=by omega
 have t3:=xJ s.ev
 have hgl:=hok.fs
 have hsc:=hs.c
 have hw2:IntKind.u64.wrap (s.c+1)=s.c+1:=zDw (by omega) (by omega)
 obtain⟨es2,hdel,hes2⟩:=zEs hth hes
 refine zY (tbl:=jH) xF 0 5 (af:=a28) rfl ?_
 rw[a28,b28,qB]
 refine⟨by simp,?_⟩
 simp -implicitDefEqProofs [qW,jH,qA,forms79,a79,b79,forms83,a83,b83,forms85,a85,b85,forms86,a86,b86,forms136,a136,b136,forms87,a87,b87,forms89,a89,b89,forms90,a90,b90,forms91,a91,b91,forms142,a142,b142,forms138,a138,b138,z1,z2,ha,ft,jI,zD,zH,hac,hk0,hel,t3,jL,zIo,d139,hat,hk6,hgl,ho,hw2,hdel]
 subst hS
 have hba:True:=trivial
 rcases qM hth with rfl|rfl|rfl|rfl
 ·have ho0:s.o=some 0:=ho
  refine zA [.nil 100,.pack (GD.eng (xG ({ s with o:=none,c:=s.c+1 }) 0 a)) 0 [1,2,3,19,5,6,20,8,9,10]] [0] ?_ ?_ ?_<;> simp[zH,zJ,hba,zR,ha,zD,zZ,o1,o2,o3,Rp.v,Rp.cells,qF,qK,qG,qJ,qI,zX,zW,qH,qC,zX,zW,xG]<;> exact hes2
 ·have ho0:s.o=some 1:=ho
  refine zA [.nil 100,.pack (GD.eng (xG ({ s with o:=none,c:=s.c+1 }) 1 a)) 0 [1,2,3,19,5,6,8,20,9,10]] [0] ?_ ?_ ?_<;> simp[zH,zJ,hba,zR,ha,zD,zZ,o1,o2,o3,Rp.v,Rp.cells,qF,qK,qG,qJ,qI,zX,zW,qH,qC,zX,zW,xG]<;> exact hes2
 ·have ho0:s.o=some 2:=ho
  refine zA [.nil 100,.pack (GD.eng (xG ({ s with o:=none,c:=s.c+1 }) 2 a)) 0 [1,2,3,19,5,6,8,9,20,10]] [0] ?_ ?_ ?_<;> simp[zH,zJ,hba,zR,ha,zD,zZ,o1,o2,o3,Rp.v,Rp.cells,qF,qK,qG,qJ,qI,zX,zW,qH,qC,zX,zW,xG]<;> exact hes2
 ·have ho0:s.o=some 3:=ho
  refine zA [.nil 100,.pack (GD.eng (xG ({ s with o:=none,c:=s.c+1 }) 3 a)) 0 [1,2,3,19,5,6,8,9,10,20]] [0] ?_ ?_ ?_<;> simp[zH,zJ,hba,zR,ha,zD,zZ,o1,o2,o3,Rp.v,Rp.cells,qF,qK,qG,qJ,qI,zX,zW,qH,qC,zX,zW,xG]<;> exact hes2
end YtnemoimbeefngaaGreat
end Go.Proofs
namespace Go.Proofs
namespace YtnemoimbeefngaaGreat
open Go.Abs
theorem qKv (s:NS) (hs:s.Ok) (hev:s.ev.length<=100000) (th:Nat) (hth:th<4) (a:Att) (ha:s.ts th=some a) (hk:a.asked=true) (hat:a.at_<4) (hk3:a.ra.k=3) (f:List Pr) (fs:List (List Pr)) (hfs:a.fs=f::fs) (hl:¬4<=fs.length):zP Tryz.prog cfg 28 [.pointer (some ⟨0,0,none⟩),.int .i64 th] (AH.of [some (.hi (.eng s))])
  fun r H'=> r=.ret (qG 0).v/\H'=AH.of [some (.hi (.eng ({ s with ts:=zR s.ts th (some { a with asked:=false,fs:=[]::f::fs }),ev:=s.ev++[⟨4,a.n,0,0⟩] })))]:=by
 refine zP.ends ?_
 generalize hS:(({ s with ts:=zR s.ts th (some { a with asked:=false,fs:=[]::f::fs }),ev:=s.ev++[⟨4,a.n,0,0⟩] }):NS)=S'
 refine zP.openEng hth fun es cc hes=> ?_
 have ft:=qV hth hes
 have z1:¬(th:Int)<0:=by omega
 have z2:¬4<=(th:Int):=by omega
 have hok:=hs.ts th a ha
 have hac:=jV a hk
 have hk0:¬a.ra.k=0:=by have:=(hok.ask hk).1;omega
 have hel:(s.ev.length+1)*32<=140737488355328/\s.ev.length<=9223372036854775806:=by omega
 have t3:=xJ s.ev
 have hlo:¬4<=(a.at_:Int):=by omega
 have hlo2:¬4<=a.at_:=by omega
 have hgl:=hok.fs
 have hne:=hok.fs.1
 rw[hfs] at hgl
 have hl5:fs.length<=100:=by have:=hgl.2.1;simp at this;omega
 refine zY (tbl:=jH) xF 0 5 (af:=a28) rfl ?_
 rw[a28,b28,qB]
 refine⟨by simp,?_⟩
 simp -implicitDefEqProofs [qW,jH,qA,forms79,a79,b79,forms83,a83,b83,forms85,a85,b85,forms86,a86,b86,forms136,a136,b136,forms87,a87,b87,forms89,a89,b89,forms90,a90,b90,forms91,a91,b91,forms142,a142,b142,forms138,a138,b138,z1,z2,ha,ft,jI,zD,zH,hac,hk0,hel,t3,jL,hlo,hlo2,d144,hk3,hfs,hl,hl5]
 have htp:=xS th s.ts (b:={ a with asked:=false,fs:=[]::f::fs }) ha
 rw[←htp] at hes
 subst hS
 have hba:Att.ask { a with asked:=false,fs:=[]::f::fs }=⟨0,0,0⟩:=by simp[Att.ask,hk]
 rcases qM hth with rfl|rfl|rfl|rfl
 ·refine zA [.pack (GD.att { a with asked:=false,fs:=[]::f::fs }) 7 [12,13],.pack (GD.eng ({ s with ts:=zR s.ts 0 (some { a with asked:=false,fs:=[]::f::fs }),ev:=s.ev++[⟨4,a.n,0,0⟩] })) 0 [1,2,3,18,5,6,7,8,9,10]] [0] ?_ ?_ ?_<;> simp[zH,zJ,hba,zR,ha,zD,zZ,o1,o2,o3,Rp.v,Rp.cells,qF,qK,qG,qJ,qI,zX,zW,qH,qC,zX,zW]<;> exact hes
 ·refine zA [.pack (GD.att { a with asked:=false,fs:=[]::f::fs }) 7 [12,13],.pack (GD.eng ({ s with ts:=zR s.ts 1 (some { a with asked:=false,fs:=[]::f::fs }),ev:=s.ev++[⟨4,a.n,0,0⟩] })) 0 [1,2,3,18,5,6,8,7,9,10]] [0] ?_ ?_ ?_<;> simp[zH,zJ,hba,zR,ha,zD,zZ,o1,o2,o3,Rp.v,Rp.cells,qF,qK,qG,qJ,qI,zX,zW,qH,qC,zX,zW]<;> exact hes
 ·refine zA [.pack (GD.att { a with asked:=false,fs:=[]::f::fs }) 7 [12,13],.pack (GD.eng ({ s with ts:=zR s.ts 2 (some { a with asked:=false,fs:=[]::f::fs }),ev:=s.ev++[⟨4,a.n,0,0⟩] })) 0 [1,2,3,18,5,6,8,9,7,10]] [0] ?_ ?_ ?_<;> simp[zH,zJ,hba,zR,ha,zD,zZ,o1,o2,o3,Rp.v,Rp.cells,qF,qK,qG,qJ,qI,zX,zW,qH,qC,zX,zW]<;> exact hes
 ·refine zA [.pack (GD.att { a with asked:=false,fs:=[]::f::fs }) 7 [12,13],.pack (GD.eng ({ s with ts:=zR s.ts 3 (some { a with asked:=false,fs:=[]::f::fs }),ev:=s.ev++[⟨4,a.n,0,0⟩] })) 0 [1,2,3,18,5,6,8,9,10,7]] [0] ?_ ?_ ?_<;> simp[zH,zJ,hba,zR,ha,zD,zZ,o1,o2,o3,Rp.v,Rp.cells,qF,qK,qG,qJ,qI,zX,zW,qH,qC,zX,zW]<;> exact hes
theorem qKu (s:NS) (hs:s.Ok) (hev:s.ev.length<=100000) (th:Nat) (hth:th<4) (a:Att) (ha:s.ts th=some a) (hk:a.asked=true) (hat:a.at_<4) (hk4:a.ra.k=4) (f g:List Pr) (fs:List (List Pr)) (hfs:a.fs=f::g::fs):zP Tryz.prog cfg 28 [.pointer (some ⟨0,0,none⟩),.int .i64 th] (AH.of [some (.hi (.eng s))])
  fun r H'=> r=.ret (qG 0).v/\H'=AH.of [some (.hi (.eng ({ s with ts:=zR s.ts th (some { a with asked:=false,fs:=g::fs }),ev:=s.ev++[⟨5,a.n,0,0⟩] })))]:=by
 refine zP.ends ?_
 generalize hS:(({ s with ts:=zR s.ts th (some { a with asked:=false,fs:=g::fs }),ev:=s.ev++[⟨5,a.n,0,0⟩] }):NS)=S'
 refine zP.openEng hth fun es cc hes=> ?_
 have ft:=qV hth hes
 have z1:¬(th:Int)<0:=by omega
 have z2:¬4<=(th:Int):=by omega
 have hok:=hs.ts th a ha
 have hac:=jV a hk
 have hk0:¬a.ra.k=0:=by have:=(hok.ask hk).1;omega
 have hel:(s.ev.length+1)*32<=140737488355328/\s.ev.length<=9223372036854775806:=by omega
 have t3:=xJ s.ev
 have hlo:¬4<=(a.at_:Int):=by omega
 have hlo2:¬4<=a.at_:=by omega
 have hgl:=hok.fs
 have hne:=hok.fs.1
 rw[hfs] at hgl
 have hl5:fs.length+1<=100:=by have:=hgl.2.1;simp at this;omega
 refine zY (tbl:=jH) xF 0 5 (af:=a28) rfl ?_
 rw[a28,b28,qB]
 refine⟨by simp,?_⟩
 simp -implicitDefEqProofs [qW,jH,qA,forms79,a79,b79,forms83,a83,b83,forms85,a85,b85,forms86,a86,b86,forms136,a136,b136,forms87,a87,b87,forms89,a89,b89,forms90,a90,b90,forms91,a91,b91,forms142,a142,b142,forms138,a138,b138,z1,z2,ha,ft,jI,zD,zH,hac,hk0,hel,t3,jL,hlo,hlo2,d145,hk4,hfs,hl5]
 have htp:=xS th s.ts (b:={ a with asked:=false,fs:=g::fs }) ha
 rw[←htp] at hes
 subst hS
 have hba:Att.ask { a with asked:=false,fs:=g::fs }=⟨0,0,0⟩:=by simp[Att.ask,hk]
 rcases qM hth with rfl|rfl|rfl|rfl
 ·refine zA [.pack (GD.att { a with asked:=false,fs:=g::fs }) 7 [12,13],.pack (GD.eng ({ s with ts:=zR s.ts 0 (some { a with asked:=false,fs:=g::fs }),ev:=s.ev++[⟨5,a.n,0,0⟩] })) 0 [1,2,3,18,5,6,7,8,9,10]] [0] ?_ ?_ ?_<;> simp[zH,zJ,hba,zR,ha,zD,zZ,o1,o2,o3,Rp.v,Rp.cells,qF,qK,qG,qJ,qI,zX,zW,qH,qC,zX,zW]<;> exact hes
 ·refine zA [.pack (GD.att { a with asked:=false,fs:=g::fs }) 7 [12,13],.pack (GD.eng ({ s with ts:=zR s.ts 1 (some { a with asked:=false,fs:=g::fs }),ev:=s.ev++[⟨5,a.n,0,0⟩] })) 0 [1,2,3,18,5,6,8,7,9,10]] [0] ?_ ?_ ?_<;> simp[zH,zJ,hba,zR,ha,zD,zZ,o1,o2,o3,Rp.v,Rp.cells,qF,qK,qG,qJ,qI,zX,zW,qH,qC,zX,zW]<;> exact hes
 ·refine zA [.pack (GD.att { a with asked:=false,fs:=g::fs }) 7 [12,13],.pack (GD.eng ({ s with ts:=zR s.ts 2 (some { a with asked:=false,fs:=g::fs }),ev:=s.ev++[⟨5,a.n,0,0⟩] })) 0 [1,2,3,18,5,6,8,9,7,10]] [0] ?_ ?_ ?_<;> simp[zH,zJ,hba,zR,ha,zD,zZ,o1,o2,o3,Rp.v,Rp.cells,qF,qK,qG,qJ,qI,zX,zW,qH,qC,zX,zW]<;> exact hes
 ·refine zA [.pack (GD.att { a with asked:=false,fs:=g::fs }) 7 [12,13],.pack (GD.eng ({ s with ts:=zR s.ts 3 (some { a with asked:=false,fs:=g::fs }),ev:=s.ev++[⟨5,a.n,0,0⟩] })) 0 [1,2,3,18,5,6,8,9,10,7]] [0] ?_ ?_ ?_<;> simp[zH,zJ,hba,zR,ha,zD,zZ,o1,o2,o3,Rp.v,Rp.cells,qF,qK,qG,qJ,qI,zX,zW,qH,qC,zX,zW]<;> exact hes
theorem qKt (s:NS) (hs:s.Ok) (hev:s.ev.length<=100000) (th:Nat) (hth:th<4) (a:Att) (ha:s.ts th=some a) (hk:a.asked=true) (hat:a.at_<4) (hk5:a.ra.k=5) (f g:List Pr) (fs:List (List Pr)) (hfs:a.fs=f::g::fs):zP Tryz.prog cfg 28 [.pointer (some ⟨0,0,none⟩),.int .i64 th] (AH.of [some (.hi (.eng s))])
  fun r H'=> r=.ret (qG 0).v/\H'=AH.of [some (.hi (.eng ({ s with ts:=zR s.ts th (some { a with asked:=false,fs:=jJ g f::fs }),ev:=s.ev++[⟨6,a.n,0,0⟩] })))]:=by
 refine zP.ends ?_
 generalize hS:(({ s with ts:=zR s.ts th (some { a with asked:=false,fs:=jJ g f::fs }),ev:=s.ev++[⟨6,a.n,0,0⟩] }):NS)=S'
 refine zP.openEng hth fun es cc hes=> ?_
 have ft:=qV hth hes
 have z1:¬(th:Int)<0:=by omega
 have z2:¬4<=(th:Int):=by omega
 have hok:=hs.ts th a ha
 have hac:=jV a hk
 have hk0:¬a.ra.k=0:=by have:=(hok.ask hk).1;omega
 have hel:(s.ev.length+1)*32<=140737488355328/\s.ev.length<=9223372036854775806:=by omega
 have t3:=xJ s.ev
 have hlo:¬4<=(a.at_:Int):=by omega
 have hlo2:¬4<=a.at_:=by omega
 have hgl:=hok.fs
 have hne:=hok.fs.1
 rw[hfs] at hgl
 refine zY (tbl:=jH) xF 0 5 (af:=a28) rfl ?_
 rw[a28,b28,qB]
 refine⟨by simp,?_⟩
 simp -implicitDefEqProofs [qW,jH,qA,forms79,a79,b79,forms83,a83,b83,forms85,a85,b85,forms86,a86,b86,forms136,a136,b136,forms87,a87,b87,forms89,a89,b89,forms90,a90,b90,forms91,a91,b91,forms142,a142,b142,forms138,a138,b138,z1,z2,ha,ft,jI,zD,zH,hac,hk0,hel,t3,jL,hlo,hlo2,d146,hk5,hfs,hgl]
 have htp:=xS th s.ts (b:={ a with asked:=false,fs:=jJ g f::fs }) ha
 rw[←htp] at hes
 subst hS
 have hba:Att.ask { a with asked:=false,fs:=jJ g f::fs }=⟨0,0,0⟩:=by simp[Att.ask,hk]
 rcases qM hth with rfl|rfl|rfl|rfl
 ·refine zA [.pack (GD.att { a with asked:=false,fs:=jJ g f::fs }) 7 [12,13],.pack (GD.eng ({ s with ts:=zR s.ts 0 (some { a with asked:=false,fs:=jJ g f::fs }),ev:=s.ev++[⟨6,a.n,0,0⟩] })) 0 [1,2,3,18,5,6,7,8,9,10]] [0] ?_ ?_ ?_<;> simp[zH,zJ,hba,zR,ha,zD,zZ,o1,o2,o3,Rp.v,Rp.cells,qF,qK,qG,qJ,qI,zX,zW,qH,qC,zX,zW]<;> exact hes
 ·refine zA [.pack (GD.att { a with asked:=false,fs:=jJ g f::fs }) 7 [12,13],.pack (GD.eng ({ s with ts:=zR s.ts 1 (some { a with asked:=false,fs:=jJ g f::fs }),ev:=s.ev++[⟨6,a.n,0,0⟩] })) 0 [1,2,3,18,5,6,8,7,9,10]] [0] ?_ ?_ ?_<;> simp[zH,zJ,hba,zR,ha,zD,zZ,o1,o2,o3,Rp.v,Rp.cells,qF,qK,qG,qJ,qI,zX,zW,qH,qC,zX,zW]<;> exact hes
 ·refine zA [.pack (GD.att { a with asked:=false,fs:=jJ g f::fs }) 7 [12,13],.pack (GD.eng ({ s with ts:=zR s.ts 2 (some { a with asked:=false,fs:=jJ g f::fs }),ev:=s.ev++[⟨6,a.n,0,0⟩] })) 0 [1,2,3,18,5,6,8,9,7,10]] [0] ?_ ?_ ?_<;> simp[zH,zJ,hba,zR,ha,zD,zZ,o1,o2,o3,Rp.v,Rp.cells,qF,qK,qG,qJ,qI,zX,zW,qH,qC,zX,zW]<;> exact hes
 ·refine zA [.pack (GD.att { a with asked:=false,fs:=jJ g f::fs }) 7 [12,13],.pack (GD.eng ({ s with ts:=zR s.ts 3 (some { a with asked:=false,fs:=jJ g f::fs }),ev:=s.ev++[⟨6,a.n,0,0⟩] })) 0 [1,2,3,18,5,6,8,9,10,7]] [0] ?_ ?_ ?_<;> simp[zH,zJ,hba,zR,ha,zD,zZ,o1,o2,o3,Rp.v,Rp.cells,qF,qK,qG,qJ,qI,zX,zW,qH,qC,zX,zW]<;> exact hes
theorem qE9 (s:NS) (hs:s.Ok) (hev:s.ev.length<=100000) (th:Nat) (hth:th<4) (a:Att) (ha:s.ts th=some a) (hk:a.asked=true) (hat:a.at_<4) (hk2:a.ra.k=2) (f:List Pr) (fs:List (List Pr)) (hfs:a.fs=f::fs) (hP:jU f fs a.ra.t a.ra.v=0):zP Tryz.prog cfg 28 [.pointer (some ⟨0,0,none⟩),.int .i64 th] (AH.of [some (.hi (.eng s))])
  fun r H'=> r=.ret (qG 0).v/\H'=AH.of [some (.hi (.eng ({ s with ts:=zR s.ts th (some { a with asked:=false,fs:=jX f ⟨a.ra.t,a.ra.v⟩::fs }),ev:=s.ev++[⟨3,a.n,a.ra.t,a.ra.v⟩] })))]:=by
 refine zP.ends ?_
 generalize hS:(({ s with ts:=zR s.ts th (some { a with asked:=false,fs:=jX f ⟨a.ra.t,a.ra.v⟩::fs }),ev:=s.ev++[⟨3,a.n,a.ra.t,a.ra.v⟩] }):NS)=S'
 refine zP.openEng hth fun es cc hes=> ?_
 have ft:=qV hth hes
 have z1:¬(th:Int)<0:=by omega
 have z2:¬4<=(th:Int):=by omega
 have hok:=hs.ts th a ha
 have hac:=jV a hk
 have hk0:¬a.ra.k=0:=by have:=(hok.ask hk).1;omega
 have hel:(s.ev.length+1)*32<=140737488355328/\s.ev.length<=9223372036854775806:=by omega
 have t3:=xJ s.ev
 have hlo:¬4<=(a.at_:Int):=by omega
 have hlo2:¬4<=a.at_:=by omega
 have hgl:=hok.fs
 have hne:=hok.fs.1
 rw[hfs] at hgl
 have hrv:=(hok.ask hk).2.2.2
 refine zY (tbl:=jH) xF 0 5 (af:=a28) rfl ?_
 rw[a28,b28,qB]
 refine⟨by simp,?_⟩
 simp -implicitDefEqProofs [qW,jH,qA,forms79,a79,b79,forms83,a83,b83,forms85,a85,b85,forms86,a86,b86,forms136,a136,b136,forms87,a87,b87,forms89,a89,b89,forms90,a90,b90,forms91,a91,b91,forms142,a142,b142,forms138,a138,b138,z1,z2,ha,ft,jI,zD,zH,hac,hk0,hel,t3,jL,hlo,hlo2,zQa,hk2,hfs,hgl,hrv,hP]
 have htp:=xS th s.ts (b:={ a with asked:=false,fs:=jX f ⟨a.ra.t,a.ra.v⟩::fs }) ha
 rw[←htp] at hes
 subst hS
 have hba:Att.ask { a with asked:=false,fs:=jX f ⟨a.ra.t,a.ra.v⟩::fs }=⟨0,0,0⟩:=by simp[Att.ask,hk]
 rcases qM hth with rfl|rfl|rfl|rfl
 ·refine zA [.pack (GD.att { a with asked:=false,fs:=jX f ⟨a.ra.t,a.ra.v⟩::fs }) 7 [12,13],.pack (GD.eng ({ s with ts:=zR s.ts 0 (some { a with asked:=false,fs:=jX f ⟨a.ra.t,a.ra.v⟩::fs }),ev:=s.ev++[⟨3,a.n,a.ra.t,a.ra.v⟩] })) 0 [1,2,3,18,5,6,7,8,9,10]] [0] ?_ ?_ ?_<;> simp[zH,zJ,hba,zR,ha,zD,zZ,o1,o2,o3,Rp.v,Rp.cells,qF,qK,qG,qJ,qI,zX,zW,qH,qC,zX,zW]<;> exact hes
 ·refine zA [.pack (GD.att { a with asked:=false,fs:=jX f ⟨a.ra.t,a.ra.v⟩::fs }) 7 [12,13],.pack (GD.eng ({ s with ts:=zR s.ts 1 (some { a with asked:=false,fs:=jX f ⟨a.ra.t,a.ra.v⟩::fs }),ev:=s.ev++[⟨3,a.n,a.ra.t,a.ra.v⟩] })) 0 [1,2,3,18,5,6,8,7,9,10]] [0] ?_ ?_ ?_<;> simp[zH,zJ,hba,zR,ha,zD,zZ,o1,o2,o3,Rp.v,Rp.cells,qF,qK,qG,qJ,qI,zX,zW,qH,qC,zX,zW]<;> exact hes
 ·refine zA [.pack (GD.att { a with asked:=false,fs:=jX f ⟨a.ra.t,a.ra.v⟩::fs }) 7 [12,13],.pack (GD.eng ({ s with ts:=zR s.ts 2 (some { a with asked:=false,fs:=jX f ⟨a.ra.t,a.ra.v⟩::fs }),ev:=s.ev++[⟨3,a.n,a.ra.t,a.ra.v⟩] })) 0 [1,2,3,18,5,6,8,9,7,10]] [0] ?_ ?_ ?_<;> simp[zH,zJ,hba,zR,ha,zD,zZ,o1,o2,o3,Rp.v,Rp.cells,qF,qK,qG,qJ,qI,zX,zW,qH,qC,zX,zW]<;> exact hes
 ·refine zA [.pack (GD.att { a with asked:=false,fs:=jX f ⟨a.ra.t,a.ra.v⟩::fs }) 7 [12,13],.pack (GD.eng ({ s with ts:=zR s.ts 3 (some { a with asked:=false,fs:=jX f ⟨a.ra.t,a.ra.v⟩::fs }),ev:=s.ev++[⟨3,a.n,a.ra.t,a.ra.v⟩] })) 0 [1,2,3,18,5,6,8,9,10,7]] [0] ?_ ?_ ?_<;> simp[zH,zJ,hba,zR,ha,zD,zZ,o1,o2,o3,Rp.v,Rp.cells,qF,qK,qG,qJ,qI,zX,zW,qH,qC,zX,zW]<;> exact hes
theorem qAz (s:NS) (hs:s.Ok) (hev:s.ev.length<=100000) (th:Nat) (hth:th<4) (a:Att) (ha:s.ts th=some a) (hk:a.asked=true) (hat:a.at_<4) (hk2:a.ra.k=2) (f:List Pr) (fs:List (List Pr)) (hfs:a.fs=f::fs) (hP:¬jU f fs a.ra.t a.ra.v=0) (ho:s.o=some (th:Int)):zP Tryz.prog cfg 28 [.pointer (some ⟨0,0,none⟩),.int .i64 th] (AH.of [some (.hi (.eng s))])
  fun r H'=> r=.ret (qJ 2).v/\H'=AH.of [some (.hi (.eng (qP s th a 2)))]:=by
 refine zP.ends ?_
 generalize hS:((qP s th a 2):NS)=S'
 refine zP.openEng hth fun es cc hes=> ?_
 have ft:=qV hth hes
 have z1:¬(th:Int)<0:=by omega
 have z2:¬4<=(th:Int):=by omega
 have hok:=hs.ts th a ha
 have hac:=jV a hk
 have hk0:¬a.ra.k=0:=by have:=(hok.ask hk).1;omega
 have hel:(s.ev.length+1)*32<=140737488355328/\s.ev.length<=9223372036854775806:=by omega
 have t3:=xJ s.ev
 have hlo:¬4<=(a.at_:Int):=by omega
 have hlo2:¬4<=a.at_:=by omega
 have hgl:=hok.fs
 rw[hfs] at hgl
 have hrv:=(hok.ask hk).2.2.2
 have hnw3:a.n+1<=s.wy.length:=hok.n
 have hcw:IntKind.u64.wrap (s.c - 1)=s.c - 1:=by have h1:=hs.held _ ho;have h2:=hs.c;exact zDw (by omega) (by omega)
 have hnw:=hok.n
 have hnw2:(a.n:Int)<s.wy.length:=by omega
 obtain⟨es2,hdel,hes2⟩:=zEs hth hes
 refine zY (tbl:=jH) xF 0 5 (af:=a28) rfl ?_
 rw[a28,b28,qB]
 refine⟨by simp,?_⟩
 simp -implicitDefEqProofs [qW,jH,qA,forms79,a79,b79,forms83,a83,b83,forms85,a85,b85,forms86,a86,b86,forms136,a136,b136,forms87,a87,b87,forms89,a89,b89,forms90,a90,b90,forms91,a91,b91,forms142,a142,b142,forms138,a138,b138,z1,z2,ha,ft,jI,zD,zH,hac,hk0,hel,t3,jL,zQa,hlo,hlo2,hk2,hfs,hgl,hrv,hP,zG3,ho,hnw,hnw2,hnw3,zCe,qC,hcw,hdel]
 subst hS
 have hba:True:=trivial
 rcases qM hth with rfl|rfl|rfl|rfl
 ·have ho0:s.o=some 0:=ho
  refine zA [.nil 100,.pack (GD.eng (qP s 0 a 2)) 0 [1,2,3,19,5,6,20,8,9,10]] [0] ?_ ?_ ?_<;> simp[zH,zJ,hba,zR,ha,zD,zZ,o1,o2,o3,Rp.v,Rp.cells,qF,qK,qG,qJ,qI,zX,zW,qH,qC,qP,ho0]<;> exact hes2
 ·have ho0:s.o=some 1:=ho
  refine zA [.nil 100,.pack (GD.eng (qP s 1 a 2)) 0 [1,2,3,19,5,6,8,20,9,10]] [0] ?_ ?_ ?_<;> simp[zH,zJ,hba,zR,ha,zD,zZ,o1,o2,o3,Rp.v,Rp.cells,qF,qK,qG,qJ,qI,zX,zW,qH,qC,qP,ho0]<;> exact hes2
 ·have ho0:s.o=some 2:=ho
  refine zA [.nil 100,.pack (GD.eng (qP s 2 a 2)) 0 [1,2,3,19,5,6,8,9,20,10]] [0] ?_ ?_ ?_<;> simp[zH,zJ,hba,zR,ha,zD,zZ,o1,o2,o3,Rp.v,Rp.cells,qF,qK,qG,qJ,qI,zX,zW,qH,qC,qP,ho0]<;> exact hes2
 ·have ho0:s.o=some 3:=ho
  refine zA [.nil 100,.pack (GD.eng (qP s 3 a 2)) 0 [1,2,3,19,5,6,8,9,10,20]] [0] ?_ ?_ ?_<;> simp[zH,zJ,hba,zR,ha,zD,zZ,o1,o2,o3,Rp.v,Rp.cells,qF,qK,qG,qJ,qI,zX,zW,qH,qC,qP,ho0]<;> exact hes2
theorem qA0 (s:NS) (hs:s.Ok) (hev:s.ev.length<=100000) (th:Nat) (hth:th<4) (a:Att) (ha:s.ts th=some a) (hk:a.asked=true) (hat:a.at_<4) (hk2:a.ra.k=2) (f:List Pr) (fs:List (List Pr)) (hfs:a.fs=f::fs) (hP:¬jU f fs a.ra.t a.ra.v=0) (ho:¬s.o=some (th:Int)):zP Tryz.prog cfg 28 [.pointer (some ⟨0,0,none⟩),.int .i64 th] (AH.of [some (.hi (.eng s))])
  fun r H'=> r=.ret (qJ 2).v/\H'=AH.of [some (.hi (.eng (qP s th a 2)))]:=by
 refine zP.ends ?_
 generalize hS:((qP s th a 2):NS)=S'
 refine zP.openEng hth fun es cc hes=> ?_
 have ft:=qV hth hes
 have z1:¬(th:Int)<0:=by omega
 have z2:¬4<=(th:Int):=by omega
 have hok:=hs.ts th a ha
 have hac:=jV a hk
 have hk0:¬a.ra.k=0:=by have:=(hok.ask hk).1;omega
 have hel:(s.ev.length+1)*32<=140737488355328/\s.ev.length<=9223372036854775806:=by omega
 have t3:=xJ s.ev
 have hlo:¬4<=(a.at_:Int):=by omega
 have hlo2:¬4<=a.at_:=by omega
 have hgl:=hok.fs
 rw[hfs] at hgl
 have hrv:=(hok.ask hk).2.2.2
 have hnw3:a.n+1<=s.wy.length:=hok.n
 have hnw:=hok.n
 have hnw2:(a.n:Int)<s.wy.length:=by omega
 obtain⟨es2,hdel,hes2⟩:=zEs hth hes
 refine zY (tbl:=jH) xF 0 5 (af:=a28) rfl ?_
 rw[a28,b28,qB]
 refine⟨by simp,?_⟩
 simp -implicitDefEqProofs [qW,jH,qA,forms79,a79,b79,forms83,a83,b83,forms85,a85,b85,forms86,a86,b86,forms136,a136,b136,forms87,a87,b87,forms89,a89,b89,forms90,a90,b90,forms91,a91,b91,forms142,a142,b142,forms138,a138,b138,z1,z2,ha,ft,jI,zD,zH,hac,hk0,hel,t3,jL,zQa,hlo,hlo2,hk2,hfs,hgl,hrv,hP,zG3,ho,hnw,hnw2,hnw3,zCe,qC,hdel]
 subst hS
 have hba:True:=trivial
 rcases qM hth with rfl|rfl|rfl|rfl
 ·have ho0:¬s.o=some 0:=ho
  refine zA [.nil 100,.pack (GD.eng (qP s 0 a 2)) 0 [1,2,3,19,5,6,20,8,9,10]] [0] ?_ ?_ ?_<;> simp[zH,zJ,hba,zR,ha,zD,zZ,o1,o2,o3,Rp.v,Rp.cells,qF,qK,qG,qJ,qI,zX,zW,qH,qC,qP,ho0]<;> exact hes2
 ·have ho0:¬s.o=some 1:=ho
  refine zA [.nil 100,.pack (GD.eng (qP s 1 a 2)) 0 [1,2,3,19,5,6,8,20,9,10]] [0] ?_ ?_ ?_<;> simp[zH,zJ,hba,zR,ha,zD,zZ,o1,o2,o3,Rp.v,Rp.cells,qF,qK,qG,qJ,qI,zX,zW,qH,qC,qP,ho0]<;> exact hes2
 ·have ho0:¬s.o=some 2:=ho
  refine zA [.nil 100,.pack (GD.eng (qP s 2 a 2)) 0 [1,2,3,19,5,6,8,9,20,10]] [0] ?_ ?_ ?_<;> simp[zH,zJ,hba,zR,ha,zD,zZ,o1,o2,o3,Rp.v,Rp.cells,qF,qK,qG,qJ,qI,zX,zW,qH,qC,qP,ho0]<;> exact hes2
 ·have ho0:¬s.o=some 3:=ho
  refine zA [.nil 100,.pack (GD.eng (qP s 3 a 2)) 0 [1,2,3,19,5,6,8,9,10,20]] [0] ?_ ?_ ?_<;> simp[zH,zJ,hba,zR,ha,zD,zZ,o1,o2,o3,Rp.v,Rp.cells,qF,qK,qG,qJ,qI,zX,zW,qH,qC,qP,ho0]<;> exact hes2
end YtnemoimbeefngaaGreat
end Go.Proofs
namespace Go.Proofs
namespace YtnemoimbeefngaaGreat
open Go.Abs
theorem zQq (s:NS) (th:Nat) (hth:th<4) (hb:s.ts th=none∨∃a,s.ts th=some a/\a.asked=false):zP Tryz.prog cfg 28 [.pointer (some ⟨0,0,none⟩),.int .i64 th] (AH.of [some (.hi (.eng s))])
  fun r H'=> r=.ret (qK 8).v/\H'=AH.of [some (.hi (.eng s))]:=by
 refine zP.ends ?_
 refine zP.openEng hth fun es cc hes=> ?_
 have ft:=qV hth hes
 have z1:¬(th:Int)<0:=by omega
 have z2:¬4<=(th:Int):=by omega
 rcases hb with ha|⟨a,ha,hf⟩
 ·refine zY (tbl:=[]) (by simp) 0 3 (af:=a28) rfl ?_
  rw[a28,b28,qB]
  refine⟨by simp,?_⟩
  simp -implicitDefEqProofs [qW,forms79,a79,b79,z1,z2,ha,ft,jI]
  rcases qM hth with rfl|rfl|rfl|rfl
  ·refine zA [.pack (GD.eng s) 0 [1,2,3,4,5,6,7,8,9,10]] [0] ?_ ?_ ?_<;> simp[zJ,ha,o1,o2,o3,qK,Rp.v,Rp.cells]<;> exact hes
  ·refine zA [.pack (GD.eng s) 0 [1,2,3,4,5,6,8,7,9,10]] [0] ?_ ?_ ?_<;> simp[zJ,ha,o1,o2,o3,qK,Rp.v,Rp.cells]<;> exact hes
  ·refine zA [.pack (GD.eng s) 0 [1,2,3,4,5,6,8,9,7,10]] [0] ?_ ?_ ?_<;> simp[zJ,ha,o1,o2,o3,qK,Rp.v,Rp.cells]<;> exact hes
  ·refine zA [.pack (GD.eng s) 0 [1,2,3,4,5,6,8,9,10,7]] [0] ?_ ?_ ?_<;> simp[zJ,ha,o1,o2,o3,qK,Rp.v,Rp.cells]<;> exact hes
 ·have hac:=xK a hf
  refine zY (tbl:=[]) (by simp) 0 3 (af:=a28) rfl ?_
  rw[a28,b28,qB]
  refine⟨by simp,?_⟩
  simp -implicitDefEqProofs [qW,forms79,a79,b79,z1,z2,ha,ft,jI,zD,zH,hac]
  rcases qM hth with rfl|rfl|rfl|rfl
  ·refine zA [.pack (GD.att a) 7 [12,13],.pack (GD.eng s) 0 [1,2,3,4,5,6,7,8,9,10]] [0] ?_ ?_ ?_<;> simp[zH,zJ,hac,ha,zD,o1,o2,o3,qK,Rp.v,Rp.cells]<;> exact hes
  ·refine zA [.pack (GD.att a) 7 [12,13],.pack (GD.eng s) 0 [1,2,3,4,5,6,8,7,9,10]] [0] ?_ ?_ ?_<;> simp[zH,zJ,hac,ha,zD,o1,o2,o3,qK,Rp.v,Rp.cells]<;> exact hes
  ·refine zA [.pack (GD.att a) 7 [12,13],.pack (GD.eng s) 0 [1,2,3,4,5,6,8,9,7,10]] [0] ?_ ?_ ?_<;> simp[zH,zJ,hac,ha,zD,o1,o2,o3,qK,Rp.v,Rp.cells]<;> exact hes
  ·refine zA [.pack (GD.att a) 7 [12,13],.pack (GD.eng s) 0 [1,2,3,4,5,6,8,9,10,7]] [0] ?_ ?_ ?_<;> simp[zH,zJ,hac,ha,zD,o1,o2,o3,qK,Rp.v,Rp.cells]<;> exact hes
theorem zYf (d:GD) (t:Int) (ht:t<0∨4<=t):zP Tryz.prog cfg 28 [.pointer (some ⟨0,0,none⟩),.int .i64 t] (AH.of [some (.hi d)])
  fun r H'=> r=.ret (qK 2).v/\H'=AH.of [some (.hi d)]:=by
 refine zP.ends ?_
 have ht':¬t<0->4<=t:=fun h=> by omega
 refine zY (tbl:=[]) (by simp) 0 3 (af:=a28) rfl ?_
 rw[a28,b28,qB]
 refine⟨by simp,?_⟩
 by_cases h1:t<0
 ·simp -implicitDefEqProofs [forms79,a79,b79,h1]
  refine zA [] [0] ?_ ?_ ?_<;> simp[qK,Rp.v,Rp.cells]
 ·simp -implicitDefEqProofs [forms79,a79,b79,h1,ht' h1]
  refine zA [] [0] ?_ ?_ ?_<;> simp[qK,Rp.v,Rp.cells]
theorem zAc {f:FuncId} {args:List Value} {H:AH GD} {r r':Rp} {s s':NS} (h:zP Tryz.prog cfg f args H fun r1 H'=> r1=.ret r.v/\H'=AH.of [some (.hi (.eng s))]) (e:(r,s)=(r',s')):
  zP Tryz.prog cfg f args H fun r1 H'=> r1=.ret r'.v/\H'=AH.of [some (.hi (.eng s'))]:=by
 cases e;exact h
theorem qB5 {s:NS} {a:Att} (h:a.Ok s) {p:Pr} (hp:p∈jO a.fs):0<=p.t/\p.t<s.hp.length:=by
 unfold jO zBz at hp
 obtain⟨t,_,ht⟩:=List.mem_filterMap.1 hp
 simp only[Option.map_eq_some_iff] at ht
 obtain⟨v,hv,rfl⟩:=ht
 have:∃f∈a.fs,∃q∈f,q.t=(t:Int):=by
  unfold qT at hv
  obtain⟨f,hf,hg⟩:=List.exists_of_findSome?_eq_some hv
  refine⟨f,hf,?_⟩
  unfold qZ at hg
  simp only[Option.map_eq_some_iff] at hg
  obtain⟨q,hq,_⟩:=hg
  exact⟨q,List.mem_of_find?_eq_some hq,by simpa using List.find?_some hq⟩
 obtain⟨f,hf,q,hq,hqt⟩:=this
 have:=h.fst f hf q hq
 simp only
 rw[←hqt]
 exact⟨this.1,this.2.1⟩
theorem qBj (s:NS) (hs:s.Ok) (hev:s.ev.length<=100000) (th:Nat) (hth:th<4):
  zP Tryz.prog cfg 28 [.pointer (some ⟨0,0,none⟩),.int .i64 th] (AH.of [some (.hi (.eng s))])
  fun r H'=> r=.ret (zA5 s th).1.v/\H'=AH.of [some (.hi (.eng (zA5 s th).2))]:=by
 cases ha:s.ts th with
 |none=> exact zAc (zQq s th hth (.inl ha)) (by simp[zA5,ha])
 |some a=>
  cases hk:a.asked with
  |false=> exact zAc (zQq s th hth (.inr ⟨a,ha,hk⟩)) (by simp[zA5,ha,hk])
  |true=>
   have hok:=hs.ts th a ha
   have hask:=hok.ask hk
   by_cases h4:4<=a.at_
   ·have e0:zA5 s th=zCu s th a:=by simp[zA5,ha,hk,h4]
    rw[e0]
    have h6:=hok.at_
    have hat:a.at_=4∨a.at_=5∨a.at_=6:=by omega
    rcases hat with hat|hat|hat
    ·cases ho:s.o with
     |none=> exact zAc (qFo s hs hev th hth a ha hk hat ho) (by simp[zCu,hat,ho,zCx])
     |some x=> exact zAc (qFp s hs hev th hth a ha hk x hat ho) (by simp[zCu,hat,ho])
    ·cases hx:a.es[a.nx]? with
     |none=>
      have hge:a.es.length<=a.nx:=List.getElem?_eq_none_iff.1 hx
      by_cases hnx:a.nx=a.es.length
      ·exact zAc (qFn s hs hev th hth a ha hk hat hnx) (by simp[zCu,hat,hx,zCx])
      ·exact absurd (Nat.le_antisymm (hok.la hat) hge) hnx
     |some e=>
      cases hsm:zHb ((s.hp[e.t.toNat]?).getD 0) e.v with
      |true=> exact zAc (qFm s hs hev th hth a ha hk e hat hx hsm) (by simp[zCu,hat,hx,hsm,zCx])
      |false=>
       by_cases ho:s.o=some (th:Int)
       ·exact zAc (qA4 s hs hev th hth a ha hk e hat hx hsm ho) (by simp[zCu,hat,hx,hsm])
       ·exact zAc (qA5 s hs hev th hth a ha hk e hat hx hsm ho) (by simp[zCu,hat,hx,hsm])
    ·by_cases hc:s.c=a.seen
     ·exact zAc (qFk s hs hev th hth a ha hk hat hc) (by simp[zCu,hat,hc])
     ·exact zAc (qFl s hs hev th hth a ha hk hat hc) (by simp[zCu,hat,hc,zCx])
   ·have hlt:a.at_<4:=by omega
    have hkk:a.ra.k=1∨a.ra.k=2∨a.ra.k=3∨a.ra.k=4∨a.ra.k=5∨a.ra.k=6∨a.ra.k=7:=by have:=hask.1;have:=hask.2.1;omega
    obtain⟨f,fs,hfs⟩:∃f fs,a.fs=f::fs:=by
     cases h:a.fs with
     |nil=> exact absurd h hok.fs.1
     |cons f fs=> exact⟨f,fs,rfl⟩
    have hwt:=hok.ww hk
    rcases hkk with k1|k2|k3|k4|k5|k6|k7
    ·have e0:zA5 s th=zEg s th a:=by simp[zA5,ha,hk,h4,k1]
     rw[e0]
     cases hv:qT a.fs a.ra.t with
     |some v=> exact zAc (qKw s hs hev th hth a ha hk hlt k1 v hv) (by simp[zEg,hv])
     |none=>
      have h1:=hok.kr hk hlt k1
      have hra:=hask.2.2.1 (.inl k1)
      obtain⟨y,hy⟩:∃y,s.hp[a.ra.t.toNat]?=some y:=⟨s.hp[a.ra.t.toNat]'(by omega),List.getElem?_eq_getElem (by omega)⟩
      have hat:a.at_=0∨a.at_=1:=by omega
      rcases hat with hat|hat
      ·exact zAc (qKx s hs hev th hth a ha hk hat k1 hv y hy) (by simp[zEg,hv,hat,hy,zCx])
      ·by_cases hc:s.c=a.snap
       ·by_cases hA:zBi a.es ⟨a.ra.t,a.val,0⟩=0
        ·exact zAc (qFb s hs hev th hth a ha hk hat k1 hv hc hA) (by simp[zEg,hv,hat,hc,hA])
        ·by_cases ho:s.o=some (th:Int)
         ·exact zAc (qA1 s hs hev th hth a ha hk hat k1 hv hc hA ho) (by simp[zEg,hv,hat,hc,hA])
         ·exact zAc (qA2 s hs hev th hth a ha hk hat k1 hv hc hA ho) (by simp[zEg,hv,hat,hc,hA])
       ·exact zAc (qFa s hs hev th hth a ha hk hat k1 hv hc) (by simp[zEg,hv,hat,hc,zCx])
    ·have e0:zA5 s th=zDd s th a:=by simp[zA5,ha,hk,h4,k2]
     rw[e0]
     by_cases hP:jU f fs a.ra.t a.ra.v=0
     ·exact zAc (qE9 s hs hev th hth a ha hk hlt k2 f fs hfs hP) (by simp[zDd,k2,hfs,zJc,zMm,hP])
     ·by_cases ho:s.o=some (th:Int)
      ·exact zAc (qAz s hs hev th hth a ha hk hlt k2 f fs hfs hP ho) (by simp[zDd,k2,hfs,zJc,hP])
      ·exact zAc (qA0 s hs hev th hth a ha hk hlt k2 f fs hfs hP ho) (by simp[zDd,k2,hfs,zJc,hP])
    ·have e0:zA5 s th=zDd s th a:=by simp[zA5,ha,hk,h4,k3]
     rw[e0]
     have hl:=hwt.1 k3
     rw[hfs] at hl
     have hl4:¬4<=fs.length:=by simp at hl;omega
     have hl5:¬5<=fs.length+1:=by omega
     exact zAc (qKv s hs hev th hth a ha hk hlt k3 f fs hfs hl4) (by simp[zDd,k3,hfs,zMn,hl4])
    ·have e0:zA5 s th=zDd s th a:=by simp[zA5,ha,hk,h4,k4]
     rw[e0]
     have hl:=hwt.2 (.inl k4)
     rw[hfs] at hl
     cases fs with
     |nil=> simp at hl
     |cons g rs=> exact zAc (qKu s hs hev th hth a ha hk hlt k4 f g rs hfs) (by simp[zDd,k4,hfs,zMx])
    ·have e0:zA5 s th=zDd s th a:=by simp[zA5,ha,hk,h4,k5]
     rw[e0]
     have hl:=hwt.2 (.inr k5)
     rw[hfs] at hl
     cases fs with
     |nil=> simp at hl
     |cons g rs=> exact zAc (qKt s hs hev th hth a ha hk hlt k5 f g rs hfs) (by simp[zDd,k5,hfs,zIh])
    ·have e0:zA5 s th=zDp s th a:=by simp[zA5,ha,hk,h4,k6]
     rw[e0]
     have hat:a.at_=0∨a.at_=1∨a.at_=2∨a.at_=3:=by omega
     rcases hat with hat|hat|hat|hat
     ·by_cases hall:jO a.fs=[]
      ·exact zAc (qFj s hs hev th hth a ha hk hat k6 hall) (by simp[zDp,hat,hall])
      ·exact zAc (qFi s hs hev th hth a ha hk hat k6 hall) (by simp[zDp,hat,hall])
     ·by_cases ht:zDx s.o s.c th a.snap=0
      ·exact zAc (qFg s hs hev th hth a ha hk hat k6 ht) (by simp[zDp,hat,ht])
      ·by_cases ht4:zDx s.o s.c th a.snap=4
       ·have ho:¬s.o=some (th:Int):=fun ho=> by
         have z1:¬(th:Int)<0:=by omega
         have z2:¬4<=(th:Int):=by omega
         rw[ho] at ht4
         simp[zDx,z1,z2] at ht4
        exact zAc (qA3 s hs hev th hth a ha hk hat k6 ht4 ho) (by simp[zDp,hat,ht4])
       ·exact zAc (qFh s hs hev th hth a ha hk hat k6 ht ht4) (by simp[zDp,hat,ht,ht4,zCx])
     ·have hw:=hok.wr hk hat
      obtain⟨p,hp⟩:∃p,(jO a.fs)[a.nx]?=some p:=⟨_,List.getElem?_eq_getElem hw⟩
      have hpr:=qB5 hok (List.mem_of_getElem? hp)
      by_cases hl:a.nx+1=(jO a.fs).length
      ·exact zAc (qFf s hs hev th hth a ha hk hat k6 p hp hpr hl) (by simp[zDp,hat,hp,hl])
      ·exact zAc (qFe s hs hev th hth a ha hk hat k6 p hp hpr hl) (by simp[zDp,hat,hp,hl])
     ·exact zAc (qKz s hs hev th hth a ha hk hat k6 ((hs.dec th a ha).1 ((hs.dec th a ha).2 hk k6 (.inr hat))).1) (by simp[zDp,hat])
    ·have e0:zA5 s th=(qJ 4,qP s th a 4):=by simp[zA5,ha,hk,h4,k7]
     rw[e0]
     by_cases ho:s.o=some (th:Int)
     ·exact qFc s hs hev th hth a ha hk hlt k7 ho
     ·exact qFd s hs hev th hth a ha hk hlt k7 ho
end YtnemoimbeefngaaGreat
end Go.Proofs
namespace Go.Proofs
namespace YtnemoimbeefngaaGreat
open Go.Abs
theorem Att.Ok.mono {a:Att} {s s':NS} (h:a.Ok s) (h1:s.wy.length<=s'.wy.length) (h2:s'.hp.length=s.hp.length) (h3:s.c<=s'.c):a.Ok s' where
 n:=Nat.lt_of_lt_of_le h.n h1
 snap:=⟨h.snap.1,Int.le_trans h.snap.2 h3⟩
 es:=h.es
 est:=by rw[h2];exact h.est
 fs:=h.fs
 fst:=by rw[h2];exact h.fst
 seen:=⟨h.seen.1,Int.le_trans h.seen.2 h3⟩
 val:=h.val
 at_:=h.at_
 back:=h.back
 nx:=h.nx
 ask:=by rw[h2];exact h.ask
 wr:=h.wr
 kr:=h.kr
 ko:=h.ko
 kb:=h.kb
 la:=h.la
 ww:=h.ww
 ne:=h.ne
theorem NS.Ok.turn {s s':NS} (hs:s.Ok) {th:Nat} (hth:th<4) {x:Option Att} (hts:s'.ts=zR s.ts th x) (hhp:s'.hp.length=s.hp.length) (hhv:∀v∈s'.hp,0<=v/\v<18446744073709551616) (hc:s.c<=s'.c/\s'.c<=1099511627776)
  (hh:∀x,s'.o=some x->1<=s'.c/\s'.c<=1099511627775) (hky:s'.ky.length<=64) (hkw:s'.wy.length=s'.ky.length) (hwl:s.wy.length<=s'.wy.length) (hb:∀b,x=some b->b.Ok s')
  (hown:∀x,s'.o=some x->∃(th:Nat) (a:Att),x=(th:Int)/\s'.ts th=some a/\a.dec=true) (hdec:∀i a,s'.ts i=some a->qKa s'.o i a):s'.Ok where
 hp:=by rw[hhp];exact hs.hp
 hv:=hhv
 c:=⟨Int.le_trans hs.c.1 hc.1,hc.2⟩
 held':=hh
 ky:=hky
 kw:=hkw
 ts:=fun i a hi=> by
  rw[hts] at hi
  by_cases he:i=th
  ·subst he;rw[zEb] at hi;exact hb a hi
  ·rw[zC3 _ _ he] at hi;exact (hs.ts i a hi).mono hwl hhp hc.1
 own:=hown
 dec:=hdec
 th4:=fun i hi=> by rw[hts,zC3 _ _ (by omega)];exact hs.th4 i hi
theorem zNu {s:NS} (hs:s.Ok) {th:Nat} {a:Att} (ha:s.ts th=some a) (hd:a.dec=false):¬s.o=some (th:Int):=fun ho=> by
 obtain⟨i,b,h1,h2,h3⟩:=hs.own _ ho
 have:i=th:=by omega
 subst this
 rw[ha] at h2;cases h2
 rw[hd] at h3;cases h3
theorem NS.Ok.turn0 {s s':NS} (hs:s.Ok) {th:Nat} (hth:th<4) {x:Option Att} (hts:s'.ts=zR s.ts th x) (ho:s'.o=s.o) (hcc:s'.c=s.c) (hhp:s'.hp=s.hp) (hky:s'.ky.length<=64) (hkw:s'.wy.length=s'.ky.length) (hwl:s.wy.length<=s'.wy.length)
  (hold:∀a,s.ts th=some a->a.dec=false) (hb:∀b,x=some b->b.Ok s'/\b.dec=false/\¬(b.asked=true/\b.ra.k=6/\(b.at_=2∨b.at_=3))):s'.Ok:=by
 refine hs.turn hth hts (by rw[hhp]) (by rw[hhp];exact hs.hv) ⟨by omega,by rw[hcc];exact hs.c.2⟩ (by rw[ho,hcc];exact hs.held') hky hkw hwl (fun b h=> (hb b h).1) (fun y hy=> ?_) (fun i a hi=> ?_)
 ·rw[ho] at hy
  obtain⟨i,b,h1,h2,h3⟩:=hs.own y hy
  refine⟨i,b,h1,?_,h3⟩
  rw[hts,zC3 _ _ ?_]
  ·exact h2
  ·rintro rfl;rw[hold b h2] at h3;cases h3
 ·rw[hts] at hi
  rw[ho]
  by_cases he:i=th
  ·subst he
   rw[zEb] at hi
   obtain⟨_,h2,h3⟩:=hb a hi
   refine⟨fun h=> (by rw[h2] at h;cases h),fun h4 h5 h6=> (h3 ⟨h4,h5,h6⟩).elim⟩
  ·rw[zC3 _ _ he] at hi;exact hs.dec i a hi
theorem NS.Ok.begin {s:NS} (hs:s.Ok) {th:Nat} (hth:th<4) (h:zDu s th=0):(zAh s th).Ok:=by
 have h1:s.ts th=none/\s.ky.length<64:=by
  unfold zDu at h
  split at h
  ·cases h
  ·split at h
   ·cases h
   ·refine⟨?_,by omega⟩
    cases hx:s.ts th
    ·rfl
    ·simp_all
 refine hs.turn0 hth (s':=zAh s th) rfl rfl rfl rfl (by simp[zAh];omega) (by simp[zAh,hs.kw]) (by simp[zAh]) (fun a ha=> by rw[h1.1] at ha;cases ha) (fun b hb=> ?_)
 cases hb
 refine⟨?_,rfl,fun h=> by cases h.1⟩
 have hc:=hs.c
 exact { n:=(by simp[zCm,zAh,hs.kw])
         snap:=⟨hc.1,Int.le_refl _⟩
         es:=qHt
         est:=(fun e he=> by cases he)
         fs:=zLs
         fst:=(fun f hf p hp=> by simp only[zCm,List.mem_singleton] at hf;subst hf;cases hp)
         seen:=⟨Int.le_refl _,hc.1⟩
         val:=⟨by simp[zCm],by simp[zCm]⟩
         at_:=(by simp[zCm])
         back:=(by simp[zCm])
         nx:=(by simp[zCm])
         ask:=(fun h=> by cases h)
         wr:=(fun h=> by cases h)
         kr:=(fun h=> by cases h)
         ko:=(fun h=> by cases h)
         kb:=(fun h=> by cases h)
         la:=(fun h=> by cases h)
         ww:=(fun h=> by cases h)
         ne:=(fun h=> by cases h) }
theorem qKd {a:Att} {hl:Nat} {x:Ak} (h:zAo a hl x=0) (hk:0<=x.k):1<=x.k/\x.k<=7/\(x.k=1∨x.k=2->0<=x.t/\x.t<hl)/\(x.k=3->a.fs.length<5)/\(x.k=4∨x.k=5->a.fs.length≠1):=by
 unfold zAo at h
 split at h
 ·cases h
 split at h
 ·cases h
 split at h
 ·cases h
 split at h
 ·cases h
 split at h
 ·cases h
 split at h
 ·cases h
 ·refine⟨by omega,by omega,fun h=> by omega,fun h=> by omega,fun h=> by omega⟩
theorem NS.Ok.ask {s:NS} (hs:s.Ok) {th:Nat} (hth:th<4) {x:Ak} (hk:0<=x.k) (hv:0<=x.v/\x.v<18446744073709551616) (h:zDz s th x=0):(qL s th x).Ok:=by
 unfold zDz at h
 cases ha:s.ts th with
 |none=> rw[ha] at h;cases h
 |some a=>
  rw[ha] at h
  simp only at h
  cases hf:a.asked with
  |true=> rw[hf] at h;cases h
  |false=>
   rw[hf] at h
   have hw:=qKd (by simpa using h) hk
   have hok:=hs.ts th a ha
   have hd:a.dec=false:=by
    cases hd:a.dec
    ·rfl
    ·have:=((hs.dec th a ha).1 hd).2.1
     rw[hf] at this;cases this
   have hl1:1<=a.fs.length:=by
    have:=hok.fs.1
    cases h:a.fs with
    |nil=> exact absurd h this
    |cons f fs=> simp
   have e:qL s th x={ s with ts:=zR s.ts th (some { a with asked:=true,ra:=x,at_:=0,nx:=0 }) }:=by simp[qL,ha]
   rw[e]
   refine hs.turn0 hth rfl rfl rfl rfl hs.ky hs.kw (Nat.le_refl _) (fun b hb=> by rw[ha] at hb;cases hb;exact hd) (fun b hb=> ?_)
   cases hb
   refine⟨?_,hd,fun h=> by simp at h⟩
   exact { n:=hok.n
           snap:=hok.snap
           es:=hok.es
           est:=hok.est
           fs:=hok.fs
           fst:=hok.fst
           seen:=hok.seen
           val:=hok.val
           at_:=(by simp)
           back:=hok.back
           nx:=(by simp)
           ask:=(fun _=> ⟨hw.1,hw.2.1,hw.2.2.1,hv⟩)
           wr:=(fun _ h=> by simp at h)
           kr:=(fun _ _ _=> by simp)
           ko:=(fun _ _ _=> rfl)
           kb:=(fun _ h=> by simp at h)
           la:=(fun h=> by simp at h)
           ww:=(fun _=> ⟨hw.2.2.2.1,fun h=> by have h2:=hw.2.2.2.2 h;show 1<a.fs.length;omega⟩)
           ne:=(fun _ _ h=> absurd rfl h) }
theorem NS.Ok.end {s:NS} (hs:s.Ok) {th:Nat} (hth:th<4) {a:Att} (ha:s.ts th=some a) (hd:a.dec=false) (why:Int):(qP s th a why).Ok:=by
 have ho:=zNu hs ha hd
 refine hs.turn0 hth (s':=qP s th a why) rfl (by simp[qP,ho]) (by simp[qP,ho]) rfl hs.ky (by simp[qP,hs.kw]) (by simp[qP]) (fun b hb=> by rw[ha] at hb;cases hb;exact hd) (fun b hb=> by cases hb)
theorem NS.Ok.kill {s:NS} (hs:s.Ok) {th:Nat} (hth:th<4):(zGi s th).Ok:=by
 unfold zGi
 cases ha:s.ts th with
 |none=> exact hs
 |some a=>
  simp only
  cases hd:a.dec with
  |true=> exact hs
  |false=> exact hs.end hth ha hd 3
end YtnemoimbeefngaaGreat
end Go.Proofs
namespace Go.Proofs
namespace YtnemoimbeefngaaGreat
open Go.Abs
theorem Att.Ok.free {a:Att} {s:NS} (h:a.Ok s) {es:List Ent} {fs:List (List Pr)} (he:Good es) (het:∀e∈es,e.t<s.hp.length) (hf:zAn fs) (hft:∀f∈fs,∀p∈f,0<=p.t/\p.t<s.hp.length/\0<=p.v/\p.v<18446744073709551616) (hat:a.at_<4):
  ({ a with asked:=false,es:=es,fs:=fs }:Att).Ok s where
 n:=h.n
 snap:=h.snap
 es:=he
 est:=het
 fs:=hf
 fst:=hft
 seen:=h.seen
 val:=h.val
 at_:=h.at_
 back:=h.back
 nx:=h.nx
 ask:=fun h=> by cases h
 wr:=fun h=> by cases h
 kr:=fun h=> by cases h
 ko:=fun h=> by cases h
 kb:=fun h=> by cases h
 la:=fun h=> by simp only at h;omega
 ww:=fun h=> by cases h
 ne:=fun h=> by cases h
theorem Att.Ok.step {a b:Att} {s:NS} (h:a.Ok s) (hn:b.n=a.n) (hes:b.es=a.es) (hfs:b.fs=a.fs) (hask:b.asked=a.asked) (hra:b.ra=a.ra) (snap:0<=b.snap/\b.snap<=s.c) (seen:0<=b.seen/\b.seen<=s.c) (val:0<=b.val/\b.val<18446744073709551616)
  (hat:b.at_<=6) (back:b.back<=1) (nx:b.nx<=100) (wr:b.at_=2->b.nx<(jO a.fs).length) (kr:b.at_<4->a.ra.k=1->b.at_<=1) (ko:a.ra.k≠1->a.ra.k≠6->b.at_=0) (kb:4<=b.at_->(a.ra.k=1/\b.back=0)∨(a.ra.k=6/\b.back=1)) (la:b.at_=5->b.nx<=a.es.length) (ne:a.ra.k=6->b.at_≠0->jO a.fs≠[]):b.Ok s where
 n:=by rw[hn];exact h.n
 snap:=snap
 es:=by rw[hes];exact h.es
 est:=by rw[hes];exact h.est
 fs:=by rw[hfs];exact h.fs
 fst:=by rw[hfs];exact h.fst
 seen:=seen
 val:=val
 at_:=hat
 back:=back
 nx:=nx
 ask:=by rw[hask,hra];exact h.ask
 wr:=by rw[hask,hfs];exact fun _=> wr
 kr:=by rw[hask,hra];exact fun _=> kr
 ko:=by rw[hask,hra];exact fun _=> ko
 kb:=by rw[hask,hra];exact fun _=> kb
 la:=by rw[hes];exact la
 ww:=by rw[hask,hra,hfs];exact h.ww
 ne:=by rw[hask,hra,hfs];exact fun _=> ne
theorem zT7 {s:NS} (hs:s.Ok) {th:Nat} (hth:th<4) {a:Att} (ha:s.ts th=some a) (hk:a.asked=true) (h4:4<=a.at_):(zCu s th a).2.Ok:=by
 have hok:=hs.ts th a ha
 have hd:a.dec=false:=by
  cases hd:a.dec
  ·rfl
  ·have:=((hs.dec th a ha).1 hd).2.2.2;omega
 have hb4:=hok.kb hk h4
 have put:∀b:Att,b.Ok s->b.dec=false->¬(b.asked=true/\b.ra.k=6/\(b.at_=2∨b.at_=3))->(zCx s th b).Ok:=fun b h1 h2 h3=>
  hs.turn0 hth (s':=zCx s th b) rfl rfl rfl rfl hs.ky hs.kw (Nat.le_refl _) (fun c hc=> by rw[ha] at hc;cases hc;exact hd) (fun c hc=> by cases hc;exact⟨⟨h1.n,h1.snap,h1.es,h1.est,h1.fs,h1.fst,h1.seen,h1.val,h1.at_,h1.back,h1.nx,h1.ask,h1.wr,h1.kr,h1.ko,h1.kb,h1.la,h1.ww,h1.ne⟩,h2,h3⟩)
 have hko:a.ra.k≠1->a.ra.k≠6->a.at_=0:=hok.ko hk
 have hc:=hs.c
 unfold zCu
 split
 ·rename_i hat
  split
  ·exact hs
  ·refine put _ (hok.step rfl rfl rfl rfl rfl hok.snap ⟨hc.1,Int.le_refl _⟩ hok.val (by simp) hok.back (by simp) (fun h=> by simp at h) (fun h=> by simp at h) (fun h1 h2=> by have:=hko h1 h2;omega) (fun _=> hb4) (fun _=> by simp) (fun h6 _=> hok.ne hk h6 (by omega))) hd (by simp)
 ·split
  ·rename_i hat
   split
   ·refine put _ (hok.step rfl rfl rfl rfl rfl hok.snap hok.seen hok.val (by simp) hok.back hok.nx (fun h=> by simp at h) (fun h=> by simp at h) (fun h1 h2=> by have:=hko h1 h2;omega) (fun _=> hb4) (fun h=> by simp at h) (fun h6 _=> hok.ne hk h6 (by omega))) hd (by simp)
   ·rename_i e hx
    have hlt:=(List.getElem?_eq_some_iff.1 hx).1
    have h8:=hok.es.len
    split
    ·refine put _ (hok.step rfl rfl rfl rfl rfl hok.snap hok.seen hok.val hok.at_ hok.back (by simp;omega) (fun h=> by simp at h;omega) (fun h=> by simp at h;omega) (fun h1 h2=> by have:=hko h1 h2;omega) (fun _=> hb4) (fun _=> hlt) (fun h6 _=> hok.ne hk h6 (by omega))) hd (by simp;omega)
    ·exact hs.end hth ha hd 1
  ·split
   ·rename_i hat hc2
    have hbk:a.back=0∨a.back=1:=by have:=hok.back;omega
    refine hs.turn0 hth (s':={ s with ts:=zR s.ts th (some { a with snap:=a.seen,at_:=a.back }),ky:=s.ky.set a.n (a.seen+1) }) rfl rfl rfl rfl (by simp;exact hs.ky) (by simp;exact hs.kw) (Nat.le_refl _) (fun c hc=> by rw[ha] at hc;cases hc;exact hd) (fun c hc=> ?_)
    cases hc
    have hok':a.Ok { s with ts:=zR s.ts th (some { a with snap:=a.seen,at_:=a.back }),ky:=s.ky.set a.n (a.seen+1) }:=hok.mono (Nat.le_refl _) rfl (Int.le_refl _)
    refine⟨hok'.step rfl rfl rfl rfl rfl hok.seen hok.seen hok.val (by simp;omega) hok.back hok.nx (fun h=> by simp at h;omega) (fun _ h=> by simp;omega) (fun h1 h2=> by have:=hko h1 h2;omega) (fun h=> by simp at h;omega) (fun h=> by simp at h;omega) (fun h6 _=> hok.ne hk h6 (by omega)),hd,by simp;omega⟩
   ·rename_i hat hc2
    refine put _ (hok.step rfl rfl rfl rfl rfl hok.snap hok.seen hok.val (by simp) hok.back hok.nx (fun h=> by simp at h) (fun h=> by simp at h) (fun h1 h2=> by have:=hko h1 h2;omega) (fun _=> hb4) (fun h=> by simp at h) (fun h6 _=> hok.ne hk h6 (by omega))) hd (by simp)
theorem zXf {s:NS} (hs:s.Ok) {th:Nat} (hth:th<4) {a:Att} (ha:s.ts th=some a) (hk:a.asked=true) (h4:a.at_<4) (k1:a.ra.k=1):(zEg s th a).2.Ok:=by
 have hok:=hs.ts th a ha
 have hd:a.dec=false:=by
  cases hd:a.dec
  ·rfl
  ·have:=((hs.dec th a ha).1 hd).2.2.1;omega
 have put:∀b:Att,b.Ok s->b.dec=false->¬(b.asked=true/\b.ra.k=6/\(b.at_=2∨b.at_=3))->(zCx s th b).Ok:=fun b h1 h2 h3=>
  hs.turn0 hth (s':=zCx s th b) rfl rfl rfl rfl hs.ky hs.kw (Nat.le_refl _) (fun c hc=> by rw[ha] at hc;cases hc;exact hd) (fun c hc=> by cases hc;exact⟨⟨h1.n,h1.snap,h1.es,h1.est,h1.fs,h1.fst,h1.seen,h1.val,h1.at_,h1.back,h1.nx,h1.ask,h1.wr,h1.kr,h1.ko,h1.kb,h1.la,h1.ww,h1.ne⟩,h2,h3⟩)
 have got:∀(es:List Ent) (v:Int),Good es->(∀e∈es,e.t<s.hp.length)->(zBd s th { a with es:=es } v).Ok:=fun es v h1 h2=> by
  refine hs.turn0 hth (s':=zBd s th { a with es:=es } v) rfl rfl rfl rfl hs.ky hs.kw (Nat.le_refl _) (fun c hc=> by rw[ha] at hc;cases hc;exact hd) (fun c hc=> ?_)
  cases hc
  have hok':a.Ok (zBd s th { a with es:=es } v):=hok.mono (Nat.le_refl _) rfl (Int.le_refl _)
  exact⟨hok'.free h1 h2 hok.fs hok.fst h4,hd,fun h=> by cases h.1⟩
 have hra:=(hok.ask hk).2.2.1 (.inl k1)
 unfold zEg
 split
 ·exact got a.es _ hok.es hok.est
 ·split
  ·rename_i hat
   obtain⟨y,hy⟩:∃y,s.hp[a.ra.t.toNat]?=some y:=⟨s.hp[a.ra.t.toNat]'(by omega),List.getElem?_eq_getElem (by omega)⟩
   have hyv:=hs.hv y (List.mem_of_getElem? hy)
   refine put _ (hok.step rfl rfl rfl rfl rfl hok.snap hok.seen (by simp[hy];exact hyv) (by simp) hok.back hok.nx (fun h=> by simp at h) (fun _ _=> by simp) (fun h1=> absurd k1 h1) (fun h=> by simp at h) (fun h=> by simp at h) (fun h6=> absurd (k1.symm.trans h6) (by decide))) hd (by simp)
  ·split
   ·split
    ·rename_i hA
     refine got _ _ (hok.es.add _) (fun e he=> ?_)
     rcases qJa he with he|rfl
     ·exact hok.est e he
     ·exact hra.2
    ·exact hs.end hth ha hd 2
   ·refine put _ (hok.step rfl rfl rfl rfl rfl hok.snap hok.seen hok.val (by simp) (by simp) hok.nx (fun h=> by simp at h) (fun h=> by simp at h) (fun h1=> absurd k1 h1) (fun _=> .inl ⟨k1,rfl⟩) (fun h=> by simp at h) (fun h6=> absurd (k1.symm.trans h6) (by decide))) hd (by simp)
theorem zXe {s:NS} (hs:s.Ok) {th:Nat} (hth:th<4) {a:Att} (ha:s.ts th=some a) (hk:a.asked=true) (h4:a.at_<4) (k2:a.ra.k=2∨a.ra.k=3∨a.ra.k=4∨a.ra.k=5):(zDd s th a).2.Ok:=by
 have hok:=hs.ts th a ha
 have hd:a.dec=false:=by
  cases hd:a.dec
  ·rfl
  ·have:=((hs.dec th a ha).1 hd).2.2.1;omega
 have go:∀(fs:List (List Pr)) (ev:List Ev),zAn fs->(∀f∈fs,∀p∈f,0<=p.t/\p.t<s.hp.length/\0<=p.v/\p.v<18446744073709551616)->({ s with ts:=zR s.ts th (some { a with asked:=false,fs:=fs }),ev:=ev }:NS).Ok:=fun fs ev h1 h2=> by
  refine hs.turn0 hth (s':={ s with ts:=zR s.ts th (some { a with asked:=false,fs:=fs }),ev:=ev }) rfl rfl rfl rfl hs.ky hs.kw (Nat.le_refl _) (fun c hc=> by rw[ha] at hc;cases hc;exact hd) (fun c hc=> ?_)
  cases hc
  have hok':a.Ok { s with ts:=zR s.ts th (some { a with asked:=false,fs:=fs }),ev:=ev }:=hok.mono (Nat.le_refl _) rfl (Int.le_refl _)
  exact⟨hok'.free hok.es hok.est h1 h2 h4,hd,fun h=> by cases h.1⟩
 obtain⟨f,fs,hfs⟩:∃f fs,a.fs=f::fs:=by
  cases h:a.fs with
  |nil=> exact absurd h hok.fs.1
  |cons f fs=> exact⟨f,fs,rfl⟩
 have hgl:=hok.fs
 have hft:=hok.fst
 have hww:=hok.ww hk
 rw[hfs] at hgl hft hww
 unfold zDd
 split
 ·rename_i k3
  have hl:=hww.1 k3
  have h5:¬5<=(f::fs).length:=by omega
  rw[hfs,zMn,if_neg h5]
  exact go _ _ (zQw hgl hl) fun g hg=> by
   rcases List.mem_cons.1 hg with rfl|hg
   ·intro p hp;cases hp
   ·exact hft g hg
 ·split
  ·rename_i k4
   have hl:=hww.2 (.inl k4)
   cases fs with
   |nil=> simp at hl
   |cons g rs=>
    rw[hfs]
    exact go _ _ (zQ9 hgl) fun q hq=> hft q (by simp only[zMx] at hq;exact List.mem_cons_of_mem _ hq)
  ·split
   ·rename_i k5
    have hl:=hww.2 (.inr k5)
    cases fs with
    |nil=> simp at hl
    |cons g rs=>
     rw[hfs]
     refine go _ _ (zOy hgl) fun q hq=> ?_
     simp only[zIh] at hq
     rcases List.mem_cons.1 hq with rfl|hq
     ·exact zOz (hft g (by simp)) (hft f (by simp)) fun p q h1 h2=> ⟨h1.1,h1.2.1,h2.2.2⟩
     ·exact hft q (by simp[hq])
   ·split
    ·rename_i k3 k4 k5 hP
     have k2':a.ra.k=2:=by omega
     have hra:=hok.ask hk
     have hr:=hra.2.2.1 (.inr k2')
     rw[hfs] at hP⊢
     simp only[zJc] at hP
     refine go _ _ (zTz hgl hP) fun q hq=> ?_
     simp only[zMm] at hq
     rcases List.mem_cons.1 hq with rfl|hq
     ·intro p hp
      rcases zNo hp with rfl|h|⟨r,hr2,rfl⟩
      ·exact⟨hr.1,hr.2,hra.2.2.2⟩
      ·exact hft f (by simp) p h
      ·have:=hft f (by simp) r hr2
       exact⟨this.1,this.2.1,hra.2.2.2⟩
     ·exact hft q (by simp[hq])
    ·exact hs.end hth ha hd 2
theorem zXg {s:NS} (hs:s.Ok) {th:Nat} (hth:th<4) {a:Att} (ha:s.ts th=some a) (hk:a.asked=true) (h4:a.at_<4) (k6:a.ra.k=6):(zDp s th a).2.Ok:=by
 have hok:=hs.ts th a ha
 have hc:=hs.c
 have hdec:=hs.dec th a ha
 have nod:¬(a.at_=2∨a.at_=3)->a.dec=false:=fun h=> by
  cases hd:a.dec
  ·rfl
  ·exact absurd (hdec.1 hd).2.2.2 h
 unfold zDp
 split
 ·rename_i hat
  have hd:=nod (by omega)
  split
  ·refine hs.turn0 hth (s':=xG { s with ev:=s.ev++[⟨7,a.n,0,0⟩] } th a) rfl rfl rfl rfl hs.ky hs.kw (Nat.le_refl _) (fun c hc=> by rw[ha] at hc;cases hc;exact hd) (fun c hc=> by cases hc)
  ·refine hs.turn0 hth (s':={ s with ts:=zR s.ts th (some { a with at_:=1 }),ev:=s.ev++[⟨7,a.n,0,0⟩] }) rfl rfl rfl rfl hs.ky hs.kw (Nat.le_refl _) (fun c hc=> by rw[ha] at hc;cases hc;exact hd) (fun c hc=> ?_)
   cases hc
   have hok':a.Ok { s with ts:=zR s.ts th (some { a with at_:=1 }),ev:=s.ev++[⟨7,a.n,0,0⟩] }:=hok.mono (Nat.le_refl _) rfl (Int.le_refl _)
   exact⟨hok'.step rfl rfl rfl rfl rfl hok.snap hok.seen hok.val (by simp) hok.back hok.nx (fun h=> by simp at h) (fun _ _=> by simp) (fun _ h=> absurd k6 h) (fun h=> by simp at h) (fun h=> by simp at h) (fun _ _=> by assumption),hd,by simp⟩
 ·split
  ·rename_i hat
   have hd:=nod (by omega)
   have hnh:=zNu hs ha hd
   split
   ·rename_i ht
    have ho:s.o=none/\s.c=a.snap/\s.c<1099511627775:=by
     unfold zDx at ht
     split at ht
     ·cases ht
     ·split at ht
      ·cases ht
      ·split at ht
       ·cases ht
       ·split at ht
        ·cases ht
        ·rename_i h1 h2 h3 h4
         refine⟨?_,by omega,by omega⟩
         cases h:s.o
         ·rfl
         ·simp[h] at h2
    have hne:=hok.ne hk k6 (by omega)
    have hl0:0<(jO a.fs).length:=List.length_pos_iff.2 hne
    have hok':a.Ok { s with o:=some (th:Int),c:=s.c+1,ts:=zR s.ts th (some { a with dec:=true,at_:=2,nx:=0 }),ky:=s.ky.set a.n (a.snap+2) }:=hok.mono (Nat.le_refl _) rfl (by simp only;omega)
    refine hs.turn hth (s':={ s with o:=some (th:Int),c:=s.c+1,ts:=zR s.ts th (some { a with dec:=true,at_:=2,nx:=0 }),ky:=s.ky.set a.n (a.snap+2) }) rfl rfl hs.hv ⟨by simp only;omega,by simp only;omega⟩ (fun x _=> ⟨by simp only;omega,by simp only;omega⟩) (by simp;exact hs.ky) (by simp;exact hs.kw) (Nat.le_refl _) (fun c hc=> ?_) (fun x hx=> ?_) (fun i c hi=> ?_)
    ·cases hc
     exact hok'.step rfl rfl rfl rfl rfl hok'.snap hok'.seen hok.val (by simp) hok.back (by simp) (fun _=> hl0) (fun _ h=> by omega) (fun _ h=> absurd k6 h) (fun h=> by simp at h) (fun h=> by simp at h) (fun _ _=> hne)
    ·cases hx
     exact⟨th,_,rfl,zEb _ _ _,rfl⟩
    ·simp only at hi⊢
     by_cases he:i=th
     ·subst he
      rw[zEb] at hi
      cases hi
      exact⟨fun _=> ⟨rfl,hk,k6,.inl rfl⟩,fun _ _ _=> rfl⟩
     ·rw[zC3 _ _ he] at hi
      have hd:=hs.dec i c hi
      exact⟨(fun h=> by have:=(hd.1 h).1;rw[ho.1] at this;cases this),hd.2⟩
   ·split
    ·exact hs.end hth ha hd 2
    ·refine hs.turn0 hth (s':=zCx s th { a with at_:=4,back:=1 }) rfl rfl rfl rfl hs.ky hs.kw (Nat.le_refl _) (fun c hc=> by rw[ha] at hc;cases hc;exact hd) (fun c hc=> ?_)
     cases hc
     have hok':a.Ok (zCx s th { a with at_:=4,back:=1 }):=hok.mono (Nat.le_refl _) rfl (Int.le_refl _)
     exact⟨hok'.step rfl rfl rfl rfl rfl hok.snap hok.seen hok.val (by simp) (by simp) hok.nx (fun h=> by simp at h) (fun h=> by simp at h) (fun _ h=> absurd k6 h) (fun _=> .inr ⟨k6,rfl⟩) (fun h=> by simp at h) (fun _ _=> hok.ne hk k6 (by omega)),hd,by simp⟩
  ·split
   ·rename_i hat
    have hd:=hdec.2 hk k6 (.inl hat)
    have hx:=hdec.1 hd
    have hne:=hok.ne hk k6 (by omega)
    split
    ·rename_i p hp
     have hpm:=List.mem_of_getElem? hp
     have hlt:=(List.getElem?_eq_some_iff.1 hp).1
     have hl12:=qOh a.fs
     obtain⟨f,hf,hpf⟩:=qI7 hpm
     have hpr:=hok.fst f hf p hpf
     obtain⟨b,hb⟩:∃b:Att,b={ a with nx:=a.nx+1,at_:=if a.nx+1=(jO a.fs).length then 3 else 2 }:=⟨_,rfl⟩
     have hb2:b.at_=2∨b.at_=3:=by rw[hb];simp only;split<;> simp
     rw[←hb]
     have hok':a.Ok { s with hp:=s.hp.set p.t.toNat p.v,ts:=zR s.ts th (some b) }:=hok.mono (Nat.le_refl _) (by simp) (Int.le_refl _)
     refine hs.turn hth (s':={ s with hp:=s.hp.set p.t.toNat p.v,ts:=zR s.ts th (some b) }) rfl (by simp) (fun v hv=> ?_) ⟨Int.le_refl _,hc.2⟩ hs.held' hs.ky hs.kw (Nat.le_refl _) (fun c hc=> ?_) (fun x hx2=> ?_) (fun i c hi=> ?_)
     ·rcases List.mem_or_eq_of_mem_set hv with h|rfl
      ·exact hs.hv v h
      ·exact hpr.2.2
     ·cases hc
      refine hok'.step (by rw[hb]) (by rw[hb]) (by rw[hb]) (by rw[hb]) (by rw[hb]) (by rw[hb];exact hok.snap) (by rw[hb];exact hok.seen) (by rw[hb];exact hok.val) (by omega) (by rw[hb];exact hok.back) (by rw[hb];simp only;omega) (fun h=> ?_) (fun _ h=> by omega) (fun _ h=> absurd k6 h) (fun h=> by omega) (fun h=> by omega) (fun _ _=> hne)
      rw[hb] at h⊢
      simp only at h⊢
      split at h
      ·cases h
      ·omega
     ·obtain⟨i,c,h1,h2,h3⟩:=hs.own x hx2
      by_cases he:i=th
      ·subst he
       exact⟨i,b,h1,zEb _ _ _,by rw[hb];exact hd⟩
      ·exact⟨i,c,h1,by simp only;rw[zC3 _ _ he];exact h2,h3⟩
     ·simp only at hi⊢
      by_cases he:i=th
      ·subst he
       rw[zEb] at hi
       cases hi
       exact⟨fun _=> ⟨hx.1,by rw[hb];exact hk,by rw[hb];exact k6,hb2⟩,fun _ _ _=> by rw[hb];exact hd⟩
      ·rw[zC3 _ _ he] at hi
       exact hs.dec i c hi
    ·exact hs
   ·rename_i h0 h1 h2
    have hat:a.at_=3:=by omega
    have hd:=hdec.2 hk k6 (.inr hat)
    have hx:=hdec.1 hd
    have hh:=hs.held' _ hx.1
    refine hs.turn hth (s':=xG { s with o:=none,c:=s.c+1 } th a) rfl rfl hs.hv ⟨by simp only[xG];omega,by simp only[xG];omega⟩ (fun x h=> by cases h) hs.ky hs.kw (Nat.le_refl _) (fun c hc=> by cases hc) (fun x h=> by cases h) (fun i c hi=> ?_)
    simp only[xG] at hi⊢
    by_cases he:i=th
    ·subst he;rw[zEb] at hi;cases hi
    ·rw[zC3 _ _ he] at hi
     have hd2:=hs.dec i c hi
     refine⟨fun h=> ?_,hd2.2⟩
     have:=(hd2.1 h).1
     rw[hx.1] at this
     simp only[Option.some.injEq] at this
     omega
theorem NS.Ok.step {s:NS} (hs:s.Ok) {th:Nat} (hth:th<4):(zA5 s th).2.Ok:=by
 unfold zA5
 cases ha:s.ts th with
 |none=> exact hs
 |some a=>
  simp only
  cases hk:a.asked with
  |false=> exact hs
  |true=>
   simp only[Bool.true_eq_false,if_false]
   have hok:=hs.ts th a ha
   have hask:=hok.ask hk
   split
   ·rename_i h4;exact zT7 hs hth ha hk h4
   ·rename_i h4
    have h4':a.at_<4:=by omega
    split
    ·rename_i k7
     have hd:a.dec=false:=by
      cases hd:a.dec
      ·rfl
      ·have:=((hs.dec th a ha).1 hd).2.2.1;omega
     exact hs.end hth ha hd 4
    ·split
     ·rename_i k6;exact zXg hs hth ha hk h4' k6
     ·split
      ·rename_i k1;exact zXf hs hth ha hk h4' k1
      ·refine zXe hs hth ha hk h4' ?_
       have:=hask.1;have:=hask.2.1;omega
end YtnemoimbeefngaaGreat
end Go.Proofs
namespace Go.Proofs
namespace YtnemoimbeefngaaGreat
open Go.Abs
def zOk (s:NS) (t:Int):Rp:=match zFo t with
 |none=> qK 2
 |some th=> (zA5 s th).1
def zDe (s:NS) (t:Int):NS:=match zFo t with
 |none=> s
 |some th=> (zA5 s th).2
theorem qBp (r:Rp):xD r.v=true:=rfl
def d28:zBm
 |.eng s,[.int .i64 t]=> some (s.Ok/\s.ev.length<=100000,(zOk s t).v,.eng (zDe s t))
 |_,_=> none
theorem zW1:qE Tryz.prog cfg 28 (qA d28):=zAm fun d rest p v d' h hp=> by
 unfold d28 at h
 split at h
 case h_2=> cases h
 rename_i s t
 cases h
 refine⟨rfl,qBp _,?_⟩
 cases ht:zFo t with
 |none=> simp only[zOk,zDe,ht];exact zYf _ _ (zI6 ht)
 |some th=>
  obtain⟨h1,rfl⟩:=zB6 ht
  simp only[zOk,zDe,ht]
  exact qBj s hp.1 hp.2 th h1
theorem qHj (s:NS) (hs:s.Ok) (hev:s.ev.length<=100000) (th:Nat) (hth:th<4) (a:Att) (ha:s.ts th=some a) (hd:a.dec=false):zP Tryz.prog cfg 29 [.pointer (some ⟨0,0,none⟩),.int .i64 th] (AH.of [some (.hi (.eng s))])
  fun r H'=> r=.ret (.int .i64 0)/\H'=AH.of [some (.hi (.eng (qP s th a 3)))]:=by
 refine zP.ends ?_
 have ho:=zNu hs ha hd
 generalize hS:((qP s th a 3):NS)=S'
 refine zP.openEng hth fun es cc hes=> ?_
 have ft:=qV hth hes
 have z1:¬(th:Int)<0:=by omega
 have z2:¬4<=(th:Int):=by omega
 have hok:=hs.ts th a ha
 have hel:(s.ev.length+1)*32<=140737488355328/\s.ev.length<=9223372036854775806:=by omega
 have t3:=xJ s.ev
 have hnw3:a.n+1<=s.wy.length:=hok.n
 have hnw:=hok.n
 have hnw2:(a.n:Int)<s.wy.length:=by omega
 obtain⟨es2,hdel,hes2⟩:=zEs hth hes
 refine zY (tbl:=jH) xF 0 5 (af:=a29) rfl ?_
 rw[a29,b29,qB]
 refine⟨by simp,?_⟩
 simp -implicitDefEqProofs [qW,jH,qA,forms79,a79,b79,forms83,a83,b83,forms86,a86,b86,z1,z2,ha,ft,jI,zD,zH,hd,hel,t3,jL,zG3,ho,hnw,hnw2,hnw3,zCe,qC,hdel]
 subst hS
 rcases qM hth with rfl|rfl|rfl|rfl
 ·have ho0:¬s.o=some 0:=ho
  refine zA [.nil 100,.pack (GD.eng (qP s 0 a 3)) 0 [1,2,3,16,5,6,17,8,9,10]] [0] ?_ ?_ ?_<;> simp[zH,zJ,zR,ha,zD,zZ,o1,o2,o3,zX,zW,qH,qC,qP,ho0]<;> exact hes2
 ·have ho0:¬s.o=some 1:=ho
  refine zA [.nil 100,.pack (GD.eng (qP s 1 a 3)) 0 [1,2,3,16,5,6,8,17,9,10]] [0] ?_ ?_ ?_<;> simp[zH,zJ,zR,ha,zD,zZ,o1,o2,o3,zX,zW,qH,qC,qP,ho0]<;> exact hes2
 ·have ho0:¬s.o=some 2:=ho
  refine zA [.nil 100,.pack (GD.eng (qP s 2 a 3)) 0 [1,2,3,16,5,6,8,9,17,10]] [0] ?_ ?_ ?_<;> simp[zH,zJ,zR,ha,zD,zZ,o1,o2,o3,zX,zW,qH,qC,qP,ho0]<;> exact hes2
 ·have ho0:¬s.o=some 3:=ho
  refine zA [.nil 100,.pack (GD.eng (qP s 3 a 3)) 0 [1,2,3,16,5,6,8,9,10,17]] [0] ?_ ?_ ?_<;> simp[zH,zJ,zR,ha,zD,zZ,o1,o2,o3,zX,zW,qH,qC,qP,ho0]<;> exact hes2
theorem zXp (s:NS) (th:Nat) (hth:th<4) (hb:s.ts th=none∨∃a,s.ts th=some a/\a.dec=true):zP Tryz.prog cfg 29 [.pointer (some ⟨0,0,none⟩),.int .i64 th] (AH.of [some (.hi (.eng s))])
  fun r H'=> r=.ret (.int .i64 8)/\H'=AH.of [some (.hi (.eng s))]:=by
 refine zP.ends ?_
 refine zP.openEng hth fun es cc hes=> ?_
 have ft:=qV hth hes
 have z1:¬(th:Int)<0:=by omega
 have z2:¬4<=(th:Int):=by omega
 rcases hb with ha|⟨a,ha,hd⟩
 ·refine zY (tbl:=[]) (by simp) 0 3 (af:=a29) rfl ?_
  rw[a29,b29,qB]
  refine⟨by simp,?_⟩
  simp -implicitDefEqProofs [qW,forms79,a79,b79,z1,z2,ha,ft,jI]
  rcases qM hth with rfl|rfl|rfl|rfl
  ·refine zA [.pack (GD.eng s) 0 [1,2,3,4,5,6,7,8,9,10]] [0] ?_ ?_ ?_<;> simp[zJ,ha,o1,o2,o3]<;> exact hes
  ·refine zA [.pack (GD.eng s) 0 [1,2,3,4,5,6,8,7,9,10]] [0] ?_ ?_ ?_<;> simp[zJ,ha,o1,o2,o3]<;> exact hes
  ·refine zA [.pack (GD.eng s) 0 [1,2,3,4,5,6,8,9,7,10]] [0] ?_ ?_ ?_<;> simp[zJ,ha,o1,o2,o3]<;> exact hes
  ·refine zA [.pack (GD.eng s) 0 [1,2,3,4,5,6,8,9,10,7]] [0] ?_ ?_ ?_<;> simp[zJ,ha,o1,o2,o3]<;> exact hes
 ·refine zY (tbl:=[]) (by simp) 0 3 (af:=a29) rfl ?_
  rw[a29,b29,qB]
  refine⟨by simp,?_⟩
  simp -implicitDefEqProofs [qW,forms79,a79,b79,z1,z2,ha,ft,jI,zD,zH,hd]
  rcases qM hth with rfl|rfl|rfl|rfl
  ·refine zA [.pack (GD.att a) 7 [11,12],.pack (GD.eng s) 0 [1,2,3,4,5,6,7,8,9,10]] [0] ?_ ?_ ?_<;> simp[zH,zJ,hd,ha,zD,o1,o2,o3]<;> exact hes
  ·refine zA [.pack (GD.att a) 7 [11,12],.pack (GD.eng s) 0 [1,2,3,4,5,6,8,7,9,10]] [0] ?_ ?_ ?_<;> simp[zH,zJ,hd,ha,zD,o1,o2,o3]<;> exact hes
  ·refine zA [.pack (GD.att a) 7 [11,12],.pack (GD.eng s) 0 [1,2,3,4,5,6,8,9,7,10]] [0] ?_ ?_ ?_<;> simp[zH,zJ,hd,ha,zD,o1,o2,o3]<;> exact hes
  ·refine zA [.pack (GD.att a) 7 [11,12],.pack (GD.eng s) 0 [1,2,3,4,5,6,8,9,10,7]] [0] ?_ ?_ ?_<;> simp[zH,zJ,hd,ha,zD,o1,o2,o3]<;> exact hes
theorem zZd (d:GD) (t:Int) (ht:t<0∨4<=t):zP Tryz.prog cfg 29 [.pointer (some ⟨0,0,none⟩),.int .i64 t] (AH.of [some (.hi d)])
  fun r H'=> r=.ret (.int .i64 2)/\H'=AH.of [some (.hi d)]:=by
 refine zP.ends ?_
 have ht':¬t<0->4<=t:=fun h=> by omega
 refine zY (tbl:=[]) (by simp) 0 3 (af:=a29) rfl ?_
 rw[a29,b29,qB]
 refine⟨by simp,?_⟩
 by_cases h1:t<0
 ·simp -implicitDefEqProofs [forms79,a79,b79,h1]
  refine zA [] [0] ?_ ?_ ?_<;> simp
 ·simp -implicitDefEqProofs [forms79,a79,b79,h1,ht' h1]
  refine zA [] [0] ?_ ?_ ?_<;> simp
def zZe (s:NS) (t:Int):Int:=match zFo t with
 |none=> 2
 |some th=> zSc s th
def zFy (s:NS) (t:Int):NS:=match zFo t with
 |none=> s
 |some th=> zGi s th
def d29:zBm
 |.eng s,[.int .i64 t]=> some (s.Ok/\s.ev.length<=100000,.int .i64 (zZe s t),.eng (zFy s t))
 |_,_=> none
theorem qLd:qE Tryz.prog cfg 29 (qA d29):=zAm fun d rest p v d' h hp=> by
 unfold d29 at h
 split at h
 case h_2=> cases h
 rename_i s t
 cases h
 refine⟨rfl,rfl,?_⟩
 cases ht:zFo t with
 |none=> simp only[zZe,zFy,ht];exact zZd _ _ (zI6 ht)
 |some th=>
  obtain⟨h1,rfl⟩:=zB6 ht
  simp only[zZe,zFy,ht]
  cases ha:s.ts th with
  |none=>
   simp only[zSc,zGi,ha]
   exact zXp s th h1 (.inl ha)
  |some a=>
   cases hd:a.dec with
   |true=>
    simp only[zSc,zGi,ha,hd,if_true]
    exact zXp s th h1 (.inr ⟨a,ha,hd⟩)
   |false=>
    simp only[zSc,zGi,ha,hd,Bool.false_eq_true,if_false]
    exact qHj s hp.1 hp.2 th h1 a ha hd
def tblO:List (FuncId × qQ GD):=[(94,qA d94),(49,qA d49)]
theorem qKp:∀x∈tblO,qE Tryz.prog cfg x.1 x.2:=by simp[tblO,zWv,qK7]
theorem qPi (s:NS):zP Tryz.prog cfg 17 [.pointer (some ⟨0,0,none⟩)] (AH.of [some (.hi (.eng s))])
  fun r H'=> r=.ret (.int .u64 s.c)/\H'=AH.of [some (.hi (.eng s))]:=by
 refine zP.ends ?_
 refine zP.openEng (th:=0) (by omega) fun es cc hes=> ?_
 refine zY (tbl:=tblO) qKp 0 3 (af:=a17) rfl ?_
 rw[a17,b17,qB]
 refine⟨by simp,?_⟩
 simp -implicitDefEqProofs [qW,tblO,qA,d49]
 refine zA [.pack (GD.eng s) 0 [1,2,3,4,5,6,7,8,9,10]] [0] ?_ ?_ ?_<;> simp[zJ,o1,o2,o3]<;> exact hes
def d17:zBm
 |.eng s,[]=> some (True,.int .u64 s.c,.eng s)
 |_,_=> none
theorem qLf:qE Tryz.prog cfg 17 (qA d17):=zAm fun d rest p v d' h hp=> by
 unfold d17 at h
 split at h
 ·cases h;exact⟨rfl,rfl,qPi _⟩
 ·cases h
end YtnemoimbeefngaaGreat
end Go.Proofs
namespace Go.Proofs
namespace YtnemoimbeefngaaGreat
open Go.Abs
theorem qO7 (e:TypeId) (l:List Int) (tg:Nat) (hl:l.length<=1000000):zP Tryz.prog cfg 48 [.slice (some ⟨0,0,none⟩) l.length tg] (AH.of [some (.arr e (us l))])
  fun r H'=> r=.ret (.slice (some ⟨1,0,none⟩) l.length 1)/\H'=AH.of [some (.arr e (us l)),some (.arr 49 (us l))]:=by
 refine zP.ends ?_
 refine zY (tbl:=[]) (by simp) 0 0 (af:=a48) rfl ?_
 rw[a48,b48,qB]
 refine⟨by simp,?_⟩
 have h1:l.length*8<=140737488355328/\l.length<=9223372036854775807:=by omega
 have h2:=zPi l
 simp -implicitDefEqProofs [h1,h2,zC5]
 repeat' (first|with_reducible apply And.intro|with_reducible intro _)
 all_goals first
  |(refine zA [] [0,2] ?_ ?_ ?_<;> simp;done)
  |(have:l=[]:=by assumption
    subst this
    refine zMw (r':=.ret (.slice (some ⟨1,0,none⟩) 0 1)) (zMp (by simp)) (zA [.nil 49] [0,1] ?_ ?_ ?_)<;> simp[us])
theorem zPv (l:List Int) (n tg:Nat) (hn:n=l.length) (hl:l.length<=1000000):zP Tryz.prog cfg 48 [.slice (some ⟨0,0,none⟩) n tg] (AH.of [some (.ro (us l))])
  fun r H'=> r=.ret (.slice (some ⟨1,0,none⟩) l.length 1)/\H'=AH.of [some (.ro (us l)),some (.arr 49 (us l))]:=by
 subst hn
 refine zP.ends ?_
 refine zY (tbl:=[]) (by simp) 0 0 (af:=a48) rfl ?_
 rw[a48,b48,qB]
 refine⟨by simp,?_⟩
 have h1:l.length*8<=140737488355328/\l.length<=9223372036854775807:=by omega
 have h2:=zPi l
 simp -implicitDefEqProofs [h1,h2,zC5]
 repeat' (first|with_reducible apply And.intro|with_reducible intro _)
 all_goals first
  |(refine zA [] [0,2] ?_ ?_ ?_<;> simp;done)
  |(have:l=[]:=by assumption
    subst this
    refine zMw (r':=.ret (.slice (some ⟨1,0,none⟩) 0 1)) (zMp (by simp)) (zA [.nil 49] [0,1] ?_ ?_ ?_)<;> simp[us])
def zPn:qQ GD:=fun args H=> match args with
 |[.slice (some ⟨k,0,none⟩) n _]=> match H.get k with
  |some (.arr _ cs)=> (zJr cs).map fun l=> (n=l.length/\l.length<=1000000,.ret (.slice (some ⟨H.next,0,none⟩) l.length 1),H.add (.arr 49 (us l)))
  |some (.ro cs)=> (zJr cs).map fun l=> (n=l.length/\l.length<=1000000,.ret (.slice (some ⟨H.next,0,none⟩) l.length 1),H.add (.arr 49 (us l)))
  |_=> none
 |_=> none
theorem zWx:qE Tryz.prog cfg 48 zPn:=by
 intro args H p r H' h hp
 unfold zPn at h
 split at h
 case h_2=> cases h
 split at h
 ·simp only[Option.map_eq_some_iff] at h
  obtain⟨l,hl,h⟩:=h
  rename_i k n tg x e cs hk
  cases h
  rw[zI1 hl] at hk
  rw[hp.1]
  exact (qO7 e l tg hp.2).atK (zAb rfl) [k] (by simp) (by simp) (by simp[hk]) (by simp) (by simp) (by simp[jF hk])
 ·simp only[Option.map_eq_some_iff] at h
  obtain⟨l,hl,h⟩:=h
  rename_i k n tg x cs hk
  cases h
  rw[zI1 hl] at hk
  exact (zPv l n tg hp.1 hp.2).atK (zBn fun i cs hi=> by rcases i with _|_|i<;> simp at hi⊢;exact hi) [k] (by simp) (by simp) (by simp[hk]) (by simp) (by simp) (by simp[jF hk])
 ·cases h
theorem qPb (e:TypeId) (l:List Ev) (tg:Nat) (hl:l.length<=1000000):zP Tryz.prog cfg 42 [.slice (some ⟨0,0,none⟩) l.length tg] (AH.of [some (.arr e (evs l))])
  fun r H'=> r=.ret (.slice (some ⟨1,0,none⟩) l.length 1)/\H'=AH.of [some (.arr e (evs l)),some (.arr 84 (evs l))]:=by
 refine zP.ends ?_
 refine zY (tbl:=[]) (by simp) 0 0 (af:=a42) rfl ?_
 rw[a42,b42,qB]
 refine⟨by simp,?_⟩
 have h1:l.length*32<=140737488355328/\l.length<=9223372036854775807:=by omega
 have h2:=xJ l
 have h3:l.length*4<=(evs l).length:=by rw[jL];omega
 simp -implicitDefEqProofs [h1,h2,h3]
 repeat' (first|with_reducible apply And.intro|with_reducible intro _)
 all_goals first
  |(refine zA [] [0,2] ?_ ?_ ?_<;> simp;done)
  |(have:l=[]:=by assumption
    subst this
    refine zMw (r':=.ret (.slice (some ⟨1,0,none⟩) 0 1)) (zMp (by simp)) (zA [.nil 84] [0,1] ?_ ?_ ?_)<;> simp[evs])
def st42:qQ GD:=fun args H=> match args with
 |[.slice (some ⟨k,0,none⟩) n _]=> match H.get k with
  |some (.arr _ cs)=> (zAj cs).map fun l=> (n=l.length/\l.length<=1000000,.ret (.slice (some ⟨H.next,0,none⟩) l.length 1),H.add (.arr 84 (evs l)))
  |_=> none
 |_=> none
theorem qK9:qE Tryz.prog cfg 42 st42:=by
 intro args H p r H' h hp
 unfold st42 at h
 split at h
 case h_2=> cases h
 split at h
 ·simp only[Option.map_eq_some_iff] at h
  obtain⟨l,hl,h⟩:=h
  rename_i k n tg x e cs hk
  cases h
  rw[zA0 hl] at hk
  rw[hp.1]
  exact (qPb e l tg hp.2).atK (zAb rfl) [k] (by simp) (by simp) (by simp[hk]) (by simp) (by simp) (by simp[jF hk])
 ·cases h
def zCi:List Int:=[0,4607182418800017408,9221120237041090560,9223372036854775808,0]
theorem zLw:∀v∈zCi,jN v=true:=by
 intro v hv
 simp only[zCi,List.mem_cons,List.not_mem_nil,or_false] at hv
 rcases hv with rfl|rfl|rfl|rfl|rfl<;> decide
theorem zGn:zCi.length=5:=rfl
structure Dd where
 k:Int
 t:Int
 a:Ak
def Dd.cells (d:Dd):List Value:=[.int .i64 d.k,.int .i64 d.t,.int .u8 d.a.k,.int .i64 d.a.t,.int .u64 d.a.v]
def Dd.Ok (d:Dd):Prop:=(0<=d.a.k/\d.a.k<256)/\0<=d.a.v/\d.a.v<18446744073709551616
def dds (l:List Dd):List Value:=l.flatMap Dd.cells
theorem zIy (d:Dd) (l:List Dd):dds (d::l)=.int .i64 d.k::.int .i64 d.t::.int .u8 d.a.k::.int .i64 d.a.t::.int .u64 d.a.v::dds l:=rfl
theorem zZx (l:List Dd):(dds l).length=l.length*5:=by
 induction l with
 |nil=> rfl
 |cons e l ih=> rw[zIy];simp[ih];omega
theorem zKq (l:List Dd):jM (dds l)=true:=by
 induction l with
 |nil=> rfl
 |cons e l ih=> rw[zIy];simp[jM,xD,ih]
theorem qMy (θ:Nat->Nat) (l:List Dd):xV θ (dds l)=dds l:=xI θ _ (zKq l)
theorem qG8 {i:Nat} {x:Dd}:∀{l:List Dd},l[i]?=some x->((dds l).drop (i*5)).take 5=x.cells:=by
 induction i with
 |zero=>
  intro l h
  cases l with
  |nil=> simp at h
  |cons e l=> simp at h;subst h;rfl
 |succ i ih=>
  intro l h
  cases l with
  |nil=> simp at h
  |cons e l=>
   rw[zIy,show (i+1)*5=i*5+1+1+1+1+1 by omega]
   simpa using ih (l:=l) (by simpa using h)
attribute [simp] qMy
def zM2:List Value->Option (List Dd)
 |[]=> some []
 |.int .i64 k::.int .i64 t::.int .u8 a::.int .i64 b::.int .u64 c::l=> (zM2 l).map (⟨k,t,⟨a,b,c⟩⟩::·)
 |_=> none
theorem zRi:∀l:List Dd,zM2 (dds l)=some l
 |[]=> rfl
 |e::l=> by rw[zIy,zM2,zRi l];rfl
theorem zRh:∀{cs:List Value} {l:List Dd},zM2 cs=some l->cs=dds l
 |cs,l,e=> by
  unfold zM2 at e
  split at e
  ·cases e;rfl
  ·simp only[Option.map_eq_some_iff] at e
   obtain⟨l',e1,rfl⟩:=e
   rw[zRh e1];rfl
  ·cases e
attribute [simp] zRi
theorem qPh (e e':TypeId) (a b:List Int) (ta tb:Nat) (hl:a.length<=1000):zP Tryz.prog cfg 18 [.slice (some ⟨0,0,none⟩) a.length ta,.slice (some ⟨1,0,none⟩) b.length tb] (AH.of [some (.arr e (us a)),some (.arr e' (us b))])
  fun r H'=> r=.ret (.bool (decide (a=b)))/\H'=AH.of [some (.arr e (us a)),some (.arr e' (us b))]:=by
 refine zP.ends ?_
 obtain⟨n,hn⟩:∃n,a.length=n:=⟨_,rfl⟩
 by_cases hnm:b.length=n
 ·rw[hn,hnm]
  refine zY (tbl:=[]) (by simp) 1001 0 (af:=a18) rfl ?_
  rw[a18,b18,qB]
  refine⟨by simp,?_⟩
  simp -implicitDefEqProofs
  refine xB (jE xE (jG (by simp)) _ _ noY qX) (fun mm tm H=> ∃i:Nat,mm+i=n/\(∀j,j<i->a[j]?=b[j]?)/\tm 0=.slice (some ⟨0,0,none⟩) n ta/\tm 1=.slice (some ⟨1,0,none⟩) n tb/\tm 5=.int .i64 i/\H=AH.of [some (.arr e (us a)),some (.arr e' (us b))]) (m:=n) ⟨0,by simp⟩ (by omega) ?_
  rintro mm tm H ⟨i,hmm,hpre,t0,t1,t5,rfl⟩
  by_cases hi:i<n
  ·obtain⟨x,hx⟩:=zAp (l:=a) (i:=i) (by omega)
   obtain⟨y,hy⟩:=zAp (l:=b) (i:=i) (by omega)
   have hi':(i:Int)<n:=by omega
   have hwr:=xQ hi (by omega)
   have ux:=zFw hx
   have uy:=zFw hy
   by_cases hxy:x=y
   ·subst hxy
    have hpre2:∀j,j<i+1->a[j]?=b[j]?:=fun j hj=> by
     by_cases h:j=i
     ·subst h;rw[hx,hy]
     ·exact hpre j (by omega)
    simp -implicitDefEqProofs [t0,t1,t5,hi,hi',ux,uy,hwr]
    exact⟨mm - 1,by omega,i+1,by omega,hpre2,by omega⟩
   ·have hne:¬a=b:=fun h=> by subst h;rw[hx] at hy;exact hxy (Option.some.inj hy)
    simp -implicitDefEqProofs [t0,t1,t5,hi,hi',ux,uy,hxy,hne]
    refine zA [] [0,1] ?_ ?_ ?_<;> simp
  ·have hab:a=b:=qBi (by omega) fun j hj=> hpre j (by omega)
   have hi':¬(i:Int)<n:=by omega
   simp -implicitDefEqProofs [t0,t1,t5,hi',hab]
   refine zA [] [0,1] ?_ ?_ ?_<;> simp
 ·have hne:¬a=b:=fun h=> hnm (by rw[←h];exact hn)
  have hnm':¬(n:Int)=b.length:=by omega
  have hnm2:¬n=b.length:=by omega
  rw[hn]
  refine zY (tbl:=[]) (by simp) 1001 0 (af:=a18) rfl ?_
  rw[a18,b18,qB]
  refine⟨by simp,?_⟩
  simp -implicitDefEqProofs [hnm',hnm2,hne]
  refine zA [] [0,1] ?_ ?_ ?_<;> simp
def zTb:qQ GD:=fun args H=> match args with
 |[.slice (some ⟨k,0,none⟩) n _,.slice (some ⟨j,0,none⟩) m _]=> match zB8 H k,zB8 H j with
  |some a,some b=> some (k≠j/\n=a.2.length/\m=b.2.length/\n<=1000,.ret (.bool (decide (a.2=b.2))),H)
  |_,_=> none
 |_=> none
theorem qLe:qE Tryz.prog cfg 18 zTb:=by
 intro args H p r H' h hp
 unfold zTb at h
 split at h
 case h_2=> cases h
 split at h
 case h_2=> cases h
 rename_i k n ta j m tb _ _ a b h1 h2
 cases h
 obtain⟨p1,p2,p3,p4⟩:=hp
 subst p2 p3
 exact (qPh a.1 b.1 a.2 b.2 ta tb p4).atK (zAb rfl) [k,j] (by simp[p1]) (by simp) (by simp[zCg h1,zCg h2]) (by simp) (by simp) (by simp[jF (zCg h1),jF (zCg h2)])
end YtnemoimbeefngaaGreat
end Go.Proofs
namespace Go.Proofs
namespace YtnemoimbeefngaaGreat
open Go.Abs
def zL9:List (FuncId × qQ GD):=[(48,zPn),(42,st42)]
theorem zSt:∀x∈zL9,qE Tryz.prog cfg x.1 x.2:=by simp[zL9,zWx,qK9]
theorem qPj (s:NS) (hs:s.Ok):zP Tryz.prog cfg 16 [.pointer (some ⟨0,0,none⟩)] (AH.of [some (.hi (.eng s))])
  fun r H'=> r=.ret (.slice (some ⟨1,0,none⟩) s.hp.length 1)/\H'=AH.of [some (.hi (.eng s)),some (.arr 49 (us s.hp))]:=by
 refine zP.ends ?_
 refine zP.openEng (th:=0) (by omega) fun es cc hes=> ?_
 have hl:s.hp.length<=1000000:=by have:=hs.hp.2;omega
 refine zY (tbl:=zL9) zSt 0 3 (af:=a16) rfl ?_
 rw[a16,b16,qB]
 refine⟨by simp,?_⟩
 simp -implicitDefEqProofs [qW,zL9,zPn,hl]
 refine zA [.pack (GD.eng s) 0 [1,2,3,4,5,6,7,8,9,10]] [0,11] ?_ ?_ ?_<;> simp[zJ,o1,o2,o3]<;> exact hes
def zTd:qQ GD:=fun args H=> match args with
 |[.pointer (some ⟨k,0,none⟩)]=> match H.get k with
  |some (.hi (.eng s))=> some (s.Ok,.ret (.slice (some ⟨H.next,0,none⟩) s.hp.length 1),H.add (.arr 49 (us s.hp)))
  |_=> none
 |_=> none
theorem qLg:qE Tryz.prog cfg 16 zTd:=by
 intro args H p r H' h hp
 unfold zTd at h
 split at h
 case h_2=> cases h
 split at h
 case h_2=> cases h
 rename_i k x s hk
 cases h
 exact (qPj s hp).atK (zAb rfl) [k] (by simp) (by simp) (by simp[hk]) (by simp) (by simp) (by simp[jF hk])
theorem qPn (s:NS) (hl:s.ev.length<=1000000):zP Tryz.prog cfg 11 [.pointer (some ⟨0,0,none⟩)] (AH.of [some (.hi (.eng s))])
  fun r H'=> r=.ret (.slice (some ⟨1,0,none⟩) s.ev.length 1)/\H'=AH.of [some (.hi (.eng s)),some (.arr 84 (evs s.ev))]:=by
 refine zP.ends ?_
 refine zP.openEng (th:=0) (by omega) fun es cc hes=> ?_
 refine zY (tbl:=zL9) zSt 0 3 (af:=a11) rfl ?_
 rw[a11,b11,qB]
 refine⟨by simp,?_⟩
 simp -implicitDefEqProofs [qW,zL9,st42,hl]
 refine zA [.pack (GD.eng s) 0 [1,2,3,4,5,6,7,8,9,10]] [0,11] ?_ ?_ ?_<;> simp[zJ,o1,o2,o3]<;> exact hes
def zLc:qQ GD:=fun args H=> match args with
 |[.pointer (some ⟨k,0,none⟩)]=> match H.get k with
  |some (.hi (.eng s))=> some (s.ev.length<=1000000,.ret (.slice (some ⟨H.next,0,none⟩) s.ev.length 1),H.add (.arr 84 (evs s.ev)))
  |_=> none
 |_=> none
theorem zW4:qE Tryz.prog cfg 11 zLc:=by
 intro args H p r H' h hp
 unfold zLc at h
 split at h
 case h_2=> cases h
 split at h
 case h_2=> cases h
 rename_i k x s hk
 cases h
 exact (qPn s hp).atK (zAb rfl) [k] (by simp) (by simp) (by simp[hk]) (by simp) (by simp) (by simp[jF hk])
theorem qKh:u8s []=[]:=rfl
def zE5 (h:List Int):NS:=⟨none,0,h,fun _=> none,[],[],[]⟩
def zSy:List (FuncId × qQ GD):=[(48,zPn),(96,zAu),(97,st97)]
theorem zWt:∀x∈zSy,qE Tryz.prog cfg x.1 x.2:=by simp[zSy,zWx,zMg,qK2]
theorem zTn (h:List Int) (tg:Nat) (h1:1<=h.length/\h.length<=12) (hr:∀v∈h,jN v=true):zP Tryz.prog cfg 35 [.slice (some ⟨0,0,none⟩) h.length tg] (AH.of [some (.ro (us h))])
  fun r H'=> r=.ret (.pointer (some ⟨1,0,none⟩))/\H'=AH.of [some (.ro (us h)),some (.hi (.eng (zE5 h)))]:=by
 refine zP.ends ?_
 obtain⟨n,hn⟩:∃n,h.length=n:=⟨_,rfl⟩
 have z1:¬(n:Int)<1:=by omega
 have z2:¬(12:Int)<n:=by omega
 have hl:n<=1000000:=by omega
 rw[hn]
 refine zY (tbl:=zSy) zWt 13 2 (af:=a35) rfl ?_
 rw[a35,b35,qB]
 refine⟨by simp,?_⟩
 simp -implicitDefEqProofs [z1,z2]
 refine xB (jE xE (jG zWt) _ _ noY qX) (fun m tm H=> ∃i:Nat,m+i=n/\tm 0=.slice (some ⟨0,0,none⟩) n tg/\tm 13=.slice (some ⟨0,0,none⟩) n tg/\tm 14=.int .i64 n/\tm 15=.int .i64 i/\H=AH.of [some (.ro (us h))]) (m:=n) ⟨0,by simp⟩ (by omega) ?_
 rintro m tm H ⟨i,hm,t0,t13,t14,t15,rfl⟩
 by_cases hi:i<n
 ·obtain⟨x,hx⟩:=zAp (l:=h) (i:=i) (by omega)
  have hi':(i:Int)<n:=by omega
  have hwr:=xQ hi (by omega)
  have ux:=zFw hx
  have hrx:=hr x (List.mem_of_getElem? hx)
  simp -implicitDefEqProofs [zSy,zAu,t0,t13,t14,t15,hi,hi',ux,hrx,hwr]
  exact⟨m - 1,by omega,i+1,by omega,by omega⟩
 ·have hie:i=n:=by omega
  subst hie
  simp -implicitDefEqProofs [zSy,st97,zPn,t0,t13,t14,t15,hn,hl]
  refine zA [.nil 84,.nil 38,.nil 61,.nil 100,.nil 100,.nil 100,.nil 100,.pack (GD.eng (zE5 h)) 4 [1,2,3,5,6,7,8,9,10,11]] [0,4] ?_ ?_ ?_<;> simp[zJ,zE5,zZ,qN0,qOq,qKh,hn,tpK,tp1,zJi]
  exact zAf.nil 0
def zPp:qQ GD:=fun args H=> match args with
 |[.slice (some ⟨k,0,none⟩) n _]=> match H.get k with
  |some (.arr _ cs)=> (zJr cs).map fun l=> (n=l.length/\k<H.next/\1<=l.length/\l.length<=12/\(∀v∈l,jN v=true),.ret (.pointer (some ⟨H.next,0,none⟩)),H.add (.hi (.eng (zE5 l))))
  |_=> none
 |_=> none
theorem zW0:qE Tryz.prog cfg 35 zPp:=by
 intro args H p r H' h hp
 unfold zPp at h
 split at h
 case h_2=> cases h
 split at h
 case h_2=> cases h
 simp only[Option.map_eq_some_iff] at h
 obtain⟨l,hl,h⟩:=h
 rename_i k n tg x e cs hk
 cases h
 obtain⟨h1,hkn,h2,h3,h4⟩:=hp
 rw[zI1 hl] at hk
 rw[h1]
 refine zP.borrow k hk ?_
 have hk2:(H.upd k (.ro (us l))).get k=some (.ro (us l)):=by rw[AH.get_upd,if_pos rfl]
 have hr:=(zTn l tg ⟨h2,h3⟩ h4).atK (H:=H.upd k (.ro (us l))) (args:=[.slice (some ⟨k,0,none⟩) l.length tg]) (r':=.ret (.pointer (some ⟨H.next,0,none⟩))) (H':=(H.upd k (.ro (us l))).add (.hi (.eng (zE5 l)))) (zBn fun i cs hi=> by rcases i with _|_|i<;> simp at hi⊢;exact hi) [k] (by simp) (by simp) (by simp[hk2]) (by simp) (by simp) (by simp[jF hk2])
 refine hr.mono ?_
 rintro r H' ⟨e1,rfl⟩
 refine⟨by rw[AH.get_add,AH.next_upd,if_neg (by omega),AH.get_upd,if_pos rfl],fun j cs2 hj hcs hne=> ⟨cs2,?_,hne⟩,e1,?_⟩
 ·rw[AH.get_add,AH.next_upd] at hcs
  split at hcs
  ·cases hcs
  ·rw[AH.get_upd,if_neg hj] at hcs;exact hcs
 ·refine AH.ext' (by simp) fun j=> ?_
  rw[AH.get_upd,AH.get_add,AH.get_add,AH.next_upd,AH.get_upd]
  by_cases h:j=k
  ·subst h;rw[if_pos rfl,if_neg (by omega),hk]
  ·rw[if_neg h,if_neg h]
theorem qNd {h:List Int} (h1:1<=h.length/\h.length<=12) (h2:∀v∈h,0<=v/\v<18446744073709551616):(zE5 h).Ok where
 hp:=h1
 hv:=h2
 c:=⟨Int.le_refl _,by simp[zE5]⟩
 held':=fun x h=> by cases h
 ky:=by simp[zE5]
 kw:=rfl
 ts:=fun th a h=> by cases h
 own:=fun x h=> by cases h
 dec:=fun th a h=> by cases h
 th4:=fun _ _=> rfl
theorem zHk:(zE5 zCi).Ok:=qNd ⟨by decide,by decide⟩ (by decide)
end YtnemoimbeefngaaGreat
end Go.Proofs
namespace Go.Proofs
namespace YtnemoimbeefngaaGreat
open Go.Abs
theorem zQz {s:NS} (hs:s.Ok) (t:Int):(zDt s t).Ok:=by
 unfold zDt
 split
 ·exact hs
 ·rename_i th ht
  split
  ·exact hs.begin (zB6 ht).1 (by assumption)
  ·exact hs
theorem zP6 {s:NS} (hs:s.Ok) (t:Int) {x:Ak} (hk:0<=x.k) (hv:0<=x.v/\x.v<18446744073709551616):(zE9 s t x).Ok:=by
 unfold zE9
 split
 ·exact hs
 ·rename_i th ht
  split
  ·exact hs.ask (zB6 ht).1 hk hv (by assumption)
  ·exact hs
theorem zNt {s:NS} (hs:s.Ok) (t:Int):(zDe s t).Ok:=by
 unfold zDe
 split
 ·exact hs
 ·rename_i th ht
  exact hs.step (zB6 ht).1
theorem qG3 {s:NS} (hs:s.Ok) (t:Int):(zFy s t).Ok:=by
 unfold zFy
 split
 ·exact hs
 ·rename_i th ht
  exact hs.kill (zB6 ht).1
theorem qDl (s:NS) (t:Int):(zDt s t).ev.length<=s.ev.length+1:=by
 unfold zDt
 split
 ·omega
 ·split
  ·simp[zAh]
  ·omega
theorem zX0 (s:NS) (t:Int) (x:Ak):(zE9 s t x).ev=s.ev:=by
 unfold zE9
 split
 ·rfl
 ·split
  ·unfold qL;split<;> rfl
  ·rfl
theorem qN1 (s:NS) (th:Nat):(zA5 s th).2.ev.length<=s.ev.length+2:=by
 unfold zA5
 split
 ·simp only;omega
 ·rename_i a ha
  split
  ·simp only;omega
  split
  ·unfold zCu
   repeat' split
   all_goals simp[qP,zCx]
  split
  ·simp[qP]
  split
  ·unfold zDp
   repeat' split
   all_goals simp[qP,zCx,xG]
  split
  ·unfold zEg
   repeat' split
   all_goals simp[qP,zCx,zBd]
  ·unfold zDd
   repeat' split
   all_goals simp[qP]
theorem qIi (s:NS) (t:Int):(zDe s t).ev.length<=s.ev.length+2:=by
 unfold zDe
 split
 ·omega
 ·exact qN1 s _
theorem qIk (s:NS) (t:Int):(zFy s t).ev.length<=s.ev.length+1:=by
 unfold zFy
 split
 ·omega
 ·unfold zGi
  split
  ·omega
  ·split
   ·omega
   ·simp[qP]
def zBl (s:NS) (d:Dd):NS:=
 if d.k=0 then zDt s d.t else if d.k=1 then zE9 s d.t d.a else if d.k=2 then zDe s d.t else if d.k=3 then zFy s d.t else s
theorem zXh {s:NS} (hs:s.Ok) {d:Dd} (hd:d.Ok):(zBl s d).Ok:=by
 unfold zBl
 split
 ·exact zQz hs _
 split
 ·exact zP6 hs _ hd.1.1 hd.2
 split
 ·exact zNt hs _
 split
 ·exact qG3 hs _
 ·exact hs
theorem qN2 (s:NS) (d:Dd):(zBl s d).ev.length<=s.ev.length+2:=by
 unfold zBl
 split
 ·have:=qDl s d.t;omega
 split
 ·rw[zX0];omega
 split
 ·exact qIi s d.t
 split
 ·have:=qIk s d.t;omega
 ·omega
def zB9 (l:List Dd):NS:=l.foldl zBl (zE5 zCi)
theorem zY1 {l:List Dd} {i:Nat} {x:Dd} (h:l[i]?=some x):zB9 (l.take (i+1))=zBl (zB9 (l.take i)) x:=by
 unfold zB9
 rw[List.take_add_one,h,List.foldl_append]
 rfl
theorem zNq (l:List Dd) (hl:∀d∈l,d.Ok):(zB9 l).Ok/\(zB9 l).ev.length<=2*l.length:=by
 have key:∀(l:List Dd) (s:NS),(∀d∈l,d.Ok)->s.Ok->(l.foldl zBl s).Ok/\(l.foldl zBl s).ev.length<=s.ev.length+2*l.length:=by
  intro l
  induction l with
  |nil=> intro s _ h;exact⟨h,by simp⟩
  |cons d l ih=>
   intro s hd hs
   have h1:=ih (zBl s d) (fun x hx=> hd x (by simp[hx])) (zXh hs (hd d (by simp)))
   have h2:=qN2 s d
   refine⟨h1.1,?_⟩
   have h3:=h1.2
   simp only[List.foldl_cons,List.length_cons]
   omega
 have:=key l (zE5 zCi) hl zHk
 refine⟨this.1,?_⟩
 have h2:=this.2
 have h0:(zE5 zCi).ev.length=0:=rfl
 unfold zB9
 omega
theorem zYm (H:AH GD):zP Tryz.prog cfg 12 [] H fun r H'=> r=.ret (.slice (some ⟨H.next,0,none⟩) 5 1)/\H'=H.add (.arr 49 (us zCi)):=by
 have h0:zP Tryz.prog cfg 12 [] (AH.of []) fun r H'=> r=.ret (.slice (some ⟨0,0,none⟩) 5 1)/\H'=AH.of [some (.arr 49 (us zCi))]:=by
  refine zP.ends ?_
  refine zY (tbl:=[]) (by simp) 0 0 (af:=a12) rfl ?_
  rw[a12,b12,qB]
  refine⟨by simp,?_⟩
  simp -implicitDefEqProofs
  refine zA [] [0] ?_ ?_ ?_<;> simp[us,zCi]
 exact h0.atK (zAb rfl) [] (by simp) (by simp) trivial (by simp) (by simp) (by simp)
def zJh:qQ GD:=fun args H=> match args with
 |[]=> some (True,.ret (.slice (some ⟨H.next,0,none⟩) 5 1),H.add (.arr 49 (us zCi)))
 |_=> none
theorem zPs:qE Tryz.prog cfg 12 zJh:=by
 intro args H p r H' h hp
 unfold zJh at h
 split at h
 case h_2=> cases h
 cases h
 exact zYm H
def zR1:List (FuncId × qQ GD):=[(12,zJh),(35,zPp),(24,qA d24),(27,qA d27),(28,qA d28),(11,zLc)]
theorem qE2:∀x∈zR1,qE Tryz.prog cfg x.1 x.2:=by simp[zR1,zPs,zW0,zW3,zW2,zW1,zW4]
def lv1:NS:=zDt (zE5 zCi) 1
def lv2:NS:=zE9 lv1 1 ⟨1,1,0⟩
def lv3:NS:=zDe lv2 1
def lv4:NS:=zDe lv3 1
def lv5:NS:=zE9 lv4 1 ⟨6,0,0⟩
def lv6:NS:=zDe lv5 1
theorem qCu:lv1.Ok/\lv1.ev.length<=100000:=⟨zQz zHk 1,by decide+kernel⟩
theorem qCt:lv2.Ok/\lv2.ev.length<=100000:=⟨zP6 qCu.1 1 (by decide) (by decide),by decide+kernel⟩
theorem qCs:lv3.Ok/\lv3.ev.length<=100000:=⟨zNt qCt.1 1,by decide+kernel⟩
theorem qCr:lv4.Ok/\lv4.ev.length<=100000:=⟨zNt qCs.1 1,by decide+kernel⟩
theorem qP4:lv5.Ok/\lv5.ev.length<=100000:=⟨zP6 qCr.1 1 (by decide) (by decide),by decide+kernel⟩
theorem lv_b:zO7 (zE5 zCi) 1=.tuple #[.int .i64 0,.int .i64 0]:=rfl
theorem lv_a1:zVg lv1 1 ⟨1,1,0⟩=0:=by decide+kernel
theorem lv_a2:zVg lv4 1 ⟨6,0,0⟩=0:=by decide+kernel
theorem lv_s2:zOk lv3 1=qG 4607182418800017408:=by decide+kernel
theorem lv_s3:zOk lv5 1=qJ 0:=by decide+kernel
theorem lv_e:lv6.ev.length=4:=by decide+kernel
theorem runs9:zP Tryz.prog cfg 9 [] (AH.of []) fun r H'=> r=.ret (.bool true)/\H'=AH.of []:=by
 refine zP.ends ?_
 have h1:=zHk
 have h1e:(zE5 zCi).ev.length<=100000:=by decide
 have hr:=zLw
 have e1:zDt (zE5 zCi) 1=lv1:=rfl
 have e2:zE9 lv1 1 ⟨1,1,0⟩=lv2:=rfl
 have e3:zDe lv2 1=lv3:=rfl
 have e4:zDe lv3 1=lv4:=rfl
 have e5:zE9 lv4 1 ⟨6,0,0⟩=lv5:=rfl
 have e6:zDe lv5 1=lv6:=rfl
 refine zY (tbl:=zR1) qE2 0 0 (af:=a9) rfl ?_
 rw[a9,b9,qB]
 refine⟨by simp,?_⟩
 simp -implicitDefEqProofs [zR1,zJh,zPp,qA,d24,d27,d28,zLc,zGn,h1,h1e,hr,e1,e2,e3,e4,e5,e6,qCu,qCt,qCs,qCr,qP4,lv_b,lv_a1,lv_a2,lv_s2,lv_s3,lv_e,Rp.v,Rp.cells,qG,qJ]
 refine⟨hr,zA [] [] ?_ ?_ ?_⟩<;> simp
def st9:qQ GD:=fun args H=> match args with
 |[]=> some (True,.ret (.bool true),H)
 |_=> none
theorem qOr:qE Tryz.prog cfg 9 st9:=by
 intro args H p r H' h hp
 unfold st9 at h
 split at h
 case h_2=> cases h
 cases h
 exact runs9.atK (zAb rfl) [] (by simp) (by simp) trivial (by simp) (by simp) (by simp)
end YtnemoimbeefngaaGreat
end Go.Proofs
namespace Go.Proofs
namespace YtnemoimbeefngaaGreat
open Go.Abs
structure Sole (s:NS) (th:Nat):Prop where
 others:∀i,i≠th->s.ts i=none
 low:∀a,s.ts th=some a->a.at_<4
 snap:∀a,s.ts th=some a->a.dec=false->a.snap=s.c
end YtnemoimbeefngaaGreat
end Go.Proofs
namespace Go.Proofs
namespace YtnemoimbeefngaaGreat
open Go.Abs
def zJa:List (FuncId × qQ GD):=[(12,zJh),(35,zPp),(24,qA d24),(27,qA d27),(28,qA d28),(29,qA d29)]
theorem zSw:∀x∈zJa,qE Tryz.prog cfg x.1 x.2:=by simp[zJa,zPs,zW0,zW3,zW2,zW1,qLd]
theorem runs8 (l:List Dd) (tg:Nat) (hl:∀d∈l,d.Ok):zP Tryz.prog cfg 8 [.slice (some ⟨0,0,none⟩) l.length tg] (AH.of [some (.ro (dds l))])
  fun r H'=> r=.ret (.pointer (some ⟨1,0,none⟩))/\H'=AH.of [some (.ro (dds l)),some (.hi (.eng (zB9 (l.take 120))))]:=by
 refine zP.ends ?_
 have hr:=zLw
 refine zY (tbl:=zJa) zSw 121 0 (af:=a8) rfl ?_
 rw[a8,b8,qB]
 refine⟨by simp,?_⟩
 simp -implicitDefEqProofs [zJa,zJh,zPp,zGn,hr]
 refine⟨hr,?_⟩
 refine zBj (jE xE (jG zSw) _ _ noY qX) (fun m tm H=> ∃i:Nat,m+i=120/\i<=l.length/\tm 0=.slice (some ⟨0,0,none⟩) l.length tg/\tm 3=.pointer (some ⟨2,0,none⟩)/\tm 4=.int .i64 i/\
  H=AH.of [some (.ro (dds l)),none,some (.hi (.eng (zB9 (l.take i))))]) (m:=120) ?_ (by omega) ?_
 ·refine qN [] [0,1,2] [some (.ro (dds l)),none,some (.hi (.eng (zB9 (l.take 0))))] 120 (by omega) ?_ ?_ ⟨0,by omega,by omega,?_,?_,?_,rfl⟩<;> simp[zB9]
 rintro m tm H ⟨i,hm,hil,t0,t3,t4,rfl⟩
 obtain⟨s,hsd⟩:∃s,zB9 (l.take i)=s:=⟨_,rfl⟩
 have hok:=zNq (l.take i) fun d hd=> hl d (List.mem_of_mem_take hd)
 rw[hsd] at hok⊢
 have hs:=hok.1
 have hev:s.ev.length<=100000:=by
  have:=hok.2;rw[List.length_take] at this;omega
 by_cases hi:i<l.length
 ·have hi':(i:Int)<l.length:=by omega
  by_cases h120:i<120
  ·have h120':(i:Int)<120:=by omega
   obtain⟨x,hx⟩:=zAp (l:=l) (i:=i) (by omega)
   have hxo:=hl x (List.mem_of_getElem? hx)
   have hsuc:=zY1 hx
   rw[hsd] at hsuc
   have cm:=qG8 hx
   have hle:i*5+5<=(dds l).length:=by rw[zZx];omega
   have hwr:=xQ h120 (by omega)
   have hak:=hxo.1.1
   by_cases k0:x.k=0
   ·have hS:zBl s x=zDt s x.t:=by simp[zBl,k0]
    simp -implicitDefEqProofs [zJa,qA,d24,t0,t3,t4,hi,hi',h120,h120',cm,hle,Dd.cells,k0,hwr]
    refine⟨⟨hs,hev⟩,qN [] [0,1,2] [some (.ro (dds l)),none,some (.hi (.eng (zB9 (l.take (i+1)))))] (m - 1) (by omega) ?_ ?_ ⟨i+1,by omega,by omega,?_,?_,?_,rfl⟩⟩<;> simp[t0,t3,hsuc,hS]
   ·by_cases k1:x.k=1
    ·have hS:zBl s x=zE9 s x.t x.a:=by simp[zBl,k1]
     have hS2:zE9 s x.t ⟨x.a.k,x.a.t,x.a.v⟩=zE9 s x.t x.a:=rfl
     simp -implicitDefEqProofs [zJa,qA,d27,t0,t3,t4,hi,hi',h120,h120',cm,hle,Dd.cells,k0,k1,hwr,hS2]
     refine⟨⟨hs,hak⟩,qN [] [0,1,2] [some (.ro (dds l)),none,some (.hi (.eng (zB9 (l.take (i+1)))))] (m - 1) (by omega) ?_ ?_ ⟨i+1,by omega,by omega,?_,?_,?_,rfl⟩⟩<;> simp[t0,t3,hsuc,hS]
    ·by_cases k2:x.k=2
     ·have hS:zBl s x=zDe s x.t:=by simp[zBl,k2]
      simp -implicitDefEqProofs [zJa,qA,d28,t0,t3,t4,hi,hi',h120,h120',cm,hle,Dd.cells,k0,k1,k2,hwr]
      refine⟨⟨hs,hev⟩,qN [] [0,1,2] [some (.ro (dds l)),none,some (.hi (.eng (zB9 (l.take (i+1)))))] (m - 1) (by omega) ?_ ?_ ⟨i+1,by omega,by omega,?_,?_,?_,rfl⟩⟩<;> simp[t0,t3,hsuc,hS]
     ·by_cases k3:x.k=3
      ·have hS:zBl s x=zFy s x.t:=by simp[zBl,k3]
       simp -implicitDefEqProofs [zJa,qA,d29,t0,t3,t4,hi,hi',h120,h120',cm,hle,Dd.cells,k0,k1,k2,k3,hwr]
       refine⟨⟨hs,hev⟩,qN [] [0,1,2] [some (.ro (dds l)),none,some (.hi (.eng (zB9 (l.take (i+1)))))] (m - 1) (by omega) ?_ ?_ ⟨i+1,by omega,by omega,?_,?_,?_,rfl⟩⟩<;> simp[t0,t3,hsuc,hS]
      ·have hS:zBl s x=s:=by simp[zBl,k0,k1,k2,k3]
       simp -implicitDefEqProofs [t0,t3,t4,hi,hi',h120,h120',cm,hle,Dd.cells,k0,k1,k2,k3,hwr]
       refine qN [] [0,1,2] [some (.ro (dds l)),none,some (.hi (.eng (zB9 (l.take (i+1)))))] (m - 1) (by omega) ?_ ?_ ⟨i+1,by omega,by omega,?_,?_,?_,rfl⟩<;> simp[t0,t3,hsuc,hS]
  ·have h120':¬(i:Int)<120:=by omega
   have he:i=120:=by omega
   have hs2:zB9 (l.take 120)=s:=by rw[←he];exact hsd
   simp -implicitDefEqProofs [t0,t3,t4,hi,hi',h120,h120']
   refine zA [] [0,2] ?_ ?_ ?_<;> simp[hs2]
 ·have hi':¬(i:Int)<l.length:=by omega
  have hs2:zB9 (l.take 120)=s:=by
   rw[←hsd,List.take_of_length_le (by omega),List.take_of_length_le (by omega)]
  simp -implicitDefEqProofs [t0,t3,t4,hi,hi']
  refine zA [] [0,2] ?_ ?_ ?_<;> simp[hs2]
def st8:qQ GD:=fun args H=> match args with
 |[.slice (some ⟨k,0,none⟩) n _]=> match H.get k with
  |some (.ro cs)=> (zM2 cs).map fun l=> (n=l.length/\∀d∈l,d.Ok,.ret (.pointer (some ⟨H.next,0,none⟩)),H.add (.hi (.eng (zB9 (l.take 120)))))
  |_=> none
 |_=> none
theorem qOs:qE Tryz.prog cfg 8 st8:=by
 intro args H p r H' h hp
 unfold st8 at h
 split at h
 case h_2=> cases h
 split at h
 case h_2=> cases h
 simp only[Option.map_eq_some_iff] at h
 obtain⟨l,hl,h⟩:=h
 rename_i k n tg x cs hk
 cases h
 rw[zRh hl] at hk
 rw[hp.1]
 exact (runs8 l tg hp.2).atK (zBn fun i cs hi=> by rcases i with _|_|i<;> simp at hi⊢;exact hi) [k] (by simp) (by simp) (by simp[hk]) (by simp) (by simp) (by simp[jF hk])
end YtnemoimbeefngaaGreat
end Go.Proofs
namespace Go.Proofs
namespace YtnemoimbeefngaaGreat
open Go.Abs Go.ChangeShapes Go.WideShapes Go.ChangeAt Go.RowKit
set_option maxRecDepth 100000
theorem zQd:Tryz.prog.cellsOf 53=5:=by kernel_rfl
theorem zX4:Tryz.prog.cellsOf 51=3:=by kernel_rfl
theorem qDy:Tryz.prog.cellsOf 3=1:=by kernel_rfl
def qP5:List TypeId:=[22,53,51,48,49,3,38,5]
theorem zXo:zF9 Tryz.prog qP5=true:=by kernel_rfl
section
variable {H:Type} {enc:TypeId × Value->H} {w:World}
theorem qAa {fuel:Nat} {cs:List Value} {y:DataW H × List MemPlace} (h:DataW.trod enc Tryz.prog w 0 (fun _=> true) true fuel 51 cs=some y):∃e:Ak,cs=[.int .u8 e.k,.int .i64 e.t,.int .u64 e.v]/\(0<=e.k/\e.k<256)/\0<=e.v/\e.v<18446744073709551616:=by
 obtain⟨h1,h2⟩:=zS4 Tryz.underlying51 (by kernel_rfl) h zX4
 obtain⟨v0,n0,y0,g0,t0⟩:=h2 0 _ rfl
 obtain⟨v1,n1,y1,g1,t1⟩:=h2 1 _ rfl
 obtain⟨v2,n2,y2,g2,t2⟩:=h2 2 _ rfl
 obtain⟨a,ha,_,hwa⟩:=DataW.trod_int Tryz.underlying48 t0
 obtain⟨b,hb,_,_⟩:=DataW.trod_int Tryz.underlying3 t1
 obtain⟨c,hc,_,hw⟩:=DataW.trod_int Tryz.underlying49 t2
 have h3:cs.length=3:=h1
 match cs,h3 with
 |[c0,c1,c2],_=>
  simp only[List.getElem?_cons_zero,List.getElem?_cons_succ,Option.some.injEq] at g0 g1 g2
  cases g0;cases g1;cases g2
  cases ha;cases hb;cases hc
  exact⟨⟨a,b,c⟩,rfl,wf_u8 hwa,qOp hw⟩
theorem qIu {fuel:Nat} {cs:List Value} {y:DataW H × List MemPlace} (h:DataW.trod enc Tryz.prog w 0 (fun _=> true) true fuel 53 cs=some y):∃e:Dd,cs=e.cells/\e.Ok:=by
 obtain⟨xs,n,_,_,h1,h2,h3⟩:=DataW.trod_struct Tryz.underlying53 h
 have hl:cs.length=5:=by rw[h1,zQd]
 obtain⟨c0,c1,c2,c3,c4,rfl⟩:∃c0 c1 c2 c3 c4,cs=[c0,c1,c2,c3,c4]:=by
  match cs,hl with
  |[c0,c1,c2,c3,c4],_=> exact⟨c0,c1,c2,c3,c4,rfl⟩
 have f0:=h3 0 _ rfl
 have f1:=h3 1 _ rfl
 have f2:=h3 2 _ rfl
 have hx:xs.length=3:=h2
 have e0:xs[0]?=some xs[0]:=List.getElem?_eq_getElem (by omega)
 have e1:xs[1]?=some xs[1]:=List.getElem?_eq_getElem (by omega)
 have e2:xs[2]?=some xs[2]:=List.getElem?_eq_getElem (by omega)
 change DataW.trod enc Tryz.prog w 0 (fun _=> true) true n 3 (([c0,c1,c2,c3,c4].drop 0).take (Tryz.prog.cellsOf 3))=xs[0]? at f0
 change DataW.trod enc Tryz.prog w 0 (fun _=> true) true n 3 (([c0,c1,c2,c3,c4].drop 1).take (Tryz.prog.cellsOf 3))=xs[1]? at f1
 change DataW.trod enc Tryz.prog w 0 (fun _=> true) true n 51 (([c0,c1,c2,c3,c4].drop 2).take (Tryz.prog.cellsOf 51))=xs[2]? at f2
 rw[qDy,e0] at f0
 rw[qDy,e1] at f1
 rw[zX4,e2] at f2
 obtain⟨a,ha,_,_⟩:=DataW.trod_int Tryz.underlying3 f0
 obtain⟨b,hb,_,_⟩:=DataW.trod_int Tryz.underlying3 f1
 obtain⟨x,hx,hxo⟩:=qAa f2
 have ha':[c0]=[.int .i64 a]:=ha
 have hb':[c1]=[.int .i64 b]:=hb
 have hx':[c2,c3,c4]=[.int .u8 x.k,.int .i64 x.t,.int .u64 x.v]:=hx
 cases ha';cases hb';cases hx'
 exact⟨⟨a,b,x⟩,rfl,hxo⟩
theorem zX1 (l:List Dd):(dds l).all (·.oneCell')=true:=by
 induction l with
 |nil=> rfl
 |cons e l ih=> rw[zIy];simpa [Value.oneCell'] using ih
theorem zM8 {r:Reach} {b0:Nat} {v:Value} {d:DataW H} {ps:List MemPlace} (hok:Value.okWide Tryz.prog w r b0 22 v) (hd:DataW.Trod enc Tryz.prog w 0 (fun _=> true) true 22 v d ps):
  ∃l:List Dd,(∀e∈l,e.Ok)/\l.length<=maxLen/\zVo w v l.length (dds l):=
 qCg (ea:=Dd.cells) Tryz.underlying22 (by rw[zQd];omega) (fun x=> zQd.symm) (fun _ _ _ h=> qIu h) hok hd
end
end YtnemoimbeefngaaGreat
end Go.Proofs
namespace Go.Proofs
namespace YtnemoimbeefngaaGreat
open Go.Abs
def rf (fs:List (List Pr)):List Value:=fs.reverse.flatMap jS
theorem xO (fs:List (List Pr)):frag (.rlog fs)=[.arr 173 [.slice (some ⟨1,0,none⟩) fs.length 1],.arr 214 (rf fs)]:=rfl
theorem zFe (f:List Pr) (r:List (List Pr)):rf (f::r)=rf r++jS f:=by simp[rf]
theorem xP (f:List Pr):(jS f).length=24:=by simp[jS,zEf]
theorem zEr (fs:List (List Pr)):(rf fs).length=fs.length*24:=by
 induction fs with
 |nil=> rfl
 |cons f r ih=> rw[zFe,List.length_append,ih,xP,List.length_cons];omega
theorem zK3 (f:List Pr):jM (jS f)=true:=by
 have h:∀l m:List Value,jM l=true->jM m=true->jM (l++m)=true:=by
  intro l m h1 h2
  induction l with
  |nil=> exact h2
  |cons x l ih=>
   simp only[jM,Bool.and_eq_true,List.cons_append] at h1⊢
   exact⟨h1.1,ih h1.2⟩
 refine h _ _ ?_ ?_<;> simp[zEf,jM,xD]
theorem qBu (fs:List (List Pr)):jM (rf fs)=true:=by
 have h:∀l m:List Value,jM l=true->jM m=true->jM (l++m)=true:=by
  intro l m h1 h2
  induction l with
  |nil=> exact h2
  |cons x l ih=>
   simp only[jM,Bool.and_eq_true,List.cons_append] at h1⊢
   exact⟨h1.1,ih h1.2⟩
 induction fs with
 |nil=> rfl
 |cons f r ih=> rw[zFe];exact h _ _ ih (zK3 f)
theorem qPv (θ:Nat->Nat) (fs:List (List Pr)):xV θ (rf fs)=rf fs:=xI θ _ (qBu fs)
theorem zPj (fs:List (List Pr)):(rf fs).take (fs.length*24)=rf fs:=List.take_of_length_le (by rw[zEr];omega)
theorem qPr:rf [[]]=[.bool false,.bool false,.bool false,.bool false,.bool false,.bool false,.bool false,.bool false,.bool false,.bool false,.bool false,.bool false,.int .u64 0,.int .u64 0,.int .u64 0,.int .u64 0,.int .u64 0,.int .u64 0,.int .u64 0,.int .u64 0,.int .u64 0,.int .u64 0,.int .u64 0,.int .u64 0]:=rfl
theorem qMs (fs:List (List Pr)):rf ([]::fs)=rf fs++[.bool false,.bool false,.bool false,.bool false,.bool false,.bool false,.bool false,.bool false,.bool false,.bool false,.bool false,.bool false,.int .u64 0,.int .u64 0,.int .u64 0,.int .u64 0,.int .u64 0,.int .u64 0,.int .u64 0,.int .u64 0,.int .u64 0,.int .u64 0,.int .u64 0,.int .u64 0]:=zFe [] fs
attribute [simp] qPv
theorem qMj:zP Tryz.prog cfg 119 [] (AH.of []) fun r H'=> r=.ret (.pointer (some ⟨0,0,none⟩))/\H'=AH.of [some (.hi (.rlog [[]]))]:=by
 refine zP.ends ?_
 refine zY (tbl:=[]) (by simp) 0 0 (af:=a119) rfl ?_
 rw[a119,b119,qB]
 refine⟨by simp,?_⟩
 simp -implicitDefEqProofs
 refine zA [.pack (GD.rlog [[]]) 1 [0]] [1] ?_ ?_ ?_<;> simp[xO,qPr,AObj.mine]
def zR8:qQ GD:=fun args H=> match args with
 |[]=> some (True,.ret (.pointer (some ⟨H.next,0,none⟩)),H.add (.hi (.rlog [[]])))
 |_=> none
theorem qGf:qE Tryz.prog cfg 119 zR8:=by
 intro args H p r H' h hp
 unfold zR8 at h
 split at h
 case h_2=> cases h
 cases h
 exact qMj.atK (zAb rfl) [] (by simp) (by simp) trivial (by simp) (by simp) (by simp)
theorem qL1 (fs:List (List Pr)) (hl:fs.length<=1000):zP Tryz.prog cfg 169 [.pointer (some ⟨0,0,none⟩)] (AH.of [some (.hi (.rlog fs))])
  fun r H'=> r=.ret (.int .i64 ((fs.length:Int) - 1))/\H'=AH.of [some (.hi (.rlog fs))]:=by
 refine zP.ends ?_
 have hw:IntKind.i64.wrap ((fs.length:Int) - 1)=(fs.length:Int) - 1:=qO (by omega) (by omega)
 refine zY (tbl:=[]) (by simp) 0 0 (af:=a169) rfl ?_
 rw[a169,b169,qB]
 refine⟨by simp,?_⟩
 simp -implicitDefEqProofs [xO,hw]
 refine zA [.pack (GD.rlog fs) 0 [1]] [0] ?_ ?_ ?_<;> simp[xO,AObj.mine]
def zAy:zBm
 |.rlog fs,[]=> some (fs.length<=1000,.int .i64 ((fs.length:Int) - 1),.rlog fs)
 |_,_=> none
theorem qFz:qE Tryz.prog cfg 169 (qA zAy):=zAm fun d rest p v d' h hp=> by
 unfold zAy at h
 split at h
 ·cases h;exact⟨rfl,rfl,qL1 _ hp⟩
 ·cases h
theorem qL0 (f:List Pr) (r:List (List Pr)) (hl:r.length<=100):zP Tryz.prog cfg 179 [.pointer (some ⟨0,0,none⟩)] (AH.of [some (.hi (.rlog (f::r)))])
  fun x H'=> x=.ret (.int .i64 (if 4<=r.length then 4 else 0))/\H'=AH.of [some (.hi (if 4<=r.length then .rlog (f::r) else .rlog ([]::f::r)))]:=by
 refine zP.ends ?_
 obtain⟨fs,hfs⟩:∃fs,f::r=fs:=⟨_,rfl⟩
 have hlen:fs.length=r.length+1:=by rw[←hfs];rfl
 rw[hfs]
 have hw:IntKind.i64.wrap ((fs.length:Int) - 1)=(r.length:Int):=by rw[qO (by omega) (by omega)];omega
 refine zY (tbl:=[]) (by simp) 0 1 (af:=a179) rfl ?_
 rw[a179,b179,qB]
 refine⟨by simp,?_⟩
 by_cases h4:4<=r.length
 ·have h4':(4:Int)<=r.length:=by omega
  rw[if_pos h4,if_pos h4]
  simp -implicitDefEqProofs [xO,forms169,a169,b169,hw,h4']
  refine zA [.pack (GD.rlog fs) 0 [1]] [0] ?_ ?_ ?_<;> simp[xO,AObj.mine]
 ·have h4':¬(4:Int)<=r.length:=by omega
  rw[if_neg h4,if_neg h4]
  obtain⟨n,hn⟩:∃n,fs.length=n:=⟨_,rfl⟩
  have tk:=zPj fs
  have rl:=zEr fs
  rw[hn] at tk hw rl
  have z1:n*112<=140737488355328/\n<=9223372036854775807:=by omega
  have z2:(n+1)*112<=140737488355328/\n<=9223372036854775806:=by omega
  have hpu:=qMs fs
  simp -implicitDefEqProofs [xO,hn,forms169,a169,b169,hw,h4',tk,rl,z1,z2]
  refine zA [.pack (GD.rlog ([]::fs)) 0 [5]] [0] ?_ ?_ ?_<;> simp[xO,hn,AObj.mine,hpu]
def zUz:zBm
 |.rlog (f::r),[]=> some (r.length<=100,.int .i64 (if 4<=r.length then 4 else 0),if 4<=r.length then .rlog (f::r) else .rlog ([]::f::r))
 |_,_=> none
theorem qFy:qE Tryz.prog cfg 179 (qA zUz):=zAm fun d rest p v d' h hp=> by
 unfold zUz at h
 split at h
 ·cases h;exact⟨rfl,rfl,qL0 _ _ hp⟩
 ·cases h
theorem qLz (f:List Pr) (r:List (List Pr)) (hl:r.length<=100):zP Tryz.prog cfg 180 [.pointer (some ⟨0,0,none⟩)] (AH.of [some (.hi (.rlog (f::r)))])
  fun x H'=> x=.ret (.int .i64 (if r=[] then 8 else 0))/\H'=AH.of [some (.hi (if r=[] then .rlog (f::r) else .rlog r))]:=by
 refine zP.ends ?_
 have hw:IntKind.i64.wrap (((r.length:Int)+1) - 1)=(r.length:Int):=by rw[qO (by omega) (by omega)];omega
 refine zY (tbl:=[]) (by simp) 0 1 (af:=a180) rfl ?_
 rw[a180,b180,qB]
 refine⟨by simp,?_⟩
 by_cases h0:r=[]
 ·rw[if_pos h0,if_pos h0]
  subst h0
  have hw0:IntKind.i64.wrap 0=0:=by decide
  simp -implicitDefEqProofs [xO,forms169,a169,b169,hw0]
  refine zA [.pack (GD.rlog [f]) 0 [1]] [0] ?_ ?_ ?_<;> simp[xO,AObj.mine]
 ·rw[if_neg h0,if_neg h0]
  have h1:¬(r.length:Int)=0:=by
   have:r.length≠0:=fun h=> h0 (List.eq_nil_of_length_eq_zero h)
   omega
  obtain⟨n,hn⟩:∃n,r.length=n:=⟨_,rfl⟩
  have tk:(rf (f::r)).take (n*24)=rf r:=by rw[zFe,←hn,List.take_append_of_le_length (by rw[zEr];omega)];exact zPj r
  have rl:=zEr (f::r)
  rw[hn] at hw h1
  have hn1:(f::r).length=n+1:=by simp[hn]
  rw[hn1] at rl
  have z1:n*112<=140737488355328/\n<=9223372036854775807:=by omega
  have hw2:IntKind.i64.wrap (n:Int)=n:=qO (by omega) (by omega)
  have z2:n*24<=(n+1)*24:=by omega
  have z3:(n:Int)<=(n:Int)+1:=by omega
  have z4:¬n=0:=by omega
  simp -implicitDefEqProofs [xO,hn,forms169,a169,b169,hw,hw2,h1,tk,rl,z1,z2,z3,z4,bound]
  refine zA [.pack (GD.rlog r) 0 [3]] [0] ?_ ?_ ?_<;> simp[xO,hn,AObj.mine]
def zJn:zBm
 |.rlog (f::r),[]=> some (r.length<=100,.int .i64 (if r=[] then 8 else 0),if r=[] then .rlog (f::r) else .rlog r)
 |_,_=> none
theorem zTa:qE Tryz.prog cfg 180 (qA zJn):=zAm fun d rest p v d' h hp=> by
 unfold zJn at h
 split at h
 ·cases h;exact⟨rfl,rfl,qLz _ _ hp⟩
 ·cases h
end YtnemoimbeefngaaGreat
end Go.Proofs
namespace Go.Proofs
namespace YtnemoimbeefngaaGreat
open Go.Abs
theorem zEl (g:List Pr) {t:Nat} (h:t<12):(jS g)[t]?=some (.bool (qZ g t).isSome):=by
 unfold jS
 rw[List.getElem?_append_left (by simp[zEf];omega),List.getElem?_map]
 have:zEf[t]?=some (t:Int):=by
  match t,h with
  |0,_|1,_|2,_|3,_|4,_|5,_|6,_|7,_|8,_|9,_|10,_|11,_=> rfl
 rw[this];rfl
theorem zGk (g:List Pr) {t:Nat} (h:t<12):(jS g)[12+t]?=some (.int .u64 ((qZ g t).getD 0)):=by
 unfold jS
 rw[List.getElem?_append_right (by simp[zEf]),List.getElem?_map]
 have:zEf[12+t - (zEf.map fun t=> Value.bool (qZ g t).isSome).length]?=some (t:Int):=by
  match t,h with
  |0,_|1,_|2,_|3,_|4,_|5,_|6,_|7,_|8,_|9,_|10,_|11,_=> rfl
 rw[this];rfl
theorem zXx {α:Type} {f:α->List Value} {k:Nat} (hk:∀x,(f x).length=k):∀{l:List α} {i:Nat} {g:α},l[i]?=some g->((l.flatMap f).drop (i*k)).take k=f g
 |[],i,g,h=> by simp at h
 |x::l,0,g,h=> by
  simp at h;subst h
  rw[Nat.zero_mul,List.drop_zero,List.flatMap_cons,List.take_append_of_le_length (by rw[hk];omega),List.take_of_length_le (by rw[hk];omega)]
 |x::l,i+1,g,h=> by
  rw[List.flatMap_cons,Nat.succ_mul,Nat.add_comm,←List.drop_drop,List.drop_left' (hk x)]
  exact zXx hk (by simpa using h)
theorem rf_at {fs:List (List Pr)} {i:Nat} {g:List Pr} (h:fs.reverse[i]?=some g):((rf fs).drop (i*24)).take 24=jS g:=zXx xP h
theorem zTu {fs:List (List Pr)} {i:Nat} {g:List Pr} (h:fs.reverse[i]?=some g) {j:Nat} (hj:j<24):(rf fs)[i*24+j]?=(jS g)[j]?:=by
 rw[←rf_at h,List.getElem?_take,if_pos hj,List.getElem?_drop]
def zEn (g:List Pr) (n:Nat):Nat:=(List.range n).countP fun t=> (qZ g (t:Nat)).isSome
def zE2 (fr:List (List Pr)):Nat:=(fr.map fun g=> zEn g 12).sum
theorem zJg (g:List Pr) (n:Nat):zEn g (n+1)=zEn g n+if (qZ g (n:Nat)).isSome=true then 1 else 0:=by
 unfold zEn
 rw[List.range_succ,List.countP_append]
 simp[List.countP_cons]
theorem zX3 (g:List Pr) (n:Nat):zEn g n<=n:=by
 have:=List.countP_le_length (p:=fun t:Nat=> (qZ g (t:Nat)).isSome) (l:=List.range n)
 simpa [zEn] using this
theorem zZz {fr:List (List Pr)} {i:Nat} {g:List Pr} (h:fr[i]?=some g):zE2 (fr.take (i+1))=zE2 (fr.take i)+zEn g 12:=by
 unfold zE2
 rw[List.take_add_one,h,List.map_append,List.sum_append]
 simp
theorem qIv (fr:List (List Pr)):zE2 fr<=12*fr.length:=by
 unfold zE2
 induction fr with
 |nil=> simp
 |cons g fr ih=>
  have:=zX3 g 12
  simp only[List.map_cons,List.sum_cons,List.length_cons]
  omega
def zIz (fs:List (List Pr)):Nat:=zE2 fs.reverse
def lenI (fs:List (List Pr)) (m:Nat) (tm:Nat->Value) (H:AH GD):Prop:=∃i:Nat,m+i=fs.length/\tm 0=.pointer (some ⟨0,0,none⟩)/\tm 3=.int .i64 (zE2 (fs.reverse.take i))/\tm 4=.int .i64 i/\H=AH.of [some (.arr 173 [.slice (some ⟨1,0,none⟩) fs.length 1]),some (.arr 214 (rf fs))]
def lenJ (fs:List (List Pr)) (g:List Pr) (i m:Nat) (tm:Nat->Value) (H:AH GD):Prop:=∃j:Nat,m+j=12/\tm 0=.pointer (some ⟨0,0,none⟩)/\tm 3=.int .i64 ((zE2 (fs.reverse.take i)+zEn g j:Nat):Int)/\tm 4=.int .i64 i/\tm 5=.int .i64 j/\H=AH.of [some (.arr 173 [.slice (some ⟨1,0,none⟩) fs.length 1]),some (.arr 214 (rf fs))]
theorem qLr (fs:List (List Pr)) (hl:fs.length<=100):zP Tryz.prog cfg 206 [.pointer (some ⟨0,0,none⟩)] (AH.of [some (.hi (.rlog fs))])
  fun r H'=> r=.ret (.int .i64 (zIz fs))/\H'=AH.of [some (.hi (.rlog fs))]:=by
 refine zP.ends ?_
 refine zP.opn 0 (H1:=AH.of [some (.arr 173 [.slice (some ⟨1,0,none⟩) fs.length 1]),some (.arr 214 (rf fs))]) (by simp[zHc,xO]) ?_
 have hrl:=zEr fs
 refine zY (tbl:=[]) (by simp) 101 0 (af:=a206) rfl ?_
 rw[a206,b206,qB]
 refine⟨by simp,?_⟩
 simp -implicitDefEqProofs
 refine xB (jE xE (jG (by simp)) _ _ noY qX) (lenI fs) (m:=fs.length) ⟨0,by omega,by simp[zE2]⟩ (by omega) ?_
 rintro m tm H ⟨i,hm,t0,t3,t4,rfl⟩
 by_cases hi:i<fs.length
 ·obtain⟨g,hg⟩:=zAp (l:=fs.reverse) (i:=i) (by simpa using hi)
  have hi':(i:Int)<fs.length:=by omega
  have hwr:=xQ hi (by omega)
  have hsuc:=zZz hg
  have hb:=qIv (fs.reverse.take i)
  rw[List.length_take,List.length_reverse] at hb
  simp -implicitDefEqProofs [t0,t3,t4,hi']
  refine xB (jE xE (jG (by simp)) _ _ noY qX) (lenJ fs g i) (m:=12) ⟨0,by omega,by simp[t0,t3,t4,zEn]⟩ (by omega) ?_
  rintro m2 tm H ⟨j,hm2,t0,t3,t4,t5,rfl⟩
  by_cases hj:j<12
  ·have hj':(j:Int)<12:=by omega
   have hwj:=xQ hj (by omega)
   have hc:=zTu hg (j:=j) (by omega)
   rw[zEl g hj] at hc
   have hcs:=zJg g j
   have hcl:=zX3 g j
   have hw3:=xQ (i:=zE2 (fs.reverse.take i)+zEn g j) (n:=10000) (by omega) (by omega)
   obtain⟨C,hC⟩:∃C,zE2 (fs.reverse.take i)+zEn g j=C:=⟨_,rfl⟩
   rw[hC] at t3 hw3
   cases hh:(qZ g (j:Nat)).isSome with
   |true=>
    rw[hh] at hc hcs
    have hcs':zE2 (fs.reverse.take i)+zEn g (j+1)=C+1:=by rw[hcs,←hC];simp;omega
    simp -implicitDefEqProofs [t0,t3,t4,t5,hi,hi',hj',hwj,hc,hw3]
    exact⟨m2 - 1,by omega,j+1,by omega,by simp[t0,t4,hcs']⟩
   |false=>
    rw[hh] at hc hcs
    have hcs':zE2 (fs.reverse.take i)+zEn g (j+1)=C:=by rw[hcs,←hC];simp
    simp -implicitDefEqProofs [t0,t3,t4,t5,hi,hi',hj',hwj,hc]
    exact⟨m2 - 1,by omega,j+1,by omega,by simp[t0,t3,t4,hcs']⟩
  ·have hje:j=12:=by omega
   have hj':¬(j:Int)<12:=by omega
   rw[hje,←hsuc] at t3
   simp -implicitDefEqProofs [t0,t3,t4,t5,hj',hwr]
   exact⟨m - 1,by omega,i+1,by omega,by simp[t0,t3]⟩
 ·have hie:i=fs.length:=by omega
  have hi':¬(i:Int)<fs.length:=by omega
  have ht:fs.reverse.take i=fs.reverse:=List.take_of_length_le (by simp;omega)
  rw[ht] at t3
  change tm 3=.int .i64 (zIz fs) at t3
  simp -implicitDefEqProofs [t0,t3,t4,hi']
  refine zA [.pack (GD.rlog fs) 0 [1]] [0] ?_ ?_ ?_<;> simp[xO,AObj.mine]
def zP9:zBm
 |.rlog fs,[]=> some (fs.length<=100,.int .i64 (zIz fs),.rlog fs)
 |_,_=> none
theorem qFt:qE Tryz.prog cfg 206 (qA zP9):=zAm fun d rest p v d' h hp=> by
 unfold zP9 at h
 split at h
 ·cases h;exact⟨rfl,rfl,qLr _ hp⟩
 ·cases h
end YtnemoimbeefngaaGreat
end Go.Proofs
namespace Go.Proofs
namespace YtnemoimbeefngaaGreat
open Go.Abs
theorem zDq (p:Pr) (f:List Pr) (t:Int):qZ (p::f) t=if p.t=t then some p.v else qZ f t:=by
 by_cases h:p.t=t<;> simp[qZ,h]
theorem zKl (f:List Pr) (p:Pr) (t:Int):qZ (jX f p) t=if p.t=t then some p.v else qZ f t:=by
 induction f with
 |nil=> rw[jX,zDq]
 |cons q f ih=>
  rw[jX]
  by_cases h:q.t=p.t
  ·rw[if_pos h,zDq]
   simp only[h]
   by_cases h2:p.t=t
   ·simp[h2]
   ·have:¬q.t=t:=by omega
    simp[h2,zDq,this]
  ·rw[if_neg h,zDq,ih]
   by_cases h2:q.t=t
   ·have:¬p.t=t:=by omega
    simp[h2,this,zDq]
   ·simp[h2,zDq]
theorem zLv {f g:List Pr} {cs:List Value} (hl:cs.length=24) (h1:∀t:Nat,t<12->cs[t]?=some (.bool (qZ f t).isSome)) (h2:∀t:Nat,t<12->cs[12+t]?=some (.int .u64 ((qZ f t).getD 0))):cs=jS f:=by
 refine List.ext_getElem? fun j=> ?_
 by_cases hj:j<12
 ·rw[h1 j hj,zEl f hj]
 ·by_cases hj2:j<24
  ·have e:j=12+(j - 12):=by omega
   rw[e,h2 _ (by omega),zGk f (by omega)]
  ·rw[List.getElem?_eq_none (by omega),List.getElem?_eq_none (by rw[xP];omega)]
theorem zZp (f:List Pr) {t:Nat} (ht:t<12) (v:Int):((jS f).set t (.bool true)).set (12+t) (.int .u64 v)=jS (jX f ⟨t,v⟩):=by
 refine zLv (f:=jX f ⟨t,v⟩) (g:=f) (by simp[xP]) (fun s hs=> ?_) (fun s hs=> ?_)
 ·rw[List.getElem?_set,if_neg (by omega),List.getElem?_set,zEl f hs,zKl]
  by_cases h:t=s
  ·subst h
   simp[xP];omega
  ·have:¬(t:Int)=s:=by omega
   simp[h,this]
 ·rw[List.getElem?_set,List.length_set,xP,List.getElem?_set,zGk f hs,zKl]
  by_cases h:t=s
  ·subst h
   simp;omega
  ·have:¬(t:Int)=s:=by omega
   have h2:¬12+t=12+s:=by omega
   have h3:¬t=12+s:=by omega
   simp[h2,h3,this,h]
theorem zGl (f:List Pr):(jS f).all (·.oneCell')=true:=by simp[jS,zEf,Value.oneCell']
theorem zJ9:∀(C A B:List Value),B.length=C.length->setMany (A++B) A.length C=A++C
 |[],A,B,h=> by
  have:B=[]:=List.eq_nil_of_length_eq_zero (by simpa using h)
  rw[this];rfl
 |c::C,A,B,h=> by
  cases B with
  |nil=> simp at h
  |cons b B=>
   rw[setMany]
   have e:(A++b::B).set A.length c=(A++[c])++B:=by
    rw[List.set_append_right _ _ (Nat.le_refl _)]
    simp
   have:=zJ9 C (A++[c]) B (by simpa using h)
   rw[List.length_append] at this
   rw[e,show A.length+1=A.length+[c].length from rfl,this]
   simp
theorem zEu {A C:List Value} (h:A.length=C.length):setMany A 0 C=C:=by
 have:=zJ9 C [] A h
 simpa using this
theorem zM4 (f g:List Pr) (r:List (List Pr)) {k:Nat} (hk:k=r.length*24):setMany (rf (f::r)) k (jS g)=rf (g::r):=by
 subst hk
 rw[zFe,zFe,←zEr r]
 exact zJ9 _ _ _ (by rw[xP,xP])
theorem qBt (f:List Pr) (r:List (List Pr)) {k:Nat} (hk:k=r.length*24):((rf (f::r)).drop k).take 24=jS f:=by
 subst hk
 rw[zFe,←zEr r,List.drop_left,List.take_of_length_le (by rw[xP];omega)]
def zHn (f:List Pr):Prop:=(f.map (·.t)).Nodup/\∀p∈f,0<=p.t/\p.t<12
theorem zXw {f:List Pr} {t:Int} (h:∀p∈f,p.t≠t):qZ f t=none:=by
 induction f with
 |nil=> rfl
 |cons p f ih=> rw[zDq,if_neg (h p (by simp)),ih fun q hq=> h q (List.mem_cons_of_mem _ hq)]
theorem qDs {f:List Pr} (h:zHn f):zEn f 12=f.length:=by
 have hz:∀n,zEn [] n=0:=by
  intro n
  induction n with
  |zero=> rfl
  |succ n ih=> rw[zJg,ih];rfl
 induction f with
 |nil=> exact hz 12
 |cons p f ih=>
  obtain⟨h1,h2⟩:=h
  simp only[List.map_cons,List.nodup_cons] at h1
  have ih:=ih ⟨h1.2,fun q hq=> h2 q (List.mem_cons_of_mem _ hq)⟩
  obtain⟨t,ht⟩:∃t:Nat,p.t=t:=⟨p.t.toNat,by have:=h2 p (by simp);omega⟩
  have hlt:t<12:=by have:=h2 p (by simp);omega
  have hno:qZ f t=none:=zXw fun q hq e=> h1.1 (by rw[ht,←e];exact List.mem_map.2 ⟨q,hq,rfl⟩)
  have key:∀n,zEn (p::f) n=zEn f n+if t<n then 1 else 0:=by
   intro n
   induction n with
   |zero=> simp[zEn]
   |succ n ihn=>
    rw[zJg,zJg,ihn,zDq,ht]
    by_cases h:t=n
    ·subst h
     rw[if_pos rfl,hno]
     simp
    ·have h':¬(t:Int)=n:=by omega
     rw[if_neg h']
     have e1:(t<n+1)↔(t<n):=by omega
     simp only[e1]
     omega
  rw[key 12,if_pos hlt,ih,List.length_cons]
theorem zZ0 {fs:List (List Pr)} (h:∀f∈fs,zHn f):(zIz fs:Int)=zC0 fs:=by
 unfold zIz zE2 zC0
 have e:(fs.reverse.map fun g=> zEn g 12).sum=(fs.map List.length).sum:=by
  rw[List.map_reverse,List.sum_reverse]
  congr 1
  exact List.map_congr_left fun f hf=> qDs (h f hf)
 rw[e]
def zI9:List (FuncId × qQ GD):=[(98,zAi),(206,qA zP9)]
theorem qE1:∀x∈zI9,qE Tryz.prog cfg x.1 x.2:=by simp[zI9,zPl,qFt]
theorem qLy (f:List Pr) (r:List (List Pr)) (t v:Int) (hg:zAn (f::r)) (hf:∀g∈f::r,zHn g) (hv:0<=v/\v<18446744073709551616):zP Tryz.prog cfg 182 [.pointer (some ⟨0,0,none⟩),.int .i64 t,.int .u64 v] (AH.of [some (.hi (.rlog (f::r)))])
  fun x H'=> x=.ret (.int .i64 (jU f r t v))/\H'=AH.of [some (.hi (if jU f r t v=0 then .rlog (jX f ⟨t,v⟩::r) else .rlog (f::r)))]:=by
 refine zP.ends ?_
 have hl5:r.length<=4:=by have:=hg.2.1;simp at this;omega
 have hcnt:=zZ0 hf
 refine zY (tbl:=zI9) qE1 0 2 (af:=a182) rfl ?_
 rw[a182,b182,qB]
 refine⟨by simp,?_⟩
 by_cases ht0:t<0
 ·have hc:jU f r t v=2:=by unfold jU;rw[if_pos (.inl ht0)]
  simp -implicitDefEqProofs [ht0,hc]
  refine zA [] [0] ?_ ?_ ?_<;> simp
 by_cases ht1:12<=t
 ·have hc:jU f r t v=2:=by unfold jU;rw[if_pos (.inr ht1)]
  simp -implicitDefEqProofs [ht0,ht1,hc]
  refine zA [] [0] ?_ ?_ ?_<;> simp
 cases hr:jN v with
 |false=>
  have hc:jU f r t v=3:=by unfold jU;rw[if_neg (by omega),if_pos hr]
  simp -implicitDefEqProofs [zI9,zAi,ht0,ht1,hv,hr,hc]
  refine zA [] [0] ?_ ?_ ?_<;> simp
 |true=>
  obtain⟨n,hn⟩:∃n:Nat,t=n:=⟨t.toNat,by omega⟩
  subst hn
  have hn12:n<12:=by omega
  obtain⟨R,hR⟩:∃R,r.length=R:=⟨_,rfl⟩
  have hw:IntKind.i64.wrap (((R:Int)+1) - 1)=(R:Int):=by rw[qO (by omega) (by omega)];omega
  have hw2:IntKind.i64.wrap (R:Int)=R:=qO (by omega) (by omega)
  have hrl:=zEr (f::r)
  simp only[List.length_cons,hR] at hrl
  have htop:=qBt f r (k:=R*24) (by rw[hR])
  have hone:=zGl f
  have hfl:=xP f
  have hhas:=zEl f hn12
  have hz:setMany [.bool false,.bool false,.bool false,.bool false,.bool false,.bool false,.bool false,.bool false,.bool false,.bool false,.bool false,.bool false,.int .u64 0,.int .u64 0,.int .u64 0,.int .u64 0,.int .u64 0,.int .u64 0,.int .u64 0,.int .u64 0,.int .u64 0,.int .u64 0,.int .u64 0,.int .u64 0] 0 (jS f)=jS f:=zEu (by rw[xP];rfl)
  have hle:R*24+24<=(R+1)*24:=by omega
  have hnn:(0:Int)<=R:=by omega
  have hlt:(R:Int)<(R:Int)+1:=by omega
  have hni:(n:Int)<12:=by omega
  have hn24:n+1<=24:=by omega
  have hn25:12+n+1<=24:=by omega
  have hn0:n<=23:=by omega
  have hn13:12+n<=23:=by omega
  have htk:(rf (f::r)).take ((R+1)*24)=rf (f::r):=List.take_of_length_le (by omega)
  have hal:((jS f).set n (.bool true)).length=24:=by simp[xP]
  have hput:=zZp f hn12 v
  have hfp:=xP (jX f ⟨(n:Int),v⟩)
  have hop:=zGl (jX f ⟨(n:Int),v⟩)
  have hst:=zM4 f (jX f ⟨(n:Int),v⟩) r (k:=R*24) (by rw[hR])
  have hz1:(R+1)*112<=140737488355328/\R<=9223372036854775806:=by omega
  have hz2:(jS (jX f ⟨(n:Int),v⟩)).take 24=jS (jX f ⟨(n:Int),v⟩):=List.take_of_length_le (by rw[xP];omega)
  have hz3:(jS f).take 24=jS f:=List.take_of_length_le (by rw[xP];omega)
  cases hh:(qZ f (n:Int)).isSome with
  |true=>
   have hc:jU f r n v=0:=by
    unfold jU
    rw[if_neg (by omega),if_neg (by simp[hr]),if_neg (by
     rintro⟨h,_⟩
     rw[Option.isNone_iff_eq_none] at h
     rw[h] at hh;cases hh)]
   rw[hh] at hhas
   rw[hc]
   simp -implicitDefEqProofs [zI9,zAi,ht0,ht1,hv,hr,xO,hR,hw,hw2,hlt,hrl,htop,hone,hfl,hz,hle,hhas,hn12,hni,hn24,hn25,hnn,forms205,a205,b205,htk,hal,hput,hfp,hop,hst,hz1,hz2,hz3,hn0,hn13]
   refine zA [.pack (GD.rlog (jX f ⟨(n:Int),v⟩::r)) 0 [5]] [0] ?_ ?_ ?_<;> simp[xO,hR,AObj.mine]
  |false=>
   rw[hh] at hhas
   have hno:(qZ f (n:Int)).isNone=true:=by
    cases hx:qZ f (n:Int) with
    |none=> rfl
    |some y=> rw[hx] at hh;cases hh
   simp -implicitDefEqProofs [zI9,zAi,ht0,ht1,hv,hr,xO,hR,hw,hw2,hlt,hrl,htop,hone,hfl,hz,hle,hhas,hn12,hni,hn24,hn25,hnn,forms205,a205,b205,htk,hal,hput,hfp,hop,hst,hz1,hz2,hz3,hn0,hn13,qA,zP9]
   refine zEh [.pack (GD.rlog (f::r)) 0 [1]] ?_ ?_
   ·simp[xO,hR,AObj.mine]
   by_cases h16:16<=zC0 (f::r)
   ·have hc:jU f r n v=4:=by
     unfold jU
     rw[if_neg (by omega),if_neg (by simp[hr]),if_pos ⟨hno,h16⟩]
    have h16':(16:Int)<=(zIz (f::r):Nat):=by rw[hcnt];exact h16
    rw[hc]
    have hl6:R+1<=100:=by omega
    simp -implicitDefEqProofs [zI9,zAi,ht0,ht1,hv,hr,xO,hR,hw,hw2,hlt,hrl,htop,hone,hfl,hz,hle,hhas,hn12,hni,hn24,hn25,hnn,forms205,a205,b205,htk,hal,hput,hfp,hop,hst,hz1,hz2,hz3,hn0,hn13,qA,zP9,h16',hl6]
    refine zA [] [0] ?_ ?_ ?_<;> simp
   ·have hc:jU f r n v=0:=by
     unfold jU
     rw[if_neg (by omega),if_neg (by simp[hr]),if_neg (by rintro⟨_,h⟩;exact h16 h)]
    have h16':¬(16:Int)<=(zIz (f::r):Nat):=by rw[hcnt];exact h16
    rw[hc]
    have hl6:R+1<=100:=by omega
    simp -implicitDefEqProofs [zI9,zAi,ht0,ht1,hv,hr,xO,hR,hw,hw2,hlt,hrl,htop,hone,hfl,hz,hle,hhas,hn12,hni,hn24,hn25,hnn,forms205,a205,b205,htk,hal,hput,hfp,hop,hst,hz1,hz2,hz3,hn0,hn13,qA,zP9,h16',hl6]
    refine zA [.pack (GD.rlog (jX f ⟨(n:Int),v⟩::r)) 0 [6]] [0] ?_ ?_ ?_<;> simp[xO,hR,AObj.mine]
def zCk (fs:List (List Pr)):Prop:=zAn fs/\∀f∈fs,zHn f
def zUx:zBm
 |.rlog (f::r),[.int .i64 t,.int .u64 v]=> some (zCk (f::r)/\0<=v/\v<18446744073709551616,.int .i64 (jU f r t v),if jU f r t v=0 then .rlog (jX f ⟨t,v⟩::r) else .rlog (f::r))
 |_,_=> none
theorem qFw:qE Tryz.prog cfg 182 (qA zUx):=zAm fun d rest p v d' h hp=> by
 unfold zUx at h
 split at h
 ·cases h;exact⟨rfl,rfl,qLy _ _ _ _ hp.1.1 hp.1.2 hp.2⟩
 ·cases h
theorem qCa {f:List Pr} {p:Pr} (h:(f.map (·.t)).Nodup):((jX f p).map (·.t)).Nodup:=by
 have mem:∀(f:List Pr) (x:Int),x∈(jX f p).map (·.t)->x=p.t∨x∈f.map (·.t):=by
  intro f x hx
  induction f with
  |nil=> simp[jX] at hx;exact .inl hx
  |cons q f ih=>
   rw[jX] at hx
   split at hx
   ·simp only[List.map_cons,List.mem_cons] at hx⊢
    rcases hx with hx|hx
    ·exact .inr (.inl hx)
    ·exact .inr (.inr hx)
   ·simp only[List.map_cons,List.mem_cons] at hx⊢
    rcases hx with hx|hx
    ·exact .inr (.inl hx)
    ·rcases ih hx with h|h
     ·exact .inl h
     ·exact .inr (.inr h)
 induction f with
 |nil=> simp[jX]
 |cons q f ih=>
  simp only[List.map_cons,List.nodup_cons] at h
  rw[jX]
  split
  ·simp only[List.map_cons,List.nodup_cons];exact h
  ·rename_i hq
   simp only[List.map_cons,List.nodup_cons]
   refine⟨fun hh=> ?_,ih h.2⟩
   rcases mem f _ hh with e|e
   ·exact hq e
   ·exact h.1 e
theorem qMz {f:List Pr} {p x:Pr} (h:x∈jX f p):x.t=p.t∨x∈f:=by
 induction f with
 |nil=> simp[jX] at h;exact .inl (by rw[h])
 |cons q f ih=>
  rw[jX] at h
  split at h
  ·rename_i e
   rcases List.mem_cons.1 h with rfl|h
   ·exact .inl e
   ·exact .inr (List.mem_cons_of_mem _ h)
  ·rcases List.mem_cons.1 h with rfl|h
   ·exact .inr (by simp)
   ·rcases ih h with h|h
    ·exact .inl h
    ·exact .inr (List.mem_cons_of_mem _ h)
theorem zOt {f:List Pr} {p:Pr} (h:zHn f) (hp:0<=p.t/\p.t<12):zHn (jX f p):=by
 refine⟨qCa h.1,fun x hx=> ?_⟩
 rcases qMz hx with e|hx
 ·rw[e];exact hp
 ·exact h.2 x hx
theorem zUa {g f:List Pr} (hg:zHn g) (hf:∀p∈f,0<=p.t/\p.t<12):zHn (jJ g f):=by
 unfold jJ
 induction f generalizing g with
 |nil=> exact hg
 |cons p f ih=> exact ih (g:=jX g p) (zOt hg (hf p (by simp))) fun q hq=> hf q (List.mem_cons_of_mem _ hq)
theorem zO2 {f:List Pr} (t:Int):∀{g:List Pr},(f.map (·.t)).Nodup->qZ (jJ g f) t=match qZ f t with
  |some v=> some v
  |none=> qZ g t:=by
 unfold jJ
 induction f with
 |nil=> intro g _;rfl
 |cons p f ih=>
  intro g h
  simp only[List.map_cons,List.nodup_cons] at h
  rw[List.foldl_cons,ih h.2,zDq]
  by_cases hp:p.t=t
  ·have hno:qZ f t=none:=zXw fun q hq e=> h.1 (by rw[hp,←e];exact List.mem_map.2 ⟨q,hq,rfl⟩)
   rw[hno,if_pos hp]
   simp only[zKl,hp,if_true]
  ·rw[if_neg hp]
   cases qZ f t with
   |some v=> rfl
   |none=> simp only[zKl,hp,if_false]
end YtnemoimbeefngaaGreat
end Go.Proofs
namespace Go.Proofs
namespace YtnemoimbeefngaaGreat
open Go.Abs
def zCs (f g:List Pr) (j:Nat):List Value:=(zEf.map fun t=> .bool (if t<j then (qZ f t).isSome||(qZ g t).isSome else (qZ g t).isSome))++zEf.map fun t=> .int .u64 (if t<j then ((qZ f t).or (qZ g t)).getD 0 else (qZ g t).getD 0)
theorem zDi (f g:List Pr) (j:Nat):(zCs f g j).length=24:=by simp[zCs,zEf]
theorem zWs {t:Nat} (h:t<12):zEf[t]?=some (t:Int):=by
 match t,h with
 |0,_|1,_|2,_|3,_|4,_|5,_|6,_|7,_|8,_|9,_|10,_|11,_=> rfl
theorem zIg (f g:List Pr) (j:Nat) {t:Nat} (h:t<12):(zCs f g j)[t]?=some (.bool (if t<j then (qZ f t).isSome||(qZ g t).isSome else (qZ g t).isSome)):=by
 unfold zCs
 rw[List.getElem?_append_left (by simp[zEf];omega),List.getElem?_map,zWs h]
 simp
theorem zIf (f g:List Pr) (j:Nat) {t:Nat} (h:t<12):(zCs f g j)[12+t]?=some (.int .u64 (if t<j then ((qZ f t).or (qZ g t)).getD 0 else (qZ g t).getD 0)):=by
 unfold zCs
 rw[List.getElem?_append_right (by simp[zEf]),List.getElem?_map]
 have e:12+t - (zEf.map fun t=> Value.bool (if t<(j:Int) then (qZ f t).isSome||(qZ g t).isSome else (qZ g t).isSome)).length=t:=by simp[zEf]
 rw[e,zWs h]
 simp
theorem zT9 (f g:List Pr):zCs f g 0=jS g:=zLv (f:=g) (g:=g) (zDi f g 0) (fun t h=> by rw[zIg f g 0 h];simp) (fun t h=> by rw[zIf f g 0 h];simp)
theorem zXn {f g:List Pr} (hf:(f.map (·.t)).Nodup):zCs f g 12=jS (jJ g f):=zLv (f:=jJ g f) (g:=g) (zDi f g 12) (fun t h=> by
 rw[zIg f g 12 h,if_pos h,zO2 _ hf]
 cases qZ f t<;> simp) (fun t h=> by
 rw[zIf f g 12 h,if_pos h,zO2 _ hf]
 cases qZ f t<;> simp)
theorem zXm {a b:List Value} (ha:a.length=24) (hb:b.length=24) (h1:∀t:Nat,t<12->a[t]?=b[t]?) (h2:∀t:Nat,t<12->a[12+t]?=b[12+t]?):a=b:=by
 refine List.ext_getElem? fun j=> ?_
 by_cases hj:j<12
 ·exact h1 j hj
 ·by_cases hj2:j<24
  ·have e:j=12+(j - 12):=by omega
   rw[e];exact h2 _ (by omega)
  ·rw[List.getElem?_eq_none (by omega),List.getElem?_eq_none (by omega)]
theorem qCn {f g:List Pr} {j:Nat} (hh:(qZ f (j:Nat)).isSome=false):zCs f g (j+1)=zCs f g j:=by
 have hno:qZ f (j:Nat)=none:=by
  cases h:qZ f (j:Nat) with
  |none=> rfl
  |some v=> rw[h] at hh;cases hh
 refine zXm (zDi _ _ _) (zDi _ _ _) (fun t h=> ?_) (fun t h=> ?_)
 ·rw[zIg _ _ _ h,zIg _ _ _ h]
  by_cases e:t=j
  ·subst e;rw[if_pos (by omega),if_neg (by omega),hno];simp
  ·have:(t<j+1)↔(t<j):=by omega
   simp only[this]
 ·rw[zIf _ _ _ h,zIf _ _ _ h]
  by_cases e:t=j
  ·subst e;rw[if_pos (by omega),if_neg (by omega),hno];simp
  ·have:(t<j+1)↔(t<j):=by omega
   simp only[this]
theorem zXl {f g:List Pr} {j:Nat} (hj:j<12) (hh:(qZ f (j:Nat)).isSome=true):((zCs f g j).set j (.bool true)).set (12+j) (.int .u64 ((qZ f (j:Nat)).getD 0))=zCs f g (j+1):=by
 obtain⟨v,hv⟩:=Option.isSome_iff_exists.1 hh
 refine zXm (by simp[zDi]) (zDi _ _ _) (fun t h=> ?_) (fun t h=> ?_)
 ·rw[List.getElem?_set,if_neg (by omega),List.getElem?_set,zDi,zIg _ _ _ h,zIg _ _ _ h]
  by_cases e:j=t
  ·subst e;rw[if_pos rfl,if_pos (by omega),if_pos (by omega),hv];rfl
  ·have:(t<j+1)↔(t<j):=by omega
   simp only[this,if_neg e]
 ·rw[List.getElem?_set,List.length_set,zDi,List.getElem?_set,zIf _ _ _ h,zIf _ _ _ h]
  by_cases e:j=t
  ·subst e;rw[if_pos rfl,if_pos (by omega),if_pos (by omega),hv];simp
  ·have:(t<j+1)↔(t<j):=by omega
   have e2:¬12+j=12+t:=by omega
   have e3:¬j=12+t:=by omega
   simp only[this,if_neg e2,if_neg e3]
theorem zY9 (f g:List Pr) (j:Nat):jM (zCs f g j)=true:=by
 simp[zCs,zEf,jM,xD]
theorem qMw (θ:Nat->Nat) (f g:List Pr) (j:Nat):xV θ (zCs f g j)=zCs f g j:=xI θ _ (zY9 f g j)
theorem zYx (θ:Nat->Nat) (f:List Pr):xV θ (jS f)=jS f:=xI θ _ (zK3 f)
attribute [simp] qMw zYx
def zG9:List (FuncId × qQ GD):=[(180,qA zJn)]
theorem zJ3:∀x∈zG9,qE Tryz.prog cfg x.1 x.2:=by simp[zG9,zTa]
theorem qGn (f g:List Pr) (r:List (List Pr)) {k:Nat} (hk:k=r.length*24):((rf (f::g::r)).drop k).take 24=jS g:=by
 subst hk
 rw[zFe,zFe,←zEr r,List.append_assoc,List.drop_left,List.take_append_of_le_length (by rw[xP];omega),List.take_of_length_le (by rw[xP];omega)]
def mgI0 (f g:List Pr) (r:List (List Pr)) (R m:Nat) (tm:Nat->Value) (H:AH GD):Prop:=∃j:Nat,m+j=12/\tm 0=.pointer (some ⟨0,0,none⟩)/\tm 3=.int .i64 ((R:Int)+1+1)/\tm 4=.pointer (some ⟨2,0,none⟩)/\tm 5=.pointer (some ⟨3,0,none⟩)/\tm 6=.int .i64 j/\
 H=AH.of [some (.arr 173 [.slice (some ⟨1,0,none⟩) (R+2) 1]),some (.arr 214 (rf (f::g::r))),some (.arr 214 (jS f)),some (.arr 214 (zCs f g j))]
def mgI1 (f g:List Pr) (r:List (List Pr)) (R m:Nat) (tm:Nat->Value) (H:AH GD):Prop:=∃j:Nat,m+j=12/\tm 0=.pointer (some ⟨0,0,none⟩)/\tm 3=.int .i64 ((R:Int)+1+1)/\tm 4=.pointer (some ⟨3,0,none⟩)/\tm 5=.pointer (some ⟨2,0,none⟩)/\tm 6=.int .i64 j/\
 H=AH.of [some (.arr 173 [.slice (some ⟨1,0,none⟩) (R+2) 1]),some (.arr 214 (rf (f::g::r))),some (.arr 214 (zCs f g j)),some (.arr 214 (jS f))]
theorem qJ1 {R:Nat} (h:R<=3):(R+1)*112<=140737488355328/\R<=9223372036854775806:=by omega
theorem zVv (f g:List Pr) (r:List (List Pr)) (hg:zAn (f::g::r)) (hf:(f.map (·.t)).Nodup):zP Tryz.prog cfg 181 [.pointer (some ⟨0,0,none⟩)] (AH.of [some (.hi (.rlog (f::g::r)))])
  fun x H'=> x=.ret (.int .i64 0)/\H'=AH.of [some (.hi (.rlog (jJ g f::r)))]:=by
 refine zP.ends ?_
 have hl5:r.length<=3:=by have:=hg.2.1;simp at this;omega
 obtain⟨R,hR⟩:∃R,r.length=R:=⟨_,rfl⟩
 have hw1:IntKind.i64.wrap (((R:Int)+1+1) - 1)=(R:Int)+1:=by rw[qO (by omega) (by omega)];omega
 have hw2:IntKind.i64.wrap ((R:Int)+1)=(R:Int)+1:=qO (by omega) (by omega)
 have hw3:IntKind.i64.wrap (((R:Int)+1+1) - 2)=(R:Int):=by rw[qO (by omega) (by omega)];omega
 have hw4:IntKind.i64.wrap (R:Int)=(R:Int):=qO (by omega) (by omega)
 have hl1:¬((R:Int)+1=0):=by omega
 have hl2:(R:Int)+1<(R:Int)+1+1:=by omega
 have hl3:(R:Int)<(R:Int)+1+1:=by omega
 have hl4:(0:Int)<=(R:Int)+1:=by omega
 have hl7:((R:Int)+1).toNat=R+1:=by omega
 have htop:=qBt f (g::r) (k:=(R+1)*24) (by simp[hR])
 have hbel:=qGn f g r (k:=R*24) (by rw[hR])
 have hfl:=xP f
 have hgl:=xP g
 have hof:=zGl f
 have hog:=zGl g
 have hzf:setMany [.bool false,.bool false,.bool false,.bool false,.bool false,.bool false,.bool false,.bool false,.bool false,.bool false,.bool false,.bool false,.int .u64 0,.int .u64 0,.int .u64 0,.int .u64 0,.int .u64 0,.int .u64 0,.int .u64 0,.int .u64 0,.int .u64 0,.int .u64 0,.int .u64 0,.int .u64 0] 0 (jS f)=jS f:=zEu (by rw[xP];rfl)
 have hzg:setMany [.bool false,.bool false,.bool false,.bool false,.bool false,.bool false,.bool false,.bool false,.bool false,.bool false,.bool false,.bool false,.int .u64 0,.int .u64 0,.int .u64 0,.int .u64 0,.int .u64 0,.int .u64 0,.int .u64 0,.int .u64 0,.int .u64 0,.int .u64 0,.int .u64 0,.int .u64 0] 0 (jS g)=jS g:=zEu (by rw[xP];rfl)
 have htf:(jS f).take 24=jS f:=List.take_of_length_le (by rw[xP];omega)
 have htg:(jS g).take 24=jS g:=List.take_of_length_le (by rw[xP];omega)
 have hrl:=zEr (f::g::r)
 simp only[List.length_cons,hR] at hrl
 have hle1:(R+1)*24+24<=(R+1+1)*24:=by omega
 have hle2:R*24+24<=(R+1+1)*24:=by omega
 have hd1:R+1<=100:=by omega
 have hql:=xP (jJ g f)
 have hqo:=zGl (jJ g f)
 have hqt:(jS (jJ g f)).take 24=jS (jJ g f):=List.take_of_length_le (by rw[xP];omega)
 have hst:=zM4 g (jJ g f) r (k:=R*24) (by rw[hR])
 have hrl2:=zEr (g::r)
 simp only[List.length_cons,hR] at hrl2
 have htk2:=zPj (g::r)
 simp only[List.length_cons,hR] at htk2
 have hle3:R*24+24<=(R+1)*24:=Nat.le_of_eq (Nat.succ_mul R 24).symm
 have hlt2:(R:Int)<(R:Int)+1:=Int.lt_succ _
 refine zY (tbl:=zG9) zJ3 13 2 (af:=a181) rfl ?_
 rw[a181,b181,qB]
 refine⟨by simp,?_⟩
 simp -implicitDefEqProofs [zG9,xO,forms169,a169,b169,forms205,a205,b205,hR,hw1,hw2,hw3,hl1,hl2,hl3,hl4,htop,hbel,hfl,hgl,hof,hog,hzf,hzg,htf,htg,hle1,hle2,hrl,hw4,hl7]
 refine⟨?_,?_⟩
 ·refine zBj (jE xE (jG zJ3) _ _ noY qX) (mgI0 f g r R) (m:=12) ?_ (by omega) ?_
  ·refine qN [] [0,1,2,3] [some (.arr 173 [.slice (some ⟨1,0,none⟩) (R+2) 1]),some (.arr 214 (rf (f::g::r))),some (.arr 214 (jS f)),some (.arr 214 (jS g))] 12 (by omega) ?_ ?_ ⟨0,by omega,?_,?_,?_,?_,?_,by rw[zT9]⟩<;> simp
  rintro m tm H ⟨j,hm,t0,t3,t4,t5,t6,rfl⟩
  by_cases hj:j<12
  ·have hj':(j:Int)<12:=by omega
   have hwj:=xQ hj (by omega)
   have hhas:=zEl f hj
   have hval:=zGk f hj
   have hml:=zDi f g j
   have hj1:j<=23:=by omega
   have hj2:12+j<=23:=by omega
   cases hh:(qZ f (j:Nat)).isSome with
   |false=>
    rw[hh] at hhas
    have hno:=qCn (f:=f) (g:=g) hh
    simp -implicitDefEqProofs [t0,t3,t4,t5,t6,hj,hj',hwj,hhas]
    refine qN [] [0,1,2,3] [some (.arr 173 [.slice (some ⟨1,0,none⟩) (R+2) 1]),some (.arr 214 (rf (f::g::r))),some (.arr 214 (jS f)),some (.arr 214 (zCs f g (j+1)))] (m - 1) (by omega) ?_ ?_ ⟨j+1,by omega,?_,?_,?_,?_,?_,rfl⟩<;> simp[t0,t3,t4,t5,hno]
   |true=>
    rw[hh] at hhas
    have hyes:=zXl (f:=f) (g:=g) hj hh
    have hsl:((zCs f g j).set j (.bool true)).length=24:=by simp[zDi]
    simp -implicitDefEqProofs [t0,t3,t4,t5,t6,hj,hj',hwj,hhas,hval,hml,hsl,hj1,hj2,hyes]
    refine qN [] [0,1,2,3] [some (.arr 173 [.slice (some ⟨1,0,none⟩) (R+2) 1]),some (.arr 214 (rf (f::g::r))),some (.arr 214 (jS f)),some (.arr 214 (zCs f g (j+1)))] (m - 1) (by omega) ?_ ?_ ⟨j+1,by omega,?_,?_,?_,?_,?_,rfl⟩<;> simp[t0,t3,t4,t5]
  ·have hje:j=12:=by omega
   have hj':¬(j:Int)<12:=by omega
   have hend:zCs f g j=jS (jJ g f):=by rw[hje,zXn hf]
   rw[hend]
   have hz1:=qJ1 (R:=R) (by omega)
   simp -implicitDefEqProofs [t0,t3,t4,t5,t6,hj',zG9,qA,zJn]
   refine zEh [.pack (GD.rlog (f::g::r)) 0 [1]] ?_ ?_
   ·simp[xO,hR,AObj.mine]
   simp -implicitDefEqProofs [t0,t3,t4,t5,t6,hj',zG9,qA,zJn,xO,forms205,a205,b205,hR,hd1,hw3,hw4,hql,hqo,hqt,hst,hrl2,htk2,hz1,hle3,hlt2]
   refine zA [.pack (GD.rlog (jJ g f::r)) 0 [7]] [0] ?_ ?_ ?_<;> simp[xO,hR,AObj.mine]
 ·refine zBj (jE xE (jG zJ3) _ _ noY qX) (mgI1 f g r R) (m:=12) ?_ (by omega) ?_
  ·refine qN [] [0,1,2,3] [some (.arr 173 [.slice (some ⟨1,0,none⟩) (R+2) 1]),some (.arr 214 (rf (f::g::r))),some (.arr 214 (jS g)),some (.arr 214 (jS f))] 12 (by omega) ?_ ?_ ⟨0,by omega,?_,?_,?_,?_,?_,by rw[zT9]⟩<;> simp
  rintro m tm H ⟨j,hm,t0,t3,t4,t5,t6,rfl⟩
  by_cases hj:j<12
  ·have hj':(j:Int)<12:=by omega
   have hwj:=xQ hj (by omega)
   have hhas:=zEl f hj
   have hval:=zGk f hj
   have hml:=zDi f g j
   have hj1:j<=23:=by omega
   have hj2:12+j<=23:=by omega
   cases hh:(qZ f (j:Nat)).isSome with
   |false=>
    rw[hh] at hhas
    have hno:=qCn (f:=f) (g:=g) hh
    simp -implicitDefEqProofs [t0,t3,t4,t5,t6,hj,hj',hwj,hhas]
    refine qN [] [0,1,2,3] [some (.arr 173 [.slice (some ⟨1,0,none⟩) (R+2) 1]),some (.arr 214 (rf (f::g::r))),some (.arr 214 (zCs f g (j+1))),some (.arr 214 (jS f))] (m - 1) (by omega) ?_ ?_ ⟨j+1,by omega,?_,?_,?_,?_,?_,rfl⟩<;> simp[t0,t3,t4,t5,hno]
   |true=>
    rw[hh] at hhas
    have hyes:=zXl (f:=f) (g:=g) hj hh
    have hsl:((zCs f g j).set j (.bool true)).length=24:=by simp[zDi]
    simp -implicitDefEqProofs [t0,t3,t4,t5,t6,hj,hj',hwj,hhas,hval,hml,hsl,hj1,hj2,hyes]
    refine qN [] [0,1,2,3] [some (.arr 173 [.slice (some ⟨1,0,none⟩) (R+2) 1]),some (.arr 214 (rf (f::g::r))),some (.arr 214 (zCs f g (j+1))),some (.arr 214 (jS f))] (m - 1) (by omega) ?_ ?_ ⟨j+1,by omega,?_,?_,?_,?_,?_,rfl⟩<;> simp[t0,t3,t4,t5]
  ·have hje:j=12:=by omega
   have hj':¬(j:Int)<12:=by omega
   have hend:zCs f g j=jS (jJ g f):=by rw[hje,zXn hf]
   rw[hend]
   have hz1:=qJ1 (R:=R) (by omega)
   simp -implicitDefEqProofs [t0,t3,t4,t5,t6,hj',zG9,qA,zJn]
   refine zEh [.pack (GD.rlog (f::g::r)) 0 [1]] ?_ ?_
   ·simp[xO,hR,AObj.mine]
   simp -implicitDefEqProofs [t0,t3,t4,t5,t6,hj',zG9,qA,zJn,xO,forms205,a205,b205,hR,hd1,hw3,hw4,hql,hqo,hqt,hst,hrl2,htk2,hz1,hle3,hlt2]
   refine zA [.pack (GD.rlog (jJ g f::r)) 0 [7]] [0] ?_ ?_ ?_<;> simp[xO,hR,AObj.mine]
end YtnemoimbeefngaaGreat
end Go.Proofs
namespace Go.Proofs
namespace YtnemoimbeefngaaGreat
open Go.Abs
theorem zTm (f:List Pr):zP Tryz.prog cfg 181 [.pointer (some ⟨0,0,none⟩)] (AH.of [some (.hi (.rlog [f]))])
  fun x H'=> x=.ret (.int .i64 8)/\H'=AH.of [some (.hi (.rlog [f]))]:=by
 refine zP.ends ?_
 have hw1:IntKind.i64.wrap 0=0:=by decide
 refine zY (tbl:=zG9) zJ3 13 2 (af:=a181) rfl ?_
 rw[a181,b181,qB]
 refine⟨by simp,?_⟩
 simp -implicitDefEqProofs [zG9,xO,forms169,a169,b169,hw1]
 refine zA [.pack (GD.rlog [f]) 0 [1]] [0] ?_ ?_ ?_<;> simp[xO,AObj.mine]
def zUy:zBm
 |.rlog [f],[]=> some (True,.int .i64 8,.rlog [f])
 |.rlog (f::g::r),[]=> some (zCk (f::g::r),.int .i64 0,.rlog (jJ g f::r))
 |_,_=> none
theorem qFx:qE Tryz.prog cfg 181 (qA zUy):=zAm fun d rest p v d' h hp=> by
 unfold zUy at h
 split at h
 ·cases h;exact⟨rfl,rfl,zTm _⟩
 ·cases h;exact⟨rfl,rfl,zVv _ _ _ hp.1 (hp.2 _ (by simp)).1⟩
 ·cases h
theorem qQm {f:List Pr} {r:List (List Pr)} {t v:Int} (h:zCk (f::r)) (hc:jU f r t v=0):zCk (jX f ⟨t,v⟩::r):=by
 refine⟨zTz h.1 hc,fun x hx=> ?_⟩
 have ht:0<=t/\t<12:=by
  unfold jU at hc
  split at hc
  ·cases hc
  ·omega
 rcases List.mem_cons.1 hx with rfl|hx
 ·exact zOt (h.2 f (by simp)) ht
 ·exact h.2 x (List.mem_cons_of_mem _ hx)
theorem qNw {f:List Pr} {r:List (List Pr)} (h:zCk (f::r)) (hl:(f::r).length<5):zCk ([]::f::r):=by
 refine⟨zQw h.1 hl,fun x hx=> ?_⟩
 rcases List.mem_cons.1 hx with rfl|hx
 ·exact⟨by simp,by simp⟩
 ·exact h.2 x hx
theorem qNx {f g:List Pr} {r:List (List Pr)} (h:zCk (f::g::r)):zCk (g::r):=
 ⟨zQ9 h.1,fun x hx=> h.2 x (List.mem_cons_of_mem _ hx)⟩
theorem qIb {f g:List Pr} {r:List (List Pr)} (h:zCk (f::g::r)):zCk (jJ g f::r):=by
 refine⟨zOy h.1,fun x hx=> ?_⟩
 rcases List.mem_cons.1 hx with rfl|hx
 ·exact zUa (h.2 g (by simp)) (h.2 f (by simp)).2
 ·exact h.2 x (List.mem_cons_of_mem _ (List.mem_cons_of_mem _ hx))
theorem qQn:zCk [[]]:=⟨zLs,fun f hf=> by simp at hf;subst hf;exact⟨by simp,by simp⟩⟩
end YtnemoimbeefngaaGreat
end Go.Proofs
namespace Go.Proofs
namespace YtnemoimbeefngaaGreat
open Go.Abs
structure HA where
 tr:Bool
 en:Bool
 fs:List (List Pr)
def jZ (x:Ev):Bool:=decide (x.t=0) && decide (x.v=0)
def zAa (fs:List (List Pr)) (x:Ev):Int × List (List Pr):=
 match fs with
 |[]=> (1,[])
 |f::r=>
  if x.k=3 then (jU f r x.t x.v,if jU f r x.t x.v=0 then jX f ⟨x.t,x.v⟩::r else f::r)
  else if x.k=4 then (if 4<=r.length then 4 else 0,if 4<=r.length then f::r else []::f::r)
  else if x.k=5 then (if r=[] then 8 else 0,if r=[] then f::r else r)
  else if x.k=6 then (match r with
   |[]=> (8,[f])
   |g::rs=> (0,jJ g f::rs))
  else (0,f::r)
def zC2 (o:Option HA) (x:Ev):Option HA:=
 if x.k=1 then (match o with
  |none=> if jZ x=true then some ⟨false,false,[[]]⟩ else none
  |some _=> none)
 else match o with
 |none=> none
 |some a=>
  if a.en=true then none
  else if x.k=8 then (if a.tr=true/\jZ x=true then some { a with en:=true } else none)
  else if x.k=9 then (if jZ x=true then some { a with en:=true } else none)
  else if a.tr=true then none
  else if x.k=2 then (if 0<=x.t/\x.t<12/\jN x.v=true then some a else none)
  else if x.k=3 then (if (zAa a.fs x).1=0 then some { a with fs:=(zAa a.fs x).2 } else none)
  else if x.k=4∨x.k=5∨x.k=6 then (if jZ x=true/\(zAa a.fs x).1=0 then some { a with fs:=(zAa a.fs x).2 } else none)
  else if x.k=7 then (if jZ x=true/\a.fs.length=1 then some { a with tr:=true } else none)
  else none
def zGt (σ:Int->Option HA) (n:Int) (a:HA):Int->Option HA:=fun m=> if m=n then some a else σ m
def zJb (σ:Int->Option HA) (x:Ev):Option (Int->Option HA):=
 if 0<=x.a/\x.a<64 then (zC2 (σ x.a) x).map fun a=> zGt σ x.a a else none
def zE3 (σ:Int->Option HA):List Ev->Option (Int->Option HA)
 |[]=> some σ
 |x::l=> (zJb σ x).bind fun σ'=> zE3 σ' l
def zJd:Int->Option HA:=fun _=> none
def zDn (l:List Ev):Bool:=decide (l.length<=400) && (zE3 zJd l).isSome
def xM (l:List Ev) (n:Int):List Ev:=l.filter fun x=> decide (x.a=n)
def zHa (o:Option HA):List Ev->Option (Option HA)
 |[]=> some o
 |x::l=> (zC2 o x).bind fun a=> zHa (some a) l
theorem zEe (x:Ev) (l:List Ev) (n:Int):xM (x::l) n=if x.a=n then x::xM l n else xM l n:=by
 unfold xM
 by_cases h:x.a=n<;> simp[h]
theorem zHg (l m:List Ev) (n:Int):xM (l++m) n=xM l n++xM m n:=by simp[xM]
theorem zTp:∀(l:List Ev) (σ σ':Int->Option HA),zE3 σ l=some σ'↔(∀x∈l,0<=x.a/\x.a<64)/\∀n,zHa (σ n) (xM l n)=some (σ' n)
 |[],σ,σ'=> by
  constructor
  ·intro h
   cases h
   exact⟨by simp,fun n=> rfl⟩
  ·rintro⟨_,h⟩
   have:σ=σ':=funext fun n=> Option.some.inj (h n)
   rw[this];rfl
 |x::l,σ,σ'=> by
  simp only[zE3,zJb]
  by_cases hr:0<=x.a/\x.a<64
  ·rw[if_pos hr]
   cases ht:zC2 (σ x.a) x with
   |none=>
    simp only[Option.map_none,Option.bind_none]
    constructor
    ·intro h;cases h
    ·rintro⟨_,h⟩
     have:=h x.a
     rw[zEe,if_pos rfl,zHa,ht] at this
     cases this
   |some a=>
    simp only[Option.map_some,Option.bind_some]
    rw[zTp l]
    have key:∀n,zHa (zGt σ x.a a n) (xM l n)=zHa (σ n) (xM (x::l) n):=by
     intro n
     rw[zEe]
     by_cases hn:x.a=n
     ·subst hn
      rw[if_pos rfl,zHa,ht,zGt,if_pos rfl];rfl
     ·rw[if_neg hn,zGt,if_neg (fun h=> hn h.symm)]
    constructor
    ·rintro⟨h1,h2⟩
     refine⟨fun y hy=> ?_,fun n=> by rw[←key];exact h2 n⟩
     rcases List.mem_cons.1 hy with rfl|hy
     ·exact hr
     ·exact h1 y hy
    ·rintro⟨h1,h2⟩
     exact⟨fun y hy=> h1 y (List.mem_cons_of_mem _ hy),fun n=> by rw[key];exact h2 n⟩
  ·rw[if_neg hr]
   constructor
   ·intro h;cases h
   ·rintro⟨h,_⟩
    exact absurd (h x (by simp)) hr
def stF (p:Bool × Int) (x:Ev):Bool × Int:=
 if x.k=1 then (true,p.2) else if x.k=7 then (p.1,2) else if x.k=8 then (p.1,3) else if x.k=9 then (p.1,4) else p
def stC (c:List Ev):Int:=if (c.foldl stF (false,1)).1=true then (c.foldl stF (false,1)).2 else 0
def xX (l:List Ev) (n:Int):Int:=stC (xM l n)
def zCt (x:Ev):Bool:=decide (x.k=8)||decide (x.k=9)
def zE8 (out:List Int) (x:Ev):List Int:=if x.k=1/\x.a∉out then out++[x.a] else out
def zBv (l:List Ev):List Int:=l.foldl zE8 []
theorem qI3 {out:List Int} {x:Ev} {n:Int} (h:n∈zE8 out x):n∈out∨(x.k=1/\x.a=n):=by
 unfold zE8 at h
 split at h
 ·rename_i hk
  rcases List.mem_append.1 h with h|h
  ·exact .inl h
  ·exact .inr ⟨hk.1,(List.mem_singleton.1 h).symm⟩
 ·exact .inl h
theorem zVc:∀(l:List Ev) (out:List Int) {n:Int},n∈l.foldl zE8 out->n∈out∨∃x∈l,x.k=1/\x.a=n
 |[],out,n,h=> .inl h
 |x::l,out,n,h=> by
  rcases zVc l _ h with h|⟨y,h1,h2⟩
  ·rcases qI3 h with h|h
   ·exact .inl h
   ·exact .inr ⟨x,by simp,h⟩
  ·exact .inr ⟨y,List.mem_cons_of_mem _ h1,h2⟩
theorem zRc:∀(l:List Ev) {out:List Int} {n:Int},n∈out->n∈l.foldl zE8 out
 |[],_,_,h=> h
 |x::l,out,n,h=> zRc l (by
  unfold zE8
  split
  ·exact List.mem_append_left _ h
  ·exact h)
theorem zVe:∀(l:List Ev) {out:List Int} {x:Ev},x∈l->x.k=1->x.a∈l.foldl zE8 out
 |y::l,out,x,h,hk=> by
  rcases List.mem_cons.1 h with rfl|h
  ·refine zRc l ?_
   unfold zE8
   split
   ·simp
   ·rename_i hn
    exact Classical.not_not.1 fun hc=> hn ⟨hk,hc⟩
  ·exact zVe l h hk
def zBu (e:Bool):List Ev->Int->Int->Bool
 |[],_,_=> false
 |x::l,a,b=> if x.a=b/\x.k=1 then e else zBu (e||(decide (x.a=a) && zCt x)) l a b
def zBg (l:List Ev) (a b:Int):Bool:=zBu false l a b
def isK (k:Int) (x:Ev):Bool:=decide (x.k=k)
structure Cts where
 a:Nat
 c:Nat
 b:Nat
 o:Nat
 r:Nat
 w:Nat
 deriving DecidableEq
end YtnemoimbeefngaaGreat
end Go.Proofs
namespace Go.Proofs
namespace YtnemoimbeefngaaGreat
open Go.Abs
theorem zN3 {l:List Ev} {n:Int} (h:∀x∈l,x.a≠n):xM l n=[]:=by
 unfold xM
 rw[List.filter_eq_nil_iff]
 intro x hx
 simpa using h x hx
section
variable {l m:List Ev}
theorem zZ9 {n:Int} (h:n∈zBv l):∃x∈l,x.k=1/\x.a=n:=by
 rcases zVc l [] h with h|h
 ·cases h
 ·exact h
end
end YtnemoimbeefngaaGreat
end Go.Proofs
namespace Go.Proofs
namespace YtnemoimbeefngaaGreat
open Go.Abs
def rw (x:Ev):Bool:=isK 2 x||isK 3 x
section
variable {l:List Ev}
theorem zVd:∀(l:List Ev) (out:List Int),(l.foldl zE8 out).length<=out.length+l.length
 |[],out=> by simp
 |x::l,out=> by
  have:=zVd l (zE8 out x)
  have h:(zE8 out x).length<=out.length+1:=by
   unfold zE8
   split<;> simp
  rw[List.foldl_cons,List.length_cons]
  omega
end
end YtnemoimbeefngaaGreat
end Go.Proofs
namespace Go.Proofs
namespace YtnemoimbeefngaaGreat
open Go.Abs
def qD (l:List Ev) (i:Nat) (a k:Int):Bool:=(l.take i).any fun x=> decide (x.a=a) && isK k x
def zIs (fs:List (List Pr)) (x:Ev):List (List Pr):=(zAa fs x).2
def xA (l:List Ev) (i:Nat) (a:Int):List (List Pr):=(xM (l.take i) a).foldl zIs [[]]
def xL (l:List Ev) (i:Nat) (x:Ev):Bool:=
 if x.a<0∨64<=x.a then false
 else if x.k=1 then jZ x && !qD l i x.a 1
 else if (!qD l i x.a 1||(qD l i x.a 8||qD l i x.a 9))=true then false
 else if x.k=8 then jZ x && qD l i x.a 7
 else if x.k=9 then jZ x
 else if x.k=2 then !qD l i x.a 7 && (decide (0<=x.t) && decide (x.t<12) && jN x.v)
 else if x.k=3 then !qD l i x.a 7 && decide ((zAa (xA l i x.a) x).1=0)
 else if x.k=4∨x.k=5∨x.k=6 then !qD l i x.a 7 && (jZ x && decide ((zAa (xA l i x.a) x).1=0))
 else if x.k=7 then !qD l i x.a 7 && (jZ x && decide ((xA l i x.a).length=1))
 else false
theorem zTl (l:List Ev) (i:Nat) (a k:Int):qD l i a k=(xM (l.take i) a).any (isK k):=by
 unfold qD xM
 rw[List.any_filter]
def zHu (o:Option HA) (b t e:Bool) (fs:List (List Pr)):Prop:=
 match o with
 |none=> b=false/\t=false/\e=false/\fs=[[]]
 |some a=> b=true/\a.tr=t/\a.en=e/\a.fs=fs
theorem zFa {fs:List (List Pr)} {x:Ev} (h:¬x.k=3/\¬x.k=4/\¬x.k=5/\¬x.k=6):(zAa fs x).2=fs:=by
 unfold zAa
 cases fs with
 |nil=> rfl
 |cons f r=> simp[h.1,h.2.1,h.2.2.1,h.2.2.2]
theorem qC6 {o:Option HA} {b t e:Bool} {fs:List (List Pr)} (h:zHu o b t e fs) {x:Ev} {a:HA} (ht:zC2 o x=some a):zHu (some a) (b||isK 1 x) (t||isK 7 x) (e||zCt x) (zIs fs x):=by
 unfold zC2 at ht
 unfold isK zCt zIs
 split at ht
 ·rename_i k1
  split at ht
  ·split at ht
   ·cases ht
    obtain⟨rfl,rfl,rfl,rfl⟩:=h
    rw[zFa (by omega)]
    simp[zHu,k1]
   ·cases ht
  ·cases ht
 ·rename_i k1
  split at ht
  ·cases ht
  ·rename_i a0
   obtain⟨rfl,h2,h3,rfl⟩:=h
   subst h2 h3
   split at ht
   ·cases ht
   ·rename_i hen
    have hen:a0.en=false:=by simpa using hen
    split at ht
    ·rename_i k8
     rw[zFa (by omega)]
     split at ht
     ·cases ht;simp[zHu,k8]
     ·cases ht
    ·rename_i k8
     split at ht
     ·rename_i k9
      rw[zFa (by omega)]
      split at ht
      ·cases ht;simp[zHu,k9]
      ·cases ht
     ·rename_i k9
      split at ht
      ·cases ht
      ·rename_i htr
       have htr:a0.tr=false:=by simpa using htr
       split at ht
       ·rename_i k2
        rw[zFa (by omega)]
        split at ht
        ·cases ht;simp[zHu,k2]
        ·cases ht
       ·split at ht
        ·rename_i k3
         split at ht
         ·cases ht;simp[zHu,k3]
         ·cases ht
        ·split at ht
         ·rename_i k4
          have k7:¬x.k=7:=by omega
          split at ht
          ·cases ht;simp[zHu,k1,k7,k8,k9]
          ·cases ht
         ·split at ht
          ·rename_i k7
           rw[zFa (by omega)]
           split at ht
           ·cases ht;simp[zHu,k7,hen]
           ·cases ht
          ·cases ht
theorem zQ5:∀(c:List Ev) {o o':Option HA} {b t e:Bool} {fs:List (List Pr)},zHu o b t e fs->zHa o c=some o'->zHu o' (b||c.any (isK 1)) (t||c.any (isK 7)) (e||c.any zCt) (c.foldl zIs fs)
 |[],o,o',b,t,e,fs,h,hs=> by cases hs;simpa using h
 |x::c,o,o',b,t,e,fs,h,hs=> by
  simp only[zHa,Option.bind_eq_some_iff] at hs
  obtain⟨a,h1,h2⟩:=hs
  have:=zQ5 c (qC6 h h1) h2
  simpa [Bool.or_assoc] using this
theorem qHi {c:List Ev} {o:Option HA} (hs:zHa none c=some o):zHu o (c.any (isK 1)) (c.any (isK 7)) (c.any zCt) (c.foldl zIs [[]]):=by
 have:=zQ5 c (o:=none) (b:=false) (t:=false) (e:=false) (fs:=[[]]) ⟨rfl,rfl,rfl,rfl⟩ hs
 simpa using this
theorem qOe (c:List Ev):c.any zCt=(c.any (isK 8)||c.any (isK 9)):=by
 induction c with
 |nil=> rfl
 |cons x c ih=>
  simp only[List.any_cons,ih,zCt,isK]
  cases decide (x.k=8)<;> cases decide (x.k=9)<;> simp
theorem qIe {l:List Ev} {i:Nat} {x:Ev} {o:Option HA} (hs:zHa none (xM (l.take i) x.a)=some o):xL l i x=true↔(0<=x.a/\x.a<64)/\(zC2 o x).isSome=true:=by
 have hk:=qHi hs
 unfold xL
 simp only[zTl]
 rw[show xA l i x.a=(xM (l.take i) x.a).foldl zIs [[]] from rfl]
 have he:=qOe (xM (l.take i) x.a)
 by_cases hr:x.a<0∨64<=x.a
 ·rw[if_pos hr]
  constructor
  ·intro h;cases h
  ·rintro⟨h,_⟩;omega
 ·rw[if_neg hr]
  have hr':0<=x.a/\x.a<64:=by omega
  rw[←he]
  generalize (xM (l.take i) x.a).any (isK 1)=b at hk⊢
  generalize (xM (l.take i) x.a).any (isK 7)=t at hk⊢
  generalize (xM (l.take i) x.a).any zCt=e at hk⊢
  generalize (xM (l.take i) x.a).foldl zIs [[]]=fs at hk⊢
  unfold zC2
  cases o with
  |none=>
   obtain⟨rfl,rfl,rfl,rfl⟩:=hk
   by_cases k1:x.k=1
   ·cases hb:jZ x<;> simp[k1,hr',hb]
   ·simp[k1]
  |some a=>
   obtain⟨rfl,rfl,rfl,rfl⟩:=hk
   by_cases k1:x.k=1
   ·simp[k1]
   by_cases hen:a.en=true
   ·simp[k1,hen]
   have hen:a.en=false:=by simpa using hen
   by_cases k8:x.k=8
   ·cases hb:jZ x<;> cases ht:a.tr<;> simp[k8,hen,hr',hb,ht]
   by_cases k9:x.k=9
   ·cases hb:jZ x<;> simp[k9,hen,hr',hb]
   by_cases ht:a.tr=true
   ·simp[k1,k8,k9,hen,ht]
   have ht:a.tr=false:=by simpa using ht
   by_cases k2:x.k=2
   ·cases hb:jN x.v<;> simp[k2,hen,hr',ht,hb]
   by_cases k3:x.k=3
   ·simp[k3,hen,hr',ht]
   by_cases k4:x.k=4∨x.k=5∨x.k=6
   ·cases hb:jZ x<;> simp[k1,k2,k3,k4,k8,k9,hen,hr',ht,hb]
   by_cases k7:x.k=7
   ·cases hb:jZ x<;> simp[k7,hen,hr',ht,hb]
   ·simp[k1,k2,k3,k4,k7,k8,k9,hen,ht]
theorem zM5 (l m:List Ev):∀σ,zE3 σ (l++m)=(zE3 σ l).bind fun σ'=> zE3 σ' m:=by
 induction l with
 |nil=> intro σ;rfl
 |cons x l ih=>
  intro σ
  simp only[List.cons_append,zE3]
  cases zJb σ x with
  |none=> rfl
  |some σ'=> exact ih _
theorem zHi {l:List Ev} {i:Nat} {x:Ev} (h:l[i]?=some x):l.take (i+1)=l.take i++[x]:=by
 rw[List.take_add_one,h];rfl
theorem zW6 (l:List Ev):∀i,i<=l.length->((zE3 zJd (l.take i)).isSome=true↔∀j x,j<i->l[j]?=some x->xL l j x=true)
 |0,_=> by simp[zE3]
 |i+1,hi=> by
  obtain⟨x,hx⟩:=zAp (l:=l) (i:=i) (by omega)
  have ih:=zW6 l i (by omega)
  rw[zHi hx,zM5]
  cases hr:zE3 zJd (l.take i) with
  |none=>
   rw[hr] at ih
   simp only[Option.bind_none]
   constructor
   ·intro h;cases h
   ·intro h
    exact ih.2 fun j y hj hy=> h j y (by omega) hy
  |some σ=>
   rw[hr] at ih
   have hall:=ih.1 rfl
   have hst:=((zTp _ _ _).1 hr).2 x.a
   have hf:=qIe (l:=l) (i:=i) (x:=x) (o:=σ x.a) hst
   simp only[Option.bind_some,zE3,zJb]
   have h1:((if 0<=x.a/\x.a<64 then (zC2 (σ x.a) x).map fun a=> zGt σ x.a a else none).bind fun σ'=> some σ').isSome=true↔xL l i x=true:=by
    rw[hf]
    by_cases h:0<=x.a/\x.a<64
    ·rw[if_pos h]
     cases zC2 (σ x.a) x<;> simp[h]
    ·rw[if_neg h]
     simp[h]
   rw[h1]
   constructor
   ·intro h j y hj hy
    by_cases hji:j=i
    ·subst hji;rw[hx] at hy;cases hy;exact h
    ·exact hall j y (by omega) hy
   ·intro h
    exact h i x (by omega) hx
theorem zLk (l:List Ev):zDn l=true↔l.length<=400/\∀j x,l[j]?=some x->xL l j x=true:=by
 unfold zDn
 have:=zW6 l l.length (Nat.le_refl _)
 rw[List.take_length] at this
 rw[Bool.and_eq_true,decide_eq_true_eq,this]
 refine and_congr Iff.rfl ⟨fun h j x hx=> h j x (List.getElem?_eq_some_iff.1 hx).1 hx,fun h j x _ hx=> h j x hx⟩
theorem qI2 {l:List Ev} {i:Nat} {x:Ev}:zE8 (zBv (l.take i)) x=if x.k=1/\qD l i x.a 1=false then zBv (l.take i)++[x.a] else zBv (l.take i):=by
 unfold zE8
 have:x.a∉zBv (l.take i)↔qD l i x.a 1=false:=by
  constructor
  ·intro h
   rw[Bool.eq_false_iff]
   intro hs
   obtain⟨y,hy,h2⟩:=List.any_eq_true.1 hs
   simp only[isK,Bool.and_eq_true,decide_eq_true_eq] at h2
   refine h ?_
   rw[←h2.1]
   exact zVe _ hy h2.2
  ·intro hs h
   obtain⟨y,hy,h1,h2⟩:=zZ9 h
   have:qD l i x.a 1=true:=List.any_eq_true.2 ⟨y,hy,by simp[isK,h1,h2]⟩
   rw[hs] at this;cases this
 by_cases hc:x.k=1/\x.a∉zBv (l.take i)
 ·rw[if_pos hc,if_pos ⟨hc.1,this.1 hc.2⟩]
 ·rw[if_neg hc,if_neg fun h=> hc ⟨h.1,this.2 h.2⟩]
theorem qA8:∀(c:List Ev) (p:Bool × Int),(c.foldl stF p).1=(p.1||c.any (isK 1))
 |[],p=> by simp
 |x::c,p=> by
  rw[List.foldl_cons,qA8 c,List.any_cons,←Bool.or_assoc]
  congr 1
  unfold stF isK
  by_cases h1:x.k=1
  ·simp[h1]
  ·simp only[h1,if_false,decide_false,Bool.or_false]
   repeat' split
   all_goals rfl
def stG (s:Int) (x:Ev):Int:=if x.k=7 then 2 else if x.k=8 then 3 else if x.k=9 then 4 else s
theorem qA7:∀(c:List Ev) (p:Bool × Int),(c.foldl stF p).2=c.foldl stG p.2
 |[],p=> rfl
 |x::c,p=> by
  rw[List.foldl_cons,List.foldl_cons,qA7 c]
  congr 1
  unfold stF stG
  by_cases h1:x.k=1
  ·simp[h1]
  ·simp only[h1,if_false]
   repeat' split
   all_goals rfl
theorem qA6 (l:List Ev) (n:Int):xX l n=if qD l l.length n 1=true then (xM l n).foldl stG 1 else 0:=by
 unfold xX stC
 rw[qA8,qA7,zTl,List.take_length]
 simp
theorem zO8 (l:List Ev) (a b:Int):∀(m:List Ev) (i:Nat),l.drop i=m->(∀j x,j<i->l[j]?=some x->¬(x.a=b/\x.k=1))->zBg l a b=zBu (qD l i a 8||qD l i a 9) m a b:=by
 have key:∀i,i<=l.length->(∀j x,j<i->l[j]?=some x->¬(x.a=b/\x.k=1))->zBg l a b=zBu (qD l i a 8||qD l i a 9) (l.drop i) a b:=by
  intro i
  induction i with
  |zero=> intro _ _;simp[zBg,qD]
  |succ i ih=>
   intro hi h
   obtain⟨x,hx⟩:=zAp (l:=l) (i:=i) (by omega)
   rw[ih (by omega) fun j y hj hy=> h j y (by omega) hy]
   have hd:l.drop i=x::l.drop (i+1):=by
    rw[List.drop_eq_getElem_cons (by omega)]
    congr 1
    rw[List.getElem?_eq_getElem (by omega)] at hx
    exact Option.some.inj hx
   rw[hd,zBu,if_neg (h i x (by omega) hx)]
   congr 1
   unfold qD
   rw[zHi hx]
   simp only[List.any_append,List.any_cons,List.any_nil,Bool.or_false,zCt,isK]
   cases decide (x.a=a)<;> cases decide (x.k=8)<;> cases decide (x.k=9)<;> simp
 intro m i hm h
 by_cases hi:i<=l.length
 ·rw[←hm];exact key i hi h
 ·have h1:=key l.length (Nat.le_refl _) fun j x hj hx=> h j x (by omega) hx
  rw[h1,←hm,List.drop_length,List.drop_eq_nil_of_le (by omega)];rfl
end YtnemoimbeefngaaGreat
end Go.Proofs
namespace Go.Proofs
namespace YtnemoimbeefngaaGreat
open Go.Abs
theorem zUo (L:List (Option (AObj GD))) (k:Nat):zAl (AH.of L) k=match (L[k]?).join with
 |some (.arr e cs)=> (zI2 cs).map fun h=> (e,h)
 |_=> none:=rfl
attribute [simp] zUo
end YtnemoimbeefngaaGreat
end Go.Proofs
namespace Go.Proofs
namespace YtnemoimbeefngaaGreat
open Go.Abs
theorem zWd (L:List (Option (AObj GD))) (k:Nat):zLu (AH.of L) k=match (L[k]?).join with
 |some (.ro cs)=> zAj cs
 |some (.arr _ cs)=> zAj cs
 |_=> none:=rfl
attribute [simp] zWd
theorem zQf (l:List Ev):(zBv l).length<=l.length:=by
 have:=zVd l []
 simpa [zBv] using this
end YtnemoimbeefngaaGreat
end Go.Proofs
namespace Go.Proofs
namespace YtnemoimbeefngaaGreat
open Go.Abs
theorem zU0 {l:List Ev} {i:Nat} {x:Ev} (h:l[i]?=some x) (n:Int):xM (l.take (i+1)) n=if x.a=n then xM (l.take i) n++[x] else xM (l.take i) n:=by
 rw[zHi h,zHg,zEe]
 split<;> simp[xM]
end YtnemoimbeefngaaGreat
end Go.Proofs
