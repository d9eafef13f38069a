/-
  TL2: Begin, Ask. (Printed by tools/genask_t.py.)
-/
import Derived.Test.YtapbabkndhaemaaGreatPR1
set_option linter.unusedSimpArgs false
set_option linter.unusedVariables false
set_option linter.unnecessarySimpa false
set_option linter.unusedSectionVars false
set_option maxHeartbeats 32000000
set_option maxRecDepth 100000
namespace Go.Proofs
namespace YtapbabkndhaemaaGreat
open Go.Abs
def zOw:List (FuncId × qH GD):=[(49,zW4),(47,st47),(48,st48)]
theorem zP9:∀x∈zOw,zY Tryz.prog cfg x.1 x.2:=by simp[zOw,qBw,qRk,qRj]
theorem qAh (s:TS) (hs:s.Ok) (hev:s.ev.length<=100000) (th:Nat) (hth:th<4) (hc:zD8 s th=0):zD Tryz.prog cfg 13 [.pointer (some ⟨0,0,none⟩),.int .i64 th] (AH.of [some (.hi (.teng s))])
  fun r H'=> r=.ret (.tuple #[.int .i64 s.ft.length,.int .i64 0])/\H'=AH.of [some (.hi (.teng (zAt s th)))]:=by
 refine zD.ends ?_
 have h1:s.ts th=none:=by
  unfold zD8 at hc
  split at hc
  ·cases hc
  ·rename_i h;simpa using h
 have h2:s.ft.length<64:=by
  unfold zD8 at hc
  split at hc
  ·cases hc
  ·split at hc
   ·cases hc
   ·omega
 refine zD.openTEng hth ?_
 obtain⟨z1,z2,z3,z4,gt,gg,gs⟩:=zAq hth
 have hg:=hs.tab
 have hcr:=hg.c0
 have hcr1:=hg.c1
 have hw1:IntKind.u64.wrap (2*s.c)=2*s.c:=zB5 (by omega) (by omega)
 have hw:IntKind.u64.wrap (2*s.c+1)=2*s.c+1:=zB5 (by omega) (by omega)
 have hk1:¬(64:Int)<=s.ft.length:=by omega
 have hkl:(s.ft.length+1)*24<=140737488355328/\s.ft.length<=9223372036854775806:=by omega
 have hel:(s.ev.length+1)*32<=140737488355328/\s.ev.length<=9223372036854775806:=by omega
 have t1:=qDc s.ft
 have t3:=zAf s.ev
 refine zP (tbl:=zOw) zP9 0 3 (af:=a13) rfl ?_
 rw[a13,b13,zW]
 refine⟨by simp,?_⟩
 simp -implicitDefEqProofs [qK,zOw,zW4,st47,st48,forms46,a46,b46,forms50,a50,b50,z1,z2,z3,z4,gt,gg,gs,xQ,jA,xP,xK,jX,xC,xB,xA,xU,xT,jI,h1,zJ,zR,jF,hg,hk1,hw1,hw,hkl,hel,t1,t3,zBn,jM]
 obtain⟨q4,hq⟩:=zAa th
 rcases qL hth with rfl|rfl|rfl|rfl<;> (refine zA [.pack (GD.tatt (zB9 s.ft.length s.c)) 11 [9,10],.pack (GD.teng (zAt s q4)) 0 (1::2::16::13::p4 11 q4)] [0] ?_ ?_ ?_<;> simp[hq,p4,zX,qG,zB9,zAt,qB,zH,qC,tps,zJ,zR,h1,zOk,zY2,jS,jR,u1,u2,u3])
theorem zTg (s:TS) (hs:s.Ok) (th:Nat) (hth:th<4) (hc:zD8 s th≠0):zD Tryz.prog cfg 13 [.pointer (some ⟨0,0,none⟩),.int .i64 th] (AH.of [some (.hi (.teng s))])
  fun r H'=> r=.ret (.tuple #[.int .i64 0,.int .i64 (zD8 s th)])/\H'=AH.of [some (.hi (.teng s))]:=by
 refine zD.ends ?_
 refine zD.openTEng hth ?_
 obtain⟨z1,z2,z3,z4,gt,gg,gs⟩:=zAq hth
 unfold zD8 at hc⊢
 cases h1:s.ts th with
 |some a=>
  refine zP (tbl:=zOw) zP9 0 3 (af:=a13) rfl ?_
  rw[a13,b13,zW]
  refine⟨by simp,?_⟩
  simp -implicitDefEqProofs [qK,forms46,a46,b46,z1,z2,z3,gt,gg,h1,zJ,zR]
  obtain⟨q4,hq⟩:=zAa th
  rcases qL hth with rfl|rfl|rfl|rfl<;> (refine zA [.pack (GD.teng s) 0 (1::2::3::4::p4 5 q4)] [0] ?_ ?_ ?_<;> simp[hq,p4,qG,h1,qC,tps,zJ,zR,u1,u2,u3])
 |none=>
  by_cases h2:64<=s.ft.length
  ·have h2':(64:Int)<=s.ft.length:=by omega
   refine zP (tbl:=zOw) zP9 0 3 (af:=a13) rfl ?_
   rw[a13,b13,zW]
   refine⟨by simp,?_⟩
   simp -implicitDefEqProofs [qK,forms46,a46,b46,z1,z2,z3,gt,gg,xK,h1,zJ,zR,h2,h2']
   obtain⟨q4,hq⟩:=zAa th
   rcases qL hth with rfl|rfl|rfl|rfl<;> (refine zA [.pack (GD.teng s) 0 (1::2::3::4::p4 5 q4)] [0] ?_ ?_ ?_<;> simp[hq,p4,qG,h1,qC,tps,zJ,zR,u1,u2,u3])
  ·simp[h1,h2] at hc
theorem zPv (d:GD) (t:Int) (ht:t<0∨4<=t):zD Tryz.prog cfg 13 [.pointer (some ⟨0,0,none⟩),.int .i64 t] (AH.of [some (.hi d)])
  fun r H'=> r=.ret (.tuple #[.int .i64 0,.int .i64 2])/\H'=AH.of [some (.hi d)]:=by
 refine zD.ends ?_
 have ht':¬t<0->4<=t:=fun h=> by omega
 refine zP (tbl:=[]) (by simp) 0 3 (af:=a13) rfl ?_
 rw[a13,b13,zW]
 refine⟨by simp,?_⟩
 by_cases h1:t<0
 ·simp -implicitDefEqProofs [forms46,a46,b46,h1]
  refine zA [] [0] ?_ ?_ ?_<;> simp
 ·simp -implicitDefEqProofs [forms46,a46,b46,h1,ht' h1]
  refine zA [] [0] ?_ ?_ ?_<;> simp
def zFg (t:Int):Option Nat:=if t<0∨4<=t then none else some t.toNat
theorem zJ2 {t:Int} (h:zFg t=none):t<0∨4<=t:=by
 unfold zFg at h
 split at h
 ·assumption
 ·cases h
theorem zCt {t:Int} {th:Nat} (h:zFg t=some th):th<4/\t=(th:Int):=by
 unfold zFg at h
 split at h
 ·cases h
 ·cases h;omega
def zO3 (s:TS) (t:Int):Value:=match zFg t with
 |none=> .tuple #[.int .i64 0,.int .i64 2]
 |some th=> if zD8 s th=0 then .tuple #[.int .i64 s.ft.length,.int .i64 0] else .tuple #[.int .i64 0,.int .i64 (zD8 s th)]
def zD7 (s:TS) (t:Int):TS:=match zFg t with
 |none=> s
 |some th=> if zD8 s th=0 then zAt s th else s
def d13:zDs
 |.teng s,[.int .i64 t]=> some (s.Ok/\s.ev.length<=100000,zO3 s t,.teng (zD7 s t))
 |_,_=> none
theorem qB1:zY Tryz.prog cfg 13 (zZ d13):=zCk fun d rest p v d' h hp=> by
 unfold d13 at h
 split at h
 case h_2=> cases h
 rename_i s t
 cases h
 cases ht:zFg t with
 |none=> simp only[zO3,zD7,ht];exact⟨rfl,rfl,zPv _ _ (zJ2 ht)⟩
 |some th=>
  obtain⟨h1,rfl⟩:=zCt ht
  simp only[zO3,zD7,ht]
  by_cases hc:zD8 s th=0
  ·rw[if_pos hc,if_pos hc];exact⟨rfl,rfl,qAh s hp.1 hp.2 th h1 hc⟩
  ·rw[if_neg hc,if_neg hc];exact⟨rfl,rfl,zTg s hp.1 th h1 hc⟩
def zAj:List (FuncId × qH GD):=[(107,zZ zEc),(43,zCp)]
theorem zBj:∀x∈zAj,zY Tryz.prog cfg x.1 x.2:=by simp[zAj,qL4,zTa]
theorem qVs (s:TS) (hs:s.Ok) (th:Nat) (hth:th<4) (a:TA) (ha:s.ts th=some a) (hf:a.ra.k=0) (t v:Int):zD Tryz.prog cfg 14 [.pointer (some ⟨0,0,none⟩),.int .i64 th,.agg #[.int .u8 0,.int .i64 t,.int .u64 v]] (AH.of [some (.hi (.teng s))])
  fun r H'=> r=.ret (.int .i64 2)/\H'=AH.of [some (.hi (.teng s))]:=by
 refine zD.ends ?_
 refine zD.openTEng hth ?_
 obtain⟨z1,z2,z3,z4,gt,gg,gs⟩:=zAq hth
 obtain⟨dp,hdp⟩:∃dp,(a.fs.length:Int) - 1=dp:=⟨_,rfl⟩
 refine zP (tbl:=zAj) zBj 0 3 (af:=a14) rfl ?_
 rw[a14,b14,zW]
 refine⟨by simp,?_⟩
 simp -implicitDefEqProofs [qK,zAj,zZ,zEc,zCp,forms46,a46,b46,forms52,a52,b52,forms51,a51,b51,z1,z2,z3,gt,gg,jA,ha,zJ,zR,zH,zX,hf,hdp,]
 obtain⟨q4,hq⟩:=zAa th
 rcases qL hth with rfl|rfl|rfl|rfl<;> (refine zA [.pack (GD.tatt a) 5 [10,11],.pack (GD.teng s) 0 (1::2::3::4::p4 5 q4)] [0] ?_ ?_ ?_<;> simp[hq,p4,zX,qG,qC,tps,zJ,zR,hf,ha,zH,hdp,u1,u2,u3])
theorem qVr (s:TS) (hs:s.Ok) (th:Nat) (hth:th<4) (a:TA) (ha:s.ts th=some a) (hf:a.ra.k=0) (k:Int) (hk:7<k) (t v:Int):zD Tryz.prog cfg 14 [.pointer (some ⟨0,0,none⟩),.int .i64 th,.agg #[.int .u8 k,.int .i64 t,.int .u64 v]] (AH.of [some (.hi (.teng s))])
  fun r H'=> r=.ret (.int .i64 2)/\H'=AH.of [some (.hi (.teng s))]:=by
 refine zD.ends ?_
 refine zD.openTEng hth ?_
 obtain⟨z1,z2,z3,z4,gt,gg,gs⟩:=zAq hth
 obtain⟨dp,hdp⟩:∃dp,(a.fs.length:Int) - 1=dp:=⟨_,rfl⟩
 have k0:¬k=0:=by omega
 have k1:¬k=1:=by omega
 have k2:¬k=2:=by omega
 have k7:7<k:=hk
 have k3:¬k=3:=by omega
 have k4:¬k=4:=by omega
 have k5:¬k=5:=by omega
 have k6:¬k=6:=by omega
 have k8:¬k=7:=by omega
 clear hk
 refine zP (tbl:=zAj) zBj 0 3 (af:=a14) rfl ?_
 rw[a14,b14,zW]
 refine⟨by simp,?_⟩
 simp -implicitDefEqProofs [qK,zAj,zZ,zEc,zCp,forms46,a46,b46,forms52,a52,b52,forms51,a51,b51,z1,z2,z3,gt,gg,jA,ha,zJ,zR,zH,zX,hf,hdp,k0,k1,k2,k3,k4,k5,k6,k7,k8]
 obtain⟨q4,hq⟩:=zAa th
 rcases qL hth with rfl|rfl|rfl|rfl<;> (refine zA [.pack (GD.tatt a) 5 [10,11],.pack (GD.teng s) 0 (1::2::3::4::p4 5 q4)] [0] ?_ ?_ ?_<;> simp[hq,p4,zX,qG,qC,tps,zJ,zR,hf,ha,zH,hdp,u1,u2,u3])
theorem qQ6 (s:TS) (hs:s.Ok) (th:Nat) (hth:th<4) (a:TA) (ha:s.ts th=some a) (hf:a.ra.k=0) (t v:Int) (ht:t<0):zD Tryz.prog cfg 14 [.pointer (some ⟨0,0,none⟩),.int .i64 th,.agg #[.int .u8 1,.int .i64 t,.int .u64 v]] (AH.of [some (.hi (.teng s))])
  fun r H'=> r=.ret (.int .i64 2)/\H'=AH.of [some (.hi (.teng s))]:=by
 refine zD.ends ?_
 refine zD.openTEng hth ?_
 obtain⟨z1,z2,z3,z4,gt,gg,gs⟩:=zAq hth
 obtain⟨dp,hdp⟩:∃dp,(a.fs.length:Int) - 1=dp:=⟨_,rfl⟩
 have t1:t<0:=ht
 refine zP (tbl:=zAj) zBj 0 3 (af:=a14) rfl ?_
 rw[a14,b14,zW]
 refine⟨by simp,?_⟩
 simp -implicitDefEqProofs [qK,zAj,zZ,zEc,zCp,forms46,a46,b46,forms52,a52,b52,forms51,a51,b51,z1,z2,z3,gt,gg,jA,ha,zJ,zR,zH,zX,hf,hdp,t1]
 obtain⟨q4,hq⟩:=zAa th
 rcases qL hth with rfl|rfl|rfl|rfl<;> (refine zA [.pack (GD.tatt a) 5 [10,11],.pack (GD.teng s) 0 (1::2::3::4::p4 5 q4)] [0] ?_ ?_ ?_<;> simp[hq,p4,zX,qG,qC,tps,zJ,zR,hf,ha,zH,hdp,u1,u2,u3])
theorem qQ7 (s:TS) (hs:s.Ok) (th:Nat) (hth:th<4) (a:TA) (ha:s.ts th=some a) (hf:a.ra.k=0) (t v:Int) (ht:0<=t/\(s.hp.length:Int)<=t):zD Tryz.prog cfg 14 [.pointer (some ⟨0,0,none⟩),.int .i64 th,.agg #[.int .u8 1,.int .i64 t,.int .u64 v]] (AH.of [some (.hi (.teng s))])
  fun r H'=> r=.ret (.int .i64 2)/\H'=AH.of [some (.hi (.teng s))]:=by
 refine zD.ends ?_
 refine zD.openTEng hth ?_
 obtain⟨z1,z2,z3,z4,gt,gg,gs⟩:=zAq hth
 obtain⟨dp,hdp⟩:∃dp,(a.fs.length:Int) - 1=dp:=⟨_,rfl⟩
 have t1:¬t<0:=by omega
 have t2:(s.hp.length:Int)<=t:=ht.2
 refine zP (tbl:=zAj) zBj 0 3 (af:=a14) rfl ?_
 rw[a14,b14,zW]
 refine⟨by simp,?_⟩
 simp -implicitDefEqProofs [qK,zAj,zZ,zEc,zCp,forms46,a46,b46,forms52,a52,b52,forms51,a51,b51,z1,z2,z3,gt,gg,jA,ha,zJ,zR,zH,zX,hf,hdp,t1,t2]
 obtain⟨q4,hq⟩:=zAa th
 rcases qL hth with rfl|rfl|rfl|rfl<;> (refine zA [.pack (GD.tatt a) 5 [10,11],.pack (GD.teng s) 0 (1::2::3::4::p4 5 q4)] [0] ?_ ?_ ?_<;> simp[hq,p4,zX,qG,qC,tps,zJ,zR,hf,ha,zH,hdp,u1,u2,u3])
theorem qQ3 (s:TS) (hs:s.Ok) (th:Nat) (hth:th<4) (a:TA) (ha:s.ts th=some a) (hf:a.ra.k=0) (t v:Int) (ht:t<0):zD Tryz.prog cfg 14 [.pointer (some ⟨0,0,none⟩),.int .i64 th,.agg #[.int .u8 2,.int .i64 t,.int .u64 v]] (AH.of [some (.hi (.teng s))])
  fun r H'=> r=.ret (.int .i64 2)/\H'=AH.of [some (.hi (.teng s))]:=by
 refine zD.ends ?_
 refine zD.openTEng hth ?_
 obtain⟨z1,z2,z3,z4,gt,gg,gs⟩:=zAq hth
 obtain⟨dp,hdp⟩:∃dp,(a.fs.length:Int) - 1=dp:=⟨_,rfl⟩
 have t1:t<0:=ht
 refine zP (tbl:=zAj) zBj 0 3 (af:=a14) rfl ?_
 rw[a14,b14,zW]
 refine⟨by simp,?_⟩
 simp -implicitDefEqProofs [qK,zAj,zZ,zEc,zCp,forms46,a46,b46,forms52,a52,b52,forms51,a51,b51,z1,z2,z3,gt,gg,jA,ha,zJ,zR,zH,zX,hf,hdp,t1]
 obtain⟨q4,hq⟩:=zAa th
 rcases qL hth with rfl|rfl|rfl|rfl<;> (refine zA [.pack (GD.tatt a) 5 [10,11],.pack (GD.teng s) 0 (1::2::3::4::p4 5 q4)] [0] ?_ ?_ ?_<;> simp[hq,p4,zX,qG,qC,tps,zJ,zR,hf,ha,zH,hdp,u1,u2,u3])
theorem qQ4 (s:TS) (hs:s.Ok) (th:Nat) (hth:th<4) (a:TA) (ha:s.ts th=some a) (hf:a.ra.k=0) (t v:Int) (ht:0<=t/\(s.hp.length:Int)<=t):zD Tryz.prog cfg 14 [.pointer (some ⟨0,0,none⟩),.int .i64 th,.agg #[.int .u8 2,.int .i64 t,.int .u64 v]] (AH.of [some (.hi (.teng s))])
  fun r H'=> r=.ret (.int .i64 2)/\H'=AH.of [some (.hi (.teng s))]:=by
 refine zD.ends ?_
 refine zD.openTEng hth ?_
 obtain⟨z1,z2,z3,z4,gt,gg,gs⟩:=zAq hth
 obtain⟨dp,hdp⟩:∃dp,(a.fs.length:Int) - 1=dp:=⟨_,rfl⟩
 have t1:¬t<0:=by omega
 have t2:(s.hp.length:Int)<=t:=ht.2
 refine zP (tbl:=zAj) zBj 0 3 (af:=a14) rfl ?_
 rw[a14,b14,zW]
 refine⟨by simp,?_⟩
 simp -implicitDefEqProofs [qK,zAj,zZ,zEc,zCp,forms46,a46,b46,forms52,a52,b52,forms51,a51,b51,z1,z2,z3,gt,gg,jA,ha,zJ,zR,zH,zX,hf,hdp,t1,t2]
 obtain⟨q4,hq⟩:=zAa th
 rcases qL hth with rfl|rfl|rfl|rfl<;> (refine zA [.pack (GD.tatt a) 5 [10,11],.pack (GD.teng s) 0 (1::2::3::4::p4 5 q4)] [0] ?_ ?_ ?_<;> simp[hq,p4,zX,qG,qC,tps,zJ,zR,hf,ha,zH,hdp,u1,u2,u3])
theorem qQ2 (s:TS) (hs:s.Ok) (th:Nat) (hth:th<4) (a:TA) (ha:s.ts th=some a) (hf:a.ra.k=0) (t v:Int) (ht:0<=t/\t<s.hp.length) (hv:zAg v=false):zD Tryz.prog cfg 14 [.pointer (some ⟨0,0,none⟩),.int .i64 th,.agg #[.int .u8 2,.int .i64 t,.int .u64 v]] (AH.of [some (.hi (.teng s))])
  fun r H'=> r=.ret (.int .i64 3)/\H'=AH.of [some (.hi (.teng s))]:=by
 refine zD.ends ?_
 refine zD.openTEng hth ?_
 obtain⟨z1,z2,z3,z4,gt,gg,gs⟩:=zAq hth
 obtain⟨dp,hdp⟩:∃dp,(a.fs.length:Int) - 1=dp:=⟨_,rfl⟩
 have t1:¬t<0:=by omega
 have t2:¬(s.hp.length:Int)<=t:=by omega
 have r1:zAg v=false:=hv
 refine zP (tbl:=zAj) zBj 0 3 (af:=a14) rfl ?_
 rw[a14,b14,zW]
 refine⟨by simp,?_⟩
 simp -implicitDefEqProofs [qK,zAj,zZ,zEc,zCp,forms46,a46,b46,forms52,a52,b52,forms51,a51,b51,z1,z2,z3,gt,gg,jA,ha,zJ,zR,zH,zX,hf,hdp,t1,t2,r1]
 obtain⟨q4,hq⟩:=zAa th
 rcases qL hth with rfl|rfl|rfl|rfl<;> (refine zA [.pack (GD.tatt a) 5 [10,11],.pack (GD.teng s) 0 (1::2::3::4::p4 5 q4)] [0] ?_ ?_ ?_<;> simp[hq,p4,zX,qG,qC,tps,zJ,zR,hf,ha,zH,hdp,u1,u2,u3])
theorem qQ5 (s:TS) (hs:s.Ok) (th:Nat) (hth:th<4) (a:TA) (ha:s.ts th=some a) (hf:a.ra.k=0) (t v:Int) (ht:0<=t/\t<s.hp.length):zD Tryz.prog cfg 14 [.pointer (some ⟨0,0,none⟩),.int .i64 th,.agg #[.int .u8 1,.int .i64 t,.int .u64 v]] (AH.of [some (.hi (.teng s))])
  fun r H'=> r=.ret (.int .i64 0)/\H'=AH.of [some (.hi (.teng (zAr s th ⟨1,t,v⟩)))]:=by
 refine zD.ends ?_
 refine zD.openTEng hth ?_
 obtain⟨z1,z2,z3,z4,gt,gg,gs⟩:=zAq hth
 obtain⟨dp,hdp⟩:∃dp,(a.fs.length:Int) - 1=dp:=⟨_,rfl⟩
 have t1:¬t<0:=by omega
 have t2:¬(s.hp.length:Int)<=t:=by omega
 refine zP (tbl:=zAj) zBj 0 3 (af:=a14) rfl ?_
 rw[a14,b14,zW]
 refine⟨by simp,?_⟩
 simp -implicitDefEqProofs [qK,zAj,zZ,zEc,zCp,forms46,a46,b46,forms52,a52,b52,forms51,a51,b51,z1,z2,z3,gt,gg,jA,ha,zJ,zR,zH,zX,hf,hdp,t1,t2]
 obtain⟨q4,hq⟩:=zAa th
 rcases qL hth with rfl|rfl|rfl|rfl<;> (refine zA [.pack (GD.tatt { a with ra:=⟨1,t,v⟩,ph:=0,nx:=0,sw:=0,sv:=0,ss:=0 }) 5 [10,11],.pack (GD.teng (zAr s q4 ⟨1,t,v⟩)) 0 (1::2::3::4::p4 5 q4)] [0] ?_ ?_ ?_<;> simp[hq,p4,zAr,qB,zX,qG,qC,tps,zJ,zR,hf,ha,zH,hdp,u1,u2,u3])
theorem qQ1 (s:TS) (hs:s.Ok) (th:Nat) (hth:th<4) (a:TA) (ha:s.ts th=some a) (hf:a.ra.k=0) (t v:Int) (ht:0<=t/\t<s.hp.length) (hv:zAg v=true):zD Tryz.prog cfg 14 [.pointer (some ⟨0,0,none⟩),.int .i64 th,.agg #[.int .u8 2,.int .i64 t,.int .u64 v]] (AH.of [some (.hi (.teng s))])
  fun r H'=> r=.ret (.int .i64 0)/\H'=AH.of [some (.hi (.teng (zAr s th ⟨2,t,v⟩)))]:=by
 refine zD.ends ?_
 refine zD.openTEng hth ?_
 obtain⟨z1,z2,z3,z4,gt,gg,gs⟩:=zAq hth
 obtain⟨dp,hdp⟩:∃dp,(a.fs.length:Int) - 1=dp:=⟨_,rfl⟩
 have t1:¬t<0:=by omega
 have t2:¬(s.hp.length:Int)<=t:=by omega
 have r1:zAg v=true:=hv
 refine zP (tbl:=zAj) zBj 0 3 (af:=a14) rfl ?_
 rw[a14,b14,zW]
 refine⟨by simp,?_⟩
 simp -implicitDefEqProofs [qK,zAj,zZ,zEc,zCp,forms46,a46,b46,forms52,a52,b52,forms51,a51,b51,z1,z2,z3,gt,gg,jA,ha,zJ,zR,zH,zX,hf,hdp,t1,t2,r1]
 obtain⟨q4,hq⟩:=zAa th
 rcases qL hth with rfl|rfl|rfl|rfl<;> (refine zA [.pack (GD.tatt { a with ra:=⟨2,t,v⟩,ph:=0,nx:=0,sw:=0,sv:=0,ss:=0 }) 5 [10,11],.pack (GD.teng (zAr s q4 ⟨2,t,v⟩)) 0 (1::2::3::4::p4 5 q4)] [0] ?_ ?_ ?_<;> simp[hq,p4,zAr,qB,zX,qG,qC,tps,zJ,zR,hf,ha,zH,hdp,u1,u2,u3])
theorem qQo (s:TS) (hs:s.Ok) (th:Nat) (hth:th<4) (a:TA) (ha:s.ts th=some a) (hf:a.ra.k=0) (t v:Int):zD Tryz.prog cfg 14 [.pointer (some ⟨0,0,none⟩),.int .i64 th,.agg #[.int .u8 7,.int .i64 t,.int .u64 v]] (AH.of [some (.hi (.teng s))])
  fun r H'=> r=.ret (.int .i64 0)/\H'=AH.of [some (.hi (.teng (zAr s th ⟨7,t,v⟩)))]:=by
 refine zD.ends ?_
 refine zD.openTEng hth ?_
 obtain⟨z1,z2,z3,z4,gt,gg,gs⟩:=zAq hth
 obtain⟨dp,hdp⟩:∃dp,(a.fs.length:Int) - 1=dp:=⟨_,rfl⟩
 refine zP (tbl:=zAj) zBj 0 3 (af:=a14) rfl ?_
 rw[a14,b14,zW]
 refine⟨by simp,?_⟩
 simp -implicitDefEqProofs [qK,zAj,zZ,zEc,zCp,forms46,a46,b46,forms52,a52,b52,forms51,a51,b51,z1,z2,z3,gt,gg,jA,ha,zJ,zR,zH,zX,hf,hdp,]
 obtain⟨q4,hq⟩:=zAa th
 rcases qL hth with rfl|rfl|rfl|rfl<;> (refine zA [.pack (GD.tatt { a with ra:=⟨7,t,v⟩,ph:=0,nx:=0,sw:=0,sv:=0,ss:=0 }) 5 [10,11],.pack (GD.teng (zAr s q4 ⟨7,t,v⟩)) 0 (1::2::3::4::p4 5 q4)] [0] ?_ ?_ ?_<;> simp[hq,p4,zAr,qB,zX,qG,qC,tps,zJ,zR,hf,ha,zH,hdp,u1,u2,u3])
theorem qQy (s:TS) (hs:s.Ok) (th:Nat) (hth:th<4) (a:TA) (ha:s.ts th=some a) (hf:a.ra.k=0) (t v:Int) (hd:a.fs.length=1):zD Tryz.prog cfg 14 [.pointer (some ⟨0,0,none⟩),.int .i64 th,.agg #[.int .u8 3,.int .i64 t,.int .u64 v]] (AH.of [some (.hi (.teng s))])
  fun r H'=> r=.ret (.int .i64 0)/\H'=AH.of [some (.hi (.teng (zAr s th ⟨3,t,v⟩)))]:=by
 refine zD.ends ?_
 refine zD.openTEng hth ?_
 obtain⟨z1,z2,z3,z4,gt,gg,gs⟩:=zAq hth
 obtain⟨dp,hdp⟩:∃dp,(a.fs.length:Int) - 1=dp:=⟨_,rfl⟩
 have e1:(dp=0)=True:=eq_true (by omega)
 have e2:(0<dp)=False:=eq_false (by omega)
 have e3:(4<=dp)=False:=eq_false (by omega)
 refine zP (tbl:=zAj) zBj 0 3 (af:=a14) rfl ?_
 rw[a14,b14,zW]
 refine⟨by simp,?_⟩
 simp -implicitDefEqProofs [qK,zAj,zZ,zEc,zCp,forms46,a46,b46,forms52,a52,b52,forms51,a51,b51,z1,z2,z3,gt,gg,jA,ha,zJ,zR,zH,zX,hf,hdp,e1,e2,e3]
 obtain⟨q4,hq⟩:=zAa th
 rcases qL hth with rfl|rfl|rfl|rfl<;> (refine zA [.pack (GD.tatt { a with ra:=⟨3,t,v⟩,ph:=0,nx:=0,sw:=0,sv:=0,ss:=0 }) 5 [10,11],.pack (GD.teng (zAr s q4 ⟨3,t,v⟩)) 0 (1::2::3::4::p4 5 q4)] [0] ?_ ?_ ?_<;> simp[hq,p4,zAr,qB,zX,qG,qC,tps,zJ,zR,hf,ha,zH,hdp,u1,u2,u3])
theorem qQv (s:TS) (hs:s.Ok) (th:Nat) (hth:th<4) (a:TA) (ha:s.ts th=some a) (hf:a.ra.k=0) (t v:Int) (hd:a.fs.length=1):zD Tryz.prog cfg 14 [.pointer (some ⟨0,0,none⟩),.int .i64 th,.agg #[.int .u8 4,.int .i64 t,.int .u64 v]] (AH.of [some (.hi (.teng s))])
  fun r H'=> r=.ret (.int .i64 8)/\H'=AH.of [some (.hi (.teng s))]:=by
 refine zD.ends ?_
 refine zD.openTEng hth ?_
 obtain⟨z1,z2,z3,z4,gt,gg,gs⟩:=zAq hth
 obtain⟨dp,hdp⟩:∃dp,(a.fs.length:Int) - 1=dp:=⟨_,rfl⟩
 have e1:(dp=0)=True:=eq_true (by omega)
 have e2:(0<dp)=False:=eq_false (by omega)
 have e3:(4<=dp)=False:=eq_false (by omega)
 refine zP (tbl:=zAj) zBj 0 3 (af:=a14) rfl ?_
 rw[a14,b14,zW]
 refine⟨by simp,?_⟩
 simp -implicitDefEqProofs [qK,zAj,zZ,zEc,zCp,forms46,a46,b46,forms52,a52,b52,forms51,a51,b51,z1,z2,z3,gt,gg,jA,ha,zJ,zR,zH,zX,hf,hdp,e1,e2,e3]
 obtain⟨q4,hq⟩:=zAa th
 rcases qL hth with rfl|rfl|rfl|rfl<;> (refine zA [.pack (GD.tatt a) 5 [10,11],.pack (GD.teng s) 0 (1::2::3::4::p4 5 q4)] [0] ?_ ?_ ?_<;> simp[hq,p4,zX,qG,qC,tps,zJ,zR,hf,ha,zH,hdp,u1,u2,u3])
theorem qQs (s:TS) (hs:s.Ok) (th:Nat) (hth:th<4) (a:TA) (ha:s.ts th=some a) (hf:a.ra.k=0) (t v:Int) (hd:a.fs.length=1):zD Tryz.prog cfg 14 [.pointer (some ⟨0,0,none⟩),.int .i64 th,.agg #[.int .u8 5,.int .i64 t,.int .u64 v]] (AH.of [some (.hi (.teng s))])
  fun r H'=> r=.ret (.int .i64 8)/\H'=AH.of [some (.hi (.teng s))]:=by
 refine zD.ends ?_
 refine zD.openTEng hth ?_
 obtain⟨z1,z2,z3,z4,gt,gg,gs⟩:=zAq hth
 obtain⟨dp,hdp⟩:∃dp,(a.fs.length:Int) - 1=dp:=⟨_,rfl⟩
 have e1:(dp=0)=True:=eq_true (by omega)
 have e2:(0<dp)=False:=eq_false (by omega)
 have e3:(4<=dp)=False:=eq_false (by omega)
 refine zP (tbl:=zAj) zBj 0 3 (af:=a14) rfl ?_
 rw[a14,b14,zW]
 refine⟨by simp,?_⟩
 simp -implicitDefEqProofs [qK,zAj,zZ,zEc,zCp,forms46,a46,b46,forms52,a52,b52,forms51,a51,b51,z1,z2,z3,gt,gg,jA,ha,zJ,zR,zH,zX,hf,hdp,e1,e2,e3]
 obtain⟨q4,hq⟩:=zAa th
 rcases qL hth with rfl|rfl|rfl|rfl<;> (refine zA [.pack (GD.tatt a) 5 [10,11],.pack (GD.teng s) 0 (1::2::3::4::p4 5 q4)] [0] ?_ ?_ ?_<;> simp[hq,p4,zX,qG,qC,tps,zJ,zR,hf,ha,zH,hdp,u1,u2,u3])
theorem qQp (s:TS) (hs:s.Ok) (th:Nat) (hth:th<4) (a:TA) (ha:s.ts th=some a) (hf:a.ra.k=0) (t v:Int) (hd:a.fs.length=1):zD Tryz.prog cfg 14 [.pointer (some ⟨0,0,none⟩),.int .i64 th,.agg #[.int .u8 6,.int .i64 t,.int .u64 v]] (AH.of [some (.hi (.teng s))])
  fun r H'=> r=.ret (.int .i64 0)/\H'=AH.of [some (.hi (.teng (zAr s th ⟨6,t,v⟩)))]:=by
 refine zD.ends ?_
 refine zD.openTEng hth ?_
 obtain⟨z1,z2,z3,z4,gt,gg,gs⟩:=zAq hth
 obtain⟨dp,hdp⟩:∃dp,(a.fs.length:Int) - 1=dp:=⟨_,rfl⟩
 have e1:(dp=0)=True:=eq_true (by omega)
 have e2:(0<dp)=False:=eq_false (by omega)
 have e3:(4<=dp)=False:=eq_false (by omega)
 refine zP (tbl:=zAj) zBj 0 3 (af:=a14) rfl ?_
 rw[a14,b14,zW]
 refine⟨by simp,?_⟩
 simp -implicitDefEqProofs [qK,zAj,zZ,zEc,zCp,forms46,a46,b46,forms52,a52,b52,forms51,a51,b51,z1,z2,z3,gt,gg,jA,ha,zJ,zR,zH,zX,hf,hdp,e1,e2,e3]
 obtain⟨q4,hq⟩:=zAa th
 rcases qL hth with rfl|rfl|rfl|rfl<;> (refine zA [.pack (GD.tatt { a with ra:=⟨6,t,v⟩,ph:=0,nx:=0,sw:=0,sv:=0,ss:=0 }) 5 [10,11],.pack (GD.teng (zAr s q4 ⟨6,t,v⟩)) 0 (1::2::3::4::p4 5 q4)] [0] ?_ ?_ ?_<;> simp[hq,p4,zAr,qB,zX,qG,qC,tps,zJ,zR,hf,ha,zH,hdp,u1,u2,u3])
theorem qQz (s:TS) (hs:s.Ok) (th:Nat) (hth:th<4) (a:TA) (ha:s.ts th=some a) (hf:a.ra.k=0) (t v:Int) (hd:a.fs.length≠1/\1<=a.fs.length/\a.fs.length<5):zD Tryz.prog cfg 14 [.pointer (some ⟨0,0,none⟩),.int .i64 th,.agg #[.int .u8 3,.int .i64 t,.int .u64 v]] (AH.of [some (.hi (.teng s))])
  fun r H'=> r=.ret (.int .i64 0)/\H'=AH.of [some (.hi (.teng (zAr s th ⟨3,t,v⟩)))]:=by
 refine zD.ends ?_
 refine zD.openTEng hth ?_
 obtain⟨z1,z2,z3,z4,gt,gg,gs⟩:=zAq hth
 obtain⟨dp,hdp⟩:∃dp,(a.fs.length:Int) - 1=dp:=⟨_,rfl⟩
 have e1:(dp=0)=False:=eq_false (by omega)
 have e2:(0<dp)=True:=eq_true (by omega)
 have e3:(4<=dp)=False:=eq_false (by omega)
 refine zP (tbl:=zAj) zBj 0 3 (af:=a14) rfl ?_
 rw[a14,b14,zW]
 refine⟨by simp,?_⟩
 simp -implicitDefEqProofs [qK,zAj,zZ,zEc,zCp,forms46,a46,b46,forms52,a52,b52,forms51,a51,b51,z1,z2,z3,gt,gg,jA,ha,zJ,zR,zH,zX,hf,hdp,e1,e2,e3]
 obtain⟨q4,hq⟩:=zAa th
 rcases qL hth with rfl|rfl|rfl|rfl<;> (refine zA [.pack (GD.tatt { a with ra:=⟨3,t,v⟩,ph:=0,nx:=0,sw:=0,sv:=0,ss:=0 }) 5 [10,11],.pack (GD.teng (zAr s q4 ⟨3,t,v⟩)) 0 (1::2::3::4::p4 5 q4)] [0] ?_ ?_ ?_<;> simp[hq,p4,zAr,qB,zX,qG,qC,tps,zJ,zR,hf,ha,zH,hdp,u1,u2,u3])
theorem qQw (s:TS) (hs:s.Ok) (th:Nat) (hth:th<4) (a:TA) (ha:s.ts th=some a) (hf:a.ra.k=0) (t v:Int) (hd:a.fs.length≠1/\1<=a.fs.length/\a.fs.length<5):zD Tryz.prog cfg 14 [.pointer (some ⟨0,0,none⟩),.int .i64 th,.agg #[.int .u8 4,.int .i64 t,.int .u64 v]] (AH.of [some (.hi (.teng s))])
  fun r H'=> r=.ret (.int .i64 0)/\H'=AH.of [some (.hi (.teng (zAr s th ⟨4,t,v⟩)))]:=by
 refine zD.ends ?_
 refine zD.openTEng hth ?_
 obtain⟨z1,z2,z3,z4,gt,gg,gs⟩:=zAq hth
 obtain⟨dp,hdp⟩:∃dp,(a.fs.length:Int) - 1=dp:=⟨_,rfl⟩
 have e1:(dp=0)=False:=eq_false (by omega)
 have e2:(0<dp)=True:=eq_true (by omega)
 have e3:(4<=dp)=False:=eq_false (by omega)
 refine zP (tbl:=zAj) zBj 0 3 (af:=a14) rfl ?_
 rw[a14,b14,zW]
 refine⟨by simp,?_⟩
 simp -implicitDefEqProofs [qK,zAj,zZ,zEc,zCp,forms46,a46,b46,forms52,a52,b52,forms51,a51,b51,z1,z2,z3,gt,gg,jA,ha,zJ,zR,zH,zX,hf,hdp,e1,e2,e3]
 obtain⟨q4,hq⟩:=zAa th
 rcases qL hth with rfl|rfl|rfl|rfl<;> (refine zA [.pack (GD.tatt { a with ra:=⟨4,t,v⟩,ph:=0,nx:=0,sw:=0,sv:=0,ss:=0 }) 5 [10,11],.pack (GD.teng (zAr s q4 ⟨4,t,v⟩)) 0 (1::2::3::4::p4 5 q4)] [0] ?_ ?_ ?_<;> simp[hq,p4,zAr,qB,zX,qG,qC,tps,zJ,zR,hf,ha,zH,hdp,u1,u2,u3])
theorem qQt (s:TS) (hs:s.Ok) (th:Nat) (hth:th<4) (a:TA) (ha:s.ts th=some a) (hf:a.ra.k=0) (t v:Int) (hd:a.fs.length≠1/\1<=a.fs.length/\a.fs.length<5):zD Tryz.prog cfg 14 [.pointer (some ⟨0,0,none⟩),.int .i64 th,.agg #[.int .u8 5,.int .i64 t,.int .u64 v]] (AH.of [some (.hi (.teng s))])
  fun r H'=> r=.ret (.int .i64 0)/\H'=AH.of [some (.hi (.teng (zAr s th ⟨5,t,v⟩)))]:=by
 refine zD.ends ?_
 refine zD.openTEng hth ?_
 obtain⟨z1,z2,z3,z4,gt,gg,gs⟩:=zAq hth
 obtain⟨dp,hdp⟩:∃dp,(a.fs.length:Int) - 1=dp:=⟨_,rfl⟩
 have e1:(dp=0)=False:=eq_false (by omega)
 have e2:(0<dp)=True:=eq_true (by omega)
 have e3:(4<=dp)=False:=eq_false (by omega)
 refine zP (tbl:=zAj) zBj 0 3 (af:=a14) rfl ?_
 rw[a14,b14,zW]
 refine⟨by simp,?_⟩
 simp -implicitDefEqProofs [qK,zAj,zZ,zEc,zCp,forms46,a46,b46,forms52,a52,b52,forms51,a51,b51,z1,z2,z3,gt,gg,jA,ha,zJ,zR,zH,zX,hf,hdp,e1,e2,e3]
 obtain⟨q4,hq⟩:=zAa th
 rcases qL hth with rfl|rfl|rfl|rfl<;> (refine zA [.pack (GD.tatt { a with ra:=⟨5,t,v⟩,ph:=0,nx:=0,sw:=0,sv:=0,ss:=0 }) 5 [10,11],.pack (GD.teng (zAr s q4 ⟨5,t,v⟩)) 0 (1::2::3::4::p4 5 q4)] [0] ?_ ?_ ?_<;> simp[hq,p4,zAr,qB,zX,qG,qC,tps,zJ,zR,hf,ha,zH,hdp,u1,u2,u3])
theorem qQq (s:TS) (hs:s.Ok) (th:Nat) (hth:th<4) (a:TA) (ha:s.ts th=some a) (hf:a.ra.k=0) (t v:Int) (hd:a.fs.length≠1/\1<=a.fs.length/\a.fs.length<5):zD Tryz.prog cfg 14 [.pointer (some ⟨0,0,none⟩),.int .i64 th,.agg #[.int .u8 6,.int .i64 t,.int .u64 v]] (AH.of [some (.hi (.teng s))])
  fun r H'=> r=.ret (.int .i64 8)/\H'=AH.of [some (.hi (.teng s))]:=by
 refine zD.ends ?_
 refine zD.openTEng hth ?_
 obtain⟨z1,z2,z3,z4,gt,gg,gs⟩:=zAq hth
 obtain⟨dp,hdp⟩:∃dp,(a.fs.length:Int) - 1=dp:=⟨_,rfl⟩
 have e1:(dp=0)=False:=eq_false (by omega)
 have e2:(0<dp)=True:=eq_true (by omega)
 have e3:(4<=dp)=False:=eq_false (by omega)
 refine zP (tbl:=zAj) zBj 0 3 (af:=a14) rfl ?_
 rw[a14,b14,zW]
 refine⟨by simp,?_⟩
 simp -implicitDefEqProofs [qK,zAj,zZ,zEc,zCp,forms46,a46,b46,forms52,a52,b52,forms51,a51,b51,z1,z2,z3,gt,gg,jA,ha,zJ,zR,zH,zX,hf,hdp,e1,e2,e3]
 obtain⟨q4,hq⟩:=zAa th
 rcases qL hth with rfl|rfl|rfl|rfl<;> (refine zA [.pack (GD.tatt a) 5 [10,11],.pack (GD.teng s) 0 (1::2::3::4::p4 5 q4)] [0] ?_ ?_ ?_<;> simp[hq,p4,zX,qG,qC,tps,zJ,zR,hf,ha,zH,hdp,u1,u2,u3])
theorem qQ0 (s:TS) (hs:s.Ok) (th:Nat) (hth:th<4) (a:TA) (ha:s.ts th=some a) (hf:a.ra.k=0) (t v:Int) (hd:a.fs.length≥5):zD Tryz.prog cfg 14 [.pointer (some ⟨0,0,none⟩),.int .i64 th,.agg #[.int .u8 3,.int .i64 t,.int .u64 v]] (AH.of [some (.hi (.teng s))])
  fun r H'=> r=.ret (.int .i64 4)/\H'=AH.of [some (.hi (.teng s))]:=by
 refine zD.ends ?_
 refine zD.openTEng hth ?_
 obtain⟨z1,z2,z3,z4,gt,gg,gs⟩:=zAq hth
 obtain⟨dp,hdp⟩:∃dp,(a.fs.length:Int) - 1=dp:=⟨_,rfl⟩
 have e1:(dp=0)=False:=eq_false (by omega)
 have e2:(0<dp)=True:=eq_true (by omega)
 have e3:(4<=dp)=True:=eq_true (by omega)
 refine zP (tbl:=zAj) zBj 0 3 (af:=a14) rfl ?_
 rw[a14,b14,zW]
 refine⟨by simp,?_⟩
 simp -implicitDefEqProofs [qK,zAj,zZ,zEc,zCp,forms46,a46,b46,forms52,a52,b52,forms51,a51,b51,z1,z2,z3,gt,gg,jA,ha,zJ,zR,zH,zX,hf,hdp,e1,e2,e3]
 obtain⟨q4,hq⟩:=zAa th
 rcases qL hth with rfl|rfl|rfl|rfl<;> (refine zA [.pack (GD.tatt a) 5 [10,11],.pack (GD.teng s) 0 (1::2::3::4::p4 5 q4)] [0] ?_ ?_ ?_<;> simp[hq,p4,zX,qG,qC,tps,zJ,zR,hf,ha,zH,hdp,u1,u2,u3])
theorem qQx (s:TS) (hs:s.Ok) (th:Nat) (hth:th<4) (a:TA) (ha:s.ts th=some a) (hf:a.ra.k=0) (t v:Int) (hd:a.fs.length≥5):zD Tryz.prog cfg 14 [.pointer (some ⟨0,0,none⟩),.int .i64 th,.agg #[.int .u8 4,.int .i64 t,.int .u64 v]] (AH.of [some (.hi (.teng s))])
  fun r H'=> r=.ret (.int .i64 0)/\H'=AH.of [some (.hi (.teng (zAr s th ⟨4,t,v⟩)))]:=by
 refine zD.ends ?_
 refine zD.openTEng hth ?_
 obtain⟨z1,z2,z3,z4,gt,gg,gs⟩:=zAq hth
 obtain⟨dp,hdp⟩:∃dp,(a.fs.length:Int) - 1=dp:=⟨_,rfl⟩
 have e1:(dp=0)=False:=eq_false (by omega)
 have e2:(0<dp)=True:=eq_true (by omega)
 have e3:(4<=dp)=True:=eq_true (by omega)
 refine zP (tbl:=zAj) zBj 0 3 (af:=a14) rfl ?_
 rw[a14,b14,zW]
 refine⟨by simp,?_⟩
 simp -implicitDefEqProofs [qK,zAj,zZ,zEc,zCp,forms46,a46,b46,forms52,a52,b52,forms51,a51,b51,z1,z2,z3,gt,gg,jA,ha,zJ,zR,zH,zX,hf,hdp,e1,e2,e3]
 obtain⟨q4,hq⟩:=zAa th
 rcases qL hth with rfl|rfl|rfl|rfl<;> (refine zA [.pack (GD.tatt { a with ra:=⟨4,t,v⟩,ph:=0,nx:=0,sw:=0,sv:=0,ss:=0 }) 5 [10,11],.pack (GD.teng (zAr s q4 ⟨4,t,v⟩)) 0 (1::2::3::4::p4 5 q4)] [0] ?_ ?_ ?_<;> simp[hq,p4,zAr,qB,zX,qG,qC,tps,zJ,zR,hf,ha,zH,hdp,u1,u2,u3])
theorem qQu (s:TS) (hs:s.Ok) (th:Nat) (hth:th<4) (a:TA) (ha:s.ts th=some a) (hf:a.ra.k=0) (t v:Int) (hd:a.fs.length≥5):zD Tryz.prog cfg 14 [.pointer (some ⟨0,0,none⟩),.int .i64 th,.agg #[.int .u8 5,.int .i64 t,.int .u64 v]] (AH.of [some (.hi (.teng s))])
  fun r H'=> r=.ret (.int .i64 0)/\H'=AH.of [some (.hi (.teng (zAr s th ⟨5,t,v⟩)))]:=by
 refine zD.ends ?_
 refine zD.openTEng hth ?_
 obtain⟨z1,z2,z3,z4,gt,gg,gs⟩:=zAq hth
 obtain⟨dp,hdp⟩:∃dp,(a.fs.length:Int) - 1=dp:=⟨_,rfl⟩
 have e1:(dp=0)=False:=eq_false (by omega)
 have e2:(0<dp)=True:=eq_true (by omega)
 have e3:(4<=dp)=True:=eq_true (by omega)
 refine zP (tbl:=zAj) zBj 0 3 (af:=a14) rfl ?_
 rw[a14,b14,zW]
 refine⟨by simp,?_⟩
 simp -implicitDefEqProofs [qK,zAj,zZ,zEc,zCp,forms46,a46,b46,forms52,a52,b52,forms51,a51,b51,z1,z2,z3,gt,gg,jA,ha,zJ,zR,zH,zX,hf,hdp,e1,e2,e3]
 obtain⟨q4,hq⟩:=zAa th
 rcases qL hth with rfl|rfl|rfl|rfl<;> (refine zA [.pack (GD.tatt { a with ra:=⟨5,t,v⟩,ph:=0,nx:=0,sw:=0,sv:=0,ss:=0 }) 5 [10,11],.pack (GD.teng (zAr s q4 ⟨5,t,v⟩)) 0 (1::2::3::4::p4 5 q4)] [0] ?_ ?_ ?_<;> simp[hq,p4,zAr,qB,zX,qG,qC,tps,zJ,zR,hf,ha,zH,hdp,u1,u2,u3])
theorem qQr (s:TS) (hs:s.Ok) (th:Nat) (hth:th<4) (a:TA) (ha:s.ts th=some a) (hf:a.ra.k=0) (t v:Int) (hd:a.fs.length≥5):zD Tryz.prog cfg 14 [.pointer (some ⟨0,0,none⟩),.int .i64 th,.agg #[.int .u8 6,.int .i64 t,.int .u64 v]] (AH.of [some (.hi (.teng s))])
  fun r H'=> r=.ret (.int .i64 8)/\H'=AH.of [some (.hi (.teng s))]:=by
 refine zD.ends ?_
 refine zD.openTEng hth ?_
 obtain⟨z1,z2,z3,z4,gt,gg,gs⟩:=zAq hth
 obtain⟨dp,hdp⟩:∃dp,(a.fs.length:Int) - 1=dp:=⟨_,rfl⟩
 have e1:(dp=0)=False:=eq_false (by omega)
 have e2:(0<dp)=True:=eq_true (by omega)
 have e3:(4<=dp)=True:=eq_true (by omega)
 refine zP (tbl:=zAj) zBj 0 3 (af:=a14) rfl ?_
 rw[a14,b14,zW]
 refine⟨by simp,?_⟩
 simp -implicitDefEqProofs [qK,zAj,zZ,zEc,zCp,forms46,a46,b46,forms52,a52,b52,forms51,a51,b51,z1,z2,z3,gt,gg,jA,ha,zJ,zR,zH,zX,hf,hdp,e1,e2,e3]
 obtain⟨q4,hq⟩:=zAa th
 rcases qL hth with rfl|rfl|rfl|rfl<;> (refine zA [.pack (GD.tatt a) 5 [10,11],.pack (GD.teng s) 0 (1::2::3::4::p4 5 q4)] [0] ?_ ?_ ?_<;> simp[hq,p4,zX,qG,qC,tps,zJ,zR,hf,ha,zH,hdp,u1,u2,u3])
theorem zUc (s:TS) (th:Nat) (hth:th<4) (hb:s.ts th=none∨∃a,s.ts th=some a/\1<=a.ra.k) (x:Ak):zD Tryz.prog cfg 14 [.pointer (some ⟨0,0,none⟩),.int .i64 th,.agg #[.int .u8 x.k,.int .i64 x.t,.int .u64 x.v]] (AH.of [some (.hi (.teng s))])
  fun r H'=> r=.ret (.int .i64 (zE5 s th x))/\H'=AH.of [some (.hi (.teng s))]:=by
 refine zD.ends ?_
 refine zD.openTEng hth ?_
 obtain⟨z1,z2,z3,z4,gt,gg,gs⟩:=zAq hth
 rcases hb with ha|⟨a,ha,hk1⟩
 ·refine zP (tbl:=[]) (by simp) 0 3 (af:=a14) rfl ?_
  rw[a14,b14,zW]
  refine⟨by simp,?_⟩
  simp -implicitDefEqProofs [qK,forms46,a46,b46,z1,z2,z3,gt,gg,ha,zJ,zR]
  obtain⟨q4,hq⟩:=zAa th
  rcases qL hth with rfl|rfl|rfl|rfl<;> (refine zA [.pack (GD.teng s) 0 (1::2::3::4::p4 5 q4)] [0] ?_ ?_ ?_<;> simp[hq,p4,qG,ha,qC,tps,zJ,zR,u1,u2,u3,zE5])
 ·have hk0:¬a.ra.k=0:=by omega
  refine zP (tbl:=[]) (by simp) 0 3 (af:=a14) rfl ?_
  rw[a14,b14,zW]
  refine⟨by simp,?_⟩
  simp -implicitDefEqProofs [qK,forms46,a46,b46,forms51,a51,b51,z1,z2,z3,gt,gg,ha,zJ,zR,zH,zX,hk0]
  obtain⟨q4,hq⟩:=zAa th
  rcases qL hth with rfl|rfl|rfl|rfl<;> (refine zA [.pack (GD.tatt a) 5 [10,11],.pack (GD.teng s) 0 (1::2::3::4::p4 5 q4)] [0] ?_ ?_ ?_<;> simp[hq,p4,zX,qG,qC,tps,zJ,zR,ha,zH,u1,u2,u3,zE5,hk0])
theorem qDa (d:GD) (t:Int) (ht:t<0∨4<=t) (x:Ak):zD Tryz.prog cfg 14 [.pointer (some ⟨0,0,none⟩),.int .i64 t,.agg #[.int .u8 x.k,.int .i64 x.t,.int .u64 x.v]] (AH.of [some (.hi d)])
  fun r H'=> r=.ret (.int .i64 2)/\H'=AH.of [some (.hi d)]:=by
 refine zD.ends ?_
 have ht':¬t<0->4<=t:=fun h=> by omega
 refine zP (tbl:=[]) (by simp) 0 3 (af:=a14) rfl ?_
 rw[a14,b14,zW]
 refine⟨by simp,?_⟩
 by_cases h1:t<0
 ·simp -implicitDefEqProofs [forms46,a46,b46,h1]
  refine zA [] [0] ?_ ?_ ?_<;> simp
 ·simp -implicitDefEqProofs [forms46,a46,b46,h1,ht' h1]
  refine zA [] [0] ?_ ?_ ?_<;> simp
end YtapbabkndhaemaaGreat
end Go.Proofs
/-
 TL2:Step. (Printed by tools/genstep_t.py.)
-/
namespace Go.Proofs
namespace YtapbabkndhaemaaGreat
open Go.Abs
theorem qGh {n:Nat} (h:n<=100000):(n+1+1)*32<=140737488355328/\n+1<=9223372036854775806:=⟨by omega,Nat.le_trans (Nat.succ_le_succ h) (by decide)⟩
theorem zAo {n:Nat} (h:n<=100000):(n+1)*32<=140737488355328/\n<=9223372036854775806:=⟨by omega,Nat.le_trans h (by decide)⟩
theorem qGf (d e:Ev):evs [d,e]=[.int .u8 d.k,.int .i64 d.a,.int .i64 d.t,.int .u64 d.v,.int .u8 e.k,.int .i64 e.a,.int .i64 e.t,.int .u64 e.v]:=rfl
theorem qC3 (l:List Ev) (n:Nat):(evs l++([.int .u8 7,.int .i64 n,.int .i64 0,.int .u64 0]:List Value)).take ((l.length+1)*4)=evs l++([.int .u8 7,.int .i64 n,.int .i64 0,.int .u64 0]:List Value):=by
 refine List.take_of_length_le ?_
 rw[List.length_append,jM]
 simp only[List.length_cons,List.length_nil]
 omega
theorem zRa {l:List Ent} {i:Nat} {e:Ent} (h:l[i]?=some e):(zD2 l)[i*3]?=some (.int .i64 e.t)/\(zD2 l)[i*3+1]?=some (.int .u64 e.v):=by
 have h3:=qH4 h
 have g:∀j,j<3->(zD2 l)[i*3+j]?=e.cells[j]?:=fun j hj=> by
  rw[←h3,List.getElem?_take,if_pos hj,List.getElem?_drop]
 exact⟨g 0 (by omega),g 1 (by omega)⟩
def jU:List (FuncId × qH GD):=[(103,zEu),(102,zF2),(206,zF1),(152,zG4),(113,zHs),(58,zK0),(209,zVw),(156,zRv),(210,zRs),(239,zMo),(104,qP2),(208,zO8),
 (98,zS4),(153,zRw),(112,zZ zHj),(55,zMp),(158,zZ d158),(159,zZ d159),(160,zZ d160),(161,zZ zZe)]
theorem zAe:∀x∈jU,zY Tryz.prog cfg x.1 x.2:=by simp[jU,zXo,qL6,qLe,qLw,qL3,zS7,qLc,qLu,qLb,qAe,qL5,qLd,qRe,qLv,zXn,qBv,qLt,qLs,qLr,qLq]
theorem qJ8 (s:TS) (hs:s.Ok) (hev:s.ev.length<=100000) (th:Nat) (hth:th<4) (a:TA) (ha:s.ts th=some a) (hk1:a.ra.k=1) (v:Int) (hv:qQ a.fs a.ra.t=some v):zD Tryz.prog cfg 15 [.pointer (some ⟨0,0,none⟩),.int .i64 th] (AH.of [some (.hi (.teng s))])
  fun r H'=> r=.ret (xM v).v/\H'=AH.of [some (.hi (.teng (zCl s th (a) v)))]:=by
 refine zD.ends ?_
 generalize hS:((zCl s th (a) v):TS)=S'
 refine zD.openTEng hth ?_
 obtain⟨z1,z2,z3,z4,gt,gg,gs⟩:=zAq hth
 have hok:=hs.ts th a ha
 have hg:=hs.tab
 have hel:=zAo hev
 have t3:=zAf s.ev
 have hgl:=hok.fs
 have hra:=hok.ask.2.2.1 (.inl hk1)
 have w01:IntKind.i64.wrap (0+1)=1:=by decide
 have w1:IntKind.i64.wrap 1=1:=by decide
 have w11:IntKind.i64.wrap (1+1)=2:=by decide
 have w2:IntKind.i64.wrap 2=2:=by decide
 have w21:IntKind.i64.wrap (2+1)=3:=by decide
 have w3:IntKind.i64.wrap 3=3:=by decide
 refine zP (tbl:=jU) zAe 0 5 (af:=a15) rfl ?_
 rw[a15,b15,zW]
 refine⟨by simp,?_⟩
 simp -implicitDefEqProofs [qK,jU,zZ,qE,forms46,a46,b46,forms50,a50,b50,forms53,a53,b53,forms56,a56,b56,forms157,a157,b157,forms109,a109,b109,forms110,a110,b110,forms150,a150,b150,forms151,a151,b151,forms108,a108,b108,forms111,a111,b111,forms155,a155,b155,forms51,a51,b51,forms162,a162,b162,z1,z2,z3,z4,gt,gg,gs,xQ,jA,xP,xK,jX,xC,xB,xA,xU,xT,jI,ha,zJ,zR,zH,zX,hg,hel,t3,jM,zEu,zF2,zF1,zG4,zHj,zAl,hk1,hgl,hv,w01,w1,w11,w2,w21,w3]
 subst hS
 obtain⟨q4,hq⟩:=zAa th
 rcases qL hth with rfl|rfl|rfl|rfl<;> (refine zA [.pack (GD.tatt { (a) with ra:=⟨0,0,0⟩ }) 5 [10,11],.pack (GD.teng (zCl s q4 (a) v)) 0 (1::2::16::4::p4 5 q4)] [0] ?_ ?_ ?_<;> simp[hq,p4,zX,qG,qC,tps,zJ,zR,qB,ha,zH,jF,u1,u2,u3,Rp.v,Rp.cells,jB,zA5,xM,xR,zAz,jS,jR,xZ,xL,xF,zCl])
theorem qF1 (s:TS) (hs:s.Ok) (hev:s.ev.length<=100000) (th:Nat) (hth:th<4) (a:TA) (ha:s.ts th=some a) (hk1:a.ra.k=1) (hv:qQ a.fs a.ra.t=none) (st:Int) (hst:ofT s.ws a.ra.t=st) (hss:a.ss=0) (o:Int) (hB:zDi s.ws st=true) (hO:zDh s.ws st=o) (hne:¬o=(th:Int)):zD Tryz.prog cfg 15 [.pointer (some ⟨0,0,none⟩),.int .i64 th] (AH.of [some (.hi (.teng s))])
  fun r H'=> r=.ret (zAz o).v/\H'=AH.of [some (.hi (.teng (s)))]:=by
 refine zD.ends ?_
 refine zD.openTEng hth ?_
 obtain⟨z1,z2,z3,z4,gt,gg,gs⟩:=zAq hth
 have hok:=hs.ts th a ha
 have hg:=hs.tab
 have hel:=zAo hev
 have t3:=zAf s.ev
 have hgl:=hok.fs
 have hra:=hok.ask.2.2.1 (.inl hk1)
 have w01:IntKind.i64.wrap (0+1)=1:=by decide
 have w1:IntKind.i64.wrap 1=1:=by decide
 have w11:IntKind.i64.wrap (1+1)=2:=by decide
 have w2:IntKind.i64.wrap 2=2:=by decide
 have w21:IntKind.i64.wrap (2+1)=3:=by decide
 have w3:IntKind.i64.wrap 3=3:=by decide
 refine zP (tbl:=jU) zAe 0 5 (af:=a15) rfl ?_
 rw[a15,b15,zW]
 refine⟨by simp,?_⟩
 simp -implicitDefEqProofs [qK,jU,zZ,qE,forms46,a46,b46,forms50,a50,b50,forms53,a53,b53,forms56,a56,b56,forms157,a157,b157,forms109,a109,b109,forms110,a110,b110,forms150,a150,b150,forms151,a151,b151,forms108,a108,b108,forms111,a111,b111,forms155,a155,b155,forms51,a51,b51,forms162,a162,b162,z1,z2,z3,z4,gt,gg,gs,xQ,jA,xP,xK,jX,xC,xB,xA,xU,xT,jI,ha,zJ,zR,zH,zX,hg,hel,t3,jM,zEu,zF2,zF1,zG4,zHj,zAl,hk1,hgl,hv,w01,w1,w11,w2,w21,w3,hst,hss,hB,hO,hne]
 obtain⟨q4,hq⟩:=zAa th
 rcases qL hth with rfl|rfl|rfl|rfl<;> (refine zA [.pack (GD.tatt a) 5 [10,11],.pack (GD.teng s) 0 (1::2::3::4::p4 5 q4)] [0] ?_ ?_ ?_<;> simp[hq,p4,zX,qG,qC,tps,zJ,zR,qB,ha,zH,jF,u1,u2,u3,Rp.v,Rp.cells,jB,zA5,xM,xR,zAz,jS,jR,xZ,xL,xF,hss,hk1])
theorem qFz (s:TS) (hs:s.Ok) (hev:s.ev.length<=100000) (th:Nat) (hth:th<4) (a:TA) (ha:s.ts th=some a) (hk1:a.ra.k=1) (hv:qQ a.fs a.ra.t=none) (st:Int) (hst:ofT s.ws a.ra.t=st) (hss:a.ss=0) (hB:zDi s.ws st=false) (ver:Int) (hV:zAu s.ws st=ver) (hlt:¬a.rv<ver) (w:Int) (hw:zBl s.ws st=w):zD Tryz.prog cfg 15 [.pointer (some ⟨0,0,none⟩),.int .i64 th] (AH.of [some (.hi (.teng s))])
  fun r H'=> r=.ret (jB).v/\H'=AH.of [some (.hi (.teng ({ s with ts:=qB s.ts th (some { a with ss:=1,sw:=w }) })))]:=by
 refine zD.ends ?_
 generalize hS:(({ s with ts:=qB s.ts th (some { a with ss:=1,sw:=w }) }):TS)=S'
 refine zD.openTEng hth ?_
 obtain⟨z1,z2,z3,z4,gt,gg,gs⟩:=zAq hth
 have hok:=hs.ts th a ha
 have hg:=hs.tab
 have hel:=zAo hev
 have t3:=zAf s.ev
 have hgl:=hok.fs
 have hra:=hok.ask.2.2.1 (.inl hk1)
 have w01:IntKind.i64.wrap (0+1)=1:=by decide
 have w1:IntKind.i64.wrap 1=1:=by decide
 have w11:IntKind.i64.wrap (1+1)=2:=by decide
 have w2:IntKind.i64.wrap 2=2:=by decide
 have w21:IntKind.i64.wrap (2+1)=3:=by decide
 have w3:IntKind.i64.wrap 3=3:=by decide
 refine zP (tbl:=jU) zAe 0 5 (af:=a15) rfl ?_
 rw[a15,b15,zW]
 refine⟨by simp,?_⟩
 simp -implicitDefEqProofs [qK,jU,zZ,qE,forms46,a46,b46,forms50,a50,b50,forms53,a53,b53,forms56,a56,b56,forms157,a157,b157,forms109,a109,b109,forms110,a110,b110,forms150,a150,b150,forms151,a151,b151,forms108,a108,b108,forms111,a111,b111,forms155,a155,b155,forms51,a51,b51,forms162,a162,b162,z1,z2,z3,z4,gt,gg,gs,xQ,jA,xP,xK,jX,xC,xB,xA,xU,xT,jI,ha,zJ,zR,zH,zX,hg,hel,t3,jM,zEu,zF2,zF1,zG4,zHj,zAl,hk1,hgl,hv,w01,w1,w11,w2,w21,w3,hst,hss,hB,hV,hlt,hw]
 subst hS
 obtain⟨q4,hq⟩:=zAa th
 rcases qL hth with rfl|rfl|rfl|rfl<;> (refine zA [.pack (GD.tatt { a with ss:=1,sw:=w }) 5 [10,11],.pack (GD.teng ({ s with ts:=qB s.ts q4 (some { a with ss:=1,sw:=w }) })) 0 (1::2::3::4::p4 5 q4)] [0] ?_ ?_ ?_<;> simp[hq,p4,zX,qG,qC,tps,zJ,zR,qB,ha,zH,jF,u1,u2,u3,Rp.v,Rp.cells,jB,zA5,xM,xR,zAz,jS,jR,xZ,xL,xF,hk1])
theorem qC4 (s:TS) (hs:s.Ok) (hev:s.ev.length<=100000) (th:Nat) (hth:th<4) (a:TA) (ha:s.ts th=some a) (hk1:a.ra.k=1) (hv:qQ a.fs a.ra.t=none) (st:Int) (hst:ofT s.ws a.ra.t=st) (hss:a.ss=0) (hB:zDi s.ws st=true) (hO:zDh s.ws st=(th:Int)) (ver:Int) (hV:zAu s.ws st=ver) (hlt:¬a.rv<ver) (w:Int) (hw:zBl s.ws st=w):zD Tryz.prog cfg 15 [.pointer (some ⟨0,0,none⟩),.int .i64 th] (AH.of [some (.hi (.teng s))])
  fun r H'=> r=.ret (jB).v/\H'=AH.of [some (.hi (.teng ({ s with ts:=qB s.ts th (some { a with ss:=1,sw:=w }) })))]:=by
 refine zD.ends ?_
 generalize hS:(({ s with ts:=qB s.ts th (some { a with ss:=1,sw:=w }) }):TS)=S'
 refine zD.openTEng hth ?_
 obtain⟨z1,z2,z3,z4,gt,gg,gs⟩:=zAq hth
 have hok:=hs.ts th a ha
 have hg:=hs.tab
 have hel:=zAo hev
 have t3:=zAf s.ev
 have hgl:=hok.fs
 have hra:=hok.ask.2.2.1 (.inl hk1)
 have w01:IntKind.i64.wrap (0+1)=1:=by decide
 have w1:IntKind.i64.wrap 1=1:=by decide
 have w11:IntKind.i64.wrap (1+1)=2:=by decide
 have w2:IntKind.i64.wrap 2=2:=by decide
 have w21:IntKind.i64.wrap (2+1)=3:=by decide
 have w3:IntKind.i64.wrap 3=3:=by decide
 refine zP (tbl:=jU) zAe 0 5 (af:=a15) rfl ?_
 rw[a15,b15,zW]
 refine⟨by simp,?_⟩
 simp -implicitDefEqProofs [qK,jU,zZ,qE,forms46,a46,b46,forms50,a50,b50,forms53,a53,b53,forms56,a56,b56,forms157,a157,b157,forms109,a109,b109,forms110,a110,b110,forms150,a150,b150,forms151,a151,b151,forms108,a108,b108,forms111,a111,b111,forms155,a155,b155,forms51,a51,b51,forms162,a162,b162,z1,z2,z3,z4,gt,gg,gs,xQ,jA,xP,xK,jX,xC,xB,xA,xU,xT,jI,ha,zJ,zR,zH,zX,hg,hel,t3,jM,zEu,zF2,zF1,zG4,zHj,zAl,hk1,hgl,hv,w01,w1,w11,w2,w21,w3,hst,hss,hB,hV,hO,hlt,hw]
 subst hS
 obtain⟨q4,hq⟩:=zAa th
 rcases qL hth with rfl|rfl|rfl|rfl<;> (refine zA [.pack (GD.tatt { a with ss:=1,sw:=w }) 5 [10,11],.pack (GD.teng ({ s with ts:=qB s.ts q4 (some { a with ss:=1,sw:=w }) })) 0 (1::2::3::4::p4 5 q4)] [0] ?_ ?_ ?_<;> simp[hq,p4,zX,qG,qC,tps,zJ,zR,qB,ha,zH,jF,u1,u2,u3,Rp.v,Rp.cells,jB,zA5,xM,xR,zAz,jS,jR,xZ,xL,xF,hk1])
theorem qJ9 (s:TS) (hs:s.Ok) (hev:s.ev.length<=100000) (th:Nat) (hth:th<4) (a:TA) (ha:s.ts th=some a) (hk1:a.ra.k=1) (hv:qQ a.fs a.ra.t=none) (st:Int) (hst:ofT s.ws a.ra.t=st) (hss:a.ss=1) (y:Int) (hy:s.hp[a.ra.t.toNat]?=some y):zD Tryz.prog cfg 15 [.pointer (some ⟨0,0,none⟩),.int .i64 th] (AH.of [some (.hi (.teng s))])
  fun r H'=> r=.ret (jB).v/\H'=AH.of [some (.hi (.teng ({ s with ts:=qB s.ts th (some { a with ss:=2,sv:=y }) })))]:=by
 refine zD.ends ?_
 generalize hS:(({ s with ts:=qB s.ts th (some { a with ss:=2,sv:=y }) }):TS)=S'
 refine zD.openTEng hth ?_
 obtain⟨z1,z2,z3,z4,gt,gg,gs⟩:=zAq hth
 have hok:=hs.ts th a ha
 have hg:=hs.tab
 have hel:=zAo hev
 have t3:=zAf s.ev
 have hgl:=hok.fs
 have hra:=hok.ask.2.2.1 (.inl hk1)
 have w01:IntKind.i64.wrap (0+1)=1:=by decide
 have w1:IntKind.i64.wrap 1=1:=by decide
 have w11:IntKind.i64.wrap (1+1)=2:=by decide
 have w2:IntKind.i64.wrap 2=2:=by decide
 have w21:IntKind.i64.wrap (2+1)=3:=by decide
 have w3:IntKind.i64.wrap 3=3:=by decide
 have uy:=zEt hy
 refine zP (tbl:=jU) zAe 0 5 (af:=a15) rfl ?_
 rw[a15,b15,zW]
 refine⟨by simp,?_⟩
 simp -implicitDefEqProofs [qK,jU,zZ,qE,forms46,a46,b46,forms50,a50,b50,forms53,a53,b53,forms56,a56,b56,forms157,a157,b157,forms109,a109,b109,forms110,a110,b110,forms150,a150,b150,forms151,a151,b151,forms108,a108,b108,forms111,a111,b111,forms155,a155,b155,forms51,a51,b51,forms162,a162,b162,z1,z2,z3,z4,gt,gg,gs,xQ,jA,xP,xK,jX,xC,xB,xA,xU,xT,jI,ha,zJ,zR,zH,zX,hg,hel,t3,jM,zEu,zF2,zF1,zG4,zHj,zAl,hk1,hgl,hv,w01,w1,w11,w2,w21,w3,hst,hss,hra,uy]
 subst hS
 obtain⟨q4,hq⟩:=zAa th
 rcases qL hth with rfl|rfl|rfl|rfl<;> (refine zA [.pack (GD.tatt { a with ss:=2,sv:=y }) 5 [10,11],.pack (GD.teng ({ s with ts:=qB s.ts q4 (some { a with ss:=2,sv:=y }) })) 0 (1::2::3::4::p4 5 q4)] [0] ?_ ?_ ?_<;> simp[hq,p4,zX,qG,qC,tps,zJ,zR,qB,ha,zH,jF,u1,u2,u3,Rp.v,Rp.cells,jB,zA5,xM,xR,zAz,jS,jR,xZ,xL,xF,hk1])
theorem qFx (s:TS) (hs:s.Ok) (hev:s.ev.length<=100000) (th:Nat) (hth:th<4) (a:TA) (ha:s.ts th=some a) (hk1:a.ra.k=1) (hv:qQ a.fs a.ra.t=none) (st:Int) (hst:ofT s.ws a.ra.t=st) (hss:a.ss=2) (hw:zBl s.ws st=a.sw) (ver:Int) (hV:zAu s.ws st=ver) (hA:zCe a.es ⟨a.ra.t,a.sv,ver⟩=0):zD Tryz.prog cfg 15 [.pointer (some ⟨0,0,none⟩),.int .i64 th] (AH.of [some (.hi (.teng s))])
  fun r H'=> r=.ret (xM a.sv).v/\H'=AH.of [some (.hi (.teng (zCl s th ({ a with ss:=3,es:=zDy a.es ⟨a.ra.t,a.sv,ver⟩ }) a.sv)))]:=by
 refine zD.ends ?_
 generalize hS:((zCl s th ({ a with ss:=3,es:=zDy a.es ⟨a.ra.t,a.sv,ver⟩ }) a.sv):TS)=S'
 refine zD.openTEng hth ?_
 obtain⟨z1,z2,z3,z4,gt,gg,gs⟩:=zAq hth
 have hok:=hs.ts th a ha
 have hg:=hs.tab
 have hel:=zAo hev
 have t3:=zAf s.ev
 have hgl:=hok.fs
 have hra:=hok.ask.2.2.1 (.inl hk1)
 have w01:IntKind.i64.wrap (0+1)=1:=by decide
 have w1:IntKind.i64.wrap 1=1:=by decide
 have w11:IntKind.i64.wrap (1+1)=2:=by decide
 have w2:IntKind.i64.wrap 2=2:=by decide
 have w21:IntKind.i64.wrap (2+1)=3:=by decide
 have w3:IntKind.i64.wrap 3=3:=by decide
 have hgu:=hok.es.uniq
 refine zP (tbl:=jU) zAe 0 5 (af:=a15) rfl ?_
 rw[a15,b15,zW]
 refine⟨by simp,?_⟩
 simp -implicitDefEqProofs [qK,jU,zZ,qE,forms46,a46,b46,forms50,a50,b50,forms53,a53,b53,forms56,a56,b56,forms157,a157,b157,forms109,a109,b109,forms110,a110,b110,forms150,a150,b150,forms151,a151,b151,forms108,a108,b108,forms111,a111,b111,forms155,a155,b155,forms51,a51,b51,forms162,a162,b162,z1,z2,z3,z4,gt,gg,gs,xQ,jA,xP,xK,jX,xC,xB,xA,xU,xT,jI,ha,zJ,zR,zH,zX,hg,hel,t3,jM,zEu,zF2,zF1,zG4,zHj,zAl,hk1,hgl,hv,w01,w1,w11,w2,w21,w3,zRw,hst,hss,hw,hV,hgu,hA]
 subst hS
 obtain⟨q4,hq⟩:=zAa th
 rcases qL hth with rfl|rfl|rfl|rfl<;> (refine zA [.pack (GD.tatt { ({ a with ss:=3,es:=zDy a.es ⟨a.ra.t,a.sv,ver⟩ }) with ra:=⟨0,0,0⟩ }) 5 [10,11],.pack (GD.teng (zCl s q4 ({ a with ss:=3,es:=zDy a.es ⟨a.ra.t,a.sv,ver⟩ }) a.sv)) 0 (1::2::16::4::p4 5 q4)] [0] ?_ ?_ ?_<;> simp[hq,p4,zX,qG,qC,tps,zJ,zR,qB,ha,zH,jF,u1,u2,u3,Rp.v,Rp.cells,jB,zA5,xM,xR,zAz,jS,jR,xZ,xL,xF,zCl])
end YtapbabkndhaemaaGreat
end Go.Proofs
/-
 TL2:Step. (Printed by tools/genstep_t.py.)
-/
namespace Go.Proofs
namespace YtapbabkndhaemaaGreat
open Go.Abs
theorem qF0 (s:TS) (hs:s.Ok) (hev:s.ev.length<=100000) (th:Nat) (hth:th<4) (a:TA) (ha:s.ts th=some a) (hk1:a.ra.k=1) (hv:qQ a.fs a.ra.t=none) (st:Int) (hst:ofT s.ws a.ra.t=st) (hss:a.ss=0) (hB:zDi s.ws st=false) (ver:Int) (hV:zAu s.ws st=ver) (hlt:a.rv<ver) (W:List Int) (hW:zDc s.ws th=W):zD Tryz.prog cfg 15 [.pointer (some ⟨0,0,none⟩),.int .i64 th] (AH.of [some (.hi (.teng s))])
  fun r H'=> r=.ret (xR 1).v/\H'=AH.of [some (.hi (.teng ({ ws:=W,c:=s.c,hp:=s.hp,ts:=qB s.ts th none,ev:=s.ev++[⟨9,a.n,0,0⟩],ft:=zCn s.ft a.n 1 })))]:=by
 refine zD.ends ?_
 generalize hS:(({ ws:=W,c:=s.c,hp:=s.hp,ts:=qB s.ts th none,ev:=s.ev++[⟨9,a.n,0,0⟩],ft:=zCn s.ft a.n 1 }):TS)=S'
 refine zD.openTEng hth ?_
 obtain⟨z1,z2,z3,z4,gt,gg,gs⟩:=zAq hth
 have hok:=hs.ts th a ha
 have hg:=hs.tab
 have hel:=zAo hev
 have t3:=zAf s.ev
 have hgl:=hok.fs
 have hra:=hok.ask.2.2.1 (.inl hk1)
 have w01:IntKind.i64.wrap (0+1)=1:=by decide
 have w1:IntKind.i64.wrap 1=1:=by decide
 have w11:IntKind.i64.wrap (1+1)=2:=by decide
 have w2:IntKind.i64.wrap 2=2:=by decide
 have w21:IntKind.i64.wrap (2+1)=3:=by decide
 have w3:IntKind.i64.wrap 3=3:=by decide
 have hn1:=hok.n
 have hn2:(a.n:Int)<s.ft.length:=by omega
 have hn3:a.n*3+2+1<=s.ft.length*3:=by omega
 have hfw:=zEm 1 hok.n
 refine zP (tbl:=jU) zAe 0 5 (af:=a15) rfl ?_
 rw[a15,b15,zW]
 refine⟨by simp,?_⟩
 simp -implicitDefEqProofs [qK,jU,zZ,qE,forms46,a46,b46,forms50,a50,b50,forms53,a53,b53,forms56,a56,b56,forms157,a157,b157,forms109,a109,b109,forms110,a110,b110,forms150,a150,b150,forms151,a151,b151,forms108,a108,b108,forms111,a111,b111,forms155,a155,b155,forms51,a51,b51,forms162,a162,b162,z1,z2,z3,z4,gt,gg,gs,xQ,jA,xP,xK,jX,xC,xB,xA,xU,xT,jI,ha,zJ,zR,zH,zX,hg,hel,t3,jM,zEu,zF2,zF1,zG4,zHj,zAl,hk1,hgl,hv,w01,w1,w11,w2,w21,w3,hst,hss,hB,hV,hlt,zHs,hW,hn1,hn2,hn3,hfw,zBn]
 subst hS
 obtain⟨q4,hq⟩:=zAa th
 rcases qL hth with rfl|rfl|rfl|rfl<;> (refine zA [.nil 98,.pack (GD.teng ({ ws:=W,c:=s.c,hp:=s.hp,ts:=qB s.ts q4 none,ev:=s.ev++[⟨9,a.n,0,0⟩],ft:=zCn s.ft a.n 1 })) 0 (1::2::18::4::p4 19 q4)] [0] ?_ ?_ ?_<;> simp[hq,p4,zX,qG,qC,tps,zJ,zR,qB,ha,zH,jF,u1,u2,u3,Rp.v,Rp.cells,jB,zA5,xM,xR,zAz,jS,jR,xZ,xL,xF])
theorem qC5 (s:TS) (hs:s.Ok) (hev:s.ev.length<=100000) (th:Nat) (hth:th<4) (a:TA) (ha:s.ts th=some a) (hk1:a.ra.k=1) (hv:qQ a.fs a.ra.t=none) (st:Int) (hst:ofT s.ws a.ra.t=st) (hss:a.ss=0) (hB:zDi s.ws st=true) (hO:zDh s.ws st=(th:Int)) (ver:Int) (hV:zAu s.ws st=ver) (hlt:a.rv<ver) (W:List Int) (hW:zDc s.ws th=W):zD Tryz.prog cfg 15 [.pointer (some ⟨0,0,none⟩),.int .i64 th] (AH.of [some (.hi (.teng s))])
  fun r H'=> r=.ret (xR 1).v/\H'=AH.of [some (.hi (.teng ({ ws:=W,c:=s.c,hp:=s.hp,ts:=qB s.ts th none,ev:=s.ev++[⟨9,a.n,0,0⟩],ft:=zCn s.ft a.n 1 })))]:=by
 refine zD.ends ?_
 generalize hS:(({ ws:=W,c:=s.c,hp:=s.hp,ts:=qB s.ts th none,ev:=s.ev++[⟨9,a.n,0,0⟩],ft:=zCn s.ft a.n 1 }):TS)=S'
 refine zD.openTEng hth ?_
 obtain⟨z1,z2,z3,z4,gt,gg,gs⟩:=zAq hth
 have hok:=hs.ts th a ha
 have hg:=hs.tab
 have hel:=zAo hev
 have t3:=zAf s.ev
 have hgl:=hok.fs
 have hra:=hok.ask.2.2.1 (.inl hk1)
 have w01:IntKind.i64.wrap (0+1)=1:=by decide
 have w1:IntKind.i64.wrap 1=1:=by decide
 have w11:IntKind.i64.wrap (1+1)=2:=by decide
 have w2:IntKind.i64.wrap 2=2:=by decide
 have w21:IntKind.i64.wrap (2+1)=3:=by decide
 have w3:IntKind.i64.wrap 3=3:=by decide
 have hn1:=hok.n
 have hn2:(a.n:Int)<s.ft.length:=by omega
 have hn3:a.n*3+2+1<=s.ft.length*3:=by omega
 have hfw:=zEm 1 hok.n
 refine zP (tbl:=jU) zAe 0 5 (af:=a15) rfl ?_
 rw[a15,b15,zW]
 refine⟨by simp,?_⟩
 simp -implicitDefEqProofs [qK,jU,zZ,qE,forms46,a46,b46,forms50,a50,b50,forms53,a53,b53,forms56,a56,b56,forms157,a157,b157,forms109,a109,b109,forms110,a110,b110,forms150,a150,b150,forms151,a151,b151,forms108,a108,b108,forms111,a111,b111,forms155,a155,b155,forms51,a51,b51,forms162,a162,b162,z1,z2,z3,z4,gt,gg,gs,xQ,jA,xP,xK,jX,xC,xB,xA,xU,xT,jI,ha,zJ,zR,zH,zX,hg,hel,t3,jM,zEu,zF2,zF1,zG4,zHj,zAl,hk1,hgl,hv,w01,w1,w11,w2,w21,w3,hst,hss,hB,hV,hO,hlt,zHs,hW,hn1,hn2,hn3,hfw,zBn]
 subst hS
 obtain⟨q4,hq⟩:=zAa th
 rcases qL hth with rfl|rfl|rfl|rfl<;> (refine zA [.nil 98,.pack (GD.teng ({ ws:=W,c:=s.c,hp:=s.hp,ts:=qB s.ts q4 none,ev:=s.ev++[⟨9,a.n,0,0⟩],ft:=zCn s.ft a.n 1 })) 0 (1::2::18::4::p4 19 q4)] [0] ?_ ?_ ?_<;> simp[hq,p4,zX,qG,qC,tps,zJ,zR,qB,ha,zH,jF,u1,u2,u3,Rp.v,Rp.cells,jB,zA5,xM,xR,zAz,jS,jR,xZ,xL,xF])
theorem qFw (s:TS) (hs:s.Ok) (hev:s.ev.length<=100000) (th:Nat) (hth:th<4) (a:TA) (ha:s.ts th=some a) (hk1:a.ra.k=1) (hv:qQ a.fs a.ra.t=none) (st:Int) (hst:ofT s.ws a.ra.t=st) (hss:a.ss=2) (w:Int) (hw:zBl s.ws st=w) (hne:¬w=a.sw) (W:List Int) (hW:zDc s.ws th=W):zD Tryz.prog cfg 15 [.pointer (some ⟨0,0,none⟩),.int .i64 th] (AH.of [some (.hi (.teng s))])
  fun r H'=> r=.ret (xR 1).v/\H'=AH.of [some (.hi (.teng ({ ws:=W,c:=s.c,hp:=s.hp,ts:=qB s.ts th none,ev:=s.ev++[⟨9,a.n,0,0⟩],ft:=zCn s.ft a.n 1 })))]:=by
 refine zD.ends ?_
 generalize hS:(({ ws:=W,c:=s.c,hp:=s.hp,ts:=qB s.ts th none,ev:=s.ev++[⟨9,a.n,0,0⟩],ft:=zCn s.ft a.n 1 }):TS)=S'
 refine zD.openTEng hth ?_
 obtain⟨z1,z2,z3,z4,gt,gg,gs⟩:=zAq hth
 have hok:=hs.ts th a ha
 have hg:=hs.tab
 have hel:=zAo hev
 have t3:=zAf s.ev
 have hgl:=hok.fs
 have hra:=hok.ask.2.2.1 (.inl hk1)
 have w01:IntKind.i64.wrap (0+1)=1:=by decide
 have w1:IntKind.i64.wrap 1=1:=by decide
 have w11:IntKind.i64.wrap (1+1)=2:=by decide
 have w2:IntKind.i64.wrap 2=2:=by decide
 have w21:IntKind.i64.wrap (2+1)=3:=by decide
 have w3:IntKind.i64.wrap 3=3:=by decide
 have hn1:=hok.n
 have hn2:(a.n:Int)<s.ft.length:=by omega
 have hn3:a.n*3+2+1<=s.ft.length*3:=by omega
 have hfw:=zEm 1 hok.n
 refine zP (tbl:=jU) zAe 0 5 (af:=a15) rfl ?_
 rw[a15,b15,zW]
 refine⟨by simp,?_⟩
 simp -implicitDefEqProofs [qK,jU,zZ,qE,forms46,a46,b46,forms50,a50,b50,forms53,a53,b53,forms56,a56,b56,forms157,a157,b157,forms109,a109,b109,forms110,a110,b110,forms150,a150,b150,forms151,a151,b151,forms108,a108,b108,forms111,a111,b111,forms155,a155,b155,forms51,a51,b51,forms162,a162,b162,z1,z2,z3,z4,gt,gg,gs,xQ,jA,xP,xK,jX,xC,xB,xA,xU,xT,jI,ha,zJ,zR,zH,zX,hg,hel,t3,jM,zEu,zF2,zF1,zG4,zHj,zAl,hk1,hgl,hv,w01,w1,w11,w2,w21,w3,hst,hss,hw,hne,zHs,hW,hn1,hn2,hn3,hfw,zBn]
 subst hS
 obtain⟨q4,hq⟩:=zAa th
 rcases qL hth with rfl|rfl|rfl|rfl<;> (refine zA [.nil 98,.pack (GD.teng ({ ws:=W,c:=s.c,hp:=s.hp,ts:=qB s.ts q4 none,ev:=s.ev++[⟨9,a.n,0,0⟩],ft:=zCn s.ft a.n 1 })) 0 (1::2::16::4::p4 17 q4)] [0] ?_ ?_ ?_<;> simp[hq,p4,zX,qG,qC,tps,zJ,zR,qB,ha,zH,jF,u1,u2,u3,Rp.v,Rp.cells,jB,zA5,xM,xR,zAz,jS,jR,xZ,xL,xF])
theorem qFy (s:TS) (hs:s.Ok) (hev:s.ev.length<=100000) (th:Nat) (hth:th<4) (a:TA) (ha:s.ts th=some a) (hk1:a.ra.k=1) (hv:qQ a.fs a.ra.t=none) (st:Int) (hst:ofT s.ws a.ra.t=st) (hss:a.ss=2) (hw:zBl s.ws st=a.sw) (ver:Int) (hV:zAu s.ws st=ver) (hA:¬zCe a.es ⟨a.ra.t,a.sv,ver⟩=0) (W:List Int) (hW:zDc s.ws th=W):zD Tryz.prog cfg 15 [.pointer (some ⟨0,0,none⟩),.int .i64 th] (AH.of [some (.hi (.teng s))])
  fun r H'=> r=.ret (xR 2).v/\H'=AH.of [some (.hi (.teng ({ ws:=W,c:=s.c,hp:=s.hp,ts:=qB s.ts th none,ev:=s.ev++[⟨9,a.n,0,0⟩],ft:=zCn s.ft a.n 2 })))]:=by
 refine zD.ends ?_
 generalize hS:(({ ws:=W,c:=s.c,hp:=s.hp,ts:=qB s.ts th none,ev:=s.ev++[⟨9,a.n,0,0⟩],ft:=zCn s.ft a.n 2 }):TS)=S'
 refine zD.openTEng hth ?_
 obtain⟨z1,z2,z3,z4,gt,gg,gs⟩:=zAq hth
 have hok:=hs.ts th a ha
 have hg:=hs.tab
 have hel:=zAo hev
 have t3:=zAf s.ev
 have hgl:=hok.fs
 have hra:=hok.ask.2.2.1 (.inl hk1)
 have w01:IntKind.i64.wrap (0+1)=1:=by decide
 have w1:IntKind.i64.wrap 1=1:=by decide
 have w11:IntKind.i64.wrap (1+1)=2:=by decide
 have w2:IntKind.i64.wrap 2=2:=by decide
 have w21:IntKind.i64.wrap (2+1)=3:=by decide
 have w3:IntKind.i64.wrap 3=3:=by decide
 have hgu:=hok.es.uniq
 have hn1:=hok.n
 have hn2:(a.n:Int)<s.ft.length:=by omega
 have hn3:a.n*3+2+1<=s.ft.length*3:=by omega
 have hfw:=zEm 2 hok.n
 refine zP (tbl:=jU) zAe 0 5 (af:=a15) rfl ?_
 rw[a15,b15,zW]
 refine⟨by simp,?_⟩
 simp -implicitDefEqProofs [qK,jU,zZ,qE,forms46,a46,b46,forms50,a50,b50,forms53,a53,b53,forms56,a56,b56,forms157,a157,b157,forms109,a109,b109,forms110,a110,b110,forms150,a150,b150,forms151,a151,b151,forms108,a108,b108,forms111,a111,b111,forms155,a155,b155,forms51,a51,b51,forms162,a162,b162,z1,z2,z3,z4,gt,gg,gs,xQ,jA,xP,xK,jX,xC,xB,xA,xU,xT,jI,ha,zJ,zR,zH,zX,hg,hel,t3,jM,zEu,zF2,zF1,zG4,zHj,zAl,hk1,hgl,hv,w01,w1,w11,w2,w21,w3,zRw,hst,hss,hw,hV,hgu,hA,zHs,hW,hn1,hn2,hn3,hfw,zBn]
 subst hS
 obtain⟨q4,hq⟩:=zAa th
 rcases qL hth with rfl|rfl|rfl|rfl<;> (refine zA [.nil 98,.pack (GD.teng ({ ws:=W,c:=s.c,hp:=s.hp,ts:=qB s.ts q4 none,ev:=s.ev++[⟨9,a.n,0,0⟩],ft:=zCn s.ft a.n 2 })) 0 (1::2::16::4::p4 17 q4)] [0] ?_ ?_ ?_<;> simp[hq,p4,zX,qG,qC,tps,zJ,zR,qB,ha,zH,jF,u1,u2,u3,Rp.v,Rp.cells,jB,zA5,xM,xR,zAz,jS,jR,xZ,xL,xF])
theorem qKa (s:TS) (hs:s.Ok) (hev:s.ev.length<=100000) (th:Nat) (hth:th<4) (a:TA) (ha:s.ts th=some a) (hk7:a.ra.k=7) (W:List Int) (hW:zDc s.ws th=W):zD Tryz.prog cfg 15 [.pointer (some ⟨0,0,none⟩),.int .i64 th] (AH.of [some (.hi (.teng s))])
  fun r H'=> r=.ret (xR 4).v/\H'=AH.of [some (.hi (.teng ({ ws:=W,c:=s.c,hp:=s.hp,ts:=qB s.ts th none,ev:=s.ev++[⟨9,a.n,0,0⟩],ft:=zCn s.ft a.n 4 })))]:=by
 refine zD.ends ?_
 generalize hS:(({ ws:=W,c:=s.c,hp:=s.hp,ts:=qB s.ts th none,ev:=s.ev++[⟨9,a.n,0,0⟩],ft:=zCn s.ft a.n 4 }):TS)=S'
 refine zD.openTEng hth ?_
 obtain⟨z1,z2,z3,z4,gt,gg,gs⟩:=zAq hth
 have hok:=hs.ts th a ha
 have hg:=hs.tab
 have hel:=zAo hev
 have t3:=zAf s.ev
 have hn1:=hok.n
 have hn2:(a.n:Int)<s.ft.length:=by omega
 have hn3:a.n*3+2+1<=s.ft.length*3:=by omega
 have hfw:=zEm 4 hok.n
 refine zP (tbl:=jU) zAe 0 5 (af:=a15) rfl ?_
 rw[a15,b15,zW]
 refine⟨by simp,?_⟩
 simp -implicitDefEqProofs [qK,jU,zZ,qE,forms46,a46,b46,forms50,a50,b50,forms53,a53,b53,forms56,a56,b56,forms157,a157,b157,forms109,a109,b109,forms110,a110,b110,forms150,a150,b150,forms151,a151,b151,forms108,a108,b108,forms111,a111,b111,forms155,a155,b155,forms51,a51,b51,forms162,a162,b162,z1,z2,z3,z4,gt,gg,gs,xQ,jA,xP,xK,jX,xC,xB,xA,xU,xT,jI,ha,zJ,zR,zH,zX,hg,hel,t3,jM,hk7,zHs,hW,hn1,hn2,hn3,hfw,zBn]
 subst hS
 obtain⟨q4,hq⟩:=zAa th
 rcases qL hth with rfl|rfl|rfl|rfl<;> (refine zA [.nil 98,.pack (GD.teng ({ ws:=W,c:=s.c,hp:=s.hp,ts:=qB s.ts q4 none,ev:=s.ev++[⟨9,a.n,0,0⟩],ft:=zCn s.ft a.n 4 })) 0 (1::2::16::4::p4 17 q4)] [0] ?_ ?_ ?_<;> simp[hq,p4,zX,qG,qC,tps,zJ,zR,qB,ha,zH,jF,u1,u2,u3,Rp.v,Rp.cells,jB,zA5,xM,xR,zAz,jS,jR,xZ,xL,xF])
end YtapbabkndhaemaaGreat
end Go.Proofs
/-
 TL2:Step. (Printed by tools/genstep_t.py.)
-/
namespace Go.Proofs
namespace YtapbabkndhaemaaGreat
open Go.Abs
theorem qGa (s:TS) (hs:s.Ok) (hev:s.ev.length<=100000) (th:Nat) (hth:th<4) (a:TA) (ha:s.ts th=some a) (hk6:a.ra.k=6) (hph:a.ph=0) (hall:jC a.fs=[]):zD Tryz.prog cfg 15 [.pointer (some ⟨0,0,none⟩),.int .i64 th] (AH.of [some (.hi (.teng s))])
  fun r H'=> r=.ret (xR 0).v/\H'=AH.of [some (.hi (.teng ({ s with ws:=s.ws,ts:=qB s.ts th none,ev:=s.ev++[⟨7,a.n,0,0⟩]++[⟨8,a.n,0,0⟩] })))]:=by
 refine zD.ends ?_
 generalize hS:(({ s with ws:=s.ws,ts:=qB s.ts th none,ev:=s.ev++[⟨7,a.n,0,0⟩]++[⟨8,a.n,0,0⟩] }):TS)=S'
 refine zD.openTEng hth ?_
 obtain⟨z1,z2,z3,z4,gt,gg,gs⟩:=zAq hth
 have hok:=hs.ts th a ha
 have hg:=hs.tab
 have hel:=zAo hev
 have t3:=zAf s.ev
 have hgl:=hok.fs
 have hel2:=qGh hev
 have t5:=qC3 s.ev a.n
 refine zP (tbl:=jU) zAe 0 5 (af:=a15) rfl ?_
 rw[a15,b15,zW]
 refine⟨by simp,?_⟩
 simp -implicitDefEqProofs [qK,jU,zZ,qE,forms46,a46,b46,forms50,a50,b50,forms53,a53,b53,forms56,a56,b56,forms157,a157,b157,forms109,a109,b109,forms110,a110,b110,forms150,a150,b150,forms151,a151,b151,forms108,a108,b108,forms111,a111,b111,forms155,a155,b155,forms51,a51,b51,forms162,a162,b162,z1,z2,z3,z4,gt,gg,gs,xQ,jA,xP,xK,jX,xC,xB,xA,xU,xT,jI,ha,zJ,zR,zH,zX,hg,hel,t3,jM,zMp,hk6,hph,hgl,hall,hel2,t5,prs]
 refine⟨⟨by omega,by omega⟩,?_⟩
 subst hS
 obtain⟨q4,hq⟩:=zAa th
 rcases qL hth with rfl|rfl|rfl|rfl<;> (refine zA [.nil 98,.pack (GD.teng ({ s with ws:=s.ws,ts:=qB s.ts q4 none,ev:=s.ev++[⟨7,a.n,0,0⟩]++[⟨8,a.n,0,0⟩] })) 0 (1::2::20::4::p4 21 q4)] [0] ?_ ?_ ?_<;> simp[hq,p4,zX,qG,qC,tps,zJ,zR,qB,ha,zH,jF,u1,u2,u3,Rp.v,Rp.cells,jB,zA5,xM,xR,zAz,jS,jR,xZ,xL,xF,qGf])
theorem qF9 (s:TS) (hs:s.Ok) (hev:s.ev.length<=100000) (th:Nat) (hth:th<4) (a:TA) (ha:s.ts th=some a) (hk6:a.ra.k=6) (hph:a.ph=0) (hall:¬jC a.fs=[]):zD Tryz.prog cfg 15 [.pointer (some ⟨0,0,none⟩),.int .i64 th] (AH.of [some (.hi (.teng s))])
  fun r H'=> r=.ret (jB).v/\H'=AH.of [some (.hi (.teng ({ s with ts:=qB s.ts th (some { a with ph:=1 }),ev:=s.ev++[⟨7,a.n,0,0⟩] })))]:=by
 refine zD.ends ?_
 generalize hS:(({ s with ts:=qB s.ts th (some { a with ph:=1 }),ev:=s.ev++[⟨7,a.n,0,0⟩] }):TS)=S'
 refine zD.openTEng hth ?_
 obtain⟨z1,z2,z3,z4,gt,gg,gs⟩:=zAq hth
 have hok:=hs.ts th a ha
 have hg:=hs.tab
 have hel:=zAo hev
 have t3:=zAf s.ev
 have hgl:=hok.fs
 have hln:¬(jC a.fs).length=0:=fun h=> hall (List.length_eq_zero_iff.1 h)
 have hln2:¬((jC a.fs).length:Int)=0:=by omega
 refine zP (tbl:=jU) zAe 0 5 (af:=a15) rfl ?_
 rw[a15,b15,zW]
 refine⟨by simp,?_⟩
 simp -implicitDefEqProofs [qK,jU,zZ,qE,forms46,a46,b46,forms50,a50,b50,forms53,a53,b53,forms56,a56,b56,forms157,a157,b157,forms109,a109,b109,forms110,a110,b110,forms150,a150,b150,forms151,a151,b151,forms108,a108,b108,forms111,a111,b111,forms155,a155,b155,forms51,a51,b51,forms162,a162,b162,z1,z2,z3,z4,gt,gg,gs,xQ,jA,xP,xK,jX,xC,xB,xA,xU,xT,jI,ha,zJ,zR,zH,zX,hg,hel,t3,jM,zMp,hk6,hph,hgl,hall,hln,hln2]
 subst hS
 obtain⟨q4,hq⟩:=zAa th
 rcases qL hth with rfl|rfl|rfl|rfl<;> (refine zA [.pack (GD.tatt { a with ph:=1 }) 5 [10,11],.pack (GD.teng ({ s with ts:=qB s.ts q4 (some { a with ph:=1 }),ev:=s.ev++[⟨7,a.n,0,0⟩] })) 0 (1::2::15::4::p4 5 q4)] [0] ?_ ?_ ?_<;> simp[hq,p4,zX,qG,qC,tps,zJ,zR,qB,ha,zH,jF,u1,u2,u3,Rp.v,Rp.cells,jB,zA5,xM,xR,zAz,jS,jR,xZ,xL,xF,hk6])
theorem qF7 (s:TS) (hs:s.Ok) (hev:s.ev.length<=100000) (th:Nat) (hth:th<4) (a:TA) (ha:s.ts th=some a) (hk6:a.ra.k=6) (hph:a.ph=2) (hx:a.nx=a.es.length):zD Tryz.prog cfg 15 [.pointer (some ⟨0,0,none⟩),.int .i64 th] (AH.of [some (.hi (.teng s))])
  fun r H'=> r=.ret (jB).v/\H'=AH.of [some (.hi (.teng ({ s with ts:=qB s.ts th (some { a with dec:=true,ph:=3,nx:=0 }),ft:=zF7 s.ft a.n (2*a.wv) })))]:=by
 refine zD.ends ?_
 generalize hS:(({ s with ts:=qB s.ts th (some { a with dec:=true,ph:=3,nx:=0 }),ft:=zF7 s.ft a.n (2*a.wv) }):TS)=S'
 refine zD.openTEng hth ?_
 obtain⟨z1,z2,z3,z4,gt,gg,gs⟩:=zAq hth
 have hok:=hs.ts th a ha
 have hg:=hs.tab
 have hel:=zAo hev
 have t3:=zAf s.ev
 have hg8:=hok.es.len
 have hgu:=hok.es.uniq
 have hn1:=hok.n
 have hn2:(a.n:Int)<s.ft.length:=by omega
 have hn3:a.n*3+1+1<=s.ft.length*3:=by omega
 have hwv:=hok.wv
 have hc1:=hg.c1
 have hw2:IntKind.u64.wrap (2*a.wv)=2*a.wv:=zB5 (by omega) (by omega)
 have hfk:=zUs (2*a.wv) hok.n
 have hx1:((a.nx:Int)=(a.es.length:Int))=True:=eq_true (by omega)
 have hx2:(a.nx=a.es.length)=True:=eq_true hx
 refine zP (tbl:=jU) zAe 0 5 (af:=a15) rfl ?_
 rw[a15,b15,zW]
 refine⟨by simp,?_⟩
 simp -implicitDefEqProofs [qK,jU,zZ,qE,forms46,a46,b46,forms50,a50,b50,forms53,a53,b53,forms56,a56,b56,forms157,a157,b157,forms109,a109,b109,forms110,a110,b110,forms150,a150,b150,forms151,a151,b151,forms108,a108,b108,forms111,a111,b111,forms155,a155,b155,forms51,a51,b51,forms162,a162,b162,z1,z2,z3,z4,gt,gg,gs,xQ,jA,xP,xK,jX,xC,xB,xA,xU,xT,jI,ha,zJ,zR,zH,zX,hg,hel,t3,jM,zS4,hk6,hph,hx1,hx2,hg8,hgu,hn1,hn2,hn3,hw2,hfk,zBn]
 subst hS
 obtain⟨q4,hq⟩:=zAa th
 rcases qL hth with rfl|rfl|rfl|rfl<;> (refine zA [.pack (GD.tatt { a with dec:=true,ph:=3,nx:=0 }) 5 [10,11],.pack (GD.teng ({ s with ts:=qB s.ts q4 (some { a with dec:=true,ph:=3,nx:=0 }),ft:=zF7 s.ft a.n (2*a.wv) })) 0 (1::2::3::4::p4 5 q4)] [0] ?_ ?_ ?_<;> simp[hq,p4,zX,qG,qC,tps,zJ,zR,qB,ha,zH,jF,u1,u2,u3,Rp.v,Rp.cells,jB,zA5,xM,xR,zAz,jS,jR,xZ,xL,xF,hk6])
theorem qF6 (s:TS) (hs:s.Ok) (hev:s.ev.length<=100000) (th:Nat) (hth:th<4) (a:TA) (ha:s.ts th=some a) (hk6:a.ra.k=6) (hph:a.ph=2) (e:Ent) (hx:a.es[a.nx]?=some e) (st:Int) (hst:ofT s.ws e.t=st) (w:Int) (hw:zBl s.ws st=w) (hR:RightW w) (hP:zKd w th a.rv=true):zD Tryz.prog cfg 15 [.pointer (some ⟨0,0,none⟩),.int .i64 th] (AH.of [some (.hi (.teng s))])
  fun r H'=> r=.ret (jB).v/\H'=AH.of [some (.hi (.teng ({ s with ts:=qB s.ts th (some { a with nx:=a.nx+1 }) })))]:=by
 refine zD.ends ?_
 generalize hS:(({ s with ts:=qB s.ts th (some { a with nx:=a.nx+1 }) }):TS)=S'
 refine zD.openTEng hth ?_
 obtain⟨z1,z2,z3,z4,gt,gg,gs⟩:=zAq hth
 have hok:=hs.ts th a ha
 have hg:=hs.tab
 have hel:=zAo hev
 have t3:=zAf s.ev
 have hg8:=hok.es.len
 have hgu:=hok.es.uniq
 have hlt:=(List.getElem?_eq_some_iff.1 hx).1
 have hne:¬(a.nx:Int)=a.es.length:=by omega
 have hlt2:(a.nx:Int)<a.es.length:=by omega
 obtain⟨rx,rv⟩:=zRa hx
 have hnx:=hok.nx
 have hwr:IntKind.i64.wrap ((a.nx:Int)+1)=((a.nx+1:Nat):Int):=by rw[qF (by omega) (by omega)];omega
 refine zP (tbl:=jU) zAe 0 5 (af:=a15) rfl ?_
 rw[a15,b15,zW]
 refine⟨by simp,?_⟩
 simp -implicitDefEqProofs [qK,jU,zZ,qE,forms46,a46,b46,forms50,a50,b50,forms53,a53,b53,forms56,a56,b56,forms157,a157,b157,forms109,a109,b109,forms110,a110,b110,forms150,a150,b150,forms151,a151,b151,forms108,a108,b108,forms111,a111,b111,forms155,a155,b155,forms51,a51,b51,forms162,a162,b162,z1,z2,z3,z4,gt,gg,gs,xQ,jA,xP,xK,jX,xC,xB,xA,xU,xT,jI,ha,zJ,zR,zH,zX,hg,hel,t3,jM,zS4,zEu,zF2,p104,hk6,hph,hne,hlt,hlt2,hg8,hgu,rx,rv,hst,hw,hR,hwr,hP]
 subst hS
 obtain⟨q4,hq⟩:=zAa th
 rcases qL hth with rfl|rfl|rfl|rfl<;> (refine zA [.pack (GD.tatt { a with nx:=a.nx+1 }) 5 [10,11],.pack (GD.teng ({ s with ts:=qB s.ts q4 (some { a with nx:=a.nx+1 }) })) 0 (1::2::3::4::p4 5 q4)] [0] ?_ ?_ ?_<;> simp[hq,p4,zX,qG,qC,tps,zJ,zR,qB,ha,zH,jF,u1,u2,u3,Rp.v,Rp.cells,jB,zA5,xM,xR,zAz,jS,jR,xZ,xL,xF,hk6,hph])
theorem qF8 (s:TS) (hs:s.Ok) (hev:s.ev.length<=100000) (th:Nat) (hth:th<4) (a:TA) (ha:s.ts th=some a) (hk6:a.ra.k=6) (hph:a.ph=2) (e:Ent) (hx:a.es[a.nx]?=some e) (st:Int) (hst:ofT s.ws e.t=st) (w:Int) (hw:zBl s.ws st=w) (hR:RightW w) (hP:zKd w th a.rv=false) (W:List Int) (hW:zDc s.ws th=W):zD Tryz.prog cfg 15 [.pointer (some ⟨0,0,none⟩),.int .i64 th] (AH.of [some (.hi (.teng s))])
  fun r H'=> r=.ret (xR 1).v/\H'=AH.of [some (.hi (.teng ({ ws:=W,c:=s.c,hp:=s.hp,ts:=qB s.ts th none,ev:=s.ev++[⟨9,a.n,0,0⟩],ft:=zCn s.ft a.n 1 })))]:=by
 refine zD.ends ?_
 generalize hS:(({ ws:=W,c:=s.c,hp:=s.hp,ts:=qB s.ts th none,ev:=s.ev++[⟨9,a.n,0,0⟩],ft:=zCn s.ft a.n 1 }):TS)=S'
 refine zD.openTEng hth ?_
 obtain⟨z1,z2,z3,z4,gt,gg,gs⟩:=zAq hth
 have hok:=hs.ts th a ha
 have hg:=hs.tab
 have hel:=zAo hev
 have t3:=zAf s.ev
 have hg8:=hok.es.len
 have hgu:=hok.es.uniq
 have hlt:=(List.getElem?_eq_some_iff.1 hx).1
 have hne:¬(a.nx:Int)=a.es.length:=by omega
 have hlt2:(a.nx:Int)<a.es.length:=by omega
 obtain⟨rx,rv⟩:=zRa hx
 have hnx:=hok.nx
 have hwr:IntKind.i64.wrap ((a.nx:Int)+1)=((a.nx+1:Nat):Int):=by rw[qF (by omega) (by omega)];omega
 have hn1:=hok.n
 have hn2:(a.n:Int)<s.ft.length:=by omega
 have hn3:a.n*3+2+1<=s.ft.length*3:=by omega
 have hfw:=zEm 1 hok.n
 refine zP (tbl:=jU) zAe 0 5 (af:=a15) rfl ?_
 rw[a15,b15,zW]
 refine⟨by simp,?_⟩
 simp -implicitDefEqProofs [qK,jU,zZ,qE,forms46,a46,b46,forms50,a50,b50,forms53,a53,b53,forms56,a56,b56,forms157,a157,b157,forms109,a109,b109,forms110,a110,b110,forms150,a150,b150,forms151,a151,b151,forms108,a108,b108,forms111,a111,b111,forms155,a155,b155,forms51,a51,b51,forms162,a162,b162,z1,z2,z3,z4,gt,gg,gs,xQ,jA,xP,xK,jX,xC,xB,xA,xU,xT,jI,ha,zJ,zR,zH,zX,hg,hel,t3,jM,zS4,zEu,zF2,p104,hk6,hph,hne,hlt,hlt2,hg8,hgu,rx,rv,hst,hw,hR,hwr,hP,zHs,hW,hn1,hn2,hn3,hfw,zBn]
 subst hS
 obtain⟨q4,hq⟩:=zAa th
 rcases qL hth with rfl|rfl|rfl|rfl<;> (refine zA [.nil 98,.pack (GD.teng ({ ws:=W,c:=s.c,hp:=s.hp,ts:=qB s.ts q4 none,ev:=s.ev++[⟨9,a.n,0,0⟩],ft:=zCn s.ft a.n 1 })) 0 (1::2::18::4::p4 19 q4)] [0] ?_ ?_ ?_<;> simp[hq,p4,zX,qG,qC,tps,zJ,zR,qB,ha,zH,jF,u1,u2,u3,Rp.v,Rp.cells,jB,zA5,xM,xR,zAz,jS,jR,xZ,xL,xF])
theorem qF4 (s:TS) (hs:s.Ok) (hev:s.ev.length<=100000) (th:Nat) (hth:th<4) (a:TA) (ha:s.ts th=some a) (hk6:a.ra.k=6) (hph:a.ph=3) (p:Pr) (hx:(jC a.fs)[a.nx]?=some p) (hp:0<=p.t/\p.t<s.hp.length) (hl:¬a.nx+1=(jC a.fs).length):zD Tryz.prog cfg 15 [.pointer (some ⟨0,0,none⟩),.int .i64 th] (AH.of [some (.hi (.teng s))])
  fun r H'=> r=.ret (jB).v/\H'=AH.of [some (.hi (.teng ({ s with ts:=qB s.ts th (some { a with nx:=a.nx+1 }),hp:=s.hp.set p.t.toNat p.v })))]:=by
 refine zD.ends ?_
 generalize hS:(({ s with ts:=qB s.ts th (some { a with nx:=a.nx+1 }),hp:=s.hp.set p.t.toNat p.v }):TS)=S'
 refine zD.openTEng hth ?_
 obtain⟨z1,z2,z3,z4,gt,gg,gs⟩:=zAq hth
 have hok:=hs.ts th a ha
 have hg:=hs.tab
 have hel:=zAo hev
 have t3:=zAf s.ev
 have hgl:=hok.fs
 have hlt:=(List.getElem?_eq_some_iff.1 hx).1
 have hlt2:(a.nx:Int)<(jC a.fs).length:=by omega
 obtain⟨rx,rv⟩:=zMc hx
 have hnx:=hok.nx
 have hwr:IntKind.i64.wrap ((a.nx:Int)+1)=((a.nx+1:Nat):Int):=by rw[qF (by omega) (by omega)];omega
 have hpl:(p.t.toNat:Int)<s.hp.length:=by omega
 have hpl2:p.t.toNat<s.hp.length:=by omega
 have hpl3:p.t.toNat+1<=s.hp.length:=by omega
 have hl2:¬(a.nx:Int)+1=(jC a.fs).length:=by omega
 refine zP (tbl:=jU) zAe 0 5 (af:=a15) rfl ?_
 rw[a15,b15,zW]
 refine⟨by simp,?_⟩
 simp -implicitDefEqProofs [qK,jU,zZ,qE,forms46,a46,b46,forms50,a50,b50,forms53,a53,b53,forms56,a56,b56,forms157,a157,b157,forms109,a109,b109,forms110,a110,b110,forms150,a150,b150,forms151,a151,b151,forms108,a108,b108,forms111,a111,b111,forms155,a155,b155,forms51,a51,b51,forms162,a162,b162,z1,z2,z3,z4,gt,gg,gs,xQ,jA,xP,xK,jX,xC,xB,xA,xU,xT,jI,ha,zJ,zR,zH,zX,hg,hel,t3,jM,zMp,hk6,hph,hgl,hlt,hlt2,rx,rv,hwr,hp,hpl,hpl2,hpl3,hl,hl2,zAd,xZ]
 subst hS
 obtain⟨q4,hq⟩:=zAa th
 rcases qL hth with rfl|rfl|rfl|rfl<;> (refine zA [.pack (GD.tatt { a with nx:=a.nx+1 }) 5 [10,11],.pack (GD.teng ({ s with ts:=qB s.ts q4 (some { a with nx:=a.nx+1 }),hp:=s.hp.set p.t.toNat p.v })) 0 (1::2::3::4::p4 5 q4)] [0] ?_ ?_ ?_<;> simp[hq,p4,zX,qG,qC,tps,zJ,zR,qB,ha,zH,jF,u1,u2,u3,Rp.v,Rp.cells,jB,zA5,xM,xR,zAz,jS,jR,xZ,xL,xF,hk6,hph])
theorem qF5 (s:TS) (hs:s.Ok) (hev:s.ev.length<=100000) (th:Nat) (hth:th<4) (a:TA) (ha:s.ts th=some a) (hk6:a.ra.k=6) (hph:a.ph=3) (p:Pr) (hx:(jC a.fs)[a.nx]?=some p) (hp:0<=p.t/\p.t<s.hp.length) (hl:a.nx+1=(jC a.fs).length):zD Tryz.prog cfg 15 [.pointer (some ⟨0,0,none⟩),.int .i64 th] (AH.of [some (.hi (.teng s))])
  fun r H'=> r=.ret (jB).v/\H'=AH.of [some (.hi (.teng ({ s with ts:=qB s.ts th (some { a with nx:=a.nx+1,ph:=4 }),hp:=s.hp.set p.t.toNat p.v })))]:=by
 refine zD.ends ?_
 generalize hS:(({ s with ts:=qB s.ts th (some { a with nx:=a.nx+1,ph:=4 }),hp:=s.hp.set p.t.toNat p.v }):TS)=S'
 refine zD.openTEng hth ?_
 obtain⟨z1,z2,z3,z4,gt,gg,gs⟩:=zAq hth
 have hok:=hs.ts th a ha
 have hg:=hs.tab
 have hel:=zAo hev
 have t3:=zAf s.ev
 have hgl:=hok.fs
 have hlt:=(List.getElem?_eq_some_iff.1 hx).1
 have hlt2:(a.nx:Int)<(jC a.fs).length:=by omega
 obtain⟨rx,rv⟩:=zMc hx
 have hnx:=hok.nx
 have hwr:IntKind.i64.wrap ((a.nx:Int)+1)=((a.nx+1:Nat):Int):=by rw[qF (by omega) (by omega)];omega
 have hpl:(p.t.toNat:Int)<s.hp.length:=by omega
 have hpl2:p.t.toNat<s.hp.length:=by omega
 have hpl3:p.t.toNat+1<=s.hp.length:=by omega
 have hl2:((a.nx:Int)+1=((jC a.fs).length:Int))=True:=eq_true (by omega)
 have hl3:(a.nx+1=(jC a.fs).length)=True:=eq_true hl
 refine zP (tbl:=jU) zAe 0 5 (af:=a15) rfl ?_
 rw[a15,b15,zW]
 refine⟨by simp,?_⟩
 simp -implicitDefEqProofs [qK,jU,zZ,qE,forms46,a46,b46,forms50,a50,b50,forms53,a53,b53,forms56,a56,b56,forms157,a157,b157,forms109,a109,b109,forms110,a110,b110,forms150,a150,b150,forms151,a151,b151,forms108,a108,b108,forms111,a111,b111,forms155,a155,b155,forms51,a51,b51,forms162,a162,b162,z1,z2,z3,z4,gt,gg,gs,xQ,jA,xP,xK,jX,xC,xB,xA,xU,xT,jI,ha,zJ,zR,zH,zX,hg,hel,t3,jM,zMp,hk6,hph,hgl,hlt,hlt2,rx,rv,hwr,hp,hpl,hpl2,hpl3,hl2,hl3,zAd,xZ]
 subst hS
 obtain⟨q4,hq⟩:=zAa th
 rcases qL hth with rfl|rfl|rfl|rfl<;> (refine zA [.pack (GD.tatt { a with nx:=a.nx+1,ph:=4 }) 5 [10,11],.pack (GD.teng ({ s with ts:=qB s.ts q4 (some { a with nx:=a.nx+1,ph:=4 }),hp:=s.hp.set p.t.toNat p.v })) 0 (1::2::3::4::p4 5 q4)] [0] ?_ ?_ ?_<;> simp[hq,p4,zX,qG,qC,tps,zJ,zR,qB,ha,zH,jF,u1,u2,u3,Rp.v,Rp.cells,jB,zA5,xM,xR,zAz,jS,jR,xZ,xL,xF,hk6])
theorem qF3 (s:TS) (hs:s.Ok) (hev:s.ev.length<=100000) (th:Nat) (hth:th<4) (a:TA) (ha:s.ts th=some a) (hk6:a.ra.k=6) (hph:a.ph=4) (h:Int) (hh:jZ s.ws th=[h]) (W:List Int) (hW:xI s.ws s.c th h a.wv=W):zD Tryz.prog cfg 15 [.pointer (some ⟨0,0,none⟩),.int .i64 th] (AH.of [some (.hi (.teng s))])
  fun r H'=> r=.ret (xR 0).v/\H'=AH.of [some (.hi (.teng ({ s with ws:=W,ts:=qB s.ts th none,ev:=s.ev++[⟨8,a.n,0,0⟩] })))]:=by
 refine zD.ends ?_
 generalize hS:(({ s with ws:=W,ts:=qB s.ts th none,ev:=s.ev++[⟨8,a.n,0,0⟩] }):TS)=S'
 refine zD.openTEng hth ?_
 obtain⟨z1,z2,z3,z4,gt,gg,gs⟩:=zAq hth
 have hok:=hs.ts th a ha
 have hg:=hs.tab
 have hel:=zAo hev
 have t3:=zAf s.ev
 have hwv:=hok.wv.1
 have ih:qI [h]=[.int .i64 h]:=rfl
 refine zP (tbl:=jU) zAe 0 5 (af:=a15) rfl ?_
 rw[a15,b15,zW]
 refine⟨by simp,?_⟩
 simp -implicitDefEqProofs [qK,jU,zZ,qE,forms46,a46,b46,forms50,a50,b50,forms53,a53,b53,forms56,a56,b56,forms157,a157,b157,forms109,a109,b109,forms110,a110,b110,forms150,a150,b150,forms151,a151,b151,forms108,a108,b108,forms111,a111,b111,forms155,a155,b155,forms51,a51,b51,forms162,a162,b162,z1,z2,z3,z4,gt,gg,gs,xQ,jA,xP,xK,jX,xC,xB,xA,xU,xT,jI,ha,zJ,zR,zH,zX,hg,hel,t3,jM,zK0,zRv,hk6,hph,hh,ih,hwv,hW]
 subst hS
 obtain⟨q4,hq⟩:=zAa th
 rcases qL hth with rfl|rfl|rfl|rfl<;> (refine zA [.nil 98,.pack (GD.teng ({ s with ws:=W,ts:=qB s.ts q4 none,ev:=s.ev++[⟨8,a.n,0,0⟩] })) 0 (1::2::17::4::p4 18 q4)] [0] ?_ ?_ ?_<;> simp[hq,p4,zX,qG,qC,tps,zJ,zR,qB,ha,zH,jF,u1,u2,u3,Rp.v,Rp.cells,jB,zA5,xM,xR,zAz,jS,jR,xZ,xL,xF])
theorem qF2 (s:TS) (hs:s.Ok) (hev:s.ev.length<=100000) (th:Nat) (hth:th<4) (a:TA) (ha:s.ts th=some a) (hk6:a.ra.k=6) (hph:a.ph=4) (h h2:Int) (rest:List Int) (hh:jZ s.ws th=h::h2::rest) (W:List Int) (hW:xI s.ws s.c th h a.wv=W):zD Tryz.prog cfg 15 [.pointer (some ⟨0,0,none⟩),.int .i64 th] (AH.of [some (.hi (.teng s))])
  fun r H'=> r=.ret (jB).v/\H'=AH.of [some (.hi (.teng ({ s with ws:=W })))]:=by
 refine zD.ends ?_
 generalize hS:(({ s with ws:=W }):TS)=S'
 refine zD.openTEng hth ?_
 obtain⟨z1,z2,z3,z4,gt,gg,gs⟩:=zAq hth
 have hok:=hs.ts th a ha
 have hg:=hs.tab
 have hel:=zAo hev
 have t3:=zAf s.ev
 have hwv:=hok.wv.1
 have ih:qI (h::h2::rest)=.int .i64 h::.int .i64 h2::qI rest:=rfl
 have hl1:¬((rest.length:Int)+1+1=1):=by omega
 have hl2:(0:Int)<(rest.length:Int)+1+1:=by omega
 refine zP (tbl:=jU) zAe 0 5 (af:=a15) rfl ?_
 rw[a15,b15,zW]
 refine⟨by simp,?_⟩
 simp -implicitDefEqProofs [qK,jU,zZ,qE,forms46,a46,b46,forms50,a50,b50,forms53,a53,b53,forms56,a56,b56,forms157,a157,b157,forms109,a109,b109,forms110,a110,b110,forms150,a150,b150,forms151,a151,b151,forms108,a108,b108,forms111,a111,b111,forms155,a155,b155,forms51,a51,b51,forms162,a162,b162,z1,z2,z3,z4,gt,gg,gs,xQ,jA,xP,xK,jX,xC,xB,xA,xU,xT,jI,ha,zJ,zR,zH,zX,hg,hel,t3,jM,zK0,zRv,hk6,hph,hh,ih,hwv,hW,hl1,hl2]
 subst hS
 obtain⟨q4,hq⟩:=zAa th
 rcases qL hth with rfl|rfl|rfl|rfl<;> (refine zA [.pack (GD.tatt a) 5 [10,11],.pack (GD.teng { s with ws:=W }) 0 (1::2::3::4::p4 5 q4)] [0] ?_ ?_ ?_<;> simp[hq,p4,zX,qG,qC,tps,zJ,zR,qB,ha,zH,jF,u1,u2,u3,Rp.v,Rp.cells,jB,zA5,xM,xR,zAz,jS,jR,xZ,xL,xF,hk6,hph])
end YtapbabkndhaemaaGreat
end Go.Proofs
/-
 TL2:Step. (Printed by tools/genstep_t.py.)
-/
namespace Go.Proofs
namespace YtapbabkndhaemaaGreat
open Go.Abs
theorem qJ7 (s:TS) (hs:s.Ok) (hev:s.ev.length<=100000) (th:Nat) (hth:th<4) (a:TA) (ha:s.ts th=some a) (hk3:a.ra.k=3) (f:List Pr) (fs:List (List Pr)) (hfs:a.fs=f::fs) (hl:¬4<=fs.length):zD Tryz.prog cfg 15 [.pointer (some ⟨0,0,none⟩),.int .i64 th] (AH.of [some (.hi (.teng s))])
  fun r H'=> r=.ret (xM 0).v/\H'=AH.of [some (.hi (.teng ({ s with ts:=qB s.ts th (some { a with ra:=⟨0,0,0⟩,fs:=[]::f::fs }),ev:=s.ev++[⟨4,a.n,0,0⟩] })))]:=by
 refine zD.ends ?_
 generalize hS:(({ s with ts:=qB s.ts th (some { a with ra:=⟨0,0,0⟩,fs:=[]::f::fs }),ev:=s.ev++[⟨4,a.n,0,0⟩] }):TS)=S'
 refine zD.openTEng hth ?_
 obtain⟨z1,z2,z3,z4,gt,gg,gs⟩:=zAq hth
 have hok:=hs.ts th a ha
 have hg:=hs.tab
 have hel:=zAo hev
 have t3:=zAf s.ev
 have hgl:=hok.fs
 rw[hfs] at hgl
 have hl5:fs.length<=100:=by have:=hgl.2.1;simp at this;omega
 refine zP (tbl:=jU) zAe 0 5 (af:=a15) rfl ?_
 rw[a15,b15,zW]
 refine⟨by simp,?_⟩
 simp -implicitDefEqProofs [qK,jU,zZ,qE,forms46,a46,b46,forms50,a50,b50,forms53,a53,b53,forms56,a56,b56,forms157,a157,b157,forms109,a109,b109,forms110,a110,b110,forms150,a150,b150,forms151,a151,b151,forms108,a108,b108,forms111,a111,b111,forms155,a155,b155,forms51,a51,b51,forms162,a162,b162,z1,z2,z3,z4,gt,gg,gs,xQ,jA,xP,xK,jX,xC,xB,xA,xU,xT,jI,ha,zJ,zR,zH,zX,hg,hel,t3,jM,d158,hk3,hfs,hl,hl5]
 subst hS
 obtain⟨q4,hq⟩:=zAa th
 rcases qL hth with rfl|rfl|rfl|rfl<;> (refine zA [.pack (GD.tatt { a with ra:=⟨0,0,0⟩,fs:=[]::f::fs }) 5 [10,11],.pack (GD.teng ({ s with ts:=qB s.ts q4 (some { a with ra:=⟨0,0,0⟩,fs:=[]::f::fs }),ev:=s.ev++[⟨4,a.n,0,0⟩] })) 0 (1::2::16::4::p4 5 q4)] [0] ?_ ?_ ?_<;> simp[hq,p4,zX,qG,qC,tps,zJ,zR,qB,ha,zH,jF,u1,u2,u3,Rp.v,Rp.cells,jB,zA5,xM,xR,zAz,jS,jR,xZ,xL,xF])
theorem qJ6 (s:TS) (hs:s.Ok) (hev:s.ev.length<=100000) (th:Nat) (hth:th<4) (a:TA) (ha:s.ts th=some a) (hk4:a.ra.k=4) (f g:List Pr) (fs:List (List Pr)) (hfs:a.fs=f::g::fs):zD Tryz.prog cfg 15 [.pointer (some ⟨0,0,none⟩),.int .i64 th] (AH.of [some (.hi (.teng s))])
  fun r H'=> r=.ret (xM 0).v/\H'=AH.of [some (.hi (.teng ({ s with ts:=qB s.ts th (some { a with ra:=⟨0,0,0⟩,fs:=g::fs }),ev:=s.ev++[⟨5,a.n,0,0⟩] })))]:=by
 refine zD.ends ?_
 generalize hS:(({ s with ts:=qB s.ts th (some { a with ra:=⟨0,0,0⟩,fs:=g::fs }),ev:=s.ev++[⟨5,a.n,0,0⟩] }):TS)=S'
 refine zD.openTEng hth ?_
 obtain⟨z1,z2,z3,z4,gt,gg,gs⟩:=zAq hth
 have hok:=hs.ts th a ha
 have hg:=hs.tab
 have hel:=zAo hev
 have t3:=zAf s.ev
 have hgl:=hok.fs
 rw[hfs] at hgl
 have hl5:fs.length+1<=100:=by have:=hgl.2.1;simp at this;omega
 refine zP (tbl:=jU) zAe 0 5 (af:=a15) rfl ?_
 rw[a15,b15,zW]
 refine⟨by simp,?_⟩
 simp -implicitDefEqProofs [qK,jU,zZ,qE,forms46,a46,b46,forms50,a50,b50,forms53,a53,b53,forms56,a56,b56,forms157,a157,b157,forms109,a109,b109,forms110,a110,b110,forms150,a150,b150,forms151,a151,b151,forms108,a108,b108,forms111,a111,b111,forms155,a155,b155,forms51,a51,b51,forms162,a162,b162,z1,z2,z3,z4,gt,gg,gs,xQ,jA,xP,xK,jX,xC,xB,xA,xU,xT,jI,ha,zJ,zR,zH,zX,hg,hel,t3,jM,d159,hk4,hfs,hl5]
 subst hS
 obtain⟨q4,hq⟩:=zAa th
 rcases qL hth with rfl|rfl|rfl|rfl<;> (refine zA [.pack (GD.tatt { a with ra:=⟨0,0,0⟩,fs:=g::fs }) 5 [10,11],.pack (GD.teng ({ s with ts:=qB s.ts q4 (some { a with ra:=⟨0,0,0⟩,fs:=g::fs }),ev:=s.ev++[⟨5,a.n,0,0⟩] })) 0 (1::2::16::4::p4 5 q4)] [0] ?_ ?_ ?_<;> simp[hq,p4,zX,qG,qC,tps,zJ,zR,qB,ha,zH,jF,u1,u2,u3,Rp.v,Rp.cells,jB,zA5,xM,xR,zAz,jS,jR,xZ,xL,xF])
theorem qJ5 (s:TS) (hs:s.Ok) (hev:s.ev.length<=100000) (th:Nat) (hth:th<4) (a:TA) (ha:s.ts th=some a) (hk5:a.ra.k=5) (f g:List Pr) (fs:List (List Pr)) (hfs:a.fs=f::g::fs):zD Tryz.prog cfg 15 [.pointer (some ⟨0,0,none⟩),.int .i64 th] (AH.of [some (.hi (.teng s))])
  fun r H'=> r=.ret (xM 0).v/\H'=AH.of [some (.hi (.teng ({ s with ts:=qB s.ts th (some { a with ra:=⟨0,0,0⟩,fs:=jO g f::fs }),ev:=s.ev++[⟨6,a.n,0,0⟩] })))]:=by
 refine zD.ends ?_
 generalize hS:(({ s with ts:=qB s.ts th (some { a with ra:=⟨0,0,0⟩,fs:=jO g f::fs }),ev:=s.ev++[⟨6,a.n,0,0⟩] }):TS)=S'
 refine zD.openTEng hth ?_
 obtain⟨z1,z2,z3,z4,gt,gg,gs⟩:=zAq hth
 have hok:=hs.ts th a ha
 have hg:=hs.tab
 have hel:=zAo hev
 have t3:=zAf s.ev
 have hgl:=hok.fs
 rw[hfs] at hgl
 refine zP (tbl:=jU) zAe 0 5 (af:=a15) rfl ?_
 rw[a15,b15,zW]
 refine⟨by simp,?_⟩
 simp -implicitDefEqProofs [qK,jU,zZ,qE,forms46,a46,b46,forms50,a50,b50,forms53,a53,b53,forms56,a56,b56,forms157,a157,b157,forms109,a109,b109,forms110,a110,b110,forms150,a150,b150,forms151,a151,b151,forms108,a108,b108,forms111,a111,b111,forms155,a155,b155,forms51,a51,b51,forms162,a162,b162,z1,z2,z3,z4,gt,gg,gs,xQ,jA,xP,xK,jX,xC,xB,xA,xU,xT,jI,ha,zJ,zR,zH,zX,hg,hel,t3,jM,d160,hk5,hfs,hgl]
 subst hS
 obtain⟨q4,hq⟩:=zAa th
 rcases qL hth with rfl|rfl|rfl|rfl<;> (refine zA [.pack (GD.tatt { a with ra:=⟨0,0,0⟩,fs:=jO g f::fs }) 5 [10,11],.pack (GD.teng ({ s with ts:=qB s.ts q4 (some { a with ra:=⟨0,0,0⟩,fs:=jO g f::fs }),ev:=s.ev++[⟨6,a.n,0,0⟩] })) 0 (1::2::16::4::p4 5 q4)] [0] ?_ ?_ ?_<;> simp[hq,p4,zX,qG,qC,tps,zJ,zR,qB,ha,zH,jF,u1,u2,u3,Rp.v,Rp.cells,jB,zA5,xM,xR,zAz,jS,jR,xZ,xL,xF])
theorem qFu (s:TS) (hs:s.Ok) (hev:s.ev.length<=100000) (th:Nat) (hth:th<4) (a:TA) (ha:s.ts th=some a) (hk2:a.ra.k=2) (f:List Pr) (fs:List (List Pr)) (hfs:a.fs=f::fs) (hP:jQ f fs a.ra.t a.ra.v=0):zD Tryz.prog cfg 15 [.pointer (some ⟨0,0,none⟩),.int .i64 th] (AH.of [some (.hi (.teng s))])
  fun r H'=> r=.ret (xM 0).v/\H'=AH.of [some (.hi (.teng ({ s with ts:=qB s.ts th (some { a with ra:=⟨0,0,0⟩,fs:=xE f ⟨a.ra.t,a.ra.v⟩::fs }),ev:=s.ev++[⟨3,a.n,a.ra.t,a.ra.v⟩] })))]:=by
 refine zD.ends ?_
 generalize hS:(({ s with ts:=qB s.ts th (some { a with ra:=⟨0,0,0⟩,fs:=xE f ⟨a.ra.t,a.ra.v⟩::fs }),ev:=s.ev++[⟨3,a.n,a.ra.t,a.ra.v⟩] }):TS)=S'
 refine zD.openTEng hth ?_
 obtain⟨z1,z2,z3,z4,gt,gg,gs⟩:=zAq hth
 have hok:=hs.ts th a ha
 have hg:=hs.tab
 have hel:=zAo hev
 have t3:=zAf s.ev
 have hgl:=hok.fs
 rw[hfs] at hgl
 have hrv:=hok.ask.2.2.2
 refine zP (tbl:=jU) zAe 0 5 (af:=a15) rfl ?_
 rw[a15,b15,zW]
 refine⟨by simp,?_⟩
 simp -implicitDefEqProofs [qK,jU,zZ,qE,forms46,a46,b46,forms50,a50,b50,forms53,a53,b53,forms56,a56,b56,forms157,a157,b157,forms109,a109,b109,forms110,a110,b110,forms150,a150,b150,forms151,a151,b151,forms108,a108,b108,forms111,a111,b111,forms155,a155,b155,forms51,a51,b51,forms162,a162,b162,z1,z2,z3,z4,gt,gg,gs,xQ,jA,xP,xK,jX,xC,xB,xA,xU,xT,jI,ha,zJ,zR,zH,zX,hg,hel,t3,jM,zZe,hk2,hfs,hgl,hrv,hP]
 subst hS
 obtain⟨q4,hq⟩:=zAa th
 rcases qL hth with rfl|rfl|rfl|rfl<;> (refine zA [.pack (GD.tatt { a with ra:=⟨0,0,0⟩,fs:=xE f ⟨a.ra.t,a.ra.v⟩::fs }) 5 [10,11],.pack (GD.teng ({ s with ts:=qB s.ts q4 (some { a with ra:=⟨0,0,0⟩,fs:=xE f ⟨a.ra.t,a.ra.v⟩::fs }),ev:=s.ev++[⟨3,a.n,a.ra.t,a.ra.v⟩] })) 0 (1::2::16::4::p4 5 q4)] [0] ?_ ?_ ?_<;> simp[hq,p4,zX,qG,qC,tps,zJ,zR,qB,ha,zH,jF,u1,u2,u3,Rp.v,Rp.cells,jB,zA5,xM,xR,zAz,jS,jR,xZ,xL,xF])
theorem qFv (s:TS) (hs:s.Ok) (hev:s.ev.length<=100000) (th:Nat) (hth:th<4) (a:TA) (ha:s.ts th=some a) (hk2:a.ra.k=2) (f:List Pr) (fs:List (List Pr)) (hfs:a.fs=f::fs) (hP:¬jQ f fs a.ra.t a.ra.v=0) (W:List Int) (hW:zDc s.ws th=W):zD Tryz.prog cfg 15 [.pointer (some ⟨0,0,none⟩),.int .i64 th] (AH.of [some (.hi (.teng s))])
  fun r H'=> r=.ret (xR 2).v/\H'=AH.of [some (.hi (.teng ({ ws:=W,c:=s.c,hp:=s.hp,ts:=qB s.ts th none,ev:=s.ev++[⟨9,a.n,0,0⟩],ft:=zCn s.ft a.n 2 })))]:=by
 refine zD.ends ?_
 generalize hS:(({ ws:=W,c:=s.c,hp:=s.hp,ts:=qB s.ts th none,ev:=s.ev++[⟨9,a.n,0,0⟩],ft:=zCn s.ft a.n 2 }):TS)=S'
 refine zD.openTEng hth ?_
 obtain⟨z1,z2,z3,z4,gt,gg,gs⟩:=zAq hth
 have hok:=hs.ts th a ha
 have hg:=hs.tab
 have hel:=zAo hev
 have t3:=zAf s.ev
 have hgl:=hok.fs
 rw[hfs] at hgl
 have hrv:=hok.ask.2.2.2
 have hn1:=hok.n
 have hn2:(a.n:Int)<s.ft.length:=by omega
 have hn3:a.n*3+2+1<=s.ft.length*3:=by omega
 have hfw:=zEm 2 hok.n
 refine zP (tbl:=jU) zAe 0 5 (af:=a15) rfl ?_
 rw[a15,b15,zW]
 refine⟨by simp,?_⟩
 simp -implicitDefEqProofs [qK,jU,zZ,qE,forms46,a46,b46,forms50,a50,b50,forms53,a53,b53,forms56,a56,b56,forms157,a157,b157,forms109,a109,b109,forms110,a110,b110,forms150,a150,b150,forms151,a151,b151,forms108,a108,b108,forms111,a111,b111,forms155,a155,b155,forms51,a51,b51,forms162,a162,b162,z1,z2,z3,z4,gt,gg,gs,xQ,jA,xP,xK,jX,xC,xB,xA,xU,xT,jI,ha,zJ,zR,zH,zX,hg,hel,t3,jM,zZe,hk2,hfs,hgl,hrv,hP,zHs,hW,hn1,hn2,hn3,hfw,zBn]
 subst hS
 obtain⟨q4,hq⟩:=zAa th
 rcases qL hth with rfl|rfl|rfl|rfl<;> (refine zA [.nil 98,.pack (GD.teng ({ ws:=W,c:=s.c,hp:=s.hp,ts:=qB s.ts q4 none,ev:=s.ev++[⟨9,a.n,0,0⟩],ft:=zCn s.ft a.n 2 })) 0 (1::2::17::4::p4 18 q4)] [0] ?_ ?_ ?_<;> simp[hq,p4,zX,qG,qC,tps,zJ,zR,qB,ha,zH,jF,u1,u2,u3,Rp.v,Rp.cells,jB,zA5,xM,xR,zAz,jS,jR,xZ,xL,xF])
theorem qC6 (s:TS) (hs:s.Ok) (hev:s.ev.length<=100000) (th:Nat) (hth:th<4) (a:TA) (ha:s.ts th=some a) (hd:a.dec=false) (W:List Int) (hW:zDc s.ws th=W):zD Tryz.prog cfg 22 [.pointer (some ⟨0,0,none⟩),.int .i64 th] (AH.of [some (.hi (.teng s))])
  fun r H'=> r=.ret (.int .i64 0)/\H'=AH.of [some (.hi (.teng ({ ws:=W,c:=s.c,hp:=s.hp,ts:=qB s.ts th none,ev:=s.ev++[⟨9,a.n,0,0⟩],ft:=zCn s.ft a.n 3 })))]:=by
 refine zD.ends ?_
 generalize hS:(({ ws:=W,c:=s.c,hp:=s.hp,ts:=qB s.ts th none,ev:=s.ev++[⟨9,a.n,0,0⟩],ft:=zCn s.ft a.n 3 }):TS)=S'
 refine zD.openTEng hth ?_
 obtain⟨z1,z2,z3,z4,gt,gg,gs⟩:=zAq hth
 have hok:=hs.ts th a ha
 have hg:=hs.tab
 have hel:=zAo hev
 have t3:=zAf s.ev
 have hn1:=hok.n
 have hn2:(a.n:Int)<s.ft.length:=by omega
 have hn3:a.n*3+2+1<=s.ft.length*3:=by omega
 have hfw:=zEm 3 hok.n
 refine zP (tbl:=jU) zAe 0 5 (af:=a22) rfl ?_
 rw[a22,b22,zW]
 refine⟨by simp,?_⟩
 simp -implicitDefEqProofs [qK,jU,zZ,qE,forms46,a46,b46,forms50,a50,b50,forms53,a53,b53,forms56,a56,b56,forms157,a157,b157,forms109,a109,b109,forms110,a110,b110,forms150,a150,b150,forms151,a151,b151,forms108,a108,b108,forms111,a111,b111,forms155,a155,b155,forms51,a51,b51,forms162,a162,b162,z1,z2,z3,z4,gt,gg,gs,xQ,jA,xP,xK,jX,xC,xB,xA,xU,xT,jI,ha,zJ,zR,zH,zX,hg,hel,t3,jM,hd,zHs,hW,hn1,hn2,hn3,hfw,zBn]
 subst hS
 obtain⟨q4,hq⟩:=zAa th
 rcases qL hth with rfl|rfl|rfl|rfl<;> (refine zA [.nil 98,.pack (GD.teng ({ ws:=W,c:=s.c,hp:=s.hp,ts:=qB s.ts q4 none,ev:=s.ev++[⟨9,a.n,0,0⟩],ft:=zCn s.ft a.n 3 })) 0 (1::2::14::4::p4 15 q4)] [0] ?_ ?_ ?_<;> simp[hq,p4,zX,qG,qC,tps,zJ,zR,qB,ha,zH,jF,u1,u2,u3,Rp.v,Rp.cells,jB,zA5,xM,xR,zAz,jS,jR,xZ,xL,xF])
end YtapbabkndhaemaaGreat
end Go.Proofs
/-
 TL2:Step:the locks.
-/
namespace Go.Proofs
namespace YtapbabkndhaemaaGreat
open Go.Abs
def zJn (fs:List (List Pr)):List Int:=(jC fs).map (·.t)
theorem zZ5 {fs:List (List Pr)} {i:Nat} {p:Pr} (h:(jC fs)[i]?=some p):(zJn fs).take (i+1)=(zJn fs).take i++[p.t]:=by
 unfold zJn
 rw[List.take_add_one,List.getElem?_map,h];rfl
theorem qHz (ws:List Int) (fs:List (List Pr)):zEo ws (zJn fs) (zJn fs).length=zHm ws fs:=by
 unfold zHm zJn;rw[List.length_map]
theorem qIx {l held:List Int} {i:Nat} {x:Int} (hpre:∀j y,j<i->l[j]?=some y->y∈held) (hx:l[i]?=some x) (hn:x∉held):zFq l held=some x:=by
 induction l generalizing i with
 |nil=> simp at hx
 |cons e l ih=>
  unfold zFq
  rw[List.find?_cons]
  cases i with
  |zero=> simp at hx;subst hx;simp[hn]
  |succ i=>
   have h0:e∈held:=hpre 0 e (by omega) rfl
   simp only[h0,not_true_eq_false,decide_false]
   exact ih (i:=i) (fun j y hj hy=> hpre (j+1) y (by omega) (by simpa using hy)) (by simpa using hx)
theorem qA5 {l held:List Int} (hpre:∀j y,j<l.length->l[j]?=some y->y∈held):zFq l held=none:=by
 unfold zFq
 rw[List.find?_eq_none]
 intro x hx
 obtain⟨j,hj⟩:=List.mem_iff_getElem?.1 hx
 have:=hpre j x (List.getElem?_eq_some_iff.1 hj).1 hj
 simp[this]
theorem zL1 {ws:List Int} {c:Int} (h:GoodT ws c) (fs:List (List Pr)) {x:Int} (hx:x∈zHm ws fs):0<=x/\x<ws.length:=by
 unfold zHm at hx
 rw[zNr h] at hx
 unfold zIc at hx
 obtain⟨i,hi,rfl⟩:=List.mem_map.1 hx
 have:=List.mem_range.1 (List.mem_filter.1 hi).1
 omega
theorem zYx {ws:List Int} {o x:Int}:x∈jZ ws o↔∃i:Nat,i<ws.length/\x=(i:Int)/\isH ws o i=true:=by
 unfold jZ zEw
 constructor
 ·intro h
  obtain⟨i,hi,rfl⟩:=List.mem_map.1 h
  obtain⟨h1,h2⟩:=List.mem_filter.1 hi
  exact⟨i,List.mem_range.1 h1,rfl,h2⟩
 ·rintro⟨i,h1,rfl,h2⟩
  exact List.mem_map.2 ⟨i,List.mem_filter.2 ⟨List.mem_range.2 h1,h2⟩,rfl⟩
theorem zYe {ws:List Int} {o x:Int} (hr:0<=x/\x<ws.length) (hn:x∉jZ ws o) (hB:zDi ws x=true):zDh ws x≠o:=fun h=> by
 refine hn (zYx.2 ⟨x.toNat,by omega,by omega,?_⟩)
 have e:((x.toNat:Nat):Int)=x:=by omega
 simp[isH,e,hB,h]
def zEv (s:TS) (th:Nat) (a:TA):List (Option (AObj GD)):=
 [some (.arr 89 (qC (.pointer (some ⟨1,0,none⟩)) (.slice (some ⟨2,0,none⟩) s.hp.length 1) th (.pointer (some ⟨5,0,none⟩)) s.ts (.slice (some ⟨3,0,none⟩) s.ev.length 1) (.slice (some ⟨4,0,none⟩) s.ft.length 1))),
  some (.hi (.tab s.ws s.c)),some (.arr 30 (us s.hp)),some (.arr 121 (evs s.ev)),some (.arr 100 (qN s.ft)),
  some (.arr 98 [.pointer (some ⟨10,0,none⟩),.pointer (some ⟨11,0,none⟩),.int .i64 a.n,.int .u64 a.rv,.int .u64 a.wv,.int .u8 6,.int .i64 a.ra.t,.int .u64 a.ra.v,.int .i64 1,.int .i64 a.nx,.int .u64 a.sw,.int .u64 a.sv,.int .i64 a.ss,.bool a.dec]),
  some (zBz (s.ts (u1 th))),some (zBz (s.ts (u2 th))),some (zBz (s.ts (u3 th))),
  some (.arr 41 jB.cells),some (.hi (.set 0 a.es)),some (.hi (.log a.fs)),some (.arr 41 jB.cells),some (.arr 41 jB.cells),some (.arr 3 (qI (jZ s.ws th))),some (.arr 104 (prs (jC a.fs)))]
theorem zLr (θ:Nat->Nat) (a b:Value) (th:Nat) (q:Value) (ts:Nat->Option TA) (x y:Value) (h6:θ 6=6) (h7:θ 7=7) (h8:θ 8=8):zAh θ (qC a b th q ts x y)=qC (ren θ a) (ren θ b) th (ren θ q) ts (ren θ x) (ren θ y):=by
 unfold qC tps
 split<;> simp[zAh,h6,h7,h8]
theorem qKb (s:TS) (hs:s.Ok) (hev:s.ev.length<=100000) (th:Nat) (hth:th<4) (a:TA) (ha:s.ts th=some a) (hk6:a.ra.k=6) (hph:a.ph=1):zD Tryz.prog cfg 15 [.pointer (some ⟨0,0,none⟩),.int .i64 th] (AH.of [some (.hi (.teng s))])
  fun r H'=> r=.ret (zGg s th a).1.v/\H'=AH.of [some (.hi (.teng (zGg s th a).2))]:=by
 refine zD.ends ?_
 have hok:=hs.ts th a ha
 have hg:=hs.tab
 have hgl:=hok.fs
 have hn12:=qCz a.fs
 obtain⟨T,hT⟩:∃T,zJn a.fs=T:=⟨_,rfl⟩
 obtain⟨n,hn⟩:∃n,(jC a.fs).length=n:=⟨_,rfl⟩
 have hTl:T.length=n:=by rw[←hT,←hn,zJn,List.length_map]
 obtain⟨N,hN⟩:∃N,zHm s.ws a.fs=N:=⟨_,rfl⟩
 have hst:zEo s.ws T n=N:=by rw[←hN,←qHz,hT,hTl]
 have hNl:N.length<=8:=by have h1:=qL9 s.ws T n s.ws.length;rw[←zNr hg,hst] at h1;have:=hg.len8;omega
 have hNr:∀x∈N,0<=x/\x<s.ws.length:=fun x hx=> zL1 hg a.fs (by rw[hN];exact hx)
 obtain⟨Hd,hHd⟩:∃Hd,jZ s.ws th=Hd:=⟨_,rfl⟩
 have hHl:Hd.length<=1000:=by have h1:=zQu s.ws th s.ws.length;have h2:=hg.len8;rw[←hHd];unfold jZ;omega
 have hR:zGg s th a=match zFq N Hd with
  |some st=> if zD4 s.ws th st=true then (zAz (zDh s.ws st),s) else (jB,{ s with ws:=zCx s.ws th st })
  |none=> if zEi s.c=0 then (jB,{ s with c:=zD1 s.c,ts:=qB s.ts th (some { a with wv:=zD1 s.c,ph:=2,nx:=0 }) }) else (xR 2,zBf s th a 2):=by
  unfold zGg;rw[hN,hHd]
  cases zFq N Hd<;> rfl
 generalize zGg s th a=R at hR⊢
 refine zD.openTEng hth ?_
 obtain⟨z1,z2,z3,z4,gt,gg,gs⟩:=zAq hth
 refine zP (tbl:=jU) zAe 13 5 (af:=a15) rfl ?_
 rw[a15,b15,zW]
 refine⟨by simp,?_⟩
 simp -implicitDefEqProofs [qK,forms46,a46,b46,forms53,a53,b53,forms109,a109,b109,forms154,a154,b154,forms207,a207,b207,forms51,a51,b51,zX,zK0,zMp,hHd,hn,jU,zZ,qE,forms50,a50,b50,forms56,a56,b56,forms151,a151,b151,z1,z2,z3,z4,gt,gg,gs,xQ,jA,xP,xK,jX,xC,xB,xA,xU,xT,jI,ha,zJ,zR,zH,hg,hk6,hph,hgl]
 refine zA3 (qR jG (qS zAe) _ _ noY qM) (fun m tm H=> ∃i:Nat,m+i=n/\tm 0=.pointer (some ⟨0,0,none⟩)/\tm 12=.slice (some ⟨15,0,none⟩) n 1/\tm 13=.int .i64 n/\tm 14=.int .i64 i/\tm 5=.slice (some ⟨16,0,none⟩) i 1/\H=AH.of (zEv s th a++[some (.arr 3 (qI (T.take i)))])) (m:=n) ?_ (by omega) ?_
 ·refine zF4 [.nil 3] [0,1,2,3,4,5,6,7,8,9,10,11,12,13,14,15,16] (zEv s th a++[some (.arr 3 (qI []))]) [(5,.slice (some ⟨16,0,none⟩) 0 1)] n (by omega) ?_ ?_ ?_ ⟨0,?_⟩<;> simp[zEv,jB,Rp.cells,zLr,hHd,show qI []=[] from rfl]
 rintro m tm H ⟨i,hm,t0,t12,t13,t14,t5,rfl⟩
 by_cases hi:i<n
 ·obtain⟨p,hp⟩:∃p,(jC a.fs)[i]?=some p:=⟨(jC a.fs)[i]'(by omega),List.getElem?_eq_getElem (by omega)⟩
  have hi':(i:Int)<n:=by omega
  have hwr:=jV hi (by omega)
  have mp:((prs (jC a.fs)).drop (i*2)).take 2=[.int .i64 p.t,.int .u64 p.v]:=zK7 hp
  have rp:i*2+2<=(prs (jC a.fs)).length:=by rw[zB8,hn];omega
  have hsuc:=zZ5 hp
  rw[hT] at hsuc
  have hr3:(i+1)*8<=140737488355328/\i<=9223372036854775806:=by omega
  have htl:(T.take i).length=i:=by rw[List.length_take];omega
  have htk:=zJp (T.take i)
  rw[htl] at htk
  have hil:i<=(qI (T.take i)).length:=by rw[zCq,htl];omega
  simp -implicitDefEqProofs [zEv,jB,Rp.cells,t0,t12,t13,t14,t5,hi,hi',hwr,mp,rp,hr3,htk,hil,htl]
  refine qD [] [0,1,2,3,4,5,6,7,8,9,10,11,12,13,14,15,19] (zEv s th a++[some (.arr 3 (qI (T.take (i+1))))]) (m - 1) (by omega) ?_ ?_ ⟨i+1,by omega,?_,?_,?_,?_,?_,rfl⟩<;> simp[zEv,jB,Rp.cells,zLr,t0,t12,t13,t5,hsuc,zEl,zEk]
 ·have hie:i=n:=by omega
  have hi':¬(i:Int)<n:=by omega
  have hti:T.take i=T:=by rw[hie,←hTl];exact List.take_length
  rw[hti]
  rw[hie] at t5 t14 hi'
  have n1000:n<=1000:=by omega
  have hnT:n<=T.length:=by omega
  simp -implicitDefEqProofs [zEv,jB,Rp.cells,jU,zMo,t0,t12,t13,t14,t5,hg,hst,n1000,hnT,xQ,jX,jI]
  refine zA3 (qR jG (qS zAe) _ _ noY qM) (fun m tm H=> ∃i:Nat,m+i=N.length/\(∀j y,j<i->N[j]?=some y->y∈Hd)/\tm 0=.pointer (some ⟨0,0,none⟩)/\tm 1=.int .i64 th/\tm 2=.pointer (some ⟨5,0,none⟩)/\tm 6=.pointer (some ⟨13,0,none⟩)/\tm 7=.slice (some ⟨14,0,none⟩) Hd.length 1/\tm 22=.slice (some ⟨17,0,none⟩) N.length 1/\tm 23=.int .i64 N.length/\tm 24=.int .i64 i/\H=AH.of (zEv s th a++[some (.arr 3 (qI T)),some (.arr 3 (qI N))])) (m:=N.length) ?_ (by omega) ?_
  ·refine qD [] [0,1,2,3,4,5,6,7,8,9,10,11,12,13,14,15,16,17] (zEv s th a++[some (.arr 3 (qI T)),some (.arr 3 (qI N))]) N.length (by omega) ?_ ?_ ⟨0,?_⟩<;> simp[zEv,jB,Rp.cells,zLr]
  rintro m tm H ⟨i,hm,hpre,t0,t1,t2,t6,t7,t22,t23,t24,rfl⟩
  by_cases hi:i<N.length
  ·obtain⟨x,hx⟩:=zAs (l:=N) (i:=i) (by omega)
   have hi':(i:Int)<N.length:=by omega
   have hwr:=jV hi (by omega)
   have ux:=zFp hx
   have gx:=zF8 hx
   have hxr:=hNr x (List.mem_of_getElem? hx)
   by_cases hin:x∈Hd
   ·simp -implicitDefEqProofs [zEv,jB,Rp.cells,jU,zO8,t0,t1,t2,t6,t7,t22,t23,t24,hi,hi',hwr,ux,gx,hHd,hHl,hin]
    refine qD [] [0,1,2,3,4,5,6,7,8,9,10,11,12,13,14,15,16,17] (zEv s th a++[some (.arr 3 (qI T)),some (.arr 3 (qI N))]) (m - 1) (by omega) ?_ ?_ ⟨i+1,by omega,fun j y hj hy=> ?_,?_⟩
    ·simp
    ·simp[zEv,jB,Rp.cells,zLr,hHd]
    ·by_cases e:j=i
     ·subst e;rw[hx] at hy;cases hy;exact hin
     ·exact hpre j y (by omega) hy
    ·simp[zEv,jB,Rp.cells,hHd,t0,t1,t2,t6,t7,t22,t23]
   ·have hf:=qIx hpre hx hin
    rw[hf] at hR
    simp only at hR
    cases hB:zDi s.ws x with
    |true=>
     have hne:¬zDh s.ws x=(th:Int):=zYe hxr (by rw[hHd];exact hin) hB
     have hO:zD4 s.ws th x=true:=by simp[zD4,hB,hne]
     rw[if_pos hO] at hR
     obtain⟨o,ho⟩:∃o,zDh s.ws x=o:=⟨_,rfl⟩
     rw[ho] at hne hR
     subst hR
     simp -implicitDefEqProofs [zEv,jB,Rp.cells,zO8,zF1,t0,t1,t2,t6,t7,t22,t23,t24,hi,hi',hwr,ux,gx,hHd,hHl,hin,hB,ho,hne,jU,zZ,qE,forms50,a50,b50,forms56,a56,b56,forms151,a151,b151,z1,z2,z3,z4,gt,gg,gs,xQ,jA,xP,xK,jX,xC,xB,xA,xU,xT,jI,ha,zJ,zR,zH,hg,hk6,hph,hgl]
     obtain⟨q4,hq⟩:=zAa th
     rcases qL hth with rfl|rfl|rfl|rfl<;> (refine zA [.pack (GD.tatt a) 5 [10,11],.pack (GD.teng s) 0 (1::2::3::4::p4 5 q4)] [0] ?_ ?_ ?_<;> simp[hq,p4,zX,qG,qC,tps,zJ,zR,qB,ha,zH,jF,u1,u2,u3,Rp.v,Rp.cells,jB,zA5,xM,xR,zAz,jS,jR,xZ,xL,xF,hk6,hph])
    |false=>
     have hO:¬zD4 s.ws th x=true:=by simp[zD4,hB]
     rw[if_neg hO] at hR
     subst hR
     obtain⟨W,hW⟩:∃W,zCx s.ws th x=W:=⟨_,rfl⟩
     rw[hW]
     simp -implicitDefEqProofs [zEv,jB,Rp.cells,zO8,zF1,zVw,t0,t1,t2,t6,t7,t22,t23,t24,hi,hi',hwr,ux,gx,hHd,hHl,hin,hB,hW,jU,zZ,qE,forms50,a50,b50,forms56,a56,b56,forms151,a151,b151,z1,z2,z3,z4,gt,gg,gs,xQ,jA,xP,xK,jX,xC,xB,xA,xU,xT,jI,ha,zJ,zR,zH,hg,hk6,hph,hgl]
     obtain⟨q4,hq⟩:=zAa th
     rcases qL hth with rfl|rfl|rfl|rfl<;> (refine zA [.pack (GD.tatt a) 5 [10,11],.pack (GD.teng { s with ws:=W }) 0 (1::2::3::4::p4 5 q4)] [0] ?_ ?_ ?_<;> simp[hq,p4,zX,qG,qC,tps,zJ,zR,qB,ha,zH,jF,u1,u2,u3,Rp.v,Rp.cells,jB,zA5,xM,xR,zAz,jS,jR,xZ,xL,xF,hk6,hph])
  ·have hie:i=N.length:=by omega
   have hi':¬(i:Int)<N.length:=by omega
   have hf:zFq N Hd=none:=qA5 fun j y hj hy=> hpre j y (by omega) hy
   rw[hf] at hR
   simp only at hR
   by_cases hc:zEi s.c=0
   ·have ht:zH8 s.c=zD1 s.c:=if_pos hc
    rw[if_pos hc] at hR
    obtain⟨v,hv⟩:∃v,zD1 s.c=v:=⟨_,rfl⟩
    rw[hv] at hR ht
    subst hR
    simp -implicitDefEqProofs [zEv,jB,Rp.cells,zRs,t0,t1,t2,t6,t7,t22,t23,t24,hi',hc,hv,ht,jU,zZ,qE,forms50,a50,b50,forms56,a56,b56,forms151,a151,b151,z1,z2,z3,z4,gt,gg,gs,xQ,jA,xP,xK,jX,xC,xB,xA,xU,xT,jI,ha,zJ,zR,zH,hg,hk6,hph,hgl]
    obtain⟨q4,hq⟩:=zAa th
    rcases qL hth with rfl|rfl|rfl|rfl<;> (refine zA [.pack (GD.tatt { a with wv:=v,ph:=2,nx:=0 }) 5 [10,11],.pack (GD.teng { s with c:=v,ts:=qB s.ts q4 (some { a with wv:=v,ph:=2,nx:=0 }) }) 0 (1::2::3::4::p4 5 q4)] [0] ?_ ?_ ?_<;> simp[hq,p4,zX,qG,qC,tps,zJ,zR,qB,ha,zH,jF,u1,u2,u3,Rp.v,Rp.cells,jB,zA5,xM,xR,zAz,jS,jR,xZ,xL,xF,hk6,hph])
   ·have ht:zH8 s.c=s.c:=if_neg hc
    rw[if_neg hc] at hR
    subst hR
    obtain⟨W,hW⟩:∃W,zDc s.ws th=W:=⟨_,rfl⟩
    unfold zBf
    rw[hW]
    have hn1:=hok.n
    have hn2:(a.n:Int)<s.ft.length:=by omega
    have hn3:a.n*3+2+1<=s.ft.length*3:=by omega
    have hfw:=zEm 2 hok.n
    have hel:=zAo hev
    have t3:=zAf s.ev
    simp -implicitDefEqProofs [zEv,jB,Rp.cells,zRs,zHs,t0,t1,t2,t6,t7,t22,t23,t24,hi',hc,ht,hW,hn1,hn2,hn3,hfw,zBn,hel,t3,jM,jU,zZ,qE,forms50,a50,b50,forms56,a56,b56,forms151,a151,b151,z1,z2,z3,z4,gt,gg,gs,xQ,jA,xP,xK,jX,xC,xB,xA,xU,xT,jI,ha,zJ,zR,zH,hg,hk6,hph,hgl]
    obtain⟨q4,hq⟩:=zAa th
    rcases qL hth with rfl|rfl|rfl|rfl<;> (refine zA [.nil 98,.pack (GD.teng { ws:=W,c:=s.c,hp:=s.hp,ts:=qB s.ts q4 none,ev:=s.ev++[⟨9,a.n,0,0⟩],ft:=zCn s.ft a.n 2 }) 0 (1::2::21::4::p4 22 q4)] [0] ?_ ?_ ?_<;> simp[hq,p4,zX,qG,qC,tps,zJ,zR,qB,ha,zH,jF,u1,u2,u3,Rp.v,Rp.cells,jB,zA5,xM,xR,zAz,jS,jR,xZ,xL,xF,hk6,hph])
end YtapbabkndhaemaaGreat
end Go.Proofs
/-
 TL2:Step,Kill,Ask,all together.
-/
namespace Go.Proofs
namespace YtapbabkndhaemaaGreat
open Go.Abs
theorem zQ9 (s:TS) (th:Nat) (hth:th<4) (hb:s.ts th=none∨∃a,s.ts th=some a/\a.ra.k=0):zD Tryz.prog cfg 15 [.pointer (some ⟨0,0,none⟩),.int .i64 th] (AH.of [some (.hi (.teng s))])
  fun r H'=> r=.ret (zA5 8).v/\H'=AH.of [some (.hi (.teng s))]:=by
 refine zD.ends ?_
 refine zD.openTEng hth ?_
 obtain⟨z1,z2,z3,z4,gt,gg,gs⟩:=zAq hth
 rcases hb with ha|⟨a,ha,hf⟩
 ·refine zP (tbl:=[]) (by simp) 0 3 (af:=a15) rfl ?_
  rw[a15,b15,zW]
  refine⟨by simp,?_⟩
  simp -implicitDefEqProofs [qK,forms46,a46,b46,z1,z2,z3,gt,gg,ha,zJ,zR]
  obtain⟨q4,hq⟩:=zAa th
  rcases qL hth with rfl|rfl|rfl|rfl<;> (refine zA [.pack (GD.teng s) 0 (1::2::3::4::p4 5 q4)] [0] ?_ ?_ ?_<;> simp[hq,p4,qG,ha,qC,tps,zJ,zR,u1,u2,u3,zA5,Rp.v,Rp.cells])
 ·refine zP (tbl:=[]) (by simp) 0 3 (af:=a15) rfl ?_
  rw[a15,b15,zW]
  refine⟨by simp,?_⟩
  simp -implicitDefEqProofs [qK,forms46,a46,b46,forms51,a51,b51,z1,z2,z3,gt,gg,ha,zJ,zR,zH,zX,hf]
  obtain⟨q4,hq⟩:=zAa th
  rcases qL hth with rfl|rfl|rfl|rfl<;> (refine zA [.pack (GD.tatt a) 5 [10,11],.pack (GD.teng s) 0 (1::2::3::4::p4 5 q4)] [0] ?_ ?_ ?_<;> simp[hq,p4,zX,qG,qC,tps,zJ,zR,hf,ha,zH,u1,u2,u3,zA5,Rp.v,Rp.cells])
theorem zZ6 (d:GD) (t:Int) (ht:t<0∨4<=t):zD Tryz.prog cfg 15 [.pointer (some ⟨0,0,none⟩),.int .i64 t] (AH.of [some (.hi d)])
  fun r H'=> r=.ret (zA5 2).v/\H'=AH.of [some (.hi d)]:=by
 refine zD.ends ?_
 have ht':¬t<0->4<=t:=fun h=> by omega
 refine zP (tbl:=[]) (by simp) 0 3 (af:=a15) rfl ?_
 rw[a15,b15,zW]
 refine⟨by simp,?_⟩
 by_cases h1:t<0
 ·simp -implicitDefEqProofs [forms46,a46,b46,h1]
  refine zA [] [0] ?_ ?_ ?_<;> simp[zA5,Rp.v,Rp.cells]
 ·simp -implicitDefEqProofs [forms46,a46,b46,h1,ht' h1]
  refine zA [] [0] ?_ ?_ ?_<;> simp[zA5,Rp.v,Rp.cells]
theorem zAk {f:FuncId} {args:List Value} {H:AH GD} {r r':Rp} {s s':TS} (h:zD Tryz.prog cfg f args H fun r1 H'=> r1=.ret r.v/\H'=AH.of [some (.hi (.teng s))]) (e:(r,s)=(r',s')):
  zD Tryz.prog cfg f args H fun r1 H'=> r1=.ret r'.v/\H'=AH.of [some (.hi (.teng s'))]:=by
 cases e;exact h
theorem zZ4 {ws:List Int} {c:Int} (h:GoodT ws c) {t:Int} (ht:0<=t/\t<12):RightW (zBl ws (ofT ws t)):=by
 obtain⟨h0,h1⟩:=zR8 h ht
 obtain⟨w,hw⟩:∃w,ws[(ofT ws t).toNat]?=some w:=⟨ws[(ofT ws t).toNat]'(by omega),List.getElem?_eq_getElem (by omega)⟩
 have hi:inR ws (ofT ws t):=⟨h0,h1⟩
 unfold zBl
 rw[if_pos hi]
 have:=zA0 hw
 rw[show (((ofT ws t).toNat:Nat):Int)=ofT ws t by omega] at this
 rw[this]
 exact (h.get hw).1
theorem qDn (s:TS) (hs:s.Ok) (hev:s.ev.length<=100000) (th:Nat) (hth:th<4):
  zD Tryz.prog cfg 15 [.pointer (some ⟨0,0,none⟩),.int .i64 th] (AH.of [some (.hi (.teng s))])
  fun r H'=> r=.ret (zBd s th).1.v/\H'=AH.of [some (.hi (.teng (zBd s th).2))]:=by
 cases ha:s.ts th with
 |none=> exact zAk (zQ9 s th hth (.inl ha)) (by simp[zBd,ha])
 |some a=>
  have hok:=hs.ts th a ha
  have hlk:=hs.lk th a ha
  have hask:=hok.ask
  by_cases hk0:a.ra.k=0
  ·exact zAk (zQ9 s th hth (.inr ⟨a,ha,hk0⟩)) (by simp[zBd,ha,hk0])
  have hkk:a.ra.k=1∨a.ra.k=2∨a.ra.k=3∨a.ra.k=4∨a.ra.k=5∨a.ra.k=6∨a.ra.k=7:=by have:=hask.1;have:=hask.2.1;omega
  obtain⟨f,fs,hfs⟩:∃f fs,a.fs=f::fs:=by
   cases h:a.fs with
   |nil=> exact absurd h hok.fs.1
   |cons f fs=> exact⟨f,fs,rfl⟩
  have hwt:=hok.ww
  rcases hkk with k1|k2|k3|k4|k5|k6|k7
  ·have e0:zBd s th=zC8 s th a:=by simp[zBd,ha,k1]
   rw[e0]
   have hra:=hask.2.2.1 (.inl k1)
   cases hv:qQ a.fs a.ra.t with
   |some v=> exact zAk (qJ8 s hs hev th hth a ha k1 v hv) (by simp[zC8,hv])
   |none=>
    have hss:=hok.sr k1
    have hss3:a.ss=0∨a.ss=1∨a.ss=2:=by omega
    rcases hss3 with h0|h1|h2
    ·cases hB:zDi s.ws (ofT s.ws a.ra.t) with
     |true=>
      by_cases hO:zDh s.ws (ofT s.ws a.ra.t)=(th:Int)
      ·have hb:zD4 s.ws th (ofT s.ws a.ra.t)=false:=by simp[zD4,hB,hO]
       by_cases hlt:a.rv<zAu s.ws (ofT s.ws a.ra.t)
       ·exact zAk (qC5 s hs hev th hth a ha k1 hv _ rfl h0 hB hO _ rfl hlt _ rfl) (by simp[zC8,hv,h0,hb,hlt,zBf])
       ·exact zAk (qC4 s hs hev th hth a ha k1 hv _ rfl h0 hB hO _ rfl hlt _ rfl) (by simp[zC8,hv,h0,hb,hlt,zDq])
      ·have hb:zD4 s.ws th (ofT s.ws a.ra.t)=true:=by simp[zD4,hB,hO]
       exact zAk (qF1 s hs hev th hth a ha k1 hv _ rfl h0 _ hB rfl hO) (by simp[zC8,hv,h0,hb])
     |false=>
      have hb:zD4 s.ws th (ofT s.ws a.ra.t)=false:=by simp[zD4,hB]
      by_cases hlt:a.rv<zAu s.ws (ofT s.ws a.ra.t)
      ·exact zAk (qF0 s hs hev th hth a ha k1 hv _ rfl h0 hB _ rfl hlt _ rfl) (by simp[zC8,hv,h0,hb,hlt,zBf])
      ·exact zAk (qFz s hs hev th hth a ha k1 hv _ rfl h0 hB _ rfl hlt _ rfl) (by simp[zC8,hv,h0,hb,hlt,zDq])
    ·obtain⟨y,hy⟩:∃y,s.hp[a.ra.t.toNat]?=some y:=⟨s.hp[a.ra.t.toNat]'(by omega),List.getElem?_eq_getElem (by omega)⟩
     exact zAk (qJ9 s hs hev th hth a ha k1 hv _ rfl h1 y hy) (by simp[zC8,hv,h1,hy,zDq])
    ·by_cases hw:zBl s.ws (ofT s.ws a.ra.t)=a.sw
     ·by_cases hA:zCe a.es ⟨a.ra.t,a.sv,zAu s.ws (ofT s.ws a.ra.t)⟩=0
      ·exact zAk (qFx s hs hev th hth a ha k1 hv _ rfl h2 hw _ rfl hA) (by simp[zC8,hv,h2,hw,hA])
      ·exact zAk (qFy s hs hev th hth a ha k1 hv _ rfl h2 hw _ rfl hA _ rfl) (by simp[zC8,hv,h2,hw,hA,zBf])
     ·exact zAk (qFw s hs hev th hth a ha k1 hv _ rfl h2 _ rfl hw _ rfl) (by simp[zC8,hv,h2,hw,zBf])
  ·have e0:zBd s th=zDu s th a:=by simp[zBd,ha,k2]
   rw[e0]
   have hc:zPc a.fs a.ra.t a.ra.v=jQ f fs a.ra.t a.ra.v:=by rw[hfs];rfl
   have hf:zPb a.fs a.ra.t a.ra.v=xE f ⟨a.ra.t,a.ra.v⟩::fs:=by rw[hfs];rfl
   by_cases hP:jQ f fs a.ra.t a.ra.v=0
   ·exact zAk (qFu s hs hev th hth a ha k2 f fs hfs hP) (by simp[zDu,k2,hc,hP,hf])
   ·exact zAk (qFv s hs hev th hth a ha k2 f fs hfs hP _ rfl) (by simp[zDu,k2,hc,hP,zBf])
  ·have e0:zBd s th=zDu s th a:=by simp[zBd,ha,k3]
   rw[e0]
   have hl:=hwt.1 k3
   have hl2:¬4<=fs.length:=by rw[hfs] at hl;simp at hl;omega
   have hp:zMw a.fs=[]::f::fs:=by rw[hfs,zMw,if_neg (by simp;omega)]
   exact zAk (qJ7 s hs hev th hth a ha k3 f fs hfs hl2) (by simp[zDu,k3,hp])
  ·have e0:zBd s th=zDu s th a:=by simp[zBd,ha,k4]
   rw[e0]
   have hl:=hwt.2 (.inl k4)
   rw[hfs] at hl
   cases fs with
   |nil=> simp at hl
   |cons g rs=> exact zAk (qJ6 s hs hev th hth a ha k4 f g rs hfs) (by simp[zDu,k4,hfs,zPm])
  ·have e0:zBd s th=zDu s th a:=by simp[zBd,ha,k5]
   rw[e0]
   have hl:=hwt.2 (.inr k5)
   rw[hfs] at hl
   cases fs with
   |nil=> simp at hl
   |cons g rs=> exact zAk (qJ5 s hs hev th hth a ha k5 f g rs hfs) (by simp[zDu,k5,hfs,zKs])
  ·have e0:zBd s th=zC9 s th a:=by simp[zBd,ha,k6]
   rw[e0]
   have hph:=hok.ph
   have hph5:a.ph=0∨a.ph=1∨a.ph=2∨a.ph=3∨a.ph=4:=by omega
   rcases hph5 with h0|h1|h2|h3|h4
   ·by_cases hall:jC a.fs=[]
    ·exact zAk (qGa s hs hev th hth a ha k6 h0 hall) (by simp[zC9,h0,hall,zBi])
    ·exact zAk (qF9 s hs hev th hth a ha k6 h0 hall) (by simp[zC9,h0,hall])
   ·exact zAk (qKb s hs hev th hth a ha k6 h1) (by simp[zC9,h1])
   ·cases hx:a.es[a.nx]? with
    |none=>
     have hge:a.es.length<=a.nx:=List.getElem?_eq_none_iff.1 hx
     have hle:=hok.p2 h2
     exact zAk (qF7 s hs hev th hth a ha k6 h2 (by omega)) (by simp[zC9,h2,zGj,hx])
    |some e=>
     have her:=hok.es.range e (List.mem_of_getElem? hx)
     have hR:=zZ4 hs.tab her
     cases hP:zKd (zBl s.ws (ofT s.ws e.t)) th a.rv with
     |true=> exact zAk (qF6 s hs hev th hth a ha k6 h2 e hx _ rfl _ rfl hR hP) (by simp[zC9,h2,zGj,hx,hP,zDq])
     |false=> exact zAk (qF8 s hs hev th hth a ha k6 h2 e hx _ rfl _ rfl hR hP _ rfl) (by simp[zC9,h2,zGj,hx,hP,zBf])
   ·obtain⟨p,hp⟩:∃p,(jC a.fs)[a.nx]?=some p:=⟨(jC a.fs)[a.nx]'(hok.p3 h3),List.getElem?_eq_getElem (hok.p3 h3)⟩
    obtain⟨g,hg,hpg⟩:=zZx (List.mem_of_getElem? hp)
    have hpr:=hok.fst g hg p hpg
    by_cases hl:a.nx+1=(jC a.fs).length
    ·exact zAk (qF5 s hs hev th hth a ha k6 h3 p hp ⟨hpr.1,hpr.2.1⟩ hl) (by simp[zC9,h3,hp,hl])
    ·refine zAk (qF4 s hs hev th hth a ha k6 h3 p hp ⟨hpr.1,hpr.2.1⟩ hl) ?_
     cases a
     simp_all [zC9]
   ·have hne:=hlk.2.1 (by omega)
    cases hh:jZ s.ws th with
    |nil=> exact absurd hh hne
    |cons h rest=>
     cases rest with
     |nil=> exact zAk (qF3 s hs hev th hth a ha k6 h4 h hh _ rfl) (by simp[zC9,h4,hh,zBi])
     |cons h2 rest=> exact zAk (qF2 s hs hev th hth a ha k6 h4 h h2 rest hh _ rfl) (by simp[zC9,h4,hh])
  ·have e0:zBd s th=(xR 4,zBf s th a 4):=by simp[zBd,ha,k7]
   rw[e0]
   exact zAk (qKa s hs hev th hth a ha k7 _ rfl) (by simp[zBf])
def zNo (s:TS) (t:Int):Rp:=match zFg t with
 |none=> zA5 2
 |some th=> (zBd s th).1
def zC7 (s:TS) (t:Int):TS:=match zFg t with
 |none=> s
 |some th=> (zBd s th).2
theorem qC7 (r:Rp):xD r.v=true:=rfl
def d15:zDs
 |.teng s,[.int .i64 t]=> some (s.Ok/\s.ev.length<=100000,(zNo s t).v,.teng (zC7 s t))
 |_,_=> none
theorem qBz:zY Tryz.prog cfg 15 (zZ d15):=zCk fun d rest p v d' h hp=> by
 unfold d15 at h
 split at h
 case h_2=> cases h
 rename_i s t
 cases h
 refine⟨rfl,qC7 _,?_⟩
 cases ht:zFg t with
 |none=> simp only[zNo,zC7,ht];exact zZ6 _ _ (zJ2 ht)
 |some th=>
  obtain⟨h1,rfl⟩:=zCt ht
  simp only[zNo,zC7,ht]
  exact qDn s hp.1 hp.2 th h1
theorem zWm (s:TS) (th:Nat) (hth:th<4) (hb:s.ts th=none∨∃a,s.ts th=some a/\a.dec=true):zD Tryz.prog cfg 22 [.pointer (some ⟨0,0,none⟩),.int .i64 th] (AH.of [some (.hi (.teng s))])
  fun r H'=> r=.ret (.int .i64 8)/\H'=AH.of [some (.hi (.teng s))]:=by
 refine zD.ends ?_
 refine zD.openTEng hth ?_
 obtain⟨z1,z2,z3,z4,gt,gg,gs⟩:=zAq hth
 rcases hb with ha|⟨a,ha,hd⟩
 ·refine zP (tbl:=[]) (by simp) 0 3 (af:=a22) rfl ?_
  rw[a22,b22,zW]
  refine⟨by simp,?_⟩
  simp -implicitDefEqProofs [qK,forms46,a46,b46,z1,z2,z3,gt,gg,ha,zJ,zR]
  obtain⟨q4,hq⟩:=zAa th
  rcases qL hth with rfl|rfl|rfl|rfl<;> (refine zA [.pack (GD.teng s) 0 (1::2::3::4::p4 5 q4)] [0] ?_ ?_ ?_<;> simp[hq,p4,qG,ha,qC,tps,zJ,zR,u1,u2,u3])
 ·refine zP (tbl:=[]) (by simp) 0 3 (af:=a22) rfl ?_
  rw[a22,b22,zW]
  refine⟨by simp,?_⟩
  simp -implicitDefEqProofs [qK,forms46,a46,b46,z1,z2,z3,gt,gg,ha,zJ,zR,zH,zX,hd]
  obtain⟨q4,hq⟩:=zAa th
  rcases qL hth with rfl|rfl|rfl|rfl<;> (refine zA [.pack (GD.tatt a) 5 [9,10],.pack (GD.teng s) 0 (1::2::3::4::p4 5 q4)] [0] ?_ ?_ ?_<;> simp[hq,p4,zX,qG,qC,tps,zJ,zR,hd,ha,zH,u1,u2,u3])
theorem zZ9 (d:GD) (t:Int) (ht:t<0∨4<=t):zD Tryz.prog cfg 22 [.pointer (some ⟨0,0,none⟩),.int .i64 t] (AH.of [some (.hi d)])
  fun r H'=> r=.ret (.int .i64 2)/\H'=AH.of [some (.hi d)]:=by
 refine zD.ends ?_
 have ht':¬t<0->4<=t:=fun h=> by omega
 refine zP (tbl:=[]) (by simp) 0 3 (af:=a22) rfl ?_
 rw[a22,b22,zW]
 refine⟨by simp,?_⟩
 by_cases h1:t<0
 ·simp -implicitDefEqProofs [forms46,a46,b46,h1]
  refine zA [] [0] ?_ ?_ ?_<;> simp
 ·simp -implicitDefEqProofs [forms46,a46,b46,h1,ht' h1]
  refine zA [] [0] ?_ ?_ ?_<;> simp
def zWn (s:TS) (t:Int):Int:=match zFg t with
 |none=> 2
 |some th=> zRe s th
def zGh (s:TS) (t:Int):TS:=match zFg t with
 |none=> s
 |some th=> zFl s th
def d22:zDs
 |.teng s,[.int .i64 t]=> some (s.Ok/\s.ev.length<=100000,.int .i64 (zWn s t),.teng (zGh s t))
 |_,_=> none
theorem qRr:zY Tryz.prog cfg 22 (zZ d22):=zCk fun d rest p v d' h hp=> by
 unfold d22 at h
 split at h
 case h_2=> cases h
 rename_i s t
 cases h
 refine⟨rfl,rfl,?_⟩
 cases ht:zFg t with
 |none=> simp only[zWn,zGh,ht];exact zZ9 _ _ (zJ2 ht)
 |some th=>
  obtain⟨h1,rfl⟩:=zCt ht
  simp only[zWn,zGh,ht]
  cases ha:s.ts th with
  |none=>
   simp only[zRe,zFl,ha]
   exact zWm s th h1 (.inl ha)
  |some a=>
   cases hd:a.dec with
   |true=>
    simp only[zRe,zFl,ha,hd,if_true]
    exact zWm s th h1 (.inr ⟨a,ha,hd⟩)
   |false=>
    simp only[zRe,zFl,ha,hd,Bool.false_eq_true,if_false]
    exact qC6 s hp.1 hp.2 th h1 a ha hd _ rfl
theorem zTh (s:TS) (hs:s.Ok) (th:Nat) (hth:th<4) (a:TA) (ha:s.ts th=some a) (hf:a.ra.k=0) (x:Ak) (hk0:0<=x.k):zD Tryz.prog cfg 14 [.pointer (some ⟨0,0,none⟩),.int .i64 th,.agg #[.int .u8 x.k,.int .i64 x.t,.int .u64 x.v]] (AH.of [some (.hi (.teng s))])
  fun r H'=> r=.ret (.int .i64 (zB2 a.fs s.hp.length x))/\H'=AH.of [some (.hi (.teng (if zB2 a.fs s.hp.length x=0 then zAr s th x else s)))]:=by
 have hl1:1<=a.fs.length:=by
  have:=(hs.ts th a ha).fs.1
  cases h:a.fs with
  |nil=> exact absurd h this
  |cons f fs=> simp
 obtain⟨k,t,v⟩:=x
 simp only at hk0⊢
 have hd:a.fs.length=1∨(a.fs.length≠1/\1<=a.fs.length/\a.fs.length<5)∨a.fs.length≥5:=by omega
 have ht:t<0∨(0<=t/\(s.hp.length:Int)<=t)∨(0<=t/\t<s.hp.length):=by omega
 have go:∀{c:Int} {s':TS},zB2 a.fs s.hp.length ⟨k,t,v⟩=c->(if c=0 then zAr s th ⟨k,t,v⟩ else s)=s'->zD Tryz.prog cfg 14 [.pointer (some ⟨0,0,none⟩),.int .i64 th,.agg #[.int .u8 k,.int .i64 t,.int .u64 v]] (AH.of [some (.hi (.teng s))]) (fun r H'=> r=.ret (.int .i64 c)/\H'=AH.of [some (.hi (.teng s'))])->
   zD Tryz.prog cfg 14 [.pointer (some ⟨0,0,none⟩),.int .i64 th,.agg #[.int .u8 k,.int .i64 t,.int .u64 v]] (AH.of [some (.hi (.teng s))]) (fun r H'=> r=.ret (.int .i64 (zB2 a.fs s.hp.length ⟨k,t,v⟩))/\H'=AH.of [some (.hi (.teng (if zB2 a.fs s.hp.length ⟨k,t,v⟩=0 then zAr s th ⟨k,t,v⟩ else s)))]):=by
  intro c s' h1 h2 h3
  rw[h1,h2];exact h3
 have hk:k=0∨7<k∨k=1∨k=2∨k=3∨k=4∨k=5∨k=6∨k=7:=by omega
 rcases hk with rfl|hk|rfl|rfl|rfl|rfl|rfl|rfl|rfl
 ·exact go (by simp[zB2]) rfl (qVs s hs th hth a ha hf t v)
 ·exact go (by simp[zB2,hk]) rfl (qVr s hs th hth a ha hf k hk t v)
 ·rcases ht with ht|ht|ht
  ·exact go (by simp[zB2,ht]) rfl (qQ6 s hs th hth a ha hf t v ht)
  ·exact go (by simp[zB2,ht.2]) rfl (qQ7 s hs th hth a ha hf t v ht)
  ·have t1:¬t<0:=by omega
   have t2:¬(s.hp.length:Int)<=t:=by omega
   exact go (by simp[zB2,t1,t2]) rfl (qQ5 s hs th hth a ha hf t v ht)
 ·rcases ht with ht|ht|ht
  ·exact go (by simp[zB2,ht]) rfl (qQ3 s hs th hth a ha hf t v ht)
  ·exact go (by simp[zB2,ht.2]) rfl (qQ4 s hs th hth a ha hf t v ht)
  ·have t1:¬t<0:=by omega
   have t2:¬(s.hp.length:Int)<=t:=by omega
   cases hr:zAg v with
   |false=> exact go (by simp[zB2,t1,t2,hr]) rfl (qQ2 s hs th hth a ha hf t v ht hr)
   |true=> exact go (by simp[zB2,t1,t2,hr]) rfl (qQ1 s hs th hth a ha hf t v ht hr)
 ·rcases hd with hd|hd|hd
  ·exact go (by simp[zB2];omega) rfl (qQy s hs th hth a ha hf t v hd)
  ·exact go (by simp[zB2];omega) rfl (qQz s hs th hth a ha hf t v hd)
  ·have h5:5<=a.fs.length:=hd
   exact go (by simp[zB2,h5]) rfl (qQ0 s hs th hth a ha hf t v hd)
 ·rcases hd with hd|hd|hd
  ·exact go (by simp[zB2,hd]) rfl (qQv s hs th hth a ha hf t v hd)
  ·exact go (by simp[zB2,hd.1]) rfl (qQw s hs th hth a ha hf t v hd)
  ·have h5:¬a.fs.length=1:=by omega
   exact go (by simp[zB2,h5]) rfl (qQx s hs th hth a ha hf t v hd)
 ·rcases hd with hd|hd|hd
  ·exact go (by simp[zB2,hd]) rfl (qQs s hs th hth a ha hf t v hd)
  ·exact go (by simp[zB2,hd.1]) rfl (qQt s hs th hth a ha hf t v hd)
  ·have h5:¬a.fs.length=1:=by omega
   exact go (by simp[zB2,h5]) rfl (qQu s hs th hth a ha hf t v hd)
 ·rcases hd with hd|hd|hd
  ·exact go (by simp[zB2,hd]) rfl (qQp s hs th hth a ha hf t v hd)
  ·have h5:1<a.fs.length:=by omega
   exact go (by simp[zB2,h5]) rfl (qQq s hs th hth a ha hf t v hd)
  ·have h5:1<a.fs.length:=by omega
   exact go (by simp[zB2,h5]) rfl (qQr s hs th hth a ha hf t v hd)
 ·exact go (by simp[zB2]) rfl (qQo s hs th hth a ha hf t v)
def zRo (s:TS) (t:Int) (x:Ak):Int:=match zFg t with
 |none=> 2
 |some th=> zE5 s th x
def zE4 (s:TS) (t:Int) (x:Ak):TS:=match zFg t with
 |none=> s
 |some th=> if zE5 s th x=0 then zAr s th x else s
def d14:zDs
 |.teng s,[.int .i64 t,.agg ⟨[.int .u8 k,.int .i64 tv,.int .u64 v]⟩]=> some (s.Ok/\0<=k,.int .i64 (zRo s t ⟨k,tv,v⟩),.teng (zE4 s t ⟨k,tv,v⟩))
 |_,_=> none
theorem qB0:zY Tryz.prog cfg 14 (zZ d14):=zCk fun d rest p v d' h hp=> by
 unfold d14 at h
 split at h
 case h_2=> cases h
 rename_i s t k tv v
 cases h
 refine⟨rfl,rfl,?_⟩
 cases ht:zFg t with
 |none=> simp only[zRo,zE4,ht];exact qDa _ _ (zJ2 ht) ⟨k,tv,v⟩
 |some th=>
  obtain⟨h1,rfl⟩:=zCt ht
  simp only[zRo,zE4,ht]
  cases ha:s.ts th with
  |none=>
   have e:zE5 s th ⟨k,tv,v⟩=8:=by simp[zE5,ha]
   rw[if_neg (by rw[e];decide)]
   exact zUc s th h1 (.inl ha) ⟨k,tv,v⟩
  |some a=>
   by_cases hf:a.ra.k=0
   ·have e:zE5 s th ⟨k,tv,v⟩=zB2 a.fs s.hp.length ⟨k,tv,v⟩:=by simp[zE5,ha,hf]
    rw[e]
    exact zTh s hp.1 th h1 a ha hf ⟨k,tv,v⟩ hp.2
   ·have e:zE5 s th ⟨k,tv,v⟩=7:=by simp[zE5,ha,hf]
    rw[if_neg (by rw[e];decide)]
    have:=(hp.1.ts th a ha).ask.1
    exact zUc s th h1 (.inr ⟨a,ha,by omega⟩) ⟨k,tv,v⟩
end YtapbabkndhaemaaGreat
end Go.Proofs
/-
 TL2:a table as owners and versions.
-/
namespace Go.Proofs
namespace YtapbabkndhaemaaGreat
open Go.Abs
theorem zKu (ws:List Int) (o:Int) (i:Nat):isH ws o i=decide (xX ws i=o/\0<=o):=by
 rw[zOd]
 unfold xX
 cases ws[i]? with
 |some w=> rfl
 |none=>
  simp only
  symm
  rw[decide_eq_false_iff_not]
  omega
theorem zTp {ws:List Int} {i:Nat} (h:0<=xX ws i):i<ws.length:=by
 unfold xX at h
 cases hx:ws[i]? with
 |some w=> exact at_lt hx
 |none=> rw[hx] at h;simp at h
theorem qD4 {ws:List Int} {c:Int} (h:GoodT ws c) (i:Nat): -1<=xX ws i/\xX ws i<4:=by
 unfold xX
 cases hx:ws[i]? with
 |some w=> exact (h.get hx).1.own
 |none=> simp
theorem qHr {ws:List Int} {i:Nat} (hi:i<ws.length):zDi ws i=decide (0<=xX ws i)/\(0<=xX ws i->zDh ws i=xX ws i):=by
 obtain⟨w,hx⟩:∃w,ws[i]?=some w:=⟨ws[i],List.getElem?_eq_getElem hi⟩
 have hr:inR ws i:=⟨by omega,by omega⟩
 have e:xX ws i=zAx w:=by unfold xX;rw[hx]
 rw[e]
 unfold zDi zDh
 rw[if_pos hr,if_pos hr,zA0 hx]
 exact⟨rfl,fun h=> if_pos h⟩
theorem zFe {ws:List Int} {o x:Int}:x∈jZ ws o↔∃i:Nat,x=(i:Int)/\xX ws i=o/\0<=o:=by
 rw[zYx]
 constructor
 ·rintro⟨i,h1,h2,h3⟩
  rw[zKu] at h3
  exact⟨i,h2,by simpa using h3⟩
 ·rintro⟨i,h2,h3,h4⟩
  exact⟨i,zTp (by omega),h2,by rw[zKu];simp[h3,h4]⟩
theorem zLb {ws:List Int} {o:Int} (ho:0<=o):jZ ws o=[]↔∀i,xX ws i≠o:=by
 constructor
 ·intro h i hi
  have:(i:Int)∈jZ ws o:=zFe.2 ⟨i,rfl,hi,ho⟩
  rw[h] at this;cases this
 ·intro h
  rw[List.eq_nil_iff_forall_not_mem]
  intro x hx
  obtain⟨i,_,h2,_⟩:=zFe.1 hx
  exact h i h2
theorem qIm {ws ws':List Int} {o:Int} (hl:ws'.length=ws.length) (h:∀i,xX ws' i=o↔xX ws i=o):jZ ws' o=jZ ws o:=by
 unfold jZ zEw
 rw[hl]
 congr 1
 refine List.filter_congr fun i _=> ?_
 rw[zKu,zKu]
 simp[h i]
theorem zQo {ws:List Int} {i j:Nat} {v:Int} (hi:i<ws.length):xX (ws.set i v) j=if j=i then zAx v else xX ws j:=by
 unfold xX
 rw[List.getElem?_set]
 by_cases h:i=j
 ·subst h;simp[hi]
 ·have h2:¬j=i:=fun e=> h e.symm
  simp[h,h2]
theorem zYl {ws:List Int} {c:Int} (h:GoodT ws c) {i:Nat} (hi:i<ws.length) (hf:xX ws i= -1) {o:Int} (ho:0<=o/\o<4):
  (zCx ws o i).length=ws.length/\∀j,xX (zCx ws o i) j=if j=i then o else xX ws j:=by
 obtain⟨w,hx⟩:∃w,ws[i]?=some w:=⟨ws[i],List.getElem?_eq_getElem hi⟩
 have hr:inR ws i:=⟨by omega,by omega⟩
 have e:zAx w= -1:=by unfold xX at hf;rwa [hx] at hf
 have hc:zGw ws o i=0:=by
  unfold zGw zGt
  rw[if_pos hr,zA0 hx,e,if_neg (by omega),if_neg (by omega),if_neg (by omega)]
 have hcw:zGt w o=0:=by unfold zGw at hc;rwa [if_pos hr,zA0 hx] at hc
 have hL:zCx ws o i=ws.set i (zHb w o):=by
  unfold zCx
  rw[if_pos hc,zA0 hx,Int.toNat_natCast]
 rw[hL]
 refine⟨by simp,fun j=> ?_⟩
 rw[zQo hi]
 split
 ·unfold zHb;rw[if_pos hcw,zMd (by omega)]
 ·rfl
theorem zJ3 {ws:List Int} {c:Int} (h:GoodT ws c) {i:Nat} {o:Int} (hi:xX ws i=o) (ho:0<=o/\o<4) {v:Int} (hv:zAu ws i<=v/\v<=c):
  (xI ws c o i v).length=ws.length/\(∀j,xX (xI ws c o i v) j=if j=i then -1 else xX ws j)/\∀j:Nat,zAu (xI ws c o i v) j=if j=i then v else zAu ws j:=by
 have hil:i<ws.length:=zTp (by omega)
 obtain⟨w,hx⟩:∃w,ws[i]?=some w:=⟨ws[i],List.getElem?_eq_getElem hil⟩
 have hr:inR ws i:=⟨by omega,by omega⟩
 have e:zAx w=o:=by unfold xX at hi;rwa [hx] at hi
 have ev:zAu ws i=zBp w:=by rw[zL9,hx]
 have h0:=(h.get hx).1.ver0.1
 have c1:=h.c1
 have hcw:zE0 w o v=0:=by
  unfold zE0
  rw[if_neg (by omega),if_neg (by omega)]
 have hc:zFy ws c o i v=0:=by
  unfold zFy
  rw[if_pos hr,if_neg (by omega),zA0 hx]
  exact hcw
 have hL:xI ws c o i v=ws.set i (mkW (-1) v):=by
  unfold xI
  rw[if_pos hc,zA0 hx,Int.toNat_natCast]
  unfold zFk
  rw[if_pos hcw]
 rw[hL]
 refine⟨by simp,fun j=> ?_,fun j=> ?_⟩
 ·rw[zQo hil]
  split
  ·rw[zMd (by omega)]
  ·rfl
 ·rw[zP5 hil]
  by_cases hj:i=j
  ·subst hj;rw[if_pos rfl,if_pos rfl,zKp (by omega)]
  ·rw[if_neg hj,if_neg (fun h=> hj h.symm)]
theorem zQx {ws:List Int} {c:Int} (h:GoodT ws c) {o:Int} (ho:0<=o/\o<4):
  (zDc ws o).length=ws.length/\∀j,xX (zDc ws o) j=if xX ws j=o then -1 else xX ws j:=by
 have key:∀n,n<=ws.length->∀j,xX (zDn ws o n) j=if j<n/\xX ws j=o then -1 else xX ws j:=by
  intro n
  induction n with
  |zero=> intro _ j;simp[zDn,zE7]
  |succ n ih=>
   intro hn j
   have ih:=ih (by omega)
   have hg:GoodT (zDn ws o n) c:=zJ9 h o _
   have hlen:(zDn ws o n).length=ws.length:=zK2 _ _ _
   rw[zN2]
   have hnn:=ih n
   rw[if_neg (by omega)] at hnn
   by_cases hq:xX ws n=o
   ·have hH:isH (zDn ws o n) o n=true:=by rw[zKu,hnn];simp[hq,ho.1]
    obtain⟨w,hx⟩:∃w,(zDn ws o n)[n]?=some w:=⟨(zDn ws o n)[n]'(by omega),List.getElem?_eq_getElem (by omega)⟩
    have hr:inR (zDn ws o n) n:=⟨by omega,by omega⟩
    have hc:=(zLz (o:=o) hg n).2 hH
    have hcw:zG8 w o=0:=by unfold zD3 at hc;rwa [if_pos hr,zA0 hx] at hc
    have hL:zA4 (zDn ws o n) o n=(zDn ws o n).set n (mkW (-1) (zBp w)):=by
     unfold zA4
     rw[if_pos hc,zA0 hx,Int.toNat_natCast]
     unfold zG7
     rw[if_pos hcw]
    rw[hL,zQo (by omega)]
    by_cases hj:j=n
    ·subst hj;rw[if_pos rfl,if_pos ⟨by omega,hq⟩,zMd (by omega)]
    ·rw[if_neg hj,ih j]
     by_cases hjo:xX ws j=o
     ·by_cases hjn:j<n
      ·rw[if_pos ⟨hjn,hjo⟩,if_pos ⟨by omega,hjo⟩]
      ·rw[if_neg (by omega),if_neg (by omega)]
     ·rw[if_neg (by omega),if_neg (by omega)]
   ·have hH:isH (zDn ws o n) o n=false:=by rw[zKu,hnn];simp[hq]
    rw[zMu hg hH,ih j]
    by_cases hj:j=n
    ·subst hj;rw[if_neg (by omega),if_neg (by omega)]
    ·by_cases hjo:xX ws j=o
     ·by_cases hjn:j<n
      ·rw[if_pos ⟨hjn,hjo⟩,if_pos ⟨by omega,hjo⟩]
      ·rw[if_neg (by omega),if_neg (by omega)]
     ·rw[if_neg (by omega),if_neg (by omega)]
 refine⟨zK2 _ _ _,fun j=> ?_⟩
 have:=key ws.length (Nat.le_refl _) j
 unfold zDc
 rw[this]
 by_cases hj:xX ws j=o
 ·have:=zTp (ws:=ws) (i:=j) (by omega)
  rw[if_pos ⟨this,hj⟩,if_pos hj]
 ·rw[if_neg (fun h=> hj h.2),if_neg hj]
structure OthT (ws ws':List Int) (th:Nat):Prop where
 len:ws'.length=ws.length
 own:∀i (j:Int),j≠th->0<=j->(xX ws' i=j↔xX ws i=j)
 ver:∀i:Nat,0<=xX ws i->xX ws i≠th->zAu ws' i=zAu ws i
theorem OthT.refl (ws:List Int) (th:Nat):OthT ws ws th:=⟨rfl,fun _ _ _ _=> Iff.rfl,fun _ _ _=> rfl⟩
theorem OthT.held {ws ws':List Int} {th:Nat} (h:OthT ws ws' th) {j:Nat} (hj:j≠th):jZ ws' (j:Int)=jZ ws j:=qIm h.len fun i=> h.own i j (by omega) (by omega)
theorem qMr {ws:List Int} {c:Int} (h:GoodT ws c) {i:Nat} (hi:i<ws.length) (hf:xX ws i= -1) {th:Nat} (ho:th<4):OthT ws (zCx ws th i) th:=by
 obtain⟨h1,h2⟩:=zYl h hi hf (o:=th) ⟨by omega,by omega⟩
 refine⟨h1,fun k j hj h0=> ?_,fun k _ _=> zYk h _ _ _⟩
 rw[h2 k]
 split
 ·rename_i e;subst e;rw[hf];omega
 ·rfl
theorem zR5 {ws:List Int} {c:Int} (h:GoodT ws c) {i:Nat} {th:Nat} (hi:xX ws i=th) (ho:th<4) {v:Int} (hv:zAu ws i<=v/\v<=c):OthT ws (xI ws c th i v) th:=by
 obtain⟨h1,h2,h3⟩:=zJ3 h hi ⟨by omega,by omega⟩ hv
 refine⟨h1,fun k j hj h0=> ?_,fun k _ hk=> ?_⟩
 ·rw[h2 k]
  split
  ·rename_i e;subst e;rw[hi];omega
  ·rfl
 ·rw[h3 k,if_neg]
  rintro rfl;exact hk hi
theorem qMs {ws:List Int} {c:Int} (h:GoodT ws c) {th:Nat} (ho:th<4):OthT ws (zDc ws th) th:=by
 obtain⟨h1,h2⟩:=zQx h (o:=th) ⟨by omega,by omega⟩
 refine⟨h1,fun k j hj h0=> ?_,fun k _ _=> zY8 h _ _⟩
 rw[h2 k]
 split
 ·omega
 ·rfl
end YtapbabkndhaemaaGreat
end Go.Proofs
/-
 TL2:what holds of it stays so.
-/
namespace Go.Proofs
namespace YtapbabkndhaemaaGreat
open Go.Abs
theorem zTf {ts:Nat->Option TA} {th:Nat} {a:TA} (h:ts th=some a):ts=qB ts th (some a):=by
 funext j
 simp only[qB]
 split
 ·rename_i e;rw[e,h]
 ·rfl
theorem TA.Ok.mono {a:TA} {s s':TS} (h:a.Ok s) (h1:s.ft.length<=s'.ft.length) (h2:s'.hp.length=s.hp.length) (h3:s.c<=s'.c):a.Ok s' where
 n:=Nat.lt_of_lt_of_le h.n h1
 rv:=⟨h.rv.1,Int.le_trans h.rv.2 h3⟩
 wv:=⟨h.wv.1,Int.le_trans h.wv.2 h3⟩
 es:=h.es
 est:=by rw[h2];exact h.est
 fs:=h.fs
 fst:=by rw[h2];exact h.fst
 ask:=by rw[h2];exact h.ask
 sw:=h.sw
 sv:=h.sv
 ss:=h.ss
 sr:=h.sr
 nx:=h.nx
 ph:=h.ph
 p2:=h.p2
 p3:=h.p3
 p6:=h.p6
 ww:=h.ww
theorem TS.Ok.turn {s s':TS} (hs:s.Ok) {th:Nat} (hth:th<4) {x:Option TA} (hts:s'.ts=qB s.ts th x) (hhp:s'.hp.length=s.hp.length) (hhv:∀v∈s'.hp,0<=v/\v<18446744073709551616) (hc:s.c<=s'.c) (htab:GoodT s'.ws s'.c) (hoth:OthT s.ws s'.ws th)
  (hft:s'.ft.length<=64) (hfl:s.ft.length<=s'.ft.length) (hb:∀b,x=some b->b.Ok s'/\zOr s'.ws th b) (hn:x=none->jZ s'.ws (th:Int)=[]):s'.Ok where
 hp:=by rw[hhp];exact hs.hp
 hv:=hhv
 tab:=htab
 ft:=hft
 ts:=fun i a hi=> by
  rw[hts] at hi
  by_cases he:i=th
  ·subst he;rw[zNt] at hi;exact (hb a hi).1
  ·rw[zJ7 _ _ he] at hi;exact (hs.ts i a hi).mono hfl hhp hc
 lk:=fun i a hi=> by
  rw[hts] at hi
  by_cases he:i=th
  ·subst he;rw[zNt] at hi;exact (hb a hi).2
  ·rw[zJ7 _ _ he] at hi
   obtain⟨h1,h2,h3,h4⟩:=hs.lk i a hi
   refine⟨by rw[hoth.held he];exact h1,by rw[hoth.held he];exact h2,h3,fun hp k hk=> ?_⟩
   have hk':=(hoth.own k i (by omega) (by omega)).1 hk
   rw[hoth.ver k (by omega) (by omega)]
   exact h4 hp k hk'
 no:=fun i hi=> by
  rw[hts] at hi
  by_cases he:i=th
  ·subst he;rw[zNt] at hi;exact hn hi
  ·rw[zJ7 _ _ he] at hi;rw[hoth.held he];exact hs.no i hi
 th4:=fun i hi=> by rw[hts,zJ7 _ _ (by omega)];exact hs.th4 i hi
theorem TS.Ok.turn0 {s s':TS} (hs:s.Ok) {th:Nat} (hth:th<4) {b:TA} (hts:s'.ts=qB s.ts th (some b)) (hws:s'.ws=s.ws) (hc:s'.c=s.c) (hhp:s'.hp=s.hp) (hft:s'.ft.length<=64) (hfl:s.ft.length<=s'.ft.length) (hb:b.Ok s') (hl:zOr s.ws th b):s'.Ok:=
 hs.turn hth hts (by rw[hhp]) (by rw[hhp];exact hs.hv) (by omega) (by rw[hws,hc];exact hs.tab) (by rw[hws];exact OthT.refl _ _) hft hfl (fun b' h=> by cases h;rw[hws];exact⟨hb,hl⟩) (fun h=> by cases h)
theorem TS.Ok.begin {s:TS} (hs:s.Ok) {th:Nat} (hth:th<4) (h:zD8 s th=0):(zAt s th).Ok:=by
 have h1:s.ts th=none/\s.ft.length<64:=by
  unfold zD8 at h
  split at h
  ·cases h
  ·rename_i h0
   split at h
   ·cases h
   ·exact⟨by simpa using h0,by omega⟩
 have hc:=hs.tab.c0
 refine hs.turn0 hth (s':=zAt s th) rfl rfl rfl rfl (by simp[zAt];omega) (by simp[zAt]) ?_ ?_
 ·exact { n:=(by simp[zB9,zAt])
          rv:=⟨hc,Int.le_refl _⟩
          wv:=⟨Int.le_refl _,hc⟩
          es:=qNl
          est:=(fun e he=> by cases he)
          fs:=zLc
          fst:=(fun f hf p hp=> by simp only[zB9,List.mem_singleton] at hf;subst hf;cases hp)
          ask:=⟨Int.le_refl _,(by simp[zB9]),(fun h=> by simp[zB9] at h),Int.le_refl _,(by simp[zB9])⟩
          sw:=⟨Int.le_refl _,(by simp[zB9])⟩
          sv:=⟨Int.le_refl _,(by simp[zB9])⟩
          ss:=(by simp[zB9])
          sr:=(fun h=> by simp[zB9] at h)
          nx:=(by simp[zB9])
          ph:=(by simp[zB9])
          p2:=(fun h=> by simp[zB9] at h)
          p3:=(fun h=> by simp[zB9] at h)
          p6:=(fun h=> by simp[zB9] at h)
          ww:=⟨(fun h=> by simp[zB9] at h),(fun h=> by simp[zB9] at h)⟩ }
 ·exact⟨fun _=> hs.no th h1.1,fun h=> by simp[zB9] at h,by simp[zB9],fun h=> by simp[zB9] at h⟩
theorem qJy {fs:List (List Pr)} {hl:Nat} {x:Ak} (h:zB2 fs hl x=0) (hk:0<=x.k):1<=x.k/\x.k<=7/\(x.k=1∨x.k=2->0<=x.t/\x.t<hl)/\(x.k=3->fs.length<5)/\(x.k=4∨x.k=5->fs.length≠1):=by
 unfold zB2 at h
 split at h
 ·cases h
 split at h
 ·cases h
 split at h
 ·cases h
 split at h
 ·cases h
 split at h
 ·cases h
 split at h
 ·cases h
 ·refine⟨by omega,by omega,fun h=> by omega,fun h=> by omega,fun h=> by omega⟩
theorem zG9 {s:TS} {a:TA} (h:a.Ok s) (hk:a.ra.k≠6):a.ph=0:=by
 by_cases hp:a.ph=0
 ·exact hp
 ·exact absurd (h.p6 hp).1 hk
theorem TS.Ok.ask {s:TS} (hs:s.Ok) {th:Nat} (hth:th<4) {x:Ak} (hk:0<=x.k) (hv:0<=x.v/\x.v<18446744073709551616) (h:zE5 s th x=0):(zAr s th x).Ok:=by
 unfold zE5 at h
 cases ha:s.ts th with
 |none=> rw[ha] at h;cases h
 |some a=>
  rw[ha] at h
  simp only at h
  split at h
  ·cases h
  ·rename_i hf
   have hf:a.ra.k=0:=by simpa using hf
   have hw:=qJy h hk
   have hok:=hs.ts th a ha
   have hlk:=hs.lk th a ha
   have hp0:=zG9 hok (by omega)
   have hl1:1<=a.fs.length:=by
    have:=hok.fs.1
    cases h:a.fs with
    |nil=> exact absurd h this
    |cons f fs=> simp
   have hd:a.dec=false:=by
    cases hd:a.dec
    ·rfl
    ·have:=hlk.2.2.1.1 hd;omega
   have e:zAr s th x={ s with ts:=qB s.ts th (some { a with ra:=x,ph:=0,nx:=0,sw:=0,sv:=0,ss:=0 }) }:=by simp[zAr,ha]
   rw[e]
   refine hs.turn0 hth rfl rfl rfl rfl hs.ft (Nat.le_refl _) ?_ ?_
   ·exact { n:=hok.n
            rv:=hok.rv
            wv:=hok.wv
            es:=hok.es
            est:=hok.est
            fs:=hok.fs
            fst:=hok.fst
            ask:=⟨hk,hw.2.1,hw.2.2.1,hv⟩
            sw:=⟨Int.le_refl _,(by simp)⟩
            sv:=⟨Int.le_refl _,(by simp)⟩
            ss:=(by simp)
            sr:=(fun _=> by simp)
            nx:=(by simp)
            ph:=(by simp)
            p2:=(fun h=> by simp at h)
            p3:=(fun h=> by simp at h)
            p6:=(fun h=> by simp at h)
            ww:=⟨hw.2.2.2.1,fun h=> by have h2:=hw.2.2.2.2 h;show 1<a.fs.length;omega⟩ }
   ·exact⟨fun _=> hlk.1 hp0,fun h=> by simp at h,by simp[hd],fun h=> by simp at h⟩
theorem TS.Ok.end {s:TS} (hs:s.Ok) {th:Nat} (hth:th<4) (a:TA) (why:Int):(zBf s th a why).Ok:=by
 refine hs.turn hth (s':=zBf s th a why) (x:=none) rfl rfl hs.hv (Int.le_refl _) (hs.tab.drop _) (qMs hs.tab hth) (by simp only[zBf,xL];exact hs.ft) (by simp only[zBf,xL];exact Nat.le_refl _) (fun b h=> by cases h) (fun _=> qIn hs.tab _)
theorem TS.Ok.kill {s:TS} (hs:s.Ok) {th:Nat} (hth:th<4):(zFl s th).Ok:=by
 unfold zFl
 cases s.ts th with
 |none=> exact hs
 |some a=>
  simp only
  split
  ·exact hs
  ·exact hs.end hth a 3
theorem TA.Ok.free {a:TA} {s:TS} (h:a.Ok s) (hp0:a.ph=0) {es:List Ent} {fs:List (List Pr)} {ss:Nat} (he:Good es) (het:∀e∈es,e.t<s.hp.length) (hf:zBb fs) (hft:∀f∈fs,∀p∈f,0<=p.t/\p.t<s.hp.length/\0<=p.v/\p.v<18446744073709551616) (hss:ss<=3):
  ({ a with ra:=⟨0,0,0⟩,es:=es,fs:=fs,ss:=ss }:TA).Ok s where
 n:=h.n
 rv:=h.rv
 wv:=h.wv
 es:=he
 est:=het
 fs:=hf
 fst:=hft
 ask:=⟨Int.le_refl _,by simp,fun h=> by simp at h,Int.le_refl _,by simp⟩
 sw:=h.sw
 sv:=h.sv
 ss:=hss
 sr:=fun h=> by simp at h
 nx:=h.nx
 ph:=h.ph
 p2:=fun h=> by simp only at h;omega
 p3:=fun h=> by simp only at h;omega
 p6:=fun h=> by simp only at h;omega
 ww:=⟨fun h=> by simp at h,fun h=> by simp at h⟩
theorem qEd {ws:List Int} {th:Nat} {a b:TA} (h:zOr ws th a) (ha:a.ph=0) (hb:b.ph=0) (hd:b.dec=a.dec):zOr ws th b:=
 ⟨fun _=> h.1 ha,fun h=> by omega,by rw[hd,h.2.2.1];omega,fun h=> by omega⟩
theorem qC0 {ws:List Int} {c:Int} (h:GoodT ws c) (st:Int):0<=zBl ws st/\zBl ws st<18446744073709551616:=by
 unfold zBl
 split
 ·rename_i hi
  have hw:=(h.getW hi).1
  exact⟨hw.lo,hw.hi⟩
 ·omega
theorem zWh {s:TS} (hs:s.Ok) {th:Nat} (hth:th<4) {a:TA} (ha:s.ts th=some a) (k1:a.ra.k=1):(zC8 s th a).2.Ok:=by
 have hok:=hs.ts th a ha
 have hlk:=hs.lk th a ha
 have hp0:=zG9 hok (by omega)
 have hra:=hok.ask.2.2.1 (.inl k1)
 have hss:=hok.sr k1
 have put:∀b:TA,b.Ok s->b.ph=0->b.dec=a.dec->(zDq s th b).Ok:=fun b h1 h2 h3=>
  hs.turn0 hth (s':=zDq s th b) rfl rfl rfl rfl hs.ft (Nat.le_refl _) (h1.mono (Nat.le_refl _) rfl (Int.le_refl _)) (qEd hlk hp0 h2 h3)
 have got:∀(es:List Ent) (ss:Nat) (v:Int),Good es->(∀e∈es,e.t<s.hp.length)->ss<=3->(zCl s th { a with ss:=ss,es:=es } v).Ok:=fun es ss v h1 h2 h3=> by
  refine hs.turn0 hth (s':=zCl s th { a with ss:=ss,es:=es } v) rfl rfl rfl rfl hs.ft (Nat.le_refl _) ?_ (qEd hlk hp0 hp0 rfl)
  exact (hok.free hp0 h1 h2 hok.fs hok.fst h3).mono (Nat.le_refl _) rfl (Int.le_refl _)
 unfold zC8
 split
 ·exact got a.es a.ss _ hok.es hok.est hok.ss
 ·split
  ·split
   ·exact hs
   ·split
    ·exact hs.end hth a 1
    ·refine put _ ?_ hp0 rfl
     exact { hok with sw:=qC0 hs.tab _,ss:=(by simp),sr:=(fun _=> by simp) }
  ·split
   ·obtain⟨y,hy⟩:∃y,s.hp[a.ra.t.toNat]?=some y:=⟨s.hp[a.ra.t.toNat]'(by omega),List.getElem?_eq_getElem (by omega)⟩
    have hyv:=hs.hv y (List.mem_of_getElem? hy)
    refine put _ ?_ hp0 rfl
    exact { hok with sv:=(by simp[hy];exact hyv),ss:=(by simp),sr:=(fun _=> by simp) }
   ·split
    ·split
     ·refine got _ 3 _ (hok.es.add _) (fun e he=> ?_) (by omega)
      rcases qO1 he with he|rfl
      ·exact hok.est e he
      ·exact hra.2
     ·exact hs.end hth a 2
    ·exact hs.end hth a 1
theorem zWg {s:TS} (hs:s.Ok) {th:Nat} (hth:th<4) {a:TA} (ha:s.ts th=some a) (k2:a.ra.k=2∨a.ra.k=3∨a.ra.k=4∨a.ra.k=5):(zDu s th a).2.Ok:=by
 have hok:=hs.ts th a ha
 have hlk:=hs.lk th a ha
 have hp0:=zG9 hok (by omega)
 have go:∀(fs:List (List Pr)) (ev:List Ev),zBb fs->(∀f∈fs,∀p∈f,0<=p.t/\p.t<s.hp.length/\0<=p.v/\p.v<18446744073709551616)->({ s with ts:=qB s.ts th (some { a with ra:=⟨0,0,0⟩,fs:=fs }),ev:=ev }:TS).Ok:=fun fs ev h1 h2=> by
  refine hs.turn0 hth (s':={ s with ts:=qB s.ts th (some { a with ra:=⟨0,0,0⟩,fs:=fs }),ev:=ev }) rfl rfl rfl rfl hs.ft (Nat.le_refl _) ?_ (qEd hlk hp0 hp0 rfl)
  exact (hok.free hp0 hok.es hok.est h1 h2 hok.ss).mono (Nat.le_refl _) rfl (Int.le_refl _)
 obtain⟨f,fs,hfs⟩:∃f fs,a.fs=f::fs:=by
  cases h:a.fs with
  |nil=> exact absurd h hok.fs.1
  |cons f fs=> exact⟨f,fs,rfl⟩
 have hgl:=hok.fs
 have hft:=hok.fst
 have hww:=hok.ww
 rw[hfs] at hgl hft hww
 unfold zDu
 split
 ·rename_i k3
  have hl:=hww.1 k3
  have h5:¬5<=(f::fs).length:=by omega
  rw[hfs,zMw,if_neg h5]
  exact go _ _ (zUi hgl hl) fun g hg=> by
   rcases List.mem_cons.1 hg with rfl|hg
   ·intro p hp;cases hp
   ·exact hft g hg
 ·split
  ·rename_i k4
   have hl:=hww.2 (.inl k4)
   cases fs with
   |nil=> simp at hl
   |cons g rs=>
    rw[hfs]
    exact go _ _ (zUu hgl) fun q hq=> hft q (by simp only[zPm] at hq;exact List.mem_cons_of_mem _ hq)
  ·split
   ·rename_i k5
    have hl:=hww.2 (.inr k5)
    cases fs with
    |nil=> simp at hl
    |cons g rs=>
     rw[hfs]
     refine go _ _ (zSa hgl) fun q hq=> ?_
     simp only[zKs] at hq
     rcases List.mem_cons.1 hq with rfl|hq
     ·exact zSb (hft g (by simp)) (hft f (by simp)) fun p q h1 h2=> ⟨h1.1,h1.2.1,h2.2.2⟩
     ·exact hft q (by simp[hq])
   ·split
    ·rename_i k3 k4 k5 hP
     have k2':a.ra.k=2:=by omega
     have hra:=hok.ask
     have hr:=hra.2.2.1 (.inr k2')
     rw[hfs] at hP⊢
     simp only[zPc] at hP
     refine go _ _ (zX6 hgl hP) fun q hq=> ?_
     simp only[zPb] at hq
     rcases List.mem_cons.1 hq with rfl|hq
     ·intro p hp
      rcases zQm hp with rfl|h|⟨r,hr2,rfl⟩
      ·exact⟨hr.1,hr.2,hra.2.2.2⟩
      ·exact hft f (by simp) p h
      ·have:=hft f (by simp) r hr2
       exact⟨this.1,this.2.1,hra.2.2.2⟩
     ·exact hft q (by simp[hq])
    ·exact hs.end hth a 2
theorem zHd {fs:List (List Pr)} {p:Pr} (hp:p∈jC fs):0<=p.t/\p.t<12:=by
 unfold jC zC3 at hp
 obtain⟨t,ht,h⟩:=List.mem_filterMap.1 hp
 simp only[Option.map_eq_some_iff] at h
 obtain⟨v,_,rfl⟩:=h
 have:=List.mem_range.1 ht
 exact⟨by simp only;omega,by simp only;omega⟩
theorem zUj {ws:List Int} {c:Int} (h:GoodT ws c) {fs:List (List Pr)} {p:Pr} (hp:p∈jC fs):ofT ws p.t∈zHm ws fs:=by
 unfold zHm zEo
 rw[zP3]
 unfold zGp
 rw[List.mem_filter,List.take_of_length_le (by simp)]
 refine⟨List.mem_map.2 ⟨p.t,List.mem_map.2 ⟨p,hp,rfl⟩,rfl⟩,?_⟩
 simpa using (zR8 h (zHd hp)).1
theorem zSg {l held:List Int} {x:Int} (h:zFq l held=some x):x∈l/\x∉held:=by
 unfold zFq at h
 exact⟨List.mem_of_find?_eq_some h,by simpa using List.find?_some h⟩
theorem zSh {l held:List Int} (h:zFq l held=none):∀x∈l,x∈held:=by
 unfold zFq at h
 rw[List.find?_eq_none] at h
 intro x hx
 simpa using h x hx
theorem zQw {ws:List Int} {c:Int} (h:GoodT ws c) {th:Nat} {x:Int} (hr:0<=x/\x<ws.length) (hn:x∉jZ ws th) (hb:¬zD4 ws th x=true):xX ws x.toNat= -1:=by
 obtain⟨i,rfl⟩:=Int.eq_ofNat_of_zero_le hr.1
 have hi:i<ws.length:=by omega
 obtain⟨h1,h2⟩:=qHr hi
 have hrange:=qD4 h i
 rw[Int.toNat_natCast]
 by_cases h0:0<=xX ws i
 ·exfalso
  have hB:zDi ws i=true:=by rw[h1];simpa using h0
  have hV:=h2 h0
  by_cases he:xX ws i=th
  ·exact hn (zFe.2 ⟨i,rfl,he,by omega⟩)
  ·exact hb (by simp[zD4,hB,hV,he])
 ·omega
theorem zWi {s:TS} (hs:s.Ok) {th:Nat} (hth:th<4) {a:TA} (ha:s.ts th=some a) (k6:a.ra.k=6):(zC9 s th a).2.Ok:=by
 have hok:=hs.ts th a ha
 have hlk:=hs.lk th a ha
 have hg:=hs.tab
 unfold zC9
 split
 ·rename_i h0
  split
  ·exact hs.turn hth (s':=zBi { s with ev:=s.ev++[⟨7,a.n,0,0⟩] } th a) (x:=none) rfl rfl hs.hv (Int.le_refl _) hs.tab (OthT.refl _ _) hs.ft (Nat.le_refl _) (fun b h=> by cases h) (fun _=> hlk.1 h0)
  ·rename_i hne
   refine hs.turn0 hth (s':={ s with ts:=qB s.ts th (some { a with ph:=1 }),ev:=s.ev++[⟨7,a.n,0,0⟩] }) rfl rfl rfl rfl hs.ft (Nat.le_refl _) ?_ ?_
   ·have hok':a.Ok { s with ts:=qB s.ts th (some { a with ph:=1 }),ev:=s.ev++[⟨7,a.n,0,0⟩] }:=hok.mono (Nat.le_refl _) rfl (Int.le_refl _)
    exact { hok' with ph:=(by simp),p2:=(fun h=> by simp at h),p3:=(fun h=> by simp at h),p6:=(fun _=> ⟨k6,hne⟩) }
   ·have h3:=hlk.2.2.1
    exact⟨fun h=> by simp at h,fun h=> by simp at h,by rw[show ({ a with ph:=1 }:TA).dec=a.dec from rfl,h3];simp;omega,fun h=> by simp at h⟩
 ·rename_i hp0
  obtain⟨_,hne⟩:=hok.p6 hp0
  split
  ·rename_i h1
   unfold zGg
   split
   ·rename_i st hst
    obtain⟨hm,hnh⟩:=zSg hst
    have hr:=zL1 hg a.fs hm
    split
    ·exact hs
    ·rename_i hb
     have hfree:=zQw hg hr hnh hb
     obtain⟨i,rfl⟩:=Int.eq_ofNat_of_zero_le hr.1
     rw[Int.toNat_natCast] at hfree
     have hi:i<s.ws.length:=by omega
     have hoth:=qMr hg hi hfree hth
     refine hs.turn hth (s':={ s with ws:=zCx s.ws th i }) (x:=some a) (zTf ha) rfl hs.hv (Int.le_refl _) (hg.lock _ _) hoth hs.ft (Nat.le_refl _) (fun b h=> ?_) (fun h=> by cases h)
     cases h
     refine⟨hok.mono (Nat.le_refl _) rfl (Int.le_refl _),fun h=> absurd h hp0,fun h=> by omega,hlk.2.2.1,fun h=> by omega⟩
   ·rename_i hst
    have hall:=zSh hst
    split
    ·rename_i hc
     have hcv:zD1 s.c=s.c+1/\s.c<1099511627776:=by
      unfold zEi at hc
      split at hc
      ·cases hc
      ·split at hc
       ·cases hc
       ·rename_i h1 h2
        refine⟨?_,by omega⟩
        unfold zD1 zEi
        rw[if_neg h1,if_neg h2,if_pos rfl]
     obtain⟨p,hp⟩:∃p,p∈jC a.fs:=List.exists_mem_of_ne_nil _ hne
     have hheld:jZ s.ws (th:Int)≠[]:=fun h=> by
      have:=hall _ (zUj hg hp)
      rw[h] at this;cases this
     rw[hcv.1]
     have hgt:=hg.tick
     rw[zP7 hg.c1,if_pos hcv.2] at hgt
     refine hs.turn hth (s':={ s with c:=s.c+1,ts:=qB s.ts th (some { a with wv:=s.c+1,ph:=2,nx:=0 }) }) rfl rfl hs.hv (by show s.c<=s.c+1;omega) hgt (OthT.refl _ _) hs.ft (Nat.le_refl _) (fun b h=> ?_) (fun h=> by cases h)
     cases h
     have hok':a.Ok { s with c:=s.c+1,ts:=qB s.ts th (some { a with wv:=s.c+1,ph:=2,nx:=0 }) }:=hok.mono (Nat.le_refl _) rfl (by show s.c<=s.c+1;omega)
     have h0:=hg.c0
     refine⟨{ hok' with wv:=⟨by simp only;omega,by simp⟩,nx:=(by simp),ph:=(by simp),p2:=(fun _=> by simp),p3:=(fun h=> by simp at h),p6:=(fun _=> ⟨k6,hne⟩) },fun h=> by simp at h,fun _=> hheld,?_,fun _ i hi=> ?_⟩
     ·have h3:=hlk.2.2.1
      rw[show ({ a with wv:=s.c+1,ph:=2,nx:=0 }:TA).dec=a.dec from rfl,h3];simp;omega
     ·have:=(qJ0 (s:=i) hg).2
      simp only;omega
    ·exact hs.end hth a 2
  ·split
   ·rename_i h1 h2
    unfold zGj
    have h3:=hlk.2.2.1
    split
    ·refine hs.turn hth (s':={ s with ts:=qB s.ts th (some { a with dec:=true,ph:=3,nx:=0 }),ft:=zF7 s.ft a.n (2*a.wv) }) rfl rfl hs.hv (Int.le_refl _) hg (OthT.refl _ _) (by simp only[xF];exact hs.ft) (by simp only[xF];exact Nat.le_refl _) (fun b h=> ?_) (fun h=> by cases h)
     cases h
     have hok':a.Ok { s with ts:=qB s.ts th (some { a with dec:=true,ph:=3,nx:=0 }),ft:=zF7 s.ft a.n (2*a.wv) }:=hok.mono (by simp only[xF];exact Nat.le_refl _) rfl (Int.le_refl _)
     refine⟨{ hok' with nx:=(by simp),ph:=(by simp),p2:=(fun h=> by simp at h),p3:=(fun _=> List.length_pos_iff.2 hne),p6:=(fun _=> ⟨k6,hne⟩) },fun h=> by simp at h,fun _=> hlk.2.1 (by omega),by simp,fun _=> hlk.2.2.2 (by omega)⟩
    ·rename_i e hx
     have hlt:=(List.getElem?_eq_some_iff.1 hx).1
     have h8:=hok.es.len
     split
     ·refine hs.turn0 hth (s':=zDq s th { a with nx:=a.nx+1 }) rfl rfl rfl rfl hs.ft (Nat.le_refl _) ?_ hlk
      have hok':a.Ok (zDq s th { a with nx:=a.nx+1 }):=hok.mono (Nat.le_refl _) rfl (Int.le_refl _)
      exact { hok' with nx:=(by simp only;omega),p2:=(fun _=> by simp only;omega),p3:=(fun h=> by simp only at h;omega) }
     ·exact hs.end hth a 1
   ·split
    ·rename_i h1 h2 h3
     split
     ·rename_i p hp
      have hpm:=List.mem_of_getElem? hp
      have hlt:=(List.getElem?_eq_some_iff.1 hp).1
      have hl12:=qCz a.fs
      obtain⟨f,hf,hpf⟩:=zZx hpm
      have hpr:=hok.fst f hf p hpf
      have hd:a.dec=true:=hlk.2.2.1.2 (by omega)
      refine hs.turn hth (s':={ s with hp:=s.hp.set p.t.toNat p.v,ts:=qB s.ts th (some { a with nx:=a.nx+1,ph:=if a.nx+1=(jC a.fs).length then 4 else 3 }) }) rfl (by simp) (fun v hv=> ?_) (Int.le_refl _) hg (OthT.refl _ _) hs.ft (Nat.le_refl _) (fun b h=> ?_) (fun h=> by cases h)
      ·rcases List.mem_or_eq_of_mem_set hv with h|rfl
       ·exact hs.hv v h
       ·exact hpr.2.2
      ·cases h
       have hok':a.Ok { s with hp:=s.hp.set p.t.toNat p.v,ts:=qB s.ts th (some { a with nx:=a.nx+1,ph:=if a.nx+1=(jC a.fs).length then 4 else 3 }) }:=hok.mono (Nat.le_refl _) (by simp) (Int.le_refl _)
       have hph:∀q:Nat,q=(if a.nx+1=(jC a.fs).length then 4 else 3)->3<=q/\q<=4:=fun q hq=> by rw[hq];split<;> omega
       refine⟨{ hok' with nx:=(by simp only;omega),ph:=(hph _ rfl).2,p2:=(fun h=> by have:=(hph _ rfl).1;simp only at h this;omega),p3:=(fun h=> ?_),p6:=(fun _=> ⟨k6,hne⟩) },fun h=> ?_,fun _=> hlk.2.1 (by omega),?_,fun _=> hlk.2.2.2 (by omega)⟩
       ·simp only at h⊢
        split at h
        ·cases h
        ·omega
       ·have:=(hph _ rfl).1;simp only at h this;omega
       ·have:=(hph _ rfl).1
        simp only at this⊢
        exact⟨fun _=> this,fun _=> hd⟩
     ·exact hs
    ·rename_i h1 h2 h3
     have h4:a.ph=4:=by have:=hok.ph;omega
     have hver:=hlk.2.2.2 (by omega)
     have hwv:=hok.wv
     have un:∀h rest,jZ s.ws th=h::rest->∃i:Nat,h=(i:Int)/\xX s.ws i=th:=fun h rest hh=> by
      obtain⟨i,e,ho,_⟩:=zFe.1 (show h∈jZ s.ws th by rw[hh];simp)
      exact⟨i,e,ho⟩
     have hnd:(jZ s.ws (th:Int)).Nodup:=by
      unfold jZ zEw
      exact List.Pairwise.map _ (fun a b h e=> h (by omega)) ((List.nodup_range).filter _)
     split
     ·exact hs
     ·rename_i h hh
      obtain⟨i,rfl,ho⟩:=un _ _ hh
      have hu:=zJ3 hg ho ⟨by omega,by omega⟩ ⟨hver i ho,hwv.2⟩
      refine hs.turn hth (s':=zBi { s with ws:=xI s.ws s.c th i a.wv } th a) (x:=none) rfl rfl hs.hv (Int.le_refl _) (hg.unlock _ _ hwv.1) (zR5 hg ho hth ⟨hver i ho,hwv.2⟩) hs.ft (Nat.le_refl _) (fun b h=> by cases h) (fun _=> ?_)
      rw[show (zBi { s with ws:=xI s.ws s.c th i a.wv } th a).ws=xI s.ws s.c th i a.wv from rfl,zLb (by omega)]
      intro j hj
      rw[hu.2.1 j] at hj
      split at hj
      ·omega
      ·rename_i hji
       have:(j:Int)∈jZ s.ws th:=zFe.2 ⟨j,rfl,hj,by omega⟩
       rw[hh] at this
       simp at this
       omega
     ·rename_i h rest hne1 hh
      obtain⟨i,rfl,ho⟩:=un _ _ hh
      have hu:=zJ3 hg ho ⟨by omega,by omega⟩ ⟨hver i ho,hwv.2⟩
      refine hs.turn hth (s':={ s with ws:=xI s.ws s.c th i a.wv }) (x:=some a) (zTf ha) rfl hs.hv (Int.le_refl _) (hg.unlock _ _ hwv.1) (zR5 hg ho hth ⟨hver i ho,hwv.2⟩) hs.ft (Nat.le_refl _) (fun b h=> ?_) (fun h=> by cases h)
      cases h
      refine⟨hok.mono (Nat.le_refl _) rfl (Int.le_refl _),fun h=> by omega,fun _ hnil=> ?_,hlk.2.2.1,fun _ j hj=> ?_⟩
      ·cases rest with
       |nil=> exact hne1 rfl
       |cons h2 rest=>
        obtain⟨k,e,hk,_⟩:=zFe.1 (show h2∈jZ s.ws th by rw[hh];simp)
        have hki:¬k=i:=fun e2=> by
         rw[hh] at hnd
         rw[e,e2] at hnd
         simp at hnd
        have:=(zLb (ws:=xI s.ws s.c th i a.wv) (o:=th) (by omega)).1 hnil k
        rw[hu.2.1 k,if_neg hki] at this
        exact this hk
      ·rw[hu.2.1 j] at hj
       split at hj
       ·omega
       ·rename_i hji
        rw[hu.2.2 j,if_neg hji]
        exact hver j hj
theorem TS.Ok.step {s:TS} (hs:s.Ok) {th:Nat} (hth:th<4):(zBd s th).2.Ok:=by
 unfold zBd
 cases ha:s.ts th with
 |none=> exact hs
 |some a=>
  simp only
  have hask:=(hs.ts th a ha).ask
  split
  ·exact hs
  ·split
   ·rename_i k1;exact zWh hs hth ha k1
   ·split
    ·rename_i k6;exact zWi hs hth ha k6
    ·split
     ·exact hs.end hth a 4
     ·exact zWg hs hth ha (by have:=hask.1;have:=hask.2.1;omega)
end YtapbabkndhaemaaGreat
end Go.Proofs
/-
 What laws of engines have in common:clones,zHt,values at first,values held against values.
-/
namespace Go.Proofs
namespace YtapbabkndhaemaaGreat
open Go.Abs
theorem qWc (e:TypeId) (l:List Int) (tg:Nat) (hl:l.length<=1000000):zD Tryz.prog cfg 45 [.slice (some ⟨0,0,none⟩) l.length tg] (AH.of [some (.arr e (us l))])
  fun r H'=> r=.ret (.slice (some ⟨1,0,none⟩) l.length 1)/\H'=AH.of [some (.arr e (us l)),some (.arr 30 (us l))]:=by
 refine zD.ends ?_
 refine zP (tbl:=[]) (by simp) 0 0 (af:=a45) rfl ?_
 rw[a45,b45,zW]
 refine⟨by simp,?_⟩
 have h1:l.length*8<=140737488355328/\l.length<=9223372036854775807:=by omega
 have h2:=qBr l
 simp -implicitDefEqProofs [h1,h2,zAd]
 repeat' (first|with_reducible apply And.intro|with_reducible intro _)
 all_goals first
  |(refine zA [] [0,2] ?_ ?_ ?_<;> simp;done)
  |(have:l=[]:=by assumption
    subst this
    refine zPl (r':=.ret (.slice (some ⟨1,0,none⟩) 0 1)) (zPf (by simp)) (zA [.nil 30] [0,1] ?_ ?_ ?_)<;> simp[us])
theorem zTi (l:List Int) (n tg:Nat) (hn:n=l.length) (hl:l.length<=1000000):zD Tryz.prog cfg 45 [.slice (some ⟨0,0,none⟩) n tg] (AH.of [some (.ro (us l))])
  fun r H'=> r=.ret (.slice (some ⟨1,0,none⟩) l.length 1)/\H'=AH.of [some (.ro (us l)),some (.arr 30 (us l))]:=by
 subst hn
 refine zD.ends ?_
 refine zP (tbl:=[]) (by simp) 0 0 (af:=a45) rfl ?_
 rw[a45,b45,zW]
 refine⟨by simp,?_⟩
 have h1:l.length*8<=140737488355328/\l.length<=9223372036854775807:=by omega
 have h2:=qBr l
 simp -implicitDefEqProofs [h1,h2,zAd]
 repeat' (first|with_reducible apply And.intro|with_reducible intro _)
 all_goals first
  |(refine zA [] [0,2] ?_ ?_ ?_<;> simp;done)
  |(have:l=[]:=by assumption
    subst this
    refine zPl (r':=.ret (.slice (some ⟨1,0,none⟩) 0 1)) (zPf (by simp)) (zA [.nil 30] [0,1] ?_ ?_ ?_)<;> simp[us])
def zS9:qH GD:=fun args H=> match args with
 |[.slice (some ⟨k,0,none⟩) n _]=> match H.get k with
  |some (.arr _ cs)=> (zL7 cs).map fun l=> (n=l.length/\l.length<=1000000,.ret (.slice (some ⟨H.next,0,none⟩) l.length 1),H.add (.arr 30 (us l)))
  |some (.ro cs)=> (zL7 cs).map fun l=> (n=l.length/\l.length<=1000000,.ret (.slice (some ⟨H.next,0,none⟩) l.length 1),H.add (.arr 30 (us l)))
  |_=> none
 |_=> none
theorem qBx:zY Tryz.prog cfg 45 zS9:=by
 intro args H p r H' h hp
 unfold zS9 at h
 split at h
 case h_2=> cases h
 split at h
 ·simp only[Option.map_eq_some_iff] at h
  obtain⟨l,hl,h⟩:=h
  rename_i k n tg x e cs hk
  cases h
  rw[zLi hl] at hk
  rw[hp.1]
  exact (qWc e l tg hp.2).atK (jD rfl) [k] (by simp) (by simp) (by simp[hk]) (by simp) (by simp) (by simp[qO hk])
 ·simp only[Option.map_eq_some_iff] at h
  obtain⟨l,hl,h⟩:=h
  rename_i k n tg x cs hk
  cases h
  rw[zLi hl] at hk
  exact (zTi l n tg hp.1 hp.2).atK (zCj fun i cs hi=> by rcases i with _|_|i<;> simp at hi⊢;exact hi) [k] (by simp) (by simp) (by simp[hk]) (by simp) (by simp) (by simp[qO hk])
 ·cases h
theorem qV0 (e:TypeId) (l:List Ev) (tg:Nat) (hl:l.length<=1000000):zD Tryz.prog cfg 64 [.slice (some ⟨0,0,none⟩) l.length tg] (AH.of [some (.arr e (evs l))])
  fun r H'=> r=.ret (.slice (some ⟨1,0,none⟩) l.length 1)/\H'=AH.of [some (.arr e (evs l)),some (.arr 121 (evs l))]:=by
 refine zD.ends ?_
 refine zP (tbl:=[]) (by simp) 0 0 (af:=a64) rfl ?_
 rw[a64,b64,zW]
 refine⟨by simp,?_⟩
 have h1:l.length*32<=140737488355328/\l.length<=9223372036854775807:=by omega
 have h2:=zAf l
 have h3:l.length*4<=(evs l).length:=by rw[jM];omega
 simp -implicitDefEqProofs [h1,h2,h3]
 repeat' (first|with_reducible apply And.intro|with_reducible intro _)
 all_goals first
  |(refine zA [] [0,2] ?_ ?_ ?_<;> simp;done)
  |(have:l=[]:=by assumption
    subst this
    refine zPl (r':=.ret (.slice (some ⟨1,0,none⟩) 0 1)) (zPf (by simp)) (zA [.nil 121] [0,1] ?_ ?_ ?_)<;> simp[evs])
def st64:qH GD:=fun args H=> match args with
 |[.slice (some ⟨k,0,none⟩) n _]=> match H.get k with
  |some (.arr _ cs)=> (zA6 cs).map fun l=> (n=l.length/\l.length<=1000000,.ret (.slice (some ⟨H.next,0,none⟩) l.length 1),H.add (.arr 121 (evs l)))
  |_=> none
 |_=> none
theorem qRf:zY Tryz.prog cfg 64 st64:=by
 intro args H p r H' h hp
 unfold st64 at h
 split at h
 case h_2=> cases h
 split at h
 ·simp only[Option.map_eq_some_iff] at h
  obtain⟨l,hl,h⟩:=h
  rename_i k n tg x e cs hk
  cases h
  rw[zBu hl] at hk
  rw[hp.1]
  exact (qV0 e l tg hp.2).atK (jD rfl) [k] (by simp) (by simp) (by simp[hk]) (by simp) (by simp) (by simp[qO hk])
 ·cases h
def zC0:List Int:=[0,4607182418800017408,9221120237041090560,9223372036854775808,0]
theorem zOh:∀v∈zC0,zAg v=true:=by
 intro v hv
 simp only[zC0,List.mem_cons,List.not_mem_nil,or_false] at hv
 rcases hv with rfl|rfl|rfl|rfl|rfl<;> decide
theorem zKh:zC0.length=5:=rfl
structure Dd where
 k:Int
 t:Int
 a:Ak
def Dd.cells (d:Dd):List Value:=[.int .i64 d.k,.int .i64 d.t,.int .u8 d.a.k,.int .i64 d.a.t,.int .u64 d.a.v]
def Dd.Ok (d:Dd):Prop:=(0<=d.a.k/\d.a.k<256)/\0<=d.a.v/\d.a.v<18446744073709551616
def dds (l:List Dd):List Value:=l.flatMap Dd.cells
theorem zLf (d:Dd) (l:List Dd):dds (d::l)=.int .i64 d.k::.int .i64 d.t::.int .u8 d.a.k::.int .i64 d.a.t::.int .u64 d.a.v::dds l:=rfl
theorem qEz (l:List Dd):(dds l).length=l.length*5:=by
 induction l with
 |nil=> rfl
 |cons e l ih=> rw[zLf];simp[ih];omega
theorem zM9 (l:List Dd):jJ (dds l)=true:=by
 induction l with
 |nil=> rfl
 |cons e l ih=> rw[zLf];simp[jJ,xD,ih]
theorem qTw (θ:Nat->Nat) (l:List Dd):zAh θ (dds l)=dds l:=xV θ _ (zM9 l)
theorem qM1 {i:Nat} {x:Dd}:∀{l:List Dd},l[i]?=some x->((dds l).drop (i*5)).take 5=x.cells:=by
 induction i with
 |zero=>
  intro l h
  cases l with
  |nil=> simp at h
  |cons e l=> simp at h;subst h;rfl
 |succ i ih=>
  intro l h
  cases l with
  |nil=> simp at h
  |cons e l=>
   rw[zLf,show (i+1)*5=i*5+1+1+1+1+1 by omega]
   simpa using ih (l:=l) (by simpa using h)
attribute [simp] qTw
def zPs:List Value->Option (List Dd)
 |[]=> some []
 |.int .i64 k::.int .i64 t::.int .u8 a::.int .i64 b::.int .u64 c::l=> (zPs l).map (⟨k,t,⟨a,b,c⟩⟩::·)
 |_=> none
theorem zU3:∀l:List Dd,zPs (dds l)=some l
 |[]=> rfl
 |e::l=> by rw[zLf,zPs,zU3 l];rfl
theorem zU2:∀{cs:List Value} {l:List Dd},zPs cs=some l->cs=dds l
 |cs,l,e=> by
  unfold zPs at e
  split at e
  ·cases e;rfl
  ·simp only[Option.map_eq_some_iff] at e
   obtain⟨l',e1,rfl⟩:=e
   rw[zU2 e1];rfl
  ·cases e
attribute [simp] zU3
theorem qWi (e e':TypeId) (a b:List Int) (ta tb:Nat) (hl:a.length<=1000):zD Tryz.prog cfg 26 [.slice (some ⟨0,0,none⟩) a.length ta,.slice (some ⟨1,0,none⟩) b.length tb] (AH.of [some (.arr e (us a)),some (.arr e' (us b))])
  fun r H'=> r=.ret (.bool (decide (a=b)))/\H'=AH.of [some (.arr e (us a)),some (.arr e' (us b))]:=by
 refine zD.ends ?_
 obtain⟨n,hn⟩:∃n,a.length=n:=⟨_,rfl⟩
 by_cases hnm:b.length=n
 ·rw[hn,hnm]
  refine zP (tbl:=[]) (by simp) 1001 0 (af:=a26) rfl ?_
  rw[a26,b26,zW]
  refine⟨by simp,?_⟩
  simp -implicitDefEqProofs
  refine jH (qR jG (qS (by simp)) _ _ noY qM) (fun mm tm H=> ∃i:Nat,mm+i=n/\(∀j,j<i->a[j]?=b[j]?)/\tm 0=.slice (some ⟨0,0,none⟩) n ta/\tm 1=.slice (some ⟨1,0,none⟩) n tb/\tm 5=.int .i64 i/\H=AH.of [some (.arr e (us a)),some (.arr e' (us b))]) (m:=n) ⟨0,by simp⟩ (by omega) ?_
  rintro mm tm H ⟨i,hmm,hpre,t0,t1,t5,rfl⟩
  by_cases hi:i<n
  ·obtain⟨x,hx⟩:=zAs (l:=a) (i:=i) (by omega)
   obtain⟨y,hy⟩:=zAs (l:=b) (i:=i) (by omega)
   have hi':(i:Int)<n:=by omega
   have hwr:=jV hi (by omega)
   have ux:=zEt hx
   have uy:=zEt hy
   by_cases hxy:x=y
   ·subst hxy
    have hpre2:∀j,j<i+1->a[j]?=b[j]?:=fun j hj=> by
     by_cases h:j=i
     ·subst h;rw[hx,hy]
     ·exact hpre j (by omega)
    simp -implicitDefEqProofs [t0,t1,t5,hi,hi',ux,uy,hwr]
    exact⟨mm - 1,by omega,i+1,by omega,hpre2,by omega⟩
   ·have hne:¬a=b:=fun h=> by subst h;rw[hx] at hy;exact hxy (Option.some.inj hy)
    simp -implicitDefEqProofs [t0,t1,t5,hi,hi',ux,uy,hxy,hne]
    refine zA [] [0,1] ?_ ?_ ?_<;> simp
  ·have hab:a=b:=qGy (by omega) fun j hj=> hpre j (by omega)
   have hi':¬(i:Int)<n:=by omega
   simp -implicitDefEqProofs [t0,t1,t5,hi',hab]
   refine zA [] [0,1] ?_ ?_ ?_<;> simp
 ·have hne:¬a=b:=fun h=> hnm (by rw[←h];exact hn)
  have hnm':¬(n:Int)=b.length:=by omega
  have hnm2:¬n=b.length:=by omega
  rw[hn]
  refine zP (tbl:=[]) (by simp) 1001 0 (af:=a26) rfl ?_
  rw[a26,b26,zW]
  refine⟨by simp,?_⟩
  simp -implicitDefEqProofs [hnm',hnm2,hne]
  refine zA [] [0,1] ?_ ?_ ?_<;> simp
def st26:qH GD:=fun args H=> match args with
 |[.slice (some ⟨k,0,none⟩) n _,.slice (some ⟨j,0,none⟩) m _]=> match zDa H k,zDa H j with
  |some a,some b=> some (k≠j/\n=a.2.length/\m=b.2.length/\n<=1000,.ret (.bool (decide (a.2=b.2))),H)
  |_,_=> none
 |_=> none
theorem qRo:zY Tryz.prog cfg 26 st26:=by
 intro args H p r H' h hp
 unfold st26 at h
 split at h
 case h_2=> cases h
 split at h
 case h_2=> cases h
 rename_i k n ta j m tb _ _ a b h1 h2
 cases h
 obtain⟨p1,p2,p3,p4⟩:=hp
 subst p2 p3
 exact (qWi a.1 b.1 a.2 b.2 ta tb p4).atK (jD rfl) [k,j] (by simp[p1]) (by simp) (by simp[zDk h1,zDk h2]) (by simp) (by simp) (by simp[qO (zDk h1),qO (zDk h2)])
end YtapbabkndhaemaaGreat
end Go.Proofs
/-
 TL2:what is told,New.
-/
namespace Go.Proofs
namespace YtapbabkndhaemaaGreat
open Go.Abs
def zHo:List (FuncId × qH GD):=[(58,zK0),(49,zW4),(45,zS9),(64,st64),(55,zMp),(57,zS8)]
theorem zIr:∀x∈zHo,zY Tryz.prog cfg x.1 x.2:=by simp[zHo,zS7,qBw,qBx,qRf,qBv,qBu]
theorem qWj (s:TS) (hs:s.Ok) (t:Int):zD Tryz.prog cfg 25 [.pointer (some ⟨0,0,none⟩),.int .i64 t] (AH.of [some (.hi (.teng s))])
  fun r H'=> r=.ret (.bool (decide (jZ s.ws t≠[])))/\H'=AH.of [some (.hi (.teng s))]:=by
 refine zD.ends ?_
 refine zD.openTEng (th:=0) (by omega) ?_
 have hg:=hs.tab
 cases hh:jZ s.ws t with
 |nil=>
  refine zP (tbl:=zHo) zIr 0 3 (af:=a25) rfl ?_
  rw[a25,b25,zW]
  refine⟨by simp,?_⟩
  simp -implicitDefEqProofs [qK,xQ,jA,xP,xK,jX,xC,xB,xA,jI,zHo,zK0,hg,hh]
  refine zA [.pack (GD.teng s) 0 [1,2,3,4,5,6,7,8]] [0] ?_ ?_ ?_<;> simp[qG,qC,tps,u1,u2,u3]
 |cons h rest=>
  have hl:(0:Int)<(rest.length:Int)+1:=by omega
  refine zP (tbl:=zHo) zIr 0 3 (af:=a25) rfl ?_
  rw[a25,b25,zW]
  refine⟨by simp,?_⟩
  simp -implicitDefEqProofs [qK,xQ,jA,xP,xK,jX,xC,xB,xA,jI,zHo,zK0,hg,hh,hl]
  refine zA [.pack (GD.teng s) 0 [1,2,3,4,5,6,7,8]] [0] ?_ ?_ ?_<;> simp[qG,qC,tps,u1,u2,u3]
def d25:zDs
 |.teng s,[.int .i64 t]=> some (s.Ok,.bool (decide (jZ s.ws t≠[])),.teng s)
 |_,_=> none
theorem qRp:zY Tryz.prog cfg 25 (zZ d25):=zCk fun d rest p v d' h hp=> by
 unfold d25 at h
 split at h
 ·cases h;exact⟨rfl,rfl,qWj _ hp _⟩
 ·cases h
theorem qWl (s:TS) (hs:s.Ok):zD Tryz.prog cfg 21 [.pointer (some ⟨0,0,none⟩)] (AH.of [some (.hi (.teng s))])
  fun r H'=> r=.ret (.slice (some ⟨1,0,none⟩) s.hp.length 1)/\H'=AH.of [some (.hi (.teng s)),some (.arr 30 (us s.hp))]:=by
 refine zD.ends ?_
 refine zD.openTEng (th:=0) (by omega) ?_
 have hl:s.hp.length<=1000000:=by have:=hs.hp.2;omega
 refine zP (tbl:=zHo) zIr 0 3 (af:=a21) rfl ?_
 rw[a21,b21,zW]
 refine⟨by simp,?_⟩
 simp -implicitDefEqProofs [qK,xQ,jA,xP,xK,jX,xC,xB,xA,jI,zHo,zS9,hl]
 refine zA [.pack (GD.teng s) 0 [1,2,3,4,5,6,7,8]] [0,9] ?_ ?_ ?_<;> simp[qG,qC,tps,u1,u2,u3]
def zXb:qH GD:=fun args H=> match args with
 |[.pointer (some ⟨k,0,none⟩)]=> match H.get k with
  |some (.hi (.teng s))=> some (s.Ok,.ret (.slice (some ⟨H.next,0,none⟩) s.hp.length 1),H.add (.arr 30 (us s.hp)))
  |_=> none
 |_=> none
theorem qRs:zY Tryz.prog cfg 21 zXb:=by
 intro args H p r H' h hp
 unfold zXb at h
 split at h
 case h_2=> cases h
 split at h
 case h_2=> cases h
 rename_i k x s hk
 cases h
 exact (qWl s hp).atK (jD rfl) [k] (by simp) (by simp) (by simp[hk]) (by simp) (by simp) (by simp[qO hk])
theorem qWh (s:TS) (hl:s.ev.length<=1000000):zD Tryz.prog cfg 29 [.pointer (some ⟨0,0,none⟩)] (AH.of [some (.hi (.teng s))])
  fun r H'=> r=.ret (.slice (some ⟨1,0,none⟩) s.ev.length 1)/\H'=AH.of [some (.hi (.teng s)),some (.arr 121 (evs s.ev))]:=by
 refine zD.ends ?_
 refine zD.openTEng (th:=0) (by omega) ?_
 refine zP (tbl:=zHo) zIr 0 3 (af:=a29) rfl ?_
 rw[a29,b29,zW]
 refine⟨by simp,?_⟩
 simp -implicitDefEqProofs [qK,xQ,jA,xP,xK,jX,xC,xB,xA,jI,zHo,st64,hl]
 refine zA [.pack (GD.teng s) 0 [1,2,3,4,5,6,7,8]] [0,9] ?_ ?_ ?_<;> simp[qG,qC,tps,u1,u2,u3]
def zQf:qH GD:=fun args H=> match args with
 |[.pointer (some ⟨k,0,none⟩)]=> match H.get k with
  |some (.hi (.teng s))=> some (s.ev.length<=1000000,.ret (.slice (some ⟨H.next,0,none⟩) s.ev.length 1),H.add (.arr 121 (evs s.ev)))
  |_=> none
 |_=> none
theorem qBy:zY Tryz.prog cfg 29 zQf:=by
 intro args H p r H' h hp
 unfold zQf at h
 split at h
 case h_2=> cases h
 split at h
 case h_2=> cases h
 rename_i k x s hk
 cases h
 exact (qWh s hp).atK (jD rfl) [k] (by simp) (by simp) (by simp[hk]) (by simp) (by simp) (by simp[qO hk])
end YtapbabkndhaemaaGreat
end Go.Proofs
/-
 TL2:New,zHt,live,alone. (Printed by tools/genue.py.)
-/
namespace Go.Proofs
namespace YtapbabkndhaemaaGreat
open Go.Abs
def zBv (h:List Int) (m:Nat):TS:=⟨zIf m,0,h,fun _=> none,[],[]⟩
def zO0:List (FuncId × qH GD):=[(45,zS9),(43,zCp),(41,st41)]
theorem zWw:∀x∈zO0,zY Tryz.prog cfg x.1 x.2:=by simp[zO0,qBx,zTa,qRl]
theorem qIy:qN []=[]:=rfl
theorem zU7 (h:List Int) (tg m:Nat) (hm:1<=m/\m<=8) (h1:1<=h.length/\h.length<=12) (hr:∀v∈h,zAg v=true):zD Tryz.prog cfg 10 [.slice (some ⟨0,0,none⟩) h.length tg,.int .i64 m] (AH.of [some (.ro (us h))])
  fun r H'=> r=.ret (.pointer (some ⟨1,0,none⟩))/\H'=AH.of [some (.ro (us h)),some (.hi (.teng (zBv h m)))]:=by
 refine zD.ends ?_
 obtain⟨n,hn⟩:∃n,h.length=n:=⟨_,rfl⟩
 have z1:¬(n:Int)<1:=by omega
 have z2:¬(12:Int)<n:=by omega
 have hl:n<=1000000:=by omega
 have hm1:(1:Int)<=m:=by omega
 have hm2:(m:Int)<=8:=by omega
 rw[hn]
 refine zP (tbl:=zO0) zWw 13 4 (af:=a10) rfl ?_
 rw[a10,b10,zW]
 refine⟨by simp,?_⟩
 simp -implicitDefEqProofs [zO0,st41,forms44,a44,b44,forms105,a105,b105,z1,z2,hm1,hm2]
 refine jH (qR jG (qS zWw) _ _ noY qM) (fun mm tm H=> ∃i:Nat,mm+i=n/\tm 0=.slice (some ⟨0,0,none⟩) n tg/\tm 1=.func (.func 42) #[] #[]/\tm 7=.int .i64 n/\tm 8=.int .i64 i/\H=AH.of [some (.ro (us h)),some (.hi (.tab (zIf m) 0))]) (m:=n) ⟨0,by simp⟩ (by omega) ?_
 rintro mm tm H ⟨i,hmm,t0,t1,t7,t8,rfl⟩
 by_cases hi:i<n
 ·obtain⟨x,hx⟩:=zAs (l:=h) (i:=i) (by omega)
  have hi':(i:Int)<n:=by omega
  have hwr:=jV hi (by omega)
  have ux:=zEt hx
  have hrx:=hr x (List.mem_of_getElem? hx)
  simp -implicitDefEqProofs [zO0,zCp,forms42,a42,b42,t0,t1,t7,t8,hi,hi',ux,hrx,hwr]
  exact⟨mm - 1,by omega,i+1,by omega,by omega⟩
 ·have hie:i=n:=by omega
  subst hie
  simp -implicitDefEqProofs [zO0,zS9,t0,t1,t7,t8,hn,hl]
  refine zA [.nil 121,.nil 100,.nil 98,.nil 98,.nil 98,.nil 98,.pack (GD.teng (zBv h m)) 3 [1,2,4,5,6,7,8,9]] [0,3] ?_ ?_ ?_<;> simp[qG,zBv,jF,zR,qUw,qIy,qVi,hn]
def zTc:qH GD:=fun args H=> match args with
 |[.slice (some ⟨k,0,none⟩) n _,.int .i64 m]=> match H.get k with
  |some (.arr _ cs)=> (zL7 cs).map fun l=> (n=l.length/\k<H.next/\1<=l.length/\l.length<=12/\(∀v∈l,zAg v=true)/\1<=m/\m<=8,.ret (.pointer (some ⟨H.next,0,none⟩)),H.add (.hi (.teng (zBv l m.toNat))))
  |_=> none
 |_=> none
theorem qB2:zY Tryz.prog cfg 10 zTc:=by
 intro args H p r H' h hp
 unfold zTc at h
 split at h
 case h_2=> cases h
 split at h
 case h_2=> cases h
 simp only[Option.map_eq_some_iff] at h
 obtain⟨l,hl,h⟩:=h
 rename_i k n tg m x e cs hk
 cases h
 obtain⟨h1,hkn,h2,h3,h4,h5,h6⟩:=hp
 obtain⟨m,rfl⟩:=Int.eq_ofNat_of_zero_le (show 0<=m by omega)
 rw[Int.toNat_natCast]
 rw[zLi hl] at hk
 rw[h1]
 refine zD.borrow k hk ?_
 have hk2:(H.upd k (.ro (us l))).get k=some (.ro (us l)):=by rw[AH.get_upd,if_pos rfl]
 have hr:=(zU7 l tg m ⟨by omega,by omega⟩ ⟨h2,h3⟩ h4).atK (H:=H.upd k (.ro (us l))) (args:=[.slice (some ⟨k,0,none⟩) l.length tg,.int .i64 m]) (r':=.ret (.pointer (some ⟨H.next,0,none⟩))) (H':=(H.upd k (.ro (us l))).add (.hi (.teng (zBv l m)))) (zCj fun i cs hi=> by rcases i with _|_|i<;> simp at hi⊢;exact hi) [k] (by simp) (by simp) (by simp[hk2]) (by simp) (by simp) (by simp[qO hk2])
 refine hr.mono ?_
 rintro r H' ⟨e1,rfl⟩
 refine⟨by rw[AH.get_add,AH.next_upd,if_neg (by omega),AH.get_upd,if_pos rfl],fun j cs2 hj hcs hne=> ⟨cs2,?_,hne⟩,e1,?_⟩
 ·rw[AH.get_add,AH.next_upd] at hcs
  split at hcs
  ·cases hcs
  ·rw[AH.get_upd,if_neg hj] at hcs;exact hcs
 ·refine AH.ext' (by simp) fun j=> ?_
  rw[AH.get_upd,AH.get_add,AH.get_add,AH.next_upd,AH.get_upd]
  by_cases h:j=k
  ·subst h;rw[if_pos rfl,if_neg (by omega),hk]
  ·rw[if_neg h,if_neg h]
theorem qMx {h:List Int} {m:Nat} (hm:1<=m/\m<=8) (h1:1<=h.length/\h.length<=12) (h2:∀v∈h,0<=v/\v<18446744073709551616):(zBv h m).Ok where
 hp:=h1
 hv:=h2
 tab:=GoodT.new hm.1 hm.2
 ft:=by simp[zBv]
 ts:=fun th a h=> by cases h
 lk:=fun th a h=> by cases h
 no:=fun th _=> by
  rw[zLb (by omega)]
  intro i hi
  unfold xX zBv zIf at hi
  simp only at hi
  split at hi
  ·rename_i w hw
   have:=List.mem_of_getElem? hw
   rw[List.mem_replicate] at this
   rw[this.2] at hi
   unfold zAx at hi
   simp at hi<;> omega
  ·omega
 th4:=fun _ _=> rfl
theorem zH9:(zBv zC0 3).Ok:=qMx ⟨by decide,by decide⟩ ⟨by decide,by decide⟩ (by decide)
theorem zRd {s:TS} (hs:s.Ok) (t:Int):(zD7 s t).Ok:=by
 unfold zD7
 split
 ·exact hs
 ·rename_i th ht
  split
  ·exact hs.begin (zCt ht).1 (by assumption)
  ·exact hs
theorem zP6 {s:TS} (hs:s.Ok) (t:Int) {x:Ak} (hk:0<=x.k) (hv:0<=x.v/\x.v<18446744073709551616):(zE4 s t x).Ok:=by
 unfold zE4
 split
 ·exact hs
 ·rename_i th ht
  split
  ·exact hs.ask (zCt ht).1 hk hv (by assumption)
  ·exact hs
theorem zLm {s:TS} (hs:s.Ok) (t:Int):(zC7 s t).Ok:=by
 unfold zC7
 split
 ·exact hs
 ·rename_i th ht
  exact hs.step (zCt ht).1
theorem qGc {s:TS} (hs:s.Ok) (t:Int):(zGh s t).Ok:=by
 unfold zGh
 split
 ·exact hs
 ·rename_i th ht
  exact hs.kill (zCt ht).1
theorem qC9 (s:TS) (t:Int):(zD7 s t).ev.length<=s.ev.length+1:=by
 unfold zD7
 split
 ·omega
 ·split
  ·simp[zAt]
  ·omega
theorem zWq (s:TS) (t:Int) (x:Ak):(zE4 s t x).ev=s.ev:=by
 unfold zE4
 split
 ·rfl
 ·split
  ·unfold zAr;split<;> rfl
  ·rfl
theorem qKf (s:TS) (th:Nat):(zBd s th).2.ev.length<=s.ev.length+2:=by
 unfold zBd
 split
 ·simp only;omega
 ·rename_i a ha
  split
  ·simp only;omega
  split
  ·unfold zC8
   repeat' split
   all_goals simp[zBf,zDq,zCl]
  split
  ·unfold zC9 zGg zGj
   repeat' split
   all_goals simp[zBf,zDq,zBi]
  split
  ·simp[zBf]
  ·unfold zDu
   repeat' split
   all_goals simp[zBf]
theorem qGg (s:TS) (t:Int):(zC7 s t).ev.length<=s.ev.length+2:=by
 unfold zC7
 split
 ·omega
 ·exact qKf s _
theorem qGi (s:TS) (t:Int):(zGh s t).ev.length<=s.ev.length+1:=by
 unfold zGh
 split
 ·omega
 ·unfold zFl
  split
  ·omega
  ·split
   ·omega
   ·simp[zBf]
def zBh (s:TS) (d:Dd):TS:=
 if d.k=0 then zD7 s d.t else if d.k=1 then zE4 s d.t d.a else if d.k=2 then zC7 s d.t else if d.k=3 then zGh s d.t else s
theorem zWj {s:TS} (hs:s.Ok) {d:Dd} (hd:d.Ok):(zBh s d).Ok:=by
 unfold zBh
 split
 ·exact zRd hs _
 split
 ·exact zP6 hs _ hd.1.1 hd.2
 split
 ·exact zLm hs _
 split
 ·exact qGc hs _
 ·exact hs
theorem qKg (s:TS) (d:Dd):(zBh s d).ev.length<=s.ev.length+2:=by
 unfold zBh
 split
 ·have:=qC9 s d.t;omega
 split
 ·rw[zWq];omega
 split
 ·exact qGg s d.t
 split
 ·have:=qGi s d.t;omega
 ·omega
def zCg (l:List Dd):TS:=l.foldl zBh (zBv zC0 3)
theorem zZ8 {l:List Dd} {i:Nat} {x:Dd} (h:l[i]?=some x):zCg (l.take (i+1))=zBh (zCg (l.take i)) x:=by
 unfold zCg
 rw[List.take_add_one,h,List.foldl_append]
 rfl
theorem zNp (l:List Dd) (hl:∀d∈l,d.Ok):(zCg l).Ok/\(zCg l).ev.length<=2*l.length:=by
 have key:∀(l:List Dd) (s:TS),(∀d∈l,d.Ok)->s.Ok->(l.foldl zBh s).Ok/\(l.foldl zBh s).ev.length<=s.ev.length+2*l.length:=by
  intro l
  induction l with
  |nil=> intro s _ h;exact⟨h,by simp⟩
  |cons d l ih=>
   intro s hd hs
   have h1:=ih (zBh s d) (fun x hx=> hd x (by simp[hx])) (zWj hs (hd d (by simp)))
   have h2:=qKg s d
   refine⟨h1.1,?_⟩
   have h3:=h1.2
   simp only[List.foldl_cons,List.length_cons]
   omega
 have:=key l (zBv zC0 3) hl zH9
 refine⟨this.1,?_⟩
 have h2:=this.2
 have h0:(zBv zC0 3).ev.length=0:=rfl
 unfold zCg
 omega
theorem zZ7 (H:AH GD):zD Tryz.prog cfg 11 [] H fun r H'=> r=.ret (.slice (some ⟨H.next,0,none⟩) 5 1)/\H'=H.add (.arr 30 (us zC0)):=by
 have h0:zD Tryz.prog cfg 11 [] (AH.of []) fun r H'=> r=.ret (.slice (some ⟨0,0,none⟩) 5 1)/\H'=AH.of [some (.arr 30 (us zC0))]:=by
  refine zD.ends ?_
  refine zP (tbl:=[]) (by simp) 0 0 (af:=a11) rfl ?_
  rw[a11,b11,zW]
  refine⟨by simp,?_⟩
  simp -implicitDefEqProofs
  refine zA [] [0] ?_ ?_ ?_<;> simp[us,zC0]
 exact h0.atK (jD rfl) [] (by simp) (by simp) trivial (by simp) (by simp) (by simp)
def zMs:qH GD:=fun args H=> match args with
 |[]=> some (True,.ret (.slice (some ⟨H.next,0,none⟩) 5 1),H.add (.arr 30 (us zC0)))
 |_=> none
theorem zTb:zY Tryz.prog cfg 11 zMs:=by
 intro args H p r H' h hp
 unfold zMs at h
 split at h
 case h_2=> cases h
 cases h
 exact zZ7 H
def zVn:List (FuncId × qH GD):=[(11,zMs),(10,zTc),(13,zZ d13),(14,zZ d14),(15,zZ d15),(29,zQf)]
theorem qJ4:∀x∈zVn,zY Tryz.prog cfg x.1 x.2:=by simp[zVn,zTb,qB2,qB1,qB0,qBz,qBy]
def zS0:TS:=zD7 (zBv zC0 3) 1
def zWl:TS:=zE4 zS0 1 ⟨1,1,0⟩
def zWk:TS:=zC7 zWl 1
def zSz:TS:=zC7 zWk 1
def zSy:TS:=zC7 zSz 1
def zSx:TS:=zE4 zSy 1 ⟨6,0,0⟩
def tlv7:TS:=zC7 zSx 1
theorem qBn:zS0.Ok/\zS0.ev.length<=100000:=⟨zRd zH9 1,by decide+kernel⟩
theorem qBm:zWl.Ok/\zWl.ev.length<=100000:=⟨zP6 qBn.1 1 (by decide) (by decide),by decide+kernel⟩
theorem qBl:zWk.Ok/\zWk.ev.length<=100000:=⟨zLm qBm.1 1,by decide+kernel⟩
theorem qBk:zSz.Ok/\zSz.ev.length<=100000:=⟨zLm qBl.1 1,by decide+kernel⟩
theorem qBj:zSy.Ok/\zSy.ev.length<=100000:=⟨zLm qBk.1 1,by decide+kernel⟩
theorem qQi:zSx.Ok/\zSx.ev.length<=100000:=⟨zP6 qBj.1 1 (by decide) (by decide),by decide+kernel⟩
theorem tlv_b:zO3 (zBv zC0 3) 1=.tuple #[.int .i64 0,.int .i64 0]:=rfl
theorem qVp:zRo zS0 1 ⟨1,1,0⟩=0:=by decide+kernel
theorem qVo:zRo zSy 1 ⟨6,0,0⟩=0:=by decide+kernel
theorem qVm:zNo zSz 1=xM 4607182418800017408:=by decide+kernel
theorem qVl:zNo zSx 1=xR 0:=by decide+kernel
theorem qPr:tlv7.ev.length=4:=by decide+kernel
theorem qVn:tlv7.ev.length<=1000000:=by rw[qPr];decide
theorem qWn:zD Tryz.prog cfg 12 [] (AH.of []) fun r H'=> r=.ret (.bool true)/\H'=AH.of []:=by
 refine zD.ends ?_
 have h1:=zH9
 have h1e:(zBv zC0 3).ev.length<=100000:=by decide
 have hr:=zOh
 have e1:zD7 (zBv zC0 3) 1=zS0:=rfl
 have e2:zE4 zS0 1 ⟨1,1,0⟩=zWl:=rfl
 have e3:zC7 zWl 1=zWk:=rfl
 have e4:zC7 zWk 1=zSz:=rfl
 have e5:zC7 zSz 1=zSy:=rfl
 have e6:zE4 zSy 1 ⟨6,0,0⟩=zSx:=rfl
 have e7:zC7 zSx 1=tlv7:=rfl
 refine zP (tbl:=zVn) qJ4 0 0 (af:=a12) rfl ?_
 rw[a12,b12,zW]
 refine⟨by simp,?_⟩
 simp -implicitDefEqProofs [zVn,zMs,zTc,zZ,d13,d14,d15,zQf,zKh,h1,h1e,hr,e1,e2,e3,e4,e5,e6,e7,qBn,qBm,qBl,qBk,qBj,qQi,qVn,tlv_b,qVp,qVo,qVm,qVl,qPr,Rp.v,Rp.cells,xM,xR]
 refine⟨hr,zA [] [] ?_ ?_ ?_⟩<;> simp
def zXk:qH GD:=fun args H=> match args with
 |[]=> some (True,.ret (.bool true),H)
 |_=> none
theorem qRu:zY Tryz.prog cfg 12 zXk:=by
 intro args H p r H' h hp
 unfold zXk at h
 split at h
 case h_2=> cases h
 cases h
 exact qWn.atK (jD rfl) [] (by simp) (by simp) trivial (by simp) (by simp) (by simp)
def zJo:List (FuncId × qH GD):=[(11,zMs),(10,zTc),(13,zZ d13),(14,zZ d14),(15,zZ d15),(22,zZ d22)]
theorem zT8:∀x∈zJo,zY Tryz.prog cfg x.1 x.2:=by simp[zJo,zTb,qB2,qB1,qB0,qBz,qRr]
theorem qWm (l:List Dd) (tg:Nat) (hl:∀d∈l,d.Ok):zD Tryz.prog cfg 16 [.slice (some ⟨0,0,none⟩) l.length tg] (AH.of [some (.ro (dds l))])
  fun r H'=> r=.ret (.pointer (some ⟨1,0,none⟩))/\H'=AH.of [some (.ro (dds l)),some (.hi (.teng (zCg (l.take 120))))]:=by
 refine zD.ends ?_
 have hr:=zOh
 refine zP (tbl:=zJo) zT8 121 0 (af:=a16) rfl ?_
 rw[a16,b16,zW]
 refine⟨by simp,?_⟩
 simp -implicitDefEqProofs [zJo,zMs,zTc,zKh,hr]
 refine⟨hr,?_⟩
 refine zA3 (qR jG (qS zT8) _ _ noY qM) (fun m tm H=> ∃i:Nat,m+i=120/\i<=l.length/\tm 0=.slice (some ⟨0,0,none⟩) l.length tg/\tm 3=.pointer (some ⟨2,0,none⟩)/\tm 4=.int .i64 i/\
  H=AH.of [some (.ro (dds l)),none,some (.hi (.teng (zCg (l.take i))))]) (m:=120) ?_ (by omega) ?_
 ·refine qD [] [0,1,2] [some (.ro (dds l)),none,some (.hi (.teng (zCg (l.take 0))))] 120 (by omega) ?_ ?_ ⟨0,by omega,by omega,?_,?_,?_,rfl⟩<;> simp[zCg]
 rintro m tm H ⟨i,hm,hil,t0,t3,t4,rfl⟩
 obtain⟨s,hsd⟩:∃s,zCg (l.take i)=s:=⟨_,rfl⟩
 have hok:=zNp (l.take i) fun d hd=> hl d (List.mem_of_mem_take hd)
 rw[hsd] at hok⊢
 have hs:=hok.1
 have hev:s.ev.length<=100000:=by
  have:=hok.2;rw[List.length_take] at this;omega
 by_cases hi:i<l.length
 ·have hi':(i:Int)<l.length:=by omega
  by_cases h120:i<120
  ·have h120':(i:Int)<120:=by omega
   obtain⟨x,hx⟩:=zAs (l:=l) (i:=i) (by omega)
   have hxo:=hl x (List.mem_of_getElem? hx)
   have hsuc:=zZ8 hx
   rw[hsd] at hsuc
   have cm:=qM1 hx
   have hle:i*5+5<=(dds l).length:=by rw[qEz];omega
   have hwr:=jV h120 (by omega)
   have hak:=hxo.1.1
   by_cases k0:x.k=0
   ·have hS:zBh s x=zD7 s x.t:=by simp[zBh,k0]
    simp -implicitDefEqProofs [zJo,zZ,d13,t0,t3,t4,hi,hi',h120,h120',cm,hle,Dd.cells,k0,hwr]
    refine⟨⟨hs,hev⟩,qD [] [0,1,2] [some (.ro (dds l)),none,some (.hi (.teng (zCg (l.take (i+1)))))] (m - 1) (by omega) ?_ ?_ ⟨i+1,by omega,by omega,?_,?_,?_,rfl⟩⟩<;> simp[t0,t3,hsuc,hS]
   ·by_cases k1:x.k=1
    ·have hS:zBh s x=zE4 s x.t x.a:=by simp[zBh,k1]
     have hS2:zE4 s x.t ⟨x.a.k,x.a.t,x.a.v⟩=zE4 s x.t x.a:=rfl
     simp -implicitDefEqProofs [zJo,zZ,d14,t0,t3,t4,hi,hi',h120,h120',cm,hle,Dd.cells,k0,k1,hwr,hS2]
     refine⟨⟨hs,hak⟩,qD [] [0,1,2] [some (.ro (dds l)),none,some (.hi (.teng (zCg (l.take (i+1)))))] (m - 1) (by omega) ?_ ?_ ⟨i+1,by omega,by omega,?_,?_,?_,rfl⟩⟩<;> simp[t0,t3,hsuc,hS]
    ·by_cases k2:x.k=2
     ·have hS:zBh s x=zC7 s x.t:=by simp[zBh,k2]
      simp -implicitDefEqProofs [zJo,zZ,d15,t0,t3,t4,hi,hi',h120,h120',cm,hle,Dd.cells,k0,k1,k2,hwr]
      refine⟨⟨hs,hev⟩,qD [] [0,1,2] [some (.ro (dds l)),none,some (.hi (.teng (zCg (l.take (i+1)))))] (m - 1) (by omega) ?_ ?_ ⟨i+1,by omega,by omega,?_,?_,?_,rfl⟩⟩<;> simp[t0,t3,hsuc,hS]
     ·by_cases k3:x.k=3
      ·have hS:zBh s x=zGh s x.t:=by simp[zBh,k3]
       simp -implicitDefEqProofs [zJo,zZ,d22,t0,t3,t4,hi,hi',h120,h120',cm,hle,Dd.cells,k0,k1,k2,k3,hwr]
       refine⟨⟨hs,hev⟩,qD [] [0,1,2] [some (.ro (dds l)),none,some (.hi (.teng (zCg (l.take (i+1)))))] (m - 1) (by omega) ?_ ?_ ⟨i+1,by omega,by omega,?_,?_,?_,rfl⟩⟩<;> simp[t0,t3,hsuc,hS]
      ·have hS:zBh s x=s:=by simp[zBh,k0,k1,k2,k3]
       simp -implicitDefEqProofs [t0,t3,t4,hi,hi',h120,h120',cm,hle,Dd.cells,k0,k1,k2,k3,hwr]
       refine qD [] [0,1,2] [some (.ro (dds l)),none,some (.hi (.teng (zCg (l.take (i+1)))))] (m - 1) (by omega) ?_ ?_ ⟨i+1,by omega,by omega,?_,?_,?_,rfl⟩<;> simp[t0,t3,hsuc,hS]
  ·have h120':¬(i:Int)<120:=by omega
   have he:i=120:=by omega
   have hs2:zCg (l.take 120)=s:=by rw[←he];exact hsd
   simp -implicitDefEqProofs [t0,t3,t4,hi,hi',h120,h120']
   refine zA [] [0,2] ?_ ?_ ?_<;> simp[hs2]
 ·have hi':¬(i:Int)<l.length:=by omega
  have hs2:zCg (l.take 120)=s:=by
   rw[←hsd,List.take_of_length_le (by omega),List.take_of_length_le (by omega)]
  simp -implicitDefEqProofs [t0,t3,t4,hi,hi']
  refine zA [] [0,2] ?_ ?_ ?_<;> simp[hs2]
def zXi:qH GD:=fun args H=> match args with
 |[.slice (some ⟨k,0,none⟩) n _]=> match H.get k with
  |some (.ro cs)=> (zPs cs).map fun l=> (n=l.length/\∀d∈l,d.Ok,.ret (.pointer (some ⟨H.next,0,none⟩)),H.add (.hi (.teng (zCg (l.take 120)))))
  |_=> none
 |_=> none
theorem qRt:zY Tryz.prog cfg 16 zXi:=by
 intro args H p r H' h hp
 unfold zXi at h
 split at h
 case h_2=> cases h
 split at h
 case h_2=> cases h
 simp only[Option.map_eq_some_iff] at h
 obtain⟨l,hl,h⟩:=h
 rename_i k n tg x cs hk
 cases h
 rw[zU2 hl] at hk
 rw[hp.1]
 exact (qWm l tg hp.2).atK (zCj fun i cs hi=> by rcases i with _|_|i<;> simp at hi⊢;exact hi) [k] (by simp) (by simp) (by simp[hk]) (by simp) (by simp) (by simp[qO hk])
end YtapbabkndhaemaaGreat
end Go.Proofs
/-
 TL2:one thread alone.
-/
namespace Go.Proofs
namespace YtapbabkndhaemaaGreat
open Go.Abs
structure TSole (s:TS) (th:Nat):Prop where
 ts:∀i,i≠th->s.ts i=none
 ver:∀a,s.ts th=some a->a.ph<=2->∀i:Nat,zAu s.ws i<=a.rv
 sw:∀a,s.ts th=some a->a.ra.k=1->a.ss≠0->a.sw=zBl s.ws (ofT s.ws a.ra.t)
end YtapbabkndhaemaaGreat
end Go.Proofs
/-
 TL2:Decided;who ended leaves nothing;the clock. (Printed by tools/genug.py.)
-/
namespace Go.Proofs
namespace YtapbabkndhaemaaGreat
open Go.Abs
def zGf (k:Nat) (o:Option TA):Option Nat->Value
 |some j=> zBc j o
 |none=> back (fun _=> none) (zBc k o)
theorem zCh (κ:Nat->Option Nat) (k:Nat) (o:Option TA):back κ (zBc k o)=zGf k o (κ k):=by
 cases o with
 |none=> cases κ k<;> rfl
 |some a=>
  show qFb 0 (κ k)=_
  cases κ k<;> rfl
def zC1 (s:TS) (i:Nat):List Int:=match s.ts i with
 |some a=> if a.dec=true then [(a.n:Int)] else []
 |none=> []
def zBa (s:TS):Nat->List Int
 |0=> []
 |i+1=> zBa s i++zC1 s i
theorem zTw (s:TS):∀i,(zBa s i).length<=i
 |0=> by simp[zBa]
 |i+1=> by
  have:=zTw s i
  rw[zBa,List.length_append]
  have:(zC1 s i).length<=1:=by
   unfold zC1
   split
   ·split<;> simp
   ·simp
  omega
theorem zQy {s:TS} {n:Int}:∀{i},n∈zBa s i↔∃th a,th<i/\s.ts th=some a/\a.dec=true/\n=(a.n:Int)
 |0=> by simp[zBa]
 |i+1=> by
  rw[zBa,List.mem_append,zQy]
  constructor
  ·rintro (⟨th,a,h1,h2,h3,h4⟩|h)
   ·exact⟨th,a,by omega,h2,h3,h4⟩
   ·unfold zC1 at h
    split at h
    ·rename_i a ha
     split at h
     ·rename_i hd
      exact⟨i,a,by omega,ha,hd,by simpa using h⟩
     ·cases h
    ·cases h
  ·rintro⟨th,a,h1,h2,h3,h4⟩
   by_cases e:th=i
   ·subst e
    right
    unfold zC1
    rw[h2]
    simp[h3,h4]
   ·exact .inl ⟨th,a,by omega,h2,h3,h4⟩
theorem qWk (s:TS):zD Tryz.prog cfg 24 [.pointer (some ⟨0,0,none⟩)] (AH.of [some (.hi (.teng s))])
  fun r H'=> r=.ret (.slice (some ⟨1,0,none⟩) (zBa s 4).length 1)/\H'=AH.of [some (.hi (.teng s)),some (.arr 3 (qI (zA7 (zBa s 4))))]:=by
 refine zD.ends ?_
 refine zD.openTEng (th:=0) (by omega) ?_
 refine zP (tbl:=zHo) zIr 5 3 (af:=a24) rfl ?_
 rw[a24,b24,zW]
 refine⟨by simp,?_⟩
 simp -implicitDefEqProofs [qK,qC,tps,u1,u2,u3]
 refine zA3 (qR jG (qS zIr) _ _ noY qM) (fun m tm H=> ∃i:Nat,m+i=4/\tm 0=.pointer (some ⟨0,0,none⟩)/\tm 11=.agg #[zBc 5 (s.ts 0),zBc 6 (s.ts 1),zBc 7 (s.ts 2),zBc 8 (s.ts 3)]/\tm 12=.int .i64 i/\tm 3=.slice (some ⟨9,0,none⟩) (zBa s i).length 1/\H=AH.of (qK s 0++[some (.arr 3 (qI (zBa s i)))])) (m:=4) ?_ (by omega) ?_
 ·refine zF4 [.nil 3] [0,1,2,3,4,5,6,7,8,9] (qK s 0++[some (.arr 3 (qI []))]) [(3,.slice (some ⟨9,0,none⟩) 0 1)] 4 (by omega) ?_ ?_ ?_ ⟨0,?_⟩<;> simp[qK,qC,tps,u1,u2,u3,zBa,zCh,zGf,show qI []=[] from rfl]
 rintro m tm H ⟨i,hm,t0,t11,t12,t3,rfl⟩
 have hle:=zTw s i
 by_cases hi:i<4
 ·have hr3:((zBa s i).length+1)*8<=140737488355328/\(zBa s i).length<=9223372036854775806:=by omega
  have htk:=zJp (zBa s i)
  have hil:(zBa s i).length<=(qI (zBa s i)).length:=by rw[zCq];omega
  have hsuc:zBa s (i+1)=zBa s i++zC1 s i:=rfl
  have hi4:i=0∨i=1∨i=2∨i=3:=by omega
  rcases hi4 with rfl|rfl|rfl|rfl
  ·have hwr:IntKind.i64.wrap (0+1)=1:=by decide
   have hwr2:IntKind.i64.wrap 1=1:=by decide
   generalize zBa s 0=out at*
   cases ha:s.ts 0 with
   |none=>
    have hd:zC1 s 0=[]:=by simp[zC1,ha]
    rw[hd,List.append_nil] at hsuc
    simp -implicitDefEqProofs [qK,qC,tps,u1,u2,u3,hwr,hwr2,t0,t11,t12,t3,ha,zR]
    refine qD [] [0,1,2,3,4,5,6,7,8,9] (qK s 0++[some (.arr 3 (qI (zBa s 1)))]) (m - 1) (by omega) ?_ ?_ ⟨1,by omega,?_⟩<;> simp[qK,qC,tps,u1,u2,u3,zCh,zGf,ha,zR,t0,t11,t3,hsuc]
   |some a=>
    cases hdec:a.dec with
    |false=>
     have hd:zC1 s 0=[]:=by simp[zC1,ha,hdec]
     rw[hd,List.append_nil] at hsuc
     simp -implicitDefEqProofs [qK,qC,tps,u1,u2,u3,hwr,hwr2,t0,t11,t12,t3,ha,zJ,zH,zX,hdec]
     refine qD [.pack (GD.tatt a) 5 [10,11]] [0,1,2,3,4,5,6,7,8,9] (qK s 0++[some (.arr 3 (qI (zBa s 1)))]) (m - 1) (by omega) ?_ ?_ ⟨1,by omega,?_⟩<;> simp[qK,qC,tps,u1,u2,u3,zCh,zGf,ha,zJ,zH,zX,hdec,t0,t11,t3,hsuc]
    |true=>
     have hd:zC1 s 0=[(a.n:Int)]:=by simp[zC1,ha,hdec]
     rw[hd] at hsuc
     simp -implicitDefEqProofs [qK,qC,tps,u1,u2,u3,hwr,hwr2,t0,t11,t12,t3,ha,zJ,zH,zX,hdec,hr3,htk,hil]
     refine qD [.pack (GD.tatt a) 5 [10,11]] [0,1,2,3,4,5,6,7,8,13] (qK s 0++[some (.arr 3 (qI (zBa s 1)))]) (m - 1) (by omega) ?_ ?_ ⟨1,by omega,?_⟩<;> simp[qK,qC,tps,u1,u2,u3,zCh,zGf,ha,zJ,zH,zX,hdec,t0,t11,t3,hsuc,zEl,zEk]
  ·have hwr:IntKind.i64.wrap (1+1)=2:=by decide
   have hwr2:IntKind.i64.wrap 2=2:=by decide
   generalize zBa s 1=out at*
   cases ha:s.ts 1 with
   |none=>
    have hd:zC1 s 1=[]:=by simp[zC1,ha]
    rw[hd,List.append_nil] at hsuc
    simp -implicitDefEqProofs [qK,qC,tps,u1,u2,u3,hwr,hwr2,t0,t11,t12,t3,ha,zR]
    refine qD [] [0,1,2,3,4,5,6,7,8,9] (qK s 0++[some (.arr 3 (qI (zBa s 2)))]) (m - 1) (by omega) ?_ ?_ ⟨2,by omega,?_⟩<;> simp[qK,qC,tps,u1,u2,u3,zCh,zGf,ha,zR,t0,t11,t3,hsuc]
   |some a=>
    cases hdec:a.dec with
    |false=>
     have hd:zC1 s 1=[]:=by simp[zC1,ha,hdec]
     rw[hd,List.append_nil] at hsuc
     simp -implicitDefEqProofs [qK,qC,tps,u1,u2,u3,hwr,hwr2,t0,t11,t12,t3,ha,zJ,zH,zX,hdec]
     refine qD [.pack (GD.tatt a) 6 [10,11]] [0,1,2,3,4,5,6,7,8,9] (qK s 0++[some (.arr 3 (qI (zBa s 2)))]) (m - 1) (by omega) ?_ ?_ ⟨2,by omega,?_⟩<;> simp[qK,qC,tps,u1,u2,u3,zCh,zGf,ha,zJ,zH,zX,hdec,t0,t11,t3,hsuc]
    |true=>
     have hd:zC1 s 1=[(a.n:Int)]:=by simp[zC1,ha,hdec]
     rw[hd] at hsuc
     simp -implicitDefEqProofs [qK,qC,tps,u1,u2,u3,hwr,hwr2,t0,t11,t12,t3,ha,zJ,zH,zX,hdec,hr3,htk,hil]
     refine qD [.pack (GD.tatt a) 6 [10,11]] [0,1,2,3,4,5,6,7,8,13] (qK s 0++[some (.arr 3 (qI (zBa s 2)))]) (m - 1) (by omega) ?_ ?_ ⟨2,by omega,?_⟩<;> simp[qK,qC,tps,u1,u2,u3,zCh,zGf,ha,zJ,zH,zX,hdec,t0,t11,t3,hsuc,zEl,zEk]
  ·have hwr:IntKind.i64.wrap (2+1)=3:=by decide
   have hwr2:IntKind.i64.wrap 3=3:=by decide
   generalize zBa s 2=out at*
   cases ha:s.ts 2 with
   |none=>
    have hd:zC1 s 2=[]:=by simp[zC1,ha]
    rw[hd,List.append_nil] at hsuc
    simp -implicitDefEqProofs [qK,qC,tps,u1,u2,u3,hwr,hwr2,t0,t11,t12,t3,ha,zR]
    refine qD [] [0,1,2,3,4,5,6,7,8,9] (qK s 0++[some (.arr 3 (qI (zBa s 3)))]) (m - 1) (by omega) ?_ ?_ ⟨3,by omega,?_⟩<;> simp[qK,qC,tps,u1,u2,u3,zCh,zGf,ha,zR,t0,t11,t3,hsuc]
   |some a=>
    cases hdec:a.dec with
    |false=>
     have hd:zC1 s 2=[]:=by simp[zC1,ha,hdec]
     rw[hd,List.append_nil] at hsuc
     simp -implicitDefEqProofs [qK,qC,tps,u1,u2,u3,hwr,hwr2,t0,t11,t12,t3,ha,zJ,zH,zX,hdec]
     refine qD [.pack (GD.tatt a) 7 [10,11]] [0,1,2,3,4,5,6,7,8,9] (qK s 0++[some (.arr 3 (qI (zBa s 3)))]) (m - 1) (by omega) ?_ ?_ ⟨3,by omega,?_⟩<;> simp[qK,qC,tps,u1,u2,u3,zCh,zGf,ha,zJ,zH,zX,hdec,t0,t11,t3,hsuc]
    |true=>
     have hd:zC1 s 2=[(a.n:Int)]:=by simp[zC1,ha,hdec]
     rw[hd] at hsuc
     simp -implicitDefEqProofs [qK,qC,tps,u1,u2,u3,hwr,hwr2,t0,t11,t12,t3,ha,zJ,zH,zX,hdec,hr3,htk,hil]
     refine qD [.pack (GD.tatt a) 7 [10,11]] [0,1,2,3,4,5,6,7,8,13] (qK s 0++[some (.arr 3 (qI (zBa s 3)))]) (m - 1) (by omega) ?_ ?_ ⟨3,by omega,?_⟩<;> simp[qK,qC,tps,u1,u2,u3,zCh,zGf,ha,zJ,zH,zX,hdec,t0,t11,t3,hsuc,zEl,zEk]
  ·have hwr:IntKind.i64.wrap (3+1)=4:=by decide
   have hwr2:IntKind.i64.wrap 4=4:=by decide
   generalize zBa s 3=out at*
   cases ha:s.ts 3 with
   |none=>
    have hd:zC1 s 3=[]:=by simp[zC1,ha]
    rw[hd,List.append_nil] at hsuc
    simp -implicitDefEqProofs [qK,qC,tps,u1,u2,u3,hwr,hwr2,t0,t11,t12,t3,ha,zR]
    refine qD [] [0,1,2,3,4,5,6,7,8,9] (qK s 0++[some (.arr 3 (qI (zBa s 4)))]) (m - 1) (by omega) ?_ ?_ ⟨4,by omega,?_⟩<;> simp[qK,qC,tps,u1,u2,u3,zCh,zGf,ha,zR,t0,t11,t3,hsuc]
   |some a=>
    cases hdec:a.dec with
    |false=>
     have hd:zC1 s 3=[]:=by simp[zC1,ha,hdec]
     rw[hd,List.append_nil] at hsuc
     simp -implicitDefEqProofs [qK,qC,tps,u1,u2,u3,hwr,hwr2,t0,t11,t12,t3,ha,zJ,zH,zX,hdec]
     refine qD [.pack (GD.tatt a) 8 [10,11]] [0,1,2,3,4,5,6,7,8,9] (qK s 0++[some (.arr 3 (qI (zBa s 4)))]) (m - 1) (by omega) ?_ ?_ ⟨4,by omega,?_⟩<;> simp[qK,qC,tps,u1,u2,u3,zCh,zGf,ha,zJ,zH,zX,hdec,t0,t11,t3,hsuc]
    |true=>
     have hd:zC1 s 3=[(a.n:Int)]:=by simp[zC1,ha,hdec]
     rw[hd] at hsuc
     simp -implicitDefEqProofs [qK,qC,tps,u1,u2,u3,hwr,hwr2,t0,t11,t12,t3,ha,zJ,zH,zX,hdec,hr3,htk,hil]
     refine qD [.pack (GD.tatt a) 8 [10,11]] [0,1,2,3,4,5,6,7,8,13] (qK s 0++[some (.arr 3 (qI (zBa s 4)))]) (m - 1) (by omega) ?_ ?_ ⟨4,by omega,?_⟩<;> simp[qK,qC,tps,u1,u2,u3,zCh,zGf,ha,zJ,zH,zX,hdec,t0,t11,t3,hsuc,zEl,zEk]
 ·have hie:i=4:=by omega
  subst hie
  have hb:(zBa s 4).length<=1000000:=by omega
  simp -implicitDefEqProofs [qK,qC,tps,u1,u2,u3,zHo,zS8,sl0,zA1,t0,t11,t12,t3,hb]
  refine zA [.pack (GD.teng s) 0 [1,2,3,4,5,6,7,8]] [0,9] ?_ ?_ ?_<;> simp[qG]
def zW6:qH GD:=fun args H=> match args with
 |[.pointer (some ⟨k,0,none⟩)]=> match H.get k with
  |some (.hi (.teng s))=> some (True,.ret (.slice (some ⟨H.next,0,none⟩) (zBa s 4).length 1),H.add (.arr 3 (qI (zA7 (zBa s 4)))))
  |_=> none
 |_=> none
theorem qRq:zY Tryz.prog cfg 24 zW6:=by
 intro args H p r H' h hp
 unfold zW6 at h
 split at h
 case h_2=> cases h
 split at h
 case h_2=> cases h
 rename_i k x s hk
 cases h
 exact (qWk s).atK (jD rfl) [k] (by simp) (by simp) (by simp[hk]) (by simp) (by simp) (by simp[qO hk])
end YtapbabkndhaemaaGreat
end Go.Proofs
/-
 What the arguments of tl2's laws read as.
-/
namespace Go.Proofs
namespace YtapbabkndhaemaaGreat
open Go.Abs Go.ChangeShapes Go.WideShapes Go.ChangeAt Go.RowKit
set_option maxRecDepth 100000
theorem zT0:Tryz.prog.cellsOf 34=5:=by kernel_rfl
theorem qCx:Tryz.prog.cellsOf 32=3:=by kernel_rfl
theorem qJf:Tryz.prog.cellsOf 3=1:=by kernel_rfl
def qW3:List TypeId:=[25,22,34,32,28,30,3,29,5]
theorem qCk:zH5 Tryz.prog qW3=true:=by kernel_rfl
section
variable {H:Type} {enc:TypeId × Value->H} {w:World}
theorem qFd {fuel:Nat} {cs:List Value} {y:DataW H × List MemPlace} (h:DataW.trod enc Tryz.prog w 0 (fun _=> true) true fuel 32 cs=some y):∃e:Ak,cs=[.int .u8 e.k,.int .i64 e.t,.int .u64 e.v]/\(0<=e.k/\e.k<256)/\0<=e.v/\e.v<18446744073709551616:=by
 obtain⟨h1,h2⟩:=zW1 Tryz.underlying32 (by kernel_rfl) h qCx
 obtain⟨v0,n0,y0,g0,t0⟩:=h2 0 _ rfl
 obtain⟨v1,n1,y1,g1,t1⟩:=h2 1 _ rfl
 obtain⟨v2,n2,y2,g2,t2⟩:=h2 2 _ rfl
 obtain⟨a,ha,_,hwa⟩:=DataW.trod_int Tryz.underlying28 t0
 obtain⟨b,hb,_,_⟩:=DataW.trod_int Tryz.underlying3 t1
 obtain⟨c,hc,_,hw⟩:=DataW.trod_int Tryz.underlying30 t2
 have h3:cs.length=3:=h1
 match cs,h3 with
 |[c0,c1,c2],_=>
  simp only[List.getElem?_cons_zero,List.getElem?_cons_succ,Option.some.injEq] at g0 g1 g2
  cases g0;cases g1;cases g2
  cases ha;cases hb;cases hc
  exact⟨⟨a,b,c⟩,rfl,wf_u8 hwa,qVh hw⟩
theorem qOi {fuel:Nat} {cs:List Value} {y:DataW H × List MemPlace} (h:DataW.trod enc Tryz.prog w 0 (fun _=> true) true fuel 34 cs=some y):∃e:Dd,cs=e.cells/\e.Ok:=by
 obtain⟨xs,n,_,_,h1,h2,h3⟩:=DataW.trod_struct Tryz.underlying34 h
 have hl:cs.length=5:=by rw[h1,zT0]
 obtain⟨c0,c1,c2,c3,c4,rfl⟩:∃c0 c1 c2 c3 c4,cs=[c0,c1,c2,c3,c4]:=by
  match cs,hl with
  |[c0,c1,c2,c3,c4],_=> exact⟨c0,c1,c2,c3,c4,rfl⟩
 have f0:=h3 0 _ rfl
 have f1:=h3 1 _ rfl
 have f2:=h3 2 _ rfl
 have hx:xs.length=3:=h2
 have e0:xs[0]?=some xs[0]:=List.getElem?_eq_getElem (by omega)
 have e1:xs[1]?=some xs[1]:=List.getElem?_eq_getElem (by omega)
 have e2:xs[2]?=some xs[2]:=List.getElem?_eq_getElem (by omega)
 change DataW.trod enc Tryz.prog w 0 (fun _=> true) true n 3 (([c0,c1,c2,c3,c4].drop 0).take (Tryz.prog.cellsOf 3))=xs[0]? at f0
 change DataW.trod enc Tryz.prog w 0 (fun _=> true) true n 3 (([c0,c1,c2,c3,c4].drop 1).take (Tryz.prog.cellsOf 3))=xs[1]? at f1
 change DataW.trod enc Tryz.prog w 0 (fun _=> true) true n 32 (([c0,c1,c2,c3,c4].drop 2).take (Tryz.prog.cellsOf 32))=xs[2]? at f2
 rw[qJf,e0] at f0
 rw[qJf,e1] at f1
 rw[qCx,e2] at f2
 obtain⟨a,ha,_,_⟩:=DataW.trod_int Tryz.underlying3 f0
 obtain⟨b,hb,_,_⟩:=DataW.trod_int Tryz.underlying3 f1
 obtain⟨x,hx,hxo⟩:=qFd f2
 have ha':[c0]=[.int .i64 a]:=ha
 have hb':[c1]=[.int .i64 b]:=hb
 have hx':[c2,c3,c4]=[.int .u8 x.k,.int .i64 x.t,.int .u64 x.v]:=hx
 cases ha';cases hb';cases hx'
 exact⟨⟨a,b,x⟩,rfl,hxo⟩
theorem qCu (l:List Dd):(dds l).all (·.oneCell')=true:=by
 induction l with
 |nil=> rfl
 |cons e l ih=> rw[zLf];simpa [Value.oneCell'] using ih
theorem zPz {r:Reach} {b0:Nat} {v:Value} {d:DataW H} {ps:List MemPlace} (hok:Value.okWide Tryz.prog w r b0 22 v) (hd:DataW.Trod enc Tryz.prog w 0 (fun _=> true) true 22 v d ps):
  ∃l:List Dd,(∀e∈l,e.Ok)/\l.length<=maxLen/\zZ3 w v l.length (dds l):=
 qHs (ea:=Dd.cells) Tryz.underlying22 (by rw[zT0];omega) (fun x=> zT0.symm) (fun _ _ _ h=> qOi h) hok hd
end
end YtapbabkndhaemaaGreat
end Go.Proofs
/-
 THE DOCUMENT's LOG:New,Depth,Push,Drop.
-/
namespace Go.Proofs
namespace YtapbabkndhaemaaGreat
open Go.Abs
def rf (fs:List (List Pr)):List Value:=fs.reverse.flatMap jP
theorem xW (fs:List (List Pr)):frag (.rlog fs)=[.arr 196 [.slice (some ⟨1,0,none⟩) fs.length 1],.arr 246 (rf fs)]:=rfl
theorem zG6 (f:List Pr) (r:List (List Pr)):rf (f::r)=rf r++jP f:=by simp[rf]
theorem xY (f:List Pr):(jP f).length=24:=by simp[jP,zFz]
theorem zGi (fs:List (List Pr)):(rf fs).length=fs.length*24:=by
 induction fs with
 |nil=> rfl
 |cons f r ih=> rw[zG6,List.length_append,ih,xY,List.length_cons];omega
theorem zNk (f:List Pr):jJ (jP f)=true:=by
 have h:∀l m:List Value,jJ l=true->jJ m=true->jJ (l++m)=true:=by
  intro l m h1 h2
  induction l with
  |nil=> exact h2
  |cons x l ih=>
   simp only[jJ,Bool.and_eq_true,List.cons_append] at h1⊢
   exact⟨h1.1,ih h1.2⟩
 refine h _ _ ?_ ?_<;> simp[zFz,jJ,xD]
theorem qG7 (fs:List (List Pr)):jJ (rf fs)=true:=by
 have h:∀l m:List Value,jJ l=true->jJ m=true->jJ (l++m)=true:=by
  intro l m h1 h2
  induction l with
  |nil=> exact h2
  |cons x l ih=>
   simp only[jJ,Bool.and_eq_true,List.cons_append] at h1⊢
   exact⟨h1.1,ih h1.2⟩
 induction fs with
 |nil=> rfl
 |cons f r ih=> rw[zG6];exact h _ _ ih (zNk f)
theorem qWv (θ:Nat->Nat) (fs:List (List Pr)):zAh θ (rf fs)=rf fs:=xV θ _ (qG7 fs)
theorem zS2 (fs:List (List Pr)):(rf fs).take (fs.length*24)=rf fs:=List.take_of_length_le (by rw[zGi];omega)
theorem qWs:rf [[]]=[.bool false,.bool false,.bool false,.bool false,.bool false,.bool false,.bool false,.bool false,.bool false,.bool false,.bool false,.bool false,.int .u64 0,.int .u64 0,.int .u64 0,.int .u64 0,.int .u64 0,.int .u64 0,.int .u64 0,.int .u64 0,.int .u64 0,.int .u64 0,.int .u64 0,.int .u64 0]:=rfl
theorem qTr (fs:List (List Pr)):rf ([]::fs)=rf fs++[.bool false,.bool false,.bool false,.bool false,.bool false,.bool false,.bool false,.bool false,.bool false,.bool false,.bool false,.bool false,.int .u64 0,.int .u64 0,.int .u64 0,.int .u64 0,.int .u64 0,.int .u64 0,.int .u64 0,.int .u64 0,.int .u64 0,.int .u64 0,.int .u64 0,.int .u64 0]:=zG6 [] fs
attribute [simp] qWv
theorem qTd:zD Tryz.prog cfg 132 [] (AH.of []) fun r H'=> r=.ret (.pointer (some ⟨0,0,none⟩))/\H'=AH.of [some (.hi (.rlog [[]]))]:=by
 refine zD.ends ?_
 refine zP (tbl:=[]) (by simp) 0 0 (af:=a132) rfl ?_
 rw[a132,b132,zW]
 refine⟨by simp,?_⟩
 simp -implicitDefEqProofs
 refine zA [.pack (GD.rlog [[]]) 1 [0]] [1] ?_ ?_ ?_<;> simp[xW,qWs,AObj.mine]
def zV2:qH GD:=fun args H=> match args with
 |[]=> some (True,.ret (.pointer (some ⟨H.next,0,none⟩)),H.add (.hi (.rlog [[]])))
 |_=> none
theorem qLz:zY Tryz.prog cfg 132 zV2:=by
 intro args H p r H' h hp
 unfold zV2 at h
 split at h
 case h_2=> cases h
 cases h
 exact qTd.atK (jD rfl) [] (by simp) (by simp) trivial (by simp) (by simp) (by simp)
theorem qSv (fs:List (List Pr)) (hl:fs.length<=1000):zD Tryz.prog cfg 185 [.pointer (some ⟨0,0,none⟩)] (AH.of [some (.hi (.rlog fs))])
  fun r H'=> r=.ret (.int .i64 ((fs.length:Int) - 1))/\H'=AH.of [some (.hi (.rlog fs))]:=by
 refine zD.ends ?_
 have hw:IntKind.i64.wrap ((fs.length:Int) - 1)=(fs.length:Int) - 1:=qF (by omega) (by omega)
 refine zP (tbl:=[]) (by simp) 0 0 (af:=a185) rfl ?_
 rw[a185,b185,zW]
 refine⟨by simp,?_⟩
 simp -implicitDefEqProofs [xW,hw]
 refine zA [.pack (GD.rlog fs) 0 [1]] [0] ?_ ?_ ?_<;> simp[xW,AObj.mine]
def zBs:zDs
 |.rlog fs,[]=> some (fs.length<=1000,.int .i64 ((fs.length:Int) - 1),.rlog fs)
 |_,_=> none
theorem qLj:zY Tryz.prog cfg 185 (zZ zBs):=zCk fun d rest p v d' h hp=> by
 unfold zBs at h
 split at h
 ·cases h;exact⟨rfl,rfl,qSv _ hp⟩
 ·cases h
theorem qSt (f:List Pr) (r:List (List Pr)) (hl:r.length<=100):zD Tryz.prog cfg 197 [.pointer (some ⟨0,0,none⟩)] (AH.of [some (.hi (.rlog (f::r)))])
  fun x H'=> x=.ret (.int .i64 (if 4<=r.length then 4 else 0))/\H'=AH.of [some (.hi (if 4<=r.length then .rlog (f::r) else .rlog ([]::f::r)))]:=by
 refine zD.ends ?_
 obtain⟨fs,hfs⟩:∃fs,f::r=fs:=⟨_,rfl⟩
 have hlen:fs.length=r.length+1:=by rw[←hfs];rfl
 rw[hfs]
 have hw:IntKind.i64.wrap ((fs.length:Int) - 1)=(r.length:Int):=by rw[qF (by omega) (by omega)];omega
 refine zP (tbl:=[]) (by simp) 0 1 (af:=a197) rfl ?_
 rw[a197,b197,zW]
 refine⟨by simp,?_⟩
 by_cases h4:4<=r.length
 ·have h4':(4:Int)<=r.length:=by omega
  rw[if_pos h4,if_pos h4]
  simp -implicitDefEqProofs [xW,forms185,a185,b185,hw,h4']
  refine zA [.pack (GD.rlog fs) 0 [1]] [0] ?_ ?_ ?_<;> simp[xW,AObj.mine]
 ·have h4':¬(4:Int)<=r.length:=by omega
  rw[if_neg h4,if_neg h4]
  obtain⟨n,hn⟩:∃n,fs.length=n:=⟨_,rfl⟩
  have tk:=zS2 fs
  have rl:=zGi fs
  rw[hn] at tk hw rl
  have z1:n*112<=140737488355328/\n<=9223372036854775807:=by omega
  have z2:(n+1)*112<=140737488355328/\n<=9223372036854775806:=by omega
  have hpu:=qTr fs
  simp -implicitDefEqProofs [xW,hn,forms185,a185,b185,hw,h4',tk,rl,z1,z2]
  refine zA [.pack (GD.rlog ([]::fs)) 0 [5]] [0] ?_ ?_ ?_<;> simp[xW,hn,AObj.mine,hpu]
def zZd:zDs
 |.rlog (f::r),[]=> some (r.length<=100,.int .i64 (if 4<=r.length then 4 else 0),if 4<=r.length then .rlog (f::r) else .rlog ([]::f::r))
 |_,_=> none
theorem qLi:zY Tryz.prog cfg 197 (zZ zZd):=zCk fun d rest p v d' h hp=> by
 unfold zZd at h
 split at h
 ·cases h;exact⟨rfl,rfl,qSt _ _ hp⟩
 ·cases h
theorem qSs (f:List Pr) (r:List (List Pr)) (hl:r.length<=100):zD Tryz.prog cfg 198 [.pointer (some ⟨0,0,none⟩)] (AH.of [some (.hi (.rlog (f::r)))])
  fun x H'=> x=.ret (.int .i64 (if r=[] then 8 else 0))/\H'=AH.of [some (.hi (if r=[] then .rlog (f::r) else .rlog r))]:=by
 refine zD.ends ?_
 have hw:IntKind.i64.wrap (((r.length:Int)+1) - 1)=(r.length:Int):=by rw[qF (by omega) (by omega)];omega
 refine zP (tbl:=[]) (by simp) 0 1 (af:=a198) rfl ?_
 rw[a198,b198,zW]
 refine⟨by simp,?_⟩
 by_cases h0:r=[]
 ·rw[if_pos h0,if_pos h0]
  subst h0
  have hw0:IntKind.i64.wrap 0=0:=by decide
  simp -implicitDefEqProofs [xW,forms185,a185,b185,hw0]
  refine zA [.pack (GD.rlog [f]) 0 [1]] [0] ?_ ?_ ?_<;> simp[xW,AObj.mine]
 ·rw[if_neg h0,if_neg h0]
  have h1:¬(r.length:Int)=0:=by
   have:r.length≠0:=fun h=> h0 (List.eq_nil_of_length_eq_zero h)
   omega
  obtain⟨n,hn⟩:∃n,r.length=n:=⟨_,rfl⟩
  have tk:(rf (f::r)).take (n*24)=rf r:=by rw[zG6,←hn,List.take_append_of_le_length (by rw[zGi];omega)];exact zS2 r
  have rl:=zGi (f::r)
  rw[hn] at hw h1
  have hn1:(f::r).length=n+1:=by simp[hn]
  rw[hn1] at rl
  have z1:n*112<=140737488355328/\n<=9223372036854775807:=by omega
  have hw2:IntKind.i64.wrap (n:Int)=n:=qF (by omega) (by omega)
  have z2:n*24<=(n+1)*24:=by omega
  have z3:(n:Int)<=(n:Int)+1:=by omega
  have z4:¬n=0:=by omega
  simp -implicitDefEqProofs [xW,hn,forms185,a185,b185,hw,hw2,h1,tk,rl,z1,z2,z3,z4,bound]
  refine zA [.pack (GD.rlog r) 0 [3]] [0] ?_ ?_ ?_<;> simp[xW,hn,AObj.mine]
def zL4:zDs
 |.rlog (f::r),[]=> some (r.length<=100,.int .i64 (if r=[] then 8 else 0),if r=[] then .rlog (f::r) else .rlog r)
 |_,_=> none
theorem zXf:zY Tryz.prog cfg 198 (zZ zL4):=zCk fun d rest p v d' h hp=> by
 unfold zL4 at h
 split at h
 ·cases h;exact⟨rfl,rfl,qSs _ _ hp⟩
 ·cases h
end YtapbabkndhaemaaGreat
end Go.Proofs
