/-
  THE DOCUMENT's LOG: Len, set, Put.
-/
import Derived.Test.YtapbabkndhaemaaGreatPR2
import Derived.Test.YtapbabkndhaemaaGreatPR1
import Derived.Test.YtapbabkndhaemaaGreatPA1
set_option linter.unusedSimpArgs false
set_option linter.unusedVariables false
set_option linter.unnecessarySimpa false
set_option linter.unusedSectionVars false
set_option maxHeartbeats 32000000
set_option maxRecDepth 100000
namespace Go.Proofs
namespace YtapbabkndhaemaaGreat
open Go.Abs
theorem zGa (g:List Pr) {t:Nat} (h:t<12):(jP g)[t]?=some (.bool (qW g t).isSome):=by
 unfold jP
 rw[List.getElem?_append_left (by simp[zFz];omega),List.getElem?_map]
 have:zFz[t]?=some (t:Int):=by
  match t,h with
  |0,_|1,_|2,_|3,_|4,_|5,_|6,_|7,_|8,_|9,_|10,_|11,_=> rfl
 rw[this];rfl
theorem zIm (g:List Pr) {t:Nat} (h:t<12):(jP g)[12+t]?=some (.int .u64 ((qW g t).getD 0)):=by
 unfold jP
 rw[List.getElem?_append_right (by simp[zFz]),List.getElem?_map]
 have:zFz[12+t - (zFz.map fun t=> Value.bool (qW g t).isSome).length]?=some (t:Int):=by
  match t,h with
  |0,_|1,_|2,_|3,_|4,_|5,_|6,_|7,_|8,_|9,_|10,_|11,_=> rfl
 rw[this];rfl
theorem qCr {α:Type} {f:α->List Value} {k:Nat} (hk:∀x,(f x).length=k):∀{l:List α} {i:Nat} {g:α},l[i]?=some g->((l.flatMap f).drop (i*k)).take k=f g
 |[],i,g,h=> by simp at h
 |x::l,0,g,h=> by
  simp at h;subst h
  rw[Nat.zero_mul,List.drop_zero,List.flatMap_cons,List.take_append_of_le_length (by rw[hk];omega),List.take_of_length_le (by rw[hk];omega)]
 |x::l,i+1,g,h=> by
  rw[List.flatMap_cons,Nat.succ_mul,Nat.add_comm,←List.drop_drop,List.drop_left' (hk x)]
  exact qCr hk (by simpa using h)
theorem rf_at {fs:List (List Pr)} {i:Nat} {g:List Pr} (h:fs.reverse[i]?=some g):((rf fs).drop (i*24)).take 24=jP g:=qCr xY h
theorem zX2 {fs:List (List Pr)} {i:Nat} {g:List Pr} (h:fs.reverse[i]?=some g) {j:Nat} (hj:j<24):(rf fs)[i*24+j]?=(jP g)[j]?:=by
 rw[←rf_at h,List.getElem?_take,if_pos hj,List.getElem?_drop]
def zGd (g:List Pr) (n:Nat):Nat:=(List.range n).countP fun t=> (qW g (t:Nat)).isSome
def zGu (fr:List (List Pr)):Nat:=(fr.map fun g=> zGd g 12).sum
theorem zLw (g:List Pr) (n:Nat):zGd g (n+1)=zGd g n+if (qW g (n:Nat)).isSome=true then 1 else 0:=by
 unfold zGd
 rw[List.range_succ,List.countP_append]
 simp[List.countP_cons]
theorem qCw (g:List Pr) (n:Nat):zGd g n<=n:=by
 have:=List.countP_le_length (p:=fun t:Nat=> (qW g (t:Nat)).isSome) (l:=List.range n)
 simpa [zGd] using this
theorem qE1 {fr:List (List Pr)} {i:Nat} {g:List Pr} (h:fr[i]?=some g):zGu (fr.take (i+1))=zGu (fr.take i)+zGd g 12:=by
 unfold zGu
 rw[List.take_add_one,h,List.map_append,List.sum_append]
 simp
theorem qOj (fr:List (List Pr)):zGu fr<=12*fr.length:=by
 unfold zGu
 induction fr with
 |nil=> simp
 |cons g fr ih=>
  have:=qCw g 12
  simp only[List.map_cons,List.sum_cons,List.length_cons]
  omega
def zLg (fs:List (List Pr)):Nat:=zGu fs.reverse
def lenI (fs:List (List Pr)) (m:Nat) (tm:Nat->Value) (H:AH GD):Prop:=∃i:Nat,m+i=fs.length/\tm 0=.pointer (some ⟨0,0,none⟩)/\tm 3=.int .i64 (zGu (fs.reverse.take i))/\tm 4=.int .i64 i/\H=AH.of [some (.arr 196 [.slice (some ⟨1,0,none⟩) fs.length 1]),some (.arr 246 (rf fs))]
def lenJ (fs:List (List Pr)) (g:List Pr) (i m:Nat) (tm:Nat->Value) (H:AH GD):Prop:=∃j:Nat,m+j=12/\tm 0=.pointer (some ⟨0,0,none⟩)/\tm 3=.int .i64 ((zGu (fs.reverse.take i)+zGd g j:Nat):Int)/\tm 4=.int .i64 i/\tm 5=.int .i64 j/\H=AH.of [some (.arr 196 [.slice (some ⟨1,0,none⟩) fs.length 1]),some (.arr 246 (rf fs))]
theorem qR9 (fs:List (List Pr)) (hl:fs.length<=100):zD Tryz.prog cfg 236 [.pointer (some ⟨0,0,none⟩)] (AH.of [some (.hi (.rlog fs))])
  fun r H'=> r=.ret (.int .i64 (zLg fs))/\H'=AH.of [some (.hi (.rlog fs))]:=by
 refine zD.ends ?_
 refine zD.opn 0 (H1:=AH.of [some (.arr 196 [.slice (some ⟨1,0,none⟩) fs.length 1]),some (.arr 246 (rf fs))]) (by simp[zJg,xW]) ?_
 have hrl:=zGi fs
 refine zP (tbl:=[]) (by simp) 101 0 (af:=a236) rfl ?_
 rw[a236,b236,zW]
 refine⟨by simp,?_⟩
 simp -implicitDefEqProofs
 refine jH (qR jG (qS (by simp)) _ _ noY qM) (lenI fs) (m:=fs.length) ⟨0,by omega,by simp[zGu]⟩ (by omega) ?_
 rintro m tm H ⟨i,hm,t0,t3,t4,rfl⟩
 by_cases hi:i<fs.length
 ·obtain⟨g,hg⟩:=zAs (l:=fs.reverse) (i:=i) (by simpa using hi)
  have hi':(i:Int)<fs.length:=by omega
  have hwr:=jV hi (by omega)
  have hsuc:=qE1 hg
  have hb:=qOj (fs.reverse.take i)
  rw[List.length_take,List.length_reverse] at hb
  simp -implicitDefEqProofs [t0,t3,t4,hi']
  refine jH (qR jG (qS (by simp)) _ _ noY qM) (lenJ fs g i) (m:=12) ⟨0,by omega,by simp[t0,t3,t4,zGd]⟩ (by omega) ?_
  rintro m2 tm H ⟨j,hm2,t0,t3,t4,t5,rfl⟩
  by_cases hj:j<12
  ·have hj':(j:Int)<12:=by omega
   have hwj:=jV hj (by omega)
   have hc:=zX2 hg (j:=j) (by omega)
   rw[zGa g hj] at hc
   have hcs:=zLw g j
   have hcl:=qCw g j
   have hw3:=jV (i:=zGu (fs.reverse.take i)+zGd g j) (n:=10000) (by omega) (by omega)
   obtain⟨C,hC⟩:∃C,zGu (fs.reverse.take i)+zGd g j=C:=⟨_,rfl⟩
   rw[hC] at t3 hw3
   cases hh:(qW g (j:Nat)).isSome with
   |true=>
    rw[hh] at hc hcs
    have hcs':zGu (fs.reverse.take i)+zGd g (j+1)=C+1:=by rw[hcs,←hC];simp;omega
    simp -implicitDefEqProofs [t0,t3,t4,t5,hi,hi',hj',hwj,hc,hw3]
    exact⟨m2 - 1,by omega,j+1,by omega,by simp[t0,t4,hcs']⟩
   |false=>
    rw[hh] at hc hcs
    have hcs':zGu (fs.reverse.take i)+zGd g (j+1)=C:=by rw[hcs,←hC];simp
    simp -implicitDefEqProofs [t0,t3,t4,t5,hi,hi',hj',hwj,hc]
    exact⟨m2 - 1,by omega,j+1,by omega,by simp[t0,t3,t4,hcs']⟩
  ·have hje:j=12:=by omega
   have hj':¬(j:Int)<12:=by omega
   rw[hje,←hsuc] at t3
   simp -implicitDefEqProofs [t0,t3,t4,t5,hj',hwr]
   exact⟨m - 1,by omega,i+1,by omega,by simp[t0,t3]⟩
 ·have hie:i=fs.length:=by omega
  have hi':¬(i:Int)<fs.length:=by omega
  have ht:fs.reverse.take i=fs.reverse:=List.take_of_length_le (by simp;omega)
  rw[ht] at t3
  change tm 3=.int .i64 (zLg fs) at t3
  simp -implicitDefEqProofs [t0,t3,t4,hi']
  refine zA [.pack (GD.rlog fs) 0 [1]] [0] ?_ ?_ ?_<;> simp[xW,AObj.mine]
def zTx:zDs
 |.rlog fs,[]=> some (fs.length<=100,.int .i64 (zLg fs),.rlog fs)
 |_,_=> none
theorem qK5:zY Tryz.prog cfg 236 (zZ zTx):=zCk fun d rest p v d' h hp=> by
 unfold zTx at h
 split at h
 ·cases h;exact⟨rfl,rfl,qR9 _ hp⟩
 ·cases h
end YtapbabkndhaemaaGreat
end Go.Proofs
/-
 THE DOCUMENT's LOG:Put.
-/
namespace Go.Proofs
namespace YtapbabkndhaemaaGreat
open Go.Abs
theorem zE9 (p:Pr) (f:List Pr) (t:Int):qW (p::f) t=if p.t=t then some p.v else qW f t:=by
 by_cases h:p.t=t<;> simp[qW,h]
theorem zM5 (f:List Pr) (p:Pr) (t:Int):qW (xE f p) t=if p.t=t then some p.v else qW f t:=by
 induction f with
 |nil=> rw[xE,zE9]
 |cons q f ih=>
  rw[xE]
  by_cases h:q.t=p.t
  ·rw[if_pos h,zE9]
   simp only[h]
   by_cases h2:p.t=t
   ·simp[h2]
   ·have:¬q.t=t:=by omega
    simp[h2,zE9,this]
  ·rw[if_neg h,zE9,ih]
   by_cases h2:q.t=t
   ·have:¬p.t=t:=by omega
    simp[h2,this,zE9]
   ·simp[h2,zE9]
theorem zOg {f g:List Pr} {cs:List Value} (hl:cs.length=24) (h1:∀t:Nat,t<12->cs[t]?=some (.bool (qW f t).isSome)) (h2:∀t:Nat,t<12->cs[12+t]?=some (.int .u64 ((qW f t).getD 0))):cs=jP f:=by
 refine List.ext_getElem? fun j=> ?_
 by_cases hj:j<12
 ·rw[h1 j hj,zGa f hj]
 ·by_cases hj2:j<24
  ·have e:j=12+(j - 12):=by omega
   rw[e,h2 _ (by omega),zIm f (by omega)]
  ·rw[List.getElem?_eq_none (by omega),List.getElem?_eq_none (by rw[xY];omega)]
theorem qEp (f:List Pr) {t:Nat} (ht:t<12) (v:Int):((jP f).set t (.bool true)).set (12+t) (.int .u64 v)=jP (xE f ⟨t,v⟩):=by
 refine zOg (f:=xE f ⟨t,v⟩) (g:=f) (by simp[xY]) (fun s hs=> ?_) (fun s hs=> ?_)
 ·rw[List.getElem?_set,if_neg (by omega),List.getElem?_set,zGa f hs,zM5]
  by_cases h:t=s
  ·subst h
   simp[xY];omega
  ·have:¬(t:Int)=s:=by omega
   simp[h,this]
 ·rw[List.getElem?_set,List.length_set,xY,List.getElem?_set,zIm f hs,zM5]
  by_cases h:t=s
  ·subst h
   simp;omega
  ·have:¬(t:Int)=s:=by omega
   have h2:¬12+t=12+s:=by omega
   have h3:¬t=12+s:=by omega
   simp[h2,h3,this,h]
theorem zIn (f:List Pr):(jP f).all (·.oneCell')=true:=by simp[jP,zFz,Value.oneCell']
theorem zMt:∀(C A B:List Value),B.length=C.length->setMany (A++B) A.length C=A++C
 |[],A,B,h=> by
  have:B=[]:=List.eq_nil_of_length_eq_zero (by simpa using h)
  rw[this];rfl
 |c::C,A,B,h=> by
  cases B with
  |nil=> simp at h
  |cons b B=>
   rw[setMany]
   have e:(A++b::B).set A.length c=(A++[c])++B:=by
    rw[List.set_append_right _ _ (Nat.le_refl _)]
    simp
   have:=zMt C (A++[c]) B (by simpa using h)
   rw[List.length_append] at this
   rw[e,show A.length+1=A.length+[c].length from rfl,this]
   simp
theorem zGm {A C:List Value} (h:A.length=C.length):setMany A 0 C=C:=by
 have:=zMt C [] A h
 simpa using this
theorem zPw (f g:List Pr) (r:List (List Pr)) {k:Nat} (hk:k=r.length*24):setMany (rf (f::r)) k (jP g)=rf (g::r):=by
 subst hk
 rw[zG6,zG6,←zGi r]
 exact zMt _ _ _ (by rw[xY,xY])
theorem qG6 (f:List Pr) (r:List (List Pr)) {k:Nat} (hk:k=r.length*24):((rf (f::r)).drop k).take 24=jP f:=by
 subst hk
 rw[zG6,←zGi r,List.drop_left,List.take_of_length_le (by rw[xY];omega)]
def zJv (f:List Pr):Prop:=(f.map (·.t)).Nodup/\∀p∈f,0<=p.t/\p.t<12
theorem qCq {f:List Pr} {t:Int} (h:∀p∈f,p.t≠t):qW f t=none:=by
 induction f with
 |nil=> rfl
 |cons p f ih=> rw[zE9,if_neg (h p (by simp)),ih fun q hq=> h q (List.mem_cons_of_mem _ hq)]
theorem qI9 {f:List Pr} (h:zJv f):zGd f 12=f.length:=by
 have hz:∀n,zGd [] n=0:=by
  intro n
  induction n with
  |zero=> rfl
  |succ n ih=> rw[zLw,ih];rfl
 induction f with
 |nil=> exact hz 12
 |cons p f ih=>
  obtain⟨h1,h2⟩:=h
  simp only[List.map_cons,List.nodup_cons] at h1
  have ih:=ih ⟨h1.2,fun q hq=> h2 q (List.mem_cons_of_mem _ hq)⟩
  obtain⟨t,ht⟩:∃t:Nat,p.t=t:=⟨p.t.toNat,by have:=h2 p (by simp);omega⟩
  have hlt:t<12:=by have:=h2 p (by simp);omega
  have hno:qW f t=none:=qCq fun q hq e=> h1.1 (by rw[ht,←e];exact List.mem_map.2 ⟨q,hq,rfl⟩)
  have key:∀n,zGd (p::f) n=zGd f n+if t<n then 1 else 0:=by
   intro n
   induction n with
   |zero=> simp[zGd]
   |succ n ihn=>
    rw[zLw,zLw,ihn,zE9,ht]
    by_cases h:t=n
    ·subst h
     rw[if_pos rfl,hno]
     simp
    ·have h':¬(t:Int)=n:=by omega
     rw[if_neg h']
     have e1:(t<n+1)↔(t<n):=by omega
     simp only[e1]
     omega
  rw[key 12,if_pos hlt,ih,List.length_cons]
theorem qE2 {fs:List (List Pr)} (h:∀f∈fs,zJv f):(zLg fs:Int)=zEe fs:=by
 unfold zLg zGu zEe
 have e:(fs.reverse.map fun g=> zGd g 12).sum=(fs.map List.length).sum:=by
  rw[List.map_reverse,List.sum_reverse]
  congr 1
  exact List.map_congr_left fun f hf=> qI9 (h f hf)
 rw[e]
def zLo:List (FuncId × qH GD):=[(97,zA2),(236,zZ zTx)]
theorem qKj:∀x∈zLo,zY Tryz.prog cfg x.1 x.2:=by simp[zLo,zS5,qK5]
theorem qSr (f:List Pr) (r:List (List Pr)) (t v:Int) (hg:zBb (f::r)) (hf:∀g∈f::r,zJv g) (hv:0<=v/\v<18446744073709551616):zD Tryz.prog cfg 200 [.pointer (some ⟨0,0,none⟩),.int .i64 t,.int .u64 v] (AH.of [some (.hi (.rlog (f::r)))])
  fun x H'=> x=.ret (.int .i64 (jQ f r t v))/\H'=AH.of [some (.hi (if jQ f r t v=0 then .rlog (xE f ⟨t,v⟩::r) else .rlog (f::r)))]:=by
 refine zD.ends ?_
 have hl5:r.length<=4:=by have:=hg.2.1;simp at this;omega
 have hcnt:=qE2 hf
 refine zP (tbl:=zLo) qKj 0 2 (af:=a200) rfl ?_
 rw[a200,b200,zW]
 refine⟨by simp,?_⟩
 by_cases ht0:t<0
 ·have hc:jQ f r t v=2:=by unfold jQ;rw[if_pos (.inl ht0)]
  simp -implicitDefEqProofs [ht0,hc]
  refine zA [] [0] ?_ ?_ ?_<;> simp
 by_cases ht1:12<=t
 ·have hc:jQ f r t v=2:=by unfold jQ;rw[if_pos (.inr ht1)]
  simp -implicitDefEqProofs [ht0,ht1,hc]
  refine zA [] [0] ?_ ?_ ?_<;> simp
 cases hr:zAg v with
 |false=>
  have hc:jQ f r t v=3:=by unfold jQ;rw[if_neg (by omega),if_pos hr]
  simp -implicitDefEqProofs [zLo,zA2,ht0,ht1,hv,hr,hc]
  refine zA [] [0] ?_ ?_ ?_<;> simp
 |true=>
  obtain⟨n,hn⟩:∃n:Nat,t=n:=⟨t.toNat,by omega⟩
  subst hn
  have hn12:n<12:=by omega
  obtain⟨R,hR⟩:∃R,r.length=R:=⟨_,rfl⟩
  have hw:IntKind.i64.wrap (((R:Int)+1) - 1)=(R:Int):=by rw[qF (by omega) (by omega)];omega
  have hw2:IntKind.i64.wrap (R:Int)=R:=qF (by omega) (by omega)
  have hrl:=zGi (f::r)
  simp only[List.length_cons,hR] at hrl
  have htop:=qG6 f r (k:=R*24) (by rw[hR])
  have hone:=zIn f
  have hfl:=xY f
  have hhas:=zGa f hn12
  have hz:setMany [.bool false,.bool false,.bool false,.bool false,.bool false,.bool false,.bool false,.bool false,.bool false,.bool false,.bool false,.bool false,.int .u64 0,.int .u64 0,.int .u64 0,.int .u64 0,.int .u64 0,.int .u64 0,.int .u64 0,.int .u64 0,.int .u64 0,.int .u64 0,.int .u64 0,.int .u64 0] 0 (jP f)=jP f:=zGm (by rw[xY];rfl)
  have hle:R*24+24<=(R+1)*24:=by omega
  have hnn:(0:Int)<=R:=by omega
  have hlt:(R:Int)<(R:Int)+1:=by omega
  have hni:(n:Int)<12:=by omega
  have hn24:n+1<=24:=by omega
  have hn25:12+n+1<=24:=by omega
  have hn0:n<=23:=by omega
  have hn13:12+n<=23:=by omega
  have htk:(rf (f::r)).take ((R+1)*24)=rf (f::r):=List.take_of_length_le (by omega)
  have hal:((jP f).set n (.bool true)).length=24:=by simp[xY]
  have hput:=qEp f hn12 v
  have hfp:=xY (xE f ⟨(n:Int),v⟩)
  have hop:=zIn (xE f ⟨(n:Int),v⟩)
  have hst:=zPw f (xE f ⟨(n:Int),v⟩) r (k:=R*24) (by rw[hR])
  have hz1:(R+1)*112<=140737488355328/\R<=9223372036854775806:=by omega
  have hz2:(jP (xE f ⟨(n:Int),v⟩)).take 24=jP (xE f ⟨(n:Int),v⟩):=List.take_of_length_le (by rw[xY];omega)
  have hz3:(jP f).take 24=jP f:=List.take_of_length_le (by rw[xY];omega)
  cases hh:(qW f (n:Int)).isSome with
  |true=>
   have hc:jQ f r n v=0:=by
    unfold jQ
    rw[if_neg (by omega),if_neg (by simp[hr]),if_neg (by
     rintro⟨h,_⟩
     rw[Option.isNone_iff_eq_none] at h
     rw[h] at hh;cases hh)]
   rw[hh] at hhas
   rw[hc]
   simp -implicitDefEqProofs [zLo,zA2,ht0,ht1,hv,hr,xW,hR,hw,hw2,hlt,hrl,htop,hone,hfl,hz,hle,hhas,hn12,hni,hn24,hn25,hnn,forms235,a235,b235,htk,hal,hput,hfp,hop,hst,hz1,hz2,hz3,hn0,hn13]
   refine zA [.pack (GD.rlog (xE f ⟨(n:Int),v⟩::r)) 0 [5]] [0] ?_ ?_ ?_<;> simp[xW,hR,AObj.mine]
  |false=>
   rw[hh] at hhas
   have hno:(qW f (n:Int)).isNone=true:=by
    cases hx:qW f (n:Int) with
    |none=> rfl
    |some y=> rw[hx] at hh;cases hh
   simp -implicitDefEqProofs [zLo,zA2,ht0,ht1,hv,hr,xW,hR,hw,hw2,hlt,hrl,htop,hone,hfl,hz,hle,hhas,hn12,hni,hn24,hn25,hnn,forms235,a235,b235,htk,hal,hput,hfp,hop,hst,hz1,hz2,hz3,hn0,hn13,zZ,zTx]
   refine zF5 [.pack (GD.rlog (f::r)) 0 [1]] ?_ ?_
   ·simp[xW,hR,AObj.mine]
   by_cases h16:16<=zEe (f::r)
   ·have hc:jQ f r n v=4:=by
     unfold jQ
     rw[if_neg (by omega),if_neg (by simp[hr]),if_pos ⟨hno,h16⟩]
    have h16':(16:Int)<=(zLg (f::r):Nat):=by rw[hcnt];exact h16
    rw[hc]
    have hl6:R+1<=100:=by omega
    simp -implicitDefEqProofs [zLo,zA2,ht0,ht1,hv,hr,xW,hR,hw,hw2,hlt,hrl,htop,hone,hfl,hz,hle,hhas,hn12,hni,hn24,hn25,hnn,forms235,a235,b235,htk,hal,hput,hfp,hop,hst,hz1,hz2,hz3,hn0,hn13,zZ,zTx,h16',hl6]
    refine zA [] [0] ?_ ?_ ?_<;> simp
   ·have hc:jQ f r n v=0:=by
     unfold jQ
     rw[if_neg (by omega),if_neg (by simp[hr]),if_neg (by rintro⟨_,h⟩;exact h16 h)]
    have h16':¬(16:Int)<=(zLg (f::r):Nat):=by rw[hcnt];exact h16
    rw[hc]
    have hl6:R+1<=100:=by omega
    simp -implicitDefEqProofs [zLo,zA2,ht0,ht1,hv,hr,xW,hR,hw,hw2,hlt,hrl,htop,hone,hfl,hz,hle,hhas,hn12,hni,hn24,hn25,hnn,forms235,a235,b235,htk,hal,hput,hfp,hop,hst,hz1,hz2,hz3,hn0,hn13,zZ,zTx,h16',hl6]
    refine zA [.pack (GD.rlog (xE f ⟨(n:Int),v⟩::r)) 0 [6]] [0] ?_ ?_ ?_<;> simp[xW,hR,AObj.mine]
def zDm (fs:List (List Pr)):Prop:=zBb fs/\∀f∈fs,zJv f
def zZb:zDs
 |.rlog (f::r),[.int .i64 t,.int .u64 v]=> some (zDm (f::r)/\0<=v/\v<18446744073709551616,.int .i64 (jQ f r t v),if jQ f r t v=0 then .rlog (xE f ⟨t,v⟩::r) else .rlog (f::r))
 |_,_=> none
theorem qLg:zY Tryz.prog cfg 200 (zZ zZb):=zCk fun d rest p v d' h hp=> by
 unfold zZb at h
 split at h
 ·cases h;exact⟨rfl,rfl,qSr _ _ _ _ hp.1.1 hp.1.2 hp.2⟩
 ·cases h
theorem qHm {f:List Pr} {p:Pr} (h:(f.map (·.t)).Nodup):((xE f p).map (·.t)).Nodup:=by
 have mem:∀(f:List Pr) (x:Int),x∈(xE f p).map (·.t)->x=p.t∨x∈f.map (·.t):=by
  intro f x hx
  induction f with
  |nil=> simp[xE] at hx;exact .inl hx
  |cons q f ih=>
   rw[xE] at hx
   split at hx
   ·simp only[List.map_cons,List.mem_cons] at hx⊢
    rcases hx with hx|hx
    ·exact .inr (.inl hx)
    ·exact .inr (.inr hx)
   ·simp only[List.map_cons,List.mem_cons] at hx⊢
    rcases hx with hx|hx
    ·exact .inr (.inl hx)
    ·rcases ih hx with h|h
     ·exact .inl h
     ·exact .inr (.inr h)
 induction f with
 |nil=> simp[xE]
 |cons q f ih=>
  simp only[List.map_cons,List.nodup_cons] at h
  rw[xE]
  split
  ·simp only[List.map_cons,List.nodup_cons];exact h
  ·rename_i hq
   simp only[List.map_cons,List.nodup_cons]
   refine⟨fun hh=> ?_,ih h.2⟩
   rcases mem f _ hh with e|e
   ·exact hq e
   ·exact h.1 e
theorem qTx {f:List Pr} {p x:Pr} (h:x∈xE f p):x.t=p.t∨x∈f:=by
 induction f with
 |nil=> simp[xE] at h;exact .inl (by rw[h])
 |cons q f ih=>
  rw[xE] at h
  split at h
  ·rename_i e
   rcases List.mem_cons.1 h with rfl|h
   ·exact .inl e
   ·exact .inr (List.mem_cons_of_mem _ h)
  ·rcases List.mem_cons.1 h with rfl|h
   ·exact .inr (by simp)
   ·rcases ih h with h|h
    ·exact .inl h
    ·exact .inr (List.mem_cons_of_mem _ h)
theorem zR3 {f:List Pr} {p:Pr} (h:zJv f) (hp:0<=p.t/\p.t<12):zJv (xE f p):=by
 refine⟨qHm h.1,fun x hx=> ?_⟩
 rcases qTx hx with e|hx
 ·rw[e];exact hp
 ·exact h.2 x hx
theorem zYh {g f:List Pr} (hg:zJv g) (hf:∀p∈f,0<=p.t/\p.t<12):zJv (jO g f):=by
 unfold jO
 induction f generalizing g with
 |nil=> exact hg
 |cons p f ih=> exact ih (g:=xE g p) (zR3 hg (hf p (by simp))) fun q hq=> hf q (List.mem_cons_of_mem _ hq)
theorem zSe {f:List Pr} (t:Int):∀{g:List Pr},(f.map (·.t)).Nodup->qW (jO g f) t=match qW f t with
  |some v=> some v
  |none=> qW g t:=by
 unfold jO
 induction f with
 |nil=> intro g _;rfl
 |cons p f ih=>
  intro g h
  simp only[List.map_cons,List.nodup_cons] at h
  rw[List.foldl_cons,ih h.2,zE9]
  by_cases hp:p.t=t
  ·have hno:qW f t=none:=qCq fun q hq e=> h.1 (by rw[hp,←e];exact List.mem_map.2 ⟨q,hq,rfl⟩)
   rw[hno,if_pos hp]
   simp only[zM5,hp,if_true]
  ·rw[if_neg hp]
   cases qW f t with
   |some v=> rfl
   |none=> simp only[zM5,hp,if_false]
end YtapbabkndhaemaaGreat
end Go.Proofs
/-
 THE DOCUMENT's LOG:Merge.
-/
namespace Go.Proofs
namespace YtapbabkndhaemaaGreat
open Go.Abs
def zD5 (f g:List Pr) (j:Nat):List Value:=(zFz.map fun t=> .bool (if t<j then (qW f t).isSome||(qW g t).isSome else (qW g t).isSome))++zFz.map fun t=> .int .u64 (if t<j then ((qW f t).or (qW g t)).getD 0 else (qW g t).getD 0)
theorem zE1 (f g:List Pr) (j:Nat):(zD5 f g j).length=24:=by simp[zD5,zFz]
theorem qBi {t:Nat} (h:t<12):zFz[t]?=some (t:Int):=by
 match t,h with
 |0,_|1,_|2,_|3,_|4,_|5,_|6,_|7,_|8,_|9,_|10,_|11,_=> rfl
theorem zKr (f g:List Pr) (j:Nat) {t:Nat} (h:t<12):(zD5 f g j)[t]?=some (.bool (if t<j then (qW f t).isSome||(qW g t).isSome else (qW g t).isSome)):=by
 unfold zD5
 rw[List.getElem?_append_left (by simp[zFz];omega),List.getElem?_map,qBi h]
 simp
theorem zKq (f g:List Pr) (j:Nat) {t:Nat} (h:t<12):(zD5 f g j)[12+t]?=some (.int .u64 (if t<j then ((qW f t).or (qW g t)).getD 0 else (qW g t).getD 0)):=by
 unfold zD5
 rw[List.getElem?_append_right (by simp[zFz]),List.getElem?_map]
 have e:12+t - (zFz.map fun t=> Value.bool (if t<(j:Int) then (qW f t).isSome||(qW g t).isSome else (qW g t).isSome)).length=t:=by simp[zFz]
 rw[e,qBi h]
 simp
theorem zYg (f g:List Pr):zD5 f g 0=jP g:=zOg (f:=g) (g:=g) (zE1 f g 0) (fun t h=> by rw[zKr f g 0 h];simp) (fun t h=> by rw[zKq f g 0 h];simp)
theorem qCj {f g:List Pr} (hf:(f.map (·.t)).Nodup):zD5 f g 12=jP (jO g f):=zOg (f:=jO g f) (g:=g) (zE1 f g 12) (fun t h=> by
 rw[zKr f g 12 h,if_pos h,zSe _ hf]
 cases qW f t<;> simp) (fun t h=> by
 rw[zKq f g 12 h,if_pos h,zSe _ hf]
 cases qW f t<;> simp)
theorem qCi {a b:List Value} (ha:a.length=24) (hb:b.length=24) (h1:∀t:Nat,t<12->a[t]?=b[t]?) (h2:∀t:Nat,t<12->a[12+t]?=b[12+t]?):a=b:=by
 refine List.ext_getElem? fun j=> ?_
 by_cases hj:j<12
 ·exact h1 j hj
 ·by_cases hj2:j<24
  ·have e:j=12+(j - 12):=by omega
   rw[e];exact h2 _ (by omega)
  ·rw[List.getElem?_eq_none (by omega),List.getElem?_eq_none (by omega)]
theorem qH2 {f g:List Pr} {j:Nat} (hh:(qW f (j:Nat)).isSome=false):zD5 f g (j+1)=zD5 f g j:=by
 have hno:qW f (j:Nat)=none:=by
  cases h:qW f (j:Nat) with
  |none=> rfl
  |some v=> rw[h] at hh;cases hh
 refine qCi (zE1 _ _ _) (zE1 _ _ _) (fun t h=> ?_) (fun t h=> ?_)
 ·rw[zKr _ _ _ h,zKr _ _ _ h]
  by_cases e:t=j
  ·subst e;rw[if_pos (by omega),if_neg (by omega),hno];simp
  ·have:(t<j+1)↔(t<j):=by omega
   simp only[this]
 ·rw[zKq _ _ _ h,zKq _ _ _ h]
  by_cases e:t=j
  ·subst e;rw[if_pos (by omega),if_neg (by omega),hno];simp
  ·have:(t<j+1)↔(t<j):=by omega
   simp only[this]
theorem qCh {f g:List Pr} {j:Nat} (hj:j<12) (hh:(qW f (j:Nat)).isSome=true):((zD5 f g j).set j (.bool true)).set (12+j) (.int .u64 ((qW f (j:Nat)).getD 0))=zD5 f g (j+1):=by
 obtain⟨v,hv⟩:=Option.isSome_iff_exists.1 hh
 refine qCi (by simp[zE1]) (zE1 _ _ _) (fun t h=> ?_) (fun t h=> ?_)
 ·rw[List.getElem?_set,if_neg (by omega),List.getElem?_set,zE1,zKr _ _ _ h,zKr _ _ _ h]
  by_cases e:j=t
  ·subst e;rw[if_pos rfl,if_pos (by omega),if_pos (by omega),hv];rfl
  ·have:(t<j+1)↔(t<j):=by omega
   simp only[this,if_neg e]
 ·rw[List.getElem?_set,List.length_set,zE1,List.getElem?_set,zKq _ _ _ h,zKq _ _ _ h]
  by_cases e:j=t
  ·subst e;rw[if_pos rfl,if_pos (by omega),if_pos (by omega),hv];simp
  ·have:(t<j+1)↔(t<j):=by omega
   have e2:¬12+j=12+t:=by omega
   have e3:¬j=12+t:=by omega
   simp only[this,if_neg e2,if_neg e3]
theorem qEb (f g:List Pr) (j:Nat):jJ (zD5 f g j)=true:=by
 simp[zD5,zFz,jJ,xD]
theorem qTu (θ:Nat->Nat) (f g:List Pr) (j:Nat):zAh θ (zD5 f g j)=zD5 f g j:=xV θ _ (qEb f g j)
theorem qDz (θ:Nat->Nat) (f:List Pr):zAh θ (jP f)=jP f:=xV θ _ (zNk f)
attribute [simp] qTu qDz
def zJc:List (FuncId × qH GD):=[(198,zZ zL4)]
theorem zMk:∀x∈zJc,zY Tryz.prog cfg x.1 x.2:=by simp[zJc,zXf]
theorem qMc (f g:List Pr) (r:List (List Pr)) {k:Nat} (hk:k=r.length*24):((rf (f::g::r)).drop k).take 24=jP g:=by
 subst hk
 rw[zG6,zG6,←zGi r,List.append_assoc,List.drop_left,List.take_append_of_le_length (by rw[xY];omega),List.take_of_length_le (by rw[xY];omega)]
def mgI0 (f g:List Pr) (r:List (List Pr)) (R m:Nat) (tm:Nat->Value) (H:AH GD):Prop:=∃j:Nat,m+j=12/\tm 0=.pointer (some ⟨0,0,none⟩)/\tm 3=.int .i64 ((R:Int)+1+1)/\tm 4=.pointer (some ⟨2,0,none⟩)/\tm 5=.pointer (some ⟨3,0,none⟩)/\tm 6=.int .i64 j/\
 H=AH.of [some (.arr 196 [.slice (some ⟨1,0,none⟩) (R+2) 1]),some (.arr 246 (rf (f::g::r))),some (.arr 246 (jP f)),some (.arr 246 (zD5 f g j))]
def mgI1 (f g:List Pr) (r:List (List Pr)) (R m:Nat) (tm:Nat->Value) (H:AH GD):Prop:=∃j:Nat,m+j=12/\tm 0=.pointer (some ⟨0,0,none⟩)/\tm 3=.int .i64 ((R:Int)+1+1)/\tm 4=.pointer (some ⟨3,0,none⟩)/\tm 5=.pointer (some ⟨2,0,none⟩)/\tm 6=.int .i64 j/\
 H=AH.of [some (.arr 196 [.slice (some ⟨1,0,none⟩) (R+2) 1]),some (.arr 246 (rf (f::g::r))),some (.arr 246 (zD5 f g j)),some (.arr 246 (jP f))]
theorem qP4 {R:Nat} (h:R<=3):(R+1)*112<=140737488355328/\R<=9223372036854775806:=by omega
theorem qAi (f g:List Pr) (r:List (List Pr)) (hg:zBb (f::g::r)) (hf:(f.map (·.t)).Nodup):zD Tryz.prog cfg 199 [.pointer (some ⟨0,0,none⟩)] (AH.of [some (.hi (.rlog (f::g::r)))])
  fun x H'=> x=.ret (.int .i64 0)/\H'=AH.of [some (.hi (.rlog (jO g f::r)))]:=by
 refine zD.ends ?_
 have hl5:r.length<=3:=by have:=hg.2.1;simp at this;omega
 obtain⟨R,hR⟩:∃R,r.length=R:=⟨_,rfl⟩
 have hw1:IntKind.i64.wrap (((R:Int)+1+1) - 1)=(R:Int)+1:=by rw[qF (by omega) (by omega)];omega
 have hw2:IntKind.i64.wrap ((R:Int)+1)=(R:Int)+1:=qF (by omega) (by omega)
 have hw3:IntKind.i64.wrap (((R:Int)+1+1) - 2)=(R:Int):=by rw[qF (by omega) (by omega)];omega
 have hw4:IntKind.i64.wrap (R:Int)=(R:Int):=qF (by omega) (by omega)
 have hl1:¬((R:Int)+1=0):=by omega
 have hl2:(R:Int)+1<(R:Int)+1+1:=by omega
 have hl3:(R:Int)<(R:Int)+1+1:=by omega
 have hl4:(0:Int)<=(R:Int)+1:=by omega
 have hl7:((R:Int)+1).toNat=R+1:=by omega
 have htop:=qG6 f (g::r) (k:=(R+1)*24) (by simp[hR])
 have hbel:=qMc f g r (k:=R*24) (by rw[hR])
 have hfl:=xY f
 have hgl:=xY g
 have hof:=zIn f
 have hog:=zIn g
 have hzf:setMany [.bool false,.bool false,.bool false,.bool false,.bool false,.bool false,.bool false,.bool false,.bool false,.bool false,.bool false,.bool false,.int .u64 0,.int .u64 0,.int .u64 0,.int .u64 0,.int .u64 0,.int .u64 0,.int .u64 0,.int .u64 0,.int .u64 0,.int .u64 0,.int .u64 0,.int .u64 0] 0 (jP f)=jP f:=zGm (by rw[xY];rfl)
 have hzg:setMany [.bool false,.bool false,.bool false,.bool false,.bool false,.bool false,.bool false,.bool false,.bool false,.bool false,.bool false,.bool false,.int .u64 0,.int .u64 0,.int .u64 0,.int .u64 0,.int .u64 0,.int .u64 0,.int .u64 0,.int .u64 0,.int .u64 0,.int .u64 0,.int .u64 0,.int .u64 0] 0 (jP g)=jP g:=zGm (by rw[xY];rfl)
 have htf:(jP f).take 24=jP f:=List.take_of_length_le (by rw[xY];omega)
 have htg:(jP g).take 24=jP g:=List.take_of_length_le (by rw[xY];omega)
 have hrl:=zGi (f::g::r)
 simp only[List.length_cons,hR] at hrl
 have hle1:(R+1)*24+24<=(R+1+1)*24:=by omega
 have hle2:R*24+24<=(R+1+1)*24:=by omega
 have hd1:R+1<=100:=by omega
 have hql:=xY (jO g f)
 have hqo:=zIn (jO g f)
 have hqt:(jP (jO g f)).take 24=jP (jO g f):=List.take_of_length_le (by rw[xY];omega)
 have hst:=zPw g (jO g f) r (k:=R*24) (by rw[hR])
 have hrl2:=zGi (g::r)
 simp only[List.length_cons,hR] at hrl2
 have htk2:=zS2 (g::r)
 simp only[List.length_cons,hR] at htk2
 have hle3:R*24+24<=(R+1)*24:=Nat.le_of_eq (Nat.succ_mul R 24).symm
 have hlt2:(R:Int)<(R:Int)+1:=Int.lt_succ _
 refine zP (tbl:=zJc) zMk 13 2 (af:=a199) rfl ?_
 rw[a199,b199,zW]
 refine⟨by simp,?_⟩
 simp -implicitDefEqProofs [zJc,xW,forms185,a185,b185,forms235,a235,b235,hR,hw1,hw2,hw3,hl1,hl2,hl3,hl4,htop,hbel,hfl,hgl,hof,hog,hzf,hzg,htf,htg,hle1,hle2,hrl,hw4,hl7]
 refine⟨?_,?_⟩
 ·refine zA3 (qR jG (qS zMk) _ _ noY qM) (mgI0 f g r R) (m:=12) ?_ (by omega) ?_
  ·refine qD [] [0,1,2,3] [some (.arr 196 [.slice (some ⟨1,0,none⟩) (R+2) 1]),some (.arr 246 (rf (f::g::r))),some (.arr 246 (jP f)),some (.arr 246 (jP g))] 12 (by omega) ?_ ?_ ⟨0,by omega,?_,?_,?_,?_,?_,by rw[zYg]⟩<;> simp
  rintro m tm H ⟨j,hm,t0,t3,t4,t5,t6,rfl⟩
  by_cases hj:j<12
  ·have hj':(j:Int)<12:=by omega
   have hwj:=jV hj (by omega)
   have hhas:=zGa f hj
   have hval:=zIm f hj
   have hml:=zE1 f g j
   have hj1:j<=23:=by omega
   have hj2:12+j<=23:=by omega
   cases hh:(qW f (j:Nat)).isSome with
   |false=>
    rw[hh] at hhas
    have hno:=qH2 (f:=f) (g:=g) hh
    simp -implicitDefEqProofs [t0,t3,t4,t5,t6,hj,hj',hwj,hhas]
    refine qD [] [0,1,2,3] [some (.arr 196 [.slice (some ⟨1,0,none⟩) (R+2) 1]),some (.arr 246 (rf (f::g::r))),some (.arr 246 (jP f)),some (.arr 246 (zD5 f g (j+1)))] (m - 1) (by omega) ?_ ?_ ⟨j+1,by omega,?_,?_,?_,?_,?_,rfl⟩<;> simp[t0,t3,t4,t5,hno]
   |true=>
    rw[hh] at hhas
    have hyes:=qCh (f:=f) (g:=g) hj hh
    have hsl:((zD5 f g j).set j (.bool true)).length=24:=by simp[zE1]
    simp -implicitDefEqProofs [t0,t3,t4,t5,t6,hj,hj',hwj,hhas,hval,hml,hsl,hj1,hj2,hyes]
    refine qD [] [0,1,2,3] [some (.arr 196 [.slice (some ⟨1,0,none⟩) (R+2) 1]),some (.arr 246 (rf (f::g::r))),some (.arr 246 (jP f)),some (.arr 246 (zD5 f g (j+1)))] (m - 1) (by omega) ?_ ?_ ⟨j+1,by omega,?_,?_,?_,?_,?_,rfl⟩<;> simp[t0,t3,t4,t5]
  ·have hje:j=12:=by omega
   have hj':¬(j:Int)<12:=by omega
   have hend:zD5 f g j=jP (jO g f):=by rw[hje,qCj hf]
   rw[hend]
   have hz1:=qP4 (R:=R) (by omega)
   simp -implicitDefEqProofs [t0,t3,t4,t5,t6,hj',zJc,zZ,zL4]
   refine zF5 [.pack (GD.rlog (f::g::r)) 0 [1]] ?_ ?_
   ·simp[xW,hR,AObj.mine]
   simp -implicitDefEqProofs [t0,t3,t4,t5,t6,hj',zJc,zZ,zL4,xW,forms235,a235,b235,hR,hd1,hw3,hw4,hql,hqo,hqt,hst,hrl2,htk2,hz1,hle3,hlt2]
   refine zA [.pack (GD.rlog (jO g f::r)) 0 [7]] [0] ?_ ?_ ?_<;> simp[xW,hR,AObj.mine]
 ·refine zA3 (qR jG (qS zMk) _ _ noY qM) (mgI1 f g r R) (m:=12) ?_ (by omega) ?_
  ·refine qD [] [0,1,2,3] [some (.arr 196 [.slice (some ⟨1,0,none⟩) (R+2) 1]),some (.arr 246 (rf (f::g::r))),some (.arr 246 (jP g)),some (.arr 246 (jP f))] 12 (by omega) ?_ ?_ ⟨0,by omega,?_,?_,?_,?_,?_,by rw[zYg]⟩<;> simp
  rintro m tm H ⟨j,hm,t0,t3,t4,t5,t6,rfl⟩
  by_cases hj:j<12
  ·have hj':(j:Int)<12:=by omega
   have hwj:=jV hj (by omega)
   have hhas:=zGa f hj
   have hval:=zIm f hj
   have hml:=zE1 f g j
   have hj1:j<=23:=by omega
   have hj2:12+j<=23:=by omega
   cases hh:(qW f (j:Nat)).isSome with
   |false=>
    rw[hh] at hhas
    have hno:=qH2 (f:=f) (g:=g) hh
    simp -implicitDefEqProofs [t0,t3,t4,t5,t6,hj,hj',hwj,hhas]
    refine qD [] [0,1,2,3] [some (.arr 196 [.slice (some ⟨1,0,none⟩) (R+2) 1]),some (.arr 246 (rf (f::g::r))),some (.arr 246 (zD5 f g (j+1))),some (.arr 246 (jP f))] (m - 1) (by omega) ?_ ?_ ⟨j+1,by omega,?_,?_,?_,?_,?_,rfl⟩<;> simp[t0,t3,t4,t5,hno]
   |true=>
    rw[hh] at hhas
    have hyes:=qCh (f:=f) (g:=g) hj hh
    have hsl:((zD5 f g j).set j (.bool true)).length=24:=by simp[zE1]
    simp -implicitDefEqProofs [t0,t3,t4,t5,t6,hj,hj',hwj,hhas,hval,hml,hsl,hj1,hj2,hyes]
    refine qD [] [0,1,2,3] [some (.arr 196 [.slice (some ⟨1,0,none⟩) (R+2) 1]),some (.arr 246 (rf (f::g::r))),some (.arr 246 (zD5 f g (j+1))),some (.arr 246 (jP f))] (m - 1) (by omega) ?_ ?_ ⟨j+1,by omega,?_,?_,?_,?_,?_,rfl⟩<;> simp[t0,t3,t4,t5]
  ·have hje:j=12:=by omega
   have hj':¬(j:Int)<12:=by omega
   have hend:zD5 f g j=jP (jO g f):=by rw[hje,qCj hf]
   rw[hend]
   have hz1:=qP4 (R:=R) (by omega)
   simp -implicitDefEqProofs [t0,t3,t4,t5,t6,hj',zJc,zZ,zL4]
   refine zF5 [.pack (GD.rlog (f::g::r)) 0 [1]] ?_ ?_
   ·simp[xW,hR,AObj.mine]
   simp -implicitDefEqProofs [t0,t3,t4,t5,t6,hj',zJc,zZ,zL4,xW,forms235,a235,b235,hR,hd1,hw3,hw4,hql,hqo,hqt,hst,hrl2,htk2,hz1,hle3,hlt2]
   refine zA [.pack (GD.rlog (jO g f::r)) 0 [7]] [0] ?_ ?_ ?_<;> simp[xW,hR,AObj.mine]
end YtapbabkndhaemaaGreat
end Go.Proofs
/-
 WRITES,the document's:Merge of one frame alone;the zHz.
-/
namespace Go.Proofs
namespace YtapbabkndhaemaaGreat
open Go.Abs
theorem zXu (f:List Pr):zD Tryz.prog cfg 199 [.pointer (some ⟨0,0,none⟩)] (AH.of [some (.hi (.rlog [f]))])
  fun x H'=> x=.ret (.int .i64 8)/\H'=AH.of [some (.hi (.rlog [f]))]:=by
 refine zD.ends ?_
 have hw1:IntKind.i64.wrap 0=0:=by decide
 refine zP (tbl:=zJc) zMk 13 2 (af:=a199) rfl ?_
 rw[a199,b199,zW]
 refine⟨by simp,?_⟩
 simp -implicitDefEqProofs [zJc,xW,forms185,a185,b185,hw1]
 refine zA [.pack (GD.rlog [f]) 0 [1]] [0] ?_ ?_ ?_<;> simp[xW,AObj.mine]
def zZc:zDs
 |.rlog [f],[]=> some (True,.int .i64 8,.rlog [f])
 |.rlog (f::g::r),[]=> some (zDm (f::g::r),.int .i64 0,.rlog (jO g f::r))
 |_,_=> none
theorem qLh:zY Tryz.prog cfg 199 (zZ zZc):=zCk fun d rest p v d' h hp=> by
 unfold zZc at h
 split at h
 ·cases h;exact⟨rfl,rfl,zXu _⟩
 ·cases h;exact⟨rfl,rfl,qAi _ _ _ hp.1 (hp.2 _ (by simp)).1⟩
 ·cases h
theorem qXk {f:List Pr} {r:List (List Pr)} {t v:Int} (h:zDm (f::r)) (hc:jQ f r t v=0):zDm (xE f ⟨t,v⟩::r):=by
 refine⟨zX6 h.1 hc,fun x hx=> ?_⟩
 have ht:0<=t/\t<12:=by
  unfold jQ at hc
  split at hc
  ·cases hc
  ·omega
 rcases List.mem_cons.1 hx with rfl|hx
 ·exact zR3 (h.2 f (by simp)) ht
 ·exact h.2 x (List.mem_cons_of_mem _ hx)
theorem qUt {f:List Pr} {r:List (List Pr)} (h:zDm (f::r)) (hl:(f::r).length<5):zDm ([]::f::r):=by
 refine⟨zUi h.1 hl,fun x hx=> ?_⟩
 rcases List.mem_cons.1 hx with rfl|hx
 ·exact⟨by simp,by simp⟩
 ·exact h.2 x hx
theorem qUu {f g:List Pr} {r:List (List Pr)} (h:zDm (f::g::r)):zDm (g::r):=
 ⟨zUu h.1,fun x hx=> h.2 x (List.mem_cons_of_mem _ hx)⟩
theorem qN2 {f g:List Pr} {r:List (List Pr)} (h:zDm (f::g::r)):zDm (jO g f::r):=by
 refine⟨zSa h.1,fun x hx=> ?_⟩
 rcases List.mem_cons.1 hx with rfl|hx
 ·exact zYh (h.2 g (by simp)) (h.2 f (by simp)).2
 ·exact h.2 x (List.mem_cons_of_mem _ (List.mem_cons_of_mem _ hx))
theorem qXl:zDm [[]]:=⟨zLc,fun f hf=> by simp at hf;subst hf;exact⟨by simp,by simp⟩⟩
end YtapbabkndhaemaaGreat
end Go.Proofs
/-
 TRACE:what histories are,plainly.
-/
namespace Go.Proofs
namespace YtapbabkndhaemaaGreat
open Go.Abs
structure HA where
 tr:Bool
 en:Bool
 fs:List (List Pr)
def jW (x:Ev):Bool:=decide (x.t=0) && decide (x.v=0)
def zAn (fs:List (List Pr)) (x:Ev):Int × List (List Pr):=
 match fs with
 |[]=> (1,[])
 |f::r=>
  if x.k=3 then (jQ f r x.t x.v,if jQ f r x.t x.v=0 then xE f ⟨x.t,x.v⟩::r else f::r)
  else if x.k=4 then (if 4<=r.length then 4 else 0,if 4<=r.length then f::r else []::f::r)
  else if x.k=5 then (if r=[] then 8 else 0,if r=[] then f::r else r)
  else if x.k=6 then (match r with
   |[]=> (8,[f])
   |g::rs=> (0,jO g f::rs))
  else (0,f::r)
def zDr (o:Option HA) (x:Ev):Option HA:=
 if x.k=1 then (match o with
  |none=> if jW x=true then some ⟨false,false,[[]]⟩ else none
  |some _=> none)
 else match o with
 |none=> none
 |some a=>
  if a.en=true then none
  else if x.k=8 then (if a.tr=true/\jW x=true then some { a with en:=true } else none)
  else if x.k=9 then (if jW x=true then some { a with en:=true } else none)
  else if a.tr=true then none
  else if x.k=2 then (if 0<=x.t/\x.t<12/\zAg x.v=true then some a else none)
  else if x.k=3 then (if (zAn a.fs x).1=0 then some { a with fs:=(zAn a.fs x).2 } else none)
  else if x.k=4∨x.k=5∨x.k=6 then (if jW x=true/\(zAn a.fs x).1=0 then some { a with fs:=(zAn a.fs x).2 } else none)
  else if x.k=7 then (if jW x=true/\a.fs.length=1 then some { a with tr:=true } else none)
  else none
def zEg (σ:Int->Option HA) (n:Int) (a:HA):Int->Option HA:=fun m=> if m=n then some a else σ m
def zJ5 (σ:Int->Option HA) (x:Ev):Option (Int->Option HA):=
 if 0<=x.a/\x.a<64 then (zDr (σ x.a) x).map fun a=> zEg σ x.a a else none
def zF3 (σ:Int->Option HA):List Ev->Option (Int->Option HA)
 |[]=> some σ
 |x::l=> (zJ5 σ x).bind fun σ'=> zF3 σ' l
def zKe:Int->Option HA:=fun _=> none
def zE6 (l:List Ev):Bool:=decide (l.length<=400) && (zF3 zKe l).isSome
def xO (l:List Ev) (n:Int):List Ev:=l.filter fun x=> decide (x.a=n)
def zJd (o:Option HA):List Ev->Option (Option HA)
 |[]=> some o
 |x::l=> (zDr o x).bind fun a=> zJd (some a) l
theorem zFx (x:Ev) (l:List Ev) (n:Int):xO (x::l) n=if x.a=n then x::xO l n else xO l n:=by
 unfold xO
 by_cases h:x.a=n<;> simp[h]
theorem zJk (l m:List Ev) (n:Int):xO (l++m) n=xO l n++xO m n:=by simp[xO]
theorem zXx:∀(l:List Ev) (σ σ':Int->Option HA),zF3 σ l=some σ'↔(∀x∈l,0<=x.a/\x.a<64)/\∀n,zJd (σ n) (xO l n)=some (σ' n)
 |[],σ,σ'=> by
  constructor
  ·intro h
   cases h
   exact⟨by simp,fun n=> rfl⟩
  ·rintro⟨_,h⟩
   have:σ=σ':=funext fun n=> Option.some.inj (h n)
   rw[this];rfl
 |x::l,σ,σ'=> by
  simp only[zF3,zJ5]
  by_cases hr:0<=x.a/\x.a<64
  ·rw[if_pos hr]
   cases ht:zDr (σ x.a) x with
   |none=>
    simp only[Option.map_none,Option.bind_none]
    constructor
    ·intro h;cases h
    ·rintro⟨_,h⟩
     have:=h x.a
     rw[zFx,if_pos rfl,zJd,ht] at this
     cases this
   |some a=>
    simp only[Option.map_some,Option.bind_some]
    rw[zXx l]
    have key:∀n,zJd (zEg σ x.a a n) (xO l n)=zJd (σ n) (xO (x::l) n):=by
     intro n
     rw[zFx]
     by_cases hn:x.a=n
     ·subst hn
      rw[if_pos rfl,zJd,ht,zEg,if_pos rfl];rfl
     ·rw[if_neg hn,zEg,if_neg (fun h=> hn h.symm)]
    constructor
    ·rintro⟨h1,h2⟩
     refine⟨fun y hy=> ?_,fun n=> by rw[←key];exact h2 n⟩
     rcases List.mem_cons.1 hy with rfl|hy
     ·exact hr
     ·exact h1 y hy
    ·rintro⟨h1,h2⟩
     exact⟨fun y hy=> h1 y (List.mem_cons_of_mem _ hy),fun n=> by rw[key];exact h2 n⟩
  ·rw[if_neg hr]
   constructor
   ·intro h;cases h
   ·rintro⟨h,_⟩
    exact absurd (h x (by simp)) hr
def stF (p:Bool × Int) (x:Ev):Bool × Int:=
 if x.k=1 then (true,p.2) else if x.k=7 then (p.1,2) else if x.k=8 then (p.1,3) else if x.k=9 then (p.1,4) else p
def stC (c:List Ev):Int:=if (c.foldl stF (false,1)).1=true then (c.foldl stF (false,1)).2 else 0
def zAp (l:List Ev) (n:Int):Int:=stC (xO l n)
def zD6 (x:Ev):Bool:=decide (x.k=8)||decide (x.k=9)
def zGz (out:List Int) (x:Ev):List Int:=if x.k=1/\x.a∉out then out++[x.a] else out
def zCw (l:List Ev):List Int:=l.foldl zGz []
theorem qOv {out:List Int} {x:Ev} {n:Int} (h:n∈zGz out x):n∈out∨(x.k=1/\x.a=n):=by
 unfold zGz at h
 split at h
 ·rename_i hk
  rcases List.mem_append.1 h with h|h
  ·exact .inl h
  ·exact .inr ⟨hk.1,(List.mem_singleton.1 h).symm⟩
 ·exact .inl h
theorem zZs:∀(l:List Ev) (out:List Int) {n:Int},n∈l.foldl zGz out->n∈out∨∃x∈l,x.k=1/\x.a=n
 |[],out,n,h=> .inl h
 |x::l,out,n,h=> by
  rcases zZs l _ h with h|⟨y,h1,h2⟩
  ·rcases qOv h with h|h
   ·exact .inl h
   ·exact .inr ⟨x,by simp,h⟩
  ·exact .inr ⟨y,List.mem_cons_of_mem _ h1,h2⟩
theorem zUx:∀(l:List Ev) {out:List Int} {n:Int},n∈out->n∈l.foldl zGz out
 |[],_,_,h=> h
 |x::l,out,n,h=> zUx l (by
  unfold zGz
  split
  ·exact List.mem_append_left _ h
  ·exact h)
theorem zZu:∀(l:List Ev) {out:List Int} {x:Ev},x∈l->x.k=1->x.a∈l.foldl zGz out
 |y::l,out,x,h,hk=> by
  rcases List.mem_cons.1 h with rfl|h
  ·refine zUx l ?_
   unfold zGz
   split
   ·simp
   ·rename_i hn
    exact Classical.not_not.1 fun hc=> hn ⟨hk,hc⟩
  ·exact zZu l h hk
def zCv (e:Bool):List Ev->Int->Int->Bool
 |[],_,_=> false
 |x::l,a,b=> if x.a=b/\x.k=1 then e else zCv (e||(decide (x.a=a) && zD6 x)) l a b
def zCu (l:List Ev) (a b:Int):Bool:=zCv false l a b
def isK (k:Int) (x:Ev):Bool:=decide (x.k=k)
structure Cts where
 a:Nat
 c:Nat
 b:Nat
 o:Nat
 r:Nat
 w:Nat
 deriving DecidableEq
end YtapbabkndhaemaaGreat
end Go.Proofs
/-
 TRACE:two histories,one behind the other,plainly.
-/
namespace Go.Proofs
namespace YtapbabkndhaemaaGreat
open Go.Abs
theorem zQ1 {l:List Ev} {n:Int} (h:∀x∈l,x.a≠n):xO l n=[]:=by
 unfold xO
 rw[List.filter_eq_nil_iff]
 intro x hx
 simpa using h x hx
section
variable {l m:List Ev}
theorem qFc {n:Int} (h:n∈zCw l):∃x∈l,x.k=1/\x.a=n:=by
 rcases zZs l [] h with h|h
 ·cases h
 ·exact h
end
end YtapbabkndhaemaaGreat
end Go.Proofs
/-
 TRACE:zFj that met,zD2;attempts that came one at a time.
-/
namespace Go.Proofs
namespace YtapbabkndhaemaaGreat
open Go.Abs
def rw (x:Ev):Bool:=isK 2 x||isK 3 x
section
variable {l:List Ev}
theorem zZt:∀(l:List Ev) (out:List Int),(l.foldl zGz out).length<=out.length+l.length
 |[],out=> by simp
 |x::l,out=> by
  have:=zZt l (zGz out x)
  have h:(zGz out x).length<=out.length+1:=by
   unfold zGz
   split<;> simp
  rw[List.foldl_cons,List.length_cons]
  omega
end
end YtapbabkndhaemaaGreat
end Go.Proofs
/-
 TRACE:what the document's history says,plainly:the same.
-/
namespace Go.Proofs
namespace YtapbabkndhaemaaGreat
open Go.Abs
def qA (l:List Ev) (i:Nat) (a k:Int):Bool:=(l.take i).any fun x=> decide (x.a=a) && isK k x
def zK5 (fs:List (List Pr)) (x:Ev):List (List Pr):=(zAn fs x).2
def jY (l:List Ev) (i:Nat) (a:Int):List (List Pr):=(xO (l.take i) a).foldl zK5 [[]]
def xN (l:List Ev) (i:Nat) (x:Ev):Bool:=
 if x.a<0∨64<=x.a then false
 else if x.k=1 then jW x && !qA l i x.a 1
 else if (!qA l i x.a 1||(qA l i x.a 8||qA l i x.a 9))=true then false
 else if x.k=8 then jW x && qA l i x.a 7
 else if x.k=9 then jW x
 else if x.k=2 then !qA l i x.a 7 && (decide (0<=x.t) && decide (x.t<12) && zAg x.v)
 else if x.k=3 then !qA l i x.a 7 && decide ((zAn (jY l i x.a) x).1=0)
 else if x.k=4∨x.k=5∨x.k=6 then !qA l i x.a 7 && (jW x && decide ((zAn (jY l i x.a) x).1=0))
 else if x.k=7 then !qA l i x.a 7 && (jW x && decide ((jY l i x.a).length=1))
 else false
theorem zXt (l:List Ev) (i:Nat) (a k:Int):qA l i a k=(xO (l.take i) a).any (isK k):=by
 unfold qA xO
 rw[List.any_filter]
def zJ1 (o:Option HA) (b t e:Bool) (fs:List (List Pr)):Prop:=
 match o with
 |none=> b=false/\t=false/\e=false/\fs=[[]]
 |some a=> b=true/\a.tr=t/\a.en=e/\a.fs=fs
theorem zG1 {fs:List (List Pr)} {x:Ev} (h:¬x.k=3/\¬x.k=4/\¬x.k=5/\¬x.k=6):(zAn fs x).2=fs:=by
 unfold zAn
 cases fs with
 |nil=> rfl
 |cons f r=> simp[h.1,h.2.1,h.2.2.1,h.2.2.2]
theorem qIg {o:Option HA} {b t e:Bool} {fs:List (List Pr)} (h:zJ1 o b t e fs) {x:Ev} {a:HA} (ht:zDr o x=some a):zJ1 (some a) (b||isK 1 x) (t||isK 7 x) (e||zD6 x) (zK5 fs x):=by
 unfold zDr at ht
 unfold isK zD6 zK5
 split at ht
 ·rename_i k1
  split at ht
  ·split at ht
   ·cases ht
    obtain⟨rfl,rfl,rfl,rfl⟩:=h
    rw[zG1 (by omega)]
    simp[zJ1,k1]
   ·cases ht
  ·cases ht
 ·rename_i k1
  split at ht
  ·cases ht
  ·rename_i a0
   obtain⟨rfl,h2,h3,rfl⟩:=h
   subst h2 h3
   split at ht
   ·cases ht
   ·rename_i hen
    have hen:a0.en=false:=by simpa using hen
    split at ht
    ·rename_i k8
     rw[zG1 (by omega)]
     split at ht
     ·cases ht;simp[zJ1,k8]
     ·cases ht
    ·rename_i k8
     split at ht
     ·rename_i k9
      rw[zG1 (by omega)]
      split at ht
      ·cases ht;simp[zJ1,k9]
      ·cases ht
     ·rename_i k9
      split at ht
      ·cases ht
      ·rename_i htr
       have htr:a0.tr=false:=by simpa using htr
       split at ht
       ·rename_i k2
        rw[zG1 (by omega)]
        split at ht
        ·cases ht;simp[zJ1,k2]
        ·cases ht
       ·split at ht
        ·rename_i k3
         split at ht
         ·cases ht;simp[zJ1,k3]
         ·cases ht
        ·split at ht
         ·rename_i k4
          have k7:¬x.k=7:=by omega
          split at ht
          ·cases ht;simp[zJ1,k1,k7,k8,k9]
          ·cases ht
         ·split at ht
          ·rename_i k7
           rw[zG1 (by omega)]
           split at ht
           ·cases ht;simp[zJ1,k7,hen]
           ·cases ht
          ·cases ht
theorem zUp:∀(c:List Ev) {o o':Option HA} {b t e:Bool} {fs:List (List Pr)},zJ1 o b t e fs->zJd o c=some o'->zJ1 o' (b||c.any (isK 1)) (t||c.any (isK 7)) (e||c.any zD6) (c.foldl zK5 fs)
 |[],o,o',b,t,e,fs,h,hs=> by cases hs;simpa using h
 |x::c,o,o',b,t,e,fs,h,hs=> by
  simp only[zJd,Option.bind_eq_some_iff] at hs
  obtain⟨a,h1,h2⟩:=hs
  have:=zUp c (qIg h h1) h2
  simpa [Bool.or_assoc] using this
theorem qNc {c:List Ev} {o:Option HA} (hs:zJd none c=some o):zJ1 o (c.any (isK 1)) (c.any (isK 7)) (c.any zD6) (c.foldl zK5 [[]]):=by
 have:=zUp c (o:=none) (b:=false) (t:=false) (e:=false) (fs:=[[]]) ⟨rfl,rfl,rfl,rfl⟩ hs
 simpa using this
theorem qU9 (c:List Ev):c.any zD6=(c.any (isK 8)||c.any (isK 9)):=by
 induction c with
 |nil=> rfl
 |cons x c ih=>
  simp only[List.any_cons,ih,zD6,isK]
  cases decide (x.k=8)<;> cases decide (x.k=9)<;> simp
theorem qN5 {l:List Ev} {i:Nat} {x:Ev} {o:Option HA} (hs:zJd none (xO (l.take i) x.a)=some o):xN l i x=true↔(0<=x.a/\x.a<64)/\(zDr o x).isSome=true:=by
 have hk:=qNc hs
 unfold xN
 simp only[zXt]
 rw[show jY l i x.a=(xO (l.take i) x.a).foldl zK5 [[]] from rfl]
 have he:=qU9 (xO (l.take i) x.a)
 by_cases hr:x.a<0∨64<=x.a
 ·rw[if_pos hr]
  constructor
  ·intro h;cases h
  ·rintro⟨h,_⟩;omega
 ·rw[if_neg hr]
  have hr':0<=x.a/\x.a<64:=by omega
  rw[←he]
  generalize (xO (l.take i) x.a).any (isK 1)=b at hk⊢
  generalize (xO (l.take i) x.a).any (isK 7)=t at hk⊢
  generalize (xO (l.take i) x.a).any zD6=e at hk⊢
  generalize (xO (l.take i) x.a).foldl zK5 [[]]=fs at hk⊢
  unfold zDr
  cases o with
  |none=>
   obtain⟨rfl,rfl,rfl,rfl⟩:=hk
   by_cases k1:x.k=1
   ·cases hb:jW x<;> simp[k1,hr',hb]
   ·simp[k1]
  |some a=>
   obtain⟨rfl,rfl,rfl,rfl⟩:=hk
   by_cases k1:x.k=1
   ·simp[k1]
   by_cases hen:a.en=true
   ·simp[k1,hen]
   have hen:a.en=false:=by simpa using hen
   by_cases k8:x.k=8
   ·cases hb:jW x<;> cases ht:a.tr<;> simp[k8,hen,hr',hb,ht]
   by_cases k9:x.k=9
   ·cases hb:jW x<;> simp[k9,hen,hr',hb]
   by_cases ht:a.tr=true
   ·simp[k1,k8,k9,hen,ht]
   have ht:a.tr=false:=by simpa using ht
   by_cases k2:x.k=2
   ·cases hb:zAg x.v<;> simp[k2,hen,hr',ht,hb]
   by_cases k3:x.k=3
   ·simp[k3,hen,hr',ht]
   by_cases k4:x.k=4∨x.k=5∨x.k=6
   ·cases hb:jW x<;> simp[k1,k2,k3,k4,k8,k9,hen,hr',ht,hb]
   by_cases k7:x.k=7
   ·cases hb:jW x<;> simp[k7,hen,hr',ht,hb]
   ·simp[k1,k2,k3,k4,k7,k8,k9,hen,ht]
theorem zLy (l m:List Ev):∀σ,zF3 σ (l++m)=(zF3 σ l).bind fun σ'=> zF3 σ' m:=by
 induction l with
 |nil=> intro σ;rfl
 |cons x l ih=>
  intro σ
  simp only[List.cons_append,zF3]
  cases zJ5 σ x with
  |none=> rfl
  |some σ'=> exact ih _
theorem zH1 {l:List Ev} {i:Nat} {x:Ev} (h:l[i]?=some x):l.take (i+1)=l.take i++[x]:=by
 rw[List.take_add_one,h];rfl
theorem qB5 (l:List Ev):∀i,i<=l.length->((zF3 zKe (l.take i)).isSome=true↔∀j x,j<i->l[j]?=some x->xN l j x=true)
 |0,_=> by simp[zF3]
 |i+1,hi=> by
  obtain⟨x,hx⟩:=zAs (l:=l) (i:=i) (by omega)
  have ih:=qB5 l i (by omega)
  rw[zH1 hx,zLy]
  cases hr:zF3 zKe (l.take i) with
  |none=>
   rw[hr] at ih
   simp only[Option.bind_none]
   constructor
   ·intro h;cases h
   ·intro h
    exact ih.2 fun j y hj hy=> h j y (by omega) hy
  |some σ=>
   rw[hr] at ih
   have hall:=ih.1 rfl
   have hst:=((zXx _ _ _).1 hr).2 x.a
   have hf:=qN5 (l:=l) (i:=i) (x:=x) (o:=σ x.a) hst
   simp only[Option.bind_some,zF3,zJ5]
   have h1:((if 0<=x.a/\x.a<64 then (zDr (σ x.a) x).map fun a=> zEg σ x.a a else none).bind fun σ'=> some σ').isSome=true↔xN l i x=true:=by
    rw[hf]
    by_cases h:0<=x.a/\x.a<64
    ·rw[if_pos h]
     cases zDr (σ x.a) x<;> simp[h]
    ·rw[if_neg h]
     simp[h]
   rw[h1]
   constructor
   ·intro h j y hj hy
    by_cases hji:j=i
    ·subst hji;rw[hx] at hy;cases hy;exact h
    ·exact hall j y (by omega) hy
   ·intro h
    exact h i x (by omega) hx
theorem zN0 (l:List Ev):zE6 l=true↔l.length<=400/\∀j x,l[j]?=some x->xN l j x=true:=by
 unfold zE6
 have:=qB5 l l.length (Nat.le_refl _)
 rw[List.take_length] at this
 rw[Bool.and_eq_true,decide_eq_true_eq,this]
 refine and_congr Iff.rfl ⟨fun h j x hx=> h j x (List.getElem?_eq_some_iff.1 hx).1 hx,fun h j x _ hx=> h j x hx⟩
theorem qOu {l:List Ev} {i:Nat} {x:Ev}:zGz (zCw (l.take i)) x=if x.k=1/\qA l i x.a 1=false then zCw (l.take i)++[x.a] else zCw (l.take i):=by
 unfold zGz
 have:x.a∉zCw (l.take i)↔qA l i x.a 1=false:=by
  constructor
  ·intro h
   rw[Bool.eq_false_iff]
   intro hs
   obtain⟨y,hy,h2⟩:=List.any_eq_true.1 hs
   simp only[isK,Bool.and_eq_true,decide_eq_true_eq] at h2
   refine h ?_
   rw[←h2.1]
   exact zZu _ hy h2.2
  ·intro hs h
   obtain⟨y,hy,h1,h2⟩:=qFc h
   have:qA l i x.a 1=true:=List.any_eq_true.2 ⟨y,hy,by simp[isK,h1,h2]⟩
   rw[hs] at this;cases this
 by_cases hc:x.k=1/\x.a∉zCw (l.take i)
 ·rw[if_pos hc,if_pos ⟨hc.1,this.1 hc.2⟩]
 ·rw[if_neg hc,if_neg fun h=> hc ⟨h.1,this.2 h.2⟩]
theorem qGs:∀(c:List Ev) (p:Bool × Int),(c.foldl stF p).1=(p.1||c.any (isK 1))
 |[],p=> by simp
 |x::c,p=> by
  rw[List.foldl_cons,qGs c,List.any_cons,←Bool.or_assoc]
  congr 1
  unfold stF isK
  by_cases h1:x.k=1
  ·simp[h1]
  ·simp only[h1,if_false,decide_false,Bool.or_false]
   repeat' split
   all_goals rfl
def stG (s:Int) (x:Ev):Int:=if x.k=7 then 2 else if x.k=8 then 3 else if x.k=9 then 4 else s
theorem qGr:∀(c:List Ev) (p:Bool × Int),(c.foldl stF p).2=c.foldl stG p.2
 |[],p=> rfl
 |x::c,p=> by
  rw[List.foldl_cons,List.foldl_cons,qGr c]
  congr 1
  unfold stF stG
  by_cases h1:x.k=1
  ·simp[h1]
  ·simp only[h1,if_false]
   repeat' split
   all_goals rfl
theorem qGq (l:List Ev) (n:Int):zAp l n=if qA l l.length n 1=true then (xO l n).foldl stG 1 else 0:=by
 unfold zAp stC
 rw[qGs,qGr,zXt,List.take_length]
 simp
theorem zSo (l:List Ev) (a b:Int):∀(m:List Ev) (i:Nat),l.drop i=m->(∀j x,j<i->l[j]?=some x->¬(x.a=b/\x.k=1))->zCu l a b=zCv (qA l i a 8||qA l i a 9) m a b:=by
 have key:∀i,i<=l.length->(∀j x,j<i->l[j]?=some x->¬(x.a=b/\x.k=1))->zCu l a b=zCv (qA l i a 8||qA l i a 9) (l.drop i) a b:=by
  intro i
  induction i with
  |zero=> intro _ _;simp[zCu,qA]
  |succ i ih=>
   intro hi h
   obtain⟨x,hx⟩:=zAs (l:=l) (i:=i) (by omega)
   rw[ih (by omega) fun j y hj hy=> h j y (by omega) hy]
   have hd:l.drop i=x::l.drop (i+1):=by
    rw[List.drop_eq_getElem_cons (by omega)]
    congr 1
    rw[List.getElem?_eq_getElem (by omega)] at hx
    exact Option.some.inj hx
   rw[hd,zCv,if_neg (h i x (by omega) hx)]
   congr 1
   unfold qA
   rw[zH1 hx]
   simp only[List.any_append,List.any_cons,List.any_nil,Bool.or_false,zD6,isK]
   cases decide (x.a=a)<;> cases decide (x.k=8)<;> cases decide (x.k=9)<;> simp
 intro m i hm h
 by_cases hi:i<=l.length
 ·rw[←hm];exact key i hi h
 ·have h1:=key l.length (Nat.le_refl _) fun j x hj hx=> h j x (by omega) hx
  rw[h1,←hm,List.drop_length,List.drop_eq_nil_of_le (by omega)];rfl
end YtapbabkndhaemaaGreat
end Go.Proofs
/-
 TRACE:Attempts,Cut,StateOf,Before.
-/
namespace Go.Proofs
namespace YtapbabkndhaemaaGreat
open Go.Abs
theorem qA2 (L:List (Option (AObj GD))) (k:Nat):zOf (AH.of L) k=match (L[k]?).join with
 |some (.ro cs)=> zA6 cs
 |some (.arr _ cs)=> zA6 cs
 |_=> none:=rfl
attribute [simp] qA2
theorem zT2 (l:List Ev):(zCw l).length<=l.length:=by
 have:=zZt l []
 simpa [zCw] using this
end YtapbabkndhaemaaGreat
end Go.Proofs
/-
 TRACE:Cut,StateOf,Before.
-/
namespace Go.Proofs
namespace YtapbabkndhaemaaGreat
open Go.Abs
theorem zZf {l:List Ev} {i:Nat} {x:Ev} (h:l[i]?=some x) (n:Int):xO (l.take (i+1)) n=if x.a=n then xO (l.take i) n++[x] else xO (l.take i) n:=by
 rw[zH1 h,zJk,zFx]
 split<;> simp[xO]
end YtapbabkndhaemaaGreat
end Go.Proofs
/-
 The document's history:act,own,seen.
-/
namespace Go.Proofs
namespace YtapbabkndhaemaaGreat
open Go.Abs
def zHq:List (FuncId × qH GD):=[(200,zZ zZb),(197,zZ zZd),(198,zZ zL4),(199,zZ zZc)]
theorem qKl:∀x∈zHq,zY Tryz.prog cfg x.1 x.2:=by simp[zHq,qLg,qLi,zXf,qLh]
theorem qIv {f:List Pr} {r:List (List Pr)} (h:zDm (f::r)):r.length<=4:=by have:=h.1.2.1;simp at this;omega
theorem qO5 {fs:List (List Pr)} {x:Ev} (h:zDm fs):zDm (zAn fs x).2:=by
 unfold zAn
 cases fs with
 |nil=> exact absurd rfl h.1.1
 |cons f r=>
  have hl:=qIv h
  simp only
  split
  ·simp only
   split
   ·rename_i hc;exact qXk h hc
   ·exact h
  ·split
   ·simp only
    split
    ·exact h
    ·exact qUt h (by simp;omega)
   ·split
    ·simp only
     split
     ·exact h
     ·rename_i hr
      obtain⟨g,r',rfl⟩:∃g r',r=g::r':=by
       cases r with
       |nil=> exact absurd rfl hr
       |cons g r'=> exact⟨g,r',rfl⟩
      exact qUu h
    ·split
     ·cases r with
      |nil=> exact h
      |cons g r'=> exact qN2 h
     ·exact h
theorem qSd (fs:List (List Pr)) (x:Ev) (h:zDm fs) (hv:0<=x.v/\x.v<18446744073709551616):zD Tryz.prog cfg 227 [.pointer (some ⟨0,0,none⟩),.agg #[.int .u8 x.k,.int .i64 x.a,.int .i64 x.t,.int .u64 x.v]] (AH.of [some (.hi (.rlog fs))])
  fun r H'=> r=.ret (.int .i64 (zAn fs x).1)/\H'=AH.of [some (.hi (.rlog (zAn fs x).2))]:=by
 refine zD.ends ?_
 cases fs with
 |nil=> exact absurd rfl h.1.1
 |cons f r=>
  have hl:=qIv h
  refine zP (tbl:=zHq) qKl 0 0 (af:=a227) rfl ?_
  rw[a227,b227,zW]
  refine⟨by simp,?_⟩
  by_cases k3:x.k=3
  ·by_cases hc:jQ f r x.t x.v=0
   ·have e:zAn (f::r) x=(0,xE f ⟨x.t,x.v⟩::r):=by simp[zAn,k3,hc]
    rw[e]
    simp -implicitDefEqProofs [zHq,zZ,zZb,h,hv,k3,hc]
    refine zA [] [0] ?_ ?_ ?_<;> simp
   ·have e:zAn (f::r) x=(jQ f r x.t x.v,f::r):=by simp[zAn,k3,hc]
    rw[e]
    simp -implicitDefEqProofs [zHq,zZ,zZb,h,hv,k3,hc]
    refine zA [] [0] ?_ ?_ ?_<;> simp
  by_cases k4:x.k=4
  ·have hl1:r.length<=100:=by omega
   by_cases hc:4<=r.length
   ·have e:zAn (f::r) x=(4,f::r):=by simp[zAn,k3,k4,hc]
    rw[e]
    simp -implicitDefEqProofs [zHq,zZ,zZd,hl1,k4,hc]
    refine zA [] [0] ?_ ?_ ?_<;> simp
   ·have e:zAn (f::r) x=(0,[]::f::r):=by simp[zAn,k3,k4,hc]
    rw[e]
    simp -implicitDefEqProofs [zHq,zZ,zZd,hl1,k4,hc]
    refine zA [] [0] ?_ ?_ ?_<;> simp
  by_cases k5:x.k=5
  ·have hl1:r.length<=100:=by omega
   by_cases hc:r=[]
   ·have e:zAn (f::r) x=(8,f::r):=by simp[zAn,k3,k4,k5,hc]
    rw[e]
    simp -implicitDefEqProofs [zHq,zZ,zL4,hl1,k5,hc]
    refine zA [] [0] ?_ ?_ ?_<;> simp
   ·have e:zAn (f::r) x=(0,r):=by simp[zAn,k3,k4,k5,hc]
    rw[e]
    simp -implicitDefEqProofs [zHq,zZ,zL4,hl1,k5,hc]
    refine zA [] [0] ?_ ?_ ?_<;> simp
  by_cases k6:x.k=6
  ·cases r with
   |nil=>
    have e:zAn [f] x=(8,[f]):=by simp[zAn,k3,k4,k5,k6]
    rw[e]
    simp -implicitDefEqProofs [zHq,zZ,zZc,k6]
    refine zA [] [0] ?_ ?_ ?_<;> simp
   |cons g r=>
    have e:zAn (f::g::r) x=(0,jO g f::r):=by simp[zAn,k3,k4,k5,k6]
    rw[e]
    simp -implicitDefEqProofs [zHq,zZ,zZc,h,k6]
    refine zA [] [0] ?_ ?_ ?_<;> simp
  have e:zAn (f::r) x=(0,f::r):=by simp[zAn,k3,k4,k5,k6]
  rw[e]
  simp -implicitDefEqProofs [zHq,k3,k4,k5,k6]
  refine zA [] [0] ?_ ?_ ?_<;> simp
def zBo:zDs
 |.rlog fs,[.agg cs]=> match zA6 cs.toList with
  |some [x]=> some (zDm fs/\0<=x.v/\x.v<18446744073709551616,.int .i64 (zAn fs x).1,.rlog (zAn fs x).2)
  |_=> none
 |_,_=> none
theorem zW8:zY Tryz.prog cfg 227 (zZ zBo):=zCk fun d rest p v d' h hp=> by
 unfold zBo at h
 split at h
 ·split at h
  ·rename_i fs cs o x hx
   cases h
   have e:cs=(evs [x]).toArray:=by rw[←zBu hx]
   subst e
   exact⟨rfl,rfl,qSd _ _ hp.1 hp.2⟩
  ·cases h
 ·cases h
theorem qGx {l:List Ev} {i:Nat} {x:Ev} (h:l[i]?=some x) (a k:Int):qA l (i+1) a k=(qA l i a k||(decide (x.a=a) && isK k x)):=by
 unfold qA
 rw[List.take_add_one,h,List.any_append]
 simp
theorem qGw (l:List Ev) (a k:Int):qA l 0 a k=false:=by simp[qA]
theorem qTh (l:List Ev) (n c m:Nat) (a k:Int) (hn:n<=l.length) (hs:m<=n) (hm:m<=1000):zD Tryz.prog cfg 119 [.slice (some ⟨0,0,none⟩) n c,.int .i64 m,.int .i64 a,.int .u8 k] (AH.of [some (.ro (evs l))])
  fun r H'=> r=.ret (.bool (qA l m a k))/\H'=AH.of [some (.ro (evs l))]:=by
 refine zP (tbl:=[]) (by simp) 1001 0 (af:=a119) rfl ?_
 rw[a119,b119,zW]
 refine⟨by simp,?_⟩
 simp -implicitDefEqProofs
 refine jH (qR jG (qS (by simp)) _ _ noY qM) (fun q tm H=> ∃i:Nat,q+i=m/\qA l i a k=false/\tm 0=.slice (some ⟨0,0,none⟩) n c/\tm 1=.int .i64 m/\tm 2=.int .i64 a/\tm 3=.int .u8 k/\tm 9=.int .i64 i/\H=AH.of [some (.ro (evs l))]) (m:=m) ⟨0,by simp[qGw]⟩ (by omega) ?_
 rintro q tm H ⟨i,hq,hno,t0,t1,t2,t3,t9,rfl⟩
 by_cases hi:i<m
 ·obtain⟨x,hx⟩:=zAs (l:=l) (i:=i) (by omega)
  have hi':(i:Int)<m:=by omega
  have hin:i<n:=by omega
  have hin':(i:Int)<n:=by omega
  have hwr:=jV hi (by omega)
  have hsuc:=qGx hx a k
  have hroom:=zB0 (show i<l.length by omega)
  have hat:=zLe hx
  by_cases ha:x.a=a
  ·by_cases hk:x.k=k
   ·have hy:qA l (i+1) a k=true:=by rw[hsuc];simp[ha,isK,hk]
    have hyy:qA l m a k=true:=by
     unfold qA at hy⊢
     rw[List.any_eq_true] at hy⊢
     obtain⟨y,h1,h2⟩:=hy
     exact⟨y,(List.take_subset_take_left l (show i+1<=m by omega)) h1,h2⟩
    simp -implicitDefEqProofs [t0,t1,t2,t3,t9,hi',hin,hin',hwr,hroom,hat,ha,hk,hyy]
   ·simp -implicitDefEqProofs [t0,t1,t2,t3,t9,hi',hin,hin',hwr,hroom,hat,ha,hk]
    exact⟨q - 1,by omega,i+1,by omega,by rw[hsuc,hno];simp[isK,hk],by simp[t0,t1,t2,t3]⟩
  ·simp -implicitDefEqProofs [t0,t1,t2,t3,t9,hi',hin,hin',hwr,hroom,hat,ha]
   exact⟨q - 1,by omega,i+1,by omega,by rw[hsuc,hno];simp[ha],by simp[t0,t1,t2,t3]⟩
 ·have hie:i=m:=by omega
  subst hie
  simp -implicitDefEqProofs [t0,t1,t2,t3,t9,hno]
theorem zBt {l:List Ev} {n m:Nat} (h:m<=n) (a k:Int):qA (l.take n) m a k=qA l m a k:=by
 unfold qA
 rw[List.take_take,Nat.min_eq_left h]
def zA9:zSw
 |l,[.int .i64 m,.int .i64 a,.int .u8 k]=> some (0<=m/\m<=l.length/\m<=1000,.bool (qA l m.toNat a k))
 |_,_=> none
theorem zXl:zY Tryz.prog cfg 119 (zAi zA9):=qD1 fun l n c rest p v hn h hp=> by
 unfold zA9 at h
 split at h
 ·rename_i m a k
  cases h
  obtain⟨h1,h2,h3⟩:=hp
  rw[List.length_take] at h2
  obtain⟨i,rfl⟩:∃i:Nat,m=i:=⟨m.toNat,by omega⟩
  refine⟨rfl,rfl,?_⟩
  rw[Int.toNat_natCast,zBt (by omega)]
  exact qTh l n c i a k hn (by omega) (by omega)
 ·cases h
end YtapbabkndhaemaaGreat
end Go.Proofs
/-
 TRACE:above,CountsOf,Busiest,apart,few.
-/
namespace Go.Proofs
namespace YtapbabkndhaemaaGreat
open Go.Abs
end YtapbabkndhaemaaGreat
end Go.Proofs
/-
 TRACE:Busiest,Merge.
-/
namespace Go.Proofs
namespace YtapbabkndhaemaaGreat
open Go.Abs
end YtapbabkndhaemaaGreat
end Go.Proofs
/-
 TRACE:Right:what is known of the attempts' map.
-/
namespace Go.Proofs
namespace YtapbabkndhaemaaGreat
open Go.Abs
theorem zP2 {n m:Int} {v:Value} {c:Nat}:∀{es:List MapEntry} {o:Option Value},zDb false (.int .i64 n) es=some o->zDb false (.int .i64 n) (es++[⟨.int .i64 m,v,c⟩])=some (match o with|some w=> some w|none=> if n=m then some v else none)
 |[],o,h=> by
  cases h
  show zDb false (.int .i64 n) [⟨.int .i64 m,v,c⟩]=_
  by_cases hn:n=m
  ·simp[zDb,zJe,hn]
  ·have hb:(n==m)=false:=by simpa using hn
   simp[zDb,zJe,hn,hb]
 |e::es,o,h=> by
  rw[zDb] at h
  rw[List.cons_append,zDb]
  cases hs:zJe false (.int .i64 n) e.key with
  |none=> rw[hs] at h;cases h
  |some b=>
   cases b with
   |true=> rw[hs] at h;cases h;rfl
   |false=> rw[hs] at h;exact zP2 h
structure RI (l:List Ev) (i:Nat) (σ:Int->Option HA) (kk:Int->Nat × Nat) (es:List MapEntry) (cl:Nat) (H:AH GD):Prop where
 run:zF3 zKe (l.take i)=some σ
 g0:H.get 0=some (.ro (evs l))
 g1:H.get 1=some (.arr 4 [.bool false])
 g2:H.get 2=some (.map es cl)
 n3:3<=H.next
 find:∀n,zDb false (.int .i64 n) es=some ((σ n).map fun _=> .pointer (some ⟨(kk n).1,0,none⟩))
 at1:∀n a,σ n=some a->H.get (kk n).1=some (.arr 0 [.pointer (some ⟨(kk n).2,0,none⟩),.bool a.tr,.bool a.en])
 at2:∀n a,σ n=some a->H.get (kk n).2=some (.hi (.log a.fs))
 good:∀n a,σ n=some a->zBb a.fs
 lt:∀n a,σ n=some a->3<=(kk n).1/\(kk n).1<H.next/\3<=(kk n).2/\(kk n).2<H.next
 ne:∀n m a b,σ n=some a->σ m=some b->(kk n).1≠(kk m).2/\(n≠m->(kk n).1≠(kk m).1/\(kk n).2≠(kk m).2)
section
variable {l:List Ev} {i:Nat} {σ:Int->Option HA} {kk:Int->Nat × Nat} {es:List MapEntry} {cl:Nat} {H H':AH GD} {x:Ev} {a a':HA}
theorem RI.run_succ (h:RI l i σ kk es cl H) (hx:l[i]?=some x) (hr:0<=x.a/\x.a<64) (ht:zDr (σ x.a) x=some a'):zF3 zKe (l.take (i+1))=some (zEg σ x.a a'):=by
 rw[zH1 hx,zLy,h.run]
 simp[zF3,zJ5,hr,ht]
theorem RI.upd (h:RI l i σ kk es cl H) (hx:l[i]?=some x) (hr:0<=x.a/\x.a<64) (hs:σ x.a=some a) (ht:zDr (some a) x=some a') (hg:zBb a'.fs) (hn:H.next<=H'.next)
  (e1:H'.get (kk x.a).1=some (.arr 0 [.pointer (some ⟨(kk x.a).2,0,none⟩),.bool a'.tr,.bool a'.en])) (e2:H'.get (kk x.a).2=some (.hi (.log a'.fs)))
  (eo:∀j,j<H.next->j≠(kk x.a).1->j≠(kk x.a).2->H'.get j=H.get j):RI l (i+1) (zEg σ x.a a') kk es cl H':=by
 obtain⟨l1,l2,l3,l4⟩:=h.lt _ _ hs
 have n3:=h.n3
 have hset:∀n b,zEg σ x.a a' n=some b->(n=x.a/\b=a')∨(n≠x.a/\σ n=some b):=fun n b hb=> by
  unfold zEg at hb
  split at hb
  ·cases hb;exact .inl ⟨by assumption,rfl⟩
  ·exact .inr ⟨by assumption,hb⟩
 have hany:∀n b,zEg σ x.a a' n=some b->∃b',σ n=some b':=fun n b hb=> by
  rcases hset n b hb with ⟨rfl,_⟩|⟨_,h⟩
  ·exact⟨a,hs⟩
  ·exact⟨b,h⟩
 refine⟨h.run_succ hx hr (by rw[hs];exact ht),by rw[eo 0 (by omega) (by omega) (by omega)];exact h.g0,by rw[eo 1 (by omega) (by omega) (by omega)];exact h.g1,by rw[eo 2 (by omega) (by omega) (by omega)];exact h.g2,by omega,fun n=> ?_,fun n b hb=> ?_,fun n b hb=> ?_,fun n b hb=> ?_,fun n b hb=> ?_,fun n m b c hb hc=> ?_⟩
 ·rw[h.find n]
  unfold zEg
  split
  ·rename_i e;subst e;rw[hs];rfl
  ·rfl
 ·rcases hset n b hb with ⟨rfl,rfl⟩|⟨hne,hb⟩
  ·exact e1
  ·obtain⟨m1,m2,m3,m4⟩:=h.lt _ _ hb
   rw[eo _ m2 ((h.ne _ _ _ _ hb hs).2 hne).1 (h.ne _ _ _ _ hb hs).1]
   exact h.at1 n b hb
 ·rcases hset n b hb with ⟨rfl,rfl⟩|⟨hne,hb⟩
  ·exact e2
  ·obtain⟨m1,m2,m3,m4⟩:=h.lt _ _ hb
   rw[eo _ m4 (fun e=> (h.ne _ _ _ _ hs hb).1 e.symm) ((h.ne _ _ _ _ hb hs).2 hne).2]
   exact h.at2 n b hb
 ·rcases hset n b hb with ⟨rfl,rfl⟩|⟨hne,hb⟩
  ·exact hg
  ·exact h.good n b hb
 ·obtain⟨b',hb'⟩:=hany n b hb
  have:=h.lt _ _ hb'
  omega
 ·obtain⟨b',hb'⟩:=hany n b hb
  obtain⟨c',hc'⟩:=hany m c hc
  exact h.ne _ _ _ _ hb' hc'
theorem RI.new (h:RI l i σ kk es cl H) (hx:l[i]?=some x) (hr:0<=x.a/\x.a<64) (hs:σ x.a=none) (ht:zDr none x=some ⟨false,false,[[]]⟩) {k1 k2:Nat} (hk:H.next<=k1/\H.next<=k2/\k1<H'.next/\k2<H'.next/\k1≠k2)
  (em:H'.get 2=some (.map (es++[⟨.int .i64 x.a,.pointer (some ⟨k1,0,none⟩),cl⟩]) (cl+1)))
  (e1:H'.get k1=some (.arr 0 [.pointer (some ⟨k2,0,none⟩),.bool false,.bool false])) (e2:H'.get k2=some (.hi (.log [[]])))
  (eo:∀j,j<H.next->j≠2->H'.get j=H.get j):RI l (i+1) (zEg σ x.a ⟨false,false,[[]]⟩) (fun n=> if n=x.a then (k1,k2) else kk n) (es++[⟨.int .i64 x.a,.pointer (some ⟨k1,0,none⟩),cl⟩]) (cl+1) H':=by
 have n3:=h.n3
 have hset:∀n b,zEg σ x.a ⟨false,false,[[]]⟩ n=some b->(n=x.a/\b=⟨false,false,[[]]⟩)∨(n≠x.a/\σ n=some b):=fun n b hb=> by
  unfold zEg at hb
  split at hb
  ·cases hb;exact .inl ⟨by assumption,rfl⟩
  ·exact .inr ⟨by assumption,hb⟩
 have hk0:(if x.a=x.a then (k1,k2) else kk x.a)=(k1,k2):=if_pos rfl
 refine⟨h.run_succ hx hr (by rw[hs];exact ht),by rw[eo 0 (by omega) (by omega)];exact h.g0,by rw[eo 1 (by omega) (by omega)];exact h.g1,em,by omega,fun n=> ?_,fun n b hb=> ?_,fun n b hb=> ?_,fun n b hb=> ?_,fun n b hb=> ?_,fun n m b c hb hc=> ?_⟩
 ·rw[zP2 (h.find n)]
  by_cases hn:n=x.a
  ·subst hn
   simp[hs,zEg]
  ·rw[if_neg hn,if_neg hn]
   cases hσ:σ n<;> simp[zEg,hn,hσ]
 ·rcases hset n b hb with ⟨rfl,rfl⟩|⟨hne,hb⟩
  ·simp only[if_true];exact e1
  ·obtain⟨m1,m2,m3,m4⟩:=h.lt _ _ hb
   simp only[if_neg hne]
   rw[eo _ m2 (by omega)]
   exact h.at1 n b hb
 ·rcases hset n b hb with ⟨rfl,rfl⟩|⟨hne,hb⟩
  ·simp only[if_true];exact e2
  ·obtain⟨m1,m2,m3,m4⟩:=h.lt _ _ hb
   simp only[if_neg hne]
   rw[eo _ m4 (by omega)]
   exact h.at2 n b hb
 ·rcases hset n b hb with ⟨rfl,rfl⟩|⟨hne,hb⟩
  ·exact zLc
  ·exact h.good n b hb
 ·rcases hset n b hb with ⟨rfl,rfl⟩|⟨hne,hb⟩
  ·simp only[if_true];omega
  ·have:=h.lt _ _ hb
   simp only[if_neg hne];omega
 ·rcases hset n b hb with ⟨rfl,rfl⟩|⟨hne,hb⟩
  ·rcases hset m c hc with ⟨rfl,rfl⟩|⟨hne2,hc⟩
   ·simp only[if_true]
    exact⟨hk.2.2.2.2,fun h=> absurd rfl h⟩
   ·have:=h.lt _ _ hc
    simp only[if_true,if_neg hne2]
    omega
  ·rcases hset m c hc with ⟨rfl,rfl⟩|⟨hne2,hc⟩
   ·have:=h.lt _ _ hb
    simp only[if_true,if_neg hne]
    omega
   ·simp only[if_neg hne,if_neg hne2]
    exact h.ne _ _ _ _ hb hc
end
end YtapbabkndhaemaaGreat
end Go.Proofs
/-
 TRACE:Right.
-/
namespace Go.Proofs
namespace YtapbabkndhaemaaGreat
open Go.Abs
end YtapbabkndhaemaaGreat
end Go.Proofs
/-
 The document's history:own,fits.
-/
namespace Go.Proofs
namespace YtapbabkndhaemaaGreat
open Go.Abs
theorem qMp (l:List Ev) (a:Int):jY l 0 a=[[]]:=by simp[jY,xO]
theorem qMq {l:List Ev} {i:Nat} {x:Ev} (h:l[i]?=some x) (a:Int):jY l (i+1) a=if x.a=a then (zAn (jY l i a) x).2 else jY l i a:=by
 unfold jY
 rw[zZf h]
 split
 ·rw[List.foldl_append];rfl
 ·rfl
theorem zC6 (l:List Ev) (i:Nat) (a:Int):zDm (jY l i a):=by
 unfold jY
 have:∀(c:List Ev) (fs:List (List Pr)),zDm fs->zDm (c.foldl zK5 fs):=by
  intro c
  induction c with
  |nil=> intro fs h;exact h
  |cons x c ih=> intro fs h;exact ih _ (qO5 h)
 exact this _ _ qXl
theorem qJk (x:Ev):zA6 [.int .u8 x.k,.int .i64 x.a,.int .i64 x.t,.int .u64 x.v]=some [x]:=rfl
def zRk:List (FuncId × qH GD):=[(132,zV2),(227,zZ zBo)]
theorem zWu:∀x∈zRk,zY Tryz.prog cfg x.1 x.2:=by simp[zRk,qLz,zW8]
theorem qSe (l:List Ev) (n c m:Nat) (a:Int) (hn:n<=l.length) (hs:m<=n) (hm:m<=1000) (hv:∀x∈l,0<=x.v/\x.v<18446744073709551616):zD Tryz.prog cfg 226 [.slice (some ⟨0,0,none⟩) n c,.int .i64 m,.int .i64 a] (AH.of [some (.ro (evs l))])
  fun r H'=> r=.ret (.pointer (some ⟨1,0,none⟩))/\H'=AH.of [some (.ro (evs l)),some (.hi (.rlog (jY l m a)))]:=by
 refine zP (tbl:=zRk) zWu 1001 0 (af:=a226) rfl ?_
 rw[a226,b226,zW]
 refine⟨by simp,?_⟩
 simp -implicitDefEqProofs [zRk,zV2]
 refine jH (qR jG (qS zWu) _ _ noY qM) (fun q tm H=> ∃i:Nat,q+i=m/\tm 0=.slice (some ⟨0,0,none⟩) n c/\tm 1=.int .i64 m/\tm 2=.int .i64 a/\tm 7=.pointer (some ⟨1,0,none⟩)/\tm 8=.int .i64 i/\H=AH.of [some (.ro (evs l)),some (.hi (.rlog (jY l i a)))]) (m:=m) ⟨0,by simp[qMp]⟩ (by omega) ?_
 rintro q tm H ⟨i,hq,t0,t1,t2,t7,t8,rfl⟩
 by_cases hi:i<m
 ·obtain⟨x,hx⟩:=zAs (l:=l) (i:=i) (by omega)
  have hi':(i:Int)<m:=by omega
  have hin:i<n:=by omega
  have hin':(i:Int)<n:=by omega
  have hwr:=jV hi (by omega)
  have hsuc:=qMq hx a
  have hroom:=zB0 (show i<l.length by omega)
  have hat:=zLe hx
  have hmany:=zCz hx
  have hxv:=hv x (List.mem_of_getElem? hx)
  have hgo:=zC6 l i a
  by_cases ha:x.a=a
  ·subst ha
   rw[if_pos rfl] at hsuc
   simp -implicitDefEqProofs [zRk,zZ,zBo,qJk,t0,t1,t2,t7,t8,hi',hin,hin',hwr,hroom,hat,hmany,hgo,hxv]
   exact⟨q - 1,by omega,i+1,by omega,by simp[t0,t1,t2,t7,hsuc]⟩
  ·rw[if_neg ha] at hsuc
   simp -implicitDefEqProofs [t0,t1,t2,t7,t8,hi',hin,hin',hwr,hroom,hat,ha]
   exact⟨q - 1,by omega,i+1,by omega,by simp[t0,t1,t2,t7,hsuc]⟩
 ·have hie:i=m:=by omega
  subst hie
  simp -implicitDefEqProofs [t0,t1,t2,t7,t8]
def zAb:qH GD:=fun args H=> match args with
 |[.slice (some ⟨k,0,none⟩) n _,.int .i64 m,.int .i64 a]=> match H.get k with
  |some (.ro cs)=> (zA6 cs).map fun l=> (n<=l.length/\0<=m/\m<=n/\m<=1000/\∀x∈l,0<=x.v/\x.v<18446744073709551616,.ret (.pointer (some ⟨H.next,0,none⟩)),H.add (.hi (.rlog (jY l m.toNat a))))
  |_=> none
 |_=> none
theorem zW9:zY Tryz.prog cfg 226 zAb:=by
 intro args H p r H' h hp
 unfold zAb at h
 split at h
 case h_2=> cases h
 split at h
 case h_2=> cases h
 simp only[Option.map_eq_some_iff] at h
 obtain⟨l,hl,h⟩:=h
 rename_i k n c m a x1 cs hk
 cases h
 rw[zBu hl] at hk
 obtain⟨i,rfl⟩:∃i:Nat,m=i:=⟨m.toNat,by omega⟩
 rw[Int.toNat_natCast]
 exact (qSe l n c i a hp.1 (by omega) (by omega) hp.2.2.2.2).atK (zCj fun i cs hi=> by rcases i with _|_|i<;> simp at hi⊢;exact hi) [k] (by simp) (by simp) (by simp[hk]) (by simp) (by simp) (by simp[qO hk,AObj.ren])
end YtapbabkndhaemaaGreat
end Go.Proofs
/-
 THE DOCUMENT's LOG:Get,All.
-/
namespace Go.Proofs
namespace YtapbabkndhaemaaGreat
open Go.Abs
theorem qA1 {fs:List (List Pr)} {m:Nat} {g:List Pr} (h:fs[m]?=some g) (t:Int):qQ (fs.drop m) t=match qW g t with|some v=> some v|none=> qQ (fs.drop (m+1)) t:=by
 obtain⟨hl,hg⟩:=List.getElem?_eq_some_iff.1 h
 rw[List.drop_eq_getElem_cons hl,hg]
 cases hp:qW g t with
 |none=> rw[zBr hp]
 |some v=> rw[zDg hp]
theorem qSu (fs:List (List Pr)) (t:Int) (hl:fs.length<=100) (ht:0<=t/\t<12):zD Tryz.prog cfg 187 [.pointer (some ⟨0,0,none⟩),.int .i64 t] (AH.of [some (.hi (.rlog fs))])
  fun r H'=> r=.ret (.tuple #[.int .u64 ((qQ fs t).getD 0),.bool (qQ fs t).isSome])/\H'=AH.of [some (.hi (.rlog fs))]:=by
 refine zD.ends ?_
 refine zD.opn 0 (H1:=AH.of [some (.arr 196 [.slice (some ⟨1,0,none⟩) fs.length 1]),some (.arr 246 (rf fs))]) (by simp[zJg,xW]) ?_
 have hrl:=zGi fs
 obtain⟨t,rfl⟩:∃i:Nat,t=i:=⟨t.toNat,by omega⟩
 have ht0:¬(t:Int)<0:=by omega
 have ht1:¬(12:Int)<=t:=by omega
 have ht2:(t:Int)<12:=by omega
 have htn:t<12:=by omega
 have hw0:IntKind.i64.wrap ((fs.length:Int) - 1)=(fs.length:Int) - 1:=qF (by omega) (by omega)
 refine zP (tbl:=[]) (by simp) 101 0 (af:=a187) rfl ?_
 rw[a187,b187,zW]
 refine⟨by simp,?_⟩
 simp -implicitDefEqProofs [ht0,ht1,hw0]
 refine jH (qR jG (qS (by simp)) _ _ noY qM) (fun m tm H=> m<=fs.length/\qQ (fs.drop (fs.length - m)) t=qQ fs t/\tm 0=.pointer (some ⟨0,0,none⟩)/\tm 1=.int .i64 t/\tm 6=.int .i64 ((m:Int) - 1)/\H=AH.of [some (.arr 196 [.slice (some ⟨1,0,none⟩) fs.length 1]),some (.arr 246 (rf fs))]) (m:=fs.length) (by simp) (by omega) ?_
 rintro m tm H ⟨hm,hg,t0,t1,t6,rfl⟩
 cases m with
 |zero=>
  have hno:qQ fs t=none:=by
   rw[←hg,Nat.sub_zero,List.drop_length];rfl
  simp -implicitDefEqProofs [t0,t1,t6,hno]
  refine zA [.pack (GD.rlog fs) 0 [1]] [0] ?_ ?_ ?_<;> simp[xW,AObj.mine]
 |succ i=>
  rw[show ((i+1:Nat):Int) - 1=i by omega] at t6
  obtain⟨g,hgi⟩:=zAs (l:=fs.reverse) (i:=i) (by simp;omega)
  have hgf:fs[fs.length - (i+1)]?=some g:=by
   rw[List.getElem?_reverse (by omega)] at hgi
   rw[←hgi];congr 1;omega
  have hd:=qA1 hgf t
  rw[hg,show fs.length - (i+1)+1=fs.length - i by omega] at hd
  have hi':(i:Int)<fs.length:=by omega
  have hc:=zX2 hgi (j:=t) (by omega)
  have hc2:=zX2 hgi (j:=12+t) (by omega)
  rw[zGa g htn] at hc
  rw[zIm g htn] at hc2
  have hc3:(rf fs)[i*24+12+t]?=some (.int .u64 ((qW g t).getD 0)):=by rw[←hc2];congr 1;omega
  have hwr:IntKind.i64.wrap ((i:Int) - 1)=(i:Int) - 1:=qF (by omega) (by omega)
  cases hp:qW g t with
  |some v=>
   rw[hp] at hd hc hc2 hc3
   simp -implicitDefEqProofs [t0,t1,t6,ht2,hi',hc,hc2,hc3,hd]
   refine zA [.pack (GD.rlog fs) 0 [1]] [0] ?_ ?_ ?_<;> simp[xW,AObj.mine]
  |none=>
   rw[hp] at hd hc
   simp -implicitDefEqProofs [t0,t1,t6,ht2,hi',hc,hwr]
   exact⟨i,by omega,by omega,hd.symm,by simp[t0,t1]⟩
def zL5:zDs
 |.rlog fs,[.int .i64 t]=> some (fs.length<=100/\0<=t/\t<12,.tuple #[.int .u64 ((qQ fs t).getD 0),.bool (qQ fs t).isSome],.rlog fs)
 |_,_=> none
theorem zXg:zY Tryz.prog cfg 187 (zZ zL5):=zCk fun d rest p v d' h hp=> by
 unfold zL5 at h
 split at h
 ·cases h;exact⟨rfl,rfl,qSu _ _ hp.1 hp.2⟩
 ·cases h
def zRi:List (FuncId × qH GD):=[(187,zZ zL5)]
theorem zWt:∀x∈zRi,zY Tryz.prog cfg x.1 x.2:=by simp[zRi,zXg]
theorem qTc (fs:List (List Pr)) (hl:fs.length<=100):zD Tryz.prog cfg 141 [.pointer (some ⟨0,0,none⟩)] (AH.of [some (.hi (.rlog fs))])
  fun r H'=> r=.ret (.slice (some ⟨1,0,none⟩) (jC fs).length 1)/\H'=AH.of [some (.hi (.rlog fs)),some (.arr 104 (prs (jC fs)))]:=by
 refine zD.ends ?_
 refine zP (tbl:=zRi) zWt 13 0 (af:=a141) rfl ?_
 rw[a141,b141,zW]
 refine⟨by simp,?_⟩
 simp -implicitDefEqProofs
 refine zA3 (qR jG (qS zWt) _ _ noY qM) (fun m tm H=> ∃i:Nat,m+i=12/\tm 0=.pointer (some ⟨0,0,none⟩)/\tm 3=.slice (some ⟨1,0,none⟩) (zC3 fs i).length 1/\tm 4=.int .i64 i/\H=AH.of [some (.hi (.rlog fs)),some (.arr 104 (prs (zC3 fs i)))]) (m:=12) ?_ (by omega) ?_
 ·refine zF4 [.nil 104] [0,1] [some (.hi (.rlog fs)),some (.arr 104 (prs []))] [(3,.slice (some ⟨1,0,none⟩) 0 1)] 12 (by omega) ?_ ?_ ?_ ⟨0,by omega,?_,?_,?_,rfl⟩<;> simp[zC3,prs]
  done
 rintro m tm H ⟨i,hm,t0,t3,t4,rfl⟩
 have hle:=zPt fs i
 by_cases hi:i<12
 ·have hi':(i:Int)<12:=by omega
  have hwr:=jV hi (by omega)
  have hsuc:=zOo fs i
  have hr3:((zC3 fs i).length+1)*16<=140737488355328/\(zC3 fs i).length<=9223372036854775806:=by omega
  have htk:=zKy (zC3 fs i)
  have hll:(zC3 fs i).length*2<=(prs (zC3 fs i)).length:=by rw[zB8];omega
  cases hv:qQ fs i with
  |none=>
   simp only[hv,List.append_nil] at hsuc
   simp -implicitDefEqProofs [zRi,zZ,zL5,hl,t0,t3,t4,hi,hi',hwr,hv]
   refine qD [] [0,1] [some (.hi (.rlog fs)),some (.arr 104 (prs (zC3 fs (i+1))))] (m - 1) (by omega) ?_ ?_ ⟨i+1,by omega,?_,?_,?_,rfl⟩<;> simp[t0,t3,hsuc]
  |some v=>
   simp only[hv] at hsuc
   simp -implicitDefEqProofs [zRi,zZ,zL5,hl,t0,t3,t4,hi,hi',hwr,hv,hr3,htk,hll]
   refine qD [] [0,3] [some (.hi (.rlog fs)),some (.arr 104 (prs (zC3 fs (i+1))))] (m - 1) (by omega) ?_ ?_ ⟨i+1,by omega,?_,?_,?_,rfl⟩<;> simp[t0,hsuc,zKc,zKb]
 ·have hie:i=12:=by omega
  subst hie
  simp -implicitDefEqProofs [t0,t3,t4]
  refine zA [] [0,1] ?_ ?_ ?_<;> simp[jC]
def zV1:qH GD:=fun args H=> match args with
 |[.pointer (some ⟨k,0,none⟩)]=> match H.get k with
  |some (.hi (.rlog fs))=> some (fs.length<=100,.ret (.slice (some ⟨H.next,0,none⟩) (jC fs).length 1),H.add (.arr 104 (prs (jC fs))))
  |_=> none
 |_=> none
theorem qLy:zY Tryz.prog cfg 141 zV1:=by
 intro args H p r H' h hp
 unfold zV1 at h
 split at h
 case h_2=> cases h
 split at h
 case h_2=> cases h
 rename_i k x fs hk
 cases h
 exact (qTc fs hp).atK (jD rfl) [k] (by simp) (by simp) (by simp[hk]) (by simp) (by simp) (by simp[qO hk])
end YtapbabkndhaemaaGreat
end Go.Proofs
/-
 The document's history:fits.
-/
namespace Go.Proofs
namespace YtapbabkndhaemaaGreat
open Go.Abs
def xH:List (FuncId × qH GD):=[(119,zAi zA9),(226,zAb),(227,zZ zBo),(97,zA2),(185,zZ zBs)]
theorem zDv:∀x∈xH,zY Tryz.prog cfg x.1 x.2:=by simp[xH,zXl,zW9,zW8,zS5,qLj]
theorem qN4 (l:List Ev) (n c i:Nat) (k a t v:Int) (hn:n<=l.length) (hi:i<n) (hs:i<=1000) (hx:l[i]?=some ⟨k,a,t,v⟩) (hv:∀x∈l,0<=x.v/\x.v<18446744073709551616) (hr:a<0∨64<=a):zD Tryz.prog cfg 179 [.slice (some ⟨0,0,none⟩) n c,.int .i64 i] (AH.of [some (.ro (evs l))])
  fun r H'=> r=.ret (.bool (xN l i ⟨k,a,t,v⟩))/\H'=AH.of [some (.ro (evs l))]:=by
 refine zD.ends ?_
 refine zP (tbl:=xH) zDv 0 0 (af:=a179) rfl ?_
 rw[a179,b179,zW]
 refine⟨by simp,?_⟩
 have hi':(i:Int)<n:=by omega
 have hsi:(i:Int)<=1000:=by omega
 have hil:i<=l.length:=by omega
 have hin:i<=n:=by omega
 have hroom:=zB0 (show i<l.length by omega)
 have hmany:((evs l).drop (i*4)).take 4=[.int .u8 k,.int .i64 a,.int .i64 t,.int .u64 v]:=zCz hx
 have hxv:0<=v/\v<18446744073709551616:=hv _ (List.mem_of_getElem? hx)
 have hgo:=zC6 l i a
 have hst:∀k,qA (l.take n) i a k=qA l i a k:=fun k=> zBt hin a k
 have hln:(l.take n).length=n:=by rw[List.length_take];omega
 have hone:zA6 [.int .u8 k,.int .i64 a,.int .i64 t,.int .u64 v]=some [⟨k,a,t,v⟩]:=rfl
 have hdl:(jY l i a).length<=1000:=by have:(jY l i a).length<=5:=hgo.1.2.1;omega
 by_cases hr1:a<0
 ·simp -implicitDefEqProofs [xH,hi,hi',hroom,hmany,hr1]
  refine zA [] [0] ?_ ?_ ?_<;> simp[xN,hr1]
 have hr2:64<=a:=by omega
 simp -implicitDefEqProofs [xH,hi,hi',hroom,hmany,hr1,hr2]
 refine zA [] [0] ?_ ?_ ?_<;> simp[xN,hr1,hr2]
theorem qUv (l:List Ev) (n c i:Nat) (k a t v:Int) (hn:n<=l.length) (hi:i<n) (hs:i<=1000) (hx:l[i]?=some ⟨k,a,t,v⟩) (hv:∀x∈l,0<=x.v/\x.v<18446744073709551616) (hr:¬a<0) (hr2:¬64<=a) (hb:qA l i a 1=false):zD Tryz.prog cfg 179 [.slice (some ⟨0,0,none⟩) n c,.int .i64 i] (AH.of [some (.ro (evs l))])
  fun r H'=> r=.ret (.bool (xN l i ⟨k,a,t,v⟩))/\H'=AH.of [some (.ro (evs l))]:=by
 refine zD.ends ?_
 refine zP (tbl:=xH) zDv 0 0 (af:=a179) rfl ?_
 rw[a179,b179,zW]
 refine⟨by simp,?_⟩
 have hi':(i:Int)<n:=by omega
 have hsi:(i:Int)<=1000:=by omega
 have hil:i<=l.length:=by omega
 have hin:i<=n:=by omega
 have hroom:=zB0 (show i<l.length by omega)
 have hmany:((evs l).drop (i*4)).take 4=[.int .u8 k,.int .i64 a,.int .i64 t,.int .u64 v]:=zCz hx
 have hxv:0<=v/\v<18446744073709551616:=hv _ (List.mem_of_getElem? hx)
 have hgo:=zC6 l i a
 have hst:∀k,qA (l.take n) i a k=qA l i a k:=fun k=> zBt hin a k
 have hln:(l.take n).length=n:=by rw[List.length_take];omega
 have hone:zA6 [.int .u8 k,.int .i64 a,.int .i64 t,.int .u64 v]=some [⟨k,a,t,v⟩]:=rfl
 have hdl:(jY l i a).length<=1000:=by have:(jY l i a).length<=5:=hgo.1.2.1;omega
 by_cases k1:k=1
 ·subst k1
  by_cases ht:t=0
  ·subst ht
   by_cases h0:v=0
   ·subst h0
    cases h7:qA l i a 7<;> cases h8:qA l i a 8<;> cases h9:qA l i a 9<;> (
     simp -implicitDefEqProofs [xH,zAi,zA9,zAb,zZ,zBo,zBs,zA2,asU,hone,hst,hln,hi,hi',hil,hin,hs,hsi,hn,hroom,hmany,hr,hr2,hxv,hgo,hdl,hb,h7,h8,h9]
     refine zA [] [0] ?_ ?_ ?_<;> simp[xN,jW,hr,hr2,hb,hb,h7,h8,h9])
   ·cases h7:qA l i a 7<;> cases h8:qA l i a 8<;> cases h9:qA l i a 9<;> (
    simp -implicitDefEqProofs [xH,zAi,zA9,zAb,zZ,zBo,zBs,zA2,asU,hone,hst,hln,hi,hi',hil,hin,hs,hsi,hn,hroom,hmany,hr,hr2,hxv,hgo,hdl,h0,hb,h7,h8,h9]
    refine zA [] [0] ?_ ?_ ?_<;> simp[xN,jW,hr,hr2,hb,h0,hb,h7,h8,h9])
  ·cases h7:qA l i a 7<;> cases h8:qA l i a 8<;> cases h9:qA l i a 9<;> (
   simp -implicitDefEqProofs [xH,zAi,zA9,zAb,zZ,zBo,zBs,zA2,asU,hone,hst,hln,hi,hi',hil,hin,hs,hsi,hn,hroom,hmany,hr,hr2,hxv,hgo,hdl,ht,hb,h7,h8,h9]
   refine zA [] [0] ?_ ?_ ?_<;> simp[xN,jW,hr,hr2,hb,ht,hb,h7,h8,h9])
 ·by_cases ht:t=0
  ·subst ht
   by_cases h0:v=0
   ·subst h0
    cases h7:qA l i a 7<;> cases h8:qA l i a 8<;> cases h9:qA l i a 9<;> (
     simp -implicitDefEqProofs [xH,zAi,zA9,zAb,zZ,zBo,zBs,zA2,asU,hone,hst,hln,hi,hi',hil,hin,hs,hsi,hn,hroom,hmany,hr,hr2,hxv,hgo,hdl,hb,h7,h8,h9,k1]
     refine zA [] [0] ?_ ?_ ?_<;> simp[xN,jW,hr,hr2,hb,hb,h7,h8,h9,k1])
   ·cases h7:qA l i a 7<;> cases h8:qA l i a 8<;> cases h9:qA l i a 9<;> (
    simp -implicitDefEqProofs [xH,zAi,zA9,zAb,zZ,zBo,zBs,zA2,asU,hone,hst,hln,hi,hi',hil,hin,hs,hsi,hn,hroom,hmany,hr,hr2,hxv,hgo,hdl,h0,hb,h7,h8,h9,k1]
    refine zA [] [0] ?_ ?_ ?_<;> simp[xN,jW,hr,hr2,hb,h0,hb,h7,h8,h9,k1])
  ·cases h7:qA l i a 7<;> cases h8:qA l i a 8<;> cases h9:qA l i a 9<;> (
   simp -implicitDefEqProofs [xH,zAi,zA9,zAb,zZ,zBo,zBs,zA2,asU,hone,hst,hln,hi,hi',hil,hin,hs,hsi,hn,hroom,hmany,hr,hr2,hxv,hgo,hdl,ht,hb,h7,h8,h9,k1]
   refine zA [] [0] ?_ ?_ ?_<;> simp[xN,jW,hr,hr2,hb,ht,hb,h7,h8,h9,k1])
theorem qEt (l:List Ev) (n c i:Nat) (k a t v:Int) (hn:n<=l.length) (hi:i<n) (hs:i<=1000) (hx:l[i]?=some ⟨k,a,t,v⟩) (hv:∀x∈l,0<=x.v/\x.v<18446744073709551616) (hr:¬a<0) (hr2:¬64<=a) (hb:qA l i a 1=true) (k1:k=1):zD Tryz.prog cfg 179 [.slice (some ⟨0,0,none⟩) n c,.int .i64 i] (AH.of [some (.ro (evs l))])
  fun r H'=> r=.ret (.bool (xN l i ⟨k,a,t,v⟩))/\H'=AH.of [some (.ro (evs l))]:=by
 refine zD.ends ?_
 refine zP (tbl:=xH) zDv 0 0 (af:=a179) rfl ?_
 rw[a179,b179,zW]
 refine⟨by simp,?_⟩
 have hi':(i:Int)<n:=by omega
 have hsi:(i:Int)<=1000:=by omega
 have hil:i<=l.length:=by omega
 have hin:i<=n:=by omega
 have hroom:=zB0 (show i<l.length by omega)
 have hmany:((evs l).drop (i*4)).take 4=[.int .u8 k,.int .i64 a,.int .i64 t,.int .u64 v]:=zCz hx
 have hxv:0<=v/\v<18446744073709551616:=hv _ (List.mem_of_getElem? hx)
 have hgo:=zC6 l i a
 have hst:∀k,qA (l.take n) i a k=qA l i a k:=fun k=> zBt hin a k
 have hln:(l.take n).length=n:=by rw[List.length_take];omega
 have hone:zA6 [.int .u8 k,.int .i64 a,.int .i64 t,.int .u64 v]=some [⟨k,a,t,v⟩]:=rfl
 have hdl:(jY l i a).length<=1000:=by have:(jY l i a).length<=5:=hgo.1.2.1;omega
 subst k1
 by_cases ht:t=0
 ·subst ht
  by_cases h0:v=0
  ·subst h0
   cases h7:qA l i a 7<;> cases h8:qA l i a 8<;> cases h9:qA l i a 9<;> (
    simp -implicitDefEqProofs [xH,zAi,zA9,zAb,zZ,zBo,zBs,zA2,asU,hone,hst,hln,hi,hi',hil,hin,hs,hsi,hn,hroom,hmany,hr,hr2,hxv,hgo,hdl,hb,h7,h8,h9]
    refine zA [] [0] ?_ ?_ ?_<;> simp[xN,jW,hr,hr2,hb,hb,h7,h8,h9])
  ·cases h7:qA l i a 7<;> cases h8:qA l i a 8<;> cases h9:qA l i a 9<;> (
   simp -implicitDefEqProofs [xH,zAi,zA9,zAb,zZ,zBo,zBs,zA2,asU,hone,hst,hln,hi,hi',hil,hin,hs,hsi,hn,hroom,hmany,hr,hr2,hxv,hgo,hdl,h0,hb,h7,h8,h9]
   refine zA [] [0] ?_ ?_ ?_<;> simp[xN,jW,hr,hr2,hb,h0,hb,h7,h8,h9])
 ·cases h7:qA l i a 7<;> cases h8:qA l i a 8<;> cases h9:qA l i a 9<;> (
  simp -implicitDefEqProofs [xH,zAi,zA9,zAb,zZ,zBo,zBs,zA2,asU,hone,hst,hln,hi,hi',hil,hin,hs,hsi,hn,hroom,hmany,hr,hr2,hxv,hgo,hdl,ht,hb,h7,h8,h9]
  refine zA [] [0] ?_ ?_ ?_<;> simp[xN,jW,hr,hr2,hb,ht,hb,h7,h8,h9])
theorem qEu (l:List Ev) (n c i:Nat) (k a t v:Int) (hn:n<=l.length) (hi:i<n) (hs:i<=1000) (hx:l[i]?=some ⟨k,a,t,v⟩) (hv:∀x∈l,0<=x.v/\x.v<18446744073709551616) (hr:¬a<0) (hr2:¬64<=a) (hb:qA l i a 1=true) (k1:¬k=1) (he:qA l i a 8=true∨qA l i a 9=true):zD Tryz.prog cfg 179 [.slice (some ⟨0,0,none⟩) n c,.int .i64 i] (AH.of [some (.ro (evs l))])
  fun r H'=> r=.ret (.bool (xN l i ⟨k,a,t,v⟩))/\H'=AH.of [some (.ro (evs l))]:=by
 refine zD.ends ?_
 refine zP (tbl:=xH) zDv 0 0 (af:=a179) rfl ?_
 rw[a179,b179,zW]
 refine⟨by simp,?_⟩
 have hi':(i:Int)<n:=by omega
 have hsi:(i:Int)<=1000:=by omega
 have hil:i<=l.length:=by omega
 have hin:i<=n:=by omega
 have hroom:=zB0 (show i<l.length by omega)
 have hmany:((evs l).drop (i*4)).take 4=[.int .u8 k,.int .i64 a,.int .i64 t,.int .u64 v]:=zCz hx
 have hxv:0<=v/\v<18446744073709551616:=hv _ (List.mem_of_getElem? hx)
 have hgo:=zC6 l i a
 have hst:∀k,qA (l.take n) i a k=qA l i a k:=fun k=> zBt hin a k
 have hln:(l.take n).length=n:=by rw[List.length_take];omega
 have hone:zA6 [.int .u8 k,.int .i64 a,.int .i64 t,.int .u64 v]=some [⟨k,a,t,v⟩]:=rfl
 have hdl:(jY l i a).length<=1000:=by have:(jY l i a).length<=5:=hgo.1.2.1;omega
 by_cases ht:t=0
 ·subst ht
  by_cases h0:v=0
  ·subst h0
   cases h7:qA l i a 7<;> cases h8:qA l i a 8<;> cases h9:qA l i a 9<;> (
    first
     |(exfalso;simp[h8,h9] at he;done)
     |(simp -implicitDefEqProofs [xH,zAi,zA9,zAb,zZ,zBo,zBs,zA2,asU,hone,hst,hln,hi,hi',hil,hin,hs,hsi,hn,hroom,hmany,hr,hr2,hxv,hgo,hdl,hb,h7,h8,h9,k1]
       refine zA [] [0] ?_ ?_ ?_<;> simp[xN,jW,hr,hr2,hb,hb,h7,h8,h9,k1]))
  ·cases h7:qA l i a 7<;> cases h8:qA l i a 8<;> cases h9:qA l i a 9<;> (
   first
    |(exfalso;simp[h8,h9] at he;done)
    |(simp -implicitDefEqProofs [xH,zAi,zA9,zAb,zZ,zBo,zBs,zA2,asU,hone,hst,hln,hi,hi',hil,hin,hs,hsi,hn,hroom,hmany,hr,hr2,hxv,hgo,hdl,h0,hb,h7,h8,h9,k1]
      refine zA [] [0] ?_ ?_ ?_<;> simp[xN,jW,hr,hr2,hb,h0,hb,h7,h8,h9,k1]))
 ·cases h7:qA l i a 7<;> cases h8:qA l i a 8<;> cases h9:qA l i a 9<;> (
  first
   |(exfalso;simp[h8,h9] at he;done)
   |(simp -implicitDefEqProofs [xH,zAi,zA9,zAb,zZ,zBo,zBs,zA2,asU,hone,hst,hln,hi,hi',hil,hin,hs,hsi,hn,hroom,hmany,hr,hr2,hxv,hgo,hdl,ht,hb,h7,h8,h9,k1]
     refine zA [] [0] ?_ ?_ ?_<;> simp[xN,jW,hr,hr2,hb,ht,hb,h7,h8,h9,k1]))
theorem qXn (l:List Ev) (n c i:Nat) (k a t v:Int) (hn:n<=l.length) (hi:i<n) (hs:i<=1000) (hx:l[i]?=some ⟨k,a,t,v⟩) (hv:∀x∈l,0<=x.v/\x.v<18446744073709551616) (hr:¬a<0) (hr2:¬64<=a) (hb:qA l i a 1=true) (h8:qA l i a 8=false) (h9:qA l i a 9=false) (kk:k=8):zD Tryz.prog cfg 179 [.slice (some ⟨0,0,none⟩) n c,.int .i64 i] (AH.of [some (.ro (evs l))])
  fun r H'=> r=.ret (.bool (xN l i ⟨k,a,t,v⟩))/\H'=AH.of [some (.ro (evs l))]:=by
 refine zD.ends ?_
 refine zP (tbl:=xH) zDv 0 0 (af:=a179) rfl ?_
 rw[a179,b179,zW]
 refine⟨by simp,?_⟩
 have hi':(i:Int)<n:=by omega
 have hsi:(i:Int)<=1000:=by omega
 have hil:i<=l.length:=by omega
 have hin:i<=n:=by omega
 have hroom:=zB0 (show i<l.length by omega)
 have hmany:((evs l).drop (i*4)).take 4=[.int .u8 k,.int .i64 a,.int .i64 t,.int .u64 v]:=zCz hx
 have hxv:0<=v/\v<18446744073709551616:=hv _ (List.mem_of_getElem? hx)
 have hgo:=zC6 l i a
 have hst:∀k,qA (l.take n) i a k=qA l i a k:=fun k=> zBt hin a k
 have hln:(l.take n).length=n:=by rw[List.length_take];omega
 have hone:zA6 [.int .u8 k,.int .i64 a,.int .i64 t,.int .u64 v]=some [⟨k,a,t,v⟩]:=rfl
 have hdl:(jY l i a).length<=1000:=by have:(jY l i a).length<=5:=hgo.1.2.1;omega
 subst kk
 by_cases ht:t=0
 ·subst ht
  by_cases h0:v=0
  ·subst h0
   cases h7:qA l i a 7<;> (
    simp -implicitDefEqProofs [xH,zAi,zA9,zAb,zZ,zBo,zBs,zA2,asU,hone,hst,hln,hi,hi',hil,hin,hs,hsi,hn,hroom,hmany,hr,hr2,hxv,hgo,hdl,hb,h7,h8,h9]
    refine⟨hv,?_⟩
    refine zA [] [0] ?_ ?_ ?_<;> simp[xN,jW,hr,hr2,hb,hb,h7,h8,h9])
  ·cases h7:qA l i a 7<;> (
   simp -implicitDefEqProofs [xH,zAi,zA9,zAb,zZ,zBo,zBs,zA2,asU,hone,hst,hln,hi,hi',hil,hin,hs,hsi,hn,hroom,hmany,hr,hr2,hxv,hgo,hdl,h0,hb,h7,h8,h9]
   refine⟨hv,?_⟩
   refine zA [] [0] ?_ ?_ ?_<;> simp[xN,jW,hr,hr2,hb,h0,hb,h7,h8,h9])
 ·cases h7:qA l i a 7<;> (
  simp -implicitDefEqProofs [xH,zAi,zA9,zAb,zZ,zBo,zBs,zA2,asU,hone,hst,hln,hi,hi',hil,hin,hs,hsi,hn,hroom,hmany,hr,hr2,hxv,hgo,hdl,ht,hb,h7,h8,h9]
  refine⟨hv,?_⟩
  refine zA [] [0] ?_ ?_ ?_<;> simp[xN,jW,hr,hr2,hb,ht,hb,h7,h8,h9])
theorem qXm (l:List Ev) (n c i:Nat) (k a t v:Int) (hn:n<=l.length) (hi:i<n) (hs:i<=1000) (hx:l[i]?=some ⟨k,a,t,v⟩) (hv:∀x∈l,0<=x.v/\x.v<18446744073709551616) (hr:¬a<0) (hr2:¬64<=a) (hb:qA l i a 1=true) (h8:qA l i a 8=false) (h9:qA l i a 9=false) (kk:k=9):zD Tryz.prog cfg 179 [.slice (some ⟨0,0,none⟩) n c,.int .i64 i] (AH.of [some (.ro (evs l))])
  fun r H'=> r=.ret (.bool (xN l i ⟨k,a,t,v⟩))/\H'=AH.of [some (.ro (evs l))]:=by
 refine zD.ends ?_
 refine zP (tbl:=xH) zDv 0 0 (af:=a179) rfl ?_
 rw[a179,b179,zW]
 refine⟨by simp,?_⟩
 have hi':(i:Int)<n:=by omega
 have hsi:(i:Int)<=1000:=by omega
 have hil:i<=l.length:=by omega
 have hin:i<=n:=by omega
 have hroom:=zB0 (show i<l.length by omega)
 have hmany:((evs l).drop (i*4)).take 4=[.int .u8 k,.int .i64 a,.int .i64 t,.int .u64 v]:=zCz hx
 have hxv:0<=v/\v<18446744073709551616:=hv _ (List.mem_of_getElem? hx)
 have hgo:=zC6 l i a
 have hst:∀k,qA (l.take n) i a k=qA l i a k:=fun k=> zBt hin a k
 have hln:(l.take n).length=n:=by rw[List.length_take];omega
 have hone:zA6 [.int .u8 k,.int .i64 a,.int .i64 t,.int .u64 v]=some [⟨k,a,t,v⟩]:=rfl
 have hdl:(jY l i a).length<=1000:=by have:(jY l i a).length<=5:=hgo.1.2.1;omega
 subst kk
 by_cases ht:t=0
 ·subst ht
  by_cases h0:v=0
  ·subst h0
   cases h7:qA l i a 7<;> (
    simp -implicitDefEqProofs [xH,zAi,zA9,zAb,zZ,zBo,zBs,zA2,asU,hone,hst,hln,hi,hi',hil,hin,hs,hsi,hn,hroom,hmany,hr,hr2,hxv,hgo,hdl,hb,h7,h8,h9]
    refine⟨hv,?_⟩
    refine zA [] [0] ?_ ?_ ?_<;> simp[xN,jW,hr,hr2,hb,hb,h7,h8,h9])
  ·cases h7:qA l i a 7<;> (
   simp -implicitDefEqProofs [xH,zAi,zA9,zAb,zZ,zBo,zBs,zA2,asU,hone,hst,hln,hi,hi',hil,hin,hs,hsi,hn,hroom,hmany,hr,hr2,hxv,hgo,hdl,h0,hb,h7,h8,h9]
   refine⟨hv,?_⟩
   refine zA [] [0] ?_ ?_ ?_<;> simp[xN,jW,hr,hr2,hb,h0,hb,h7,h8,h9])
 ·cases h7:qA l i a 7<;> (
  simp -implicitDefEqProofs [xH,zAi,zA9,zAb,zZ,zBo,zBs,zA2,asU,hone,hst,hln,hi,hi',hil,hin,hs,hsi,hn,hroom,hmany,hr,hr2,hxv,hgo,hdl,ht,hb,h7,h8,h9]
  refine⟨hv,?_⟩
  refine zA [] [0] ?_ ?_ ?_<;> simp[xN,jW,hr,hr2,hb,ht,hb,h7,h8,h9])
theorem qXt (l:List Ev) (n c i:Nat) (k a t v:Int) (hn:n<=l.length) (hi:i<n) (hs:i<=1000) (hx:l[i]?=some ⟨k,a,t,v⟩) (hv:∀x∈l,0<=x.v/\x.v<18446744073709551616) (hr:¬a<0) (hr2:¬64<=a) (hb:qA l i a 1=true) (h8:qA l i a 8=false) (h9:qA l i a 9=false) (kk:k=2):zD Tryz.prog cfg 179 [.slice (some ⟨0,0,none⟩) n c,.int .i64 i] (AH.of [some (.ro (evs l))])
  fun r H'=> r=.ret (.bool (xN l i ⟨k,a,t,v⟩))/\H'=AH.of [some (.ro (evs l))]:=by
 refine zD.ends ?_
 refine zP (tbl:=xH) zDv 0 0 (af:=a179) rfl ?_
 rw[a179,b179,zW]
 refine⟨by simp,?_⟩
 have hi':(i:Int)<n:=by omega
 have hsi:(i:Int)<=1000:=by omega
 have hil:i<=l.length:=by omega
 have hin:i<=n:=by omega
 have hroom:=zB0 (show i<l.length by omega)
 have hmany:((evs l).drop (i*4)).take 4=[.int .u8 k,.int .i64 a,.int .i64 t,.int .u64 v]:=zCz hx
 have hxv:0<=v/\v<18446744073709551616:=hv _ (List.mem_of_getElem? hx)
 have hgo:=zC6 l i a
 have hst:∀k,qA (l.take n) i a k=qA l i a k:=fun k=> zBt hin a k
 have hln:(l.take n).length=n:=by rw[List.length_take];omega
 have hone:zA6 [.int .u8 k,.int .i64 a,.int .i64 t,.int .u64 v]=some [⟨k,a,t,v⟩]:=rfl
 have hdl:(jY l i a).length<=1000:=by have:(jY l i a).length<=5:=hgo.1.2.1;omega
 subst kk
 by_cases ht:t=0
 ·subst ht
  by_cases h0:v=0
  ·subst h0
   cases h7:qA l i a 7<;> cases g3:zAg 0<;> (
    simp -implicitDefEqProofs [xH,zAi,zA9,zAb,zZ,zBo,zBs,zA2,asU,hone,hst,hln,hi,hi',hil,hin,hs,hsi,hn,hroom,hmany,hr,hr2,hxv,hgo,hdl,hb,h7,h8,h9,g3]
    refine⟨hv,?_⟩
    refine zA [] [0] ?_ ?_ ?_<;> simp[xN,jW,hr,hr2,hb,hb,h7,h8,h9,g3])
  ·cases h7:qA l i a 7<;> cases g3:zAg v<;> (
   simp -implicitDefEqProofs [xH,zAi,zA9,zAb,zZ,zBo,zBs,zA2,asU,hone,hst,hln,hi,hi',hil,hin,hs,hsi,hn,hroom,hmany,hr,hr2,hxv,hgo,hdl,h0,hb,h7,h8,h9,g3]
   refine⟨hv,?_⟩
   refine zA [] [0] ?_ ?_ ?_<;> simp[xN,jW,hr,hr2,hb,h0,hb,h7,h8,h9,g3])
 ·cases h7:qA l i a 7<;> by_cases g1:0<=t<;> by_cases g2:t<12<;> cases g3:zAg v<;> (
  simp -implicitDefEqProofs [xH,zAi,zA9,zAb,zZ,zBo,zBs,zA2,asU,hone,hst,hln,hi,hi',hil,hin,hs,hsi,hn,hroom,hmany,hr,hr2,hxv,hgo,hdl,ht,hb,h7,h8,h9,g1,g2,g3]
  refine⟨hv,?_⟩
  refine zA [] [0] ?_ ?_ ?_<;> simp[xN,jW,hr,hr2,hb,ht,hb,h7,h8,h9,g1,g2,g3])
theorem qXs (l:List Ev) (n c i:Nat) (k a t v:Int) (hn:n<=l.length) (hi:i<n) (hs:i<=1000) (hx:l[i]?=some ⟨k,a,t,v⟩) (hv:∀x∈l,0<=x.v/\x.v<18446744073709551616) (hr:¬a<0) (hr2:¬64<=a) (hb:qA l i a 1=true) (h8:qA l i a 8=false) (h9:qA l i a 9=false) (kk:k=3):zD Tryz.prog cfg 179 [.slice (some ⟨0,0,none⟩) n c,.int .i64 i] (AH.of [some (.ro (evs l))])
  fun r H'=> r=.ret (.bool (xN l i ⟨k,a,t,v⟩))/\H'=AH.of [some (.ro (evs l))]:=by
 refine zD.ends ?_
 refine zP (tbl:=xH) zDv 0 0 (af:=a179) rfl ?_
 rw[a179,b179,zW]
 refine⟨by simp,?_⟩
 have hi':(i:Int)<n:=by omega
 have hsi:(i:Int)<=1000:=by omega
 have hil:i<=l.length:=by omega
 have hin:i<=n:=by omega
 have hroom:=zB0 (show i<l.length by omega)
 have hmany:((evs l).drop (i*4)).take 4=[.int .u8 k,.int .i64 a,.int .i64 t,.int .u64 v]:=zCz hx
 have hxv:0<=v/\v<18446744073709551616:=hv _ (List.mem_of_getElem? hx)
 have hgo:=zC6 l i a
 have hst:∀k,qA (l.take n) i a k=qA l i a k:=fun k=> zBt hin a k
 have hln:(l.take n).length=n:=by rw[List.length_take];omega
 have hone:zA6 [.int .u8 k,.int .i64 a,.int .i64 t,.int .u64 v]=some [⟨k,a,t,v⟩]:=rfl
 have hdl:(jY l i a).length<=1000:=by have:(jY l i a).length<=5:=hgo.1.2.1;omega
 subst kk
 by_cases ht:t=0
 ·subst ht
  by_cases h0:v=0
  ·subst h0
   cases h7:qA l i a 7<;> by_cases ga:(zAn (jY l i a) ⟨3,a,0,0⟩).1=0<;> (
    simp -implicitDefEqProofs [xH,zAi,zA9,zAb,zZ,zBo,zBs,zA2,asU,hone,hst,hln,hi,hi',hil,hin,hs,hsi,hn,hroom,hmany,hr,hr2,hxv,hgo,hdl,hb,h7,h8,h9,ga]
    refine⟨hv,?_⟩
    refine zA [] [0] ?_ ?_ ?_<;> simp[xN,jW,hr,hr2,hb,hb,h7,h8,h9,ga])
  ·cases h7:qA l i a 7<;> by_cases ga:(zAn (jY l i a) ⟨3,a,0,v⟩).1=0<;> (
   simp -implicitDefEqProofs [xH,zAi,zA9,zAb,zZ,zBo,zBs,zA2,asU,hone,hst,hln,hi,hi',hil,hin,hs,hsi,hn,hroom,hmany,hr,hr2,hxv,hgo,hdl,h0,hb,h7,h8,h9,ga]
   refine⟨hv,?_⟩
   refine zA [] [0] ?_ ?_ ?_<;> simp[xN,jW,hr,hr2,hb,h0,hb,h7,h8,h9,ga])
 ·cases h7:qA l i a 7<;> by_cases ga:(zAn (jY l i a) ⟨3,a,t,v⟩).1=0<;> (
  simp -implicitDefEqProofs [xH,zAi,zA9,zAb,zZ,zBo,zBs,zA2,asU,hone,hst,hln,hi,hi',hil,hin,hs,hsi,hn,hroom,hmany,hr,hr2,hxv,hgo,hdl,ht,hb,h7,h8,h9,ga]
  refine⟨hv,?_⟩
  refine zA [] [0] ?_ ?_ ?_<;> simp[xN,jW,hr,hr2,hb,ht,hb,h7,h8,h9,ga])
theorem qXr (l:List Ev) (n c i:Nat) (k a t v:Int) (hn:n<=l.length) (hi:i<n) (hs:i<=1000) (hx:l[i]?=some ⟨k,a,t,v⟩) (hv:∀x∈l,0<=x.v/\x.v<18446744073709551616) (hr:¬a<0) (hr2:¬64<=a) (hb:qA l i a 1=true) (h8:qA l i a 8=false) (h9:qA l i a 9=false) (kk:k=4):zD Tryz.prog cfg 179 [.slice (some ⟨0,0,none⟩) n c,.int .i64 i] (AH.of [some (.ro (evs l))])
  fun r H'=> r=.ret (.bool (xN l i ⟨k,a,t,v⟩))/\H'=AH.of [some (.ro (evs l))]:=by
 refine zD.ends ?_
 refine zP (tbl:=xH) zDv 0 0 (af:=a179) rfl ?_
 rw[a179,b179,zW]
 refine⟨by simp,?_⟩
 have hi':(i:Int)<n:=by omega
 have hsi:(i:Int)<=1000:=by omega
 have hil:i<=l.length:=by omega
 have hin:i<=n:=by omega
 have hroom:=zB0 (show i<l.length by omega)
 have hmany:((evs l).drop (i*4)).take 4=[.int .u8 k,.int .i64 a,.int .i64 t,.int .u64 v]:=zCz hx
 have hxv:0<=v/\v<18446744073709551616:=hv _ (List.mem_of_getElem? hx)
 have hgo:=zC6 l i a
 have hst:∀k,qA (l.take n) i a k=qA l i a k:=fun k=> zBt hin a k
 have hln:(l.take n).length=n:=by rw[List.length_take];omega
 have hone:zA6 [.int .u8 k,.int .i64 a,.int .i64 t,.int .u64 v]=some [⟨k,a,t,v⟩]:=rfl
 have hdl:(jY l i a).length<=1000:=by have:(jY l i a).length<=5:=hgo.1.2.1;omega
 subst kk
 by_cases ht:t=0
 ·subst ht
  by_cases h0:v=0
  ·subst h0
   cases h7:qA l i a 7<;> by_cases ga:(zAn (jY l i a) ⟨4,a,0,0⟩).1=0<;> (
    simp -implicitDefEqProofs [xH,zAi,zA9,zAb,zZ,zBo,zBs,zA2,asU,hone,hst,hln,hi,hi',hil,hin,hs,hsi,hn,hroom,hmany,hr,hr2,hxv,hgo,hdl,hb,h7,h8,h9,ga]
    refine⟨hv,?_⟩
    refine zA [] [0] ?_ ?_ ?_<;> simp[xN,jW,hr,hr2,hb,hb,h7,h8,h9,ga])
  ·cases h7:qA l i a 7<;> by_cases ga:(zAn (jY l i a) ⟨4,a,0,v⟩).1=0<;> (
   simp -implicitDefEqProofs [xH,zAi,zA9,zAb,zZ,zBo,zBs,zA2,asU,hone,hst,hln,hi,hi',hil,hin,hs,hsi,hn,hroom,hmany,hr,hr2,hxv,hgo,hdl,h0,hb,h7,h8,h9,ga]
   refine⟨hv,?_⟩
   refine zA [] [0] ?_ ?_ ?_<;> simp[xN,jW,hr,hr2,hb,h0,hb,h7,h8,h9,ga])
 ·cases h7:qA l i a 7<;> by_cases ga:(zAn (jY l i a) ⟨4,a,t,v⟩).1=0<;> (
  simp -implicitDefEqProofs [xH,zAi,zA9,zAb,zZ,zBo,zBs,zA2,asU,hone,hst,hln,hi,hi',hil,hin,hs,hsi,hn,hroom,hmany,hr,hr2,hxv,hgo,hdl,ht,hb,h7,h8,h9,ga]
  refine⟨hv,?_⟩
  refine zA [] [0] ?_ ?_ ?_<;> simp[xN,jW,hr,hr2,hb,ht,hb,h7,h8,h9,ga])
theorem qXq (l:List Ev) (n c i:Nat) (k a t v:Int) (hn:n<=l.length) (hi:i<n) (hs:i<=1000) (hx:l[i]?=some ⟨k,a,t,v⟩) (hv:∀x∈l,0<=x.v/\x.v<18446744073709551616) (hr:¬a<0) (hr2:¬64<=a) (hb:qA l i a 1=true) (h8:qA l i a 8=false) (h9:qA l i a 9=false) (kk:k=5):zD Tryz.prog cfg 179 [.slice (some ⟨0,0,none⟩) n c,.int .i64 i] (AH.of [some (.ro (evs l))])
  fun r H'=> r=.ret (.bool (xN l i ⟨k,a,t,v⟩))/\H'=AH.of [some (.ro (evs l))]:=by
 refine zD.ends ?_
 refine zP (tbl:=xH) zDv 0 0 (af:=a179) rfl ?_
 rw[a179,b179,zW]
 refine⟨by simp,?_⟩
 have hi':(i:Int)<n:=by omega
 have hsi:(i:Int)<=1000:=by omega
 have hil:i<=l.length:=by omega
 have hin:i<=n:=by omega
 have hroom:=zB0 (show i<l.length by omega)
 have hmany:((evs l).drop (i*4)).take 4=[.int .u8 k,.int .i64 a,.int .i64 t,.int .u64 v]:=zCz hx
 have hxv:0<=v/\v<18446744073709551616:=hv _ (List.mem_of_getElem? hx)
 have hgo:=zC6 l i a
 have hst:∀k,qA (l.take n) i a k=qA l i a k:=fun k=> zBt hin a k
 have hln:(l.take n).length=n:=by rw[List.length_take];omega
 have hone:zA6 [.int .u8 k,.int .i64 a,.int .i64 t,.int .u64 v]=some [⟨k,a,t,v⟩]:=rfl
 have hdl:(jY l i a).length<=1000:=by have:(jY l i a).length<=5:=hgo.1.2.1;omega
 subst kk
 by_cases ht:t=0
 ·subst ht
  by_cases h0:v=0
  ·subst h0
   cases h7:qA l i a 7<;> by_cases ga:(zAn (jY l i a) ⟨5,a,0,0⟩).1=0<;> (
    simp -implicitDefEqProofs [xH,zAi,zA9,zAb,zZ,zBo,zBs,zA2,asU,hone,hst,hln,hi,hi',hil,hin,hs,hsi,hn,hroom,hmany,hr,hr2,hxv,hgo,hdl,hb,h7,h8,h9,ga]
    refine⟨hv,?_⟩
    refine zA [] [0] ?_ ?_ ?_<;> simp[xN,jW,hr,hr2,hb,hb,h7,h8,h9,ga])
  ·cases h7:qA l i a 7<;> by_cases ga:(zAn (jY l i a) ⟨5,a,0,v⟩).1=0<;> (
   simp -implicitDefEqProofs [xH,zAi,zA9,zAb,zZ,zBo,zBs,zA2,asU,hone,hst,hln,hi,hi',hil,hin,hs,hsi,hn,hroom,hmany,hr,hr2,hxv,hgo,hdl,h0,hb,h7,h8,h9,ga]
   refine⟨hv,?_⟩
   refine zA [] [0] ?_ ?_ ?_<;> simp[xN,jW,hr,hr2,hb,h0,hb,h7,h8,h9,ga])
 ·cases h7:qA l i a 7<;> by_cases ga:(zAn (jY l i a) ⟨5,a,t,v⟩).1=0<;> (
  simp -implicitDefEqProofs [xH,zAi,zA9,zAb,zZ,zBo,zBs,zA2,asU,hone,hst,hln,hi,hi',hil,hin,hs,hsi,hn,hroom,hmany,hr,hr2,hxv,hgo,hdl,ht,hb,h7,h8,h9,ga]
  refine⟨hv,?_⟩
  refine zA [] [0] ?_ ?_ ?_<;> simp[xN,jW,hr,hr2,hb,ht,hb,h7,h8,h9,ga])
theorem qXp (l:List Ev) (n c i:Nat) (k a t v:Int) (hn:n<=l.length) (hi:i<n) (hs:i<=1000) (hx:l[i]?=some ⟨k,a,t,v⟩) (hv:∀x∈l,0<=x.v/\x.v<18446744073709551616) (hr:¬a<0) (hr2:¬64<=a) (hb:qA l i a 1=true) (h8:qA l i a 8=false) (h9:qA l i a 9=false) (kk:k=6):zD Tryz.prog cfg 179 [.slice (some ⟨0,0,none⟩) n c,.int .i64 i] (AH.of [some (.ro (evs l))])
  fun r H'=> r=.ret (.bool (xN l i ⟨k,a,t,v⟩))/\H'=AH.of [some (.ro (evs l))]:=by
 refine zD.ends ?_
 refine zP (tbl:=xH) zDv 0 0 (af:=a179) rfl ?_
 rw[a179,b179,zW]
 refine⟨by simp,?_⟩
 have hi':(i:Int)<n:=by omega
 have hsi:(i:Int)<=1000:=by omega
 have hil:i<=l.length:=by omega
 have hin:i<=n:=by omega
 have hroom:=zB0 (show i<l.length by omega)
 have hmany:((evs l).drop (i*4)).take 4=[.int .u8 k,.int .i64 a,.int .i64 t,.int .u64 v]:=zCz hx
 have hxv:0<=v/\v<18446744073709551616:=hv _ (List.mem_of_getElem? hx)
 have hgo:=zC6 l i a
 have hst:∀k,qA (l.take n) i a k=qA l i a k:=fun k=> zBt hin a k
 have hln:(l.take n).length=n:=by rw[List.length_take];omega
 have hone:zA6 [.int .u8 k,.int .i64 a,.int .i64 t,.int .u64 v]=some [⟨k,a,t,v⟩]:=rfl
 have hdl:(jY l i a).length<=1000:=by have:(jY l i a).length<=5:=hgo.1.2.1;omega
 subst kk
 by_cases ht:t=0
 ·subst ht
  by_cases h0:v=0
  ·subst h0
   cases h7:qA l i a 7<;> by_cases ga:(zAn (jY l i a) ⟨6,a,0,0⟩).1=0<;> (
    simp -implicitDefEqProofs [xH,zAi,zA9,zAb,zZ,zBo,zBs,zA2,asU,hone,hst,hln,hi,hi',hil,hin,hs,hsi,hn,hroom,hmany,hr,hr2,hxv,hgo,hdl,hb,h7,h8,h9,ga]
    refine⟨hv,?_⟩
    refine zA [] [0] ?_ ?_ ?_<;> simp[xN,jW,hr,hr2,hb,hb,h7,h8,h9,ga])
  ·cases h7:qA l i a 7<;> by_cases ga:(zAn (jY l i a) ⟨6,a,0,v⟩).1=0<;> (
   simp -implicitDefEqProofs [xH,zAi,zA9,zAb,zZ,zBo,zBs,zA2,asU,hone,hst,hln,hi,hi',hil,hin,hs,hsi,hn,hroom,hmany,hr,hr2,hxv,hgo,hdl,h0,hb,h7,h8,h9,ga]
   refine⟨hv,?_⟩
   refine zA [] [0] ?_ ?_ ?_<;> simp[xN,jW,hr,hr2,hb,h0,hb,h7,h8,h9,ga])
 ·cases h7:qA l i a 7<;> by_cases ga:(zAn (jY l i a) ⟨6,a,t,v⟩).1=0<;> (
  simp -implicitDefEqProofs [xH,zAi,zA9,zAb,zZ,zBo,zBs,zA2,asU,hone,hst,hln,hi,hi',hil,hin,hs,hsi,hn,hroom,hmany,hr,hr2,hxv,hgo,hdl,ht,hb,h7,h8,h9,ga]
  refine⟨hv,?_⟩
  refine zA [] [0] ?_ ?_ ?_<;> simp[xN,jW,hr,hr2,hb,ht,hb,h7,h8,h9,ga])
theorem qXo (l:List Ev) (n c i:Nat) (k a t v:Int) (hn:n<=l.length) (hi:i<n) (hs:i<=1000) (hx:l[i]?=some ⟨k,a,t,v⟩) (hv:∀x∈l,0<=x.v/\x.v<18446744073709551616) (hr:¬a<0) (hr2:¬64<=a) (hb:qA l i a 1=true) (h8:qA l i a 8=false) (h9:qA l i a 9=false) (kk:k=7):zD Tryz.prog cfg 179 [.slice (some ⟨0,0,none⟩) n c,.int .i64 i] (AH.of [some (.ro (evs l))])
  fun r H'=> r=.ret (.bool (xN l i ⟨k,a,t,v⟩))/\H'=AH.of [some (.ro (evs l))]:=by
 refine zD.ends ?_
 refine zP (tbl:=xH) zDv 0 0 (af:=a179) rfl ?_
 rw[a179,b179,zW]
 refine⟨by simp,?_⟩
 have hi':(i:Int)<n:=by omega
 have hsi:(i:Int)<=1000:=by omega
 have hil:i<=l.length:=by omega
 have hin:i<=n:=by omega
 have hroom:=zB0 (show i<l.length by omega)
 have hmany:((evs l).drop (i*4)).take 4=[.int .u8 k,.int .i64 a,.int .i64 t,.int .u64 v]:=zCz hx
 have hxv:0<=v/\v<18446744073709551616:=hv _ (List.mem_of_getElem? hx)
 have hgo:=zC6 l i a
 have hst:∀k,qA (l.take n) i a k=qA l i a k:=fun k=> zBt hin a k
 have hln:(l.take n).length=n:=by rw[List.length_take];omega
 have hone:zA6 [.int .u8 k,.int .i64 a,.int .i64 t,.int .u64 v]=some [⟨k,a,t,v⟩]:=rfl
 have hdl:(jY l i a).length<=1000:=by have:(jY l i a).length<=5:=hgo.1.2.1;omega
 subst kk
 by_cases ht:t=0
 ·subst ht
  by_cases h0:v=0
  ·subst h0
   cases h7:qA l i a 7<;> by_cases gd:(jY l i a).length=1<;> (
    have gd':((jY l i a).length:Int) - 1=0↔(jY l i a).length=1:=by omega
    simp -implicitDefEqProofs [xH,zAi,zA9,zAb,zZ,zBo,zBs,zA2,asU,hone,hst,hln,hi,hi',hil,hin,hs,hsi,hn,hroom,hmany,hr,hr2,hxv,hgo,hdl,hb,h7,h8,h9,gd,gd']
    refine⟨hv,?_⟩
    refine zA [] [0] ?_ ?_ ?_<;> simp[xN,jW,hr,hr2,hb,hb,h7,h8,h9,gd,gd'])
  ·cases h7:qA l i a 7<;> by_cases gd:(jY l i a).length=1<;> (
   have gd':((jY l i a).length:Int) - 1=0↔(jY l i a).length=1:=by omega
   simp -implicitDefEqProofs [xH,zAi,zA9,zAb,zZ,zBo,zBs,zA2,asU,hone,hst,hln,hi,hi',hil,hin,hs,hsi,hn,hroom,hmany,hr,hr2,hxv,hgo,hdl,h0,hb,h7,h8,h9,gd,gd']
   refine⟨hv,?_⟩
   refine zA [] [0] ?_ ?_ ?_<;> simp[xN,jW,hr,hr2,hb,h0,hb,h7,h8,h9,gd,gd'])
 ·cases h7:qA l i a 7<;> by_cases gd:(jY l i a).length=1<;> (
  have gd':((jY l i a).length:Int) - 1=0↔(jY l i a).length=1:=by omega
  simp -implicitDefEqProofs [xH,zAi,zA9,zAb,zZ,zBo,zBs,zA2,asU,hone,hst,hln,hi,hi',hil,hin,hs,hsi,hn,hroom,hmany,hr,hr2,hxv,hgo,hdl,ht,hb,h7,h8,h9,gd,gd']
  refine⟨hv,?_⟩
  refine zA [] [0] ?_ ?_ ?_<;> simp[xN,jW,hr,hr2,hb,ht,hb,h7,h8,h9,gd,gd'])
theorem qIw (l:List Ev) (n c i:Nat) (k a t v:Int) (hn:n<=l.length) (hi:i<n) (hs:i<=1000) (hx:l[i]?=some ⟨k,a,t,v⟩) (hv:∀x∈l,0<=x.v/\x.v<18446744073709551616) (hr:¬a<0) (hr2:¬64<=a) (hb:qA l i a 1=true) (h8:qA l i a 8=false) (h9:qA l i a 9=false) (hk:¬k=1/\¬k=2/\¬k=3/\¬k=4/\¬k=5/\¬k=6/\¬k=7/\¬k=8/\¬k=9):zD Tryz.prog cfg 179 [.slice (some ⟨0,0,none⟩) n c,.int .i64 i] (AH.of [some (.ro (evs l))])
  fun r H'=> r=.ret (.bool (xN l i ⟨k,a,t,v⟩))/\H'=AH.of [some (.ro (evs l))]:=by
 refine zD.ends ?_
 refine zP (tbl:=xH) zDv 0 0 (af:=a179) rfl ?_
 rw[a179,b179,zW]
 refine⟨by simp,?_⟩
 have hi':(i:Int)<n:=by omega
 have hsi:(i:Int)<=1000:=by omega
 have hil:i<=l.length:=by omega
 have hin:i<=n:=by omega
 have hroom:=zB0 (show i<l.length by omega)
 have hmany:((evs l).drop (i*4)).take 4=[.int .u8 k,.int .i64 a,.int .i64 t,.int .u64 v]:=zCz hx
 have hxv:0<=v/\v<18446744073709551616:=hv _ (List.mem_of_getElem? hx)
 have hgo:=zC6 l i a
 have hst:∀k,qA (l.take n) i a k=qA l i a k:=fun k=> zBt hin a k
 have hln:(l.take n).length=n:=by rw[List.length_take];omega
 have hone:zA6 [.int .u8 k,.int .i64 a,.int .i64 t,.int .u64 v]=some [⟨k,a,t,v⟩]:=rfl
 have hdl:(jY l i a).length<=1000:=by have:(jY l i a).length<=5:=hgo.1.2.1;omega
 obtain⟨q1,q2,q3,q4,q5,q6,q7,q8,q9⟩:=hk
 by_cases ht:t=0
 ·subst ht
  by_cases h0:v=0
  ·subst h0
   cases h7:qA l i a 7<;> (
    simp -implicitDefEqProofs [xH,zAi,zA9,zAb,zZ,zBo,zBs,zA2,asU,hone,hst,hln,hi,hi',hil,hin,hs,hsi,hn,hroom,hmany,hr,hr2,hxv,hgo,hdl,hb,h7,h8,h9,q1,q2,q3,q4,q5,q6,q7,q8,q9]
    refine⟨hv,?_⟩
    refine zA [] [0] ?_ ?_ ?_<;> simp[xN,jW,hr,hr2,hb,hb,h7,h8,h9,q1,q2,q3,q4,q5,q6,q7,q8,q9])
  ·cases h7:qA l i a 7<;> (
   simp -implicitDefEqProofs [xH,zAi,zA9,zAb,zZ,zBo,zBs,zA2,asU,hone,hst,hln,hi,hi',hil,hin,hs,hsi,hn,hroom,hmany,hr,hr2,hxv,hgo,hdl,h0,hb,h7,h8,h9,q1,q2,q3,q4,q5,q6,q7,q8,q9]
   refine⟨hv,?_⟩
   refine zA [] [0] ?_ ?_ ?_<;> simp[xN,jW,hr,hr2,hb,h0,hb,h7,h8,h9,q1,q2,q3,q4,q5,q6,q7,q8,q9])
 ·cases h7:qA l i a 7<;> (
  simp -implicitDefEqProofs [xH,zAi,zA9,zAb,zZ,zBo,zBs,zA2,asU,hone,hst,hln,hi,hi',hil,hin,hs,hsi,hn,hroom,hmany,hr,hr2,hxv,hgo,hdl,ht,hb,h7,h8,h9,q1,q2,q3,q4,q5,q6,q7,q8,q9]
  refine⟨hv,?_⟩
  refine zA [] [0] ?_ ?_ ?_<;> simp[xN,jW,hr,hr2,hb,ht,hb,h7,h8,h9,q1,q2,q3,q4,q5,q6,q7,q8,q9])
theorem qS0 (l:List Ev) (n c i:Nat) (x:Ev) (hn:n<=l.length) (hi:i<n) (hs:i<=1000) (hx:l[i]?=some x) (hv:∀x∈l,0<=x.v/\x.v<18446744073709551616):zD Tryz.prog cfg 179 [.slice (some ⟨0,0,none⟩) n c,.int .i64 i] (AH.of [some (.ro (evs l))])
  fun r H'=> r=.ret (.bool (xN l i x))/\H'=AH.of [some (.ro (evs l))]:=by
 obtain⟨k,a,t,v⟩:=x
 by_cases hr:a<0∨64<=a
 ·exact qN4 l n c i k a t v hn hi hs hx hv hr
 have hr1:¬a<0:=by omega
 have hr2:¬64<=a:=by omega
 cases hb:qA l i a 1 with
 |false=> exact qUv l n c i k a t v hn hi hs hx hv hr1 hr2 hb
 |true=>
  by_cases k1:k=1
  ·exact qEt l n c i k a t v hn hi hs hx hv hr1 hr2 hb k1
  by_cases he:qA l i a 8=true∨qA l i a 9=true
  ·exact qEu l n c i k a t v hn hi hs hx hv hr1 hr2 hb k1 he
  have h8:qA l i a 8=false:=by
   cases h:qA l i a 8 with
   |false=> rfl
   |true=> exact absurd (.inl h) he
  have h9:qA l i a 9=false:=by
   cases h:qA l i a 9 with
   |false=> rfl
   |true=> exact absurd (.inr h) he
  by_cases k2:k=2
  ·exact qXt l n c i k a t v hn hi hs hx hv hr1 hr2 hb h8 h9 k2
  by_cases k3:k=3
  ·exact qXs l n c i k a t v hn hi hs hx hv hr1 hr2 hb h8 h9 k3
  by_cases k4:k=4
  ·exact qXr l n c i k a t v hn hi hs hx hv hr1 hr2 hb h8 h9 k4
  by_cases k5:k=5
  ·exact qXq l n c i k a t v hn hi hs hx hv hr1 hr2 hb h8 h9 k5
  by_cases k6:k=6
  ·exact qXp l n c i k a t v hn hi hs hx hv hr1 hr2 hb h8 h9 k6
  by_cases k7:k=7
  ·exact qXo l n c i k a t v hn hi hs hx hv hr1 hr2 hb h8 h9 k7
  by_cases k8:k=8
  ·exact qXn l n c i k a t v hn hi hs hx hv hr1 hr2 hb h8 h9 k8
  by_cases k9:k=9
  ·exact qXm l n c i k a t v hn hi hs hx hv hr1 hr2 hb h8 h9 k9
  exact qIw l n c i k a t v hn hi hs hx hv hr1 hr2 hb h8 h9 ⟨k1,k2,k3,k4,k5,k6,k7,k8,k9⟩
end YtapbabkndhaemaaGreat
end Go.Proofs
/-
 TRACE:Merge.
-/
namespace Go.Proofs
namespace YtapbabkndhaemaaGreat
open Go.Abs
section
variable (l m:List Ev) (n1 n2 c1 c2:Nat) (h1:n1<=l.length) (h2:n2<=m.length) (s1:n1<=1000) (s2:n2<=1000) (v1:∀x∈l.take n1,0<=x.v/\x.v<18446744073709551616) (v2:∀x∈m.take n2,0<=x.v/\x.v<18446744073709551616)
include h1 h2 s1 s2 v1 v2
end
end YtapbabkndhaemaaGreat
end Go.Proofs
/-
 The document's history:Right;its trace:above.
-/
namespace Go.Proofs
namespace YtapbabkndhaemaaGreat
open Go.Abs
theorem qCs (l:List Ev) {n j:Nat} (x:Ev) (h:j<=n):xN (l.take n) j x=xN l j x:=by
 have h1:∀a k,qA (l.take n) j a k=qA l j a k:=fun a k=> zBt h a k
 have h2:∀a,jY (l.take n) j a=jY l j a:=fun a=> by unfold jY;rw[List.take_take,Nat.min_eq_left h]
 unfold xN
 simp only[h1,h2]
def zRu:qH GD:=fun args H=> match args with
 |[.slice (some ⟨k,0,none⟩) n _,.int .i64 i]=> match H.get k with
  |some (.ro cs)=> (zA6 cs).bind fun l=> (l[i.toNat]?).map fun x=> (n<=l.length/\0<=i/\i<n/\i<=1000/\∀x∈l,0<=x.v/\x.v<18446744073709551616,.ret (.bool (xN l i.toNat x)),H)
  |_=> none
 |_=> none
theorem qLn:zY Tryz.prog cfg 179 zRu:=by
 intro args H p r H' h hp
 unfold zRu at h
 split at h
 case h_2=> cases h
 split at h
 case h_2=> cases h
 simp only[Option.bind_eq_some_iff,Option.map_eq_some_iff] at h
 obtain⟨l,hl,x,hx,h⟩:=h
 rename_i k n c i x1 cs hk
 cases h
 rw[zBu hl] at hk
 obtain⟨j,rfl⟩:∃j:Nat,i=j:=⟨i.toNat,by omega⟩
 rw[Int.toNat_natCast] at hx⊢
 exact (qS0 l n c j x hp.1 (by omega) (by omega) hx hp.2.2.2.2).atK (zCj fun i cs hi=> by rcases i with _|_|i<;> simp at hi⊢;exact hi) [k] (by simp) (by simp) (by simp[hk]) (by simp) (by simp) (by simp[qO hk])
def zRh:List (FuncId × qH GD):=[(179,zRu)]
theorem zWs:∀x∈zRh,zY Tryz.prog cfg x.1 x.2:=by simp[zRh,qLn]
theorem qTj (l:List Ev) (n c:Nat) (hn:n<=l.length) (hs:n<=1000) (hv:∀x∈l,0<=x.v/\x.v<18446744073709551616):zD Tryz.prog cfg 117 [.slice (some ⟨0,0,none⟩) n c] (AH.of [some (.ro (evs l))])
  fun r H'=> r=.ret (.bool (zE6 (l.take n)))/\H'=AH.of [some (.ro (evs l))]:=by
 have hln:(l.take n).length=n:=by rw[List.length_take];omega
 refine zP (tbl:=zRh) zWs 1001 0 (af:=a117) rfl ?_
 rw[a117,b117,zW]
 refine⟨by simp,?_⟩
 by_cases h4:400<n
 ·have h4':(400:Int)<n:=by omega
  have hf:zE6 (l.take n)=false:=by
   cases h:zE6 (l.take n) with
   |false=> rfl
   |true=> have:=((zN0 _).1 h).1;omega
  simp -implicitDefEqProofs [h4',hf]
 ·have h4':¬(400:Int)<n:=by omega
  simp -implicitDefEqProofs [h4']
  refine jH (qR jG (qS zWs) _ _ noY qM) (fun m tm H=> ∃i:Nat,m+i=n/\(∀j x,j<i->l[j]?=some x->xN l j x=true)/\tm 0=.slice (some ⟨0,0,none⟩) n c/\tm 3=.int .i64 i/\H=AH.of [some (.ro (evs l))]) (m:=n) ⟨0,by simp⟩ (by omega) ?_
  rintro m tm H ⟨i,hm,hall,t0,t3,rfl⟩
  by_cases hi:i<n
  ·obtain⟨x,hx⟩:=zAs (l:=l) (i:=i) (by omega)
   have hi':(i:Int)<n:=by omega
   have hsi:(i:Int)<=1000:=by omega
   have hwr:=jV hi (by omega)
   cases hf:xN l i x with
   |false=>
    have hno:zE6 (l.take n)=false:=by
     cases h:zE6 (l.take n) with
     |false=> rfl
     |true=>
      have:=((zN0 _).1 h).2 i x (by rw[List.getElem?_take,if_pos hi,hx])
      rw[qCs l x (by omega),hf] at this
      cases this
    simp -implicitDefEqProofs [zRh,zRu,hx,t0,t3,hi',hsi,hn,hf,hno]
    exact hv
   |true=>
    simp -implicitDefEqProofs [zRh,zRu,hx,t0,t3,hi',hsi,hn,hf,hwr]
    refine⟨hv,m - 1,by omega,i+1,by omega,fun j y hj hy=> ?_,by simp[t0]⟩
    by_cases e:j=i
    ·subst e;rw[hx] at hy;cases hy;exact hf
    ·exact hall j y (by omega) hy
  ·have hie:i=n:=by omega
   subst hie
   have hyes:zE6 (l.take i)=true:=by
    refine (zN0 _).2 ⟨by omega,fun j x hx=> ?_⟩
    have hj:j<i:=by
     have:=(List.getElem?_eq_some_iff.1 hx).1
     omega
    rw[List.getElem?_take,if_pos hj] at hx
    rw[qCs l x (by omega)]
    exact hall j x hj hx
   simp -implicitDefEqProofs [t0,t3,hyes]
def zRx:qH GD:=fun args H=> match args with
 |[.slice (some ⟨k,0,none⟩) n _]=> match H.get k with
  |some (.ro cs)=> (zA6 cs).map fun l=> (n<=l.length/\n<=1000/\∀x∈l,0<=x.v/\x.v<18446744073709551616,.ret (.bool (zE6 (l.take n))),H)
  |_=> none
 |_=> none
theorem qL2:zY Tryz.prog cfg 117 zRx:=by
 intro args H p r H' h hp
 unfold zRx at h
 split at h
 case h_2=> cases h
 split at h
 case h_2=> cases h
 simp only[Option.map_eq_some_iff] at h
 obtain⟨l,hl,h⟩:=h
 rename_i k n c x1 cs hk
 cases h
 rw[zBu hl] at hk
 exact (qTj l n c hp.1 hp.2.1 hp.2.2).atK (zCj fun i cs hi=> by rcases i with _|_|i<;> simp at hi⊢;exact hi) [k] (by simp) (by simp) (by simp[hk]) (by simp) (by simp) (by simp[qO hk])
end YtapbabkndhaemaaGreat
end Go.Proofs
/-
 The document's history:Attempts,StateOf,Before.
-/
namespace Go.Proofs
namespace YtapbabkndhaemaaGreat
open Go.Abs
theorem qX0 {k:Nat} (h:k<=1000):(k+1)*8<=140737488355328/\k<=9223372036854775806:=by omega
def zJa:List (FuncId × qH GD):=[(119,zAi zA9)]
theorem zIs:∀x∈zJa,zY Tryz.prog cfg x.1 x.2:=by simp[zJa,zXl]
theorem zT1 {l:List Ev} {i:Nat} {x:Ev} (h:l[i]?=some x):zCw (l.take (i+1))=if x.k=1/\qA l i x.a 1=false then zCw (l.take i)++[x.a] else zCw (l.take i):=by
 rw[←qOu,zH1 h]
 unfold zCw
 rw[List.foldl_append];rfl
theorem qV4 (l:List Ev) (n c:Nat) (hn:n<=l.length) (hs:n<=1000):zD Tryz.prog cfg 60 [.slice (some ⟨0,0,none⟩) n c] (AH.of [some (.ro (evs l))])
  fun r H'=> r=.ret (.slice (some ⟨1,0,none⟩) (zCw (l.take n)).length 1)/\H'=AH.of [some (.ro (evs l)),some (.arr 3 (qI (zCw (l.take n))))]:=by
 refine zD.ends ?_
 have hln:(l.take n).length=n:=by rw[List.length_take];omega
 refine zP (tbl:=zJa) zIs 1001 0 (af:=a60) rfl ?_
 rw[a60,b60,zW]
 refine⟨by simp,?_⟩
 simp -implicitDefEqProofs
 refine zA3 (qR jG (qS zIs) _ _ noY qM) (fun m tm H=> ∃i:Nat,m+i=n/\tm 0=.slice (some ⟨0,0,none⟩) n c/\tm 4=.int .i64 i/\tm 3=.slice (some ⟨1,0,none⟩) (zCw (l.take i)).length 1/\H=AH.of [some (.ro (evs l)),some (.arr 3 (qI (zCw (l.take i))))]) (m:=n) ?_ (by omega) ?_
 ·refine zF4 [.nil 3] [0,1] [some (.ro (evs l)),some (.arr 3 (qI []))] [(3,.slice (some ⟨1,0,none⟩) 0 1)] n (by omega) ?_ ?_ ?_ ⟨0,?_⟩<;> simp[zCw,show qI []=[] from rfl]
 rintro m tm H ⟨i,hm,t0,t4,t3,rfl⟩
 by_cases hi:i<n
 ·obtain⟨x,hx⟩:=zAs (l:=l) (i:=i) (by omega)
  have hi':(i:Int)<n:=by omega
  have hin:i<=n:=by omega
  have hsi:(i:Int)<=1000:=by omega
  have hwr:=jV hi (by omega)
  have hsuc:=zT1 hx
  have hst:∀k,qA (l.take n) i x.a k=qA l i x.a k:=fun k=> zBt hin x.a k
  have hroom:=zB0 (show i<l.length by omega)
  have hat:=zLe hx
  have hle:=zT2 (l.take i)
  rw[List.length_take] at hle
  generalize zCw (l.take i)=out at*
  have hr3:=qX0 (k:=out.length) (by omega)
  have htk:=zJp out
  by_cases hk:x.k=1
  ·cases hsn:qA l i x.a 1 with
   |false=>
    rw[if_pos ⟨hk,hsn⟩] at hsuc
    simp -implicitDefEqProofs [zJa,zAi,zA9,hst,hln,hn,hsi,hin,t0,t4,t3,hi,hi',hwr,hroom,hat,hk,hsn,hr3,htk]
    refine qD [] [0,3] [some (.ro (evs l)),some (.arr 3 (qI (out++[x.a])))] (m - 1) (by omega) ?_ ?_ ⟨i+1,by omega,?_,?_,?_,?_⟩<;> simp[t0,t4,hsuc,zEl,zEk]
   |true=>
    rw[if_neg (by rintro⟨_,h⟩;rw[hsn] at h;cases h)] at hsuc
    simp -implicitDefEqProofs [zJa,zAi,zA9,hst,hln,hn,hsi,hin,t0,t4,t3,hi,hi',hwr,hroom,hat,hk,hsn]
    refine qD [] [0,1] [some (.ro (evs l)),some (.arr 3 (qI out))] (m - 1) (by omega) ?_ ?_ ⟨i+1,by omega,?_,?_,?_,?_⟩<;> simp[t0,t3,t4,hsuc]
  ·rw[if_neg (by rintro⟨h,_⟩;exact hk h)] at hsuc
   simp -implicitDefEqProofs [t0,t4,t3,hi,hi',hwr,hroom,hat,hk]
   refine qD [] [0,1] [some (.ro (evs l)),some (.arr 3 (qI out))] (m - 1) (by omega) ?_ ?_ ⟨i+1,by omega,?_,?_,?_,?_⟩<;> simp[t0,t3,t4,hsuc]
 ·have hie:i=n:=by omega
  subst hie
  simp -implicitDefEqProofs [t0,t4,t3]
  refine zA [] [0,1] ?_ ?_ ?_<;> simp
def r60:zZ1
 |l,[]=> some (l.length<=1000,(zCw l).length,3,qI (zCw l))
 |_,_=> none
theorem qRh:zY Tryz.prog cfg 60 (zX1 r60):=rn_ok fun l n c rest p m t cs hn h hp=> by
 unfold r60 at h
 split at h
 ·cases h
  rw[List.length_take] at hp
  exact⟨rfl,zJh _,qV4 l n c hn (by omega)⟩
 ·cases h
theorem qRd {l:List Ev} {i:Nat} {x:Ev} (h:l[i]?=some x) (a:Int):(xO (l.take (i+1)) a).foldl stG 1=if x.a=a then stG ((xO (l.take i) a).foldl stG 1) x else (xO (l.take i) a).foldl stG 1:=by
 rw[zZf h]
 split
 ·rw[List.foldl_append];rfl
 ·rfl
theorem qTi (l:List Ev) (n c:Nat) (a:Int) (hn:n<=l.length) (hs:n<=1000):zD Tryz.prog cfg 118 [.slice (some ⟨0,0,none⟩) n c,.int .i64 a] (AH.of [some (.ro (evs l))])
  fun r H'=> r=.ret (.int .u8 (zAp (l.take n) a))/\H'=AH.of [some (.ro (evs l))]:=by
 have hln:(l.take n).length=n:=by rw[List.length_take];omega
 have hst:qA (l.take n) n a 1=qA l n a 1:=zBt (Nat.le_refl n) a 1
 have hsn:(n:Int)<=1000:=by omega
 rw[qGq,hln,hst]
 refine zP (tbl:=zJa) zIs 1001 0 (af:=a118) rfl ?_
 rw[a118,b118,zW]
 refine⟨by simp,?_⟩
 cases hb:qA l n a 1 with
 |false=> simp -implicitDefEqProofs [zJa,zAi,zA9,hst,hln,hn,hsn,hb]
 |true=>
  simp -implicitDefEqProofs [zJa,zAi,zA9,hst,hln,hn,hsn,hb]
  refine jH (qR jG (qS zIs) _ _ noY qM) (fun m tm H=> ∃i:Nat,m+i=n/\tm 0=.slice (some ⟨0,0,none⟩) n c/\tm 1=.int .i64 a/\tm 6=.int .i64 i/\tm 5=.int .u8 ((xO (l.take i) a).foldl stG 1)/\H=AH.of [some (.ro (evs l))]) (m:=n) ⟨0,by simp[xO]⟩ (by omega) ?_
  rintro m tm H ⟨i,hm,t0,t1,t6,t5,rfl⟩
  by_cases hi:i<n
  ·obtain⟨x,hx⟩:=zAs (l:=l) (i:=i) (by omega)
   have hi':(i:Int)<n:=by omega
   have hwr:=jV hi (by omega)
   have hsuc:=qRd hx a
   have hroom:=zB0 (show i<l.length by omega)
   have hat:=zLe hx
   generalize (xO (l.take i) a).foldl stG 1=q at*
   by_cases ha:x.a=a
   ·rw[if_pos ha] at hsuc
    by_cases k7:x.k=7
    ·simp -implicitDefEqProofs [t0,t1,t6,t5,hi,hi',hwr,hroom,hat,ha,k7]
     exact⟨m - 1,by omega,i+1,by omega,by simp[t0,t1,hsuc,stG,k7]⟩
    by_cases k8:x.k=8
    ·simp -implicitDefEqProofs [t0,t1,t6,t5,hi,hi',hwr,hroom,hat,ha,k8]
     exact⟨m - 1,by omega,i+1,by omega,by simp[t0,t1,hsuc,stG,k8]⟩
    by_cases k9:x.k=9
    ·simp -implicitDefEqProofs [t0,t1,t6,t5,hi,hi',hwr,hroom,hat,ha,k9]
     exact⟨m - 1,by omega,i+1,by omega,by simp[t0,t1,hsuc,stG,k9]⟩
    simp -implicitDefEqProofs [t0,t1,t6,t5,hi,hi',hwr,hroom,hat,ha,k7,k8,k9]
    exact⟨m - 1,by omega,i+1,by omega,by simp[t0,t1,t5,hsuc,stG,k7,k8,k9]⟩
   ·rw[if_neg ha] at hsuc
    simp -implicitDefEqProofs [t0,t1,t6,t5,hi,hi',hwr,hroom,hat,ha]
    exact⟨m - 1,by omega,i+1,by omega,by simp[t0,t1,t5,hsuc]⟩
  ·have hie:i=n:=by omega
   subst hie
   simp -implicitDefEqProofs [t0,t1,t6,t5]
def zN5:zSw
 |l,[.int .i64 a]=> some (l.length<=1000,.int .u8 (zAp l a))
 |_,_=> none
theorem zXm:zY Tryz.prog cfg 118 (zAi zN5):=qD1 fun l n c rest p v hn h hp=> by
 unfold zN5 at h
 split at h
 ·cases h
  rw[List.length_take] at hp
  exact⟨rfl,rfl,qTi l n c _ hn (by omega)⟩
 ·cases h
theorem qTg (l:List Ev) (n c:Nat) (a b:Int) (hn:n<=l.length) (hs:n<=1000):zD Tryz.prog cfg 120 [.slice (some ⟨0,0,none⟩) n c,.int .i64 a,.int .i64 b] (AH.of [some (.ro (evs l))])
  fun r H'=> r=.ret (.bool (zCu (l.take n) a b))/\H'=AH.of [some (.ro (evs l))]:=by
 have hln:(l.take n).length=n:=by rw[List.length_take];omega
 refine zP (tbl:=zJa) zIs 1001 0 (af:=a120) rfl ?_
 rw[a120,b120,zW]
 refine⟨by simp,?_⟩
 simp -implicitDefEqProofs
 refine jH (qR jG (qS zIs) _ _ noY qM) (fun m tm H=> ∃i:Nat,m+i=n/\(∀j x,j<i->(l.take n)[j]?=some x->¬(x.a=b/\x.k=1))/\tm 0=.slice (some ⟨0,0,none⟩) n c/\tm 1=.int .i64 a/\tm 2=.int .i64 b/\tm 7=.int .i64 i/\H=AH.of [some (.ro (evs l))]) (m:=n) ⟨0,by simp⟩ (by omega) ?_
 rintro m tm H ⟨i,hm,hno,t0,t1,t2,t7,rfl⟩
 by_cases hi:i<n
 ·obtain⟨x,hx⟩:=zAs (l:=l) (i:=i) (by omega)
  have hxn:(l.take n)[i]?=some x:=by rw[List.getElem?_take,if_pos hi,hx]
  have hi':(i:Int)<n:=by omega
  have hin:i<=n:=by omega
  have hsi:(i:Int)<=1000:=by omega
  have hwr:=jV hi (by omega)
  have hroom:=zB0 (show i<l.length by omega)
  have hat:=zLe hx
  have hst:∀k,qA (l.take n) i a k=qA l i a k:=fun k=> zBt hin a k
  by_cases hk:x.k=1
  ·by_cases hb:x.a=b
   ·have hbe:=zSo (l.take n) a b _ i rfl hno
    have hd:(l.take n).drop i=x::(l.take n).drop (i+1):=by
     rw[List.drop_eq_getElem_cons (by omega)]
     congr 1
     rw[List.getElem?_eq_getElem (by omega)] at hxn
     exact Option.some.inj hxn
    rw[hd,zCv,if_pos ⟨hb,hk⟩,hst,hst] at hbe
    cases h8:qA l i a 8<;> cases h9:qA l i a 9<;> (
     rw[h8,h9] at hbe
     simp -implicitDefEqProofs [zJa,zAi,zA9,hst,hln,hn,hsi,hin,t0,t1,t2,t7,hi,hi',hwr,hroom,hat,hk,hb,h8,h9,hbe])
   ·simp -implicitDefEqProofs [t0,t1,t2,t7,hi,hi',hwr,hroom,hat,hk,hb]
    refine⟨m - 1,by omega,i+1,by omega,fun j y hj hy=> ?_,by simp[t0,t1,t2]⟩
    by_cases e:j=i
    ·subst e;rw[hxn] at hy;cases hy;exact fun h1 h2=> hb h1
    ·have:=hno j y (by omega) hy
     simpa using this
  ·simp -implicitDefEqProofs [t0,t1,t2,t7,hi,hi',hwr,hroom,hat,hk]
   refine⟨m - 1,by omega,i+1,by omega,fun j y hj hy=> ?_,by simp[t0,t1,t2]⟩
   by_cases e:j=i
   ·subst e;rw[hxn] at hy;cases hy;exact fun h1 h2=> hk h2
   ·have:=hno j y (by omega) hy
    simpa using this
 ·have hie:i=n:=by omega
  subst hie
  have hbe:=zSo (l.take i) a b [] i (List.drop_eq_nil_of_le (by omega)) hno
  rw[zCv] at hbe
  simp -implicitDefEqProofs [t0,t1,t2,t7,hbe]
def r120:zSw
 |l,[.int .i64 a,.int .i64 b]=> some (l.length<=1000,.bool (zCu l a b))
 |_,_=> none
theorem qL1:zY Tryz.prog cfg 120 (zAi r120):=qD1 fun l n c rest p v hn h hp=> by
 unfold r120 at h
 split at h
 ·cases h
  rw[List.length_take] at hp
  exact⟨rfl,rfl,qTg l n c _ _ hn (by omega)⟩
 ·cases h
end YtapbabkndhaemaaGreat
end Go.Proofs
/-
 OPAQUE:what an attempt has seen and written,by its events.
-/
namespace Go.Proofs
namespace YtapbabkndhaemaaGreat
open Go.Abs
structure Ob where
 fs:List (List Pr)
 rds:List Pr
 ok:Bool
def obF (o:Ob) (x:Ev):Ob:=
 if x.k=2 then (match qQ o.fs x.t with
  |some v=> ⟨o.fs,o.rds,o.ok && decide (v=x.v)⟩
  |none=> ⟨o.fs,o.rds++[⟨x.t,x.v⟩],o.ok⟩)
 else ⟨(zAn o.fs x).2,o.rds,o.ok⟩
def ob0:Ob:=⟨[[]],[],true⟩
def obS (l:List Ev) (n:Int):Ob:=(xO l n).foldl obF ob0
theorem zDo (l:List Ev) (x:Ev) (n:Int):obS (l++[x]) n=if x.a=n then obF (obS l n) x else obS l n:=by
 unfold obS
 rw[zJk,zFx]
 by_cases h:x.a=n
 ·rw[if_pos h,if_pos h];simp[xO]
 ·rw[if_neg h,if_neg h];simp[xO]
theorem qW1 (o:Ob) (x:Ev):(obF o x).fs=zK5 o.fs x:=by
 unfold obF zK5
 split
 ·rename_i h
  rw[zG1 (by omega)]
  cases qQ o.fs x.t<;> rfl
 ·rfl
theorem qT8 (c:List Ev):∀o:Ob,(c.foldl obF o).fs=c.foldl zK5 o.fs:=by
 induction c with
 |nil=> intro o;rfl
 |cons x c ih=> intro o;rw[List.foldl_cons,List.foldl_cons,ih,qW1]
theorem qHw (l:List Ev) (n:Int):(obS l n).fs=jY l l.length n:=by
 unfold obS jY
 rw[List.take_length,qT8];rfl
theorem zEb (o:Ob) {x:Ev} (h:x.k=1∨x.k=7∨x.k=8∨x.k=9):obF o x=o:=by
 unfold obF
 rw[if_neg (by omega),zG1 (by omega)]
theorem qVb {fs:List (List Pr)} {a t v:Int} (h:zPc fs t v=0) (hne:fs≠[]):zAn fs ⟨3,a,t,v⟩=(0,zPb fs t v):=by
 cases fs with
 |nil=> exact absurd rfl hne
 |cons f r=>
  unfold zPc at h
  simp[zAn,h,zPb]
theorem qO4 {fs:List (List Pr)} {a:Int} (h:fs.length<5) (hne:fs≠[]):zAn fs ⟨4,a,0,0⟩=(0,zMw fs):=by
 cases fs with
 |nil=> exact absurd rfl hne
 |cons f r=>
  have h1:¬4<=r.length:=by simp at h;omega
  have h2:¬5<=r.length+1:=by omega
  simp[zAn,h1,zMw,h2]
theorem qO6 {fs:List (List Pr)} {a:Int} (h:1<fs.length):zAn fs ⟨5,a,0,0⟩=(0,zPm fs):=by
 match fs,h with
 |f::g::r,_=> simp[zAn,zPm]
theorem qJu {fs:List (List Pr)} {a:Int} (h:1<fs.length):zAn fs ⟨6,a,0,0⟩=(0,zKs fs):=by
 match fs,h with
 |f::g::r,_=> simp[zAn,zKs]
theorem zQ0 (l:List Ev) (x:Ev) (n:Int):xO (l++[x]) n=if x.a=n then xO l n++[x] else xO l n:=by
 rw[zJk,zFx]
 by_cases h:x.a=n
 ·rw[if_pos h,if_pos h];simp[xO]
 ·rw[if_neg h,if_neg h];simp[xO]
theorem zMn (l:List Ev) (x:Ev) (n:Int):zAp (l++[x]) n=if x.a=n then stC (xO l n++[x]) else zAp l n:=by
 unfold zAp
 rw[zQ0]
 split<;> rfl
theorem qKw (c:List Ev) (x:Ev):stC (c++[x])=if (c.foldl stF (false,1)).1=true∨x.k=1 then (stF (c.foldl stF (false,1)) x).2 else 0:=by
 unfold stC
 rw[List.foldl_append]
 simp only[List.foldl_cons,List.foldl_nil]
 unfold stF
 by_cases h1:x.k=1
 ·simp[h1]
 ·by_cases h7:x.k=7
  ·simp[h1,h7]
  ·by_cases h8:x.k=8
   ·simp[h1,h7,h8]
   ·by_cases h9:x.k=9
    ·simp[h1,h7,h8,h9]
    ·simp[h1,h7,h8,h9]
theorem zEj {l:List Ev} {x:Ev} {n:Int} (h:x.a≠n):zAp (l++[x]) n=zAp l n:=by rw[zMn,if_neg h]
theorem zNs {l:List Ev} {x:Ev} (h:zAp l x.a≠0):zAp (l++[x]) x.a=if x.k=7 then 2 else if x.k=8 then 3 else if x.k=9 then 4 else zAp l x.a:=by
 rw[zMn,if_pos rfl,qKw]
 have hb:((xO l x.a).foldl stF (false,1)).1=true:=by
  by_cases hb:((xO l x.a).foldl stF (false,1)).1=true
  ·exact hb
  ·exfalso;apply h;unfold zAp stC;rw[if_neg hb]
 rw[if_pos (.inl hb)]
 have hs:zAp l x.a=((xO l x.a).foldl stF (false,1)).2:=by unfold zAp stC;rw[if_pos hb]
 rw[hs]
 unfold stF
 by_cases h1:x.k=1
 ·simp[h1]
 ·simp only[h1,if_false]
  repeat' split
  all_goals first|rfl|omega
theorem qAd {l:List Ev} {n:Int} (h:∀x∈l,x.a≠n):zAp (l++[⟨1,n,0,0⟩]) n=1:=by
 rw[zMn,if_pos rfl,zQ1 h];rfl
theorem qCg {l:List Ev} {n:Int} (h:∀x∈l,x.a≠n):obS l n=ob0:=by
 unfold obS;rw[zQ1 h];rfl
theorem zZn {l:List Ev} {a m:Int} (h:∀x∈l,x.a≠m):zCu (l++[⟨1,m,0,0⟩]) a m=(xO l a).any zD6:=by
 have key:∀(l:List Ev) (e:Bool),(∀x∈l,x.a≠m)->zCv e (l++[⟨1,m,0,0⟩]) a m=(e||(xO l a).any zD6):=by
  intro l
  induction l with
  |nil=> intro e _;simp[zCv,xO]
  |cons x l ih=>
   intro e h
   rw[List.cons_append,zCv,if_neg (by have:=h x (by simp);omega),ih _ fun y hy=> h y (List.mem_cons_of_mem _ hy),zFx]
   by_cases hx:x.a=a
   ·simp[hx,Bool.or_assoc]
   ·simp[hx]
 have:=key l false h
 simpa [zCu] using this
theorem zJm {l:List Ev} {a m:Int} {x:Ev} (hb:∃y∈l,y.a=m/\y.k=1):zCu (l++[x]) a m=zCu l a m:=by
 have key:∀(l:List Ev) (e:Bool),(∃y∈l,y.a=m/\y.k=1)->zCv e (l++[x]) a m=zCv e l a m:=by
  intro l
  induction l with
  |nil=> intro e ⟨y,hy,_⟩;cases hy
  |cons z l ih=>
   intro e ⟨y,hy,h1⟩
   rw[List.cons_append,zCv,zCv]
   by_cases hz:z.a=m/\z.k=1
   ·rw[if_pos hz,if_pos hz]
   ·rw[if_neg hz,if_neg hz]
    rcases List.mem_cons.1 hy with rfl|hy
    ·exact absurd h1 hz
    ·exact ih _ ⟨y,hy,h1⟩
 exact key l false hb
theorem zL6 {l:List Ev} {a m:Int} (h:∀x∈l,¬(x.a=m/\x.k=1)):zCu l a m=false:=by
 have key:∀(l:List Ev) (e:Bool),(∀x∈l,¬(x.a=m/\x.k=1))->zCv e l a m=false:=by
  intro l
  induction l with
  |nil=> intro e _;rfl
  |cons z l ih=>
   intro e h
   rw[zCv,if_neg (h z (by simp))]
   exact ih _ fun y hy=> h y (List.mem_cons_of_mem _ hy)
 exact key l false h
end YtapbabkndhaemaaGreat
end Go.Proofs
/-
 OPAQUE:an engine's events:right,and what they say of each attempt.
-/
namespace Go.Proofs
namespace YtapbabkndhaemaaGreat
open Go.Abs
structure Lv where
 n:Nat
 tr:Bool
 fs:List (List Pr)
def zEx (lv:Nat->Option Lv) (th:Nat) (x:Option Lv):Nat->Option Lv:=fun i=> if i=th then x else lv i
theorem zFu {lv:Nat->Option Lv} {th i:Nat} {b x:Lv}:zEx lv th (some b) i=some x↔(i=th/\x=b)∨(i≠th/\lv i=some x):=by
 unfold zEx;split<;> grind
structure EvOk (hl N:Nat) (ev:List Ev) (lv:Nat->Option Lv):Prop where
 rt:∃σ,zF3 zKe ev=some σ/\(∀th x,lv th=some x->σ x.n=some ⟨x.tr,false,x.fs⟩)/\∀n:Nat,N<=n->σ n=none
 nu:∀th th' x x',lv th=some x->lv th'=some x'->x.n=x'.n->th=th'
 nl:∀th x,lv th=some x->x.n<N
 ea:∀x∈ev,0<=x.a/\x.a<N
 ats:zCw ev=(List.range N).map fun n:Nat=> (n:Int)
 obl:∀th x,lv th=some x->(obS ev x.n).fs=x.fs
 obo:∀n:Nat,(obS ev n).ok=true
 ra:∀n:Nat,∀r∈(obS ev n).rds,0<=r.t/\r.t<hl
 fr:∀n:Nat,∀g∈(obS ev n).fs,∀p∈g,0<=p.t/\p.t<hl/\zAg p.v=true
 st:∀th x,lv th=some x->zAp ev x.n=if x.tr=true then 2 else 1
 dn:∀n:Nat,n<N->(∀th x,lv th=some x->x.n≠n)->zAp ev n=3∨zAp ev n=4
 bg:∀n:Nat,n<N->∃y∈ev,y.a=n/\y.k=1
 en:∀n:Nat,(xO ev n).any zD6=true->∀th x,lv th=some x->x.n≠n
theorem qN8 (hl:Nat):EvOk hl 0 [] fun _=> none where
 rt:=⟨zKe,rfl,by simp,fun _ _=> rfl⟩
 nu:=by simp
 nl:=by simp
 ea:=by simp
 ats:=rfl
 obl:=by simp
 obo:=fun _=> rfl
 ra:=fun n r hr=> by simp[obS,xO,ob0] at hr
 fr:=fun n g hg p hp=> by simp[obS,xO,ob0] at hg;subst hg;cases hp
 st:=by simp
 dn:=fun n h=> by omega
 bg:=fun n h=> by omega
 en:=by simp
theorem zXw {ev:List Ev} {σ:Int->Option HA} (h:zF3 zKe ev=some σ) (x:Ev):zF3 zKe (ev++[x])=zJ5 σ x:=by
 rw[zLy,h]
 simp only[Option.bind_some,zF3]
 cases zJ5 σ x<;> rfl
theorem zUw (l:List Ev) (x:Ev):zCw (l++[x])=zGz (zCw l) x:=by
 unfold zCw;rw[List.foldl_append];rfl
variable {hl N:Nat} {ev:List Ev} {lv:Nat->Option Lv}
theorem EvOk.begin (h:EvOk hl N ev lv) {th:Nat} (h0:lv th=none) (hN:N<64):EvOk hl (N+1) (ev++[⟨1,N,0,0⟩]) (zEx lv th (some ⟨N,false,[[]]⟩)):=by
 have hnew:∀x∈ev,x.a≠(N:Int):=fun x hx=> by have:=h.ea x hx;omega
 have hob:∀n:Int,obS (ev++[⟨1,N,0,0⟩]) n=obS ev n:=fun n=> by
  rw[zDo];split
  ·exact zEb _ (.inl rfl)
  ·rfl
 obtain⟨σ,r1,r2,r3⟩:=h.rt
 constructor
 case rt=>
  refine⟨zEg σ N ⟨false,false,[[]]⟩,?_,?_,?_⟩
  ·rw[zXw r1]
   unfold zJ5
   rw[if_pos (by simp only;omega),r3 N (Nat.le_refl _)]
   simp[zDr,jW]
  ·intro i x hx
   rw[zFu] at hx
   rcases hx with ⟨rfl,rfl⟩|⟨_,hx⟩
   ·simp[zEg]
   ·have:=h.nl i x hx
    unfold zEg
    rw[if_neg (by omega)];exact r2 i x hx
  ·intro n hn
   unfold zEg
   rw[if_neg (by omega)];exact r3 n (by omega)
 case nu=> have:=h.nu;have:=h.nl;simp only[zFu];grind
 case nl=> have:=h.nl;simp only[zFu];grind
 case ea=>
  intro x hx
  rcases List.mem_append.1 hx with hx|hx
  ·have:=h.ea x hx;omega
  ·simp only[List.mem_singleton] at hx;subst hx;simp only;omega
 case ats=>
  rw[zUw,h.ats]
  unfold zGz
  rw[if_pos ⟨rfl,by simp;omega⟩,List.range_succ,List.map_append];rfl
 case obl=>
  intro i x hx
  rw[hob]
  rw[zFu] at hx
  rcases hx with ⟨rfl,rfl⟩|⟨_,hx⟩
  ·rw[qCg hnew];rfl
  ·exact h.obl i x hx
 case obo=> intro n;rw[hob];exact h.obo n
 case ra=> intro n;rw[hob];exact h.ra n
 case fr=> intro n;rw[hob];exact h.fr n
 case st=>
  intro i x hx
  rw[zFu] at hx
  rcases hx with ⟨rfl,rfl⟩|⟨_,hx⟩
  ·rw[qAd hnew];rfl
  ·have:=h.nl i x hx
   rw[zEj (by simp only;omega)];exact h.st i x hx
 case dn=>
  intro n hn hno
  by_cases e:n=N
  ·subst e;exact absurd rfl (hno th ⟨n,false,[[]]⟩ (zFu.2 (.inl ⟨rfl,rfl⟩)))
  ·rw[zEj (by simp only;omega)]
   refine h.dn n (by omega) fun i x hx=> hno i x (zFu.2 (.inr ⟨fun e=> ?_,hx⟩))
   subst e;rw[h0] at hx;cases hx
 case bg=>
  intro n hn
  by_cases e:n=N
  ·subst e;exact⟨⟨1,n,0,0⟩,by simp,rfl,rfl⟩
  ·obtain⟨y,hy,h1⟩:=h.bg n (by omega)
   exact⟨y,by simp[hy],h1⟩
 case en=>
  intro n hn i x hx
  rw[zQ0] at hn
  have hn2:(xO ev n).any zD6=true:=by
   split at hn
   ·simpa [zD6] using hn
   ·exact hn
  rw[zFu] at hx
  rcases hx with ⟨rfl,rfl⟩|⟨_,hx⟩
  ·simp only
   intro e
   subst e
   rw[zQ1 hnew] at hn2;cases hn2
  ·exact h.en n hn2 i x hx
theorem EvOk.tell (h:EvOk hl N ev lv) {th:Nat} {a:Lv} (ha:lv th=some a) {x:Ev} (hx:x.a=a.n) (hk:x.k≠1) {b:HA} (ht:zDr (some ⟨a.tr,false,a.fs⟩) x=some b) (hfs:b.fs=(obF (obS ev a.n) x).fs)
  {y:Option Lv} (hy:y=if b.en=true then none else some ⟨a.n,b.tr,b.fs⟩) (hok:(obF (obS ev a.n) x).ok=true) (hra:∀r∈(obF (obS ev a.n) x).rds,0<=r.t/\r.t<hl) (hfr:∀g∈(obF (obS ev a.n) x).fs,∀p∈g,0<=p.t/\p.t<hl/\zAg p.v=true)
  (hst:b.en=false->(if x.k=7 then 2 else if x.k=8 then 3 else if x.k=9 then 4 else zAp ev a.n)=(if b.tr=true then (2:Int) else 1)) (hen:zD6 x=b.en) (hN:N<=64):EvOk hl N (ev++[x]) (zEx lv th y):=by
 have hn:=h.nl th a ha
 have hob:∀n:Int,n≠a.n->obS (ev++[x]) n=obS ev n:=fun n hne=> by rw[zDo,if_neg (by omega)]
 have hobs:obS (ev++[x]) a.n=obF (obS ev a.n) x:=by rw[zDo,if_pos hx]
 have hst0:zAp ev a.n≠0:=by rw[h.st th a ha];split<;> omega
 have hsts:zAp (ev++[x]) a.n=if x.k=7 then 2 else if x.k=8 then 3 else if x.k=9 then 4 else zAp ev a.n:=by
  have:=zNs (l:=ev) (x:=x) (by rw[hx];exact hst0)
  rw[hx] at this;exact this
 have hoth:∀i z,zEx lv th y i=some z->(i=th/\b.en=false/\z=⟨a.n,b.tr,b.fs⟩)∨(i≠th/\lv i=some z/\z.n≠a.n):=by
  intro i z hz
  by_cases e:i=th
  ·subst e
   simp only[zEx,if_true] at hz
   rw[hy] at hz
   split at hz
   ·cases hz
   ·rename_i hb
    cases hz
    exact .inl ⟨rfl,by simpa using hb,rfl⟩
  ·simp only[zEx,if_neg e] at hz
   exact .inr ⟨e,hz,fun he=> e (h.nu i th z a hz ha he)⟩
 obtain⟨σ,r1,r2,r3⟩:=h.rt
 constructor
 case rt=>
  refine⟨zEg σ a.n b,?_,?_,?_⟩
  ·rw[zXw r1]
   unfold zJ5
   rw[hx,if_pos (by omega),r2 th a ha,ht]
   rfl
  ·intro i z hz
   rcases hoth i z hz with ⟨rfl,h1,rfl⟩|⟨_,h1,h2⟩
   ·simp only[zEg,if_true]
    obtain⟨b1,b2,b3⟩:=b
    simp only at h1
    subst h1;rfl
   ·unfold zEg
    rw[if_neg (by omega)];exact r2 i z h1
  ·intro n hn'
   unfold zEg
   rw[if_neg (by omega)];exact r3 n hn'
 case nu=>
  intro i j z w hz hw he
  rcases hoth i z hz with ⟨rfl,h1,rfl⟩|⟨e1,h1,h2⟩<;> rcases hoth j w hw with ⟨rfl,h3,rfl⟩|⟨e3,h3,h4⟩
  ·rfl
  ·exact absurd he.symm h4
  ·exact absurd he h2
  ·exact h.nu i j z w h1 h3 he
 case nl=>
  intro i z hz
  rcases hoth i z hz with ⟨rfl,h1,rfl⟩|⟨e1,h1,h2⟩
  ·exact hn
  ·exact h.nl i z h1
 case ea=>
  intro z hz
  rcases List.mem_append.1 hz with hz|hz
  ·exact h.ea z hz
  ·simp only[List.mem_singleton] at hz;subst hz;omega
 case ats=>
  rw[zUw,h.ats]
  unfold zGz
  rw[if_neg (by omega)]
 case obl=>
  intro i z hz
  rcases hoth i z hz with ⟨rfl,h1,rfl⟩|⟨e1,h1,h2⟩
  ·simp only;rw[hobs,hfs]
  ·rw[hob _ (by omega)];exact h.obl i z h1
 case obo=>
  intro n
  by_cases e:n=a.n
  ·subst e;rw[hobs];exact hok
  ·rw[hob _ (by omega)];exact h.obo n
 case ra=>
  intro n
  by_cases e:n=a.n
  ·subst e;rw[hobs];exact hra
  ·rw[hob _ (by omega)];exact h.ra n
 case fr=>
  intro n
  by_cases e:n=a.n
  ·subst e;rw[hobs];exact hfr
  ·rw[hob _ (by omega)];exact h.fr n
 case st=>
  intro i z hz
  rcases hoth i z hz with ⟨rfl,h1,rfl⟩|⟨e1,h1,h2⟩
  ·simp only;rw[hsts];exact hst h1
  ·rw[zEj (by omega)];exact h.st i z h1
 case dn=>
  intro n hn' hno
  by_cases e:n=a.n
  ·subst e
   have hb:b.en=true:=by
    by_cases hb:b.en=true
    ·exact hb
    ·exact absurd rfl (hno th ⟨a.n,b.tr,b.fs⟩ (by simp only[zEx,if_true];rw[hy,if_neg hb]))
   rw[hb] at hen
   unfold zD6 at hen
   rw[hsts]
   simp only[Bool.or_eq_true,decide_eq_true_eq] at hen
   rcases hen with e8|e9
   ·left;simp[e8]
   ·right;simp[e9]
  ·rw[zEj (by omega)]
   refine h.dn n hn' fun i z hz=> ?_
   by_cases ei:i=th
   ·subst ei;rw[ha] at hz;cases hz;exact fun e2=> e e2.symm
   ·exact hno i z (by simp only[zEx,if_neg ei];exact hz)
 case bg=>
  intro n hn'
  obtain⟨y,hy,h1⟩:=h.bg n hn'
  exact⟨y,by simp[hy],h1⟩
 case en=>
  intro n hn' i z hz
  rw[zQ0] at hn'
  rcases hoth i z hz with ⟨rfl,h1,rfl⟩|⟨e1,h1,h2⟩
  ·simp only
   intro e
   subst e
   rw[if_pos hx,List.any_append] at hn'
   have h3:(xO ev a.n).any zD6=false:=by
    rw[Bool.eq_false_iff];intro hc;exact h.en _ hc _ _ ha rfl
   rw[h3] at hn'
   simp only[List.any_cons,List.any_nil,Bool.or_false,Bool.false_or] at hn'
   rw[hen,h1] at hn';cases hn'
  ·by_cases e:x.a=n
   ·omega
   ·rw[if_neg e] at hn';exact h.en n hn' i z h1
theorem EvOk.same (h:EvOk hl N ev lv) {lv':Nat->Option Lv} (hh:∀i,lv' i=lv i):EvOk hl N ev lv':=by
 rw[funext hh];exact h
theorem zZm {l:List Ev} {a m:Int} (h:zCu l a m=true):(xO l a).any zD6=true:=by
 have key:∀(l:List Ev) (e:Bool),zCv e l a m=true->e=true∨(xO l a).any zD6=true:=by
  intro l
  induction l with
  |nil=> intro e h;cases h
  |cons z l ih=>
   intro e h
   rw[zCv] at h
   split at h
   ·exact .inl h
   ·rcases ih _ h with h1|h1
    ·rw[Bool.or_eq_true] at h1
     rcases h1 with h1|h1
     ·exact .inl h1
     ·simp only[Bool.and_eq_true,decide_eq_true_eq] at h1
      right;rw[zFx,if_pos h1.1];simp[h1.2]
    ·right
     rw[zFx];split
     ·simp only[List.any_cons,h1,Bool.or_true]
     ·exact h1
 rcases key l false h with h1|h1
 ·cases h1
 ·exact h1
end YtapbabkndhaemaaGreat
end Go.Proofs
/-
 OPAQUE:locks and versions,plainly:what holds of them (tl2).
-/
namespace Go.Proofs
namespace YtapbabkndhaemaaGreat
structure LA where
 n:Nat
 rv:Int
 wv:Int
 ph:Nat
 chk:Int->Prop
 rest:Int->Prop
 ss:Nat
 t:Int
 v0:Int
 sv:Int
structure AS where
 c:Int
 own:Nat->Int
 ver:Nat->Int
 hp:Int->Int
 N:Nat
 key:Nat->Int
 rds:Nat->Int->Int->Prop
 lg:Nat->Int->Option Int
 ts:Nat->Option LA
def zAc {α:Type} (f:Nat->α) (n:Nat) (x:α):Nat->α:=fun m=> if m=n then x else f m
def zGo {α:Type} (f:Int->α) (n:Int) (x:α):Int->α:=fun m=> if m=n then x else f m
def zCb (ts:Nat->Option LA) (th:Nat) (x:Option LA):Nat->Option LA:=fun i=> if i=th then x else ts i
theorem qJ {ts:Nat->Option LA} {th i:Nat} {b x:LA}:zCb ts th (some b) i=some x↔(i=th/\x=b)∨(i≠th/\ts i=some x):=by
 unfold zCb;split<;> grind
theorem zCf {ts:Nat->Option LA} {th i:Nat} {x:LA}:zCb ts th none i=some x↔i≠th/\ts i=some x:=by
 unfold zCb;split<;> grind
def AS.Ent (s:AS) (m:Nat):Prop:=m<s.N/\s.key m % 2=0
def Val (s:AS) (f:Int->Int) (k t v:Int):Prop:=
 (∃m,s.Ent m/\s.key m<k/\s.lg m t=some v/\∀m',s.Ent m'->s.key m'<k->s.key m<s.key m'->s.lg m' t=none)∨
 (v=f t/\∀m',s.Ent m'->s.key m'<k->s.lg m' t=none)
theorem Val.to {s s':AS} {f:Int->Int} {k k' t v:Int} (h:Val s f k t v)
  (h1:∀m,s'.Ent m->s'.key m<k'->s'.lg m t≠none->s.Ent m/\s.key m=s'.key m/\s.key m<k/\s.lg m t=s'.lg m t)
  (h2:∀m,s.Ent m->s.key m<k->s.lg m t≠none->s'.Ent m/\s'.key m=s.key m/\s'.key m<k'/\s'.lg m t=s.lg m t):Val s' f k' t v:=by
 unfold Val at h⊢
 rcases h with ⟨m,e1,e2,e3,e4⟩|⟨e1,e2⟩
 ·refine .inl ⟨m,?_⟩
  have:=h2 m e1 e2 (by simp[e3])
  refine⟨this.1,this.2.2.1,by rw[this.2.2.2,e3],fun m' g1 g2 g3=> ?_⟩
  grind
 ·refine .inr ⟨e1,fun m' g1 g2=> ?_⟩
  grind
theorem Val.uniq {s:AS} {f:Int->Int} {k t v v':Int} (hu:∀n m,s.Ent n->s.Ent m->s.key n=s.key m->n=m) (h:Val s f k t v) (h':Val s f k t v'):v=v':=by
 unfold Val at h h'
 rcases h with ⟨m,e1,e2,e3,e4⟩|⟨e1,e2⟩<;> rcases h' with ⟨m',e1',e2',e3',e4'⟩|⟨e1',e2'⟩<;> grind
structure OInv (sf:Int->Nat) (f:Int->Int) (s:AS):Prop where
 nlt:∀th a,s.ts th=some a->a.n<s.N
 nu:∀th a th' a',s.ts th=some a->s.ts th'=some a'->a.n=a'.n->th=th'
 kb:∀n,n<s.N->1<=s.key n/\s.key n<=2*s.c+1
 kl0:∀th a,s.ts th=some a->a.ph≠3->s.key a.n=2*a.rv+1
 kl3:∀th a,s.ts th=some a->a.ph=3->s.key a.n=2*a.wv
 ku:∀n m,s.Ent n->s.Ent m->s.key n=s.key m->n=m
 wu:∀th a,s.ts th=some a->a.ph=2->∀n,n<s.N->s.key n≠2*a.wv
 wr:∀th a,s.ts th=some a->a.ph=2∨a.ph=3->a.rv<a.wv/\a.wv<=s.c
 w2:∀th a th' a',s.ts th=some a->s.ts th'=some a'->a.ph=2->a'.ph=2->a.wv=a'.wv->th=th'
 rvc:∀th a,s.ts th=some a->0<=a.rv/\a.rv<=s.c
 phb:∀th a,s.ts th=some a->a.ph=0∨a.ph=2∨a.ph=3
 new:∀n,s.N<=n->(∀t v,¬s.rds n t v)/\∀t,s.lg n t=none
 lk2:∀th a,s.ts th=some a->a.ph=2->∀t,s.lg a.n t≠none->s.own (sf t)=th
 lk3:∀th a,s.ts th=some a->a.ph=3->∀t,a.rest t->s.own (sf t)=th/\s.lg a.n t≠none
 st:∀th a,s.ts th=some a->a.ph=2∨a.ph=3->∀i,s.own i=th->s.ver i<a.wv
 vc:∀i,s.ver i<=s.c
 J:∀th a,s.ts th=some a->a.ph=2->∀n,n<s.N->n≠a.n->2*a.wv<s.key n->∀t v,s.rds n t v->s.lg a.n t=none
 I7:∀th a,s.ts th=some a->a.ph=2->∀m,s.Ent m->2*a.wv<s.key m->∀t,s.lg m t≠none->s.lg a.n t=none
 K1:∀th a,s.ts th=some a->a.ph=2->∀t,a.chk t->∀th' a',s.ts th'=some a'->th'≠th->a'.ph=2->a'.wv<a.wv->s.lg a'.n t=none
 K2:∀th a,s.ts th=some a->a.ph=2->∀t,a.chk t->∀m,s.Ent m->2*a.rv+1<s.key m->s.key m<2*a.wv->s.lg m t=none
 V:∀m,s.Ent m->∀t,s.lg m t≠none->s.key m<=2*s.ver (sf t)∨∃(th:Nat) (a:LA),s.ts th=some a/\a.ph=3/\a.n=m/\s.own (sf t)=th
 HI:∀t,(∃(th:Nat) (a:LA),s.ts th=some a/\a.ph=3/\a.rest t)∨Val s f (2*s.c+2) t (s.hp t)
 L:∀th a,s.ts th=some a->a.ph=3->∀t v,a.rest t->s.lg a.n t=some v->Val s f (2*s.c+2) t v
 sp:∀th a,s.ts th=some a->1<=a.ss->a.ph=0
 R0:∀th a,s.ts th=some a->1<=a.ss->a.v0<=a.rv/\a.v0<=s.ver (sf a.t)
 R1:∀th a,s.ts th=some a->1<=a.ss->∀th' a',s.ts th'=some a'->a'.ph=2->a'.wv<=a.rv->s.lg a'.n a.t=none
 R2:∀th a,s.ts th=some a->a.ss=2->Val s f (2*a.rv+1) a.t a.sv∨(∃(th':Nat) (a':LA),s.ts th'=some a'/\a'.ph=3/\s.own (sf a.t)=th')∨a.v0<s.ver (sf a.t)
 main:∀n,n<s.N->∀t v,s.rds n t v->Val s f (s.key n) t v
end YtapbabkndhaemaaGreat
end Go.Proofs
/-
 OPAQUE:each step keeps what holds. (Printed by tools/genx.py.)
-/
namespace Go.Proofs
namespace YtapbabkndhaemaaGreat
variable {sf:Int->Nat} {f:Int->Int} {s:AS}
def AS.begin (s:AS) (th:Nat):AS:={ s with N:=s.N+1,key:=zAc s.key s.N (2*s.c+1),ts:=zCb s.ts th (some ⟨s.N,s.c,0,0,fun _=> False,fun _=> False,0,0,0,0⟩) }
theorem qFp (h:OInv sf f s) {th:Nat} (k t v:Int) (hv:Val s f k t v):Val (s.begin th) f k t v:=by
 refine hv.to (fun m h1 h2 h3=> ?_) (fun m h1 h2 h3=> ?_)
 ·have:=h.new m
  simp only[AS.begin,AS.Ent,zAc,qJ] at h1 h2 h3⊢
  grind
 ·simp only[AS.begin,AS.Ent,zAc,qJ] at h1 h2 h3⊢
  grind
theorem OInv.begin (h:OInv sf f s) {th:Nat} (h0:s.ts th=none) (hc:0<=s.c):OInv sf f (s.begin th):=by
 have hv:=qFp (th:=th) h
 constructor
 case nlt=> have:=h.nlt;simp only[AS.begin,AS.Ent,zAc,qJ];grind
 case nu=> have:=h.nu;have:=h.nlt;simp only[AS.begin,AS.Ent,zAc,qJ];grind
 case kb=> have:=h.kb;simp only[AS.begin,AS.Ent,zAc,qJ];grind
 case kl0=> have:=h.kl0;have:=h.nlt;simp only[AS.begin,AS.Ent,zAc,qJ];grind
 case kl3=> have:=h.kl3;have:=h.nlt;simp only[AS.begin,AS.Ent,zAc,qJ];grind
 case' ku=> have:=h.ku;have:=h.kb
 case wu=> have:=h.wu;have:=h.nlt;simp only[AS.begin,AS.Ent,zAc,qJ];grind
 case wr=> have:=h.wr;simp only[AS.begin,AS.Ent,zAc,qJ];grind
 case w2=> have:=h.w2;simp only[AS.begin,AS.Ent,zAc,qJ];grind
 case rvc=> have:=h.rvc;simp only[AS.begin,AS.Ent,zAc,qJ];grind
 case phb=> have:=h.phb;simp only[AS.begin,AS.Ent,zAc,qJ];grind
 case new=> have:=h.new;simp only[AS.begin,AS.Ent,zAc,qJ];grind
 case lk2=> have:=h.lk2;simp only[AS.begin,AS.Ent,zAc,qJ];grind
 case lk3=> have:=h.lk3;simp only[AS.begin,AS.Ent,zAc,qJ];grind
 case st=> have:=h.st;simp only[AS.begin,AS.Ent,zAc,qJ];grind
 case vc=> exact h.vc
 case J=> have:=h.J;have:=h.new;have:=h.nlt;simp only[AS.begin,AS.Ent,zAc,qJ];grind
 case' I7=> have:=h.I7;have:=h.new;have:=h.nlt
 case K1=> have:=h.K1;have:=h.new;have:=h.nlt;simp only[AS.begin,AS.Ent,zAc,qJ];grind
 case' K2=> have:=h.K2;have:=h.new;have:=h.nlt
 case' V=> have:=h.V;have:=h.new;have:=h.nlt
 case' HI=> have:=h.HI;have:=h.new;have:=h.nlt
 case' L=> have:=h.L;have:=h.new;have:=h.nlt
 case' sp=> have:=h.sp
 case' R0=> have:=h.R0
 case' R1=> have:=h.R1;have:=h.wr;have:=h.nlt
 case' R2=> have:=h.R2;have:=h.new;have:=h.nlt
 case' main=> have:=h.main;have:=h.new;have:=h.nlt
 all_goals (simp only[AS.begin,AS.Ent,zAc,qJ] at*;grind)
def AS.calm (s:AS) (th:Nat) (b:LA):AS:={ s with ts:=zCb s.ts th (some b) }
theorem OInv.calm (h:OInv sf f s) {th:Nat} {b:LA} {a:LA} (ha:s.ts th=some a) (hb1:b.n=a.n) (hb2:b.rv=a.rv) (hb3:a.ph≠0->b.wv=a.wv) (hb4:b.ph=a.ph) (hb5:a.ph=2->∀t,b.chk t->a.chk t) (hb6:a.ph=3->∀t,b.rest t↔a.rest t) (hb7:b.ss=0):OInv sf f (s.calm th b):=by
 have hv:∀k t v,Val s f k t v->Val (s.calm th b) f k t v:=fun k t v hv=> hv.to (fun m h1 h2 h3=> ⟨h1,rfl,h2,rfl⟩) (fun m h1 h2 h3=> ⟨h1,rfl,h2,rfl⟩)
 constructor
 case' nlt=> have:=h.nlt;have:=h.phb
 case' nu=> have:=h.nu;have:=h.nlt;have:=h.phb
 case' kb=> have:=h.kb;have:=h.nlt;have:=h.phb
 case' kl0=> have:=h.kl0;have:=h.nlt;have:=h.phb
 case kl3=>
  intro i b' hb h3
  simp only[AS.calm,qJ] at hb
  rcases hb with ⟨rfl,rfl⟩|⟨_,hb⟩
  ·rw[hb1,hb3 (by omega)]
   exact h.kl3 i a ha (by omega)
  ·exact h.kl3 i b' hb h3
 case' ku=> have:=h.ku;have:=h.nlt;have:=h.phb
 case' wu=> have:=h.wu;have:=h.nlt;have:=h.phb
 case' wr=> have:=h.wr;have:=h.nlt;have:=h.phb
 case' w2=> have:=h.w2;have:=h.nlt;have:=h.phb
 case' rvc=> have:=h.rvc;have:=h.nlt;have:=h.phb
 case' phb=> have:=h.phb;have:=h.nlt
 case' new=> have:=h.new;have:=h.nlt;have:=h.phb
 case' lk2=> have:=h.lk2;have:=h.nlt;have:=h.phb
 case lk3=>
  intro i b' hb h3 t ht
  simp only[AS.calm,qJ,zCf] at hb
  rcases hb with ⟨rfl,rfl⟩|⟨_,hb⟩
  ·rw[hb1]
   exact h.lk3 _ a ha (by omega) t ((hb6 (by omega) t).1 ht)
  ·exact h.lk3 _ _ hb h3 t ht
 case' st=> have:=h.st;have:=h.nlt;have:=h.phb
 case' vc=> have:=h.vc;have:=h.nlt;have:=h.phb
 case' J=> have:=h.J;have:=h.nlt;have:=h.phb
 case' I7=> have:=h.I7;have:=h.nlt;have:=h.phb
 case' K1=> have:=h.K1;have:=h.nlt;have:=h.phb
 case' K2=> have:=h.K2;have:=h.nlt;have:=h.phb
 case V=>
  intro m hm t hl
  rcases h.V m hm t hl with g1|⟨th',a',g1,g2,g3,g4⟩
  ·exact .inl g1
  ·right
   by_cases e2:th'=th
   ·subst e2
    rw[ha] at g1;cases g1
    refine⟨th',b,?_,by omega,by rw[hb1];exact g3,g4⟩
    simp only[AS.calm,qJ];exact .inl ⟨trivial,trivial⟩
   ·refine⟨th',a',?_,g2,g3,g4⟩
    simp only[AS.calm,qJ];exact .inr ⟨e2,g1⟩
 case HI=>
  intro t
  rcases h.HI t with ⟨th',a',g1,g2,g3⟩|g
  ·left
   by_cases e2:th'=th
   ·subst e2
    rw[ha] at g1;cases g1
    refine⟨th',b,?_,by omega,(hb6 g2 t).2 g3⟩
    simp only[AS.calm,qJ];exact .inl ⟨trivial,trivial⟩
   ·refine⟨th',a',?_,g2,g3⟩
    simp only[AS.calm,qJ];exact .inr ⟨e2,g1⟩
  ·exact .inr (hv _ _ _ g)
 case L=>
  intro i b' hb h3 t v hr hs
  simp only[AS.calm,qJ] at hb
  rcases hb with ⟨rfl,rfl⟩|⟨_,hb⟩
  ·rw[hb1] at hs
   exact hv _ _ _ (h.L i a ha (by omega) t v ((hb6 (by omega) t).1 hr) hs)
  ·exact hv _ _ _ (h.L i b' hb h3 t v hr hs)
 case' sp=> have:=h.sp;have:=h.nlt;have:=h.phb
 case' R0=> have:=h.R0;have:=h.nlt;have:=h.phb
 case' R1=> have:=h.R1;have:=h.nlt;have:=h.phb
 case R2=>
  intro i b' hb h2
  simp only[AS.calm,qJ] at hb
  rcases hb with ⟨rfl,rfl⟩|⟨_,hb⟩
  ·omega
  ·rcases h.R2 i b' hb h2 with g|⟨th',a',g1,g2,g3⟩|g
   ·exact .inl (hv _ _ _ g)
   ·refine .inr (.inl ?_)
    by_cases e2:th'=th
    ·subst e2
     rw[ha] at g1;cases g1
     refine⟨th',b,?_,by omega,g3⟩
     simp only[AS.calm,qJ];exact .inl ⟨trivial,trivial⟩
    ·refine⟨th',a',?_,g2,g3⟩
     simp only[AS.calm,qJ];exact .inr ⟨e2,g1⟩
   ·exact .inr (.inr g)
 case main=> exact fun n hn t v hr=> hv _ _ _ (h.main n hn t v hr)
 all_goals (simp only[AS.calm,AS.Ent,zAc,zGo,qJ,zCf] at*;grind)
def AS.look (sf:Int->Nat) (s:AS) (th:Nat) (a:LA) (x:Int):AS:={ s with ts:=zCb s.ts th (some { a with ss:=1,t:=x,v0:=s.ver (sf x) }) }
theorem OInv.look (h:OInv sf f s) {th:Nat} {a:LA} {x:Int} (ha:s.ts th=some a) (hp:a.ph=0) (ho:s.own (sf x)= -1) (hv:s.ver (sf x)<=a.rv):OInv sf f (s.look sf th a x):=by
 have hw:∀k t v,Val s f k t v->Val (s.look sf th a x) f k t v:=fun k t v hv=> hv.to (fun m h1 h2 h3=> ⟨h1,rfl,h2,rfl⟩) (fun m h1 h2 h3=> ⟨h1,rfl,h2,rfl⟩)
 constructor
 case' nlt=> have:=h.nlt
 case' nu=> have:=h.nu;have:=h.nlt
 case' kb=> have:=h.kb;have:=h.nlt
 case' kl0=> have:=h.kl0;have:=h.nlt
 case' kl3=> have:=h.kl3;have:=h.nlt
 case' ku=> have:=h.ku;have:=h.nlt
 case' wu=> have:=h.wu;have:=h.nlt
 case' wr=> have:=h.wr;have:=h.nlt
 case' w2=> have:=h.w2;have:=h.nlt
 case' rvc=> have:=h.rvc;have:=h.nlt
 case' phb=> have:=h.phb;have:=h.nlt
 case' new=> have:=h.new;have:=h.nlt
 case' lk2=> have:=h.lk2;have:=h.nlt
 case' lk3=> have:=h.lk3;have:=h.nlt
 case' st=> have:=h.st;have:=h.nlt
 case' vc=> have:=h.vc;have:=h.nlt
 case' J=> have:=h.J;have:=h.nlt
 case' I7=> have:=h.I7;have:=h.nlt
 case' K1=> have:=h.K1;have:=h.nlt
 case' K2=> have:=h.K2;have:=h.nlt
 case' V=> have:=h.V;have:=h.nlt
 case' HI=> have:=h.HI;have:=h.nlt
 case' L=> have:=h.L;have:=h.nlt
 case' sp=> have:=h.sp;have:=h.nlt
 case' R0=> have:=h.R0;have:=h.nlt
 case' R1=> have:=h.R1;have:=h.lk2;have:=h.nlt
 case' R2=> have:=h.R2;have:=h.nlt
 case' main=> have:=h.main;have:=h.nlt
 all_goals (simp only[AS.look,AS.Ent,zAc,zGo,qJ,zCf] at*;grind)
def AS.see (s:AS) (th:Nat) (a:LA):AS:={ s with ts:=zCb s.ts th (some { a with ss:=2,sv:=s.hp a.t }) }
theorem OInv.see (h:OInv sf f s) {th:Nat} {a:LA} (ha:s.ts th=some a) (hp:a.ss=1):OInv sf f (s.see th a):=by
 have hv:∀k t v,Val s f k t v->Val (s.see th a) f k t v:=fun k t v hv=> hv.to (fun m h1 h2 h3=> ⟨h1,rfl,h2,rfl⟩) (fun m h1 h2 h3=> ⟨h1,rfl,h2,rfl⟩)
 constructor
 case' nlt=> have:=h.nlt;have:=h.sp
 case' nu=> have:=h.nu;have:=h.nlt;have:=h.sp
 case' kb=> have:=h.kb;have:=h.nlt;have:=h.sp
 case' kl0=> have:=h.kl0;have:=h.nlt;have:=h.sp
 case' kl3=> have:=h.kl3;have:=h.nlt;have:=h.sp
 case' ku=> have:=h.ku;have:=h.nlt;have:=h.sp
 case' wu=> have:=h.wu;have:=h.nlt;have:=h.sp
 case' wr=> have:=h.wr;have:=h.nlt;have:=h.sp
 case' w2=> have:=h.w2;have:=h.nlt;have:=h.sp
 case' rvc=> have:=h.rvc;have:=h.nlt;have:=h.sp
 case' phb=> have:=h.phb;have:=h.nlt;have:=h.sp
 case' new=> have:=h.new;have:=h.nlt;have:=h.sp
 case' lk2=> have:=h.lk2;have:=h.nlt;have:=h.sp
 case' lk3=> have:=h.lk3;have:=h.nlt;have:=h.sp
 case' st=> have:=h.st;have:=h.nlt;have:=h.sp
 case' vc=> have:=h.vc;have:=h.nlt;have:=h.sp
 case' J=> have:=h.J;have:=h.nlt;have:=h.sp
 case' I7=> have:=h.I7;have:=h.nlt;have:=h.sp
 case' K1=> have:=h.K1;have:=h.nlt;have:=h.sp
 case' K2=> have:=h.K2;have:=h.nlt;have:=h.sp
 case' V=> have:=h.V;have:=h.nlt;have:=h.sp
 case' HI=> have:=h.HI;have:=h.nlt;have:=h.sp
 case' L=> have:=h.L;have:=h.nlt;have:=h.sp
 case' sp=> have:=h.sp;have:=h.nlt
 case' R0=> have:=h.R0;have:=h.nlt;have:=h.sp
 case' R1=> have:=h.R1;have:=h.nlt;have:=h.sp
 case R2=>
  intro i b hb h2
  simp only[AS.see,qJ] at hb
  rcases hb with ⟨rfl,rfl⟩|⟨hne,hb⟩
  ·by_cases hd:∃(th':Nat) (a':LA),s.ts th'=some a'/\a'.ph=3/\s.own (sf a.t)=th'
   ·obtain⟨th',a',h4,h5,h6⟩:=hd
    refine .inr (.inl ⟨th',a',?_,h5,h6⟩)
    simp only[AS.see,qJ]
    have:=h.sp i a ha (by omega)
    grind
   ·by_cases hr:s.ver (sf a.t)<=a.rv
    ·left
     rcases h.HI a.t with ⟨th',a',h4,h5,h6⟩|hI
     ·exact absurd ⟨th',a',h4,h5,(h.lk3 th' a' h4 h5 _ h6).1⟩ hd
     ·refine hI.to (fun m g1 g2 g3=> ⟨g1,rfl,?_,rfl⟩) (fun m g1 g2 g3=> ⟨g1,rfl,?_,rfl⟩)
      ·have:=h.rvc _ a ha;simp only[AS.see] at g2⊢;omega
      ·rcases h.V m g1 _ g3 with g4|⟨th',a',g4,g5,g6,g7⟩
       ·simp only[AS.see];omega
       ·exact absurd ⟨th',a',g4,g5,g7⟩ hd
    ·have:=h.R0 _ a ha (by omega)
     right;right
     simp only[AS.see];omega
  ·rcases h.R2 i b hb h2 with g|⟨th',a',g4,g5,g6⟩|g
   ·exact .inl (hv _ _ _ g)
   ·refine .inr (.inl ⟨th',a',?_,g5,g6⟩)
    simp only[AS.see,qJ]
    have:=h.sp th a ha (by omega)
    grind
   ·exact .inr (.inr g)
 case' main=> have:=h.main;have:=h.nlt;have:=h.sp
 all_goals (simp only[AS.see,AS.Ent,zAc,zGo,qJ,zCf] at*;grind)
def AS.read (s:AS) (th:Nat) (a:LA):AS:={ s with rds:=fun n t v=> s.rds n t v∨(n=a.n/\t=a.t/\v=a.sv),ts:=zCb s.ts th (some { a with ss:=0 }) }
theorem OInv.read (h:OInv sf f s) {th:Nat} {a:LA} (ha:s.ts th=some a) (hs:a.ss=2) (ho:s.own (sf a.t)= -1) (h0:s.ver (sf a.t)=a.v0):OInv sf f (s.read th a):=by
 have hv:∀k t v,Val s f k t v->Val (s.read th a) f k t v:=fun k t v hv=> hv.to (fun m h1 h2 h3=> ⟨h1,rfl,h2,rfl⟩) (fun m h1 h2 h3=> ⟨h1,rfl,h2,rfl⟩)
 constructor
 case' nlt=> have:=h.nlt;have:=h.sp
 case' nu=> have:=h.nu;have:=h.nlt;have:=h.sp
 case' kb=> have:=h.kb;have:=h.nlt;have:=h.sp
 case' kl0=> have:=h.kl0;have:=h.nlt;have:=h.sp
 case' kl3=> have:=h.kl3;have:=h.nlt;have:=h.sp
 case' ku=> have:=h.ku;have:=h.nlt;have:=h.sp
 case' wu=> have:=h.wu;have:=h.nlt;have:=h.sp
 case' wr=> have:=h.wr;have:=h.nlt;have:=h.sp
 case' w2=> have:=h.w2;have:=h.nlt;have:=h.sp
 case' rvc=> have:=h.rvc;have:=h.nlt;have:=h.sp
 case' phb=> have:=h.phb;have:=h.nlt;have:=h.sp
 case' new=> have:=h.new;have:=h.nlt
 case' lk2=> have:=h.lk2;have:=h.nlt;have:=h.sp
 case' lk3=> have:=h.lk3;have:=h.nlt;have:=h.sp
 case' st=> have:=h.st;have:=h.nlt;have:=h.sp
 case' vc=> have:=h.vc;have:=h.nlt;have:=h.sp
 case' J=> have:=h.J;have:=h.nlt;have:=h.sp;have:=h.lk2;have:=h.kl0;have:=h.R1
 case' I7=> have:=h.I7;have:=h.nlt;have:=h.sp
 case' K1=> have:=h.K1;have:=h.nlt;have:=h.sp
 case' K2=> have:=h.K2;have:=h.nlt;have:=h.sp
 case' V=> have:=h.V;have:=h.nlt;have:=h.sp
 case' HI=> have:=h.HI;have:=h.nlt;have:=h.sp
 case' L=> have:=h.L;have:=h.nlt;have:=h.sp
 case' sp=> have:=h.sp;have:=h.nlt
 case' R0=> have:=h.R0;have:=h.nlt;have:=h.sp
 case' R1=> have:=h.R1;have:=h.nlt;have:=h.sp
 case' R2=> have:=h.R2;have:=h.nlt;have:=h.sp
 case main=>
  intro n hn t v hr
  refine hv _ _ _ ?_
  rcases hr with hr|⟨rfl,rfl,rfl⟩
  ·exact h.main n hn t v hr
  ·have hp:=h.sp th a ha (by omega)
   rw[show (AS.read s th a).key a.n=s.key a.n from rfl,h.kl0 th a ha (by omega)]
   rcases h.R2 th a ha hs with g|⟨th',a',g1,g2,g3⟩|g
   ·exact g
   ·omega
   ·omega
 all_goals (simp only[AS.read,AS.Ent,zAc,zGo,qJ,zCf] at*;grind)
def AS.note (s:AS) (th:Nat) (a:LA) (L:Int->Option Int):AS:={ s with lg:=zAc s.lg a.n L,ts:=zCb s.ts th (some { a with ss:=0 }) }
theorem OInv.note (h:OInv sf f s) {th:Nat} {a:LA} {L:Int->Option Int} (ha:s.ts th=some a) (hp:a.ph=0):OInv sf f (s.note th a L):=by
 have hp0:=h.kl0 th a ha (by omega)
 have hv:∀k t v,Val s f k t v->Val (s.note th a L) f k t v:=fun k t v hv=> by
  refine hv.to (fun m h1 h2 h3=> ?_) (fun m h1 h2 h3=> ?_)
  ·simp only[AS.note,AS.Ent,zAc] at*;grind
  ·simp only[AS.note,AS.Ent,zAc] at*;grind
 constructor
 case' nlt=> have:=h.nlt;have:=h.nu
 case' nu=> have:=h.nu;have:=h.nlt
 case' kb=> have:=h.kb;have:=h.nlt;have:=h.nu
 case' kl0=> have:=h.kl0;have:=h.nlt;have:=h.nu
 case' kl3=> have:=h.kl3;have:=h.nlt;have:=h.nu
 case' ku=> have:=h.ku;have:=h.nlt;have:=h.nu
 case' wu=> have:=h.wu;have:=h.nlt;have:=h.nu
 case' wr=> have:=h.wr;have:=h.nlt;have:=h.nu
 case' w2=> have:=h.w2;have:=h.nlt;have:=h.nu
 case' rvc=> have:=h.rvc;have:=h.nlt;have:=h.nu
 case' phb=> have:=h.phb;have:=h.nlt;have:=h.nu
 case' new=> have:=h.new;have:=h.nlt;have:=h.nu
 case' lk2=> have:=h.lk2;have:=h.nlt;have:=h.nu
 case' lk3=> have:=h.lk3;have:=h.nlt;have:=h.nu
 case' st=> have:=h.st;have:=h.nlt;have:=h.nu
 case' vc=> have:=h.vc;have:=h.nlt;have:=h.nu
 case' J=> have:=h.J;have:=h.nlt;have:=h.nu
 case' I7=> have:=h.I7;have:=h.nlt;have:=h.nu
 case' K1=> have:=h.K1;have:=h.nlt;have:=h.nu
 case' K2=> have:=h.K2;have:=h.nlt;have:=h.nu
 case' V=> have:=h.V;have:=h.nlt;have:=h.nu
 case' HI=> have:=h.HI;have:=h.nlt
 case' L=> have:=h.L;have:=h.nlt;have:=h.nu
 case' sp=> have:=h.sp;have:=h.nlt;have:=h.nu
 case' R0=> have:=h.R0;have:=h.nlt;have:=h.nu
 case' R1=> have:=h.R1;have:=h.nlt;have:=h.nu
 case' R2=> have:=h.R2;have:=h.nlt;have:=h.nu
 case' main=> have:=h.main;have:=h.nlt;have:=h.nu
 all_goals (simp only[AS.note,AS.Ent,zAc,zGo,qJ,zCf] at*;grind)
def AS.lock (s:AS) (th i:Nat):AS:={ s with own:=zAc s.own i th }
theorem OInv.lock (h:OInv sf f s) {th i:Nat} {a:LA} (ha:s.ts th=some a) (hp:a.ph=0) (ho:s.own i= -1):OInv sf f (s.lock th i):=by
 have hv:∀k t v,Val s f k t v->Val (s.lock th i) f k t v:=fun k t v hv=> hv.to (fun m h1 h2 h3=> ⟨h1,rfl,h2,rfl⟩) (fun m h1 h2 h3=> ⟨h1,rfl,h2,rfl⟩)
 constructor
 case' nlt=> have:=h.nlt
 case' nu=> have:=h.nu
 case' kb=> have:=h.kb
 case' kl0=> have:=h.kl0
 case' kl3=> have:=h.kl3
 case' ku=> have:=h.ku
 case' wu=> have:=h.wu
 case' wr=> have:=h.wr
 case' w2=> have:=h.w2
 case' rvc=> have:=h.rvc
 case' phb=> have:=h.phb
 case' new=> have:=h.new
 case' lk2=> have:=h.lk2
 case' lk3=> have:=h.lk3
 case' st=> have:=h.st
 case' vc=> have:=h.vc
 case' J=> have:=h.J
 case' I7=> have:=h.I7
 case' K1=> have:=h.K1
 case' K2=> have:=h.K2
 case' V=> have:=h.V
 case' HI=> have:=h.HI
 case' L=> have:=h.L
 case' sp=> have:=h.sp
 case' R0=> have:=h.R0
 case' R1=> have:=h.R1
 case' R2=> have:=h.R2
 case' main=> have:=h.main
 all_goals (simp only[AS.lock,AS.Ent,zAc,zGo,qJ,zCf] at*;grind)
def AS.tick (s:AS) (th:Nat) (a:LA):AS:={ s with c:=s.c+1,ts:=zCb s.ts th (some { a with ph:=2,wv:=s.c+1,chk:=fun _=> False,ss:=0 }) }
theorem OInv.tick (h:OInv sf f s) {th:Nat} {a:LA} (ha:s.ts th=some a) (hp:a.ph=0) (hl:∀t,s.lg a.n t≠none->s.own (sf t)=th):OInv sf f (s.tick th a):=by
 have hN:∀n,n<s.N->s.key n<=2*s.c+1:=fun n hn=> (h.kb n hn).2
 have hv:∀k t v,Val s f k t v->Val (s.tick th a) f k t v:=fun k t v hv=> hv.to (fun m h1 h2 h3=> ⟨h1,rfl,h2,rfl⟩) (fun m h1 h2 h3=> ⟨h1,rfl,h2,rfl⟩)
 have hw:∀t v,Val s f (2*s.c+2) t v->Val (s.tick th a) f (2*(s.c+1)+2) t v:=fun t v hv=> hv.to (fun m h1 h2 h3=> ⟨h1,rfl,by have:=hN m h1.1;simp only[AS.tick] at h2⊢;omega,rfl⟩) (fun m h1 h2 h3=> ⟨h1,rfl,by simp only[AS.tick] at h2⊢;omega,rfl⟩)
 constructor
 case' nlt=> have:=h.nlt;have:=h.kb
 case' nu=> have:=h.nu;have:=h.nlt;have:=h.kb
 case' kb=> have:=h.kb;have:=h.nlt
 case' kl0=> have:=h.kl0;have:=h.nlt;have:=h.kb
 case' kl3=> have:=h.kl3;have:=h.nlt;have:=h.kb
 case' ku=> have:=h.ku;have:=h.nlt;have:=h.kb
 case' wu=> have:=h.wu;have:=h.nlt;have:=h.kb
 case' wr=> have:=h.wr;have:=h.rvc
 case' w2=> have:=h.w2;have:=h.wr
 case' rvc=> have:=h.rvc;have:=h.nlt;have:=h.kb
 case' phb=> have:=h.phb;have:=h.nlt;have:=h.kb
 case' new=> have:=h.new;have:=h.nlt;have:=h.kb
 case' lk2=> have:=h.lk2;have:=h.nlt;have:=h.kb
 case' lk3=> have:=h.lk3;have:=h.nlt;have:=h.kb
 case' st=> have:=h.st;have:=h.vc
 case' vc=> have:=h.vc;have:=h.nlt;have:=h.kb
 case' J=> have:=h.J;have:=h.nlt;have:=h.kb
 case' I7=> have:=h.I7;have:=h.nlt;have:=h.kb
 case' K1=> have:=h.K1;have:=h.wr
 case' K2=> have:=h.K2;have:=h.nlt;have:=h.kb
 case' V=> have:=h.V;have:=h.nlt;have:=h.kb
 case' HI=> have:=h.HI;have:=h.nlt;have:=h.kb
 case' L=> have:=h.L;have:=h.nlt;have:=h.kb
 case' sp=> have:=h.sp;have:=h.nlt;have:=h.kb
 case' R0=> have:=h.R0;have:=h.nlt;have:=h.kb
 case' R1=> have:=h.R1;have:=h.rvc
 case' R2=> have:=h.R2;have:=h.nlt;have:=h.kb
 case' main=> have:=h.main;have:=h.nlt;have:=h.kb
 all_goals (simp only[AS.tick,AS.Ent,zAc,zGo,qJ,zCf] at*;grind)
def AS.pass (s:AS) (th:Nat) (a:LA) (x:Int):AS:={ s with ts:=zCb s.ts th (some { a with chk:=fun t=> a.chk t∨t=x }) }
theorem OInv.pass (h:OInv sf f s) {th:Nat} {a:LA} {x:Int} (ha:s.ts th=some a) (hp:a.ph=2) (ho:s.own (sf x)= -1∨s.own (sf x)=th) (hr:s.ver (sf x)<=a.rv):OInv sf f (s.pass th a x):=by
 have hv:∀k t v,Val s f k t v->Val (s.pass th a x) f k t v:=fun k t v hv=> hv.to (fun m h1 h2 h3=> ⟨h1,rfl,h2,rfl⟩) (fun m h1 h2 h3=> ⟨h1,rfl,h2,rfl⟩)
 constructor
 case' nlt=> have:=h.nlt
 case' nu=> have:=h.nu;have:=h.nlt
 case' kb=> have:=h.kb;have:=h.nlt
 case' kl0=> have:=h.kl0;have:=h.nlt
 case' kl3=> have:=h.kl3;have:=h.nlt
 case' ku=> have:=h.ku;have:=h.nlt
 case' wu=> have:=h.wu;have:=h.nlt
 case' wr=> have:=h.wr;have:=h.nlt
 case' w2=> have:=h.w2;have:=h.nlt
 case' rvc=> have:=h.rvc;have:=h.nlt
 case' phb=> have:=h.phb;have:=h.nlt
 case' new=> have:=h.new;have:=h.nlt
 case' lk2=> have:=h.lk2;have:=h.nlt
 case' lk3=> have:=h.lk3;have:=h.nlt
 case' st=> have:=h.st;have:=h.nlt
 case' vc=> have:=h.vc;have:=h.nlt
 case' J=> have:=h.J;have:=h.nlt
 case' I7=> have:=h.I7;have:=h.nlt
 case' K1=> have:=h.K1;have:=h.lk2
 case' K2=> have:=h.K2;have:=h.V;have:=h.lk3
 case' V=> have:=h.V;have:=h.nlt
 case' HI=> have:=h.HI;have:=h.nlt
 case' L=> have:=h.L;have:=h.nlt
 case' sp=> have:=h.sp;have:=h.nlt
 case' R0=> have:=h.R0;have:=h.nlt
 case' R1=> have:=h.R1;have:=h.nlt
 case' R2=> have:=h.R2;have:=h.nlt
 case' main=> have:=h.main;have:=h.nlt
 all_goals (simp only[AS.pass,AS.Ent,zAc,zGo,qJ,zCf] at*;grind)
def AS.decide (s:AS) (th:Nat) (a:LA):AS:={ s with key:=zAc s.key a.n (2*a.wv),ts:=zCb s.ts th (some { a with ph:=3,rest:=fun t=> s.lg a.n t≠none,ss:=0 }) }
theorem OInv.decide (h:OInv sf f s) {th:Nat} {a:LA} (ha:s.ts th=some a) (hp:a.ph=2) (hc:∀t v,s.rds a.n t v->a.chk t):OInv sf f (s.decide th a):=by
 have hpr:=h.wr th a ha (.inl hp)
 have hk:=h.kl0 th a ha (by omega)
 have hn:=h.nlt th a ha
 have hne:∀m,s.Ent m->m≠a.n:=fun m hm he=> by subst he;have:=hm.2;omega
 have hE:∀m,(s.decide th a).Ent m->m≠a.n->s.Ent m/\(s.decide th a).key m=s.key m:=fun m hm he=> by
  simp only[AS.decide,AS.Ent,zAc,if_neg he] at hm⊢;exact⟨hm,trivial⟩
 have hB:∀m,s.Ent m->(s.decide th a).Ent m/\(s.decide th a).key m=s.key m:=fun m hm=> by
  simp only[AS.decide,AS.Ent,zAc,if_neg (hne m hm)] at hm⊢;exact⟨hm,trivial⟩
 have hself:(s.decide th a).key a.n=2*a.wv:=by simp[AS.decide,zAc]
 have hvLe:∀k t v,k<=2*a.wv->Val s f k t v->Val (s.decide th a) f k t v:=fun k t v hle hv=> by
  refine hv.to (fun m h1 h2 h3=> ?_) (fun m h1 h2 h3=> ?_)
  ·have:m≠a.n:=fun he=> by subst he;omega
   obtain⟨g1,g2⟩:=hE m h1 this
   exact⟨g1,g2.symm,by omega,rfl⟩
  ·obtain⟨g1,g2⟩:=hB m h1
   exact⟨g1,g2,by omega,rfl⟩
 have hvNo:∀k t v,s.lg a.n t=none->Val s f k t v->Val (s.decide th a) f k t v:=fun k t v hno hv=> by
  refine hv.to (fun m h1 h2 h3=> ?_) (fun m h1 h2 h3=> ?_)
  ·have:m≠a.n:=fun he=> by subst he;exact h3 hno
   obtain⟨g1,g2⟩:=hE m h1 this
   exact⟨g1,g2.symm,by omega,rfl⟩
  ·obtain⟨g1,g2⟩:=hB m h1
   exact⟨g1,g2,by omega,rfl⟩
 have hvNew:∀k t v,s.lg a.n t=some v->2*a.wv<k->Val (s.decide th a) f k t v:=fun k t v hs hlt=> by
  refine .inl ⟨a.n,⟨hn,by omega⟩,by omega,hs,fun m h1 h2 h3=> ?_⟩
  have:m≠a.n:=fun he=> by subst he;omega
  obtain⟨g1,g2⟩:=hE m h1 this
  by_cases hl:s.lg m t=none
  ·exact hl
  ·have:=h.I7 th a ha hp m g1 (by omega) t hl
   rw[this] at hs;cases hs
 constructor
 case' nlt=> have:=h.nlt;have:=h.nu
 case' nu=> have:=h.nu;have:=h.nlt
 case kb=>
  intro n hn'
  have:=h.kb n hn'
  by_cases e:n=a.n
  ·subst e;rw[hself];have:=h.rvc th a ha;simp only[AS.decide];omega
  ·simp only[AS.decide,zAc,if_neg e];exact this
 case' kl0=> have:=h.kl0;have:=h.nlt;have:=h.nu
 case' kl3=> have:=h.kl3;have:=h.nu
 case ku=>
  intro n m h1 h2 h3
  by_cases e1:n=a.n<;> by_cases e2:m=a.n
  ·omega
  ·have g:=hE m h2 e2
   rw[e1,hself,g.2] at h3
   exact absurd h3.symm (h.wu th a ha hp m g.1.1)
  ·have g:=hE n h1 e1
   rw[e2,hself,g.2] at h3
   exact absurd h3 (h.wu th a ha hp n g.1.1)
  ·have g1:=hE n h1 e1
   have g2:=hE m h2 e2
   exact h.ku n m g1.1 g2.1 (by omega)
 case wu=>
  intro i b hb h2 n hn'
  simp only[AS.decide,qJ] at hb
  rcases hb with ⟨rfl,rfl⟩|⟨hne2,hb⟩
  ·cases h2
  ·by_cases e:n=a.n
   ·subst e;rw[hself];intro e
    exact hne2 (h.w2 i b th a hb ha h2 hp (by omega))
   ·simp only[AS.decide,zAc,if_neg e];exact h.wu i b hb h2 n hn'
 case' wr=> have:=h.wr;have:=h.nlt;have:=h.nu
 case' w2=> have:=h.w2;have:=h.nlt;have:=h.nu
 case' rvc=> have:=h.rvc;have:=h.nlt;have:=h.nu
 case' phb=> have:=h.phb;have:=h.nlt;have:=h.nu
 case' new=> have:=h.new;have:=h.nlt;have:=h.nu
 case' lk2=> have:=h.lk2;have:=h.nlt;have:=h.nu
 case' lk3=> have:=h.lk3;have:=h.lk2
 case' st=> have:=h.st;have:=h.nlt;have:=h.nu
 case' vc=> have:=h.vc;have:=h.nlt;have:=h.nu
 case J=>
  intro i b hb h2 n hn' hne' hlt t v hr
  simp only[AS.decide,qJ] at hb
  rcases hb with ⟨rfl,rfl⟩|⟨hne2,hb⟩
  ·cases h2
  ·by_cases e:n=a.n
   ·subst e
    exact h.K1 th a ha hp t (hc t v hr) i b hb hne2 h2 (by omega)
   ·have:(s.decide th a).key n=s.key n:=by simp only[AS.decide,zAc,if_neg e]
    exact h.J i b hb h2 n hn' hne' (by omega) t v hr
 case I7=>
  intro i b hb h2 m hm hlt t hl
  simp only[AS.decide,qJ] at hb
  rcases hb with ⟨rfl,rfl⟩|⟨hne',hb⟩
  ·cases h2
  ·by_cases e:m=a.n
   ·subst e
    have g1:=h.lk2 th a ha hp t hl
    by_cases hl2:s.lg b.n t=none
    ·exact hl2
    ·have:=h.lk2 i b hb h2 t hl2;omega
   ·have g:=hE m hm e
    exact h.I7 i b hb h2 m g.1 (by omega) t hl
 case' K1=> have:=h.K1;have:=h.nlt;have:=h.nu
 case K2=>
  intro i b hb h2 t hc' m hm h4 h5
  simp only[AS.decide,qJ] at hb
  rcases hb with ⟨rfl,rfl⟩|⟨hne',hb⟩
  ·cases h2
  ·by_cases e:m=a.n
   ·subst e
    exact h.K1 i b hb h2 t hc' th a ha (fun e=> hne' e.symm) hp (by omega)
   ·have g:=hE m hm e
    exact h.K2 i b hb h2 t hc' m g.1 (by omega) (by omega)
 case V=>
  intro m hm t hl
  by_cases e:m=a.n
  ·subst e
   refine .inr ⟨th,{ a with ph:=3,rest:=fun t=> s.lg a.n t≠none,ss:=0 },?_,rfl,rfl,h.lk2 th a ha hp t hl⟩
   simp only[AS.decide,qJ];exact .inl ⟨trivial,trivial⟩
  ·have g:=hE m hm e
   rcases h.V m g.1 t hl with g1|⟨th',a',g1,g2,g3,g4⟩
   ·exact .inl (by rw[g.2];exact g1)
   ·refine .inr ⟨th',a',?_,g2,g3,g4⟩
    simp only[AS.decide,qJ];grind
 case HI=>
  intro t
  by_cases hl:s.lg a.n t=none
  ·rcases h.HI t with ⟨th',a',g1,g2,g3⟩|g
   ·refine .inl ⟨th',a',?_,g2,g3⟩
    simp only[AS.decide,qJ];grind
   ·exact .inr (hvNo _ _ _ hl g)
  ·refine .inl ⟨th,{ a with ph:=3,rest:=fun t=> s.lg a.n t≠none,ss:=0 },?_,rfl,hl⟩
   simp only[AS.decide,qJ];exact .inl ⟨trivial,trivial⟩
 case L=>
  intro i b hb h3 t v hr hs
  simp only[AS.decide,qJ] at hb
  rcases hb with ⟨rfl,rfl⟩|⟨hne',hb⟩
  ·exact hvNew _ t v hs (by have:=hpr.2;simp only[AS.decide];omega)
  ·have h4:=h.lk3 i b hb h3 t hr
   refine hvNo _ _ _ ?_ (h.L i b hb h3 t v hr hs)
   by_cases hl:s.lg a.n t=none
   ·exact hl
   ·have:=h.lk2 th a ha hp t hl;omega
 case' sp=> have:=h.sp;have:=h.nlt;have:=h.nu
 case' R0=> have:=h.R0;have:=h.nlt;have:=h.nu
 case' R1=> have:=h.R1;have:=h.nlt;have:=h.nu
 case R2=>
  intro i b hb h2
  simp only[AS.decide,qJ] at hb
  rcases hb with ⟨rfl,rfl⟩|⟨hne',hb⟩
  ·cases h2
  ·rcases h.R2 i b hb h2 with g|⟨th',a',g1,g2,g3⟩|g
   ·left
    by_cases hle:2*b.rv+1<=2*a.wv
    ·exact hvLe _ _ _ hle g
    ·exact hvNo _ _ _ (h.R1 i b hb (by omega) th a ha hp (by omega)) g
   ·refine .inr (.inl ⟨th',a',?_,g2,g3⟩)
    simp only[AS.decide,qJ];grind
   ·exact .inr (.inr g)
 case main=>
  intro n hn' t v hr
  by_cases he:n=a.n
  ·subst he
   rw[hself]
   refine hvLe _ _ _ (Int.le_refl _) ?_
   have hm:=h.main a.n hn t v hr
   rw[hk] at hm
   refine hm.to (fun m h1 h2 h3=> ⟨h1,rfl,?_,rfl⟩) (fun m h1 h2 h3=> ⟨h1,rfl,by omega,rfl⟩)
   by_cases hlt:s.key m<2*a.rv+1
   ·exact hlt
   ·have:=h1.2
    exact absurd (h.K2 th a ha hp t (hc t v hr) m h1 (by omega) h2) h3
  ·have hkn:(s.decide th a).key n=s.key n:=by simp only[AS.decide,zAc,if_neg he]
   rw[hkn]
   by_cases hle:s.key n<=2*a.wv
   ·exact hvLe _ _ _ hle (h.main n hn' t v hr)
   ·exact hvNo _ _ _ (h.J th a ha hp n hn' he (by omega) t v hr) (h.main n hn' t v hr)
 all_goals (simp only[AS.decide,AS.Ent,zAc,zGo,qJ,zCf] at*;grind)
def AS.write (s:AS) (th:Nat) (a:LA) (x w:Int):AS:={ s with hp:=zGo s.hp x w,ts:=zCb s.ts th (some { a with rest:=fun u=> a.rest u/\u≠x,ss:=0 }) }
theorem OInv.write (h:OInv sf f s) {th:Nat} {a:LA} {x w:Int} (ha:s.ts th=some a) (hp:a.ph=3) (hr:a.rest x) (hs:s.lg a.n x=some w):OInv sf f (s.write th a x w):=by
 have hvv:∀k t v,Val s f k t v->Val (s.write th a x w) f k t v:=fun k t v hv=> hv.to (fun m h1 h2 h3=> ⟨h1,rfl,h2,rfl⟩) (fun m h1 h2 h3=> ⟨h1,rfl,h2,rfl⟩)
 constructor
 case' nlt=> have:=h.nlt
 case' nu=> have:=h.nu;have:=h.nlt
 case' kb=> have:=h.kb;have:=h.nlt
 case' kl0=> have:=h.kl0;have:=h.nlt
 case' kl3=> have:=h.kl3;have:=h.nlt
 case' ku=> have:=h.ku;have:=h.nlt
 case' wu=> have:=h.wu;have:=h.nlt
 case' wr=> have:=h.wr;have:=h.nlt
 case' w2=> have:=h.w2;have:=h.nlt
 case' rvc=> have:=h.rvc;have:=h.nlt
 case' phb=> have:=h.phb;have:=h.nlt
 case' new=> have:=h.new;have:=h.nlt
 case' lk2=> have:=h.lk2;have:=h.nlt
 case lk3=>
  intro i b hb h3 u hr'
  simp only[AS.write,qJ] at hb
  rcases hb with ⟨rfl,rfl⟩|⟨hne',hb⟩
  ·exact h.lk3 i a ha hp u hr'.1
  ·exact h.lk3 i b hb h3 u hr'
 case' st=> have:=h.st;have:=h.nlt
 case' vc=> have:=h.vc;have:=h.nlt
 case' J=> have:=h.J;have:=h.nlt
 case' I7=> have:=h.I7;have:=h.nlt
 case' K1=> have:=h.K1;have:=h.nlt
 case' K2=> have:=h.K2;have:=h.nlt
 case V=>
  intro m hm u hl
  rcases h.V m hm u hl with g1|⟨th',a',g1,g2,g3,g4⟩
  ·exact .inl g1
  ·right
   by_cases e2:th'=th
   ·subst e2
    rw[ha] at g1;cases g1
    refine⟨th',{ a with rest:=fun u=> a.rest u/\u≠x,ss:=0 },?_,hp,g3,g4⟩
    simp only[AS.write,qJ];exact .inl ⟨trivial,trivial⟩
   ·refine⟨th',a',?_,g2,g3,g4⟩
    simp only[AS.write,qJ];exact .inr ⟨e2,g1⟩
 case HI=>
  intro u
  by_cases e:u=x
  ·subst e
   right
   have:=hvv _ _ _ (h.L th a ha hp u w hr hs)
   simpa [AS.write,zGo] using this
  ·rcases h.HI u with ⟨th',a',g1,g2,g3⟩|g
   ·left
    by_cases e2:th'=th
    ·subst e2
     rw[ha] at g1;cases g1
     refine⟨th',{ a with rest:=fun u=> a.rest u/\u≠x,ss:=0 },?_,hp,⟨g3,e⟩⟩
     simp only[AS.write,qJ];exact .inl ⟨trivial,trivial⟩
    ·refine⟨th',a',?_,g2,g3⟩
     simp only[AS.write,qJ];exact .inr ⟨e2,g1⟩
   ·right
    have:=hvv _ _ _ g
    simpa [AS.write,zGo,e] using this
 case L=>
  intro i b hb h3 u w' hr' hs'
  simp only[AS.write,qJ] at hb
  rcases hb with ⟨rfl,rfl⟩|⟨hne',hb⟩
  ·exact hvv _ _ _ (h.L i a ha hp u w' hr'.1 hs')
  ·exact hvv _ _ _ (h.L i b hb h3 u w' hr' hs')
 case' sp=> have:=h.sp;have:=h.nlt
 case' R0=> have:=h.R0;have:=h.nlt
 case' R1=> have:=h.R1;have:=h.nlt
 case R2=>
  intro i b hb h2
  simp only[AS.write,qJ] at hb
  rcases hb with ⟨rfl,rfl⟩|⟨hne',hb⟩
  ·cases h2
  ·rcases h.R2 i b hb h2 with g|⟨th',a',g1,g2,g3⟩|g
   ·exact .inl (hvv _ _ _ g)
   ·refine .inr (.inl ?_)
    by_cases e2:th'=th
    ·subst e2
     rw[ha] at g1;cases g1
     refine⟨th',{ a with rest:=fun u=> a.rest u/\u≠x,ss:=0 },?_,hp,g3⟩
     simp only[AS.write,qJ];exact .inl ⟨trivial,trivial⟩
    ·refine⟨th',a',?_,g2,g3⟩
     simp only[AS.write,qJ];exact .inr ⟨e2,g1⟩
   ·exact .inr (.inr g)
 case main=> exact fun n hn t v hr=> hvv _ _ _ (h.main n hn t v hr)
 all_goals (simp only[AS.write,AS.Ent,zAc,zGo,qJ,zCf] at*;grind)
def AS.free (s:AS) (a:LA) (i:Nat):AS:={ s with own:=zAc s.own i (-1),ver:=zAc s.ver i a.wv }
theorem OInv.free (h:OInv sf f s) {a:LA} {i:Nat} {th:Nat} (ha:s.ts th=some a) (hp:a.ph=3) (he:∀t,¬a.rest t) (ho:s.own i=th):OInv sf f (s.free a i):=by
 have hv:∀k t v,Val s f k t v->Val (s.free a i) f k t v:=fun k t v hv=> hv.to (fun m h1 h2 h3=> ⟨h1,rfl,h2,rfl⟩) (fun m h1 h2 h3=> ⟨h1,rfl,h2,rfl⟩)
 constructor
 case' nlt=> have:=h.nlt
 case' nu=> have:=h.nu
 case' kb=> have:=h.kb
 case' kl0=> have:=h.kl0
 case' kl3=> have:=h.kl3
 case' ku=> have:=h.ku
 case' wu=> have:=h.wu
 case' wr=> have:=h.wr
 case' w2=> have:=h.w2
 case' rvc=> have:=h.rvc
 case' phb=> have:=h.phb
 case' new=> have:=h.new
 case lk2=>
  intro j b hb' h2 t hl
  have hb:s.ts j=some b:=hb'
  clear hb'
  have:=h.lk2 j b hb h2 t hl
  by_cases e:sf t=i
  ·subst e
   have:j=th:=by omega
   subst this
   rw[ha] at hb;cases hb;omega
  ·simp only[AS.free,zAc,if_neg e];exact this
 case lk3=>
  intro j b hb' h2 t hl
  have hb:s.ts j=some b:=hb'
  clear hb'
  have:=h.lk3 j b hb h2 t hl
  by_cases e:sf t=i
  ·subst e
   have:j=th:=by omega
   subst this
   rw[ha] at hb;cases hb;exact absurd hl (he t)
  ·refine⟨?_,this.2⟩
   simp only[AS.free,zAc,if_neg e];exact this.1
 case' st=> have:=h.st
 case' vc=> have:=h.vc;have:=h.wr
 case' J=> have:=h.J
 case' I7=> have:=h.I7
 case' K1=> have:=h.K1
 case' K2=> have:=h.K2
 case V=>
  intro m hm t hl
  by_cases e:sf t=i
  ·subst e
   left
   have hst:=h.st th a ha (.inr hp) _ ho
   simp only[AS.free,zAc,if_true]
   rcases h.V m hm t hl with g1|⟨th',a',g1,g2,g3,g4⟩
   ·omega
   ·have:th'=th:=by omega
    subst this
    rw[ha] at g1;cases g1
    have:=h.kl3 th' a ha hp
    rw[←g3,this]
    exact Int.le_refl _
  ·simp only[AS.free,zAc,if_neg e]
   exact h.V m hm t hl
 case' HI=> have:=h.HI
 case' L=> have:=h.L
 case' sp=> have:=h.sp
 case' R0=> have:=h.R0;have:=h.st
 case' R1=> have:=h.R1
 case R2=>
  intro j b hb h2
  rcases h.R2 j b hb h2 with g|⟨th',a',g1,g2,g3⟩|g
  ·exact .inl (hv _ _ _ g)
  ·by_cases e:sf b.t=i
   ·subst e
    right;right
    have hst:=h.st th a ha (.inr hp) _ ho
    have:=(h.R0 j b hb (by omega)).2
    simp only[AS.free,zAc,if_true];omega
   ·refine .inr (.inl ⟨th',a',g1,g2,?_⟩)
    simp only[AS.free,zAc,if_neg e];exact g3
  ·right;right
   by_cases e:sf b.t=i
   ·subst e
    have hst:=h.st th a ha (.inr hp) _ ho
    simp only[AS.free,zAc,if_true];omega
   ·simp only[AS.free,zAc,if_neg e];exact g
 case' main=> have:=h.main
 all_goals (simp only[AS.free,AS.Ent,zAc,zGo,qJ,zCf] at*;grind)
def AS.commit (s:AS) (th:Nat):AS:={ s with ts:=zCb s.ts th none }
theorem OInv.commit (h:OInv sf f s) {th:Nat} (ho:∀i,s.own i≠th):OInv sf f (s.commit th):=by
 have hv:∀k t v,Val s f k t v->Val (s.commit th) f k t v:=fun k t v hv=> hv.to (fun m h1 h2 h3=> ⟨h1,rfl,h2,rfl⟩) (fun m h1 h2 h3=> ⟨h1,rfl,h2,rfl⟩)
 constructor
 case' nlt=> have:=h.nlt
 case' nu=> have:=h.nu
 case' kb=> have:=h.kb
 case' kl0=> have:=h.kl0
 case' kl3=> have:=h.kl3
 case' ku=> have:=h.ku
 case' wu=> have:=h.wu
 case' wr=> have:=h.wr
 case' w2=> have:=h.w2
 case' rvc=> have:=h.rvc
 case' phb=> have:=h.phb
 case' new=> have:=h.new
 case' lk2=> have:=h.lk2
 case' lk3=> have:=h.lk3
 case' st=> have:=h.st
 case' vc=> have:=h.vc
 case' J=> have:=h.J
 case' I7=> have:=h.I7
 case' K1=> have:=h.K1
 case' K2=> have:=h.K2
 case' V=> have:=h.V
 case HI=>
  intro t
  rcases h.HI t with ⟨th',a',g1,g2,g3⟩|g
  ·left
   refine⟨th',a',?_,g2,g3⟩
   have:=h.lk3 th' a' g1 g2 t g3
   have h2:=ho (sf t)
   simp only[AS.commit,zCf]
   exact⟨fun e=> by subst e;exact h2 this.1,g1⟩
  ·exact .inr (hv _ _ _ g)
 case' L=> have:=h.L
 case' sp=> have:=h.sp
 case' R0=> have:=h.R0
 case' R1=> have:=h.R1
 case' R2=> have:=h.R2
 case' main=> have:=h.main
 all_goals (simp only[AS.commit,AS.Ent,zAc,zGo,qJ,zCf] at*;grind)
def AS.drop (s:AS) (th:Nat):AS:={ s with own:=fun i=> if s.own i=th then -1 else s.own i,ts:=zCb s.ts th none }
theorem OInv.drop (h:OInv sf f s) {th:Nat} {a:LA} (ha:s.ts th=some a) (hp:a.ph≠3):OInv sf f (s.drop th):=by
 have hv:∀k t v,Val s f k t v->Val (s.drop th) f k t v:=fun k t v hv=> hv.to (fun m h1 h2 h3=> ⟨h1,rfl,h2,rfl⟩) (fun m h1 h2 h3=> ⟨h1,rfl,h2,rfl⟩)
 constructor
 case' nlt=> have:=h.nlt
 case' nu=> have:=h.nu
 case' kb=> have:=h.kb
 case' kl0=> have:=h.kl0
 case' kl3=> have:=h.kl3
 case' ku=> have:=h.ku
 case' wu=> have:=h.wu
 case' wr=> have:=h.wr
 case' w2=> have:=h.w2
 case' rvc=> have:=h.rvc
 case' phb=> have:=h.phb
 case' new=> have:=h.new
 case' lk2=> have:=h.lk2
 case' lk3=> have:=h.lk3
 case' st=> have:=h.st
 case' vc=> have:=h.vc
 case' J=> have:=h.J
 case' I7=> have:=h.I7
 case' K1=> have:=h.K1
 case' K2=> have:=h.K2
 case' V=> have:=h.V
 case HI=>
  intro t
  rcases h.HI t with ⟨th',a',g1,g2,g3⟩|g
  ·left
   refine⟨th',a',?_,g2,g3⟩
   simp only[AS.drop,zCf]
   grind
  ·exact .inr (hv _ _ _ g)
 case' L=> have:=h.L
 case' sp=> have:=h.sp
 case' R0=> have:=h.R0
 case' R1=> have:=h.R1
 case' R2=> have:=h.R2
 case' main=> have:=h.main
 all_goals (simp only[AS.drop,AS.Ent,zAc,zGo,qJ,zCf] at*;grind)
end YtapbabkndhaemaaGreat
end Go.Proofs
/-
 OPAQUE:tl2's state,as the plain theorem has it.
-/
namespace Go.Proofs
namespace YtapbabkndhaemaaGreat
open Go.Abs
def sfm (m:Nat) (t:Int):Nat:=((t*5+3) % m).toNat
theorem zPe {ws:List Int} {c:Int} (h:GoodT ws c) {t:Int} (ht:0<=t/\t<12):ofT ws t=(sfm ws.length t:Int)/\sfm ws.length t<ws.length:=by
 have h1:=(zR8 h ht)
 unfold ofT at h1⊢
 rw[if_pos ht] at h1⊢
 unfold sfm
 omega
def la (a:TA):LA:=⟨a.n,a.rv,a.wv,if a.ph<=1 then 0 else if a.ph=2 then 2 else 3,fun t=> ∃j e,j<a.nx/\a.es[j]?=some e/\e.t=t,fun t=> a.ph=3/\∃j p,a.nx<=j/\(jC a.fs)[j]?=some p/\p.t=t,if a.ra.k=1 then a.ss else 0,a.ra.t,zBp a.sw,a.sv⟩
def hpF (hp:List Int) (t:Int):Int:=if 0<=t then (hp[t.toNat]?).getD 0 else 0
def zBe (ft:List Fate) (n:Nat):Int:=match ft[n]? with
 |some f=> f.key
 |none=> 0
def jE (s:TS):AS:=⟨s.c,fun i=> xX s.ws i,fun i=> zAu s.ws i,hpF s.hp,s.ft.length,zBe s.ft,fun n t v=> (⟨t,v⟩:Pr)∈(obS s.ev n).rds,fun n t=> qQ (obS s.ev n).fs t,fun th=> (s.ts th).map la⟩
theorem zFb {s s':AS} (h1:s.c=s'.c) (h2:∀i,s.own i=s'.own i) (h3:∀i,s.ver i=s'.ver i) (h4:∀t,s.hp t=s'.hp t) (h5:s.N=s'.N) (h6:∀n,s.key n=s'.key n) (h7:∀n t v,s.rds n t v↔s'.rds n t v) (h8:∀n t,s.lg n t=s'.lg n t) (h9:∀i,s.ts i=s'.ts i):s=s':=by
 obtain⟨a1,a2,a3,a4,a5,a6,a7,a8,a9⟩:=s
 obtain⟨b1,b2,b3,b4,b5,b6,b7,b8,b9⟩:=s'
 simp only at*
 subst h1 h5
 obtain rfl:=funext h2
 obtain rfl:=funext h3
 obtain rfl:=funext h4
 obtain rfl:=funext h6
 obtain rfl:=funext h9
 obtain rfl:a7=b7:=funext fun n=> funext fun t=> funext fun v=> propext (h7 n t v)
 obtain rfl:a8=b8:=funext fun n=> funext fun t=> h8 n t
 rfl
def lvS (s:TS) (th:Nat):Option Lv:=(s.ts th).map fun a=> ⟨a.n,decide (a.ph≠0),a.fs⟩
theorem qM2 {s:TS} {th:Nat} {x:Lv}:lvS s th=some x↔∃a,s.ts th=some a/\x=⟨a.n,decide (a.ph≠0),a.fs⟩:=by
 unfold lvS
 rw[Option.map_eq_some_iff]
 exact⟨fun⟨a,h1,h2⟩=> ⟨a,h1,h2.symm⟩,fun⟨a,h1,h2⟩=> ⟨a,h1,h2.symm⟩⟩
structure TOp (f:List Int) (s:TS):Prop where
 ok:s.Ok
 ev:EvOk s.hp.length s.ft.length s.ev (lvS s)
 inv:OInv (sfm s.ws.length) (hpF f) (jE s)
 oe:∀th a,s.ts th=some a->∀r∈(obS s.ev a.n).rds,∃e∈a.es,e.t=r.t
 fn:∀(n:Nat) (g:Fate),s.ft[n]?=some g->g.n=n
 sw:∀th a,s.ts th=some a->a.ra.k=1->1<=a.ss->zAx a.sw= -1
 par:∀n:Nat,n<s.ft.length->(∀th a,s.ts th=some a->a.n≠n)->(zAp s.ev n=4->zBe s.ft n % 2=1)/\(zAp s.ev n=3->zBe s.ft n % 2=0∨∀t,qQ (obS s.ev n).fs t=none)
 bf:∀n m:Nat,zCu s.ev n m=true->n<m/\zBe s.ft n<=zBe s.ft m
variable {f:List Int} {s:TS}
theorem TOp.ts (h:TOp f s) {th:Nat} {a:TA} (ha:s.ts th=some a):(jE s).ts th=some (la a):=by simp[jE,ha]
theorem TOp.lv (h:TOp f s) {th:Nat} {a:TA} (ha:s.ts th=some a):lvS s th=some ⟨a.n,decide (a.ph≠0),a.fs⟩:=by simp[lvS,ha]
theorem zIg {s s':TS} {th:Nat} {x:Option TA} (h:s'.ts=qB s.ts th x):lvS s'=zEx (lvS s) th (x.map fun a=> ⟨a.n,decide (a.ph≠0),a.fs⟩):=by
 funext i
 unfold lvS zEx
 rw[h]
 simp only[qB]
 split<;> rfl
theorem zH7 {ts:Nat->Option TA} {th i:Nat} {b x:TA}:qB ts th (some b) i=some x↔(i=th/\x=b)∨(i≠th/\ts i=some x):=by
 unfold qB;split<;> grind
theorem zI9 {ts:Nat->Option TA} {th i:Nat} {x:TA}:qB ts th none i=some x↔i≠th/\ts i=some x:=by
 unfold qB;split<;> grind
theorem TOp.move (h:TOp f s) {s':TS} {th:Nat} {a b:TA} (ha:s.ts th=some a) (hts:s'.ts=qB s.ts th (some b)) (hok:s'.Ok) (hI:OInv (sfm s'.ws.length) (hpF f) (jE s')) (hev:s'.ev=s.ev) (hhp:s'.hp.length=s.hp.length) (hft:s'.ft.length=s.ft.length) (hfn:∀(n:Nat) (g:Fate),s'.ft[n]?=some g->g.n=n)
  (hn:b.n=a.n) (hf:b.fs=a.fs) (hp:b.ph=0↔a.ph=0) (he:b.es=a.es) (hsw:b.ra.k=1->1<=b.ss->zAx b.sw= -1) (hk:∀n,n≠a.n->zBe s'.ft n=zBe s.ft n) (hk2:zBe s.ft a.n<=zBe s'.ft a.n):TOp f s':=by
 have hl:∀i,lvS s' i=lvS s i:=fun i=> by
  rw[zIg hts]
  unfold zEx
  split
  ·rename_i e
   subst e
   rw[h.lv ha,Option.map_some,hn,hf]
   by_cases e:a.ph=0
   ·have:=hp.2 e;simp[e,this]
   ·have:¬b.ph=0:=fun e2=> e (hp.1 e2)
    simp[e,this]
  ·rfl
 constructor
 case ok=> exact hok
 case ev=> rw[hhp,hft,hev];exact h.ev.same hl
 case inv=> exact hI
 case oe=>
  intro i x hx
  rw[hts,zH7] at hx
  rw[hev]
  rcases hx with ⟨rfl,rfl⟩|⟨_,hx⟩
  ·rw[hn,he];exact h.oe i a ha
  ·exact h.oe i x hx
 case fn=> exact hfn
 case sw=>
  intro i x hx
  rw[hts,zH7] at hx
  rcases hx with ⟨rfl,rfl⟩|⟨_,hx⟩
  ·exact hsw
  ·exact h.sw i x hx
 case par=>
  intro n hn' hno
  rw[hft] at hn'
  have hna:n≠a.n:=fun e=> hno th b (by rw[hts,zH7];exact .inl ⟨rfl,rfl⟩) (by omega)
  rw[hev,hk n hna]
  refine h.par n hn' fun i x hx=> ?_
  by_cases e:i=th
  ·subst e;rw[ha] at hx;cases hx;exact fun e=> hna e.symm
  ·exact hno i x (by rw[hts,zH7];exact .inr ⟨e,hx⟩)
 case bf=>
  intro n m hb
  rw[hev] at hb
  obtain⟨h1,h2⟩:=h.bf n m hb
  have hne:=h.ev.en n (zZm hb) th _ (h.lv ha)
  simp only at hne
  refine⟨h1,?_⟩
  rw[hk n (fun e=> hne e.symm)]
  by_cases e:m=a.n
  ·rw[e] at h2⊢;omega
  ·rw[hk m e];exact h2
theorem TOp.told (h:TOp f s) {s':TS} {th:Nat} {a:TA} (ha:s.ts th=some a) {y:Option TA} (hts:s'.ts=qB s.ts th y) (hok:s'.Ok) (hI:OInv (sfm s'.ws.length) (hpF f) (jE s')) {x:Ev} (hev:s'.ev=s.ev++[x]) (hE:EvOk s'.hp.length s'.ft.length s'.ev (lvS s')) (hft:s'.ft.length=s.ft.length) (hfn:∀(n:Nat) (g:Fate),s'.ft[n]?=some g->g.n=n)
  (hk:∀n,zBe s'.ft n=zBe s.ft n) (hx:x.a=a.n) (hx1:x.k≠1) (hsome:∀b,y=some b->b.n=a.n/\(b.ra.k=1->1<=b.ss->zAx b.sw= -1)/\∀r∈(obS s'.ev a.n).rds,∃e∈b.es,e.t=r.t)
  (hnone:y=none->(x.k=9->zBe s.ft a.n % 2=1)/\(x.k=8->zBe s.ft a.n % 2=0∨∀t,qQ (obS s'.ev a.n).fs t=none)):TOp f s':=by
 have hob:∀n:Int,n≠a.n->obS s'.ev n=obS s.ev n:=fun n hne=> by rw[hev,zDo,if_neg (by omega)]
 have hst0:zAp s.ev a.n≠0:=by
  have:=h.ev.st th _ (h.lv ha)
  simp only at this
  rw[this];split<;> omega
 constructor
 case ok=> exact hok
 case ev=> exact hE
 case inv=> exact hI
 case oe=>
  intro i z hz
  rw[hts] at hz
  cases y with
  |none=>
   rw[zI9] at hz
   have hne:(z.n:Int)≠a.n:=fun e=> hz.1 (h.ev.nu i th _ _ (h.lv hz.2) (h.lv ha) (by simp only;omega))
   rw[hob _ hne]
   exact h.oe i z hz.2
  |some b=>
   rw[zH7] at hz
   rcases hz with ⟨rfl,rfl⟩|⟨e,hz⟩
   ·have:=hsome z rfl
    rw[this.1];exact this.2.2
   ·have hne:(z.n:Int)≠a.n:=fun e2=> e (h.ev.nu i th _ _ (h.lv hz) (h.lv ha) (by simp only;omega))
    rw[hob _ hne]
    exact h.oe i z hz
 case fn=> exact hfn
 case sw=>
  intro i z hz
  rw[hts] at hz
  cases y with
  |none=> rw[zI9] at hz;exact h.sw i z hz.2
  |some b=>
   rw[zH7] at hz
   rcases hz with ⟨rfl,rfl⟩|⟨e,hz⟩
   ·exact (hsome z rfl).2.1
   ·exact h.sw i z hz
 case par=>
  intro n hn hno
  rw[hft] at hn
  rw[hk n]
  by_cases e:n=a.n
  ·subst e
   cases y with
   |some b=> exact absurd (hsome b rfl).1 (hno th b (by rw[hts,zH7];exact .inl ⟨rfl,rfl⟩))
   |none=>
    obtain⟨g1,g2⟩:=hnone rfl
    have hs:=zNs (l:=s.ev) (x:=x) (by rw[hx];exact hst0)
    rw[hx] at hs
    have hse:=h.ev.st th _ (h.lv ha)
    simp only at hse
    rw[hev]
    rw[hev] at g2
    constructor
    ·intro h4
     apply g1
     rw[hs,hse] at h4
     by_cases k9:x.k=9
     ·exact k9
     ·exfalso;split at h4
      ·omega
      ·split at h4
       ·omega
       ·split at h4
        ·omega
        ·first|omega|(split at h4<;> omega)
    ·intro h3
     apply g2
     rw[hs,hse] at h3
     by_cases k8:x.k=8
     ·exact k8
     ·exfalso
      rw[if_neg k8] at h3
      split at h3
      ·omega
      ·split at h3
       ·omega
       ·split at h3<;> omega
  ·rw[hob n (by omega),hev,zEj (by omega)]
   refine h.par n hn fun i z hz=> ?_
   by_cases ei:i=th
   ·subst ei;rw[ha] at hz;cases hz;exact fun e2=> e e2.symm
   ·refine hno i z ?_
    rw[hts]
    simp only[qB,if_neg ei];exact hz
 case bf=>
  intro n m hb
  rw[hk n,hk m]
  rw[hev] at hb
  by_cases hm:m<s.ft.length
  ·rw[zJm (h.ev.bg m hm)] at hb
   exact h.bf n m hb
  ·rw[zL6] at hb
   ·cases hb
   ·intro z hz
    rcases List.mem_append.1 hz with hz|hz
    ·have:=h.ev.ea z hz;omega
    ·simp only[List.mem_singleton] at hz;subst hz;exact fun h=> hx1 h.2
theorem qNe {ft:List Fate} {n:Nat} (hn:n<ft.length) (k:Int) (m:Nat):zBe (zF7 ft n k) m=if m=n then k else zBe ft m:=by
 unfold zF7 zBe
 rw[List.getElem?_eq_getElem hn]
 simp only[List.getElem?_set]
 by_cases h:n=m
 ·subst h;simp[hn]
 ·have h2:¬m=n:=fun e=> h e.symm
  simp[h,h2]
theorem zWd (ft:List Fate) (n:Nat) (w:Int) (m:Nat):zBe (zCn ft n w) m=zBe ft m:=by
 unfold zCn zBe
 cases hx:ft[n]? with
 |none=> rfl
 |some g=>
  simp only[List.getElem?_set]
  by_cases h:n=m
  ·subst h;simp only[if_true,hx];split
   ·rename_i h2;split at h2
    ·cases h2;rfl
    ·cases h2
   ·rename_i h2;split at h2
    ·cases h2
    ·have:=(List.getElem?_eq_some_iff.1 hx).1;omega
  ·simp[h]
theorem qQg {ft:List Fate} (h:∀(n:Nat) (g:Fate),ft[n]?=some g->g.n=n) (n:Nat) (w:Int):∀(m:Nat) (g:Fate),(zCn ft n w)[m]?=some g->g.n=m:=by
 intro m g hg
 unfold zCn at hg
 cases hx:ft[n]? with
 |none=> rw[hx] at hg;exact h m g hg
 |some y=>
  rw[hx] at hg
  simp only[List.getElem?_set] at hg
  split at hg
  ·rename_i e;subst e
   split at hg
   ·cases hg;exact h n y hx
   ·cases hg
  ·exact h m g hg
theorem qUj {ft:List Fate} (h:∀(n:Nat) (g:Fate),ft[n]?=some g->g.n=n) (n:Nat) (w:Int):∀(m:Nat) (g:Fate),(zF7 ft n w)[m]?=some g->g.n=m:=by
 intro m g hg
 unfold zF7 at hg
 cases hx:ft[n]? with
 |none=> rw[hx] at hg;exact h m g hg
 |some y=>
  rw[hx] at hg
  simp only[List.getElem?_set] at hg
  split at hg
  ·rename_i e;subst e
   split at hg
   ·cases hg;exact h n y hx
   ·cases hg
  ·exact h m g hg
end YtapbabkndhaemaaGreat
end Go.Proofs
/-
 OPAQUE:tl2:begin,end,ask.
-/
namespace Go.Proofs
namespace YtapbabkndhaemaaGreat
open Go.Abs
variable {f:List Int} {s:TS}
theorem TOp.begin (h:TOp f s) {th:Nat} (hth:th<4) (hb:zD8 s th=0):TOp f (zAt s th):=by
 obtain⟨h0,h64⟩:s.ts th=none/\s.ft.length<64:=by
  unfold zD8 at hb
  split at hb
  ·cases hb
  ·rename_i h0
   split at hb
   ·cases hb
   ·exact⟨by simpa using h0,by omega⟩
 have hnew:∀x∈s.ev,x.a≠(s.ft.length:Int):=fun x hx=> by have:=h.ev.ea x hx;omega
 have hob:∀n:Int,obS (zAt s th).ev n=obS s.ev n:=fun n=> by
  show obS (s.ev++[⟨1,s.ft.length,0,0⟩]) n=_
  rw[zDo];split
  ·exact zEb _ (.inl rfl)
  ·rfl
 have hkey:∀n,zBe (zAt s th).ft n=if n=s.ft.length then 2*s.c+1 else zBe s.ft n:=fun n=> by
  unfold zBe zAt
  simp only
  by_cases e:n<s.ft.length
  ·rw[List.getElem?_append_left e,if_neg (by omega)]
  ·by_cases e2:n=s.ft.length
   ·subst e2;simp
   ·rw[List.getElem?_eq_none (by simp;omega),List.getElem?_eq_none (by omega),if_neg e2]
 constructor
 case ok=> exact h.ok.begin hth hb
 case ev=>
  have hE:=h.ev.begin (th:=th) (by simp[lvS,h0]) h64
  have e1:(zAt s th).ft.length=s.ft.length+1:=by simp[zAt]
  rw[e1,zIg (s:=s) (s':=zAt s th) (th:=th) (x:=some (zB9 s.ft.length s.c)) rfl]
  exact hE
 case inv=>
  have hI:=(h.inv.begin (th:=th) (by simp[jE,h0]) h.ok.tab.c0).calm (th:=th) (b:=la (zB9 s.ft.length s.c)) (a:=⟨s.ft.length,s.c,0,0,fun _=> False,fun _=> False,0,0,0,0⟩) (by simp[AS.begin,zCb,jE]) rfl rfl (fun e=> absurd rfl e) rfl (fun e=> by cases e) (fun e=> by cases e) rfl
  have e:jE (zAt s th)=((jE s).begin th).calm th (la (zB9 s.ft.length s.c)):=by
   refine zFb rfl (fun i=> rfl) (fun i=> rfl) (fun i=> rfl) ?_ (fun n=> ?_) (fun n t v=> ?_) (fun n t=> ?_) (fun i=> ?_)
   ·simp[jE,zAt,AS.calm,AS.begin]
   ·show zBe (zAt s th).ft n=_
    rw[hkey];simp only[AS.calm,AS.begin,zAc,jE]
   ·show (⟨t,v⟩:Pr)∈(obS (zAt s th).ev n).rds↔_
    rw[hob];rfl
   ·show qQ (obS (zAt s th).ev n).fs t=_
    rw[hob];rfl
   ·show ((zAt s th).ts i).map la=_
    simp only[AS.calm,AS.begin,zCb,zAt,qB,jE]
    split<;> rfl
  rw[e];exact hI
 case oe=>
  intro i a hi
  rw[hob]
  have hi:qB s.ts th (some (zB9 s.ft.length s.c)) i=some a:=hi
  rw[zH7] at hi
  rcases hi with ⟨rfl,rfl⟩|⟨_,hi⟩
  ·intro r hr
   rw[show (zB9 s.ft.length s.c).n=s.ft.length from rfl,qCg hnew] at hr
   cases hr
  ·exact h.oe i a hi
 case fn=>
  intro n g hg
  have hg:(s.ft++[⟨s.ft.length,2*s.c+1,0⟩])[n]?=some g:=hg
  by_cases e:n<s.ft.length
  ·rw[List.getElem?_append_left e] at hg;exact h.fn n g hg
  ·by_cases e2:n=s.ft.length
   ·subst e2;simp at hg;rw[←hg]
   ·rw[List.getElem?_eq_none (by simp;omega)] at hg;cases hg
 case sw=>
  intro i a hi
  have hi:qB s.ts th (some (zB9 s.ft.length s.c)) i=some a:=hi
  rw[zH7] at hi
  rcases hi with ⟨rfl,rfl⟩|⟨_,hi⟩
  ·intro e;cases e
  ·exact h.sw i a hi
 case par=>
  intro n hn hno
  have e1:(zAt s th).ft.length=s.ft.length+1:=by simp[zAt]
  rw[e1] at hn
  have hne:n≠s.ft.length:=fun e=> hno th (zB9 s.ft.length s.c) (by simp[zAt,qB]) e.symm
  rw[hob,hkey,if_neg hne]
  have hst:zAp (zAt s th).ev n=zAp s.ev n:=by
   show zAp (s.ev++[⟨1,s.ft.length,0,0⟩]) n=_
   rw[zEj (by simp only;omega)]
  rw[hst]
  refine h.par n (by omega) fun i a hi=> ?_
  by_cases e:i=th
  ·subst e;rw[h0] at hi;cases hi
  ·exact hno i a (by simp[zAt,qB,e,hi])
 case bf=>
  intro n m hbf
  have hbf:zCu (s.ev++[⟨1,s.ft.length,0,0⟩]) n m=true:=hbf
  by_cases hm:m=s.ft.length
  ·subst hm
   rw[zZn hnew] at hbf
   obtain⟨y,hy,_⟩:=List.any_eq_true.1 hbf
   unfold xO at hy
   rw[List.mem_filter] at hy
   have hya:=h.ev.ea y hy.1
   have hyn:y.a=n:=by simpa using hy.2
   have hk:=h.inv.kb n (by simp only[jE];omega)
   rw[hkey,hkey,if_pos rfl,if_neg (by omega)]
   simp only[jE] at hk
   exact⟨by omega,hk.2⟩
  ·by_cases hm2:m<s.ft.length
   ·rw[zJm (h.ev.bg m hm2)] at hbf
    obtain⟨g1,g2⟩:=h.bf n m hbf
    rw[hkey,hkey,if_neg (by omega),if_neg hm]
    exact⟨g1,g2⟩
   ·rw[zL6] at hbf
    ·cases hbf
    ·intro x hx
     rcases List.mem_append.1 hx with hx|hx
     ·have:=h.ev.ea x hx;omega
     ·simp only[List.mem_singleton] at hx;subst hx;simp only;omega
theorem qI3 {s:TS} (h:s.Ok) {th:Nat} (hth:th<4):(zDc s.ws th).length=s.ws.length:=(zQx h.tab (o:=(th:Int)) ⟨by omega,by omega⟩).1
theorem TOp.end (h:TOp f s) {th:Nat} (hth:th<4) {a:TA} (ha:s.ts th=some a) (hp:a.ph<=2) (why:Int):TOp f (zBf s th a why):=by
 have hlv:=h.lv ha
 have hfl:(zBf s th a why).ft.length=s.ft.length:=xL _ _ _
 have hkl:=h.inv.kl0 th (la a) (h.ts ha) (by simp only[la];split<;> (try split)<;> omega)
 have hobs:∀n:Int,obS (s.ev++[⟨9,a.n,0,0⟩]) n=obS s.ev n:=fun n=> by
  rw[zDo];split
  ·exact zEb _ (by simp)
  ·rfl
 refine h.told ha (y:=none) rfl (h.ok.end hth a why) ?_ (x:=⟨9,a.n,0,0⟩) rfl ?_ hfl (qQg h.fn _ _) (fun n=> zWd _ _ _ _) rfl (by simp) (fun b e=> by cases e) (fun _=> ⟨fun _=> ?_,fun e=> by cases e⟩)
 ·have hI:=h.inv.drop (th:=th) (h.ts ha) (by simp only[la];split<;> (try split)<;> omega)
  have e:jE (zBf s th a why)=(jE s).drop th:=by
   obtain⟨d1,d2⟩:=zQx h.ok.tab (o:=(th:Int)) ⟨by omega,by omega⟩
   refine zFb rfl (fun i=> d2 i) (fun i=> zY8 h.ok.tab _ _) (fun i=> rfl) hfl (fun n=> zWd _ _ _ _) (fun n t v=> ?_) (fun n t=> ?_) (fun i=> ?_)
   ·show (⟨t,v⟩:Pr)∈(obS (s.ev++[⟨9,a.n,0,0⟩]) n).rds↔_
    rw[hobs];rfl
   ·show qQ (obS (s.ev++[⟨9,a.n,0,0⟩]) n).fs t=_
    rw[hobs];rfl
   ·show ((zBf s th a why).ts i).map la=_
    simp only[AS.drop,zCb,zBf,qB,jE]
    split<;> rfl
  have e2:(zBf s th a why).ws.length=s.ws.length:=qI3 h.ok hth
  rw[e2,e];exact hI
 ·rw[hfl,zIg (s:=s) (s':=zBf s th a why) (th:=th) (x:=none) rfl]
  have ho:=h.ev.obl th _ hlv
  exact h.ev.tell hlv (x:=⟨9,a.n,0,0⟩) rfl (by simp) (b:=⟨decide (a.ph≠0),true,a.fs⟩) (by simp[zDr,jW]) (by rw[zEb _ (by simp)];exact ho.symm) (y:=none) (by simp) (by rw[zEb _ (by simp)];exact h.ev.obo a.n) (by rw[zEb _ (by simp)];exact h.ev.ra a.n) (by rw[zEb _ (by simp)];exact h.ev.fr a.n) (fun e=> by cases e) (by simp[zD6]) h.ok.ft
 ·have:zBe s.ft a.n=2*a.rv+1:=hkl
  omega
theorem TOp.ask (h:TOp f s) {th:Nat} (hth:th<4) {x:Ak} (hk:0<=x.k) (hv:0<=x.v/\x.v<18446744073709551616) (hc:zE5 s th x=0):TOp f (zAr s th x):=by
 have hok:=h.ok.ask hth hk hv hc
 unfold zE5 at hc
 unfold zAr at hok⊢
 cases ha:s.ts th with
 |none=> rw[ha] at hc;cases hc
 |some a=>
  rw[ha] at hc hok
  simp only at hc hok⊢
  have hra:a.ra.k=0:=by
   split at hc
   ·cases hc
   ·rename_i e;simpa using e
  have hp0:=zG9 (h.ok.ts th a ha) (by omega)
  refine h.move ha rfl hok ?_ rfl rfl rfl h.fn rfl rfl (by simp[hp0]) rfl (fun _ e=> by simp at e) (fun _ _=> rfl) (Int.le_refl _)
  have hI:=h.inv.calm (th:=th) (b:=la { a with ra:=x,ph:=0,nx:=0,sw:=0,sv:=0,ss:=0 }) (h.ts ha) rfl rfl (fun e=> by simp[la,hp0] at e) (by simp[la,hp0]) (fun e=> by simp[la,hp0] at e) (fun e=> by simp[la,hp0] at e) (by simp[la])
  have e:jE { s with ts:=qB s.ts th (some { a with ra:=x,ph:=0,nx:=0,sw:=0,sv:=0,ss:=0 }) }=(jE s).calm th (la { a with ra:=x,ph:=0,nx:=0,sw:=0,sv:=0,ss:=0 }):=by
   refine zFb rfl (fun i=> rfl) (fun i=> rfl) (fun i=> rfl) rfl (fun n=> rfl) (fun n t v=> Iff.rfl) (fun n t=> rfl) (fun i=> ?_)
   simp only[AS.calm,zCb,qB,jE]
   split<;> rfl
  rw[e];exact hI
theorem TOp.kill (h:TOp f s) {th:Nat} (hth:th<4):TOp f (zFl s th):=by
 unfold zFl
 cases ha:s.ts th with
 |none=> exact h
 |some a=>
  simp only
  split
  ·exact h
  ·rename_i hd
   have:=(h.ok.lk th a ha).2.2.1
   refine h.end hth ha ?_ 3
   have:¬3<=a.ph:=fun e=> hd (this.2 e)
   omega
end YtapbabkndhaemaaGreat
end Go.Proofs
