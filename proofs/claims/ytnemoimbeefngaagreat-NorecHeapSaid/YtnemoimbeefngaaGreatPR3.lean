/-
  The document's history: act, own, seen.
-/
import Derived.Test.YtnemoimbeefngaaGreatPR2
import Derived.Test.YtnemoimbeefngaaGreatPR1
import Derived.Test.YtnemoimbeefngaaGreatPA1
import Derived.Shelf.Sort.Plain
import Derived.Test.YtnemoimbeefngaaGreatProg
import Derived.Test.YtnemoimbeefngaaGreatPA3
import Derived.WalkKit
set_option linter.unusedSimpArgs false
set_option linter.unusedVariables false
set_option linter.unnecessarySimpa false
set_option linter.unusedSectionVars false
set_option maxHeartbeats 32000000
set_option maxRecDepth 100000
namespace Go.Proofs
namespace YtnemoimbeefngaaGreat
open Go.Abs
def zFx:List (FuncId × qQ GD):=[(182,qA zUx),(179,qA zUz),(180,qA zJn),(181,qA zUy)]
theorem qE3:∀x∈zFx,qE Tryz.prog cfg x.1 x.2:=by simp[zFx,qFw,qFy,zTa,qFx]
theorem qDj {f:List Pr} {r:List (List Pr)} (h:zCk (f::r)):r.length<=4:=by have:=h.1.2.1;simp at this;omega
theorem qJd {fs:List (List Pr)} {x:Ev} (h:zCk fs):zCk (zAa fs x).2:=by
 unfold zAa
 cases fs with
 |nil=> exact absurd rfl h.1.1
 |cons f r=>
  have hl:=qDj h
  simp only
  split
  ·simp only
   split
   ·rename_i hc;exact qQm h hc
   ·exact h
  ·split
   ·simp only
    split
    ·exact h
    ·exact qNw h (by simp;omega)
   ·split
    ·simp only
     split
     ·exact h
     ·rename_i hr
      obtain⟨g,r',rfl⟩:∃g r',r=g::r':=by
       cases r with
       |nil=> exact absurd rfl hr
       |cons g r'=> exact⟨g,r',rfl⟩
      exact qNx h
    ·split
     ·cases r with
      |nil=> exact h
      |cons g r'=> exact qIb h
     ·exact h
theorem qLt (fs:List (List Pr)) (x:Ev) (h:zCk fs) (hv:0<=x.v/\x.v<18446744073709551616):zP Tryz.prog cfg 194 [.pointer (some ⟨0,0,none⟩),.agg #[.int .u8 x.k,.int .i64 x.a,.int .i64 x.t,.int .u64 x.v]] (AH.of [some (.hi (.rlog fs))])
  fun r H'=> r=.ret (.int .i64 (zAa fs x).1)/\H'=AH.of [some (.hi (.rlog (zAa fs x).2))]:=by
 refine zP.ends ?_
 cases fs with
 |nil=> exact absurd rfl h.1.1
 |cons f r=>
  have hl:=qDj h
  refine zY (tbl:=zFx) qE3 0 0 (af:=a194) rfl ?_
  rw[a194,b194,qB]
  refine⟨by simp,?_⟩
  by_cases k3:x.k=3
  ·by_cases hc:jU f r x.t x.v=0
   ·have e:zAa (f::r) x=(0,jX f ⟨x.t,x.v⟩::r):=by simp[zAa,k3,hc]
    rw[e]
    simp -implicitDefEqProofs [zFx,qA,zUx,h,hv,k3,hc]
    refine zA [] [0] ?_ ?_ ?_<;> simp
   ·have e:zAa (f::r) x=(jU f r x.t x.v,f::r):=by simp[zAa,k3,hc]
    rw[e]
    simp -implicitDefEqProofs [zFx,qA,zUx,h,hv,k3,hc]
    refine zA [] [0] ?_ ?_ ?_<;> simp
  by_cases k4:x.k=4
  ·have hl1:r.length<=100:=by omega
   by_cases hc:4<=r.length
   ·have e:zAa (f::r) x=(4,f::r):=by simp[zAa,k3,k4,hc]
    rw[e]
    simp -implicitDefEqProofs [zFx,qA,zUz,hl1,k4,hc]
    refine zA [] [0] ?_ ?_ ?_<;> simp
   ·have e:zAa (f::r) x=(0,[]::f::r):=by simp[zAa,k3,k4,hc]
    rw[e]
    simp -implicitDefEqProofs [zFx,qA,zUz,hl1,k4,hc]
    refine zA [] [0] ?_ ?_ ?_<;> simp
  by_cases k5:x.k=5
  ·have hl1:r.length<=100:=by omega
   by_cases hc:r=[]
   ·have e:zAa (f::r) x=(8,f::r):=by simp[zAa,k3,k4,k5,hc]
    rw[e]
    simp -implicitDefEqProofs [zFx,qA,zJn,hl1,k5,hc]
    refine zA [] [0] ?_ ?_ ?_<;> simp
   ·have e:zAa (f::r) x=(0,r):=by simp[zAa,k3,k4,k5,hc]
    rw[e]
    simp -implicitDefEqProofs [zFx,qA,zJn,hl1,k5,hc]
    refine zA [] [0] ?_ ?_ ?_<;> simp
  by_cases k6:x.k=6
  ·cases r with
   |nil=>
    have e:zAa [f] x=(8,[f]):=by simp[zAa,k3,k4,k5,k6]
    rw[e]
    simp -implicitDefEqProofs [zFx,qA,zUy,k6]
    refine zA [] [0] ?_ ?_ ?_<;> simp
   |cons g r=>
    have e:zAa (f::g::r) x=(0,jJ g f::r):=by simp[zAa,k3,k4,k5,k6]
    rw[e]
    simp -implicitDefEqProofs [zFx,qA,zUy,h,k6]
    refine zA [] [0] ?_ ?_ ?_<;> simp
  have e:zAa (f::r) x=(0,f::r):=by simp[zAa,k3,k4,k5,k6]
  rw[e]
  simp -implicitDefEqProofs [zFx,k3,k4,k5,k6]
  refine zA [] [0] ?_ ?_ ?_<;> simp
def zAt:zBm
 |.rlog fs,[.agg cs]=> match zAj cs.toList with
  |some [x]=> some (zCk fs/\0<=x.v/\x.v<18446744073709551616,.int .i64 (zAa fs x).1,.rlog (zAa fs x).2)
  |_=> none
 |_,_=> none
theorem zS7:qE Tryz.prog cfg 194 (qA zAt):=zAm fun d rest p v d' h hp=> by
 unfold zAt at h
 split at h
 ·split at h
  ·rename_i fs cs o x hx
   cases h
   have e:cs=(evs [x]).toArray:=by rw[←zA0 hx]
   subst e
   exact⟨rfl,rfl,qLt _ _ hp.1 hp.2⟩
  ·cases h
 ·cases h
theorem qBh {l:List Ev} {i:Nat} {x:Ev} (h:l[i]?=some x) (a k:Int):qD l (i+1) a k=(qD l i a k||(decide (x.a=a) && isK k x)):=by
 unfold qD
 rw[List.take_add_one,h,List.any_append]
 simp
theorem qBg (l:List Ev) (a k:Int):qD l 0 a k=false:=by simp[qD]
theorem qMo (l:List Ev) (n c m:Nat) (a k:Int) (hn:n<=l.length) (hs:m<=n) (hm:m<=1000):zP Tryz.prog cfg 101 [.slice (some ⟨0,0,none⟩) n c,.int .i64 m,.int .i64 a,.int .u8 k] (AH.of [some (.ro (evs l))])
  fun r H'=> r=.ret (.bool (qD l m a k))/\H'=AH.of [some (.ro (evs l))]:=by
 refine zY (tbl:=[]) (by simp) 1001 0 (af:=a101) rfl ?_
 rw[a101,b101,qB]
 refine⟨by simp,?_⟩
 simp -implicitDefEqProofs
 refine xB (jE xE (jG (by simp)) _ _ noY qX) (fun q tm H=> ∃i:Nat,q+i=m/\qD l i a k=false/\tm 0=.slice (some ⟨0,0,none⟩) n c/\tm 1=.int .i64 m/\tm 2=.int .i64 a/\tm 3=.int .u8 k/\tm 9=.int .i64 i/\H=AH.of [some (.ro (evs l))]) (m:=m) ⟨0,by simp[qBg]⟩ (by omega) ?_
 rintro q tm H ⟨i,hq,hno,t0,t1,t2,t3,t9,rfl⟩
 by_cases hi:i<m
 ·obtain⟨x,hx⟩:=zAp (l:=l) (i:=i) (by omega)
  have hi':(i:Int)<m:=by omega
  have hin:i<n:=by omega
  have hin':(i:Int)<n:=by omega
  have hwr:=xQ hi (by omega)
  have hsuc:=qBh hx a k
  have hroom:=zA3 (show i<l.length by omega)
  have hat:=zIx hx
  by_cases ha:x.a=a
  ·by_cases hk:x.k=k
   ·have hy:qD l (i+1) a k=true:=by rw[hsuc];simp[ha,isK,hk]
    have hyy:qD l m a k=true:=by
     unfold qD at hy⊢
     rw[List.any_eq_true] at hy⊢
     obtain⟨y,h1,h2⟩:=hy
     exact⟨y,(List.take_subset_take_left l (show i+1<=m by omega)) h1,h2⟩
    simp -implicitDefEqProofs [t0,t1,t2,t3,t9,hi',hin,hin',hwr,hroom,hat,ha,hk,hyy]
   ·simp -implicitDefEqProofs [t0,t1,t2,t3,t9,hi',hin,hin',hwr,hroom,hat,ha,hk]
    exact⟨q - 1,by omega,i+1,by omega,by rw[hsuc,hno];simp[isK,hk],by simp[t0,t1,t2,t3]⟩
  ·simp -implicitDefEqProofs [t0,t1,t2,t3,t9,hi',hin,hin',hwr,hroom,hat,ha]
   exact⟨q - 1,by omega,i+1,by omega,by rw[hsuc,hno];simp[ha],by simp[t0,t1,t2,t3]⟩
 ·have hie:i=m:=by omega
  subst hie
  simp -implicitDefEqProofs [t0,t1,t2,t3,t9,hno]
theorem zAz {l:List Ev} {n m:Nat} (h:m<=n) (a k:Int):qD (l.take n) m a k=qD l m a k:=by
 unfold qD
 rw[List.take_take,Nat.min_eq_left h]
def zAk:zPf
 |l,[.int .i64 m,.int .i64 a,.int .u8 k]=> some (0<=m/\m<=l.length/\m<=1000,.bool (qD l m.toNat a k))
 |_,_=> none
theorem zTf:qE Tryz.prog cfg 101 (xW zAk):=zYz fun l n c rest p v hn h hp=> by
 unfold zAk at h
 split at h
 ·rename_i m a k
  cases h
  obtain⟨h1,h2,h3⟩:=hp
  rw[List.length_take] at h2
  obtain⟨i,rfl⟩:∃i:Nat,m=i:=⟨m.toNat,by omega⟩
  refine⟨rfl,rfl,?_⟩
  rw[Int.toNat_natCast,zAz (by omega)]
  exact qMo l n c i a k hn (by omega) (by omega)
 ·cases h
end YtnemoimbeefngaaGreat
end Go.Proofs
namespace Go.Proofs
namespace YtnemoimbeefngaaGreat
open Go.Abs
end YtnemoimbeefngaaGreat
end Go.Proofs
namespace Go.Proofs
namespace YtnemoimbeefngaaGreat
open Go.Abs
end YtnemoimbeefngaaGreat
end Go.Proofs
namespace Go.Proofs
namespace YtnemoimbeefngaaGreat
open Go.Abs
structure RI (l:List Ev) (i:Nat) (σ:Int->Option HA) (kk:Int->Nat × Nat) (es:List MapEntry) (cl:Nat) (H:AH GD):Prop where
 run:zE3 zJd (l.take i)=some σ
 g0:H.get 0=some (.ro (evs l))
 g1:H.get 1=some (.arr 4 [.bool false])
 g2:H.get 2=some (.map es cl)
 n3:3<=H.next
 find:∀n,zB2 false (.int .i64 n) es=some ((σ n).map fun _=> .pointer (some ⟨(kk n).1,0,none⟩))
 at1:∀n a,σ n=some a->H.get (kk n).1=some (.arr 0 [.pointer (some ⟨(kk n).2,0,none⟩),.bool a.tr,.bool a.en])
 at2:∀n a,σ n=some a->H.get (kk n).2=some (.hi (.log a.fs))
 good:∀n a,σ n=some a->zAn a.fs
 lt:∀n a,σ n=some a->3<=(kk n).1/\(kk n).1<H.next/\3<=(kk n).2/\(kk n).2<H.next
 ne:∀n m a b,σ n=some a->σ m=some b->(kk n).1≠(kk m).2/\(n≠m->(kk n).1≠(kk m).1/\(kk n).2≠(kk m).2)
section
variable {l:List Ev} {i:Nat} {σ:Int->Option HA} {kk:Int->Nat × Nat} {es:List MapEntry} {cl:Nat} {H H':AH GD} {x:Ev} {a a':HA}
end
end YtnemoimbeefngaaGreat
end Go.Proofs
namespace Go.Proofs
namespace YtnemoimbeefngaaGreat
open Go.Abs
end YtnemoimbeefngaaGreat
end Go.Proofs
namespace Go.Proofs
namespace YtnemoimbeefngaaGreat
open Go.Abs
theorem qGz (l:List Ev) (a:Int):xA l 0 a=[[]]:=by simp[xA,xM]
theorem qG0 {l:List Ev} {i:Nat} {x:Ev} (h:l[i]?=some x) (a:Int):xA l (i+1) a=if x.a=a then (zAa (xA l i a) x).2 else xA l i a:=by
 unfold xA
 rw[zU0 h]
 split
 ·rw[List.foldl_append];rfl
 ·rfl
theorem zB4 (l:List Ev) (i:Nat) (a:Int):zCk (xA l i a):=by
 unfold xA
 have:∀(c:List Ev) (fs:List (List Pr)),zCk fs->zCk (c.foldl zIs fs):=by
  intro c
  induction c with
  |nil=> intro fs h;exact h
  |cons x c ih=> intro fs h;exact ih _ (qJd h)
 exact this _ _ qQn
theorem qD8 (x:Ev):zAj [.int .u8 x.k,.int .i64 x.a,.int .i64 x.t,.int .u64 x.v]=some [x]:=rfl
def zOf:List (FuncId × qQ GD):=[(119,zR8),(194,qA zAt)]
theorem zSx:∀x∈zOf,qE Tryz.prog cfg x.1 x.2:=by simp[zOf,qGf,zS7]
theorem qLu (l:List Ev) (n c m:Nat) (a:Int) (hn:n<=l.length) (hs:m<=n) (hm:m<=1000) (hv:∀x∈l,0<=x.v/\x.v<18446744073709551616):zP Tryz.prog cfg 193 [.slice (some ⟨0,0,none⟩) n c,.int .i64 m,.int .i64 a] (AH.of [some (.ro (evs l))])
  fun r H'=> r=.ret (.pointer (some ⟨1,0,none⟩))/\H'=AH.of [some (.ro (evs l)),some (.hi (.rlog (xA l m a)))]:=by
 refine zY (tbl:=zOf) zSx 1001 0 (af:=a193) rfl ?_
 rw[a193,b193,qB]
 refine⟨by simp,?_⟩
 simp -implicitDefEqProofs [zOf,zR8]
 refine xB (jE xE (jG zSx) _ _ noY qX) (fun q tm H=> ∃i:Nat,q+i=m/\tm 0=.slice (some ⟨0,0,none⟩) n c/\tm 1=.int .i64 m/\tm 2=.int .i64 a/\tm 7=.pointer (some ⟨1,0,none⟩)/\tm 8=.int .i64 i/\H=AH.of [some (.ro (evs l)),some (.hi (.rlog (xA l i a)))]) (m:=m) ⟨0,by simp[qGz]⟩ (by omega) ?_
 rintro q tm H ⟨i,hq,t0,t1,t2,t7,t8,rfl⟩
 by_cases hi:i<m
 ·obtain⟨x,hx⟩:=zAp (l:=l) (i:=i) (by omega)
  have hi':(i:Int)<m:=by omega
  have hin:i<n:=by omega
  have hin':(i:Int)<n:=by omega
  have hwr:=xQ hi (by omega)
  have hsuc:=qG0 hx a
  have hroom:=zA3 (show i<l.length by omega)
  have hat:=zIx hx
  have hmany:=zB0 hx
  have hxv:=hv x (List.mem_of_getElem? hx)
  have hgo:=zB4 l i a
  by_cases ha:x.a=a
  ·subst ha
   rw[if_pos rfl] at hsuc
   simp -implicitDefEqProofs [zOf,qA,zAt,qD8,t0,t1,t2,t7,t8,hi',hin,hin',hwr,hroom,hat,hmany,hgo,hxv]
   exact⟨q - 1,by omega,i+1,by omega,by simp[t0,t1,t2,t7,hsuc]⟩
  ·rw[if_neg ha] at hsuc
   simp -implicitDefEqProofs [t0,t1,t2,t7,t8,hi',hin,hin',hwr,hroom,hat,ha]
   exact⟨q - 1,by omega,i+1,by omega,by simp[t0,t1,t2,t7,hsuc]⟩
 ·have hie:i=m:=by omega
  subst hie
  simp -implicitDefEqProofs [t0,t1,t2,t7,t8]
def xT:qQ GD:=fun args H=> match args with
 |[.slice (some ⟨k,0,none⟩) n _,.int .i64 m,.int .i64 a]=> match H.get k with
  |some (.ro cs)=> (zAj cs).map fun l=> (n<=l.length/\0<=m/\m<=n/\m<=1000/\∀x∈l,0<=x.v/\x.v<18446744073709551616,.ret (.pointer (some ⟨H.next,0,none⟩)),H.add (.hi (.rlog (xA l m.toNat a))))
  |_=> none
 |_=> none
theorem zS8:qE Tryz.prog cfg 193 xT:=by
 intro args H p r H' h hp
 unfold xT at h
 split at h
 case h_2=> cases h
 split at h
 case h_2=> cases h
 simp only[Option.map_eq_some_iff] at h
 obtain⟨l,hl,h⟩:=h
 rename_i k n c m a x1 cs hk
 cases h
 rw[zA0 hl] at hk
 obtain⟨i,rfl⟩:∃i:Nat,m=i:=⟨m.toNat,by omega⟩
 rw[Int.toNat_natCast]
 exact (qLu l n c i a hp.1 (by omega) (by omega) hp.2.2.2.2).atK (zBn fun i cs hi=> by rcases i with _|_|i<;> simp at hi⊢;exact hi) [k] (by simp) (by simp) (by simp[hk]) (by simp) (by simp) (by simp[jF hk,AObj.ren])
end YtnemoimbeefngaaGreat
end Go.Proofs
namespace Go.Proofs
namespace YtnemoimbeefngaaGreat
open Go.Abs
theorem zWc {fs:List (List Pr)} {m:Nat} {g:List Pr} (h:fs[m]?=some g) (t:Int):qT (fs.drop m) t=match qZ g t with|some v=> some v|none=> qT (fs.drop (m+1)) t:=by
 obtain⟨hl,hg⟩:=List.getElem?_eq_some_iff.1 h
 rw[List.drop_eq_getElem_cons hl,hg]
 cases hp:qZ g t with
 |none=> rw[zAw hp]
 |some v=> rw[zCd hp]
theorem qL2 (fs:List (List Pr)) (t:Int) (hl:fs.length<=100) (ht:0<=t/\t<12):zP Tryz.prog cfg 167 [.pointer (some ⟨0,0,none⟩),.int .i64 t] (AH.of [some (.hi (.rlog fs))])
  fun r H'=> r=.ret (.tuple #[.int .u64 ((qT fs t).getD 0),.bool (qT fs t).isSome])/\H'=AH.of [some (.hi (.rlog fs))]:=by
 refine zP.ends ?_
 refine zP.opn 0 (H1:=AH.of [some (.arr 173 [.slice (some ⟨1,0,none⟩) fs.length 1]),some (.arr 214 (rf fs))]) (by simp[zHc,xO]) ?_
 have hrl:=zEr fs
 obtain⟨t,rfl⟩:∃i:Nat,t=i:=⟨t.toNat,by omega⟩
 have ht0:¬(t:Int)<0:=by omega
 have ht1:¬(12:Int)<=t:=by omega
 have ht2:(t:Int)<12:=by omega
 have htn:t<12:=by omega
 have hw0:IntKind.i64.wrap ((fs.length:Int) - 1)=(fs.length:Int) - 1:=qO (by omega) (by omega)
 refine zY (tbl:=[]) (by simp) 101 0 (af:=a167) rfl ?_
 rw[a167,b167,qB]
 refine⟨by simp,?_⟩
 simp -implicitDefEqProofs [ht0,ht1,hw0]
 refine xB (jE xE (jG (by simp)) _ _ noY qX) (fun m tm H=> m<=fs.length/\qT (fs.drop (fs.length - m)) t=qT fs t/\tm 0=.pointer (some ⟨0,0,none⟩)/\tm 1=.int .i64 t/\tm 6=.int .i64 ((m:Int) - 1)/\H=AH.of [some (.arr 173 [.slice (some ⟨1,0,none⟩) fs.length 1]),some (.arr 214 (rf fs))]) (m:=fs.length) (by simp) (by omega) ?_
 rintro m tm H ⟨hm,hg,t0,t1,t6,rfl⟩
 cases m with
 |zero=>
  have hno:qT fs t=none:=by
   rw[←hg,Nat.sub_zero,List.drop_length];rfl
  simp -implicitDefEqProofs [t0,t1,t6,hno]
  refine zA [.pack (GD.rlog fs) 0 [1]] [0] ?_ ?_ ?_<;> simp[xO,AObj.mine]
 |succ i=>
  rw[show ((i+1:Nat):Int) - 1=i by omega] at t6
  obtain⟨g,hgi⟩:=zAp (l:=fs.reverse) (i:=i) (by simp;omega)
  have hgf:fs[fs.length - (i+1)]?=some g:=by
   rw[List.getElem?_reverse (by omega)] at hgi
   rw[←hgi];congr 1;omega
  have hd:=zWc hgf t
  rw[hg,show fs.length - (i+1)+1=fs.length - i by omega] at hd
  have hi':(i:Int)<fs.length:=by omega
  have hc:=zTu hgi (j:=t) (by omega)
  have hc2:=zTu hgi (j:=12+t) (by omega)
  rw[zEl g htn] at hc
  rw[zGk g htn] at hc2
  have hc3:(rf fs)[i*24+12+t]?=some (.int .u64 ((qZ g t).getD 0)):=by rw[←hc2];congr 1;omega
  have hwr:IntKind.i64.wrap ((i:Int) - 1)=(i:Int) - 1:=qO (by omega) (by omega)
  cases hp:qZ g t with
  |some v=>
   rw[hp] at hd hc hc2 hc3
   simp -implicitDefEqProofs [t0,t1,t6,ht2,hi',hc,hc2,hc3,hd]
   refine zA [.pack (GD.rlog fs) 0 [1]] [0] ?_ ?_ ?_<;> simp[xO,AObj.mine]
  |none=>
   rw[hp] at hd hc
   simp -implicitDefEqProofs [t0,t1,t6,ht2,hi',hc,hwr]
   exact⟨i,by omega,by omega,hd.symm,by simp[t0,t1]⟩
def zJo:zBm
 |.rlog fs,[.int .i64 t]=> some (fs.length<=100/\0<=t/\t<12,.tuple #[.int .u64 ((qT fs t).getD 0),.bool (qT fs t).isSome],.rlog fs)
 |_,_=> none
theorem zTc:qE Tryz.prog cfg 167 (qA zJo):=zAm fun d rest p v d' h hp=> by
 unfold zJo at h
 split at h
 ·cases h;exact⟨rfl,rfl,qL2 _ _ hp.1 hp.2⟩
 ·cases h
def zOd:List (FuncId × qQ GD):=[(167,qA zJo)]
theorem zSv:∀x∈zOd,qE Tryz.prog cfg x.1 x.2:=by simp[zOd,zTc]
theorem qMk (fs:List (List Pr)) (hl:fs.length<=100):zP Tryz.prog cfg 111 [.pointer (some ⟨0,0,none⟩)] (AH.of [some (.hi (.rlog fs))])
  fun r H'=> r=.ret (.slice (some ⟨1,0,none⟩) (jO fs).length 1)/\H'=AH.of [some (.hi (.rlog fs)),some (.arr 157 (prs (jO fs)))]:=by
 refine zP.ends ?_
 refine zY (tbl:=zOd) zSv 13 0 (af:=a111) rfl ?_
 rw[a111,b111,qB]
 refine⟨by simp,?_⟩
 simp -implicitDefEqProofs
 refine zBj (jE xE (jG zSv) _ _ noY qX) (fun m tm H=> ∃i:Nat,m+i=12/\tm 0=.pointer (some ⟨0,0,none⟩)/\tm 3=.slice (some ⟨1,0,none⟩) (zBz fs i).length 1/\tm 4=.int .i64 i/\H=AH.of [some (.hi (.rlog fs)),some (.arr 157 (prs (zBz fs i)))]) (m:=12) ?_ (by omega) ?_
 ·refine zGu [.nil 157] [0,1] [some (.hi (.rlog fs)),some (.arr 157 (prs []))] [(3,.slice (some ⟨1,0,none⟩) 0 1)] 12 (by omega) ?_ ?_ ?_ ⟨0,by omega,?_,?_,?_,rfl⟩<;> simp[zBz,prs]
  done
 rintro m tm H ⟨i,hm,t0,t3,t4,rfl⟩
 have hle:=zM3 fs i
 by_cases hi:i<12
 ·have hi':(i:Int)<12:=by omega
  have hwr:=xQ hi (by omega)
  have hsuc:=zL2 fs i
  have hr3:((zBz fs i).length+1)*16<=140737488355328/\(zBz fs i).length<=9223372036854775806:=by omega
  have htk:=zIn (zBz fs i)
  have hll:(zBz fs i).length*2<=(prs (zBz fs i)).length:=by rw[zBk];omega
  cases hv:qT fs i with
  |none=>
   simp only[hv,List.append_nil] at hsuc
   simp -implicitDefEqProofs [zOd,qA,zJo,hl,t0,t3,t4,hi,hi',hwr,hv]
   refine qN [] [0,1] [some (.hi (.rlog fs)),some (.arr 157 (prs (zBz fs (i+1))))] (m - 1) (by omega) ?_ ?_ ⟨i+1,by omega,?_,?_,?_,rfl⟩<;> simp[t0,t3,hsuc]
  |some v=>
   simp only[hv] at hsuc
   simp -implicitDefEqProofs [zOd,qA,zJo,hl,t0,t3,t4,hi,hi',hwr,hv,hr3,htk,hll]
   refine qN [] [0,3] [some (.hi (.rlog fs)),some (.arr 157 (prs (zBz fs (i+1))))] (m - 1) (by omega) ?_ ?_ ⟨i+1,by omega,?_,?_,?_,rfl⟩<;> simp[t0,hsuc,zH3,zH2]
 ·have hie:i=12:=by omega
  subst hie
  simp -implicitDefEqProofs [t0,t3,t4]
  refine zA [] [0,1] ?_ ?_ ?_<;> simp[jO]
def zR9:qQ GD:=fun args H=> match args with
 |[.pointer (some ⟨k,0,none⟩)]=> match H.get k with
  |some (.hi (.rlog fs))=> some (fs.length<=100,.ret (.slice (some ⟨H.next,0,none⟩) (jO fs).length 1),H.add (.arr 157 (prs (jO fs))))
  |_=> none
 |_=> none
theorem qGg:qE Tryz.prog cfg 111 zR9:=by
 intro args H p r H' h hp
 unfold zR9 at h
 split at h
 case h_2=> cases h
 split at h
 case h_2=> cases h
 rename_i k x fs hk
 cases h
 exact (qMk fs hp).atK (zAb rfl) [k] (by simp) (by simp) (by simp[hk]) (by simp) (by simp) (by simp[jF hk])
end YtnemoimbeefngaaGreat
end Go.Proofs
namespace Go.Proofs
namespace YtnemoimbeefngaaGreat
open Go.Abs
def xH:List (FuncId × qQ GD):=[(101,xW zAk),(193,xT),(194,qA zAt),(98,zAi),(169,qA zAy)]
theorem zCp:∀x∈xH,qE Tryz.prog cfg x.1 x.2:=by simp[xH,zTf,zS8,zS7,zPl,qFz]
theorem qId (l:List Ev) (n c i:Nat) (k a t v:Int) (hn:n<=l.length) (hi:i<n) (hs:i<=1000) (hx:l[i]?=some ⟨k,a,t,v⟩) (hv:∀x∈l,0<=x.v/\x.v<18446744073709551616) (hr:a<0∨64<=a):zP Tryz.prog cfg 150 [.slice (some ⟨0,0,none⟩) n c,.int .i64 i] (AH.of [some (.ro (evs l))])
  fun r H'=> r=.ret (.bool (xL l i ⟨k,a,t,v⟩))/\H'=AH.of [some (.ro (evs l))]:=by
 refine zP.ends ?_
 refine zY (tbl:=xH) zCp 0 0 (af:=a150) rfl ?_
 rw[a150,b150,qB]
 refine⟨by simp,?_⟩
 have hi':(i:Int)<n:=by omega
 have hsi:(i:Int)<=1000:=by omega
 have hil:i<=l.length:=by omega
 have hin:i<=n:=by omega
 have hroom:=zA3 (show i<l.length by omega)
 have hmany:((evs l).drop (i*4)).take 4=[.int .u8 k,.int .i64 a,.int .i64 t,.int .u64 v]:=zB0 hx
 have hxv:0<=v/\v<18446744073709551616:=hv _ (List.mem_of_getElem? hx)
 have hgo:=zB4 l i a
 have hst:∀k,qD (l.take n) i a k=qD l i a k:=fun k=> zAz hin a k
 have hln:(l.take n).length=n:=by rw[List.length_take];omega
 have hone:zAj [.int .u8 k,.int .i64 a,.int .i64 t,.int .u64 v]=some [⟨k,a,t,v⟩]:=rfl
 have hdl:(xA l i a).length<=1000:=by have:(xA l i a).length<=5:=hgo.1.2.1;omega
 by_cases hr1:a<0
 ·simp -implicitDefEqProofs [xH,hi,hi',hroom,hmany,hr1]
  refine zA [] [0] ?_ ?_ ?_<;> simp[xL,hr1]
 have hr2:64<=a:=by omega
 simp -implicitDefEqProofs [xH,hi,hi',hroom,hmany,hr1,hr2]
 refine zA [] [0] ?_ ?_ ?_<;> simp[xL,hr1,hr2]
theorem qNy (l:List Ev) (n c i:Nat) (k a t v:Int) (hn:n<=l.length) (hi:i<n) (hs:i<=1000) (hx:l[i]?=some ⟨k,a,t,v⟩) (hv:∀x∈l,0<=x.v/\x.v<18446744073709551616) (hr:¬a<0) (hr2:¬64<=a) (hb:qD l i a 1=false):zP Tryz.prog cfg 150 [.slice (some ⟨0,0,none⟩) n c,.int .i64 i] (AH.of [some (.ro (evs l))])
  fun r H'=> r=.ret (.bool (xL l i ⟨k,a,t,v⟩))/\H'=AH.of [some (.ro (evs l))]:=by
 refine zP.ends ?_
 refine zY (tbl:=xH) zCp 0 0 (af:=a150) rfl ?_
 rw[a150,b150,qB]
 refine⟨by simp,?_⟩
 have hi':(i:Int)<n:=by omega
 have hsi:(i:Int)<=1000:=by omega
 have hil:i<=l.length:=by omega
 have hin:i<=n:=by omega
 have hroom:=zA3 (show i<l.length by omega)
 have hmany:((evs l).drop (i*4)).take 4=[.int .u8 k,.int .i64 a,.int .i64 t,.int .u64 v]:=zB0 hx
 have hxv:0<=v/\v<18446744073709551616:=hv _ (List.mem_of_getElem? hx)
 have hgo:=zB4 l i a
 have hst:∀k,qD (l.take n) i a k=qD l i a k:=fun k=> zAz hin a k
 have hln:(l.take n).length=n:=by rw[List.length_take];omega
 have hone:zAj [.int .u8 k,.int .i64 a,.int .i64 t,.int .u64 v]=some [⟨k,a,t,v⟩]:=rfl
 have hdl:(xA l i a).length<=1000:=by have:(xA l i a).length<=5:=hgo.1.2.1;omega
 by_cases k1:k=1
 ·subst k1
  by_cases ht:t=0
  ·subst ht
   by_cases h0:v=0
   ·subst h0
    cases h7:qD l i a 7<;> cases h8:qD l i a 8<;> cases h9:qD l i a 9<;> (
     simp -implicitDefEqProofs [xH,xW,zAk,xT,qA,zAt,zAy,zAi,asU,hone,hst,hln,hi,hi',hil,hin,hs,hsi,hn,hroom,hmany,hr,hr2,hxv,hgo,hdl,hb,h7,h8,h9]
     refine zA [] [0] ?_ ?_ ?_<;> simp[xL,jZ,hr,hr2,hb,hb,h7,h8,h9])
   ·cases h7:qD l i a 7<;> cases h8:qD l i a 8<;> cases h9:qD l i a 9<;> (
    simp -implicitDefEqProofs [xH,xW,zAk,xT,qA,zAt,zAy,zAi,asU,hone,hst,hln,hi,hi',hil,hin,hs,hsi,hn,hroom,hmany,hr,hr2,hxv,hgo,hdl,h0,hb,h7,h8,h9]
    refine zA [] [0] ?_ ?_ ?_<;> simp[xL,jZ,hr,hr2,hb,h0,hb,h7,h8,h9])
  ·cases h7:qD l i a 7<;> cases h8:qD l i a 8<;> cases h9:qD l i a 9<;> (
   simp -implicitDefEqProofs [xH,xW,zAk,xT,qA,zAt,zAy,zAi,asU,hone,hst,hln,hi,hi',hil,hin,hs,hsi,hn,hroom,hmany,hr,hr2,hxv,hgo,hdl,ht,hb,h7,h8,h9]
   refine zA [] [0] ?_ ?_ ?_<;> simp[xL,jZ,hr,hr2,hb,ht,hb,h7,h8,h9])
 ·by_cases ht:t=0
  ·subst ht
   by_cases h0:v=0
   ·subst h0
    cases h7:qD l i a 7<;> cases h8:qD l i a 8<;> cases h9:qD l i a 9<;> (
     simp -implicitDefEqProofs [xH,xW,zAk,xT,qA,zAt,zAy,zAi,asU,hone,hst,hln,hi,hi',hil,hin,hs,hsi,hn,hroom,hmany,hr,hr2,hxv,hgo,hdl,hb,h7,h8,h9,k1]
     refine zA [] [0] ?_ ?_ ?_<;> simp[xL,jZ,hr,hr2,hb,hb,h7,h8,h9,k1])
   ·cases h7:qD l i a 7<;> cases h8:qD l i a 8<;> cases h9:qD l i a 9<;> (
    simp -implicitDefEqProofs [xH,xW,zAk,xT,qA,zAt,zAy,zAi,asU,hone,hst,hln,hi,hi',hil,hin,hs,hsi,hn,hroom,hmany,hr,hr2,hxv,hgo,hdl,h0,hb,h7,h8,h9,k1]
    refine zA [] [0] ?_ ?_ ?_<;> simp[xL,jZ,hr,hr2,hb,h0,hb,h7,h8,h9,k1])
  ·cases h7:qD l i a 7<;> cases h8:qD l i a 8<;> cases h9:qD l i a 9<;> (
   simp -implicitDefEqProofs [xH,xW,zAk,xT,qA,zAt,zAy,zAi,asU,hone,hst,hln,hi,hi',hil,hin,hs,hsi,hn,hroom,hmany,hr,hr2,hxv,hgo,hdl,ht,hb,h7,h8,h9,k1]
   refine zA [] [0] ?_ ?_ ?_<;> simp[xL,jZ,hr,hr2,hb,ht,hb,h7,h8,h9,k1])
theorem zZq (l:List Ev) (n c i:Nat) (k a t v:Int) (hn:n<=l.length) (hi:i<n) (hs:i<=1000) (hx:l[i]?=some ⟨k,a,t,v⟩) (hv:∀x∈l,0<=x.v/\x.v<18446744073709551616) (hr:¬a<0) (hr2:¬64<=a) (hb:qD l i a 1=true) (k1:k=1):zP Tryz.prog cfg 150 [.slice (some ⟨0,0,none⟩) n c,.int .i64 i] (AH.of [some (.ro (evs l))])
  fun r H'=> r=.ret (.bool (xL l i ⟨k,a,t,v⟩))/\H'=AH.of [some (.ro (evs l))]:=by
 refine zP.ends ?_
 refine zY (tbl:=xH) zCp 0 0 (af:=a150) rfl ?_
 rw[a150,b150,qB]
 refine⟨by simp,?_⟩
 have hi':(i:Int)<n:=by omega
 have hsi:(i:Int)<=1000:=by omega
 have hil:i<=l.length:=by omega
 have hin:i<=n:=by omega
 have hroom:=zA3 (show i<l.length by omega)
 have hmany:((evs l).drop (i*4)).take 4=[.int .u8 k,.int .i64 a,.int .i64 t,.int .u64 v]:=zB0 hx
 have hxv:0<=v/\v<18446744073709551616:=hv _ (List.mem_of_getElem? hx)
 have hgo:=zB4 l i a
 have hst:∀k,qD (l.take n) i a k=qD l i a k:=fun k=> zAz hin a k
 have hln:(l.take n).length=n:=by rw[List.length_take];omega
 have hone:zAj [.int .u8 k,.int .i64 a,.int .i64 t,.int .u64 v]=some [⟨k,a,t,v⟩]:=rfl
 have hdl:(xA l i a).length<=1000:=by have:(xA l i a).length<=5:=hgo.1.2.1;omega
 subst k1
 by_cases ht:t=0
 ·subst ht
  by_cases h0:v=0
  ·subst h0
   cases h7:qD l i a 7<;> cases h8:qD l i a 8<;> cases h9:qD l i a 9<;> (
    simp -implicitDefEqProofs [xH,xW,zAk,xT,qA,zAt,zAy,zAi,asU,hone,hst,hln,hi,hi',hil,hin,hs,hsi,hn,hroom,hmany,hr,hr2,hxv,hgo,hdl,hb,h7,h8,h9]
    refine zA [] [0] ?_ ?_ ?_<;> simp[xL,jZ,hr,hr2,hb,hb,h7,h8,h9])
  ·cases h7:qD l i a 7<;> cases h8:qD l i a 8<;> cases h9:qD l i a 9<;> (
   simp -implicitDefEqProofs [xH,xW,zAk,xT,qA,zAt,zAy,zAi,asU,hone,hst,hln,hi,hi',hil,hin,hs,hsi,hn,hroom,hmany,hr,hr2,hxv,hgo,hdl,h0,hb,h7,h8,h9]
   refine zA [] [0] ?_ ?_ ?_<;> simp[xL,jZ,hr,hr2,hb,h0,hb,h7,h8,h9])
 ·cases h7:qD l i a 7<;> cases h8:qD l i a 8<;> cases h9:qD l i a 9<;> (
  simp -implicitDefEqProofs [xH,xW,zAk,xT,qA,zAt,zAy,zAi,asU,hone,hst,hln,hi,hi',hil,hin,hs,hsi,hn,hroom,hmany,hr,hr2,hxv,hgo,hdl,ht,hb,h7,h8,h9]
  refine zA [] [0] ?_ ?_ ?_<;> simp[xL,jZ,hr,hr2,hb,ht,hb,h7,h8,h9])
theorem zZr (l:List Ev) (n c i:Nat) (k a t v:Int) (hn:n<=l.length) (hi:i<n) (hs:i<=1000) (hx:l[i]?=some ⟨k,a,t,v⟩) (hv:∀x∈l,0<=x.v/\x.v<18446744073709551616) (hr:¬a<0) (hr2:¬64<=a) (hb:qD l i a 1=true) (k1:¬k=1) (he:qD l i a 8=true∨qD l i a 9=true):zP Tryz.prog cfg 150 [.slice (some ⟨0,0,none⟩) n c,.int .i64 i] (AH.of [some (.ro (evs l))])
  fun r H'=> r=.ret (.bool (xL l i ⟨k,a,t,v⟩))/\H'=AH.of [some (.ro (evs l))]:=by
 refine zP.ends ?_
 refine zY (tbl:=xH) zCp 0 0 (af:=a150) rfl ?_
 rw[a150,b150,qB]
 refine⟨by simp,?_⟩
 have hi':(i:Int)<n:=by omega
 have hsi:(i:Int)<=1000:=by omega
 have hil:i<=l.length:=by omega
 have hin:i<=n:=by omega
 have hroom:=zA3 (show i<l.length by omega)
 have hmany:((evs l).drop (i*4)).take 4=[.int .u8 k,.int .i64 a,.int .i64 t,.int .u64 v]:=zB0 hx
 have hxv:0<=v/\v<18446744073709551616:=hv _ (List.mem_of_getElem? hx)
 have hgo:=zB4 l i a
 have hst:∀k,qD (l.take n) i a k=qD l i a k:=fun k=> zAz hin a k
 have hln:(l.take n).length=n:=by rw[List.length_take];omega
 have hone:zAj [.int .u8 k,.int .i64 a,.int .i64 t,.int .u64 v]=some [⟨k,a,t,v⟩]:=rfl
 have hdl:(xA l i a).length<=1000:=by have:(xA l i a).length<=5:=hgo.1.2.1;omega
 by_cases ht:t=0
 ·subst ht
  by_cases h0:v=0
  ·subst h0
   cases h7:qD l i a 7<;> cases h8:qD l i a 8<;> cases h9:qD l i a 9<;> (
    first
     |(exfalso;simp[h8,h9] at he;done)
     |(simp -implicitDefEqProofs [xH,xW,zAk,xT,qA,zAt,zAy,zAi,asU,hone,hst,hln,hi,hi',hil,hin,hs,hsi,hn,hroom,hmany,hr,hr2,hxv,hgo,hdl,hb,h7,h8,h9,k1]
       refine zA [] [0] ?_ ?_ ?_<;> simp[xL,jZ,hr,hr2,hb,hb,h7,h8,h9,k1]))
  ·cases h7:qD l i a 7<;> cases h8:qD l i a 8<;> cases h9:qD l i a 9<;> (
   first
    |(exfalso;simp[h8,h9] at he;done)
    |(simp -implicitDefEqProofs [xH,xW,zAk,xT,qA,zAt,zAy,zAi,asU,hone,hst,hln,hi,hi',hil,hin,hs,hsi,hn,hroom,hmany,hr,hr2,hxv,hgo,hdl,h0,hb,h7,h8,h9,k1]
      refine zA [] [0] ?_ ?_ ?_<;> simp[xL,jZ,hr,hr2,hb,h0,hb,h7,h8,h9,k1]))
 ·cases h7:qD l i a 7<;> cases h8:qD l i a 8<;> cases h9:qD l i a 9<;> (
  first
   |(exfalso;simp[h8,h9] at he;done)
   |(simp -implicitDefEqProofs [xH,xW,zAk,xT,qA,zAt,zAy,zAi,asU,hone,hst,hln,hi,hi',hil,hin,hs,hsi,hn,hroom,hmany,hr,hr2,hxv,hgo,hdl,ht,hb,h7,h8,h9,k1]
     refine zA [] [0] ?_ ?_ ?_<;> simp[xL,jZ,hr,hr2,hb,ht,hb,h7,h8,h9,k1]))
theorem qQp (l:List Ev) (n c i:Nat) (k a t v:Int) (hn:n<=l.length) (hi:i<n) (hs:i<=1000) (hx:l[i]?=some ⟨k,a,t,v⟩) (hv:∀x∈l,0<=x.v/\x.v<18446744073709551616) (hr:¬a<0) (hr2:¬64<=a) (hb:qD l i a 1=true) (h8:qD l i a 8=false) (h9:qD l i a 9=false) (kk:k=8):zP Tryz.prog cfg 150 [.slice (some ⟨0,0,none⟩) n c,.int .i64 i] (AH.of [some (.ro (evs l))])
  fun r H'=> r=.ret (.bool (xL l i ⟨k,a,t,v⟩))/\H'=AH.of [some (.ro (evs l))]:=by
 refine zP.ends ?_
 refine zY (tbl:=xH) zCp 0 0 (af:=a150) rfl ?_
 rw[a150,b150,qB]
 refine⟨by simp,?_⟩
 have hi':(i:Int)<n:=by omega
 have hsi:(i:Int)<=1000:=by omega
 have hil:i<=l.length:=by omega
 have hin:i<=n:=by omega
 have hroom:=zA3 (show i<l.length by omega)
 have hmany:((evs l).drop (i*4)).take 4=[.int .u8 k,.int .i64 a,.int .i64 t,.int .u64 v]:=zB0 hx
 have hxv:0<=v/\v<18446744073709551616:=hv _ (List.mem_of_getElem? hx)
 have hgo:=zB4 l i a
 have hst:∀k,qD (l.take n) i a k=qD l i a k:=fun k=> zAz hin a k
 have hln:(l.take n).length=n:=by rw[List.length_take];omega
 have hone:zAj [.int .u8 k,.int .i64 a,.int .i64 t,.int .u64 v]=some [⟨k,a,t,v⟩]:=rfl
 have hdl:(xA l i a).length<=1000:=by have:(xA l i a).length<=5:=hgo.1.2.1;omega
 subst kk
 by_cases ht:t=0
 ·subst ht
  by_cases h0:v=0
  ·subst h0
   cases h7:qD l i a 7<;> (
    simp -implicitDefEqProofs [xH,xW,zAk,xT,qA,zAt,zAy,zAi,asU,hone,hst,hln,hi,hi',hil,hin,hs,hsi,hn,hroom,hmany,hr,hr2,hxv,hgo,hdl,hb,h7,h8,h9]
    refine⟨hv,?_⟩
    refine zA [] [0] ?_ ?_ ?_<;> simp[xL,jZ,hr,hr2,hb,hb,h7,h8,h9])
  ·cases h7:qD l i a 7<;> (
   simp -implicitDefEqProofs [xH,xW,zAk,xT,qA,zAt,zAy,zAi,asU,hone,hst,hln,hi,hi',hil,hin,hs,hsi,hn,hroom,hmany,hr,hr2,hxv,hgo,hdl,h0,hb,h7,h8,h9]
   refine⟨hv,?_⟩
   refine zA [] [0] ?_ ?_ ?_<;> simp[xL,jZ,hr,hr2,hb,h0,hb,h7,h8,h9])
 ·cases h7:qD l i a 7<;> (
  simp -implicitDefEqProofs [xH,xW,zAk,xT,qA,zAt,zAy,zAi,asU,hone,hst,hln,hi,hi',hil,hin,hs,hsi,hn,hroom,hmany,hr,hr2,hxv,hgo,hdl,ht,hb,h7,h8,h9]
  refine⟨hv,?_⟩
  refine zA [] [0] ?_ ?_ ?_<;> simp[xL,jZ,hr,hr2,hb,ht,hb,h7,h8,h9])
theorem qQo (l:List Ev) (n c i:Nat) (k a t v:Int) (hn:n<=l.length) (hi:i<n) (hs:i<=1000) (hx:l[i]?=some ⟨k,a,t,v⟩) (hv:∀x∈l,0<=x.v/\x.v<18446744073709551616) (hr:¬a<0) (hr2:¬64<=a) (hb:qD l i a 1=true) (h8:qD l i a 8=false) (h9:qD l i a 9=false) (kk:k=9):zP Tryz.prog cfg 150 [.slice (some ⟨0,0,none⟩) n c,.int .i64 i] (AH.of [some (.ro (evs l))])
  fun r H'=> r=.ret (.bool (xL l i ⟨k,a,t,v⟩))/\H'=AH.of [some (.ro (evs l))]:=by
 refine zP.ends ?_
 refine zY (tbl:=xH) zCp 0 0 (af:=a150) rfl ?_
 rw[a150,b150,qB]
 refine⟨by simp,?_⟩
 have hi':(i:Int)<n:=by omega
 have hsi:(i:Int)<=1000:=by omega
 have hil:i<=l.length:=by omega
 have hin:i<=n:=by omega
 have hroom:=zA3 (show i<l.length by omega)
 have hmany:((evs l).drop (i*4)).take 4=[.int .u8 k,.int .i64 a,.int .i64 t,.int .u64 v]:=zB0 hx
 have hxv:0<=v/\v<18446744073709551616:=hv _ (List.mem_of_getElem? hx)
 have hgo:=zB4 l i a
 have hst:∀k,qD (l.take n) i a k=qD l i a k:=fun k=> zAz hin a k
 have hln:(l.take n).length=n:=by rw[List.length_take];omega
 have hone:zAj [.int .u8 k,.int .i64 a,.int .i64 t,.int .u64 v]=some [⟨k,a,t,v⟩]:=rfl
 have hdl:(xA l i a).length<=1000:=by have:(xA l i a).length<=5:=hgo.1.2.1;omega
 subst kk
 by_cases ht:t=0
 ·subst ht
  by_cases h0:v=0
  ·subst h0
   cases h7:qD l i a 7<;> (
    simp -implicitDefEqProofs [xH,xW,zAk,xT,qA,zAt,zAy,zAi,asU,hone,hst,hln,hi,hi',hil,hin,hs,hsi,hn,hroom,hmany,hr,hr2,hxv,hgo,hdl,hb,h7,h8,h9]
    refine⟨hv,?_⟩
    refine zA [] [0] ?_ ?_ ?_<;> simp[xL,jZ,hr,hr2,hb,hb,h7,h8,h9])
  ·cases h7:qD l i a 7<;> (
   simp -implicitDefEqProofs [xH,xW,zAk,xT,qA,zAt,zAy,zAi,asU,hone,hst,hln,hi,hi',hil,hin,hs,hsi,hn,hroom,hmany,hr,hr2,hxv,hgo,hdl,h0,hb,h7,h8,h9]
   refine⟨hv,?_⟩
   refine zA [] [0] ?_ ?_ ?_<;> simp[xL,jZ,hr,hr2,hb,h0,hb,h7,h8,h9])
 ·cases h7:qD l i a 7<;> (
  simp -implicitDefEqProofs [xH,xW,zAk,xT,qA,zAt,zAy,zAi,asU,hone,hst,hln,hi,hi',hil,hin,hs,hsi,hn,hroom,hmany,hr,hr2,hxv,hgo,hdl,ht,hb,h7,h8,h9]
  refine⟨hv,?_⟩
  refine zA [] [0] ?_ ?_ ?_<;> simp[xL,jZ,hr,hr2,hb,ht,hb,h7,h8,h9])
theorem qQv (l:List Ev) (n c i:Nat) (k a t v:Int) (hn:n<=l.length) (hi:i<n) (hs:i<=1000) (hx:l[i]?=some ⟨k,a,t,v⟩) (hv:∀x∈l,0<=x.v/\x.v<18446744073709551616) (hr:¬a<0) (hr2:¬64<=a) (hb:qD l i a 1=true) (h8:qD l i a 8=false) (h9:qD l i a 9=false) (kk:k=2):zP Tryz.prog cfg 150 [.slice (some ⟨0,0,none⟩) n c,.int .i64 i] (AH.of [some (.ro (evs l))])
  fun r H'=> r=.ret (.bool (xL l i ⟨k,a,t,v⟩))/\H'=AH.of [some (.ro (evs l))]:=by
 refine zP.ends ?_
 refine zY (tbl:=xH) zCp 0 0 (af:=a150) rfl ?_
 rw[a150,b150,qB]
 refine⟨by simp,?_⟩
 have hi':(i:Int)<n:=by omega
 have hsi:(i:Int)<=1000:=by omega
 have hil:i<=l.length:=by omega
 have hin:i<=n:=by omega
 have hroom:=zA3 (show i<l.length by omega)
 have hmany:((evs l).drop (i*4)).take 4=[.int .u8 k,.int .i64 a,.int .i64 t,.int .u64 v]:=zB0 hx
 have hxv:0<=v/\v<18446744073709551616:=hv _ (List.mem_of_getElem? hx)
 have hgo:=zB4 l i a
 have hst:∀k,qD (l.take n) i a k=qD l i a k:=fun k=> zAz hin a k
 have hln:(l.take n).length=n:=by rw[List.length_take];omega
 have hone:zAj [.int .u8 k,.int .i64 a,.int .i64 t,.int .u64 v]=some [⟨k,a,t,v⟩]:=rfl
 have hdl:(xA l i a).length<=1000:=by have:(xA l i a).length<=5:=hgo.1.2.1;omega
 subst kk
 by_cases ht:t=0
 ·subst ht
  by_cases h0:v=0
  ·subst h0
   cases h7:qD l i a 7<;> cases g3:jN 0<;> (
    simp -implicitDefEqProofs [xH,xW,zAk,xT,qA,zAt,zAy,zAi,asU,hone,hst,hln,hi,hi',hil,hin,hs,hsi,hn,hroom,hmany,hr,hr2,hxv,hgo,hdl,hb,h7,h8,h9,g3]
    refine⟨hv,?_⟩
    refine zA [] [0] ?_ ?_ ?_<;> simp[xL,jZ,hr,hr2,hb,hb,h7,h8,h9,g3])
  ·cases h7:qD l i a 7<;> cases g3:jN v<;> (
   simp -implicitDefEqProofs [xH,xW,zAk,xT,qA,zAt,zAy,zAi,asU,hone,hst,hln,hi,hi',hil,hin,hs,hsi,hn,hroom,hmany,hr,hr2,hxv,hgo,hdl,h0,hb,h7,h8,h9,g3]
   refine⟨hv,?_⟩
   refine zA [] [0] ?_ ?_ ?_<;> simp[xL,jZ,hr,hr2,hb,h0,hb,h7,h8,h9,g3])
 ·cases h7:qD l i a 7<;> by_cases g1:0<=t<;> by_cases g2:t<12<;> cases g3:jN v<;> (
  simp -implicitDefEqProofs [xH,xW,zAk,xT,qA,zAt,zAy,zAi,asU,hone,hst,hln,hi,hi',hil,hin,hs,hsi,hn,hroom,hmany,hr,hr2,hxv,hgo,hdl,ht,hb,h7,h8,h9,g1,g2,g3]
  refine⟨hv,?_⟩
  refine zA [] [0] ?_ ?_ ?_<;> simp[xL,jZ,hr,hr2,hb,ht,hb,h7,h8,h9,g1,g2,g3])
theorem qQu (l:List Ev) (n c i:Nat) (k a t v:Int) (hn:n<=l.length) (hi:i<n) (hs:i<=1000) (hx:l[i]?=some ⟨k,a,t,v⟩) (hv:∀x∈l,0<=x.v/\x.v<18446744073709551616) (hr:¬a<0) (hr2:¬64<=a) (hb:qD l i a 1=true) (h8:qD l i a 8=false) (h9:qD l i a 9=false) (kk:k=3):zP Tryz.prog cfg 150 [.slice (some ⟨0,0,none⟩) n c,.int .i64 i] (AH.of [some (.ro (evs l))])
  fun r H'=> r=.ret (.bool (xL l i ⟨k,a,t,v⟩))/\H'=AH.of [some (.ro (evs l))]:=by
 refine zP.ends ?_
 refine zY (tbl:=xH) zCp 0 0 (af:=a150) rfl ?_
 rw[a150,b150,qB]
 refine⟨by simp,?_⟩
 have hi':(i:Int)<n:=by omega
 have hsi:(i:Int)<=1000:=by omega
 have hil:i<=l.length:=by omega
 have hin:i<=n:=by omega
 have hroom:=zA3 (show i<l.length by omega)
 have hmany:((evs l).drop (i*4)).take 4=[.int .u8 k,.int .i64 a,.int .i64 t,.int .u64 v]:=zB0 hx
 have hxv:0<=v/\v<18446744073709551616:=hv _ (List.mem_of_getElem? hx)
 have hgo:=zB4 l i a
 have hst:∀k,qD (l.take n) i a k=qD l i a k:=fun k=> zAz hin a k
 have hln:(l.take n).length=n:=by rw[List.length_take];omega
 have hone:zAj [.int .u8 k,.int .i64 a,.int .i64 t,.int .u64 v]=some [⟨k,a,t,v⟩]:=rfl
 have hdl:(xA l i a).length<=1000:=by have:(xA l i a).length<=5:=hgo.1.2.1;omega
 subst kk
 by_cases ht:t=0
 ·subst ht
  by_cases h0:v=0
  ·subst h0
   cases h7:qD l i a 7<;> by_cases ga:(zAa (xA l i a) ⟨3,a,0,0⟩).1=0<;> (
    simp -implicitDefEqProofs [xH,xW,zAk,xT,qA,zAt,zAy,zAi,asU,hone,hst,hln,hi,hi',hil,hin,hs,hsi,hn,hroom,hmany,hr,hr2,hxv,hgo,hdl,hb,h7,h8,h9,ga]
    refine⟨hv,?_⟩
    refine zA [] [0] ?_ ?_ ?_<;> simp[xL,jZ,hr,hr2,hb,hb,h7,h8,h9,ga])
  ·cases h7:qD l i a 7<;> by_cases ga:(zAa (xA l i a) ⟨3,a,0,v⟩).1=0<;> (
   simp -implicitDefEqProofs [xH,xW,zAk,xT,qA,zAt,zAy,zAi,asU,hone,hst,hln,hi,hi',hil,hin,hs,hsi,hn,hroom,hmany,hr,hr2,hxv,hgo,hdl,h0,hb,h7,h8,h9,ga]
   refine⟨hv,?_⟩
   refine zA [] [0] ?_ ?_ ?_<;> simp[xL,jZ,hr,hr2,hb,h0,hb,h7,h8,h9,ga])
 ·cases h7:qD l i a 7<;> by_cases ga:(zAa (xA l i a) ⟨3,a,t,v⟩).1=0<;> (
  simp -implicitDefEqProofs [xH,xW,zAk,xT,qA,zAt,zAy,zAi,asU,hone,hst,hln,hi,hi',hil,hin,hs,hsi,hn,hroom,hmany,hr,hr2,hxv,hgo,hdl,ht,hb,h7,h8,h9,ga]
  refine⟨hv,?_⟩
  refine zA [] [0] ?_ ?_ ?_<;> simp[xL,jZ,hr,hr2,hb,ht,hb,h7,h8,h9,ga])
theorem qQt (l:List Ev) (n c i:Nat) (k a t v:Int) (hn:n<=l.length) (hi:i<n) (hs:i<=1000) (hx:l[i]?=some ⟨k,a,t,v⟩) (hv:∀x∈l,0<=x.v/\x.v<18446744073709551616) (hr:¬a<0) (hr2:¬64<=a) (hb:qD l i a 1=true) (h8:qD l i a 8=false) (h9:qD l i a 9=false) (kk:k=4):zP Tryz.prog cfg 150 [.slice (some ⟨0,0,none⟩) n c,.int .i64 i] (AH.of [some (.ro (evs l))])
  fun r H'=> r=.ret (.bool (xL l i ⟨k,a,t,v⟩))/\H'=AH.of [some (.ro (evs l))]:=by
 refine zP.ends ?_
 refine zY (tbl:=xH) zCp 0 0 (af:=a150) rfl ?_
 rw[a150,b150,qB]
 refine⟨by simp,?_⟩
 have hi':(i:Int)<n:=by omega
 have hsi:(i:Int)<=1000:=by omega
 have hil:i<=l.length:=by omega
 have hin:i<=n:=by omega
 have hroom:=zA3 (show i<l.length by omega)
 have hmany:((evs l).drop (i*4)).take 4=[.int .u8 k,.int .i64 a,.int .i64 t,.int .u64 v]:=zB0 hx
 have hxv:0<=v/\v<18446744073709551616:=hv _ (List.mem_of_getElem? hx)
 have hgo:=zB4 l i a
 have hst:∀k,qD (l.take n) i a k=qD l i a k:=fun k=> zAz hin a k
 have hln:(l.take n).length=n:=by rw[List.length_take];omega
 have hone:zAj [.int .u8 k,.int .i64 a,.int .i64 t,.int .u64 v]=some [⟨k,a,t,v⟩]:=rfl
 have hdl:(xA l i a).length<=1000:=by have:(xA l i a).length<=5:=hgo.1.2.1;omega
 subst kk
 by_cases ht:t=0
 ·subst ht
  by_cases h0:v=0
  ·subst h0
   cases h7:qD l i a 7<;> by_cases ga:(zAa (xA l i a) ⟨4,a,0,0⟩).1=0<;> (
    simp -implicitDefEqProofs [xH,xW,zAk,xT,qA,zAt,zAy,zAi,asU,hone,hst,hln,hi,hi',hil,hin,hs,hsi,hn,hroom,hmany,hr,hr2,hxv,hgo,hdl,hb,h7,h8,h9,ga]
    refine⟨hv,?_⟩
    refine zA [] [0] ?_ ?_ ?_<;> simp[xL,jZ,hr,hr2,hb,hb,h7,h8,h9,ga])
  ·cases h7:qD l i a 7<;> by_cases ga:(zAa (xA l i a) ⟨4,a,0,v⟩).1=0<;> (
   simp -implicitDefEqProofs [xH,xW,zAk,xT,qA,zAt,zAy,zAi,asU,hone,hst,hln,hi,hi',hil,hin,hs,hsi,hn,hroom,hmany,hr,hr2,hxv,hgo,hdl,h0,hb,h7,h8,h9,ga]
   refine⟨hv,?_⟩
   refine zA [] [0] ?_ ?_ ?_<;> simp[xL,jZ,hr,hr2,hb,h0,hb,h7,h8,h9,ga])
 ·cases h7:qD l i a 7<;> by_cases ga:(zAa (xA l i a) ⟨4,a,t,v⟩).1=0<;> (
  simp -implicitDefEqProofs [xH,xW,zAk,xT,qA,zAt,zAy,zAi,asU,hone,hst,hln,hi,hi',hil,hin,hs,hsi,hn,hroom,hmany,hr,hr2,hxv,hgo,hdl,ht,hb,h7,h8,h9,ga]
  refine⟨hv,?_⟩
  refine zA [] [0] ?_ ?_ ?_<;> simp[xL,jZ,hr,hr2,hb,ht,hb,h7,h8,h9,ga])
theorem qQs (l:List Ev) (n c i:Nat) (k a t v:Int) (hn:n<=l.length) (hi:i<n) (hs:i<=1000) (hx:l[i]?=some ⟨k,a,t,v⟩) (hv:∀x∈l,0<=x.v/\x.v<18446744073709551616) (hr:¬a<0) (hr2:¬64<=a) (hb:qD l i a 1=true) (h8:qD l i a 8=false) (h9:qD l i a 9=false) (kk:k=5):zP Tryz.prog cfg 150 [.slice (some ⟨0,0,none⟩) n c,.int .i64 i] (AH.of [some (.ro (evs l))])
  fun r H'=> r=.ret (.bool (xL l i ⟨k,a,t,v⟩))/\H'=AH.of [some (.ro (evs l))]:=by
 refine zP.ends ?_
 refine zY (tbl:=xH) zCp 0 0 (af:=a150) rfl ?_
 rw[a150,b150,qB]
 refine⟨by simp,?_⟩
 have hi':(i:Int)<n:=by omega
 have hsi:(i:Int)<=1000:=by omega
 have hil:i<=l.length:=by omega
 have hin:i<=n:=by omega
 have hroom:=zA3 (show i<l.length by omega)
 have hmany:((evs l).drop (i*4)).take 4=[.int .u8 k,.int .i64 a,.int .i64 t,.int .u64 v]:=zB0 hx
 have hxv:0<=v/\v<18446744073709551616:=hv _ (List.mem_of_getElem? hx)
 have hgo:=zB4 l i a
 have hst:∀k,qD (l.take n) i a k=qD l i a k:=fun k=> zAz hin a k
 have hln:(l.take n).length=n:=by rw[List.length_take];omega
 have hone:zAj [.int .u8 k,.int .i64 a,.int .i64 t,.int .u64 v]=some [⟨k,a,t,v⟩]:=rfl
 have hdl:(xA l i a).length<=1000:=by have:(xA l i a).length<=5:=hgo.1.2.1;omega
 subst kk
 by_cases ht:t=0
 ·subst ht
  by_cases h0:v=0
  ·subst h0
   cases h7:qD l i a 7<;> by_cases ga:(zAa (xA l i a) ⟨5,a,0,0⟩).1=0<;> (
    simp -implicitDefEqProofs [xH,xW,zAk,xT,qA,zAt,zAy,zAi,asU,hone,hst,hln,hi,hi',hil,hin,hs,hsi,hn,hroom,hmany,hr,hr2,hxv,hgo,hdl,hb,h7,h8,h9,ga]
    refine⟨hv,?_⟩
    refine zA [] [0] ?_ ?_ ?_<;> simp[xL,jZ,hr,hr2,hb,hb,h7,h8,h9,ga])
  ·cases h7:qD l i a 7<;> by_cases ga:(zAa (xA l i a) ⟨5,a,0,v⟩).1=0<;> (
   simp -implicitDefEqProofs [xH,xW,zAk,xT,qA,zAt,zAy,zAi,asU,hone,hst,hln,hi,hi',hil,hin,hs,hsi,hn,hroom,hmany,hr,hr2,hxv,hgo,hdl,h0,hb,h7,h8,h9,ga]
   refine⟨hv,?_⟩
   refine zA [] [0] ?_ ?_ ?_<;> simp[xL,jZ,hr,hr2,hb,h0,hb,h7,h8,h9,ga])
 ·cases h7:qD l i a 7<;> by_cases ga:(zAa (xA l i a) ⟨5,a,t,v⟩).1=0<;> (
  simp -implicitDefEqProofs [xH,xW,zAk,xT,qA,zAt,zAy,zAi,asU,hone,hst,hln,hi,hi',hil,hin,hs,hsi,hn,hroom,hmany,hr,hr2,hxv,hgo,hdl,ht,hb,h7,h8,h9,ga]
  refine⟨hv,?_⟩
  refine zA [] [0] ?_ ?_ ?_<;> simp[xL,jZ,hr,hr2,hb,ht,hb,h7,h8,h9,ga])
theorem qQr (l:List Ev) (n c i:Nat) (k a t v:Int) (hn:n<=l.length) (hi:i<n) (hs:i<=1000) (hx:l[i]?=some ⟨k,a,t,v⟩) (hv:∀x∈l,0<=x.v/\x.v<18446744073709551616) (hr:¬a<0) (hr2:¬64<=a) (hb:qD l i a 1=true) (h8:qD l i a 8=false) (h9:qD l i a 9=false) (kk:k=6):zP Tryz.prog cfg 150 [.slice (some ⟨0,0,none⟩) n c,.int .i64 i] (AH.of [some (.ro (evs l))])
  fun r H'=> r=.ret (.bool (xL l i ⟨k,a,t,v⟩))/\H'=AH.of [some (.ro (evs l))]:=by
 refine zP.ends ?_
 refine zY (tbl:=xH) zCp 0 0 (af:=a150) rfl ?_
 rw[a150,b150,qB]
 refine⟨by simp,?_⟩
 have hi':(i:Int)<n:=by omega
 have hsi:(i:Int)<=1000:=by omega
 have hil:i<=l.length:=by omega
 have hin:i<=n:=by omega
 have hroom:=zA3 (show i<l.length by omega)
 have hmany:((evs l).drop (i*4)).take 4=[.int .u8 k,.int .i64 a,.int .i64 t,.int .u64 v]:=zB0 hx
 have hxv:0<=v/\v<18446744073709551616:=hv _ (List.mem_of_getElem? hx)
 have hgo:=zB4 l i a
 have hst:∀k,qD (l.take n) i a k=qD l i a k:=fun k=> zAz hin a k
 have hln:(l.take n).length=n:=by rw[List.length_take];omega
 have hone:zAj [.int .u8 k,.int .i64 a,.int .i64 t,.int .u64 v]=some [⟨k,a,t,v⟩]:=rfl
 have hdl:(xA l i a).length<=1000:=by have:(xA l i a).length<=5:=hgo.1.2.1;omega
 subst kk
 by_cases ht:t=0
 ·subst ht
  by_cases h0:v=0
  ·subst h0
   cases h7:qD l i a 7<;> by_cases ga:(zAa (xA l i a) ⟨6,a,0,0⟩).1=0<;> (
    simp -implicitDefEqProofs [xH,xW,zAk,xT,qA,zAt,zAy,zAi,asU,hone,hst,hln,hi,hi',hil,hin,hs,hsi,hn,hroom,hmany,hr,hr2,hxv,hgo,hdl,hb,h7,h8,h9,ga]
    refine⟨hv,?_⟩
    refine zA [] [0] ?_ ?_ ?_<;> simp[xL,jZ,hr,hr2,hb,hb,h7,h8,h9,ga])
  ·cases h7:qD l i a 7<;> by_cases ga:(zAa (xA l i a) ⟨6,a,0,v⟩).1=0<;> (
   simp -implicitDefEqProofs [xH,xW,zAk,xT,qA,zAt,zAy,zAi,asU,hone,hst,hln,hi,hi',hil,hin,hs,hsi,hn,hroom,hmany,hr,hr2,hxv,hgo,hdl,h0,hb,h7,h8,h9,ga]
   refine⟨hv,?_⟩
   refine zA [] [0] ?_ ?_ ?_<;> simp[xL,jZ,hr,hr2,hb,h0,hb,h7,h8,h9,ga])
 ·cases h7:qD l i a 7<;> by_cases ga:(zAa (xA l i a) ⟨6,a,t,v⟩).1=0<;> (
  simp -implicitDefEqProofs [xH,xW,zAk,xT,qA,zAt,zAy,zAi,asU,hone,hst,hln,hi,hi',hil,hin,hs,hsi,hn,hroom,hmany,hr,hr2,hxv,hgo,hdl,ht,hb,h7,h8,h9,ga]
  refine⟨hv,?_⟩
  refine zA [] [0] ?_ ?_ ?_<;> simp[xL,jZ,hr,hr2,hb,ht,hb,h7,h8,h9,ga])
theorem qQq (l:List Ev) (n c i:Nat) (k a t v:Int) (hn:n<=l.length) (hi:i<n) (hs:i<=1000) (hx:l[i]?=some ⟨k,a,t,v⟩) (hv:∀x∈l,0<=x.v/\x.v<18446744073709551616) (hr:¬a<0) (hr2:¬64<=a) (hb:qD l i a 1=true) (h8:qD l i a 8=false) (h9:qD l i a 9=false) (kk:k=7):zP Tryz.prog cfg 150 [.slice (some ⟨0,0,none⟩) n c,.int .i64 i] (AH.of [some (.ro (evs l))])
  fun r H'=> r=.ret (.bool (xL l i ⟨k,a,t,v⟩))/\H'=AH.of [some (.ro (evs l))]:=by
 refine zP.ends ?_
 refine zY (tbl:=xH) zCp 0 0 (af:=a150) rfl ?_
 rw[a150,b150,qB]
 refine⟨by simp,?_⟩
 have hi':(i:Int)<n:=by omega
 have hsi:(i:Int)<=1000:=by omega
 have hil:i<=l.length:=by omega
 have hin:i<=n:=by omega
 have hroom:=zA3 (show i<l.length by omega)
 have hmany:((evs l).drop (i*4)).take 4=[.int .u8 k,.int .i64 a,.int .i64 t,.int .u64 v]:=zB0 hx
 have hxv:0<=v/\v<18446744073709551616:=hv _ (List.mem_of_getElem? hx)
 have hgo:=zB4 l i a
 have hst:∀k,qD (l.take n) i a k=qD l i a k:=fun k=> zAz hin a k
 have hln:(l.take n).length=n:=by rw[List.length_take];omega
 have hone:zAj [.int .u8 k,.int .i64 a,.int .i64 t,.int .u64 v]=some [⟨k,a,t,v⟩]:=rfl
 have hdl:(xA l i a).length<=1000:=by have:(xA l i a).length<=5:=hgo.1.2.1;omega
 subst kk
 by_cases ht:t=0
 ·subst ht
  by_cases h0:v=0
  ·subst h0
   cases h7:qD l i a 7<;> by_cases gd:(xA l i a).length=1<;> (
    have gd':((xA l i a).length:Int) - 1=0↔(xA l i a).length=1:=by omega
    simp -implicitDefEqProofs [xH,xW,zAk,xT,qA,zAt,zAy,zAi,asU,hone,hst,hln,hi,hi',hil,hin,hs,hsi,hn,hroom,hmany,hr,hr2,hxv,hgo,hdl,hb,h7,h8,h9,gd,gd']
    refine⟨hv,?_⟩
    refine zA [] [0] ?_ ?_ ?_<;> simp[xL,jZ,hr,hr2,hb,hb,h7,h8,h9,gd,gd'])
  ·cases h7:qD l i a 7<;> by_cases gd:(xA l i a).length=1<;> (
   have gd':((xA l i a).length:Int) - 1=0↔(xA l i a).length=1:=by omega
   simp -implicitDefEqProofs [xH,xW,zAk,xT,qA,zAt,zAy,zAi,asU,hone,hst,hln,hi,hi',hil,hin,hs,hsi,hn,hroom,hmany,hr,hr2,hxv,hgo,hdl,h0,hb,h7,h8,h9,gd,gd']
   refine⟨hv,?_⟩
   refine zA [] [0] ?_ ?_ ?_<;> simp[xL,jZ,hr,hr2,hb,h0,hb,h7,h8,h9,gd,gd'])
 ·cases h7:qD l i a 7<;> by_cases gd:(xA l i a).length=1<;> (
  have gd':((xA l i a).length:Int) - 1=0↔(xA l i a).length=1:=by omega
  simp -implicitDefEqProofs [xH,xW,zAk,xT,qA,zAt,zAy,zAi,asU,hone,hst,hln,hi,hi',hil,hin,hs,hsi,hn,hroom,hmany,hr,hr2,hxv,hgo,hdl,ht,hb,h7,h8,h9,gd,gd']
  refine⟨hv,?_⟩
  refine zA [] [0] ?_ ?_ ?_<;> simp[xL,jZ,hr,hr2,hb,ht,hb,h7,h8,h9,gd,gd'])
theorem qDk (l:List Ev) (n c i:Nat) (k a t v:Int) (hn:n<=l.length) (hi:i<n) (hs:i<=1000) (hx:l[i]?=some ⟨k,a,t,v⟩) (hv:∀x∈l,0<=x.v/\x.v<18446744073709551616) (hr:¬a<0) (hr2:¬64<=a) (hb:qD l i a 1=true) (h8:qD l i a 8=false) (h9:qD l i a 9=false) (hk:¬k=1/\¬k=2/\¬k=3/\¬k=4/\¬k=5/\¬k=6/\¬k=7/\¬k=8/\¬k=9):zP Tryz.prog cfg 150 [.slice (some ⟨0,0,none⟩) n c,.int .i64 i] (AH.of [some (.ro (evs l))])
  fun r H'=> r=.ret (.bool (xL l i ⟨k,a,t,v⟩))/\H'=AH.of [some (.ro (evs l))]:=by
 refine zP.ends ?_
 refine zY (tbl:=xH) zCp 0 0 (af:=a150) rfl ?_
 rw[a150,b150,qB]
 refine⟨by simp,?_⟩
 have hi':(i:Int)<n:=by omega
 have hsi:(i:Int)<=1000:=by omega
 have hil:i<=l.length:=by omega
 have hin:i<=n:=by omega
 have hroom:=zA3 (show i<l.length by omega)
 have hmany:((evs l).drop (i*4)).take 4=[.int .u8 k,.int .i64 a,.int .i64 t,.int .u64 v]:=zB0 hx
 have hxv:0<=v/\v<18446744073709551616:=hv _ (List.mem_of_getElem? hx)
 have hgo:=zB4 l i a
 have hst:∀k,qD (l.take n) i a k=qD l i a k:=fun k=> zAz hin a k
 have hln:(l.take n).length=n:=by rw[List.length_take];omega
 have hone:zAj [.int .u8 k,.int .i64 a,.int .i64 t,.int .u64 v]=some [⟨k,a,t,v⟩]:=rfl
 have hdl:(xA l i a).length<=1000:=by have:(xA l i a).length<=5:=hgo.1.2.1;omega
 obtain⟨q1,q2,q3,q4,q5,q6,q7,q8,q9⟩:=hk
 by_cases ht:t=0
 ·subst ht
  by_cases h0:v=0
  ·subst h0
   cases h7:qD l i a 7<;> (
    simp -implicitDefEqProofs [xH,xW,zAk,xT,qA,zAt,zAy,zAi,asU,hone,hst,hln,hi,hi',hil,hin,hs,hsi,hn,hroom,hmany,hr,hr2,hxv,hgo,hdl,hb,h7,h8,h9,q1,q2,q3,q4,q5,q6,q7,q8,q9]
    refine⟨hv,?_⟩
    refine zA [] [0] ?_ ?_ ?_<;> simp[xL,jZ,hr,hr2,hb,hb,h7,h8,h9,q1,q2,q3,q4,q5,q6,q7,q8,q9])
  ·cases h7:qD l i a 7<;> (
   simp -implicitDefEqProofs [xH,xW,zAk,xT,qA,zAt,zAy,zAi,asU,hone,hst,hln,hi,hi',hil,hin,hs,hsi,hn,hroom,hmany,hr,hr2,hxv,hgo,hdl,h0,hb,h7,h8,h9,q1,q2,q3,q4,q5,q6,q7,q8,q9]
   refine⟨hv,?_⟩
   refine zA [] [0] ?_ ?_ ?_<;> simp[xL,jZ,hr,hr2,hb,h0,hb,h7,h8,h9,q1,q2,q3,q4,q5,q6,q7,q8,q9])
 ·cases h7:qD l i a 7<;> (
  simp -implicitDefEqProofs [xH,xW,zAk,xT,qA,zAt,zAy,zAi,asU,hone,hst,hln,hi,hi',hil,hin,hs,hsi,hn,hroom,hmany,hr,hr2,hxv,hgo,hdl,ht,hb,h7,h8,h9,q1,q2,q3,q4,q5,q6,q7,q8,q9]
  refine⟨hv,?_⟩
  refine zA [] [0] ?_ ?_ ?_<;> simp[xL,jZ,hr,hr2,hb,ht,hb,h7,h8,h9,q1,q2,q3,q4,q5,q6,q7,q8,q9])
theorem qL7 (l:List Ev) (n c i:Nat) (x:Ev) (hn:n<=l.length) (hi:i<n) (hs:i<=1000) (hx:l[i]?=some x) (hv:∀x∈l,0<=x.v/\x.v<18446744073709551616):zP Tryz.prog cfg 150 [.slice (some ⟨0,0,none⟩) n c,.int .i64 i] (AH.of [some (.ro (evs l))])
  fun r H'=> r=.ret (.bool (xL l i x))/\H'=AH.of [some (.ro (evs l))]:=by
 obtain⟨k,a,t,v⟩:=x
 by_cases hr:a<0∨64<=a
 ·exact qId l n c i k a t v hn hi hs hx hv hr
 have hr1:¬a<0:=by omega
 have hr2:¬64<=a:=by omega
 cases hb:qD l i a 1 with
 |false=> exact qNy l n c i k a t v hn hi hs hx hv hr1 hr2 hb
 |true=>
  by_cases k1:k=1
  ·exact zZq l n c i k a t v hn hi hs hx hv hr1 hr2 hb k1
  by_cases he:qD l i a 8=true∨qD l i a 9=true
  ·exact zZr l n c i k a t v hn hi hs hx hv hr1 hr2 hb k1 he
  have h8:qD l i a 8=false:=by
   cases h:qD l i a 8 with
   |false=> rfl
   |true=> exact absurd (.inl h) he
  have h9:qD l i a 9=false:=by
   cases h:qD l i a 9 with
   |false=> rfl
   |true=> exact absurd (.inr h) he
  by_cases k2:k=2
  ·exact qQv l n c i k a t v hn hi hs hx hv hr1 hr2 hb h8 h9 k2
  by_cases k3:k=3
  ·exact qQu l n c i k a t v hn hi hs hx hv hr1 hr2 hb h8 h9 k3
  by_cases k4:k=4
  ·exact qQt l n c i k a t v hn hi hs hx hv hr1 hr2 hb h8 h9 k4
  by_cases k5:k=5
  ·exact qQs l n c i k a t v hn hi hs hx hv hr1 hr2 hb h8 h9 k5
  by_cases k6:k=6
  ·exact qQr l n c i k a t v hn hi hs hx hv hr1 hr2 hb h8 h9 k6
  by_cases k7:k=7
  ·exact qQq l n c i k a t v hn hi hs hx hv hr1 hr2 hb h8 h9 k7
  by_cases k8:k=8
  ·exact qQp l n c i k a t v hn hi hs hx hv hr1 hr2 hb h8 h9 k8
  by_cases k9:k=9
  ·exact qQo l n c i k a t v hn hi hs hx hv hr1 hr2 hb h8 h9 k9
  exact qDk l n c i k a t v hn hi hs hx hv hr1 hr2 hb h8 h9 ⟨k1,k2,k3,k4,k5,k6,k7,k8,k9⟩
end YtnemoimbeefngaaGreat
end Go.Proofs
namespace Go.Proofs
namespace YtnemoimbeefngaaGreat
open Go.Abs
section
variable (l m:List Ev) (n1 n2 c1 c2:Nat) (h1:n1<=l.length) (h2:n2<=m.length) (s1:n1<=1000) (s2:n2<=1000) (v1:∀x∈l.take n1,0<=x.v/\x.v<18446744073709551616) (v2:∀x∈m.take n2,0<=x.v/\x.v<18446744073709551616)
include h1 h2 s1 s2 v1 v2
end
end YtnemoimbeefngaaGreat
end Go.Proofs
namespace Go.Proofs
namespace YtnemoimbeefngaaGreat
open Go.Abs
theorem zXy (l:List Ev) {n j:Nat} (x:Ev) (h:j<=n):xL (l.take n) j x=xL l j x:=by
 have h1:∀a k,qD (l.take n) j a k=qD l j a k:=fun a k=> zAz h a k
 have h2:∀a,xA (l.take n) j a=xA l j a:=fun a=> by unfold xA;rw[List.take_take,Nat.min_eq_left h]
 unfold xL
 simp only[h1,h2]
def zOo:qQ GD:=fun args H=> match args with
 |[.slice (some ⟨k,0,none⟩) n _,.int .i64 i]=> match H.get k with
  |some (.ro cs)=> (zAj cs).bind fun l=> (l[i.toNat]?).map fun x=> (n<=l.length/\0<=i/\i<n/\i<=1000/\∀x∈l,0<=x.v/\x.v<18446744073709551616,.ret (.bool (xL l i.toNat x)),H)
  |_=> none
 |_=> none
theorem qF3:qE Tryz.prog cfg 150 zOo:=by
 intro args H p r H' h hp
 unfold zOo at h
 split at h
 case h_2=> cases h
 split at h
 case h_2=> cases h
 simp only[Option.bind_eq_some_iff,Option.map_eq_some_iff] at h
 obtain⟨l,hl,x,hx,h⟩:=h
 rename_i k n c i x1 cs hk
 cases h
 rw[zA0 hl] at hk
 obtain⟨j,rfl⟩:∃j:Nat,i=j:=⟨i.toNat,by omega⟩
 rw[Int.toNat_natCast] at hx⊢
 exact (qL7 l n c j x hp.1 (by omega) (by omega) hx hp.2.2.2.2).atK (zBn fun i cs hi=> by rcases i with _|_|i<;> simp at hi⊢;exact hi) [k] (by simp) (by simp) (by simp[hk]) (by simp) (by simp) (by simp[jF hk])
def zOc:List (FuncId × qQ GD):=[(150,zOo)]
theorem zSu:∀x∈zOc,qE Tryz.prog cfg x.1 x.2:=by simp[zOc,qF3]
theorem qOv (l:List Ev) (n c:Nat) (hn:n<=l.length) (hs:n<=1000) (hv:∀x∈l,0<=x.v/\x.v<18446744073709551616):zP Tryz.prog cfg 99 [.slice (some ⟨0,0,none⟩) n c] (AH.of [some (.ro (evs l))])
  fun r H'=> r=.ret (.bool (zDn (l.take n)))/\H'=AH.of [some (.ro (evs l))]:=by
 have hln:(l.take n).length=n:=by rw[List.length_take];omega
 refine zY (tbl:=zOc) zSu 1001 0 (af:=a99) rfl ?_
 rw[a99,b99,qB]
 refine⟨by simp,?_⟩
 by_cases h4:400<n
 ·have h4':(400:Int)<n:=by omega
  have hf:zDn (l.take n)=false:=by
   cases h:zDn (l.take n) with
   |false=> rfl
   |true=> have:=((zLk _).1 h).1;omega
  simp -implicitDefEqProofs [h4',hf]
 ·have h4':¬(400:Int)<n:=by omega
  simp -implicitDefEqProofs [h4']
  refine xB (jE xE (jG zSu) _ _ noY qX) (fun m tm H=> ∃i:Nat,m+i=n/\(∀j x,j<i->l[j]?=some x->xL l j x=true)/\tm 0=.slice (some ⟨0,0,none⟩) n c/\tm 3=.int .i64 i/\H=AH.of [some (.ro (evs l))]) (m:=n) ⟨0,by simp⟩ (by omega) ?_
  rintro m tm H ⟨i,hm,hall,t0,t3,rfl⟩
  by_cases hi:i<n
  ·obtain⟨x,hx⟩:=zAp (l:=l) (i:=i) (by omega)
   have hi':(i:Int)<n:=by omega
   have hsi:(i:Int)<=1000:=by omega
   have hwr:=xQ hi (by omega)
   cases hf:xL l i x with
   |false=>
    have hno:zDn (l.take n)=false:=by
     cases h:zDn (l.take n) with
     |false=> rfl
     |true=>
      have:=((zLk _).1 h).2 i x (by rw[List.getElem?_take,if_pos hi,hx])
      rw[zXy l x (by omega),hf] at this
      cases this
    simp -implicitDefEqProofs [zOc,zOo,hx,t0,t3,hi',hsi,hn,hf,hno]
    exact hv
   |true=>
    simp -implicitDefEqProofs [zOc,zOo,hx,t0,t3,hi',hsi,hn,hf,hwr]
    refine⟨hv,m - 1,by omega,i+1,by omega,fun j y hj hy=> ?_,by simp[t0]⟩
    by_cases e:j=i
    ·subst e;rw[hx] at hy;cases hy;exact hf
    ·exact hall j y (by omega) hy
  ·have hie:i=n:=by omega
   subst hie
   have hyes:zDn (l.take i)=true:=by
    refine (zLk _).2 ⟨by omega,fun j x hx=> ?_⟩
    have hj:j<i:=by
     have:=(List.getElem?_eq_some_iff.1 hx).1
     omega
    rw[List.getElem?_take,if_pos hj] at hx
    rw[zXy l x (by omega)]
    exact hall j x hj hx
   simp -implicitDefEqProofs [t0,t3,hyes]
def zS5:qQ GD:=fun args H=> match args with
 |[.slice (some ⟨k,0,none⟩) n _]=> match H.get k with
  |some (.ro cs)=> (zAj cs).map fun l=> (n<=l.length/\n<=1000/\∀x∈l,0<=x.v/\x.v<18446744073709551616,.ret (.bool (zDn (l.take n))),H)
  |_=> none
 |_=> none
theorem qK1:qE Tryz.prog cfg 99 zS5:=by
 intro args H p r H' h hp
 unfold zS5 at h
 split at h
 case h_2=> cases h
 split at h
 case h_2=> cases h
 simp only[Option.map_eq_some_iff] at h
 obtain⟨l,hl,h⟩:=h
 rename_i k n c x1 cs hk
 cases h
 rw[zA0 hl] at hk
 exact (qOv l n c hp.1 hp.2.1 hp.2.2).atK (zBn fun i cs hi=> by rcases i with _|_|i<;> simp at hi⊢;exact hi) [k] (by simp) (by simp) (by simp[hk]) (by simp) (by simp) (by simp[jF hk])
end YtnemoimbeefngaaGreat
end Go.Proofs
namespace Go.Proofs
namespace YtnemoimbeefngaaGreat
open Go.Abs
theorem qQ1 {k:Nat} (h:k<=1000):(k+1)*8<=140737488355328/\k<=9223372036854775806:=by omega
def zG7:List (FuncId × qQ GD):=[(101,xW zAk)]
theorem zGr:∀x∈zG7,qE Tryz.prog cfg x.1 x.2:=by simp[zG7,zTf]
theorem zQe {l:List Ev} {i:Nat} {x:Ev} (h:l[i]?=some x):zBv (l.take (i+1))=if x.k=1/\qD l i x.a 1=false then zBv (l.take i)++[x.a] else zBv (l.take i):=by
 rw[←qI2,zHi h]
 unfold zBv
 rw[List.foldl_append];rfl
theorem qPf (l:List Ev) (n c:Nat) (hn:n<=l.length) (hs:n<=1000):zP Tryz.prog cfg 38 [.slice (some ⟨0,0,none⟩) n c] (AH.of [some (.ro (evs l))])
  fun r H'=> r=.ret (.slice (some ⟨1,0,none⟩) (zBv (l.take n)).length 1)/\H'=AH.of [some (.ro (evs l)),some (.arr 3 (jA (zBv (l.take n))))]:=by
 refine zP.ends ?_
 have hln:(l.take n).length=n:=by rw[List.length_take];omega
 refine zY (tbl:=zG7) zGr 1001 0 (af:=a38) rfl ?_
 rw[a38,b38,qB]
 refine⟨by simp,?_⟩
 simp -implicitDefEqProofs
 refine zBj (jE xE (jG zGr) _ _ noY qX) (fun m tm H=> ∃i:Nat,m+i=n/\tm 0=.slice (some ⟨0,0,none⟩) n c/\tm 4=.int .i64 i/\tm 3=.slice (some ⟨1,0,none⟩) (zBv (l.take i)).length 1/\H=AH.of [some (.ro (evs l)),some (.arr 3 (jA (zBv (l.take i))))]) (m:=n) ?_ (by omega) ?_
 ·refine zGu [.nil 3] [0,1] [some (.ro (evs l)),some (.arr 3 (jA []))] [(3,.slice (some ⟨1,0,none⟩) 0 1)] n (by omega) ?_ ?_ ?_ ⟨0,?_⟩<;> simp[zBv,show jA []=[] from rfl]
 rintro m tm H ⟨i,hm,t0,t4,t3,rfl⟩
 by_cases hi:i<n
 ·obtain⟨x,hx⟩:=zAp (l:=l) (i:=i) (by omega)
  have hi':(i:Int)<n:=by omega
  have hin:i<=n:=by omega
  have hsi:(i:Int)<=1000:=by omega
  have hwr:=xQ hi (by omega)
  have hsuc:=zQe hx
  have hst:∀k,qD (l.take n) i x.a k=qD l i x.a k:=fun k=> zAz hin x.a k
  have hroom:=zA3 (show i<l.length by omega)
  have hat:=zIx hx
  have hle:=zQf (l.take i)
  rw[List.length_take] at hle
  generalize zBv (l.take i)=out at*
  have hr3:=qQ1 (k:=out.length) (by omega)
  have htk:=zQp out
  by_cases hk:x.k=1
  ·cases hsn:qD l i x.a 1 with
   |false=>
    rw[if_pos ⟨hk,hsn⟩] at hsuc
    simp -implicitDefEqProofs [zG7,xW,zAk,hst,hln,hn,hsi,hin,t0,t4,t3,hi,hi',hwr,hroom,hat,hk,hsn,hr3,htk]
    refine qN [] [0,3] [some (.ro (evs l)),some (.arr 3 (jA (out++[x.a])))] (m - 1) (by omega) ?_ ?_ ⟨i+1,by omega,?_,?_,?_,?_⟩<;> simp[t0,t4,hsuc,zFu,zFt]
   |true=>
    rw[if_neg (by rintro⟨_,h⟩;rw[hsn] at h;cases h)] at hsuc
    simp -implicitDefEqProofs [zG7,xW,zAk,hst,hln,hn,hsi,hin,t0,t4,t3,hi,hi',hwr,hroom,hat,hk,hsn]
    refine qN [] [0,1] [some (.ro (evs l)),some (.arr 3 (jA out))] (m - 1) (by omega) ?_ ?_ ⟨i+1,by omega,?_,?_,?_,?_⟩<;> simp[t0,t3,t4,hsuc]
  ·rw[if_neg (by rintro⟨h,_⟩;exact hk h)] at hsuc
   simp -implicitDefEqProofs [t0,t4,t3,hi,hi',hwr,hroom,hat,hk]
   refine qN [] [0,1] [some (.ro (evs l)),some (.arr 3 (jA out))] (m - 1) (by omega) ?_ ?_ ⟨i+1,by omega,?_,?_,?_,?_⟩<;> simp[t0,t3,t4,hsuc]
 ·have hie:i=n:=by omega
  subst hie
  simp -implicitDefEqProofs [t0,t4,t3]
  refine zA [] [0,1] ?_ ?_ ?_<;> simp
def r38:zVm
 |l,[]=> some (l.length<=1000,(zBv l).length,3,jA (zBv l))
 |_,_=> none
theorem qLb:qE Tryz.prog cfg 38 (zTt r38):=rn_ok fun l n c rest p m t cs hn h hp=> by
 unfold r38 at h
 split at h
 ·cases h
  rw[List.length_take] at hp
  exact⟨rfl,zJk _,qPf l n c hn (by omega)⟩
 ·cases h
theorem qK0 {l:List Ev} {i:Nat} {x:Ev} (h:l[i]?=some x) (a:Int):(xM (l.take (i+1)) a).foldl stG 1=if x.a=a then stG ((xM (l.take i) a).foldl stG 1) x else (xM (l.take i) a).foldl stG 1:=by
 rw[zU0 h]
 split
 ·rw[List.foldl_append];rfl
 ·rfl
theorem qMp (l:List Ev) (n c:Nat) (a:Int) (hn:n<=l.length) (hs:n<=1000):zP Tryz.prog cfg 100 [.slice (some ⟨0,0,none⟩) n c,.int .i64 a] (AH.of [some (.ro (evs l))])
  fun r H'=> r=.ret (.int .u8 (xX (l.take n) a))/\H'=AH.of [some (.ro (evs l))]:=by
 have hln:(l.take n).length=n:=by rw[List.length_take];omega
 have hst:qD (l.take n) n a 1=qD l n a 1:=zAz (Nat.le_refl n) a 1
 have hsn:(n:Int)<=1000:=by omega
 rw[qA6,hln,hst]
 refine zY (tbl:=zG7) zGr 1001 0 (af:=a100) rfl ?_
 rw[a100,b100,qB]
 refine⟨by simp,?_⟩
 cases hb:qD l n a 1 with
 |false=> simp -implicitDefEqProofs [zG7,xW,zAk,hst,hln,hn,hsn,hb]
 |true=>
  simp -implicitDefEqProofs [zG7,xW,zAk,hst,hln,hn,hsn,hb]
  refine xB (jE xE (jG zGr) _ _ noY qX) (fun m tm H=> ∃i:Nat,m+i=n/\tm 0=.slice (some ⟨0,0,none⟩) n c/\tm 1=.int .i64 a/\tm 6=.int .i64 i/\tm 5=.int .u8 ((xM (l.take i) a).foldl stG 1)/\H=AH.of [some (.ro (evs l))]) (m:=n) ⟨0,by simp[xM]⟩ (by omega) ?_
  rintro m tm H ⟨i,hm,t0,t1,t6,t5,rfl⟩
  by_cases hi:i<n
  ·obtain⟨x,hx⟩:=zAp (l:=l) (i:=i) (by omega)
   have hi':(i:Int)<n:=by omega
   have hwr:=xQ hi (by omega)
   have hsuc:=qK0 hx a
   have hroom:=zA3 (show i<l.length by omega)
   have hat:=zIx hx
   generalize (xM (l.take i) a).foldl stG 1=q at*
   by_cases ha:x.a=a
   ·rw[if_pos ha] at hsuc
    by_cases k7:x.k=7
    ·simp -implicitDefEqProofs [t0,t1,t6,t5,hi,hi',hwr,hroom,hat,ha,k7]
     exact⟨m - 1,by omega,i+1,by omega,by simp[t0,t1,hsuc,stG,k7]⟩
    by_cases k8:x.k=8
    ·simp -implicitDefEqProofs [t0,t1,t6,t5,hi,hi',hwr,hroom,hat,ha,k8]
     exact⟨m - 1,by omega,i+1,by omega,by simp[t0,t1,hsuc,stG,k8]⟩
    by_cases k9:x.k=9
    ·simp -implicitDefEqProofs [t0,t1,t6,t5,hi,hi',hwr,hroom,hat,ha,k9]
     exact⟨m - 1,by omega,i+1,by omega,by simp[t0,t1,hsuc,stG,k9]⟩
    simp -implicitDefEqProofs [t0,t1,t6,t5,hi,hi',hwr,hroom,hat,ha,k7,k8,k9]
    exact⟨m - 1,by omega,i+1,by omega,by simp[t0,t1,t5,hsuc,stG,k7,k8,k9]⟩
   ·rw[if_neg ha] at hsuc
    simp -implicitDefEqProofs [t0,t1,t6,t5,hi,hi',hwr,hroom,hat,ha]
    exact⟨m - 1,by omega,i+1,by omega,by simp[t0,t1,t5,hsuc]⟩
  ·have hie:i=n:=by omega
   subst hie
   simp -implicitDefEqProofs [t0,t1,t6,t5]
def zLn:zPf
 |l,[.int .i64 a]=> some (l.length<=1000,.int .u8 (xX l a))
 |_,_=> none
theorem zTg:qE Tryz.prog cfg 100 (xW zLn):=zYz fun l n c rest p v hn h hp=> by
 unfold zLn at h
 split at h
 ·cases h
  rw[List.length_take] at hp
  exact⟨rfl,rfl,qMp l n c _ hn (by omega)⟩
 ·cases h
theorem qMn (l:List Ev) (n c:Nat) (a b:Int) (hn:n<=l.length) (hs:n<=1000):zP Tryz.prog cfg 102 [.slice (some ⟨0,0,none⟩) n c,.int .i64 a,.int .i64 b] (AH.of [some (.ro (evs l))])
  fun r H'=> r=.ret (.bool (zBg (l.take n) a b))/\H'=AH.of [some (.ro (evs l))]:=by
 have hln:(l.take n).length=n:=by rw[List.length_take];omega
 refine zY (tbl:=zG7) zGr 1001 0 (af:=a102) rfl ?_
 rw[a102,b102,qB]
 refine⟨by simp,?_⟩
 simp -implicitDefEqProofs
 refine xB (jE xE (jG zGr) _ _ noY qX) (fun m tm H=> ∃i:Nat,m+i=n/\(∀j x,j<i->(l.take n)[j]?=some x->¬(x.a=b/\x.k=1))/\tm 0=.slice (some ⟨0,0,none⟩) n c/\tm 1=.int .i64 a/\tm 2=.int .i64 b/\tm 7=.int .i64 i/\H=AH.of [some (.ro (evs l))]) (m:=n) ⟨0,by simp⟩ (by omega) ?_
 rintro m tm H ⟨i,hm,hno,t0,t1,t2,t7,rfl⟩
 by_cases hi:i<n
 ·obtain⟨x,hx⟩:=zAp (l:=l) (i:=i) (by omega)
  have hxn:(l.take n)[i]?=some x:=by rw[List.getElem?_take,if_pos hi,hx]
  have hi':(i:Int)<n:=by omega
  have hin:i<=n:=by omega
  have hsi:(i:Int)<=1000:=by omega
  have hwr:=xQ hi (by omega)
  have hroom:=zA3 (show i<l.length by omega)
  have hat:=zIx hx
  have hst:∀k,qD (l.take n) i a k=qD l i a k:=fun k=> zAz hin a k
  by_cases hk:x.k=1
  ·by_cases hb:x.a=b
   ·have hbe:=zO8 (l.take n) a b _ i rfl hno
    have hd:(l.take n).drop i=x::(l.take n).drop (i+1):=by
     rw[List.drop_eq_getElem_cons (by omega)]
     congr 1
     rw[List.getElem?_eq_getElem (by omega)] at hxn
     exact Option.some.inj hxn
    rw[hd,zBu,if_pos ⟨hb,hk⟩,hst,hst] at hbe
    cases h8:qD l i a 8<;> cases h9:qD l i a 9<;> (
     rw[h8,h9] at hbe
     simp -implicitDefEqProofs [zG7,xW,zAk,hst,hln,hn,hsi,hin,t0,t1,t2,t7,hi,hi',hwr,hroom,hat,hk,hb,h8,h9,hbe])
   ·simp -implicitDefEqProofs [t0,t1,t2,t7,hi,hi',hwr,hroom,hat,hk,hb]
    refine⟨m - 1,by omega,i+1,by omega,fun j y hj hy=> ?_,by simp[t0,t1,t2]⟩
    by_cases e:j=i
    ·subst e;rw[hxn] at hy;cases hy;exact fun h1 h2=> hb h1
    ·have:=hno j y (by omega) hy
     simpa using this
  ·simp -implicitDefEqProofs [t0,t1,t2,t7,hi,hi',hwr,hroom,hat,hk]
   refine⟨m - 1,by omega,i+1,by omega,fun j y hj hy=> ?_,by simp[t0,t1,t2]⟩
   by_cases e:j=i
   ·subst e;rw[hxn] at hy;cases hy;exact fun h1 h2=> hk h2
   ·have:=hno j y (by omega) hy
    simpa using this
 ·have hie:i=n:=by omega
  subst hie
  have hbe:=zO8 (l.take i) a b [] i (List.drop_eq_nil_of_le (by omega)) hno
  rw[zBu] at hbe
  simp -implicitDefEqProofs [t0,t1,t2,t7,hbe]
def r102:zPf
 |l,[.int .i64 a,.int .i64 b]=> some (l.length<=1000,.bool (zBg l a b))
 |_,_=> none
theorem qGi:qE Tryz.prog cfg 102 (xW r102):=zYz fun l n c rest p v hn h hp=> by
 unfold r102 at h
 split at h
 ·cases h
  rw[List.length_take] at hp
  exact⟨rfl,rfl,qMn l n c _ _ hn (by omega)⟩
 ·cases h
end YtnemoimbeefngaaGreat
end Go.Proofs
namespace Go.Proofs
namespace YtnemoimbeefngaaGreat
open Go.Abs
structure Ob where
 fs:List (List Pr)
 rds:List Pr
 ok:Bool
def obF (o:Ob) (x:Ev):Ob:=
 if x.k=2 then (match qT o.fs x.t with
  |some v=> ⟨o.fs,o.rds,o.ok && decide (v=x.v)⟩
  |none=> ⟨o.fs,o.rds++[⟨x.t,x.v⟩],o.ok⟩)
 else ⟨(zAa o.fs x).2,o.rds,o.ok⟩
def ob0:Ob:=⟨[[]],[],true⟩
def obS (l:List Ev) (n:Int):Ob:=(xM l n).foldl obF ob0
theorem zCl (l:List Ev) (x:Ev) (n:Int):obS (l++[x]) n=if x.a=n then obF (obS l n) x else obS l n:=by
 unfold obS
 rw[zHg,zEe]
 by_cases h:x.a=n
 ·rw[if_pos h,if_pos h];simp[xM]
 ·rw[if_neg h,if_neg h];simp[xM]
theorem qP2 (o:Ob) (x:Ev):(obF o x).fs=zIs o.fs x:=by
 unfold obF zIs
 split
 ·rename_i h
  rw[zFa (by omega)]
  cases qT o.fs x.t<;> rfl
 ·rfl
theorem qNa (c:List Ev):∀o:Ob,(c.foldl obF o).fs=c.foldl zIs o.fs:=by
 induction c with
 |nil=> intro o;rfl
 |cons x c ih=> intro o;rw[List.foldl_cons,List.foldl_cons,ih,qP2]
theorem qCk (l:List Ev) (n:Int):(obS l n).fs=xA l l.length n:=by
 unfold obS xA
 rw[List.take_length,qNa];rfl
theorem zCy (o:Ob) {x:Ev} (h:x.k=1∨x.k=7∨x.k=8∨x.k=9):obF o x=o:=by
 unfold obF
 rw[if_neg (by omega),zFa (by omega)]
theorem qOj {fs:List (List Pr)} {a t v:Int} (h:zJc fs t v=0) (hne:fs≠[]):zAa fs ⟨3,a,t,v⟩=(0,zMm fs t v):=by
 cases fs with
 |nil=> exact absurd rfl hne
 |cons f r=>
  unfold zJc at h
  simp[zAa,h,zMm]
theorem qJc {fs:List (List Pr)} {a:Int} (h:fs.length<5) (hne:fs≠[]):zAa fs ⟨4,a,0,0⟩=(0,zMn fs):=by
 cases fs with
 |nil=> exact absurd rfl hne
 |cons f r=>
  have h1:¬4<=r.length:=by simp at h;omega
  have h2:¬5<=r.length+1:=by omega
  simp[zAa,h1,zMn,h2]
theorem qJe {fs:List (List Pr)} {a:Int} (h:1<fs.length):zAa fs ⟨5,a,0,0⟩=(0,zMx fs):=by
 match fs,h with
 |f::g::r,_=> simp[zAa,zMx]
theorem qEi {fs:List (List Pr)} {a:Int} (h:1<fs.length):zAa fs ⟨6,a,0,0⟩=(0,zIh fs):=by
 match fs,h with
 |f::g::r,_=> simp[zAa,zIh]
theorem zN2 (l:List Ev) (x:Ev) (n:Int):xM (l++[x]) n=if x.a=n then xM l n++[x] else xM l n:=by
 rw[zHg,zEe]
 by_cases h:x.a=n
 ·rw[if_pos h,if_pos h];simp[xM]
 ·rw[if_neg h,if_neg h];simp[xM]
theorem zJ7 (l:List Ev) (x:Ev) (n:Int):xX (l++[x]) n=if x.a=n then stC (xM l n++[x]) else xX l n:=by
 unfold xX
 rw[zN2]
 split<;> rfl
theorem qFr (c:List Ev) (x:Ev):stC (c++[x])=if (c.foldl stF (false,1)).1=true∨x.k=1 then (stF (c.foldl stF (false,1)) x).2 else 0:=by
 unfold stC
 rw[List.foldl_append]
 simp only[List.foldl_cons,List.foldl_nil]
 unfold stF
 by_cases h1:x.k=1
 ·simp[h1]
 ·by_cases h7:x.k=7
  ·simp[h1,h7]
  ·by_cases h8:x.k=8
   ·simp[h1,h7,h8]
   ·by_cases h9:x.k=9
    ·simp[h1,h7,h8,h9]
    ·simp[h1,h7,h8,h9]
theorem zC7 {l:List Ev} {x:Ev} {n:Int} (h:x.a≠n):xX (l++[x]) n=xX l n:=by rw[zJ7,if_neg h]
theorem zLa {l:List Ev} {x:Ev} (h:xX l x.a≠0):xX (l++[x]) x.a=if x.k=7 then 2 else if x.k=8 then 3 else if x.k=9 then 4 else xX l x.a:=by
 rw[zJ7,if_pos rfl,qFr]
 have hb:((xM l x.a).foldl stF (false,1)).1=true:=by
  by_cases hb:((xM l x.a).foldl stF (false,1)).1=true
  ·exact hb
  ·exfalso;apply h;unfold xX stC;rw[if_neg hb]
 rw[if_pos (.inl hb)]
 have hs:xX l x.a=((xM l x.a).foldl stF (false,1)).2:=by unfold xX stC;rw[if_pos hb]
 rw[hs]
 unfold stF
 by_cases h1:x.k=1
 ·simp[h1]
 ·simp only[h1,if_false]
  repeat' split
  all_goals first|rfl|omega
theorem zVs {l:List Ev} {n:Int} (h:∀x∈l,x.a≠n):xX (l++[⟨1,n,0,0⟩]) n=1:=by
 rw[zJ7,if_pos rfl,zN3 h];rfl
theorem zXj {l:List Ev} {n:Int} (h:∀x∈l,x.a≠n):obS l n=ob0:=by
 unfold obS;rw[zN3 h];rfl
theorem zU8 {l:List Ev} {a m:Int} (h:∀x∈l,x.a≠m):zBg (l++[⟨1,m,0,0⟩]) a m=(xM l a).any zCt:=by
 have key:∀(l:List Ev) (e:Bool),(∀x∈l,x.a≠m)->zBu e (l++[⟨1,m,0,0⟩]) a m=(e||(xM l a).any zCt):=by
  intro l
  induction l with
  |nil=> intro e _;simp[zBu,xM]
  |cons x l ih=>
   intro e h
   rw[List.cons_append,zBu,if_neg (by have:=h x (by simp);omega),ih _ fun y hy=> h y (List.mem_cons_of_mem _ hy),zEe]
   by_cases hx:x.a=a
   ·simp[hx,Bool.or_assoc]
   ·simp[hx]
 have:=key l false h
 simpa [zBg] using this
theorem zHh {l:List Ev} {a m:Int} {x:Ev} (hb:∃y∈l,y.a=m/\y.k=1):zBg (l++[x]) a m=zBg l a m:=by
 have key:∀(l:List Ev) (e:Bool),(∃y∈l,y.a=m/\y.k=1)->zBu e (l++[x]) a m=zBu e l a m:=by
  intro l
  induction l with
  |nil=> intro e ⟨y,hy,_⟩;cases hy
  |cons z l ih=>
   intro e ⟨y,hy,h1⟩
   rw[List.cons_append,zBu,zBu]
   by_cases hz:z.a=m/\z.k=1
   ·rw[if_pos hz,if_pos hz]
   ·rw[if_neg hz,if_neg hz]
    rcases List.mem_cons.1 hy with rfl|hy
    ·exact absurd h1 hz
    ·exact ih _ ⟨y,hy,h1⟩
 exact key l false hb
theorem zJq {l:List Ev} {a m:Int} (h:∀x∈l,¬(x.a=m/\x.k=1)):zBg l a m=false:=by
 have key:∀(l:List Ev) (e:Bool),(∀x∈l,¬(x.a=m/\x.k=1))->zBu e l a m=false:=by
  intro l
  induction l with
  |nil=> intro e _;rfl
  |cons z l ih=>
   intro e h
   rw[zBu,if_neg (h z (by simp))]
   exact ih _ fun y hy=> h y (List.mem_cons_of_mem _ hy)
 exact key l false h
end YtnemoimbeefngaaGreat
end Go.Proofs
namespace Go.Proofs
namespace YtnemoimbeefngaaGreat
open Go.Abs
structure Lv where
 n:Nat
 tr:Bool
 fs:List (List Pr)
def zDf (lv:Nat->Option Lv) (th:Nat) (x:Option Lv):Nat->Option Lv:=fun i=> if i=th then x else lv i
theorem zEa {lv:Nat->Option Lv} {th i:Nat} {b x:Lv}:zDf lv th (some b) i=some x↔(i=th/\x=b)∨(i≠th/\lv i=some x):=by
 unfold zDf;split<;> grind
structure EvOk (hl N:Nat) (ev:List Ev) (lv:Nat->Option Lv):Prop where
 rt:∃σ,zE3 zJd ev=some σ/\(∀th x,lv th=some x->σ x.n=some ⟨x.tr,false,x.fs⟩)/\∀n:Nat,N<=n->σ n=none
 nu:∀th th' x x',lv th=some x->lv th'=some x'->x.n=x'.n->th=th'
 nl:∀th x,lv th=some x->x.n<N
 ea:∀x∈ev,0<=x.a/\x.a<N
 ats:zBv ev=(List.range N).map fun n:Nat=> (n:Int)
 obl:∀th x,lv th=some x->(obS ev x.n).fs=x.fs
 obo:∀n:Nat,(obS ev n).ok=true
 ra:∀n:Nat,∀r∈(obS ev n).rds,0<=r.t/\r.t<hl
 fr:∀n:Nat,∀g∈(obS ev n).fs,∀p∈g,0<=p.t/\p.t<hl/\jN p.v=true
 st:∀th x,lv th=some x->xX ev x.n=if x.tr=true then 2 else 1
 dn:∀n:Nat,n<N->(∀th x,lv th=some x->x.n≠n)->xX ev n=3∨xX ev n=4
 bg:∀n:Nat,n<N->∃y∈ev,y.a=n/\y.k=1
 en:∀n:Nat,(xM ev n).any zCt=true->∀th x,lv th=some x->x.n≠n
theorem qIh (hl:Nat):EvOk hl 0 [] fun _=> none where
 rt:=⟨zJd,rfl,by simp,fun _ _=> rfl⟩
 nu:=by simp
 nl:=by simp
 ea:=by simp
 ats:=rfl
 obl:=by simp
 obo:=fun _=> rfl
 ra:=fun n r hr=> by simp[obS,xM,ob0] at hr
 fr:=fun n g hg p hp=> by simp[obS,xM,ob0] at hg;subst hg;cases hp
 st:=by simp
 dn:=fun n h=> by omega
 bg:=fun n h=> by omega
 en:=by simp
theorem zTo {ev:List Ev} {σ:Int->Option HA} (h:zE3 zJd ev=some σ) (x:Ev):zE3 zJd (ev++[x])=zJb σ x:=by
 rw[zM5,h]
 simp only[Option.bind_some,zE3]
 cases zJb σ x<;> rfl
theorem zRb (l:List Ev) (x:Ev):zBv (l++[x])=zE8 (zBv l) x:=by
 unfold zBv;rw[List.foldl_append];rfl
variable {hl N:Nat} {ev:List Ev} {lv:Nat->Option Lv}
theorem EvOk.begin (h:EvOk hl N ev lv) {th:Nat} (h0:lv th=none) (hN:N<64):EvOk hl (N+1) (ev++[⟨1,N,0,0⟩]) (zDf lv th (some ⟨N,false,[[]]⟩)):=by
 have hnew:∀x∈ev,x.a≠(N:Int):=fun x hx=> by have:=h.ea x hx;omega
 have hob:∀n:Int,obS (ev++[⟨1,N,0,0⟩]) n=obS ev n:=fun n=> by
  rw[zCl];split
  ·exact zCy _ (.inl rfl)
  ·rfl
 obtain⟨σ,r1,r2,r3⟩:=h.rt
 constructor
 case rt=>
  refine⟨zGt σ N ⟨false,false,[[]]⟩,?_,?_,?_⟩
  ·rw[zTo r1]
   unfold zJb
   rw[if_pos (by simp only;omega),r3 N (Nat.le_refl _)]
   simp[zC2,jZ]
  ·intro i x hx
   rw[zEa] at hx
   rcases hx with ⟨rfl,rfl⟩|⟨_,hx⟩
   ·simp[zGt]
   ·have:=h.nl i x hx
    unfold zGt
    rw[if_neg (by omega)];exact r2 i x hx
  ·intro n hn
   unfold zGt
   rw[if_neg (by omega)];exact r3 n (by omega)
 case nu=> have:=h.nu;have:=h.nl;simp only[zEa];grind
 case nl=> have:=h.nl;simp only[zEa];grind
 case ea=>
  intro x hx
  rcases List.mem_append.1 hx with hx|hx
  ·have:=h.ea x hx;omega
  ·simp only[List.mem_singleton] at hx;subst hx;simp only;omega
 case ats=>
  rw[zRb,h.ats]
  unfold zE8
  rw[if_pos ⟨rfl,by simp;omega⟩,List.range_succ,List.map_append];rfl
 case obl=>
  intro i x hx
  rw[hob]
  rw[zEa] at hx
  rcases hx with ⟨rfl,rfl⟩|⟨_,hx⟩
  ·rw[zXj hnew];rfl
  ·exact h.obl i x hx
 case obo=> intro n;rw[hob];exact h.obo n
 case ra=> intro n;rw[hob];exact h.ra n
 case fr=> intro n;rw[hob];exact h.fr n
 case st=>
  intro i x hx
  rw[zEa] at hx
  rcases hx with ⟨rfl,rfl⟩|⟨_,hx⟩
  ·rw[zVs hnew];rfl
  ·have:=h.nl i x hx
   rw[zC7 (by simp only;omega)];exact h.st i x hx
 case dn=>
  intro n hn hno
  by_cases e:n=N
  ·subst e;exact absurd rfl (hno th ⟨n,false,[[]]⟩ (zEa.2 (.inl ⟨rfl,rfl⟩)))
  ·rw[zC7 (by simp only;omega)]
   refine h.dn n (by omega) fun i x hx=> hno i x (zEa.2 (.inr ⟨fun e=> ?_,hx⟩))
   subst e;rw[h0] at hx;cases hx
 case bg=>
  intro n hn
  by_cases e:n=N
  ·subst e;exact⟨⟨1,n,0,0⟩,by simp,rfl,rfl⟩
  ·obtain⟨y,hy,h1⟩:=h.bg n (by omega)
   exact⟨y,by simp[hy],h1⟩
 case en=>
  intro n hn i x hx
  rw[zN2] at hn
  have hn2:(xM ev n).any zCt=true:=by
   split at hn
   ·simpa [zCt] using hn
   ·exact hn
  rw[zEa] at hx
  rcases hx with ⟨rfl,rfl⟩|⟨_,hx⟩
  ·simp only
   intro e
   subst e
   rw[zN3 hnew] at hn2;cases hn2
  ·exact h.en n hn2 i x hx
theorem EvOk.tell (h:EvOk hl N ev lv) {th:Nat} {a:Lv} (ha:lv th=some a) {x:Ev} (hx:x.a=a.n) (hk:x.k≠1) {b:HA} (ht:zC2 (some ⟨a.tr,false,a.fs⟩) x=some b) (hfs:b.fs=(obF (obS ev a.n) x).fs)
  {y:Option Lv} (hy:y=if b.en=true then none else some ⟨a.n,b.tr,b.fs⟩) (hok:(obF (obS ev a.n) x).ok=true) (hra:∀r∈(obF (obS ev a.n) x).rds,0<=r.t/\r.t<hl) (hfr:∀g∈(obF (obS ev a.n) x).fs,∀p∈g,0<=p.t/\p.t<hl/\jN p.v=true)
  (hst:b.en=false->(if x.k=7 then 2 else if x.k=8 then 3 else if x.k=9 then 4 else xX ev a.n)=(if b.tr=true then (2:Int) else 1)) (hen:zCt x=b.en) (hN:N<=64):EvOk hl N (ev++[x]) (zDf lv th y):=by
 have hn:=h.nl th a ha
 have hob:∀n:Int,n≠a.n->obS (ev++[x]) n=obS ev n:=fun n hne=> by rw[zCl,if_neg (by omega)]
 have hobs:obS (ev++[x]) a.n=obF (obS ev a.n) x:=by rw[zCl,if_pos hx]
 have hst0:xX ev a.n≠0:=by rw[h.st th a ha];split<;> omega
 have hsts:xX (ev++[x]) a.n=if x.k=7 then 2 else if x.k=8 then 3 else if x.k=9 then 4 else xX ev a.n:=by
  have:=zLa (l:=ev) (x:=x) (by rw[hx];exact hst0)
  rw[hx] at this;exact this
 have hoth:∀i z,zDf lv th y i=some z->(i=th/\b.en=false/\z=⟨a.n,b.tr,b.fs⟩)∨(i≠th/\lv i=some z/\z.n≠a.n):=by
  intro i z hz
  by_cases e:i=th
  ·subst e
   simp only[zDf,if_true] at hz
   rw[hy] at hz
   split at hz
   ·cases hz
   ·rename_i hb
    cases hz
    exact .inl ⟨rfl,by simpa using hb,rfl⟩
  ·simp only[zDf,if_neg e] at hz
   exact .inr ⟨e,hz,fun he=> e (h.nu i th z a hz ha he)⟩
 obtain⟨σ,r1,r2,r3⟩:=h.rt
 constructor
 case rt=>
  refine⟨zGt σ a.n b,?_,?_,?_⟩
  ·rw[zTo r1]
   unfold zJb
   rw[hx,if_pos (by omega),r2 th a ha,ht]
   rfl
  ·intro i z hz
   rcases hoth i z hz with ⟨rfl,h1,rfl⟩|⟨_,h1,h2⟩
   ·simp only[zGt,if_true]
    obtain⟨b1,b2,b3⟩:=b
    simp only at h1
    subst h1;rfl
   ·unfold zGt
    rw[if_neg (by omega)];exact r2 i z h1
  ·intro n hn'
   unfold zGt
   rw[if_neg (by omega)];exact r3 n hn'
 case nu=>
  intro i j z w hz hw he
  rcases hoth i z hz with ⟨rfl,h1,rfl⟩|⟨e1,h1,h2⟩<;> rcases hoth j w hw with ⟨rfl,h3,rfl⟩|⟨e3,h3,h4⟩
  ·rfl
  ·exact absurd he.symm h4
  ·exact absurd he h2
  ·exact h.nu i j z w h1 h3 he
 case nl=>
  intro i z hz
  rcases hoth i z hz with ⟨rfl,h1,rfl⟩|⟨e1,h1,h2⟩
  ·exact hn
  ·exact h.nl i z h1
 case ea=>
  intro z hz
  rcases List.mem_append.1 hz with hz|hz
  ·exact h.ea z hz
  ·simp only[List.mem_singleton] at hz;subst hz;omega
 case ats=>
  rw[zRb,h.ats]
  unfold zE8
  rw[if_neg (by omega)]
 case obl=>
  intro i z hz
  rcases hoth i z hz with ⟨rfl,h1,rfl⟩|⟨e1,h1,h2⟩
  ·simp only;rw[hobs,hfs]
  ·rw[hob _ (by omega)];exact h.obl i z h1
 case obo=>
  intro n
  by_cases e:n=a.n
  ·subst e;rw[hobs];exact hok
  ·rw[hob _ (by omega)];exact h.obo n
 case ra=>
  intro n
  by_cases e:n=a.n
  ·subst e;rw[hobs];exact hra
  ·rw[hob _ (by omega)];exact h.ra n
 case fr=>
  intro n
  by_cases e:n=a.n
  ·subst e;rw[hobs];exact hfr
  ·rw[hob _ (by omega)];exact h.fr n
 case st=>
  intro i z hz
  rcases hoth i z hz with ⟨rfl,h1,rfl⟩|⟨e1,h1,h2⟩
  ·simp only;rw[hsts];exact hst h1
  ·rw[zC7 (by omega)];exact h.st i z h1
 case dn=>
  intro n hn' hno
  by_cases e:n=a.n
  ·subst e
   have hb:b.en=true:=by
    by_cases hb:b.en=true
    ·exact hb
    ·exact absurd rfl (hno th ⟨a.n,b.tr,b.fs⟩ (by simp only[zDf,if_true];rw[hy,if_neg hb]))
   rw[hb] at hen
   unfold zCt at hen
   rw[hsts]
   simp only[Bool.or_eq_true,decide_eq_true_eq] at hen
   rcases hen with e8|e9
   ·left;simp[e8]
   ·right;simp[e9]
  ·rw[zC7 (by omega)]
   refine h.dn n hn' fun i z hz=> ?_
   by_cases ei:i=th
   ·subst ei;rw[ha] at hz;cases hz;exact fun e2=> e e2.symm
   ·exact hno i z (by simp only[zDf,if_neg ei];exact hz)
 case bg=>
  intro n hn'
  obtain⟨y,hy,h1⟩:=h.bg n hn'
  exact⟨y,by simp[hy],h1⟩
 case en=>
  intro n hn' i z hz
  rw[zN2] at hn'
  rcases hoth i z hz with ⟨rfl,h1,rfl⟩|⟨e1,h1,h2⟩
  ·simp only
   intro e
   subst e
   rw[if_pos hx,List.any_append] at hn'
   have h3:(xM ev a.n).any zCt=false:=by
    rw[Bool.eq_false_iff];intro hc;exact h.en _ hc _ _ ha rfl
   rw[h3] at hn'
   simp only[List.any_cons,List.any_nil,Bool.or_false,Bool.false_or] at hn'
   rw[hen,h1] at hn';cases hn'
  ·by_cases e:x.a=n
   ·omega
   ·rw[if_neg e] at hn';exact h.en n hn' i z h1
theorem EvOk.same (h:EvOk hl N ev lv) {lv':Nat->Option Lv} (hh:∀i,lv' i=lv i):EvOk hl N ev lv':=by
 rw[funext hh];exact h
theorem zU7 {l:List Ev} {a m:Int} (h:zBg l a m=true):(xM l a).any zCt=true:=by
 have key:∀(l:List Ev) (e:Bool),zBu e l a m=true->e=true∨(xM l a).any zCt=true:=by
  intro l
  induction l with
  |nil=> intro e h;cases h
  |cons z l ih=>
   intro e h
   rw[zBu] at h
   split at h
   ·exact .inl h
   ·rcases ih _ h with h1|h1
    ·rw[Bool.or_eq_true] at h1
     rcases h1 with h1|h1
     ·exact .inl h1
     ·simp only[Bool.and_eq_true,decide_eq_true_eq] at h1
      right;rw[zEe,if_pos h1.1];simp[h1.2]
    ·right
     rw[zEe];split
     ·simp only[List.any_cons,h1,Bool.or_true]
     ·exact h1
 rcases key l false h with h1|h1
 ·cases h1
 ·exact h1
end YtnemoimbeefngaaGreat
end Go.Proofs
namespace Go.Proofs
namespace YtnemoimbeefngaaGreat
structure LA where
 n:Nat
 rv:Int
 wv:Int
 ph:Nat
 chk:Int->Prop
 rest:Int->Prop
 ss:Nat
 t:Int
 v0:Int
 sv:Int
structure AS where
 c:Int
 own:Nat->Int
 ver:Nat->Int
 hp:Int->Int
 N:Nat
 key:Nat->Int
 rds:Nat->Int->Int->Prop
 lg:Nat->Int->Option Int
 ts:Nat->Option LA
def zAx {α:Type} (f:Nat->α) (n:Nat) (x:α):Nat->α:=fun m=> if m=n then x else f m
def zSm {α:Type} (f:Int->α) (n:Int) (x:α):Int->α:=fun m=> if m=n then x else f m
def AS.Ent (s:AS) (m:Nat):Prop:=m<s.N/\s.key m % 2=0
def Val (s:AS) (f:Int->Int) (k t v:Int):Prop:=
 (∃m,s.Ent m/\s.key m<k/\s.lg m t=some v/\∀m',s.Ent m'->s.key m'<k->s.key m<s.key m'->s.lg m' t=none)∨
 (v=f t/\∀m',s.Ent m'->s.key m'<k->s.lg m' t=none)
theorem Val.to {s s':AS} {f:Int->Int} {k k' t v:Int} (h:Val s f k t v)
  (h1:∀m,s'.Ent m->s'.key m<k'->s'.lg m t≠none->s.Ent m/\s.key m=s'.key m/\s.key m<k/\s.lg m t=s'.lg m t)
  (h2:∀m,s.Ent m->s.key m<k->s.lg m t≠none->s'.Ent m/\s'.key m=s.key m/\s'.key m<k'/\s'.lg m t=s.lg m t):Val s' f k' t v:=by
 unfold Val at h⊢
 rcases h with ⟨m,e1,e2,e3,e4⟩|⟨e1,e2⟩
 ·refine .inl ⟨m,?_⟩
  have:=h2 m e1 e2 (by simp[e3])
  refine⟨this.1,this.2.2.1,by rw[this.2.2.2,e3],fun m' g1 g2 g3=> ?_⟩
  grind
 ·refine .inr ⟨e1,fun m' g1 g2=> ?_⟩
  grind
theorem Val.uniq {s:AS} {f:Int->Int} {k t v v':Int} (hu:∀n m,s.Ent n->s.Ent m->s.key n=s.key m->n=m) (h:Val s f k t v) (h':Val s f k t v'):v=v':=by
 unfold Val at h h'
 rcases h with ⟨m,e1,e2,e3,e4⟩|⟨e1,e2⟩<;> rcases h' with ⟨m',e1',e2',e3',e4'⟩|⟨e1',e2'⟩<;> grind
structure OInv (sf:Int->Nat) (f:Int->Int) (s:AS):Prop where
 nlt:∀th a,s.ts th=some a->a.n<s.N
 nu:∀th a th' a',s.ts th=some a->s.ts th'=some a'->a.n=a'.n->th=th'
 kb:∀n,n<s.N->1<=s.key n/\s.key n<=2*s.c+1
 kl0:∀th a,s.ts th=some a->a.ph≠3->s.key a.n=2*a.rv+1
 kl3:∀th a,s.ts th=some a->a.ph=3->s.key a.n=2*a.wv
 ku:∀n m,s.Ent n->s.Ent m->s.key n=s.key m->n=m
 wu:∀th a,s.ts th=some a->a.ph=2->∀n,n<s.N->s.key n≠2*a.wv
 wr:∀th a,s.ts th=some a->a.ph=2∨a.ph=3->a.rv<a.wv/\a.wv<=s.c
 w2:∀th a th' a',s.ts th=some a->s.ts th'=some a'->a.ph=2->a'.ph=2->a.wv=a'.wv->th=th'
 rvc:∀th a,s.ts th=some a->0<=a.rv/\a.rv<=s.c
 phb:∀th a,s.ts th=some a->a.ph=0∨a.ph=2∨a.ph=3
 new:∀n,s.N<=n->(∀t v,¬s.rds n t v)/\∀t,s.lg n t=none
 lk2:∀th a,s.ts th=some a->a.ph=2->∀t,s.lg a.n t≠none->s.own (sf t)=th
 lk3:∀th a,s.ts th=some a->a.ph=3->∀t,a.rest t->s.own (sf t)=th/\s.lg a.n t≠none
 st:∀th a,s.ts th=some a->a.ph=2∨a.ph=3->∀i,s.own i=th->s.ver i<a.wv
 vc:∀i,s.ver i<=s.c
 J:∀th a,s.ts th=some a->a.ph=2->∀n,n<s.N->n≠a.n->2*a.wv<s.key n->∀t v,s.rds n t v->s.lg a.n t=none
 I7:∀th a,s.ts th=some a->a.ph=2->∀m,s.Ent m->2*a.wv<s.key m->∀t,s.lg m t≠none->s.lg a.n t=none
 K1:∀th a,s.ts th=some a->a.ph=2->∀t,a.chk t->∀th' a',s.ts th'=some a'->th'≠th->a'.ph=2->a'.wv<a.wv->s.lg a'.n t=none
 K2:∀th a,s.ts th=some a->a.ph=2->∀t,a.chk t->∀m,s.Ent m->2*a.rv+1<s.key m->s.key m<2*a.wv->s.lg m t=none
 V:∀m,s.Ent m->∀t,s.lg m t≠none->s.key m<=2*s.ver (sf t)∨∃(th:Nat) (a:LA),s.ts th=some a/\a.ph=3/\a.n=m/\s.own (sf t)=th
 HI:∀t,(∃(th:Nat) (a:LA),s.ts th=some a/\a.ph=3/\a.rest t)∨Val s f (2*s.c+2) t (s.hp t)
 L:∀th a,s.ts th=some a->a.ph=3->∀t v,a.rest t->s.lg a.n t=some v->Val s f (2*s.c+2) t v
 sp:∀th a,s.ts th=some a->1<=a.ss->a.ph=0
 R0:∀th a,s.ts th=some a->1<=a.ss->a.v0<=a.rv/\a.v0<=s.ver (sf a.t)
 R1:∀th a,s.ts th=some a->1<=a.ss->∀th' a',s.ts th'=some a'->a'.ph=2->a'.wv<=a.rv->s.lg a'.n a.t=none
 R2:∀th a,s.ts th=some a->a.ss=2->Val s f (2*a.rv+1) a.t a.sv∨(∃(th':Nat) (a':LA),s.ts th'=some a'/\a'.ph=3/\s.own (sf a.t)=th')∨a.v0<s.ver (sf a.t)
 main:∀n,n<s.N->∀t v,s.rds n t v->Val s f (s.key n) t v
end YtnemoimbeefngaaGreat
end Go.Proofs
namespace Go.Proofs
namespace YtnemoimbeefngaaGreat
variable {sf:Int->Nat} {f:Int->Int} {s:AS}
end YtnemoimbeefngaaGreat
end Go.Proofs
namespace Go.Proofs
namespace YtnemoimbeefngaaGreat
open Go.Abs
def zSl (w:Int):Int:=if w % 32=0 then -1 else (w % 32 - 1) / 2
def wVer (w:Int):Int:=w / 32
structure RightW (w:Int):Prop where
 lo:0<=w
 ver:w / 32<=1099511627776
 low:w % 32=0∨w % 32=1∨w % 32=3∨w % 32=5∨w % 32=7
def zU6 (w:Int) (i:Nat):Bool:=decide ((w / 2 ^ i) % 2=1)
def fl (w:Int) (i:Nat):List Value:=[.bool (decide (0<i) && zU6 w 0),.bool (decide (1<i) && zU6 w 1),.bool (decide (2<i) && zU6 w 2),.bool (decide (3<i) && zU6 w 3),.bool (decide (4<i) && zU6 w 4)]
end YtnemoimbeefngaaGreat
end Go.Proofs
namespace Go.Proofs
namespace YtnemoimbeefngaaGreat
open Go.Abs
def acc (x1 x2:Bool) (i:Nat):Int:=(if x1=true/\0<i then 1 else 0)+(if x2=true/\1<i then 2 else 0)
end YtnemoimbeefngaaGreat
end Go.Proofs
namespace Go.Proofs
namespace YtnemoimbeefngaaGreat
open Go.Abs
end YtnemoimbeefngaaGreat
end Go.Proofs
namespace Go.Proofs
namespace YtnemoimbeefngaaGreat
open Go.Abs
end YtnemoimbeefngaaGreat
end Go.Proofs
namespace Go.Proofs
namespace YtnemoimbeefngaaGreat
open Go.Abs
structure GoodT (ws:List Int) (c:Int):Prop where
 len1:1<=ws.length
 len8:ws.length<=8
 right:∀w∈ws,RightW w/\wVer w<=c
 c0:0<=c
 c1:c<=1099511627776
def getW (ws:List Int) (s:Int):Int:=ws.getD s.toNat 0
def inR (ws:List Int) (s:Int):Prop:=0<=s/\s<ws.length
instance (ws:List Int) (s:Int):Decidable (inR ws s):=by unfold inR;infer_instance
def ownTV (ws:List Int) (s:Int):Int:=if inR ws s then (if 0<=zSl (getW ws s) then zSl (getW ws s) else 0) else 0
def ownTB (ws:List Int) (s:Int):Bool:=if inR ws s then decide (0<=zSl (getW ws s)) else false
def verT (ws:List Int) (s:Int):Int:=if inR ws s then wVer (getW ws s) else 0
end YtnemoimbeefngaaGreat
end Go.Proofs
namespace Go.Proofs
namespace YtnemoimbeefngaaGreat
open Go.Abs
end YtnemoimbeefngaaGreat
end Go.Proofs
namespace Go.Proofs
namespace YtnemoimbeefngaaGreat
open Go.Abs
end YtnemoimbeefngaaGreat
end Go.Proofs
namespace Go.Proofs
namespace YtnemoimbeefngaaGreat
open Go.Abs
def isH (ws:List Int) (o:Int) (i:Nat):Bool:=decide (ownTB ws i=true/\ownTV ws i=o)
def heldN (ws:List Int) (o:Int) (n:Nat):List Int:=((List.range n).filter (isH ws o)).map fun i:Nat=> (i:Int)
def zZm (ws:List Int) (o:Int):List Int:=heldN ws o ws.length
end YtnemoimbeefngaaGreat
end Go.Proofs
namespace Go.Proofs
namespace YtnemoimbeefngaaGreat
open Go.Abs
end YtnemoimbeefngaaGreat
end Go.Proofs
namespace Go.Proofs
namespace YtnemoimbeefngaaGreat
open Go.Abs
end YtnemoimbeefngaaGreat
end Go.Proofs
namespace Go.Proofs
namespace YtnemoimbeefngaaGreat
open Go.Abs
end YtnemoimbeefngaaGreat
end Go.Proofs
namespace Go.Proofs
namespace YtnemoimbeefngaaGreat
open Go.Abs
end YtnemoimbeefngaaGreat
end Go.Proofs
namespace Go.Proofs
namespace YtnemoimbeefngaaGreat
open Go.Abs
structure Deed where
 k:Int
 o:Int
 s:Int
 v:Int
def Deed.cells (d:Deed):List Value:=[.int .i64 d.k,.int .i64 d.o,.int .i64 d.s,.int .u64 d.v]
end YtnemoimbeefngaaGreat
end Go.Proofs
namespace Go.Proofs
namespace YtnemoimbeefngaaGreat
open Go.Abs
def zH9 (l:List Deed):List Value:=l.flatMap Deed.cells
theorem zZw (d:Deed) (l:List Deed):zH9 (d::l)=.int .i64 d.k::.int .i64 d.o::.int .i64 d.s::.int .u64 d.v::zH9 l:=rfl
theorem zUw (l:List Deed):jM (zH9 l)=true:=by
 induction l with
 |nil=> rfl
 |cons e l ih=> rw[zZw];simpa [jM,xD] using ih
theorem qB1 (θ:Nat->Nat) (l:List Deed):xV θ (zH9 l)=zH9 l:=xI θ _ (zUw l)
attribute [simp] qB1
def zQh:List Value->Option (List Deed)
 |[]=> some []
 |.int .i64 k::.int .i64 o::.int .i64 s::.int .u64 v::l=> (zQh l).map (⟨k,o,s,v⟩::·)
 |_=> none
theorem zK4:∀l:List Deed,zQh (zH9 l)=some l
 |[]=> rfl
 |e::l=> by
  show (zQh (zH9 l)).map (_::·)=_
  rw[zK4 l];rfl
attribute [simp] zK4
end YtnemoimbeefngaaGreat
end Go.Proofs
namespace Go.Proofs
namespace YtnemoimbeefngaaGreat
open Go.Abs
end YtnemoimbeefngaaGreat
end Go.Proofs
namespace Go.Proofs
namespace YtnemoimbeefngaaGreat
open Go.Abs
end YtnemoimbeefngaaGreat
end Go.Proofs
namespace Go.Proofs
open Go.Shelf
def Tryz.lays189_ren:Go.Shelf.Ren:=⟨fun|189=> 47|125=> 107|257=> 106|128=> 165|129=> 166|294=> 156|295=> 157|296=> 158|297=> 159|298=> 160|299=> 161|216=> 162|300=> 163|301=> 164|328=> 196|329=> 197|330=> 198|331=> 199|332=> 200|215=> 201|343=> 210|n=> n,fun|28=> 33|3=> 3|46=> 149|0=> 0|51=> 209|53=> 38|4=> 4|183=> 202|182=> 201|131=> 56|5=> 5|9=> 9|218=> 231|222=> 150|228=> 238|229=> 239|n=> n,fun|n=> n⟩
theorem Tryz.lays189:Go.Proofs.Lays.n189 Tryz.prog Tryz.lays189_ren:={
 mixed:=by kernel_rfl
 f125:=Tryz.func107.trans (congrArg some (by kernel_rfl))
 f128:=Tryz.func165.trans (congrArg some (by kernel_rfl))
 f129:=Tryz.func166.trans (congrArg some (by kernel_rfl))
 f189:=Tryz.func47.trans (congrArg some (by kernel_rfl))
 f215:=Tryz.func201.trans (congrArg some (by kernel_rfl))
 f216:=Tryz.func162.trans (congrArg some (by kernel_rfl))
 f257:=Tryz.func106.trans (congrArg some (by kernel_rfl))
 f294:=Tryz.func156.trans (congrArg some (by kernel_rfl))
 f295:=Tryz.func157.trans (congrArg some (by kernel_rfl))
 f296:=Tryz.func158.trans (congrArg some (by kernel_rfl))
 f297:=Tryz.func159.trans (congrArg some (by kernel_rfl))
 f298:=Tryz.func160.trans (congrArg some (by kernel_rfl))
 f299:=Tryz.func161.trans (congrArg some (by kernel_rfl))
 f300:=Tryz.func163.trans (congrArg some (by kernel_rfl))
 f301:=Tryz.func164.trans (congrArg some (by kernel_rfl))
 f328:=Tryz.func196.trans (congrArg some (by kernel_rfl))
 f329:=Tryz.func197.trans (congrArg some (by kernel_rfl))
 f330:=Tryz.func198.trans (congrArg some (by kernel_rfl))
 f331:=Tryz.func199.trans (congrArg some (by kernel_rfl))
 f332:=Tryz.func200.trans (congrArg some (by kernel_rfl))
 f343:=Tryz.func210.trans (congrArg some (by kernel_rfl))
 t0:=Tryz.underlying0
 a0:=Tryz.isAgg0
 z0:=Tryz.sizeOf0
 v0:=Tryz.zeroValue0
 t3:=Tryz.underlying3
 a3:=Tryz.isAgg3
 z3:=Tryz.sizeOf3
 v3:=Tryz.zeroValue3
 t4:=Tryz.underlying4
 a4:=Tryz.isAgg4
 z4:=Tryz.sizeOf4
 v4:=Tryz.zeroValue4
 t5:=Tryz.underlying5
 a5:=Tryz.isAgg5
 z5:=Tryz.sizeOf5
 v5:=Tryz.zeroValue5
 t9:=Tryz.underlying9
 a9:=Tryz.isAgg9
 z9:=Tryz.sizeOf9
 v9:=Tryz.zeroValue9
 t28:=Tryz.underlying33
 a28:=Tryz.isAgg33
 z28:=Tryz.sizeOf33
 v28:=Tryz.zeroValue33
 t46:=Tryz.underlying149
 a46:=Tryz.isAgg149
 z46:=Tryz.sizeOf149
 v46:=Tryz.zeroValue149
 t51:=Tryz.underlying209
 a51:=Tryz.isAgg209
 z51:=Tryz.sizeOf209
 v51:=Tryz.zeroValue209
 t53:=Tryz.underlying38
 a53:=Tryz.isAgg38
 z53:=Tryz.sizeOf38
 v53:=Tryz.zeroValue38
 t131:=Tryz.underlying56
 a131:=Tryz.isAgg56
 z131:=Tryz.sizeOf56
 v131:=Tryz.zeroValue56
 t182:=Tryz.underlying201
 a182:=Tryz.isAgg201
 z182:=Tryz.sizeOf201
 v182:=Tryz.zeroValue201
 t183:=Tryz.underlying202
 a183:=Tryz.isAgg202
 z183:=Tryz.sizeOf202
 v183:=Tryz.zeroValue202
 t218:=Tryz.underlying231
 a218:=Tryz.isAgg231
 z218:=Tryz.sizeOf231
 v218:=Tryz.zeroValue231
 t222:=Tryz.underlying150
 a222:=Tryz.isAgg150
 z222:=Tryz.sizeOf150
 v222:=Tryz.zeroValue150
 t228:=Tryz.underlying238
 a228:=Tryz.isAgg238
 z228:=Tryz.sizeOf238
 v228:=Tryz.zeroValue238
 t229:=Tryz.underlying239
 a229:=Tryz.isAgg239
 z229:=Tryz.sizeOf239
 v229:=Tryz.zeroValue239 }
open Go.Sort Go.RowKit in
theorem Tryz.slices_Sort_int (blk off cap:Nat) (zs:List Int) (w:World) (hH:Holds (Value.int .i64) w blk off zs.toArray) (hblk:blk<w.heap.size) (hsz:zs.length<4611686018427387904):
 Calls Tryz.prog 47 #[.slice (some ⟨blk,off,none⟩) zs.length cap] w fun e w'=>
  e=.returned (.tuple #[])/\∃n os,w'=grow (putRow (Value.int .i64) (Sort.ahead w n) blk off (zs.mergeSort fun x y=> decide (x<=y)).toArray) os:=Any.slices_Sort_int Tryz.lays189 blk off cap zs w hH hblk hsz
end Go.Proofs
namespace Go.Proofs
namespace YtnemoimbeefngaaGreat
open Go.Abs
theorem qLk:∀args w,(callFunc 47 args).run Tryz.prog w=.ok (.enter 47 args) w:=zJp Tryz.func47 (by kernel_rfl) (by kernel_rfl)
theorem zYl (e:TypeId) (tg:Nat):zP Tryz.prog cfg 47 [.slice (some ⟨0,0,none⟩) 0 tg] (AH.of [some (.arr e (jA []))])
  fun r H'=> r=.ret (.tuple #[])/\H'=AH.of [some (.arr e (jA []))]:=by
 refine zP.ends ?_
 refine zY (tbl:=[]) (by simp) 3 5 (af:=a47) rfl ?_
 rw[a47,b47,qB]
 refine⟨by simp,?_⟩
 have w1:IntKind.u64.wrap 0=0:=by decide
 have w2:IntKind.u8.wrap 0=0:=by decide
 have w3:IntKind.i64.wrap 0=0:=by decide
 have w4:IntKind.i64.wrap 1=1:=by decide
 simp -implicitDefEqProofs [forms106,a106,b106,forms107,a107,b107,forms166,a166,b166,w1,w2,w3]
 refine zQ3 (jE xE (jG (by simp)) _ _ noY qX) (by omega) ?_
 simp -implicitDefEqProofs [forms156,a156,b156,w3,w4]
 refine zQ3 (jE xE (jG (by simp)) _ _ noY qX) (by omega) ?_
 simp -implicitDefEqProofs [w3]
 refine zA [] [0] ?_ ?_ ?_<;> simp
theorem qO8 (e:TypeId) (l:List Int) (tg:Nat) (hl:l.length<=1000000):zP Tryz.prog cfg 47 [.slice (some ⟨0,0,none⟩) l.length tg] (AH.of [some (.arr e (jA l))])
  fun r H'=> r=.ret (.tuple #[])/\H'=AH.of [some (.arr e (jA (zDm l)))]:=by
 by_cases hz:l=[]
 ·subst hz
  have:zDm []=[]:=List.eq_nil_of_length_eq_zero (by simp)
  rw[this]
  exact zYl e tg
 ·exact qBk qLk (fun blk off cap zs w h1 h2 h3=> Tryz.slices_Sort_int blk off cap zs w h1 h2 h3) e l tg hz (by omega)
def st47:qQ GD:=fun args H=> match args with
 |[x]=> (sl0 x).bind fun q=> (zAl H q.1).map fun l=> (q.2.1=l.2.length/\l.2.length<=1000000,.ret (.tuple #[]),H.upd q.1 (.arr l.1 (jA (zDm l.2))))
 |_=> none
theorem qK8:qE Tryz.prog cfg 47 st47:=by
 intro args H p r H' h hp
 unfold st47 at h
 split at h
 case h_2=> cases h
 simp only[Option.map_eq_some_iff,Option.bind_eq_some_iff] at h
 obtain⟨q,hq,l,hl,h⟩:=h
 cases h
 rw[qLl hq,hp.1]
 exact (qO8 l.1 l.2 q.2.2 hp.2).atK (zAb rfl) [q.1] (by simp) (by simp) (by simp[zA6 hl]) (by simp) (by simp) (by simp)
end YtnemoimbeefngaaGreat
end Go.Proofs
namespace Go.Proofs
namespace YtnemoimbeefngaaGreat
open Go.Abs
end YtnemoimbeefngaaGreat
end Go.Proofs
namespace Go.Proofs
namespace YtnemoimbeefngaaGreat
open Go.Abs
end YtnemoimbeefngaaGreat
end Go.Proofs
namespace Go.Proofs
namespace YtnemoimbeefngaaGreat
open Go.Abs
end YtnemoimbeefngaaGreat
end Go.Proofs
namespace Go.Proofs
namespace YtnemoimbeefngaaGreat
open Go.Abs
structure TA.Ok (a:TA) (s:TS):Prop where
 n:a.n<s.ft.length
 rv:0<=a.rv/\a.rv<=s.c
 wv:0<=a.wv/\a.wv<=s.c
 es:Good a.es
 est:∀e∈a.es,e.t<s.hp.length
 fs:zAn a.fs
 fst:∀f∈a.fs,∀p∈f,0<=p.t/\p.t<s.hp.length/\0<=p.v/\p.v<18446744073709551616
 ask:0<=a.ra.k/\a.ra.k<=7/\(a.ra.k=1∨a.ra.k=2->0<=a.ra.t/\a.ra.t<s.hp.length)/\0<=a.ra.v/\a.ra.v<18446744073709551616
 sw:0<=a.sw/\a.sw<18446744073709551616
 sv:0<=a.sv/\a.sv<18446744073709551616
 ss:a.ss<=3
 sr:a.ra.k=1->a.ss<=2
 nx:a.nx<=100
 ph:a.ph<=4
 p2:a.ph=2->a.nx<=a.es.length
 p3:a.ph=3->a.nx<(jO a.fs).length
 p6:a.ph≠0->a.ra.k=6/\jO a.fs≠[]
 ww:(a.ra.k=3->a.fs.length<5)/\(a.ra.k=4∨a.ra.k=5->1<a.fs.length)
def zP5 (ws:List Int) (i:Nat):Int:=match ws[i]? with
 |some w=> zSl w
 |none=> -1
def qRz (ws:List Int) (th:Nat) (a:TA):Prop:=
 (a.ph=0->zZm ws th=[])/\(2<=a.ph->zZm ws th≠[])/\(a.dec=true↔3<=a.ph)/\(2<=a.ph->∀i:Nat,zP5 ws i=th->verT ws i<=a.wv)
structure TS.Ok (s:TS):Prop where
 hp:1<=s.hp.length/\s.hp.length<=12
 hv:∀v∈s.hp,0<=v/\v<18446744073709551616
 tab:GoodT s.ws s.c
 ft:s.ft.length<=64
 ts:∀th a,s.ts th=some a->a.Ok s
 lk:∀th a,s.ts th=some a->qRz s.ws th a
 no:∀th,s.ts th=none->zZm s.ws (th:Int)=[]
 th4:∀th,4<=th->s.ts th=none
end YtnemoimbeefngaaGreat
end Go.Proofs
namespace Go.Proofs
namespace YtnemoimbeefngaaGreat
open Go.Abs
def p4 (x:Nat):Nat->List Nat
 |0=> [x,6,7,8]
 |1=> [6,x,7,8]
 |2=> [6,7,x,8]
 |_=> [6,7,8,x]
def u1 (th:Nat):Nat:=if th=0 then 1 else 0
def u2 (th:Nat):Nat:=if th<=1 then 2 else 1
theorem qC0 (k:Nat) (o:Option TA):leV (zI7 k o) (zI7 k o)=True:=zNw _
theorem qAu (θ:Nat->Nat) (k:Nat) (o:Option TA):ren θ (zI7 k o)=zI7 (θ k) o:=by cases o<;> rfl
theorem zYw (θ:Nat->Nat) (x:Option TA):(zFq x).ren θ=zFq x:=by cases x<;> simp[zFq,zTx,zPx,xV]
theorem zV8 (x:Option TA):(zFq x).mine=true:=by cases x<;> rfl
theorem zZc (x:Option TA):leO (zFq x) (zFq x)=True:=eq_true (zUe _)
theorem qAr (e:TypeId) (cs:List Value):(AObj.arr e cs:AObj GD).mine=true:=rfl
theorem qEq (d:GD):(AObj.hi d).mine=true:=rfl
theorem qAq (es:List MapEntry) (c:Nat):(AObj.map es c:AObj GD).mine=true:=rfl
theorem zZs (e:Fate) (l:List Fate):zMv (e::l)=.int .i64 e.n::.int .u64 e.key::.int .u8 e.why::zMv l:=rfl
theorem zUq (l:List Fate):jM (zMv l)=true:=by
 induction l with
 |nil=> rfl
 |cons e l ih=> rw[zZs];simp[jM,xD,ih]
theorem qB0 (θ:Nat->Nat) (l:List Fate):xV θ (zMv l)=zMv l:=xI θ _ (zUq l)
attribute [simp] qAr qEq qAq zYw zV8 zZc zPw qB0 qAu qC0
end YtnemoimbeefngaaGreat
end Go.Proofs
namespace Go.Proofs
namespace YtnemoimbeefngaaGreat
open Go.Abs
end YtnemoimbeefngaaGreat
end Go.Proofs
namespace Go.Proofs
namespace YtnemoimbeefngaaGreat
open Go.Abs
end YtnemoimbeefngaaGreat
end Go.Proofs
namespace Go.Proofs
namespace YtnemoimbeefngaaGreat
open Go.Abs
end YtnemoimbeefngaaGreat
end Go.Proofs
namespace Go.Proofs
namespace YtnemoimbeefngaaGreat
open Go.Abs
end YtnemoimbeefngaaGreat
end Go.Proofs
namespace Go.Proofs
namespace YtnemoimbeefngaaGreat
open Go.Abs
structure OthT (ws ws':List Int) (th:Nat):Prop where
 len:ws'.length=ws.length
 own:∀i (j:Int),j≠th->0<=j->(zP5 ws' i=j↔zP5 ws i=j)
 ver:∀i:Nat,0<=zP5 ws i->zP5 ws i≠th->verT ws' i=verT ws i
end YtnemoimbeefngaaGreat
end Go.Proofs
namespace Go.Proofs
namespace YtnemoimbeefngaaGreat
open Go.Abs
theorem zGp {fs:List (List Pr)} {p:Pr} (hp:p∈jO fs):0<=p.t/\p.t<12:=by
 unfold jO zBz at hp
 obtain⟨t,ht,h⟩:=List.mem_filterMap.1 hp
 simp only[Option.map_eq_some_iff] at h
 obtain⟨v,_,rfl⟩:=h
 have:=List.mem_range.1 ht
 exact⟨by simp only;omega,by simp only;omega⟩
end YtnemoimbeefngaaGreat
end Go.Proofs
namespace Go.Proofs
namespace YtnemoimbeefngaaGreat
open Go.Abs
def sfm (m:Nat) (t:Int):Nat:=((t*5+3) % m).toNat
def la (a:TA):LA:=⟨a.n,a.rv,a.wv,if a.ph<=1 then 0 else if a.ph=2 then 2 else 3,fun t=> ∃j e,j<a.nx/\a.es[j]?=some e/\e.t=t,fun t=> a.ph=3/\∃j p,a.nx<=j/\(jO a.fs)[j]?=some p/\p.t=t,if a.ra.k=1 then a.ss else 0,a.ra.t,wVer a.sw,a.sv⟩
def hpF (hp:List Int) (t:Int):Int:=if 0<=t then (hp[t.toNat]?).getD 0 else 0
def zUg (ft:List Fate) (n:Nat):Int:=match ft[n]? with
 |some f=> f.key
 |none=> 0
def absS (s:TS):AS:=⟨s.c,fun i=> zP5 s.ws i,fun i=> verT s.ws i,hpF s.hp,s.ft.length,zUg s.ft,fun n t v=> (⟨t,v⟩:Pr)∈(obS s.ev n).rds,fun n t=> qT (obS s.ev n).fs t,fun th=> (s.ts th).map la⟩
def lvS (s:TS) (th:Nat):Option Lv:=(s.ts th).map fun a=> ⟨a.n,decide (a.ph≠0),a.fs⟩
structure TOp (f:List Int) (s:TS):Prop where
 ok:s.Ok
 ev:EvOk s.hp.length s.ft.length s.ev (lvS s)
 inv:OInv (sfm s.ws.length) (hpF f) (absS s)
 oe:∀th a,s.ts th=some a->∀r∈(obS s.ev a.n).rds,∃e∈a.es,e.t=r.t
 fn:∀(n:Nat) (g:Fate),s.ft[n]?=some g->g.n=n
 sw:∀th a,s.ts th=some a->a.ra.k=1->1<=a.ss->zSl a.sw= -1
 par:∀n:Nat,n<s.ft.length->(∀th a,s.ts th=some a->a.n≠n)->(xX s.ev n=4->zUg s.ft n % 2=1)/\(xX s.ev n=3->zUg s.ft n % 2=0∨∀t,qT (obS s.ev n).fs t=none)
 bf:∀n m:Nat,zBg s.ev n m=true->n<m/\zUg s.ft n<=zUg s.ft m
variable {f:List Int} {s:TS}
end YtnemoimbeefngaaGreat
end Go.Proofs
namespace Go.Proofs
namespace YtnemoimbeefngaaGreat
open Go.Abs
variable {f:List Int} {s:TS}
end YtnemoimbeefngaaGreat
end Go.Proofs
namespace Go.Proofs
namespace YtnemoimbeefngaaGreat
open Go.Abs
theorem qIa {f:List Pr} {t v:Int} (h:qZ f t=some v):(⟨t,v⟩:Pr)∈f:=by
 unfold qZ at h
 rw[Option.map_eq_some_iff] at h
 obtain⟨p,h1,rfl⟩:=h
 have:p.t=t:=by simpa using List.find?_some h1
 subst this
 exact List.mem_of_find?_eq_some h1
theorem zFi {fs:List (List Pr)} {t v:Int} (h:qT fs t=some v):∃g∈fs,(⟨t,v⟩:Pr)∈g:=by
 unfold qT at h
 obtain⟨g,hg,h1⟩:=List.exists_of_findSome?_eq_some h
 exact⟨g,hg,qIa h1⟩
theorem zVl {l:List Ent} {e x:Ent} (h:x∈l):x∈zBe l e:=by
 unfold zBe
 split
 ·exact List.mem_append_left _ h
 ·exact h
variable {f:List Int} {s:TS}
theorem zV6 {o:Ob} {a t v:Int} (h:qT o.fs t=some v):obF o ⟨2,a,t,v⟩=o:=by
 unfold obF;simp[h]
theorem zV7 {o:Ob} {a t v:Int} (h:qT o.fs t=none):obF o ⟨2,a,t,v⟩=⟨o.fs,o.rds++[⟨t,v⟩],o.ok⟩:=by
 unfold obF;simp[h]
end YtnemoimbeefngaaGreat
end Go.Proofs
namespace Go.Proofs
namespace YtnemoimbeefngaaGreat
open Go.Abs
theorem zF4 {fs:List (List Pr)} {t v:Int} (ht:0<=t/\t<12):(⟨t,v⟩:Pr)∈jO fs↔qT fs t=some v:=by
 unfold jO zBz
 rw[List.mem_filterMap]
 constructor
 ·rintro⟨n,hn,h⟩
  rw[Option.map_eq_some_iff] at h
  obtain⟨w,h1,h2⟩:=h
  cases h2;exact h1
 ·intro h
  refine⟨t.toNat,List.mem_range.2 (by omega),?_⟩
  have e:((t.toNat:Nat):Int)=t:=by omega
  rw[e,h];rfl
theorem qI6 {fs:List (List Pr)} (h:jO fs=[]) {hl:Nat} (hh:hl<=12) (hr:∀g∈fs,∀p∈g,0<=p.t/\p.t<hl) (t:Int):qT fs t=none:=by
 cases hg:qT fs t with
 |none=> rfl
 |some v=>
  obtain⟨g,h1,h2⟩:=zFi hg
  have:=hr g h1 _ h2
  simp only at this
  have:=(zF4 (fs:=fs) (t:=t) (v:=v) (by omega)).2 hg
  rw[h] at this;cases this
theorem zPb (fs:List (List Pr)) (n:Nat):((zBz fs n).map (·.t)).Pairwise (· <·):=by
 induction n with
 |zero=> simp[zBz]
 |succ n ih=>
  rw[zL2]
  cases qT fs n with
  |none=> simpa using ih
  |some v=>
   simp only[List.map_append,List.map_cons,List.map_nil,List.pairwise_append]
   refine⟨ih,by simp,fun a ha b hb=> ?_⟩
   simp only[List.mem_singleton] at hb
   subst hb
   obtain⟨p,hp,rfl⟩:=List.mem_map.1 ha
   unfold zBz at hp
   obtain⟨k,hk,h⟩:=List.mem_filterMap.1 hp
   rw[Option.map_eq_some_iff] at h
   obtain⟨w,_,rfl⟩:=h
   have:=List.mem_range.1 hk
   simp only;omega
theorem qI8 {fs:List (List Pr)} {i j:Nat} {p q:Pr} (h1:(jO fs)[i]?=some p) (h2:(jO fs)[j]?=some q) (h:p.t=q.t):i=j:=by
 have hn:((jO fs).map (·.t)).Nodup:=(zPb fs 12).imp fun h=> by omega
 have e1:((jO fs).map (·.t))[i]?=some p.t:=by simp[h1]
 have e2:((jO fs).map (·.t))[j]?=some p.t:=by simp[h2,h]
 have hi:=(List.getElem?_eq_some_iff.1 e1).1
 exact (List.getElem?_inj hi hn).1 (e1.trans e2.symm)
variable {f:List Int} {s:TS}
theorem zIt {l:List Ev} {a:Nat} (n:Int):obS (l++[⟨7,a,0,0⟩]) n=obS l n:=by
 rw[zCl];split
 ·exact zCy _ (by simp)
 ·rfl
theorem zP7 {l:List Ev} {a:Nat} (n:Int):obS (l++[⟨8,a,0,0⟩]) n=obS l n:=by
 rw[zCl];split
 ·exact zCy _ (by simp)
 ·rfl
end YtnemoimbeefngaaGreat
end Go.Proofs
namespace Go.Proofs
namespace YtnemoimbeefngaaGreat
open Go.Abs
variable {f:List Int} {s:TS}
theorem qNo {hp:List Int} {t v:Int} (ht:0<=t/\t<hp.length) (u:Int):hpF (hp.set t.toNat v) u=zSm (hpF hp) t v u:=by
 unfold hpF zSm
 simp only
 by_cases h0:0<=u
 ·rw[if_pos h0,if_pos h0,List.getElem?_set]
  by_cases e:u=t
  ·subst e;rw[if_pos rfl,if_pos (by omega),if_pos rfl];rfl
  ·rw[if_neg (by omega),if_neg e]
 ·rw[if_neg h0,if_neg h0,if_neg (by omega)]
def One (s:TS):Prop:=∀th a,s.ts th=some a->a.ra.k=6->a.fs.length=1
end YtnemoimbeefngaaGreat
end Go.Proofs
namespace Go.Proofs
namespace YtnemoimbeefngaaGreat
open Go.Abs
def zA4 (h:List Int) (w:List Pr):List Int:=w.foldl (fun h p=> h.set p.t.toNat p.v) h
def zTy (h:List Int) (r:List Pr):Bool:=r.all fun p=> decide (p.t<h.length) && decide (h[p.t.toNat]?=some p.v)
def zL5 (n:Nat) (w:List Pr):Bool:=w.all fun p=> decide (p.t<n)
def zNs (l:List Ev) (h:List Int) (a:Int):Bool:=zTy h (obS l a).rds && zL5 h.length (jO (obS l a).fs) && (obS l a).ok
def zEz (l:List Ev) (cm:List Int) (a:Int):Bool:=decide (xX l a=3)||decide (a∈cm)
def zDy (l:List Ev) (cm:List Int):List Int->List Int->Option (List Int)
 |[],h=> some h
 |a::rest,h=> if rest.any (fun b=> zBg l b a)=true then none else if zNs l h a=true then zDy l cm rest (if zEz l cm a=true then zA4 h (jO (obS l a).fs) else h) else none
theorem zGo (w:List Pr):∀h,(zA4 h w).length=h.length:=by
 induction w with
 |nil=> intro h;rfl
 |cons p w ih=> intro h;unfold zA4;rw[List.foldl_cons];have:=ih (h.set p.t.toNat p.v);unfold zA4 at this;rw[this];simp
theorem qEb (w:List Pr) (hw:(w.map (·.t)).Pairwise (· <·)) (h0:∀p∈w,0<=p.t) (t:Int) (ht:0<=t):∀h:List Int,t<h.length->(zA4 h w)[t.toNat]?=(match w.find? (fun p=> p.t==t) with|some p=> some p.v|none=> h[t.toNat]?):=by
 induction w with
 |nil=> intro h _;rfl
 |cons p w ih=>
  intro h hl
  rw[List.map_cons,List.pairwise_cons] at hw
  have e:zA4 h (p::w)=zA4 (h.set p.t.toNat p.v) w:=rfl
  have hp0:=h0 p (by simp)
  rw[e,ih hw.2 (fun q hq=> h0 q (List.mem_cons_of_mem _ hq)) _ (by simpa using hl),List.find?_cons]
  by_cases hpt:p.t=t
  ·have hnone:w.find? (fun p=> p.t==t)=none:=by
    rw[List.find?_eq_none]
    intro q hq
    have:=hw.1 q.t (List.mem_map_of_mem hq)
    simp;omega
   rw[hnone]
   simp only[hpt,beq_self_eq_true]
   rw[List.getElem?_set];simp;omega
  ·have hb:(p.t==t)=false:=by simpa using hpt
   rw[hb]
   simp only
   cases w.find? (fun p=> p.t==t) with
   |some q=> rfl
   |none=> simp only;rw[List.getElem?_set,if_neg (by omega)]
theorem qEd {fs:List (List Pr)} {t:Int} (ht:0<=t/\t<12):(match (jO fs).find? (fun p=> p.t==t) with|some p=> some p.v|none=> none)=qT fs t:=by
 cases hf:(jO fs).find? (fun p=> p.t==t) with
 |some p=>
  have h1:p.t=t:=by simpa using List.find?_some hf
  have h2:=List.mem_of_find?_eq_some hf
  subst h1
  exact ((zF4 ht).1 h2).symm
 |none=>
  cases hg:qT fs t with
  |none=> rfl
  |some v=>
   rw[List.find?_eq_none] at hf
   have:=hf _ ((zF4 ht).2 hg)
   simp at this
theorem zRj {fs:List (List Pr)} {h:List Int} {t:Int} (ht:0<=t/\t<12) (hl:t<h.length):(zA4 h (jO fs))[t.toNat]?=(match qT fs t with|some v=> some v|none=> h[t.toNat]?):=by
 rw[qEb (jO fs) (zPb fs 12) (fun p hp=> (zGp hp).1) t ht.1 h hl,←qEd ht]
 cases (jO fs).find? (fun p=> p.t==t)<;> rfl
def zQi (s:AS) (E:Nat->Prop) (f:Int->Int) (t v:Int):Prop:=
 (∃m,(s.Ent m/\E m)/\s.lg m t=some v/\∀m',s.Ent m'/\E m'->s.key m<s.key m'->s.lg m' t=none)∨
 (v=f t/\∀m',s.Ent m'/\E m'->s.lg m' t=none)
theorem zQi.val {s:AS} {E:Nat->Prop} {f:Int->Int} {t v k:Int} (h:zQi s E f t v) (hE:∀m,s.Ent m->(E m↔s.key m<k)):Val s f k t v:=by
 unfold zQi at h
 unfold Val
 rcases h with ⟨m,⟨h1,h2⟩,h3,h4⟩|⟨h1,h2⟩
 ·exact .inl ⟨m,h1,(hE m h1).1 h2,h3,fun m' g1 g2 g3=> h4 m' ⟨g1,(hE m' g1).2 g2⟩ g3⟩
 ·exact .inr ⟨h1,fun m' g1 g2=> h2 m' ⟨g1,(hE m' g1).2 g2⟩⟩
variable {f:List Int} {s:TS}
def zH5 (l:List Nat):List Int:=l.map fun n:Nat=> (n:Int)
end YtnemoimbeefngaaGreat
end Go.Proofs
namespace Go.Proofs
namespace YtnemoimbeefngaaGreat
open Go.Abs
theorem zXi {l:List Ev} {i:Nat} {x:Ev} (h:l[i]?=some x) (a:Int):obS (l.take (i+1)) a=if x.a=a then obF (obS (l.take i) a) x else obS (l.take i) a:=by
 rw[zHi h,zCl]
theorem zM9 (l:List Ev) (i:Nat) (hi:i<=l.length) (a:Int):(obS (l.take i) a).fs=xA l i a:=by
 rw[qCk,List.length_take,Nat.min_eq_left hi]
 unfold xA
 rw[List.take_take,Nat.min_self]
theorem qGs {l:List Ev} {i:Nat} {x:Ev} (h:l[i]?=some x) (a:Int):(obS (l.take (i+1)) a).rds=if x.a=a/\x.k=2/\qT (xA l i a) x.t=none then (obS (l.take i) a).rds++[⟨x.t,x.v⟩] else (obS (l.take i) a).rds:=by
 have hl:=(List.getElem?_eq_some_iff.1 h).1
 rw[zXi h]
 by_cases ha:x.a=a
 ·rw[if_pos ha]
  unfold obF
  rw[zM9 l i (by omega)]
  by_cases hk:x.k=2
  ·rw[if_pos hk]
   cases hg:qT (xA l i a) x.t<;> simp[ha,hk]
  ·rw[if_neg hk,if_neg (by simp[hk])]
 ·rw[if_neg ha,if_neg (by simp[ha])]
theorem qB4 (l:List Ev) (a:Int):(obS l a).rds.length<=l.length:=by
 have:∀(c:List Ev) (o:Ob),(c.foldl obF o).rds.length<=o.rds.length+c.length:=by
  intro c
  induction c with
  |nil=> intro o;simp
  |cons x c ih=>
   intro o
   have h1:=ih (obF o x)
   have h2:(obF o x).rds.length<=o.rds.length+1:=by
    unfold obF
    split
    ·split<;> simp
    ·simp
   simp only[List.foldl_cons,List.length_cons];omega
 have h1:=this (xM l a) ob0
 have h2:(xM l a).length<=l.length:=by unfold xM;exact List.length_filter_le _ _
 have h3:ob0.rds.length=0:=rfl
 unfold obS;omega
theorem zP3 (l:List Ev) (i:Nat) (a:Int):(xA l i a).length<=100:=by have:=(zB4 l i a).1.2.1;omega
def zG8:List (FuncId × qQ GD):=[(193,xT),(167,qA zJo),(111,zR9)]
theorem zIm:∀x∈zG8,qE Tryz.prog cfg x.1 x.2:=by simp[zG8,zS8,zTc,qGg]
theorem qL6 (l:List Ev) (n c:Nat) (a:Int) (hn:n<=l.length) (hs:n<=1000) (hv:∀x∈l,0<=x.v/\x.v<18446744073709551616) (hr:∀x∈l,x.k=2->0<=x.t/\x.t<12):zP Tryz.prog cfg 151 [.slice (some ⟨0,0,none⟩) n c,.int .i64 a] (AH.of [some (.ro (evs l))])
  fun r H'=> r=.ret (.slice (some ⟨1,0,none⟩) (obS (l.take n) a).rds.length 1)/\H'=AH.of [some (.ro (evs l)),some (.arr 157 (prs (obS (l.take n) a).rds))]:=by
 refine zP.ends ?_
 refine zY (tbl:=zG8) zIm 1001 0 (af:=a151) rfl ?_
 rw[a151,b151,qB]
 refine⟨by simp,?_⟩
 simp -implicitDefEqProofs
 refine zBj (jE xE (jG zIm) _ _ noY qX) (fun m tm H=> ∃i:Nat,m+i=n/\tm 0=.slice (some ⟨0,0,none⟩) n c/\tm 1=.int .i64 a/\tm 6=.int .i64 i/\tm 5=.slice (some ⟨1,0,none⟩) (obS (l.take i) a).rds.length 1/\H=AH.of [some (.ro (evs l)),some (.arr 157 (prs (obS (l.take i) a).rds))]) (m:=n) ?_ (by omega) ?_
 ·refine zGu [.nil 157] [0,1] [some (.ro (evs l)),some (.arr 157 (prs []))] [(5,.slice (some ⟨1,0,none⟩) 0 1)] n (by omega) ?_ ?_ ?_ ⟨0,by omega,?_,?_,?_,?_,?_⟩<;> simp[obS,xM,ob0,prs]
  done
 rintro m tm H ⟨i,hm,t0,t1,t6,t5,rfl⟩
 by_cases hi:i<n
 ·obtain⟨x,hx⟩:=zAp (l:=l) (i:=i) (by omega)
  have hi':(i:Int)<n:=by omega
  have hin:(i:Int)<=n:=by omega
  have hsi:(i:Int)<=1000:=by omega
  have hwr:=xQ hi (by omega)
  have hsuc:=qGs hx a
  have hroom:=zA3 (show i<l.length by omega)
  have hat:=zIx hx
  have hxm:=List.mem_of_getElem? hx
  have hol:=zP3 l i a
  have hle:=qB4 (l.take i) a
  rw[List.length_take] at hle
  generalize (obS (l.take i) a).rds=out at*
  have hr3:(out.length+1)*16<=140737488355328/\out.length<=9223372036854775806:=by omega
  have htk:=zIn out
  have hll:out.length*2<=(prs out).length:=by rw[zBk];omega
  by_cases ha:x.a=a
  ·by_cases hk:x.k=2
   ·have hrx:=hr x hxm hk
    cases hg:qT (xA l i a) x.t with
    |none=>
     rw[if_pos ⟨ha,hk,hg⟩] at hsuc
     simp -implicitDefEqProofs [zG8,qA,xT,zJo,t0,t1,t6,t5,hn,hi,hi',hin,hsi,hwr,hroom,hat,ha,hk,hrx,hol,hg,hr3,htk,hll]
     refine⟨hv,qN [] [0,4] [some (.ro (evs l)),some (.arr 157 (prs (out++[⟨x.t,x.v⟩])))] (m - 1) (by omega) ?_ ?_ ⟨i+1,by omega,?_,?_,?_,?_,?_⟩⟩<;> simp[t0,t1,hsuc,zH3,zH2]
    |some v=>
     rw[if_neg (by rw[hg];simp)] at hsuc
     simp -implicitDefEqProofs [zG8,qA,xT,zJo,t0,t1,t6,t5,hn,hi,hi',hin,hsi,hwr,hroom,hat,ha,hk,hrx,hol,hg]
     refine⟨hv,qN [] [0,1] [some (.ro (evs l)),some (.arr 157 (prs out))] (m - 1) (by omega) ?_ ?_ ⟨i+1,by omega,?_,?_,?_,?_,?_⟩⟩<;> simp[t0,t1,t5,hsuc]
   ·rw[if_neg (by simp[hk])] at hsuc
    simp -implicitDefEqProofs [t0,t1,t6,t5,hi,hi',hwr,hroom,hat,ha,hk]
    refine qN [] [0,1] [some (.ro (evs l)),some (.arr 157 (prs out))] (m - 1) (by omega) ?_ ?_ ⟨i+1,by omega,?_,?_,?_,?_,?_⟩<;> simp[t0,t1,t5,hsuc]
  ·rw[if_neg (by simp[ha])] at hsuc
   simp -implicitDefEqProofs [t0,t1,t6,t5,hi,hi',hwr,hroom,hat,ha]
   refine qN [] [0,1] [some (.ro (evs l)),some (.arr 157 (prs out))] (m - 1) (by omega) ?_ ?_ ⟨i+1,by omega,?_,?_,?_,?_,?_⟩<;> simp[t0,t1,t5,hsuc]
 ·have hie:i=n:=by omega
  subst hie
  simp -implicitDefEqProofs [t0,t1,t6,t5]
  refine zA [] [0,1] ?_ ?_ ?_<;> simp
def EvG (l:List Ev):Prop:=(∀x∈l,0<=x.v/\x.v<18446744073709551616)/\∀x∈l,x.k=2->0<=x.t/\x.t<12
def zR7:qQ GD:=fun args H=> match args with
 |[.slice (some ⟨k,0,none⟩) n _,.int .i64 a]=> match H.get k with
  |some (.ro cs)=> (zAj cs).map fun l=> (n=l.length/\n<=1000/\EvG l,.ret (.slice (some ⟨H.next,0,none⟩) (obS l a).rds.length 1),H.add (.arr 157 (prs (obS l a).rds)))
  |_=> none
 |_=> none
theorem qF2:qE Tryz.prog cfg 151 zR7:=by
 intro args H p r H' h hp
 unfold zR7 at h
 split at h
 case h_2=> cases h
 split at h
 case h_2=> cases h
 simp only[Option.map_eq_some_iff] at h
 obtain⟨l,hl,h⟩:=h
 rename_i k n c a x1 cs hk
 cases h
 rw[zA0 hl] at hk
 obtain⟨rfl,h1,h2⟩:=hp
 have hr:=qL6 l l.length c a (Nat.le_refl _) h1 h2.1 h2.2
 rw[List.take_length] at hr
 exact hr.atK (zBn fun i cs hi=> by rcases i with _|_|i<;> simp at hi⊢;exact hi) [k] (by simp) (by simp) (by simp[hk]) (by simp) (by simp) (by simp[jF hk])
theorem qL5 (l:List Ev) (c:Nat) (a:Int) (hs:l.length<=1000) (hv:∀x∈l,0<=x.v/\x.v<18446744073709551616):zP Tryz.prog cfg 152 [.slice (some ⟨0,0,none⟩) l.length c,.int .i64 a] (AH.of [some (.ro (evs l))])
  fun r H'=> r=.ret (.slice (some ⟨1,0,none⟩) (jO (obS l a).fs).length 1)/\H'=AH.of [some (.ro (evs l)),some (.arr 157 (prs (jO (obS l a).fs)))]:=by
 refine zP.ends ?_
 have hol:=zP3 l l.length a
 have hs':(l.length:Int)<=1000:=by omega
 rw[qCk]
 refine zY (tbl:=zG8) zIm 0 0 (af:=a152) rfl ?_
 rw[a152,b152,qB]
 refine⟨by simp,?_⟩
 simp -implicitDefEqProofs [zG8,xT,zR9,hs',hol]
 refine⟨hv,zA [] [0,2] ?_ ?_ ?_⟩<;> simp
def zR6:qQ GD:=fun args H=> match args with
 |[.slice (some ⟨k,0,none⟩) n _,.int .i64 a]=> match H.get k with
  |some (.ro cs)=> (zAj cs).map fun l=> (n=l.length/\n<=1000/\EvG l,.ret (.slice (some ⟨H.next,0,none⟩) (jO (obS l a).fs).length 1),H.add (.arr 157 (prs (jO (obS l a).fs))))
  |_=> none
 |_=> none
theorem qF1:qE Tryz.prog cfg 152 zR6:=by
 intro args H p r H' h hp
 unfold zR6 at h
 split at h
 case h_2=> cases h
 split at h
 case h_2=> cases h
 simp only[Option.map_eq_some_iff] at h
 obtain⟨l,hl,h⟩:=h
 rename_i k n c a x1 cs hk
 cases h
 rw[zA0 hl] at hk
 obtain⟨rfl,h1,h2⟩:=hp
 exact (qL5 l c a h1 h2.1).atK (zBn fun i cs hi=> by rcases i with _|_|i<;> simp at hi⊢;exact hi) [k] (by simp) (by simp) (by simp[hk]) (by simp) (by simp) (by simp[jF hk])
theorem qM7 (l:List Ev) (i:Nat) (a:Int) (h:(obS l a).ok=true):(obS (l.take i) a).ok=true:=by
 have:∀(c:List Ev) (o:Ob),(c.foldl obF o).ok=true->o.ok=true:=by
  intro c
  induction c with
  |nil=> intro o h;exact h
  |cons x c ih=>
   intro o h
   have h1:=ih _ h
   unfold obF at h1
   split at h1
   ·split at h1
    ·simp only[Bool.and_eq_true] at h1;exact h1.1
    ·exact h1
   ·exact h1
 unfold obS at h⊢
 rw[←List.take_append_drop i l,zHg,List.foldl_append] at h
 exact this _ _ h
theorem qCe {l:List Ev} {a:Int} (h:(obS l a).ok=true) {i:Nat} {x:Ev} (hx:l[i]?=some x) (ha:x.a=a) (hk:x.k=2) {v:Int} (hg:qT (xA l i a) x.t=some v):v=x.v:=by
 have hl:=(List.getElem?_eq_some_iff.1 hx).1
 have h1:=qM7 l (i+1) a h
 rw[zXi hx,if_pos ha] at h1
 unfold obF at h1
 rw[if_pos hk,zM9 l i (by omega),hg] at h1
 simp only[Bool.and_eq_true,decide_eq_true_eq] at h1
 exact h1.2
theorem qL4 (l:List Ev) (c:Nat) (a:Int) (hs:l.length<=1000) (hv:∀x∈l,0<=x.v/\x.v<18446744073709551616) (hr:∀x∈l,x.k=2->0<=x.t/\x.t<12) (hok:(obS l a).ok=true):zP Tryz.prog cfg 153 [.slice (some ⟨0,0,none⟩) l.length c,.int .i64 a] (AH.of [some (.ro (evs l))])
  fun r H'=> r=.ret (.bool true)/\H'=AH.of [some (.ro (evs l))]:=by
 refine zP.ends ?_
 obtain⟨n,hn⟩:∃n,l.length=n:=⟨_,rfl⟩
 rw[hn] at hs⊢
 refine zY (tbl:=zG8) zIm 1001 0 (af:=a153) rfl ?_
 rw[a153,b153,qB]
 refine⟨by simp,?_⟩
 simp -implicitDefEqProofs
 refine zBj (jE xE (jG zIm) _ _ noY qX) (fun m tm H=> ∃i:Nat,m+i=n/\tm 0=.slice (some ⟨0,0,none⟩) n c/\tm 1=.int .i64 a/\tm 5=.int .i64 i/\H=AH.of [some (.ro (evs l))]) (m:=n) ?_ (by omega) ?_
 ·refine qN [] [0] [some (.ro (evs l))] n (by omega) ?_ ?_ ⟨0,by omega,?_,?_,?_,rfl⟩<;> simp
  done
 rintro m tm H ⟨i,hm,t0,t1,t5,rfl⟩
 by_cases hi:i<n
 ·obtain⟨x,hx⟩:=zAp (l:=l) (i:=i) (by omega)
  have hi':(i:Int)<n:=by omega
  have hin:(i:Int)<=n:=by omega
  have hnl:n<=l.length:=by omega
  have hsi:(i:Int)<=1000:=by omega
  have hwr:=xQ hi (by omega)
  have hroom:=zA3 (show i<l.length by omega)
  have hat:=zIx hx
  have hxm:=List.mem_of_getElem? hx
  have hol:=zP3 l i a
  by_cases ha:x.a=a
  ·by_cases hk:x.k=2
   ·have hrx:=hr x hxm hk
    cases hg:qT (xA l i a) x.t with
    |none=>
     simp -implicitDefEqProofs [zG8,qA,xT,zJo,t0,t1,t5,hnl,hi,hi',hin,hsi,hwr,hroom,hat,ha,hk,hrx,hol,hg]
     refine⟨hv,qN [] [0] [some (.ro (evs l))] (m - 1) (by omega) ?_ ?_ ⟨i+1,by omega,?_,?_,?_,rfl⟩⟩<;> simp[t0,t1]
    |some v=>
     have he:=qCe hok hx ha hk hg
     simp -implicitDefEqProofs [zG8,qA,xT,zJo,t0,t1,t5,hnl,hi,hi',hin,hsi,hwr,hroom,hat,ha,hk,hrx,hol,hg,he]
     refine⟨hv,qN [] [0] [some (.ro (evs l))] (m - 1) (by omega) ?_ ?_ ⟨i+1,by omega,?_,?_,?_,rfl⟩⟩<;> simp[t0,t1]
   ·simp -implicitDefEqProofs [t0,t1,t5,hi,hi',hwr,hroom,hat,ha,hk]
    refine qN [] [0] [some (.ro (evs l))] (m - 1) (by omega) ?_ ?_ ⟨i+1,by omega,?_,?_,?_,rfl⟩<;> simp[t0,t1]
  ·simp -implicitDefEqProofs [t0,t1,t5,hi,hi',hwr,hroom,hat,ha]
   refine qN [] [0] [some (.ro (evs l))] (m - 1) (by omega) ?_ ?_ ⟨i+1,by omega,?_,?_,?_,rfl⟩<;> simp[t0,t1]
 ·have hie:i=n:=by omega
  subst hie
  simp -implicitDefEqProofs [t0,t1,t5]
  refine zA [] [0] ?_ ?_ ?_<;> simp
def zOn:qQ GD:=fun args H=> match args with
 |[.slice (some ⟨k,0,none⟩) n _,.int .i64 a]=> match H.get k with
  |some (.ro cs)=> (zAj cs).map fun l=> (n=l.length/\n<=1000/\EvG l/\(obS l a).ok=true,.ret (.bool true),H)
  |_=> none
 |_=> none
theorem qF0:qE Tryz.prog cfg 153 zOn:=by
 intro args H p r H' h hp
 unfold zOn at h
 split at h
 case h_2=> cases h
 split at h
 case h_2=> cases h
 simp only[Option.map_eq_some_iff] at h
 obtain⟨l,hl,h⟩:=h
 rename_i k n c a x1 cs hk
 cases h
 rw[zA0 hl] at hk
 obtain⟨rfl,h1,h2,h3⟩:=hp
 exact (qL4 l c a h1 h2.1 h2.2 h3).atK (zBn fun i cs hi=> by rcases i with _|_|i<;> simp at hi⊢;exact hi) [k] (by simp) (by simp) (by simp[hk]) (by simp) (by simp) (by simp[jF hk])
end YtnemoimbeefngaaGreat
end Go.Proofs
namespace Go.Proofs
namespace YtnemoimbeefngaaGreat
open Go.Abs
theorem qPd (e:TypeId) (l:List Int) (n tg:Nat) (x:Int) (hn:n<=l.length) (hl:n<=1000):zP Tryz.prog cfg 40 [.slice (some ⟨0,0,none⟩) n tg,.int .i64 x] (AH.of [some (.arr e (jA l))])
  fun r H'=> r=.ret (.bool (decide (x∈l.take n)))/\H'=AH.of [some (.arr e (jA l))]:=by
 refine zP.ends ?_
 refine zY (tbl:=[]) (by simp) 1001 0 (af:=a40) rfl ?_
 rw[a40,b40,qB]
 refine⟨by simp,?_⟩
 simp -implicitDefEqProofs
 refine xB (jE xE (jG (by simp)) _ _ noY qX) (fun m tm H=> ∃i:Nat,m+i=n/\(∀j y,j<i->l[j]?=some y->y≠x)/\tm 0=.slice (some ⟨0,0,none⟩) n tg/\tm 1=.int .i64 x/\tm 5=.int .i64 i/\H=AH.of [some (.arr e (jA l))]) (m:=n) ⟨0,by simp⟩ (by omega) ?_
 rintro m tm H ⟨i,hm,hpre,t0,t1,t5,rfl⟩
 by_cases hi:i<n
 ·obtain⟨y,hy⟩:=zAp (l:=l) (i:=i) (by omega)
  have hi':(i:Int)<n:=by omega
  have hwr:=xQ hi (by omega)
  have uy:=zG1 hy
  have gy:=zG0 hy
  by_cases hxy:y=x
  ·subst hxy
   have hin:y∈l.take n:=List.mem_of_getElem? (i:=i) (by rw[List.getElem?_take,if_pos hi,hy])
   simp -implicitDefEqProofs [t0,t1,t5,hi,hi',uy,gy,hwr,hin]
   refine zA [] [0] ?_ ?_ ?_<;> simp
  ·have hpre2:∀j z,j<i+1->l[j]?=some z->z≠x:=fun j z hj hz=> by
    by_cases h:j=i
    ·subst h;rw[hy] at hz;cases hz;exact hxy
    ·exact hpre j z (by omega) hz
   simp -implicitDefEqProofs [t0,t1,t5,hi,hi',uy,gy,hwr,hxy]
   exact⟨m - 1,by omega,i+1,by omega,hpre2,by omega⟩
 ·have hin:x∉l.take n:=fun h=> by
   obtain⟨j,hj⟩:=List.getElem?_of_mem h
   rw[List.getElem?_take] at hj
   split at hj
   ·exact hpre j x (by omega) hj rfl
   ·cases hj
  have hi':¬(i:Int)<n:=by omega
  simp -implicitDefEqProofs [t0,t1,t5,hi',hin]
  refine zA [] [0] ?_ ?_ ?_<;> simp
def zIp:qQ GD:=fun args H=> match args with
 |[.slice (some ⟨k,0,none⟩) n _,.int .i64 x]=> match zAl H k with
  |some l=> some (n<=l.2.length/\n<=1000,.ret (.bool (decide (x∈l.2.take n))),H)
  |none=> none
 |_=> none
theorem zMh:qE Tryz.prog cfg 40 zIp:=by
 intro args H p r H' h hp
 unfold zIp at h
 split at h
 case h_2=> cases h
 split at h
 case h_2=> cases h
 rename_i k n tg x _ l hl
 cases h
 exact (qPd l.1 l.2 n tg x hp.1 hp.2).atK (zAb rfl) [k] (by simp) (by simp) (by simp[zA6 hl]) (by simp) (by simp) (by simp[jF (zA6 hl)])
theorem zT8 {l:List Int} (h:l.Nodup) {i:Nat} {x:Int} (hx:l[i]?=some x):x∉l.take i:=by
 intro hm
 obtain⟨j,hj⟩:=List.getElem?_of_mem hm
 rw[List.getElem?_take] at hj
 split at hj
 ·rename_i hji
  obtain⟨h1,e1⟩:=List.getElem?_eq_some_iff.1 hx
  obtain⟨h2,e2⟩:=List.getElem?_eq_some_iff.1 hj
  have:=(List.nodup_iff_pairwise_ne.1 h)
  have:=List.pairwise_iff_getElem.1 this j i h2 h1 hji
  exact this (e2.trans e1.symm)
 ·cases hj
def zOh:List (FuncId × qQ GD):=[(40,zIp)]
theorem zQo:∀x∈zOh,qE Tryz.prog cfg x.1 x.2:=by simp[zOh,zMh]
theorem qPe (e:TypeId) (l:List Int) (tg:Nat) (hl:l.length<=1000) (hd:l.Nodup):zP Tryz.prog cfg 39 [.slice (some ⟨0,0,none⟩) l.length tg] (AH.of [some (.arr e (jA l))])
  fun r H'=> r=.ret (.bool true)/\H'=AH.of [some (.arr e (jA l))]:=by
 refine zP.ends ?_
 obtain⟨n,hn⟩:∃n,l.length=n:=⟨_,rfl⟩
 rw[hn]
 refine zY (tbl:=zOh) zQo 1001 0 (af:=a39) rfl ?_
 rw[a39,b39,qB]
 refine⟨by simp,?_⟩
 simp -implicitDefEqProofs
 refine xB (jE xE (jG zQo) _ _ noY qX) (fun m tm H=> ∃i:Nat,m+i=n/\tm 0=.slice (some ⟨0,0,none⟩) n tg/\tm 3=.int .i64 i/\H=AH.of [some (.arr e (jA l))]) (m:=n) ⟨0,by simp⟩ (by omega) ?_
 rintro m tm H ⟨i,hm,t0,t3,rfl⟩
 by_cases hi:i<n
 ·obtain⟨y,hy⟩:=zAp (l:=l) (i:=i) (by omega)
  have hi':(i:Int)<n:=by omega
  have hin:(i:Int)<=n:=by omega
  have hin2:i<=n:=by omega
  have h1000:i<=1000:=by omega
  have hwr:=xQ hi (by omega)
  have uy:=zG1 hy
  have gy:=zG0 hy
  have hno:=zT8 hd hy
  simp -implicitDefEqProofs [zOh,zIp,zAl,zBh,t0,t3,hi,hi',hin,hin2,h1000,hn,uy,gy,hwr,hno]
  exact⟨m - 1,by omega,i+1,by omega,by simp[t0]⟩
 ·have hi':¬(i:Int)<n:=by omega
  simp -implicitDefEqProofs [t0,t3,hi']
  refine zA [] [0] ?_ ?_ ?_<;> simp
def st39:qQ GD:=fun args H=> match args with
 |[.slice (some ⟨k,0,none⟩) n _]=> match zAl H k with
  |some l=> some (n=l.2.length/\n<=1000/\l.2.Nodup,.ret (.bool true),H)
  |none=> none
 |_=> none
theorem qLa:qE Tryz.prog cfg 39 st39:=by
 intro args H p r H' h hp
 unfold st39 at h
 split at h
 case h_2=> cases h
 split at h
 case h_2=> cases h
 rename_i k n tg _ l hl
 cases h
 obtain⟨rfl,h1,h2⟩:=hp
 exact (qPe l.1 l.2 tg h1 h2).atK (zAb rfl) [k] (by simp) (by simp) (by simp[zA6 hl]) (by simp) (by simp) (by simp[jF (zA6 hl)])
def zHw:List (FuncId × qQ GD):=[(40,zIp),(99,zS5),(98,zAi),(100,xW zLn)]
theorem zGs:∀x∈zHw,qE Tryz.prog cfg x.1 x.2:=by simp[zHw,zMh,qK1,zPl,zTg]
structure Askd (l:List Ev) (f cm:List Int):Prop where
 r:zDn l=true
 ll:l.length<=1000
 ev:EvG l
 fl:1<=f.length/\f.length<=12
 fr:∀v∈f,jN v=true/\0<=v/\v<18446744073709551616
 cl:cm.length<=1000
 cn:cm.Nodup
 cs:∀x∈cm,xX l x=2
theorem qPg (l:List Ev) (f cm:List Int) (e1 e2:TypeId) (c1 c2 c3:Nat) (h:Askd l f cm):zP Tryz.prog cfg 37 [.slice (some ⟨0,0,none⟩) l.length c1,.slice (some ⟨1,0,none⟩) f.length c2,.slice (some ⟨2,0,none⟩) cm.length c3] (AH.of [some (.ro (evs l)),some (.arr e1 (us f)),some (.arr e2 (jA cm))])
  fun r H'=> r=.ret (.int .i64 0)/\H'=AH.of [some (.ro (evs l)),some (.arr e1 (us f)),some (.arr e2 (jA cm))]:=by
 refine zP.ends ?_
 have hr:=h.r
 have hll:=h.ll
 have hev:=h.ev.1
 obtain⟨n,hn⟩:∃n,f.length=n:=⟨_,rfl⟩
 obtain⟨q,hq⟩:∃q,cm.length=q:=⟨_,rfl⟩
 obtain⟨z,hz⟩:∃z,l.length=z:=⟨_,rfl⟩
 have hfl:=h.fl
 have hcl:=h.cl
 rw[hn] at hfl⊢
 rw[hq] at hcl⊢
 have hr2:zDn (l.take z)=true:=by rw[←hz,List.take_length];exact hr
 rw[hz] at hll⊢
 have h12:¬(12:Int)<n:=by omega
 refine zY (tbl:=zHw) zGs 1001 0 (af:=a37) rfl ?_
 rw[a37,b37,qB]
 refine⟨by simp,?_⟩
 simp -implicitDefEqProofs [zHw,zS5,hz,hr2,hll,h12]
 refine⟨hev,?_⟩
 refine xB (jE xE (jG zGs) _ _ noY qX) (fun m tm H=> ∃i:Nat,m+i=n/\tm 0=.slice (some ⟨0,0,none⟩) z c1/\tm 1=.slice (some ⟨1,0,none⟩) n c2/\tm 2=.slice (some ⟨2,0,none⟩) q c3/\tm 7=.int .i64 i/\H=AH.of [some (.ro (evs l)),some (.arr e1 (us f)),some (.arr e2 (jA cm))]) (m:=n) ⟨0,by simp⟩ (by omega) ?_
 rintro m tm H ⟨i,hm,t0,t1,t2,t7,rfl⟩
 by_cases hi:i<n
 ·obtain⟨x,hx⟩:=zAp (l:=f) (i:=i) (by omega)
  have hi':(i:Int)<n:=by omega
  have hwr:=xQ hi (by omega)
  have ux:=zFw hx
  obtain⟨hrx,hx0,hx1⟩:=h.fr x (List.mem_of_getElem? hx)
  simp -implicitDefEqProofs [zHw,zAi,asU,t0,t1,t2,t7,hi,hi',ux,hrx,hx0,hx1,hwr]
  exact⟨m - 1,by omega,i+1,by omega,by simp[t0,t1,t2]⟩
 ·have hi':¬(i:Int)<n:=by omega
  simp -implicitDefEqProofs [t0,t1,t2,t7,hi']
  refine xB (jE xE (jG zGs) _ _ noY qX) (fun m tm H=> ∃i:Nat,m+i=q/\tm 0=.slice (some ⟨0,0,none⟩) z c1/\tm 2=.slice (some ⟨2,0,none⟩) q c3/\tm 8=.int .i64 i/\H=AH.of [some (.ro (evs l)),some (.arr e1 (us f)),some (.arr e2 (jA cm))]) (m:=q) ⟨0,by simp[t0,t2]⟩ (by omega) ?_
  rintro m tm H ⟨j,hm,t0,t2,t8,rfl⟩
  by_cases hj:j<q
  ·obtain⟨x,hx⟩:=zAp (l:=cm) (i:=j) (by omega)
   have hj':(j:Int)<q:=by omega
   have hjn:(j:Int)<=q:=by omega
   have hjn2:j<=q:=by omega
   have h1000:j<=1000:=by omega
   have hwr:=xQ hj (by omega)
   have uy:=zG1 hx
   have gy:=zG0 hx
   have hst:=h.cs x (List.mem_of_getElem? hx)
   have hst2:xX (l.take z) x=2:=by rw[←hz,List.take_length];exact hst
   have hno:=zT8 h.cn hx
   simp -implicitDefEqProofs [zHw,xW,zLn,zIp,zAl,zBh,t0,t2,t8,hz,hll,hq,hj,hj',hjn,hjn2,h1000,uy,gy,hwr,hst,hst2,hno]
   exact⟨m - 1,by omega,j+1,by omega,by simp[t0,t2]⟩
  ·have hj':¬(j:Int)<q:=by omega
   simp -implicitDefEqProofs [t0,t2,t8,hj']
   refine zA [] [0,1,2] ?_ ?_ ?_<;> simp
theorem qMq (l:List Ev) (f:List Int) (e1:TypeId) (c1 c2:Nat) (h:Askd l f []):zP Tryz.prog cfg 37 [.slice (some ⟨0,0,none⟩) l.length c1,.slice (some ⟨1,0,none⟩) f.length c2,.slice none 0 0] (AH.of [some (.ro (evs l)),some (.arr e1 (us f))])
  fun r H'=> r=.ret (.int .i64 0)/\H'=AH.of [some (.ro (evs l)),some (.arr e1 (us f))]:=by
 refine zP.ends ?_
 have hr:=h.r
 have hll:=h.ll
 have hev:=h.ev.1
 obtain⟨n,hn⟩:∃n,f.length=n:=⟨_,rfl⟩
 obtain⟨z,hz⟩:∃z,l.length=z:=⟨_,rfl⟩
 have hfl:=h.fl
 rw[hn] at hfl⊢
 have hr2:zDn (l.take z)=true:=by rw[←hz,List.take_length];exact hr
 rw[hz] at hll⊢
 have h12:¬(12:Int)<n:=by omega
 refine zY (tbl:=zHw) zGs 1001 0 (af:=a37) rfl ?_
 rw[a37,b37,qB]
 refine⟨by simp,?_⟩
 simp -implicitDefEqProofs [zHw,zS5,hz,hr2,hll,h12]
 refine⟨hev,?_⟩
 refine xB (jE xE (jG zGs) _ _ noY qX) (fun m tm H=> ∃i:Nat,m+i=n/\tm 1=.slice (some ⟨1,0,none⟩) n c2/\tm 2=.slice none 0 0/\tm 7=.int .i64 i/\H=AH.of [some (.ro (evs l)),some (.arr e1 (us f))]) (m:=n) ⟨0,by simp⟩ (by omega) ?_
 rintro m tm H ⟨i,hm,t1,t2,t7,rfl⟩
 by_cases hi:i<n
 ·obtain⟨x,hx⟩:=zAp (l:=f) (i:=i) (by omega)
  have hi':(i:Int)<n:=by omega
  have hwr:=xQ hi (by omega)
  have ux:=zFw hx
  obtain⟨hrx,hx0,hx1⟩:=h.fr x (List.mem_of_getElem? hx)
  simp -implicitDefEqProofs [zHw,zAi,asU,t1,t2,t7,hi,hi',ux,hrx,hx0,hx1,hwr]
  exact⟨m - 1,by omega,i+1,by omega,by simp[t1,t2]⟩
 ·have hi':¬(i:Int)<n:=by omega
  simp -implicitDefEqProofs [t1,t2,t7,hi']
  refine xB (jE xE (jG zGs) _ _ noY qX) (fun m tm H=> tm 2=.slice none 0 0/\tm 8=.int .i64 0/\H=AH.of [some (.ro (evs l)),some (.arr e1 (us f))]) (m:=0) (by simp[t2]) (by omega) ?_
  rintro m tm H ⟨t2,t8,rfl⟩
  simp -implicitDefEqProofs [t2,t8]
  refine zA [] [0,1] ?_ ?_ ?_<;> simp
end YtnemoimbeefngaaGreat
end Go.Proofs
namespace Go.Proofs
namespace YtnemoimbeefngaaGreat
open Go.Abs
theorem qGt (l:List Ev) (a:Int):∀p∈(obS l a).rds,∃x∈l,x.k=2/\x.t=p.t:=by
 have key:∀(c:List Ev) (o:Ob),(∀p∈(c.foldl obF o).rds,p∈o.rds∨∃x∈c,x.k=2/\x.t=p.t):=by
  intro c
  induction c with
  |nil=> intro o p hp;exact .inl hp
  |cons x c ih=>
   intro o p hp
   rcases ih (obF o x) p hp with h|⟨y,h1,h2⟩
   ·unfold obF at h
    split at h
    ·rename_i hk
     split at h
     ·exact .inl h
     ·simp only[List.mem_append,List.mem_singleton] at h
      rcases h with h|h
      ·exact .inl h
      ·exact .inr ⟨x,by simp,hk,by rw[h]⟩
    ·exact .inl h
   ·exact .inr ⟨y,by simp[h1],h2⟩
 intro p hp
 rcases key (xM l a) ob0 p hp with h|⟨x,h1,h2⟩
 ·simp[ob0] at h
 ·exact⟨x,by unfold xM at h1;exact (List.mem_filter.1 h1).1,h2⟩
theorem zWo (h:List Int) (w:List Pr) (p:Pr):zA4 h (w++[p])=(zA4 h w).set p.t.toNat p.v:=by unfold zA4;rw[List.foldl_append];rfl
def zMb:List (FuncId × qQ GD):=[(151,zR7),(152,zR6),(153,zOn)]
theorem zJ4:∀x∈zMb,qE Tryz.prog cfg x.1 x.2:=by simp[zMb,qF2,qF1,qF0]
theorem zKv (l:List Ev):zAj (evs l)=some l:=by simp
theorem qMm (l:List Ev) (f:List Int) (e1:TypeId) (c1 c2:Nat) (a:Int) (cnt:Bool) (hs:l.length<=1000) (hv:EvG l) (hf:f.length<=1000) (h1:zNs l f a=true):
  zP Tryz.prog cfg 103 [.slice (some ⟨0,0,none⟩) l.length c1,.slice (some ⟨1,0,none⟩) f.length c2,.int .i64 a,.bool cnt] (AH.of [some (.ro (evs l)),some (.arr e1 (us f))])
  fun r H'=> r=.ret (.bool true)/\H'=AH.of [some (.ro (evs l)),some (.arr e1 (us (if cnt=true then zA4 f (jO (obS l a).fs) else f)))]:=by
 refine zP.ends ?_
 unfold zNs at h1
 simp only[Bool.and_eq_true] at h1
 obtain⟨⟨hrd,hwr0⟩,hok⟩:=h1
 have hrt:=qGt l a
 have hrl:=qB4 l a
 have hwt:∀p∈jO (obS l a).fs,0<=p.t/\p.t<12:=fun p hp=> zGp hp
 have hwl:(jO (obS l a).fs).length<=12:=zM3 _ 12
 obtain⟨R,hR⟩:∃R,(obS l a).rds=R:=⟨_,rfl⟩
 obtain⟨W,hW⟩:∃W,jO (obS l a).fs=W:=⟨_,rfl⟩
 rw[hR] at hrd hrt hrl
 rw[hW] at hwr0 hwt hwl⊢
 obtain⟨n,hn⟩:∃n,f.length=n:=⟨_,rfl⟩
 obtain⟨z,hz⟩:∃z,l.length=z:=⟨_,rfl⟩
 obtain⟨r,hr⟩:∃r,R.length=r:=⟨_,rfl⟩
 obtain⟨w,hw⟩:∃w,W.length=w:=⟨_,rfl⟩
 have hlen:∀x,(zA4 f x).length=n:=fun x=> by rw[zGo,hn]
 rw[hn] at hf⊢
 rw[hz] at hs⊢
 rw[hz,hr] at hrl
 rw[hw] at hwl
 refine zY (tbl:=zMb) zJ4 1001 0 (af:=a103) rfl ?_
 rw[a103,b103,qB]
 refine⟨by simp,?_⟩
 simp -implicitDefEqProofs [zMb,zR7,zR6,hz,hs,hv,hR,hW,hr,hw]
 refine xB (jE xE (jG zJ4) _ _ noY qX) (fun m tm H=> ∃i:Nat,m+i=r/\tm 0=.slice (some ⟨0,0,none⟩) z c1/\tm 1=.slice (some ⟨1,0,none⟩) n c2/\tm 2=.int .i64 a/\tm 3=.bool cnt/\tm 9=.slice (some ⟨2,0,none⟩) r 1/\tm 10=.slice (some ⟨3,0,none⟩) w 1/\tm 11=.int .i64 i/\H=AH.of [some (.ro (evs l)),some (.arr e1 (us f)),some (.arr 157 (prs R)),some (.arr 157 (prs W))]) (m:=r) ⟨0,by simp⟩ (by omega) ?_
 rintro m tm H ⟨i,hm,t0,t1,t2,t3,t9,t10,t11,rfl⟩
 by_cases hi:i<r
 ·obtain⟨x,hx⟩:=zAp (l:=R) (i:=i) (by omega)
  have hi':(i:Int)<r:=by omega
  have hwr:=xQ hi (by omega)
  have hxm:=List.mem_of_getElem? hx
  obtain⟨pt,pv⟩:=zJx hx
  have hro:i*2+2<=(prs R).length:=by rw[zBk];omega
  have hb:=hrd
  unfold zTy at hb
  rw[List.all_eq_true] at hb
  have hb:=hb x hxm
  simp only[Bool.and_eq_true,decide_eq_true_eq] at hb
  obtain⟨y,hy,hk2,hyt⟩:=hrt x hxm
  have h0:=(hv.2 y hy hk2).1
  rw[hyt] at h0
  obtain⟨q,hq⟩:∃q:Nat,x.t=q:=⟨x.t.toNat,by omega⟩
  rw[hq] at hb pt
  have hqn:¬(n:Int)<=q:=by omega
  have hqn2:(q:Int)<n:=by omega
  have hqn3:q<n:=by omega
  have ux:=zFw hb.2
  rw[Int.toNat_natCast] at ux
  simp -implicitDefEqProofs [t0,t1,t2,t3,t9,t10,t11,hi,hi',hwr,pt,pv,hro,hqn,hqn2,hqn3,ux]
  exact⟨m - 1,by omega,i+1,by omega,by simp[t0,t1,t2,t3,t9,t10]⟩
 ·have hi':¬(i:Int)<r:=by omega
  simp -implicitDefEqProofs [t0,t1,t2,t3,t9,t10,t11,hi']
  refine xB (jE xE (jG zJ4) _ _ noY qX) (fun m tm H=> ∃i:Nat,m+i=w/\tm 0=.slice (some ⟨0,0,none⟩) z c1/\tm 1=.slice (some ⟨1,0,none⟩) n c2/\tm 2=.int .i64 a/\tm 3=.bool cnt/\tm 10=.slice (some ⟨3,0,none⟩) w 1/\tm 12=.int .i64 i/\H=AH.of [some (.ro (evs l)),some (.arr e1 (us f)),some (.arr 157 (prs R)),some (.arr 157 (prs W))]) (m:=w) ⟨0,by simp[t0,t1,t2,t3,t10]⟩ (by omega) ?_
  rintro m tm H ⟨j,hm,t0,t1,t2,t3,t10,t12,rfl⟩
  by_cases hj:j<w
  ·obtain⟨x,hx⟩:=zAp (l:=W) (i:=j) (by omega)
   have hj':(j:Int)<w:=by omega
   have hwr:=xQ hj (by omega)
   have hxm:=List.mem_of_getElem? hx
   obtain⟨pt,pv⟩:=zJx hx
   have hro:j*2+2<=(prs W).length:=by rw[zBk];omega
   have hb:=hwr0
   unfold zL5 at hb
   rw[List.all_eq_true] at hb
   have hb:=hb x hxm
   simp only[decide_eq_true_eq] at hb
   have hqn:¬(n:Int)<=x.t:=by omega
   simp -implicitDefEqProofs [t0,t1,t2,t3,t10,t12,hj,hj',hwr,pt,pv,hro,hqn]
   exact⟨m - 1,by omega,j+1,by omega,by simp[t0,t1,t2,t3,t10]⟩
  ·have hj':¬(j:Int)<w:=by omega
   simp -implicitDefEqProofs [t0,t1,t2,t3,t10,t12,hj']
   refine xB (jE xE (jG zJ4) _ _ noY qX) (fun m tm H=> ∃i:Nat,m+i=w/\tm 0=.slice (some ⟨0,0,none⟩) z c1/\tm 1=.slice (some ⟨1,0,none⟩) n c2/\tm 2=.int .i64 a/\tm 3=.bool cnt/\tm 10=.slice (some ⟨3,0,none⟩) w 1/\tm 13=.int .i64 i/\(cnt=false->i=0)/\H=AH.of [some (.ro (evs l)),some (.arr e1 (us (zA4 f (W.take i)))),some (.arr 157 (prs R)),some (.arr 157 (prs W))]) (m:=w) ⟨0,by simp[t0,t1,t2,t3,t10,zA4]⟩ (by omega) ?_
   rintro m tm H ⟨k,hm,t0,t1,t2,t3,t10,t13,hcn,rfl⟩
   cases cnt with
   |false=>
    have hk0:=hcn rfl
    subst hk0
    have hap:zA4 f (W.take 0)=f:=rfl
    simp -implicitDefEqProofs [zMb,zOn,hz,hs,hv,hok,t0,t1,t2,t3,t10,t13]
    refine⟨fun _=> zA [] [0,1] ?_ ?_ ?_,fun _=> zA [] [0,1] ?_ ?_ ?_⟩<;> simp[zA4]
   |true=>
    by_cases hk:k<w
    ·obtain⟨x,hx⟩:=zAp (l:=W) (i:=k) (by omega)
     have hk':(k:Int)<w:=by omega
     have hwr:=xQ hk (by omega)
     have hxm:=List.mem_of_getElem? hx
     obtain⟨pt,pv⟩:=zJx hx
     have hro:k*2+2<=(prs W).length:=by rw[zBk];omega
     have hb:=hwr0
     unfold zL5 at hb
     rw[List.all_eq_true] at hb
     have hb:=hb x hxm
     simp only[decide_eq_true_eq] at hb
     have h0:=(hwt x hxm).1
     obtain⟨q,hq⟩:∃q:Nat,x.t=q:=⟨x.t.toNat,by omega⟩
     rw[hq] at hb pt
     have hqn2:(q:Int)<n:=by omega
     have hqn3:q<n:=by omega
     have hsuc:zA4 f (W.take (k+1))=(zA4 f (W.take k)).set q x.v:=by
      rw[List.take_add_one,hx]
      show zA4 f (W.take k++[x])=_
      rw[zWo,hq,Int.toNat_natCast]
     have hl2:=hlen (W.take k)
     have hus:=zC5 (zA4 f (W.take k))
     rw[hl2] at hus
     simp -implicitDefEqProofs [t0,t1,t2,t3,t10,t13,hk,hk',hwr,pt,pv,hro,hb,hqn2,hqn3,hl2,hus,qH]
     exact⟨by omega,m - 1,by omega,k+1,by omega,by simp[t0,t1,t2,t3,t10,hsuc]⟩
    ·have hk':¬(k:Int)<w:=by omega
     have ht:W.take k=W:=List.take_of_length_le (by omega)
     simp -implicitDefEqProofs [zMb,zOn,hz,hs,hv,hok,t0,t1,t2,t3,t10,t13,hk',ht]
     refine zA [] [0,1] ?_ ?_ ?_<;> simp
def zMk:qQ GD:=fun args H=> match args with
 |[.slice (some ⟨k,0,none⟩) n _,.slice (some ⟨k2,0,none⟩) n2 _,.int .i64 a,.bool cnt]=> match H.get k with
  |some (.ro cs)=> (zAj cs).bind fun l=> (zB8 H k2).map fun f=> (n=l.length/\n<=1000/\EvG l/\n2=f.2.length/\n2<=1000/\zNs l f.2 a=true,.ret (.bool true),H.upd k2 (.arr f.1 (us (if cnt=true then zA4 f.2 (jO (obS l a).fs) else f.2))))
  |_=> none
 |_=> none
theorem qGh:qE Tryz.prog cfg 103 zMk:=by
 intro args H p r H' h hp
 unfold zMk at h
 split at h
 case h_2=> cases h
 split at h
 case h_2=> cases h
 simp only[Option.map_eq_some_iff,Option.bind_eq_some_iff] at h
 obtain⟨l,hl,f,hf,h⟩:=h
 rename_i k n c k2 n2 c2 a cnt x1 cs hk
 cases h
 rw[zA0 hl] at hk
 obtain⟨rfl,h1,h2,rfl,h3,h4⟩:=hp
 have hf2:=zCg hf
 have hne:k≠k2:=fun e=> by subst e;rw[hk] at hf2;cases hf2
 exact (qMm l f.2 f.1 c c2 a cnt h1 h2 h3 h4).atK (zBn fun i cs hi=> by rcases i with _|_|_|i<;> simp at hi⊢;exact hi) [k,k2] (by simp[hne]) (by simp) (by simp[hk,hf2]) (by simp) (by simp) (by simp[jF hk])
end YtnemoimbeefngaaGreat
end Go.Proofs
namespace Go.Proofs
namespace YtnemoimbeefngaaGreat
open Go.Abs
theorem qBo {l:List Ev} {cm:List Int} {a:Int} {rest h hp:List Int} (hr:zDy l cm (a::rest) h=some hp):
  (∀b∈rest,zBg l b a=false)/\zNs l h a=true/\zDy l cm rest (if zEz l cm a=true then zA4 h (jO (obS l a).fs) else h)=some hp:=by
 unfold zDy at hr
 split at hr
 ·cases hr
 ·rename_i hb
  split at hr
  ·rename_i ho
   refine⟨fun b hm=> ?_,ho,hr⟩
   cases hbb:zBg l b a with
   |false=> rfl
   |true=> exact absurd (List.any_eq_true.2 ⟨b,hm,hbb⟩) hb
  ·cases hr
theorem qDo {l:List Int} {i:Nat} {x:Int} (h:l[i]?=some x):l.drop i=x::l.drop (i+1):=by
 obtain⟨h1,h2⟩:=List.getElem?_eq_some_iff.1 h
 rw[List.drop_eq_getElem_cons h1,h2]
theorem zV9 {l:List Int} {i k:Nat} {x:Int} (h:l[k]?=some x) (hk:i<k):x∈l.drop (i+1):=by
 refine List.mem_of_getElem? (i:=k - (i+1)) ?_
 rw[List.getElem?_drop,←h];congr 1;omega
def zJ2:List (FuncId × qQ GD):=[(40,zIp),(103,zMk),(100,xW zLn),(102,xW r102)]
theorem zNe:∀x∈zJ2,qE Tryz.prog cfg x.1 x.2:=by simp[zJ2,zMh,qGh,zTg,qGi]
def ruH (l:List Ev) (f ord cm h:List Int) (e1 e2 e3:TypeId):List (Option (AObj GD)):=[some (.ro (evs l)),some (.arr e1 (us f)),some (.arr e2 (jA ord)),some (.arr e3 (jA cm)),some (.arr 49 (us h))]
def ruG (l:List Ev) (f ord cm h:List Int) (e1 e2 e3:TypeId):List (Option (AObj GD)):=[some (.ro (evs l)),some (.arr e1 (us f)),some (.arr e2 (jA ord)),some (.arr e3 (jA cm)),none,some (.arr 49 (us h))]
def ruI (l:List Ev) (f ord cm hp:List Int) (e1 e2 e3:TypeId) (c1 c3 c4 n q z o:Nat) (m:Nat) (tm:Nat->Value) (H:AH GD):Prop:=∃(i:Nat) (g:List Int),m+i=o/\g.length=n/\zDy l cm (ord.drop i) g=some hp/\tm 0=.slice (some ⟨0,0,none⟩) z c1/\tm 2=.slice (some ⟨2,0,none⟩) o c3/\tm 3=.slice (some ⟨3,0,none⟩) q c4/\tm 11=.slice (some ⟨5,0,none⟩) n 1/\tm 12=.int .i64 i/\H=AH.of (ruG l f ord cm g e1 e2 e3)
def ruJ (l:List Ev) (f ord cm g:List Int) (e1 e2 e3:TypeId) (c1 c3 c4 n q z o i:Nat) (m:Nat) (tm:Nat->Value) (H:AH GD):Prop:=∃k:Nat,m+k=o/\i+1<=k/\tm 0=.slice (some ⟨0,0,none⟩) z c1/\tm 2=.slice (some ⟨2,0,none⟩) o c3/\tm 3=.slice (some ⟨3,0,none⟩) q c4/\tm 11=.slice (some ⟨5,0,none⟩) n 1/\tm 12=.int .i64 i/\tm 13=.int .i64 k/\H=AH.of (ruG l f ord cm g e1 e2 e3)
theorem qPc (l:List Ev) (f ord cm hp:List Int) (e1 e2 e3:TypeId) (c1 c2 c3 c4:Nat) (h:Askd l f cm) (hol:ord.length<=1000) (hrun:zDy l cm ord f=some hp):
  zP Tryz.prog cfg 41 [.slice (some ⟨0,0,none⟩) l.length c1,.slice (some ⟨1,0,none⟩) f.length c2,.slice (some ⟨2,0,none⟩) ord.length c3,.slice (some ⟨3,0,none⟩) cm.length c4] (AH.of [some (.ro (evs l)),some (.arr e1 (us f)),some (.arr e2 (jA ord)),some (.arr e3 (jA cm))])
  fun r H'=> r=.ret (.tuple #[.int .i64 0,.int .i64 0,.slice (some ⟨4,0,none⟩) f.length 1])/\H'=AH.of (ruH l f ord cm hp e1 e2 e3):=by
 refine zP.ends ?_
 have hll:=h.ll
 have hv:=h.ev
 have hfl:=h.fl
 have hcl:=h.cl
 obtain⟨n,hn⟩:∃n,f.length=n:=⟨_,rfl⟩
 obtain⟨q,hq⟩:∃q,cm.length=q:=⟨_,rfl⟩
 obtain⟨z,hz⟩:∃z,l.length=z:=⟨_,rfl⟩
 obtain⟨o,ho⟩:∃o,ord.length=o:=⟨_,rfl⟩
 have htl:l.take z=l:=List.take_of_length_le (by omega)
 have htc:cm.take q=cm:=List.take_of_length_le (by omega)
 have htu:(us f).take n=us f:=List.take_of_length_le (by rw[zC5];omega)
 have hul:(us f).length=n:=by rw[zC5,hn]
 rw[hn] at hfl⊢
 rw[hq] at hcl⊢
 rw[hz] at hll⊢
 rw[ho] at hol⊢
 have hr3:n*8<=140737488355328/\n<=9223372036854775806/\n<=9223372036854775807:=by omega
 have hn0:n≠0:=by omega
 have hn1:0<n:=by omega
 refine zY (tbl:=zJ2) zNe 1001 0 (af:=a41) rfl ?_
 rw[a41,b41,qB]
 refine⟨by simp,?_⟩
 simp -implicitDefEqProofs [hr3,hn0,hn1,htu,hul]
 refine zBj (jE xE (jG zNe) _ _ noY qX) (ruI l f ord cm hp e1 e2 e3 c1 c3 c4 n q z o) (m:=o) ?_ (by omega) ?_
 ·refine qN [] [0,1,2,3,4,5] (ruG l f ord cm f e1 e2 e3) o (by omega) ?_ ?_ ⟨0,f,by omega,hn,hrun,?_,?_,?_,?_,?_,rfl⟩<;> simp[ruG]
 rintro m tm H ⟨i,g,hm,hgl,hrn,t0,t2,t3,t11,t12,rfl⟩
 by_cases hi:i<o
 ·obtain⟨a,ha⟩:=zAp (l:=ord) (i:=i) (by omega)
  have hi':(i:Int)<o:=by omega
  have hwr:=xQ hi (by omega)
  have ua:=zG1 ha
  have ga:=zG0 ha
  rw[qDo ha] at hrn
  obtain⟨hb,hone,hrest⟩:=qBo hrn
  simp -implicitDefEqProofs [ruG,t0,t2,t3,t11,t12,hi,hi',hwr]
  refine zBj (jE xE (jG zNe) _ _ noY qX) (ruJ l f ord cm g e1 e2 e3 c1 c3 c4 n q z o i) (m:=o - (i+1)) ?_ (by omega) ?_
  ·refine qN [] [0,1,2,3,4,5] (ruG l f ord cm g e1 e2 e3) (o - (i+1)) (by omega) ?_ ?_ ⟨i+1,by omega,by omega,?_,?_,?_,?_,?_,?_,rfl⟩<;> simp[ruG,t0,t2,t3,t11,t12]
  rintro m2 tm H ⟨k,hm2,hik,t0,t2,t3,t11,t12,t13,rfl⟩
  by_cases hk:k<o
  ·obtain⟨b,hbk⟩:=zAp (l:=ord) (i:=k) (by omega)
   have hk':(k:Int)<o:=by omega
   have hwk:=xQ hk (by omega)
   have ub:=zG1 hbk
   have gb:=zG0 hbk
   have hbf:=hb b (zV9 hbk (by omega))
   simp -implicitDefEqProofs [ruG,zJ2,xW,r102,t0,t2,t3,t11,t12,t13,hi,hi',hk,hk',hwk,ua,ga,ub,gb,hz,hll,htl,hbf]
   refine qN [] [0,1,2,3,4,5] (ruG l f ord cm g e1 e2 e3) (m2 - 1) (by omega) ?_ ?_ ⟨k+1,by omega,by omega,?_,?_,?_,?_,?_,?_,rfl⟩<;> simp[ruG,t0,t2,t3,t11,t12]
  ·have hk':¬(k:Int)<o:=by omega
   by_cases h3:xX l a=3
   ·have hc:zEz l cm a=true:=by simp[zEz,h3]
    rw[if_pos hc] at hrest
    simp -implicitDefEqProofs [ruG,zJ2,xW,zLn,zMk,zB8,zD6,t0,t2,t3,t11,t12,t13,hi,hi',hk',hwr,ua,ga,hz,hll,htl,h3,hgl,hv,hone]
    refine⟨by omega,qN [] [0,1,2,3,4,5] (ruG l f ord cm (zA4 g (jO (obS l a).fs)) e1 e2 e3) (m - 1) (by omega) ?_ ?_ ⟨i+1,_,by omega,?_,hrest,?_,?_,?_,?_,?_,rfl⟩⟩<;> simp[ruG,t0,t2,t3,t11,zGo,hgl]
   ·by_cases hcm:a∈cm
    ·have hc:zEz l cm a=true:=by simp[zEz,hcm]
     rw[if_pos hc] at hrest
     simp -implicitDefEqProofs [ruG,zJ2,xW,zLn,zMk,zIp,zAl,zBh,zB8,zD6,t0,t2,t3,t11,t12,t13,hi,hi',hk',hwr,ua,ga,hz,hll,htl,hq,hcl,htc,h3,hcm,hgl,hv,hone]
     refine⟨by omega,qN [] [0,1,2,3,4,5] (ruG l f ord cm (zA4 g (jO (obS l a).fs)) e1 e2 e3) (m - 1) (by omega) ?_ ?_ ⟨i+1,_,by omega,?_,hrest,?_,?_,?_,?_,?_,rfl⟩⟩<;> simp[ruG,t0,t2,t3,t11,zGo,hgl]
    ·have hc:¬zEz l cm a=true:=by simp[zEz,h3,hcm]
     rw[if_neg hc] at hrest
     simp -implicitDefEqProofs [ruG,zJ2,xW,zLn,zMk,zIp,zAl,zBh,zB8,zD6,t0,t2,t3,t11,t12,t13,hi,hi',hk',hwr,ua,ga,hz,hll,htl,hq,hcl,htc,h3,hcm,hgl,hv,hone]
     refine⟨by omega,qN [] [0,1,2,3,4,5] (ruG l f ord cm g e1 e2 e3) (m - 1) (by omega) ?_ ?_ ⟨i+1,_,by omega,?_,hrest,?_,?_,?_,?_,?_,rfl⟩⟩<;> simp[ruG,t0,t2,t3,t11,zGo,hgl]
 ·have hie:i=o:=by omega
  have hd:ord.drop i=[]:=List.drop_eq_nil_of_le (by omega)
  rw[hd] at hrn
  have hg:g=hp:=by simpa [zDy] using hrn
  subst hg
  have hi':¬(i:Int)<o:=by omega
  simp -implicitDefEqProofs [ruG,t0,t2,t3,t11,t12,hi']
  refine zA [] [0,1,2,3,5] ?_ ?_ ?_<;> simp[ruH]
end YtnemoimbeefngaaGreat
end Go.Proofs
namespace Go.Proofs
namespace YtnemoimbeefngaaGreat
open Go.Abs
def zS6:qQ GD:=fun args H=> match args with
 |[.slice (some ⟨k,0,none⟩) n _,.slice (some ⟨k2,0,none⟩) n2 _,.slice (some ⟨k3,0,none⟩) n3 _]=> match H.get k with
  |some (.ro cs)=> (zAj cs).bind fun l=> (zB8 H k2).bind fun f=> (zAl H k3).map fun cm=> (n=l.length/\n2=f.2.length/\n3=cm.2.length/\k2≠k3/\Askd l f.2 cm.2,.ret (.int .i64 0),H)
  |_=> none
 |[.slice (some ⟨k,0,none⟩) n _,.slice (some ⟨k2,0,none⟩) n2 _,.slice none 0 0]=> match H.get k with
  |some (.ro cs)=> (zAj cs).bind fun l=> (zB8 H k2).map fun f=> (n=l.length/\n2=f.2.length/\Askd l f.2 [],.ret (.int .i64 0),H)
  |_=> none
 |_=> none
theorem qLc:qE Tryz.prog cfg 37 zS6:=by
 intro args H p r H' h hp
 unfold zS6 at h
 split at h
 ·split at h
  case h_2=> cases h
  simp only[Option.map_eq_some_iff,Option.bind_eq_some_iff] at h
  obtain⟨l,hl,f,hf,cm,hc,h⟩:=h
  rename_i k n c k2 n2 c2 k3 n3 c3 x1 cs hk
  cases h
  rw[zA0 hl] at hk
  obtain⟨rfl,rfl,rfl,h23,ha⟩:=hp
  have hf2:=zCg hf
  have hc2:=zA6 hc
  have hne:k≠k2:=fun e=> by subst e;rw[hk] at hf2;cases hf2
  have hne2:k≠k3:=fun e=> by subst e;rw[hk] at hc2;cases hc2
  exact (qPg l f.2 cm.2 f.1 cm.1 c c2 c3 ha).atK (zBn fun i cs hi=> by rcases i with _|_|_|i<;> simp at hi⊢;exact hi) [k,k2,k3] (by simp[hne,hne2,h23]) (by simp) (by simp[hk,hf2,hc2]) (by simp) (by simp) (by simp[jF hk,jF hf2,jF hc2])
 ·split at h
  case h_2=> cases h
  simp only[Option.map_eq_some_iff,Option.bind_eq_some_iff] at h
  obtain⟨l,hl,f,hf,h⟩:=h
  rename_i k n c k2 n2 c2 x1 cs hk
  cases h
  rw[zA0 hl] at hk
  obtain⟨rfl,rfl,ha⟩:=hp
  have hf2:=zCg hf
  have hne:k≠k2:=fun e=> by subst e;rw[hk] at hf2;cases hf2
  exact (qMq l f.2 f.1 c c2 ha).atK (zBn fun i cs hi=> by rcases i with _|_|i<;> simp at hi⊢;exact hi) [k,k2] (by simp[hne]) (by simp) (by simp[hk,hf2]) (by simp) (by simp) (by simp[jF hk,jF hf2])
 ·cases h
def zPo:qQ GD:=fun args H=> match args with
 |[.slice (some ⟨k,0,none⟩) n _,.slice (some ⟨k2,0,none⟩) n2 _,.slice (some ⟨k3,0,none⟩) n3 _,.slice (some ⟨k4,0,none⟩) n4 _]=> match H.get k with
  |some (.ro cs)=> (zAj cs).bind fun l=> (zB8 H k2).bind fun f=> (zAl H k3).bind fun ord=> (zAl H k4).bind fun cm=> (zDy l cm.2 ord.2 f.2).map fun hp=>
   (n=l.length/\n2=f.2.length/\n3=ord.2.length/\n4=cm.2.length/\k2≠k3/\k2≠k4/\k3≠k4/\Askd l f.2 cm.2/\ord.2.length<=1000,.ret (.tuple #[.int .i64 0,.int .i64 0,.slice (some ⟨H.next,0,none⟩) n2 1]),H.add (.arr 49 (us hp)))
  |_=> none
 |_=> none
theorem zWz:qE Tryz.prog cfg 41 zPo:=by
 intro args H p r H' h hp
 unfold zPo at h
 split at h
 case h_2=> cases h
 split at h
 case h_2=> cases h
 simp only[Option.map_eq_some_iff,Option.bind_eq_some_iff] at h
 obtain⟨l,hl,f,hf,ord,ho,cm,hc,hp',hr,h⟩:=h
 rename_i k n c k2 n2 c2 k3 n3 c3 k4 n4 c4 x1 cs hk
 cases h
 rw[zA0 hl] at hk
 obtain⟨rfl,rfl,rfl,rfl,h23,h24,h34,ha,hol⟩:=hp
 have hf2:=zCg hf
 have ho2:=zA6 ho
 have hc2:=zA6 hc
 have hne:k≠k2:=fun e=> by subst e;rw[hk] at hf2;cases hf2
 have hne2:k≠k3:=fun e=> by subst e;rw[hk] at ho2;cases ho2
 have hne3:k≠k4:=fun e=> by subst e;rw[hk] at hc2;cases hc2
 exact (qPc l f.2 ord.2 cm.2 hp' f.1 ord.1 cm.1 c c2 c3 c4 ha hol hr).atK (zBn fun i cs hi=> by rcases i with _|_|_|_|_|i<;> simp[ruH] at hi⊢;exact hi) [k,k2,k3,k4] (by simp[hne,hne2,hne3,h23,h24,h34]) (by simp[ruH]) (by simp[hk,hf2,ho2,hc2]) (by simp) (by simp) (by simp[ruH,jF hk,jF hf2,jF ho2,jF hc2])
theorem Askd.none {l:List Ev} {f cm:List Int} (h:Askd l f cm):Askd l f []:=⟨h.r,h.ll,h.ev,h.fl,h.fr,by simp,by simp,by simp⟩
structure Lgl (l:List Ev) (f ord cm:List Int):Prop where
 a:Askd l f cm
 ol:ord.length=(zBv l).length
 nd:ord.Nodup
 mem:∀x∈ord,x∈zBv l
def zMd:List (FuncId × qQ GD):=[(37,zS6),(38,zTt r38),(39,st39),(40,zIp),(41,zPo)]
theorem zS0:∀x∈zMd,qE Tryz.prog cfg x.1 x.2:=by simp[zMd,qLc,qLb,qLa,zMh,zWz]
theorem qBn (l:List Ev) (f ord cm hp:List Int) (e1 e2 e3:TypeId) (c1 c2 c3 c4:Nat) (h:Lgl l f ord cm) (hrun:zDy l cm ord f=some hp):
  zP Tryz.prog cfg 10 [.slice (some ⟨0,0,none⟩) l.length c1,.slice (some ⟨1,0,none⟩) f.length c2,.slice (some ⟨2,0,none⟩) ord.length c3,.slice (some ⟨3,0,none⟩) cm.length c4] (AH.of [some (.ro (evs l)),some (.arr e1 (us f)),some (.arr e2 (jA ord)),some (.arr e3 (jA cm))])
  fun r H'=> r=.ret (.tuple #[.int .i64 0,.int .i64 0])/\H'=AH.of [some (.ro (evs l)),some (.arr e1 (us f)),some (.arr e2 (jA ord)),some (.arr e3 (jA cm))]:=by
 refine zP.ends ?_
 have ha:=h.a
 have ha0:=ha.none
 have hll:=ha.ll
 have hol:=h.ol
 have hnd:=h.nd
 have hal:=zQf l
 obtain⟨n,hn⟩:∃n,f.length=n:=⟨_,rfl⟩
 obtain⟨q,hq⟩:∃q,cm.length=q:=⟨_,rfl⟩
 obtain⟨z,hz⟩:∃z,l.length=z:=⟨_,rfl⟩
 obtain⟨o,ho⟩:∃o,ord.length=o:=⟨_,rfl⟩
 have htl:l.take z=l:=List.take_of_length_le (by omega)
 have hmem:=h.mem
 obtain⟨A,hA⟩:∃A,zBv l=A:=⟨_,rfl⟩
 rw[hA] at hmem hol hal
 rw[ho] at hol
 rw[hz] at hll hal
 have htA:A.take o=A:=List.take_of_length_le (by omega)
 have ho1000:o<=1000:=by omega
 rw[hn,hq,hz,ho]
 refine zY (tbl:=zMd) zS0 1001 0 (af:=a10) rfl ?_
 rw[a10,b10,qB]
 refine⟨by simp,?_⟩
 simp -implicitDefEqProofs [zMd,zS6,zTt,r38,st39,zB8,zAl,zD6,zBh,hz,hn,ho,htl,hll,ha,ha0,hA,←hol,hnd,ho1000]
 refine xB (jE xE (jG zS0) _ _ noY qX) (fun m tm H=> ∃i:Nat,m+i=o/\tm 0=.slice (some ⟨0,0,none⟩) z c1/\tm 1=.slice (some ⟨1,0,none⟩) n c2/\tm 2=.slice (some ⟨2,0,none⟩) o c3/\tm 3=.slice (some ⟨3,0,none⟩) q c4/\tm 11=.slice (some ⟨4,0,none⟩) o 1/\tm 12=.int .i64 i/\
  H=AH.of [some (.ro (evs l)),some (.arr e1 (us f)),some (.arr e2 (jA ord)),some (.arr e3 (jA cm)),some (.arr 3 (jA A))]) (m:=o) ⟨0,by simp⟩ (by omega) ?_
 rintro m tm H ⟨i,hm,t0,t1,t2,t3,t11,t12,rfl⟩
 by_cases hi:i<o
 ·obtain⟨a,hai⟩:=zAp (l:=ord) (i:=i) (by omega)
  have hi':(i:Int)<o:=by omega
  have hwr:=xQ hi (by omega)
  have ua:=zG1 hai
  have ga:=zG0 hai
  have hin:=hmem a (List.mem_of_getElem? hai)
  simp -implicitDefEqProofs [zMd,zIp,zAl,zBh,t0,t1,t2,t3,t11,t12,hi,hi',hwr,ua,ga,←hol,ho1000,htA,hin]
  exact⟨m - 1,by omega,i+1,by omega,by simp[t0,t1,t2,t3,t11]⟩
 ·have hi':¬(i:Int)<o:=by omega
  simp -implicitDefEqProofs [zMd,zS6,zPo,zB8,zAl,zD6,zBh,t0,t1,t2,t3,t11,t12,hi',hz,hn,ho,hq,ha,hrun,ho1000]
  refine zA [] [0,1,2,3] ?_ ?_ ?_<;> simp
def st10:qQ GD:=fun args H=> match args with
 |[.slice (some ⟨k,0,none⟩) n _,.slice (some ⟨k2,0,none⟩) n2 _,.slice (some ⟨k3,0,none⟩) n3 _,.slice (some ⟨k4,0,none⟩) n4 _]=> match H.get k with
  |some (.ro cs)=> (zAj cs).bind fun l=> (zB8 H k2).bind fun f=> (zAl H k3).bind fun ord=> (zAl H k4).bind fun cm=> (zDy l cm.2 ord.2 f.2).map fun hp=>
   (n=l.length/\n2=f.2.length/\n3=ord.2.length/\n4=cm.2.length/\k2≠k3/\k2≠k4/\k3≠k4/\Lgl l f.2 ord.2 cm.2,.ret (.tuple #[.int .i64 0,.int .i64 0]),H)
  |_=> none
 |_=> none
theorem qLj:qE Tryz.prog cfg 10 st10:=by
 intro args H p r H' h hp
 unfold st10 at h
 split at h
 case h_2=> cases h
 split at h
 case h_2=> cases h
 simp only[Option.map_eq_some_iff,Option.bind_eq_some_iff] at h
 obtain⟨l,hl,f,hf,ord,ho,cm,hc,hp',hr,h⟩:=h
 rename_i k n c k2 n2 c2 k3 n3 c3 k4 n4 c4 x1 cs hk
 cases h
 rw[zA0 hl] at hk
 obtain⟨rfl,rfl,rfl,rfl,h23,h24,h34,ha⟩:=hp
 have hf2:=zCg hf
 have ho2:=zA6 ho
 have hc2:=zA6 hc
 have hne:k≠k2:=fun e=> by subst e;rw[hk] at hf2;cases hf2
 have hne2:k≠k3:=fun e=> by subst e;rw[hk] at ho2;cases ho2
 have hne3:k≠k4:=fun e=> by subst e;rw[hk] at hc2;cases hc2
 exact (qBn l f.2 ord.2 cm.2 hp' f.1 ord.1 cm.1 c c2 c3 c4 ha hr).atK (zBn fun i cs hi=> by rcases i with _|_|_|_|i<;> simp at hi⊢;exact hi) [k,k2,k3,k4] (by simp[hne,hne2,hne3,h23,h24,h34]) (by simp) (by simp[hk,hf2,ho2,hc2]) (by simp) (by simp) (by simp[jF hk,jF hf2,jF ho2,jF hc2])
def zOi:List (FuncId × qQ GD):=[(10,st10),(41,zPo)]
theorem qAv:∀x∈zOi,qE Tryz.prog cfg x.1 x.2:=by simp[zOi,qLj,zWz]
theorem qPk (l:List Ev) (f ord cm hp:List Int) (e1 e2 e3:TypeId) (c1 c2 c3 c4:Nat) (h:Lgl l f ord cm) (hrun:zDy l cm ord f=some hp):
  zP Tryz.prog cfg 15 [.slice (some ⟨0,0,none⟩) l.length c1,.slice (some ⟨1,0,none⟩) f.length c2,.slice (some ⟨2,0,none⟩) ord.length c3,.slice (some ⟨3,0,none⟩) cm.length c4] (AH.of [some (.ro (evs l)),some (.arr e1 (us f)),some (.arr e2 (jA ord)),some (.arr e3 (jA cm))])
  fun r H'=> r=.ret (.tuple #[.slice (some ⟨4,0,none⟩) f.length 1,.int .i64 0])/\H'=AH.of [some (.ro (evs l)),some (.arr e1 (us f)),some (.arr e2 (jA ord)),some (.arr e3 (jA cm)),some (.arr 49 (us hp))]:=by
 refine zP.ends ?_
 have ha:=h.a
 have hal:=zQf l
 have hol:ord.length<=1000:=by have:=h.ol;have:=ha.ll;omega
 refine zY (tbl:=zOi) qAv 0 0 (af:=a15) rfl ?_
 rw[a15,b15,qB]
 refine⟨by simp,?_⟩
 simp -implicitDefEqProofs [zOi,st10,zPo,zB8,zAl,zD6,zBh,h,ha,hol,hrun]
 refine zA [] [0,1,2,3,4] ?_ ?_ ?_<;> simp
end YtnemoimbeefngaaGreat
end Go.Proofs
namespace Go.Proofs
namespace YtnemoimbeefngaaGreat
open Go.Abs
end YtnemoimbeefngaaGreat
end Go.Proofs
namespace Go.Proofs
namespace YtnemoimbeefngaaGreat
open Go.Abs
end YtnemoimbeefngaaGreat
end Go.Proofs
namespace Go.Proofs
namespace YtnemoimbeefngaaGreat
open Go.Abs
end YtnemoimbeefngaaGreat
end Go.Proofs
namespace Go.Proofs
namespace YtnemoimbeefngaaGreat
open Go.Abs
end YtnemoimbeefngaaGreat
end Go.Proofs
namespace Go.Proofs
namespace YtnemoimbeefngaaGreat
open Go.Abs
end YtnemoimbeefngaaGreat
end Go.Proofs
namespace Go.Proofs
namespace YtnemoimbeefngaaGreat
open Go.Abs
end YtnemoimbeefngaaGreat
end Go.Proofs
namespace Go.Proofs
namespace YtnemoimbeefngaaGreat
open Go.Abs
end YtnemoimbeefngaaGreat
end Go.Proofs
namespace Go.Proofs.YtnemoimbeefngaaGreat
section
variable {α:Type} (key num:α->Int)
def Lex (a b:α):Prop:=key a<key b∨(key a=key b/\num a<num b)
def zGx (a b:α):Bool:=decide (key a<key b∨(key a=key b/\num a<=num b))
def srt (l:List α):List α:=l.mergeSort (zGx key num)
theorem zBy (l:List α):(srt key num l).Perm l:=List.mergeSort_perm _ _
theorem zB7 (l:List α):(srt key num l).length=l.length:=(zBy key num l).length_eq
theorem zTh (l:List α):(srt key num l).Pairwise fun a b=> zGx key num a b=true:=
 List.pairwise_mergeSort (by simp only[zGx,decide_eq_true_eq];intro a b c h1 h2;omega) (by simp only[zGx,Bool.or_eq_true,decide_eq_true_eq];intro a b;omega) l
theorem qB6:∀{l:List α},l.Pairwise (Lex key num)->∀a∈l,∀b∈l,zGx key num a b=true->zGx key num b a=true->a=b
 |[],_,a,ha,_,_,_,_=> by simp at ha
 |x::l,h,a,ha,b,hb,h1,h2=> by
  obtain⟨hx,hl⟩:=List.pairwise_cons.1 h
  simp only[zGx,decide_eq_true_eq] at h1 h2
  rcases List.mem_cons.1 ha with rfl|ha'
  ·rcases List.mem_cons.1 hb with rfl|hb
   ·rfl
   ·have:=hx b hb;simp only[Lex] at this;omega
  ·rcases List.mem_cons.1 hb with rfl|hb
   ·have:=hx a ha';simp only[Lex] at this;omega
   ·exact qB6 hl a ha' b hb (by simp only[zGx,decide_eq_true_eq];omega) (by simp only[zGx,decide_eq_true_eq];omega)
theorem zGb {l l':List α} (hp:l'.Perm l) (hs:l'.Pairwise (Lex key num)):l'=srt key num l:=by
 refine List.Perm.eq_of_pairwise (le:=fun a b=> zGx key num a b=true) ?_ ?_ (zTh key num l) (hp.trans (zBy key num l).symm)
 ·intro a b ha hb h1 h2
  exact qB6 key num hs a ha b ((hp.trans (zBy key num l).symm).mem_iff.2 hb) h1 h2
 ·exact hs.imp (by intro a b h;simp only[zGx,decide_eq_true_eq];simp only[Lex] at h;omega)
theorem zGc {l:List α} (h:l.Pairwise fun a b=> num a<num b):(srt key num l).Pairwise (Lex key num):=by
 have h1:=zTh key num l
 have hn:(srt key num l).Pairwise fun a b=> num a≠num b:=by
  have:l.Pairwise fun a b=> num a≠num b:=h.imp (by intro a b h;omega)
  exact this.perm (zBy key num l).symm (by intro a b h;exact fun e=> h e.symm)
 refine (h1.and hn).imp ?_
 intro a b ⟨h,h'⟩
 simp only[zGx,decide_eq_true_eq] at h
 simp only[Lex];omega
theorem zIq {l:List α} (h:l.Pairwise (Lex key num)):srt key num l=l:=(zGb key num (List.Perm.refl l) h).symm
theorem zYh {l u v:List α} (hp:l.Perm (u++v)) (hu:(srt key num u).Pairwise (Lex key num)) (hv:(srt key num v).Pairwise (Lex key num))
  (h:∀x∈u,∀y∈v,Lex key num x y):srt key num l=srt key num u++srt key num v:=by
 refine (zGb key num ?_ ?_).symm
 ·exact ((zBy key num u).append (zBy key num v)).trans hp.symm
 ·exact List.pairwise_append.2 ⟨hu,hv,fun x hx y hy=> h x ((zBy key num u).mem_iff.1 hx) y ((zBy key num v).mem_iff.1 hy)⟩
end
section
variable {α:Type}
def swp (l:List α) (i j:Nat):List α:=
 match l[i]?,l[j]? with
 |some x,some y=> (l.set i y).set j x
 |_,_=> l
theorem qKs (l:List α) (i j:Nat):(swp l i j).length=l.length:=by
 unfold swp;split<;> simp
theorem zS3 {p m q:List α} {x y:α} {i j:Nat} (hi:i=p.length) (hj:j=p.length+1+m.length):
  swp (p++x::m++y::q) i j=p++y::m++x::q:=by
 subst hi hj
 have h1:(p++x::m++y::q)[p.length]?=some x:=by simp[List.getElem?_append]
 have h2:(p++x::m++y::q)[p.length+1+m.length]?=some y:=by
  rw[show p.length+1+m.length=(p++x::m).length by simp;omega]
  rw[List.getElem?_append_right (by simp)];simp
 unfold swp
 rw[h1,h2]
 show ((p++x::m++y::q).set p.length y).set (p.length+1+m.length) x=_
 rw[show p++x::m++y::q=p++x::(m++y::q) by simp]
 rw[List.set_append_right _ _ (by simp)]
 simp only[Nat.sub_self,List.set_cons_zero]
 rw[List.set_append_right _ _ (by omega)]
 rw[show p.length+1+m.length - p.length=m.length+1 by omega,List.set_cons_succ,List.set_append_right _ _ (by simp)]
 simp
def swr (l:List α) (a b:Nat):Nat->List α
 |0=> l
 |n+1=> swp (swr l a b n) (a+n) (b+n)
theorem zPk (l:List α) (a b n:Nat):(swr l a b n).length=l.length:=by
 induction n with
 |zero=> rfl
 |succ n ih=> simp[swr,qKs,ih]
theorem zOj:∀{n:Nat} {p u m v q:List α},u.length=n->v.length=n->
  swr (p++u++m++v++q) p.length (p.length+n+m.length) n=p++v++m++u++q
 |0,p,u,m,v,q,hu,hv=> by
  have hu:=List.length_eq_zero_iff.1 hu
  have hv:=List.length_eq_zero_iff.1 hv
  subst hu hv;rfl
 |n+1,p,u,m,v,q,hu,hv=> by
  have hu1:u≠[]:=by intro h;subst h;simp at hu
  have hv1:v≠[]:=by intro h;subst h;simp at hv
  obtain⟨u1,x,rfl⟩:∃u1 x,u=u1++[x]:=⟨u.dropLast,u.getLast hu1,(List.dropLast_concat_getLast hu1).symm⟩
  obtain⟨v1,y,rfl⟩:∃v1 y,v=v1++[y]:=⟨v.dropLast,v.getLast hv1,(List.dropLast_concat_getLast hv1).symm⟩
  simp at hu hv
  have ih:=zOj (p:=p) (u:=u1) (m:=x::m) (v:=v1) (q:=y::q) hu hv
  rw[show p.length+(n+1)+m.length=p.length+n+(x::m).length by simp;omega]
  show swp (swr _ _ _ n) _ _=_
  rw[show p++(u1++[x])++m++(v1++[y])++q=p++u1++x::m++v1++y::q by simp,ih]
  rw[show p++v1++x::m++u1++y::q=(p++v1)++x::(m++u1)++y::q by simp]
  rw[zS3 (by simp;omega) (by simp;omega)]
  simp
def zAq (l:List α) (a m b:Nat):List α:=l.take a++(l.drop m).take (b - m)++(l.drop a).take (m - a)++l.drop b
theorem zCw {p u v q:List α} {a m b:Nat} (ha:a=p.length) (hm:m=a+u.length) (hb:b=m+v.length):zAq (p++u++v++q) a m b=p++v++u++q:=by
 subst ha hm hb
 unfold zAq
 have h1:(p++u++v++q).take p.length=p:=by simp[List.take_append]
 have h2:(p++u++v++q).drop (p.length+u.length)=v++q:=by
  rw[show p++u++v++q=(p++u)++(v++q) by simp,List.drop_append_of_le_length (by simp)];simp
 have h3:(p++u++v++q).drop p.length=u++v++q:=by
  rw[show p++u++v++q=p++(u++v++q) by simp,List.drop_append_of_le_length (by simp)];simp
 have h4:(p++u++v++q).drop (p.length+u.length+v.length)=q:=by
  rw[show p++u++v++q=(p++u++v)++q by simp,List.drop_append_of_le_length (by simp;omega),List.drop_eq_nil_of_le (by simp;omega)];simp
 rw[h1,h2,h3,h4]
 simp[List.take_append]
theorem zFr (l:List α) (a m b:Nat) (h1:a<=m) (h2:m<=b) (h3:b<=l.length):
  ∃p u v q,l=p++u++v++q/\p.length=a/\u.length=m - a/\v.length=b - m:=by
 refine⟨l.take a,(l.drop a).take (m - a),(l.drop m).take (b - m),l.drop b,?_,by simp;omega,by simp;omega,by simp;omega⟩
 have e1:l.drop a=(l.drop a).take (m - a)++l.drop m:=by
  have:=(List.take_append_drop (m - a) (l.drop a)).symm
  rw[List.drop_drop,show a+(m - a)=m by omega] at this;exact this
 have e2:l.drop m=(l.drop m).take (b - m)++l.drop b:=by
  have:=(List.take_append_drop (b - m) (l.drop m)).symm
  rw[List.drop_drop,show m+(b - m)=b by omega] at this;exact this
 rw[List.append_assoc,List.append_assoc,←e2,←e1,List.take_append_drop]
theorem zNl (l:List α) {a m b:Nat} (h1:a<=m) (h2:m<=b) (h3:b<=l.length):(zAq l a m b).length=l.length:=by
 obtain⟨p,u,v,q,rfl,hp,hu,hv⟩:=zFr l a m b h1 h2 h3
 rw[zCw hp.symm (by omega) (by omega)];simp;omega
theorem qPp {l:List α} {m i j:Nat} (hij:j<i) (hi:i<=m) (hb:m+j<=l.length):
  zAq (swr l (m - i) m j) (m - i+j) m (m+j)=zAq l (m - i) m (m+j):=by
 obtain⟨p,u,v,q,rfl,hp,hu,hv⟩:=zFr l (m - i) m (m+j) (by omega) (by omega) hb
 obtain⟨u1,u2,rfl,h1⟩:∃u1 u2,u=u1++u2/\u1.length=j:=⟨u.take j,u.drop j,(List.take_append_drop _ _).symm,by simp;omega⟩
 simp at hu
 rw[zCw (u:=u1++u2) hp.symm (by simp;omega) (by omega)]
 have:=zOj (n:=j) (p:=p) (u:=u1) (m:=u2) (v:=v) (q:=q) h1 (by omega)
 rw[show p.length+j+u2.length=m by omega,hp] at this
 rw[show p++(u1++u2)++v++q=p++u1++u2++v++q by simp,this]
 rw[show p++v++u2++u1++q=(p++v)++u2++u1++q by simp,zCw (p:=p++v) (by simp;omega) (by omega) (by omega)]
 simp
theorem qPo {l:List α} {m i j:Nat} (hij:i<j) (hi:i<=m) (hb:m+j<=l.length):
  zAq (swr l (m - i) (m+j - i) i) (m - i) m (m+j - i)=zAq l (m - i) m (m+j):=by
 obtain⟨p,u,v,q,rfl,hp,hu,hv⟩:=zFr l (m - i) m (m+j) (by omega) (by omega) hb
 obtain⟨v1,v2,rfl,h1⟩:∃v1 v2,v=v1++v2/\v1.length=j - i:=⟨v.take (j - i),v.drop (j - i),(List.take_append_drop _ _).symm,by simp;omega⟩
 simp at hv
 rw[zCw (v:=v1++v2) hp.symm (by omega) (by simp;omega)]
 have:=zOj (n:=i) (p:=p) (u:=u) (m:=v1) (v:=v2) (q:=q) (by omega) (by omega)
 rw[show p.length+i+v1.length=m+j - i by omega,hp] at this
 rw[show p++u++(v1++v2)++q=p++u++v1++v2++q by simp,this]
 rw[show p++v2++v1++u++q=p++v2++v1++(u++q) by simp,zCw (p:=p) (u:=v2) (v:=v1) (q:=u++q) (by omega) (by omega) (by omega)]
 simp
theorem qPq {l:List α} {m i:Nat} (hi:i<=m) (hb:m+i<=l.length):swr l (m - i) m i=zAq l (m - i) m (m+i):=by
 obtain⟨p,u,v,q,rfl,hp,hu,hv⟩:=zFr l (m - i) m (m+i) (by omega) (by omega) hb
 rw[zCw hp.symm (by omega) (by omega)]
 have:=zOj (n:=i) (p:=p) (u:=u) (m:=[]) (v:=v) (q:=q) (by omega) (by omega)
 simp only[List.length_nil,Nat.add_zero,List.append_nil] at this
 rw[show p.length+i=m by omega,hp] at this
 exact this
end
end Go.Proofs.YtnemoimbeefngaaGreat
namespace Go.Proofs.YtnemoimbeefngaaGreat
section
variable {α:Type} (key num:α->Int)
def on (l:List α) (a b:Nat) (f:List α->List α):List α:=l.take a++f ((l.drop a).take (b - a))++l.drop b
theorem zE1 {p u q:List α} {a b:Nat} (f:List α->List α) (ha:a=p.length) (hb:b=a+u.length):on (p++u++q) a b f=p++f u++q:=by
 subst ha hb
 unfold on
 rw[show p++u++q=p++(u++q) by simp,List.take_left' rfl,List.drop_left' rfl,Nat.add_sub_cancel_left,List.take_left' rfl,
  show p++(u++q)=(p++u)++q by simp,List.drop_left' (by simp)]
theorem zTi (l:List α) (a b:Nat) (h1:a<=b) (h2:b<=l.length):∃p u q,l=p++u++q/\p.length=a/\u.length=b - a:=by
 obtain⟨p,u,v,q,rfl,hp,hu,hv⟩:=zFr l a b b h1 (by omega) h2
 have:v=[]:=List.length_eq_zero_iff.1 (by omega)
 subst this
 exact⟨p,u,q,by simp,hp,hu⟩
theorem zY5 (l:List α) (a b:Nat) (h1:a<=b) (h2:b<=l.length):(on l a b (srt key num)).length=l.length:=by
 obtain⟨p,u,q,rfl,hp,hu⟩:=zTi l a b h1 h2
 rw[zE1 _ hp.symm (by omega)];simp[zB7]
structure SymPre (l:List α) (a m b:Nat):Prop where
 am:a<m
 mb:m<b
 bl:b<=l.length
 u:((l.drop a).take (m - a)).Pairwise (Lex key num)
 v:((l.drop m).take (b - m)).Pairwise (Lex key num)
 uv:∀x∈(l.drop a).take (m - a),∀y∈(l.drop m).take (b - m),num x<num y
theorem zDs {p u:List α} {a:Nat} (h:a=p.length):(p++u).drop a=u:=by subst h;exact List.drop_left' rfl
theorem zD2 {p u:List α} {a:Nat} (h:a=p.length):(p++u).take a=p:=by subst h;exact List.take_left' rfl
theorem SymPre.of {p u v q:List α} {a m b:Nat} (ha:a=p.length) (hm:m=a+u.length) (hb:b=m+v.length) (hu0:0<u.length) (hv0:0<v.length)
  (hu:u.Pairwise (Lex key num)) (hv:v.Pairwise (Lex key num)) (huv:∀x∈u,∀y∈v,num x<num y):SymPre key num (p++u++v++q) a m b:=by
 have e1:((p++u++v++q).drop a).take (m - a)=u:=by
  rw[show p++u++v++q=p++(u++(v++q)) by simp,zDs ha,zD2 (by omega)]
 have e2:((p++u++v++q).drop m).take (b - m)=v:=by
  rw[show p++u++v++q=(p++u)++(v++q) by simp,zDs (by simp;omega),zD2 (by omega)]
 refine⟨by omega,by omega,by simp;omega,?_,?_,?_⟩
 ·rw[e1];exact hu
 ·rw[e2];exact hv
 ·rw[e1,e2];exact huv
theorem SymPre.parts {l:List α} {a m b:Nat} (h:SymPre key num l a m b):∃p u v q,l=p++u++v++q/\a=p.length/\m=a+u.length/\b=m+v.length/\
  u.Pairwise (Lex key num)/\v.Pairwise (Lex key num)/\∀x∈u,∀y∈v,num x<num y:=by
 obtain⟨h1,h2,h3,h4,h5,h6⟩:=h
 obtain⟨p,u,v,q,rfl,hp,hu,hv⟩:=zFr l a m b (by omega) (by omega) h3
 have e1:((p++u++v++q).drop a).take (m - a)=u:=by
  rw[show p++u++v++q=p++(u++(v++q)) by simp,zDs hp.symm,zD2 hu.symm]
 have e2:((p++u++v++q).drop m).take (b - m)=v:=by
  rw[show p++u++v++q=(p++u)++(v++q) by simp,zDs (by simp;omega),zD2 hv.symm]
 rw[e1] at h4 h6;rw[e2] at h5 h6
 exact⟨p,u,v,q,rfl,hp.symm,by omega,by omega,h4,h5,h6⟩
theorem zMq {u:List α} {x z:α} (h:(u++[x]).Pairwise (Lex key num)) (hz:z∈u++[x]):key z<=key x:=by
 rcases List.mem_append.1 hz with h'|h'
 ·have:=(List.pairwise_append.1 h).2.2 z h' x (by simp);simp only[Lex] at this;omega
 ·simp at h';subst h';omega
theorem zKn {u:List α} {x z:α} (h:(x::u).Pairwise (Lex key num)) (hz:z∈x::u):key x<=key z:=by
 rcases List.mem_cons.1 hz with h'|h'
 ·subst h';omega
 ·have:=(List.pairwise_cons.1 h).1 z h';simp only[Lex] at this;omega
theorem zKj {p x1 r:List α} {x:α} {s:Nat} (hs:s=p.length+(x1++[x]).length):(p++(x1++[x])++r)[s - 1]?=some x:=by
 subst hs
 rw[show p++(x1++[x])++r=(p++x1)++(x::r) by simp,List.getElem?_append_right (by simp)]
 simp
theorem zEd {p r:List α} {x:α} {s:Nat} (hs:s=p.length):(p++x::r)[s]?=some x:=by
 subst hs;simp
theorem snoc (u:List α) (h:u≠[]):∃u1 x,u=u1++[x]:=⟨u.dropLast,u.getLast h,(List.dropLast_concat_getLast h).symm⟩
theorem qAx {p x1 x2 y1 y2 q:List α} (hu:(x1++x2).Pairwise (Lex key num)) (hv:(y1++y2).Pairwise (Lex key num)) (huv:∀x∈x1++x2,∀y∈y1++y2,num x<num y)
  (h1:∀x z,x1≠[]->y2≠[]->(p++(x1++x2)++(y1++y2)++q)[p.length+x1.length - 1]?=some x->(p++(x1++x2)++(y1++y2)++q)[p.length+x1.length+x2.length+y1.length]?=some z->key x<=key z)
  (h2:∀x z,x2≠[]->y1≠[]->(p++(x1++x2)++(y1++y2)++q)[p.length+x1.length]?=some x->(p++(x1++x2)++(y1++y2)++q)[p.length+x1.length+x2.length+y1.length - 1]?=some z->key z<key x):
  srt key num ((x1++x2)++(y1++y2))=srt key num (x1++y1)++srt key num (x2++y2):=by
 have hx1:=(List.pairwise_append.1 hu).1
 have hx2:=(List.pairwise_append.1 hu).2.1
 have hx12:=(List.pairwise_append.1 hu).2.2
 have hy1:=(List.pairwise_append.1 hv).1
 have hy2:=(List.pairwise_append.1 hv).2.1
 have hy12:=(List.pairwise_append.1 hv).2.2
 have k1:∀x∈x1,∀y∈y2,key x<=key y:=by
  intro x hx y hy
  obtain⟨x1',x',rfl⟩:=snoc x1 (List.ne_nil_of_mem hx)
  obtain⟨y',y2',rfl⟩:=List.exists_cons_of_ne_nil (List.ne_nil_of_mem hy)
  have g1:=zMq key num hx1 hx
  have g2:=zKn key num hy2 hy
  have:=h1 x' y' (by simp) (by simp) (by rw[show p++(x1'++[x']++x2)++(y1++y'::y2')++q=p++(x1'++[x'])++(x2++(y1++y'::y2')++q) by simp];exact zKj rfl)
   (by rw[show p++(x1'++[x']++x2)++(y1++y'::y2')++q=(p++(x1'++[x']++x2)++y1)++y'::(y2'++q) by simp];exact zEd (by simp;omega))
  omega
 have k2:∀x∈x2,∀y∈y1,key y<key x:=by
  intro x hx y hy
  obtain⟨y1',y',rfl⟩:=snoc y1 (List.ne_nil_of_mem hy)
  obtain⟨x',x2',rfl⟩:=List.exists_cons_of_ne_nil (List.ne_nil_of_mem hx)
  have g1:=zMq key num hy1 hy
  have g2:=zKn key num hx2 hx
  have:=h2 x' y' (by simp) (by simp) (by rw[show p++(x1++x'::x2')++(y1'++[y']++y2)++q=(p++x1)++x'::(x2'++(y1'++[y']++y2)++q) by simp];exact zEd (by simp))
   (by rw[show p++(x1++x'::x2')++(y1'++[y']++y2)++q=(p++(x1++x'::x2'))++(y1'++[y'])++(y2++q) by simp];exact zKj (by simp;omega))
  omega
 have nn:∀x∈x1++x2,∀y∈y1++y2,num x<num y:=huv
 have nd:∀{a b:List α},a.Pairwise (Lex key num)->b.Pairwise (Lex key num)->(∀x∈a,∀y∈b,num x<num y)->(srt key num (a++b)).Pairwise (Lex key num):=by
  intro a b ha hb hab
  have h1:=zTh key num (a++b)
  have hn:(a++b).Pairwise fun x y=> ¬(key x=key y/\num x=num y):=by
   refine List.pairwise_append.2 ⟨ha.imp (by intro x y h;simp only[Lex] at h;omega),hb.imp (by intro x y h;simp only[Lex] at h;omega),?_⟩
   intro x hx y hy;have:=hab x hx y hy;omega
  have hn:=hn.perm (zBy key num (a++b)).symm (by intro x y h;omega)
  refine (h1.and hn).imp ?_
  intro x y ⟨h,h'⟩
  simp only[zGx,decide_eq_true_eq] at h
  simp only[Lex];omega
 refine zYh key num ?_ (nd hx1 hy1 fun x hx y hy=> nn x (by simp[hx]) y (by simp[hy])) (nd hx2 hy2 fun x hx y hy=> nn x (by simp[hx]) y (by simp[hy])) ?_
 ·rw[show x1++x2++(y1++y2)=x1++(x2++y1)++y2 by simp,show x1++y1++(x2++y2)=x1++(y1++x2)++y2 by simp]
  exact (List.perm_append_comm.append_left x1).append_right y2
 ·intro x hx y hy
  simp only[Lex]
  rcases List.mem_append.1 hx with hx|hx<;> rcases List.mem_append.1 hy with hy|hy
  ·exact hx12 x hx y hy
  ·have:=k1 x hx y hy;have:=nn x (by simp[hx]) y (by simp[hy]);omega
  ·have:=k2 y hy x hx;omega
  ·exact hy12 x hx y hy
theorem qKr {l:List α} {a m b s e mid:Nat} (h:SymPre key num l a m b) (hmid:mid=(a+b) / 2) (hse:s+e=mid+m) (has:a<=s) (hsm:s<=m) (hme:m<=e) (heb:e<=b)
  (h1:∀x z,a<s->e<b->l[s - 1]?=some x->l[e]?=some z->key x<=key z)
  (h2:∀x z,s<m->m<e->l[s]?=some x->l[e - 1]?=some z->key z<key x):
  let l1:=if s<m/\m<e then zAq l s m e else l
  let l2:=if a<s/\s<mid then on l1 a mid (srt key num) else l1
  let l3:=if mid<e/\e<b then on l2 mid b (srt key num) else l2
  l1.length=l.length/\l2.length=l.length/\(a<s/\s<mid->SymPre key num l1 a s mid)/\(mid<e/\e<b->SymPre key num l2 mid e b)/\l3=on l a b (srt key num):=by
 obtain⟨p,u,v,q,rfl,ha,hm,hb,hu,hv,huv⟩:=h.parts
 obtain⟨x1,x2,rfl,n1⟩:∃u1 u2,u=u1++u2/\u1.length=s - a:=⟨u.take (s - a),u.drop (s - a),(List.take_append_drop _ _).symm,by simp;omega⟩
 obtain⟨y1,y2,rfl,n2⟩:∃u1 u2,v=u1++u2/\u1.length=e - m:=⟨v.take (e - m),v.drop (e - m),(List.take_append_drop _ _).symm,by simp;omega⟩
 simp only[List.length_append] at hm hb
 have hparts:=qAx key num (p:=p) (q:=q) hu hv huv
  (by intro x z hx hy e1 e2
      have:=List.length_pos_iff.2 hx;have:=List.length_pos_iff.2 hy
      refine h1 x z (by omega) (by omega) ?_ ?_
      ·rw[←e1];congr 1;omega
      ·rw[←e2];congr 1;omega)
  (by intro x z hx hy e1 e2
      have:=List.length_pos_iff.2 hx;have:=List.length_pos_iff.2 hy
      refine h2 x z (by omega) (by omega) ?_ ?_
      ·rw[←e1];congr 1;omega
      ·rw[←e2];congr 1;omega)
 have el1:(if s<m/\m<e then zAq (p++(x1++x2)++(y1++y2)++q) s m e else p++(x1++x2)++(y1++y2)++q)=p++x1++y1++x2++y2++q:=by
  split
  ·rw[show p++(x1++x2)++(y1++y2)++q=(p++x1)++x2++y1++(y2++q) by simp,zCw (by simp;omega) (by omega) (by omega)]
   simp
  ·rename_i hc
   have:x2=[]∨y1=[]:=by
    rw[←List.length_eq_zero_iff,←List.length_eq_zero_iff];omega
   rcases this with rfl|rfl<;> simp
 have hx1:=(List.pairwise_append.1 hu).1
 have hx2:=(List.pairwise_append.1 hu).2.1
 have hy1:=(List.pairwise_append.1 hv).1
 have hy2:=(List.pairwise_append.1 hv).2.1
 have n5:a<s/\s<mid->SymPre key num (p++x1++y1++x2++y2++q) a s mid:=by
  intro hc
  rw[show p++x1++y1++x2++y2++q=p++x1++y1++(x2++y2++q) by simp]
  exact SymPre.of key num ha (by omega) (by omega) (by omega) (by omega) hx1 hy1 fun x hx y hy=> huv x (by simp[hx]) y (by simp[hy])
 have el2:(if a<s/\s<mid then on (p++x1++y1++x2++y2++q) a mid (srt key num) else p++x1++y1++x2++y2++q)=p++srt key num (x1++y1)++x2++y2++q:=by
  split
  ·rw[show p++x1++y1++x2++y2++q=p++(x1++y1)++(x2++y2++q) by simp,zE1 _ ha (by simp;omega)]
   simp
  ·rename_i hc
   have:x1=[]∨y1=[]:=by
    rw[←List.length_eq_zero_iff,←List.length_eq_zero_iff];omega
   rcases this with rfl|rfl
   ·simp[zIq key num hy1]
   ·simp[zIq key num hx1]
 have el3:(if mid<e/\e<b then on (p++srt key num (x1++y1)++x2++y2++q) mid b (srt key num) else p++srt key num (x1++y1)++x2++y2++q)=
   p++srt key num (x1++y1)++srt key num (x2++y2)++q:=by
  split
  ·rw[show p++srt key num (x1++y1)++x2++y2++q=(p++srt key num (x1++y1))++(x2++y2)++q by simp,zE1 _ (by simp[zB7];omega) (by simp;omega)]
  ·rename_i hc
   have:x2=[]∨y2=[]:=by
    rw[←List.length_eq_zero_iff,←List.length_eq_zero_iff];omega
   rcases this with rfl|rfl
   ·simp[zIq key num hy2]
   ·simp[zIq key num hx2]
 intro l1 l2 l3
 have q1:l1=p++x1++y1++x2++y2++q:=el1
 have q2:l2=p++srt key num (x1++y1)++x2++y2++q:=by rw[←el2,←q1]
 have q3:l3=p++srt key num (x1++y1)++srt key num (x2++y2)++q:=by rw[←el3,←q2]
 rw[q1,q2,q3]
 refine⟨by simp;omega,by simp[zB7];omega,n5,?_,?_⟩
 ·intro hc
  rw[show p++srt key num (x1++y1)++x2++y2++q=(p++srt key num (x1++y1))++x2++y2++q by simp]
  exact SymPre.of key num (by simp[zB7];omega) (by omega) (by omega) (by omega) (by omega) hx2 hy2 fun x hx y hy=> huv x (by simp[hx]) y (by simp[hy])
 ·rw[show p++(x1++x2)++(y1++y2)++q=p++((x1++x2)++(y1++y2))++q by simp,zE1 _ ha (by simp;omega),hparts]
  simp
theorem qJ2 {l:List α} {a m s:Nat} (h:SymPre key num l a m (m+1)) (has:a<=s) (hsm:s<=m)
  (h1:∀x z,a<s->l[s - 1]?=some x->l[m]?=some z->key x<=key z) (h2:∀x z,s<m->l[s]?=some x->l[m]?=some z->key z<key x):
  zAq l s m (m+1)=on l a (m+1) (srt key num):=by
 obtain⟨p,u,v,q,rfl,ha,hm,hb,hu,hv,huv⟩:=h.parts
 obtain⟨z,rfl⟩:∃z,v=[z]:=List.length_eq_one_iff.1 (by omega)
 obtain⟨x1,x2,rfl,n1⟩:∃u1 u2,u=u1++u2/\u1.length=s - a:=⟨u.take (s - a),u.drop (s - a),(List.take_append_drop _ _).symm,by simp;omega⟩
 simp only[List.length_append] at hm
 have gz:(p++(x1++x2)++[z]++q)[m]?=some z:=by
  rw[show p++(x1++x2)++[z]++q=(p++(x1++x2))++z::q by simp];exact zEd (by simp;omega)
 rw[show p++(x1++x2)++[z]++q=(p++x1)++x2++[z]++q by simp,zCw (by simp;omega) (by omega) (by simp)]
 rw[show p++x1++x2++[z]++q=p++(x1++x2++[z])++q by simp,zE1 _ ha (by simp;omega)]
 rw[←zGb key num (l':=x1++[z]++x2) (l:=x1++x2++[z])]
 ·simp
 ·rw[List.append_assoc,List.append_assoc];exact List.perm_append_comm.append_left x1
 ·have hx1:=(List.pairwise_append.1 hu).1
  have hx2:=(List.pairwise_append.1 hu).2.1
  have hx12:=(List.pairwise_append.1 hu).2.2
  refine List.pairwise_append.2 ⟨List.pairwise_append.2 ⟨hx1,by simp,?_⟩,hx2,?_⟩
  ·intro x hx y hy
   simp only[List.mem_singleton] at hy;subst hy
   have:=huv x (by simp[hx]) y (by simp)
   obtain⟨x1',x',rfl⟩:=snoc x1 (List.ne_nil_of_mem hx)
   have g1:=zMq key num hx1 hx
   have:=h1 x' y (by simp at n1;omega) (by rw[show p++(x1'++[x']++x2)++[y]++q=p++(x1'++[x'])++(x2++[y]++q) by simp];exact zKj (by omega)) gz
   simp only[Lex];omega
  ·intro x hx y hy
   rcases List.mem_append.1 hx with hx|hx
   ·exact hx12 x hx y hy
   ·simp only[List.mem_singleton] at hx;subst hx
    obtain⟨x',x2',rfl⟩:=List.exists_cons_of_ne_nil (List.ne_nil_of_mem hy)
    have g2:=zKn key num hx2 hy
    have:=h2 x' x (by simp at hm;omega) (by rw[show p++(x1++x'::x2')++[x]++q=(p++x1)++x'::(x2'++[x]++q) by simp];exact zEd (by simp;omega)) gz
    simp only[Lex];omega
theorem one_l {l:List α} {a b i:Nat} (h:SymPre key num l a (a+1) b) (hai:a+1<=i) (hib:i<=b)
  (h1:∀x z,a+1<i->l[i - 1]?=some z->l[a]?=some x->key z<key x) (h2:∀x z,i<b->l[i]?=some z->l[a]?=some x->key x<=key z):
  zAq l a (a+1) i=on l a b (srt key num):=by
 obtain⟨p,u,v,q,rfl,ha,hm,hb,hu,hv,huv⟩:=h.parts
 obtain⟨z,rfl⟩:∃z,u=[z]:=List.length_eq_one_iff.1 (by omega)
 obtain⟨y1,y2,rfl,n1⟩:∃u1 u2,v=u1++u2/\u1.length=i - (a+1):=⟨v.take (i - (a+1)),v.drop (i - (a+1)),(List.take_append_drop _ _).symm,by simp;omega⟩
 simp only[List.length_append] at hb
 have gz:(p++[z]++(y1++y2)++q)[a]?=some z:=by
  rw[show p++[z]++(y1++y2)++q=p++z::((y1++y2)++q) by simp];exact zEd ha
 rw[show p++[z]++(y1++y2)++q=p++[z]++y1++(y2++q) by simp,zCw ha (by simp) (by omega)]
 rw[show p++[z]++y1++(y2++q)=p++([z]++y1++y2)++q by simp,zE1 _ ha (by simp;omega)]
 rw[←zGb key num (l':=y1++[z]++y2) (l:=[z]++y1++y2)]
 ·simp
 ·exact List.perm_append_comm.append_right y2
 ·have hy1:=(List.pairwise_append.1 hv).1
  have hy2:=(List.pairwise_append.1 hv).2.1
  have hy12:=(List.pairwise_append.1 hv).2.2
  refine List.pairwise_append.2 ⟨List.pairwise_append.2 ⟨hy1,by simp,?_⟩,hy2,?_⟩
  ·intro y hy x hx
   simp only[List.mem_singleton] at hx;subst hx
   obtain⟨y1',y',rfl⟩:=snoc y1 (List.ne_nil_of_mem hy)
   have g1:=zMq key num hy1 hy
   have:=h1 x y' (by simp at n1;omega) (by rw[show p++[x]++(y1'++[y']++y2)++q=(p++[x])++(y1'++[y'])++(y2++q) by simp];exact zKj (by simp at n1⊢;omega)) gz
   simp only[Lex];omega
  ·intro x hx y hy
   rcases List.mem_append.1 hx with hx|hx
   ·exact hy12 x hx y hy
   ·simp only[List.mem_singleton] at hx;subst hx
    have:=huv x (by simp) y (by simp[hy])
    obtain⟨y',y2',rfl⟩:=List.exists_cons_of_ne_nil (List.ne_nil_of_mem hy)
    have g2:=zKn key num hy2 hy
    have:=h2 x y' (by simp at hb;omega) (by rw[show p++[x]++(y1++y'::y2')++q=(p++[x]++y1)++y'::(y2'++q) by simp];exact zEd (by simp;omega)) gz
    simp only[Lex];omega
end
end Go.Proofs.YtnemoimbeefngaaGreat
namespace Go.Proofs.YtnemoimbeefngaaGreat
section
variable {α:Type} (key num:α->Int)
def blk (bs:Nat):Nat->List α->List α
 |0,l=> srt key num l
 |n+1,l=> if l.length<=bs then srt key num l else srt key num (l.take bs)++blk bs n (l.drop bs)
def bk (bs:Nat) (l:List α):List α:=blk key num bs l.length l
theorem zN6 {bs:Nat} (hb:0<bs):∀(n:Nat) (l:List α),l.length<=n->blk key num bs n l=bk key num bs l
 |0,l,h=> by
  have:l=[]:=List.length_eq_zero_iff.1 (by omega)
  subst this;rfl
 |n+1,l,h=> by
  unfold bk
  cases hl:l.length with
  |zero=>
   have:l=[]:=List.length_eq_zero_iff.1 hl
   subst this;simp[blk]
  |succ k=>
   simp only[blk]
   split
   ·rfl
   ·rw[zN6 hb n (l.drop bs) (by simp;omega),zN6 hb k (l.drop bs) (by simp;omega)]
theorem zE7 {bs:Nat} {l:List α} (h:l.length<=bs):bk key num bs l=srt key num l:=by
 unfold bk
 cases hl:l.length with
 |zero=> rfl
 |succ k=> simp only[blk];rw[if_pos h]
theorem zJ0 {bs:Nat} (hb:0<bs) {p r:List α} (hp:p.length=bs):bk key num bs (p++r)=srt key num p++bk key num bs r:=by
 unfold bk
 cases hl:(p++r).length with
 |zero=> rw[List.length_append] at hl;omega
 |succ k=>
  simp only[blk]
  split
  ·rename_i hc
   have:r=[]:=List.length_eq_zero_iff.1 (by simp at hc;omega)
   subst this
   simp[blk,srt]
  ·rw[zD2 hp.symm,zDs hp.symm,zN6 key num hb k r (by simp at hl;omega)];rfl
theorem zGa {bs:Nat} (hb:0<bs):∀(k:Nat) {p r:List α},p.length=bs*k->bk key num bs (p++r)=bk key num bs p++bk key num bs r
 |0,p,r,h=> by
  have:p=[]:=List.length_eq_zero_iff.1 (by simpa using h)
  subst this;simp[bk,blk,srt]
 |k+1,p,r,h=> by
  rw[Nat.mul_succ] at h
  obtain⟨p1,p2,rfl,h1⟩:∃p1 p2,p=p1++p2/\p1.length=bs:=⟨p.take bs,p.drop bs,(List.take_append_drop _ _).symm,by simp;omega⟩
  simp at h
  rw[List.append_assoc,zJ0 key num hb h1,zJ0 key num hb h1,zGa hb k (by omega),List.append_assoc]
theorem zI0 {bs:Nat} (hb:0<bs):∀(l:List α),(bk key num bs l).length=l.length:=by
 have:∀(n:Nat) (l:List α),(blk key num bs n l).length=l.length:=by
  intro n
  induction n with
  |zero=> intro l;simp[blk,zB7]
  |succ n ih=>
   intro l;simp only[blk]
   split
   ·simp[zB7]
   ·simp[zB7,ih];omega
 intro l;exact this _ l
def Nm (l:List α):Prop:=l.Pairwise fun a b=> num a<num b
theorem qQz {bs i:Nat} {l:List α} (hb:0<bs) (h:bs*i+bs<=l.length):
  on (bk key num bs (l.take (bs*i))++l.drop (bs*i)) (bs*i) (bs*i+bs) (srt key num)=bk key num bs (l.take (bs*i+bs))++l.drop (bs*i+bs):=by
 obtain⟨p,u,q,rfl,hp,hu⟩:=zTi l (bs*i) (bs*i+bs) (by omega) h
 rw[show p++u++q=p++(u++q) by simp,zD2 hp.symm,zDs hp.symm,show p++(u++q)=(p++u)++q by simp,zD2 (by simp;omega),zDs (by simp;omega)]
 rw[←List.append_assoc,zE1 _ (by simp[zI0 key num hb,hp]) (by omega),zGa key num hb i hp,zE7 key num (l:=u) (by omega)]
theorem qOc {bs i:Nat} {l:List α} (hb:0<bs) (h:bs*i<=l.length) (h2:l.length<bs*i+bs):
  on (bk key num bs (l.take (bs*i))++l.drop (bs*i)) (bs*i) l.length (srt key num)=bk key num bs l:=by
 obtain⟨p,u,q,rfl,hp,hu⟩:=zTi l (bs*i) l.length (by omega) (by omega)
 have:q=[]:=List.length_eq_zero_iff.1 (by simp at hu;omega)
 subst this
 simp only[List.append_nil] at*
 rw[zD2 hp.symm,zDs hp.symm]
 rw[show bk key num bs p++u=bk key num bs p++u++[] by simp,zE1 _ (by simp[zI0 key num hb,hp]) (by simp;omega),zGa key num hb i hp,zE7 key num (l:=u) (by simp at h2;omega)]
 simp
theorem qBd {l l':List α} (hp:l'.Perm l) (h:(srt key num l').Pairwise (Lex key num)):srt key num l'=srt key num l:=
 zGb key num ((zBy key num l').trans hp) h
theorem zPt {u v:List α} (h:Nm num (u++v)):srt key num (srt key num u++srt key num v)=srt key num (u++v):=by
 refine (qBd key num ?_ (zGc key num h)).symm
 exact ((zBy key num u).append (zBy key num v)).symm
theorem Nm.sub {l l':List α} (h:Nm num l) (hs:l'.Sublist l):Nm num l':=List.Pairwise.sublist hs h
theorem zXb {D u v q:List α} {a m b:Nat} (h:Nm num (u++v)) (ha:a=D.length) (hm:m=a+u.length) (hb:b=m+v.length) (hu0:0<u.length) (hv0:0<v.length):
  SymPre key num (D++srt key num u++srt key num v++q) a m b:=by
 obtain⟨h1,h2,h3⟩:=List.pairwise_append.1 h
 exact SymPre.of key num ha (by simp[zB7];omega) (by simp[zB7];omega) (by simp[zB7];omega) (by simp[zB7];omega) (zGc key num h1) (zGc key num h2)
  fun x hx y hy=> h3 x ((zBy key num u).mem_iff.1 hx) y ((zBy key num v).mem_iff.1 hy)
theorem qIy {bs i:Nat} {l:List α} (hb:0<bs) (hn:Nm num l) (h:2*bs*i+2*bs<=l.length):
  SymPre key num (bk key num (2*bs) (l.take (2*bs*i))++bk key num bs (l.drop (2*bs*i))) (2*bs*i) (2*bs*i+bs) (2*bs*i+2*bs)/\
  on (bk key num (2*bs) (l.take (2*bs*i))++bk key num bs (l.drop (2*bs*i))) (2*bs*i) (2*bs*i+2*bs) (srt key num)=
   bk key num (2*bs) (l.take (2*bs*i+2*bs))++bk key num bs (l.drop (2*bs*i+2*bs)):=by
 obtain⟨p,u,v,q,rfl,hp,hu,hv⟩:=zFr l (2*bs*i) (2*bs*i+bs) (2*bs*i+2*bs) (by omega) (by omega) h
 have hnuv:Nm num (u++v):=hn.sub num (by simp)
 rw[show p++u++v++q=p++(u++(v++q)) by simp,zD2 hp.symm,zDs hp.symm,show p++(u++(v++q))=(p++(u++v))++q by simp,zD2 (by simp;omega),zDs (by simp;omega)]
 rw[zJ0 key num hb (by omega),zJ0 key num hb (by omega),←List.append_assoc,←List.append_assoc]
 refine⟨zXb key num hnuv (by simp[zI0 key num (show 0<2*bs by omega),hp]) (by omega) (by omega) (by omega) (by omega),?_⟩
 rw[show bk key num (2*bs) p++srt key num u++srt key num v++bk key num bs q=bk key num (2*bs) p++(srt key num u++srt key num v)++bk key num bs q by simp]
 rw[zE1 _ (by simp[zI0 key num (show 0<2*bs by omega),hp]) (by simp[zB7];omega),zPt key num hnuv]
 rw[zGa key num (show 0<2*bs by omega) i hp,zE7 key num (bs:=2*bs) (l:=u++v) (by simp;omega)]
theorem zRy {bs i:Nat} {l:List α} (hb:0<bs) (hn:Nm num l) (h:2*bs*i+bs<l.length) (h2:l.length<2*bs*i+2*bs):
  SymPre key num (bk key num (2*bs) (l.take (2*bs*i))++bk key num bs (l.drop (2*bs*i))) (2*bs*i) (2*bs*i+bs) l.length/\
  on (bk key num (2*bs) (l.take (2*bs*i))++bk key num bs (l.drop (2*bs*i))) (2*bs*i) l.length (srt key num)=bk key num (2*bs) l:=by
 obtain⟨p,u,v,q,rfl,hp,hu,hv⟩:=zFr l (2*bs*i) (2*bs*i+bs) l.length (by omega) (by omega) (by omega)
 have:q=[]:=List.length_eq_zero_iff.1 (by simp at hv;omega)
 subst this
 simp only[List.append_nil] at*
 have hlen:(p++u++v).length=p.length+u.length+v.length:=by simp;omega
 have hnuv:Nm num (u++v):=hn.sub num (by simp)
 rw[show p++u++v=p++(u++v) by simp,zD2 hp.symm,zDs hp.symm]
 rw[zJ0 key num hb (by omega),zE7 key num (bs:=bs) (l:=v) (by omega),←List.append_assoc]
 rw[show bk key num (2*bs) p++srt key num u++srt key num v=bk key num (2*bs) p++srt key num u++srt key num v++[] by simp]
 refine⟨zXb key num hnuv (by simp[zI0 key num (show 0<2*bs by omega),hp]) (by omega) (by simp;omega) (by omega) (by omega),?_⟩
 rw[show bk key num (2*bs) p++srt key num u++srt key num v++[]=bk key num (2*bs) p++(srt key num u++srt key num v)++[] by simp]
 rw[zE1 _ (by simp[zI0 key num (show 0<2*bs by omega),hp]) (by simp[zB7];omega),zPt key num hnuv]
 rw[zGa key num (show 0<2*bs by omega) i hp,zE7 key num (bs:=2*bs) (l:=u++v) (by simp;omega)]
 simp
theorem zRx {bs i:Nat} {l:List α} (hb:0<bs) (h:l.length<=2*bs*i+bs) (h2:2*bs*i<=l.length):
  bk key num (2*bs) (l.take (2*bs*i))++bk key num bs (l.drop (2*bs*i))=bk key num (2*bs) l:=by
 obtain⟨p,q,rfl,hp⟩:∃p q,l=p++q/\p.length=2*bs*i:=⟨l.take (2*bs*i),l.drop (2*bs*i),(List.take_append_drop _ _).symm,by simp;omega⟩
 simp at h
 rw[zD2 hp.symm,zDs hp.symm,zGa key num (show 0<2*bs by omega) i hp,zE7 key num (bs:=bs) (l:=q) (by omega),zE7 key num (bs:=2*bs) (l:=q) (by omega)]
end
end Go.Proofs.YtnemoimbeefngaaGreat
namespace Go.Proofs
namespace YtnemoimbeefngaaGreat
open Go.Abs
def zU2 (a b:Int):Int:=if a<b then -1 else if b<a then 1 else 0
theorem zHm (a b:Int):zU2 a b<0↔a<b:=by
 unfold zU2;split
 ·omega
 ·split<;> omega
end YtnemoimbeefngaaGreat
end Go.Proofs
namespace Go.Proofs
namespace YtnemoimbeefngaaGreat
open Go.Abs
end YtnemoimbeefngaaGreat
end Go.Proofs
namespace Go.Proofs
namespace YtnemoimbeefngaaGreat
open Go.Abs
section
variable {α:Type} (key num:α->Int)
theorem qE7 {l:List α} {i j:Nat} (h:i≠j):swp l i j=swp l j i:=by
 unfold swp
 cases hi:l[i]?<;> cases hj:l[j]?<;> simp
 exact List.set_comm _ _ h
theorem zYu {l:List α} {a m b k:Nat} (h:k<a) (ha:a<=l.length):(zAq l a m b)[k]?=l[k]?:=by
 unfold zAq
 rw[List.append_assoc,List.append_assoc,List.getElem?_append_left (by simp;omega),List.getElem?_take,if_pos h]
theorem zTr {l:List α} {a b:Nat} (h:a<=b):zAq l a a b=l:=by
 unfold zAq
 rw[Nat.sub_self,List.take_zero,List.append_nil,List.append_assoc]
 have:(l.drop a).take (b - a)++l.drop b=l.drop a:=by
  have:=List.take_append_drop (b - a) (l.drop a)
  rw[List.drop_drop,show a+(b - a)=b by omega] at this;exact this
 rw[this,List.take_append_drop]
theorem qBs {l:List α} {a m:Nat} (h:a<=m):zAq l a m m=l:=by
 unfold zAq
 rw[Nat.sub_self,List.take_zero,List.append_nil,List.append_assoc]
 have:(l.drop a).take (m - a)++l.drop m=l.drop a:=by
  have:=List.take_append_drop (m - a) (l.drop a)
  rw[List.drop_drop,show a+(m - a)=m by omega] at this;exact this
 rw[this,List.take_append_drop]
theorem zOu {l:List α} {j i:Nat} (hj:j<=i) (hi:i<l.length):∃p u x q,l=p++u++[x]++q/\p.length=j/\u.length=i - j/\l[i]?=some x:=by
 obtain⟨p,u,v,q,rfl,h1,h2,h3⟩:=zFr l j i (i+1) hj (by omega) hi
 obtain⟨x,rfl⟩:∃x,v=[x]:=List.length_eq_one_iff.1 (by omega)
 refine⟨p,u,x,q,rfl,h1,h2,?_⟩
 rw[show p++u++[x]++q=(p++u)++x::q by simp]
 exact zEd (by simp;omega)
theorem qGm {l:List α} {j i:Nat} (hj:j<=i) (hi:i<l.length):(zAq l j i (i+1))[j]?=l[i]?:=by
 obtain⟨p,u,x,q,hl,h1,h2,hx⟩:=zOu hj hi
 rw[hx,hl,zCw h1.symm (by omega) (by simp)]
 rw[show p++[x]++u++q=p++x::(u++q) by simp]
 exact zEd h1.symm
theorem zOq {l:List α} {j i:Nat} (hj:j+1<=i) (hi:i<l.length):swp (zAq l (j+1) i (i+1)) (j+1) j=zAq l j i (i+1):=by
 obtain⟨p,u,x,q,hl,h1,h2,hx⟩:=zOu (show j<=i by omega) hi
 obtain⟨y,u,rfl⟩:∃y u',u=y::u':=List.exists_cons_of_length_pos (by omega)
 rw[hl,zCw h1.symm (by omega) (by simp)]
 rw[show p++y::u++[x]++q=(p++[y])++u++[x]++q by simp,zCw (by simp;omega) (by simp at h2;omega) (by simp)]
 rw[qE7 (by omega)]
 rw[show p++[y]++[x]++u++q=p++y::[]++x::(u++q) by simp,zS3 h1.symm (by simp;omega)]
 simp
theorem zYt {l:List α} {a k:Nat} (ha:a<=k) (hk:k+1<l.length):swp (zAq l a (a+1) (k+1)) k (k+1)=zAq l a (a+1) (k+2):=by
 obtain⟨p,u,v,q,rfl,h1,h2,h3⟩:=zFr l a (a+1) (k+1) (by omega) (by omega) (by omega)
 obtain⟨x,rfl⟩:∃x,u=[x]:=List.length_eq_one_iff.1 (by omega)
 obtain⟨y,q,rfl⟩:∃y q',q=y::q':=List.exists_cons_of_length_pos (by simp at hk;omega)
 rw[zCw h1.symm (by simp) (by omega)]
 rw[show p++[x]++v++y::q=p++[x]++(v++[y])++q by simp,zCw h1.symm (by simp) (by simp;omega)]
 rw[show p++v++[x]++y::q=(p++v)++x::[]++y::q by simp,zS3 (by simp;omega) (by simp;omega)]
 simp
theorem zW5 (x:α):srt key num [x]=[x]:=zIq key num (by simp)
theorem qOu {p u q:List α} {a b:Nat} (ha:a=p.length) (hb:b=a+u.length):((p++u++q).drop a).take (b - a)=u:=by
 rw[show p++u++q=p++(u++q) by simp,zDs ha,zD2 (by omega)]
theorem qHo {l:List α} {a b i:Nat} (hn:Nm num ((l.drop a).take (b - a))) (hai:a<i) (hib:i<b) (hb:b<=l.length):
  SymPre key num (on l a i (srt key num)) a i (i+1)/\on (on l a i (srt key num)) a (i+1) (srt key num)=on l a (i+1) (srt key num):=by
 obtain⟨p,u,x,q,rfl,h1,h2,hx⟩:=zOu (show a<=i by omega) (show i<l.length by omega)
 have hnu:Nm num (u++[x]):=by
  have e:((p++u++[x]++q).drop a).take (i+1 - a)=u++[x]:=by
   rw[show p++u++[x]++q=p++(u++[x])++q by simp];exact qOu h1.symm (by simp;omega)
  rw[←e]
  refine hn.sub num ?_
  rw[←Nat.min_eq_left (show i+1 - a<=b - a by omega),←List.take_take]
  exact List.take_sublist _ _
 have hw:=List.pairwise_append.1 hnu
 have e1:on (p++u++[x]++q) a i (srt key num)=p++srt key num u++[x]++q:=by
  rw[show p++u++[x]++q=p++u++([x]++q) by simp,zE1 _ h1.symm (by omega)];simp
 rw[e1]
 refine⟨SymPre.of key num h1.symm (by rw[zB7];omega) (by simp) (by rw[zB7];omega) (by simp) (zGc key num hw.1) (by simp) ?_,?_⟩
 ·intro y hy z hz
  exact hw.2.2 y ((zBy key num u).mem_iff.1 hy) z hz
 ·rw[show p++srt key num u++[x]++q=p++(srt key num u++[x])++q by simp,zE1 _ h1.symm (by simp[zB7];omega)]
  rw[show p++u++[x]++q=p++(u++[x])++q by simp,zE1 _ h1.symm (by simp;omega)]
  have:=zPt key num hnu
  rw[zW5] at this
  rw[this]
theorem qPy {l:List α} {a:Nat} (ha:a<l.length):on l a (a+1) (srt key num)=l:=by
 obtain⟨p,u,x,q,rfl,h1,h2,hx⟩:=zOu (Nat.le_refl a) ha
 have:u=[]:=List.length_eq_zero_iff.1 (by omega)
 subst this
 rw[show p++[]++[x]++q=p++[x]++q by simp,zE1 _ h1.symm (by simp),zW5]
theorem qPz {l:List α} {a:Nat} (ha:a<=l.length):on l a a (srt key num)=l:=by
 unfold on
 rw[Nat.sub_self,List.take_zero]
 simp[srt]
end
def fk (f:Fate):Int:=f.key
def fn (f:Fate):Int:=f.n
end YtnemoimbeefngaaGreat
end Go.Proofs
namespace Go.Proofs
namespace YtnemoimbeefngaaGreat
open Go.Abs
theorem zMs {s h:Nat} (hs:s<=1000000) (e:s / 2=h):IntKind.u64.wrap (s:Int)=s/\(s:Int).fdiv (2 ^ min (Int.toNat 1) IntKind.u64.bits)=h/\(s:Int).fdiv (2 ^ min 1 IntKind.u64.bits)=h/\IntKind.i64.wrap (h:Int)=h:=by
 have h2:(s:Int).fdiv 2=h:=by rw[Int.fdiv_eq_ediv_of_nonneg _ (by omega)];omega
 refine⟨?_,h2,h2,qO (by omega) (by omega)⟩
 unfold IntKind.wrap
 simp[IntKind.bits]
 omega
end YtnemoimbeefngaaGreat
end Go.Proofs
namespace Go.Proofs
namespace YtnemoimbeefngaaGreat
open Go.Abs
end YtnemoimbeefngaaGreat
end Go.Proofs
namespace Go.Proofs
namespace YtnemoimbeefngaaGreat
open Go.Abs
theorem qE6 {a m b s e mid:Nat} (g1:a<m) (g2:m<b) (hmid:mid=(a+b) / 2) (hse:s+e=mid+m) (has:a<=s) (hsm:s<=m) (hme:m<=e) (heb:e<=b):
  (¬(s:Int)<m/\(m:Int)<e/\(a:Int)<s/\(s:Int)<mid/\¬(mid:Int)<e/\(e:Int)<b)∨
  (¬(s:Int)<m/\¬(m:Int)<e/\(a:Int)<s/\¬(s:Int)<mid/\¬(mid:Int)<e/\(e:Int)<b)∨
  ((s:Int)<m/\¬(m:Int)<e/\(a:Int)<s/\¬(s:Int)<mid/\(mid:Int)<e/\(e:Int)<b)∨
  ((s:Int)<m/\(m:Int)<e/\¬(a:Int)<s/\(s:Int)<mid/\(mid:Int)<e/\¬(e:Int)<b)∨
  ((s:Int)<m/\(m:Int)<e/\¬(a:Int)<s/\(s:Int)<mid/\(mid:Int)<e/\(e:Int)<b)∨
  ((s:Int)<m/\(m:Int)<e/\(a:Int)<s/\(s:Int)<mid/\(mid:Int)<e/\¬(e:Int)<b)∨
  ((s:Int)<m/\(m:Int)<e/\(a:Int)<s/\(s:Int)<mid/\(mid:Int)<e/\(e:Int)<b):=by
 by_cases c1:s=m
 ·by_cases c2:m<mid
  ·exact .inl ⟨by omega,by omega,by omega,by omega,by omega,by omega⟩
  ·exact .inr (.inl ⟨by omega,by omega,by omega,by omega,by omega,by omega⟩)
 ·by_cases c2:e=m
  ·exact .inr (.inr (.inl ⟨by omega,by omega,by omega,by omega,by omega,by omega⟩))
  ·by_cases c3:a<s
   ·by_cases c4:e<b
    ·exact .inr (.inr (.inr (.inr (.inr (.inr (⟨by omega,by omega,by omega,by omega,by omega,by omega⟩))))))
    ·exact .inr (.inr (.inr (.inr (.inr (.inl ⟨by omega,by omega,by omega,by omega,by omega,by omega⟩)))))
   ·by_cases c4:e<b
    ·exact .inr (.inr (.inr (.inr (.inl ⟨by omega,by omega,by omega,by omega,by omega,by omega⟩))))
    ·exact .inr (.inr (.inr (.inl ⟨by omega,by omega,by omega,by omega,by omega,by omega⟩)))
end YtnemoimbeefngaaGreat
end Go.Proofs
namespace Go.Proofs
namespace YtnemoimbeefngaaGreat
open Go.Abs
def bF (bs:Nat) (l:List Fate):List Fate:=bk fk fn bs l
end YtnemoimbeefngaaGreat
end Go.Proofs
namespace Go.Proofs
namespace YtnemoimbeefngaaGreat
open Go.Abs
end YtnemoimbeefngaaGreat
end Go.Proofs
namespace Go.Proofs
namespace YtnemoimbeefngaaGreat
open Go.Abs
def decO (s:TS) (i:Nat):List Int:=match s.ts i with
 |some a=> if a.dec=true then [(a.n:Int)] else []
 |none=> []
def decN (s:TS):Nat->List Int
 |0=> []
 |i+1=> decN s i++decO s i
end YtnemoimbeefngaaGreat
end Go.Proofs
namespace Go.Proofs
namespace YtnemoimbeefngaaGreat
open Go.Abs
end YtnemoimbeefngaaGreat
end Go.Proofs
namespace Go.Proofs
namespace YtnemoimbeefngaaGreat
open Go.Abs
variable {f:List Int} {s:TS}
end YtnemoimbeefngaaGreat
end Go.Proofs
namespace Go.Proofs
namespace YtnemoimbeefngaaGreat
open Go.Abs
def zJ8:qQ GD:=fun args H=> match args with
 |[.slice (some ⟨k,0,none⟩) n _,.slice (some ⟨k2,0,none⟩) n2 _,.slice (some ⟨k3,0,none⟩) n3 _,.slice (some ⟨k4,0,none⟩) n4 _]=> match H.get k with
  |some (.arr _ cs)=> (zAj cs).bind fun l=> (zB8 H k2).bind fun f=> (zAl H k3).bind fun ord=> (zAl H k4).bind fun cm=> (zDy l cm.2 ord.2 f.2).map fun hp=>
   (n=l.length/\n2=f.2.length/\n3=ord.2.length/\n4=cm.2.length/\(k≠k2/\k≠k3/\k≠k4)/\k2≠k3/\k2≠k4/\k3≠k4/\Lgl l f.2 ord.2 cm.2,.ret (.tuple #[.int .i64 0,.int .i64 0]),H)
  |_=> none
 |_=> none
theorem zVt:qE Tryz.prog cfg 10 zJ8:=by
 intro args H p r H' h hp
 unfold zJ8 at h
 split at h
 case h_2=> cases h
 split at h
 case h_2=> cases h
 simp only[Option.map_eq_some_iff,Option.bind_eq_some_iff] at h
 obtain⟨l,hl,f,hf,ord,ho,cm,hc,hp',hr,h⟩:=h
 rename_i k n c k2 n2 c2 k3 n3 c3 k4 n4 c4 x1 e cs hk
 cases h
 rw[zA0 hl] at hk
 obtain⟨rfl,rfl,rfl,rfl,⟨h12,h13,h14⟩,h23,h24,h34,ha⟩:=hp
 have hf2:=zCg hf
 have ho2:=zA6 ho
 have hc2:=zA6 hc
 refine zP.borrow k hk ?_
 have hk2:(H.upd k (.ro (evs l))).get k=some (.ro (evs l)):=by rw[AH.get_upd,if_pos rfl]
 have hf3:(H.upd k (.ro (evs l))).get k2=some (.arr f.1 (us f.2)):=by rw[AH.get_upd,if_neg (Ne.symm h12),hf2]
 have ho3:(H.upd k (.ro (evs l))).get k3=some (.arr ord.1 (jA ord.2)):=by rw[AH.get_upd,if_neg (Ne.symm h13),ho2]
 have hc3:(H.upd k (.ro (evs l))).get k4=some (.arr cm.1 (jA cm.2)):=by rw[AH.get_upd,if_neg (Ne.symm h14),hc2]
 have hr:=(qBn l f.2 ord.2 cm.2 hp' f.1 ord.1 cm.1 c c2 c3 c4 ha hr).atK (H:=H.upd k (.ro (evs l))) (args:=[.slice (some ⟨k,0,none⟩) l.length c,.slice (some ⟨k2,0,none⟩) f.2.length c2,.slice (some ⟨k3,0,none⟩) ord.2.length c3,.slice (some ⟨k4,0,none⟩) cm.2.length c4]) (r':=.ret (.tuple #[.int .i64 0,.int .i64 0])) (H':=H.upd k (.ro (evs l)))
  (zBn fun i cs hi=> by rcases i with _|_|_|_|i<;> simp at hi⊢;exact hi) [k,k2,k3,k4] (by simp[h12,h13,h14,h23,h24,h34]) (by simp) (by simp[hk2,hf3,ho3,hc3]) (by simp) (by simp) (by simp[jF hk2,jF hf3,jF ho3,jF hc3])
 refine hr.mono ?_
 rintro r H' ⟨e1,rfl⟩
 refine⟨hk2,fun j cs2 hj hcs hne=> ⟨cs2,?_,hne⟩,e1,?_⟩
 ·rw[AH.get_upd,if_neg hj] at hcs;exact hcs
 ·rw[zWr];exact jF hk
def zJu:qQ GD:=fun args H=> match args with
 |[.slice (some ⟨k,0,none⟩) n _,.slice (some ⟨k2,0,none⟩) n2 _,.slice (some ⟨k3,0,none⟩) n3 _,.slice (some ⟨k4,0,none⟩) n4 _]=> match H.get k with
  |some (.arr _ cs)=> (zAj cs).bind fun l=> (zB8 H k2).bind fun f=> (zAl H k3).bind fun ord=> (zAl H k4).bind fun cm=> (zDy l cm.2 ord.2 f.2).map fun hp=>
   (n=l.length/\n2=f.2.length/\n3=ord.2.length/\n4=cm.2.length/\(k≠k2/\k≠k3/\k≠k4/\k<H.next)/\k2≠k3/\k2≠k4/\k3≠k4/\Lgl l f.2 ord.2 cm.2,.ret (.tuple #[.slice (some ⟨H.next,0,none⟩) n2 1,.int .i64 0]),H.add (.arr 49 (us hp)))
  |_=> none
 |_=> none
theorem zYg:qE Tryz.prog cfg 15 zJu:=by
 intro args H p r H' h hp
 unfold zJu at h
 split at h
 case h_2=> cases h
 split at h
 case h_2=> cases h
 simp only[Option.map_eq_some_iff,Option.bind_eq_some_iff] at h
 obtain⟨l,hl,f,hf,ord,ho,cm,hc,hp',hr,h⟩:=h
 rename_i k n c k2 n2 c2 k3 n3 c3 k4 n4 c4 x1 e cs hk
 cases h
 rw[zA0 hl] at hk
 obtain⟨rfl,rfl,rfl,rfl,⟨h12,h13,h14,hkn⟩,h23,h24,h34,ha⟩:=hp
 have hf2:=zCg hf
 have ho2:=zA6 ho
 have hc2:=zA6 hc
 refine zP.borrow k hk ?_
 have hk2:(H.upd k (.ro (evs l))).get k=some (.ro (evs l)):=by rw[AH.get_upd,if_pos rfl]
 have hf3:(H.upd k (.ro (evs l))).get k2=some (.arr f.1 (us f.2)):=by rw[AH.get_upd,if_neg (Ne.symm h12),hf2]
 have ho3:(H.upd k (.ro (evs l))).get k3=some (.arr ord.1 (jA ord.2)):=by rw[AH.get_upd,if_neg (Ne.symm h13),ho2]
 have hc3:(H.upd k (.ro (evs l))).get k4=some (.arr cm.1 (jA cm.2)):=by rw[AH.get_upd,if_neg (Ne.symm h14),hc2]
 have hr:=(qPk l f.2 ord.2 cm.2 hp' f.1 ord.1 cm.1 c c2 c3 c4 ha hr).atK (H:=H.upd k (.ro (evs l))) (args:=[.slice (some ⟨k,0,none⟩) l.length c,.slice (some ⟨k2,0,none⟩) f.2.length c2,.slice (some ⟨k3,0,none⟩) ord.2.length c3,.slice (some ⟨k4,0,none⟩) cm.2.length c4]) (r':=.ret (.tuple #[.slice (some ⟨H.next,0,none⟩) f.2.length 1,.int .i64 0])) (H':=(H.upd k (.ro (evs l))).add (.arr 49 (us hp')))
  (zBn fun i cs hi=> by rcases i with _|_|_|_|_|i<;> simp at hi⊢;exact hi) [k,k2,k3,k4] (by simp[h12,h13,h14,h23,h24,h34]) (by simp) (by simp[hk2,hf3,ho3,hc3]) (by simp) (by simp) (by simp[jF hk2,jF hf3,jF ho3,jF hc3])
 refine hr.mono ?_
 rintro r H' ⟨e1,rfl⟩
 refine⟨by rw[AH.get_add,AH.next_upd,if_neg (by omega),AH.get_upd,if_pos rfl],fun j cs2 hj hcs hne=> ⟨cs2,?_,hne⟩,e1,?_⟩
 ·rw[AH.get_add,AH.next_upd] at hcs
  split at hcs
  ·cases hcs
  ·rw[AH.get_upd,if_neg hj] at hcs;exact hcs
 ·refine AH.ext' (by simp) fun j=> ?_
  rw[AH.get_upd,AH.get_add,AH.get_add,AH.next_upd,AH.get_upd]
  by_cases h:j=k
  ·subst h;rw[if_pos rfl,if_neg (by omega),hk]
  ·rw[if_neg h,if_neg h]
end YtnemoimbeefngaaGreat
end Go.Proofs
