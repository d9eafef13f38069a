/-
  THE DOCUMENT's NOREC: Decided. (Printed by tools/gende.py.)
-/
import Derived.Test.YtnemoimbeefngaaGreatPR3
import Derived.WalkKit
import Derived.Test.YtnemoimbeefngaaGreatPR1
import Derived.Test.YtnemoimbeefngaaGreatPA3
import Derived.Test.YtnemoimbeefngaaGreatPA1
import Derived.Test.YtnemoimbeefngaaGreatPR2
set_option linter.unusedSimpArgs false
set_option linter.unusedVariables false
set_option linter.unnecessarySimpa false
set_option linter.unusedSectionVars false
set_option maxHeartbeats 32000000
set_option maxRecDepth 100000
namespace Go.Proofs
namespace YtnemoimbeefngaaGreat
open Go.Abs
def xF (s:NS) (n i:Nat):List Int:=match s.ts i with
 |some a=> if a.n=n/\a.dec=true then [(n:Int)] else []
 |none=> []
def xT (s:NS) (n:Nat):Nat->List Int
 |0=> []
 |i+1=> xT s n i++xF s n i
def xZ (s:NS):Nat->List Int
 |0=> []
 |n+1=> xZ s n++xT s n 4
theorem qJh (s:NS) (n i:Nat):(xF s n i).length<=1:=by
 unfold xF
 split
 ·split<;> simp
 ·simp
theorem zN3 (s:NS) (n:Nat):∀i,(xT s n i).length<=i
 |0=> by simp[xT]
 |i+1=> by
  have:=zN3 s n i
  have:=qJh s n i
  rw[xT,List.length_append];omega
theorem zXm (s:NS):∀n,(xZ s n).length<=4*n
 |0=> by simp[xZ]
 |n+1=> by
  have:=zXm s n
  have:=zN3 s n 4
  rw[xZ,List.length_append];omega
theorem zHs {s:NS} {n:Nat} {x:Int}:∀{i},x∈xT s n i->x=n
 |0,h=> by simp[xT] at h
 |i+1,h=> by
  rw[xT,List.mem_append] at h
  rcases h with h|h
  ·exact zHs h
  ·unfold xF at h
   split at h
   ·split at h
    ·simpa using h
    ·cases h
   ·cases h
theorem zUz {s:NS} {x:Int}:∀{n},x∈xZ s n->0<=x/\x<n
 |0,h=> by simp[xZ] at h
 |n+1,h=> by
  rw[xZ,List.mem_append] at h
  rcases h with h|h
  ·have:=zUz h;omega
  ·have:=zHs h;omega
theorem zXl (s:NS):∀n,(xZ s n).Pairwise fun a b=> a<=b
 |0=> by simp[xZ]
 |n+1=> by
  rw[xZ,List.pairwise_append]
  refine⟨zXl s n,?_,fun a ha b hb=> ?_⟩
  ·refine List.Pairwise.imp_of_mem (R:=fun _ _=> True) (fun {a b} ha hb _=> ?_) (List.pairwise_of_forall fun _ _=> trivial)
   rw[zHs ha,zHs hb];exact Int.le_refl _
  ·have:=zUz ha
   have:=zHs hb
   omega
theorem zWf (s:NS) (n i:Nat) (x:Int):(xF s n i).count x=if x=n then (zBq s i).count x else 0:=by
 unfold xF zBq
 cases s.ts i with
 |none=> simp
 |some a=>
  simp only
  by_cases hd:a.dec=true
  ·by_cases hn:a.n=n
   ·subst hn
    by_cases hx:x=a.n
    ·simp[hd,hx]
    ·have:¬(a.n:Int)=x:=fun e=> hx e.symm
     simp[hd,hx,this]
   ·by_cases hx:x=n
    ·have:¬(a.n:Int)=n:=fun e=> hn (by omega)
     simp[hd,hx,hn,List.count_singleton,this]
    ·simp[hn,hx]
  ·simp[hd]
theorem zNf (s:NS) (n:Nat) (x:Int):∀i,(xT s n i).count x=if x=n then (zAv s i).count x else 0
 |0=> by simp[xT,zAv]
 |i+1=> by
  rw[xT,zAv,List.count_append,List.count_append,zNf s n x i,zWf]
  split<;> rfl
theorem zO7 (s:NS) (x:Int):∀n,(xZ s n).count x=if 0<=x/\x<n then (zAv s 4).count x else 0
 |0=> by
  have:¬(0<=x/\x<((0:Nat):Int)):=by omega
  rw[if_neg this];rfl
 |n+1=> by
  rw[xZ,List.count_append,zO7 s x n,zNf]
  by_cases h1:0<=x/\x<n
  ·rw[if_pos h1,if_neg (by omega),if_pos (by omega)];rfl
  ·rw[if_neg h1]
   by_cases h2:x=n
   ·rw[if_pos h2,if_pos (by omega)];omega
   ·rw[if_neg h2,if_neg (by omega)]
theorem zWe (s:NS) (hs:s.Ok):xZ s s.ky.length=zE1 (zAv s 4):=by
 have hp:(xZ s s.ky.length).Perm (zE1 (zAv s 4)):=by
  refine (List.perm_iff_count.2 fun x=> ?_).trans (zVn _).symm
  rw[zO7]
  split
  ·rfl
  ·rename_i h
   refine (List.count_eq_zero.2 fun hx=> h ?_).symm
   obtain⟨th,a,_,ha,_,rfl⟩:=zRa.1 hx
   have:=(hs.ts th a ha).n
   have:=hs.kw
   omega
 exact hp.eq_of_pairwise (fun a b _ _ h1 h2=> Int.le_antisymm h1 h2) (zXl s _) (zOn _)
def rdI (s:NS) (z m:Nat) (tm:Nat->Value) (H:AH GD):Prop:=∃n:Nat,m+n=z/\tm 0=.pointer (some ⟨0,0,none⟩)/\tm 3=.slice (some ⟨9,0,none⟩) (xZ s n).length 1/\tm 4=.int .i64 n/\H=AH.of (qL s 0++[some (.arr 3 (qZ (xZ s n)))])
def rdJ (s:NS) (n m:Nat) (tm:Nat->Value) (H:AH GD):Prop:=∃(q:Nat) (pre:List (Option (AObj GD))) (i:Nat),(q=9/\pre=[]∨q=10/\pre=[none])/\m+i=4/\tm 0=.pointer (some ⟨0,0,none⟩)/\tm 3=.slice (some ⟨q,0,none⟩) (xZ s n++xT s n i).length 1/\tm 4=.int .i64 n/\tm 5=.int .i64 i/\H=AH.of (qL s 0++(pre++[some (.arr 3 (qZ (xZ s n++xT s n i)))]))
theorem qQm (s:NS) (hs:s.Ok):zP Tryz.prog cfg 65 [.pointer (some ⟨0,0,none⟩)] (AH.of [some (.hi (.reng s))])
  fun r H'=> r=.ret (.slice (some ⟨1,0,none⟩) (xZ s s.ky.length).length 1)/\H'=AH.of [some (.hi (.reng s)),some (.arr 3 (qZ (xZ s s.ky.length)))]:=by
 refine zP.ends ?_
 have hth:0<4:=by omega
 refine zP.openREng (th:=0) hth ?_
 have hk64:=hs.ky
 obtain⟨z,hz⟩:∃z,s.ky.length=z:=⟨_,rfl⟩
 rw[hz] at hk64
 refine zX (tbl:=zFo) zC2 70 3 (af:=a65) rfl ?_
 rw[a65,b65,qB]
 refine⟨by simp,?_⟩
 simp -implicitDefEqProofs [qL,zR,rps,o1,o2,o3,hz]
 refine zBm (xC zAh (xD zC2) _ _ noY jT) (rdI s z) (m:=z) ?_ (by omega) ?_
 ·refine zG5 [.nil 3] [0,1,2,3,4,5,6,7,8,9] (qL s 0++[some (.arr 3 (qZ []))]) [(3,.slice (some ⟨9,0,none⟩) 0 1)] z (by omega) ?_ ?_ ?_ ⟨0,?_⟩<;> simp[qL,zR,rps,o1,o2,o3,hz,xZ,show qZ []=[] from rfl]
  done
 rintro m tm H ⟨n,hm,t0,t3,t4,rfl⟩
 by_cases hn:n<z
 ·have hn':(n:Int)<z:=by omega
  simp -implicitDefEqProofs [qL,zR,rps,o1,o2,o3,hz,t0,t3,t4,hn']
  refine zBm (xC zAh (xD zC2) _ _ noY jT) (rdJ s n) (m:=4) ?_ (by omega) ?_
  ·refine qS [] [0,1,2,3,4,5,6,7,8,9] (qL s 0++[some (.arr 3 (qZ (xZ s n++xT s n 0)))]) 4 (by omega) ?_ ?_ ⟨9,[],0,.inl ⟨rfl,rfl⟩,by omega,?_⟩<;> simp[qL,zR,rps,o1,o2,o3,hz,xT,t0,t3,t4]
  rintro m2 tm H ⟨q,pre,i,hq,hm2,t0,t3,t4,t5,rfl⟩
  have hlen:(xZ s n++xT s n i).length<=300:=by
   have:=zXm s n
   have:=zN3 s n i
   rw[List.length_append];omega
  by_cases hi:i<4
  ·have hr3:((xZ s n++xT s n i).length+1)*8<=140737488355328/\(xZ s n++xT s n i).length<=9223372036854775806:=by omega
   have htk:=zQq (xZ s n++xT s n i)
   have hil:(xZ s n++xT s n i).length<=(qZ (xZ s n++xT s n i)).length:=by rw[zC4];omega
   have hsuc:xZ s n++xT s n (i+1)=xZ s n++xT s n i++xF s n i:=by rw[xT,List.append_assoc]
   have hi4:i=0∨i=1∨i=2∨i=3:=by omega
   rcases hi4 with rfl|rfl|rfl|rfl
   ·have hwr:IntKind.i64.wrap (0+1)=1:=by decide
    have hwr2:IntKind.i64.wrap 1=1:=by decide
    generalize xZ s n++xT s n 0=out at*
    rcases hq with ⟨rfl,rfl⟩|⟨rfl,rfl⟩
    ·cases ha:s.ts 0 with
     |none=>
      have hd:xF s n 0=[]:=by simp[xF,ha]
      rw[hd,List.append_nil] at hsuc
      simp -implicitDefEqProofs [qL,zR,rps,o1,o2,o3,t0,t3,t4,t5,ha,qG,qR,hwr,hwr2]
      refine qS [] [0,1,2,3,4,5,6,7,8,9] (qL s 0++[some (.arr 3 (qZ (xZ s n++xT s n 1)))]) (m2 - 1) (by omega) ?_ ?_ ⟨9,[],1,.inl ⟨rfl,rfl⟩,by omega,?_⟩<;> simp[qL,zR,rps,o1,o2,o3,ha,qG,qR,t0,t3,t4,hsuc]
     |some a=>
      by_cases hn1:a.n=n
      ·have hn2:(a.n:Int)=n:=by omega
       cases hdec:a.dec with
       |false=>
        have hd:xF s n 0=[]:=by simp[xF,ha,hdec]
        rw[hd,List.append_nil] at hsuc
        simp -implicitDefEqProofs [qL,zR,rps,o1,o2,o3,t0,t3,t4,t5,ha,qD,qA,qF,hn1,hdec,hwr,hwr2]
        refine qS [.pack (GD.ratt a) 5 [10,11]] [0,1,2,3,4,5,6,7,8,9] (qL s 0++[some (.arr 3 (qZ (xZ s n++xT s n 1)))]) (m2 - 1) (by omega) ?_ ?_ ⟨9,[],1,.inl ⟨rfl,rfl⟩,by omega,?_⟩<;> simp[qL,zR,rps,o1,o2,o3,ha,qD,qA,qF,hn1,hdec,t0,t3,t4,hsuc]
       |true=>
        have hd:xF s n 0=[(n:Int)]:=by simp[xF,ha,hdec,hn1]
        rw[hd] at hsuc
        simp -implicitDefEqProofs [qL,zR,rps,o1,o2,o3,t0,t3,t4,t5,ha,qD,qA,qF,hn1,hdec,hwr,hwr2,hr3,htk,hil]
        refine qS [.pack (GD.ratt a) 5 [10,11]] [0,1,2,3,4,5,6,7,8,9,13] (qL s 0++[none,some (.arr 3 (qZ (xZ s n++xT s n 1)))]) (m2 - 1) (by omega) ?_ ?_ ⟨10,[none],1,.inr ⟨rfl,rfl⟩,by omega,?_⟩<;> simp[qL,zR,rps,o1,o2,o3,ha,qD,qA,qF,hn1,hdec,t0,t4,hsuc,zB2,zB1]
      ·have hn2:¬(a.n:Int)=n:=by omega
       have hd:xF s n 0=[]:=by simp[xF,ha,hn1]
       rw[hd,List.append_nil] at hsuc
       simp -implicitDefEqProofs [qL,zR,rps,o1,o2,o3,t0,t3,t4,t5,ha,qD,qA,qF,hn1,hn2,hwr,hwr2]
       refine qS [.pack (GD.ratt a) 5 [10,11]] [0,1,2,3,4,5,6,7,8,9] (qL s 0++[some (.arr 3 (qZ (xZ s n++xT s n 1)))]) (m2 - 1) (by omega) ?_ ?_ ⟨9,[],1,.inl ⟨rfl,rfl⟩,by omega,?_⟩<;> simp[qL,zR,rps,o1,o2,o3,ha,qD,qA,qF,hn1,t0,t3,t4,hsuc]
    ·cases ha:s.ts 0 with
     |none=>
      have hd:xF s n 0=[]:=by simp[xF,ha]
      rw[hd,List.append_nil] at hsuc
      simp -implicitDefEqProofs [qL,zR,rps,o1,o2,o3,t0,t3,t4,t5,ha,qG,qR,hwr,hwr2]
      refine qS [] [0,1,2,3,4,5,6,7,8,9,10] (qL s 0++[none,some (.arr 3 (qZ (xZ s n++xT s n 1)))]) (m2 - 1) (by omega) ?_ ?_ ⟨10,[none],1,.inr ⟨rfl,rfl⟩,by omega,?_⟩<;> simp[qL,zR,rps,o1,o2,o3,ha,qG,qR,t0,t3,t4,hsuc]
     |some a=>
      by_cases hn1:a.n=n
      ·have hn2:(a.n:Int)=n:=by omega
       cases hdec:a.dec with
       |false=>
        have hd:xF s n 0=[]:=by simp[xF,ha,hdec]
        rw[hd,List.append_nil] at hsuc
        simp -implicitDefEqProofs [qL,zR,rps,o1,o2,o3,t0,t3,t4,t5,ha,qD,qA,qF,hn1,hdec,hwr,hwr2]
        refine qS [.pack (GD.ratt a) 5 [11,12]] [0,1,2,3,4,5,6,7,8,9,10] (qL s 0++[none,some (.arr 3 (qZ (xZ s n++xT s n 1)))]) (m2 - 1) (by omega) ?_ ?_ ⟨10,[none],1,.inr ⟨rfl,rfl⟩,by omega,?_⟩<;> simp[qL,zR,rps,o1,o2,o3,ha,qD,qA,qF,hn1,hdec,t0,t3,t4,hsuc]
       |true=>
        have hd:xF s n 0=[(n:Int)]:=by simp[xF,ha,hdec,hn1]
        rw[hd] at hsuc
        simp -implicitDefEqProofs [qL,zR,rps,o1,o2,o3,t0,t3,t4,t5,ha,qD,qA,qF,hn1,hdec,hwr,hwr2,hr3,htk,hil]
        refine qS [.pack (GD.ratt a) 5 [11,12]] [0,1,2,3,4,5,6,7,8,9,14] (qL s 0++[none,some (.arr 3 (qZ (xZ s n++xT s n 1)))]) (m2 - 1) (by omega) ?_ ?_ ⟨10,[none],1,.inr ⟨rfl,rfl⟩,by omega,?_⟩<;> simp[qL,zR,rps,o1,o2,o3,ha,qD,qA,qF,hn1,hdec,t0,t4,hsuc,zB2,zB1]
      ·have hn2:¬(a.n:Int)=n:=by omega
       have hd:xF s n 0=[]:=by simp[xF,ha,hn1]
       rw[hd,List.append_nil] at hsuc
       simp -implicitDefEqProofs [qL,zR,rps,o1,o2,o3,t0,t3,t4,t5,ha,qD,qA,qF,hn1,hn2,hwr,hwr2]
       refine qS [.pack (GD.ratt a) 5 [11,12]] [0,1,2,3,4,5,6,7,8,9,10] (qL s 0++[none,some (.arr 3 (qZ (xZ s n++xT s n 1)))]) (m2 - 1) (by omega) ?_ ?_ ⟨10,[none],1,.inr ⟨rfl,rfl⟩,by omega,?_⟩<;> simp[qL,zR,rps,o1,o2,o3,ha,qD,qA,qF,hn1,t0,t3,t4,hsuc]
   ·have hwr:IntKind.i64.wrap (1+1)=2:=by decide
    have hwr2:IntKind.i64.wrap 2=2:=by decide
    generalize xZ s n++xT s n 1=out at*
    rcases hq with ⟨rfl,rfl⟩|⟨rfl,rfl⟩
    ·cases ha:s.ts 1 with
     |none=>
      have hd:xF s n 1=[]:=by simp[xF,ha]
      rw[hd,List.append_nil] at hsuc
      simp -implicitDefEqProofs [qL,zR,rps,o1,o2,o3,t0,t3,t4,t5,ha,qG,qR,hwr,hwr2]
      refine qS [] [0,1,2,3,4,5,6,7,8,9] (qL s 0++[some (.arr 3 (qZ (xZ s n++xT s n 2)))]) (m2 - 1) (by omega) ?_ ?_ ⟨9,[],2,.inl ⟨rfl,rfl⟩,by omega,?_⟩<;> simp[qL,zR,rps,o1,o2,o3,ha,qG,qR,t0,t3,t4,hsuc]
     |some a=>
      by_cases hn1:a.n=n
      ·have hn2:(a.n:Int)=n:=by omega
       cases hdec:a.dec with
       |false=>
        have hd:xF s n 1=[]:=by simp[xF,ha,hdec]
        rw[hd,List.append_nil] at hsuc
        simp -implicitDefEqProofs [qL,zR,rps,o1,o2,o3,t0,t3,t4,t5,ha,qD,qA,qF,hn1,hdec,hwr,hwr2]
        refine qS [.pack (GD.ratt a) 6 [10,11]] [0,1,2,3,4,5,6,7,8,9] (qL s 0++[some (.arr 3 (qZ (xZ s n++xT s n 2)))]) (m2 - 1) (by omega) ?_ ?_ ⟨9,[],2,.inl ⟨rfl,rfl⟩,by omega,?_⟩<;> simp[qL,zR,rps,o1,o2,o3,ha,qD,qA,qF,hn1,hdec,t0,t3,t4,hsuc]
       |true=>
        have hd:xF s n 1=[(n:Int)]:=by simp[xF,ha,hdec,hn1]
        rw[hd] at hsuc
        simp -implicitDefEqProofs [qL,zR,rps,o1,o2,o3,t0,t3,t4,t5,ha,qD,qA,qF,hn1,hdec,hwr,hwr2,hr3,htk,hil]
        refine qS [.pack (GD.ratt a) 6 [10,11]] [0,1,2,3,4,5,6,7,8,9,13] (qL s 0++[none,some (.arr 3 (qZ (xZ s n++xT s n 2)))]) (m2 - 1) (by omega) ?_ ?_ ⟨10,[none],2,.inr ⟨rfl,rfl⟩,by omega,?_⟩<;> simp[qL,zR,rps,o1,o2,o3,ha,qD,qA,qF,hn1,hdec,t0,t4,hsuc,zB2,zB1]
      ·have hn2:¬(a.n:Int)=n:=by omega
       have hd:xF s n 1=[]:=by simp[xF,ha,hn1]
       rw[hd,List.append_nil] at hsuc
       simp -implicitDefEqProofs [qL,zR,rps,o1,o2,o3,t0,t3,t4,t5,ha,qD,qA,qF,hn1,hn2,hwr,hwr2]
       refine qS [.pack (GD.ratt a) 6 [10,11]] [0,1,2,3,4,5,6,7,8,9] (qL s 0++[some (.arr 3 (qZ (xZ s n++xT s n 2)))]) (m2 - 1) (by omega) ?_ ?_ ⟨9,[],2,.inl ⟨rfl,rfl⟩,by omega,?_⟩<;> simp[qL,zR,rps,o1,o2,o3,ha,qD,qA,qF,hn1,t0,t3,t4,hsuc]
    ·cases ha:s.ts 1 with
     |none=>
      have hd:xF s n 1=[]:=by simp[xF,ha]
      rw[hd,List.append_nil] at hsuc
      simp -implicitDefEqProofs [qL,zR,rps,o1,o2,o3,t0,t3,t4,t5,ha,qG,qR,hwr,hwr2]
      refine qS [] [0,1,2,3,4,5,6,7,8,9,10] (qL s 0++[none,some (.arr 3 (qZ (xZ s n++xT s n 2)))]) (m2 - 1) (by omega) ?_ ?_ ⟨10,[none],2,.inr ⟨rfl,rfl⟩,by omega,?_⟩<;> simp[qL,zR,rps,o1,o2,o3,ha,qG,qR,t0,t3,t4,hsuc]
     |some a=>
      by_cases hn1:a.n=n
      ·have hn2:(a.n:Int)=n:=by omega
       cases hdec:a.dec with
       |false=>
        have hd:xF s n 1=[]:=by simp[xF,ha,hdec]
        rw[hd,List.append_nil] at hsuc
        simp -implicitDefEqProofs [qL,zR,rps,o1,o2,o3,t0,t3,t4,t5,ha,qD,qA,qF,hn1,hdec,hwr,hwr2]
        refine qS [.pack (GD.ratt a) 6 [11,12]] [0,1,2,3,4,5,6,7,8,9,10] (qL s 0++[none,some (.arr 3 (qZ (xZ s n++xT s n 2)))]) (m2 - 1) (by omega) ?_ ?_ ⟨10,[none],2,.inr ⟨rfl,rfl⟩,by omega,?_⟩<;> simp[qL,zR,rps,o1,o2,o3,ha,qD,qA,qF,hn1,hdec,t0,t3,t4,hsuc]
       |true=>
        have hd:xF s n 1=[(n:Int)]:=by simp[xF,ha,hdec,hn1]
        rw[hd] at hsuc
        simp -implicitDefEqProofs [qL,zR,rps,o1,o2,o3,t0,t3,t4,t5,ha,qD,qA,qF,hn1,hdec,hwr,hwr2,hr3,htk,hil]
        refine qS [.pack (GD.ratt a) 6 [11,12]] [0,1,2,3,4,5,6,7,8,9,14] (qL s 0++[none,some (.arr 3 (qZ (xZ s n++xT s n 2)))]) (m2 - 1) (by omega) ?_ ?_ ⟨10,[none],2,.inr ⟨rfl,rfl⟩,by omega,?_⟩<;> simp[qL,zR,rps,o1,o2,o3,ha,qD,qA,qF,hn1,hdec,t0,t4,hsuc,zB2,zB1]
      ·have hn2:¬(a.n:Int)=n:=by omega
       have hd:xF s n 1=[]:=by simp[xF,ha,hn1]
       rw[hd,List.append_nil] at hsuc
       simp -implicitDefEqProofs [qL,zR,rps,o1,o2,o3,t0,t3,t4,t5,ha,qD,qA,qF,hn1,hn2,hwr,hwr2]
       refine qS [.pack (GD.ratt a) 6 [11,12]] [0,1,2,3,4,5,6,7,8,9,10] (qL s 0++[none,some (.arr 3 (qZ (xZ s n++xT s n 2)))]) (m2 - 1) (by omega) ?_ ?_ ⟨10,[none],2,.inr ⟨rfl,rfl⟩,by omega,?_⟩<;> simp[qL,zR,rps,o1,o2,o3,ha,qD,qA,qF,hn1,t0,t3,t4,hsuc]
   ·have hwr:IntKind.i64.wrap (2+1)=3:=by decide
    have hwr2:IntKind.i64.wrap 3=3:=by decide
    generalize xZ s n++xT s n 2=out at*
    rcases hq with ⟨rfl,rfl⟩|⟨rfl,rfl⟩
    ·cases ha:s.ts 2 with
     |none=>
      have hd:xF s n 2=[]:=by simp[xF,ha]
      rw[hd,List.append_nil] at hsuc
      simp -implicitDefEqProofs [qL,zR,rps,o1,o2,o3,t0,t3,t4,t5,ha,qG,qR,hwr,hwr2]
      refine qS [] [0,1,2,3,4,5,6,7,8,9] (qL s 0++[some (.arr 3 (qZ (xZ s n++xT s n 3)))]) (m2 - 1) (by omega) ?_ ?_ ⟨9,[],3,.inl ⟨rfl,rfl⟩,by omega,?_⟩<;> simp[qL,zR,rps,o1,o2,o3,ha,qG,qR,t0,t3,t4,hsuc]
     |some a=>
      by_cases hn1:a.n=n
      ·have hn2:(a.n:Int)=n:=by omega
       cases hdec:a.dec with
       |false=>
        have hd:xF s n 2=[]:=by simp[xF,ha,hdec]
        rw[hd,List.append_nil] at hsuc
        simp -implicitDefEqProofs [qL,zR,rps,o1,o2,o3,t0,t3,t4,t5,ha,qD,qA,qF,hn1,hdec,hwr,hwr2]
        refine qS [.pack (GD.ratt a) 7 [10,11]] [0,1,2,3,4,5,6,7,8,9] (qL s 0++[some (.arr 3 (qZ (xZ s n++xT s n 3)))]) (m2 - 1) (by omega) ?_ ?_ ⟨9,[],3,.inl ⟨rfl,rfl⟩,by omega,?_⟩<;> simp[qL,zR,rps,o1,o2,o3,ha,qD,qA,qF,hn1,hdec,t0,t3,t4,hsuc]
       |true=>
        have hd:xF s n 2=[(n:Int)]:=by simp[xF,ha,hdec,hn1]
        rw[hd] at hsuc
        simp -implicitDefEqProofs [qL,zR,rps,o1,o2,o3,t0,t3,t4,t5,ha,qD,qA,qF,hn1,hdec,hwr,hwr2,hr3,htk,hil]
        refine qS [.pack (GD.ratt a) 7 [10,11]] [0,1,2,3,4,5,6,7,8,9,13] (qL s 0++[none,some (.arr 3 (qZ (xZ s n++xT s n 3)))]) (m2 - 1) (by omega) ?_ ?_ ⟨10,[none],3,.inr ⟨rfl,rfl⟩,by omega,?_⟩<;> simp[qL,zR,rps,o1,o2,o3,ha,qD,qA,qF,hn1,hdec,t0,t4,hsuc,zB2,zB1]
      ·have hn2:¬(a.n:Int)=n:=by omega
       have hd:xF s n 2=[]:=by simp[xF,ha,hn1]
       rw[hd,List.append_nil] at hsuc
       simp -implicitDefEqProofs [qL,zR,rps,o1,o2,o3,t0,t3,t4,t5,ha,qD,qA,qF,hn1,hn2,hwr,hwr2]
       refine qS [.pack (GD.ratt a) 7 [10,11]] [0,1,2,3,4,5,6,7,8,9] (qL s 0++[some (.arr 3 (qZ (xZ s n++xT s n 3)))]) (m2 - 1) (by omega) ?_ ?_ ⟨9,[],3,.inl ⟨rfl,rfl⟩,by omega,?_⟩<;> simp[qL,zR,rps,o1,o2,o3,ha,qD,qA,qF,hn1,t0,t3,t4,hsuc]
    ·cases ha:s.ts 2 with
     |none=>
      have hd:xF s n 2=[]:=by simp[xF,ha]
      rw[hd,List.append_nil] at hsuc
      simp -implicitDefEqProofs [qL,zR,rps,o1,o2,o3,t0,t3,t4,t5,ha,qG,qR,hwr,hwr2]
      refine qS [] [0,1,2,3,4,5,6,7,8,9,10] (qL s 0++[none,some (.arr 3 (qZ (xZ s n++xT s n 3)))]) (m2 - 1) (by omega) ?_ ?_ ⟨10,[none],3,.inr ⟨rfl,rfl⟩,by omega,?_⟩<;> simp[qL,zR,rps,o1,o2,o3,ha,qG,qR,t0,t3,t4,hsuc]
     |some a=>
      by_cases hn1:a.n=n
      ·have hn2:(a.n:Int)=n:=by omega
       cases hdec:a.dec with
       |false=>
        have hd:xF s n 2=[]:=by simp[xF,ha,hdec]
        rw[hd,List.append_nil] at hsuc
        simp -implicitDefEqProofs [qL,zR,rps,o1,o2,o3,t0,t3,t4,t5,ha,qD,qA,qF,hn1,hdec,hwr,hwr2]
        refine qS [.pack (GD.ratt a) 7 [11,12]] [0,1,2,3,4,5,6,7,8,9,10] (qL s 0++[none,some (.arr 3 (qZ (xZ s n++xT s n 3)))]) (m2 - 1) (by omega) ?_ ?_ ⟨10,[none],3,.inr ⟨rfl,rfl⟩,by omega,?_⟩<;> simp[qL,zR,rps,o1,o2,o3,ha,qD,qA,qF,hn1,hdec,t0,t3,t4,hsuc]
       |true=>
        have hd:xF s n 2=[(n:Int)]:=by simp[xF,ha,hdec,hn1]
        rw[hd] at hsuc
        simp -implicitDefEqProofs [qL,zR,rps,o1,o2,o3,t0,t3,t4,t5,ha,qD,qA,qF,hn1,hdec,hwr,hwr2,hr3,htk,hil]
        refine qS [.pack (GD.ratt a) 7 [11,12]] [0,1,2,3,4,5,6,7,8,9,14] (qL s 0++[none,some (.arr 3 (qZ (xZ s n++xT s n 3)))]) (m2 - 1) (by omega) ?_ ?_ ⟨10,[none],3,.inr ⟨rfl,rfl⟩,by omega,?_⟩<;> simp[qL,zR,rps,o1,o2,o3,ha,qD,qA,qF,hn1,hdec,t0,t4,hsuc,zB2,zB1]
      ·have hn2:¬(a.n:Int)=n:=by omega
       have hd:xF s n 2=[]:=by simp[xF,ha,hn1]
       rw[hd,List.append_nil] at hsuc
       simp -implicitDefEqProofs [qL,zR,rps,o1,o2,o3,t0,t3,t4,t5,ha,qD,qA,qF,hn1,hn2,hwr,hwr2]
       refine qS [.pack (GD.ratt a) 7 [11,12]] [0,1,2,3,4,5,6,7,8,9,10] (qL s 0++[none,some (.arr 3 (qZ (xZ s n++xT s n 3)))]) (m2 - 1) (by omega) ?_ ?_ ⟨10,[none],3,.inr ⟨rfl,rfl⟩,by omega,?_⟩<;> simp[qL,zR,rps,o1,o2,o3,ha,qD,qA,qF,hn1,t0,t3,t4,hsuc]
   ·have hwr:IntKind.i64.wrap (3+1)=4:=by decide
    have hwr2:IntKind.i64.wrap 4=4:=by decide
    generalize xZ s n++xT s n 3=out at*
    rcases hq with ⟨rfl,rfl⟩|⟨rfl,rfl⟩
    ·cases ha:s.ts 3 with
     |none=>
      have hd:xF s n 3=[]:=by simp[xF,ha]
      rw[hd,List.append_nil] at hsuc
      simp -implicitDefEqProofs [qL,zR,rps,o1,o2,o3,t0,t3,t4,t5,ha,qG,qR,hwr,hwr2]
      refine qS [] [0,1,2,3,4,5,6,7,8,9] (qL s 0++[some (.arr 3 (qZ (xZ s n++xT s n 4)))]) (m2 - 1) (by omega) ?_ ?_ ⟨9,[],4,.inl ⟨rfl,rfl⟩,by omega,?_⟩<;> simp[qL,zR,rps,o1,o2,o3,ha,qG,qR,t0,t3,t4,hsuc]
     |some a=>
      by_cases hn1:a.n=n
      ·have hn2:(a.n:Int)=n:=by omega
       cases hdec:a.dec with
       |false=>
        have hd:xF s n 3=[]:=by simp[xF,ha,hdec]
        rw[hd,List.append_nil] at hsuc
        simp -implicitDefEqProofs [qL,zR,rps,o1,o2,o3,t0,t3,t4,t5,ha,qD,qA,qF,hn1,hdec,hwr,hwr2]
        refine qS [.pack (GD.ratt a) 8 [10,11]] [0,1,2,3,4,5,6,7,8,9] (qL s 0++[some (.arr 3 (qZ (xZ s n++xT s n 4)))]) (m2 - 1) (by omega) ?_ ?_ ⟨9,[],4,.inl ⟨rfl,rfl⟩,by omega,?_⟩<;> simp[qL,zR,rps,o1,o2,o3,ha,qD,qA,qF,hn1,hdec,t0,t3,t4,hsuc]
       |true=>
        have hd:xF s n 3=[(n:Int)]:=by simp[xF,ha,hdec,hn1]
        rw[hd] at hsuc
        simp -implicitDefEqProofs [qL,zR,rps,o1,o2,o3,t0,t3,t4,t5,ha,qD,qA,qF,hn1,hdec,hwr,hwr2,hr3,htk,hil]
        refine qS [.pack (GD.ratt a) 8 [10,11]] [0,1,2,3,4,5,6,7,8,9,13] (qL s 0++[none,some (.arr 3 (qZ (xZ s n++xT s n 4)))]) (m2 - 1) (by omega) ?_ ?_ ⟨10,[none],4,.inr ⟨rfl,rfl⟩,by omega,?_⟩<;> simp[qL,zR,rps,o1,o2,o3,ha,qD,qA,qF,hn1,hdec,t0,t4,hsuc,zB2,zB1]
      ·have hn2:¬(a.n:Int)=n:=by omega
       have hd:xF s n 3=[]:=by simp[xF,ha,hn1]
       rw[hd,List.append_nil] at hsuc
       simp -implicitDefEqProofs [qL,zR,rps,o1,o2,o3,t0,t3,t4,t5,ha,qD,qA,qF,hn1,hn2,hwr,hwr2]
       refine qS [.pack (GD.ratt a) 8 [10,11]] [0,1,2,3,4,5,6,7,8,9] (qL s 0++[some (.arr 3 (qZ (xZ s n++xT s n 4)))]) (m2 - 1) (by omega) ?_ ?_ ⟨9,[],4,.inl ⟨rfl,rfl⟩,by omega,?_⟩<;> simp[qL,zR,rps,o1,o2,o3,ha,qD,qA,qF,hn1,t0,t3,t4,hsuc]
    ·cases ha:s.ts 3 with
     |none=>
      have hd:xF s n 3=[]:=by simp[xF,ha]
      rw[hd,List.append_nil] at hsuc
      simp -implicitDefEqProofs [qL,zR,rps,o1,o2,o3,t0,t3,t4,t5,ha,qG,qR,hwr,hwr2]
      refine qS [] [0,1,2,3,4,5,6,7,8,9,10] (qL s 0++[none,some (.arr 3 (qZ (xZ s n++xT s n 4)))]) (m2 - 1) (by omega) ?_ ?_ ⟨10,[none],4,.inr ⟨rfl,rfl⟩,by omega,?_⟩<;> simp[qL,zR,rps,o1,o2,o3,ha,qG,qR,t0,t3,t4,hsuc]
     |some a=>
      by_cases hn1:a.n=n
      ·have hn2:(a.n:Int)=n:=by omega
       cases hdec:a.dec with
       |false=>
        have hd:xF s n 3=[]:=by simp[xF,ha,hdec]
        rw[hd,List.append_nil] at hsuc
        simp -implicitDefEqProofs [qL,zR,rps,o1,o2,o3,t0,t3,t4,t5,ha,qD,qA,qF,hn1,hdec,hwr,hwr2]
        refine qS [.pack (GD.ratt a) 8 [11,12]] [0,1,2,3,4,5,6,7,8,9,10] (qL s 0++[none,some (.arr 3 (qZ (xZ s n++xT s n 4)))]) (m2 - 1) (by omega) ?_ ?_ ⟨10,[none],4,.inr ⟨rfl,rfl⟩,by omega,?_⟩<;> simp[qL,zR,rps,o1,o2,o3,ha,qD,qA,qF,hn1,hdec,t0,t3,t4,hsuc]
       |true=>
        have hd:xF s n 3=[(n:Int)]:=by simp[xF,ha,hdec,hn1]
        rw[hd] at hsuc
        simp -implicitDefEqProofs [qL,zR,rps,o1,o2,o3,t0,t3,t4,t5,ha,qD,qA,qF,hn1,hdec,hwr,hwr2,hr3,htk,hil]
        refine qS [.pack (GD.ratt a) 8 [11,12]] [0,1,2,3,4,5,6,7,8,9,14] (qL s 0++[none,some (.arr 3 (qZ (xZ s n++xT s n 4)))]) (m2 - 1) (by omega) ?_ ?_ ⟨10,[none],4,.inr ⟨rfl,rfl⟩,by omega,?_⟩<;> simp[qL,zR,rps,o1,o2,o3,ha,qD,qA,qF,hn1,hdec,t0,t4,hsuc,zB2,zB1]
      ·have hn2:¬(a.n:Int)=n:=by omega
       have hd:xF s n 3=[]:=by simp[xF,ha,hn1]
       rw[hd,List.append_nil] at hsuc
       simp -implicitDefEqProofs [qL,zR,rps,o1,o2,o3,t0,t3,t4,t5,ha,qD,qA,qF,hn1,hn2,hwr,hwr2]
       refine qS [.pack (GD.ratt a) 8 [11,12]] [0,1,2,3,4,5,6,7,8,9,10] (qL s 0++[none,some (.arr 3 (qZ (xZ s n++xT s n 4)))]) (m2 - 1) (by omega) ?_ ?_ ⟨10,[none],4,.inr ⟨rfl,rfl⟩,by omega,?_⟩<;> simp[qL,zR,rps,o1,o2,o3,ha,qD,qA,qF,hn1,t0,t3,t4,hsuc]
  ·have hie:i=4:=by omega
   subst hie
   have hwr:=zA8 hn (by omega)
   have hsuc:xZ s (n+1)=xZ s n++xT s n 4:=rfl
   rcases hq with ⟨rfl,rfl⟩|⟨rfl,rfl⟩
   ·simp -implicitDefEqProofs [qL,zR,rps,o1,o2,o3,t0,t3,t4,t5,hwr]
    refine qS [] [0,1,2,3,4,5,6,7,8,9] (qL s 0++[some (.arr 3 (qZ (xZ s (n+1))))]) (m - 1) (by omega) ?_ ?_ ⟨n+1,by omega,?_⟩<;> simp[qL,zR,rps,o1,o2,o3,t0,t3,hsuc]
   ·simp -implicitDefEqProofs [qL,zR,rps,o1,o2,o3,t0,t3,t4,t5,hwr]
    refine qS [] [0,1,2,3,4,5,6,7,8,10] (qL s 0++[some (.arr 3 (qZ (xZ s (n+1))))]) (m - 1) (by omega) ?_ ?_ ⟨n+1,by omega,?_⟩<;> simp[qL,zR,rps,o1,o2,o3,t0,t3,hsuc]
 ·have hne:n=z:=by omega
  subst hne
  have hn':¬(n:Int)<n:=by omega
  simp -implicitDefEqProofs [qL,zR,rps,o1,o2,o3,hz,t0,t3,t4]
  refine zA [.pack (GD.reng s) 0 [1,2,3,4,5,6,7,8]] [0,9] ?_ ?_ ?_<;> simp[qV,qL,zR,rps,o1,o2,o3,hz]
def st65:qW GD:=fun args H=> match args with
 |[.pointer (some ⟨k,0,none⟩)]=> match H.get k with
  |some (.hi (.reng s))=> some (s.Ok,.ret (.slice (some ⟨H.next,0,none⟩) (xZ s s.ky.length).length 1),H.add (.arr 3 (qZ (xZ s s.ky.length))))
  |_=> none
 |_=> none
theorem qLt:qI Tryz.prog cfg 65 st65:=by
 intro args H p r H' h hp
 unfold st65 at h
 split at h
 case h_2=> cases h
 split at h
 case h_2=> cases h
 rename_i k x s hk
 cases h
 exact (qQm s hp).atK (xE rfl) [k] (by simp) (by simp) (by simp[hk]) (by simp) (by simp) (by simp[xB hk])
end YtnemoimbeefngaaGreat
end Go.Proofs
namespace Go.Proofs.YtnemoimbeefngaaGreat
section
variable {α:Type} (key num:α->Int)
def Lex (a b:α):Prop:=key a<key b∨(key a=key b/\num a<num b)
def zG8 (a b:α):Bool:=decide (key a<key b∨(key a=key b/\num a<=num b))
def srt (l:List α):List α:=l.mergeSort (zG8 key num)
theorem zB9 (l:List α):(srt key num l).Perm l:=List.mergeSort_perm _ _
theorem zCv (l:List α):(srt key num l).length=l.length:=(zB9 key num l).length_eq
theorem zTn (l:List α):(srt key num l).Pairwise fun a b=> zG8 key num a b=true:=
 List.pairwise_mergeSort (by simp only[zG8,decide_eq_true_eq];intro a b c h1 h2;omega) (by simp only[zG8,Bool.or_eq_true,decide_eq_true_eq];intro a b;omega) l
theorem qCi:∀{l:List α},l.Pairwise (Lex key num)->∀a∈l,∀b∈l,zG8 key num a b=true->zG8 key num b a=true->a=b
 |[],_,a,ha,_,_,_,_=> by simp at ha
 |x::l,h,a,ha,b,hb,h1,h2=> by
  obtain⟨hx,hl⟩:=List.pairwise_cons.1 h
  simp only[zG8,decide_eq_true_eq] at h1 h2
  rcases List.mem_cons.1 ha with rfl|ha'
  ·rcases List.mem_cons.1 hb with rfl|hb
   ·rfl
   ·have:=hx b hb;simp only[Lex] at this;omega
  ·rcases List.mem_cons.1 hb with rfl|hb
   ·have:=hx a ha';simp only[Lex] at this;omega
   ·exact qCi hl a ha' b hb (by simp only[zG8,decide_eq_true_eq];omega) (by simp only[zG8,decide_eq_true_eq];omega)
theorem zGl {l l':List α} (hp:l'.Perm l) (hs:l'.Pairwise (Lex key num)):l'=srt key num l:=by
 refine List.Perm.eq_of_pairwise (le:=fun a b=> zG8 key num a b=true) ?_ ?_ (zTn key num l) (hp.trans (zB9 key num l).symm)
 ·intro a b ha hb h1 h2
  exact qCi key num hs a ha b ((hp.trans (zB9 key num l).symm).mem_iff.2 hb) h1 h2
 ·exact hs.imp (by intro a b h;simp only[zG8,decide_eq_true_eq];simp only[Lex] at h;omega)
theorem zGm {l:List α} (h:l.Pairwise fun a b=> num a<num b):(srt key num l).Pairwise (Lex key num):=by
 have h1:=zTn key num l
 have hn:(srt key num l).Pairwise fun a b=> num a≠num b:=by
  have:l.Pairwise fun a b=> num a≠num b:=h.imp (by intro a b h;omega)
  exact this.perm (zB9 key num l).symm (by intro a b h;exact fun e=> h e.symm)
 refine (h1.and hn).imp ?_
 intro a b ⟨h,h'⟩
 simp only[zG8,decide_eq_true_eq] at h
 simp only[Lex];omega
theorem zIw {l:List α} (h:l.Pairwise (Lex key num)):srt key num l=l:=(zGl key num (List.Perm.refl l) h).symm
theorem zX3 {l u v:List α} (hp:l.Perm (u++v)) (hu:(srt key num u).Pairwise (Lex key num)) (hv:(srt key num v).Pairwise (Lex key num))
  (h:∀x∈u,∀y∈v,Lex key num x y):srt key num l=srt key num u++srt key num v:=by
 refine (zGl key num ?_ ?_).symm
 ·exact ((zB9 key num u).append (zB9 key num v)).trans hp.symm
 ·exact List.pairwise_append.2 ⟨hu,hv,fun x hx y hy=> h x ((zB9 key num u).mem_iff.1 hx) y ((zB9 key num v).mem_iff.1 hy)⟩
end
section
variable {α:Type}
def swp (l:List α) (i j:Nat):List α:=
 match l[i]?,l[j]? with
 |some x,some y=> (l.set i y).set j x
 |_,_=> l
theorem qLc (l:List α) (i j:Nat):(swp l i j).length=l.length:=by
 unfold swp;split<;> simp
theorem zTa {p m q:List α} {x y:α} {i j:Nat} (hi:i=p.length) (hj:j=p.length+1+m.length):
  swp (p++x::m++y::q) i j=p++y::m++x::q:=by
 subst hi hj
 have h1:(p++x::m++y::q)[p.length]?=some x:=by simp[List.getElem?_append]
 have h2:(p++x::m++y::q)[p.length+1+m.length]?=some y:=by
  rw[show p.length+1+m.length=(p++x::m).length by simp;omega]
  rw[List.getElem?_append_right (by simp)];simp
 unfold swp
 rw[h1,h2]
 show ((p++x::m++y::q).set p.length y).set (p.length+1+m.length) x=_
 rw[show p++x::m++y::q=p++x::(m++y::q) by simp]
 rw[List.set_append_right _ _ (by simp)]
 simp only[Nat.sub_self,List.set_cons_zero]
 rw[List.set_append_right _ _ (by omega)]
 rw[show p.length+1+m.length - p.length=m.length+1 by omega,List.set_cons_succ,List.set_append_right _ _ (by simp)]
 simp
def swr (l:List α) (a b:Nat):Nat->List α
 |0=> l
 |n+1=> swp (swr l a b n) (a+n) (b+n)
theorem zPn (l:List α) (a b n:Nat):(swr l a b n).length=l.length:=by
 induction n with
 |zero=> rfl
 |succ n ih=> simp[swr,qLc,ih]
theorem zOi:∀{n:Nat} {p u m v q:List α},u.length=n->v.length=n->
  swr (p++u++m++v++q) p.length (p.length+n+m.length) n=p++v++m++u++q
 |0,p,u,m,v,q,hu,hv=> by
  have hu:=List.length_eq_zero_iff.1 hu
  have hv:=List.length_eq_zero_iff.1 hv
  subst hu hv;rfl
 |n+1,p,u,m,v,q,hu,hv=> by
  have hu1:u≠[]:=by intro h;subst h;simp at hu
  have hv1:v≠[]:=by intro h;subst h;simp at hv
  obtain⟨u1,x,rfl⟩:∃u1 x,u=u1++[x]:=⟨u.dropLast,u.getLast hu1,(List.dropLast_concat_getLast hu1).symm⟩
  obtain⟨v1,y,rfl⟩:∃v1 y,v=v1++[y]:=⟨v.dropLast,v.getLast hv1,(List.dropLast_concat_getLast hv1).symm⟩
  simp at hu hv
  have ih:=zOi (p:=p) (u:=u1) (m:=x::m) (v:=v1) (q:=y::q) hu hv
  rw[show p.length+(n+1)+m.length=p.length+n+(x::m).length by simp;omega]
  show swp (swr _ _ _ n) _ _=_
  rw[show p++(u1++[x])++m++(v1++[y])++q=p++u1++x::m++v1++y::q by simp,ih]
  rw[show p++v1++x::m++u1++y::q=(p++v1)++x::(m++u1)++y::q by simp]
  rw[zTa (by simp;omega) (by simp;omega)]
  simp
def zA7 (l:List α) (a m b:Nat):List α:=l.take a++(l.drop m).take (b - m)++(l.drop a).take (m - a)++l.drop b
theorem zDa {p u v q:List α} {a m b:Nat} (ha:a=p.length) (hm:m=a+u.length) (hb:b=m+v.length):zA7 (p++u++v++q) a m b=p++v++u++q:=by
 subst ha hm hb
 unfold zA7
 have h1:(p++u++v++q).take p.length=p:=by simp[List.take_append]
 have h2:(p++u++v++q).drop (p.length+u.length)=v++q:=by
  rw[show p++u++v++q=(p++u)++(v++q) by simp,List.drop_append_of_le_length (by simp)];simp
 have h3:(p++u++v++q).drop p.length=u++v++q:=by
  rw[show p++u++v++q=p++(u++v++q) by simp,List.drop_append_of_le_length (by simp)];simp
 have h4:(p++u++v++q).drop (p.length+u.length+v.length)=q:=by
  rw[show p++u++v++q=(p++u++v)++q by simp,List.drop_append_of_le_length (by simp;omega),List.drop_eq_nil_of_le (by simp;omega)];simp
 rw[h1,h2,h3,h4]
 simp[List.take_append]
theorem zF2 (l:List α) (a m b:Nat) (h1:a<=m) (h2:m<=b) (h3:b<=l.length):
  ∃p u v q,l=p++u++v++q/\p.length=a/\u.length=m - a/\v.length=b - m:=by
 refine⟨l.take a,(l.drop a).take (m - a),(l.drop m).take (b - m),l.drop b,?_,by simp;omega,by simp;omega,by simp;omega⟩
 have e1:l.drop a=(l.drop a).take (m - a)++l.drop m:=by
  have:=(List.take_append_drop (m - a) (l.drop a)).symm
  rw[List.drop_drop,show a+(m - a)=m by omega] at this;exact this
 have e2:l.drop m=(l.drop m).take (b - m)++l.drop b:=by
  have:=(List.take_append_drop (b - m) (l.drop m)).symm
  rw[List.drop_drop,show m+(b - m)=b by omega] at this;exact this
 rw[List.append_assoc,List.append_assoc,←e2,←e1,List.take_append_drop]
theorem zNp (l:List α) {a m b:Nat} (h1:a<=m) (h2:m<=b) (h3:b<=l.length):(zA7 l a m b).length=l.length:=by
 obtain⟨p,u,v,q,rfl,hp,hu,hv⟩:=zF2 l a m b h1 h2 h3
 rw[zDa hp.symm (by omega) (by omega)];simp;omega
theorem qRo {l:List α} {m i j:Nat} (hij:j<i) (hi:i<=m) (hb:m+j<=l.length):
  zA7 (swr l (m - i) m j) (m - i+j) m (m+j)=zA7 l (m - i) m (m+j):=by
 obtain⟨p,u,v,q,rfl,hp,hu,hv⟩:=zF2 l (m - i) m (m+j) (by omega) (by omega) hb
 obtain⟨u1,u2,rfl,h1⟩:∃u1 u2,u=u1++u2/\u1.length=j:=⟨u.take j,u.drop j,(List.take_append_drop _ _).symm,by simp;omega⟩
 simp at hu
 rw[zDa (u:=u1++u2) hp.symm (by simp;omega) (by omega)]
 have:=zOi (n:=j) (p:=p) (u:=u1) (m:=u2) (v:=v) (q:=q) h1 (by omega)
 rw[show p.length+j+u2.length=m by omega,hp] at this
 rw[show p++(u1++u2)++v++q=p++u1++u2++v++q by simp,this]
 rw[show p++v++u2++u1++q=(p++v)++u2++u1++q by simp,zDa (p:=p++v) (by simp;omega) (by omega) (by omega)]
 simp
theorem qRn {l:List α} {m i j:Nat} (hij:i<j) (hi:i<=m) (hb:m+j<=l.length):
  zA7 (swr l (m - i) (m+j - i) i) (m - i) m (m+j - i)=zA7 l (m - i) m (m+j):=by
 obtain⟨p,u,v,q,rfl,hp,hu,hv⟩:=zF2 l (m - i) m (m+j) (by omega) (by omega) hb
 obtain⟨v1,v2,rfl,h1⟩:∃v1 v2,v=v1++v2/\v1.length=j - i:=⟨v.take (j - i),v.drop (j - i),(List.take_append_drop _ _).symm,by simp;omega⟩
 simp at hv
 rw[zDa (v:=v1++v2) hp.symm (by omega) (by simp;omega)]
 have:=zOi (n:=i) (p:=p) (u:=u) (m:=v1) (v:=v2) (q:=q) (by omega) (by omega)
 rw[show p.length+i+v1.length=m+j - i by omega,hp] at this
 rw[show p++u++(v1++v2)++q=p++u++v1++v2++q by simp,this]
 rw[show p++v2++v1++u++q=p++v2++v1++(u++q) by simp,zDa (p:=p) (u:=v2) (v:=v1) (q:=u++q) (by omega) (by omega) (by omega)]
 simp
theorem qRp {l:List α} {m i:Nat} (hi:i<=m) (hb:m+i<=l.length):swr l (m - i) m i=zA7 l (m - i) m (m+i):=by
 obtain⟨p,u,v,q,rfl,hp,hu,hv⟩:=zF2 l (m - i) m (m+i) (by omega) (by omega) hb
 rw[zDa hp.symm (by omega) (by omega)]
 have:=zOi (n:=i) (p:=p) (u:=u) (m:=[]) (v:=v) (q:=q) (by omega) (by omega)
 simp only[List.length_nil,Nat.add_zero,List.append_nil] at this
 rw[show p.length+i=m by omega,hp] at this
 exact this
end
end Go.Proofs.YtnemoimbeefngaaGreat
namespace Go.Proofs.YtnemoimbeefngaaGreat
section
variable {α:Type} (key num:α->Int)
def on (l:List α) (a b:Nat) (f:List α->List α):List α:=l.take a++f ((l.drop a).take (b - a))++l.drop b
theorem zFa {p u q:List α} {a b:Nat} (f:List α->List α) (ha:a=p.length) (hb:b=a+u.length):on (p++u++q) a b f=p++f u++q:=by
 subst ha hb
 unfold on
 rw[show p++u++q=p++(u++q) by simp,List.take_left' rfl,List.drop_left' rfl,Nat.add_sub_cancel_left,List.take_left' rfl,
  show p++(u++q)=(p++u)++q by simp,List.drop_left' (by simp)]
theorem zTo (l:List α) (a b:Nat) (h1:a<=b) (h2:b<=l.length):∃p u q,l=p++u++q/\p.length=a/\u.length=b - a:=by
 obtain⟨p,u,v,q,rfl,hp,hu,hv⟩:=zF2 l a b b h1 (by omega) h2
 have:v=[]:=List.length_eq_zero_iff.1 (by omega)
 subst this
 exact⟨p,u,q,by simp,hp,hu⟩
theorem zY1 (l:List α) (a b:Nat) (h1:a<=b) (h2:b<=l.length):(on l a b (srt key num)).length=l.length:=by
 obtain⟨p,u,q,rfl,hp,hu⟩:=zTo l a b h1 h2
 rw[zFa _ hp.symm (by omega)];simp[zCv]
structure SymPre (l:List α) (a m b:Nat):Prop where
 am:a<m
 mb:m<b
 bl:b<=l.length
 u:((l.drop a).take (m - a)).Pairwise (Lex key num)
 v:((l.drop m).take (b - m)).Pairwise (Lex key num)
 uv:∀x∈(l.drop a).take (m - a),∀y∈(l.drop m).take (b - m),num x<num y
theorem zD7 {p u:List α} {a:Nat} (h:a=p.length):(p++u).drop a=u:=by subst h;exact List.drop_left' rfl
theorem zEd {p u:List α} {a:Nat} (h:a=p.length):(p++u).take a=p:=by subst h;exact List.take_left' rfl
theorem SymPre.of {p u v q:List α} {a m b:Nat} (ha:a=p.length) (hm:m=a+u.length) (hb:b=m+v.length) (hu0:0<u.length) (hv0:0<v.length)
  (hu:u.Pairwise (Lex key num)) (hv:v.Pairwise (Lex key num)) (huv:∀x∈u,∀y∈v,num x<num y):SymPre key num (p++u++v++q) a m b:=by
 have e1:((p++u++v++q).drop a).take (m - a)=u:=by
  rw[show p++u++v++q=p++(u++(v++q)) by simp,zD7 ha,zEd (by omega)]
 have e2:((p++u++v++q).drop m).take (b - m)=v:=by
  rw[show p++u++v++q=(p++u)++(v++q) by simp,zD7 (by simp;omega),zEd (by omega)]
 refine⟨by omega,by omega,by simp;omega,?_,?_,?_⟩
 ·rw[e1];exact hu
 ·rw[e2];exact hv
 ·rw[e1,e2];exact huv
theorem SymPre.parts {l:List α} {a m b:Nat} (h:SymPre key num l a m b):∃p u v q,l=p++u++v++q/\a=p.length/\m=a+u.length/\b=m+v.length/\
  u.Pairwise (Lex key num)/\v.Pairwise (Lex key num)/\∀x∈u,∀y∈v,num x<num y:=by
 obtain⟨h1,h2,h3,h4,h5,h6⟩:=h
 obtain⟨p,u,v,q,rfl,hp,hu,hv⟩:=zF2 l a m b (by omega) (by omega) h3
 have e1:((p++u++v++q).drop a).take (m - a)=u:=by
  rw[show p++u++v++q=p++(u++(v++q)) by simp,zD7 hp.symm,zEd hu.symm]
 have e2:((p++u++v++q).drop m).take (b - m)=v:=by
  rw[show p++u++v++q=(p++u)++(v++q) by simp,zD7 (by simp;omega),zEd hv.symm]
 rw[e1] at h4 h6;rw[e2] at h5 h6
 exact⟨p,u,v,q,rfl,hp.symm,by omega,by omega,h4,h5,h6⟩
theorem zMv {u:List α} {x z:α} (h:(u++[x]).Pairwise (Lex key num)) (hz:z∈u++[x]):key z<=key x:=by
 rcases List.mem_append.1 hz with h'|h'
 ·have:=(List.pairwise_append.1 h).2.2 z h' x (by simp);simp only[Lex] at this;omega
 ·simp at h';subst h';omega
theorem zKp {u:List α} {x z:α} (h:(x::u).Pairwise (Lex key num)) (hz:z∈x::u):key x<=key z:=by
 rcases List.mem_cons.1 hz with h'|h'
 ·subst h';omega
 ·have:=(List.pairwise_cons.1 h).1 z h';simp only[Lex] at this;omega
theorem zKm {p x1 r:List α} {x:α} {s:Nat} (hs:s=p.length+(x1++[x]).length):(p++(x1++[x])++r)[s - 1]?=some x:=by
 subst hs
 rw[show p++(x1++[x])++r=(p++x1)++(x::r) by simp,List.getElem?_append_right (by simp)]
 simp
theorem zEl {p r:List α} {x:α} {s:Nat} (hs:s=p.length):(p++x::r)[s]?=some x:=by
 subst hs;simp
theorem snoc (u:List α) (h:u≠[]):∃u1 x,u=u1++[x]:=⟨u.dropLast,u.getLast h,(List.dropLast_concat_getLast h).symm⟩
theorem qAz {p x1 x2 y1 y2 q:List α} (hu:(x1++x2).Pairwise (Lex key num)) (hv:(y1++y2).Pairwise (Lex key num)) (huv:∀x∈x1++x2,∀y∈y1++y2,num x<num y)
  (h1:∀x z,x1≠[]->y2≠[]->(p++(x1++x2)++(y1++y2)++q)[p.length+x1.length - 1]?=some x->(p++(x1++x2)++(y1++y2)++q)[p.length+x1.length+x2.length+y1.length]?=some z->key x<=key z)
  (h2:∀x z,x2≠[]->y1≠[]->(p++(x1++x2)++(y1++y2)++q)[p.length+x1.length]?=some x->(p++(x1++x2)++(y1++y2)++q)[p.length+x1.length+x2.length+y1.length - 1]?=some z->key z<key x):
  srt key num ((x1++x2)++(y1++y2))=srt key num (x1++y1)++srt key num (x2++y2):=by
 have hx1:=(List.pairwise_append.1 hu).1
 have hx2:=(List.pairwise_append.1 hu).2.1
 have hx12:=(List.pairwise_append.1 hu).2.2
 have hy1:=(List.pairwise_append.1 hv).1
 have hy2:=(List.pairwise_append.1 hv).2.1
 have hy12:=(List.pairwise_append.1 hv).2.2
 have k1:∀x∈x1,∀y∈y2,key x<=key y:=by
  intro x hx y hy
  obtain⟨x1',x',rfl⟩:=snoc x1 (List.ne_nil_of_mem hx)
  obtain⟨y',y2',rfl⟩:=List.exists_cons_of_ne_nil (List.ne_nil_of_mem hy)
  have g1:=zMv key num hx1 hx
  have g2:=zKp key num hy2 hy
  have:=h1 x' y' (by simp) (by simp) (by rw[show p++(x1'++[x']++x2)++(y1++y'::y2')++q=p++(x1'++[x'])++(x2++(y1++y'::y2')++q) by simp];exact zKm rfl)
   (by rw[show p++(x1'++[x']++x2)++(y1++y'::y2')++q=(p++(x1'++[x']++x2)++y1)++y'::(y2'++q) by simp];exact zEl (by simp;omega))
  omega
 have k2:∀x∈x2,∀y∈y1,key y<key x:=by
  intro x hx y hy
  obtain⟨y1',y',rfl⟩:=snoc y1 (List.ne_nil_of_mem hy)
  obtain⟨x',x2',rfl⟩:=List.exists_cons_of_ne_nil (List.ne_nil_of_mem hx)
  have g1:=zMv key num hy1 hy
  have g2:=zKp key num hx2 hx
  have:=h2 x' y' (by simp) (by simp) (by rw[show p++(x1++x'::x2')++(y1'++[y']++y2)++q=(p++x1)++x'::(x2'++(y1'++[y']++y2)++q) by simp];exact zEl (by simp))
   (by rw[show p++(x1++x'::x2')++(y1'++[y']++y2)++q=(p++(x1++x'::x2'))++(y1'++[y'])++(y2++q) by simp];exact zKm (by simp;omega))
  omega
 have nn:∀x∈x1++x2,∀y∈y1++y2,num x<num y:=huv
 have nd:∀{a b:List α},a.Pairwise (Lex key num)->b.Pairwise (Lex key num)->(∀x∈a,∀y∈b,num x<num y)->(srt key num (a++b)).Pairwise (Lex key num):=by
  intro a b ha hb hab
  have h1:=zTn key num (a++b)
  have hn:(a++b).Pairwise fun x y=> ¬(key x=key y/\num x=num y):=by
   refine List.pairwise_append.2 ⟨ha.imp (by intro x y h;simp only[Lex] at h;omega),hb.imp (by intro x y h;simp only[Lex] at h;omega),?_⟩
   intro x hx y hy;have:=hab x hx y hy;omega
  have hn:=hn.perm (zB9 key num (a++b)).symm (by intro x y h;omega)
  refine (h1.and hn).imp ?_
  intro x y ⟨h,h'⟩
  simp only[zG8,decide_eq_true_eq] at h
  simp only[Lex];omega
 refine zX3 key num ?_ (nd hx1 hy1 fun x hx y hy=> nn x (by simp[hx]) y (by simp[hy])) (nd hx2 hy2 fun x hx y hy=> nn x (by simp[hx]) y (by simp[hy])) ?_
 ·rw[show x1++x2++(y1++y2)=x1++(x2++y1)++y2 by simp,show x1++y1++(x2++y2)=x1++(y1++x2)++y2 by simp]
  exact (List.perm_append_comm.append_left x1).append_right y2
 ·intro x hx y hy
  simp only[Lex]
  rcases List.mem_append.1 hx with hx|hx<;> rcases List.mem_append.1 hy with hy|hy
  ·exact hx12 x hx y hy
  ·have:=k1 x hx y hy;have:=nn x (by simp[hx]) y (by simp[hy]);omega
  ·have:=k2 y hy x hx;omega
  ·exact hy12 x hx y hy
theorem qLb {l:List α} {a m b s e mid:Nat} (h:SymPre key num l a m b) (hmid:mid=(a+b) / 2) (hse:s+e=mid+m) (has:a<=s) (hsm:s<=m) (hme:m<=e) (heb:e<=b)
  (h1:∀x z,a<s->e<b->l[s - 1]?=some x->l[e]?=some z->key x<=key z)
  (h2:∀x z,s<m->m<e->l[s]?=some x->l[e - 1]?=some z->key z<key x):
  let l1:=if s<m/\m<e then zA7 l s m e else l
  let l2:=if a<s/\s<mid then on l1 a mid (srt key num) else l1
  let l3:=if mid<e/\e<b then on l2 mid b (srt key num) else l2
  l1.length=l.length/\l2.length=l.length/\(a<s/\s<mid->SymPre key num l1 a s mid)/\(mid<e/\e<b->SymPre key num l2 mid e b)/\l3=on l a b (srt key num):=by
 obtain⟨p,u,v,q,rfl,ha,hm,hb,hu,hv,huv⟩:=h.parts
 obtain⟨x1,x2,rfl,n1⟩:∃u1 u2,u=u1++u2/\u1.length=s - a:=⟨u.take (s - a),u.drop (s - a),(List.take_append_drop _ _).symm,by simp;omega⟩
 obtain⟨y1,y2,rfl,n2⟩:∃u1 u2,v=u1++u2/\u1.length=e - m:=⟨v.take (e - m),v.drop (e - m),(List.take_append_drop _ _).symm,by simp;omega⟩
 simp only[List.length_append] at hm hb
 have hparts:=qAz key num (p:=p) (q:=q) hu hv huv
  (by intro x z hx hy e1 e2
      have:=List.length_pos_iff.2 hx;have:=List.length_pos_iff.2 hy
      refine h1 x z (by omega) (by omega) ?_ ?_
      ·rw[←e1];congr 1;omega
      ·rw[←e2];congr 1;omega)
  (by intro x z hx hy e1 e2
      have:=List.length_pos_iff.2 hx;have:=List.length_pos_iff.2 hy
      refine h2 x z (by omega) (by omega) ?_ ?_
      ·rw[←e1];congr 1;omega
      ·rw[←e2];congr 1;omega)
 have el1:(if s<m/\m<e then zA7 (p++(x1++x2)++(y1++y2)++q) s m e else p++(x1++x2)++(y1++y2)++q)=p++x1++y1++x2++y2++q:=by
  split
  ·rw[show p++(x1++x2)++(y1++y2)++q=(p++x1)++x2++y1++(y2++q) by simp,zDa (by simp;omega) (by omega) (by omega)]
   simp
  ·rename_i hc
   have:x2=[]∨y1=[]:=by
    rw[←List.length_eq_zero_iff,←List.length_eq_zero_iff];omega
   rcases this with rfl|rfl<;> simp
 have hx1:=(List.pairwise_append.1 hu).1
 have hx2:=(List.pairwise_append.1 hu).2.1
 have hy1:=(List.pairwise_append.1 hv).1
 have hy2:=(List.pairwise_append.1 hv).2.1
 have n5:a<s/\s<mid->SymPre key num (p++x1++y1++x2++y2++q) a s mid:=by
  intro hc
  rw[show p++x1++y1++x2++y2++q=p++x1++y1++(x2++y2++q) by simp]
  exact SymPre.of key num ha (by omega) (by omega) (by omega) (by omega) hx1 hy1 fun x hx y hy=> huv x (by simp[hx]) y (by simp[hy])
 have el2:(if a<s/\s<mid then on (p++x1++y1++x2++y2++q) a mid (srt key num) else p++x1++y1++x2++y2++q)=p++srt key num (x1++y1)++x2++y2++q:=by
  split
  ·rw[show p++x1++y1++x2++y2++q=p++(x1++y1)++(x2++y2++q) by simp,zFa _ ha (by simp;omega)]
   simp
  ·rename_i hc
   have:x1=[]∨y1=[]:=by
    rw[←List.length_eq_zero_iff,←List.length_eq_zero_iff];omega
   rcases this with rfl|rfl
   ·simp[zIw key num hy1]
   ·simp[zIw key num hx1]
 have el3:(if mid<e/\e<b then on (p++srt key num (x1++y1)++x2++y2++q) mid b (srt key num) else p++srt key num (x1++y1)++x2++y2++q)=
   p++srt key num (x1++y1)++srt key num (x2++y2)++q:=by
  split
  ·rw[show p++srt key num (x1++y1)++x2++y2++q=(p++srt key num (x1++y1))++(x2++y2)++q by simp,zFa _ (by simp[zCv];omega) (by simp;omega)]
  ·rename_i hc
   have:x2=[]∨y2=[]:=by
    rw[←List.length_eq_zero_iff,←List.length_eq_zero_iff];omega
   rcases this with rfl|rfl
   ·simp[zIw key num hy2]
   ·simp[zIw key num hx2]
 intro l1 l2 l3
 have q1:l1=p++x1++y1++x2++y2++q:=el1
 have q2:l2=p++srt key num (x1++y1)++x2++y2++q:=by rw[←el2,←q1]
 have q3:l3=p++srt key num (x1++y1)++srt key num (x2++y2)++q:=by rw[←el3,←q2]
 rw[q1,q2,q3]
 refine⟨by simp;omega,by simp[zCv];omega,n5,?_,?_⟩
 ·intro hc
  rw[show p++srt key num (x1++y1)++x2++y2++q=(p++srt key num (x1++y1))++x2++y2++q by simp]
  exact SymPre.of key num (by simp[zCv];omega) (by omega) (by omega) (by omega) (by omega) hx2 hy2 fun x hx y hy=> huv x (by simp[hx]) y (by simp[hy])
 ·rw[show p++(x1++x2)++(y1++y2)++q=p++((x1++x2)++(y1++y2))++q by simp,zFa _ ha (by simp;omega),hparts]
  simp
theorem qKi {l:List α} {a m s:Nat} (h:SymPre key num l a m (m+1)) (has:a<=s) (hsm:s<=m)
  (h1:∀x z,a<s->l[s - 1]?=some x->l[m]?=some z->key x<=key z) (h2:∀x z,s<m->l[s]?=some x->l[m]?=some z->key z<key x):
  zA7 l s m (m+1)=on l a (m+1) (srt key num):=by
 obtain⟨p,u,v,q,rfl,ha,hm,hb,hu,hv,huv⟩:=h.parts
 obtain⟨z,rfl⟩:∃z,v=[z]:=List.length_eq_one_iff.1 (by omega)
 obtain⟨x1,x2,rfl,n1⟩:∃u1 u2,u=u1++u2/\u1.length=s - a:=⟨u.take (s - a),u.drop (s - a),(List.take_append_drop _ _).symm,by simp;omega⟩
 simp only[List.length_append] at hm
 have gz:(p++(x1++x2)++[z]++q)[m]?=some z:=by
  rw[show p++(x1++x2)++[z]++q=(p++(x1++x2))++z::q by simp];exact zEl (by simp;omega)
 rw[show p++(x1++x2)++[z]++q=(p++x1)++x2++[z]++q by simp,zDa (by simp;omega) (by omega) (by simp)]
 rw[show p++x1++x2++[z]++q=p++(x1++x2++[z])++q by simp,zFa _ ha (by simp;omega)]
 rw[←zGl key num (l':=x1++[z]++x2) (l:=x1++x2++[z])]
 ·simp
 ·rw[List.append_assoc,List.append_assoc];exact List.perm_append_comm.append_left x1
 ·have hx1:=(List.pairwise_append.1 hu).1
  have hx2:=(List.pairwise_append.1 hu).2.1
  have hx12:=(List.pairwise_append.1 hu).2.2
  refine List.pairwise_append.2 ⟨List.pairwise_append.2 ⟨hx1,by simp,?_⟩,hx2,?_⟩
  ·intro x hx y hy
   simp only[List.mem_singleton] at hy;subst hy
   have:=huv x (by simp[hx]) y (by simp)
   obtain⟨x1',x',rfl⟩:=snoc x1 (List.ne_nil_of_mem hx)
   have g1:=zMv key num hx1 hx
   have:=h1 x' y (by simp at n1;omega) (by rw[show p++(x1'++[x']++x2)++[y]++q=p++(x1'++[x'])++(x2++[y]++q) by simp];exact zKm (by omega)) gz
   simp only[Lex];omega
  ·intro x hx y hy
   rcases List.mem_append.1 hx with hx|hx
   ·exact hx12 x hx y hy
   ·simp only[List.mem_singleton] at hx;subst hx
    obtain⟨x',x2',rfl⟩:=List.exists_cons_of_ne_nil (List.ne_nil_of_mem hy)
    have g2:=zKp key num hx2 hy
    have:=h2 x' x (by simp at hm;omega) (by rw[show p++(x1++x'::x2')++[x]++q=(p++x1)++x'::(x2'++[x]++q) by simp];exact zEl (by simp;omega)) gz
    simp only[Lex];omega
theorem one_l {l:List α} {a b i:Nat} (h:SymPre key num l a (a+1) b) (hai:a+1<=i) (hib:i<=b)
  (h1:∀x z,a+1<i->l[i - 1]?=some z->l[a]?=some x->key z<key x) (h2:∀x z,i<b->l[i]?=some z->l[a]?=some x->key x<=key z):
  zA7 l a (a+1) i=on l a b (srt key num):=by
 obtain⟨p,u,v,q,rfl,ha,hm,hb,hu,hv,huv⟩:=h.parts
 obtain⟨z,rfl⟩:∃z,u=[z]:=List.length_eq_one_iff.1 (by omega)
 obtain⟨y1,y2,rfl,n1⟩:∃u1 u2,v=u1++u2/\u1.length=i - (a+1):=⟨v.take (i - (a+1)),v.drop (i - (a+1)),(List.take_append_drop _ _).symm,by simp;omega⟩
 simp only[List.length_append] at hb
 have gz:(p++[z]++(y1++y2)++q)[a]?=some z:=by
  rw[show p++[z]++(y1++y2)++q=p++z::((y1++y2)++q) by simp];exact zEl ha
 rw[show p++[z]++(y1++y2)++q=p++[z]++y1++(y2++q) by simp,zDa ha (by simp) (by omega)]
 rw[show p++[z]++y1++(y2++q)=p++([z]++y1++y2)++q by simp,zFa _ ha (by simp;omega)]
 rw[←zGl key num (l':=y1++[z]++y2) (l:=[z]++y1++y2)]
 ·simp
 ·exact List.perm_append_comm.append_right y2
 ·have hy1:=(List.pairwise_append.1 hv).1
  have hy2:=(List.pairwise_append.1 hv).2.1
  have hy12:=(List.pairwise_append.1 hv).2.2
  refine List.pairwise_append.2 ⟨List.pairwise_append.2 ⟨hy1,by simp,?_⟩,hy2,?_⟩
  ·intro y hy x hx
   simp only[List.mem_singleton] at hx;subst hx
   obtain⟨y1',y',rfl⟩:=snoc y1 (List.ne_nil_of_mem hy)
   have g1:=zMv key num hy1 hy
   have:=h1 x y' (by simp at n1;omega) (by rw[show p++[x]++(y1'++[y']++y2)++q=(p++[x])++(y1'++[y'])++(y2++q) by simp];exact zKm (by simp at n1⊢;omega)) gz
   simp only[Lex];omega
  ·intro x hx y hy
   rcases List.mem_append.1 hx with hx|hx
   ·exact hy12 x hx y hy
   ·simp only[List.mem_singleton] at hx;subst hx
    have:=huv x (by simp) y (by simp[hy])
    obtain⟨y',y2',rfl⟩:=List.exists_cons_of_ne_nil (List.ne_nil_of_mem hy)
    have g2:=zKp key num hy2 hy
    have:=h2 x y' (by simp at hb;omega) (by rw[show p++[x]++(y1++y'::y2')++q=(p++[x]++y1)++y'::(y2'++q) by simp];exact zEl (by simp;omega)) gz
    simp only[Lex];omega
end
end Go.Proofs.YtnemoimbeefngaaGreat
namespace Go.Proofs.YtnemoimbeefngaaGreat
section
variable {α:Type} (key num:α->Int)
def blk (bs:Nat):Nat->List α->List α
 |0,l=> srt key num l
 |n+1,l=> if l.length<=bs then srt key num l else srt key num (l.take bs)++blk bs n (l.drop bs)
def bk (bs:Nat) (l:List α):List α:=blk key num bs l.length l
theorem zN7 {bs:Nat} (hb:0<bs):∀(n:Nat) (l:List α),l.length<=n->blk key num bs n l=bk key num bs l
 |0,l,h=> by
  have:l=[]:=List.length_eq_zero_iff.1 (by omega)
  subst this;rfl
 |n+1,l,h=> by
  unfold bk
  cases hl:l.length with
  |zero=>
   have:l=[]:=List.length_eq_zero_iff.1 hl
   subst this;simp[blk]
  |succ k=>
   simp only[blk]
   split
   ·rfl
   ·rw[zN7 hb n (l.drop bs) (by simp;omega),zN7 hb k (l.drop bs) (by simp;omega)]
theorem zFi {bs:Nat} {l:List α} (h:l.length<=bs):bk key num bs l=srt key num l:=by
 unfold bk
 cases hl:l.length with
 |zero=> rfl
 |succ k=> simp only[blk];rw[if_pos h]
theorem zJy {bs:Nat} (hb:0<bs) {p r:List α} (hp:p.length=bs):bk key num bs (p++r)=srt key num p++bk key num bs r:=by
 unfold bk
 cases hl:(p++r).length with
 |zero=> rw[List.length_append] at hl;omega
 |succ k=>
  simp only[blk]
  split
  ·rename_i hc
   have:r=[]:=List.length_eq_zero_iff.1 (by simp at hc;omega)
   subst this
   simp[blk,srt]
  ·rw[zEd hp.symm,zD7 hp.symm,zN7 key num hb k r (by simp at hl;omega)];rfl
theorem zGi {bs:Nat} (hb:0<bs):∀(k:Nat) {p r:List α},p.length=bs*k->bk key num bs (p++r)=bk key num bs p++bk key num bs r
 |0,p,r,h=> by
  have:p=[]:=List.length_eq_zero_iff.1 (by simpa using h)
  subst this;simp[bk,blk,srt]
 |k+1,p,r,h=> by
  rw[Nat.mul_succ] at h
  obtain⟨p1,p2,rfl,h1⟩:∃p1 p2,p=p1++p2/\p1.length=bs:=⟨p.take bs,p.drop bs,(List.take_append_drop _ _).symm,by simp;omega⟩
  simp at h
  rw[List.append_assoc,zJy key num hb h1,zJy key num hb h1,zGi hb k (by omega),List.append_assoc]
theorem zI6 {bs:Nat} (hb:0<bs):∀(l:List α),(bk key num bs l).length=l.length:=by
 have:∀(n:Nat) (l:List α),(blk key num bs n l).length=l.length:=by
  intro n
  induction n with
  |zero=> intro l;simp[blk,zCv]
  |succ n ih=>
   intro l;simp only[blk]
   split
   ·simp[zCv]
   ·simp[zCv,ih];omega
 intro l;exact this _ l
def Nm (l:List α):Prop:=l.Pairwise fun a b=> num a<num b
theorem qSp {bs i:Nat} {l:List α} (hb:0<bs) (h:bs*i+bs<=l.length):
  on (bk key num bs (l.take (bs*i))++l.drop (bs*i)) (bs*i) (bs*i+bs) (srt key num)=bk key num bs (l.take (bs*i+bs))++l.drop (bs*i+bs):=by
 obtain⟨p,u,q,rfl,hp,hu⟩:=zTo l (bs*i) (bs*i+bs) (by omega) h
 rw[show p++u++q=p++(u++q) by simp,zEd hp.symm,zD7 hp.symm,show p++(u++q)=(p++u)++q by simp,zEd (by simp;omega),zD7 (by simp;omega)]
 rw[←List.append_assoc,zFa _ (by simp[zI6 key num hb,hp]) (by omega),zGi key num hb i hp,zFi key num (l:=u) (by omega)]
theorem qPw {bs i:Nat} {l:List α} (hb:0<bs) (h:bs*i<=l.length) (h2:l.length<bs*i+bs):
  on (bk key num bs (l.take (bs*i))++l.drop (bs*i)) (bs*i) l.length (srt key num)=bk key num bs l:=by
 obtain⟨p,u,q,rfl,hp,hu⟩:=zTo l (bs*i) l.length (by omega) (by omega)
 have:q=[]:=List.length_eq_zero_iff.1 (by simp at hu;omega)
 subst this
 simp only[List.append_nil] at*
 rw[zEd hp.symm,zD7 hp.symm]
 rw[show bk key num bs p++u=bk key num bs p++u++[] by simp,zFa _ (by simp[zI6 key num hb,hp]) (by simp;omega),zGi key num hb i hp,zFi key num (l:=u) (by simp at h2;omega)]
 simp
theorem qBc {l l':List α} (hp:l'.Perm l) (h:(srt key num l').Pairwise (Lex key num)):srt key num l'=srt key num l:=
 zGl key num ((zB9 key num l').trans hp) h
theorem zPv {u v:List α} (h:Nm num (u++v)):srt key num (srt key num u++srt key num v)=srt key num (u++v):=by
 refine (qBc key num ?_ (zGm key num h)).symm
 exact ((zB9 key num u).append (zB9 key num v)).symm
theorem Nm.sub {l l':List α} (h:Nm num l) (hs:l'.Sublist l):Nm num l':=List.Pairwise.sublist hs h
theorem zW6 {D u v q:List α} {a m b:Nat} (h:Nm num (u++v)) (ha:a=D.length) (hm:m=a+u.length) (hb:b=m+v.length) (hu0:0<u.length) (hv0:0<v.length):
  SymPre key num (D++srt key num u++srt key num v++q) a m b:=by
 obtain⟨h1,h2,h3⟩:=List.pairwise_append.1 h
 exact SymPre.of key num ha (by simp[zCv];omega) (by simp[zCv];omega) (by simp[zCv];omega) (by simp[zCv];omega) (zGm key num h1) (zGm key num h2)
  fun x hx y hy=> h3 x ((zB9 key num u).mem_iff.1 hx) y ((zB9 key num v).mem_iff.1 hy)
theorem qJm {bs i:Nat} {l:List α} (hb:0<bs) (hn:Nm num l) (h:2*bs*i+2*bs<=l.length):
  SymPre key num (bk key num (2*bs) (l.take (2*bs*i))++bk key num bs (l.drop (2*bs*i))) (2*bs*i) (2*bs*i+bs) (2*bs*i+2*bs)/\
  on (bk key num (2*bs) (l.take (2*bs*i))++bk key num bs (l.drop (2*bs*i))) (2*bs*i) (2*bs*i+2*bs) (srt key num)=
   bk key num (2*bs) (l.take (2*bs*i+2*bs))++bk key num bs (l.drop (2*bs*i+2*bs)):=by
 obtain⟨p,u,v,q,rfl,hp,hu,hv⟩:=zF2 l (2*bs*i) (2*bs*i+bs) (2*bs*i+2*bs) (by omega) (by omega) h
 have hnuv:Nm num (u++v):=hn.sub num (by simp)
 rw[show p++u++v++q=p++(u++(v++q)) by simp,zEd hp.symm,zD7 hp.symm,show p++(u++(v++q))=(p++(u++v))++q by simp,zEd (by simp;omega),zD7 (by simp;omega)]
 rw[zJy key num hb (by omega),zJy key num hb (by omega),←List.append_assoc,←List.append_assoc]
 refine⟨zW6 key num hnuv (by simp[zI6 key num (show 0<2*bs by omega),hp]) (by omega) (by omega) (by omega) (by omega),?_⟩
 rw[show bk key num (2*bs) p++srt key num u++srt key num v++bk key num bs q=bk key num (2*bs) p++(srt key num u++srt key num v)++bk key num bs q by simp]
 rw[zFa _ (by simp[zI6 key num (show 0<2*bs by omega),hp]) (by simp[zCv];omega),zPv key num hnuv]
 rw[zGi key num (show 0<2*bs by omega) i hp,zFi key num (bs:=2*bs) (l:=u++v) (by simp;omega)]
theorem zRw {bs i:Nat} {l:List α} (hb:0<bs) (hn:Nm num l) (h:2*bs*i+bs<l.length) (h2:l.length<2*bs*i+2*bs):
  SymPre key num (bk key num (2*bs) (l.take (2*bs*i))++bk key num bs (l.drop (2*bs*i))) (2*bs*i) (2*bs*i+bs) l.length/\
  on (bk key num (2*bs) (l.take (2*bs*i))++bk key num bs (l.drop (2*bs*i))) (2*bs*i) l.length (srt key num)=bk key num (2*bs) l:=by
 obtain⟨p,u,v,q,rfl,hp,hu,hv⟩:=zF2 l (2*bs*i) (2*bs*i+bs) l.length (by omega) (by omega) (by omega)
 have:q=[]:=List.length_eq_zero_iff.1 (by simp at hv;omega)
 subst this
 simp only[List.append_nil] at*
 have hlen:(p++u++v).length=p.length+u.length+v.length:=by simp;omega
 have hnuv:Nm num (u++v):=hn.sub num (by simp)
 rw[show p++u++v=p++(u++v) by simp,zEd hp.symm,zD7 hp.symm]
 rw[zJy key num hb (by omega),zFi key num (bs:=bs) (l:=v) (by omega),←List.append_assoc]
 rw[show bk key num (2*bs) p++srt key num u++srt key num v=bk key num (2*bs) p++srt key num u++srt key num v++[] by simp]
 refine⟨zW6 key num hnuv (by simp[zI6 key num (show 0<2*bs by omega),hp]) (by omega) (by simp;omega) (by omega) (by omega),?_⟩
 rw[show bk key num (2*bs) p++srt key num u++srt key num v++[]=bk key num (2*bs) p++(srt key num u++srt key num v)++[] by simp]
 rw[zFa _ (by simp[zI6 key num (show 0<2*bs by omega),hp]) (by simp[zCv];omega),zPv key num hnuv]
 rw[zGi key num (show 0<2*bs by omega) i hp,zFi key num (bs:=2*bs) (l:=u++v) (by simp;omega)]
 simp
theorem zRv {bs i:Nat} {l:List α} (hb:0<bs) (h:l.length<=2*bs*i+bs) (h2:2*bs*i<=l.length):
  bk key num (2*bs) (l.take (2*bs*i))++bk key num bs (l.drop (2*bs*i))=bk key num (2*bs) l:=by
 obtain⟨p,q,rfl,hp⟩:∃p q,l=p++q/\p.length=2*bs*i:=⟨l.take (2*bs*i),l.drop (2*bs*i),(List.take_append_drop _ _).symm,by simp;omega⟩
 simp at h
 rw[zEd hp.symm,zD7 hp.symm,zGi key num (show 0<2*bs by omega) i hp,zFi key num (bs:=bs) (l:=q) (by omega),zFi key num (bs:=2*bs) (l:=q) (by omega)]
end
end Go.Proofs.YtnemoimbeefngaaGreat
namespace Go.Proofs
namespace YtnemoimbeefngaaGreat
open Go.Abs
def zSr (w:Int):Int:=if w % 32=0 then -1 else (w % 32 - 1) / 2
def wVer (w:Int):Int:=w / 32
structure RightW (w:Int):Prop where
 lo:0<=w
 ver:w / 32<=1099511627776
 low:w % 32=0∨w % 32=1∨w % 32=3∨w % 32=5∨w % 32=7
def zU6 (w:Int) (i:Nat):Bool:=decide ((w / 2 ^ i) % 2=1)
def fl (w:Int) (i:Nat):List Value:=[.bool (decide (0<i) && zU6 w 0),.bool (decide (1<i) && zU6 w 1),.bool (decide (2<i) && zU6 w 2),.bool (decide (3<i) && zU6 w 3),.bool (decide (4<i) && zU6 w 4)]
end YtnemoimbeefngaaGreat
end Go.Proofs
namespace Go.Proofs
namespace YtnemoimbeefngaaGreat
open Go.Abs
def acc (x1 x2:Bool) (i:Nat):Int:=(if x1=true/\0<i then 1 else 0)+(if x2=true/\1<i then 2 else 0)
end YtnemoimbeefngaaGreat
end Go.Proofs
namespace Go.Proofs
namespace YtnemoimbeefngaaGreat
open Go.Abs
end YtnemoimbeefngaaGreat
end Go.Proofs
namespace Go.Proofs
namespace YtnemoimbeefngaaGreat
open Go.Abs
end YtnemoimbeefngaaGreat
end Go.Proofs
namespace Go.Proofs
namespace YtnemoimbeefngaaGreat
open Go.Abs
structure GoodT (ws:List Int) (c:Int):Prop where
 len1:1<=ws.length
 len8:ws.length<=8
 right:∀w∈ws,RightW w/\wVer w<=c
 c0:0<=c
 c1:c<=1099511627776
def getW (ws:List Int) (s:Int):Int:=ws.getD s.toNat 0
def inR (ws:List Int) (s:Int):Prop:=0<=s/\s<ws.length
instance (ws:List Int) (s:Int):Decidable (inR ws s):=by unfold inR;infer_instance
def ownTV (ws:List Int) (s:Int):Int:=if inR ws s then (if 0<=zSr (getW ws s) then zSr (getW ws s) else 0) else 0
def ownTB (ws:List Int) (s:Int):Bool:=if inR ws s then decide (0<=zSr (getW ws s)) else false
def verT (ws:List Int) (s:Int):Int:=if inR ws s then wVer (getW ws s) else 0
end YtnemoimbeefngaaGreat
end Go.Proofs
namespace Go.Proofs
namespace YtnemoimbeefngaaGreat
open Go.Abs
end YtnemoimbeefngaaGreat
end Go.Proofs
namespace Go.Proofs
namespace YtnemoimbeefngaaGreat
open Go.Abs
end YtnemoimbeefngaaGreat
end Go.Proofs
namespace Go.Proofs
namespace YtnemoimbeefngaaGreat
open Go.Abs
def isH (ws:List Int) (o:Int) (i:Nat):Bool:=decide (ownTB ws i=true/\ownTV ws i=o)
def heldN (ws:List Int) (o:Int) (n:Nat):List Int:=((List.range n).filter (isH ws o)).map fun i:Nat=> (i:Int)
def zZm (ws:List Int) (o:Int):List Int:=heldN ws o ws.length
end YtnemoimbeefngaaGreat
end Go.Proofs
namespace Go.Proofs
namespace YtnemoimbeefngaaGreat
open Go.Abs
end YtnemoimbeefngaaGreat
end Go.Proofs
namespace Go.Proofs
namespace YtnemoimbeefngaaGreat
open Go.Abs
end YtnemoimbeefngaaGreat
end Go.Proofs
namespace Go.Proofs
namespace YtnemoimbeefngaaGreat
open Go.Abs
end YtnemoimbeefngaaGreat
end Go.Proofs
namespace Go.Proofs
namespace YtnemoimbeefngaaGreat
open Go.Abs
structure Deed where
 k:Int
 o:Int
 s:Int
 v:Int
def Deed.cells (d:Deed):List Value:=[.int .i64 d.k,.int .i64 d.o,.int .i64 d.s,.int .u64 d.v]
end YtnemoimbeefngaaGreat
end Go.Proofs
namespace Go.Proofs
namespace YtnemoimbeefngaaGreat
open Go.Abs
def zJi (l:List Deed):List Value:=l.flatMap Deed.cells
theorem zZx (d:Deed) (l:List Deed):zJi (d::l)=.int .i64 d.k::.int .i64 d.o::.int .i64 d.s::.int .u64 d.v::zJi l:=rfl
theorem zUy (l:List Deed):xI (zJi l)=true:=by
 induction l with
 |nil=> rfl
 |cons e l ih=> rw[zZx];simpa [xI,xY] using ih
theorem qCe (θ:Nat->Nat) (l:List Deed):zAu θ (zJi l)=zJi l:=zAy θ _ (zUy l)
attribute [simp] qCe
def zQj:List Value->Option (List Deed)
 |[]=> some []
 |.int .i64 k::.int .i64 o::.int .i64 s::.int .u64 v::l=> (zQj l).map (⟨k,o,s,v⟩::·)
 |_=> none
theorem zK8:∀l:List Deed,zQj (zJi l)=some l
 |[]=> rfl
 |e::l=> by
  show (zQj (zJi l)).map (_::·)=_
  rw[zK8 l];rfl
attribute [simp] zK8
end YtnemoimbeefngaaGreat
end Go.Proofs
namespace Go.Proofs
namespace YtnemoimbeefngaaGreat
open Go.Abs
end YtnemoimbeefngaaGreat
end Go.Proofs
namespace Go.Proofs
namespace YtnemoimbeefngaaGreat
open Go.Abs
end YtnemoimbeefngaaGreat
end Go.Proofs
namespace Go.Proofs
namespace YtnemoimbeefngaaGreat
open Go.Abs
end YtnemoimbeefngaaGreat
end Go.Proofs
namespace Go.Proofs
namespace YtnemoimbeefngaaGreat
open Go.Abs
end YtnemoimbeefngaaGreat
end Go.Proofs
namespace Go.Proofs
namespace YtnemoimbeefngaaGreat
open Go.Abs
end YtnemoimbeefngaaGreat
end Go.Proofs
namespace Go.Proofs
namespace YtnemoimbeefngaaGreat
open Go.Abs
structure TA.Ok (a:TA) (s:TS):Prop where
 n:a.n<s.ft.length
 rv:0<=a.rv/\a.rv<=s.c
 wv:0<=a.wv/\a.wv<=s.c
 es:Good a.es
 est:∀e∈a.es,e.t<s.hp.length
 fs:zA6 a.fs
 fst:∀f∈a.fs,∀p∈f,0<=p.t/\p.t<s.hp.length/\0<=p.v/\p.v<18446744073709551616
 ask:0<=a.ra.k/\a.ra.k<=7/\(a.ra.k=1∨a.ra.k=2->0<=a.ra.t/\a.ra.t<s.hp.length)/\0<=a.ra.v/\a.ra.v<18446744073709551616
 sw:0<=a.sw/\a.sw<18446744073709551616
 sv:0<=a.sv/\a.sv<18446744073709551616
 ss:a.ss<=3
 sr:a.ra.k=1->a.ss<=2
 nx:a.nx<=100
 ph:a.ph<=4
 p2:a.ph=2->a.nx<=a.es.length
 p3:a.ph=3->a.nx<(zAk a.fs).length
 p6:a.ph≠0->a.ra.k=6/\zAk a.fs≠[]
 ww:(a.ra.k=3->a.fs.length<5)/\(a.ra.k=4∨a.ra.k=5->1<a.fs.length)
def zP3 (ws:List Int) (i:Nat):Int:=match ws[i]? with
 |some w=> zSr w
 |none=> -1
def qTq (ws:List Int) (th:Nat) (a:TA):Prop:=
 (a.ph=0->zZm ws th=[])/\(2<=a.ph->zZm ws th≠[])/\(a.dec=true↔3<=a.ph)/\(2<=a.ph->∀i:Nat,zP3 ws i=th->verT ws i<=a.wv)
structure TS.Ok (s:TS):Prop where
 hp:1<=s.hp.length/\s.hp.length<=12
 hv:∀v∈s.hp,0<=v/\v<18446744073709551616
 tab:GoodT s.ws s.c
 ft:s.ft.length<=64
 ts:∀th a,s.ts th=some a->a.Ok s
 lk:∀th a,s.ts th=some a->qTq s.ws th a
 no:∀th,s.ts th=none->zZm s.ws (th:Int)=[]
 th4:∀th,4<=th->s.ts th=none
end YtnemoimbeefngaaGreat
end Go.Proofs
namespace Go.Proofs
namespace YtnemoimbeefngaaGreat
open Go.Abs
def p4 (x:Nat):Nat->List Nat
 |0=> [x,6,7,8]
 |1=> [6,x,7,8]
 |2=> [6,7,x,8]
 |_=> [6,7,8,x]
def u1 (th:Nat):Nat:=if th=0 then 1 else 0
def u2 (th:Nat):Nat:=if th<=1 then 2 else 1
theorem qDc (k:Nat) (o:Option TA):leV (zJb k o) (zJb k o)=True:=zKi _
theorem qAw (θ:Nat->Nat) (k:Nat) (o:Option TA):ren θ (zJb k o)=zJb (θ k) o:=by cases o<;> rfl
theorem zYq (θ:Nat->Nat) (x:Option TA):(zF1 x).ren θ=zF1 x:=by cases x<;> simp[zF1,zOt,zMs,zAu]
theorem zV3 (x:Option TA):(zF1 x).mine=true:=by cases x<;> rfl
theorem zZa (x:Option TA):leO (zF1 x) (zF1 x)=True:=eq_true (zNw _)
theorem qAs (e:TypeId) (cs:List Value):(AObj.arr e cs:AObj GD).mine=true:=rfl
theorem qEw (d:GD):(AObj.hi d).mine=true:=rfl
theorem qAr (es:List MapEntry) (c:Nat):(AObj.map es c:AObj GD).mine=true:=rfl
theorem zZt (e:Fate) (l:List Fate):zM3 (e::l)=.int .i64 e.n::.int .u64 e.key::.int .u8 e.why::zM3 l:=rfl
theorem zUr (l:List Fate):xI (zM3 l)=true:=by
 induction l with
 |nil=> rfl
 |cons e l ih=> rw[zZt];simp[xI,xY,ih]
theorem qCd (θ:Nat->Nat) (l:List Fate):zAu θ (zM3 l)=zM3 l:=zAy θ _ (zUr l)
attribute [simp] qAs qEw qAr zYq zV3 zZa zPy qCd qAw qDc
end YtnemoimbeefngaaGreat
end Go.Proofs
namespace Go.Proofs
namespace YtnemoimbeefngaaGreat
open Go.Abs
def zU1 (a b:Int):Int:=if a<b then -1 else if b<a then 1 else 0
theorem zHu (a b:Int):zU1 a b<0↔a<b:=by
 unfold zU1;split
 ·omega
 ·split<;> omega
end YtnemoimbeefngaaGreat
end Go.Proofs
namespace Go.Proofs
namespace YtnemoimbeefngaaGreat
open Go.Abs
end YtnemoimbeefngaaGreat
end Go.Proofs
namespace Go.Proofs
namespace YtnemoimbeefngaaGreat
open Go.Abs
section
variable {α:Type} (key num:α->Int)
theorem qFi {l:List α} {i j:Nat} (h:i≠j):swp l i j=swp l j i:=by
 unfold swp
 cases hi:l[i]?<;> cases hj:l[j]?<;> simp
 exact List.set_comm _ _ h
theorem zYo {l:List α} {a m b k:Nat} (h:k<a) (ha:a<=l.length):(zA7 l a m b)[k]?=l[k]?:=by
 unfold zA7
 rw[List.append_assoc,List.append_assoc,List.getElem?_append_left (by simp;omega),List.getElem?_take,if_pos h]
theorem zTv {l:List α} {a b:Nat} (h:a<=b):zA7 l a a b=l:=by
 unfold zA7
 rw[Nat.sub_self,List.take_zero,List.append_nil,List.append_assoc]
 have:(l.drop a).take (b - a)++l.drop b=l.drop a:=by
  have:=List.take_append_drop (b - a) (l.drop a)
  rw[List.drop_drop,show a+(b - a)=b by omega] at this;exact this
 rw[this,List.take_append_drop]
theorem qB3 {l:List α} {a m:Nat} (h:a<=m):zA7 l a m m=l:=by
 unfold zA7
 rw[Nat.sub_self,List.take_zero,List.append_nil,List.append_assoc]
 have:(l.drop a).take (m - a)++l.drop m=l.drop a:=by
  have:=List.take_append_drop (m - a) (l.drop a)
  rw[List.drop_drop,show a+(m - a)=m by omega] at this;exact this
 rw[this,List.take_append_drop]
theorem zOx {l:List α} {j i:Nat} (hj:j<=i) (hi:i<l.length):∃p u x q,l=p++u++[x]++q/\p.length=j/\u.length=i - j/\l[i]?=some x:=by
 obtain⟨p,u,v,q,rfl,h1,h2,h3⟩:=zF2 l j i (i+1) hj (by omega) hi
 obtain⟨x,rfl⟩:∃x,v=[x]:=List.length_eq_one_iff.1 (by omega)
 refine⟨p,u,x,q,rfl,h1,h2,?_⟩
 rw[show p++u++[x]++q=(p++u)++x::q by simp]
 exact zEl (by simp;omega)
theorem qG9 {l:List α} {j i:Nat} (hj:j<=i) (hi:i<l.length):(zA7 l j i (i+1))[j]?=l[i]?:=by
 obtain⟨p,u,x,q,hl,h1,h2,hx⟩:=zOx hj hi
 rw[hx,hl,zDa h1.symm (by omega) (by simp)]
 rw[show p++[x]++u++q=p++x::(u++q) by simp]
 exact zEl h1.symm
theorem zOq {l:List α} {j i:Nat} (hj:j+1<=i) (hi:i<l.length):swp (zA7 l (j+1) i (i+1)) (j+1) j=zA7 l j i (i+1):=by
 obtain⟨p,u,x,q,hl,h1,h2,hx⟩:=zOx (show j<=i by omega) hi
 obtain⟨y,u,rfl⟩:∃y u',u=y::u':=List.exists_cons_of_length_pos (by omega)
 rw[hl,zDa h1.symm (by omega) (by simp)]
 rw[show p++y::u++[x]++q=(p++[y])++u++[x]++q by simp,zDa (by simp;omega) (by simp at h2;omega) (by simp)]
 rw[qFi (by omega)]
 rw[show p++[y]++[x]++u++q=p++y::[]++x::(u++q) by simp,zTa h1.symm (by simp;omega)]
 simp
theorem zYn {l:List α} {a k:Nat} (ha:a<=k) (hk:k+1<l.length):swp (zA7 l a (a+1) (k+1)) k (k+1)=zA7 l a (a+1) (k+2):=by
 obtain⟨p,u,v,q,rfl,h1,h2,h3⟩:=zF2 l a (a+1) (k+1) (by omega) (by omega) (by omega)
 obtain⟨x,rfl⟩:∃x,u=[x]:=List.length_eq_one_iff.1 (by omega)
 obtain⟨y,q,rfl⟩:∃y q',q=y::q':=List.exists_cons_of_length_pos (by simp at hk;omega)
 rw[zDa h1.symm (by simp) (by omega)]
 rw[show p++[x]++v++y::q=p++[x]++(v++[y])++q by simp,zDa h1.symm (by simp) (by simp;omega)]
 rw[show p++v++[x]++y::q=(p++v)++x::[]++y::q by simp,zTa (by simp;omega) (by simp;omega)]
 simp
theorem zW2 (x:α):srt key num [x]=[x]:=zIw key num (by simp)
theorem qP9 {p u q:List α} {a b:Nat} (ha:a=p.length) (hb:b=a+u.length):((p++u++q).drop a).take (b - a)=u:=by
 rw[show p++u++q=p++(u++q) by simp,zD7 ha,zEd (by omega)]
theorem qIf {l:List α} {a b i:Nat} (hn:Nm num ((l.drop a).take (b - a))) (hai:a<i) (hib:i<b) (hb:b<=l.length):
  SymPre key num (on l a i (srt key num)) a i (i+1)/\on (on l a i (srt key num)) a (i+1) (srt key num)=on l a (i+1) (srt key num):=by
 obtain⟨p,u,x,q,rfl,h1,h2,hx⟩:=zOx (show a<=i by omega) (show i<l.length by omega)
 have hnu:Nm num (u++[x]):=by
  have e:((p++u++[x]++q).drop a).take (i+1 - a)=u++[x]:=by
   rw[show p++u++[x]++q=p++(u++[x])++q by simp];exact qP9 h1.symm (by simp;omega)
  rw[←e]
  refine hn.sub num ?_
  rw[←Nat.min_eq_left (show i+1 - a<=b - a by omega),←List.take_take]
  exact List.take_sublist _ _
 have hw:=List.pairwise_append.1 hnu
 have e1:on (p++u++[x]++q) a i (srt key num)=p++srt key num u++[x]++q:=by
  rw[show p++u++[x]++q=p++u++([x]++q) by simp,zFa _ h1.symm (by omega)];simp
 rw[e1]
 refine⟨SymPre.of key num h1.symm (by rw[zCv];omega) (by simp) (by rw[zCv];omega) (by simp) (zGm key num hw.1) (by simp) ?_,?_⟩
 ·intro y hy z hz
  exact hw.2.2 y ((zB9 key num u).mem_iff.1 hy) z hz
 ·rw[show p++srt key num u++[x]++q=p++(srt key num u++[x])++q by simp,zFa _ h1.symm (by simp[zCv];omega)]
  rw[show p++u++[x]++q=p++(u++[x])++q by simp,zFa _ h1.symm (by simp;omega)]
  have:=zPv key num hnu
  rw[zW2] at this
  rw[this]
theorem qRw {l:List α} {a:Nat} (ha:a<l.length):on l a (a+1) (srt key num)=l:=by
 obtain⟨p,u,x,q,rfl,h1,h2,hx⟩:=zOx (Nat.le_refl a) ha
 have:u=[]:=List.length_eq_zero_iff.1 (by omega)
 subst this
 rw[show p++[]++[x]++q=p++[x]++q by simp,zFa _ h1.symm (by simp),zW2]
theorem qRx {l:List α} {a:Nat} (ha:a<=l.length):on l a a (srt key num)=l:=by
 unfold on
 rw[Nat.sub_self,List.take_zero]
 simp[srt]
end
def fn (f:Fate):Int:=f.n
end YtnemoimbeefngaaGreat
end Go.Proofs
namespace Go.Proofs
namespace YtnemoimbeefngaaGreat
open Go.Abs
structure Ob where
 fs:List (List Pr)
 rds:List Pr
 ok:Bool
def obF (o:Ob) (x:Ev):Ob:=
 if x.k=2 then (match zAd o.fs x.t with
  |some v=> ⟨o.fs,o.rds,o.ok && decide (v=x.v)⟩
  |none=> ⟨o.fs,o.rds++[⟨x.t,x.v⟩],o.ok⟩)
 else ⟨(zVh o.fs x).2,o.rds,o.ok⟩
def ob0:Ob:=⟨[[]],[],true⟩
def obS (l:List Ev) (n:Int):Ob:=(cutS l n).foldl obF ob0
end YtnemoimbeefngaaGreat
end Go.Proofs
namespace Go.Proofs
namespace YtnemoimbeefngaaGreat
open Go.Abs
structure Lv where
 n:Nat
 tr:Bool
 fs:List (List Pr)
structure EvOk (hl N:Nat) (ev:List Ev) (lv:Nat->Option Lv):Prop where
 rt:∃σ,runF qKj ev=some σ/\(∀th x,lv th=some x->σ x.n=some ⟨x.tr,false,x.fs⟩)/\∀n:Nat,N<=n->σ n=none
 nu:∀th th' x x',lv th=some x->lv th'=some x'->x.n=x'.n->th=th'
 nl:∀th x,lv th=some x->x.n<N
 ea:∀x∈ev,0<=x.a/\x.a<N
 ats:attsS ev=(List.range N).map fun n:Nat=> (n:Int)
 obl:∀th x,lv th=some x->(obS ev x.n).fs=x.fs
 obo:∀n:Nat,(obS ev n).ok=true
 ra:∀n:Nat,∀r∈(obS ev n).rds,0<=r.t/\r.t<hl
 fr:∀n:Nat,∀g∈(obS ev n).fs,∀p∈g,0<=p.t/\p.t<hl/\zAq p.v=true
 st:∀th x,lv th=some x->zIu ev x.n=if x.tr=true then 2 else 1
 dn:∀n:Nat,n<N->(∀th x,lv th=some x->x.n≠n)->zIu ev n=3∨zIu ev n=4
 bg:∀n:Nat,n<N->∃y∈ev,y.a=n/\y.k=1
 en:∀n:Nat,(cutS ev n).any endE=true->∀th x,lv th=some x->x.n≠n
variable {hl N:Nat} {ev:List Ev} {lv:Nat->Option Lv}
end YtnemoimbeefngaaGreat
end Go.Proofs
namespace Go.Proofs
namespace YtnemoimbeefngaaGreat
open Go.Abs
def xW (ky:List Int) (n:Nat):Int:=(ky[n]?).getD 0
abbrev FN (s:NS):=Fin s.ky.length
def zAm {s:NS} (l:List (FN s)):List Value:=l.map fun x=> .int .i64 (x.val:Int)
@[simp] theorem qTr {s:NS} (l:List (FN s)):(zAm l).length=l.length:=by simp[zAm]
@[simp] theorem zVs {s:NS} (l:List (FN s)):xI (zAm l)=true:=by
  induction l with
  |nil=> rfl
  |cons v l ih=> exact ih
@[simp] theorem ren_rowK {s:NS} (θ:Nat->Nat) (l:List (FN s)):zAu θ (zAm l)=zAm l:=zAy θ _ (zVs l)
def zKz (n:Nat):List Value->Option (List (Fin n))
 |[]=> some []
 |.int .i64 v::l=> if h:0<=v/\v.toNat<n then (zKz n l).map (⟨v.toNat,h.2⟩::·) else none
 |_=> none
@[simp] theorem zCu {s:NS}:∀l:List (FN s),zKz s.ky.length (zAm l)=some l
  |[]=> rfl
  |x::l=> by
   show zKz s.ky.length (.int .i64 (x.val:Int)::zAm l)=_
   rw[zKz,zCu l,dif_pos ⟨by omega,by have:=x.isLt;omega⟩]
   simp
theorem zRc {s:NS}:∀{cs:List Value} {l:List (FN s)},zKz s.ky.length cs=some l->cs=zAm l
 |cs,l,e=> by
  unfold zKz at e
  split at e
  ·cases e;rfl
  ·split at e
   ·rename_i h0
    simp only[Option.map_eq_some_iff] at e
    obtain⟨l',e1,rfl⟩:=e
    rw[zRc e1]
    show _=Value.int .i64 _::zAm l'
    simp[Int.toNat_of_nonneg h0.1]
   ·cases e
  ·cases e
def zC0 (s:NS) (H:AH GD) (k:Nat):Option (TypeId × List (FN s)):=
 match H.get k with
 |some (.arr e cs)=> (zKz s.ky.length cs).map fun h=> (e,h)
 |_=> none
theorem zFw {s:NS} {H:AH GD} {k:Nat} {x:TypeId × List (FN s)} (hg:zC0 s H k=some x):H.get k=some (.arr x.1 (zAm x.2)):=by
 unfold zC0 at hg
 split at hg
 ·rename_i e cs he
  simp only[Option.map_eq_some_iff] at hg
  obtain⟨h,h1,rfl⟩:=hg
  rw[he,zRc h1]
 ·cases hg
theorem qN6 {s:NS} {i:Nat} {x:FN s} {l:List (FN s)} (h:l[i]?=some x):(zAm l)[i]?=some (.int .i64 (x.val:Int)):=by simp[zAm,h]
theorem zCr {s:NS} {i:Nat} {x:FN s} {l:List (FN s)} (h:l[i]?=some x) (p:i<(zAm l).length):(zAm l)[i]'p=.int .i64 (x.val:Int):=by
 have:=qN6 h
 rw[List.getElem?_eq_getElem p] at this
 exact Option.some.inj this
theorem zTu {s:NS} {l:List (FN s)} {i:Nat} (x:FN s):(zAm l).set i (.int .i64 (x.val:Int))=zAm (l.set i x):=by
 unfold zAm;rw[List.map_set]
theorem zJ8 {s:NS} {l:List (FN s)} {i j:Nat} {x y:FN s} (hx:l[i]?=some x) (hy:l[j]?=some y):
  ((zAm l).set i (.int .i64 (y.val:Int))).set j (.int .i64 (x.val:Int))=zAm (swp l i j):=by
 rw[zTu,zTu]
 unfold swp
 rw[hx,hy]
theorem zG2 {H:AH GD} {k kb ke:Nat} {X B E:AObj GD} (n1:k≠kb) (n2:k≠ke) (hb:H.get kb=some B) (he:H.get ke=some E):((H.upd k X).upd kb B).upd ke E=H.upd k X:=by
 have h1:(H.upd k X).get kb=some B:=by rw[AH.get_upd,if_neg (Ne.symm n1),hb]
 have h2:(H.upd k X).get ke=some E:=by rw[AH.get_upd,if_neg (Ne.symm n2),he]
 rw[xB h1,xB h2]
theorem zXd {ky:List Int} {n:Nat} (h:n<ky.length):ky[n]?=some (xW ky n):=by
 unfold xW
 rw[List.getElem?_eq_getElem h];rfl
def xU (kb:Nat):Value:=.func (.func 44) #[] #[.pointer (some ⟨kb,0,none⟩)]
def zE8 (H:AH GD):Value->Option (Nat × Nat × TypeId × NS)
 |.func (.func _) _ ⟨[.pointer (some ⟨kb,0,none⟩)]⟩=> match H.get kb with
  |some (.arr t [.pointer (some ⟨ke,0,none⟩)])=> match H.get ke with
   |some (.hi (.eng s))=> some (kb,ke,t,s)
   |_=> none
  |_=> none
 |_=> none
theorem zHa {H:AH GD} {v:Value} {q:Nat × Nat × TypeId × NS} (h:zE8 H v=some q):H.get q.1=some (.arr q.2.2.1 [.pointer (some ⟨q.2.1,0,none⟩)])/\H.get q.2.1=some (.hi (.eng q.2.2.2))/\q.1≠q.2.1:=by
 unfold zE8 at h
 split at h
 case h_2=> cases h
 split at h
 case h_2=> cases h
 split at h
 case h_2=> cases h
 rename_i h1 _ _ h2
 cases h
 refine⟨h1,h2,fun e=> ?_⟩
 simp only at e
 rw[e,h2] at h1
 cases h1
theorem zJu {s:NS} {H:AH GD} {k:Nat} {q:Nat × Nat × TypeId × NS} {l:TypeId × List (FN s)} (hb:H.get q.1=some (.arr q.2.2.1 [.pointer (some ⟨q.2.1,0,none⟩)])) (he:H.get q.2.1=some (.hi (.eng q.2.2.2))) (hl:H.get k=some (.arr l.1 (zAm l.2))):k≠q.1/\k≠q.2.1:=by
 constructor
 ·rintro rfl
  rw[hb] at hl
  have h3:[Value.pointer (some ⟨q.2.1,0,none⟩)]=zAm l.2:=by injection hl with h2;injection h2 with _ h3
  cases hh:l.2 with
  |nil=> rw[hh] at h3;cases h3
  |cons a b=> rw[hh] at h3;cases h3
 ·rintro rfl
  rw[he] at hl;cases hl
def fkN {s:NS} (x:FN s):Int:=xW s.ky x.val
def fnN {s:NS} (x:FN s):Int:=(x.val:Int)
def zBa {s:NS} (l:List (FN s)):List (FN s):=srt fkN fnN l
theorem qQ3 (s:NS) (t:TypeId) (x y:Nat) (hx:x<s.ky.length) (hy:y<s.ky.length):zP Tryz.prog cfg 44 [.int .i64 x,.int .i64 y,.pointer (some ⟨0,0,none⟩)] (AH.of [some (.arr t [.pointer (some ⟨1,0,none⟩)]),some (.hi (.eng s))])
  fun r H'=> r=.ret (.int .i64 (zU1 (xW s.ky x) (xW s.ky y)))/\H'=AH.of [some (.arr t [.pointer (some ⟨1,0,none⟩)]),some (.hi (.eng s))]:=by
 refine zP.ends ?_
 refine zX (tbl:=[]) (by simp) 0 2 (af:=a44) rfl ?_
 rw[a44,b44,qB]
 refine⟨by simp,?_⟩
 have gx:=zEb (zXd hx)
 have gy:=zEb (zXd hy)
 have hx':(x:Int)<s.ky.length:=by omega
 have hy':(y:Int)<s.ky.length:=by omega
 unfold zU1
 by_cases h1:xW s.ky x<xW s.ky y
 ·simp -implicitDefEqProofs [forms45,a45,b45,forms105,a105,b105,zJ,gx,gy,hx,hy,hx',hy',h1]
  refine zA [.pack (GD.eng s) 1 [2,3,4,5,6,7,8,9,10,11]] [0,1] ?_ ?_ ?_<;> simp[zJ]
 ·by_cases h2:xW s.ky y<xW s.ky x
  ·simp -implicitDefEqProofs [forms45,a45,b45,forms105,a105,b105,zJ,gx,gy,hx,hy,hx',hy',h1,h2]
   refine zA [.pack (GD.eng s) 1 [2,3,4,5,6,7,8,9,10,11]] [0,1] ?_ ?_ ?_<;> simp[zJ]
  ·simp -implicitDefEqProofs [forms45,a45,b45,forms105,a105,b105,zJ,gx,gy,hx,hy,hx',hy',h1,h2]
   refine zA [.pack (GD.eng s) 1 [2,3,4,5,6,7,8,9,10,11]] [0,1] ?_ ?_ ?_<;> simp[zJ]
def zHy:qW GD:=fun args H=> match args with
 |[.int .i64 x,.int .i64 y,.pointer (some ⟨kb,0,none⟩)]=> match H.get kb with
  |some (.arr t [.pointer (some ⟨ke,0,none⟩)])=> match H.get ke with
   |some (.hi (.eng s))=> some (0<=x/\x<s.ky.length/\0<=y/\y<s.ky.length,.ret (.int .i64 (zU1 (xW s.ky x.toNat) (xW s.ky y.toNat))),H)
   |_=> none
  |_=> none
 |_=> none
theorem zWv:qI Tryz.prog cfg 44 zHy:=by
 intro args H p r H' h hp
 unfold zHy at h
 split at h
 case h_2=> cases h
 split at h
 case h_2=> cases h
 split at h
 case h_2=> cases h
 rename_i x y kb _ t ke hb _ s he
 cases h
 obtain⟨h1,h2,h3,h4⟩:=hp
 obtain⟨x,rfl⟩:=Int.eq_ofNat_of_zero_le h1
 obtain⟨y,rfl⟩:=Int.eq_ofNat_of_zero_le h3
 have hne:kb≠ke:=fun e=> by rw[e,he] at hb;cases hb
 simp only[Int.toNat_natCast]
 exact (qQ3 s t x y (by omega) (by omega)).atK (xE rfl) [kb,ke] (by simp[hne]) (by simp) (by simp[hb,he]) (by simp) (by simp) (by simp[xB hb,xB he])
theorem qMw (e tb:TypeId) (eg:NS) (l:List (FN eg)) (c a b n:Nat) (hl:l.length<=100000) (ha:a+n<=l.length) (hb:b+n<=l.length):
  zP Tryz.prog cfg 209 [.slice (some ⟨0,0,none⟩) l.length c,.int .i64 a,.int .i64 b,.int .i64 n,(xU 1)] (AH.of [some (.arr e (zAm l)),some (.arr tb [.pointer (some ⟨2,0,none⟩)]),some (.hi (.eng eg))])
  fun r H'=> r=.ret (.tuple #[])/\H'=AH.of [some (.arr e (zAm (swr l a b n))),some (.arr tb [.pointer (some ⟨2,0,none⟩)]),some (.hi (.eng eg))]:=by
 refine zP.ends ?_
 obtain⟨z,hz⟩:∃z,l.length=z:=⟨_,rfl⟩
 rw[hz] at hl ha hb⊢
 refine zX (tbl:=[]) (by simp) 100001 0 (af:=a209) rfl ?_
 rw[a209,b209,qB]
 refine⟨by simp,?_⟩
 simp -implicitDefEqProofs [xU]
 refine zAp (xC zAh (xD (by simp)) _ _ noY jT) (fun m tm H=> ∃i:Nat,m+i=n/\tm 0=.slice (some ⟨0,0,none⟩) z c/\tm 1=.int .i64 a/\tm 2=.int .i64 b/\tm 3=.int .i64 n/\tm 10=.int .i64 i/\H=AH.of [some (.arr e (zAm (swr l a b i))),some (.arr tb [.pointer (some ⟨2,0,none⟩)]),some (.hi (.eng eg))]) (m:=n) ⟨0,by simp[swr]⟩ (by omega) ?_
 rintro m tm H ⟨i,hm,t0,t1,t2,t3,t10,rfl⟩
 by_cases hi:i<n
 ·have hi':(i:Int)<n:=by omega
  have hwr:=zA8 hi (by omega)
  have hlen:(swr l a b i).length=z:=by rw[zPn,hz]
  have hsuc:swr l a b (i+1)=swp (swr l a b i) (a+i) (b+i):=rfl
  generalize swr l a b i=g at*
  obtain⟨p,hp⟩:∃p,a+i=p:=⟨_,rfl⟩
  obtain⟨q,hq⟩:∃q,b+i=q:=⟨_,rfl⟩
  rw[hp,hq] at hsuc
  have hpz:p<z:=by omega
  have hqz:q<z:=by omega
  have hpz1:p+1<=z:=hpz
  have hqz1:q+1<=z:=hqz
  have hpz':(p:Int)<z:=by omega
  have hqz':(q:Int)<z:=by omega
  have hwp:IntKind.i64.wrap ((a:Int)+i)=p:=by rw[qX (by omega) (by omega)];omega
  have hwq:IntKind.i64.wrap ((b:Int)+i)=q:=by rw[qX (by omega) (by omega)];omega
  obtain⟨x,hx⟩:=zCk (l:=g) (i:=p) (by omega)
  obtain⟨y,hy⟩:=zCk (l:=g) (i:=q) (by omega)
  have mx:=fun p=> zCr hx p
  have my:=fun p=> zCr hy p
  have hs:=zJ8 hx hy
  simp -implicitDefEqProofs [setMany,t0,t1,t2,t3,t10,hi',hwr,hwp,hwq,hpz,hqz,hpz',hqz',hpz1,hqz1,hlen,mx,my,hs]
  exact⟨m - 1,by omega,i+1,by omega,by simp[t0,t1,t2,t3,hsuc]⟩
 ·have hie:i=n:=by omega
  subst hie
  have hi':¬(i:Int)<i:=by omega
  simp -implicitDefEqProofs [t0,t1,t2,t3,t10]
  refine zA [] [0,1,2] ?_ ?_ ?_<;> simp
def zJs:qW GD:=fun args H=> match args with
 |[.slice (some ⟨k,0,none⟩) z _,.int .i64 a,.int .i64 b,.int .i64 n,v]=> (zE8 H v).bind fun q=> (zC0 q.2.2.2 H k).map fun l=> (z=l.2.length/\v=xU q.1/\l.2.length<=100000/\0<=a/\0<=b/\0<=n/\a+n<=l.2.length/\b+n<=l.2.length,.ret (.tuple #[]),H.upd k (.arr l.1 (zAm (swr l.2 a.toNat b.toNat n.toNat))))
 |_=> none
theorem qA8:qI Tryz.prog cfg 209 zJs:=by
 intro args H p r H' h hp
 unfold zJs at h
 split at h
 case h_2=> cases h
 simp only[Option.map_eq_some_iff,Option.bind_eq_some_iff] at h
 obtain⟨q,hv,l,hl,h⟩:=h
 rename_i k z c a b n v
 cases h
 obtain⟨rfl,rfl,h1,h2,h3,h4,h5,h6⟩:=hp
 obtain⟨a,rfl⟩:=Int.eq_ofNat_of_zero_le h2
 obtain⟨b,rfl⟩:=Int.eq_ofNat_of_zero_le h3
 obtain⟨n,rfl⟩:=Int.eq_ofNat_of_zero_le h4
 have hl2:=zFw hl
 obtain⟨hb2,he2,n3⟩:=zHa hv
 obtain⟨n1,n2⟩:=zJu hb2 he2 hl2
 simp only[Int.toNat_natCast]
 exact (qMw l.1 q.2.2.1 q.2.2.2 l.2 c a b n h1 (by omega) (by omega)).atK (xE rfl) [k,q.1,q.2.1] (by simp[n1,n2,n3]) (by simp) (by simp[hl2,hb2,he2]) (by simp[xU]) (by simp) (by simp[zG2 n1 n2 hb2 he2])
end YtnemoimbeefngaaGreat
end Go.Proofs
namespace Go.Proofs
namespace YtnemoimbeefngaaGreat
open Go.Abs
def zIk:List (FuncId × qW GD):=[(209,zJs)]
theorem zOc:∀x∈zIk,qI Tryz.prog cfg x.1 x.2:=by simp[zIk,qA8]
theorem qM1 (e tb:TypeId) (eg:NS) (l:List (FN eg)) (c a m b:Nat) (hl:l.length<=100000) (ham:a<m) (hmb:m<b) (hb:b<=l.length):
  zP Tryz.prog cfg 195 [.slice (some ⟨0,0,none⟩) l.length c,.int .i64 a,.int .i64 m,.int .i64 b,(xU 1)] (AH.of [some (.arr e (zAm l)),some (.arr tb [.pointer (some ⟨2,0,none⟩)]),some (.hi (.eng eg))])
  fun r H'=> r=.ret (.tuple #[])/\H'=AH.of [some (.arr e (zAm (zA7 l a m b))),some (.arr tb [.pointer (some ⟨2,0,none⟩)]),some (.hi (.eng eg))]:=by
 refine zP.ends ?_
 obtain⟨z,hz⟩:∃z,l.length=z:=⟨_,rfl⟩
 rw[hz] at hl hb⊢
 have w1:IntKind.i64.wrap ((m:Int) - a)=((m - a:Nat):Int):=by rw[qX (by omega) (by omega)];omega
 have w2:IntKind.i64.wrap ((b:Int) - m)=((b - m:Nat):Int):=by rw[qX (by omega) (by omega)];omega
 refine zX (tbl:=zIk) zOc 200001 0 (af:=a195) rfl ?_
 rw[a195,b195,qB]
 refine⟨by simp,?_⟩
 simp -implicitDefEqProofs [xU,w1,w2]
 refine zAp (xC zAh (xD zOc) _ _ noY jT) (fun q tm H=> ∃(i j:Nat) (g:List (FN eg)),i+j<=q/\0<i/\0<j/\i<=m/\m+j<=z/\g.length=z/\zA7 g (m - i) m (m+j)=zA7 l a m b/\tm 0=.slice (some ⟨0,0,none⟩) z c/\tm 2=.int .i64 m/\tm 4=(xU 1)/\tm 10=.int .i64 i/\tm 11=.int .i64 j/\H=AH.of [some (.arr e (zAm g)),some (.arr tb [.pointer (some ⟨2,0,none⟩)]),some (.hi (.eng eg))]) (m:=b - a)
  ⟨m - a,b - m,l,by omega,by omega,by omega,by omega,by omega,hz,by rw[show m - (m - a)=a by omega,show m+(b - m)=b by omega],by simp[xU]⟩ (by omega) ?_
 rintro q tm H ⟨i,j,g,hq,hi,hj,him,hjz,hgl,hrot,t0,t2,t4,t10,t11,rfl⟩
 have wmi:IntKind.i64.wrap ((m:Int) - i)=((m - i:Nat):Int):=by rw[qX (by omega) (by omega)];omega
 by_cases hij:i=j
 ·subst hij
  have hfin:=qRp (l:=g) (m:=m) (i:=i) him (by omega)
  rw[hrot] at hfin
  have hle:m - i+i<=z:=by omega
  have p1:((m - i:Nat):Int)+i<=z:=by omega
  have p2:(m:Int)+i<=z:=by omega
  simp -implicitDefEqProofs [zIk,zJs,zE8,xU,zC0,zCu,t0,t2,t4,t10,t11,wmi,hgl,hl,hle,hjz,p1,p2,hfin]
  refine zA [] [0,1,2] ?_ ?_ ?_<;> simp
 ·have hij':¬(i:Int)=j:=by omega
  by_cases hgt:j<i
  ·have hgt':(j:Int)<i:=by omega
   have hstep:=qRo (l:=g) (m:=m) (i:=i) (j:=j) hgt him (by omega)
   have wij:IntKind.i64.wrap ((i:Int) - j)=((i - j:Nat):Int):=by rw[qX (by omega) (by omega)];omega
   have p1:((m - i:Nat):Int)+j<=z:=by omega
   have p2:(m:Int)+j<=z:=by omega
   simp -implicitDefEqProofs [zIk,zJs,zE8,xU,zC0,zCu,t0,t2,t4,t10,t11,wmi,wij,hgl,hl,hij',hgt',p1,p2]
   refine⟨q - 1,by omega,i - j,j,by omega,by omega,by omega,by omega,by omega,swr g (m - i) m j,by rw[zPn,hgl],?_,?_⟩
   ·rw[←hrot,←hstep,show m - (i - j)=m - i+j by omega]
   ·simp[t0,t2,t4]
  ·have hgt':¬(j:Int)<i:=by omega
   have hstep:=qRn (l:=g) (m:=m) (i:=i) (j:=j) (by omega) him (by omega)
   have wij:IntKind.i64.wrap ((j:Int) - i)=((j - i:Nat):Int):=by rw[qX (by omega) (by omega)];omega
   have wmj:IntKind.i64.wrap ((m:Int)+j)=((m+j:Nat):Int):=by rw[qX (by omega) (by omega)];omega
   have wmji:IntKind.i64.wrap ((m:Int)+j - i)=((m+j - i:Nat):Int):=by rw[qX (by omega) (by omega)];omega
   have wmji2:IntKind.i64.wrap (((m+j:Nat):Int) - i)=((m+j - i:Nat):Int):=by rw[qX (by omega) (by omega)];omega
   have p1:((m - i:Nat):Int)+i<=z:=by omega
   have p2:((m+j - i:Nat):Int)+i<=z:=by omega
   simp -implicitDefEqProofs [zIk,zJs,zE8,xU,zC0,zCu,t0,t2,t4,t10,t11,wmi,wij,wmj,wmji,wmji2,hgl,hl,hij',hgt',p1,p2]
   refine⟨q - 1,by omega,i,j - i,by omega,by omega,by omega,by omega,by omega,swr g (m - i) (m+j - i) i,by rw[zPn,hgl],?_,?_⟩
   ·rw[←hrot,←hstep,show m+(j - i)=m+j - i by omega]
   ·simp[t0,t2,t4]
def zOk:qW GD:=fun args H=> match args with
 |[.slice (some ⟨k,0,none⟩) z _,.int .i64 a,.int .i64 m,.int .i64 b,v]=> (zE8 H v).bind fun q=> (zC0 q.2.2.2 H k).map fun l=> (z=l.2.length/\v=xU q.1/\l.2.length<=100000/\0<=a/\a<m/\m<b/\b<=l.2.length,.ret (.tuple #[]),H.upd k (.arr l.1 (zAm (zA7 l.2 a.toNat m.toNat b.toNat))))
 |_=> none
theorem qBa:qI Tryz.prog cfg 195 zOk:=by
 intro args H p r H' h hp
 unfold zOk at h
 split at h
 case h_2=> cases h
 simp only[Option.map_eq_some_iff,Option.bind_eq_some_iff] at h
 obtain⟨q,hv,l,hl,h⟩:=h
 rename_i k z c a m b v
 cases h
 obtain⟨rfl,rfl,h1,h2,h3,h4,h5⟩:=hp
 obtain⟨a,rfl⟩:=Int.eq_ofNat_of_zero_le h2
 obtain⟨m,rfl⟩:=Int.eq_ofNat_of_zero_le (show 0<=m by omega)
 obtain⟨b,rfl⟩:=Int.eq_ofNat_of_zero_le (show 0<=b by omega)
 have hl2:=zFw hl
 obtain⟨hb2,he2,n3⟩:=zHa hv
 obtain⟨n1,n2⟩:=zJu hb2 he2 hl2
 simp only[Int.toNat_natCast]
 exact (qM1 l.1 q.2.2.1 q.2.2.2 l.2 c a m b h1 (by omega) (by omega) (by omega)).atK (xE rfl) [k,q.1,q.2.1] (by simp[n1,n2,n3]) (by simp) (by simp[hl2,hb2,he2]) (by simp[xU]) (by simp) (by simp[zG2 n1 n2 hb2 he2])
end YtnemoimbeefngaaGreat
end Go.Proofs
namespace Go.Proofs
namespace YtnemoimbeefngaaGreat
open Go.Abs
def zLe:List (FuncId × qW GD):=[(44,zHy)]
theorem zLd:∀x∈zLe,qI Tryz.prog cfg x.1 x.2:=by simp[zLe,zWv]
def insIN (e tb:TypeId) (eg:NS) (l:List (FN eg)) (c a b z q:Nat) (tm:Nat->Value) (H:AH GD):Prop:=∃(i:Nat),q+i=b+1/\a+1<=i/\(i<=b∨a=b)/\tm 0=.slice (some ⟨0,0,none⟩) z c/\tm 1=.int .i64 a/\tm 2=.int .i64 b/\tm 3=(xU 1)/\tm 8=.int .i64 i/\H=AH.of [some (.arr e (zAm (if i<=b then on l a i zBa else l))),some (.arr tb [.pointer (some ⟨2,0,none⟩)]),some (.hi (.eng eg))]
def insJN (e tb:TypeId) (eg:NS) (g:List (FN eg)) (x:FN eg) (c a b z i q:Nat) (tm:Nat->Value) (H:AH GD):Prop:=∃(j:Nat),q+a=j/\j<=i/\(∀y,j<i->g[j]?=some y->xW eg.ky x<xW eg.ky y)/\tm 0=.slice (some ⟨0,0,none⟩) z c/\tm 1=.int .i64 a/\tm 2=.int .i64 b/\tm 3=(xU 1)/\tm 8=.int .i64 i/\tm 9=.int .i64 j/\H=AH.of [some (.arr e (zAm (zA7 g j i (i+1)))),some (.arr tb [.pointer (some ⟨2,0,none⟩)]),some (.hi (.eng eg))]
theorem qNh (e tb:TypeId) (eg:NS) (l:List (FN eg)) (c a b:Nat) (hl:l.length<=100000) (hab:a<=b) (hb:b<=l.length) (hn:Nm fnN ((l.drop a).take (b - a))):
  zP Tryz.prog cfg 154 [.slice (some ⟨0,0,none⟩) l.length c,.int .i64 a,.int .i64 b,(xU 1)] (AH.of [some (.arr e (zAm l)),some (.arr tb [.pointer (some ⟨2,0,none⟩)]),some (.hi (.eng eg))])
  fun r H'=> r=.ret (.tuple #[])/\H'=AH.of [some (.arr e (zAm (on l a b zBa))),some (.arr tb [.pointer (some ⟨2,0,none⟩)]),some (.hi (.eng eg))]:=by
 refine zP.ends ?_
 obtain⟨z,hz⟩:∃z,l.length=z:=⟨_,rfl⟩
 rw[hz] at hl hb⊢
 have w1:IntKind.i64.wrap ((a:Int)+1)=((a+1:Nat):Int):=by rw[qX (by omega) (by omega)];omega
 refine zX (tbl:=zLe) zLd 100002 0 (af:=a154) rfl ?_
 rw[a154,b154,qB]
 refine⟨by simp,?_⟩
 simp -implicitDefEqProofs [xU,w1]
 refine zAp (xC zAh (xD zLd) _ _ noY jT) (insIN e tb eg l c a b z) (m:=b - a)
  ⟨a+1,by omega,by omega,by omega,by simp,by simp,by simp,by simp[xU],by simp,?_⟩ (by omega) ?_
 ·split
  ·rw[show on l a (a+1) zBa=l from qRw fkN fnN (by omega)]
  ·rfl
 rintro q tm H ⟨i,hq,hai,hor,t0,t1,t2,t3,t8,rfl⟩
 by_cases hi:i<b
 ·have hi':(i:Int)<b:=by omega
  rw[if_pos (by omega)]
  obtain⟨hpre,hon⟩:=qIf fkN fnN hn (show a<i by omega) hi (by omega)
  obtain⟨g,hg⟩:∃g,on l a i zBa=g:=⟨_,rfl⟩
  have hgl:g.length=z:=by rw[←hg];exact (zY1 fkN fnN l a i (by omega) (by omega)).trans hz
  rw[show on l a i (srt fkN fnN)=g from hg] at hpre hon
  rw[hg]
  have hwr:=zA8 hi (by omega)
  obtain⟨x,hx⟩:=zCk (l:=g) (i:=i) (by omega)
  simp -implicitDefEqProofs [t0,t1,t2,t3,t8,hi']
  refine zAp (xC zAh (xD zLd) _ _ noY jT) (insJN e tb eg g x c a b z i) (m:=i - a)
   ⟨i,by omega,by omega,by omega,by simp[t0],by simp[t1],by simp[t2],by simp[t3],by simp[t8],by simp,by rw[zTv (by omega)]⟩ (by omega) ?_
  rintro q2 tm H ⟨j,hq2,hji,hlt,t0,t1,t2,t3,t8,t9,rfl⟩
  have hrl:(zA7 g j i (i+1)).length=z:=by rw[zNp g hji (by omega) (by omega),hgl]
  have hatj:=qG9 (l:=g) hji (by omega)
  rw[hx] at hatj
  have hfin:((∀y w,a<j->g[j - 1]?=some y->g[i]?=some w->xW eg.ky y<=xW eg.ky w))->zA7 g j i (i+1)=on l a (i+1) zBa:=fun hh=>
   (qKi fkN fnN hpre (by omega) hji hh (fun y w h1 h2 h3=> by rw[hx] at h3;cases h3;exact hlt y h1 h2)).trans hon
  have hib:i+1<=b:=by omega
  by_cases hja:a<j
  ·obtain⟨k,rfl⟩:∃k,j=k+1:=⟨j - 1,by omega⟩
   have hja':(a:Int)<(k+1:Nat):=by omega
   have wk:IntKind.i64.wrap (((k+1:Nat):Int) - 1)=k:=by rw[qX (by omega) (by omega)];omega
   obtain⟨y,hy⟩:=zCk (l:=g) (i:=k) (by omega)
   have hatk:(zA7 g (k+1) i (i+1))[k]?=some y:=by rw[zYo (by omega) (by omega),hy]
   have hstep:=zOq (l:=g) (j:=k) (i:=i) (by omega) (by omega)
   generalize zA7 g (k+1) i (i+1)=d at*
   have mx:=fun p=> zCr hatj p
   have my:=fun p=> zCr hatk p
   have b1:k+1<z:=by omega
   have b2:k<z:=by omega
   have b3:((k+1:Nat):Int)<z:=by omega
   have b4:(k:Int)<z:=by omega
   obtain⟨K,hK⟩:∃K,k+1=K:=⟨_,rfl⟩
   rw[hK] at hja' wk hatj mx b1 b3 t9 hstep
   have b5:K+1<=z:=b1
   have b6:k+1<=z:=b2
   by_cases hc:xW eg.ky x<xW eg.ky y
   ·have hs:=zJ8 hatj hatk
    rw[hstep] at hs
    simp -implicitDefEqProofs [zLe,zHy,xU,setMany,zHu,t0,t1,t2,t3,t8,t9,hja',wk,mx,my,b1,b2,b3,b4,b5,b6,hrl,hc,hs]
    exact⟨q2 - 1,by omega,k,by omega,by omega,fun w h1 h2=> by rw[hy] at h2;cases h2;exact hc,by simp[t0,t1,t2,t3,t8,xU]⟩
   ·have hf:=hfin (fun y' w _ h2 h3=> by
     rw[Nat.add_sub_cancel,hy] at h2;rw[hx] at h3;cases h2;cases h3;omega)
    simp -implicitDefEqProofs [zLe,zHy,xU,zHu,t0,t1,t2,t3,t8,t9,hja',wk,mx,my,b1,b2,b3,b4,b5,b6,hrl,hc,hwr]
    exact⟨q - 1,by omega,i+1,by omega,by omega,by omega,by simp[t0,t1,t2,t3,xU,hib,hf]⟩
  ·have hja':¬(a:Int)<j:=by omega
   have hf:=hfin (fun y w h=> absurd h hja)
   simp -implicitDefEqProofs [xU,t0,t1,t2,t3,t8,t9,hja',hwr]
   exact⟨q - 1,by omega,i+1,by omega,by omega,by omega,by simp[t0,t1,t2,t3,xU,hib,hf]⟩
 ·have hi':¬(i:Int)<b:=by omega
  have he:(if i<=b then on l a i zBa else l)=on l a b zBa:=by
   by_cases hib:i<=b
   ·rw[if_pos hib,show i=b by omega]
   ·rw[if_neg hib,show b=a by omega]
    exact (qRx fkN fnN (by omega)).symm
  rw[he]
  simp -implicitDefEqProofs [t0,t1,t2,t3,t8,hi']
  refine zA [] [0,1,2] ?_ ?_ ?_<;> simp
def zLf:qW GD:=fun args H=> match args with
 |[.slice (some ⟨k,0,none⟩) z _,.int .i64 a,.int .i64 b,v]=> (zE8 H v).bind fun q=> (zC0 q.2.2.2 H k).map fun l=> (z=l.2.length/\v=xU q.1/\l.2.length<=100000/\0<=a/\a<=b/\b<=l.2.length/\Nm fnN ((l.2.drop a.toNat).take (b.toNat - a.toNat)),.ret (.tuple #[]),H.upd k (.arr l.1 (zAm (on l.2 a.toNat b.toNat zBa))))
 |_=> none
theorem qBb:qI Tryz.prog cfg 154 zLf:=by
 intro args H p r H' h hp
 unfold zLf at h
 split at h
 case h_2=> cases h
 simp only[Option.map_eq_some_iff,Option.bind_eq_some_iff] at h
 obtain⟨q,hv,l,hl,h⟩:=h
 rename_i k z c a b v
 cases h
 obtain⟨rfl,rfl,h1,h2,h3,h4,h5⟩:=hp
 obtain⟨a,rfl⟩:=Int.eq_ofNat_of_zero_le h2
 obtain⟨b,rfl⟩:=Int.eq_ofNat_of_zero_le (show 0<=b by omega)
 have hl2:=zFw hl
 obtain⟨hb2,he2,n3⟩:=zHa hv
 obtain⟨n1,n2⟩:=zJu hb2 he2 hl2
 simp only[Int.toNat_natCast] at h5⊢
 exact (qNh l.1 q.2.2.1 q.2.2.2 l.2 c a b h1 (by omega) (by omega) h5).atK (xE rfl) [k,q.1,q.2.1] (by simp[n1,n2,n3]) (by simp) (by simp[hl2,hb2,he2]) (by simp[xU]) (by simp) (by simp[zG2 n1 n2 hb2 he2])
end YtnemoimbeefngaaGreat
end Go.Proofs
namespace Go.Proofs
namespace YtnemoimbeefngaaGreat
open Go.Abs
theorem zMz {s h:Nat} (hs:s<=1000000) (e:s / 2=h):IntKind.u64.wrap (s:Int)=s/\(s:Int).fdiv (2 ^ min (Int.toNat 1) IntKind.u64.bits)=h/\(s:Int).fdiv (2 ^ min 1 IntKind.u64.bits)=h/\IntKind.i64.wrap (h:Int)=h:=by
 have h2:(s:Int).fdiv 2=h:=by rw[Int.fdiv_eq_ediv_of_nonneg _ (by omega)];omega
 refine⟨?_,h2,h2,qX (by omega) (by omega)⟩
 unfold IntKind.wrap
 simp[IntKind.bits]
 omega
end YtnemoimbeefngaaGreat
end Go.Proofs
namespace Go.Proofs
namespace YtnemoimbeefngaaGreat
open Go.Abs
end YtnemoimbeefngaaGreat
end Go.Proofs
namespace Go.Proofs
namespace YtnemoimbeefngaaGreat
open Go.Abs
theorem qFh {a m b s e mid:Nat} (g1:a<m) (g2:m<b) (hmid:mid=(a+b) / 2) (hse:s+e=mid+m) (has:a<=s) (hsm:s<=m) (hme:m<=e) (heb:e<=b):
  (¬(s:Int)<m/\(m:Int)<e/\(a:Int)<s/\(s:Int)<mid/\¬(mid:Int)<e/\(e:Int)<b)∨
  (¬(s:Int)<m/\¬(m:Int)<e/\(a:Int)<s/\¬(s:Int)<mid/\¬(mid:Int)<e/\(e:Int)<b)∨
  ((s:Int)<m/\¬(m:Int)<e/\(a:Int)<s/\¬(s:Int)<mid/\(mid:Int)<e/\(e:Int)<b)∨
  ((s:Int)<m/\(m:Int)<e/\¬(a:Int)<s/\(s:Int)<mid/\(mid:Int)<e/\¬(e:Int)<b)∨
  ((s:Int)<m/\(m:Int)<e/\¬(a:Int)<s/\(s:Int)<mid/\(mid:Int)<e/\(e:Int)<b)∨
  ((s:Int)<m/\(m:Int)<e/\(a:Int)<s/\(s:Int)<mid/\(mid:Int)<e/\¬(e:Int)<b)∨
  ((s:Int)<m/\(m:Int)<e/\(a:Int)<s/\(s:Int)<mid/\(mid:Int)<e/\(e:Int)<b):=by
 by_cases c1:s=m
 ·by_cases c2:m<mid
  ·exact .inl ⟨by omega,by omega,by omega,by omega,by omega,by omega⟩
  ·exact .inr (.inl ⟨by omega,by omega,by omega,by omega,by omega,by omega⟩)
 ·by_cases c2:e=m
  ·exact .inr (.inr (.inl ⟨by omega,by omega,by omega,by omega,by omega,by omega⟩))
  ·by_cases c3:a<s
   ·by_cases c4:e<b
    ·exact .inr (.inr (.inr (.inr (.inr (.inr (⟨by omega,by omega,by omega,by omega,by omega,by omega⟩))))))
    ·exact .inr (.inr (.inr (.inr (.inr (.inl ⟨by omega,by omega,by omega,by omega,by omega,by omega⟩)))))
   ·by_cases c4:e<b
    ·exact .inr (.inr (.inr (.inr (.inl ⟨by omega,by omega,by omega,by omega,by omega,by omega⟩))))
    ·exact .inr (.inr (.inr (.inl ⟨by omega,by omega,by omega,by omega,by omega,by omega⟩)))
end YtnemoimbeefngaaGreat
end Go.Proofs
namespace Go.Proofs
namespace YtnemoimbeefngaaGreat
open Go.Abs
def zE0 (n:Nat):qW GD:=fun args H=> match args with
 |[.slice (some ⟨k,0,none⟩) z _,.int .i64 a,.int .i64 m,.int .i64 b,v]=> (zE8 H v).bind fun q=> (zC0 q.2.2.2 H k).map fun l=> (z=l.2.length/\v=xU q.1/\l.2.length<=100000/\0<=a/\0<=m/\b - a<=n/\SymPre fkN fnN l.2 a.toNat m.toNat b.toNat,.ret (.tuple #[]),H.upd k (.arr l.1 (zAm (on l.2 a.toNat b.toNat zBa))))
 |_=> none
def zEz (n:Nat):List (FuncId × qW GD):=[(44,zHy),(195,zOk),(155,zE0 n)]
theorem zD3 {n:Nat} (ih:qI Tryz.prog cfg 155 (zE0 n)):∀x∈zEz n,qI Tryz.prog cfg x.1 x.2:=by simp[zEz,zWv,qBa,ih]
def syAN (e tb:TypeId) (eg:NS) (l:List (FN eg)) (x:FN eg) (c a b z q:Nat) (tm:Nat->Value) (H:AH GD):Prop:=∃i j:Nat,q+i=j/\a+1<=i/\i<=j/\j<=b/\(∀y,a+1<i->l[i - 1]?=some y->xW eg.ky y<xW eg.ky x)/\(∀y,j<b->l[j]?=some y->xW eg.ky x<=xW eg.ky y)/\
 tm 0=.slice (some ⟨0,0,none⟩) z c/\tm 1=.int .i64 a/\tm 4=(xU 1)/\tm 10=.int .i64 i/\tm 11=.int .i64 j/\H=AH.of [some (.arr e (zAm l)),some (.arr tb [.pointer (some ⟨2,0,none⟩)]),some (.hi (.eng eg))]
def syBN (e tb:TypeId) (eg:NS) (l:List (FN eg)) (c a i z q:Nat) (tm:Nat->Value) (H:AH GD):Prop:=∃k:Nat,q+k=i/\a<=k/\tm 0=.slice (some ⟨0,0,none⟩) z c/\tm 10=.int .i64 ((i+1:Nat):Int)/\tm 13=.int .i64 k/\H=AH.of [some (.arr e (zAm (zA7 l a (a+1) (k+1)))),some (.arr tb [.pointer (some ⟨2,0,none⟩)]),some (.hi (.eng eg))]
theorem qA0 {n0:Nat} (ih:qI Tryz.prog cfg 155 (zE0 n0)) (e tb:TypeId) (eg:NS) (l:List (FN eg)) (c a b:Nat) (hl:l.length<=100000) (hp:SymPre fkN fnN l a (a+1) b):
  zP Tryz.prog cfg 155 [.slice (some ⟨0,0,none⟩) l.length c,.int .i64 a,.int .i64 ((a+1:Nat):Int),.int .i64 b,(xU 1)] (AH.of [some (.arr e (zAm l)),some (.arr tb [.pointer (some ⟨2,0,none⟩)]),some (.hi (.eng eg))])
  fun r H'=> r=.ret (.tuple #[])/\H'=AH.of [some (.arr e (zAm (on l a b zBa))),some (.arr tb [.pointer (some ⟨2,0,none⟩)]),some (.hi (.eng eg))]:=by
 refine zP.ends ?_
 have hbl:=hp.bl
 have hmb:=hp.mb
 obtain⟨z,hz⟩:∃z,l.length=z:=⟨_,rfl⟩
 rw[hz] at hl hbl⊢
 obtain⟨x,hx⟩:=zCk (l:=l) (i:=a) (by omega)
 have mx:=fun p=> zCr hx p
 have az:a<z:=by omega
 have az':(a:Int)<z:=by omega
 obtain⟨m,hm⟩:∃m,a+1=m:=⟨_,rfl⟩
 have w1:IntKind.i64.wrap ((m:Int) - a)=1:=by rw[qX (by omega) (by omega)];omega
 rw[hm]
 refine zX (tbl:=zEz n0) (zD3 ih) 100002 0 (af:=a155) rfl ?_
 rw[a155,b155,qB]
 refine⟨by simp,?_⟩
 simp -implicitDefEqProofs [xU,w1]
 refine zAp (xC zAh (xD (zD3 ih)) _ _ noY jT) (syAN e tb eg l x c a b z) (m:=b - m) ⟨m,b,by omega,by omega,by omega,by omega,by omega,by omega,by simp,by simp,by simp[xU],by simp,by simp,rfl⟩ (by omega) ?_
 rintro q tm H ⟨i,j,hq,hai,hij,hjb,h1,h2,t0,t1,t4,t10,t11,rfl⟩
 by_cases hlt:i<j
 ·have hlt':(i:Int)<j:=by omega
  obtain⟨s,hs⟩:∃s,i+j=s:=⟨_,rfl⟩
  obtain⟨h,hh⟩:∃h,s / 2=h:=⟨_,rfl⟩
  have ws:IntKind.i64.wrap ((i:Int)+j)=s:=by rw[qX (by omega) (by omega)];omega
  obtain⟨f1,f2,f3,f4⟩:=zMz (by omega) hh
  obtain⟨y,hy⟩:=zCk (l:=l) (i:=h) (by omega)
  have my:=fun p=> zCr hy p
  have hz1:h<z:=by omega
  have hz2:(h:Int)<z:=by omega
  have hz3:h+1<=z:=hz1
  have az1:a+1<=z:=az
  by_cases hc:xW eg.ky y<xW eg.ky x
  ·have wh:IntKind.i64.wrap ((h:Int)+1)=((h+1:Nat):Int):=by rw[qX (by omega) (by omega)];omega
   simp -implicitDefEqProofs [zEz,zHy,xU,zHu,t0,t1,t4,t10,t11,hlt',ws,f1,f2,f3,f4,mx,my,hz,az,az',hz1,hz2,az1,hz3,hc,wh]
   exact⟨j - (h+1),by omega,h+1,j,by omega,by omega,by omega,hjb,fun w _ hw=> by rw[Nat.add_sub_cancel,hy] at hw;cases hw;exact hc,h2,by simp[t0,t1,t4,t11,xU]⟩
  ·simp -implicitDefEqProofs [zEz,zHy,xU,zHu,t0,t1,t4,t10,t11,hlt',ws,f1,f2,f3,f4,mx,my,hz,az,az',hz1,hz2,az1,hz3,hc]
   exact⟨h - i,by omega,i,h,by omega,by omega,by omega,by omega,h1,fun w _ hw=> by rw[hy] at hw;cases hw;omega,by simp[t0,t1,t4,t10,xU]⟩
 ·have hlt':¬(i:Int)<j:=by omega
  have hije:i=j:=by omega
  subst hije
  have hfin:=one_l fkN fnN hp hai hjb (fun w v h3 h4 h5=> by rw[hx] at h5;cases h5;exact h1 v h3 h4) (fun w v h3 h4 h5=> by rw[hx] at h5;cases h5;exact h2 v h3 h4)
  obtain⟨i,rfl⟩:∃i',i=i'+1:=⟨i - 1,by omega⟩
  have wi:IntKind.i64.wrap (((i+1:Nat):Int) - 1)=i:=by rw[qX (by omega) (by omega)];omega
  obtain⟨I,hI⟩:∃I,i+1=I:=⟨_,rfl⟩
  rw[hI] at wi t10 t11
  simp -implicitDefEqProofs [xU,t0,t1,t4,t10,t11]
  refine zAp (xC zAh (xD (zD3 ih)) _ _ noY jT) (syBN e tb eg l c a i z) (m:=i - a) ⟨a,by omega,by omega,by simp[t0],by simp[t10,hI],by simp,by rw[qB3 (by omega)]⟩ (by omega) ?_
  rintro q tm H ⟨k,hq,hak,t0,t10,t13,rfl⟩
  rw[hI] at t10
  have hrl:(zA7 l a (a+1) (k+1)).length=z:=by rw[zNp l (by omega) (by omega) (by omega),hz]
  by_cases hk:k<i
  ·have hk':(k:Int)<i:=by omega
   have wk:IntKind.i64.wrap ((k:Int)+1)=((k+1:Nat):Int):=by rw[qX (by omega) (by omega)];omega
   have hstep:=zYn (l:=l) (a:=a) (k:=k) hak (by omega)
   generalize hd:zA7 l a (a+1) (k+1)=d at*
   obtain⟨K,hK⟩:∃K,k+1=K:=⟨_,rfl⟩
   rw[hK] at hstep wk
   obtain⟨u,hu⟩:=zCk (l:=d) (i:=k) (by omega)
   obtain⟨v,hv⟩:=zCk (l:=d) (i:=K) (by omega)
   have mu:=fun p=> zCr hu p
   have mv:=fun p=> zCr hv p
   have b1:k<z:=by omega
   have b2:(k:Int)<z:=by omega
   have b3:K<z:=by omega
   have b4:(K:Int)<z:=by omega
   have b5:k+1<=z:=b1
   have b6:K+1<=z:=b3
   have hsw:=zJ8 hu hv
   rw[hstep] at hsw
   simp -implicitDefEqProofs [setMany,t0,t10,t13,wi,hk',wk,mu,mv,b1,b2,b3,b4,b5,b6,hrl,hsw]
   exact⟨q - 1,by omega,K,by omega,by omega,by simp[t0,t10,hI,←hK]⟩
  ·have hke:k=i:=by omega
   subst hke
   rw[show zA7 l a (a+1) (k+1)=on l a b zBa from hfin]
   simp -implicitDefEqProofs [t0,t10,t13,wi]
   refine zA [] [0,1,2] ?_ ?_ ?_<;> simp
end YtnemoimbeefngaaGreat
end Go.Proofs
namespace Go.Proofs
namespace YtnemoimbeefngaaGreat
open Go.Abs
def syCN (e tb:TypeId) (eg:NS) (l:List (FN eg)) (x:FN eg) (c a m z q:Nat) (tm:Nat->Value) (H:AH GD):Prop:=∃i j:Nat,q+i=j/\a<=i/\i<=j/\j<=m/\(∀y,a<i->l[i - 1]?=some y->xW eg.ky y<=xW eg.ky x)/\(∀y,j<m->l[j]?=some y->xW eg.ky x<xW eg.ky y)/\
 tm 0=.slice (some ⟨0,0,none⟩) z c/\tm 2=.int .i64 m/\tm 4=(xU 1)/\tm 14=.int .i64 i/\tm 15=.int .i64 j/\H=AH.of [some (.arr e (zAm l)),some (.arr tb [.pointer (some ⟨2,0,none⟩)]),some (.hi (.eng eg))]
def syDN (e tb:TypeId) (eg:NS) (l:List (FN eg)) (c m i z q:Nat) (tm:Nat->Value) (H:AH GD):Prop:=∃k:Nat,q+i=k/\k<=m/\tm 0=.slice (some ⟨0,0,none⟩) z c/\tm 14=.int .i64 i/\tm 17=.int .i64 k/\H=AH.of [some (.arr e (zAm (zA7 l k m (m+1)))),some (.arr tb [.pointer (some ⟨2,0,none⟩)]),some (.hi (.eng eg))]
theorem zXz {n0:Nat} (ih:qI Tryz.prog cfg 155 (zE0 n0)) (e tb:TypeId) (eg:NS) (l:List (FN eg)) (c a m:Nat) (hl:l.length<=100000) (hp:SymPre fkN fnN l a m (m+1)) (hm1:m≠a+1):
  zP Tryz.prog cfg 155 [.slice (some ⟨0,0,none⟩) l.length c,.int .i64 a,.int .i64 m,.int .i64 ((m+1:Nat):Int),(xU 1)] (AH.of [some (.arr e (zAm l)),some (.arr tb [.pointer (some ⟨2,0,none⟩)]),some (.hi (.eng eg))])
  fun r H'=> r=.ret (.tuple #[])/\H'=AH.of [some (.arr e (zAm (on l a (m+1) zBa))),some (.arr tb [.pointer (some ⟨2,0,none⟩)]),some (.hi (.eng eg))]:=by
 refine zP.ends ?_
 have hbl:=hp.bl
 have ham:=hp.am
 obtain⟨z,hz⟩:∃z,l.length=z:=⟨_,rfl⟩
 rw[hz] at hl hbl⊢
 obtain⟨x,hx⟩:=zCk (l:=l) (i:=m) (by omega)
 have mx:=fun p=> zCr hx p
 have az:m<z:=by omega
 have az':(m:Int)<z:=by omega
 obtain⟨b,hb⟩:∃b,m+1=b:=⟨_,rfl⟩
 have w1:IntKind.i64.wrap ((b:Int) - m)=1:=by rw[qX (by omega) (by omega)];omega
 have w0:IntKind.i64.wrap ((m:Int) - a)=(m:Int) - a:=qX (by omega) (by omega)
 have w0':¬(m:Int) - a=1:=by omega
 rw[hb]
 refine zX (tbl:=zEz n0) (zD3 ih) 100002 0 (af:=a155) rfl ?_
 rw[a155,b155,qB]
 refine⟨by simp,?_⟩
 simp -implicitDefEqProofs [xU,w1,w0,w0']
 refine zAp (xC zAh (xD (zD3 ih)) _ _ noY jT) (syCN e tb eg l x c a m z) (m:=m - a) ⟨a,m,by omega,by omega,by omega,by omega,by omega,by omega,by simp,by simp,by simp[xU],by simp,by simp,rfl⟩ (by omega) ?_
 rintro q tm H ⟨i,j,hq,hai,hij,hjb,h1,h2,t0,t2,t4,t14,t15,rfl⟩
 by_cases hlt:i<j
 ·have hlt':(i:Int)<j:=by omega
  obtain⟨s,hs⟩:∃s,i+j=s:=⟨_,rfl⟩
  obtain⟨h,hh⟩:∃h,s / 2=h:=⟨_,rfl⟩
  have ws:IntKind.i64.wrap ((i:Int)+j)=s:=by rw[qX (by omega) (by omega)];omega
  obtain⟨f1,f2,f3,f4⟩:=zMz (by omega) hh
  obtain⟨y,hy⟩:=zCk (l:=l) (i:=h) (by omega)
  have my:=fun p=> zCr hy p
  have hz1:h<z:=by omega
  have hz2:(h:Int)<z:=by omega
  have hz3:h+1<=z:=hz1
  have az1:m+1<=z:=az
  by_cases hc:xW eg.ky x<xW eg.ky y
  ·have hc2:¬xW eg.ky y<=xW eg.ky x:=by omega
   simp -implicitDefEqProofs [zEz,zHy,xU,zHu,t0,t2,t4,t14,t15,hlt',ws,f1,f2,f3,f4,mx,my,hz,az,az',hz1,hz2,az1,hz3,hc,hc2]
   exact⟨h - i,by omega,i,h,by omega,by omega,by omega,by omega,h1,fun w _ hw=> by rw[hy] at hw;cases hw;exact hc,by simp[t0,t2,t4,t14,xU]⟩
  ·have wh:IntKind.i64.wrap ((h:Int)+1)=((h+1:Nat):Int):=by rw[qX (by omega) (by omega)];omega
   have hc2:xW eg.ky y<=xW eg.ky x:=by omega
   simp -implicitDefEqProofs [zEz,zHy,xU,zHu,t0,t2,t4,t14,t15,hlt',ws,f1,f2,f3,f4,mx,my,hz,az,az',hz1,hz2,az1,hz3,hc,hc2,wh]
   exact⟨j - (h+1),by omega,h+1,j,by omega,by omega,by omega,hjb,fun w _ hw=> by rw[Nat.add_sub_cancel,hy] at hw;cases hw;omega,h2,by simp[t0,t2,t4,t15,xU]⟩
 ·have hlt':¬(i:Int)<j:=by omega
  have hije:i=j:=by omega
  subst hije
  have hfin:=qKi fkN fnN hp hai hjb (fun v w h3 h4 h5=> by rw[hx] at h5;cases h5;exact h1 v h3 h4) (fun v w h3 h4 h5=> by rw[hx] at h5;cases h5;exact h2 v h3 h4)
  simp -implicitDefEqProofs [xU,t0,t2,t4,t14,t15]
  refine zAp (xC zAh (xD (zD3 ih)) _ _ noY jT) (syDN e tb eg l c m i z) (m:=m - i) ⟨m,by omega,by omega,by simp[t0],by simp[t14],by simp,by rw[zTv (by omega)]⟩ (by omega) ?_
  rintro q tm H ⟨k,hq,hak,t0,t14,t17,rfl⟩
  have hrl:(zA7 l k m (m+1)).length=z:=by rw[zNp l (by omega) (by omega) (by omega),hz]
  by_cases hk:i<k
  ·obtain⟨j,rfl⟩:∃j,k=j+1:=⟨k - 1,by omega⟩
   have wk:IntKind.i64.wrap (((j+1:Nat):Int) - 1)=j:=by rw[qX (by omega) (by omega)];omega
   have hk':(i:Int)<((j+1:Nat):Int):=by omega
   have hstep:=zOq (l:=l) (j:=j) (i:=m) (by omega) (by omega)
   generalize hd:zA7 l (j+1) m (m+1)=d at*
   obtain⟨K,hK⟩:∃K,j+1=K:=⟨_,rfl⟩
   rw[hK] at hstep wk hk' t17
   obtain⟨u,hu⟩:=zCk (l:=d) (i:=K) (by omega)
   obtain⟨v,hv⟩:=zCk (l:=d) (i:=j) (by omega)
   have mu:=fun p=> zCr hu p
   have mv:=fun p=> zCr hv p
   have b1:K<z:=by omega
   have b2:(K:Int)<z:=by omega
   have b3:j<z:=by omega
   have b4:(j:Int)<z:=by omega
   have b5:K+1<=z:=b1
   have b6:j+1<=z:=b3
   have hsw:=zJ8 hu hv
   rw[hstep] at hsw
   simp -implicitDefEqProofs [setMany,t0,t14,t17,hk',wk,mu,mv,b1,b2,b3,b4,b5,b6,hrl,hsw]
   exact⟨q - 1,by omega,j,by omega,by omega,by simp[t0,t14]⟩
  ·have hke:k=i:=by omega
   subst hke
   rw[show zA7 l k m (m+1)=on l a (m+1) zBa from hfin,hb]
   simp -implicitDefEqProofs [t0,t14,t17]
   refine zA [] [0,1,2] ?_ ?_ ?_<;> simp
end YtnemoimbeefngaaGreat
end Go.Proofs
namespace Go.Proofs
namespace YtnemoimbeefngaaGreat
open Go.Abs
theorem symFN {eg:NS} {l:List (FN eg)} {a m b s e mid:Nat} (h:SymPre fkN fnN l a m b) (hmid:mid=(a+b) / 2) (hse:s+e=mid+m) (has:a<=s) (hsm:s<=m) (hme:m<=e) (heb:e<=b)
  (h1:∀x z,a<s->e<b->l[s - 1]?=some x->l[e]?=some z->xW eg.ky x<=xW eg.ky z)
  (h2:∀x z,s<m->m<e->l[s]?=some x->l[e - 1]?=some z->xW eg.ky z<xW eg.ky x):
  ∃l1 l2:List (FN eg),(s<m/\m<e->zA7 l s m e=l1)/\(¬(s<m/\m<e)->l=l1)/\(a<s/\s<mid->on l1 a mid zBa=l2)/\(¬(a<s/\s<mid)->l1=l2)/\(mid<e/\e<b->on l2 mid b zBa=on l a b zBa)/\(¬(mid<e/\e<b)->l2=on l a b zBa)/\
   l1.length=l.length/\l2.length=l.length/\(a<s/\s<mid->SymPre fkN fnN l1 a s mid)/\(mid<e/\e<b->SymPre fkN fnN l2 mid e b):=by
 obtain⟨k1,k2,k3,k4,k5⟩:=qLb fkN fnN h hmid hse has hsm hme heb h1 h2
 refine⟨_,_,?_,?_,?_,?_,?_,?_,k1,k2,k3,k4⟩
 ·intro hc;rw[if_pos hc]
 ·intro hc;rw[if_neg hc]
 ·intro hc;rw[if_pos hc];rfl
 ·intro hc;rw[if_neg hc]
 ·intro hc;rw[if_pos hc] at k5;exact k5
 ·intro hc;rw[if_neg hc] at k5;exact k5
theorem symHN {eg:NS} {l:List (FN eg)} {a m b s e mid:Nat} (h:SymPre fkN fnN l a m b) (hmid:mid=(a+b) / 2) (hse:s+e=mid+m) (has:a<=s) (hsm:s<=m) (hme:m<=e) (heb:e<=b)
  (h1:∀x z,a<s->e<b->l[s - 1]?=some x->l[e]?=some z->xW eg.ky x<=xW eg.ky z)
  (h2:∀x z,s<m->m<e->l[s]?=some x->l[e - 1]?=some z->xW eg.ky z<xW eg.ky x):
  ∃l1 l2:List (FN eg),l1.length=l.length/\l2.length=l.length/\(
  (¬(s:Int)<m/\(m:Int)<e/\(a:Int)<s/\(s:Int)<mid/\¬(mid:Int)<e/\(e:Int)<b/\l=l1/\on l1 a mid zBa=l2/\SymPre fkN fnN l1 a s mid/\l2=on l a b zBa/\True)∨
  (¬(s:Int)<m/\¬(m:Int)<e/\(a:Int)<s/\¬(s:Int)<mid/\¬(mid:Int)<e/\(e:Int)<b/\l=l1/\l1=l2/\True/\l2=on l a b zBa/\True)∨
  ((s:Int)<m/\¬(m:Int)<e/\(a:Int)<s/\¬(s:Int)<mid/\(mid:Int)<e/\(e:Int)<b/\l=l1/\l1=l2/\True/\on l2 mid b zBa=on l a b zBa/\SymPre fkN fnN l2 mid e b)∨
  ((s:Int)<m/\(m:Int)<e/\¬(a:Int)<s/\(s:Int)<mid/\(mid:Int)<e/\¬(e:Int)<b/\zA7 l s m e=l1/\l1=l2/\True/\l2=on l a b zBa/\True)∨
  ((s:Int)<m/\(m:Int)<e/\¬(a:Int)<s/\(s:Int)<mid/\(mid:Int)<e/\(e:Int)<b/\zA7 l s m e=l1/\l1=l2/\True/\on l2 mid b zBa=on l a b zBa/\SymPre fkN fnN l2 mid e b)∨
  ((s:Int)<m/\(m:Int)<e/\(a:Int)<s/\(s:Int)<mid/\(mid:Int)<e/\¬(e:Int)<b/\zA7 l s m e=l1/\on l1 a mid zBa=l2/\SymPre fkN fnN l1 a s mid/\l2=on l a b zBa/\True)∨
  ((s:Int)<m/\(m:Int)<e/\(a:Int)<s/\(s:Int)<mid/\(mid:Int)<e/\(e:Int)<b/\zA7 l s m e=l1/\on l1 a mid zBa=l2/\SymPre fkN fnN l1 a s mid/\on l2 mid b zBa=on l a b zBa/\SymPre fkN fnN l2 mid e b)):=by
 obtain⟨l1,l2,K1,K2,K3,K4,K5,K6,hl1,hl2,P1,P2⟩:=symFN h hmid hse has hsm hme heb h1 h2
 refine⟨l1,l2,hl1,hl2,?_⟩
 rcases qFh h.am h.mb hmid hse has hsm hme heb with ⟨q1,q2,q3,q4,q5,q6⟩|⟨q1,q2,q3,q4,q5,q6⟩|⟨q1,q2,q3,q4,q5,q6⟩|⟨q1,q2,q3,q4,q5,q6⟩|⟨q1,q2,q3,q4,q5,q6⟩|⟨q1,q2,q3,q4,q5,q6⟩|⟨q1,q2,q3,q4,q5,q6⟩
 ·exact .inl ⟨q1,q2,q3,q4,q5,q6,K2 (by omega),K3 (by omega),P1 (by omega),K6 (by omega),trivial⟩
 ·exact .inr (.inl ⟨q1,q2,q3,q4,q5,q6,K2 (by omega),K4 (by omega),trivial,K6 (by omega),trivial⟩)
 ·exact .inr (.inr (.inl ⟨q1,q2,q3,q4,q5,q6,K2 (by omega),K4 (by omega),trivial,K5 (by omega),P2 (by omega)⟩))
 ·exact .inr (.inr (.inr (.inl ⟨q1,q2,q3,q4,q5,q6,K1 (by omega),K4 (by omega),trivial,K6 (by omega),trivial⟩)))
 ·exact .inr (.inr (.inr (.inr (.inl ⟨q1,q2,q3,q4,q5,q6,K1 (by omega),K4 (by omega),trivial,K5 (by omega),P2 (by omega)⟩))))
 ·exact .inr (.inr (.inr (.inr (.inr (.inl ⟨q1,q2,q3,q4,q5,q6,K1 (by omega),K3 (by omega),P1 (by omega),K6 (by omega),trivial⟩)))))
 ·exact .inr (.inr (.inr (.inr (.inr (.inr (⟨q1,q2,q3,q4,q5,q6,K1 (by omega),K3 (by omega),P1 (by omega),K5 (by omega),P2 (by omega)⟩))))))
def syEN (e tb:TypeId) (eg:NS) (l:List (FN eg)) (c a m b d N P s0 r0 z q:Nat) (tm:Nat->Value) (H:AH GD):Prop:=∃s r:Nat,q+s=r/\s0<=s/\s<=r/\r<=r0/\(∀x y,s0<s->l[s - 1]?=some x->l[N - s]?=some y->xW eg.ky x<=xW eg.ky y)/\(∀x y,r<r0->l[r]?=some x->l[P - r]?=some y->xW eg.ky y<xW eg.ky x)/\
 tm 0=.slice (some ⟨0,0,none⟩) z c/\tm 1=.int .i64 a/\tm 2=.int .i64 m/\tm 3=.int .i64 b/\tm 4=(xU 1)/\tm 18=.int .i64 d/\tm 19=.int .i64 N/\tm 20=.int .i64 s/\tm 21=.int .i64 r/\tm 22=.int .i64 P/\H=AH.of [some (.arr e (zAm l)),some (.arr tb [.pointer (some ⟨2,0,none⟩)]),some (.hi (.eng eg))]
theorem qFg {n0:Nat} (ih:qI Tryz.prog cfg 155 (zE0 n0)) (e tb:TypeId) (eg:NS) (l:List (FN eg)) (c a m b:Nat) (hl:l.length<=100000) (hp:SymPre fkN fnN l a m b) (hm1:m≠a+1) (hm2:b≠m+1) (hn0:b - a<=n0+1):
  zP Tryz.prog cfg 155 [.slice (some ⟨0,0,none⟩) l.length c,.int .i64 a,.int .i64 m,.int .i64 b,(xU 1)] (AH.of [some (.arr e (zAm l)),some (.arr tb [.pointer (some ⟨2,0,none⟩)]),some (.hi (.eng eg))])
  fun r H'=> r=.ret (.tuple #[])/\H'=AH.of [some (.arr e (zAm (on l a b zBa))),some (.arr tb [.pointer (some ⟨2,0,none⟩)]),some (.hi (.eng eg))]:=by
 refine zP.ends ?_
 have hbl:=hp.bl
 have ham:=hp.am
 have hmb:=hp.mb
 obtain⟨z,hz⟩:∃z,l.length=z:=⟨_,rfl⟩
 rw[hz] at hl hbl⊢
 obtain⟨T,hT⟩:∃T,on l a b zBa=T:=⟨_,rfl⟩
 rw[hT]
 have w1:IntKind.i64.wrap ((b:Int) - m)=(b:Int) - m:=qX (by omega) (by omega)
 have w1':¬(b:Int) - m=1:=by omega
 have w0:IntKind.i64.wrap ((m:Int) - a)=(m:Int) - a:=qX (by omega) (by omega)
 have w0':¬(m:Int) - a=1:=by omega
 obtain⟨t,ht⟩:∃t,a+b=t:=⟨_,rfl⟩
 obtain⟨d,hd⟩:∃d,t / 2=d:=⟨_,rfl⟩
 obtain⟨N,hN⟩:∃N,d+m=N:=⟨_,rfl⟩
 obtain⟨P,hP⟩:∃P,N - 1=P:=⟨_,rfl⟩
 obtain⟨f1,f2,f3,f4⟩:=zMz (by omega) hd
 have wt:IntKind.i64.wrap ((a:Int)+b)=t:=by rw[qX (by omega) (by omega)];omega
 have wN:IntKind.i64.wrap ((d:Int)+m)=N:=by rw[qX (by omega) (by omega)];omega
 have wP:IntKind.i64.wrap ((N:Int) - 1)=P:=by rw[qX (by omega) (by omega)];omega
 obtain⟨s0,r0,hA⟩:∃s0 r0:Nat,(d<m/\s0+b=N/\r0=d)∨(m<=d/\s0=a/\r0=m):=by
  by_cases h:d<m
  ·exact⟨N - b,d,.inl ⟨h,by omega,rfl⟩⟩
  ·exact⟨a,m,.inr ⟨by omega,rfl,rfl⟩⟩
 have hA2:=hA
 refine zX (tbl:=zEz n0) (zD3 ih) 100002 0 (af:=a155) rfl ?_
 rw[a155,b155,qB]
 refine⟨by simp,?_⟩
 rcases hA with ⟨g1,g2,g3⟩|⟨g1,g2,g3⟩
 case' inl=>
  have g1':(d:Int)<m:=by omega
  have ws0:IntKind.i64.wrap ((N:Int) - b)=s0:=by rw[qX (by omega) (by omega)];omega
  simp -implicitDefEqProofs [xU,w1,w1',w0,w0',wt,f1,f2,f3,f4,wN,wP,g1',ws0]
  refine zAp (xC zAh (xD (zD3 ih)) _ _ noY jT) (syEN e tb eg l c a m b d N P s0 r0 z) (m:=r0 - s0) ⟨s0,r0,by omega,by omega,by omega,by omega,by omega,by omega,by simp,by simp,by simp,by simp,by simp[xU],by simp,by simp,by simp,by simp[g3],by simp,rfl⟩ (by omega) ?_
  clear g1 g2 g3 g1' ws0
 case' inr=>
  have g1':¬(d:Int)<m:=by omega
  simp -implicitDefEqProofs [xU,w1,w1',w0,w0',wt,f1,f2,f3,f4,wN,wP,g1']
  refine zAp (xC zAh (xD (zD3 ih)) _ _ noY jT) (syEN e tb eg l c a m b d N P s0 r0 z) (m:=r0 - s0) ⟨s0,r0,by omega,by omega,by omega,by omega,by omega,by omega,by simp,by simp,by simp,by simp,by simp[xU],by simp,by simp,by simp[g2],by simp[g3],by simp,rfl⟩ (by omega) ?_
  clear g1 g2 g3 g1'
 all_goals
  rintro q tm H ⟨s,r,hq,hs0,hsr,hr0,h1,h2,t0,t1,t2,t3,t4,t18,t19,t20,t21,t22,rfl⟩
  by_cases hlt:s<r
  ·have hlt':(s:Int)<r:=by omega
   obtain⟨u,hu⟩:∃u,s+r=u:=⟨_,rfl⟩
   obtain⟨h,hh⟩:∃h,u / 2=h:=⟨_,rfl⟩
   have ws:IntKind.i64.wrap ((s:Int)+r)=u:=by rw[qX (by omega) (by omega)];omega
   obtain⟨f1,f2,f3,f4⟩:=zMz (by omega) hh
   obtain⟨k,hk⟩:∃k,P - h=k:=⟨_,rfl⟩
   have wk:IntKind.i64.wrap ((P:Int) - h)=k:=by rw[qX (by omega) (by omega)];omega
   have hkz:k<z:=by omega
   obtain⟨x,hx⟩:=zCk (l:=l) (i:=h) (by omega)
   obtain⟨y,hy⟩:=zCk (l:=l) (i:=k) (by omega)
   have mx:=fun p=> zCr hx p
   have my:=fun p=> zCr hy p
   have b1:h<z:=by omega
   have b2:(h:Int)<z:=by omega
   have b4:(k:Int)<z:=by omega
   have b5:h+1<=z:=b1
   have b6:k+1<=z:=hkz
   by_cases hc:xW eg.ky y<xW eg.ky x
   ·have hc2:¬xW eg.ky x<=xW eg.ky y:=by omega
    simp -implicitDefEqProofs [zEz,zHy,xU,zHu,t0,t1,t2,t3,t4,t18,t19,t20,t21,t22,hlt',ws,f1,f2,f3,f4,wk,mx,my,hz,b1,b2,hkz,b4,b5,b6,hc,hc2]
    exact⟨h - s,by omega,s,h,by omega,by omega,by omega,by omega,h1,fun v w _ hv hw=> by rw[hx] at hv;rw[hk,hy] at hw;cases hv;cases hw;exact hc,by simp[t0,t1,t2,t3,t4,t18,t19,t20,t22,xU]⟩
   ·have hc2:xW eg.ky x<=xW eg.ky y:=by omega
    have wh:IntKind.i64.wrap ((h:Int)+1)=((h+1:Nat):Int):=by rw[qX (by omega) (by omega)];omega
    have hNk:N - (h+1)=k:=by omega
    simp -implicitDefEqProofs [zEz,zHy,xU,zHu,t0,t1,t2,t3,t4,t18,t19,t20,t21,t22,hlt',ws,f1,f2,f3,f4,wk,mx,my,hz,b1,b2,hkz,b4,b5,b6,hc,hc2,wh]
    exact⟨r - (h+1),by omega,h+1,r,by omega,by omega,by omega,by omega,fun v w _ hv hw=> by rw[Nat.add_sub_cancel,hx] at hv;rw[hNk,hy] at hw;cases hv;cases hw;exact hc2,h2,by simp[t0,t1,t2,t3,t4,t18,t19,t21,t22,xU]⟩
  ·have hlt':¬(s:Int)<r:=by omega
   have hsr:s=r:=by omega
   subst hsr
   obtain⟨E,hE⟩:∃E,N - s=E:=⟨_,rfl⟩
   have wE:IntKind.i64.wrap ((N:Int) - s)=E:=by rw[qX (by omega) (by omega)];omega
   obtain⟨l1,l2,hl1,hl2,hcs⟩:=symHN (s:=s) (e:=E) (mid:=d) hp (by omega) (by omega) (by omega) (by omega) (by omega) (by omega)
    (fun x y ha hb hx hy=> h1 x y (by omega) hx (by rw[hE];exact hy)) (fun x y ha hb hx hy=> h2 x y (by omega) hx (by rw[show P - s=E - 1 by omega];exact hy))
   rw[hT] at hcs
   rw[hz] at hl1 hl2
   have j1:(E:Int)<=z:=by omega
   have j4:E<=z:=by omega
   have j2:(d:Int) - a<=n0:=by omega
   have j3:(b:Int) - d<=n0:=by omega
   rcases hcs with ⟨q1,q2,q3,q4,q5,q6,k1,k2,p1,k3,p2⟩|⟨q1,q2,q3,q4,q5,q6,k1,k2,p1,k3,p2⟩|⟨q1,q2,q3,q4,q5,q6,k1,k2,p1,k3,p2⟩|⟨q1,q2,q3,q4,q5,q6,k1,k2,p1,k3,p2⟩|⟨q1,q2,q3,q4,q5,q6,k1,k2,p1,k3,p2⟩|⟨q1,q2,q3,q4,q5,q6,k1,k2,p1,k3,p2⟩|⟨q1,q2,q3,q4,q5,q6,k1,k2,p1,k3,p2⟩<;>
    (simp -implicitDefEqProofs [zEz,zOk,zE0,zE8,xU,zC0,zCu,t0,t1,t2,t3,t4,t18,t19,t20,t21,t22,wE,q1,q2,q3,q4,q5,q6,hz,hl,hl1,hl2,j1,j2,j3,j4,k1,k2,k3,p1,p2]
     refine zA [] [0,1,2] ?_ ?_ ?_<;> simp[k1,k2,k3])
theorem zQs:∀n,qI Tryz.prog cfg 155 (zE0 n)
 |0=> by
  intro args H p r H' h hp
  unfold zE0 at h
  split at h
  case h_2=> cases h
  simp only[Option.map_eq_some_iff,Option.bind_eq_some_iff] at h
  obtain⟨q,hv,l,hl,h⟩:=h
  rename_i k z c a m b v
  cases h
  obtain⟨rfl,rfl,h1,h2,h3,h4,h5⟩:=hp
  have:=h5.am
  have:=h5.mb
  omega
 |n+1=> by
  intro args H p r H' h hp
  unfold zE0 at h
  split at h
  case h_2=> cases h
  simp only[Option.map_eq_some_iff,Option.bind_eq_some_iff] at h
  obtain⟨q,hv,l,hl,h⟩:=h
  rename_i k z c a m b v
  cases h
  obtain⟨rfl,rfl,h1,h2,h3,h4,h5⟩:=hp
  have g1:=h5.am
  have g2:=h5.mb
  obtain⟨a,rfl⟩:=Int.eq_ofNat_of_zero_le h2
  obtain⟨m,rfl⟩:=Int.eq_ofNat_of_zero_le h3
  obtain⟨b,rfl⟩:=Int.eq_ofNat_of_zero_le (show 0<=b by omega)
  have hl2:=zFw hl
  obtain⟨hb2,he2,n3⟩:=zHa hv
  obtain⟨n1,n2⟩:=zJu hb2 he2 hl2
  simp only[Int.toNat_natCast] at h5 g1 g2⊢
  have ih:=zQs n
  have hr:zP Tryz.prog cfg 155 [.slice (some ⟨0,0,none⟩) l.2.length c,.int .i64 a,.int .i64 m,.int .i64 b,(xU 1)] (AH.of [some (.arr l.1 (zAm l.2)),some (.arr q.2.2.1 [.pointer (some ⟨2,0,none⟩)]),some (.hi (.eng q.2.2.2))])
    fun r H'=> r=.ret (.tuple #[])/\H'=AH.of [some (.arr l.1 (zAm (on l.2 a b zBa))),some (.arr q.2.2.1 [.pointer (some ⟨2,0,none⟩)]),some (.hi (.eng q.2.2.2))]:=by
   by_cases e1:m=a+1
   ·subst e1;exact qA0 ih l.1 q.2.2.1 q.2.2.2 l.2 c a b h1 h5
   ·by_cases e2:b=m+1
    ·subst e2;exact zXz ih l.1 q.2.2.1 q.2.2.2 l.2 c a m h1 h5 e1
    ·exact qFg ih l.1 q.2.2.1 q.2.2.2 l.2 c a m b h1 h5 e1 e2 (by omega)
  exact hr.atK (xE rfl) [k,q.1,q.2.1] (by simp[n1,n2,n3]) (by simp) (by simp[hl2,hb2,he2]) (by simp[xU]) (by simp) (by simp[zG2 n1 n2 hb2 he2])
end YtnemoimbeefngaaGreat
end Go.Proofs
namespace Go.Proofs
namespace YtnemoimbeefngaaGreat
open Go.Abs
def bFN {eg:NS} (bs:Nat) (l:List (FN eg)):List (FN eg):=bk fkN fnN bs l
theorem zM6 {eg:NS} {bs:Nat} (hb:0<bs) (l:List (FN eg)):(bFN bs l).length=l.length:=zI6 fkN fnN hb l
theorem qMu {eg:NS} {l:List (FN eg)} (hn:Nm fnN l) {A k bs:Nat} (hb:0<bs) (hA:A<=l.length):Nm fnN (((bFN bs (l.take A)++l.drop A).drop A).take k):=by
 rw[zD7 (by rw[zM6 hb,List.length_take];omega)]
 exact hn.sub fnN ((List.take_sublist _ _).trans (List.drop_sublist _ _))
def zIs:List (FuncId × qW GD):=[(154,zLf),(155,zE0 200000)]
theorem zJc:∀x∈zIs,qI Tryz.prog cfg x.1 x.2:=by simp[zIs,qBb,zQs 200000]
def sbIN (e tb:TypeId) (eg:NS) (l:List (FN eg)) (c z q:Nat) (tm:Nat->Value) (H:AH GD):Prop:=∃i A:Nat,20*i=A/\q+i=z/\A<=z/\tm 0=.slice (some ⟨0,0,none⟩) z c/\tm 1=.int .i64 z/\tm 2=(xU 1)/\tm 6=.int .i64 20/\tm 7=.int .i64 A/\tm 8=.int .i64 ((A+20:Nat):Int)/\H=AH.of [some (.arr e (zAm (bFN 20 (l.take A)++l.drop A))),some (.arr tb [.pointer (some ⟨2,0,none⟩)]),some (.hi (.eng eg))]
def sbJN (e tb:TypeId) (eg:NS) (l:List (FN eg)) (c z q:Nat) (tm:Nat->Value) (H:AH GD):Prop:=∃bs:Nat,z<=q+bs/\0<bs/\bs<=2*z+20/\tm 0=.slice (some ⟨0,0,none⟩) z c/\tm 1=.int .i64 z/\tm 2=(xU 1)/\tm 6=.int .i64 bs/\H=AH.of [some (.arr e (zAm (bFN bs l))),some (.arr tb [.pointer (some ⟨2,0,none⟩)]),some (.hi (.eng eg))]
def sbKN (e tb:TypeId) (eg:NS) (l:List (FN eg)) (c z bs q:Nat) (tm:Nat->Value) (H:AH GD):Prop:=∃i A:Nat,2*bs*i=A/\q+i=z/\A<=z/\tm 0=.slice (some ⟨0,0,none⟩) z c/\tm 1=.int .i64 z/\tm 2=(xU 1)/\tm 6=.int .i64 bs/\tm 7=.int .i64 A/\tm 8=.int .i64 ((A+2*bs:Nat):Int)/\H=AH.of [some (.arr e (zAm (bFN (2*bs) (l.take A)++bFN bs (l.drop A)))),some (.arr tb [.pointer (some ⟨2,0,none⟩)]),some (.hi (.eng eg))]
theorem qPx {eg:NS} {l:List (FN eg)} {i A:Nat} (e:20*i=A) (h:A+20<=l.length):on (bFN 20 (l.take A)++l.drop A) A (A+20) zBa=bFN 20 (l.take (A+20))++l.drop (A+20):=by
 subst e;exact qSp fkN fnN (by omega) h
theorem qJo {eg:NS} {l:List (FN eg)} {i A:Nat} (e:20*i=A) (h:A<=l.length) (h2:l.length<A+20):on (bFN 20 (l.take A)++l.drop A) A l.length zBa=bFN 20 l:=by
 subst e;exact qPw fkN fnN (by omega) h h2
theorem qEh {eg:NS} {l:List (FN eg)} {bs i A:Nat} (e:2*bs*i=A) (hb:0<bs) (hn:Nm fnN l) (h:A+2*bs<=l.length):SymPre fkN fnN (bFN (2*bs) (l.take A)++bFN bs (l.drop A)) A (A+bs) (A+2*bs)/\
  on (bFN (2*bs) (l.take A)++bFN bs (l.drop A)) A (A+2*bs) zBa=bFN (2*bs) (l.take (A+2*bs))++bFN bs (l.drop (A+2*bs)):=by
 subst e;exact qJm fkN fnN hb hn h
theorem qEg {eg:NS} {l:List (FN eg)} {bs i A:Nat} (e:2*bs*i=A) (hb:0<bs) (hn:Nm fnN l) (h:A+bs<l.length) (h2:l.length<A+2*bs):SymPre fkN fnN (bFN (2*bs) (l.take A)++bFN bs (l.drop A)) A (A+bs) l.length/\
  on (bFN (2*bs) (l.take A)++bFN bs (l.drop A)) A l.length zBa=bFN (2*bs) l:=by
 subst e;exact zRw fkN fnN hb hn h h2
theorem qEf {eg:NS} {l:List (FN eg)} {bs i A:Nat} (e:2*bs*i=A) (hb:0<bs) (h:l.length<=A+bs) (h2:A<=l.length):bFN (2*bs) (l.take A)++bFN bs (l.drop A)=bFN (2*bs) l:=by
 subst e;exact zRv fkN fnN hb h h2
theorem qEe {eg:NS} {l:List (FN eg)} {bs:Nat} (h:l.length<=bs):bFN bs l=zBa l:=zFi fkN fnN h
theorem qN4 (e tb:TypeId) (eg:NS) (l:List (FN eg)) (c:Nat) (hl:l.length<=90000) (hn:Nm fnN l):
  zP Tryz.prog cfg 104 [.slice (some ⟨0,0,none⟩) l.length c,.int .i64 l.length,(xU 1)] (AH.of [some (.arr e (zAm l)),some (.arr tb [.pointer (some ⟨2,0,none⟩)]),some (.hi (.eng eg))])
  fun r H'=> r=.ret (.tuple #[])/\H'=AH.of [some (.arr e (zAm (zBa l))),some (.arr tb [.pointer (some ⟨2,0,none⟩)]),some (.hi (.eng eg))]:=by
 refine zP.ends ?_
 obtain⟨z,hz⟩:∃z,l.length=z:=⟨_,rfl⟩
 rw[hz] at hl⊢
 refine zX (tbl:=zIs) zJc 200002 0 (af:=a104) rfl ?_
 rw[a104,b104,qB]
 refine⟨by simp,?_⟩
 simp -implicitDefEqProofs [xU]
 refine zAp (xC zAh (xD zJc) _ _ noY jT) (sbIN e tb eg l c z) (m:=z) ⟨0,0,rfl,by omega,by omega,by simp,by simp,by simp[xU],by simp,by simp,by simp,by simp[bFN,bk,blk,srt]⟩ (by omega) ?_
 rintro q tm H ⟨i,A,hA,hq,hAz,t0,t1,t2,t6,t7,t8,rfl⟩
 have hseg:∀k,Nm fnN (((bFN 20 (l.take A)++l.drop A).drop A).take k):=fun k=> qMu hn (by omega) (by omega)
 have hDl:(bFN 20 (l.take A)++l.drop A).length=z:=by rw[List.length_append,zM6 (by omega),List.length_take,List.length_drop];omega
 obtain⟨B,hB⟩:∃B,A+20=B:=⟨_,rfl⟩
 rw[hB] at t8
 have v1:(A:Int)<=B:=by omega
 by_cases hb:B<=z
 ·have hb':(B:Int)<=z:=by omega
  have hins:=qPx hA (show A+20<=l.length by omega)
  rw[hB] at hins
  have wB:IntKind.i64.wrap ((B:Int)+20)=((B+20:Nat):Int):=by rw[qX (by omega) (by omega)];omega
  generalize bFN 20 (l.take A)++l.drop A=D at*
  have hsg:=hseg (B - A)
  have hz1:z<=100000:=by omega
  simp -implicitDefEqProofs [zIs,zLf,zE8,xU,zC0,zCu,t0,t1,t2,t6,t7,t8,hb,hb',hDl,hz1,v1,hsg,hins,wB]
  exact⟨q - 1,by omega,i+1,B,by omega,by omega,by omega,by simp[t0,t1,t2,t6]⟩
 ·have hb':¬(B:Int)<=z:=by omega
  have hins:=qJo hA (show A<=l.length by omega) (show l.length<A+20 by omega)
  rw[hz] at hins
  generalize bFN 20 (l.take A)++l.drop A=D at*
  have hsg:=hseg (z - A)
  have hz1:z<=100000:=by omega
  have v2:(A:Int)<=z:=by omega
  simp -implicitDefEqProofs [zIs,zLf,zE8,xU,zC0,zCu,t0,t1,t2,t6,t7,t8,hb',hDl,hz1,v2,hsg,hins]
  refine zAp (xC zAh (xD zJc) _ _ noY jT) (sbJN e tb eg l c z) (m:=z) ⟨20,by omega,by omega,by omega,by simp[t0],by simp[t1],by simp[t2],by simp[t6],rfl⟩ (by omega) ?_
  clear hseg hDl hsg hins hb' hb v1 v2 t0 t1 t2 t6 t7 t8 hB hA hAz hq
  rintro q tm H ⟨bs,hq,hb0,hbz,t0,t1,t2,t6,rfl⟩
  by_cases hlt:bs<z
  ·have hlt':(bs:Int)<z:=by omega
   obtain⟨b2,hb2⟩:∃b2,2*bs=b2:=⟨_,rfl⟩
   have wb:IntKind.i64.wrap (2*(bs:Int))=b2:=by rw[qX (by omega) (by omega)];omega
   have wb':IntKind.i64.wrap ((bs:Int)*2)=b2:=by rw[qX (by omega) (by omega)];omega
   simp -implicitDefEqProofs [xU,t0,t1,t2,t6,hlt',wb]
   refine zAp (xC zAh (xD zJc) _ _ noY jT) (sbKN e tb eg l c z bs) (m:=z) ⟨0,0,by omega,by omega,by omega,by simp[t0],by simp[t1],by simp[t2],by simp[t6],by simp,by simp[hb2],?_⟩ (by omega) ?_
   ·rw[List.take_zero,List.drop_zero,show bFN (2*bs) []=[] by simp[bFN,bk,blk,srt]];rfl
   rintro q2 tm H ⟨i,A,hA,hq2,hAz,t0,t1,t2,t6,t7,t8,rfl⟩
   have hDl:(bFN (2*bs) (l.take A)++bFN bs (l.drop A)).length=z:=by rw[List.length_append,zM6 (by omega),zM6 (by omega),List.length_take,List.length_drop];omega
   obtain⟨B,hB⟩:∃B,A+2*bs=B:=⟨_,rfl⟩
   obtain⟨M,hM⟩:∃M,A+bs=M:=⟨_,rfl⟩
   rw[hB] at t8
   have wM:IntKind.i64.wrap ((A:Int)+bs)=M:=by rw[qX (by omega) (by omega)];omega
   by_cases hb:B<=z
   ·have hb':(B:Int)<=z:=by omega
    obtain⟨hpre,hmer⟩:=qEh hA hb0 hn (show A+2*bs<=l.length by omega)
    rw[hB,hM] at hpre
    rw[hB] at hmer
    have hnx:2*bs*(i+1)=B:=by rw[Nat.mul_succ,hA,hB]
    have wB:IntKind.i64.wrap ((B:Int)+b2)=((B+b2:Nat):Int):=by rw[qX (by omega) (by omega)];omega
    have hi1:i+1<=z:=by
     have:1*(i+1)<=2*bs*(i+1):=Nat.mul_le_mul_right _ (by omega)
     omega
    generalize bFN (2*bs) (l.take A)++bFN bs (l.drop A)=D at*
    have hz1:z<=100000:=by omega
    have hba:(B:Int) - A<=200000:=by omega
    simp -implicitDefEqProofs [zIs,zE0,zE8,xU,zC0,zCu,t0,t1,t2,t6,t7,t8,hb',hDl,hz1,wM,wb,hba,hpre,hmer,wB]
    exact⟨q2 - 1,by omega,i+1,B,hnx,by omega,by omega,by simp[t0,t1,t2,t6,hb2]⟩
   ·have hb':¬(B:Int)<=z:=by omega
    by_cases hmz:M<z
    ·have hmz':(M:Int)<z:=by omega
     obtain⟨hpre,hmer⟩:=qEg hA hb0 hn (show A+bs<l.length by omega) (show l.length<A+2*bs by omega)
     rw[hM,hz] at hpre
     rw[hz,hb2] at hmer
     rw[hb2] at hpre hDl⊢
     generalize bFN b2 (l.take A)++bFN bs (l.drop A)=D at*
     have hz1:z<=100000:=by omega
     have hba:(z:Int) - A<=200000:=by omega
     simp -implicitDefEqProofs [zIs,zE0,zE8,xU,zC0,zCu,t0,t1,t2,t6,t7,t8,hb',hmz',hDl,hz1,wM,wb',hba,hpre,hmer]
     exact⟨q - 1,by omega,b2,by omega,by omega,by omega,by simp[t0,t1,t2]⟩
    ·have hmz':¬(M:Int)<z:=by omega
     have hmer:=qEf hA hb0 (show l.length<=A+bs by omega) (by omega)
     rw[hb2] at hmer⊢
     rw[hmer]
     simp -implicitDefEqProofs [t0,t1,t2,t6,t7,t8,hb',hmz',wM,wb']
     exact⟨q - 1,by omega,b2,by omega,by omega,by omega,by simp[t0,t1,t2]⟩
  ·have hlt':¬(bs:Int)<z:=by omega
   rw[qEe (show l.length<=bs by omega)]
   simp -implicitDefEqProofs [t0,t1,t2,t6,hlt']
   refine zA [] [0,1,2] ?_ ?_ ?_<;> simp
def zOj:qW GD:=fun args H=> match args with
 |[.slice (some ⟨k,0,none⟩) z _,.int .i64 n,v]=> (zE8 H v).bind fun q=> (zC0 q.2.2.2 H k).map fun l=> (z=l.2.length/\n=l.2.length/\v=xU q.1/\l.2.length<=90000/\Nm fnN l.2,.ret (.tuple #[]),H.upd k (.arr l.1 (zAm (zBa l.2))))
 |_=> none
theorem qA9:qI Tryz.prog cfg 104 zOj:=by
 intro args H p r H' h hp
 unfold zOj at h
 split at h
 case h_2=> cases h
 simp only[Option.map_eq_some_iff,Option.bind_eq_some_iff] at h
 obtain⟨q,hv,l,hl,h⟩:=h
 rename_i k z c n v
 cases h
 obtain⟨rfl,rfl,rfl,h1,h2⟩:=hp
 have hl2:=zFw hl
 obtain⟨hb2,he2,n3⟩:=zHa hv
 obtain⟨n1,n2⟩:=zJu hb2 he2 hl2
 exact (qN4 l.1 q.2.2.1 q.2.2.2 l.2 c h1 h2).atK (xE rfl) [k,q.1,q.2.1] (by simp[n1,n2,n3]) (by simp) (by simp[hl2,hb2,he2]) (by simp[xU]) (by simp) (by simp[zG2 n1 n2 hb2 he2])
end YtnemoimbeefngaaGreat
end Go.Proofs
namespace Go.Proofs
namespace YtnemoimbeefngaaGreat
open Go.Abs
def zRy:List (FuncId × qW GD):=[(104,zOj)]
theorem qE6:∀x∈zRy,qI Tryz.prog cfg x.1 x.2:=by simp[zRy,qA9]
theorem qQ4 (e tb:TypeId) (eg:NS) (l:List (FN eg)) (c:Nat) (hl:l.length<=90000) (hn:Nm fnN l):
  zP Tryz.prog cfg 43 [.slice (some ⟨0,0,none⟩) l.length c,(xU 1)] (AH.of [some (.arr e (zAm l)),some (.arr tb [.pointer (some ⟨2,0,none⟩)]),some (.hi (.eng eg))])
  fun r H'=> r=.ret (.tuple #[])/\H'=AH.of [some (.arr e (zAm (zBa l))),some (.arr tb [.pointer (some ⟨2,0,none⟩)]),some (.hi (.eng eg))]:=by
 refine zP.ends ?_
 obtain⟨z,hz⟩:∃z,l.length=z:=⟨_,rfl⟩
 rw[hz] at hl⊢
 refine zX (tbl:=zRy) qE6 0 0 (af:=a43) rfl ?_
 rw[a43,b43,qB]
 refine⟨by simp,?_⟩
 simp -implicitDefEqProofs [zRy,zOj,zE8,xU,zC0,zCu,hz,hl,hn]
 refine zA [] [0,1,2] ?_ ?_ ?_<;> simp
def zR6:qW GD:=fun args H=> match args with
 |[.slice (some ⟨k,0,none⟩) z _,v]=> (zE8 H v).bind fun q=> (zC0 q.2.2.2 H k).map fun l=> (z=l.2.length/\v=xU q.1/\l.2.length<=90000/\Nm fnN l.2,.ret (.tuple #[]),H.upd k (.arr l.1 (zAm (zBa l.2))))
 |_=> none
theorem qF1:qI Tryz.prog cfg 43 zR6:=by
 intro args H p r H' h hp
 unfold zR6 at h
 split at h
 case h_2=> cases h
 simp only[Option.map_eq_some_iff,Option.bind_eq_some_iff] at h
 obtain⟨q,hv,l,hl,h⟩:=h
 rename_i k z c v
 cases h
 obtain⟨rfl,rfl,h1,h2⟩:=hp
 have hl2:=zFw hl
 obtain⟨hb2,he2,n3⟩:=zHa hv
 obtain⟨n1,n2⟩:=zJu hb2 he2 hl2
 exact (qQ4 l.1 q.2.2.1 q.2.2.2 l.2 c h1 h2).atK (xE rfl) [k,q.1,q.2.1] (by simp[n1,n2,n3]) (by simp) (by simp[hl2,hb2,he2]) (by simp[xU]) (by simp) (by simp[zG2 n1 n2 hb2 he2])
def idL (s:NS):List (FN s):=List.finRange s.ky.length
theorem qO8 (s:NS):(idL s).length=s.ky.length:=by simp[idL]
theorem qDn (s:NS):Nm fnN (idL s):=by
 unfold Nm idL
 rw[List.pairwise_iff_getElem]
 intro i j hi hj hij
 simp[fnN]
 exact hij
def zIy (s:NS):List Nat:=(zBa (idL s)).map (·.val)
def zBb (l:List Nat):List Int:=l.map fun n:Nat=> (n:Int)
theorem qB2 {s:NS} (l:List (FN s)):zAm l=qZ (zBb (l.map (·.val))):=by simp[zAm,qZ,zBb]
def upL (i z:Nat):List Int:=(List.range z).map fun j=> if j<i then (j:Int) else 0
theorem qKy (i z:Nat):(upL i z).length=z:=by simp[upL]
theorem qEu (z:Nat):qZ (upL 0 z)=List.replicate z (Value.int .i64 0):=by
 have:upL 0 z=List.replicate z 0:=by
  unfold upL
  refine List.ext_getElem (by simp) fun i h1 h2=> by simp
 rw[this]
 simp[qZ]
theorem qEv {i z:Nat} (h:i<z):(qZ (upL i z)).set i (.int .i64 i)=qZ (upL (i+1) z):=by
 unfold qZ upL
 refine List.ext_getElem (by simp) fun j h1 h2=> ?_
 simp only[List.getElem_set,List.getElem_map,List.getElem_range]
 split
 ·subst i;simp
 ·congr 1
  by_cases hj:j<i
  ·rw[if_pos hj,if_pos (by omega)]
  ·rw[if_neg hj,if_neg (by omega)]
theorem qKz (s:NS):qZ (upL s.ky.length s.ky.length)=zAm (idL s):=by
 unfold qZ upL zAm idL
 refine List.ext_getElem (by simp) fun j h1 h2=> ?_
 simp only[List.getElem_map,List.getElem_range,List.getElem_finRange]
 simp at h1
 simp[h1]
def zMh:List (FuncId × qW GD):=[(43,zR6)]
theorem zOg:∀x∈zMh,qI Tryz.prog cfg x.1 x.2:=by simp[zMh,qF1]
def onI (s:NS) (z m:Nat) (tm:Nat->Value) (H:AH GD):Prop:=∃i:Nat,m+i=z/\tm 1=.pointer (some ⟨1,0,none⟩)/\tm 3=.slice (some ⟨12,0,none⟩) z 1/\tm 14=.int .i64 z/\tm 15=.int .i64 i/\
 H=AH.of [some (.hi (.eng s)),some (.arr 23 [.pointer (some ⟨0,0,none⟩)]),none,none,none,none,none,none,none,none,none,none,some (.arr 3 (qZ (upL i z)))]
theorem qRl (s:NS) (hl:s.ky.length<=90000):zP Tryz.prog cfg 13 [.pointer (some ⟨0,0,none⟩)] (AH.of [some (.hi (.eng s))])
  fun r H'=> r=.ret (.slice (some ⟨1,0,none⟩) s.ky.length 1)/\H'=AH.of [some (.hi (.eng s)),some (.arr 3 (qZ (zBb (zIy s))))]:=by
 refine zP.ends ?_
 have hnm:=qDn s
 have hid:=qO8 s
 have hall:=qKz s
 have hord:zAm (zBa (idL s))=qZ (zBb (zIy s)):=qB2 _
 obtain⟨z,hz⟩:∃z,s.ky.length=z:=⟨_,rfl⟩
 have hz9:z*8<=140737488355328/\z<=9223372036854775807:=by omega
 have hz8:8*(z:Int)<=140737488355328/\(z:Int)<=9223372036854775807:=by omega
 have hz0:(0:Int)<=z:=by omega
 rw[hz] at hall hid
 refine zX (tbl:=zMh) zOg 90001 3 (af:=a13) rfl ?_
 rw[a13,b13,qB]
 refine⟨by simp,?_⟩
 simp -implicitDefEqProofs [zJ,hz,hz8,hz0]
 rw[←qEu z]
 refine zBm (xC zAh (xD zOg) _ _ noY jT) (onI s z) (m:=z) ?_ (by omega) ?_
 ·refine qS [.pack (GD.eng s) 0 [2,3,4,5,6,7,8,9,10,11]] [0,1,2,3,4,5,6,7,8,9,10,11,12] ([some (.hi (.eng s)),some (.arr 23 [.pointer (some ⟨0,0,none⟩)]),none,none,none,none,none,none,none,none,none,none,some (.arr 3 (qZ (upL 0 z)))]) z (by omega) ?_ ?_ ⟨0,?_⟩<;> simp[zJ,hz]
  done
 rintro m tm H ⟨i,hm,t1,t3,t14,t15,rfl⟩
 by_cases hi:i<z
 ·have hi':(i:Int)<z:=by omega
  have hwr:=zA8 hi (by omega)
  have hul:=qKy i z
  have hsu:=qEv hi
  simp -implicitDefEqProofs [t1,t3,t14,t15,hi,hi',hwr,hul,hsu]
  refine⟨hi,?_⟩
  refine qS [] [0,1,2,3,4,5,6,7,8,9,10,11,12] ([some (.hi (GD.eng s)),some (.arr 23 [.pointer (some ⟨0,0,none⟩)]),none,none,none,none,none,none,none,none,none,none,some (.arr 3 (qZ (upL (i+1) z)))]) (m - 1) (by omega) ?_ ?_ ⟨i+1,by omega,?_⟩<;> simp[t1,t3,t14]
 ·have hie:i=z:=by omega
  subst hie
  have hi':¬(i:Int)<i:=by omega
  rw[hall]
  have hl2:i<=90000:=by omega
  simp -implicitDefEqProofs [zMh,zR6,zE8,xU,zC0,zCu,t1,t3,t14,t15,hid,hl2,hnm,hord]
  refine zA [] [0,12] ?_ ?_ ?_<;> simp[hz]
def st13:qW GD:=fun args H=> match args with
 |[.pointer (some ⟨k,0,none⟩)]=> match H.get k with
  |some (.hi (.eng s))=> some (s.ky.length<=90000,.ret (.slice (some ⟨H.next,0,none⟩) s.ky.length 1),H.add (.arr 3 (qZ (zBb (zIy s)))))
  |_=> none
 |_=> none
theorem qMr:qI Tryz.prog cfg 13 st13:=by
 intro args H p r H' h hp
 unfold st13 at h
 split at h
 case h_2=> cases h
 split at h
 case h_2=> cases h
 rename_i k x s hk
 cases h
 exact (qRl s hp).atK (xE rfl) [k] (by simp) (by simp) (by simp[hk]) (by simp) (by simp) (by simp[xB hk])
end YtnemoimbeefngaaGreat
end Go.Proofs
namespace Go.Proofs
namespace YtnemoimbeefngaaGreat
open Go.Abs
theorem qTk (x:Ev):zHf [(0,1,false,.int),(1,1,false,.int),(2,1,false,.int),(3,1,false,.int)] [.int .u8 x.k,.int .i64 x.a,.int .i64 x.t,.int .u64 x.v] [.int .u8 x.k,.int .i64 x.a,.int .i64 x.t,.int .u64 x.v]=some true:=by
 simp[aeq,zHf,zCg,zFe,zGw]
theorem zTr (e e':TypeId) (a:List Ev) (ta tb:Nat) (hl:a.length<=1000):zP Tryz.prog cfg 61 [.slice (some ⟨0,0,none⟩) a.length ta,.slice (some ⟨1,0,none⟩) a.length tb] (AH.of [some (.arr e (evs a)),some (.arr e' (evs a))])
  fun r H'=> r=.ret (.bool true)/\H'=AH.of [some (.arr e (evs a)),some (.arr e' (evs a))]:=by
 refine zP.ends ?_
 refine zX (tbl:=[]) (by simp) 1001 0 (af:=a61) rfl ?_
 rw[a61,b61,qB]
 refine⟨by simp,?_⟩
 simp -implicitDefEqProofs
 refine zAp (xC zAh (xD (by simp)) _ _ noY jT) (fun mm tm H=> ∃i:Nat,mm+i=a.length/\tm 0=.slice (some ⟨0,0,none⟩) a.length ta/\tm 1=.slice (some ⟨1,0,none⟩) a.length tb/\tm 5=.int .i64 i/\H=AH.of [some (.arr e (evs a)),some (.arr e' (evs a))]) (m:=a.length) ⟨0,by simp⟩ (by omega) ?_
 rintro mm tm H ⟨i,hmm,t0,t1,t5,rfl⟩
 by_cases hi:i<a.length
 ·obtain⟨x,hx⟩:=zCk (l:=a) (i:=i) (by omega)
  have hi':(i:Int)<a.length:=by omega
  have hwr:=zA8 hi (by omega)
  have rx:=qC2 hx
  have lx:=qI3 hi
  simp -implicitDefEqProofs [t0,t1,t5,hi,hi',rx,lx,qTk,zCg,hwr]
  exact⟨mm - 1,by omega,i+1,by omega,by omega⟩
 ·have hi':¬(i:Int)<a.length:=by omega
  simp -implicitDefEqProofs [t0,t1,t5,hi,hi']
  refine zA [] [0,1] ?_ ?_ ?_<;> simp
def zMn:qW GD:=fun args H=> match args with
 |[.slice (some ⟨k,0,none⟩) n _,.slice (some ⟨j,0,none⟩) n' _]=> match H.get k,H.get j with
  |some (.arr _ cs),some (.arr _ cs')=> (zG0 cs).map fun a=> (k≠j/\cs'=cs/\n=a.length/\n'=a.length/\a.length<=1000,.ret (.bool true),H)
  |_,_=> none
 |_=> none
theorem zX2:qI Tryz.prog cfg 61 zMn:=by
 intro args H p r H' h hp
 unfold zMn at h
 split at h
 case h_2=> cases h
 split at h
 case h_2=> cases h
 simp only[Option.map_eq_some_iff] at h
 obtain⟨a,ha,h⟩:=h
 rename_i k n c j n' c' _ _ e cs e' cs' hk hj
 cases h
 obtain⟨p1,rfl,rfl,rfl,p5⟩:=hp
 rw[zL7 ha] at hk hj
 exact (zTr e e' a c c' p5).atK (xE rfl) [k,j] (by simp[p1]) (by simp) (by simp[hk,hj]) (by simp) (by simp) (by simp[xB hk,xB hj])
end YtnemoimbeefngaaGreat
end Go.Proofs
namespace Go.Proofs
namespace YtnemoimbeefngaaGreat
open Go.Abs
def zI7 (s:NS) (a b:Nat):Prop:=xW s.ky a<xW s.ky b∨(xW s.ky a=xW s.ky b/\a<b)
theorem zT9 (s:NS):(zIy s).Pairwise (zI7 s):=by
 unfold zIy
 rw[List.pairwise_map]
 refine (zGm fkN fnN (qDn s)).imp ?_
 intro a b hab
 unfold Lex fkN fnN at hab
 show xW s.ky a.val<xW s.ky b.val∨(xW s.ky a.val=xW s.ky b.val/\a.val<b.val)
 omega
theorem qCr (s:NS) (n:Nat):n∈zIy s↔n<s.ky.length:=by
 unfold zIy
 rw[List.mem_map]
 constructor
 ·rintro⟨x,_,rfl⟩
  exact x.isLt
 ·intro hn
  exact⟨⟨n,hn⟩,(zB9 fkN fnN (idL s)).mem_iff.2 (by simp[idL]),rfl⟩
def leK (s:NS) (n x:Nat):Bool:=decide (xW s.ky x<=xW s.ky n)
def zKk (s:NS) (n:Nat) (L:List Nat):List Nat:=L.takeWhile (leK s n)++n::L.dropWhile (leK s n)
def zEq (s:NS):Nat->List Nat
 |0=> []
 |n+1=> zKk s n (zEq s n)
theorem zQ7 (s:NS) (n:Nat) (L:List Nat):(zKk s n L).Perm (L++[n]):=by
 unfold zKk
 refine (List.perm_middle).trans ?_
 rw[List.takeWhile_append_dropWhile]
 exact (List.perm_append_comm (l₁:=[n]) (l₂:=L))
theorem qIg (s:NS) (n:Nat) (L:List Nat):(zKk s n L).length=L.length+1:=by
 rw[(zQ7 s n L).length_eq];simp
theorem zNt (s:NS):∀n,(zEq s n).length=n
 |0=> rfl
 |n+1=> by rw[zEq,qIg,zNt s n]
theorem zKc (s:NS):∀{n x},x∈zEq s n↔x<n
 |0,x=> by simp[zEq]
 |n+1,x=> by
  rw[zEq,(zQ7 s n _).mem_iff,List.mem_append,zKc s,List.mem_singleton]
  omega
theorem qKf {α:Type} {p:α->Bool}:∀{L:List α} {i:Nat},(∀j x,j<i->L[j]?=some x->p x=true)->(∀x,L[i]?=some x->p x=false)->i<=L.length->L.takeWhile p=L.take i/\L.dropWhile p=L.drop i
 |[],i,_,_,h=> by simp
 |y::L,0,_,h2,_=> by
  have:=h2 y rfl
  simp[List.takeWhile_cons,List.dropWhile_cons,this]
 |y::L,i+1,h1,h2,h3=> by
  have hy:=h1 0 y (by omega) rfl
  obtain⟨a,b⟩:=qKf (p:=p) (L:=L) (i:=i) (fun j x hj hx=> h1 (j+1) x (by omega) (by simpa using hx)) (fun x hx=> h2 x (by simpa using hx)) (by simpa using h3)
  simp[List.takeWhile_cons,List.dropWhile_cons,hy,a,b]
theorem qAt {α:Type} {p:α->Bool} {x:α}:∀{L:List α},x∈L.takeWhile p->p x=true
 |[],h=> by cases h
 |y::L,h=> by
  rw[List.takeWhile_cons] at h
  split at h
  ·rename_i hy
   rcases List.mem_cons.1 h with rfl|h
   ·exact hy
   ·exact qAt h
  ·cases h
theorem qO6 (s:NS) {n:Nat} {L:List Nat} (h:L.Pairwise (zI7 s)) (hlt:∀x∈L,x<n):(zKk s n L).Pairwise (zI7 s):=by
 unfold zKk
 rw[List.pairwise_append]
 refine⟨h.sublist (List.takeWhile_sublist _),?_,?_⟩
 ·rw[List.pairwise_cons]
  refine⟨fun x hx=> ?_,h.sublist (List.dropWhile_sublist _)⟩
  cases hd:L.dropWhile (leK s n) with
  |nil=> rw[hd] at hx;cases hx
  |cons y D=>
   have hy:leK s n y=false:=by
    have h1:=List.head?_dropWhile_not (leK s n) L
    rw[hd] at h1
    simpa using h1
   have hp:(y::D).Pairwise (zI7 s):=by rw[←hd];exact h.sublist (List.dropWhile_sublist _)
   rw[hd] at hx
   have hky:xW s.ky n<xW s.ky y:=by unfold leK at hy;simpa using hy
   rcases List.mem_cons.1 hx with rfl|hx
   ·exact .inl hky
   ·have:=(List.pairwise_cons.1 hp).1 x hx
    unfold zI7 at this
    exact .inl (by omega)
 ·intro a ha b hb
  have hle:xW s.ky a<=xW s.ky n:=by
   have:=qAt ha
   unfold leK at this
   simpa using this
  have haL:=(List.takeWhile_sublist (leK s n)).subset ha
  have han:=hlt a haL
  rcases List.mem_cons.1 hb with rfl|hb
  ·unfold zI7
   omega
  ·have h2:(L.takeWhile (leK s n)++L.dropWhile (leK s n)).Pairwise (zI7 s):=by rw[List.takeWhile_append_dropWhile];exact h
   exact (List.pairwise_append.1 h2).2.2 a ha b hb
theorem zP4 (s:NS):∀n,(zEq s n).Pairwise (zI7 s)
 |0=> by simp[zEq]
 |n+1=> qO6 s (zP4 s n) fun x hx=> (zKc s).1 hx
theorem zQ1 (s:NS):zEq s s.ky.length=zIy s:=by
 have hnd:∀{L:List Nat},L.Pairwise (zI7 s)->L.Nodup:=fun h=> h.imp fun {a b} hab e=> by
  subst e;unfold zI7 at hab;omega
 have hp:(zEq s s.ky.length).Perm (zIy s):=(List.perm_ext_iff_of_nodup (hnd (zP4 s _)) (hnd (zT9 s))).2 fun x=> by rw[zKc,qCr]
 exact hp.eq_of_pairwise (fun a b _ _ h1 h2=> by unfold zI7 at h1 h2;omega) (zP4 s _) (zT9 s)
theorem zZd (l:List Nat) (i:Nat):(qZ (zBb l)).take i=qZ (zBb (l.take i)):=by simp[qZ,zBb,List.map_take]
theorem zZe (l:List Nat) (i:Nat):(qZ (zBb l)).drop i=qZ (zBb (l.drop i)):=by simp[qZ,zBb,List.map_drop]
theorem zJf (l:List Nat):(zBb l).length=l.length:=by simp[zBb]
def roI (s:NS) (z m:Nat) (tm:Nat->Value) (H:AH GD):Prop:=∃n:Nat,m+n=z/\tm 0=.pointer (some ⟨0,0,none⟩)/\tm 3=.slice (some ⟨9,0,none⟩) n 1/\tm 4=.int .i64 n/\H=AH.of (qL s 0++[some (.arr 3 (qZ (zBb (zEq s n))))])
theorem qQn (s:NS) (hs:s.Ok):zP Tryz.prog cfg 64 [.pointer (some ⟨0,0,none⟩)] (AH.of [some (.hi (.reng s))])
  fun r H'=> r=.ret (.slice (some ⟨1,0,none⟩) s.ky.length 1)/\H'=AH.of [some (.hi (.reng s)),some (.arr 3 (qZ (zBb (zEq s s.ky.length))))]:=by
 refine zP.ends ?_
 have hth:0<4:=by omega
 refine zP.openREng (th:=0) hth ?_
 have hk64:=hs.ky
 have hkw:=hs.kw
 obtain⟨z,hz⟩:∃z,s.ky.length=z:=⟨_,rfl⟩
 rw[hz] at hk64 hkw
 refine zX (tbl:=zFo) zC2 70 3 (af:=a64) rfl ?_
 rw[a64,b64,qB]
 refine⟨by simp,?_⟩
 simp -implicitDefEqProofs [qL,zR,rps,o1,o2,o3,hz]
 refine zBm (xC zAh (xD zC2) _ _ noY jT) (roI s z) (m:=z) ?_ (by omega) ?_
 ·refine zG5 [.nil 3] [0,1,2,3,4,5,6,7,8,9] (qL s 0++[some (.arr 3 (qZ []))]) [(3,.slice (some ⟨9,0,none⟩) 0 1)] z (by omega) ?_ ?_ ?_ ⟨0,?_⟩<;> simp[qL,zR,rps,o1,o2,o3,hz,zEq,zBb,show qZ []=[] from rfl]
  done
 rintro m tm H ⟨n,hm,t0,t3,t4,rfl⟩
 have hLl:=zNt s n
 by_cases hn:n<z
 ·have hn':(n:Int)<z:=by omega
  have hLm:∀x∈zEq s n,x<n:=fun x hx=> (zKc s).1 hx
  have hsuc:zEq s (n+1)=zKk s n (zEq s n):=rfl
  generalize zEq s n=L at*
  simp -implicitDefEqProofs [qL,zR,rps,o1,o2,o3,hz,t0,t3,t4,hn']
  refine zAp (xC zAh (xD zC2) _ _ noY jT) (fun q tm H=> ∃i:Nat,q+i=n/\(∀j x,j<i->L[j]?=some x->leK s n x=true)/\tm 0=.pointer (some ⟨0,0,none⟩)/\tm 3=.slice (some ⟨9,0,none⟩) n 1/\tm 4=.int .i64 n/\tm 5=.int .i64 i/\H=AH.of (qL s 0++[some (.arr 3 (qZ (zBb L)))])) (m:=n)
   ⟨0,by omega,by simp,by simp[t0],by simp[t3],by simp[t4],by simp,by simp[qL,zR,rps,o1,o2,o3,hz]⟩ (by omega) ?_
  rintro q tm H ⟨i,hq,hall,t0,t3,t4,t5,rfl⟩
  have hdone:(∀x,L[i]?=some x->leK s n x=false)->zKk s n L=L.take i++n::L.drop i:=fun h=> by
   obtain⟨a,b⟩:=qKf hall h (by omega)
   unfold zKk;rw[a,b]
  have hwr:=zA8 hn (by omega)
  have hin:i<=n:=by omega
  have hin':(i:Int)<=n:=by omega
  have hil:=zJf L
  rw[hLl] at hil
  have htk:(qZ (zBb L)).take i=qZ (zBb (L.take i)):=zZd L i
  have hdr:((qZ (zBb L)).drop i).take (n - i)=qZ (zBb (L.drop i)):=by
   rw[zZe]
   exact List.take_of_length_le (by rw[zC4,zJf,List.length_drop];omega)
  have hnew:qZ (zBb (L.take i++n::L.drop i))=qZ (zBb (L.take i))++(.int .i64 n::qZ (zBb (L.drop i))):=by simp[zBb,qZ]
  have g0:(zBb (L.drop i)).length=n - i:=by rw[zJf,List.length_drop,hLl]
  have g1:(1+(n - i))*8<=140737488355328/\1+(n - i)<=9223372036854775807:=by omega
  have g2:1+(n - i)<=(zBb (L.drop i)).length+1:=by omega
  have g3:(Value.int .i64 (n:Int)::qZ (zBb (L.drop i))).take (1+(n - i))=.int .i64 n::qZ (zBb (L.drop i)):=List.take_of_length_le (by rw[List.length_cons,zC4,g0];omega)
  have g4:¬1+(n - i)=0:=by omega
  have g5:0<i∨i=0:=by omega
  have g6:0<1+(n - i):=by omega
  have g7:i+(1+(n - i))=n+1:=by omega
  have g8:(n+1)*8<=140737488355328/\n+1<=9223372036854775807:=by omega
  by_cases hi:i<n
  ·obtain⟨x,hx⟩:=zCk (l:=L) (i:=i) (by omega)
   have hxn:=hLm x (List.mem_of_getElem? hx)
   have hi':(i:Int)<n:=by omega
   have hwi:=zA8 hi (by omega)
   have rx:(qZ (zBb L))[i]?=some (.int .i64 x):=zP6 (by simp[zBb,hx])
   have kx:=(zMx (ky:=s.ky) (wy:=s.wy) (n:=x) hs.kw (by omega)).1
   have kn:=(zMx (ky:=s.ky) (wy:=s.wy) (n:=n) hs.kw (by omega)).1
   rw[show (s.ky[x]?).getD 0=xW s.ky x from rfl] at kx
   rw[show (s.ky[n]?).getD 0=xW s.ky n from rfl] at kn
   have xz:x<z:=by omega
   have xz':(x:Int)<z:=by omega
   by_cases hle:xW s.ky x<=xW s.ky n
   ·simp -implicitDefEqProofs [qL,zR,rps,o1,o2,o3,hz,t0,t3,t4,t5,hi',hn',rx,kx,kn,xz,xz',hn,hle,hwi]
    refine⟨q - 1,by omega,i+1,by omega,fun j y hj hy=> ?_,?_⟩
    ·by_cases hji:j=i
     ·subst hji;rw[hx] at hy;cases hy;unfold leK;simpa using hle
     ·exact hall j y (by omega) hy
    ·simp[qL,zR,rps,o1,o2,o3,hz,t0,t3,t4]
   ·have hd:=hdone (fun y hy=> by rw[hx] at hy;cases hy;unfold leK;simpa using hle)
    rw[hd] at hsuc
    simp -implicitDefEqProofs [qL,zR,rps,o1,o2,o3,hz,t0,t3,t4,t5,hi',hn',rx,kx,kn,xz,xz',hn,hle,hwr,hin,hin',bound,hil,htk,hdr,g1,g2,g3,g4,g5,g6,g7,g8]
    refine⟨by omega,?_⟩
    refine qS [] [0,1,2,3,4,5,6,7,8,12] (qL s 0++[some (.arr 3 (qZ (zBb (zEq s (n+1)))))]) (m - 1) (by omega) ?_ ?_ ⟨n+1,by omega,?_⟩<;> simp[qL,zR,rps,o1,o2,o3,hz,t0,t4,hsuc,hnew,g7]
  ·have hd:=hdone (fun y hy=> by rw[List.getElem?_eq_none (by omega)] at hy;cases hy)
   rw[hd] at hsuc
   have hi':¬(i:Int)<n:=by omega
   simp -implicitDefEqProofs [qL,zR,rps,o1,o2,o3,hz,t0,t3,t4,t5,hi',hwr,hin,hin',bound,hil,htk,hdr,g1,g2,g3,g4,g5,g6,g7,g8]
   refine⟨by omega,?_⟩
   refine qS [] [0,1,2,3,4,5,6,7,8,12] (qL s 0++[some (.arr 3 (qZ (zBb (zEq s (n+1)))))]) (m - 1) (by omega) ?_ ?_ ⟨n+1,by omega,?_⟩<;> simp[qL,zR,rps,o1,o2,o3,hz,t0,t4,hsuc,hnew,g7]
 ·have hne:n=z:=by omega
  subst hne
  have hn':¬(n:Int)<n:=by omega
  simp -implicitDefEqProofs [qL,zR,rps,o1,o2,o3,hz,t0,t3,t4]
  refine zA [.pack (GD.reng s) 0 [1,2,3,4,5,6,7,8]] [0,9] ?_ ?_ ?_<;> simp[qV,qL,zR,rps,o1,o2,o3,hz]
def st64:qW GD:=fun args H=> match args with
 |[.pointer (some ⟨k,0,none⟩)]=> match H.get k with
  |some (.hi (.reng s))=> some (s.Ok,.ret (.slice (some ⟨H.next,0,none⟩) s.ky.length 1),H.add (.arr 3 (qZ (zBb (zIy s)))))
  |_=> none
 |_=> none
theorem qLu:qI Tryz.prog cfg 64 st64:=by
 intro args H p r H' h hp
 unfold st64 at h
 split at h
 case h_2=> cases h
 split at h
 case h_2=> cases h
 rename_i k x s hk
 cases h
 rw[←zQ1]
 exact (qQn s hp).atK (xE rfl) [k] (by simp) (by simp) (by simp[hk]) (by simp) (by simp) (by simp[xB hk])
end YtnemoimbeefngaaGreat
end Go.Proofs
namespace Go.Proofs
namespace YtnemoimbeefngaaGreat
open Go.Abs
theorem qTj (x:Pr):zHf [(0,1,false,.int),(1,1,false,.int)] [.int .i64 x.t,.int .u64 x.v] [.int .i64 x.t,.int .u64 x.v]=some true:=by
 simp[aeq,zHf,zCg,zFe,zGw]
theorem qC1 {i:Nat} {x:Pr} {l:List Pr} (h:l[i]?=some x):((prs l).drop (i*2)).take 2=[.int .i64 x.t,.int .u64 x.v]:=zIz h
theorem qQv (e e':TypeId) (a:List Pr) (ta tb:Nat) (hl:a.length<=1000):zP Tryz.prog cfg 55 [.slice (some ⟨0,0,none⟩) a.length ta,.slice (some ⟨1,0,none⟩) a.length tb] (AH.of [some (.arr e (prs a)),some (.arr e' (prs a))])
  fun r H'=> r=.ret (.bool true)/\H'=AH.of [some (.arr e (prs a)),some (.arr e' (prs a))]:=by
 refine zP.ends ?_
 refine zX (tbl:=[]) (by simp) 1001 0 (af:=a55) rfl ?_
 rw[a55,b55,qB]
 refine⟨by simp,?_⟩
 simp -implicitDefEqProofs
 refine zAp (xC zAh (xD (by simp)) _ _ noY jT) (fun mm tm H=> ∃i:Nat,mm+i=a.length/\tm 0=.slice (some ⟨0,0,none⟩) a.length ta/\tm 1=.slice (some ⟨1,0,none⟩) a.length tb/\tm 5=.int .i64 i/\H=AH.of [some (.arr e (prs a)),some (.arr e' (prs a))]) (m:=a.length) ⟨0,by simp⟩ (by omega) ?_
 rintro mm tm H ⟨i,hmm,t0,t1,t5,rfl⟩
 by_cases hi:i<a.length
 ·obtain⟨x,hx⟩:=zCk (l:=a) (i:=i) (by omega)
  have hi':(i:Int)<a.length:=by omega
  have hwr:=zA8 hi (by omega)
  have rx:=qC1 hx
  have lx:i*2+2<=(prs a).length:=by rw[zCs];omega
  simp -implicitDefEqProofs [t0,t1,t5,hi,hi',rx,lx,qTj,zCg,hwr]
  exact⟨mm - 1,by omega,i+1,by omega,by omega⟩
 ·have hi':¬(i:Int)<a.length:=by omega
  simp -implicitDefEqProofs [t0,t1,t5,hi,hi']
  refine zA [] [0,1] ?_ ?_ ?_<;> simp
def st55:qW GD:=fun args H=> match args with
 |[.slice (some ⟨k,0,none⟩) n _,.slice (some ⟨j,0,none⟩) n' _]=> match H.get k,H.get j with
  |some (.arr _ cs),some (.arr _ cs')=> (zKy cs).map fun a=> (k≠j/\cs'=cs/\n=a.length/\n'=a.length/\a.length<=1000,.ret (.bool true),H)
  |_,_=> none
 |_=> none
theorem qL2:qI Tryz.prog cfg 55 st55:=by
 intro args H p r H' h hp
 unfold st55 at h
 split at h
 case h_2=> cases h
 split at h
 case h_2=> cases h
 simp only[Option.map_eq_some_iff] at h
 obtain⟨a,ha,h⟩:=h
 rename_i k n c j n' c' _ _ e cs e' cs' hk hj
 cases h
 obtain⟨p1,rfl,rfl,rfl,p5⟩:=hp
 rw[zL6 ha] at hk hj
 exact (qQv e e' a c c' p5).atK (xE rfl) [k,j] (by simp[p1]) (by simp) (by simp[hk,hj]) (by simp) (by simp) (by simp[xB hk,xB hj])
def zR0:List (FuncId × qW GD):=[(36,st36),(108,zSf)]
theorem qE9:∀x∈zR0,qI Tryz.prog cfg x.1 x.2:=by simp[zR0,qMb,qGx]
theorem qBh (h:List Int) (tg:Nat) (h1:1<=h.length/\h.length<=12) (hv:∀v∈h,0<=v/\v<18446744073709551616) (hb:zDq h=true):zP Tryz.prog cfg 50 [.slice (some ⟨0,0,none⟩) h.length tg] (AH.of [some (.ro (us h))])
  fun r H'=> r=.ret (.pointer (some ⟨1,0,none⟩))/\H'=AH.of [some (.ro (us h)),some (.hi (.reng (zD9 h)))]:=by
 refine zP.ends ?_
 have hl:h.length*8<=140737488355328/\h.length<=9223372036854775807:=by omega
 refine zX (tbl:=zR0) qE9 0 2 (af:=a50) rfl ?_
 rw[a50,b50,qB]
 refine⟨by simp,?_⟩
 simp -implicitDefEqProofs [zR0,st36,zSf,zGj,hb,hl,zC5,zJr]
 refine⟨hv,?_⟩
 refine zA [.nil 84,.nil 159,.nil 123,.nil 123,.nil 123,.nil 123,.pack (GD.reng (zD9 h)) 4 [2,3,5,6,7,8,9,10]] [0,4] ?_ ?_ ?_<;> simp[qV,zD9,qR,qG,qIb,show evs []=[] from rfl]
def st50:qW GD:=fun args H=> match args with
 |[.slice (some ⟨k,0,none⟩) n _]=> match H.get k with
  |some (.arr _ cs)=> (zHd cs).map fun l=> (n=l.length/\k<H.next/\(1<=l.length/\l.length<=12)/\(∀v∈l,0<=v/\v<18446744073709551616)/\zDq l=true,.ret (.pointer (some ⟨H.next,0,none⟩)),H.add (.hi (.reng (zD9 l))))
  |_=> none
 |_=> none
theorem qL7:qI Tryz.prog cfg 50 st50:=by
 intro args H p r H' h hp
 unfold st50 at h
 split at h
 case h_2=> cases h
 split at h
 case h_2=> cases h
 simp only[Option.map_eq_some_iff] at h
 obtain⟨l,hl,h⟩:=h
 rename_i k n tg x e cs hk
 cases h
 obtain⟨h1,hkn,h2,h3,h4⟩:=hp
 rw[zFj hl] at hk
 rw[h1]
 refine zP.borrow k hk ?_
 have hk2:(H.upd k (.ro (us l))).get k=some (.ro (us l)):=by rw[AH.get_upd,if_pos rfl]
 have hr:=(qBh l tg h2 h3 h4).atK (H:=H.upd k (.ro (us l))) (args:=[.slice (some ⟨k,0,none⟩) l.length tg]) (r':=.ret (.pointer (some ⟨H.next,0,none⟩))) (H':=(H.upd k (.ro (us l))).add (.hi (.reng (zD9 l)))) (zG6 fun i cs hi=> by rcases i with _|_|i<;> simp at hi⊢;exact hi) [k] (by simp) (by simp) (by simp[hk2]) (by simp) (by simp) (by simp[xB hk2])
 refine hr.mono ?_
 rintro r H' ⟨e1,rfl⟩
 refine⟨by rw[AH.get_add,AH.next_upd,if_neg (by omega),AH.get_upd,if_pos rfl],fun j cs2 hj hcs hne=> ⟨cs2,?_,hne⟩,e1,?_⟩
 ·rw[AH.get_add,AH.next_upd] at hcs
  split at hcs
  ·cases hcs
  ·rw[AH.get_upd,if_neg hj] at hcs;exact hcs
 ·refine AH.ext' (by simp) fun j=> ?_
  rw[AH.get_upd,AH.get_add,AH.get_add,AH.next_upd,AH.get_upd]
  by_cases h:j=k
  ·subst h;rw[if_pos rfl,if_neg (by omega),hk]
  ·rw[if_neg h,if_neg h]
theorem FrOk.move {s s':NS} {th:Nat} {b:Att} (h:FrOk s) (hts:s'.ts=zZ s.ts th (some b)) (h1:∀f∈b.fs,zFk f) (h2:∀e∈b.es,0<=e.v/\e.v<18446744073709551616):FrOk s' where
 fr:=fun i x hx f hf=> by
  rw[hts] at hx;unfold zZ at hx
  split at hx
  ·cases hx;exact h1 f hf
  ·exact h.fr i x hx f hf
 ev:=fun i x hx e he=> by
  rw[hts] at hx;unfold zZ at hx
  split at hx
  ·cases hx;exact h2 e he
  ·exact h.ev i x hx e he
theorem FrOk.drop {s s':NS} {th:Nat} (h:FrOk s) (hts:s'.ts=zZ s.ts th none):FrOk s' where
 fr:=fun i x hx f hf=> by
  rw[hts] at hx;unfold zZ at hx
  split at hx
  ·cases hx
  ·exact h.fr i x hx f hf
 ev:=fun i x hx e he=> by
  rw[hts] at hx;unfold zZ at hx
  split at hx
  ·cases hx
  ·exact h.ev i x hx e he
theorem zO2:zFk []:=⟨by simp,by simp⟩
theorem FrOk.step {s:NS} (hs:s.Ok) (h:FrOk s) (th:Nat):FrOk (zAs s th).2:=by
 unfold zAs
 split
 ·exact h
 rename_i a ha
 have hok:=hs.ts th a ha
 have hfr:=h.fr th a ha
 have hev:=h.ev th a ha
 have m:∀(b:Att) (s':NS),s'.ts=zZ s.ts th (some b)->b.fs=a.fs->b.es=a.es->FrOk s':=fun b s' hts e1 e2=> h.move hts (by rw[e1];exact hfr) (by rw[e2];exact hev)
 split
 ·exact h
 split
 ·unfold zB0
  repeat' split
  all_goals first|exact h|exact h.drop (th:=th) rfl|exact m _ _ rfl rfl rfl
 split
 ·exact h.drop (th:=th) rfl
 split
 ·unfold zCt
  repeat' split
  all_goals first|exact h|exact h.drop (th:=th) rfl|exact m _ _ rfl rfl rfl
 split
 ·unfold zDm
  repeat' split
  all_goals first
   |exact h
   |exact h.drop (th:=th) rfl
   |exact m _ _ rfl rfl rfl
   |exact h.move (th:=th) rfl hfr (fun e he=> by
    rcases zVg he with he|rfl
    ·exact hev e he
    ·exact hok.val)
 ·rename_i hk _ _ _ _
  have hask:=hok.ask (by simpa using hk)
  unfold zCb
  split
  ·refine h.move (th:=th) rfl (fun f hf=> ?_) hev
   simp only[zOw] at hf
   split at hf
   ·exact hfr f hf
   ·rcases List.mem_cons.1 hf with rfl|hf
    ·exact zO2
    ·exact hfr f hf
  split
  ·refine h.move (th:=th) rfl (fun f hf=> ?_) hev
   refine hfr f ?_
   simp only at hf
   revert hf
   rcases a.fs with _|⟨x,_|⟨y,l⟩⟩<;> simp[zO6]
   intro hf;exact .inr hf
  split
  ·refine h.move (th:=th) rfl (fun f hf=> ?_) hev
   simp only at hf
   revert hf hfr
   rcases a.fs with _|⟨x,_|⟨y,l⟩⟩<;> intro hfr hf
   ·simp[zG7] at hf
   ·exact hfr f (by simpa [zG7] using hf)
   ·simp only[zG7,List.mem_cons] at hf
    rcases hf with rfl|hf
    ·exact zUe (hfr y (by simp)) (hfr x (by simp)).2
    ·exact hfr f (by simp[hf])
  split
  ·rename_i hP
   refine h.move (th:=th) rfl (fun f hf=> ?_) hev
   simp only at hf
   revert hf hfr hP
   rcases a.fs with _|⟨x,l⟩<;> intro hfr hP hf
   ·simp[zMt] at hf
   ·simp only[zMt,List.mem_cons] at hf
    simp only[zId] at hP
    rcases hf with rfl|hf
    ·exact zOv (hfr x (by simp)) (zRq hP)
    ·exact hfr f (by simp[hf])
  ·exact h.drop (th:=th) rfl
theorem FrOk.deed {s:NS} (hs:s.Ok) (h:FrOk s) (d:Dd):FrOk (zB6 s d):=by
 unfold zB6
 split
 ·unfold zDt
  split
  ·exact h
  ·split
   ·exact h.move rfl (fun f hf=> by simp[zEa] at hf;subst hf;exact zO2) (fun e he=> by simp[zEa] at he)
   ·exact h
 split
 ·unfold zEy
  split
  ·exact h
  ·split
   ·unfold qU
    split
    ·exact h
    ·rename_i a ha
     exact h.move rfl (h.fr _ a ha) (h.ev _ a ha)
   ·exact h
 split
 ·unfold zDj
  split
  ·exact h
  ·exact h.step hs _
 split
 ·unfold zFu
  split
  ·exact h
  ·unfold zGr
   split
   ·exact h
   ·split
    ·exact h
    ·exact h.drop rfl
 ·exact h
theorem zT7 (l:List Dd) (hl:∀d∈l,d.Ok):FrOk (zCx l):=by
 have key:∀(l:List Dd) (s:NS),(∀d∈l,d.Ok)->s.Ok->FrOk s->FrOk (l.foldl zB6 s):=by
  intro l
  induction l with
  |nil=> intro s _ _ h;exact h
  |cons d l ih=>
   intro s hd hs h1
   exact ih (zB6 s d) (fun x hx=> hd x (by simp[hx])) (zW8 hs (hd d (by simp))) (h1.deed hs d)
 exact key l _ hl zJh ⟨(fun th a h=> by cases h),(fun th a h=> by cases h)⟩
def zJ3:List (FuncId × qW GD):=[(24,qC d24),(27,qC d27),(28,qC d28),(29,qC d29),(75,qC d75),(76,qC d76),(77,qC d77),(78,qC d78)]
theorem qFc:∀x∈zJ3,qI Tryz.prog cfg x.1 x.2:=by simp[zJ3,zWz,zWy,zWx,qMh,qLr,qLq,qLp,qLo]
theorem qAa (s:NS) (t:Int):∃n e,zGy s t=.tuple #[.int .i64 n,.int .i64 e]:=by
 unfold zGy
 split
 ·exact⟨_,_,rfl⟩
 ·split<;> exact⟨_,_,rfl⟩
theorem qRe (s:NS) (d:Dd) (hs:s.Ok) (hF:FrOk s) (hev:s.ev.length<=100000) (hd:d.Ok):zP Tryz.prog cfg 23 [.pointer (some ⟨0,0,none⟩),.pointer (some ⟨1,0,none⟩),.agg d.cells.toArray] (AH.of [some (.hi (.eng s)),some (.hi (.reng s))])
  fun r H'=> r=.ret (.bool true)/\H'=AH.of [some (.hi (.eng (zB6 s d))),some (.hi (.reng (zB6 s d)))]:=by
 refine zP.ends ?_
 have hak:=hd.1.1
 have hav:=hd.2
 refine zX (tbl:=zJ3) qFc 0 0 (af:=a23) rfl ?_
 rw[a23,b23,qB]
 refine⟨by simp,?_⟩
 by_cases k0:d.k=0
 ·have hS:zB6 s d=zDt s d.t:=by simp[zB6,k0]
  obtain⟨n,e,hR⟩:=qAa s d.t
  rw[hS]
  simp -implicitDefEqProofs [zJ3,qC,d24,d75,Dd.cells,k0,hs,hev,hR]
  refine zA [] [0,1] ?_ ?_ ?_<;> simp
 by_cases k1:d.k=1
 ·have hS:zB6 s d=zEy s d.t d.a:=by simp[zB6,k1]
  have hS2:zEy s d.t ⟨d.a.k,d.a.t,d.a.v⟩=zEy s d.t d.a:=rfl
  rw[hS]
  simp -implicitDefEqProofs [zJ3,qC,d27,d76,Dd.cells,k0,k1,hs,hak,hav,hS2]
  refine zA [] [0,1] ?_ ?_ ?_<;> simp
 by_cases k2:d.k=2
 ·have hS:zB6 s d=zDj s d.t:=by simp[zB6,k2]
  obtain⟨rp,hR⟩:∃rp,zH4 s d.t=rp:=⟨_,rfl⟩
  rw[hS]
  simp -implicitDefEqProofs [zJ3,qC,d28,d77,Dd.cells,k0,k1,k2,hs,hF,hev,hR,Rp.v,Rp.cells,zCg,zHf]
  refine zA [] [0,1] ?_ ?_ ?_<;> simp
 by_cases k3:d.k=3
 ·have hS:zB6 s d=zFu s d.t:=by simp[zB6,k3]
  rw[hS]
  simp -implicitDefEqProofs [zJ3,qC,d29,d78,Dd.cells,k0,k1,k2,k3,hs,hev]
  refine zA [] [0,1] ?_ ?_ ?_<;> simp
 ·have hS:zB6 s d=s:=by simp[zB6,k0,k1,k2,k3]
  rw[hS]
  simp -implicitDefEqProofs [Dd.cells,k0,k1,k2,k3]
  refine zA [] [0,1] ?_ ?_ ?_<;> simp
end YtnemoimbeefngaaGreat
end Go.Proofs
namespace Go.Proofs
namespace YtnemoimbeefngaaGreat
open Go.Abs
def zMf:List (FuncId × qW GD):=[(25,qC d25),(51,qC d51),(26,qC d26),(52,qC d52),(31,st31),(54,st54),(32,st32),(56,st56),(33,qC d33),(57,qC d57),(34,qC d34),(58,qC d58),(30,qC d30),(59,qC d59),(16,st16),(60,st60),(11,zPu),(62,st62),(13,st13),(64,st64),(14,st14),(65,st65),(17,qC d17),(66,qC d66),(53,st53),(55,st55),(61,zMn),(18,st18),(63,st63)]
theorem zNi:∀x∈zMf,qI Tryz.prog cfg x.1 x.2:=by simp[zMf,qMj,qL6,qMi,qL5,qMf,qL3,qMe,qL1,qMd,qL0,qMc,qLz,qMg,qLy,qMp,qLx,zW1,qLw,qMr,qLu,qMq,qLt,qMo,qLs,qL4,qL2,zX2,qMn,qLv]
theorem qJp (s:NS) (t:Int):∃n b,zEx s t=.tuple #[.int .i64 n,.bool b]:=by
 unfold zEx
 split<;> exact⟨_,_,rfl⟩
theorem qAb (s:NS) (t:Int):∃k a v b,zCf s t=.tuple #[.agg #[.int .u8 k,.int .i64 a,.int .u64 v],.bool b]:=by
 unfold zCf
 split<;> exact⟨_,_,_,_,rfl⟩
theorem qPl {s:NS} (hs:s.Ok) (t:Int):(zDn s t).length<=8:=by
 unfold zDn
 split
 ·rename_i a ha
  rw[Option.bind_eq_some_iff] at ha
  obtain⟨th,_,h⟩:=ha
  exact (hs.ts th a h).es.len
 ·simp
theorem qKu (s:NS) (t:Int):(zDh s t).length<=12:=by
 unfold zDh
 split
 ·exact zXs _
 ·simp
def saI (s:NS) (m:Nat) (tm:Nat->Value) (H:AH GD):Prop:=∃i:Nat,m+i=6/\tm 0=.pointer (some ⟨0,0,none⟩)/\tm 1=.pointer (some ⟨1,0,none⟩)/\tm 5=.int .i64 ((i:Int) - 1)/\H=AH.of [some (.hi (.eng s)),some (.hi (.reng s))]
def saJ (s:NS) (m:Nat) (tm:Nat->Value) (H:AH GD):Prop:=∃i:Nat,m+i=21/\tm 0=.pointer (some ⟨0,0,none⟩)/\tm 1=.pointer (some ⟨1,0,none⟩)/\tm 14=.int .i64 ((i:Int) - 1)/\H=AH.of [some (.hi (.eng s)),some (.hi (.reng s))]
theorem qRf (s:NS) (hs:s.Ok) (hF:FrOk s) (hev:s.ev.length<=1000):zP Tryz.prog cfg 20 [.pointer (some ⟨0,0,none⟩),.pointer (some ⟨1,0,none⟩)] (AH.of [some (.hi (.eng s)),some (.hi (.reng s))])
  fun r H'=> r=.ret (.bool true)/\H'=AH.of [some (.hi (.eng s)),some (.hi (.reng s))]:=by
 refine zP.ends ?_
 refine zX (tbl:=zMf) zNi 22 0 (af:=a20) rfl ?_
 rw[a20,b20,qB]
 refine⟨by simp,?_⟩
 simp -implicitDefEqProofs
 refine zBm (xC zAh (xD zNi) _ _ noY jT) (saI s) (m:=6) ?_ (by omega) ?_
 ·refine qS [] [0,1] [some (.hi (.eng s)),some (.hi (.reng s))] 6 (by omega) ?_ ?_ ⟨0,by omega,?_⟩<;> simp
 rintro m tm H ⟨i,hm,t0,t1,t5,rfl⟩
 by_cases hi:i<6
 ·obtain⟨t,ht⟩:∃t:Int,(i:Int) - 1=t:=⟨_,rfl⟩
  rw[ht] at t5
  have hi':t<=4:=by omega
  have hwr:IntKind.i64.wrap (t+1)=((i+1:Nat):Int) - 1:=by rw[qX (by omega) (by omega)];omega
  obtain⟨n,b,hA⟩:=qJp s t
  obtain⟨k,a,v,b2,hK⟩:=qAb s t
  have he:=qPl hs t
  have he2:(zDn s t).length<=1000000:=by omega
  have hw:=qKu s t
  have hw2:(zDh s t).length<=1000:=by omega
  simp -implicitDefEqProofs [zMf,qC,d25,d51,d26,d52,st31,st54,st32,st56,d33,d57,d34,d58,st53,st55,zJx,zL5,zCg,zHf,hs,hF,hA,hK,he2,hw2,t0,t1,t5,hi',hwr]
  refine qS [] [0,1] [some (.hi (.eng s)),some (.hi (.reng s))] (m - 1) (by omega) ?_ ?_ ⟨i+1,by omega,?_⟩<;> simp[t0,t1]
 ·have hie:i=6:=by omega
  subst hie
  simp -implicitDefEqProofs [t0,t1,t5]
  refine zAp (xC zAh (xD zNi) _ _ noY jT) (saJ s) (m:=21) ⟨0,by omega,by simp[t0],by simp[t1],by simp,by simp⟩ (by omega) ?_
  rintro m tm H ⟨i,hm,t0,t1,t14,rfl⟩
  by_cases hi:i<21
  ·obtain⟨t,ht⟩:∃t:Int,(i:Int) - 1=t:=⟨_,rfl⟩
   rw[ht] at t14
   have hi':t<20:=by omega
   have hwr:IntKind.i64.wrap (t+1)=((i+1:Nat):Int) - 1:=by rw[qX (by omega) (by omega)];omega
   simp -implicitDefEqProofs [zMf,qC,d30,d59,hs,t0,t1,t14,hi',hwr]
   exact⟨m - 1,by omega,i+1,by omega,by simp[t0,t1]⟩
  ·have hie:i=21:=by omega
   subst hie
   have hp:=hs.hp.2
   have hh:s.hp.length<=1000:=by omega
   have he3:s.ev.length<=100000:=by omega
   have he4:s.ev.length<=1000000:=by omega
   have hk:s.ky.length<=90000:=by have:=hs.ky;omega
   have hk2:s.ky.length<=1000000:=by omega
   have hol:(zBb (zIy s)).length=s.ky.length:=by rw[zJf,←zQ1,zNt]
   have hdec:=zWe s hs
   have hdl:=zN4 s 4
   have hdl2:(zAv s 4).length<=1000000:=by omega
   have hsl:=zF7 (zAv s 4)
   simp -implicitDefEqProofs [zMf,qC,st16,st60,zPu,st62,st13,st64,st14,st65,d17,d66,st18,st63,zMn,zFg,zGd,zGj,zHo,zL8,hs,hh,hev,he3,he4,hk,hk2,hol,hdec,hdl2,hsl,t0,t1,t14]
   refine zA [] [0,1] ?_ ?_ ?_<;> simp
def st20:qW GD:=fun args H=> match args with
 |[.pointer (some ⟨k,0,none⟩),.pointer (some ⟨q,0,none⟩)]=> match H.get k with
  |some (.hi (.eng s))=> some (H.get q=some (.hi (.reng s))/\s.Ok/\FrOk s/\s.ev.length<=1000,.ret (.bool true),H)
  |_=> none
 |_=> none
theorem qMl:qI Tryz.prog cfg 20 st20:=by
 intro args H p r H' h hp
 unfold st20 at h
 split at h
 case h_2=> cases h
 split at h
 case h_2=> cases h
 rename_i k q x s hk
 cases h
 obtain⟨hq,p1,p2,p3⟩:=hp
 have hkq:k≠q:=fun e=> by rw[e,hq] at hk;cases hk
 exact (qRf s p1 p2 p3).atK (xE rfl) [k,q] (by simp[hkq]) (by simp) (by simp[hk,hq]) (by simp) (by simp) (by simp[xB hk,xB hq])
def st23:qW GD:=fun args H=> match args with
 |[.pointer (some ⟨k,0,none⟩),.pointer (some ⟨q,0,none⟩),.agg ⟨[.int .i64 a,.int .i64 b,.int .u8 c,.int .i64 d,.int .u64 e]⟩]=> match H.get k with
  |some (.hi (.eng s))=> some (H.get q=some (.hi (.reng s))/\s.Ok/\FrOk s/\s.ev.length<=100000/\(⟨a,b,⟨c,d,e⟩⟩:Dd).Ok,.ret (.bool true),(H.upd k (.hi (.eng (zB6 s ⟨a,b,⟨c,d,e⟩⟩)))).upd q (.hi (.reng (zB6 s ⟨a,b,⟨c,d,e⟩⟩))))
  |_=> none
 |_=> none
theorem qMk:qI Tryz.prog cfg 23 st23:=by
 intro args H p r H' h hp
 unfold st23 at h
 split at h
 case h_2=> cases h
 split at h
 case h_2=> cases h
 rename_i k q a b c d e x s hk
 cases h
 obtain⟨hq,p1,p2,p3,p4⟩:=hp
 have hkq:k≠q:=fun e=> by rw[e,hq] at hk;cases hk
 exact (qRe s ⟨a,b,⟨c,d,e⟩⟩ p1 p2 p3 p4).atK (xE rfl) [k,q] (by simp[hkq]) (by simp) (by simp[hk,hq]) (by simp[Dd.cells]) (by simp) (by simp)
def zOe:List (FuncId × qW GD):=[(12,zPt),(35,zPs),(50,st50),(23,st23)]
theorem zS1:∀x∈zOe,qI Tryz.prog cfg x.1 x.2:=by simp[zOe,zW0,zWw,qL7,qMk]
theorem zUq:zDq zC7=true:=by decide+kernel
theorem zWb:∀v∈zC7,0<=v/\v<18446744073709551616:=by decide
def pyI (l:List Dd) (tg m:Nat) (tm:Nat->Value) (H:AH GD):Prop:=∃i:Nat,m+i=120/\i<=l.length/\tm 0=.slice (some ⟨0,0,none⟩) l.length tg/\tm 5=.pointer (some ⟨2,0,none⟩)/\tm 6=.pointer (some ⟨4,0,none⟩)/\tm 7=.int .i64 i/\
    H=AH.of [some (.ro (dds l)),none,some (.hi (.eng (zCx (l.take i)))),none,some (.hi (.reng (zCx (l.take i))))]
theorem qRg (l:List Dd) (tg:Nat) (hl:∀d∈l,d.Ok):zP Tryz.prog cfg 19 [.slice (some ⟨0,0,none⟩) l.length tg] (AH.of [some (.ro (dds l))])
  fun r H'=> r=.ret (.tuple #[.pointer (some ⟨1,0,none⟩),.pointer (some ⟨2,0,none⟩),.bool true])/\H'=AH.of [some (.ro (dds l)),some (.hi (.eng (zCx (l.take 120)))),some (.hi (.reng (zCx (l.take 120))))]:=by
 refine zP.ends ?_
 have hr:=zLy
 have hhp:=zUq
 have hrg:=zWb
 refine zX (tbl:=zOe) zS1 121 0 (af:=a19) rfl ?_
 rw[a19,b19,qB]
 refine⟨by simp,?_⟩
 simp -implicitDefEqProofs [zOe,zPt,zPs,st50,zGj,zO4,hhp]
 refine⟨hr,hrg,?_⟩
 refine zBm (xC zAh (xD zS1) _ _ noY jT) (pyI l tg) (m:=120) ?_ (by omega) ?_
 ·refine qS [] [0,1,2,3,4] [some (.ro (dds l)),none,some (.hi (.eng (zCx (l.take 0)))),none,some (.hi (.reng (zCx (l.take 0))))] 120 (by omega) ?_ ?_ ⟨0,by omega,by omega,?_⟩<;> simp[zCx]
 rintro m tm H ⟨i,hm,hil,t0,t5,t6,t7,rfl⟩
 obtain⟨s,hsd⟩:∃s,zCx (l.take i)=s:=⟨_,rfl⟩
 have hok:=zT6 (l.take i) fun d hd=> hl d (List.mem_of_mem_take hd)
 have hF:=zT7 (l.take i) fun d hd=> hl d (List.mem_of_mem_take hd)
 rw[hsd] at hok hF⊢
 have hs:=hok.1
 have hev:s.ev.length<=100000:=by
  have:=hok.2;rw[List.length_take] at this;omega
 by_cases hi:i<l.length
 ·have hi':(i:Int)<l.length:=by omega
  by_cases h120:i<120
  ·have h120':(i:Int)<120:=by omega
   obtain⟨x,hx⟩:=zCk (l:=l) (i:=i) (by omega)
   have hxo:=hl x (List.mem_of_getElem? hx)
   have hsuc:=zYx hx
   rw[hsd] at hsuc
   have cm:=qHy hx
   have hle:i*5+5<=(dds l).length:=by rw[zZy];omega
   have hwr:=zA8 h120 (by omega)
   have hx2:(⟨x.k,x.t,⟨x.a.k,x.a.t,x.a.v⟩⟩:Dd)=x:=rfl
   simp -implicitDefEqProofs [zOe,st23,t0,t5,t6,t7,hi,hi',h120,h120',cm,hle,Dd.cells,hx2,hs,hF,hev,hxo,hwr]
   refine qS [] [0,1,2,3,4] [some (.ro (dds l)),none,some (.hi (.eng (zCx (l.take (i+1))))),none,some (.hi (.reng (zCx (l.take (i+1)))))] (m - 1) (by omega) ?_ ?_ ⟨i+1,by omega,by omega,?_⟩<;> simp[t0,t5,t6,hsuc]
  ·have h120':¬(i:Int)<120:=by omega
   have he:i=120:=by omega
   have hs2:zCx (l.take 120)=s:=by rw[←he];exact hsd
   simp -implicitDefEqProofs [t0,t5,t6,t7,hi,hi',h120,h120']
   refine zA [] [0,2,4] ?_ ?_ ?_<;> simp[hs2]
 ·have hi':¬(i:Int)<l.length:=by omega
  have hs2:zCx (l.take 120)=s:=by
   rw[←hsd,List.take_of_length_le (by omega),List.take_of_length_le (by omega)]
  simp -implicitDefEqProofs [t0,t5,t6,t7,hi,hi']
  refine zA [] [0,2,4] ?_ ?_ ?_<;> simp[hs2]
def st19:qW GD:=fun args H=> match args with
 |[.slice (some ⟨k,0,none⟩) n _]=> match H.get k with
  |some (.ro cs)=> (zM8 cs).map fun l=> (n=l.length/\∀d∈l,d.Ok,.ret (.tuple #[.pointer (some ⟨H.next,0,none⟩),.pointer (some ⟨H.next+1,0,none⟩),.bool true]),(H.add (.hi (.eng (zCx (l.take 120))))).add (.hi (.reng (zCx (l.take 120)))))
  |_=> none
 |_=> none
theorem qMm:qI Tryz.prog cfg 19 st19:=by
 intro args H p r H' h hp
 unfold st19 at h
 split at h
 case h_2=> cases h
 split at h
 case h_2=> cases h
 simp only[Option.map_eq_some_iff] at h
 obtain⟨l,hl,h⟩:=h
 rename_i k n tg x cs hk
 cases h
 rw[zRe hl] at hk
 rw[hp.1]
 exact (qRg l tg hp.2).atK (zG6 fun i cs hi=> by rcases i with _|_|_|i<;> simp at hi⊢;exact hi) [k] (by simp) (by simp) (by simp[hk]) (by simp) (by simp) (by simp[xB hk])
def zR1:List (FuncId × qW GD):=[(19,st19),(9,st9),(20,st20)]
theorem qFa:∀x∈zR1,qI Tryz.prog cfg x.1 x.2:=by simp[zR1,qMm,qP7,qMl]
theorem runs5 (l:List Dd) (tg:Nat) (hl:∀d∈l,d.Ok):zP Tryz.prog cfg 5 [.slice (some ⟨0,0,none⟩) l.length tg] (AH.of [some (.ro (dds l))])
  fun r H'=> r=.ret (.bool true)/\H'=AH.of [some (.ro (dds l))]:=by
 refine zP.ends ?_
 have hl120:∀d∈l.take 120,d.Ok:=fun d hd=> hl d (List.mem_of_mem_take hd)
 obtain⟨s,hsd⟩:∃s,zCx (l.take 120)=s:=⟨_,rfl⟩
 have hok:=zT6 (l.take 120) hl120
 have hF:=zT7 (l.take 120) hl120
 rw[hsd] at hok hF
 have hs:=hok.1
 have hev:s.ev.length<=1000:=by
  have:=hok.2;rw[List.length_take] at this;omega
 refine zX (tbl:=zR1) qFa 0 0 (af:=a5) rfl ?_
 rw[a5,b5,qB]
 refine⟨by simp,?_⟩
 simp -implicitDefEqProofs [zR1,st19,st9,st20,hsd,hs,hF,hev]
 refine⟨hl,zA [] [0] ?_ ?_ ?_⟩<;> simp
end YtnemoimbeefngaaGreat
end Go.Proofs
