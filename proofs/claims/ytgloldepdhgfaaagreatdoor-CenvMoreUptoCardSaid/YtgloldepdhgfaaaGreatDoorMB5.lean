/-
  MB5: the texts Kse Trt Tct Kct Tl2 Tl3 C5 Hvp Htf Hg Hv Hh Cvc Cvf Cvg Cvh If1 If2 If3 If4 If5 If6 If7 If8 If9, one behind the other.
-/
import Derived.Test.YtgloldepdhgfaaaGreatDoorMB4
namespace Go.Proofs.YtgloldepdhgfaaaGreatDoor
set_option linter.unusedSimpArgs false
set_option linter.unusedVariables false
set_option maxHeartbeats 10000000
set_option maxRecDepth 20000
open Go.RowKit
attribute [local simp] Qx Qm Qo Qp Wn Xg opD Wc Qr Qw Wi hOf Wj Xf Xd TK.isAgg TK.known Ws Wk Qz Qh D.ofV inB Qy Wp Xy Za Zg Xc Xw Zh IntKind.min IntKind.max IntKind.signed IntKind.bits Wm Xz
theorem Ql1(p:LV ->LV ->Bool)(l m:List (LV))(hl:l.length<=Ql)(hm:m.length<=Ql)(hg:∀x y,x∈l ->y∈m ->Sp 35 [Qn x,Qn y] [] (rt (.bool (p x y)))) :
  Sp 45 [.slice (l.map Qn) .any, .slice (m.map Qn) .any] [] (rt (.bool (Qa3 p l m))):=by
 obtain⟨R,hR⟩:∃R,R=Qa3 p l m:=⟨_,rfl⟩;rw[<- hR];have hl0:=hl;unfold Ql at hl0;refine eN Tryz.func45 rfl (by decide) rfl rfl ?_;(refine sI fun K Z=>?_;(repeat rw[Qa];simp);refine Z ?_;clear Z K);refine Qc fun K1 hK1=>?_
 by_cases hlen:l.length=m.length
 ·have hlen':(l.length:Int)=m.length:=by omega
  (refine sI fun K Z=>?_;(repeat rw[Qa];simp[hlen,hlen']);refine Z ?_;clear Z K);refine pF rfl ?_;refine Qg (hK1 _ _ _ ?_);clear hK1 K1;refine Qc fun K1 hK1=>?_
  (refine sI fun K Z=>?_;(repeat rw[Qa];simp);refine Z ?_;clear Z K);refine Wd ?_;refine Qbb [4,11,12,13,14,15,16,17,18,19,20,21,22,23,24,25,26] [5] (fun n ys hl=>∃(k:Nat),ys= [.int .i64 k]/\n+k=l.length/\R=Qa3 p (l.drop k) (m.drop k)/\hl= []) (l.length) (by kernel_rfl) ?_ ?_
  ·exact⟨0,rfl,rfl,hR,rfl⟩
  ·rintro n ys hl A hA ⟨i,rfl,hn,hF,rfl⟩;simp only[Qh,List.set,List.map_cons,List.map_nil,List.cons_append,List.nil_append];refine Qc fun K2 hK2=>?_
   by_cases hi:i<l.length
   ·have hi2:i<m.length:=by omega
    have hi':(i:Int)<l.length:=by omega
    have hi2':(i:Int)<m.length:=by omega
    (refine sI fun K Z=>?_;(repeat rw[Qa];simp[hi,hi']);refine Z ?_;clear Z K);refine pT rfl ?_;refine Qg (hK2 _ _ _ ?_);clear hK2 K2;refine Qc fun K3 hK3=>?_
    refine Wd ?_;rw[Qeu hi hi2]at hF;have hrec:=hg l[i] m[i] (List.getElem_mem hi) (List.getElem_mem hi2);obtain⟨x,hx⟩:∃x,l[i]=x:=⟨_,rfl⟩;obtain⟨y,hy⟩:∃y,m[i]=y:=⟨_,rfl⟩;rw[hx,hy]at hrec hF;have hEx:Qn x= .agg [.slice (x.map Wv) .any]:=rfl;have hEy:Qn y= .agg [.slice (y.map Wv) .any]:=rfl;rw[hEx,hEy]at hrec;generalize p x y=B at hrec hF;(refine Qc fun K hK=>?_;refine dR fun KT hKT=>?_;(repeat rw[Qd];simp[hi,hi',hx,hi2,hi2',hy,hEx,hEy]));refine cYp (hrec) ?_;(try simp only[zq]);(repeat rw[Qd];simp);(refine hKT _ _ _ _ (by kernel_rfl) ?_;clear hKT KT);(refine hK _ _ _ ?_;clear hK K);cases B with
    | true =>
     refine pF rfl ?_;refine Qg (hK3 _ _ _ ?_);clear hK3 K3;have hw1:IntKind.i64.wrap ((i:Int)+1)=(i:Int)+1:=Qbu (by omega) (by omega);(refine Qi Wa ?_;(repeat rw[Qa];simp[hw1]));refine hA (n - 1) _ _ _ (LeT.refl _) (by omega) (by kernel_rfl) ?_;exact⟨i+1,rfl,by omega,by simpa using hF,rfl⟩
    | false =>
     refine pT rfl ?_;(refine sI fun K Z=>?_;(repeat rw[Qa];simp);refine Z ?_;clear Z K);(refine Qe ?_;(try simp only[zs]);refine Qk.ret rfl (.inl ?_);simp[zM]);simpa using hF
   ·have hi':¬ (i:Int)<l.length:=by omega
    (refine sI fun K Z=>?_;(repeat rw[Qa];simp[hi,hi']);refine Z ?_;clear Z K);refine pF rfl ?_;refine Qad ?_;refine hK1 _ _ _ ?_;rw[List.drop_of_length_le (by omega),List.drop_of_length_le (by omega)]at hF;have hF':R=true:=hF;subst hF';(refine sI fun K Z=>?_;(repeat rw[Qa];simp);refine Z ?_;clear Z K);(refine Qe ?_;(try simp only[zs]);refine Qk.ret rfl (.inl ?_);simp[zM])
 ·have hlen':¬ (l.length:Int)=m.length:=by omega
  (refine sI fun K Z=>?_;(repeat rw[Qa];simp[hlen,hlen']);refine Z ?_;clear Z K);refine pT rfl ?_;(refine sI fun K Z=>?_;(repeat rw[Qa];simp);refine Z ?_;clear Z K);(refine Qe ?_;(try simp only[zs]);refine Qk.ret rfl (.inl ?_);simp[zM]);rw[hR];exact Qet hlen
theorem Qnu(p:T ->T ->Bool)(l m:List (T))(hl:l.length<=Ql)(hm:m.length<=Ql)(hg:∀x y,x∈l ->y∈m ->Sp 14 [Qj x,Qj y] [] (rt (.bool (p x y)))) :
  Sp 46 [.slice (l.map Qj) .any, .slice (m.map Qj) .any] [] (rt (.bool (Qa3 p l m))):=by
 obtain⟨R,hR⟩:∃R,R=Qa3 p l m:=⟨_,rfl⟩;rw[<- hR];have hl0:=hl;unfold Ql at hl0;refine eN Tryz.func46 rfl (by decide) rfl rfl ?_;(refine sI fun K Z=>?_;(repeat rw[Qa];simp);refine Z ?_;clear Z K);refine Qc fun K1 hK1=>?_
 by_cases hlen:l.length=m.length
 ·have hlen':(l.length:Int)=m.length:=by omega
  (refine sI fun K Z=>?_;(repeat rw[Qa];simp[hlen,hlen']);refine Z ?_;clear Z K);refine pF rfl ?_;refine Qg (hK1 _ _ _ ?_);clear hK1 K1;refine Qc fun K1 hK1=>?_
  (refine sI fun K Z=>?_;(repeat rw[Qa];simp);refine Z ?_;clear Z K);refine Wd ?_;refine Qbb [4,11,12,13,14,15,16,17,18,19,20,21,22,23,24,25,26] [5] (fun n ys hl=>∃(k:Nat),ys= [.int .i64 k]/\n+k=l.length/\R=Qa3 p (l.drop k) (m.drop k)/\hl= []) (l.length) (by kernel_rfl) ?_ ?_
  ·exact⟨0,rfl,rfl,hR,rfl⟩
  ·rintro n ys hl A hA ⟨i,rfl,hn,hF,rfl⟩;simp only[Qh,List.set,List.map_cons,List.map_nil,List.cons_append,List.nil_append];refine Qc fun K2 hK2=>?_
   by_cases hi:i<l.length
   ·have hi2:i<m.length:=by omega
    have hi':(i:Int)<l.length:=by omega
    have hi2':(i:Int)<m.length:=by omega
    (refine sI fun K Z=>?_;(repeat rw[Qa];simp[hi,hi']);refine Z ?_;clear Z K);refine pT rfl ?_;refine Qg (hK2 _ _ _ ?_);clear hK2 K2;refine Qc fun K3 hK3=>?_
    refine Wd ?_;rw[Qeu hi hi2]at hF;have hrec:=hg l[i] m[i] (List.getElem_mem hi) (List.getElem_mem hi2);obtain⟨x,hx⟩:∃x,l[i]=x:=⟨_,rfl⟩;obtain⟨y,hy⟩:∃y,m[i]=y:=⟨_,rfl⟩;rw[hx,hy]at hrec hF;have hEx:=Qb x;have hEy:=Qb y;rw[hEx,hEy]at hrec;generalize p x y=B at hrec hF;(refine Qc fun K hK=>?_;refine dR fun KT hKT=>?_;(repeat rw[Qd];simp[hi,hi',hx,hi2,hi2',hy,hEx,hEy]));refine cYp (hrec) ?_;(try simp only[zq]);(repeat rw[Qd];simp);(refine hKT _ _ _ _ (by kernel_rfl) ?_;clear hKT KT);(refine hK _ _ _ ?_;clear hK K);cases B with
    | true =>
     refine pF rfl ?_;refine Qg (hK3 _ _ _ ?_);clear hK3 K3;have hw1:IntKind.i64.wrap ((i:Int)+1)=(i:Int)+1:=Qbu (by omega) (by omega);(refine Qi Wa ?_;(repeat rw[Qa];simp[hw1]));refine hA (n - 1) _ _ _ (LeT.refl _) (by omega) (by kernel_rfl) ?_;exact⟨i+1,rfl,by omega,by simpa using hF,rfl⟩
    | false =>
     refine pT rfl ?_;(refine sI fun K Z=>?_;(repeat rw[Qa];simp);refine Z ?_;clear Z K);(refine Qe ?_;(try simp only[zs]);refine Qk.ret rfl (.inl ?_);simp[zM]);simpa using hF
   ·have hi':¬ (i:Int)<l.length:=by omega
    (refine sI fun K Z=>?_;(repeat rw[Qa];simp[hi,hi']);refine Z ?_;clear Z K);refine pF rfl ?_;refine Qad ?_;refine hK1 _ _ _ ?_;rw[List.drop_of_length_le (by omega),List.drop_of_length_le (by omega)]at hF;have hF':R=true:=hF;subst hF';(refine sI fun K Z=>?_;(repeat rw[Qa];simp);refine Z ?_;clear Z K);(refine Qe ?_;(try simp only[zs]);refine Qk.ret rfl (.inl ?_);simp[zM])
 ·have hlen':¬ (l.length:Int)=m.length:=by omega
  (refine sI fun K Z=>?_;(repeat rw[Qa];simp[hlen,hlen']);refine Z ?_;clear Z K);refine pT rfl ?_;(refine sI fun K Z=>?_;(repeat rw[Qa];simp);refine Z ?_;clear Z K);(refine Qe ?_;(try simp only[zs]);refine Qk.ret rfl (.inl ?_);simp[zM]);rw[hR];exact Qet hlen
theorem Quz{α:Type} [DecidableEq α]:∀l m:List α,Qa3 (fun x y=>decide (x=y)) l m=decide (l=m)
 | [], []=>by simp[Qa3]
 | [],_::_=>by simp[Qa3]
 | _::_, []=>by simp[Qa3]
 | a::r,b::s=>by rw[Qa3,Quz r s];by_cases h:a=b <;> simp[h]
mutual
def T.eqB:T ->T ->Bool
 | .mk k n a ls ks, .mk k' n' a' ls' ks'=>decide (k=k') && decide (n=n') && decide (a=a') && decide (ls=ls') && T.eqsB ks ks'
def T.eqsB:List T ->List T ->Bool
 | [], []=>true
 | a::r,b::s=>T.eqB a b && T.eqsB r s
 | [],_::_=>false
 | _::_, []=>false
end
mutual
theorem T.eqB_iff:∀t u:T,T.eqB t u=true↔t=u
 | .mk k n a ls ks, .mk k' n' a' ls' ks'=>by rw[T.eqB];simp[T.eqsB_iff ks ks',and_assoc]
theorem T.eqsB_iff:∀l m:List T,T.eqsB l m=true↔l=m
 | [], []=>by rw[T.eqsB];simp
 | a::r,b::s=>by rw[T.eqsB];simp[T.eqB_iff a b,T.eqsB_iff r s]
 | [],_::_=>by rw[T.eqsB];simp
 | _::_, []=>by rw[T.eqsB];simp
end
theorem Wam:∀l m:List T,T.eqsB l m=Qa3 T.eqB l m
 | [], []=>by rw[T.eqsB];rfl
 | a::r,b::s=>by rw[T.eqsB,Wam r s];rfl
 | [],_::_=>by rw[T.eqsB];rfl
 | _::_, []=>by rw[T.eqsB];rfl
theorem Qkf(l m:List LV)(hl:l.length<=Ql)(hm:m.length<=Ql)(hls:∀x,x∈l ->x.length<=Ql)(hms:∀x,x∈m ->x.length<=Ql) :
  Sp 45 [.slice (l.map Qn) .any, .slice (m.map Qn) .any] [] (rt (.bool (decide (l=m)))):=by
 rw[<- Quz];exact Ql1 _ l m hl hm fun x y hx hy=>Ql2 x y (hls x hx) (hms y hy)
theorem Qux(t:T):∀u,okT t ->okT u ->Sp 14 [Qj t,Qj u] [] (rt (.bool (t.eqB u))):=by
 induction t using T.ind with
 | h k n a ls ks ih =>
  rintro⟨k',n',a',ls',ks'⟩ ht hu;have hls:=ht.ls;have hls':=hu.ls;have hks:=ht.ks;have hks':=hu.ks;simp only[T.ls_mk,T.ks_mk]at hls hls' hks hks';have hL:=Qkf ls ls' ht.ll hu.ll (fun x hx=>(hls x hx).1) (fun x hx=>(hls' x hx).1);have hT:=Qnu T.eqB ks ks' ht.kl hu.kl (fun x y hx hy=>ih x hx y (hks x hx) (hks' y hy));have hF:(T.mk k n a ls ks).eqB (.mk k' n' a' ls' ks')=(decide (k=k') && decide (n=n') && decide (a=a') && decide (ls=ls') && T.eqsB ks ks'):=by rw[T.eqB]
  rw[hF,Wam];generalize Qa3 T.eqB ks ks'=B2 at hT⊢;generalize decide (ls=ls')=B1 at hL⊢;clear hF ih hls hls' hks hks' ht hu;rw[Qb,Qb];simp only[T.k_mk,T.n_mk,T.a_mk,T.ls_mk,T.ks_mk];refine eN Tryz.func14 rfl (by decide) rfl rfl ?_;(refine sI fun K Z=>?_;(repeat rw[Qa];simp);refine Z ?_;clear Z K);by_cases h1:k=k'
  ·subst h1;by_cases h2:n=n'
   ·subst h2;by_cases h3:a=a'
    ·subst h3;cases B1 with
     | true =>
      (refine sR fun K hK=>?_;(repeat rw[Qa];simp));refine cXr (hL) ?_
      (repeat rw[Qa];simp)
      refine cXr (hT) ?_
      (repeat rw[Qa];simp)
      (refine hK _ _ _ ?_;clear hK K);(refine Qe ?_;(try simp only[zs]);refine Qk.ret rfl (.inl ?_);simp[zM])
     | false =>
      (refine sR fun K hK=>?_;(repeat rw[Qa];simp));refine cXr (hL) ?_
      (repeat rw[Qa];simp)
      (refine hK _ _ _ ?_;clear hK K);(refine Qe ?_;(try simp only[zs]);refine Qk.ret rfl (.inl ?_);simp[zM])
    ·(refine sI fun K Z=>?_;(repeat rw[Qa];simp[h3]);refine Z ?_;clear Z K);(refine Qe ?_;(try simp only[zs]);refine Qk.ret rfl (.inl ?_);simp[zM]);simp[h3]
   ·(refine sI fun K Z=>?_;(repeat rw[Qa];simp[h2]);refine Z ?_;clear Z K);(refine Qe ?_;(try simp only[zs]);refine Qk.ret rfl (.inl ?_);simp[zM]);simp[h2]
  ·(refine sI fun K Z=>?_;(repeat rw[Qa];simp[h1]);refine Z ?_;clear Z K);(refine Qe ?_;(try simp only[zs]);refine Qk.ret rfl (.inl ?_);simp[zM]);simp[h1]
def Wfc(n:Int):Bool:=decide (n<0) || decide (1048576<n)
def Wdt(k a:Int):Int:=if k=24 then IntKind.i64.wrap ((Qep k).2.2.2.1+a)else(Qep k).2.2.2.1
def Wds(k:Int):Int:=if k=10 then 10 else 8
def nodeIn(k n a:Int):Bool:=decide (1<=k) && decide (k<=24) && !(Wfc n || Wfc a)
def nodeHas(k n a:Int)(ls:List LV)(len:Nat):Bool :=
 decide ((len:Int)=Wdt k a) && (decide (n=0) || (Qep k).1) && (decide (a=0) || (Qep k).2.1) && (decide ((Qep k).2.2.1<0) || decide ((ls.length:Int)=(Qep k).2.2.1)) && decide ((ls.length:Int)<=Wds k)
def nodeT(t:T):Bool:=nodeIn t.k t.n t.a && nodeHas t.k t.n t.a t.ls t.ks.length && !(t.ls.any fun l=>!Xn l 9)
mutual
def T.cnt:T ->Int ->Int ->Bool×Int
 | .mk k n a ls ks,deep,c =>
  let c1:=IntKind.i64.wrap (c+1)
  if deep<=400/\c1<=20000/\nodeT (.mk k n a ls ks)=true then T.cnts ks (IntKind.i64.wrap (deep+1)) c1 else(false,c1)
def T.cnts:List T ->Int ->Int ->Bool×Int
 | [],_,c=>(true,c)
 | t::r,deep,c=>if(T.cnt t deep c).1=true then T.cnts r deep (T.cnt t deep c).2 else(false,(T.cnt t deep c).2)
end
def Qe0{α:Type}(step:α ->Int ->Int)(q:Int):List α ->Int ->Int
 | [],n=>n
 | x::r,n=>if n<=q then Qe0 step q r (step x n)else n
def Qp3(q:Int)(l:LV):Int:=min (IntKind.i64.wrap (1+(l.length:Int))) (IntKind.i64.wrap (q+1))
theorem Qzn(l:LV)(q:Int):Sp 137 [Qn l, .int .i64 q] [] (rt (.int .i64 (Qp3 q l))):=by
 refine eN Tryz.func137 rfl (by decide) rfl rfl ?_;unfold Qn;(refine sI fun K Z=>?_;(repeat rw[Qa];simp);refine Z ?_;clear Z K);(refine sI fun K Z=>?_;(repeat rw[Qa];simp);refine Z ?_;clear Z K);(refine Qe ?_;(try simp only[zs]);refine Qk.ret rfl (.inl ?_);simp[zM]);rfl
theorem Qzk(l:List (LV))(q:Int)(step:LV ->Int ->Int)(hl:l.length<=Ql)(hst:∀x s,step x s=IntKind.i64.wrap (s+Qp3 q x))(hg:∀x,x∈l ->∀s:Int,Sp 137 [Qn x, .int .i64 q] [] (rt (.int .i64 (Qp3 q x)))) :
  Sp 85 [.slice (l.map Qn) .any, .int .i64 q] [] (rt (.int .i64 (Qe0 step q l 0))):=by
 obtain⟨R,hR⟩:∃R,R=Qe0 step q l 0:=⟨_,rfl⟩;rw[<- hR];have hl0:=hl;unfold Ql at hl0;refine eN Tryz.func85 rfl (by decide) rfl rfl ?_;(refine sI fun K Z=>?_;(repeat rw[Qa];simp);refine Z ?_;clear Z K);(refine sI fun K Z=>?_;(repeat rw[Qa];simp);refine Z ?_;clear Z K);refine Qc fun K1 hK1=>?_
 (refine sI fun K Z=>?_;(repeat rw[Qa];simp);refine Z ?_;clear Z K);refine Wd ?_;refine Qbb [7,8,9,10,11,12,13,14,15,16,17,18,19,20,21,22,23,24,25] [5,6] (fun n ys hl=>∃(k:Nat) (s:Int),ys= [.int .i64 s, .int .i64 k]/\n+k=l.length/\R=Qe0 step q (l.drop k) s/\hl= []) (l.length) (by kernel_rfl) ?_ ?_
 ·exact⟨0,0,rfl,rfl,hR,rfl⟩
 ·rintro n ys hl A hA ⟨i,s,rfl,hn,hF,rfl⟩;simp only[Qh,List.set,List.map_cons,List.map_nil,List.cons_append,List.nil_append];refine Qc fun K2 hK2=>?_
  by_cases hi:i<l.length
  ·have hi':(i:Int)<l.length:=by omega
   by_cases hs:s<=q
   ·(refine sI fun K Z=>?_;(repeat rw[Qa];simp[hi,hi',hs]);refine Z ?_;clear Z K);refine pT rfl ?_;refine Qg (hK2 _ _ _ ?_);clear hK2 K2;refine Qc fun K3 hK3=>?_
    refine Wd ?_;rw[List.drop_eq_getElem_cons hi,Qe0,if_pos hs]at hF;have hrec:=hg l[i] (List.getElem_mem hi) s;obtain⟨x,hx⟩:∃x,l[i]=x:=⟨_,rfl⟩;rw[hx]at hrec hF;unfold Qn at hrec;obtain⟨v,hv⟩:∃v,Qp3 q x=v:=⟨_,rfl⟩;rw[hv]at hrec;rw[hst,hv]at hF;(refine Qi Wa ?_;(repeat rw[Qa];simp[hi,hi',hx,Qn]));refine cXr (hrec) ?_
    (repeat rw[Qa];simp)
    refine hK3 _ _ _ ?_;clear hK3 K3;have hw1:IntKind.i64.wrap ((i:Int)+1)=(i:Int)+1:=Qbu (by omega) (by omega);(refine Qi Wa ?_;(repeat rw[Qa];simp[hw1]));refine hA (n - 1) _ _ _ (LeT.refl _) (by omega) (by kernel_rfl) ?_;exact⟨i+1,_,rfl,by omega,hF,rfl⟩
   ·(refine sI fun K Z=>?_;(repeat rw[Qa];simp[hi,hi',hs]);refine Z ?_;clear Z K);refine pF rfl ?_;refine Qad ?_;refine hK1 _ _ _ ?_;rw[List.drop_eq_getElem_cons hi,Qe0,if_neg hs]at hF;subst hF;(refine sI fun K Z=>?_;(repeat rw[Qa];simp);refine Z ?_;clear Z K);(refine Qe ?_;(try simp only[zs]);refine Qk.ret rfl (.inl ?_);simp[zM])
  ·have hi':¬ (i:Int)<l.length:=by omega
   (refine sI fun K Z=>?_;(repeat rw[Qa];simp[hi,hi']);refine Z ?_;clear Z K);refine pF rfl ?_;refine Qad ?_;refine hK1 _ _ _ ?_;rw[List.drop_of_length_le (by omega),Qe0]at hF;subst hF;(refine sI fun K Z=>?_;(repeat rw[Qa];simp);refine Z ?_;clear Z K);(refine Qe ?_;(try simp only[zs]);refine Qk.ret rfl (.inl ?_);simp[zM])
def lvsN(q:Int)(ls:List LV):Int:=Qe0 (fun x s=>IntKind.i64.wrap (s+Qp3 q x)) q ls 0
theorem Qzl(ls:List LV)(q:Int)(hl:ls.length<=Ql):Sp 85 [.slice (ls.map Qn) .any, .int .i64 q] [] (rt (.int .i64 (lvsN q ls))) :=
 Qzk ls q _ hl (fun _ _=>rfl) (fun x _ _=>Qzn x q)
mutual
def T.tof:T ->Int ->Int
 | .mk _ _ _ ls ks,q=>IntKind.i64.wrap (IntKind.i64.wrap (1+lvsN q ls)+T.tofs ks 0 q)
def T.tofs:List T ->Int ->Int ->Int
 | [],n,_=>n
 | t::r,n,q=>if n<=q then T.tofs r (IntKind.i64.wrap (n+T.tof t (IntKind.i64.wrap (q - n)))) q else n
end
theorem Qts(q:Int):∀(l:List T) (n:Int),T.tofs l n q=Qe0 (fun x s=>IntKind.i64.wrap (s+T.tof x (IntKind.i64.wrap (q - s)))) q l n
 | [],n=>by rw[T.tofs,Qe0]
 | t::r,n=>by rw[T.tofs,Qe0,Qts q r]
theorem Wcn(l:List (T))(q:Int)(step:T ->Int ->Int)(hl:l.length<=Ql)(hst:∀x s,step x s=IntKind.i64.wrap (s+T.tof x (IntKind.i64.wrap (q - s))))(hg:∀x,x∈l ->∀s:Int,Sp 42 [Qj x, .int .i64 (IntKind.i64.wrap (q - s))] [] (rt (.int .i64 (T.tof x (IntKind.i64.wrap (q - s)))))) :
  Sp 74 [.slice (l.map Qj) .any, .int .i64 q] [] (rt (.int .i64 (Qe0 step q l 0))):=by
 obtain⟨R,hR⟩:∃R,R=Qe0 step q l 0:=⟨_,rfl⟩;rw[<- hR];have hl0:=hl;unfold Ql at hl0;refine eN Tryz.func74 rfl (by decide) rfl rfl ?_;(refine sI fun K Z=>?_;(repeat rw[Qa];simp);refine Z ?_;clear Z K);(refine sI fun K Z=>?_;(repeat rw[Qa];simp);refine Z ?_;clear Z K);refine Qc fun K1 hK1=>?_
 (refine sI fun K Z=>?_;(repeat rw[Qa];simp);refine Z ?_;clear Z K);refine Wd ?_;refine Qbb [7,8,9,10,11,12,13,14,15,16,17,18,19,20,21,22,23,24,25,26,27] [5,6] (fun n ys hl=>∃(k:Nat) (s:Int),ys= [.int .i64 s, .int .i64 k]/\n+k=l.length/\R=Qe0 step q (l.drop k) s/\hl= []) (l.length) (by kernel_rfl) ?_ ?_
 ·exact⟨0,0,rfl,rfl,hR,rfl⟩
 ·rintro n ys hl A hA ⟨i,s,rfl,hn,hF,rfl⟩;simp only[Qh,List.set,List.map_cons,List.map_nil,List.cons_append,List.nil_append];refine Qc fun K2 hK2=>?_
  by_cases hi:i<l.length
  ·have hi':(i:Int)<l.length:=by omega
   by_cases hs:s<=q
   ·(refine sI fun K Z=>?_;(repeat rw[Qa];simp[hi,hi',hs]);refine Z ?_;clear Z K);refine pT rfl ?_;refine Qg (hK2 _ _ _ ?_);clear hK2 K2;refine Qc fun K3 hK3=>?_
    refine Wd ?_;rw[List.drop_eq_getElem_cons hi,Qe0,if_pos hs]at hF;have hrec:=hg l[i] (List.getElem_mem hi) s;obtain⟨x,hx⟩:∃x,l[i]=x:=⟨_,rfl⟩;rw[hx]at hrec hF;have hEx:=Qb x;rw[hEx]at hrec;rw[hst]at hF;generalize T.tof x (IntKind.i64.wrap (q - s))=v at hrec hF;(refine Qi Wa ?_;(repeat rw[Qa];simp[hi,hi',hx,hEx]));refine cXr (hrec) ?_
    (repeat rw[Qa];simp)
    refine hK3 _ _ _ ?_;clear hK3 K3;have hw1:IntKind.i64.wrap ((i:Int)+1)=(i:Int)+1:=Qbu (by omega) (by omega);(refine Qi Wa ?_;(repeat rw[Qa];simp[hw1]));refine hA (n - 1) _ _ _ (LeT.refl _) (by omega) (by kernel_rfl) ?_;exact⟨i+1,_,rfl,by omega,hF,rfl⟩
   ·(refine sI fun K Z=>?_;(repeat rw[Qa];simp[hi,hi',hs]);refine Z ?_;clear Z K);refine pF rfl ?_;refine Qad ?_;refine hK1 _ _ _ ?_;rw[List.drop_eq_getElem_cons hi,Qe0,if_neg hs]at hF;subst hF;(refine sI fun K Z=>?_;(repeat rw[Qa];simp);refine Z ?_;clear Z K);(refine Qe ?_;(try simp only[zs]);refine Qk.ret rfl (.inl ?_);simp[zM])
  ·have hi':¬ (i:Int)<l.length:=by omega
   (refine sI fun K Z=>?_;(repeat rw[Qa];simp[hi,hi']);refine Z ?_;clear Z K);refine pF rfl ?_;refine Qad ?_;refine hK1 _ _ _ ?_;rw[List.drop_of_length_le (by omega),Qe0]at hF;subst hF;(refine sI fun K Z=>?_;(repeat rw[Qa];simp);refine Z ?_;clear Z K);(refine Qe ?_;(try simp only[zs]);refine Qk.ret rfl (.inl ?_);simp[zM])
theorem Qtt(t:T):∀q,okT t ->Sp 42 [Qj t, .int .i64 q] [] (rt (.int .i64 (t.tof q))):=by
 induction t using T.ind with
 | h k n a ls ks ih =>
  intro q ht;have hks:=ht.ks;simp only[T.ks_mk]at hks;have hL:=Qzl ls q ht.ll;have hT:=Wcn ks q _ ht.kl (fun _ _=>rfl) (fun x hx s=>ih x hx _ (hks x hx));rw[<- Qts]at hT;have e:(T.mk k n a ls ks).tof q=IntKind.i64.wrap (IntKind.i64.wrap (1+lvsN q ls)+T.tofs ks 0 q):=by rw[T.tof]
  rw[e];generalize lvsN q ls=v at hL⊢;generalize T.tofs ks 0 q=v2 at hT⊢;rw[Qb];simp only[T.k_mk,T.n_mk,T.a_mk,T.ls_mk,T.ks_mk];refine eN Tryz.func42 rfl (by decide) rfl rfl ?_;(refine sI fun K Z=>?_;(repeat rw[Qa];simp);refine Z ?_;clear Z K);(refine Qc fun K hK=>?_;refine dR fun KT hKT=>?_;(repeat rw[Qd];simp));refine cYp (hL) ?_;(try simp only[zq]);(repeat rw[Qd];simp);refine cYp (hT) ?_;(try simp only[zq]);(repeat rw[Qd];simp);(refine hKT _ _ _ _ (by kernel_rfl) ?_;clear hKT KT);(refine hK _ _ _ ?_;clear hK K);(refine Qe ?_;(try simp only[zs]);refine Qk.ret rfl (.inl ?_);simp[zM])
theorem Qfg(k n a:Int)(ls:List LV)(ks:List T):Qj (.mk k n a ls ks)= .agg [.int .i64 k, .int .i64 n, .int .i64 a, .slice (ls.map Qn) .any, .slice (ks.map Qj) .any]:=Qb _
mutual
def T.dp:T ->Int ->Int
 | .mk _ _ _ _ ks,q=>IntKind.i64.wrap ((if 0<q then T.dps ks (IntKind.i64.wrap (q - 1)) 0 else 0)+1)
def T.dps:List T ->Int ->Int ->Int
 | [],_,s=>s
 | t::r,q,s=>T.dps r q (max s (T.dp t q))
end
theorem Qqt(t:T):∀q,okT t ->Sp 40 [Qj t, .int .i64 q] [] (rt (.int .i64 (t.dp q))):=by
 induction t using T.ind with
 | h kk m a ls ks ih =>
 intro q ht;have hkl:ks.length<=Ql:=ht.kl;have hks:=ht.ks;simp only[T.ks_mk]at hks;unfold Ql at hkl;have hR0:T.dp (.mk kk m a ls ks) q=IntKind.i64.wrap ((if 0<q then T.dps ks (IntKind.i64.wrap (q - 1)) 0 else 0)+1):=by rw[T.dp]
 rw[hR0];rw[Qb];simp only[T.k_mk,T.n_mk,T.a_mk,T.ls_mk,T.ks_mk];refine eN Tryz.func40 rfl (by decide) rfl rfl ?_;(refine sI fun K Z=>?_;(repeat rw[Qa];simp);refine Z ?_;clear Z K);(refine sI fun K Z=>?_;(repeat rw[Qa];simp);refine Z ?_;clear Z K);by_cases hq:0<q
 rotate_left
 ·rw[if_neg hq];refine Qc fun K1 hK1=>?_
  (refine sI fun K Z=>?_;(repeat rw[Qa];simp);refine Z ?_;clear Z K);refine Wd ?_;refine Qbb [7,8,9,10,11,12,13,14,15,16,17,18,19,20,21,22,23,24,25,26,27] [5,6] (fun n ys hl=>ys= [.int .i64 0, .int .i64 0]/\n=0/\hl= [.cells 27 [.int .i64 kk, .int .i64 m, .int .i64 a, .slice (ls.map Qn) .any, .slice (ks.map Qj) .any]]) (0) (by kernel_rfl) ?_ ?_
  ·exact⟨rfl,rfl,rfl⟩
  ·rintro n ys hl A hA ⟨rfl, -,rfl⟩;simp only[Qh,List.set,List.map_cons,List.map_nil,List.cons_append,List.nil_append];refine Qc fun K2 hK2=>?_
   by_cases h0:0<ks.length
   ·have h0':(0:Int)<ks.length:=by omega
    (refine sI fun K Z=>?_;(repeat rw[Qa];simp[h0,h0',hq]);refine Z ?_;clear Z K);refine pF rfl ?_;refine Qad ?_;refine hK1 _ _ _ ?_;(refine sI fun K Z=>?_;(repeat rw[Qa];simp);refine Z ?_;clear Z K);(refine Qe ?_;(try simp only[zs]);refine Qk.ret rfl (.inl ?_);simp[zM])
   ·have h0':¬ (0:Int)<ks.length:=by omega
    (refine sI fun K Z=>?_;(repeat rw[Qa];simp[h0,h0',hq]);refine Z ?_;clear Z K);refine pF rfl ?_;refine Qad ?_;refine hK1 _ _ _ ?_;(refine sI fun K Z=>?_;(repeat rw[Qa];simp);refine Z ?_;clear Z K);(refine Qe ?_;(try simp only[zs]);refine Qk.ret rfl (.inl ?_);simp[zM])
 rw[if_pos hq];obtain⟨R,hR⟩:∃R,R=T.dps ks (IntKind.i64.wrap (q - 1)) 0:=⟨_,rfl⟩;rw[<- hR];refine Qc fun K1a hK1a=>?_
 (refine sI fun K Z=>?_;(repeat rw[Qa];simp);refine Z ?_;clear Z K);refine Wd ?_;refine Qbb [7,8,9,10,11,12,13,14,15,16,17,18,19,20,21,22,23,24,25,26,27] [5,6] (fun n ys hl=>∃(k:Nat) (s:Int),ys= [.int .i64 s, .int .i64 k]/\n+k=ks.length/\R=T.dps (ks.drop k) (IntKind.i64.wrap (q - 1)) s/\hl= [.cells 27 [.int .i64 kk, .int .i64 m, .int .i64 a, .slice (ls.map Qn) .any, .slice (ks.map Qj) .any]]) (ks.length) (by kernel_rfl) ?_ ?_
 ·exact⟨0,0,rfl,rfl,hR,rfl⟩
 ·rintro n1 ys hl A1 hA1 ⟨i1,s,rfl,hn,hF,rfl⟩;have hA:=hA1;simp only[Qh,List.set,List.map_cons,List.map_nil,List.cons_append,List.nil_append];refine Qc fun K1b hK1b=>?_
  by_cases hi1:i1<ks.length
  ·have hi1':(i1:Int)<ks.length:=by omega
   rw[List.drop_eq_getElem_cons hi1,T.dps]at hF;have hrec:=ih ks[i1] (List.getElem_mem hi1) (IntKind.i64.wrap (q - 1)) (hks _ (List.getElem_mem hi1));obtain⟨x,hx⟩:∃x,ks[i1]=x:=⟨_,rfl⟩;rw[hx]at hrec hF;have hEx:=Qb x;rw[hEx]at hrec;generalize x.dp (IntKind.i64.wrap (q - 1))=v at hrec hF;(refine sI fun K Z=>?_;(repeat rw[Qa];simp[hi1,hi1',hq]);refine Z ?_;clear Z K);refine pT rfl ?_;refine Qg (hK1b _ _ _ ?_);clear hK1b K1b;refine Qc fun K1c hK1c=>?_
   refine Wd ?_;(refine Qi Wa ?_;(repeat rw[Qa];simp[hi1,hi1',hx,hEx]));refine cXr (hrec) ?_
   (repeat rw[Qa];simp)
   refine hK1c _ _ _ ?_;clear hK1c K1c;have hw1:IntKind.i64.wrap ((i1:Int)+1)=(i1:Int)+1:=Qbu (by omega) (by omega);(refine Qi Wa ?_;(repeat rw[Qa];simp[hw1]));refine hA (n1 - 1) _ _ _ (LeT.refl _) (by omega) (by kernel_rfl) ?_;exact⟨i1+1,_,rfl,by omega,hF,rfl⟩
  ·have hi1':¬ (i1:Int)<ks.length:=by omega
   (refine sI fun K Z=>?_;(repeat rw[Qa];simp[hi1,hi1',hq]);refine Z ?_;clear Z K);refine pF rfl ?_;refine Qad ?_;refine hK1a _ _ _ ?_;clear hK1b K1b;rw[List.drop_of_length_le (by omega),T.dps]at hF;subst hF;(refine sI fun K Z=>?_;(repeat rw[Qa];simp);refine Z ?_;clear Z K);(refine Qe ?_;(try simp only[zs]);refine Qk.ret rfl (.inl ?_);simp[zM])
end Go.Proofs.YtgloldepdhgfaaaGreatDoor
namespace Go.Proofs.YtgloldepdhgfaaaGreatDoor
set_option linter.unusedSimpArgs false
set_option linter.unusedVariables false
open Go.RowKit
def Wb0:List LV ->Nat
 | []=>0
 | l::r=>1+l.length+Wb0 r
mutual
def T.tsz:T ->Nat
 | .mk _ _ _ ls ks=>1+Wb0 ls+T.tszs ks
def T.tszs:List T ->Nat
 | []=>0
 | t::r=>T.tsz t+T.tszs r
end
mutual
theorem Qsh:∀t:T,t.nsz<=t.tsz
 | .mk _ _ _ ls ks=>by rw[T.nsz,T.tsz];have:=Qpw ks;omega
theorem Qpw:∀ks:List T,T.nszs ks<=T.tszs ks
 | []=>by rw[T.nszs,T.tszs];exact Nat.le_refl _
 | t::r=>by rw[T.nszs,T.tszs];have:=Qsh t;have:=Qpw r;omega
end
def QB:Int:=4611686018427387904
theorem Wd1(l:LV)(q:Int)(hl:(l.length:Int)<QB)(hq:0<=q/\q<=QB):1<=Qp3 q l/\Qp3 q l<=1+l.length/\(Qp3 q l<=q ->Qp3 q l=1+l.length):=by
 unfold QB at hl hq;unfold Qp3;rw[Qbu (by omega) (by omega),Qbu (by omega) (by omega)];omega
theorem Qzj(q:Int)(hq:0<=q/\q<=QB):∀(ls:List LV) (s:Int),0<=s ->s+(Wb0 ls:Int)<=QB ->
  s<=Qe0 (fun x s=>IntKind.i64.wrap (s+Qp3 q x)) q ls s/\Qe0 (fun x s=>IntKind.i64.wrap (s+Qp3 q x)) q ls s<=s+(Wb0 ls:Int)/\(Qe0 (fun x s=>IntKind.i64.wrap (s+Qp3 q x)) q ls s<=q ->Qe0 (fun x s=>IntKind.i64.wrap (s+Qp3 q x)) q ls s=s+(Wb0 ls:Int))
 | [],s,h0,h1=>by simp only[Qe0,Wb0];omega
 | l::r,s,h0,h1=>by
  rw[Qe0];rw[Wb0]at h1⊢;split
  ·rename_i hs;have hq2:=hq;unfold QB at h1 hq2;obtain⟨a1,a2,a3⟩:=Wd1 l q (by unfold QB;omega) hq;rw[Qbu (n:=s+Qp3 q l) (by omega) (by omega)];obtain⟨b1,b2,b3⟩:=Qzj q hq r (s+Qp3 q l) (by omega) (by unfold QB;omega);refine⟨by omega,by omega,fun h=>?_⟩;have:=b3 h;have:=a3 (by omega);omega
  ·omega
mutual
theorem Qrl:∀(t:T) (q:Int),(t.tsz:Int)<=QB ->0<=q/\q<=QB ->1<=t.tof q/\t.tof q<=t.tsz/\(t.tof q<=q ->t.tof q=t.tsz)
 | .mk k n a ls ks,q,ht,hq=>by
  rw[T.tsz]at ht;have ht2:=ht;have hq2:=hq;unfold QB at ht2 hq2;obtain⟨a1,a2,a3⟩:=Qzj q hq ls 0 (by omega) (by unfold QB;omega);obtain⟨b1,b2,b3⟩:=Qtr ks 0 q (by omega) (by unfold QB;omega) hq;rw[T.tof,T.tsz];unfold lvsN;generalize Qe0 (fun x s=>IntKind.i64.wrap (s+Qp3 q x)) q ls 0=v at a1 a2 a3;rw[Qbu (n:=1+v) (by omega) (by omega),Qbu (by omega) (by omega)];refine⟨by omega,by omega,fun h=>?_⟩;have:=a3 (by omega);have:=b3 (by omega);omega
theorem Qtr:∀(ks:List T) (s q:Int),0<=s ->s+(T.tszs ks:Int)<=QB ->0<=q/\q<=QB ->s<=T.tofs ks s q/\T.tofs ks s q<=s+(T.tszs ks:Int)/\(T.tofs ks s q<=q ->T.tofs ks s q=s+(T.tszs ks:Int))
 | [],s,q,h0,h1,hq=>by rw[T.tofs,T.tszs];omega
 | t::r,s,q,h0,h1,hq=>by
  rw[T.tofs];rw[T.tszs]at h1⊢;split
  ·rename_i hs;have h2:=h1;have hq2:=hq;unfold QB at h2 hq2;rw[Qbu (n:=q - s) (by omega) (by omega)];obtain⟨a1,a2,a3⟩:=Qrl t (q - s) (by unfold QB;omega) ⟨by omega,by unfold QB;omega⟩;rw[Qbu (n:=s+t.tof (q - s)) (by omega) (by omega)];obtain⟨b1,b2,b3⟩:=Qtr r (s+t.tof (q - s)) q (by omega) (by unfold QB;omega) hq;refine⟨by omega,by omega,fun h=>?_⟩;have:=b3 h;have:=a3 (by omega);omega
  ·omega
end
def Qi8:List C ->Nat
 | []=>0
 | c::r=>1+c.ty.tsz+c.bo.tsz+Qi8 r
theorem Qu3:∀l:List C,l.length<=Qi8 l
 | []=>Nat.zero_le _
 | x::r=>by rw[Qi8,List.length_cons];have:=Qu3 r;omega
end Go.Proofs.YtgloldepdhgfaaaGreatDoor
namespace Go.Proofs.YtgloldepdhgfaaaGreatDoor
set_option linter.unusedSimpArgs false
set_option linter.unusedVariables false
set_option maxHeartbeats 10000000
set_option maxRecDepth 20000
open Go.RowKit
attribute [local simp] Qx Qm Qo Qp Wn Xg opD Wc Qr Qw Wi hOf Wj Xf Xd TK.isAgg TK.known Ws Wk Qz Qh D.ofV inB Qy Wp Xy Za Zg Xc Xw Zh IntKind.min IntKind.max IntKind.signed IntKind.bits Wm Xz
theorem Qsy(l:List (C))(q:Int)(step:C ->Int ->Int)(hl:l.length<=Ql)(hst:∀x s,step x s=IntKind.i64.wrap (IntKind.i64.wrap (IntKind.i64.wrap (s+1)+x.ty.tof q)+x.bo.tof q))(hg:∀x,x∈l ->∀s:Int,okC x) :
  Sp 41 [.slice (l.map Qbj) .any, .int .i64 q] [] (rt (.int .i64 (Qe0 step q l 0))):=by
 obtain⟨R,hR⟩:∃R,R=Qe0 step q l 0:=⟨_,rfl⟩;rw[<- hR];have hl0:=hl;unfold Ql at hl0;refine eN Tryz.func41 rfl (by decide) rfl rfl ?_;(refine sI fun K Z=>?_;(repeat rw[Qa];simp);refine Z ?_;clear Z K);(refine sI fun K Z=>?_;(repeat rw[Qa];simp);refine Z ?_;clear Z K);refine Qc fun K1 hK1=>?_
 (refine sI fun K Z=>?_;(repeat rw[Qa];simp);refine Z ?_;clear Z K);refine Wd ?_;refine Qbb [7,8,9,10,11,12,13,14,15,16,17,18,19,20,21,22,23,24,25,26,27,28,29,30,31,32,33,34,35] [5,6] (fun n ys hl=>∃(k:Nat) (s:Int),ys= [.int .i64 s, .int .i64 k]/\n+k=l.length/\R=Qe0 step q (l.drop k) s/\hl= []) (l.length) (by kernel_rfl) ?_ ?_
 ·exact⟨0,0,rfl,rfl,hR,rfl⟩
 ·rintro n ys hl A hA ⟨i,s,rfl,hn,hF,rfl⟩;simp only[Qh,List.set,List.map_cons,List.map_nil,List.cons_append,List.nil_append];refine Qc fun K2 hK2=>?_
  by_cases hi:i<l.length
  ·have hi':(i:Int)<l.length:=by omega
   by_cases hs:s<=q
   ·(refine sI fun K Z=>?_;(repeat rw[Qa];simp[hi,hi',hs]);refine Z ?_;clear Z K);refine pT rfl ?_;refine Qg (hK2 _ _ _ ?_);clear hK2 K2;refine Qc fun K3 hK3=>?_
    refine Wd ?_;rw[List.drop_eq_getElem_cons hi,Qe0,if_pos hs]at hF;have hrec:=hg l[i] (List.getElem_mem hi) s;obtain⟨x,hx⟩:∃x,l[i]=x:=⟨_,rfl⟩;rw[hx]at hrec hF;have hE:=Qax x;have ht1:=Qtt x.ty q hrec.2.1;have ht2:=Qtt x.bo q hrec.2.2;rw[Qb x.ty]at ht1;rw[Qb x.bo]at ht2;rw[hst]at hF;generalize x.ty.tof q=v1 at ht1 hF;generalize x.bo.tof q=v2 at ht2 hF;(refine dR fun KT hKT=>?_;(repeat rw[Qd];simp[hi,hi',hx,hE]));refine cYp (ht1) ?_;(try simp only[zq]);(repeat rw[Qd];simp[hi,hi',hx,hE]);refine cYp (ht2) ?_;(try simp only[zq]);(repeat rw[Qd];simp[hi,hi',hx,hE]);(refine hKT _ _ _ _ (by kernel_rfl) ?_;clear hKT KT);refine hK3 _ _ _ ?_;clear hK3 K3;have hw1:IntKind.i64.wrap ((i:Int)+1)=(i:Int)+1:=Qbu (by omega) (by omega);(refine Qi Wa ?_;(repeat rw[Qa];simp[hw1]));refine hA (n - 1) _ _ _ (LeT.refl _) (by omega) (by kernel_rfl) ?_;exact⟨i+1,_,rfl,by omega,hF,rfl⟩
   ·(refine sI fun K Z=>?_;(repeat rw[Qa];simp[hi,hi',hs]);refine Z ?_;clear Z K);refine pF rfl ?_;refine Qad ?_;refine hK1 _ _ _ ?_;rw[List.drop_eq_getElem_cons hi,Qe0,if_neg hs]at hF;subst hF;(refine sI fun K Z=>?_;(repeat rw[Qa];simp);refine Z ?_;clear Z K);(refine Qe ?_;(try simp only[zs]);refine Qk.ret rfl (.inl ?_);simp[zM])
  ·have hi':¬ (i:Int)<l.length:=by omega
   (refine sI fun K Z=>?_;(repeat rw[Qa];simp[hi,hi']);refine Z ?_;clear Z K);refine pF rfl ?_;refine Qad ?_;refine hK1 _ _ _ ?_;rw[List.drop_of_length_le (by omega),Qe0]at hF;subst hF;(refine sI fun K Z=>?_;(repeat rw[Qa];simp);refine Z ?_;clear Z K);(refine Qe ?_;(try simp only[zs]);refine Qk.ret rfl (.inl ?_);simp[zM])
inductive HeadsR (l : List C) (h : Nat) (x y : T) (f : Int) : Option (Bool × Int) -> Prop where
 | mis (hp:prs x y=none):HeadsR l h x y f (some (false,f))
 | kids {ds bs:List T} {o:Option (Bool×Int)} (hp:prs x y=some (ds,bs)) (hk:CR l h ds bs f o):HeadsR l h x y f o
set_option maxHeartbeats 8000000 in
theorem Qw1{l:List C}{h:Nat}(H:Qlt l h){x y:T}{f:Int}{o:Option (Bool×Int)}(h0:0<=f)(h1:f<=1073741824)(hx:okP (f+1) x)(hy:okP (f+1) y)(hr:HeadsR l h x y f o) :
  Sp 191 [.box 0 0,Qj x,Qj y] (Wy f l) (Qvh l o):=by
 have hdx:x.deep<=DM:=okS.deep ⟨hx.1,by have:=hx.2;omega⟩;have hdy:y.deep<=DM:=okS.deep ⟨hy.1,by have:=hy.2;omega⟩;have px5:=Qgg x hx.1 hdx 5 (.inl rfl);have py5:=Qgg y hy.1 hdy 5 (.inl rfl);have px13:=Qgg x hx.1 hdx 13 (.inr rfl);have py13:=Qgg y hy.1 hdy 13 (.inr rfl);have mx:=Qjk x hx.1;have my:=Qjk y hy.1;have eqf:=Qf4 (fun a b=>decide (Wf a=Wf b)) 54 x.ls y.ls hx.1.ll hy.1.ll (fun a b ha hb=>Qpm a b (hx.1.ls a ha).1 (hy.1.ls b hb).1);rw[<- Qem]at eqf
 -- what is asked in each case
 have R5:x.k=5\/y.k=5 ->Sp 134 [.box 0 0,Ts (Qaq 5 x),Ts (Qaq 5 y)] (Wy f l) (Qvh l o):=fun hd=>by
  have hp:prs x y=some (Qaq 5 x,Qaq 5 y):=by unfold prs;rw[if_pos hd]
  cases hr with
  | mis hp'=>rw[hp]at hp';cases hp'
  | kids hp' hk =>
   rw[hp]at hp';cases hp';exact Qil H (Qhy 5 x y) (Qmo 5 x) h0 h1 (fun p hm=>Qhx h0 hx hm) (fun p hm=>Qhx h0 hy hm) hk
 have R13:¬ (x.k=5\/y.k=5) ->x.k=13\/y.k=13 ->Sp 134 [.box 0 0,Ts (Qaq 13 x),Ts (Qaq 13 y)] (Wy f l) (Qvh l o):=fun hn hd=>by
  have hp:prs x y=some (Qaq 13 x,Qaq 13 y):=by unfold prs;rw[if_neg hn,if_pos hd]
  cases hr with
  | mis hp'=>rw[hp]at hp';cases hp'
  | kids hp' hk =>
   rw[hp]at hp';cases hp';exact Qil H (Qhy 13 x y) (Qmo 13 x) h0 h1 (fun p hm=>Qhx h0 hx hm) (fun p hm=>Qhx h0 hy hm) hk
 have RA:¬ (x.k=5\/y.k=5) ->¬ (x.k=13\/y.k=13) ->Qga x y ->Sp 134 [.box 0 0,Ts (Qak x),Ts (Qak y)] (Wy f l) (Qvh l o):=fun hn hn2 hd=>by
  have hp:prs x y=some (Qak x,Qak y):=by unfold prs;rw[if_neg hn,if_neg hn2,if_pos hd]
  cases hr with
  | mis hp'=>rw[hp]at hp';cases hp'
  | kids hp' hk =>
   rw[hp]at hp';cases hp';exact Qil H (Qyw hp) (Qsk hx) h0 h1 (fun p hm=>Qkr (hx.le (by omega)) hm) (fun p hm=>Qkr (hy.le (by omega)) hm) hk
 have RN:¬ (x.k=5\/y.k=5) ->¬ (x.k=13\/y.k=13) ->¬ Qga x y ->o=some (false,f):=fun hn hn2 hd=>by
  have hp:prs x y=none:=by unfold prs;rw[if_neg hn,if_neg hn2,if_neg hd]
  cases hr with
  | mis _=>rfl
  | kids hp' _=>rw[hp]at hp';cases hp'
 clear hr;have hkx:=hx.1.kl;have hky:=hy.1.kl;unfold Qga at RA RN;generalize Qaq 5 x=p5 at px5 R5;generalize Qaq 5 y=q5 at py5 R5;generalize Qaq 13 x=p13 at px13 R13;generalize Qaq 13 y=q13 at py13 R13;generalize Qak x=m1 at mx RA;generalize Qak y=m2 at my RA;generalize Qfl x.ls y.ls=sl at eqf RA RN;have hEx:=Qb x;have hEy:=Qb y;rw[hEx]at px5 px13 mx;rw[hEy]at py5 py13 my;unfold Ts at px5 py5 px13 py13 mx my R5 R13 RA;unfold Wy Cs at R5 R13 RA;unfold Wy Cs;rw[hEx,hEy];clear hEx hEy hx hy hdx hdy H;refine eN Tryz.func191 rfl (by decide) rfl rfl ?_;(refine sI fun K Z=>?_;(repeat rw[Qa];simp);refine Z ?_;clear Z K);refine Qc fun K1 hK1=>?_
 (refine sI fun K Z=>?_;(repeat rw[Qa];simp);refine Z ?_;clear Z K);refine Xm Wa Qf (ti:=3) (tk:=12) (tn:=11) (td:=13) (ts:=34) [6,8,12,13,14,15,16,17,18,19,20,21,22,23,24,25,26,27,28,29,30,31,32,33,34] [] (2) (fun k ys hl=>ys= []/\(1<=k ->¬ (x.k=5\/y.k=5))/\(2<=k ->¬ (x.k=13\/y.k=13))/\hl= [.cells 181 [.int .i64 f, .slice (l.map Qbj) .any], .cells 27 [.int .i64 x.k, .int .i64 x.n, .int .i64 x.a, .slice (x.ls.map Qn) .any, .slice (x.ks.map Qj) .any], .cells 27 [.int .i64 y.k, .int .i64 y.n, .int .i64 y.a, .slice (y.ls.map Qn) .any, .slice (y.ks.map Qj) .any]]) rfl rfl rfl rfl rfl rfl rfl rfl rfl rfl rfl rfl (by simp) (by decide) rfl (by first | assumption | omega | (unfold Ql;omega)) rfl (by kernel_rfl) (by decide) ?_ ?_ ?_
 ·exact⟨rfl,fun h=>absurd h (by omega),fun h=>absurd h (by omega),rfl⟩
 ·rintro i ys hl A hi ⟨rfl,hk1,hk2,rfl⟩ hA hA2;simp only[Qh,List.set,List.map_cons,List.map_nil,List.cons_append,List.nil_append];obtain rfl | rfl:i=0\/i=1:=by omega
  ·(refine sI fun K Z=>?_;(repeat rw[Qa];simp);refine Z ?_;clear Z K);by_cases g1:x.k=5
   ·have hd:x.k=5\/y.k=5:= .inl g1;have hal:=R5 hd;rw[g1]at px5;(refine sI fun K Z=>?_;(repeat rw[Qa];simp[g1]);refine Z ?_;clear Z K);refine pT rfl ?_;cases o with
    | none =>
     rw[Xv]at hal;unfold Xx at hal;(refine Qc fun K hK=>?_;refine dR fun KT hKT=>?_;(repeat rw[Qd];simp));refine cYp (px5) ?_;(try simp only[zq]);(repeat rw[Qd];simp);refine cYp (py5) ?_;(try simp only[zq]);(repeat rw[Qd];simp);refine cYo [0] true false (hal) (fun o h e=>e) ?_;simp[zU];((try simp only[Qt,Qu,Qr,Qw,Wi]);(repeat(refine Wr _ _ _ _ (by kernel_rfl) ?_;simp only[Qr,List.set,List.nil_append,List.cons_append,Nat.reduceAdd]));(try simp only[Qm]));(refine hKT _ _ _ _ (by kernel_rfl) ?_;clear hKT KT);simp[Xi];rw[Xv];unfold Xx;((try simp only[zs]);refine Qk.pan (.inr ⟨[],by decide,by simp,?_⟩);simp[zM])
    | some v =>
     obtain⟨b,g⟩:=v;rw[Xj]at hal;unfold Wy Cs at hal;(refine Qc fun K hK=>?_;refine dR fun KT hKT=>?_;(repeat rw[Qd];simp));refine cYp (px5) ?_;(try simp only[zq]);(repeat rw[Qd];simp);refine cYp (py5) ?_;(try simp only[zq]);(repeat rw[Qd];simp);refine cYo [0] true true (hal) (fun o h e=>e) ?_;simp[zU];(try simp only[zq]);(repeat rw[Qd];simp);(refine hKT _ _ _ _ (by kernel_rfl) ?_;clear hKT KT);(refine hK _ _ _ ?_;clear hK K);rw[Xj];unfold Wy Cs;(refine Qe ?_;(try simp only[zs]);refine Qk.ret rfl (.inr ⟨[],by decide,by simp,?_⟩);simp[zM])
   by_cases g2:y.k=5
   ·have hd:x.k=5\/y.k=5:= .inr g2;have hal:=R5 hd;rw[g2]at py5;(refine sI fun K Z=>?_;(repeat rw[Qa];simp[g1,g2]);refine Z ?_;clear Z K);refine pT rfl ?_;cases o with
    | none =>
     rw[Xv]at hal;unfold Xx at hal;(refine Qc fun K hK=>?_;refine dR fun KT hKT=>?_;(repeat rw[Qd];simp));refine cYp (px5) ?_;(try simp only[zq]);(repeat rw[Qd];simp);refine cYp (py5) ?_;(try simp only[zq]);(repeat rw[Qd];simp);refine cYo [0] true false (hal) (fun o h e=>e) ?_;simp[zU];((try simp only[Qt,Qu,Qr,Qw,Wi]);(repeat(refine Wr _ _ _ _ (by kernel_rfl) ?_;simp only[Qr,List.set,List.nil_append,List.cons_append,Nat.reduceAdd]));(try simp only[Qm]));(refine hKT _ _ _ _ (by kernel_rfl) ?_;clear hKT KT);simp[Xi];rw[Xv];unfold Xx;((try simp only[zs]);refine Qk.pan (.inr ⟨[],by decide,by simp,?_⟩);simp[zM])
    | some v =>
     obtain⟨b,g⟩:=v;rw[Xj]at hal;unfold Wy Cs at hal;(refine Qc fun K hK=>?_;refine dR fun KT hKT=>?_;(repeat rw[Qd];simp));refine cYp (px5) ?_;(try simp only[zq]);(repeat rw[Qd];simp);refine cYp (py5) ?_;(try simp only[zq]);(repeat rw[Qd];simp);refine cYo [0] true true (hal) (fun o h e=>e) ?_;simp[zU];(try simp only[zq]);(repeat rw[Qd];simp);(refine hKT _ _ _ _ (by kernel_rfl) ?_;clear hKT KT);(refine hK _ _ _ ?_;clear hK K);rw[Xj];unfold Wy Cs;(refine Qe ?_;(try simp only[zs]);refine Qk.ret rfl (.inr ⟨[],by decide,by simp,?_⟩);simp[zM])
   (refine sI fun K Z=>?_;(repeat rw[Qa];simp[g1,g2]);refine Z ?_;clear Z K);refine pF rfl ?_;refine Qg ?_;(refine hA2 ([1,2]) _ _ _ (LeT.refl _) (by decide) (by simp) (by simp[zM,Qh]) ?_ rfl;simp[zM]);exact⟨fun _=>by omega,fun h=>absurd h (by omega)⟩
  ·have hn5:=hk1 (Nat.le_refl _);(refine sI fun K Z=>?_;(repeat rw[Qa];simp);refine Z ?_;clear Z K);by_cases g1:x.k=13
   ·have hd:x.k=13\/y.k=13:= .inl g1;have hal:=R13 hn5 hd;rw[g1]at px13;(refine sI fun K Z=>?_;(repeat rw[Qa];simp[g1]);refine Z ?_;clear Z K);refine pT rfl ?_;cases o with
    | none =>
     rw[Xv]at hal;unfold Xx at hal;(refine Qc fun K hK=>?_;refine dR fun KT hKT=>?_;(repeat rw[Qd];simp));refine cYp (px13) ?_;(try simp only[zq]);(repeat rw[Qd];simp);refine cYp (py13) ?_;(try simp only[zq]);(repeat rw[Qd];simp);refine cYo [0] true false (hal) (fun o h e=>e) ?_;simp[zU];((try simp only[Qt,Qu,Qr,Qw,Wi]);(repeat(refine Wr _ _ _ _ (by kernel_rfl) ?_;simp only[Qr,List.set,List.nil_append,List.cons_append,Nat.reduceAdd]));(try simp only[Qm]));(refine hKT _ _ _ _ (by kernel_rfl) ?_;clear hKT KT);simp[Xi];rw[Xv];unfold Xx;((try simp only[zs]);refine Qk.pan (.inr ⟨[],by decide,by simp,?_⟩);simp[zM])
    | some v =>
     obtain⟨b,g⟩:=v;rw[Xj]at hal;unfold Wy Cs at hal;(refine Qc fun K hK=>?_;refine dR fun KT hKT=>?_;(repeat rw[Qd];simp));refine cYp (px13) ?_;(try simp only[zq]);(repeat rw[Qd];simp);refine cYp (py13) ?_;(try simp only[zq]);(repeat rw[Qd];simp);refine cYo [0] true true (hal) (fun o h e=>e) ?_;simp[zU];(try simp only[zq]);(repeat rw[Qd];simp);(refine hKT _ _ _ _ (by kernel_rfl) ?_;clear hKT KT);(refine hK _ _ _ ?_;clear hK K);rw[Xj];unfold Wy Cs;(refine Qe ?_;(try simp only[zs]);refine Qk.ret rfl (.inr ⟨[],by decide,by simp,?_⟩);simp[zM])
   by_cases g2:y.k=13
   ·have hd:x.k=13\/y.k=13:= .inr g2;have hal:=R13 hn5 hd;rw[g2]at py13;(refine sI fun K Z=>?_;(repeat rw[Qa];simp[g1,g2]);refine Z ?_;clear Z K);refine pT rfl ?_;cases o with
    | none =>
     rw[Xv]at hal;unfold Xx at hal;(refine Qc fun K hK=>?_;refine dR fun KT hKT=>?_;(repeat rw[Qd];simp));refine cYp (px13) ?_;(try simp only[zq]);(repeat rw[Qd];simp);refine cYp (py13) ?_;(try simp only[zq]);(repeat rw[Qd];simp);refine cYo [0] true false (hal) (fun o h e=>e) ?_;simp[zU];((try simp only[Qt,Qu,Qr,Qw,Wi]);(repeat(refine Wr _ _ _ _ (by kernel_rfl) ?_;simp only[Qr,List.set,List.nil_append,List.cons_append,Nat.reduceAdd]));(try simp only[Qm]));(refine hKT _ _ _ _ (by kernel_rfl) ?_;clear hKT KT);simp[Xi];rw[Xv];unfold Xx;((try simp only[zs]);refine Qk.pan (.inr ⟨[],by decide,by simp,?_⟩);simp[zM])
    | some v =>
     obtain⟨b,g⟩:=v;rw[Xj]at hal;unfold Wy Cs at hal;(refine Qc fun K hK=>?_;refine dR fun KT hKT=>?_;(repeat rw[Qd];simp));refine cYp (px13) ?_;(try simp only[zq]);(repeat rw[Qd];simp);refine cYp (py13) ?_;(try simp only[zq]);(repeat rw[Qd];simp);refine cYo [0] true true (hal) (fun o h e=>e) ?_;simp[zU];(try simp only[zq]);(repeat rw[Qd];simp);(refine hKT _ _ _ _ (by kernel_rfl) ?_;clear hKT KT);(refine hK _ _ _ ?_;clear hK K);rw[Xj];unfold Wy Cs;(refine Qe ?_;(try simp only[zs]);refine Qk.ret rfl (.inr ⟨[],by decide,by simp,?_⟩);simp[zM])
   (refine sI fun K Z=>?_;(repeat rw[Qa];simp[g1,g2]);refine Z ?_;clear Z K);refine pF rfl ?_;refine Qg ?_;(refine hA2 ([1,2]) _ _ _ (LeT.refl _) (by decide) (by simp) (by simp[zM,Qh]) ?_ rfl;simp[zM]);exact⟨by omega,by omega⟩
 ·rintro ys hl tl' ⟨rfl,hk1,hk2,rfl⟩ htl;refine hK1 _ _ _ (Xo htl ?_);clear hK1 K1 px5 py5 px13 py13 R5 R13;have RA:=RA (hk1 (by omega)) (hk2 (by omega));have RN:=RN (hk1 (by omega)) (hk2 (by omega));clear hk1 hk2;simp only[Qh,List.set,List.map_cons,List.map_nil,List.cons_append,List.nil_append];by_cases e1:x.k=y.k
  rotate_left
  ·rw[RN fun h=>by exact e1 h.1,Xj];unfold Wy Cs;(refine sI fun K Z=>?_;(repeat rw[Qa];simp[e1]);refine Z ?_;clear Z K);(refine Qc fun K hK=>?_;refine dR fun KT hKT=>?_;(repeat rw[Qd];simp));(refine hKT _ _ _ _ (by kernel_rfl) ?_;clear hKT KT);(refine hK _ _ _ ?_;clear hK K);(refine Qe ?_;(try simp only[zs]);refine Qk.ret rfl (.inr ⟨[],by decide,by simp,?_⟩);simp[zM])
  by_cases e2:x.n=y.n
  rotate_left
  ·rw[RN fun h=>by exact e2 h.2.1,Xj];unfold Wy Cs;(refine sI fun K Z=>?_;(repeat rw[Qa];simp[e1,e2]);refine Z ?_;clear Z K);(refine Qc fun K hK=>?_;refine dR fun KT hKT=>?_;(repeat rw[Qd];simp));(refine hKT _ _ _ _ (by kernel_rfl) ?_;clear hKT KT);(refine hK _ _ _ ?_;clear hK K);(refine Qe ?_;(try simp only[zs]);refine Qk.ret rfl (.inr ⟨[],by decide,by simp,?_⟩);simp[zM])
  by_cases e3:x.a=y.a
  rotate_left
  ·rw[RN fun h=>by exact e3 h.2.2.1,Xj];unfold Wy Cs;(refine sI fun K Z=>?_;(repeat rw[Qa];simp[e1,e2,e3]);refine Z ?_;clear Z K);(refine Qc fun K hK=>?_;refine dR fun KT hKT=>?_;(repeat rw[Qd];simp));(refine hKT _ _ _ _ (by kernel_rfl) ?_;clear hKT KT);(refine hK _ _ _ ?_;clear hK K);(refine Qe ?_;(try simp only[zs]);refine Qk.ret rfl (.inr ⟨[],by decide,by simp,?_⟩);simp[zM])
  by_cases e4:x.ks.length=y.ks.length
  rotate_left
  ·have e4':¬ (x.ks.length:Int)=y.ks.length:=by omega
   rw[RN fun h=>by exact e4 h.2.2.2.1,Xj];unfold Wy Cs;(refine sI fun K Z=>?_;(repeat rw[Qa];simp[e1,e2,e3,e4']);refine Z ?_;clear Z K);(refine Qc fun K hK=>?_;refine dR fun KT hKT=>?_;(repeat rw[Qd];simp));(refine hKT _ _ _ _ (by kernel_rfl) ?_;clear hKT KT);(refine hK _ _ _ ?_;clear hK K);(refine Qe ?_;(try simp only[zs]);refine Qk.ret rfl (.inr ⟨[],by decide,by simp,?_⟩);simp[zM])
  have e4':(x.ks.length:Int)=y.ks.length:=by omega
  cases sl with
  | false =>
   rw[RN fun h=>by exact absurd h.2.2.2.2 (by decide),Xj];unfold Wy Cs;(refine sR fun K hK=>?_;(repeat rw[Qa];simp[e1,e2,e3,e4']));refine cXr (eqf) ?_
   (repeat rw[Qa];simp)
   (refine hK _ _ _ ?_;clear hK K);(refine Qc fun K hK=>?_;refine dR fun KT hKT=>?_;(repeat rw[Qd];simp));(refine hKT _ _ _ _ (by kernel_rfl) ?_;clear hKT KT);(refine hK _ _ _ ?_;clear hK K);(refine Qe ?_;(try simp only[zs]);refine Qk.ret rfl (.inr ⟨[],by decide,by simp,?_⟩);simp[zM])
  | true =>
   have RA:=RA ⟨e1,e2,e3,e4,rfl⟩;rw[e1,e2,e3]at mx;(refine sR fun K hK=>?_;(repeat rw[Qa];simp[e1,e2,e3,e4']));refine cXr (eqf) ?_
   (repeat rw[Qa];simp)
   (refine hK _ _ _ ?_;clear hK K);cases o with
   | none =>
    rw[Xv]at RA;unfold Xx at RA;(refine Qc fun K hK=>?_;refine dR fun KT hKT=>?_;(repeat rw[Qd];simp));refine cYp (mx) ?_;(try simp only[zq]);(repeat rw[Qd];simp);refine cYp (my) ?_;(try simp only[zq]);(repeat rw[Qd];simp);refine cYo [0] true false (RA) (fun o h e=>e) ?_;simp[zU];((try simp only[Qt,Qu,Qr,Qw,Wi]);(repeat(refine Wr _ _ _ _ (by kernel_rfl) ?_;simp only[Qr,List.set,List.nil_append,List.cons_append,Nat.reduceAdd]));(try simp only[Qm]));(refine hKT _ _ _ _ (by kernel_rfl) ?_;clear hKT KT);simp[Xi];rw[Xv];unfold Xx;((try simp only[zs]);refine Qk.pan (.inr ⟨[],by decide,by simp,?_⟩);simp[zM])
   | some v =>
    obtain⟨b,g⟩:=v;rw[Xj]at RA;unfold Wy Cs at RA;(refine Qc fun K hK=>?_;refine dR fun KT hKT=>?_;(repeat rw[Qd];simp));refine cYp (mx) ?_;(try simp only[zq]);(repeat rw[Qd];simp);refine cYp (my) ?_;(try simp only[zq]);(repeat rw[Qd];simp);refine cYo [0] true true (RA) (fun o h e=>e) ?_;simp[zU];(try simp only[zq]);(repeat rw[Qd];simp);(refine hKT _ _ _ _ (by kernel_rfl) ?_;clear hKT KT);(refine hK _ _ _ ?_;clear hK K);rw[Xj];unfold Wy Cs;(refine Qe ?_;(try simp only[zs]);refine Qk.ret rfl (.inr ⟨[],by decide,by simp,?_⟩);simp[zM])
theorem CR.one_cases{l:List C}{h:Nat}{p q:T}{f:Int}{o:Option (Bool×Int)}(H:CR l (h+1) [p] [q] f o) :
  (f=0/\o=none)\/(1<=f/\p.sameB q=true/\o=some (true,f - 1))\/(1<=f/\p.sameB q=false/\((HdO l p (f - 1) none/\o=none) \/
   ∃x f1,HdO l p (f - 1) (some (x,f1))/\((HdO l q f1 none/\o=none)\/∃y f2,HdO l q f1 (some (y,f2))/\HeadsR l h x y f2 o))):=by
 cases H with
 | out=>exact .inl ⟨rfl,rfl⟩
 | same hf hs hr=>cases hr;exact .inr (.inl ⟨hf,hs,rfl⟩)
 | gone1 hf hs h1=>exact .inr (.inr ⟨hf,hs, .inl ⟨h1,rfl⟩⟩)
 | gone2 hf hs h1 h2=>exact .inr (.inr ⟨hf,hs, .inr ⟨_,_,h1, .inl ⟨h2,rfl⟩⟩⟩)
 | mis hf hs h1 h2 hp=>exact .inr (.inr ⟨hf,hs, .inr ⟨_,_,h1, .inr ⟨_,_,h2, .mis hp⟩⟩⟩)
 | kids hf hs h1 h2 hp hk hn=>exact .inr (.inr ⟨hf,hs, .inr ⟨_,_,h1, .inr ⟨_,_,h2, .kids hp hk⟩⟩⟩)
 | yes hf hs h1 h2 hp hk hr=>cases hr;exact .inr (.inr ⟨hf,hs, .inr ⟨_,_,h1, .inr ⟨_,_,h2, .kids hp hk⟩⟩⟩)
theorem okP.head1{l:List C}(hcs:okCs l){f g:Int}{t u:T}(h:okP (f+1) t)(hd:HdO l t f (some (u,g))):okP (g+1) u:=h.head hcs (hd.more (by omega))
set_option maxHeartbeats 4000000 in
theorem Wbn{l:List C}(hcs:okCs l){h:Nat}(H:Qlt l h):Qlt l (h+1):=by
 intro p q f o h0 h1 hp hq hcr;have sm:=Qb8 p q hp.1 hq.1;have hEp:=Qb p;have hEq:=Qb q;rcases hcr.one_cases with ⟨rfl,rfl⟩ | ⟨hf,hs,rfl⟩ | ⟨hf,hs,hrest⟩
 ·have ca:=Wa7 l;rw[Xv];unfold Wy Cs Xx at ca;unfold Wy Cs Xx;rw[hEp,hEq];refine eN Tryz.func136 rfl (by decide) rfl rfl ?_;(refine sI fun K Z=>?_;(repeat rw[Qa];simp);refine Z ?_;clear Z K);(refine sR fun K hK=>?_;(repeat rw[Qa];simp));refine cXo [0] false (ca) ?_;(rintro o hc ⟨rfl,rfl⟩;refine⟨false,?_⟩;simp[zU]);((try simp only[zs]);refine Qk.pan (.inr ⟨[],by decide,by simp,?_⟩);simp[zM])
 ·have ca:=Qfi f l hf (by omega);rw[hs,hEp,hEq]at sm;rw[Xj];unfold Wy Cs at ca⊢;rw[hEp,hEq];refine eN Tryz.func136 rfl (by decide) rfl rfl ?_;(refine sI fun K Z=>?_;(repeat rw[Qa];simp);refine Z ?_;clear Z K);(refine sR fun K hK=>?_;(repeat rw[Qa];simp));refine cXo [0] false (ca) ?_;(rintro o hc ⟨rfl,rfl⟩;refine⟨false,?_⟩;simp[zU]);(try simp only[zr]);(repeat rw[Qa];simp);(refine hK _ _ _ ?_;clear hK K);refine Qc fun K1 hK1=>?_
  (refine sR fun K hK=>?_;(repeat rw[Qa];simp));refine cXr (sm) ?_
  (repeat rw[Qa];simp)
  (refine hK _ _ _ ?_;clear hK K);refine pT rfl ?_;(refine sI fun K Z=>?_;(repeat rw[Qa];simp);refine Z ?_;clear Z K);(refine Qe ?_;(try simp only[zs]);refine Qk.ret rfl (.inr ⟨[],by decide,by simp,?_⟩);simp[zM])
 ·have ca:=Qfi f l hf (by omega);rw[hs,hEp,hEq]at sm;have hp1:okP (f - 1+1) p:=by rw[show f - 1+1=f by omega];exact hp
  have ah1:=fun r h=>Qap (r:=r) hcs (by omega) (by omega) hp.1 (hp.le (show f - 1<=f by omega)).2 h
  rcases hrest with ⟨g1,rfl⟩ | ⟨x,f1,g1,hrest⟩
  ·have ah1:Sp 131 [.box 0 0,Qj p] (Wy (f - 1) l) (fun o hc=>o= .pan Xx/\hc= [.dead]):=ah1 _ g1;rw[Xv];unfold Wy Cs at ca;unfold Wy Cs Xx at ah1;unfold Wy Cs Xx;rw[hEp]at ah1;rw[hEp,hEq];refine eN Tryz.func136 rfl (by decide) rfl rfl ?_;(refine sI fun K Z=>?_;(repeat rw[Qa];simp);refine Z ?_;clear Z K);(refine sR fun K hK=>?_;(repeat rw[Qa];simp));refine cXo [0] false (ca) ?_;(rintro o hc ⟨rfl,rfl⟩;refine⟨false,?_⟩;simp[zU]);(try simp only[zr]);(repeat rw[Qa];simp);(refine hK _ _ _ ?_;clear hK K);refine Qc fun K1 hK1=>?_
   (refine sR fun K hK=>?_;(repeat rw[Qa];simp));refine cXr (sm) ?_
   (repeat rw[Qa];simp)
   (refine hK _ _ _ ?_;clear hK K);refine pF rfl ?_;refine Qg (hK1 _ _ _ ?_);(refine sR fun K hK=>?_;(repeat rw[Qa];simp));refine cXo [0] false (ah1) ?_;(rintro o hc ⟨rfl,rfl⟩;refine⟨false,?_⟩;simp[zU]);((try simp only[zs]);refine Qk.pan (.inr ⟨[],by decide,by simp,?_⟩);simp[zM])
  have l1:=g1.le;have hx1:=hp1.head1 hcs g1;have ah1:Sp 131 [.box 0 0,Qj p] (Wy (f - 1) l) (fun o hc=>o.fgt= .ret (Qj x)/\hc=Wy f1 l):=ah1 _ g1;have hq1:=hq.le (show f1+1<=f by omega);have ah2:=fun r h=>Qap (r:=r) hcs l1.1 (by omega) hq.1 (hq.le (show f1<=f by omega)).2 h
  have hEx:=Qb x;unfold Wy Cs at ca;unfold Wy Cs at ah1;rw[hEp,hEx]at ah1;rcases hrest with ⟨g2,rfl⟩ | ⟨y,f2,g2,hR⟩
  ·have ah2:Sp 131 [.box 0 0,Qj q] (Wy f1 l) (fun o hc=>o= .pan Xx/\hc= [.dead]):=ah2 _ g2;rw[Xv];unfold Wy Cs Xx at ah2;unfold Wy Cs Xx;rw[hEq]at ah2;rw[hEp,hEq];refine eN Tryz.func136 rfl (by decide) rfl rfl ?_;(refine sI fun K Z=>?_;(repeat rw[Qa];simp);refine Z ?_;clear Z K);(refine sR fun K hK=>?_;(repeat rw[Qa];simp));refine cXo [0] false (ca) ?_;(rintro o hc ⟨rfl,rfl⟩;refine⟨false,?_⟩;simp[zU]);(try simp only[zr]);(repeat rw[Qa];simp);(refine hK _ _ _ ?_;clear hK K);refine Qc fun K1 hK1=>?_
   (refine sR fun K hK=>?_;(repeat rw[Qa];simp));refine cXr (sm) ?_
   (repeat rw[Qa];simp)
   (refine hK _ _ _ ?_;clear hK K);refine pF rfl ?_;refine Qg (hK1 _ _ _ ?_);(refine sR fun K hK=>?_;(repeat rw[Qa];simp));refine cXf [0] (ah1) ?_;simp[zU]
   (repeat rw[Qa];simp)
   (refine hK _ _ _ ?_;clear hK K);(refine Qc fun K hK=>?_;refine dR fun KT hKT=>?_;(repeat rw[Qd];simp));refine cYo [0] true false (ah2) (fun o h e=>e) ?_;simp[zU];((try simp only[Qt,Qu,Qr,Qw,Wi]);(repeat(refine Wr _ _ _ _ (by kernel_rfl) ?_;simp only[Qr,List.set,List.nil_append,List.cons_append,Nat.reduceAdd]));(try simp only[Qm]));(refine hKT _ _ _ _ (by kernel_rfl) ?_;clear hKT KT);simp[Xi];((try simp only[zs]);refine Qk.pan (.inr ⟨[],by decide,by simp,?_⟩);simp[zM])
  have l2:=g2.le;have hy1:=hq1.head1 hcs g2;have ah2:Sp 131 [.box 0 0,Qj q] (Wy f1 l) (fun o hc=>o.fgt= .ret (Qj y)/\hc=Wy f2 l):=ah2 _ g2;have hh:=Qw1 H l2.1 (by omega) (hx1.le (by omega)) hy1 hR;have hEy:=Qb y;unfold Wy Cs at ah2;rw[hEq,hEy]at ah2;rw[hEx,hEy]at hh;clear hR;cases o with
  | none =>
   rw[Xv]at hh⊢;unfold Wy Cs Xx at hh;unfold Wy Cs Xx;rw[hEp,hEq];refine eN Tryz.func136 rfl (by decide) rfl rfl ?_;(refine sI fun K Z=>?_;(repeat rw[Qa];simp);refine Z ?_;clear Z K);(refine sR fun K hK=>?_;(repeat rw[Qa];simp));refine cXo [0] false (ca) ?_;(rintro o hc ⟨rfl,rfl⟩;refine⟨false,?_⟩;simp[zU]);(try simp only[zr]);(repeat rw[Qa];simp);(refine hK _ _ _ ?_;clear hK K);refine Qc fun K1 hK1=>?_
   (refine sR fun K hK=>?_;(repeat rw[Qa];simp));refine cXr (sm) ?_
   (repeat rw[Qa];simp)
   (refine hK _ _ _ ?_;clear hK K);refine pF rfl ?_;refine Qg (hK1 _ _ _ ?_);(refine sR fun K hK=>?_;(repeat rw[Qa];simp));refine cXf [0] (ah1) ?_;simp[zU]
   (repeat rw[Qa];simp)
   (refine hK _ _ _ ?_;clear hK K);(refine Qc fun K hK=>?_;refine dR fun KT hKT=>?_;(repeat rw[Qd];simp));refine cYo [0] true true (ah2) (fun o h e=>e) ?_;simp[zU];(try simp only[zq]);(repeat rw[Qd];simp);refine cYo [0] true false (hh) (fun o h e=>e) ?_;simp[zU];((try simp only[Qt,Qu,Qr,Qw,Wi]);(repeat(refine Wr _ _ _ _ (by kernel_rfl) ?_;simp only[Qr,List.set,List.nil_append,List.cons_append,Nat.reduceAdd]));(try simp only[Qm]));(refine hKT _ _ _ _ (by kernel_rfl) ?_;clear hKT KT);simp[Xi];((try simp only[zs]);refine Qk.pan (.inr ⟨[],by decide,by simp,?_⟩);simp[zM])
  | some v =>
   obtain⟨b,g⟩:=v;rw[Xj]at hh⊢;unfold Wy Cs at hh⊢;rw[hEp,hEq];refine eN Tryz.func136 rfl (by decide) rfl rfl ?_;(refine sI fun K Z=>?_;(repeat rw[Qa];simp);refine Z ?_;clear Z K);(refine sR fun K hK=>?_;(repeat rw[Qa];simp));refine cXo [0] false (ca) ?_;(rintro o hc ⟨rfl,rfl⟩;refine⟨false,?_⟩;simp[zU]);(try simp only[zr]);(repeat rw[Qa];simp);(refine hK _ _ _ ?_;clear hK K);refine Qc fun K1 hK1=>?_
   (refine sR fun K hK=>?_;(repeat rw[Qa];simp));refine cXr (sm) ?_
   (repeat rw[Qa];simp)
   (refine hK _ _ _ ?_;clear hK K);refine pF rfl ?_;refine Qg (hK1 _ _ _ ?_);(refine sR fun K hK=>?_;(repeat rw[Qa];simp));refine cXf [0] (ah1) ?_;simp[zU]
   (repeat rw[Qa];simp)
   (refine hK _ _ _ ?_;clear hK K);(refine Qc fun K hK=>?_;refine dR fun KT hKT=>?_;(repeat rw[Qd];simp));refine cYo [0] true true (ah2) (fun o h e=>e) ?_;simp[zU];(try simp only[zq]);(repeat rw[Qd];simp);refine cYo [0] true true (hh) (fun o h e=>e) ?_;simp[zU];(try simp only[zq]);(repeat rw[Qd];simp);(refine hKT _ _ _ _ (by kernel_rfl) ?_;clear hKT KT);(refine hK _ _ _ ?_;clear hK K);(refine Qe ?_;(try simp only[zs]);refine Qk.ret rfl (.inr ⟨[],by decide,by simp,?_⟩);simp[zM])
theorem Qkl{l:List C}(hcs:okCs l):∀h,Qlt l h
 | 0=>fun p q f o _ _ _ _ hcr=>by cases hcr
 | h+1=>Wbn hcs (Qkl hcs h)
theorem Qc4(k:Int)(x y:T):Sp 132 [.int .i64 k, .ref (Qj x), .ref (Qj y)] [] (rt (.bool (decide (x.k=k) && decide (y.k=k)))):=by
 rw[Qb x,Qb y];by_cases h1:x.k=k
 ·by_cases h2:y.k=k
  ·refine eN Tryz.func132 rfl (by decide) rfl rfl ?_;(refine sI fun K Z=>?_;(repeat rw[Qa];simp);refine Z ?_;clear Z K);(refine sI fun K Z=>?_;(repeat rw[Qa];simp[h1,h2]);refine Z ?_;clear Z K);(refine Qe ?_;(try simp only[zs]);refine Qk.ret rfl (.inl ?_);simp[zM]);simp[h1,h2]
  ·refine eN Tryz.func132 rfl (by decide) rfl rfl ?_;(refine sI fun K Z=>?_;(repeat rw[Qa];simp);refine Z ?_;clear Z K);(refine sI fun K Z=>?_;(repeat rw[Qa];simp[h1,h2]);refine Z ?_;clear Z K);(refine Qe ?_;(try simp only[zs]);refine Qk.ret rfl (.inl ?_);simp[zM]);simp[h1,h2]
 ·refine eN Tryz.func132 rfl (by decide) rfl rfl ?_;(refine sI fun K Z=>?_;(repeat rw[Qa];simp);refine Z ?_;clear Z K);(refine sI fun K Z=>?_;(repeat rw[Qa];simp[h1]);refine Z ?_;clear Z K);(refine Qe ?_;(try simp only[zs]);refine Qk.ret rfl (.inl ?_);simp[zM]);simp[h1]
set_option maxHeartbeats 8000000 in
theorem Qzg{l:List C}(hcs:okCs l){h:Nat}{p q:T}{f:Int}{o:Option (Bool×Int)}(L:LR l h p q f o):0<=f ->f<=1073741824 ->okP f p ->okP f q ->Sp 82 [.box 0 0,Qj p,Qj q] (Wy f l) (Qvh l o):=by
 induction L with
 | @out p q =>
  intro h0 h1 hp hq;have ca:=Wa7 l;rw[Xv];unfold Wy Cs Xx at ca;unfold Wy Cs Xx;rw[Qb p,Qb q];refine eN Tryz.func82 rfl (by decide) rfl rfl ?_;(refine sI fun K Z=>?_;(repeat rw[Qa];simp);refine Z ?_;clear Z K);(refine sR fun K hK=>?_;(repeat rw[Qa];simp));refine cXo [0] false (ca) ?_;(rintro o hc ⟨rfl,rfl⟩;refine⟨false,?_⟩;simp[zU]);((try simp only[zs]);refine Qk.pan (.inr ⟨[],by decide,by simp,?_⟩);simp[zM])
 | @same p q f hf hs =>
  intro h0 h1 hp hq;have ca:=Qfi f l hf (by omega);have sm:=Qb8 p q hp.1 hq.1;rw[hs,Qb p,Qb q]at sm;rw[Xj];unfold Wy Cs at ca⊢;rw[Qb p,Qb q];refine eN Tryz.func82 rfl (by decide) rfl rfl ?_;(refine sI fun K Z=>?_;(repeat rw[Qa];simp);refine Z ?_;clear Z K);(refine sR fun K hK=>?_;(repeat rw[Qa];simp));refine cXo [0] false (ca) ?_;(rintro o hc ⟨rfl,rfl⟩;refine⟨false,?_⟩;simp[zU]);(try simp only[zr]);(repeat rw[Qa];simp);(refine hK _ _ _ ?_;clear hK K);refine Qc fun K1 hK1=>?_
  (refine sR fun K hK=>?_;(repeat rw[Qa];simp));refine cXr (sm) ?_
  (repeat rw[Qa];simp)
  (refine hK _ _ _ ?_;clear hK K);refine pT rfl ?_;(refine sI fun K Z=>?_;(repeat rw[Qa];simp);refine Z ?_;clear Z K);(refine Qe ?_;(try simp only[zs]);refine Qk.ret rfl (.inr ⟨[],by decide,by simp,?_⟩);simp[zM])
 | @gone1 p q f hf hs g1 =>
  intro h0 h1 hp hq;have ca:=Qfi f l hf (by omega);have sm:=Qb8 p q hp.1 hq.1;rw[hs,Qb p,Qb q]at sm;have ah1:Sp 131 [.box 0 0,Qj p] (Wy (f - 1) l) (fun o hc=>o= .pan Xx/\hc= [.dead]):=Qap hcs (by omega) (by omega) hp.1 (hp.le (show f - 1<=f by omega)).2 g1;rw[Xv];unfold Wy Cs at ca;unfold Wy Cs Xx at ah1;unfold Wy Cs Xx;rw[Qb p]at ah1;rw[Qb p,Qb q];refine eN Tryz.func82 rfl (by decide) rfl rfl ?_;(refine sI fun K Z=>?_;(repeat rw[Qa];simp);refine Z ?_;clear Z K);(refine sR fun K hK=>?_;(repeat rw[Qa];simp));refine cXo [0] false (ca) ?_;(rintro o hc ⟨rfl,rfl⟩;refine⟨false,?_⟩;simp[zU]);(try simp only[zr]);(repeat rw[Qa];simp);(refine hK _ _ _ ?_;clear hK K);refine Qc fun K1 hK1=>?_
  (refine sR fun K hK=>?_;(repeat rw[Qa];simp));refine cXr (sm) ?_
  (repeat rw[Qa];simp)
  (refine hK _ _ _ ?_;clear hK K);refine pF rfl ?_;refine Qg (hK1 _ _ _ ?_);clear hK1 K1 sm;(refine sR fun K hK=>?_;(repeat rw[Qa];simp));refine cXo [0] false (ah1) ?_;(rintro o hc ⟨rfl,rfl⟩;refine⟨false,?_⟩;simp[zU]);((try simp only[zs]);refine Qk.pan (.inr ⟨[],by decide,by simp,?_⟩);simp[zM])
 | @gone2 p q x f f1 hf hs g1 g2 =>
  intro h0 h1 hp hq;have ca:=Qfi f l hf (by omega);have sm:=Qb8 p q hp.1 hq.1;rw[hs,Qb p,Qb q]at sm;have l1:=g1.le;have ah1:Sp 131 [.box 0 0,Qj p] (Wy (f - 1) l) (fun o hc=>o.fgt= .ret (Qj x)/\hc=Wy f1 l):=Qap hcs (by omega) (by omega) hp.1 (hp.le (show f - 1<=f by omega)).2 g1;have ah2:Sp 131 [.box 0 0,Qj q] (Wy f1 l) (fun o hc=>o= .pan Xx/\hc= [.dead]):=Qap hcs l1.1 (by omega) hq.1 (hq.le (show f1<=f by omega)).2 g2;rw[Xv];unfold Wy Cs at ca;unfold Wy Cs at ah1;unfold Wy Cs Xx at ah2;unfold Wy Cs Xx;rw[Qb p,Qb x]at ah1;rw[Qb q]at ah2;rw[Qb p,Qb q];refine eN Tryz.func82 rfl (by decide) rfl rfl ?_;(refine sI fun K Z=>?_;(repeat rw[Qa];simp);refine Z ?_;clear Z K);(refine sR fun K hK=>?_;(repeat rw[Qa];simp));refine cXo [0] false (ca) ?_;(rintro o hc ⟨rfl,rfl⟩;refine⟨false,?_⟩;simp[zU]);(try simp only[zr]);(repeat rw[Qa];simp);(refine hK _ _ _ ?_;clear hK K);refine Qc fun K1 hK1=>?_
  (refine sR fun K hK=>?_;(repeat rw[Qa];simp));refine cXr (sm) ?_
  (repeat rw[Qa];simp)
  (refine hK _ _ _ ?_;clear hK K);refine pF rfl ?_;refine Qg (hK1 _ _ _ ?_);clear hK1 K1 sm;(refine sR fun K hK=>?_;(repeat rw[Qa];simp));refine cXf [0] (ah1) ?_;simp[zU]
  (repeat rw[Qa];simp)
  (refine hK _ _ _ ?_;clear hK K);(refine sR fun K hK=>?_;(repeat rw[Qa];simp));refine cXo [0] false (ah2) ?_;(rintro o hc ⟨rfl,rfl⟩;refine⟨false,?_⟩;simp[zU]);((try simp only[zs]);refine Qk.pan (.inr ⟨[],by decide,by simp,?_⟩);simp[zM])
 | @sort p q x y a b f f1 f2 hf hs g1 g2 hx hy =>
  intro h0 h1 hp hq;have ca:=Qfi f l hf (by omega);have sm:=Qb8 p q hp.1 hq.1;rw[hs,Qb p,Qb q]at sm;have l1:=g1.le;have l2:=g2.le;have ah1:Sp 131 [.box 0 0,Qj p] (Wy (f - 1) l) (fun o hc=>o.fgt= .ret (Qj x)/\hc=Wy f1 l):=Qap hcs (by omega) (by omega) hp.1 (hp.le (show f - 1<=f by omega)).2 g1;have ah2:Sp 131 [.box 0 0,Qj q] (Wy f1 l) (fun o hc=>o.fgt= .ret (Qj y)/\hc=Wy f2 l):=Qap hcs l1.1 (by omega) hq.1 (hq.le (show f1<=f by omega)).2 g2;have hox:okP f2 x:=((hp.le (show f - 1<=f by omega)).head hcs g1).le l2.2;have hoy:okP f2 y:=(hq.le (show f1<=f by omega)).head hcs g2;have b2:=Qc4 2 x y;have b4:=Qc4 4 x y;have hEx:=Qb x;have hEy:=Qb y;unfold Wy Cs at ca ah1 ah2;rw[Qb p,hEx]at ah1;rw[Qb q,hEy]at ah2;rw[hEx,hEy]at b2 b4;have hal:okL a:=hox.1.ls a (by rw[hx.2];exact List.mem_singleton.2 rfl);have hbl:okL b:=hoy.1.ls b (by rw[hy.2];exact List.mem_singleton.2 rfl);have le:=Wd7 a b hal.1 hbl.1;generalize Qxn a b=v at le⊢;rw[hx.1,hy.1]at b2;simp only[hx.1,hy.1,hx.2,hy.2]at ah1 ah2 b2;simp at b2;have hLa:Qn a= .agg [.slice (a.map Wv) .any]:=rfl;have hLb:Qn b= .agg [.slice (b.map Wv) .any]:=rfl;simp only[List.map_cons,List.map_nil,hLa,hLb]at ah1 ah2 b2;rw[hLa,hLb]at le;rw[Xj];unfold Wy Cs;rw[Qb p,Qb q];refine eN Tryz.func82 rfl (by decide) rfl rfl ?_;(refine sI fun K Z=>?_;(repeat rw[Qa];simp);refine Z ?_;clear Z K);(refine sR fun K hK=>?_;(repeat rw[Qa];simp));refine cXo [0] false (ca) ?_;(rintro o hc ⟨rfl,rfl⟩;refine⟨false,?_⟩;simp[zU]);(try simp only[zr]);(repeat rw[Qa];simp);(refine hK _ _ _ ?_;clear hK K);refine Qc fun K1 hK1=>?_
  (refine sR fun K hK=>?_;(repeat rw[Qa];simp));refine cXr (sm) ?_
  (repeat rw[Qa];simp)
  (refine hK _ _ _ ?_;clear hK K);refine pF rfl ?_;refine Qg (hK1 _ _ _ ?_);clear hK1 K1 sm;(refine sR fun K hK=>?_;(repeat rw[Qa];simp));refine cXf [0] (ah1) ?_;simp[zU]
  (repeat rw[Qa];simp)
  (refine hK _ _ _ ?_;clear hK K);(refine sR fun K hK=>?_;(repeat rw[Qa];simp));refine cXf [0] (ah2) ?_;simp[zU]
  (repeat rw[Qa];simp)
  (refine hK _ _ _ ?_;clear hK K);clear ca ah1 ah2;(refine Xe (T:=Qq) 3 (ty:=27) (ds:= [.int .i64 2, .int .i64 x.n, .int .i64 x.a, .slice [.agg [.slice (a.map Wv) .any]] .any, .slice (x.ks.map Qj) .any]) rfl rfl (by first | exact⟨rfl, .inr ⟨_,rfl,rfl⟩⟩ | exact⟨rfl, .inl rfl⟩) ?_;simp[D.frzs,D.frz,HO.frz,Qam,Qat,TK.isAgg,FK.isB,FK.isM,FK.isO,D.isLen]);(refine Xe (T:=Qq) 4 (ty:=27) (ds:= [.int .i64 2, .int .i64 y.n, .int .i64 y.a, .slice [.agg [.slice (b.map Wv) .any]] .any, .slice (y.ks.map Qj) .any]) rfl rfl (by first | exact⟨rfl, .inr ⟨_,rfl,rfl⟩⟩ | exact⟨rfl, .inl rfl⟩) ?_;simp[D.frzs,D.frz,HO.frz,Qam,Qat,TK.isAgg,FK.isB,FK.isM,FK.isO,D.isLen]);(refine sI fun K Z=>?_;(repeat rw[Qa];simp);refine Z ?_;clear Z K);refine Qc fun K1 hK1=>?_
  refine Wd ?_;(refine sR fun K hK=>?_;(repeat rw[Qa];simp));refine cXr (b2) ?_
  (repeat rw[Qa];simp)
  (refine hK _ _ _ ?_;clear hK K);refine pT rfl ?_;(refine Qc fun K hK=>?_;refine dR fun KT hKT=>?_;(repeat rw[Qd];simp));refine cYp (le) ?_;(try simp only[zq]);(repeat rw[Qd];simp);(refine hKT _ _ _ _ (by kernel_rfl) ?_;clear hKT KT);(refine hK _ _ _ ?_;clear hK K);(refine Qe ?_;(try simp only[zs]);refine Qk.ret rfl (.inr ⟨[],by decide,by simp,?_⟩);simp[zM])
 | @pino p q x y f f1 f2 o hf hs g1 g2 hx hy hk hn =>
  intro h0 h1 hp hq;have ca:=Qfi f l hf (by omega);have sm:=Qb8 p q hp.1 hq.1;rw[hs,Qb p,Qb q]at sm;have l1:=g1.le;have l2:=g2.le;have ah1:Sp 131 [.box 0 0,Qj p] (Wy (f - 1) l) (fun o hc=>o.fgt= .ret (Qj x)/\hc=Wy f1 l):=Qap hcs (by omega) (by omega) hp.1 (hp.le (show f - 1<=f by omega)).2 g1;have ah2:Sp 131 [.box 0 0,Qj q] (Wy f1 l) (fun o hc=>o.fgt= .ret (Qj y)/\hc=Wy f2 l):=Qap hcs l1.1 (by omega) hq.1 (hq.le (show f1<=f by omega)).2 g2;have hox:okP f2 x:=((hp.le (show f - 1<=f by omega)).head hcs g1).le l2.2;have hoy:okP f2 y:=(hq.le (show f1<=f by omega)).head hcs g2;have b2:=Qc4 2 x y;have b4:=Qc4 4 x y;have hEx:=Qb x;have hEy:=Qb y;unfold Wy Cs at ca ah1 ah2;rw[Qb p,hEx]at ah1;rw[Qb q,hEy]at ah2;rw[hEx,hEy]at b2 b4;have k0x:=Qa8 x hox.1 [0] (by unfold Ql;simp) (by simp);have k0y:=Qa8 y hoy.1 [0] (by unfold Ql;simp) (by simp);have k1x:=Qa8 x hox.1 [1] (by unfold Ql;simp) (by simp);have k1y:=Qa8 y hoy.1 [1] (by unfold Ql;simp) (by simp);unfold Qeg Ts at k0x k0y k1x k1y;simp only[List.map_cons,List.map_nil]at k0x k0y k1x k1y;rw[show Qjt x 0=x.kid 0 from rfl]at k0x;rw[show Qjt y 0=y.kid 0 from rfl]at k0y;rw[show Qjt x 1=x.kid 1 from rfl]at k1x;rw[show Qjt y 1=y.kid 1 from rfl]at k1y;have al:=Qil (Qkl hcs h) (ps:= [x.kid 0]) (qs:= [y.kid 0]) rfl (by unfold Ql;simp) l2.1 (by omega) (fun p' hm=>by rw[List.mem_singleton.1 hm];exact⟨Qah hox.1 0,Nat.le_trans (Nat.add_le_add_right (Qbt x 0) _) hox.2⟩) (fun p' hm=>by rw[List.mem_singleton.1 hm];exact⟨Qah hoy.1 0,Nat.le_trans (Nat.add_le_add_right (Qbt y 0) _) hoy.2⟩) hk;unfold Ts at al;simp only[List.map_cons,List.map_nil]at al;rw[hEx]at k0x k1x;rw[hEy]at k0y k1y;simp only[hx,hy]at ah1 ah2 b2 b4 k0x k0y k1x k1y;simp at b2 b4;clear k1x k1y;generalize x.kid 0=kx at k0x al;generalize y.kid 0=ky at k0y al;have hEkx:=Qb kx;have hEky:=Qb ky;rw[hEkx]at k0x al;rw[hEky]at k0y al;clear hk;cases o with
  | none =>
   rw[Xv]at al⊢;unfold Wy Cs Xx at al;unfold Wy Cs Xx;rw[Qb p,Qb q];refine eN Tryz.func82 rfl (by decide) rfl rfl ?_;(refine sI fun K Z=>?_;(repeat rw[Qa];simp);refine Z ?_;clear Z K);(refine sR fun K hK=>?_;(repeat rw[Qa];simp));refine cXo [0] false (ca) ?_;(rintro o hc ⟨rfl,rfl⟩;refine⟨false,?_⟩;simp[zU]);(try simp only[zr]);(repeat rw[Qa];simp);(refine hK _ _ _ ?_;clear hK K);refine Qc fun K1 hK1=>?_
   (refine sR fun K hK=>?_;(repeat rw[Qa];simp));refine cXr (sm) ?_
   (repeat rw[Qa];simp)
   (refine hK _ _ _ ?_;clear hK K);refine pF rfl ?_;refine Qg (hK1 _ _ _ ?_);clear hK1 K1 sm;(refine sR fun K hK=>?_;(repeat rw[Qa];simp));refine cXf [0] (ah1) ?_;simp[zU]
   (repeat rw[Qa];simp)
   (refine hK _ _ _ ?_;clear hK K);(refine sR fun K hK=>?_;(repeat rw[Qa];simp));refine cXf [0] (ah2) ?_;simp[zU]
   (repeat rw[Qa];simp)
   (refine hK _ _ _ ?_;clear hK K);clear ca ah1 ah2;(refine Xe (T:=Qq) 3 (ty:=27) (ds:= [.int .i64 4, .int .i64 x.n, .int .i64 x.a, .slice (x.ls.map Qn) .any, .slice (x.ks.map Qj) .any]) rfl rfl (by first | exact⟨rfl, .inr ⟨_,rfl,rfl⟩⟩ | exact⟨rfl, .inl rfl⟩) ?_;simp[D.frzs,D.frz,HO.frz,Qam,Qat,TK.isAgg,FK.isB,FK.isM,FK.isO,D.isLen]);(refine Xe (T:=Qq) 4 (ty:=27) (ds:= [.int .i64 4, .int .i64 y.n, .int .i64 y.a, .slice (y.ls.map Qn) .any, .slice (y.ks.map Qj) .any]) rfl rfl (by first | exact⟨rfl, .inr ⟨_,rfl,rfl⟩⟩ | exact⟨rfl, .inl rfl⟩) ?_;simp[D.frzs,D.frz,HO.frz,Qam,Qat,TK.isAgg,FK.isB,FK.isM,FK.isO,D.isLen]);(refine sI fun K Z=>?_;(repeat rw[Qa];simp);refine Z ?_;clear Z K);refine Qc fun K1 hK1=>?_
   refine Wd ?_;(refine sR fun K hK=>?_;(repeat rw[Qa];simp));refine cXr (b2) ?_
   (repeat rw[Qa];simp)
   (refine hK _ _ _ ?_;clear hK K);refine pF rfl ?_;(refine sR fun K hK=>?_;(repeat rw[Qa];simp));refine cXr (b4) ?_
   (repeat rw[Qa];simp)
   (refine hK _ _ _ ?_;clear hK K);refine pT rfl ?_;refine Qc fun K2 hK2=>?_
   (refine Qc fun K hK=>?_;refine dR fun KT hKT=>?_;(repeat rw[Qd];simp));refine cYp (k0x) ?_;(try simp only[zq]);(repeat rw[Qd];simp);refine cYp (k0y) ?_;(try simp only[zq]);(repeat rw[Qd];simp);refine cYo [0] true false (al) (fun o h e=>e) ?_;simp[zU];((try simp only[Qt,Qu,Qr,Qw,Wi]);(repeat(refine Wr _ _ _ _ (by kernel_rfl) ?_;simp only[Qr,List.set,List.nil_append,List.cons_append,Nat.reduceAdd]));(try simp only[Qm]));(refine hKT _ _ _ _ (by kernel_rfl) ?_;clear hKT KT);simp[Xi];((try simp only[zs]);refine Qk.pan (.inr ⟨[],by decide,by simp,?_⟩);simp[zM])
  | some v =>
   obtain⟨b,g⟩:=v;cases b with
   | true=>exact absurd rfl (hn g)
   | false =>
   rw[Xj]at al⊢;unfold Wy Cs at al⊢;rw[Qb p,Qb q];refine eN Tryz.func82 rfl (by decide) rfl rfl ?_;(refine sI fun K Z=>?_;(repeat rw[Qa];simp);refine Z ?_;clear Z K);(refine sR fun K hK=>?_;(repeat rw[Qa];simp));refine cXo [0] false (ca) ?_;(rintro o hc ⟨rfl,rfl⟩;refine⟨false,?_⟩;simp[zU]);(try simp only[zr]);(repeat rw[Qa];simp);(refine hK _ _ _ ?_;clear hK K);refine Qc fun K1 hK1=>?_
   (refine sR fun K hK=>?_;(repeat rw[Qa];simp));refine cXr (sm) ?_
   (repeat rw[Qa];simp)
   (refine hK _ _ _ ?_;clear hK K);refine pF rfl ?_;refine Qg (hK1 _ _ _ ?_);clear hK1 K1 sm;(refine sR fun K hK=>?_;(repeat rw[Qa];simp));refine cXf [0] (ah1) ?_;simp[zU]
   (repeat rw[Qa];simp)
   (refine hK _ _ _ ?_;clear hK K);(refine sR fun K hK=>?_;(repeat rw[Qa];simp));refine cXf [0] (ah2) ?_;simp[zU]
   (repeat rw[Qa];simp)
   (refine hK _ _ _ ?_;clear hK K);clear ca ah1 ah2;(refine Xe (T:=Qq) 3 (ty:=27) (ds:= [.int .i64 4, .int .i64 x.n, .int .i64 x.a, .slice (x.ls.map Qn) .any, .slice (x.ks.map Qj) .any]) rfl rfl (by first | exact⟨rfl, .inr ⟨_,rfl,rfl⟩⟩ | exact⟨rfl, .inl rfl⟩) ?_;simp[D.frzs,D.frz,HO.frz,Qam,Qat,TK.isAgg,FK.isB,FK.isM,FK.isO,D.isLen]);(refine Xe (T:=Qq) 4 (ty:=27) (ds:= [.int .i64 4, .int .i64 y.n, .int .i64 y.a, .slice (y.ls.map Qn) .any, .slice (y.ks.map Qj) .any]) rfl rfl (by first | exact⟨rfl, .inr ⟨_,rfl,rfl⟩⟩ | exact⟨rfl, .inl rfl⟩) ?_;simp[D.frzs,D.frz,HO.frz,Qam,Qat,TK.isAgg,FK.isB,FK.isM,FK.isO,D.isLen]);(refine sI fun K Z=>?_;(repeat rw[Qa];simp);refine Z ?_;clear Z K);refine Qc fun K1 hK1=>?_
   refine Wd ?_;(refine sR fun K hK=>?_;(repeat rw[Qa];simp));refine cXr (b2) ?_
   (repeat rw[Qa];simp)
   (refine hK _ _ _ ?_;clear hK K);refine pF rfl ?_;(refine sR fun K hK=>?_;(repeat rw[Qa];simp));refine cXr (b4) ?_
   (repeat rw[Qa];simp)
   (refine hK _ _ _ ?_;clear hK K);refine pT rfl ?_;refine Qc fun K2 hK2=>?_
   (refine Qc fun K hK=>?_;refine dR fun KT hKT=>?_;(repeat rw[Qd];simp));refine cYp (k0x) ?_;(try simp only[zq]);(repeat rw[Qd];simp);refine cYp (k0y) ?_;(try simp only[zq]);(repeat rw[Qd];simp);refine cYo [0] true true (al) (fun o h e=>e) ?_;simp[zU];(try simp only[zq]);(repeat rw[Qd];simp);(refine hKT _ _ _ _ (by kernel_rfl) ?_;clear hKT KT);(refine hK _ _ _ ?_;clear hK K);refine pT rfl ?_;(refine sI fun K Z=>?_;(repeat rw[Qa];simp);refine Z ?_;clear Z K);(refine Qe ?_;(try simp only[zs]);refine Qk.ret rfl (.inr ⟨[],by decide,by simp,?_⟩);simp[zM])
 | @pi p q x y f f1 f2 g o hf hs g1 g2 hx hy hk hr ih =>
  intro h0 h1 hp hq;have ca:=Qfi f l hf (by omega);have sm:=Qb8 p q hp.1 hq.1;rw[hs,Qb p,Qb q]at sm;have l1:=g1.le;have l2:=g2.le;have ah1:Sp 131 [.box 0 0,Qj p] (Wy (f - 1) l) (fun o hc=>o.fgt= .ret (Qj x)/\hc=Wy f1 l):=Qap hcs (by omega) (by omega) hp.1 (hp.le (show f - 1<=f by omega)).2 g1;have ah2:Sp 131 [.box 0 0,Qj q] (Wy f1 l) (fun o hc=>o.fgt= .ret (Qj y)/\hc=Wy f2 l):=Qap hcs l1.1 (by omega) hq.1 (hq.le (show f1<=f by omega)).2 g2;have hox:okP f2 x:=((hp.le (show f - 1<=f by omega)).head hcs g1).le l2.2;have hoy:okP f2 y:=(hq.le (show f1<=f by omega)).head hcs g2;have b2:=Qc4 2 x y;have b4:=Qc4 4 x y;have hEx:=Qb x;have hEy:=Qb y;unfold Wy Cs at ca ah1 ah2;rw[Qb p,hEx]at ah1;rw[Qb q,hEy]at ah2;rw[hEx,hEy]at b2 b4;have k0x:=Qa8 x hox.1 [0] (by unfold Ql;simp) (by simp);have k0y:=Qa8 y hoy.1 [0] (by unfold Ql;simp) (by simp);have k1x:=Qa8 x hox.1 [1] (by unfold Ql;simp) (by simp);have k1y:=Qa8 y hoy.1 [1] (by unfold Ql;simp) (by simp);unfold Qeg Ts at k0x k0y k1x k1y;simp only[List.map_cons,List.map_nil]at k0x k0y k1x k1y;rw[show Qjt x 0=x.kid 0 from rfl]at k0x;rw[show Qjt y 0=y.kid 0 from rfl]at k0y;rw[show Qjt x 1=x.kid 1 from rfl]at k1x;rw[show Qjt y 1=y.kid 1 from rfl]at k1y;have al:=Qil (Qkl hcs h) (ps:= [x.kid 0]) (qs:= [y.kid 0]) rfl (by unfold Ql;simp) l2.1 (by omega) (fun p' hm=>by rw[List.mem_singleton.1 hm];exact⟨Qah hox.1 0,Nat.le_trans (Nat.add_le_add_right (Qbt x 0) _) hox.2⟩) (fun p' hm=>by rw[List.mem_singleton.1 hm];exact⟨Qah hoy.1 0,Nat.le_trans (Nat.add_le_add_right (Qbt y 0) _) hoy.2⟩) hk;unfold Ts at al;simp only[List.map_cons,List.map_nil]at al;rw[hEx]at k0x k1x;rw[hEy]at k0y k1y;simp only[hx,hy]at ah1 ah2 b2 b4 k0x k0y k1x k1y;simp at b2 b4;have l3:=hk.le l2.1 _ _ rfl;have mo:=ih l3.1 (by omega) (⟨Qah hox.1 1,Nat.le_trans (Nat.add_le_add_right (Qbt x 1) _) (hox.le l3.2).2⟩) (⟨Qah hoy.1 1,Nat.le_trans (Nat.add_le_add_right (Qbt y 1) _) (hoy.le l3.2).2⟩);clear ih hr hk;generalize x.kid 0=kx at k0x al;generalize y.kid 0=ky at k0y al;generalize x.kid 1=mx at k1x mo;generalize y.kid 1=my at k1y mo;have hEkx:=Qb kx;have hEky:=Qb ky;have hEmx:=Qb mx;have hEmy:=Qb my;rw[hEkx]at k0x al;rw[hEky]at k0y al;rw[hEmx]at k1x mo;rw[hEmy]at k1y mo;rw[Xj]at al;unfold Wy Cs at al;cases o with
  | none =>
   rw[Xv]at mo⊢;unfold Wy Cs Xx at mo;unfold Wy Cs Xx;rw[Qb p,Qb q];refine eN Tryz.func82 rfl (by decide) rfl rfl ?_;(refine sI fun K Z=>?_;(repeat rw[Qa];simp);refine Z ?_;clear Z K);(refine sR fun K hK=>?_;(repeat rw[Qa];simp));refine cXo [0] false (ca) ?_;(rintro o hc ⟨rfl,rfl⟩;refine⟨false,?_⟩;simp[zU]);(try simp only[zr]);(repeat rw[Qa];simp);(refine hK _ _ _ ?_;clear hK K);refine Qc fun K1 hK1=>?_
   (refine sR fun K hK=>?_;(repeat rw[Qa];simp));refine cXr (sm) ?_
   (repeat rw[Qa];simp)
   (refine hK _ _ _ ?_;clear hK K);refine pF rfl ?_;refine Qg (hK1 _ _ _ ?_);clear hK1 K1 sm;(refine sR fun K hK=>?_;(repeat rw[Qa];simp));refine cXf [0] (ah1) ?_;simp[zU]
   (repeat rw[Qa];simp)
   (refine hK _ _ _ ?_;clear hK K);(refine sR fun K hK=>?_;(repeat rw[Qa];simp));refine cXf [0] (ah2) ?_;simp[zU]
   (repeat rw[Qa];simp)
   (refine hK _ _ _ ?_;clear hK K);clear ca ah1 ah2;(refine Xe (T:=Qq) 3 (ty:=27) (ds:= [.int .i64 4, .int .i64 x.n, .int .i64 x.a, .slice (x.ls.map Qn) .any, .slice (x.ks.map Qj) .any]) rfl rfl (by first | exact⟨rfl, .inr ⟨_,rfl,rfl⟩⟩ | exact⟨rfl, .inl rfl⟩) ?_;simp[D.frzs,D.frz,HO.frz,Qam,Qat,TK.isAgg,FK.isB,FK.isM,FK.isO,D.isLen]);(refine Xe (T:=Qq) 4 (ty:=27) (ds:= [.int .i64 4, .int .i64 y.n, .int .i64 y.a, .slice (y.ls.map Qn) .any, .slice (y.ks.map Qj) .any]) rfl rfl (by first | exact⟨rfl, .inr ⟨_,rfl,rfl⟩⟩ | exact⟨rfl, .inl rfl⟩) ?_;simp[D.frzs,D.frz,HO.frz,Qam,Qat,TK.isAgg,FK.isB,FK.isM,FK.isO,D.isLen]);(refine sI fun K Z=>?_;(repeat rw[Qa];simp);refine Z ?_;clear Z K);refine Qc fun K1 hK1=>?_
   refine Wd ?_;(refine sR fun K hK=>?_;(repeat rw[Qa];simp));refine cXr (b2) ?_
   (repeat rw[Qa];simp)
   (refine hK _ _ _ ?_;clear hK K);refine pF rfl ?_;(refine sR fun K hK=>?_;(repeat rw[Qa];simp));refine cXr (b4) ?_
   (repeat rw[Qa];simp)
   (refine hK _ _ _ ?_;clear hK K);refine pT rfl ?_;refine Qc fun K2 hK2=>?_
   (refine Qc fun K hK=>?_;refine dR fun KT hKT=>?_;(repeat rw[Qd];simp));refine cYp (k0x) ?_;(try simp only[zq]);(repeat rw[Qd];simp);refine cYp (k0y) ?_;(try simp only[zq]);(repeat rw[Qd];simp);refine cYo [0] true true (al) (fun o h e=>e) ?_;simp[zU];(try simp only[zq]);(repeat rw[Qd];simp);(refine hKT _ _ _ _ (by kernel_rfl) ?_;clear hKT KT);(refine hK _ _ _ ?_;clear hK K);refine pF rfl ?_;refine Qg (hK2 _ _ _ ?_);(refine Qc fun K hK=>?_;refine dR fun KT hKT=>?_;(repeat rw[Qd];simp));refine cYp (k1x) ?_;(try simp only[zq]);(repeat rw[Qd];simp);refine cYp (k1y) ?_;(try simp only[zq]);(repeat rw[Qd];simp);refine cYo [0] true false (mo) (fun o h e=>e) ?_;simp[zU];((try simp only[Qt,Qu,Qr,Qw,Wi]);(repeat(refine Wr _ _ _ _ (by kernel_rfl) ?_;simp only[Qr,List.set,List.nil_append,List.cons_append,Nat.reduceAdd]));(try simp only[Qm]));(refine hKT _ _ _ _ (by kernel_rfl) ?_;clear hKT KT);simp[Xi];((try simp only[zs]);refine Qk.pan (.inr ⟨[],by decide,by simp,?_⟩);simp[zM])
  | some v =>
   obtain⟨b,g'⟩:=v;rw[Xj]at mo⊢;unfold Wy Cs at mo⊢;rw[Qb p,Qb q];refine eN Tryz.func82 rfl (by decide) rfl rfl ?_;(refine sI fun K Z=>?_;(repeat rw[Qa];simp);refine Z ?_;clear Z K);(refine sR fun K hK=>?_;(repeat rw[Qa];simp));refine cXo [0] false (ca) ?_;(rintro o hc ⟨rfl,rfl⟩;refine⟨false,?_⟩;simp[zU]);(try simp only[zr]);(repeat rw[Qa];simp);(refine hK _ _ _ ?_;clear hK K);refine Qc fun K1 hK1=>?_
   (refine sR fun K hK=>?_;(repeat rw[Qa];simp));refine cXr (sm) ?_
   (repeat rw[Qa];simp)
   (refine hK _ _ _ ?_;clear hK K);refine pF rfl ?_;refine Qg (hK1 _ _ _ ?_);clear hK1 K1 sm;(refine sR fun K hK=>?_;(repeat rw[Qa];simp));refine cXf [0] (ah1) ?_;simp[zU]
   (repeat rw[Qa];simp)
   (refine hK _ _ _ ?_;clear hK K);(refine sR fun K hK=>?_;(repeat rw[Qa];simp));refine cXf [0] (ah2) ?_;simp[zU]
   (repeat rw[Qa];simp)
   (refine hK _ _ _ ?_;clear hK K);clear ca ah1 ah2;(refine Xe (T:=Qq) 3 (ty:=27) (ds:= [.int .i64 4, .int .i64 x.n, .int .i64 x.a, .slice (x.ls.map Qn) .any, .slice (x.ks.map Qj) .any]) rfl rfl (by first | exact⟨rfl, .inr ⟨_,rfl,rfl⟩⟩ | exact⟨rfl, .inl rfl⟩) ?_;simp[D.frzs,D.frz,HO.frz,Qam,Qat,TK.isAgg,FK.isB,FK.isM,FK.isO,D.isLen]);(refine Xe (T:=Qq) 4 (ty:=27) (ds:= [.int .i64 4, .int .i64 y.n, .int .i64 y.a, .slice (y.ls.map Qn) .any, .slice (y.ks.map Qj) .any]) rfl rfl (by first | exact⟨rfl, .inr ⟨_,rfl,rfl⟩⟩ | exact⟨rfl, .inl rfl⟩) ?_;simp[D.frzs,D.frz,HO.frz,Qam,Qat,TK.isAgg,FK.isB,FK.isM,FK.isO,D.isLen]);(refine sI fun K Z=>?_;(repeat rw[Qa];simp);refine Z ?_;clear Z K);refine Qc fun K1 hK1=>?_
   refine Wd ?_;(refine sR fun K hK=>?_;(repeat rw[Qa];simp));refine cXr (b2) ?_
   (repeat rw[Qa];simp)
   (refine hK _ _ _ ?_;clear hK K);refine pF rfl ?_;(refine sR fun K hK=>?_;(repeat rw[Qa];simp));refine cXr (b4) ?_
   (repeat rw[Qa];simp)
   (refine hK _ _ _ ?_;clear hK K);refine pT rfl ?_;refine Qc fun K2 hK2=>?_
   (refine Qc fun K hK=>?_;refine dR fun KT hKT=>?_;(repeat rw[Qd];simp));refine cYp (k0x) ?_;(try simp only[zq]);(repeat rw[Qd];simp);refine cYp (k0y) ?_;(try simp only[zq]);(repeat rw[Qd];simp);refine cYo [0] true true (al) (fun o h e=>e) ?_;simp[zU];(try simp only[zq]);(repeat rw[Qd];simp);(refine hKT _ _ _ _ (by kernel_rfl) ?_;clear hKT KT);(refine hK _ _ _ ?_;clear hK K);refine pF rfl ?_;refine Qg (hK2 _ _ _ ?_);(refine Qc fun K hK=>?_;refine dR fun KT hKT=>?_;(repeat rw[Qd];simp));refine cYp (k1x) ?_;(try simp only[zq]);(repeat rw[Qd];simp);refine cYp (k1y) ?_;(try simp only[zq]);(repeat rw[Qd];simp);refine cYo [0] true true (mo) (fun o h e=>e) ?_;simp[zU];(try simp only[zq]);(repeat rw[Qd];simp);(refine hKT _ _ _ _ (by kernel_rfl) ?_;clear hKT KT);(refine hK _ _ _ ?_;clear hK K);(refine Qe ?_;(try simp only[zs]);refine Qk.ret rfl (.inr ⟨[],by decide,by simp,?_⟩);simp[zM])
 | @one p q x y f f1 f2 o hf hs g1 g2 hn hn2 hr =>
  intro h0 h1 hp hq;have ca:=Qfi f l hf (by omega);have sm:=Qb8 p q hp.1 hq.1;rw[hs,Qb p,Qb q]at sm;have l1:=g1.le;have l2:=g2.le;have ah1:Sp 131 [.box 0 0,Qj p] (Wy (f - 1) l) (fun o hc=>o.fgt= .ret (Qj x)/\hc=Wy f1 l):=Qap hcs (by omega) (by omega) hp.1 (hp.le (show f - 1<=f by omega)).2 g1;have ah2:Sp 131 [.box 0 0,Qj q] (Wy f1 l) (fun o hc=>o.fgt= .ret (Qj y)/\hc=Wy f2 l):=Qap hcs l1.1 (by omega) hq.1 (hq.le (show f1<=f by omega)).2 g2;have hox:okP f2 x:=((hp.le (show f - 1<=f by omega)).head hcs g1).le l2.2;have hoy:okP f2 y:=(hq.le (show f1<=f by omega)).head hcs g2;have b2:=Qc4 2 x y;have b4:=Qc4 4 x y;have hEx:=Qb x;have hEy:=Qb y;unfold Wy Cs at ca ah1 ah2;rw[Qb p,hEx]at ah1;rw[Qb q,hEy]at ah2;rw[hEx,hEy]at b2 b4;have on:=Qkl hcs h x y f2 o l2.1 (by omega) hox hoy hr;rw[hEx,hEy]at on;have hlx:x.ls.length<=Ql:=hox.1.ll;have hly:y.ls.length<=Ql:=hoy.1.ll
  rw[show(decide (x.k=4) && decide (y.k=4))=false from by
   rw[Bool.eq_false_iff];intro h;simp at h;exact hn2 h]at b4
  unfold Wy Cs at on;rw[Qb p,Qb q];clear hr;obtain⟨G1,hG1⟩:∃G,G=(decide (x.k=2) && decide (y.k=2)):=⟨_,rfl⟩;rw[<- hG1]at b2;obtain⟨K,hK⟩:∃K:List HO ->Prop,K=K:=⟨fun _=>True,rfl⟩;clear hK K;cases o with
  | none =>
   rw[Xv]at on⊢;unfold Xx at on;unfold Wy Cs Xx;refine eN Tryz.func82 rfl (by decide) rfl rfl ?_;(refine sI fun K Z=>?_;(repeat rw[Qa];simp);refine Z ?_;clear Z K);(refine sR fun K hK=>?_;(repeat rw[Qa];simp));refine cXo [0] false (ca) ?_;(rintro o hc ⟨rfl,rfl⟩;refine⟨false,?_⟩;simp[zU]);(try simp only[zr]);(repeat rw[Qa];simp);(refine hK _ _ _ ?_;clear hK K);refine Qc fun K1 hK1=>?_
   (refine sR fun K hK=>?_;(repeat rw[Qa];simp));refine cXr (sm) ?_
   (repeat rw[Qa];simp)
   (refine hK _ _ _ ?_;clear hK K);refine pF rfl ?_;refine Qg (hK1 _ _ _ ?_);clear hK1 K1 sm;(refine sR fun K hK=>?_;(repeat rw[Qa];simp));refine cXf [0] (ah1) ?_;simp[zU]
   (repeat rw[Qa];simp)
   (refine hK _ _ _ ?_;clear hK K);(refine sR fun K hK=>?_;(repeat rw[Qa];simp));refine cXf [0] (ah2) ?_;simp[zU]
   (repeat rw[Qa];simp)
   (refine hK _ _ _ ?_;clear hK K);clear ca ah1 ah2;(refine Xe (T:=Qq) 3 (ty:=27) (ds:= [.int .i64 x.k, .int .i64 x.n, .int .i64 x.a, .slice (x.ls.map Qn) .any, .slice (x.ks.map Qj) .any]) rfl rfl (by first | exact⟨rfl, .inr ⟨_,rfl,rfl⟩⟩ | exact⟨rfl, .inl rfl⟩) ?_;simp[D.frzs,D.frz,HO.frz,Qam,Qat,TK.isAgg,FK.isB,FK.isM,FK.isO,D.isLen]);(refine Xe (T:=Qq) 4 (ty:=27) (ds:= [.int .i64 y.k, .int .i64 y.n, .int .i64 y.a, .slice (y.ls.map Qn) .any, .slice (y.ks.map Qj) .any]) rfl rfl (by first | exact⟨rfl, .inr ⟨_,rfl,rfl⟩⟩ | exact⟨rfl, .inl rfl⟩) ?_;simp[D.frzs,D.frz,HO.frz,Qam,Qat,TK.isAgg,FK.isB,FK.isM,FK.isO,D.isLen]);(refine sI fun K Z=>?_;(repeat rw[Qa];simp);refine Z ?_;clear Z K);refine Qc fun K1 hK1=>?_
   refine Wd ?_;cases G1 with
   | false =>
    (refine sR fun K hK=>?_;(repeat rw[Qa];simp));refine cXr (b2) ?_
    (repeat rw[Qa];simp)
    (refine hK _ _ _ ?_;clear hK K);refine pF rfl ?_;(refine sR fun K hK=>?_;(repeat rw[Qa];simp));refine cXr (b4) ?_
    (repeat rw[Qa];simp)
    (refine hK _ _ _ ?_;clear hK K);refine pF rfl ?_;refine Qg (hK1 _ _ _ ?_);(refine sR fun K hK=>?_;(repeat rw[Qa];simp));refine cXo [0] false (on) ?_;(rintro o hc ⟨rfl,rfl⟩;refine⟨false,?_⟩;simp[zU]);((try simp only[zs]);refine Qk.pan (.inr ⟨[],by decide,by simp,?_⟩);simp[zM])
   | true =>
    have hn':¬ (x.ls.length=1/\y.ls.length=1):=fun hh=>by simp at hG1;exact hn ⟨hG1.1,hG1.2,hh.1,hh.2⟩
    by_cases e1:x.ls.length=1
    ·have e2:¬ y.ls.length=1:=fun e2=>hn' ⟨e1,e2⟩
     have e1':(x.ls.length:Int)=1:=by omega
     have e2':¬ (y.ls.length:Int)=1:=by omega
     (refine sR fun K hK=>?_;(repeat rw[Qa];simp[e1,e1',e2,e2']));refine cXr (b2) ?_
     (repeat rw[Qa];simp[e1,e1',e2,e2'])
     (refine hK _ _ _ ?_;clear hK K);refine pF rfl ?_;(refine sR fun K hK=>?_;(repeat rw[Qa];simp));refine cXr (b4) ?_
     (repeat rw[Qa];simp)
     (refine hK _ _ _ ?_;clear hK K);refine pF rfl ?_;refine Qg (hK1 _ _ _ ?_);(refine sR fun K hK=>?_;(repeat rw[Qa];simp));refine cXo [0] false (on) ?_;(rintro o hc ⟨rfl,rfl⟩;refine⟨false,?_⟩;simp[zU]);((try simp only[zs]);refine Qk.pan (.inr ⟨[],by decide,by simp,?_⟩);simp[zM])
    ·have e1':¬ (x.ls.length:Int)=1:=by omega
     (refine sR fun K hK=>?_;(repeat rw[Qa];simp[e1,e1']));refine cXr (b2) ?_
     (repeat rw[Qa];simp[e1,e1'])
     (refine hK _ _ _ ?_;clear hK K);refine pF rfl ?_;(refine sR fun K hK=>?_;(repeat rw[Qa];simp));refine cXr (b4) ?_
     (repeat rw[Qa];simp)
     (refine hK _ _ _ ?_;clear hK K);refine pF rfl ?_;refine Qg (hK1 _ _ _ ?_);(refine sR fun K hK=>?_;(repeat rw[Qa];simp));refine cXo [0] false (on) ?_;(rintro o hc ⟨rfl,rfl⟩;refine⟨false,?_⟩;simp[zU]);((try simp only[zs]);refine Qk.pan (.inr ⟨[],by decide,by simp,?_⟩);simp[zM])
  | some v =>
   obtain⟨b,g⟩:=v;rw[Xj]at on⊢;unfold Wy Cs at on⊢;refine eN Tryz.func82 rfl (by decide) rfl rfl ?_;(refine sI fun K Z=>?_;(repeat rw[Qa];simp);refine Z ?_;clear Z K);(refine sR fun K hK=>?_;(repeat rw[Qa];simp));refine cXo [0] false (ca) ?_;(rintro o hc ⟨rfl,rfl⟩;refine⟨false,?_⟩;simp[zU]);(try simp only[zr]);(repeat rw[Qa];simp);(refine hK _ _ _ ?_;clear hK K);refine Qc fun K1 hK1=>?_
   (refine sR fun K hK=>?_;(repeat rw[Qa];simp));refine cXr (sm) ?_
   (repeat rw[Qa];simp)
   (refine hK _ _ _ ?_;clear hK K);refine pF rfl ?_;refine Qg (hK1 _ _ _ ?_);clear hK1 K1 sm;(refine sR fun K hK=>?_;(repeat rw[Qa];simp));refine cXf [0] (ah1) ?_;simp[zU]
   (repeat rw[Qa];simp)
   (refine hK _ _ _ ?_;clear hK K);(refine sR fun K hK=>?_;(repeat rw[Qa];simp));refine cXf [0] (ah2) ?_;simp[zU]
   (repeat rw[Qa];simp)
   (refine hK _ _ _ ?_;clear hK K);clear ca ah1 ah2;(refine Xe (T:=Qq) 3 (ty:=27) (ds:= [.int .i64 x.k, .int .i64 x.n, .int .i64 x.a, .slice (x.ls.map Qn) .any, .slice (x.ks.map Qj) .any]) rfl rfl (by first | exact⟨rfl, .inr ⟨_,rfl,rfl⟩⟩ | exact⟨rfl, .inl rfl⟩) ?_;simp[D.frzs,D.frz,HO.frz,Qam,Qat,TK.isAgg,FK.isB,FK.isM,FK.isO,D.isLen]);(refine Xe (T:=Qq) 4 (ty:=27) (ds:= [.int .i64 y.k, .int .i64 y.n, .int .i64 y.a, .slice (y.ls.map Qn) .any, .slice (y.ks.map Qj) .any]) rfl rfl (by first | exact⟨rfl, .inr ⟨_,rfl,rfl⟩⟩ | exact⟨rfl, .inl rfl⟩) ?_;simp[D.frzs,D.frz,HO.frz,Qam,Qat,TK.isAgg,FK.isB,FK.isM,FK.isO,D.isLen]);(refine sI fun K Z=>?_;(repeat rw[Qa];simp);refine Z ?_;clear Z K);refine Qc fun K1 hK1=>?_
   refine Wd ?_;cases G1 with
   | false =>
    (refine sR fun K hK=>?_;(repeat rw[Qa];simp));refine cXr (b2) ?_
    (repeat rw[Qa];simp)
    (refine hK _ _ _ ?_;clear hK K);refine pF rfl ?_;(refine sR fun K hK=>?_;(repeat rw[Qa];simp));refine cXr (b4) ?_
    (repeat rw[Qa];simp)
    (refine hK _ _ _ ?_;clear hK K);refine pF rfl ?_;refine Qg (hK1 _ _ _ ?_);(refine sR fun K hK=>?_;(repeat rw[Qa];simp));refine cXf [0] (on) ?_;simp[zU]
    (repeat rw[Qa];simp)
    (refine hK _ _ _ ?_;clear hK K);(refine Qe ?_;(try simp only[zs]);refine Qk.ret rfl (.inr ⟨[],by decide,by simp,?_⟩);simp[zM])
   | true =>
    have hn':¬ (x.ls.length=1/\y.ls.length=1):=fun hh=>by simp at hG1;exact hn ⟨hG1.1,hG1.2,hh.1,hh.2⟩
    by_cases e1:x.ls.length=1
    ·have e2:¬ y.ls.length=1:=fun e2=>hn' ⟨e1,e2⟩
     have e1':(x.ls.length:Int)=1:=by omega
     have e2':¬ (y.ls.length:Int)=1:=by omega
     (refine sR fun K hK=>?_;(repeat rw[Qa];simp[e1,e1',e2,e2']));refine cXr (b2) ?_
     (repeat rw[Qa];simp[e1,e1',e2,e2'])
     (refine hK _ _ _ ?_;clear hK K);refine pF rfl ?_;(refine sR fun K hK=>?_;(repeat rw[Qa];simp));refine cXr (b4) ?_
     (repeat rw[Qa];simp)
     (refine hK _ _ _ ?_;clear hK K);refine pF rfl ?_;refine Qg (hK1 _ _ _ ?_);(refine sR fun K hK=>?_;(repeat rw[Qa];simp));refine cXf [0] (on) ?_;simp[zU]
     (repeat rw[Qa];simp)
     (refine hK _ _ _ ?_;clear hK K);(refine Qe ?_;(try simp only[zs]);refine Qk.ret rfl (.inr ⟨[],by decide,by simp,?_⟩);simp[zM])
    ·have e1':¬ (x.ls.length:Int)=1:=by omega
     (refine sR fun K hK=>?_;(repeat rw[Qa];simp[e1,e1']));refine cXr (b2) ?_
     (repeat rw[Qa];simp[e1,e1'])
     (refine hK _ _ _ ?_;clear hK K);refine pF rfl ?_;(refine sR fun K hK=>?_;(repeat rw[Qa];simp));refine cXr (b4) ?_
     (repeat rw[Qa];simp)
     (refine hK _ _ _ ?_;clear hK K);refine pF rfl ?_;refine Qg (hK1 _ _ _ ?_);(refine sR fun K hK=>?_;(repeat rw[Qa];simp));refine cXf [0] (on) ?_;simp[zU]
     (repeat rw[Qa];simp)
     (refine hK _ _ _ ?_;clear hK K);(refine Qe ?_;(try simp only[zs]);refine Qk.ret rfl (.inr ⟨[],by decide,by simp,?_⟩);simp[zM])
def Wb3:Option (Bool×Int) ->D
 | some (b,g)=> .tuple [.bool b, .int .i64 g, .int .i64 0]
 | none=> .tuple [.bool false, .int .i64 0, .int .i64 5]
theorem Qrm(b:Bool)(x y:Int):Qgw Tryz.prog glob 129 [.box 0 0, .box 1 0, .box 2 0] [.cells 33 [.int .i64 y], .cells 4 [.bool b], .cells 3 [.int .i64 x]] none
  (fun hc=>hc= [.cells 33 [.int .i64 y], .cells 4 [.bool b], .cells 3 [.int .i64 x]]):=by
 refine Qav Wa Tryz.func129 rfl rfl (fun a w=>rfl) rfl (Qcm _ _ Tryz.func129 rfl (by decide)) rfl rfl ?_;(try simp only[zr]);(repeat rw[Qa];simp);(refine sI fun K Z=>?_;(repeat rw[Qa];simp);refine Z ?_;clear Z K);refine pF rfl ?_;refine Qg ?_;refine Qk.nrm rfl ?_;simp[Qw]
theorem Qrn(b:Bool)(x y:Int):Qgw Tryz.prog glob 129 [.box 0 0, .box 1 0, .box 2 0] [.cells 33 [.int .i64 y], .cells 4 [.bool b], .cells 3 [.int .i64 x]] (some Xx)
  (fun hc=>hc= [.cells 33 [.int .i64 5], .cells 4 [.bool false], .cells 3 [.int .i64 0]]):=by
 refine Qav Wa Tryz.func129 rfl rfl (fun a w=>rfl) rfl (Qcm _ _ Tryz.func129 rfl (by decide)) rfl rfl ?_;unfold Xx;(try simp only[zr]);(repeat rw[Qa];simp);(refine sI fun K Z=>?_;(repeat rw[Qa];simp);refine Z ?_;clear Z K);refine pT rfl ?_;(refine sI fun K Z=>?_;(repeat rw[Qa];simp);refine Z ?_;clear Z K);refine Qc fun K1 hK1=>?_
 (refine sI fun K Z=>?_;(repeat rw[Qa];simp);refine Z ?_;clear Z K);(refine sI fun K Z=>?_;(repeat rw[Qa];simp);refine Z ?_;clear Z K);refine pF rfl ?_;refine Qg (hK1 _ _ _ ?_);(refine Qi Wa ?_;(repeat rw[Qa];simp));refine Qk.nrm rfl ?_;simp
theorem Qpb{l:List C}(g:FuncId)(a b:T){f:Int}(h0:0<=f)(h1:f<=1073741824){r:Option (Bool×Int)}(hsp:Sp g [.box 0 0, .ref (Qj a), .ref (Qj b)] (Wy f l) (Qvh l r)) :
  Sp 80 [Cs l, .int .i64 f, .fn (.func g) [] [.ref (Qj a), .ref (Qj b)]] [] (rt (Wb3 r)):=by
 have h0':¬ f<0:=by omega
 have h1':¬ 1073741824<f:=by omega
 have hEa:=Qb a;have hEb:=Qb b;rw[hEa,hEb]at hsp;rw[hEa,hEb];cases r with
 | none =>
  rw[Xv]at hsp;unfold Wy Cs Xx at hsp;unfold Cs Wb3;have hcg:=Qrn false 0 0;unfold Xx at hcg;refine eD Tryz.func80 rfl (by decide) rfl rfl ?_;(refine sI fun K Z=>?_;(repeat rw[Qa];simp);refine Z ?_;clear Z K);refine Qc fun K1 hK1=>?_
  (refine sI fun K Z=>?_;(repeat rw[Qa];simp[h0',h1']);refine Z ?_;clear Z K);refine pF rfl ?_;refine Qg (hK1 _ _ _ ?_);(refine sI fun K Z=>?_;(repeat rw[Qa];simp);refine Z ?_;clear Z K);(refine sI fun K Z=>?_;(repeat rw[Qa];simp);refine Z ?_;clear Z K);(refine sR fun K hK=>?_;(repeat rw[Qa];simp));refine cXo [3] false (hsp) ?_;(rintro o hc ⟨rfl,rfl⟩;refine⟨false,?_⟩;simp[zU]);(try simp only[zs]);refine Qfn.objs Qf [2,0,1] hcg ?_ ?_ (fun d h=>by cases h;rfl) (by decide) (by simp) (by simp[zA]) (by simp[zA]) (by simp[zA]) (by simp[zA])
  ·rintro hc rfl;simp[zA,upO,Qw,Wi];refine Qez.intro rfl (.inr ⟨[],by decide,by simp,?_⟩);simp[zM]
   try simp[Out.fgt,D.fgt,D.fgts]
  ·rintro hc rfl;simp
 | some v =>
  obtain⟨bb,gg⟩:=v;rw[Xj]at hsp;unfold Wy Cs at hsp;unfold Cs Wb3;refine eD Tryz.func80 rfl (by decide) rfl rfl ?_;(refine sI fun K Z=>?_;(repeat rw[Qa];simp);refine Z ?_;clear Z K);refine Qc fun K1 hK1=>?_
  (refine sI fun K Z=>?_;(repeat rw[Qa];simp[h0',h1']);refine Z ?_;clear Z K);refine pF rfl ?_;refine Qg (hK1 _ _ _ ?_);(refine sI fun K Z=>?_;(repeat rw[Qa];simp);refine Z ?_;clear Z K);(refine sI fun K Z=>?_;(repeat rw[Qa];simp);refine Z ?_;clear Z K);(refine sR fun K hK=>?_;(repeat rw[Qa];simp));refine cXf [3] (hsp) ?_;simp[zU]
  (repeat rw[Qa];simp)
  (refine hK _ _ _ ?_;clear hK K);(refine Qc fun K hK=>?_;refine dR fun KT hKT=>?_;(repeat rw[Qd];simp));(refine hKT _ _ _ _ (by kernel_rfl) ?_;clear hKT KT);(refine hK _ _ _ ?_;clear hK K);refine Qe ?_;refine Qfn.objs Qf [2,0,1] (Qrm bb gg 0) ?_ ?_ (fun d h=>by cases h) (by decide) (by simp) (by simp[zA]) (by simp[zA]) (by simp[zA]) (by simp[zA])
  ·rintro hc rfl;simp[zA,upO,Qw,Wi];refine Qez.intro rfl (.inr ⟨[],by decide,by simp,?_⟩);simp[zM]
   try simp[Out.fgt,D.fgt,D.fgts]
  ·rintro hc rfl;simp
theorem Qxa{l:List C}(a b:T){f:Int}{r:Option (Bool×Int)}(on:Sp 136 [.box 0 0,Qj a,Qj b] (Wy f l) (Qvh l r)) :
  Sp 209 [.box 0 0, .ref (Qj a), .ref (Qj b)] (Wy f l) (Qvh l r):=by
 have hEa:=Qb a;have hEb:=Qb b;rw[hEa,hEb]at on;rw[hEa,hEb];cases r with
 | none =>
  rw[Xv]at on⊢;unfold Wy Cs Xx at on;unfold Wy Cs Xx;refine eN Tryz.func209 rfl (by decide) rfl rfl ?_;(refine sI fun K Z=>?_;(repeat rw[Qa];simp);refine Z ?_;clear Z K);(refine sR fun K hK=>?_;(repeat rw[Qa];simp));refine cXo [0] false (on) ?_;(rintro o hc ⟨rfl,rfl⟩;refine⟨false,?_⟩;simp[zU]);((try simp only[zs]);refine Qk.pan (.inr ⟨[],by decide,by simp,?_⟩);simp[zM])
 | some v =>
  obtain⟨bb,gg⟩:=v;rw[Xj]at on⊢;unfold Wy Cs at on⊢;refine eN Tryz.func209 rfl (by decide) rfl rfl ?_;(refine sI fun K Z=>?_;(repeat rw[Qa];simp);refine Z ?_;clear Z K);(refine sR fun K hK=>?_;(repeat rw[Qa];simp));refine cXf [0] (on) ?_;simp[zU]
  (repeat rw[Qa];simp)
  (refine hK _ _ _ ?_;clear hK K);(refine Qe ?_;(try simp only[zs]);refine Qk.ret rfl (.inr ⟨[],by decide,by simp,?_⟩);simp[zM])
theorem Qwo{l:List C}(a b:T){f:Int}{r:Option (Bool×Int)}(on:Sp 82 [.box 0 0,Qj a,Qj b] (Wy f l) (Qvh l r)) :
  Sp 81 [.box 0 0, .ref (Qj a), .ref (Qj b)] (Wy f l) (Qvh l r):=by
 have hEa:=Qb a;have hEb:=Qb b;rw[hEa,hEb]at on;rw[hEa,hEb];cases r with
 | none =>
  rw[Xv]at on⊢;unfold Wy Cs Xx at on;unfold Wy Cs Xx;refine eN Tryz.func81 rfl (by decide) rfl rfl ?_;(refine sI fun K Z=>?_;(repeat rw[Qa];simp);refine Z ?_;clear Z K);(refine sR fun K hK=>?_;(repeat rw[Qa];simp));refine cXo [0] false (on) ?_;(rintro o hc ⟨rfl,rfl⟩;refine⟨false,?_⟩;simp[zU]);((try simp only[zs]);refine Qk.pan (.inr ⟨[],by decide,by simp,?_⟩);simp[zM])
 | some v =>
  obtain⟨bb,gg⟩:=v;rw[Xj]at on⊢;unfold Wy Cs at on⊢;refine eN Tryz.func81 rfl (by decide) rfl rfl ?_;(refine sI fun K Z=>?_;(repeat rw[Qa];simp);refine Z ?_;clear Z K);(refine sR fun K hK=>?_;(repeat rw[Qa];simp));refine cXf [0] (on) ?_;simp[zU]
  (repeat rw[Qa];simp)
  (refine hK _ _ _ ?_;clear hK K);(refine Qe ?_;(try simp only[zs]);refine Qk.ret rfl (.inr ⟨[],by decide,by simp,?_⟩);simp[zM])
theorem Qq8(r:Option (Bool×Int)):∃b g e,Wb3 r= .tuple [.bool b, .int .i64 g, .int .i64 e]:=by
 cases r with
 | none=>exact⟨_,_,_,rfl⟩
 | some v=>exact⟨_,_,_,rfl⟩
theorem Qqx{l:List C}(hcs:okCs l){a b:T}{f:Int}{h:Nat}{r:Option (Bool×Int)}(h0:0<=f)(h1:f<=1073741824)(ha:okP f a)(hb:okP f b)(hr:CR l h [a] [b] f r) :
  Sp 183 [Cs l,Qj a,Qj b, .int .i64 f] [] (rt (Wb3 r)):=by
 have to:=Qpb 209 a b h0 h1 (Qxa a b (Qkl hcs h a b f r h0 h1 ha hb hr));obtain⟨bb,gg,ee,e⟩:=Qq8 r;rw[e]at to⊢;rw[Qb a,Qb b]at to⊢;unfold Cs at to⊢;refine eN Tryz.func183 rfl (by decide) rfl rfl ?_;(refine sI fun K Z=>?_;(repeat rw[Qa];simp);refine Z ?_;clear Z K);(refine Xe (T:=Qq) 0 (ty:=27) (ds:= [.int .i64 a.k, .int .i64 a.n, .int .i64 a.a, .slice (a.ls.map Qn) .any, .slice (a.ks.map Qj) .any]) rfl rfl (by first | exact⟨rfl, .inr ⟨_,rfl,rfl⟩⟩ | exact⟨rfl, .inl rfl⟩) ?_;simp[D.frzs,D.frz,HO.frz,Qam,Qat,TK.isAgg,FK.isB,FK.isM,FK.isO,D.isLen]);(refine Xe (T:=Qq) 1 (ty:=27) (ds:= [.int .i64 b.k, .int .i64 b.n, .int .i64 b.a, .slice (b.ls.map Qn) .any, .slice (b.ks.map Qj) .any]) rfl rfl (by first | exact⟨rfl, .inr ⟨_,rfl,rfl⟩⟩ | exact⟨rfl, .inl rfl⟩) ?_;simp[D.frzs,D.frz,HO.frz,Qam,Qat,TK.isAgg,FK.isB,FK.isM,FK.isO,D.isLen]);(refine sR fun K hK=>?_;(repeat rw[Qa];simp));refine cXr (to) ?_
 (repeat rw[Qa];simp)
 (refine hK _ _ _ ?_;clear hK K);(refine Qe ?_;(try simp only[zs]);refine Qk.ret rfl (.inl ?_);simp[zM])
theorem Qjl{l:List C}(hcs:okCs l){a b:T}{f:Int}{h:Nat}{r:Option (Bool×Int)}(h0:0<=f)(h1:f<=1073741824)(ha:okP f a)(hb:okP f b)(hr:LR l h a b f r) :
  Sp 34 [Cs l,Qj a,Qj b, .int .i64 f] [] (rt (Wb3 r)):=by
 have to:=Qpb 81 a b h0 h1 (Qwo a b (Qzg hcs hr h0 h1 ha hb));obtain⟨bb,gg,ee,e⟩:=Qq8 r;rw[e]at to⊢;rw[Qb a,Qb b]at to⊢;unfold Cs at to⊢;refine eN Tryz.func34 rfl (by decide) rfl rfl ?_;(refine sI fun K Z=>?_;(repeat rw[Qa];simp);refine Z ?_;clear Z K);(refine Xe (T:=Qq) 0 (ty:=27) (ds:= [.int .i64 a.k, .int .i64 a.n, .int .i64 a.a, .slice (a.ls.map Qn) .any, .slice (a.ks.map Qj) .any]) rfl rfl (by first | exact⟨rfl, .inr ⟨_,rfl,rfl⟩⟩ | exact⟨rfl, .inl rfl⟩) ?_;simp[D.frzs,D.frz,HO.frz,Qam,Qat,TK.isAgg,FK.isB,FK.isM,FK.isO,D.isLen]);(refine Xe (T:=Qq) 1 (ty:=27) (ds:= [.int .i64 b.k, .int .i64 b.n, .int .i64 b.a, .slice (b.ls.map Qn) .any, .slice (b.ks.map Qj) .any]) rfl rfl (by first | exact⟨rfl, .inr ⟨_,rfl,rfl⟩⟩ | exact⟨rfl, .inl rfl⟩) ?_;simp[D.frzs,D.frz,HO.frz,Qam,Qat,TK.isAgg,FK.isB,FK.isM,FK.isO,D.isLen]);(refine sR fun K hK=>?_;(repeat rw[Qa];simp));refine cXr (to) ?_
 (repeat rw[Qa];simp)
 (refine hK _ _ _ ?_;clear hK K);(refine Qe ?_;(try simp only[zs]);refine Qk.ret rfl (.inl ?_);simp[zM])
end Go.Proofs.YtgloldepdhgfaaaGreatDoor
namespace Go.Proofs.YtgloldepdhgfaaaGreatDoor
set_option linter.unusedSimpArgs false
set_option linter.unusedVariables false
set_option linter.unusedSimpArgs false
set_option linter.unusedVariables false
set_option maxHeartbeats 10000000
set_option maxRecDepth 20000
open Go.RowKit
attribute [local simp] Qx Qm Qo Qp Wn Xg opD Wc Qr Qw Wi hOf Wj Xf Xd TK.isAgg TK.known Ws Wk Qz Qh D.ofV inB Qy Wp Xy Za Zg Xc Xw Zh IntKind.min IntKind.max IntKind.signed IntKind.bits Wm Xz
def Wq(e:Int):D:= .iface 33 (.int .i64 e)
def Qcl:List (D×D):= [(.int .i64 1, .fn (.func 166) [] []),(.int .i64 2, .fn (.func 167) [] []),(.int .i64 3, .fn (.func 168) [] []),(.int .i64 4, .fn (.func 169) [] []),(.int .i64 12, .fn (.func 169) [] []),(.int .i64 16, .fn (.func 169) [] []),(.int .i64 5, .fn (.func 170) [] []),(.int .i64 6, .fn (.func 171) [] []),(.int .i64 7, .fn (.func 172) [] []),(.int .i64 14, .fn (.func 173) [] []),(.int .i64 15, .fn (.func 173) [] []),(.int .i64 18, .fn (.func 174) [] []),(.int .i64 19, .fn (.func 175) [] []),(.int .i64 21, .fn (.func 176) [] []),(.int .i64 22, .fn (.func 177) [] []),(.int .i64 23, .fn (.func 178) [] []),(.int .i64 24, .fn (.func 179) [] [])]
@[simp high] theorem rulesE_ok1 (p:Nat ->Bool):D.okNs p (List.map (fun x=>x.fst) Qcl)=true:=rfl
@[simp high] theorem rulesE_ok2 (p:Nat ->Bool):D.okNs p (List.map (fun x=>x.snd) Qcl)=true:=rfl
@[simp high] theorem rulesE_ren (σ:Nat ->Nat):List.map (fun e=>(D.ren σ e.fst,D.ren σ e.snd)) Qcl=Qcl:=rfl
@[simp high] theorem rulesE_frz (bx:FK) (i:Nat) (x:D):List.map (fun p=>(D.frz bx i x p.fst,D.frz bx i x p.snd)) Qcl=Qcl:=rfl
@[simp high] theorem rulesE_low1 (m:Nat):D.lows m (List.map (fun x=>x.fst) Qcl)=true:=rfl
@[simp high] theorem rulesE_low2 (m:Nat):D.lows m (List.map (fun x=>x.snd) Qcl)=true:=rfl
def iO(f:Int)(l:List C)(n:Int):List HO:= [.cells 165 [.int .i64 f,Cs l, .int .i64 n, .map 1], .mp Qcl]
def RP{α:Type}(l:List C)(n:Int)(enc:α ->D):Rs α ->Out ->List HO ->Prop
 | .ok (x,g)=>fun o hc=>o.fgt= .ret (enc x)/\hc=iO g l n
 | .error e=>fun o hc=>o= .pan (Wq e)/\hc= [.dead, .dead]
def RQ{α:Type}(l:List C)(n:Int)(enc:α ->D):Rs α ->Out ->List HO ->Prop
 | .ok (x,g)=>fun o hc=>o.fgt= .ret (enc x)/\hc=iO g l n
 | .error e=>fun o hc=>o= .pan (Wq e)/\(hc= [.dead, .dead]\/∃f,hc=iO f l n)
theorem RP_ok{α:Type}{l:List C}{n:Int}{enc:α ->D}{x:α}{g:Int}:RP l n enc (.ok (x,g))=fun o hc=>o.fgt= .ret (enc x)/\hc=iO g l n:=rfl
theorem RP_err{α:Type}{l:List C}{n:Int}{enc:α ->D}{e:Int}:RP l n enc (.error e)=fun o hc=>o= .pan (Wq e)/\hc= [.dead, .dead]:=rfl
theorem Qoz{α:Type}{l:List C}{n:Int}{enc:α ->D}{r:Rs α}{x:α}{g:Int}(h:r= .ok (x,g)):RQ l n enc r=fun o hc=>o.fgt= .ret (enc x)/\hc=iO g l n:=by rw[h];rfl
theorem Qdd{α:Type}{l:List C}{n:Int}{enc:α ->D}{r:Rs α}{e:Int}(h:r= .error e):RQ l n enc r=fun o hc=>o= .pan (Wq e)/\(hc= [.dead, .dead]\/∃f,hc=iO f l n):=by rw[h];rfl
theorem RP.of{α:Type}{l:List C}{n:Int}{enc:α ->D}{r:Rs α}{P:Program}{G:Nat ->Option D}{fn:FuncId}{args:List D}{objs:List HO}(h:Spec P G fn args objs (RQ l n enc r)):Spec P G fn args objs (RP l n enc r):=by
 refine Spec.dead h fun o hc hp=>?_
 cases r with
 | ok v=>exact⟨hc,fun r=> .inl rfl,hp⟩
 | error e =>
  refine⟨[.dead, .dead],fun r=>?_,hp.1,rfl⟩;rcases hp.2 with rfl | ⟨f,rfl⟩
  ·exact .inl rfl
  ·match r with
   | 0=>exact .inr rfl
   | 1=>exact .inr rfl
   | r+2=>exact .inl rfl
theorem Qbp(e:Int):Sp 113 [.bool true, .int .i64 e] [] (rt (.tuple [])):=by
 refine eN Tryz.func113 rfl (by decide) rfl rfl ?_;(refine sI fun K Z=>?_;(repeat rw[Qa];simp);refine Z ?_;clear Z K);refine pF rfl ?_;refine Qg ?_;((try simp only[zs]);refine Qk.nrm rfl (.inl ?_);simp[zM])
theorem Qbf(e:Int):Sp 113 [.bool false, .int .i64 e] [] (fun o _=>o.fgt= .pan (Wq e)):=by
 unfold Wq;refine eN Tryz.func113 rfl (by decide) rfl rfl ?_;(refine sI fun K Z=>?_;(repeat rw[Qa];simp);refine Z ?_;clear Z K);refine pT rfl ?_;(refine Qi Wa ?_;(repeat rw[Qa];simp));((try simp only[zs]);refine Qk.pan (.inl ?_);simp[Out.fgt,D.fgt,D.fgts])
def Qd1(m f:Int):Rs Unit:=if m<=f then .ok ((),f - m)else .error 5
def Xb(_:Unit):D:= .tuple []
theorem Qbq{l:List C}{n f m:Int}(h0:0<=m)(h1:f<=9223372036854775807):Sp 118 [.box 0 0, .int .i64 m] (iO f l n) (RP l n Xb (Qd1 m f)):=by
 refine RP.of ?_;by_cases h:m<=f
 ·rw[Qoz (show Qd1 m f= .ok ((),f - m) by unfold Qd1;rw[if_pos h])];have mo:=Qbp 5;have hw:IntKind.i64.wrap (f - m)=f - m:=Qbu (by omega) (by omega);unfold iO Cs Xb;refine eN Tryz.func118 rfl (by decide) rfl rfl ?_;(refine sR fun K hK=>?_;(repeat rw[Qa];simp[h]));refine cXp (mo) ?_;(try simp only[zr]);(repeat rw[Qa];simp);(refine hK _ _ _ ?_;clear hK K);(refine Qi Wa ?_;(repeat rw[Qa];simp[hw]));((try simp only[zs]);refine Qk.nrm rfl (.inr ⟨[],by decide,by simp,?_⟩);simp[zM])
 ·rw[Qdd (show Qd1 m f= .error 5 by unfold Qd1;rw[if_neg h])];have mo:=Qbf 5;unfold Wq at mo;unfold iO Cs Wq;refine eN Tryz.func118 rfl (by decide) rfl rfl ?_;(refine sR fun K hK=>?_;(repeat rw[Qa];simp[h]));refine cXp (mo) ?_;(try simp only[zr]);(repeat rw[Qa];simp);((try simp only[zs]);refine Qk.pan (.inr ⟨[],by decide,by simp,?_⟩);simp[zM])
theorem Qia(t:T)(j:Nat):Sp 125 [Qj t, .int .i64 j] [] (rt (Qj (t.kid j))):=by
 obtain⟨r,hr⟩:∃r,r=t.kid j:=⟨_,rfl⟩;rw[<- hr];rw[Qb t];unfold T.kid at hr;rw[List.getD_eq_getElem?_getD]at hr;refine eN Tryz.func125 rfl (by decide) rfl rfl ?_;(refine sI fun K Z=>?_;(repeat rw[Qa];simp);refine Z ?_;clear Z K);refine Qc fun K1 hK1=>?_
 by_cases h2:j<t.ks.length
 ·have h2':(j:Int)<t.ks.length:=by omega
  have h2n:¬ t.ks.length<=j:=by omega
  rw[List.getElem?_eq_getElem h2,Option.getD_some]at hr;have hEr:=Qb r;have hx:t.ks[j]=r:=hr.symm;(refine sI fun K Z=>?_;(repeat rw[Qa];simp[h2,h2',h2n]);refine Z ?_;clear Z K);refine pF rfl ?_;refine Qg (hK1 _ _ _ ?_);(refine sI fun K Z=>?_;(repeat rw[Qa];simp[h2,h2',hx,hEr]);refine Z ?_;clear Z K);(refine Qe ?_;(try simp only[zs]);refine Qk.ret rfl (.inl ?_);simp[zM]);exact hEr.symm
 ·have h2':¬ (j:Int)<t.ks.length:=by omega
  have h2n:t.ks.length<=j:=by omega
  rw[List.getElem?_eq_none h2n,Option.getD_none]at hr;subst hr;(refine sI fun K Z=>?_;(repeat rw[Qa];simp[h2,h2',h2n]);refine Z ?_;clear Z K);refine pT rfl ?_;(refine sI fun K Z=>?_;(repeat rw[Qa];simp);refine Z ?_;clear Z K);(refine Qe ?_;(try simp only[zs]);refine Qk.ret rfl (.inl ?_);simp[zM]);exact encZ.symm
theorem Ze(k:Int)(ks:List T):Sp 123 [.int .i64 k, .slice (ks.map Qj) .any] [] (rt (Qj (ofT k ks))):=by
 unfold ofT;rw[Qfg];refine eN Tryz.func123 rfl (by decide) rfl rfl ?_;(refine sI fun K Z=>?_;(repeat rw[Qa];simp);refine Z ?_;clear Z K);(refine sI fun K Z=>?_;(repeat rw[Qa];simp);refine Z ?_;clear Z K);(refine Qe ?_;(try simp only[zs]);refine Qk.ret rfl (.inl ?_);simp[zM])
theorem Qoh(n:Int):Sp 206 [.int .i64 n] [] (rt (Qj (Qeh n))):=by
 unfold Qeh;rw[Qfg];refine eN Tryz.func206 rfl (by decide) rfl rfl ?_;(refine sI fun K Z=>?_;(repeat rw[Qa];simp);refine Z ?_;clear Z K);(refine sI fun K Z=>?_;(repeat rw[Qa];simp);refine Z ?_;clear Z K);(refine Qe ?_;(try simp only[zs]);refine Qk.ret rfl (.inl ?_);simp[zM])
theorem Qfb(t:T)(n:Int)(ht:okT t)(hd:t.pot<=PM):Sp 78 [Qj t, .int .i64 n] [] (rt (Qj (t.lift n 0 0))):=by
 have hl:=Qby t n 0 (by have:=t.deep_nsz;have:=Qef t;unfold PM at hd;unfold DM;omega) ht;generalize t.lift n 0 0=u at hl⊢;have hEt:=Qb t;have hEu:=Qb u;rw[hEt,hEu]at hl;rw[hEt,hEu];refine eN Tryz.func78 rfl (by decide) rfl rfl ?_;(refine sI fun K Z=>?_;(repeat rw[Qa];simp);refine Z ?_;clear Z K);(refine sR fun K hK=>?_;(repeat rw[Qa];simp));refine cXr (hl) ?_
 (repeat rw[Qa];simp)
 (refine hK _ _ _ ?_;clear hK K);(refine Qe ?_;(try simp only[zs]);refine Qk.ret rfl (.inl ?_);simp[zM])
theorem Qh8(i:LV):Sp 201 [Qn i] [] (rt (Qj (Qir i))):=by
 have L1:1<=Ql:=by unfold Ql;omega
 unfold Qir;rw[Qfg];unfold Qn;simp only[List.map_cons,List.map_nil];refine eN Tryz.func201 rfl (by decide) rfl rfl ?_;(refine sI fun K Z=>?_;(repeat rw[Qa];simp);refine Z ?_;clear Z K);(refine sI fun K Z=>?_;(repeat rw[Qa];simp[L1]);refine Z ?_;clear Z K);(refine Qe ?_;(try simp only[zs]);refine Qk.ret rfl (.inl ?_);simp[zM])
theorem Qwi(many:Int)(t:T):∀b,okT t ->Sp 185 [Qj t, .int .i64 many, .int .i64 b] [] (rt (.int .i64 (T.sdw many t b))):=by
 induction t using T.ind with
 | h kk nn aa ls ks ih =>
 intro b ht;have hkl:ks.length<=Ql:=ht.kl;have hks:=ht.ks;simp only[T.ks_mk]at hks;obtain⟨R,hR⟩:∃R,R=T.sdw many (.mk kk nn aa ls ks) b:=⟨_,rfl⟩;rw[<- hR];rw[T.sdw]at hR;rw[Qd9];refine eN Tryz.func185 rfl (by decide) rfl rfl ?_;(refine sI fun K Z=>?_;(repeat rw[Qa];simp);refine Z ?_;clear Z K);by_cases h1:kk=1/\nn=b
 ·obtain⟨rfl,rfl⟩:=h1;rw[if_pos ⟨rfl,rfl⟩]at hR;subst hR;refine Qc fun K1 hK1=>?_
  (refine sI fun K Z=>?_;(repeat rw[Qa];simp);refine Z ?_;clear Z K);refine pT rfl ?_;(refine sI fun K Z=>?_;(repeat rw[Qa];simp);refine Z ?_;clear Z K);(refine Qe ?_;(try simp only[zs]);refine Qk.ret rfl (.inl ?_);simp[zM])
 rw[if_neg h1]at hR;refine Qtl [11,12,13,14,15,16,17,18,19] ([11,12,13,14,15,16,17,18,19].map fun _=> .junk) [.cells 27 [.int .i64 kk, .int .i64 nn, .int .i64 aa, .slice (ls.map Qn) .any, .slice (ks.map Qj) .any]] ?_ ?_
 rotate_left
 ·intro K hK0;by_cases h2:kk=1
  ·subst h2;have h3:¬ nn=b:=fun h=>h1 ⟨rfl,h⟩
   (refine sI fun K Z=>?_;(repeat rw[Qa];simp[h3]);refine Z ?_;clear Z K);refine pF rfl ?_;refine Qg (hK0 _ ?_);simp[leT,Qh]
  ·(refine sI fun K Z=>?_;(repeat rw[Qa];simp[h2]);refine Z ?_;clear Z K);refine pF rfl ?_;refine Qg (hK0 _ ?_);simp[leT,Qh]
 simp only[Qh,List.set,List.map_cons,List.map_nil,List.cons_append,List.nil_append];(refine sI fun K Z=>?_;(repeat rw[Qa];simp);refine Z ?_;clear Z K);refine Qc fun K1 hK1=>?_
 (refine sI fun K Z=>?_;(repeat rw[Qa];simp);refine Z ?_;clear Z K);refine Xm Wa Qf (ti:=3) (tk:=24) (tn:=23) (td:=25) (ts:=42) [8,9,10,24,25,26,27,28,29,30,31,32,33,34,35,36,37,38,39,40,41,42] [7] (ks.length) (fun k ys hl=>∃(s:Int),ys= [.int .i64 s]/\R=T.sdws many kk (ks.drop k) k b s/\hl= [.cells 27 [.int .i64 kk, .int .i64 nn, .int .i64 aa, .slice (ls.map Qn) .any, .slice (ks.map Qj) .any]]) rfl rfl rfl rfl rfl rfl rfl rfl rfl rfl rfl rfl (by simp) (by decide) rfl (by first | assumption | omega | (unfold Ql;omega)) rfl (by kernel_rfl) (by decide) ?_ ?_ ?_
 ·exact⟨1,rfl,hR,rfl⟩
 ·rintro i ys hl A hi ⟨s,rfl,hF,rfl⟩ hA hA2;simp only[Qh,List.set,List.map_cons,List.map_nil,List.cons_append,List.nil_append];have hi':(i:Int)<ks.length:=by omega
  rw[List.drop_eq_getElem_cons hi,T.sdws]at hF;have hrec:=ih ks[i] (List.getElem_mem hi) (Xl b kk i) (hks _ (List.getElem_mem hi));have hbi:=Qgu kk i;have hbd:Xl b kk i=if Qba kk i then IntKind.i64.wrap (b+1)else b:=rfl
  obtain⟨x,hx⟩:∃x,ks[i]=x:=⟨_,rfl⟩;rw[hx]at hF hrec;have hEx:=Qb x;rw[hEx]at hrec;generalize T.sdw many x (Xl b kk i)=v at hF hrec;generalize Xl b kk i=b' at hrec hbd;generalize Qba kk i=bb at hbi hbd;(refine sI fun K Z=>?_;(repeat rw[Qa];simp[hi,hi',hx,hEx]);refine Z ?_;clear Z K);(refine sI fun K Z=>?_;(repeat rw[Qa];simp);refine Z ?_;clear Z K);refine Qc fun K2 hK2=>?_
  (refine sR fun K hK=>?_;(repeat rw[Qa];simp));refine cXr (hbi) ?_
  (repeat rw[Qa];simp)
  (refine hK _ _ _ ?_;clear hK K);cases bb with
  | true =>
   rw[if_pos rfl]at hbd;subst hbd;refine pT rfl ?_;(refine Qi Wa ?_;(repeat rw[Qa];simp));refine hK2 _ _ _ ?_;(refine Qi Wa ?_;(repeat rw[Qa];simp));refine cXr (hrec) ?_
   (repeat rw[Qa];simp)
   (refine hA2 ([0]) _ _ _ (LeT.refl _) (by decide) (by simp) (by simp[zM,Qh]) ?_ rfl;simp[zM]);exact hF
  | false =>
   rw[if_neg Bool.false_ne_true]at hbd;subst hbd;refine pF rfl ?_;refine Qg (hK2 _ _ _ ?_);(refine Qi Wa ?_;(repeat rw[Qa];simp));refine cXr (hrec) ?_
   (repeat rw[Qa];simp)
   (refine hA2 ([0]) _ _ _ (LeT.refl _) (by decide) (by simp) (by simp[zM,Qh]) ?_ rfl;simp[zM]);exact hF
 ·rintro ys hl tl' ⟨s,rfl,hF,rfl⟩ htl;refine hK1 _ _ _ (Xo htl ?_);simp only[Qh,List.set,List.map_cons,List.map_nil,List.cons_append,List.nil_append];rw[List.drop_length,T.sdws]at hF;subst hF;(refine sI fun K Z=>?_;(repeat rw[Qa];simp);refine Z ?_;clear Z K);(refine Qe ?_;(try simp only[zs]);refine Qk.ret rfl (.inl ?_);simp[zM])
theorem Qv{α:Type}(l:List C)(n:Int)(enc:α ->D)(r:Rs α):(∃x g,r= .ok (x,g)/\RP l n enc r=fun o hc=>o.fgt= .ret (enc x)/\hc=iO g l n)\/∃e,r= .error e/\RP l n enc r=fun o hc=>o= .pan (Wq e)/\hc= [.dead, .dead]:=by
 cases r with
 | ok v=>exact .inl ⟨v.1,v.2,rfl,rfl⟩
 | error e=>exact .inr ⟨e,rfl,rfl⟩
theorem Qkz{l:List C}{n f g:Int}:Sp 127 [.box 0 0, .int .i64 g, .int .i64 0] (iO f l n) (fun o hc=>o= .ret (.tuple [])/\hc=iO g l n):=by
 have mo:=Qbp 0;unfold iO Cs;refine eN Tryz.func127 rfl (by decide) rfl rfl ?_;(refine sI fun K Z=>?_;(repeat rw[Qa];simp);refine Z ?_;clear Z K);(refine Qi Wa ?_;(repeat rw[Qa];simp));refine cXp (mo) ?_;(try simp only[zr]);(repeat rw[Qa];simp);((try simp only[zs]);refine Qk.nrm rfl (.inr ⟨[],by decide,by simp,?_⟩);simp[zM])
theorem Qk0{l:List C}{n f g e:Int}(he:¬ e=0):Sp 127 [.box 0 0, .int .i64 g, .int .i64 e] (iO f l n) (fun o hc=>o= .pan (Wq e)/\hc= [.dead, .dead]):=by
 have mo:=Qbf e;unfold Wq at mo
 refine Spec.dead (Post:=fun o hc=>o= .pan (Wq e)/\hc=iO g l n) ?_ fun o hc hp=>⟨[.dead, .dead],fun r=>by
  rw[hp.2]
  match r with
  | 0=>exact .inr rfl
  | 1=>exact .inr rfl
  | r+2=>exact .inl rfl,hp.1,rfl⟩
 unfold iO Cs Wq;refine eN Tryz.func127 rfl (by decide) rfl rfl ?_;(refine sI fun K Z=>?_;(repeat rw[Qa];simp);refine Z ?_;clear Z K);(refine Qi Wa ?_;(repeat rw[Qa];simp[he]));refine cXp (mo) ?_;(try simp only[zr]);(repeat rw[Qa];simp);((try simp only[zs]);refine Qk.pan (.inr ⟨[],by decide,by simp,?_⟩);simp[zM])
theorem Qgm{l:List C}(hk:Kc l){n f:Int}{t:T}(h0:0<=f)(h1:f<=20000)(ht:okY f t):Sp 124 [.box 0 0,Qj t] (iO f l n) (RP l n Qj (hdR l t f)):=by
 have hp:=ht.okP h0 h1;refine RP.of ?_;have hEt:=Qb t;rcases Qgp l t h0 with ⟨⟨u,g⟩,e1,H⟩ | ⟨e1,H⟩
 ·rw[Qoz e1];obtain⟨m,H1,rfl,H2⟩:=H.cost;have wh:=Qto hk.cs h0 (by omega) hp.1 hp.2 H1 H2;have sp:=Qkz (l:=l) (n:=n) (f:=f) (g:=f - m);generalize f - (m:Int)=g at wh sp;have hEu:=Qb u;rw[hEt,hEu]at wh;rw[hEt,hEu];unfold Cs at wh;unfold iO Cs at sp;unfold iO Cs;refine eN Tryz.func124 rfl (by decide) rfl rfl ?_;(refine sI fun K Z=>?_;(repeat rw[Qa];simp);refine Z ?_;clear Z K);(refine Qc fun K hK=>?_;refine dR fun KT hKT=>?_;(repeat rw[Qd];simp));refine cYp (wh) ?_;(try simp only[zq]);(repeat rw[Qd];simp);(refine hKT _ _ _ _ (by kernel_rfl) ?_;clear hKT KT);(refine hK _ _ _ ?_;clear hK K);(refine sR fun K hK=>?_;(repeat rw[Qa];simp));refine cXo [0,1] false (sp) ?_;(rintro o hc ⟨rfl,rfl⟩;refine⟨false,?_⟩;simp[zU]);(try simp only[zr]);(repeat rw[Qa];simp);(refine hK _ _ _ ?_;clear hK K);(refine sI fun K Z=>?_;(repeat rw[Qa];simp);refine Z ?_;clear Z K);(refine Qe ?_;(try simp only[zs]);refine Qk.ret rfl (.inr ⟨[],by decide,by simp,?_⟩);simp[zM])
 ·rw[Qdd e1];have wh:Sp 36 [Cs l,Qj t, .int .i64 f] [] (rt (.tuple [Qj Xa, .int .i64 0, .int .i64 5])):=by
   cases H with
   | gone H=>exact Qo6 hk.cs h0 (by omega) hp.1 hp.2 H
  have sp:=Qk0 (l:=l) (n:=n) (f:=f) (g:=0) (e:=5) (by omega);rw[hEt,encZ]at wh;rw[hEt];unfold Cs at wh;unfold iO Cs Wq at sp;unfold iO Cs Wq;refine eN Tryz.func124 rfl (by decide) rfl rfl ?_;(refine sI fun K Z=>?_;(repeat rw[Qa];simp);refine Z ?_;clear Z K);(refine Qc fun K hK=>?_;refine dR fun KT hKT=>?_;(repeat rw[Qd];simp));refine cYp (wh) ?_;(try simp only[zq]);(repeat rw[Qd];simp);(refine hKT _ _ _ _ (by kernel_rfl) ?_;clear hKT KT);(refine hK _ _ _ ?_;clear hK K);(refine sR fun K hK=>?_;(repeat rw[Qa];simp));refine cXo [0,1] false (sp) ?_;(rintro o hc ⟨rfl,rfl⟩;refine⟨false,?_⟩;simp[zU]);((try simp only[zs]);refine Qk.pan (.inr ⟨[],by decide,by simp,?_⟩);simp[zM])
def asD(v:T×T):D:= .tuple [Qj v.1,Qj v.2]
theorem okY.pm{f:Int}{t:T}(h0:0<=f)(h:okY f t):t.pot<=PM:=by have:=h.2;unfold Yb at this;unfold PM;omega
theorem Qas{l:List C}(hk:Kc l){n f k e:Int}{t:T}(h0:0<=f)(h1:f<=20000)(ht:okY f t):Sp 119 [.box 0 0,Qj t, .int .i64 k, .int .i64 e] (iO f l n) (RP l n asD (asR l t k e f)):=by
 refine RP.of ?_;have hh:=Qgm hk (n:=n) h0 h1 ht;have hEt:=Qb t;rcases Qv l n Qj (hdR l t f)with ⟨x,g,e1,e2⟩ | ⟨e',e1,e2⟩
 ·rw[e2]at hh;have k0:=Qia x 0;have k1:=Qia x 1;have hEx:=Qb x;generalize hu:x.kid 0=u at k0;generalize hv:x.kid 1=v at k1;have hEu:=Qb u;have hEv:=Qb v;rw[hEt,hEx]at hh;rw[hEx,hEu]at k0;rw[hEx,hEv]at k1;rw[hEt];by_cases hkk:x.k=k
  ·rw[Qoz (show asR l t k e f= .ok ((u,v),g) by unfold asR;rw[e1,Rs.next_ok,if_pos hkk,hu,hv])];have mo:=Qbp e;rw[hkk]at k0 k1 hh;unfold asD;dsimp only;rw[hEu,hEv];unfold iO Cs at hh⊢;refine eN Tryz.func119 rfl (by decide) rfl rfl ?_;(refine sI fun K Z=>?_;(repeat rw[Qa];simp);refine Z ?_;clear Z K);(refine sR fun K hK=>?_;(repeat rw[Qa];simp));refine cXf [0,1] (hh) ?_;simp[zU]
   (repeat rw[Qa];simp)
   (refine hK _ _ _ ?_;clear hK K);(refine sR fun K hK=>?_;(repeat rw[Qa];simp));refine cXp (mo) ?_;(try simp only[zr]);(repeat rw[Qa];simp);(refine hK _ _ _ ?_;clear hK K);(refine Qc fun K hK=>?_;refine dR fun KT hKT=>?_;(repeat rw[Qd];simp));refine cYp (k0) ?_;(try simp only[zq]);(repeat rw[Qd];simp);refine cYp (k1) ?_;(try simp only[zq]);(repeat rw[Qd];simp);(refine hKT _ _ _ _ (by kernel_rfl) ?_;clear hKT KT);(refine hK _ _ _ ?_;clear hK K);(refine Qe ?_;(try simp only[zs]);refine Qk.ret rfl (.inr ⟨[],by decide,by simp,?_⟩);simp[zM])
  ·rw[Qdd (show asR l t k e f= .error e by unfold asR;rw[e1,Rs.next_ok,if_neg hkk])];have mo:=Qbf e;unfold iO Cs at hh;unfold Wq at mo;unfold iO Cs Wq;refine eN Tryz.func119 rfl (by decide) rfl rfl ?_;(refine sI fun K Z=>?_;(repeat rw[Qa];simp);refine Z ?_;clear Z K);(refine sR fun K hK=>?_;(repeat rw[Qa];simp));refine cXf [0,1] (hh) ?_;simp[zU]
   (repeat rw[Qa];simp)
   (refine hK _ _ _ ?_;clear hK K);(refine sR fun K hK=>?_;(repeat rw[Qa];simp[hkk]));refine cXp (mo) ?_;(try simp only[zr]);(repeat rw[Qa];simp);((try simp only[zs]);refine Qk.pan (.inr ⟨[],by decide,by simp,?_⟩);simp[zM])
 ·rw[e2]at hh;rw[Qdd (show asR l t k e f= .error e' by unfold asR;rw[e1,Rs.next_err])];rw[hEt]at hh;rw[hEt];unfold iO Cs Wq at hh;unfold iO Cs Wq;refine eN Tryz.func119 rfl (by decide) rfl rfl ?_;(refine sI fun K Z=>?_;(repeat rw[Qa];simp);refine Z ?_;clear Z K);(refine sR fun K hK=>?_;(repeat rw[Qa];simp));refine cXo [0,1] false (hh) ?_;(rintro o hc ⟨rfl,rfl⟩;refine⟨false,?_⟩;simp[zU]);((try simp only[zs]);refine Qk.pan (.inr ⟨[],by decide,by simp,?_⟩);simp[zM])
theorem Qb0{l:List C}(hk:Kc l){n f e:Int}{a b:T}(h0:0<=f)(h1:f<=20000)(ha:okY f a)(hb:okY f b):Sp 120 [.box 0 0,Qj a,Qj b, .int .i64 e] (iO f l n) (RP l n Xb (oneR l a b e f)):=by
 refine RP.of ?_;have hEa:=Qb a;have hEb:=Qb b;rcases Qie l a b h0 with ⟨⟨is,g⟩,q,e1,H⟩ | ⟨q,e1,H⟩
 ·have cv:=Qqx hk.cs h0 (by omega) (ha.okP h0 h1) (hb.okP h0 h1) H;have sp:=Qkz (l:=l) (n:=n) (f:=f) (g:=g);unfold Wb3 at cv;rw[hEa,hEb]at cv;rw[hEa,hEb];unfold Cs at cv;unfold iO Cs at sp;cases is with
  | true =>
   rw[Qoz (show oneR l a b e f= .ok ((),g) by unfold oneR;rw[e1,Rs.next_ok,if_pos rfl])];have mo:=Qbp e;unfold iO Cs Xb;refine eN Tryz.func120 rfl (by decide) rfl rfl ?_;(refine sI fun K Z=>?_;(repeat rw[Qa];simp);refine Z ?_;clear Z K);(refine Qc fun K hK=>?_;refine dR fun KT hKT=>?_;(repeat rw[Qd];simp));refine cYp (cv) ?_;(try simp only[zq]);(repeat rw[Qd];simp);(refine hKT _ _ _ _ (by kernel_rfl) ?_;clear hKT KT);(refine hK _ _ _ ?_;clear hK K);(refine sR fun K hK=>?_;(repeat rw[Qa];simp));refine cXo [0,1] false (sp) ?_;(rintro o hc ⟨rfl,rfl⟩;refine⟨false,?_⟩;simp[zU]);(try simp only[zr]);(repeat rw[Qa];simp);(refine hK _ _ _ ?_;clear hK K);(refine Qi Wa ?_;(repeat rw[Qa];simp));refine cXp (mo) ?_;(try simp only[zr]);(repeat rw[Qa];simp);((try simp only[zs]);refine Qk.nrm rfl (.inr ⟨[],by decide,by simp,?_⟩);simp[zM])
  | false =>
   rw[Qdd (show oneR l a b e f= .error e by unfold oneR;rw[e1,Rs.next_ok,if_neg (by simp)])];have mo:=Qbf e;unfold Wq at mo;unfold iO Cs Wq;refine eN Tryz.func120 rfl (by decide) rfl rfl ?_;(refine sI fun K Z=>?_;(repeat rw[Qa];simp);refine Z ?_;clear Z K);(refine Qc fun K hK=>?_;refine dR fun KT hKT=>?_;(repeat rw[Qd];simp));refine cYp (cv) ?_;(try simp only[zq]);(repeat rw[Qd];simp);(refine hKT _ _ _ _ (by kernel_rfl) ?_;clear hKT KT);(refine hK _ _ _ ?_;clear hK K);(refine sR fun K hK=>?_;(repeat rw[Qa];simp));refine cXo [0,1] false (sp) ?_;(rintro o hc ⟨rfl,rfl⟩;refine⟨false,?_⟩;simp[zU]);(try simp only[zr]);(repeat rw[Qa];simp);(refine hK _ _ _ ?_;clear hK K);(refine Qi Wa ?_;(repeat rw[Qa];simp));refine cXp (mo) ?_;(try simp only[zr]);(repeat rw[Qa];simp);((try simp only[zs]);refine Qk.pan (.inr ⟨[],by decide,by simp,?_⟩);simp[zM])
 ·have cv:=Qqx hk.cs h0 (by omega) (ha.okP h0 h1) (hb.okP h0 h1) H;have sp:=Qk0 (l:=l) (n:=n) (f:=f) (g:=0) (e:=5) (by omega);rw[Qdd (show oneR l a b e f= .error 5 by unfold oneR;rw[e1,Rs.next_err])];unfold Wb3 at cv;rw[hEa,hEb]at cv;rw[hEa,hEb];unfold Cs at cv;unfold iO Cs Wq at sp;unfold iO Cs Wq;refine eN Tryz.func120 rfl (by decide) rfl rfl ?_;(refine sI fun K Z=>?_;(repeat rw[Qa];simp);refine Z ?_;clear Z K);(refine Qc fun K hK=>?_;refine dR fun KT hKT=>?_;(repeat rw[Qd];simp));refine cYp (cv) ?_;(try simp only[zq]);(repeat rw[Qd];simp);(refine hKT _ _ _ _ (by kernel_rfl) ?_;clear hKT KT);(refine hK _ _ _ ?_;clear hK K);(refine sR fun K hK=>?_;(repeat rw[Qa];simp));refine cXo [0,1] false (sp) ?_;(rintro o hc ⟨rfl,rfl⟩;refine⟨false,?_⟩;simp[zU]);((try simp only[zs]);refine Qk.pan (.inr ⟨[],by decide,by simp,?_⟩);simp[zM])
theorem Qbz{l:List C}{n f:Int}{t a:T}(h1:f<=20000)(ht:okS t)(ha:okS a):Sp 122 [.box 0 0,Qj t,Qj a] (iO f l n) (RP l n Qj (Qn0 t a f)):=by
 refine RP.of ?_;have hb:((t.sd a.nsz 0:Nat):Int)<=9223372036854775807:=Int.le_trans (ht.sd ha) (by omega);have s1:=Qhs a ha.1;have s2:=Qwi a.sz t 0 ht.1;rw[Qnl a]at s1 s2;rw[Qnt,Qbu (n:=((t.sd a.nsz 0:Nat):Int)) (by omega) hb]at s2;have hp:=Qki t [a] (by unfold Ql;simp) (fun b hb=>by rw[Qha hb];exact⟨ha.1,ha.deep⟩) ht.deep ht.1;have bu:=Qbq (l:=l) (n:=n) (f:=f) (m:=((t.sd a.nsz 0:Nat):Int)) (by omega) (by omega);have hpr:Qn0 t a f=if((t.sd a.nsz 0:Nat):Int)<=f then .ok (t.put [a] 0,f - (t.sd a.nsz 0:Nat))else .error 5:=rfl
 have hbr:Qd1 ((t.sd a.nsz 0:Nat):Int) f=if((t.sd a.nsz 0:Nat):Int)<=f then .ok ((),f - (t.sd a.nsz 0:Nat))else .error 5:=rfl
 have hEt:=Qb t;have hEa:=Qb a;have L1:1<=Ql:=by unfold Ql;omega
 generalize ((t.sd a.nsz 0:Nat):Int)=c at s2 bu hpr hbr;generalize t.put [a] 0=r at hp hpr;have hEr:=Qb r;unfold Ts at hp;simp only[List.map_cons,List.map_nil]at hp;rw[hEt,hEa,hEr]at hp;rw[hEa]at s1;rw[hEt]at s2;rw[hEt,hEa];by_cases hc:c<=f
 ·rw[if_pos hc]at hpr hbr;rw[Qoz hpr,hEr];rw[hbr,RP_ok]at bu;unfold Xb iO Cs at bu;unfold iO Cs;refine eN Tryz.func122 rfl (by decide) rfl rfl ?_;(refine sI fun K Z=>?_;(repeat rw[Qa];simp);refine Z ?_;clear Z K);(refine Qc fun K hK=>?_;refine dR fun KT hKT=>?_;(repeat rw[Qd];simp));refine cYp (s1) ?_;(try simp only[zq]);(repeat rw[Qd];simp);refine cYp (s2) ?_;(try simp only[zq]);(repeat rw[Qd];simp);refine cYo [0,1] true true (bu) (fun o h e=>e) ?_;simp[zU];(try simp only[zq]);(repeat rw[Qd];simp);(refine hKT _ _ _ _ (by kernel_rfl) ?_;clear hKT KT);(refine hK _ _ _ ?_;clear hK K);(refine sR fun K hK=>?_;(repeat rw[Qa];simp[L1]));refine cXr (hp) ?_
  (repeat rw[Qa];simp)
  (refine hK _ _ _ ?_;clear hK K);(refine Qe ?_;(try simp only[zs]);refine Qk.ret rfl (.inr ⟨[],by decide,by simp,?_⟩);simp[zM])
 ·rw[if_neg hc]at hpr hbr;rw[Qdd hpr];rw[hbr,RP_err]at bu;unfold iO Cs Wq at bu;unfold iO Cs Wq;refine eN Tryz.func122 rfl (by decide) rfl rfl ?_;(refine sI fun K Z=>?_;(repeat rw[Qa];simp);refine Z ?_;clear Z K);(refine Qc fun K hK=>?_;refine dR fun KT hKT=>?_;(repeat rw[Qd];simp));refine cYp (s1) ?_;(try simp only[zq]);(repeat rw[Qd];simp);refine cYp (s2) ?_;(try simp only[zq]);(repeat rw[Qd];simp);refine cYo [0,1] true false (bu) (fun o h e=>e) ?_;simp[zU];((try simp only[Qt,Qu,Qr,Qw,Wi]);(repeat(refine Wr _ _ _ _ (by kernel_rfl) ?_;simp only[Qr,List.set,List.nil_append,List.cons_append,Nat.reduceAdd]));(try simp only[Qm]));(refine hKT _ _ _ _ (by kernel_rfl) ?_;clear hKT KT);simp[Xi];((try simp only[zs]);refine Qk.pan (.inr ⟨[],by decide,by simp,?_⟩);simp[zM])
theorem Qcq{l:List C}(hk:Kc l){n f:Int}{t:T}(h0:0<=f)(h1:f<=20000)(ht:okY f t):Sp 116 [.box 0 0,Qj t] (iO f l n) (RP l n Qn (lvR l t f)):=by
 refine RP.of ?_;have hh:=Qgm hk (n:=n) h0 h1 ht;have hEt:=Qb t;rcases Qv l n Qj (hdR l t f)with ⟨x,g,e1,e2⟩ | ⟨e',e1,e2⟩
 ·rw[e2]at hh;have hEx:=Qb x;rw[hEt,hEx]at hh;rw[hEt];unfold iO Cs at hh;by_cases hkk:x.k=2
  ·by_cases hl1:x.ls.length=1
   ·obtain⟨i,hi⟩:=List.length_eq_one_iff.1 hl1;rw[Qoz (show lvR l t f= .ok (i,g) by unfold lvR;rw[e1,Rs.next_ok,if_pos ⟨hkk,hl1⟩,hi];rfl)];have mo:=Qbp 7;rw[hi]at hh;simp only[List.map_cons,List.map_nil]at hh;unfold iO Cs;rw[show Qn i= .agg [.slice (i.map Wv) .any] from rfl]at hh⊢;refine eN Tryz.func116 rfl (by decide) rfl rfl ?_;(refine sI fun K Z=>?_;(repeat rw[Qa];simp);refine Z ?_;clear Z K);(refine sR fun K hK=>?_;(repeat rw[Qa];simp));refine cXf [0,1] (hh) ?_;simp[zU]
    (repeat rw[Qa];simp)
    (refine hK _ _ _ ?_;clear hK K);(refine sR fun K hK=>?_;(repeat rw[Qa];simp[hkk]));refine cXp (mo) ?_;(try simp only[zr]);(repeat rw[Qa];simp);(refine hK _ _ _ ?_;clear hK K);(refine sI fun K Z=>?_;(repeat rw[Qa];simp);refine Z ?_;clear Z K);(refine Qe ?_;(try simp only[zs]);refine Qk.ret rfl (.inr ⟨[],by decide,by simp,?_⟩);simp[zM])
   ·rw[Qdd (show lvR l t f= .error 7 by unfold lvR;rw[e1,Rs.next_ok,if_neg (fun h=>hl1 h.2)])];have hl2:¬ (x.ls.length:Int)=1:=by omega
    have mo:=Qbf 7;unfold Wq at mo;unfold iO Cs Wq;refine eN Tryz.func116 rfl (by decide) rfl rfl ?_;(refine sI fun K Z=>?_;(repeat rw[Qa];simp);refine Z ?_;clear Z K);(refine sR fun K hK=>?_;(repeat rw[Qa];simp));refine cXf [0,1] (hh) ?_;simp[zU]
    (repeat rw[Qa];simp)
    (refine hK _ _ _ ?_;clear hK K);(refine sR fun K hK=>?_;(repeat rw[Qa];simp[hkk,hl1,hl2]));refine cXp (mo) ?_;(try simp only[zr]);(repeat rw[Qa];simp);((try simp only[zs]);refine Qk.pan (.inr ⟨[],by decide,by simp,?_⟩);simp[zM])
  ·rw[Qdd (show lvR l t f= .error 7 by unfold lvR;rw[e1,Rs.next_ok,if_neg (fun h=>hkk h.1)])];have mo:=Qbf 7;unfold Wq at mo;unfold iO Cs Wq;refine eN Tryz.func116 rfl (by decide) rfl rfl ?_;(refine sI fun K Z=>?_;(repeat rw[Qa];simp);refine Z ?_;clear Z K);(refine sR fun K hK=>?_;(repeat rw[Qa];simp));refine cXf [0,1] (hh) ?_;simp[zU]
   (repeat rw[Qa];simp)
   (refine hK _ _ _ ?_;clear hK K);(refine sR fun K hK=>?_;(repeat rw[Qa];simp[hkk]));refine cXp (mo) ?_;(try simp only[zr]);(repeat rw[Qa];simp);((try simp only[zs]);refine Qk.pan (.inr ⟨[],by decide,by simp,?_⟩);simp[zM])
 ·rw[e2]at hh;rw[Qdd (show lvR l t f= .error e' by unfold lvR;rw[e1,Rs.next_err])];rw[hEt]at hh;rw[hEt];unfold iO Cs Wq at hh;unfold iO Cs Wq;refine eN Tryz.func116 rfl (by decide) rfl rfl ?_;(refine sI fun K Z=>?_;(repeat rw[Qa];simp);refine Z ?_;clear Z K);(refine sR fun K hK=>?_;(repeat rw[Qa];simp));refine cXo [0,1] false (hh) ?_;(rintro o hc ⟨rfl,rfl⟩;refine⟨false,?_⟩;simp[zU]);((try simp only[zs]);refine Qk.pan (.inr ⟨[],by decide,by simp,?_⟩);simp[zM])
theorem Wah(m:Int)(h0:0<m)(h1:m<=1000001):Sp 210 [.slice [] .full, .int .i64 m] [] (fun o hc=>o= .ret (.own 0 0)/\hc= [.row 5 []]):=by
 have hm0:¬ m<0:=by omega
 have hw:IntKind.i64.wrap m=m:=Qbu (by omega) (by omega);have hw0:IntKind.i64.wrap 0=0:=by decide
 have hle:0<=m:=by omega
 have hle2:m<=274877906944:=by omega
 refine eN Tryz.func210 rfl (by decide) rfl rfl ?_;(refine sI fun K Z=>?_;(repeat rw[Qa];simp);refine Z ?_;clear Z K);refine Qc fun K1 hK1=>?_
 (refine sI fun K Z=>?_;(repeat rw[Qa];simp[hm0]);refine Z ?_;clear Z K);refine pF rfl ?_;refine Qg (hK1 _ _ _ ?_);clear hK1 K1;refine Qc fun K1 hK1=>?_
 (refine sI fun K Z=>?_;(repeat rw[Qa];simp[hw,hw0]);refine Z ?_;clear Z K);(refine sI fun K Z=>?_;(repeat rw[Qa];simp[h0,hw,hw0]);refine Z ?_;clear Z K);refine pT rfl ?_;(refine Qi Wa ?_;(repeat rw[Qa];simp[hle,hle2,hw,hw0,Cp.isFull]));refine hK1 _ _ _ ?_;clear hK1 K1;(refine sI fun K Z=>?_;(repeat rw[Qa];simp);refine Z ?_;clear Z K);(refine Qe ?_;(try simp only[zs]);refine Qk.ret rfl (.inr ⟨[0],by decide,by simp,?_⟩);simp[zM])
def Qo1(c:List T)(x:T)(k:Nat):List T:=if k=0 then [] else if k=1 then c else c++ [x]
theorem Qs0(c:List T)(x:T)(hc:c.length<=1000000):Sp 184 [.slice [Ts c,Ts [x]] .any] [] (rt (Ts (c++ [x]))):=by
 have gr:=Wah ((c.length:Int)+1) (by omega) (by omega);have L1:c.length+1<=Ql:=by unfold Ql;omega
 have L2:c.length<=Ql:=by unfold Ql;omega
 have hw1:IntKind.i64.wrap (0+(c.length:Int))=c.length:=by rw[Qbu (by omega) (by omega)];omega
 have hw2:IntKind.i64.wrap ((c.length:Int)+1)=(c.length:Int)+1:=Qbu (by omega) (by omega);have hw3:IntKind.i64.wrap (c.length:Int)=c.length:=Qbu (by omega) (by omega);have hn1:¬ (c.length:Int)<0:=by omega
 have hn2:¬ (c.length:Int)+1<0:=by omega
 have hsz:∀y:T,(Qj y).size=5:=fun y=>by rw[Qb];rfl
 unfold Ts;simp only[List.map_append,List.map_cons,List.map_nil];refine eN Tryz.func184 rfl (by decide) rfl rfl ?_;(refine sI fun K Z=>?_;(repeat rw[Qa];simp);refine Z ?_;clear Z K);(refine sI fun K Z=>?_;(repeat rw[Qa];simp);refine Z ?_;clear Z K);refine Qc fun K1 hK1=>?_
 (refine sI fun K Z=>?_;(repeat rw[Qa];simp);refine Z ?_;clear Z K);refine Xm Wa Qf (ti:=3) (tk:=11) (tn:=10) (td:=12) (ts:=22) [5,11,12,13,14,15,16,17,18,19,20,21,22] [3] (2) (fun k ys hl=>ys= [.int .i64 ((Qo1 c x k).length:Nat)]/\hl= []) rfl rfl rfl rfl rfl rfl rfl rfl rfl rfl rfl rfl (by simp) (by decide) rfl (by first | assumption | omega | (unfold Ql;omega)) rfl (by kernel_rfl) (by decide) ?_ ?_ ?_
 ·exact⟨rfl,rfl⟩
 ·rintro i ys hl A hi ⟨rfl,rfl⟩ hA hA2;simp only[Qh,List.set,List.map_cons,List.map_nil,List.cons_append,List.nil_append];have hi2:i=0\/i=1:=by omega
  rcases hi2 with rfl | rfl
  ·simp only[show(Qo1 c x 0).length=0 from rfl];(refine sI fun K Z=>?_;(repeat rw[Qa];simp);refine Z ?_;clear Z K);(refine sI fun K Z=>?_;(repeat rw[Qa];simp[hw1,hw3]);refine Z ?_;clear Z K);(refine sI fun K Z=>?_;(repeat rw[Qa];simp[hn1]);refine Z ?_;clear Z K);refine pF rfl ?_;refine Qg ?_;(refine hA2 ([]) _ _ _ (LeT.refl _) (by decide) (by simp) (by simp[zM,Qh]) ?_ rfl;simp[zM]);rfl
  ·simp only[show(Qo1 c x 1).length=c.length from rfl];(refine sI fun K Z=>?_;(repeat rw[Qa];simp);refine Z ?_;clear Z K);(refine sI fun K Z=>?_;(repeat rw[Qa];simp[hw2]);refine Z ?_;clear Z K);(refine sI fun K Z=>?_;(repeat rw[Qa];simp[hn2]);refine Z ?_;clear Z K);refine pF rfl ?_;refine Qg ?_;(refine hA2 ([]) _ _ _ (LeT.refl _) (by decide) (by simp) (by simp[zM,Qh]) ?_ rfl;simp[zM]);simp[Qo1]
 ·rintro ys hl tl' ⟨rfl,rfl⟩ htl;refine hK1 _ _ _ (Xo htl ?_);simp only[Qh,List.set,List.map_cons,List.map_nil,List.cons_append,List.nil_append];clear hK1 K1;simp only[show(Qo1 c x 2).length=c.length+1 by simp[Qo1]];(refine sR fun K hK=>?_;(repeat rw[Qa];simp));refine cXo [] false (gr) ?_;(rintro o hc ⟨rfl,rfl⟩;refine⟨false,?_⟩;simp[zU]);(try simp only[zr]);(repeat rw[Qa];simp);(refine hK _ _ _ ?_;clear hK K);(refine Qxr [24] ?_;simp only[Qh,List.set,List.map_cons,List.map_nil]);refine Qc fun K1 hK1=>?_
  (refine sI fun K Z=>?_;(repeat rw[Qa];simp);refine Z ?_;clear Z K);refine Xm Wa Qf (ti:=3) (tk:=27) (tn:=26) (td:=28) (ts:=34) [8,27,28,29,30,31,32,33,34] [6] (2) (fun k ys hl=>ys= [.own 0 (Qo1 c x k).length]/\hl= [.row 5 ((Qo1 c x k).map Qj)]) rfl rfl rfl rfl rfl rfl rfl rfl rfl rfl rfl rfl (by simp) (by decide) rfl (by first | assumption | omega | (unfold Ql;omega)) rfl (by kernel_rfl) (by decide) ?_ ?_ ?_
  ·exact⟨rfl,rfl⟩
  ·rintro i ys hl A hi ⟨rfl,rfl⟩ hA hA2;simp only[Qh,List.set,List.map_cons,List.map_nil,List.cons_append,List.nil_append];have hi2:i=0\/i=1:=by omega
   rcases hi2 with rfl | rfl
   ·simp only[show(Qo1 c x 0).length=0 from rfl,show Qo1 c x 0= [] from rfl,List.map_nil];(refine sI fun K Z=>?_;(repeat rw[Qa];simp);refine Z ?_;clear Z K);(refine Qi Wa ?_;(repeat rw[Qa];simp[L2,hsz]));(refine hA2 ([1]) _ _ _ (LeT.refl _) (by decide) (by simp) (by simp[zM,Qh]) ?_ rfl;simp[zM]);simp[Qo1]
   ·simp only[show(Qo1 c x 1).length=c.length from rfl,show Qo1 c x 1=c from rfl];(refine sI fun K Z=>?_;(repeat rw[Qa];simp);refine Z ?_;clear Z K);(refine Qi Wa ?_;(repeat rw[Qa];simp[L1,hsz]));(refine hA2 ([1]) _ _ _ (LeT.refl _) (by decide) (by simp) (by simp[zM,Qh]) ?_ rfl;simp[zM]);simp[Qo1]
  ·rintro ys hl tl' ⟨rfl,rfl⟩ htl;refine hK1 _ _ _ (Xo htl ?_);simp only[Qh,List.set,List.map_cons,List.map_nil,List.cons_append,List.nil_append];simp only[show(Qo1 c x 2).length=c.length+1 by simp[Qo1],show(Qo1 c x 2).map Qj=c.map Qj++ [Qj x] by simp[Qo1]];(refine sI fun K Z=>?_;(repeat rw[Qa];simp);refine Z ?_;clear Z K);have hlen:(c.map Qj++ [Qj x]).length=c.length+1:=by simp
   (refine Qei 0 rfl ?_;simp[D.frzs,D.frz,HO.frz,Qam,FK.isB,FK.isM,FK.isO,D.isLen]);(refine Qe ?_;(try simp only[zs]);refine Qk.ret rfl (.inl ?_);simp[zM])
theorem Qfc(c:List T)(x:T)(hc:c.length<=1000000):Sp 121 [Ts c,Ts [x]] [] (rt (Ts (c++ [x]))):=by
 have cs:=Qs0 c x hc;have L2:2<=Ql:=by unfold Ql;omega
 have hEx:=Qb x;unfold Ts at cs⊢;obtain⟨r,hr⟩:∃r,c++ [x]=r:=⟨_,rfl⟩;rw[hr]at cs⊢;simp only[List.map_cons,List.map_nil]at cs⊢;refine eN Tryz.func121 rfl (by decide) rfl rfl ?_;(refine sI fun K Z=>?_;(repeat rw[Qa];simp);refine Z ?_;clear Z K);(refine sR fun K hK=>?_;(repeat rw[Qa];simp[L2]));refine cXr (cs) ?_
 (repeat rw[Qa];simp)
 (refine hK _ _ _ ?_;clear hK K);(refine Qe ?_;(try simp only[zs]);refine Qk.ret rfl (.inl ?_);simp[zM])
section
def IS(l:List C)(n:Int)(I:List T ->T ->Int ->Rs T)(F:Int):Prop:=∀c t f,0<=f ->f<=F ->Sub n (l.map C.lv) c t ->Cx c f ->Sp 79 [.box 0 0,Ts c,Qj t] (iO f l n) (RP l n Qj (I c t f))
def KS(l:List C)(n:Int)(K:List T ->T ->T ->Int ->Rs Unit)(F:Int):Prop:=∀c t y f,0<=f ->f<=F ->Sub n (l.map C.lv) c t ->Cx c f ->okY f y ->Sp 68 [.box 0 0,Ts c,Qj t,Qj y] (iO f l n) (RP l n Xb (K c t y f))
theorem Qbi{α:Type}{l:List C}{n:Int}{enc:α ->D}{r:Rs α}(x:α){g:Int}(h:r= .ok (x,g)):RQ l n enc r=fun o hc=>o.fgt= .ret (enc x)/\hc= [.cells 165 [.int .i64 g, .slice (l.map Qbj) .any, .int .i64 n, .map 1], .mp Qcl]:=by rw[h];rfl
theorem Wh{α:Type}{l:List C}{n:Int}{enc:α ->D}{r:Rs α}{e:Int}(h:r= .error e):RQ l n enc r=fun o hc=>o= .pan (.iface 33 (.int .i64 e))/\(hc= [.dead, .dead]\/∃f,hc= [.cells 165 [.int .i64 f, .slice (l.map Qbj) .any, .int .i64 n, .map 1], .mp Qcl]):=by rw[h];rfl
theorem Wfg{l:List T}(h:l.length=1):∃a,l= [a]:=List.length_eq_one_iff.1 h
theorem Qmt{l:List T}(h:l.length=2):∃a b,l= [a,b]:=by
 match l,h with
 | [a,b],_=>exact⟨a,b,rfl⟩
theorem Wff{l:List T}(h:l.length=3):∃a b c,l= [a,b,c]:=by
 match l,h with
 | [a,b,c],_=>exact⟨a,b,c,rfl⟩
theorem list_5{l:List T}(h:l.length=5):∃a b c d e,l= [a,b,c,d,e]:=by
 match l,h with
 | [a,b,c,d,e],_=>exact⟨a,b,c,d,e,rfl⟩
theorem list_6{l:List T}(h:l.length=6):∃a b c d e g,l= [a,b,c,d,e,g]:=by
 match l,h with
 | [a,b,c,d,e,g],_=>exact⟨a,b,c,d,e,g,rfl⟩
theorem Zd{l:List C}{n F:Int}{I:List T ->T ->Int ->Rs T}{J:List T ->T ->T ->Int ->Rs Unit}(hk:Kc l)(hF:F<=20000)(bI:IB l n I)(bJ:KB l n J)(hI:IS l n I F)(hJ:KS l n J F){c:List T}{t:T}{f:Int}(h0:0<=f)(h1:f<=F)(hs:Sub n (l.map C.lv) c t)(hc:Cx c f) :
  Sp 65 [.box 0 0,Ts c,Qj t] (iO f l n) (RP l n Qn (sortR l I c t f)):=by
 have h2:f<=20000:=by omega
 have hcl:=hc.len;have hcc:c.length<=1000000:=by omega
 have hEt:=Qb t;refine RP.of ?_;generalize hQ:RQ l n Qn (sortR l I c t f)=Q;rw[hEt];unfold iO Cs Ts;refine eN Tryz.func65 rfl (by decide) rfl rfl ?_;(refine sI fun K Z=>?_;(repeat rw[Qa];simp);refine Z ?_;clear Z K);(refine sR fun K hK=>?_;(repeat rw[Qa];simp));rcases Qv l n Qj (I c t f)with ⟨s,f1,e1,q1⟩ | ⟨ee,e1,q1⟩
 rotate_left
 ·have hh:=hI c t f h0 h1 hs hc;rw[q1]at hh;have hq:=hQ.symm.trans (Wh (e:=ee) (by simp only[e1,Rs.next_ok,Rs.next_err,↓reduceIte,sortR]));subst hq;clear hQ;simp only[hEt]at hh;unfold iO Cs Wq at hh
  try unfold Ts at hh
  refine cXg [0,1] (hh) ?_;simp[zU];((try simp only[zs]);refine Qk.pan (.inr ⟨[],by decide,by simp,?_⟩);simp[zM])
 have cc1:=hI c t f h0 h1 hs hc;rw[q1]at cc1;obtain⟨a1,b1,d1⟩:=bI _ _ _ _ _ h0 h2 hs hc e1;have hEs:=Qb s;simp only[hEt,hEs]at cc1;unfold iO Cs at cc1
 try unfold Ts at cc1
 refine cXf [0,1] (cc1) ?_;simp[zU]
 (repeat rw[Qa];simp)
 clear cc1 q1;rcases Qv l n Qn (lvR l s f1)with ⟨i,f2,e2,q2⟩ | ⟨ee,e2,q2⟩
 rotate_left
 ·have hh:=Qcq hk (n:=n) a1 (by omega) (d1.okY (by omega));rw[q2]at hh;have hq:=hQ.symm.trans (Wh (e:=ee) (by simp only[e1,e2,Rs.next_ok,Rs.next_err,↓reduceIte,sortR]));subst hq;clear hQ;simp only[hEs]at hh;unfold iO Cs Wq at hh
  try unfold Ts at hh
  refine cXg [0,1] (hh) ?_;simp[zU];((try simp only[zs]);refine Qk.pan (.inr ⟨[],by decide,by simp,?_⟩);simp[zM])
 have cc2:=Qcq hk (n:=n) a1 (by omega) (d1.okY (by omega));rw[q2]at cc2;have hEi:Qn i= .agg [.slice (i.map Wv) .any]:=rfl;simp only[hEs,hEi]at cc2;unfold iO Cs at cc2
 try unfold Ts at cc2
 skip
 refine cXf [0,1] (cc2) ?_;simp[zU]
 (repeat rw[Qa];simp)
 clear cc2 q2;have hq:=hQ.symm.trans (Qbi (i) (g:=f2) (by simp only[e1,e2,Rs.next_ok,Rs.next_err,↓reduceIte,sortR]));simp only[hEi]at hq;subst hq;clear hQ;(refine hK _ _ _ ?_;clear hK K);(refine Qe ?_;(try simp only[zs]);refine Qk.ret rfl (.inr ⟨[],by decide,by simp,?_⟩);simp[zM])
theorem Qd6{l:List C}{n F:Int}{I:List T ->T ->Int ->Rs T}{J:List T ->T ->T ->Int ->Rs Unit}(hk:Kc l)(hF:F<=20000)(bI:IB l n I)(bJ:KB l n J)(hI:IS l n I F)(hJ:KS l n J F){c:List T}{t y:T}{f:Int}(h0:0<=f)(h1:f<=F)(hs:Sub n (l.map C.lv) c t)(hc:Cx c f)(hy:okY f y) :
  Sp 204 [.box 0 0,Ts c,Qj t,Qj y] (iO f l n) (RP l n Xb (motiveR l I c t y f)):=by
 have h2:f<=20000:=by omega
 have hcl:=hc.len;have hcc:c.length<=1000000:=by omega
 have hEt:=Qb t;have hEy:=Qb y;refine RP.of ?_;generalize hQ:RQ l n Xb (motiveR l I c t y f)=Q;rw[hEt,hEy];unfold iO Cs Ts;refine eN Tryz.func204 rfl (by decide) rfl rfl ?_;(refine sI fun K Z=>?_;(repeat rw[Qa];simp);refine Z ?_;clear Z K);(refine sR fun K hK=>?_;(repeat rw[Qa];simp));rcases Qv l n Qj (I c t f)with ⟨s,f1,e1,q1⟩ | ⟨ee,e1,q1⟩
 rotate_left
 ·have hh:=hI c t f h0 h1 hs hc;rw[q1]at hh;have hq:=hQ.symm.trans (Wh (e:=ee) (by simp only[e1,Rs.next_ok,Rs.next_err,↓reduceIte,motiveR]));subst hq;clear hQ;simp only[hEt]at hh;unfold iO Cs Wq at hh
  try unfold Ts at hh
  refine cXg [0,1] (hh) ?_;simp[zU];((try simp only[zs]);refine Qk.pan (.inr ⟨[],by decide,by simp,?_⟩);simp[zM])
 have cc1:=hI c t f h0 h1 hs hc;rw[q1]at cc1;obtain⟨a1,b1,d1⟩:=bI _ _ _ _ _ h0 h2 hs hc e1;have hEs:=Qb s;simp only[hEt,hEs]at cc1;unfold iO Cs at cc1
 try unfold Ts at cc1
 refine cXf [0,1] (cc1) ?_;simp[zU]
 (repeat rw[Qa];simp)
 clear cc1 q1;rcases Qv l n asD (asR l s 4 8 f1)with ⟨v,f2,e2,q2⟩ | ⟨ee,e2,q2⟩
 rotate_left
 ·have hh:=Qas hk (n:=n) (k:=4) (e:=8) a1 (by omega) (d1.okY (by omega));rw[q2]at hh;have hq:=hQ.symm.trans (Wh (e:=ee) (by simp only[e1,e2,Rs.next_ok,Rs.next_err,↓reduceIte,motiveR]));subst hq;clear hQ;simp only[hEs]at hh;unfold iO Cs Wq at hh
  try unfold Ts at hh
  refine cXg [0,1] (hh) ?_;simp[zU];((try simp only[zs]);refine Qk.pan (.inr ⟨[],by decide,by simp,?_⟩);simp[zM])
 have cc2:=Qas hk (n:=n) (k:=4) (e:=8) a1 (by omega) (d1.okY (by omega));rw[q2]at cc2;obtain⟨a2,b2,d2,d3, -⟩:=Qbk hk.ok a1 (d1.okY h2) e2;obtain⟨va,vb⟩:=v;have hEva:=Qb va;have hEvb:=Qb vb;unfold asD at cc2;dsimp only at cc2;simp only[hEs,hEva,hEvb]at cc2;unfold iO Cs at cc2
 try unfold Ts at cc2
 refine cXf [0,1] (cc2) ?_;simp[zU]
 (repeat rw[Qa];simp)
 clear cc2 q2;(refine hK _ _ _ ?_;clear hK K);(refine sR fun K hK=>?_;(repeat rw[Qa];simp));rcases Qv l n Xb (oneR l va y 13 f2)with ⟨u3,f3,e3,q3⟩ | ⟨ee,e3,q3⟩
 rotate_left
 ·have hh:=Qb0 hk (n:=n) (e:=13) a2 (by omega) d2 (hy.le (by omega));rw[q3]at hh;have hq:=hQ.symm.trans (Wh (e:=ee) (by simp only[e1,e2,e3,Rs.next_ok,Rs.next_err,↓reduceIte,motiveR]));subst hq;clear hQ;simp only[hEva,hEy]at hh;unfold iO Cs Wq at hh
  try unfold Ts at hh
  refine cXg [0,1] (hh) ?_;simp[zU];((try simp only[zs]);refine Qk.pan (.inr ⟨[],by decide,by simp,?_⟩);simp[zM])
 have cc3:=Qb0 hk (n:=n) (e:=13) a2 (by omega) d2 (hy.le (by omega));rw[q3]at cc3;obtain⟨a3,b3⟩:=Qe9 a2 e3;unfold Xb at cc3;simp only[hEva,hEy]at cc3;unfold iO Cs at cc3
 try unfold Ts at cc3
 refine cXf [0,1] (cc3) ?_;simp[zU]
 (repeat rw[Qa];simp)
 clear cc3 q3;(refine hK _ _ _ ?_;clear hK K);refine Qi Wa ?_;(try simp only[zr]);(repeat rw[Qa];simp);rcases Qv l n Qn (lvR l vb f3)with ⟨i,f4,e4,q4⟩ | ⟨ee,e4,q4⟩
 rotate_left
 ·have hh:=Qcq hk (n:=n) a3 (by omega) (d3.le (by omega));rw[q4]at hh;have hq:=hQ.symm.trans (Wh (e:=ee) (by simp only[e1,e2,e3,e4,Rs.next_ok,Rs.next_err,↓reduceIte,motiveR]));subst hq;clear hQ;simp only[hEvb]at hh;unfold iO Cs Wq at hh
  try unfold Ts at hh
  refine cXg [0,1] (hh) ?_;simp[zU];((try simp only[zs]);refine Qk.pan (.inr ⟨[],by decide,by simp,?_⟩);simp[zM])
 have cc4:=Qcq hk (n:=n) a3 (by omega) (d3.le (by omega));rw[q4]at cc4;have hEi:Qn i= .agg [.slice (i.map Wv) .any]:=rfl;simp only[hEvb,hEi]at cc4;unfold iO Cs at cc4
 try unfold Ts at cc4
 refine cXf [0,1] (cc4) ?_;simp[zU]
 (repeat rw[Qa];simp)
 clear cc4 q4;have hq:=hQ.symm.trans (Qbi (()) (g:=f4) (by simp only[e1,e2,e3,e4,Rs.next_ok,Rs.next_err,↓reduceIte,motiveR]));simp only[Xb]at hq;subst hq;clear hQ;((try simp only[zs]);refine Qk.nrm rfl (.inr ⟨[],by decide,by simp,?_⟩);simp[zM])
end
section
theorem r_app{l:List C}{n F:Int}{I:List T ->T ->Int ->Rs T}{J:List T ->T ->T ->Int ->Rs Unit}(hk:Kc l)(hF:F<=20000)(bI:IB l n I)(bJ:KB l n J)(hI:IS l n I F)(hJ:KS l n J F){c:List T}{t:T}{f:Int}(h0:0<=f)(h1:f<=F)(hs:Sub n (l.map C.lv) c t)(hc:Cx c f)(hkk:t.k=6) :
  Sp 171 [.box 0 0,Ts c,Qj t] (iO f l n) (RP l n Qj (appR l I J c t f)):=by
 have h2:f<=20000:=by omega
 have hcl:=hc.len;have hcc:c.length<=1000000:=by omega
 have hl:=hs.ks hkk (m:=2);obtain⟨x0,x1,hks⟩:=Qmt hl;have z0:t.kid 0=x0:=by unfold T.kid;rw[hks];rfl
 have z1:t.kid 1=x1:=by unfold T.kid;rw[hks];rfl
 have hEt:Qj t= .agg [.int .i64 t.k, .int .i64 t.n, .int .i64 t.a, .slice (t.ls.map Qn) .any, .slice [Qj x0,Qj x1] .any]:=by rw[Qb t,hks];rfl
 have k0:=hs.kid (i:=0) (by omega) (by rw[hkk];rfl);rw[z0]at k0;have k1:=hs.kid (i:=1) (by omega) (by rw[hkk];rfl);rw[z1]at k1;have hE0:=Qb x0;have hE1:=Qb x1;have L1:1<=Ql:=by unfold Ql;omega
 have L2:2<=Ql:=by unfold Ql;omega
 have L3:3<=Ql:=by unfold Ql;omega
 refine RP.of ?_;generalize hQ:RQ l n Qj (appR l I J c t f)=Q;rw[hEt];simp only[hE0,hE1];unfold iO Cs Ts;refine eN Tryz.func171 rfl (by decide) rfl rfl ?_;(refine sI fun K Z=>?_;(repeat rw[Qa];simp);refine Z ?_;clear Z K);(refine sR fun K hK=>?_;(repeat rw[Qa];simp));rcases Qv l n Qj (I c x0 f)with ⟨s,f1,e1,q1⟩ | ⟨ee,e1,q1⟩
 rotate_left
 ·have hh:=hI c x0 f h0 h1 k0 hc;rw[q1]at hh;have hq:=hQ.symm.trans (Wh (e:=ee) (by simp only[e1,Rs.next_ok,Rs.next_err,↓reduceIte,appR,z0,z1]));subst hq;clear hQ;simp only[hE0]at hh;unfold iO Cs Wq at hh
  try unfold Ts at hh
  refine cXg [0,1] (hh) ?_;simp[zU];((try simp only[zs]);refine Qk.pan (.inr ⟨[],by decide,by simp,?_⟩);simp[zM])
 have cc1:=hI c x0 f h0 h1 k0 hc;rw[q1]at cc1;obtain⟨a1,b1,d1⟩:=bI _ _ _ _ _ h0 h2 k0 hc e1;have hEs:=Qb s;simp only[hE0,hEs]at cc1;unfold iO Cs at cc1
 try unfold Ts at cc1
 refine cXf [0,1] (cc1) ?_;simp[zU]
 (repeat rw[Qa];simp)
 clear cc1 q1;rcases Qv l n asD (asR l s 4 8 f1)with ⟨v,f2,e2,q2⟩ | ⟨ee,e2,q2⟩
 rotate_left
 ·have hh:=Qas hk (n:=n) (k:=4) (e:=8) a1 (by omega) (d1.okY (by omega));rw[q2]at hh;have hq:=hQ.symm.trans (Wh (e:=ee) (by simp only[e1,e2,Rs.next_ok,Rs.next_err,↓reduceIte,appR,z0,z1]));subst hq;clear hQ;simp only[hEs]at hh;unfold iO Cs Wq at hh
  try unfold Ts at hh
  refine cXg [0,1] (hh) ?_;simp[zU];((try simp only[zs]);refine Qk.pan (.inr ⟨[],by decide,by simp,?_⟩);simp[zM])
 have cc2:=Qas hk (n:=n) (k:=4) (e:=8) a1 (by omega) (d1.okY (by omega));rw[q2]at cc2;obtain⟨a2,b2,d2,d3, -⟩:=Qbk hk.ok a1 (d1.okY h2) e2;obtain⟨va,vb⟩:=v;have hEva:=Qb va;have hEvb:=Qb vb;unfold asD at cc2;dsimp only at cc2;simp only[hEs,hEva,hEvb]at cc2;unfold iO Cs at cc2
 try unfold Ts at cc2
 refine cXf [0,1] (cc2) ?_;simp[zU]
 (repeat rw[Qa];simp)
 clear cc2 q2;(refine hK _ _ _ ?_;clear hK K);(refine Qc fun K hK=>?_;refine dR fun KT hKT=>?_;(repeat rw[Qd];simp));rcases Qv l n Xb (J c x1 va f2)with ⟨u3,f3,e3,q3⟩ | ⟨ee,e3,q3⟩
 rotate_left
 ·have hh:=hJ c x1 va f2 a2 (by omega) k1 (hc.le (by omega)) d2;rw[q3]at hh;have hq:=hQ.symm.trans (Wh (e:=ee) (by simp only[e1,e2,e3,Rs.next_ok,Rs.next_err,↓reduceIte,appR,z0,z1]));subst hq;clear hQ;simp only[hE1,hEva]at hh;unfold iO Cs Wq at hh
  try unfold Ts at hh
  refine cYo [0,1] true false (hh) (fun o h e=>e) ?_;simp[zU];((try simp only[Qt,Qu,Qr,Qw,Wi]);(repeat(refine Wr _ _ _ _ (by kernel_rfl) ?_;simp only[Qr,List.set,List.nil_append,List.cons_append,Nat.reduceAdd]));(try simp only[Qm]));(refine hKT _ _ _ _ (by kernel_rfl) ?_;clear hKT KT);simp[Xi];((try simp only[zs]);refine Qk.pan (.inr ⟨[],by decide,by simp,?_⟩);simp[zM])
 have cc3:=hJ c x1 va f2 a2 (by omega) k1 (hc.le (by omega)) d2;rw[q3]at cc3;obtain⟨a3,b3⟩:=bJ _ _ _ _ _ _ a2 (by omega) k1 (hc.le (by omega)) d2 e3;unfold Xb at cc3;simp only[hE1,hEva]at cc3;unfold iO Cs at cc3
 try unfold Ts at cc3
 refine cYo [0,1] true true (cc3) (fun o h e=>e) ?_;simp[zU];(try simp only[zq]);(repeat rw[Qd];simp);clear cc3 q3;(refine hKT _ _ _ _ (by kernel_rfl) ?_;clear hKT KT);(refine hK _ _ _ ?_;clear hK K);(refine Qc fun K hK=>?_;refine dR fun KT hKT=>?_;(repeat rw[Qd];simp));rcases Qv l n Qj (Qn0 vb x1 f3)with ⟨w,f4,e4,q4⟩ | ⟨ee,e4,q4⟩
 rotate_left
 ·have hh:=Qbz (l:=l) (n:=n) (f:=f3) (t:=vb) (a:=x1) (by omega) ⟨d3.1,d3.pm (by omega)⟩ ⟨k1.ok,by have:=k1.pot;unfold PM;omega⟩;rw[q4]at hh;have hq:=hQ.symm.trans (Wh (e:=ee) (by simp only[e1,e2,e3,e4,Rs.next_ok,Rs.next_err,↓reduceIte,appR,z0,z1]));subst hq;clear hQ;simp only[hEvb,hE1]at hh;unfold iO Cs Wq at hh
  try unfold Ts at hh
  refine cYo [0,1] true false (hh) (fun o h e=>e) ?_;simp[zU];((try simp only[Qt,Qu,Qr,Qw,Wi]);(repeat(refine Wr _ _ _ _ (by kernel_rfl) ?_;simp only[Qr,List.set,List.nil_append,List.cons_append,Nat.reduceAdd]));(try simp only[Qm]));(refine hKT _ _ _ _ (by kernel_rfl) ?_;clear hKT KT);simp[Xi];((try simp only[zs]);refine Qk.pan (.inr ⟨[],by decide,by simp,?_⟩);simp[zM])
 have cc4:=Qbz (l:=l) (n:=n) (f:=f3) (t:=vb) (a:=x1) (by omega) ⟨d3.1,d3.pm (by omega)⟩ ⟨k1.ok,by have:=k1.pot;unfold PM;omega⟩;rw[q4]at cc4;have hEw:=Qb w;simp only[hEvb,hE1,hEw]at cc4;unfold iO Cs at cc4
 try unfold Ts at cc4
 refine cYo [0,1] true true (cc4) (fun o h e=>e) ?_;simp[zU];(try simp only[zq]);(repeat rw[Qd];simp);clear cc4 q4;have hq:=hQ.symm.trans (Qbi (w) (g:=f4) (by simp only[e1,e2,e3,e4,Rs.next_ok,Rs.next_err,↓reduceIte,appR,z0,z1]));simp only[hEw]at hq;subst hq;clear hQ;(refine hKT _ _ _ _ (by kernel_rfl) ?_;clear hKT KT);(refine hK _ _ _ ?_;clear hK K);(refine Qe ?_;(try simp only[zs]);refine Qk.ret rfl (.inr ⟨[],by decide,by simp,?_⟩);simp[zM])
theorem Wdc{l:List C}{n F:Int}{I:List T ->T ->Int ->Rs T}{J:List T ->T ->T ->Int ->Rs Unit}(hk:Kc l)(hF:F<=20000)(bI:IB l n I)(bJ:KB l n J)(hI:IS l n I F)(hJ:KS l n J F){c:List T}{t:T}{f:Int}(h0:0<=f)(h1:f<=F)(hs:Sub n (l.map C.lv) c t)(hc:Cx c f)(hkk:t.k=7) :
  Sp 126 [.box 0 0,Ts c,Qj t] (iO f l n) (RP l n Qj (letR l I J c t f)):=by
 have h2:f<=20000:=by omega
 have hcl:=hc.len;have hcc:c.length<=1000000:=by omega
 have hl:=hs.ks hkk (m:=3);obtain⟨x0,x1,x2,hks⟩:=Wff hl;have z0:t.kid 0=x0:=by unfold T.kid;rw[hks];rfl
 have z1:t.kid 1=x1:=by unfold T.kid;rw[hks];rfl
 have z2:t.kid 2=x2:=by unfold T.kid;rw[hks];rfl
 have hEt:Qj t= .agg [.int .i64 t.k, .int .i64 t.n, .int .i64 t.a, .slice (t.ls.map Qn) .any, .slice [Qj x0,Qj x1,Qj x2] .any]:=by rw[Qb t,hks];rfl
 have k0:=hs.kid (i:=0) (by omega) (by rw[hkk];rfl);rw[z0]at k0;have k1:=hs.kid (i:=1) (by omega) (by rw[hkk];rfl);rw[z1]at k1;obtain⟨c1,hc1⟩:∃c1,c1=c++ [x0]:=⟨_,rfl⟩;have k2:=hs.kidB (i:=2) hcc x0 (by omega) (by rw[hkk];rfl);rw[z2,<- hc1]at k2;have hE0:=Qb x0;have hE1:=Qb x1;have hE2:=Qb x2;have L1:1<=Ql:=by unfold Ql;omega
 have L2:2<=Ql:=by unfold Ql;omega
 have L3:3<=Ql:=by unfold Ql;omega
 refine RP.of ?_;generalize hQ:RQ l n Qj (letR l I J c t f)=Q;rw[hEt];simp only[hE0,hE1,hE2];unfold iO Cs Ts;refine eN Tryz.func126 rfl (by decide) rfl rfl ?_;(refine sI fun K Z=>?_;(repeat rw[Qa];simp);refine Z ?_;clear Z K);(refine sR fun K hK=>?_;(repeat rw[Qa];simp));rcases Qv l n Qn (sortR l I c x0 f)with ⟨i,f1,e1,q1⟩ | ⟨ee,e1,q1⟩
 rotate_left
 ·have hh:=Zd hk hF bI bJ hI hJ h0 h1 k0 hc;rw[q1]at hh;have hq:=hQ.symm.trans (Wh (e:=ee) (by simp only[e1,Rs.next_ok,Rs.next_err,↓reduceIte,letR,z0,z1,z2]));subst hq;clear hQ;simp only[hE0]at hh;unfold iO Cs Wq at hh
  try unfold Ts at hh
  refine cXg [0,1] (hh) ?_;simp[zU];((try simp only[zs]);refine Qk.pan (.inr ⟨[],by decide,by simp,?_⟩);simp[zM])
 have cc1:=Zd hk hF bI bJ hI hJ h0 h1 k0 hc;rw[q1]at cc1;obtain⟨a1,b1, -⟩:=Qai hk.ok bI h0 h2 k0 hc e1;have hEi:Qn i= .agg [.slice (i.map Wv) .any]:=rfl;simp only[hE0,hEi]at cc1;unfold iO Cs at cc1
 try unfold Ts at cc1
 refine cXf [0,1] (cc1) ?_;simp[zU]
 (repeat rw[Qa];simp)
 clear cc1 q1;(refine hK _ _ _ ?_;clear hK K);(refine Qc fun K hK=>?_;refine dR fun KT hKT=>?_;(repeat rw[Qd];simp));rcases Qv l n Xb (J c x1 x0 f1)with ⟨u2,f2,e2,q2⟩ | ⟨ee,e2,q2⟩
 rotate_left
 ·have hh:=hJ c x1 x0 f1 a1 (by omega) k1 (hc.le (by omega)) (k0.okY (by omega));rw[q2]at hh;have hq:=hQ.symm.trans (Wh (e:=ee) (by simp only[e1,e2,Rs.next_ok,Rs.next_err,↓reduceIte,letR,z0,z1,z2]));subst hq;clear hQ;simp only[hE1,hE0]at hh;unfold iO Cs Wq at hh
  try unfold Ts at hh
  refine cYo [0,1] true false (hh) (fun o h e=>e) ?_;simp[zU];((try simp only[Qt,Qu,Qr,Qw,Wi]);(repeat(refine Wr _ _ _ _ (by kernel_rfl) ?_;simp only[Qr,List.set,List.nil_append,List.cons_append,Nat.reduceAdd]));(try simp only[Qm]));(refine hKT _ _ _ _ (by kernel_rfl) ?_;clear hKT KT);simp[Xi];((try simp only[zs]);refine Qk.pan (.inr ⟨[],by decide,by simp,?_⟩);simp[zM])
 have cc2:=hJ c x1 x0 f1 a1 (by omega) k1 (hc.le (by omega)) (k0.okY (by omega));rw[q2]at cc2;obtain⟨a2,b2⟩:=bJ _ _ _ _ _ _ a1 (by omega) k1 (hc.le (by omega)) (k0.okY (by omega)) e2;unfold Xb at cc2;simp only[hE1,hE0]at cc2;unfold iO Cs at cc2
 try unfold Ts at cc2
 refine cYo [0,1] true true (cc2) (fun o h e=>e) ?_;simp[zU];(try simp only[zq]);(repeat rw[Qd];simp);clear cc2 q2;(refine hKT _ _ _ _ (by kernel_rfl) ?_;clear hKT KT);(refine hK _ _ _ ?_;clear hK K);(refine Qc fun K hK=>?_;refine dR fun KT hKT=>?_;(repeat rw[Qd];simp));rcases Qv l n Qj (Qn0 x2 x1 f2)with ⟨w,f3,e3,q3⟩ | ⟨ee,e3,q3⟩
 rotate_left
 ·have hh:=Qbz (l:=l) (n:=n) (f:=f2) (t:=x2) (a:=x1) (by omega) ⟨k2.ok,by have:=k2.pot;unfold PM;omega⟩ ⟨k1.ok,by have:=k1.pot;unfold PM;omega⟩;rw[q3]at hh;have hq:=hQ.symm.trans (Wh (e:=ee) (by simp only[e1,e2,e3,Rs.next_ok,Rs.next_err,↓reduceIte,letR,z0,z1,z2]));subst hq;clear hQ;simp only[hE2,hE1]at hh;unfold iO Cs Wq at hh
  try unfold Ts at hh
  refine cYo [0,1] true false (hh) (fun o h e=>e) ?_;simp[zU];((try simp only[Qt,Qu,Qr,Qw,Wi]);(repeat(refine Wr _ _ _ _ (by kernel_rfl) ?_;simp only[Qr,List.set,List.nil_append,List.cons_append,Nat.reduceAdd]));(try simp only[Qm]));(refine hKT _ _ _ _ (by kernel_rfl) ?_;clear hKT KT);simp[Xi];((try simp only[zs]);refine Qk.pan (.inr ⟨[],by decide,by simp,?_⟩);simp[zM])
 have cc3:=Qbz (l:=l) (n:=n) (f:=f2) (t:=x2) (a:=x1) (by omega) ⟨k2.ok,by have:=k2.pot;unfold PM;omega⟩ ⟨k1.ok,by have:=k1.pot;unfold PM;omega⟩;rw[q3]at cc3;have hEw:=Qb w;simp only[hE2,hE1,hEw]at cc3;unfold iO Cs at cc3
 try unfold Ts at cc3
 refine cYo [0,1] true true (cc3) (fun o h e=>e) ?_;simp[zU];(try simp only[zq]);(repeat rw[Qd];simp);clear cc3 q3;have hq:=hQ.symm.trans (Qbi (w) (g:=f3) (by simp only[e1,e2,e3,Rs.next_ok,Rs.next_err,↓reduceIte,letR,z0,z1,z2]));simp only[hEw]at hq;subst hq;clear hQ;(refine hKT _ _ _ _ (by kernel_rfl) ?_;clear hKT KT);(refine hK _ _ _ ?_;clear hK K);(refine Qe ?_;(try simp only[zs]);refine Qk.ret rfl (.inr ⟨[],by decide,by simp,?_⟩);simp[zM])
theorem Wdb{l:List C}{n F:Int}{I:List T ->T ->Int ->Rs T}{J:List T ->T ->T ->Int ->Rs Unit}(hk:Kc l)(hF:F<=20000)(bI:IB l n I)(bJ:KB l n J)(hI:IS l n I F)(hJ:KS l n J F){c:List T}{t:T}{f:Int}(h0:0<=f)(h1:f<=F)(hs:Sub n (l.map C.lv) c t)(hc:Cx c f)(hkk:t.k=7) :
  Sp 172 [.box 0 0,Ts c,Qj t] (iO f l n) (RP l n Qj (withinR l I J c t f)):=by
 have h2:f<=20000:=by omega
 have hcl:=hc.len;have hcc:c.length<=1000000:=by omega
 have hEt:=Qb t;have L1:1<=Ql:=by unfold Ql;omega
 have L2:2<=Ql:=by unfold Ql;omega
 have L3:3<=Ql:=by unfold Ql;omega
 refine RP.of ?_;generalize hQ:RQ l n Qj (withinR l I J c t f)=Q;rw[hEt];unfold iO Cs Ts;refine eN Tryz.func172 rfl (by decide) rfl rfl ?_;(refine sI fun K Z=>?_;(repeat rw[Qa];simp);refine Z ?_;clear Z K);(refine sR fun K hK=>?_;(repeat rw[Qa];simp));rcases Qv l n Qj (letR l I J c t f)with ⟨u,f1,e1,q1⟩ | ⟨ee,e1,q1⟩
 rotate_left
 ·have hh:=Wdc hk hF bI bJ hI hJ h0 h1 hs hc hkk;rw[q1]at hh;have hq:=hQ.symm.trans (Wh (e:=ee) (by simp only[e1,Rs.next_ok,Rs.next_err,↓reduceIte,withinR]));subst hq;clear hQ;simp only[hEt]at hh;unfold iO Cs Wq at hh
  try unfold Ts at hh
  refine cXg [0,1] (hh) ?_;simp[zU];((try simp only[zs]);refine Qk.pan (.inr ⟨[],by decide,by simp,?_⟩);simp[zM])
 have cc1:=Wdc hk hF bI bJ hI hJ h0 h1 hs hc hkk;rw[q1]at cc1;obtain⟨a1,b1,d1⟩:=Qob hk bI bJ h0 h2 hs hc hkk e1;have hEu:=Qb u;simp only[hEt,hEu]at cc1;unfold iO Cs at cc1
 try unfold Ts at cc1
 refine cXf [0,1] (cc1) ?_;simp[zU]
 (repeat rw[Qa];simp)
 clear cc1 q1;rcases Qv l n Qj (I c u f1)with ⟨w,f2,e2,q2⟩ | ⟨ee,e2,q2⟩
 rotate_left
 ·have hh:=hI c u f1 a1 (by omega) d1 (hc.le (by omega));rw[q2]at hh;have hq:=hQ.symm.trans (Wh (e:=ee) (by simp only[e1,e2,Rs.next_ok,Rs.next_err,↓reduceIte,withinR]));subst hq;clear hQ;simp only[hEu]at hh;unfold iO Cs Wq at hh
  try unfold Ts at hh
  refine cXg [0,1] (hh) ?_;simp[zU];((try simp only[zs]);refine Qk.pan (.inr ⟨[],by decide,by simp,?_⟩);simp[zM])
 have cc2:=hI c u f1 a1 (by omega) d1 (hc.le (by omega));rw[q2]at cc2;have hEw:=Qb w;simp only[hEu,hEw]at cc2;unfold iO Cs at cc2
 try unfold Ts at cc2
 refine cXf [0,1] (cc2) ?_;simp[zU]
 (repeat rw[Qa];simp)
 clear cc2 q2;have hq:=hQ.symm.trans (Qbi (w) (g:=f2) (by simp only[e1,e2,Rs.next_ok,Rs.next_err,↓reduceIte,withinR]));simp only[hEw]at hq;subst hq;clear hQ;(refine hK _ _ _ ?_;clear hK K);(refine Qe ?_;(try simp only[zs]);refine Qk.ret rfl (.inr ⟨[],by decide,by simp,?_⟩);simp[zM])
theorem r_lam{l:List C}{n F:Int}{I:List T ->T ->Int ->Rs T}{J:List T ->T ->T ->Int ->Rs Unit}(hk:Kc l)(hF:F<=20000)(bI:IB l n I)(bJ:KB l n J)(hI:IS l n I F)(hJ:KS l n J F){c:List T}{t:T}{f:Int}(h0:0<=f)(h1:f<=F)(hs:Sub n (l.map C.lv) c t)(hc:Cx c f)(hkk:t.k=5) :
  Sp 170 [.box 0 0,Ts c,Qj t] (iO f l n) (RP l n Qj (lamR l I c t f)):=by
 have h2:f<=20000:=by omega
 have hcl:=hc.len;have hcc:c.length<=1000000:=by omega
 have hl:=hs.ks hkk (m:=2);obtain⟨x0,x1,hks⟩:=Qmt hl;have z0:t.kid 0=x0:=by unfold T.kid;rw[hks];rfl
 have z1:t.kid 1=x1:=by unfold T.kid;rw[hks];rfl
 have hEt:Qj t= .agg [.int .i64 t.k, .int .i64 t.n, .int .i64 t.a, .slice (t.ls.map Qn) .any, .slice [Qj x0,Qj x1] .any]:=by rw[Qb t,hks];rfl
 have k0:=hs.kid (i:=0) (by omega) (by rw[hkk];rfl);rw[z0]at k0;obtain⟨c1,hc1⟩:∃c1,c1=c++ [x0]:=⟨_,rfl⟩;have k1:=hs.kidB (i:=1) hcc x0 (by omega) (by rw[hkk];rfl);rw[z1,<- hc1]at k1;have hE0:=Qb x0;have hE1:=Qb x1;have L1:1<=Ql:=by unfold Ql;omega
 have L2:2<=Ql:=by unfold Ql;omega
 have L3:3<=Ql:=by unfold Ql;omega
 have hb:=Qfc c x0 hcc;rw[<- hc1]at hb;unfold Ts at hb;simp only[List.map_cons,List.map_nil,hE0]at hb;refine RP.of ?_;generalize hQ:RQ l n Qj (lamR l I c t f)=Q;rw[hEt];simp only[hE0,hE1];unfold iO Cs Ts;refine eN Tryz.func170 rfl (by decide) rfl rfl ?_;(refine sI fun K Z=>?_;(repeat rw[Qa];simp);refine Z ?_;clear Z K);(refine sR fun K hK=>?_;(repeat rw[Qa];simp));rcases Qv l n Qn (sortR l I c x0 f)with ⟨i,f1,e1,q1⟩ | ⟨ee,e1,q1⟩
 rotate_left
 ·have hh:=Zd hk hF bI bJ hI hJ h0 h1 k0 hc;rw[q1]at hh;have hq:=hQ.symm.trans (Wh (e:=ee) (by simp only[e1,Rs.next_ok,Rs.next_err,↓reduceIte,lamR,z0,z1,<- hc1]));subst hq;clear hQ;simp only[hE0]at hh;unfold iO Cs Wq at hh
  try unfold Ts at hh
  refine cXg [0,1] (hh) ?_;simp[zU];((try simp only[zs]);refine Qk.pan (.inr ⟨[],by decide,by simp,?_⟩);simp[zM])
 have cc1:=Zd hk hF bI bJ hI hJ h0 h1 k0 hc;rw[q1]at cc1;obtain⟨a1,b1, -⟩:=Qai hk.ok bI h0 h2 k0 hc e1;have cx:Cx c1 f1:=by rw[hc1];exact hc.below k0 (by omega)
 have hEi:Qn i= .agg [.slice (i.map Wv) .any]:=rfl;simp only[hE0,hEi]at cc1;unfold iO Cs at cc1
 try unfold Ts at cc1
 refine cXf [0,1] (cc1) ?_;simp[zU]
 (repeat rw[Qa];simp)
 clear cc1 q1;(refine hK _ _ _ ?_;clear hK K);(refine Qc fun K hK=>?_;refine dR fun KT hKT=>?_;(repeat rw[Qd];simp[L1]));refine cYp (hb) ?_;(try simp only[zq]);(repeat rw[Qd];simp[L1,L2]);rcases Qv l n Qj (I c1 x1 f1)with ⟨s,f2,e2,q2⟩ | ⟨ee,e2,q2⟩
 rotate_left
 ·have hh:=hI c1 x1 f1 a1 (by omega) k1 cx;rw[q2]at hh;have hq:=hQ.symm.trans (Wh (e:=ee) (by simp only[e1,e2,Rs.next_ok,Rs.next_err,↓reduceIte,lamR,z0,z1,<- hc1]));subst hq;clear hQ;simp only[hE1]at hh;unfold iO Cs Wq at hh
  try unfold Ts at hh
  refine cYo [0,1] true false (hh) (fun o h e=>e) ?_;simp[zU];((try simp only[Qt,Qu,Qr,Qw,Wi]);(repeat(refine Wr _ _ _ _ (by kernel_rfl) ?_;simp only[Qr,List.set,List.nil_append,List.cons_append,Nat.reduceAdd]));(try simp only[Qm]));(refine hKT _ _ _ _ (by kernel_rfl) ?_;clear hKT KT);simp[Xi];((try simp only[zs]);refine Qk.pan (.inr ⟨[],by decide,by simp,?_⟩);simp[zM])
 have cc2:=hI c1 x1 f1 a1 (by omega) k1 cx;rw[q2]at cc2;have hEs:=Qb s;simp only[hE1,hEs]at cc2;unfold iO Cs at cc2
 try unfold Ts at cc2
 have ho:=Ze 4 [x0,s];obtain⟨w,hw⟩:∃w,ofT 4 [x0,s]=w:=⟨_,rfl⟩;have hEw:=Qb w;simp only[hw,List.map_cons,List.map_nil,hE0,hEs,hEw]at ho;refine cYo [0,1] true true (cc2) (fun o h e=>e) ?_;simp[zU];(try simp only[zq]);(repeat rw[Qd];simp);clear cc2 q2
 skip
 refine Xp.pureD Qf (ho) ?_ (by simp[D.deeps,D.deep,D.fgts,D.fgt]) (by simp[D.pures,D.pure,Cp.free,D.pures_map]) (by simp[Out.pure,D.pure,D.pures,Cp.free,D.pures_map]);(try simp only[zq]);(repeat rw[Qd];simp);have hq:=hQ.symm.trans (Qbi (w) (g:=f2) (by simp only[e1,e2,Rs.next_ok,Rs.next_err,↓reduceIte,lamR,z0,z1,<- hc1];rw[hw]));simp only[hEw]at hq;subst hq;clear hQ;(refine hKT _ _ _ _ (by kernel_rfl) ?_;clear hKT KT);(refine hK _ _ _ ?_;clear hK K);(refine Qe ?_;(try simp only[zs]);refine Qk.ret rfl (.inr ⟨[],by decide,by simp,?_⟩);simp[zM])
theorem Qnz{l:List C}{n F:Int}{I:List T ->T ->Int ->Rs T}{J:List T ->T ->T ->Int ->Rs Unit}(hk:Kc l)(hF:F<=20000)(bI:IB l n I)(bJ:KB l n J)(hI:IS l n I F)(hJ:KS l n J F){c:List T}{t:T}{f:Int}(h0:0<=f)(h1:f<=F)(hs:Sub n (l.map C.lv) c t)(hc:Cx c f)(hkk:t.k=4\/t.k=12\/t.k=16) :
  Sp 169 [.box 0 0,Ts c,Qj t] (iO f l n) (RP l n Qj (formerR l I c t f)):=by
 have h2:f<=20000:=by omega
 have hcl:=hc.len;have hcc:c.length<=1000000:=by omega
 have hl:t.ks.length=2:=by rcases hkk with e | e | e <;> exact hs.ks e (m:=2)
 obtain⟨x0,x1,hks⟩:=Qmt hl;have z0:t.kid 0=x0:=by unfold T.kid;rw[hks];rfl
 have z1:t.kid 1=x1:=by unfold T.kid;rw[hks];rfl
 have hEt:Qj t= .agg [.int .i64 t.k, .int .i64 t.n, .int .i64 t.a, .slice (t.ls.map Qn) .any, .slice [Qj x0,Qj x1] .any]:=by rw[Qb t,hks];rfl
 have k0:=hs.kid (i:=0) (by omega) (by rcases hkk with e | e | e <;> (rw[e];rfl));rw[z0]at k0;obtain⟨c1,hc1⟩:∃c1,c1=c++ [x0]:=⟨_,rfl⟩;have k1:=hs.kidB (i:=1) hcc x0 (by omega) (by rcases hkk with e | e | e <;> (rw[e];rfl));rw[z1,<- hc1]at k1;have hE0:=Qb x0;have hE1:=Qb x1;have L1:1<=Ql:=by unfold Ql;omega
 have L2:2<=Ql:=by unfold Ql;omega
 have L3:3<=Ql:=by unfold Ql;omega
 have hb:=Qfc c x0 hcc;rw[<- hc1]at hb;unfold Ts at hb;simp only[List.map_cons,List.map_nil,hE0]at hb;refine RP.of ?_;generalize hQ:RQ l n Qj (formerR l I c t f)=Q;rw[hEt];simp only[hE0,hE1];unfold iO Cs Ts;refine eN Tryz.func169 rfl (by decide) rfl rfl ?_;(refine sI fun K Z=>?_;(repeat rw[Qa];simp);refine Z ?_;clear Z K);(refine sR fun K hK=>?_;(repeat rw[Qa];simp));rcases Qv l n Qn (sortR l I c x0 f)with ⟨i,f1,e1,q1⟩ | ⟨ee,e1,q1⟩
 rotate_left
 ·have hh:=Zd hk hF bI bJ hI hJ h0 h1 k0 hc;rw[q1]at hh;have hq:=hQ.symm.trans (Wh (e:=ee) (by simp only[e1,Rs.next_ok,Rs.next_err,↓reduceIte,formerR,z0,z1,<- hc1]));subst hq;clear hQ;simp only[hE0]at hh;unfold iO Cs Wq at hh
  try unfold Ts at hh
  refine cXg [0,1] (hh) ?_;simp[zU];((try simp only[zs]);refine Qk.pan (.inr ⟨[],by decide,by simp,?_⟩);simp[zM])
 have cc1:=Zd hk hF bI bJ hI hJ h0 h1 k0 hc;rw[q1]at cc1;obtain⟨a1,b1,oi⟩:=Qai hk.ok bI h0 h2 k0 hc e1;have cx:Cx c1 f1:=by rw[hc1];exact hc.below k0 (by omega)
 have hEi:Qn i= .agg [.slice (i.map Wv) .any]:=rfl;simp only[hE0,hEi]at cc1;unfold iO Cs at cc1
 try unfold Ts at cc1
 refine cXf [0,1] (cc1) ?_;simp[zU]
 (repeat rw[Qa];simp)
 clear cc1 q1;(refine hK _ _ _ ?_;clear hK K);(refine Qc fun K hK=>?_;refine dR fun KT hKT=>?_;(repeat rw[Qd];simp[L1]));refine cYp (hb) ?_;(try simp only[zq]);(repeat rw[Qd];simp[L1,L2]);rcases Qv l n Qn (sortR l I c1 x1 f1)with ⟨j,f2,e2,q2⟩ | ⟨ee,e2,q2⟩
 rotate_left
 ·have hh:=Zd hk hF bI bJ hI hJ a1 (by omega) k1 cx;rw[q2]at hh;have hq:=hQ.symm.trans (Wh (e:=ee) (by simp only[e1,e2,Rs.next_ok,Rs.next_err,↓reduceIte,formerR,z0,z1,<- hc1]));subst hq;clear hQ;simp only[hE1]at hh;unfold iO Cs Wq at hh
  try unfold Ts at hh
  refine cYo [0,1] true false (hh) (fun o h e=>e) ?_;simp[zU];((try simp only[Qt,Qu,Qr,Qw,Wi]);(repeat(refine Wr _ _ _ _ (by kernel_rfl) ?_;simp only[Qr,List.set,List.nil_append,List.cons_append,Nat.reduceAdd]));(try simp only[Qm]));(refine hKT _ _ _ _ (by kernel_rfl) ?_;clear hKT KT);simp[Xi];((try simp only[zs]);refine Qk.pan (.inr ⟨[],by decide,by simp,?_⟩);simp[zM])
 have cc2:=Zd hk hF bI bJ hI hJ a1 (by omega) k1 cx;rw[q2]at cc2;obtain⟨a2,b2,oj⟩:=Qai hk.ok bI a1 (by omega) k1 cx e2;have hEj:Qn j= .agg [.slice (j.map Wv) .any]:=rfl;simp only[hE1,hEj]at cc2;unfold iO Cs at cc2
 try unfold Ts at cc2
 have hm:=Wdx [i,j] (by unfold Ql;simp) (fun x hx=>by
  simp only[List.mem_cons,List.not_mem_nil,or_false]at hx;rcases hx with rfl | rfl
  ·exact oi.1
  ·exact oj.1)
 unfold Lvs at hm;simp only[List.map_cons,List.map_nil]at hm;obtain⟨u,hu⟩:∃u,Wf [i,j].flatten=u:=⟨_,rfl⟩;rw[hu]at hm;have hEu:Qn u= .agg [.slice (u.map Wv) .any]:=rfl;simp only[hEi,hEj,hEu]at hm;have hn:=Qh8 u;obtain⟨w,hw⟩:∃w,Qir u=w:=⟨_,rfl⟩;rw[hw]at hn;have hEw:=Qb w;simp only[hEu,hEw]at hn;refine cYo [0,1] true true (cc2) (fun o h e=>e) ?_;simp[zU];(try simp only[zq]);(repeat rw[Qd];simp);clear cc2 q2;refine cYp (hm) ?_;(try simp only[zq]);(repeat rw[Qd];simp);refine cYp (hn) ?_;(try simp only[zq]);(repeat rw[Qd];simp);have hq:=hQ.symm.trans (Qbi (w) (g:=f2) (by simp only[e1,e2,Rs.next_ok,Rs.next_err,↓reduceIte,formerR,z0,z1,<- hc1];rw[hu,hw]));simp only[hEw]at hq;subst hq;clear hQ;(refine hKT _ _ _ _ (by kernel_rfl) ?_;clear hKT KT);(refine hK _ _ _ ?_;clear hK K);(refine Qe ?_;(try simp only[zs]);refine Qk.ret rfl (.inr ⟨[],by decide,by simp,?_⟩);simp[zM])
theorem r_id{l:List C}{n F:Int}{I:List T ->T ->Int ->Rs T}{J:List T ->T ->T ->Int ->Rs Unit}(hk:Kc l)(hF:F<=20000)(bI:IB l n I)(bJ:KB l n J)(hI:IS l n I F)(hJ:KS l n J F){c:List T}{t:T}{f:Int}(h0:0<=f)(h1:f<=F)(hs:Sub n (l.map C.lv) c t)(hc:Cx c f)(hkk:t.k=19) :
  Sp 175 [.box 0 0,Ts c,Qj t] (iO f l n) (RP l n Qj (idR l I J c t f)):=by
 have h2:f<=20000:=by omega
 have hcl:=hc.len;have hcc:c.length<=1000000:=by omega
 have hl:=hs.ks hkk (m:=3);obtain⟨x0,x1,x2,hks⟩:=Wff hl;have z0:t.kid 0=x0:=by unfold T.kid;rw[hks];rfl
 have z1:t.kid 1=x1:=by unfold T.kid;rw[hks];rfl
 have z2:t.kid 2=x2:=by unfold T.kid;rw[hks];rfl
 have hEt:Qj t= .agg [.int .i64 t.k, .int .i64 t.n, .int .i64 t.a, .slice (t.ls.map Qn) .any, .slice [Qj x0,Qj x1,Qj x2] .any]:=by rw[Qb t,hks];rfl
 have k0:=hs.kid (i:=0) (by omega) (by rw[hkk];rfl);rw[z0]at k0;have k1:=hs.kid (i:=1) (by omega) (by rw[hkk];rfl);rw[z1]at k1;have k2:=hs.kid (i:=2) (by omega) (by rw[hkk];rfl);rw[z2]at k2;have hE0:=Qb x0;have hE1:=Qb x1;have hE2:=Qb x2;have L1:1<=Ql:=by unfold Ql;omega
 have L2:2<=Ql:=by unfold Ql;omega
 have L3:3<=Ql:=by unfold Ql;omega
 refine RP.of ?_;generalize hQ:RQ l n Qj (idR l I J c t f)=Q;rw[hEt];simp only[hE0,hE1,hE2];unfold iO Cs Ts;refine eN Tryz.func175 rfl (by decide) rfl rfl ?_;(refine sI fun K Z=>?_;(repeat rw[Qa];simp);refine Z ?_;clear Z K);(refine sR fun K hK=>?_;(repeat rw[Qa];simp));rcases Qv l n Qn (sortR l I c x0 f)with ⟨i,f1,e1,q1⟩ | ⟨ee,e1,q1⟩
 rotate_left
 ·have hh:=Zd hk hF bI bJ hI hJ h0 h1 k0 hc;rw[q1]at hh;have hq:=hQ.symm.trans (Wh (e:=ee) (by simp only[e1,Rs.next_ok,Rs.next_err,↓reduceIte,idR,z0,z1,z2]));subst hq;clear hQ;simp only[hE0]at hh;unfold iO Cs Wq at hh
  try unfold Ts at hh
  refine cXg [0,1] (hh) ?_;simp[zU];((try simp only[zs]);refine Qk.pan (.inr ⟨[],by decide,by simp,?_⟩);simp[zM])
 have cc1:=Zd hk hF bI bJ hI hJ h0 h1 k0 hc;rw[q1]at cc1;obtain⟨a1,b1, -⟩:=Qai hk.ok bI h0 h2 k0 hc e1;have hEi:Qn i= .agg [.slice (i.map Wv) .any]:=rfl;simp only[hE0,hEi]at cc1;unfold iO Cs at cc1
 try unfold Ts at cc1
 refine cXf [0,1] (cc1) ?_;simp[zU]
 (repeat rw[Qa];simp)
 clear cc1 q1;(refine hK _ _ _ ?_;clear hK K);(refine Qc fun K hK=>?_;refine dR fun KT hKT=>?_;(repeat rw[Qd];simp));rcases Qv l n Xb (J c x1 x0 f1)with ⟨u2,f2,e2,q2⟩ | ⟨ee,e2,q2⟩
 rotate_left
 ·have hh:=hJ c x1 x0 f1 a1 (by omega) k1 (hc.le (by omega)) (k0.okY (by omega));rw[q2]at hh;have hq:=hQ.symm.trans (Wh (e:=ee) (by simp only[e1,e2,Rs.next_ok,Rs.next_err,↓reduceIte,idR,z0,z1,z2]));subst hq;clear hQ;simp only[hE1,hE0]at hh;unfold iO Cs Wq at hh
  try unfold Ts at hh
  refine cYo [0,1] true false (hh) (fun o h e=>e) ?_;simp[zU];((try simp only[Qt,Qu,Qr,Qw,Wi]);(repeat(refine Wr _ _ _ _ (by kernel_rfl) ?_;simp only[Qr,List.set,List.nil_append,List.cons_append,Nat.reduceAdd]));(try simp only[Qm]));(refine hKT _ _ _ _ (by kernel_rfl) ?_;clear hKT KT);simp[Xi];((try simp only[zs]);refine Qk.pan (.inr ⟨[],by decide,by simp,?_⟩);simp[zM])
 have cc2:=hJ c x1 x0 f1 a1 (by omega) k1 (hc.le (by omega)) (k0.okY (by omega));rw[q2]at cc2;obtain⟨a2,b2⟩:=bJ _ _ _ _ _ _ a1 (by omega) k1 (hc.le (by omega)) (k0.okY (by omega)) e2;unfold Xb at cc2;simp only[hE1,hE0]at cc2;unfold iO Cs at cc2
 try unfold Ts at cc2
 refine cYo [0,1] true true (cc2) (fun o h e=>e) ?_;simp[zU];(try simp only[zq]);(repeat rw[Qd];simp);clear cc2 q2;(refine hKT _ _ _ _ (by kernel_rfl) ?_;clear hKT KT);(refine hK _ _ _ ?_;clear hK K);(refine Qc fun K hK=>?_;refine dR fun KT hKT=>?_;(repeat rw[Qd];simp));rcases Qv l n Xb (J c x2 x0 f2)with ⟨u3,f3,e3,q3⟩ | ⟨ee,e3,q3⟩
 rotate_left
 ·have hh:=hJ c x2 x0 f2 a2 (by omega) k2 (hc.le (by omega)) (k0.okY (by omega));rw[q3]at hh;have hq:=hQ.symm.trans (Wh (e:=ee) (by simp only[e1,e2,e3,Rs.next_ok,Rs.next_err,↓reduceIte,idR,z0,z1,z2]));subst hq;clear hQ;simp only[hE2,hE0]at hh;unfold iO Cs Wq at hh
  try unfold Ts at hh
  refine cYo [0,1] true false (hh) (fun o h e=>e) ?_;simp[zU];((try simp only[Qt,Qu,Qr,Qw,Wi]);(repeat(refine Wr _ _ _ _ (by kernel_rfl) ?_;simp only[Qr,List.set,List.nil_append,List.cons_append,Nat.reduceAdd]));(try simp only[Qm]));(refine hKT _ _ _ _ (by kernel_rfl) ?_;clear hKT KT);simp[Xi];((try simp only[zs]);refine Qk.pan (.inr ⟨[],by decide,by simp,?_⟩);simp[zM])
 have cc3:=hJ c x2 x0 f2 a2 (by omega) k2 (hc.le (by omega)) (k0.okY (by omega));rw[q3]at cc3;unfold Xb at cc3;simp only[hE2,hE0]at cc3;unfold iO Cs at cc3
 try unfold Ts at cc3
 refine cYo [0,1] true true (cc3) (fun o h e=>e) ?_;simp[zU];(try simp only[zq]);(repeat rw[Qd];simp);clear cc3 q3;(refine hKT _ _ _ _ (by kernel_rfl) ?_;clear hKT KT);(refine hK _ _ _ ?_;clear hK K);have hn:=Qh8 i;obtain⟨w,hw⟩:∃w,Qir i=w:=⟨_,rfl⟩;rw[hw]at hn;have hEw:=Qb w;simp only[hEi,hEw]at hn;(refine sR fun K hK=>?_;(repeat rw[Qa];simp));refine cXr (hn) ?_
 (repeat rw[Qa];simp)
 have hq:=hQ.symm.trans (Qbi (w) (g:=f3) (by simp only[e1,e2,e3,Rs.next_ok,Rs.next_err,↓reduceIte,idR,z0,z1,z2];rw[hw]));simp only[hEw]at hq;subst hq;clear hQ;(refine hK _ _ _ ?_;clear hK K);(refine Qe ?_;(try simp only[zs]);refine Qk.ret rfl (.inr ⟨[],by decide,by simp,?_⟩);simp[zM])
end
theorem Wck(l:List C)(n:Int)(lv:List LV):Qjq l n lv=match atC l n lv with
  | some c=>c.ty.levels lv 0
  | none=>Xa:=by
 unfold Qjq atC;split
 ·split <;> rfl
 ·rfl
theorem Qx1(l:List C)(hk:Kc l)(n:Int)(lv:List LV)(hv:lv.length<=Ql)(hvl:∀b,b∈lv ->b.length<=Ql):∃b,Sp 202 [Cs l, .int .i64 n, .slice (lv.map Qn) .any] [] (rt (.tuple [Qj (Qjq l n lv), .bool b])):=by
 have ha:=Wbi l hk.cs.len n lv;rw[Wck];cases hc:atC l n lv with
 | none =>
  refine⟨false,?_⟩;rw[hc]at ha;simp only[Option.getD_none,Option.isSome_none]at ha⊢;rw[encZ];unfold Cs Qhn at ha;unfold Cs;refine eN Tryz.func202 rfl (by decide) rfl rfl ?_;(refine sI fun K Z=>?_;(repeat rw[Qa];simp);refine Z ?_;clear Z K);(refine sR fun K hK=>?_;(repeat rw[Qa];simp));refine cXr (ha) ?_
  (repeat rw[Qa];simp)
  (refine hK _ _ _ ?_;clear hK K);refine Qc fun K1 hK1=>?_
  (refine sI fun K Z=>?_;(repeat rw[Qa];simp);refine Z ?_;clear Z K);refine pT rfl ?_;(refine sI fun K Z=>?_;(repeat rw[Qa];simp);refine Z ?_;clear Z K);(refine Qe ?_;(try simp only[zs]);refine Qk.ret rfl (.inl ?_);simp[zM])
 | some c =>
  refine⟨true,?_⟩;rw[hc]at ha;simp only[Option.getD_some,Option.isSome_some]at ha⊢;have hm:=Wbj hc;have hty:=(hk.ok c hm).2.1;have hd:c.ty.deep<=DM:=by have:=c.ty.deep_nsz;have:=hk.ty c hm;unfold DM;omega
  have hs:=Qkv c.ty lv hv hvl hd hty;rw[Qax c]at ha;rw[Qb c.ty]at hs;generalize c.ty.levels lv 0=r at hs⊢;have hEr:=Qb r;unfold Lvs at hs;unfold Cs at ha⊢;refine eN Tryz.func202 rfl (by decide) rfl rfl ?_;(refine sI fun K Z=>?_;(repeat rw[Qa];simp);refine Z ?_;clear Z K);(refine sR fun K hK=>?_;(repeat rw[Qa];simp));refine cXr (ha) ?_
  (repeat rw[Qa];simp)
  (refine hK _ _ _ ?_;clear hK K);refine Qc fun K1 hK1=>?_
  (refine sI fun K Z=>?_;(repeat rw[Qa];simp);refine Z ?_;clear Z K);refine pF rfl ?_;refine Qg (hK1 _ _ _ ?_);(refine sR fun K hK=>?_;(repeat rw[Qa];simp));refine cXr (hs) ?_
  (repeat rw[Qa];simp)
  (refine hK _ _ _ ?_;clear hK K);(refine Qe ?_;(try simp only[zs]);refine Qk.ret rfl (.inl ?_);simp[zM]);exact hEr.symm
section
theorem Qv7{l:List C}{n F:Int}{I:List T ->T ->Int ->Rs T}{J:List T ->T ->T ->Int ->Rs Unit}(hk:Kc l)(hF:F<=20000)(bI:IB l n I)(bJ:KB l n J)(hI:IS l n I F)(hJ:KS l n J F){c:List T}{t:T}{f:Int}(h0:0<=f)(h1:f<=F)(hs:Sub n (l.map C.lv) c t)(hc:Cx c f)(hkk:t.k=1) :
  Sp 166 [.box 0 0,Ts c,Qj t] (iO f l n) (RP l n Qj (Qfq c t f)):=by
 have h2:f<=20000:=by omega
 have hcl:=hc.len;have hcc:c.length<=1000000:=by omega
 have hEt:=Qb t;have L1:1<=Ql:=by unfold Ql;omega
 have L2:2<=Ql:=by unfold Ql;omega
 have L3:3<=Ql:=by unfold Ql;omega
 have hva:Qcd (c.length:Int) t=true:=by
  have h:=(Qif hs.core).2.1;have e:Ql9 n (c.length:Int) (l.map C.lv) t=Qcd (c.length:Int) t:=by unfold Ql9;rw[hkk];rfl
  rw[<- e];exact h
 obtain⟨q1,q2, -, -⟩:=Qe3.1 hva;obtain⟨j,hj⟩:∃j,j=c.length - 1 - t.n.toNat:=⟨_,rfl⟩;have hj1:j<c.length:=by omega
 have hj2:(j:Int)<c.length:=by omega
 have hw1:IntKind.i64.wrap ((c.length:Int) - 1)=(c.length:Int) - 1:=Qbu (by omega) (by omega);have hw2:IntKind.i64.wrap ((c.length:Int) - 1 - t.n)=(j:Int):=by rw[Qbu (by omega) (by omega)];omega
 have hw3:IntKind.i64.wrap (t.n+1)=t.n+1:=Qbu (by omega) (by omega);obtain⟨u,hcj⟩:∃u,c[j]=u:=⟨_,rfl⟩;have hou:=hc.ok _ (List.getElem_mem hj1);rw[hcj]at hou;have hw:(c.getD (c.length - 1 - t.n.toNat) Xa).lift (t.n+1) 0 0=u.lift (t.n+1) 0 0:=by rw[<- hj,getDi hj1,hcj]
 have up:=Qfb u (t.n+1) hou.1 (by have:=hou.2;unfold PM;omega);generalize u.lift (t.n+1) 0 0=w at up hw;have hEu:=Qb u;have hEw:=Qb w;rw[hEu,hEw]at up;refine RP.of ?_;generalize hQ:RQ l n Qj (Qfq c t f)=Q;rw[hEt];unfold iO Cs Ts;refine eN Tryz.func166 rfl (by decide) rfl rfl ?_;(refine sI fun K Z=>?_;(repeat rw[Qa];simp);refine Z ?_;clear Z K);(refine Qc fun K hK=>?_;refine dR fun KT hKT=>?_;(repeat rw[Qd];simp[hw1,hw2,hw3,hj1,hj2,hcj,hEu]));refine cYp (up) ?_;(try simp only[zq]);(repeat rw[Qd];simp);have hq:=hQ.symm.trans (Qbi (w) (g:=f) (by simp only[Rs.next_ok,Rs.next_err,↓reduceIte,Qfq];rw[hw]));simp only[hEw]at hq;subst hq;clear hQ;(refine hKT _ _ _ _ (by kernel_rfl) ?_;clear hKT KT);(refine hK _ _ _ ?_;clear hK K);(refine Qe ?_;(try simp only[zs]);refine Qk.ret rfl (.inr ⟨[],by decide,by simp,?_⟩);simp[zM])
theorem Qv8{l:List C}{n F:Int}{I:List T ->T ->Int ->Rs T}{J:List T ->T ->T ->Int ->Rs Unit}(hk:Kc l)(hF:F<=20000)(bI:IB l n I)(bJ:KB l n J)(hI:IS l n I F)(hJ:KS l n J F){c:List T}{t:T}{f:Int}(h0:0<=f)(h1:f<=F)(hs:Sub n (l.map C.lv) c t)(hc:Cx c f)(hkk:t.k=2) :
  Sp 167 [.box 0 0,Ts c,Qj t] (iO f l n) (RP l n Qj (Qdo n t f)):=by
 have h2:f<=20000:=by omega
 have hcl:=hc.len;have hcc:c.length<=1000000:=by omega
 have L1:1<=Ql:=by unfold Ql;omega
 have L2:2<=Ql:=by unfold Ql;omega
 have L3:3<=Ql:=by unfold Ql;omega
 obtain⟨i,hi⟩:∃i,t.ls= [i]:=by
  have h:=(Qif hs.core).2.1;have e:Ql9 n (c.length:Int) (l.map C.lv) t=Qpg n t:=by unfold Ql9;rw[hkk];rfl
  rw[e]at h;unfold Qpg at h;rw[Bool.and_eq_true,Bool.and_eq_true]at h;exact List.length_eq_one_iff.1 (of_decide_eq_true h.1.2)
 have oi:okL i:=hs.ok.ls i (by rw[hi];exact List.mem_singleton.2 rfl);have hEt:Qj t= .agg [.int .i64 t.k, .int .i64 t.n, .int .i64 t.a, .slice [Qn i] .any, .slice (t.ks.map Qj) .any]:=by rw[Qb t,hi];rfl
 have su:=Qx7 i oi.1;have ou:=Qty i;have hR:Qdo n t f=if Xn (Qfm i) n=true then .ok (Qir (Qfm i),f)else .error 15:=by unfold Qdo;rw[hi];rfl
 rw[hR];generalize Qfm i=u at su ou;have ri:=Qf1 u n ou.1;have un:=Qh8 u;generalize Qir u=w at un;have hEi:Qn i= .agg [.slice (i.map Wv) .any]:=rfl;have hEu:Qn u= .agg [.slice (u.map Wv) .any]:=rfl;have hEw:=Qb w;simp only[hEi,hEu]at su ri un;rw[hEw]at un;refine RP.of ?_;rw[hEt,hEi];cases hri:Xn u n with
 | true =>
  rw[hri]at ri;rw[if_pos rfl,Qbi w rfl,hEw];have mo:=Qbp 15;unfold iO Cs Ts;refine eN Tryz.func167 rfl (by decide) rfl rfl ?_;(refine sI fun K Z=>?_;(repeat rw[Qa];simp);refine Z ?_;clear Z K);(refine sR fun K hK=>?_;(repeat rw[Qa];simp));refine cXr (su) ?_
  (repeat rw[Qa];simp)
  (refine hK _ _ _ ?_;clear hK K);(refine Qc fun K hK=>?_;refine dR fun KT hKT=>?_;(repeat rw[Qd];simp));refine cYp (ri) ?_;(try simp only[zq]);(repeat rw[Qd];simp);refine cYp (mo) ?_;(try simp only[zq]);(repeat rw[Qd];simp);(refine hKT _ _ _ _ (by kernel_rfl) ?_;clear hKT KT);(refine hK _ _ _ ?_;clear hK K);(refine sR fun K hK=>?_;(repeat rw[Qa];simp));refine cXr (un) ?_
  (repeat rw[Qa];simp)
  (refine hK _ _ _ ?_;clear hK K);(refine Qe ?_;(try simp only[zs]);refine Qk.ret rfl (.inr ⟨[],by decide,by simp,?_⟩);simp[zM])
 | false =>
  rw[hri]at ri;rw[if_neg Bool.false_ne_true,Wh (e:=15) rfl];have mo:=Qbf 15;unfold Wq at mo;unfold iO Cs Ts;refine eN Tryz.func167 rfl (by decide) rfl rfl ?_;(refine sI fun K Z=>?_;(repeat rw[Qa];simp);refine Z ?_;clear Z K);(refine sR fun K hK=>?_;(repeat rw[Qa];simp));refine cXr (su) ?_
  (repeat rw[Qa];simp)
  (refine hK _ _ _ ?_;clear hK K);(refine Qc fun K hK=>?_;refine dR fun KT hKT=>?_;(repeat rw[Qd];simp));refine cYp (ri) ?_;(try simp only[zq]);(repeat rw[Qd];simp);refine cYp (mo) ?_;((try simp only[Qt,Qu,Qr,Qw,Wi]);(repeat(refine Wr _ _ _ _ (by kernel_rfl) ?_;simp only[Qr,List.set,List.nil_append,List.cons_append,Nat.reduceAdd]));(try simp only[Qm]));(refine hKT _ _ _ _ (by kernel_rfl) ?_;clear hKT KT);simp[Xi];((try simp only[zs]);refine Qk.pan (.inr ⟨[],by decide,by simp,?_⟩);simp[zM])
theorem Qv9{l:List C}{n F:Int}{I:List T ->T ->Int ->Rs T}{J:List T ->T ->T ->Int ->Rs Unit}(hk:Kc l)(hF:F<=20000)(bI:IB l n I)(bJ:KB l n J)(hI:IS l n I F)(hJ:KS l n J F){c:List T}{t:T}{f:Int}(h0:0<=f)(h1:f<=F)(hs:Sub n (l.map C.lv) c t)(hc:Cx c f)(hkk:t.k=3) :
  Sp 168 [.box 0 0,Ts c,Qj t] (iO f l n) (RP l n Qj (Qew l t f)):=by
 have h2:f<=20000:=by omega
 have hcl:=hc.len;have hcc:c.length<=1000000:=by omega
 have hEt:=Qb t;have L1:1<=Ql:=by unfold Ql;omega
 have L2:2<=Ql:=by unfold Ql;omega
 have L3:3<=Ql:=by unfold Ql;omega
 obtain⟨bb,ty⟩:=Qx1 l hk t.n t.ls hs.ok.ll (fun b hb=>(hs.ok.ls b hb).1);obtain⟨w,hw⟩:∃w,Qjq l t.n t.ls=w:=⟨_,rfl⟩;rw[hw]at ty;have hEw:=Qb w;rw[hEw]at ty;unfold Cs at ty;refine RP.of ?_;generalize hQ:RQ l n Qj (Qew l t f)=Q;rw[hEt];unfold iO Cs Ts;refine eN Tryz.func168 rfl (by decide) rfl rfl ?_;(refine sI fun K Z=>?_;(repeat rw[Qa];simp);refine Z ?_;clear Z K);(refine Qc fun K hK=>?_;refine dR fun KT hKT=>?_;(repeat rw[Qd];simp));refine cYp (ty) ?_;(try simp only[zq]);(repeat rw[Qd];simp);(refine hKT _ _ _ _ (by kernel_rfl) ?_;clear hKT KT);(refine hK _ _ _ ?_;clear hK K);(refine sI fun K Z=>?_;(repeat rw[Qa];simp);refine Z ?_;clear Z K);have hq:=hQ.symm.trans (Qbi (w) (g:=f) (by simp only[Rs.next_ok,Rs.next_err,↓reduceIte,Qew];rw[hw]));simp only[hEw]at hq;subst hq;clear hQ;(refine Qe ?_;(try simp only[zs]);refine Qk.ret rfl (.inr ⟨[],by decide,by simp,?_⟩);simp[zM])
theorem r_fin{l:List C}{n F:Int}{I:List T ->T ->Int ->Rs T}{J:List T ->T ->T ->Int ->Rs Unit}(hk:Kc l)(hF:F<=20000)(bI:IB l n I)(bJ:KB l n J)(hI:IS l n I F)(hJ:KS l n J F){c:List T}{t:T}{f:Int}(h0:0<=f)(h1:f<=F)(hs:Sub n (l.map C.lv) c t)(hc:Cx c f)(hkk:t.k=22) :
  Sp 177 [.box 0 0,Ts c,Qj t] (iO f l n) (RP l n Qj (.ok (Qir [],f))):=by
 have h2:f<=20000:=by omega
 have hcl:=hc.len;have hcc:c.length<=1000000:=by omega
 have hEt:=Qb t;have un:=Qh8 [];obtain⟨w,hw⟩:∃w,Qir []=w:=⟨_,rfl⟩;rw[hw]at un;have hEw:=Qb w;rw[hEw,show Qn []= .agg [.slice [] .any] from rfl]at un;refine RP.of ?_;generalize hQ:RQ l n Qj ((.ok (Qir [],f):Rs T))=Q;rw[hEt];unfold iO Cs Ts;refine eN Tryz.func177 rfl (by decide) rfl rfl ?_;(refine sI fun K Z=>?_;(repeat rw[Qa];simp);refine Z ?_;clear Z K);(refine sR fun K hK=>?_;(repeat rw[Qa];simp));refine cXr (un) ?_
 (repeat rw[Qa];simp)
 have hq:=hQ.symm.trans (Qbi w (g:=f) (by rw[hw]));simp only[hEw]at hq;subst hq;clear hQ;(refine hK _ _ _ ?_;clear hK K);(refine Qe ?_;(try simp only[zs]);refine Qk.ret rfl (.inr ⟨[],by decide,by simp,?_⟩);simp[zM])
theorem r_elem{l:List C}{n F:Int}{I:List T ->T ->Int ->Rs T}{J:List T ->T ->T ->Int ->Rs Unit}(hk:Kc l)(hF:F<=20000)(bI:IB l n I)(bJ:KB l n J)(hI:IS l n I F)(hJ:KS l n J F){c:List T}{t:T}{f:Int}(h0:0<=f)(h1:f<=F)(hs:Sub n (l.map C.lv) c t)(hc:Cx c f)(hkk:t.k=23) :
  Sp 178 [.box 0 0,Ts c,Qj t] (iO f l n) (RP l n Qj (.ok (Qju t.a,f))):=by
 have h2:f<=20000:=by omega
 have hcl:=hc.len;have hcc:c.length<=1000000:=by omega
 have hEt:=Qb t;obtain⟨w,hw⟩:∃w,Qju t.a=w:=⟨_,rfl⟩;have hEw:Qj w= .agg [.int .i64 22, .int .i64 t.a, .int .i64 0, .slice [] .any, .slice [] .any]:=by rw[<- hw];unfold Qju;rw[Qfg];rfl
 refine RP.of ?_;generalize hQ:RQ l n Qj ((.ok (Qju t.a,f):Rs T))=Q;rw[hEt];unfold iO Cs Ts;refine eN Tryz.func178 rfl (by decide) rfl rfl ?_;(refine sI fun K Z=>?_;(repeat rw[Qa];simp);refine Z ?_;clear Z K);(refine sI fun K Z=>?_;(repeat rw[Qa];simp);refine Z ?_;clear Z K);have hq:=hQ.symm.trans (Qbi w (g:=f) (by rw[hw]));simp only[hEw]at hq;subst hq;clear hQ;(refine Qe ?_;(try simp only[zs]);refine Qk.ret rfl (.inr ⟨[],by decide,by simp,?_⟩);simp[zM])
theorem Wde{l:List C}{n F:Int}{I:List T ->T ->Int ->Rs T}{J:List T ->T ->T ->Int ->Rs Unit}(hk:Kc l)(hF:F<=20000)(bI:IB l n I)(bJ:KB l n J)(hI:IS l n I F)(hJ:KS l n J F){c:List T}{t:T}{f:Int}(h0:0<=f)(h1:f<=F)(hs:Sub n (l.map C.lv) c t)(hc:Cx c f)(hkk:t.k=14) :
  Sp 173 [.box 0 0,Ts c,Qj t] (iO f l n) (RP l n Qj (halfR l I c t f)):=by
 have h2:f<=20000:=by omega
 have hcl:=hc.len;have hcc:c.length<=1000000:=by omega
 have hl:=hs.ks hkk (m:=1);obtain⟨x0,hks⟩:=Wfg hl;have z0:t.kid 0=x0:=by unfold T.kid;rw[hks];rfl
 have hEt:Qj t= .agg [.int .i64 t.k, .int .i64 t.n, .int .i64 t.a, .slice (t.ls.map Qn) .any, .slice [Qj x0] .any]:=by rw[Qb t,hks];rfl
 have k0:=hs.kid (i:=0) (by omega) (by rw[hkk];rfl);rw[z0]at k0;have hE0:=Qb x0;have L1:1<=Ql:=by unfold Ql;omega
 have L2:2<=Ql:=by unfold Ql;omega
 have L3:3<=Ql:=by unfold Ql;omega
 refine RP.of ?_;generalize hQ:RQ l n Qj (halfR l I c t f)=Q;rw[hEt];simp only[hE0];unfold iO Cs Ts;refine eN Tryz.func173 rfl (by decide) rfl rfl ?_;(refine sI fun K Z=>?_;(repeat rw[Qa];simp);refine Z ?_;clear Z K);(refine sR fun K hK=>?_;(repeat rw[Qa];simp));rcases Qv l n Qj (I c x0 f)with ⟨s,f1,e1,q1⟩ | ⟨ee,e1,q1⟩
 rotate_left
 ·have hh:=hI c x0 f h0 h1 k0 hc;rw[q1]at hh;have hq:=hQ.symm.trans (Wh (e:=ee) (by simp only[e1,Rs.next_ok,Rs.next_err,↓reduceIte,halfR,z0,hkk]));subst hq;clear hQ;simp only[hE0]at hh;unfold iO Cs Wq at hh
  try unfold Ts at hh
  refine cXg [0,1] (hh) ?_;simp[zU];((try simp only[zs]);refine Qk.pan (.inr ⟨[],by decide,by simp,?_⟩);simp[zM])
 have cc1:=hI c x0 f h0 h1 k0 hc;rw[q1]at cc1;obtain⟨a1,b1,d1⟩:=bI _ _ _ _ _ h0 h2 k0 hc e1;have hEs:=Qb s;simp only[hE0,hEs]at cc1;unfold iO Cs at cc1
 try unfold Ts at cc1
 refine cXf [0,1] (cc1) ?_;simp[zU]
 (repeat rw[Qa];simp)
 clear cc1 q1;rcases Qv l n asD (asR l s 12 9 f1)with ⟨v,f2,e2,q2⟩ | ⟨ee,e2,q2⟩
 rotate_left
 ·have hh:=Qas hk (n:=n) (k:=12) (e:=9) a1 (by omega) (d1.okY (by omega));rw[q2]at hh;have hq:=hQ.symm.trans (Wh (e:=ee) (by simp only[e1,e2,Rs.next_ok,Rs.next_err,↓reduceIte,halfR,z0,hkk]));subst hq;clear hQ;simp only[hEs]at hh;unfold iO Cs Wq at hh
  try unfold Ts at hh
  refine cXg [0,1] (hh) ?_;simp[zU];((try simp only[zs]);refine Qk.pan (.inr ⟨[],by decide,by simp,?_⟩);simp[zM])
 have cc2:=Qas hk (n:=n) (k:=12) (e:=9) a1 (by omega) (d1.okY (by omega));rw[q2]at cc2;obtain⟨a2,b2,d2,d3, -⟩:=Qbk hk.ok a1 (d1.okY h2) e2;obtain⟨va,vb⟩:=v;have hEva:=Qb va;have hEvb:=Qb vb;unfold asD at cc2;dsimp only at cc2;simp only[hEs,hEva,hEvb]at cc2;unfold iO Cs at cc2
 try unfold Ts at cc2
 refine cXf [0,1] (cc2) ?_;simp[zU]
 (repeat rw[Qa];simp)
 clear cc2 q2;(refine hK _ _ _ ?_;clear hK K);refine Qc fun K1 hK1=>?_
 (refine sI fun K Z=>?_;(repeat rw[Qa];simp[hkk]);refine Z ?_;clear Z K);refine pT rfl ?_;(refine sI fun K Z=>?_;(repeat rw[Qa];simp);refine Z ?_;clear Z K);have hq:=hQ.symm.trans (Qbi (va) (g:=f2) (by simp only[e1,e2,Rs.next_ok,Rs.next_err,↓reduceIte,halfR,z0,hkk]));simp only[hEva]at hq;subst hq;clear hQ;(refine Qe ?_;(try simp only[zs]);refine Qk.ret rfl (.inr ⟨[],by decide,by simp,?_⟩);simp[zM])
theorem Wdd{l:List C}{n F:Int}{I:List T ->T ->Int ->Rs T}{J:List T ->T ->T ->Int ->Rs Unit}(hk:Kc l)(hF:F<=20000)(bI:IB l n I)(bJ:KB l n J)(hI:IS l n I F)(hJ:KS l n J F){c:List T}{t:T}{f:Int}(h0:0<=f)(h1:f<=F)(hs:Sub n (l.map C.lv) c t)(hc:Cx c f)(hkk:t.k=15) :
  Sp 173 [.box 0 0,Ts c,Qj t] (iO f l n) (RP l n Qj (halfR l I c t f)):=by
 have h2:f<=20000:=by omega
 have hcl:=hc.len;have hcc:c.length<=1000000:=by omega
 have hl:=hs.ks hkk (m:=1);obtain⟨x0,hks⟩:=Wfg hl;have z0:t.kid 0=x0:=by unfold T.kid;rw[hks];rfl
 have hEt:Qj t= .agg [.int .i64 t.k, .int .i64 t.n, .int .i64 t.a, .slice (t.ls.map Qn) .any, .slice [Qj x0] .any]:=by rw[Qb t,hks];rfl
 have k0:=hs.kid (i:=0) (by omega) (by rw[hkk];rfl);rw[z0]at k0;have hE0:=Qb x0;have L1:1<=Ql:=by unfold Ql;omega
 have L2:2<=Ql:=by unfold Ql;omega
 have L3:3<=Ql:=by unfold Ql;omega
 refine RP.of ?_;generalize hQ:RQ l n Qj (halfR l I c t f)=Q;rw[hEt];simp only[hE0];unfold iO Cs Ts;refine eN Tryz.func173 rfl (by decide) rfl rfl ?_;(refine sI fun K Z=>?_;(repeat rw[Qa];simp);refine Z ?_;clear Z K);(refine sR fun K hK=>?_;(repeat rw[Qa];simp));rcases Qv l n Qj (I c x0 f)with ⟨s,f1,e1,q1⟩ | ⟨ee,e1,q1⟩
 rotate_left
 ·have hh:=hI c x0 f h0 h1 k0 hc;rw[q1]at hh;have hq:=hQ.symm.trans (Wh (e:=ee) (by simp only[e1,Rs.next_ok,Rs.next_err,↓reduceIte,halfR,z0,hkk]));subst hq;clear hQ;simp only[hE0]at hh;unfold iO Cs Wq at hh
  try unfold Ts at hh
  refine cXg [0,1] (hh) ?_;simp[zU];((try simp only[zs]);refine Qk.pan (.inr ⟨[],by decide,by simp,?_⟩);simp[zM])
 have cc1:=hI c x0 f h0 h1 k0 hc;rw[q1]at cc1;obtain⟨a1,b1,d1⟩:=bI _ _ _ _ _ h0 h2 k0 hc e1;have hEs:=Qb s;simp only[hE0,hEs]at cc1;unfold iO Cs at cc1
 try unfold Ts at cc1
 refine cXf [0,1] (cc1) ?_;simp[zU]
 (repeat rw[Qa];simp)
 clear cc1 q1;rcases Qv l n asD (asR l s 12 9 f1)with ⟨v,f2,e2,q2⟩ | ⟨ee,e2,q2⟩
 rotate_left
 ·have hh:=Qas hk (n:=n) (k:=12) (e:=9) a1 (by omega) (d1.okY (by omega));rw[q2]at hh;have hq:=hQ.symm.trans (Wh (e:=ee) (by simp only[e1,e2,Rs.next_ok,Rs.next_err,↓reduceIte,halfR,z0,hkk]));subst hq;clear hQ;simp only[hEs]at hh;unfold iO Cs Wq at hh
  try unfold Ts at hh
  refine cXg [0,1] (hh) ?_;simp[zU];((try simp only[zs]);refine Qk.pan (.inr ⟨[],by decide,by simp,?_⟩);simp[zM])
 have cc2:=Qas hk (n:=n) (k:=12) (e:=9) a1 (by omega) (d1.okY (by omega));rw[q2]at cc2;obtain⟨a2,b2,d2,d3, -⟩:=Qbk hk.ok a1 (d1.okY h2) e2;obtain⟨va,vb⟩:=v;have hEva:=Qb va;have hEvb:=Qb vb;unfold asD at cc2;dsimp only at cc2;simp only[hEs,hEva,hEvb]at cc2;unfold iO Cs at cc2
 try unfold Ts at cc2
 refine cXf [0,1] (cc2) ?_;simp[zU]
 (repeat rw[Qa];simp)
 clear cc2 q2;(refine hK _ _ _ ?_;clear hK K);refine Qc fun K1 hK1=>?_
 (refine sI fun K Z=>?_;(repeat rw[Qa];simp[hkk]);refine Z ?_;clear Z K);refine pF rfl ?_;refine Qg (hK1 _ _ _ ?_);clear hK1 K1;have ho:=Ze 14 [x0];obtain⟨p,hp⟩:∃p,ofT 14 [x0]=p:=⟨_,rfl⟩;have op:okT p:=by rw[<- hp];exact Wfd Qdc k0.ok
 have pp:p.pot<=100000:=by rw[<- hp];have:=pot_of1 14 x0;have:=k0.pot;omega
 have hEp:=Qb p;simp only[hp,List.map_cons,List.map_nil,hE0,hEp]at ho;(refine Qc fun K hK=>?_;refine dR fun KT hKT=>?_;(repeat rw[Qd];simp[L1]));refine Xp.pureD Qf (ho) ?_ (by simp[D.deeps,D.deep,D.fgts,D.fgt]) (by simp[D.pures,D.pure,Cp.free,D.pures_map]) (by simp[Out.pure,D.pure,D.pures,Cp.free,D.pures_map]);(try simp only[zq]);(repeat rw[Qd];simp);rcases Qv l n Qj (Qn0 vb p f2)with ⟨w,f3,e3,q3⟩ | ⟨ee,e3,q3⟩
 rotate_left
 ·have hh:=Qbz (l:=l) (n:=n) (f:=f2) (t:=vb) (a:=p) (by omega) ⟨d3.1,d3.pm (by omega)⟩ ⟨op,by unfold PM;omega⟩;rw[q3]at hh;have hq:=hQ.symm.trans (Wh (e:=ee) (by simp only[e1,e2,e3,Rs.next_ok,Rs.next_err,↓reduceIte,halfR,z0,hkk,hp,if_neg (show ¬ (15:Int)=14 by omega)]));subst hq;clear hQ;simp only[hEvb,hEp]at hh;unfold iO Cs Wq at hh
  try unfold Ts at hh
  refine cYo [0,1] true false (hh) (fun o h e=>e) ?_;simp[zU];((try simp only[Qt,Qu,Qr,Qw,Wi]);(repeat(refine Wr _ _ _ _ (by kernel_rfl) ?_;simp only[Qr,List.set,List.nil_append,List.cons_append,Nat.reduceAdd]));(try simp only[Qm]));(refine hKT _ _ _ _ (by kernel_rfl) ?_;clear hKT KT);simp[Xi];((try simp only[zs]);refine Qk.pan (.inr ⟨[],by decide,by simp,?_⟩);simp[zM])
 have cc3:=Qbz (l:=l) (n:=n) (f:=f2) (t:=vb) (a:=p) (by omega) ⟨d3.1,d3.pm (by omega)⟩ ⟨op,by unfold PM;omega⟩;rw[q3]at cc3;have hEw:=Qb w;simp only[hEvb,hEp,hEw]at cc3;unfold iO Cs at cc3
 try unfold Ts at cc3
 refine cYo [0,1] true true (cc3) (fun o h e=>e) ?_;simp[zU];(try simp only[zq]);(repeat rw[Qd];simp);clear cc3 q3;have hq:=hQ.symm.trans (Qbi (w) (g:=f3) (by simp only[e1,e2,e3,Rs.next_ok,Rs.next_err,↓reduceIte,halfR,z0,hkk,hp,if_neg (show ¬ (15:Int)=14 by omega)]));simp only[hEw]at hq;subst hq;clear hQ;(refine hKT _ _ _ _ (by kernel_rfl) ?_;clear hKT KT);(refine hK _ _ _ ?_;clear hK K);(refine Qe ?_;(try simp only[zs]);refine Qk.ret rfl (.inr ⟨[],by decide,by simp,?_⟩);simp[zM])
end
set_option maxHeartbeats 16000000 in
theorem Qwx{a b p:T}(oa:okT a)(ob:okT b)(op:okT p)(ha:a.pot<=PM)(hb:b.pot<=PM)(hp:p.pot<=PM):Sp 205 [Qj a,Qj b,Qj p] [] (rt (Qj (Qis a b p))):=by
 have L2:2<=Ql:=by unfold Ql;omega
 have hEa:=Qb a;have hEb:=Qb b;have hEp:=Qb p;have ov0:=Qoh 0;obtain⟨v0,wv0⟩:∃v0,Qeh 0=v0:=⟨_,rfl⟩;have hEv0:=Qb v0;simp only[wv0,List.map_cons,List.map_nil,hEv0]at ov0;have ov1:=Qoh 1;obtain⟨v1,wv1⟩:∃v1,Qeh 1=v1:=⟨_,rfl⟩;have hEv1:=Qb v1;simp only[wv1,List.map_cons,List.map_nil,hEv1]at ov1;have ov2:=Qoh 2;obtain⟨v2,wv2⟩:∃v2,Qeh 2=v2:=⟨_,rfl⟩;have hEv2:=Qb v2;simp only[wv2,List.map_cons,List.map_nil,hEv2]at ov2;have op3:=Qfb p 3 op (by omega);obtain⟨p3,wp3⟩:∃p3,p.lift 3 0 0=p3:=⟨_,rfl⟩;have hEp3:=Qb p3;simp only[wp3,List.map_cons,List.map_nil,hEp,hEp3]at op3;have oa2:=Qfb a 2 oa (by omega);obtain⟨a2,wa2⟩:∃a2,a.lift 2 0 0=a2:=⟨_,rfl⟩;have hEa2:=Qb a2;simp only[wa2,List.map_cons,List.map_nil,hEa,hEa2]at oa2;have ob2:=Qby b 2 1 (by have:=b.deep_nsz;have:=Qef b;unfold PM at hb;unfold DM;omega) ob;obtain⟨b2,wb2⟩:∃b2,b.lift 2 1 0=b2:=⟨_,rfl⟩;have hEb2:=Qb b2;simp only[wb2,List.map_cons,List.map_nil,hEb,hEb2]at ob2;have ob1:=Qfb b 1 ob (by omega);obtain⟨b1,wb1⟩:∃b1,b.lift 1 0 0=b1:=⟨_,rfl⟩;have hEb1:=Qb b1;simp only[wb1,List.map_cons,List.map_nil,hEb,hEb1]at ob1;have ou1:=Ze 16 [a2,b2];obtain⟨u1,wu1⟩:∃u1,ofT 16 [a2,b2]=u1:=⟨_,rfl⟩;have hEu1:=Qb u1;simp only[wu1,List.map_cons,List.map_nil,hEa2,hEb2,hEu1]at ou1;have ou2:=Ze 4 [b,u1];obtain⟨u2,wu2⟩:∃u2,ofT 4 [b,u1]=u2:=⟨_,rfl⟩;have hEu2:=Qb u2;simp only[wu2,List.map_cons,List.map_nil,hEb,hEu1,hEu2]at ou2;have ou3:=Ze 6 [v1,v0];obtain⟨u3,wu3⟩:∃u3,ofT 6 [v1,v0]=u3:=⟨_,rfl⟩;have hEu3:=Qb u3;simp only[wu3,List.map_cons,List.map_nil,hEv1,hEv0,hEu3]at ou3;have ou4:=Ze 6 [p3,u3];obtain⟨u4,wu4⟩:∃u4,ofT 6 [p3,u3]=u4:=⟨_,rfl⟩;have hEu4:=Qb u4;simp only[wu4,List.map_cons,List.map_nil,hEp3,hEu3,hEu4]at ou4;have ou5:=Ze 4 [b1,u4];obtain⟨u5,wu5⟩:∃u5,ofT 4 [b1,u4]=u5:=⟨_,rfl⟩;have hEu5:=Qb u5;simp only[wu5,List.map_cons,List.map_nil,hEb1,hEu4,hEu5]at ou5;have ou6:=Ze 17 [v2,v1];obtain⟨u6,wu6⟩:∃u6,ofT 17 [v2,v1]=u6:=⟨_,rfl⟩;have hEu6:=Qb u6;simp only[wu6,List.map_cons,List.map_nil,hEv2,hEv1,hEu6]at ou6;have ou7:=Ze 6 [p3,u6];obtain⟨u7,wu7⟩:∃u7,ofT 6 [p3,u6]=u7:=⟨_,rfl⟩;have hEu7:=Qb u7;simp only[wu7,List.map_cons,List.map_nil,hEp3,hEu6,hEu7]at ou7;have ou8:=Ze 4 [u5,u7];obtain⟨u8,wu8⟩:∃u8,ofT 4 [u5,u7]=u8:=⟨_,rfl⟩;have hEu8:=Qb u8;simp only[wu8,List.map_cons,List.map_nil,hEu5,hEu7,hEu8]at ou8;have ou9:=Ze 4 [u2,u8];obtain⟨u9,wu9⟩:∃u9,ofT 4 [u2,u8]=u9:=⟨_,rfl⟩;have hEu9:=Qb u9;simp only[wu9,List.map_cons,List.map_nil,hEu2,hEu8,hEu9]at ou9;have ow:=Ze 4 [a,u9];obtain⟨w,ww⟩:∃w,ofT 4 [a,u9]=w:=⟨_,rfl⟩;have hEw:=Qb w;simp only[ww,List.map_cons,List.map_nil,hEa,hEu9,hEw]at ow;rw[show Qis a b p=w by unfold Qis;rw[wp3,wa2,wb2,wb1,wv0,wv1,wv2,wu1,wu2,wu3,wu4,wu5,wu6,wu7,wu8,wu9,ww]];rw[hEa,hEb,hEp,hEw];refine eN Tryz.func205 rfl (by decide) rfl rfl ?_;(refine sI fun K Z=>?_;(repeat rw[Qa];simp);refine Z ?_;clear Z K);(refine sR fun K hK=>?_;(repeat rw[Qa];simp));refine cXr (op3) ?_
 (repeat rw[Qa];simp)
 (refine hK _ _ _ ?_;clear hK K);(refine Qc fun K hK=>?_;refine dR fun KT hKT=>?_;(repeat rw[Qd];simp[L2]));refine cYp (oa2) ?_;(try simp only[zq]);(repeat rw[Qd];simp[L2]);refine cYp (ob2) ?_;(try simp only[zq]);(repeat rw[Qd];simp[L2]);refine Xp.pureD Qf (ou1) ?_ (by simp[D.deeps,D.deep,D.fgts,D.fgt]) (by simp[D.pures,D.pure,Cp.free,D.pures_map]) (by simp[Out.pure,D.pure,D.pures,Cp.free,D.pures_map]);(try simp only[zq]);(repeat rw[Qd];simp[L2]);refine Xp.pureD Qf (ou2) ?_ (by simp[D.deeps,D.deep,D.fgts,D.fgt]) (by simp[D.pures,D.pure,Cp.free,D.pures_map]) (by simp[Out.pure,D.pure,D.pures,Cp.free,D.pures_map]);(try simp only[zq]);(repeat rw[Qd];simp[L2]);(refine hKT _ _ _ _ (by kernel_rfl) ?_;clear hKT KT);(refine hK _ _ _ ?_;clear hK K);(refine Qc fun K hK=>?_;refine dR fun KT hKT=>?_;(repeat rw[Qd];simp[L2]));refine cYp (ob1) ?_;(try simp only[zq]);(repeat rw[Qd];simp[L2]);refine cYp (ov1) ?_;(try simp only[zq]);(repeat rw[Qd];simp[L2]);refine cYp (ov0) ?_;(try simp only[zq]);(repeat rw[Qd];simp[L2]);refine Xp.pureD Qf (ou3) ?_ (by simp[D.deeps,D.deep,D.fgts,D.fgt]) (by simp[D.pures,D.pure,Cp.free,D.pures_map]) (by simp[Out.pure,D.pure,D.pures,Cp.free,D.pures_map]);(try simp only[zq]);(repeat rw[Qd];simp[L2]);refine Xp.pureD Qf (ou4) ?_ (by simp[D.deeps,D.deep,D.fgts,D.fgt]) (by simp[D.pures,D.pure,Cp.free,D.pures_map]) (by simp[Out.pure,D.pure,D.pures,Cp.free,D.pures_map]);(try simp only[zq]);(repeat rw[Qd];simp[L2]);refine Xp.pureD Qf (ou5) ?_ (by simp[D.deeps,D.deep,D.fgts,D.fgt]) (by simp[D.pures,D.pure,Cp.free,D.pures_map]) (by simp[Out.pure,D.pure,D.pures,Cp.free,D.pures_map]);(try simp only[zq]);(repeat rw[Qd];simp[L2]);(refine hKT _ _ _ _ (by kernel_rfl) ?_;clear hKT KT);(refine hK _ _ _ ?_;clear hK K);(refine Qc fun K hK=>?_;refine dR fun KT hKT=>?_;(repeat rw[Qd];simp[L2]));refine cYp (ov2) ?_;(try simp only[zq]);(repeat rw[Qd];simp[L2]);refine cYp (ov1) ?_;(try simp only[zq]);(repeat rw[Qd];simp[L2]);refine Xp.pureD Qf (ou6) ?_ (by simp[D.deeps,D.deep,D.fgts,D.fgt]) (by simp[D.pures,D.pure,Cp.free,D.pures_map]) (by simp[Out.pure,D.pure,D.pures,Cp.free,D.pures_map]);(try simp only[zq]);(repeat rw[Qd];simp[L2]);refine Xp.pureD Qf (ou7) ?_ (by simp[D.deeps,D.deep,D.fgts,D.fgt]) (by simp[D.pures,D.pure,Cp.free,D.pures_map]) (by simp[Out.pure,D.pure,D.pures,Cp.free,D.pures_map]);(try simp only[zq]);(repeat rw[Qd];simp[L2]);refine Xp.pureD Qf (ou8) ?_ (by simp[D.deeps,D.deep,D.fgts,D.fgt]) (by simp[D.pures,D.pure,Cp.free,D.pures_map]) (by simp[Out.pure,D.pure,D.pures,Cp.free,D.pures_map]);(try simp only[zq]);(repeat rw[Qd];simp[L2]);refine Xp.pureD Qf (ou9) ?_ (by simp[D.deeps,D.deep,D.fgts,D.fgt]) (by simp[D.pures,D.pure,Cp.free,D.pures_map]) (by simp[Out.pure,D.pure,D.pures,Cp.free,D.pures_map]);(try simp only[zq]);(repeat rw[Qd];simp[L2]);refine Xp.pureD Qf (ow) ?_ (by simp[D.deeps,D.deep,D.fgts,D.fgt]) (by simp[D.pures,D.pure,Cp.free,D.pures_map]) (by simp[Out.pure,D.pure,D.pures,Cp.free,D.pures_map]);(try simp only[zq]);(repeat rw[Qd];simp[L2]);(refine hKT _ _ _ _ (by kernel_rfl) ?_;clear hKT KT);(refine hK _ _ _ ?_;clear hK K);(refine Qe ?_;(try simp only[zs]);refine Qk.ret rfl (.inl ?_);simp[zM])
set_option maxHeartbeats 16000000 in
theorem Qr1{l:List C}{n F:Int}{I:List T ->T ->Int ->Rs T}{J:List T ->T ->T ->Int ->Rs Unit}(hk:Kc l)(hF:F<=20000)(bI:IB l n I)(bJ:KB l n J)(hI:IS l n I F)(hJ:KS l n J F){c:List T}{t:T}{f:Int}(h0:0<=f)(h1:f<=F)(hs:Sub n (l.map C.lv) c t)(hc:Cx c f)(hkk:t.k=18) :
  Sp 174 [.box 0 0,Ts c,Qj t] (iO f l n) (RP l n Qj (recR l I J c t f)):=by
 have h2:f<=20000:=by omega
 have hcl:=hc.len;have hcc:c.length<=1000000:=by omega
 have hl:=hs.ks hkk (m:=5);obtain⟨x0,x1,x2,x3,x4,hks⟩:=list_5 hl;have z0:t.kid 0=x0:=by unfold T.kid;rw[hks];rfl
 have z1:t.kid 1=x1:=by unfold T.kid;rw[hks];rfl
 have z2:t.kid 2=x2:=by unfold T.kid;rw[hks];rfl
 have z3:t.kid 3=x3:=by unfold T.kid;rw[hks];rfl
 have z4:t.kid 4=x4:=by unfold T.kid;rw[hks];rfl
 have hEt:Qj t= .agg [.int .i64 t.k, .int .i64 t.n, .int .i64 t.a, .slice (t.ls.map Qn) .any, .slice [Qj x0,Qj x1,Qj x2,Qj x3,Qj x4] .any]:=by rw[Qb t,hks];rfl
 have k0:=hs.kid (i:=0) (by omega) (by rw[hkk];rfl);rw[z0]at k0;obtain⟨c1,hc1⟩:∃c1,c1=c++ [x0]:=⟨_,rfl⟩;have k1:=hs.kidB (i:=1) hcc x0 (by omega) (by rw[hkk];rfl);rw[z1,<- hc1]at k1;have k2:=hs.kid (i:=2) (by omega) (by rw[hkk];rfl);rw[z2]at k2;have k3:=hs.kid (i:=3) (by omega) (by rw[hkk];rfl);rw[z3]at k3;have k4:=hs.kid (i:=4) (by omega) (by rw[hkk];rfl);rw[z4]at k4;have hE0:=Qb x0;have hE1:=Qb x1;have hE2:=Qb x2;have hE3:=Qb x3;have hE4:=Qb x4;have L1:1<=Ql:=by unfold Ql;omega
 have L2:2<=Ql:=by unfold Ql;omega
 have L3:3<=Ql:=by unfold Ql;omega
 have hb:=Qfc c x0 hcc;rw[<- hc1]at hb;unfold Ts at hb;simp only[List.map_cons,List.map_nil,hE0]at hb;have otr:=Ze 16 [x0,x1];obtain⟨tr,wtr⟩:∃tr,ofT 16 [x0,x1]=tr:=⟨_,rfl⟩;have hEtr:=Qb tr;simp only[wtr,List.map_cons,List.map_nil,hE0,hE1,hEtr]at otr;have otr2:okT tr/\(tr.pot:Int)<=100000:=by rw[<- wtr];exact⟨Qaj Qdc k0.ok k1.ok,by have:=Qag 16 x0 x1;have:=k0.pot;have:=k1.pot;omega⟩
 have ost2:okT (Qis x0 x1 x2)/\((Qis x0 x1 x2).pot:Int)<=150000:=by have:=Qx9 k0.ok k1.ok k2.ok;exact⟨this.1,by have:=this.2;have:=k0.pot;have:=k1.pot;have:=k2.pot;omega⟩
 have ost:=Qwx k0.ok k1.ok k2.ok (by have:=k0.pot;unfold PM;omega) (by have:=k1.pot;unfold PM;omega) (by have:=k2.pot;unfold PM;omega);obtain⟨st,wst⟩:∃st,Qis x0 x1 x2=st:=⟨_,rfl⟩;have hEst:=Qb st;simp only[wst,List.map_cons,List.map_nil,hE0,hE1,hE2,hEst]at ost;rw[wst]at ost2;have ow:=Ze 6 [x2,x4];obtain⟨w,ww⟩:∃w,ofT 6 [x2,x4]=w:=⟨_,rfl⟩;have hEw:=Qb w;simp only[ww,List.map_cons,List.map_nil,hE2,hE4,hEw]at ow;refine RP.of ?_;generalize hQ:RQ l n Qj (recR l I J c t f)=Q;rw[hEt];simp only[hE0,hE1,hE2,hE3,hE4];unfold iO Cs Ts;refine eN Tryz.func174 rfl (by decide) rfl rfl ?_;(refine sI fun K Z=>?_;(repeat rw[Qa];simp);refine Z ?_;clear Z K);(refine Qc fun K hK=>?_;refine dR fun KT hKT=>?_;(repeat rw[Qd];simp));(refine hKT _ _ _ _ (by kernel_rfl) ?_;clear hKT KT);(refine hK _ _ _ ?_;clear hK K);(refine sR fun K hK=>?_;(repeat rw[Qa];simp));rcases Qv l n Qn (sortR l I c x0 f)with ⟨i,f1,e1,q1⟩ | ⟨ee,e1,q1⟩
 rotate_left
 ·have hh:=Zd hk hF bI bJ hI hJ h0 h1 k0 hc;rw[q1]at hh;have hq:=hQ.symm.trans (Wh (e:=ee) (by simp only[e1,Rs.next_ok,Rs.next_err,↓reduceIte,recR,z0,z1,z2,z3,z4,<- hc1,wtr,wst]));subst hq;clear hQ;simp only[hE0]at hh;unfold iO Cs Wq at hh
  try unfold Ts at hh
  refine cXg [0,1] (hh) ?_;simp[zU];((try simp only[zs]);refine Qk.pan (.inr ⟨[],by decide,by simp,?_⟩);simp[zM])
 have cc1:=Zd hk hF bI bJ hI hJ h0 h1 k0 hc;rw[q1]at cc1;obtain⟨a1,b1, -⟩:=Qai hk.ok bI h0 h2 k0 hc e1;have cx:Cx c1 f1:=by rw[hc1];exact hc.below k0 (by omega)
 have hEi:Qn i= .agg [.slice (i.map Wv) .any]:=rfl;simp only[hE0,hEi]at cc1;unfold iO Cs at cc1
 try unfold Ts at cc1
 refine cXf [0,1] (cc1) ?_;simp[zU]
 (repeat rw[Qa];simp)
 clear cc1 q1;(refine hK _ _ _ ?_;clear hK K);(refine Qc fun K hK=>?_;refine dR fun KT hKT=>?_;(repeat rw[Qd];simp[L1]));refine cYp (hb) ?_;(try simp only[zq]);(repeat rw[Qd];simp[L1,L2]);rcases Qv l n Qn (sortR l I c1 x1 f1)with ⟨j,f2,e2,q2⟩ | ⟨ee,e2,q2⟩
 rotate_left
 ·have hh:=Zd hk hF bI bJ hI hJ a1 (by omega) k1 cx;rw[q2]at hh;have hq:=hQ.symm.trans (Wh (e:=ee) (by simp only[e1,e2,Rs.next_ok,Rs.next_err,↓reduceIte,recR,z0,z1,z2,z3,z4,<- hc1,wtr,wst]));subst hq;clear hQ;simp only[hE1]at hh;unfold iO Cs Wq at hh
  try unfold Ts at hh
  refine cYo [0,1] true false (hh) (fun o h e=>e) ?_;simp[zU];((try simp only[Qt,Qu,Qr,Qw,Wi]);(repeat(refine Wr _ _ _ _ (by kernel_rfl) ?_;simp only[Qr,List.set,List.nil_append,List.cons_append,Nat.reduceAdd]));(try simp only[Qm]));(refine hKT _ _ _ _ (by kernel_rfl) ?_;clear hKT KT);simp[Xi];((try simp only[zs]);refine Qk.pan (.inr ⟨[],by decide,by simp,?_⟩);simp[zM])
 have cc2:=Zd hk hF bI bJ hI hJ a1 (by omega) k1 cx;rw[q2]at cc2;obtain⟨a2,b2, -⟩:=Qai hk.ok bI a1 (by omega) k1 cx e2;have hEj:Qn j= .agg [.slice (j.map Wv) .any]:=rfl;simp only[hE1,hEj]at cc2;unfold iO Cs at cc2
 try unfold Ts at cc2
 refine cYo [0,1] true true (cc2) (fun o h e=>e) ?_;simp[zU];(try simp only[zq]);(repeat rw[Qd];simp);clear cc2 q2;(refine hKT _ _ _ _ (by kernel_rfl) ?_;clear hKT KT);(refine hK _ _ _ ?_;clear hK K);(refine sR fun K hK=>?_;(repeat rw[Qa];simp[L2]));refine Wl.pureD Qf (otr) ?_ (by simp[D.deeps,D.deep,D.fgts,D.fgt]) (by simp[D.pures,D.pure,Cp.free,D.pures_map]) (by simp[Out.pure,D.pure,D.pures,Cp.free,D.pures_map]);(try simp only[zr]);(repeat rw[Qa];simp);(refine hK _ _ _ ?_;clear hK K);(refine Qc fun K hK=>?_;refine dR fun KT hKT=>?_;(repeat rw[Qd];simp));rcases Qv l n Xb (J c x4 tr f2)with ⟨u3,f3,e3,q3⟩ | ⟨ee,e3,q3⟩
 rotate_left
 ·have hh:=hJ c x4 tr f2 a2 (by omega) k4 (hc.le (by omega)) ⟨otr2.1,by have:=otr2.2;unfold Yb;omega⟩;rw[q3]at hh;have hq:=hQ.symm.trans (Wh (e:=ee) (by simp only[e1,e2,e3,Rs.next_ok,Rs.next_err,↓reduceIte,recR,z0,z1,z2,z3,z4,<- hc1,wtr,wst]));subst hq;clear hQ;simp only[hE4,hEtr]at hh;unfold iO Cs Wq at hh
  try unfold Ts at hh
  refine cYo [0,1] true false (hh) (fun o h e=>e) ?_;simp[zU];((try simp only[Qt,Qu,Qr,Qw,Wi]);(repeat(refine Wr _ _ _ _ (by kernel_rfl) ?_;simp only[Qr,List.set,List.nil_append,List.cons_append,Nat.reduceAdd]));(try simp only[Qm]));(refine hKT _ _ _ _ (by kernel_rfl) ?_;clear hKT KT);simp[Xi];((try simp only[zs]);refine Qk.pan (.inr ⟨[],by decide,by simp,?_⟩);simp[zM])
 have cc3:=hJ c x4 tr f2 a2 (by omega) k4 (hc.le (by omega)) ⟨otr2.1,by have:=otr2.2;unfold Yb;omega⟩;rw[q3]at cc3;obtain⟨a3,b3⟩:=bJ c x4 tr f2 _ _ a2 (by omega) k4 (hc.le (by omega)) ⟨otr2.1,by have:=otr2.2;unfold Yb;omega⟩ e3;unfold Xb at cc3;simp only[hE4,hEtr]at cc3;unfold iO Cs at cc3
 try unfold Ts at cc3
 refine cYo [0,1] true true (cc3) (fun o h e=>e) ?_;simp[zU];(try simp only[zq]);(repeat rw[Qd];simp);clear cc3 q3;(refine hKT _ _ _ _ (by kernel_rfl) ?_;clear hKT KT);(refine hK _ _ _ ?_;clear hK K);(refine sR fun K hK=>?_;(repeat rw[Qa];simp));rcases Qv l n Xb (motiveR l I c x2 tr f3)with ⟨u4,f4,e4,q4⟩ | ⟨ee,e4,q4⟩
 rotate_left
 ·have hh:=Qd6 hk hF bI bJ hI hJ a3 (by omega) k2 (hc.le (by omega)) (y:=tr) ⟨otr2.1,by have:=otr2.2;unfold Yb;omega⟩;rw[q4]at hh;have hq:=hQ.symm.trans (Wh (e:=ee) (by simp only[e1,e2,e3,e4,Rs.next_ok,Rs.next_err,↓reduceIte,recR,z0,z1,z2,z3,z4,<- hc1,wtr,wst]));subst hq;clear hQ;simp only[hE2,hEtr]at hh;unfold iO Cs Wq at hh
  try unfold Ts at hh
  refine cXg [0,1] (hh) ?_;simp[zU];((try simp only[zs]);refine Qk.pan (.inr ⟨[],by decide,by simp,?_⟩);simp[zM])
 have cc4:=Qd6 hk hF bI bJ hI hJ a3 (by omega) k2 (hc.le (by omega)) (y:=tr) ⟨otr2.1,by have:=otr2.2;unfold Yb;omega⟩;rw[q4]at cc4;obtain⟨a4,b4⟩:=Qgi hk.ok bI a3 (by omega) k2 (hc.le (by omega)) e4;unfold Xb at cc4;simp only[hE2,hEtr]at cc4;unfold iO Cs at cc4
 try unfold Ts at cc4
 refine cXf [0,1] (cc4) ?_;simp[zU]
 (repeat rw[Qa];simp)
 clear cc4 q4;(refine hK _ _ _ ?_;clear hK K);(refine Qc fun K hK=>?_;refine dR fun KT hKT=>?_;(repeat rw[Qd];simp));refine cYp (ost) ?_;(try simp only[zq]);(repeat rw[Qd];simp);rcases Qv l n Xb (J c x3 st f4)with ⟨u5,f5,e5,q5⟩ | ⟨ee,e5,q5⟩
 rotate_left
 ·have hh:=hJ c x3 st f4 a4 (by omega) k3 (hc.le (by omega)) ⟨ost2.1,by have:=ost2.2;unfold Yb;omega⟩;rw[q5]at hh;have hq:=hQ.symm.trans (Wh (e:=ee) (by simp only[e1,e2,e3,e4,e5,Rs.next_ok,Rs.next_err,↓reduceIte,recR,z0,z1,z2,z3,z4,<- hc1,wtr,wst]));subst hq;clear hQ;simp only[hE3,hEst]at hh;unfold iO Cs Wq at hh
  try unfold Ts at hh
  refine cYo [0,1] true false (hh) (fun o h e=>e) ?_;simp[zU];((try simp only[Qt,Qu,Qr,Qw,Wi]);(repeat(refine Wr _ _ _ _ (by kernel_rfl) ?_;simp only[Qr,List.set,List.nil_append,List.cons_append,Nat.reduceAdd]));(try simp only[Qm]));(refine hKT _ _ _ _ (by kernel_rfl) ?_;clear hKT KT);simp[Xi];((try simp only[zs]);refine Qk.pan (.inr ⟨[],by decide,by simp,?_⟩);simp[zM])
 have cc5:=hJ c x3 st f4 a4 (by omega) k3 (hc.le (by omega)) ⟨ost2.1,by have:=ost2.2;unfold Yb;omega⟩;rw[q5]at cc5;unfold Xb at cc5;simp only[hE3,hEst]at cc5;unfold iO Cs at cc5
 try unfold Ts at cc5
 refine cYo [0,1] true true (cc5) (fun o h e=>e) ?_;simp[zU];(try simp only[zq]);(repeat rw[Qd];simp);clear cc5 q5;(refine hKT _ _ _ _ (by kernel_rfl) ?_;clear hKT KT);(refine hK _ _ _ ?_;clear hK K);(refine Qc fun K hK=>?_;refine dR fun KT hKT=>?_;(repeat rw[Qd];simp[L2]));refine Xp.pureD Qf (ow) ?_ (by simp[D.deeps,D.deep,D.fgts,D.fgt]) (by simp[D.pures,D.pure,Cp.free,D.pures_map]) (by simp[Out.pure,D.pure,D.pures,Cp.free,D.pures_map]);(try simp only[zq]);(repeat rw[Qd];simp);have hq:=hQ.symm.trans (Qbi (w) (g:=f5) (by simp only[e1,e2,e3,e4,e5,Rs.next_ok,Rs.next_err,↓reduceIte,recR,z0,z1,z2,z3,z4,<- hc1,wtr,wst];rw[ww]));simp only[hEw]at hq;subst hq;clear hQ;(refine hKT _ _ _ _ (by kernel_rfl) ?_;clear hKT KT);(refine hK _ _ _ ?_;clear hK K);(refine Qe ?_;(try simp only[zs]);refine Qk.ret rfl (.inr ⟨[],by decide,by simp,?_⟩);simp[zM])
section
set_option maxHeartbeats 16000000 in
theorem r_path{l:List C}{n F:Int}{I:List T ->T ->Int ->Rs T}{J:List T ->T ->T ->Int ->Rs Unit}(hk:Kc l)(hF:F<=20000)(bI:IB l n I)(bJ:KB l n J)(hI:IS l n I F)(hJ:KS l n J F){c:List T}{t:T}{f:Int}(h0:0<=f)(h1:f<=F)(hs:Sub n (l.map C.lv) c t)(hc:Cx c f)(hkk:t.k=21) :
  Sp 176 [.box 0 0,Ts c,Qj t] (iO f l n) (RP l n Qj (pathR l I J c t f)):=by
 have h2:f<=20000:=by omega
 have hcl:=hc.len;have hcc:c.length<=1000000:=by omega
 have hl:=hs.ks hkk (m:=6);obtain⟨x0,x1,x2,x3,x4,x5,hks⟩:=list_6 hl;have z0:t.kid 0=x0:=by unfold T.kid;rw[hks];rfl
 have z1:t.kid 1=x1:=by unfold T.kid;rw[hks];rfl
 have z2:t.kid 2=x2:=by unfold T.kid;rw[hks];rfl
 have z3:t.kid 3=x3:=by unfold T.kid;rw[hks];rfl
 have z4:t.kid 4=x4:=by unfold T.kid;rw[hks];rfl
 have z5:t.kid 5=x5:=by unfold T.kid;rw[hks];rfl
 have hEt:Qj t= .agg [.int .i64 t.k, .int .i64 t.n, .int .i64 t.a, .slice (t.ls.map Qn) .any, .slice [Qj x0,Qj x1,Qj x2,Qj x3,Qj x4,Qj x5] .any]:=by rw[Qb t,hks];rfl
 have k0:=hs.kid (i:=0) (by omega) (by rw[hkk];rfl);rw[z0]at k0;have k1:=hs.kid (i:=1) (by omega) (by rw[hkk];rfl);rw[z1]at k1;have k2:=hs.kid (i:=2) (by omega) (by rw[hkk];rfl);rw[z2]at k2;have k3:=hs.kid (i:=3) (by omega) (by rw[hkk];rfl);rw[z3]at k3;have k4:=hs.kid (i:=4) (by omega) (by rw[hkk];rfl);rw[z4]at k4;have k5:=hs.kid (i:=5) (by omega) (by rw[hkk];rfl);rw[z5]at k5;have hE0:=Qb x0;have hE1:=Qb x1;have hE2:=Qb x2;have hE3:=Qb x3;have hE4:=Qb x4;have hE5:=Qb x5;have L1:1<=Ql:=by unfold Ql;omega
 have L2:2<=Ql:=by unfold Ql;omega
 have L3:3<=Ql:=by unfold Ql;omega
 have oi1:=Ze 19 [x0,x1,x4];obtain⟨i1,wi1⟩:∃i1,ofT 19 [x0,x1,x4]=i1:=⟨_,rfl⟩;have hEi1:=Qb i1;simp only[wi1,List.map_cons,List.map_nil,hE0,hE1,hE4,hEi1]at oi1;have ola:=Qfb x0 1 k0.ok (by have:=k0.pot;unfold PM;omega);obtain⟨la,wla⟩:∃la,x0.lift 1 0 0=la:=⟨_,rfl⟩;have hEla:=Qb la;simp only[wla,List.map_cons,List.map_nil,hE0,hEla]at ola;have olx:=Qfb x1 1 k1.ok (by have:=k1.pot;unfold PM;omega);obtain⟨lx,wlx⟩:∃lx,x1.lift 1 0 0=lx:=⟨_,rfl⟩;have hElx:=Qb lx;simp only[wlx,List.map_cons,List.map_nil,hE1,hElx]at olx;have ovv:=Qoh 0;obtain⟨vv,wvv⟩:∃vv,Qeh 0=vv:=⟨_,rfl⟩;have hEvv:=Qb vv;simp only[wvv,List.map_cons,List.map_nil,hEvv]at ovv;have oi2:=Ze 19 [la,lx,vv];obtain⟨i2,wi2⟩:∃i2,ofT 19 [la,lx,vv]=i2:=⟨_,rfl⟩;have hEi2:=Qb i2;simp only[wi2,List.map_cons,List.map_nil,hEla,hElx,hEvv,hEi2]at oi2;have oq1:=Ze 6 [x2,x1];obtain⟨q1,wq1⟩:∃q1,ofT 6 [x2,x1]=q1:=⟨_,rfl⟩;have hEq1:=Qb q1;simp only[wq1,List.map_cons,List.map_nil,hE2,hE1,hEq1]at oq1;have oq2:=Ze 20 [];obtain⟨q2,wq2⟩:∃q2,ofT 20 []=q2:=⟨_,rfl⟩;have hEq2:=Qb q2;simp only[wq2,List.map_cons,List.map_nil,hEq2]at oq2;have oq3:=Ze 6 [q1,q2];obtain⟨q3,wq3⟩:∃q3,ofT 6 [q1,q2]=q3:=⟨_,rfl⟩;have hEq3:=Qb q3;simp only[wq3,List.map_cons,List.map_nil,hEq1,hEq2,hEq3]at oq3;have or1:=Ze 6 [x2,x4];obtain⟨r1,wr1⟩:∃r1,ofT 6 [x2,x4]=r1:=⟨_,rfl⟩;have hEr1:=Qb r1;simp only[wr1,List.map_cons,List.map_nil,hE2,hE4,hEr1]at or1;have oy:=Ze 6 [r1,x5];obtain⟨y,wy⟩:∃y,ofT 6 [r1,x5]=y:=⟨_,rfl⟩;have hEy:=Qb y;simp only[wy,List.map_cons,List.map_nil,hEr1,hE5,hEy]at oy;have oi12:okT i1/\(i1.pot:Int)<=100000:=by rw[<- wi1];exact⟨Qy7 Qdc k0.ok k1.ok k4.ok,by have:=Qr5 19 x0 x1 x4;have:=k0.pot;have:=k1.pot;have:=k4.pot;omega⟩
 have oi22:okT i2/\(i2.pot:Int)<=100000:=by rw[<- wi2,<- wla,<- wlx,<- wvv];exact⟨Qy7 Qdc (Qbe _ _ _ k0.ok) (Qbe _ _ _ k1.ok) (Qne Qdc),by have:=Qr5 19 (x0.lift 1 0 0) (x1.lift 1 0 0) (Qeh 0);rw[Qcf,Qcf,Qr3]at this;have:=k0.pot;have:=k1.pot;omega⟩
 have oq32:okT q3/\(q3.pot:Int)<=100000:=by rw[<- wq3,<- wq2,<- wq1];exact⟨Qaj Qdc (Qaj Qdc k2.ok k1.ok) (Wfe Qdc),by have:=Qag 6 (ofT 6 [x2,x1]) (ofT 20 []);have:=Qag 6 x2 x1;have:=Qyy 20;have:=k2.pot;have:=k1.pot;omega⟩
 refine RP.of ?_;generalize hQ:RQ l n Qj (pathR l I J c t f)=Q;rw[hEt];simp only[hE0,hE1,hE2,hE3,hE4,hE5];unfold iO Cs Ts;refine eN Tryz.func176 rfl (by decide) rfl rfl ?_;(refine sI fun K Z=>?_;(repeat rw[Qa];simp);refine Z ?_;clear Z K);(refine Qc fun K hK=>?_;refine dR fun KT hKT=>?_;(repeat rw[Qd];simp));(refine hKT _ _ _ _ (by kernel_rfl) ?_;clear hKT KT);(refine hK _ _ _ ?_;clear hK K);(refine sR fun K hK=>?_;(repeat rw[Qa];simp));rcases Qv l n Qn (sortR l I c x0 f)with ⟨i,f1,e1,q1⟩ | ⟨ee,e1,q1⟩
 rotate_left
 ·have hh:=Zd hk hF bI bJ hI hJ h0 h1 k0 hc;rw[q1]at hh;have hq:=hQ.symm.trans (Wh (e:=ee) (by simp only[e1,Rs.next_ok,Rs.next_err,↓reduceIte,pathR,z0,z1,z2,z3,z4,z5,wlx,wla,wi1,wi2,wq1,wq2,wq3,wvv]));subst hq;clear hQ;simp only[hE0]at hh;unfold iO Cs Wq at hh
  try unfold Ts at hh
  refine cXg [0,1] (hh) ?_;simp[zU];((try simp only[zs]);refine Qk.pan (.inr ⟨[],by decide,by simp,?_⟩);simp[zM])
 have cc1:=Zd hk hF bI bJ hI hJ h0 h1 k0 hc;rw[q1]at cc1;obtain⟨a1,b1, -⟩:=Qai hk.ok bI h0 h2 k0 hc e1;have hEi:Qn i= .agg [.slice (i.map Wv) .any]:=rfl;simp only[hE0,hEi]at cc1;unfold iO Cs at cc1
 try unfold Ts at cc1
 refine cXf [0,1] (cc1) ?_;simp[zU]
 (repeat rw[Qa];simp)
 clear cc1 q1;(refine hK _ _ _ ?_;clear hK K);(refine sR fun K hK=>?_;(repeat rw[Qa];simp));rcases Qv l n Xb (J c x1 x0 f1)with ⟨u2,f2,e2,q2⟩ | ⟨ee,e2,q2⟩
 rotate_left
 ·have hh:=hJ c x1 x0 f1 a1 (by omega) k1 (hc.le (by omega)) (k0.okY (by omega));rw[q2]at hh;have hq:=hQ.symm.trans (Wh (e:=ee) (by simp only[e1,e2,Rs.next_ok,Rs.next_err,↓reduceIte,pathR,z0,z1,z2,z3,z4,z5,wlx,wla,wi1,wi2,wq1,wq2,wq3,wvv]));subst hq;clear hQ;simp only[hE1,hE0]at hh;unfold iO Cs Wq at hh
  try unfold Ts at hh
  refine cXg [0,1] (hh) ?_;simp[zU];((try simp only[zs]);refine Qk.pan (.inr ⟨[],by decide,by simp,?_⟩);simp[zM])
 have cc2:=hJ c x1 x0 f1 a1 (by omega) k1 (hc.le (by omega)) (k0.okY (by omega));rw[q2]at cc2;obtain⟨a2,b2⟩:=bJ c x1 x0 f1 _ _ a1 (by omega) k1 (hc.le (by omega)) (k0.okY (by omega)) e2;unfold Xb at cc2;simp only[hE1,hE0]at cc2;unfold iO Cs at cc2
 try unfold Ts at cc2
 refine cXf [0,1] (cc2) ?_;simp[zU]
 (repeat rw[Qa];simp)
 clear cc2 q2;(refine hK _ _ _ ?_;clear hK K);(refine sR fun K hK=>?_;(repeat rw[Qa];simp));rcases Qv l n Xb (J c x4 x0 f2)with ⟨u3,f3,e3,q3⟩ | ⟨ee,e3,q3⟩
 rotate_left
 ·have hh:=hJ c x4 x0 f2 a2 (by omega) k4 (hc.le (by omega)) (k0.okY (by omega));rw[q3]at hh;have hq:=hQ.symm.trans (Wh (e:=ee) (by simp only[e1,e2,e3,Rs.next_ok,Rs.next_err,↓reduceIte,pathR,z0,z1,z2,z3,z4,z5,wlx,wla,wi1,wi2,wq1,wq2,wq3,wvv]));subst hq;clear hQ;simp only[hE4,hE0]at hh;unfold iO Cs Wq at hh
  try unfold Ts at hh
  refine cXg [0,1] (hh) ?_;simp[zU];((try simp only[zs]);refine Qk.pan (.inr ⟨[],by decide,by simp,?_⟩);simp[zM])
 have cc3:=hJ c x4 x0 f2 a2 (by omega) k4 (hc.le (by omega)) (k0.okY (by omega));rw[q3]at cc3;obtain⟨a3,b3⟩:=bJ c x4 x0 f2 _ _ a2 (by omega) k4 (hc.le (by omega)) (k0.okY (by omega)) e3;unfold Xb at cc3;simp only[hE4,hE0]at cc3;unfold iO Cs at cc3
 try unfold Ts at cc3
 refine cXf [0,1] (cc3) ?_;simp[zU]
 (repeat rw[Qa];simp)
 clear cc3 q3;(refine hK _ _ _ ?_;clear hK K);(refine Qc fun K hK=>?_;refine dR fun KT hKT=>?_;(repeat rw[Qd];simp[L3]));refine Xp.pureD Qf (oi1) ?_ (by simp[D.deeps,D.deep,D.fgts,D.fgt]) (by simp[D.pures,D.pure,Cp.free,D.pures_map]) (by simp[Out.pure,D.pure,D.pures,Cp.free,D.pures_map]);(try simp only[zq]);(repeat rw[Qd];simp);rcases Qv l n Xb (J c x5 i1 f3)with ⟨u4,f4,e4,q4⟩ | ⟨ee,e4,q4⟩
 rotate_left
 ·have hh:=hJ c x5 i1 f3 a3 (by omega) k5 (hc.le (by omega)) ⟨oi12.1,by have:=oi12.2;unfold Yb;omega⟩;rw[q4]at hh;have hq:=hQ.symm.trans (Wh (e:=ee) (by simp only[e1,e2,e3,e4,Rs.next_ok,Rs.next_err,↓reduceIte,pathR,z0,z1,z2,z3,z4,z5,wlx,wla,wi1,wi2,wq1,wq2,wq3,wvv]));subst hq;clear hQ;simp only[hE5,hEi1]at hh;unfold iO Cs Wq at hh
  try unfold Ts at hh
  refine cYo [0,1] true false (hh) (fun o h e=>e) ?_;simp[zU];((try simp only[Qt,Qu,Qr,Qw,Wi]);(repeat(refine Wr _ _ _ _ (by kernel_rfl) ?_;simp only[Qr,List.set,List.nil_append,List.cons_append,Nat.reduceAdd]));(try simp only[Qm]));(refine hKT _ _ _ _ (by kernel_rfl) ?_;clear hKT KT);simp[Xi];((try simp only[zs]);refine Qk.pan (.inr ⟨[],by decide,by simp,?_⟩);simp[zM])
 have cc4:=hJ c x5 i1 f3 a3 (by omega) k5 (hc.le (by omega)) ⟨oi12.1,by have:=oi12.2;unfold Yb;omega⟩;rw[q4]at cc4;obtain⟨a4,b4⟩:=bJ c x5 i1 f3 _ _ a3 (by omega) k5 (hc.le (by omega)) ⟨oi12.1,by have:=oi12.2;unfold Yb;omega⟩ e4;unfold Xb at cc4;simp only[hE5,hEi1]at cc4;unfold iO Cs at cc4
 try unfold Ts at cc4
 refine cYo [0,1] true true (cc4) (fun o h e=>e) ?_;simp[zU];(try simp only[zq]);(repeat rw[Qd];simp);clear cc4 q4;(refine hKT _ _ _ _ (by kernel_rfl) ?_;clear hKT KT);(refine hK _ _ _ ?_;clear hK K);(refine sR fun K hK=>?_;(repeat rw[Qa];simp));rcases Qv l n Qj (I c x2 f4)with ⟨s,f5,e5,q5⟩ | ⟨ee,e5,q5⟩
 rotate_left
 ·have hh:=hI c x2 f4 a4 (by omega) k2 (hc.le (by omega));rw[q5]at hh;have hq:=hQ.symm.trans (Wh (e:=ee) (by simp only[e1,e2,e3,e4,e5,Rs.next_ok,Rs.next_err,↓reduceIte,pathR,z0,z1,z2,z3,z4,z5,wlx,wla,wi1,wi2,wq1,wq2,wq3,wvv]));subst hq;clear hQ;simp only[hE2]at hh;unfold iO Cs Wq at hh
  try unfold Ts at hh
  refine cXg [0,1] (hh) ?_;simp[zU];((try simp only[zs]);refine Qk.pan (.inr ⟨[],by decide,by simp,?_⟩);simp[zM])
 have cc5:=hI c x2 f4 a4 (by omega) k2 (hc.le (by omega));rw[q5]at cc5;obtain⟨a5,b5,d5⟩:=bI _ _ _ _ _ a4 (by omega) k2 (hc.le (by omega)) e5;have hEs:=Qb s;simp only[hE2,hEs]at cc5;unfold iO Cs at cc5
 try unfold Ts at cc5
 refine cXf [0,1] (cc5) ?_;simp[zU]
 (repeat rw[Qa];simp)
 clear cc5 q5;rcases Qv l n asD (asR l s 4 8 f5)with ⟨v,f6,e6,q6⟩ | ⟨ee,e6,q6⟩
 rotate_left
 ·have hh:=Qas hk (n:=n) (k:=4) (e:=8) a5 (by omega) (d5.okY (by omega));rw[q6]at hh;have hq:=hQ.symm.trans (Wh (e:=ee) (by simp only[e1,e2,e3,e4,e5,e6,Rs.next_ok,Rs.next_err,↓reduceIte,pathR,z0,z1,z2,z3,z4,z5,wlx,wla,wi1,wi2,wq1,wq2,wq3,wvv]));subst hq;clear hQ;simp only[hEs]at hh;unfold iO Cs Wq at hh
  try unfold Ts at hh
  refine cXg [0,1] (hh) ?_;simp[zU];((try simp only[zs]);refine Qk.pan (.inr ⟨[],by decide,by simp,?_⟩);simp[zM])
 have cc6:=Qas hk (n:=n) (k:=4) (e:=8) a5 (by omega) (d5.okY (by omega));rw[q6]at cc6;obtain⟨a6,b6,d6,d6b, -⟩:=Qbk hk.ok a5 (d5.okY (by omega)) e6;obtain⟨va,vb⟩:=v;have hEva:=Qb va;have hEvb:=Qb vb;unfold asD at cc6;dsimp only at cc6;simp only[hEs,hEva,hEvb]at cc6;unfold iO Cs at cc6
 try unfold Ts at cc6
 refine cXf [0,1] (cc6) ?_;simp[zU]
 (repeat rw[Qa];simp)
 clear cc6 q6;(refine hK _ _ _ ?_;clear hK K);(refine sR fun K hK=>?_;(repeat rw[Qa];simp));rcases Qv l n Xb (oneR l va x0 13 f6)with ⟨u7,f7,e7,q7⟩ | ⟨ee,e7,q7⟩
 rotate_left
 ·have hh:=Qb0 hk (n:=n) (e:=13) a6 (by omega) d6 (k0.okY (by omega));rw[q7]at hh;have hq:=hQ.symm.trans (Wh (e:=ee) (by simp only[e1,e2,e3,e4,e5,e6,e7,Rs.next_ok,Rs.next_err,↓reduceIte,pathR,z0,z1,z2,z3,z4,z5,wlx,wla,wi1,wi2,wq1,wq2,wq3,wvv]));subst hq;clear hQ;simp only[hEva,hE0]at hh;unfold iO Cs Wq at hh
  try unfold Ts at hh
  refine cXg [0,1] (hh) ?_;simp[zU];((try simp only[zs]);refine Qk.pan (.inr ⟨[],by decide,by simp,?_⟩);simp[zM])
 have cc7:=Qb0 hk (n:=n) (e:=13) a6 (by omega) d6 (k0.okY (by omega));rw[q7]at cc7;obtain⟨a7,b7⟩:=Qe9 a6 e7;unfold Xb at cc7;simp only[hEva,hE0]at cc7;unfold iO Cs at cc7
 try unfold Ts at cc7
 refine cXf [0,1] (cc7) ?_;simp[zU]
 (repeat rw[Qa];simp)
 clear cc7 q7;(refine hK _ _ _ ?_;clear hK K);(refine sR fun K hK=>?_;(repeat rw[Qa];simp));rcases Qv l n asD (asR l vb 4 8 f7)with ⟨w,f8,e8,q8⟩ | ⟨ee,e8,q8⟩
 rotate_left
 ·have hh:=Qas hk (n:=n) (k:=4) (e:=8) a7 (by omega) (d6b.le b7);rw[q8]at hh;have hq:=hQ.symm.trans (Wh (e:=ee) (by simp only[e1,e2,e3,e4,e5,e6,e7,e8,Rs.next_ok,Rs.next_err,↓reduceIte,pathR,z0,z1,z2,z3,z4,z5,wlx,wla,wi1,wi2,wq1,wq2,wq3,wvv]));subst hq;clear hQ;simp only[hEvb]at hh;unfold iO Cs Wq at hh
  try unfold Ts at hh
  refine cXg [0,1] (hh) ?_;simp[zU];((try simp only[zs]);refine Qk.pan (.inr ⟨[],by decide,by simp,?_⟩);simp[zM])
 have cc8:=Qas hk (n:=n) (k:=4) (e:=8) a7 (by omega) (d6b.le b7);rw[q8]at cc8;obtain⟨a8,b8,d8,d8b, -⟩:=Qbk hk.ok a7 (d6b.le b7) e8;obtain⟨wa,wb⟩:=w;have hEwa:=Qb wa;have hEwb:=Qb wb;unfold asD at cc8;dsimp only at cc8;simp only[hEvb,hEwa,hEwb]at cc8;unfold iO Cs at cc8
 try unfold Ts at cc8
 refine cXf [0,1] (cc8) ?_;simp[zU]
 (repeat rw[Qa];simp)
 clear cc8 q8;(refine hK _ _ _ ?_;clear hK K);(refine Qc fun K hK=>?_;refine dR fun KT hKT=>?_;(repeat rw[Qd];simp));refine cYp (ola) ?_;(try simp only[zq]);(repeat rw[Qd];simp);refine cYp (olx) ?_;(try simp only[zq]);(repeat rw[Qd];simp);refine cYp (ovv) ?_;(try simp only[zq]);(repeat rw[Qd];simp[L3]);refine Xp.pureD Qf (oi2) ?_ (by simp[D.deeps,D.deep,D.fgts,D.fgt]) (by simp[D.pures,D.pure,Cp.free,D.pures_map]) (by simp[Out.pure,D.pure,D.pures,Cp.free,D.pures_map]);(try simp only[zq]);(repeat rw[Qd];simp);rcases Qv l n Xb (oneR l wa i2 13 f8)with ⟨u9,f9,e9,q9⟩ | ⟨ee,e9,q9⟩
 rotate_left
 ·have hh:=Qb0 hk (n:=n) (e:=13) a8 (by omega) d8 ⟨oi22.1,by have:=oi22.2;unfold Yb;omega⟩;rw[q9]at hh;have hq:=hQ.symm.trans (Wh (e:=ee) (by simp only[e1,e2,e3,e4,e5,e6,e7,e8,e9,Rs.next_ok,Rs.next_err,↓reduceIte,pathR,z0,z1,z2,z3,z4,z5,wlx,wla,wi1,wi2,wq1,wq2,wq3,wvv]));subst hq;clear hQ;simp only[hEwa,hEi2]at hh;unfold iO Cs Wq at hh
  try unfold Ts at hh
  refine cYo [0,1] true false (hh) (fun o h e=>e) ?_;simp[zU];((try simp only[Qt,Qu,Qr,Qw,Wi]);(repeat(refine Wr _ _ _ _ (by kernel_rfl) ?_;simp only[Qr,List.set,List.nil_append,List.cons_append,Nat.reduceAdd]));(try simp only[Qm]));(refine hKT _ _ _ _ (by kernel_rfl) ?_;clear hKT KT);simp[Xi];((try simp only[zs]);refine Qk.pan (.inr ⟨[],by decide,by simp,?_⟩);simp[zM])
 have cc9:=Qb0 hk (n:=n) (e:=13) a8 (by omega) d8 ⟨oi22.1,by have:=oi22.2;unfold Yb;omega⟩;rw[q9]at cc9;obtain⟨a9,b9⟩:=Qe9 a8 e9;unfold Xb at cc9;simp only[hEwa,hEi2]at cc9;unfold iO Cs at cc9
 try unfold Ts at cc9
 refine cYo [0,1] true true (cc9) (fun o h e=>e) ?_;simp[zU];(try simp only[zq]);(repeat rw[Qd];simp);clear cc9 q9;(refine hKT _ _ _ _ (by kernel_rfl) ?_;clear hKT KT);(refine hK _ _ _ ?_;clear hK K);(refine sR fun K hK=>?_;(repeat rw[Qa];simp));rcases Qv l n Qn (lvR l wb f9)with ⟨ll,f10,e10,q10⟩ | ⟨ee,e10,q10⟩
 rotate_left
 ·have hh:=Qcq hk (n:=n) a9 (by omega) (d8b.le (by omega));rw[q10]at hh;have hq:=hQ.symm.trans (Wh (e:=ee) (by simp only[e1,e2,e3,e4,e5,e6,e7,e8,e9,e10,Rs.next_ok,Rs.next_err,↓reduceIte,pathR,z0,z1,z2,z3,z4,z5,wlx,wla,wi1,wi2,wq1,wq2,wq3,wvv]));subst hq;clear hQ;simp only[hEwb]at hh;unfold iO Cs Wq at hh
  try unfold Ts at hh
  refine cXg [0,1] (hh) ?_;simp[zU];((try simp only[zs]);refine Qk.pan (.inr ⟨[],by decide,by simp,?_⟩);simp[zM])
 have cc10:=Qcq hk (n:=n) a9 (by omega) (d8b.le (by omega));rw[q10]at cc10;obtain⟨a10,b10, -⟩:=Qug hk.ok a9 d8b.1 e10;have hEll:Qn ll= .agg [.slice (ll.map Wv) .any]:=rfl;simp only[hEwb,hEll]at cc10;unfold iO Cs at cc10
 try unfold Ts at cc10
 refine cXf [0,1] (cc10) ?_;simp[zU]
 (repeat rw[Qa];simp)
 clear cc10 q10;(refine hK _ _ _ ?_;clear hK K);(refine Qc fun K hK=>?_;refine dR fun KT hKT=>?_;(repeat rw[Qd];simp[L2]));refine Xp.pureD Qf (oq1) ?_ (by simp[D.deeps,D.deep,D.fgts,D.fgt]) (by simp[D.pures,D.pure,Cp.free,D.pures_map]) (by simp[Out.pure,D.pure,D.pures,Cp.free,D.pures_map]);(try simp only[zq]);(repeat rw[Qd];simp[L2]);refine Xp.pureD Qf (oq2) ?_ (by simp[D.deeps,D.deep,D.fgts,D.fgt]) (by simp[D.pures,D.pure,Cp.free,D.pures_map]) (by simp[Out.pure,D.pure,D.pures,Cp.free,D.pures_map]);(try simp only[zq]);(repeat rw[Qd];simp[L2]);refine Xp.pureD Qf (oq3) ?_ (by simp[D.deeps,D.deep,D.fgts,D.fgt]) (by simp[D.pures,D.pure,Cp.free,D.pures_map]) (by simp[Out.pure,D.pure,D.pures,Cp.free,D.pures_map]);(try simp only[zq]);(repeat rw[Qd];simp);rcases Qv l n Xb (J c x3 q3 f10)with ⟨u11,f11,e11,q11⟩ | ⟨ee,e11,q11⟩
 rotate_left
 ·have hh:=hJ c x3 q3 f10 a10 (by omega) k3 (hc.le (by omega)) ⟨oq32.1,by have:=oq32.2;unfold Yb;omega⟩;rw[q11]at hh;have hq:=hQ.symm.trans (Wh (e:=ee) (by simp only[e1,e2,e3,e4,e5,e6,e7,e8,e9,e10,e11,Rs.next_ok,Rs.next_err,↓reduceIte,pathR,z0,z1,z2,z3,z4,z5,wlx,wla,wi1,wi2,wq1,wq2,wq3,wvv]));subst hq;clear hQ;simp only[hE3,hEq3]at hh;unfold iO Cs Wq at hh
  try unfold Ts at hh
  refine cYo [0,1] true false (hh) (fun o h e=>e) ?_;simp[zU];((try simp only[Qt,Qu,Qr,Qw,Wi]);(repeat(refine Wr _ _ _ _ (by kernel_rfl) ?_;simp only[Qr,List.set,List.nil_append,List.cons_append,Nat.reduceAdd]));(try simp only[Qm]));(refine hKT _ _ _ _ (by kernel_rfl) ?_;clear hKT KT);simp[Xi];((try simp only[zs]);refine Qk.pan (.inr ⟨[],by decide,by simp,?_⟩);simp[zM])
 have cc11:=hJ c x3 q3 f10 a10 (by omega) k3 (hc.le (by omega)) ⟨oq32.1,by have:=oq32.2;unfold Yb;omega⟩;rw[q11]at cc11;unfold Xb at cc11;simp only[hE3,hEq3]at cc11;unfold iO Cs at cc11
 try unfold Ts at cc11
 refine cYo [0,1] true true (cc11) (fun o h e=>e) ?_;simp[zU];(try simp only[zq]);(repeat rw[Qd];simp);clear cc11 q11;(refine hKT _ _ _ _ (by kernel_rfl) ?_;clear hKT KT);(refine hK _ _ _ ?_;clear hK K);(refine Qc fun K hK=>?_;refine dR fun KT hKT=>?_;(repeat rw[Qd];simp[L2]));refine Xp.pureD Qf (or1) ?_ (by simp[D.deeps,D.deep,D.fgts,D.fgt]) (by simp[D.pures,D.pure,Cp.free,D.pures_map]) (by simp[Out.pure,D.pure,D.pures,Cp.free,D.pures_map]);(try simp only[zq]);(repeat rw[Qd];simp[L2]);refine Xp.pureD Qf (oy) ?_ (by simp[D.deeps,D.deep,D.fgts,D.fgt]) (by simp[D.pures,D.pure,Cp.free,D.pures_map]) (by simp[Out.pure,D.pure,D.pures,Cp.free,D.pures_map]);(try simp only[zq]);(repeat rw[Qd];simp);have hq:=hQ.symm.trans (Qbi (y) (g:=f11) (by simp only[e1,e2,e3,e4,e5,e6,e7,e8,e9,e10,e11,Rs.next_ok,Rs.next_err,↓reduceIte,pathR,z0,z1,z2,z3,z4,z5,wlx,wla,wi1,wi2,wq1,wq2,wq3,wvv];rw[wr1,wy]));simp only[hEy]at hq;subst hq;clear hQ;(refine hKT _ _ _ _ (by kernel_rfl) ?_;clear hKT KT);(refine hK _ _ _ ?_;clear hK K);(refine Qe ?_;(try simp only[zs]);refine Qk.ret rfl (.inr ⟨[],by decide,by simp,?_⟩);simp[zM])
theorem Wd5{l:List T}{m:Nat}(h:l.length=m+2):∃p bs x,l=p::(bs++ [x])/\bs.length=m:=by
 match l,h with
 | p::r,h =>
  have hr:r≠ []:=by intro e;subst e;simp at h
  refine⟨p,r.dropLast,r.getLast hr,by rw[List.dropLast_concat_getLast],by rw[List.length_dropLast];simp at h;omega⟩
theorem Wba{J:List T ->T ->T ->Int ->Rs Unit}{c:List T}{t:T}(m k:Nat)(f:Int):brR J c t (m+1) k f=(J c (t.kid (k+1)) (ofT 6 [t.kid 0,Qid k t.a]) f).next fun _ f=>brR J c t m (k+1) f:=rfl
end
@[simp] theorem Wc8 (σ:Nat ->Nat):∀a b:List D,D.rens σ (a++b)=D.rens σ a++D.rens σ b
 | [],b=>by rw[D.rens];rfl
 | x::r,b=>by rw[List.cons_append,D.rens,D.rens,Wc8 σ r b];rfl
@[simp] theorem Qub (p:Nat ->Bool):∀a b:List D,D.okNs p (a++b)=(D.okNs p a && D.okNs p b)
 | [],b=>by rw[D.okNs];rfl
 | x::r,b=>by rw[List.cons_append,D.okNs,D.okNs,Qub p r b,Bool.and_assoc]
section
set_option maxHeartbeats 16000000 in
theorem Qwa{l:List C}{n F:Int}{I:List T ->T ->Int ->Rs T}{J:List T ->T ->T ->Int ->Rs Unit}(hk:Kc l)(hF:F<=20000)(bI:IB l n I)(bJ:KB l n J)(hI:IS l n I F)(hJ:KS l n J F){c:List T}{t:T}{f:Int}(h0:0<=f)(h1:f<=F)(hs:Sub n (l.map C.lv) c t)(hc:Cx c f)(hkk:t.k=24) :
  Sp 179 [.box 0 0,Ts c,Qj t] (iO f l n) (RP l n Qj (casesR l I J c t f)):=by
 have h2:f<=20000:=by omega
 have hcl:=hc.len;have hcc:c.length<=1000000:=by omega
 have L1:1<=Ql:=by unfold Ql;omega
 have L2:2<=Ql:=by unfold Ql;omega
 have L3:3<=Ql:=by unfold Ql;omega
 obtain⟨ha,hl⟩:=Wa6 hs hkk;obtain⟨p,bs,x,hks,hbl⟩:=Wd5 hl;obtain⟨m,hm⟩:∃m:Nat,t.a=(m:Int):=⟨t.a.toNat,by omega⟩;have hma:=hs.ok.a;rw[hm]at hma;have hbm:bs.length=m:=by omega
 have hbb:∀i:Int,Qba t.k i=false:=fun i=>by rw[hkk];exact Wbd i
 have z0:t.kid 0=p:=by unfold T.kid;rw[hks];rfl
 have zx:t.kid (m+1)=x:=by unfold T.kid;rw[hks,<- hbm];simp
 have zk:∀k (h:k<bs.length),t.kid (k+1)=bs[k]:=fun k h=>by unfold T.kid;rw[hks,List.getD_eq_getElem?_getD,List.getElem?_cons_succ,List.getElem?_append_left h,List.getElem?_eq_getElem h];rfl
 have hlen1:t.ks.length=m+2:=by omega
 have k0:=hs.kid (i:=0) (by omega) (hbb _);rw[z0]at k0;have kx:=hs.kid (i:=m+1) (by omega) (hbb _);rw[zx]at kx;have kk:∀k (h:k<bs.length),Sub n (l.map C.lv) c bs[k]:=fun k h=>by
  have:=hs.kid (i:=k+1) (by omega) (hbb _)
  rwa [zk k h]at this
 have hlm:m<=Ql:=by have:=hs.ok.kl;omega
 unfold Ql at hlm;have hEt:Qj t= .agg [.int .i64 t.k, .int .i64 t.n, .int .i64 m, .slice (t.ls.map Qn) .any, .slice (Qj p::(bs.map Qj++ [Qj x])) .any]:=by rw[Qb t,hks,hm];simp
 have hEp:=Qb p;have hEx:=Qb x;obtain⟨fa,wfa⟩:∃fa,Qju m=fa:=⟨_,rfl⟩;have hEfa:Qj fa= .agg [.int .i64 22, .int .i64 m, .int .i64 0, .slice [] .any, .slice [] .any]:=by rw[<- wfa];unfold Qju;rw[Qfg];rfl
 have ofa:okY f fa:=by rw[<- wfa];exact⟨Qsw hma,by rw[Qr6];unfold Yb;omega⟩
 have hw1:IntKind.i64.wrap ((m:Int)+1)=(m:Int)+1:=Qbu (by omega) (by omega);have hm1:(0:Int)<=(m:Int)+1:=by omega
 have hix:(bs.map Qj++ [Qj x])[m]?=some (Qj x):=by rw[List.getElem?_append_right (by simp[hbm])];simp[hbm]
 have hta:(bs.map Qj++ [Qj x]).take m=bs.map Qj:=by rw[List.take_append_of_le_length (by simp[hbm]),List.take_of_length_le (by simp[hbm])]
 have hlen0:m<=bs.length+1:=by omega
 simp only[hEp,hEx]at hEt hix hta;have ow:=Ze 6 [p,x];obtain⟨w,ww⟩:∃w,ofT 6 [p,x]=w:=⟨_,rfl⟩;have hEw:=Qb w;simp only[ww,List.map_cons,List.map_nil,hEp,hEx,hEw]at ow;refine RP.of ?_;generalize hQ:RQ l n Qj (casesR l I J c t f)=Q;rw[hEt];unfold iO Cs Ts;refine eN Tryz.func179 rfl (by decide) rfl rfl ?_;(refine sI fun K Z=>?_;(repeat rw[Qa];simp);refine Z ?_;clear Z K);(refine Qc fun K hK=>?_;refine dR fun KT hKT=>?_;(repeat rw[Qd];simp[hix,hw1,hm1]));(refine hKT _ _ _ _ (by kernel_rfl) ?_;clear hKT KT);(refine hK _ _ _ ?_;clear hK K);(refine sR fun K hK=>?_;(repeat rw[Qa];simp));rcases Qv l n Xb (J c x fa f)with ⟨u1,f1,e1,q1⟩ | ⟨ee,e1,q1⟩
 rotate_left
 ·have hh:=hJ c x fa f h0 h1 kx hc ofa;rw[q1]at hh;have hq:=hQ.symm.trans (Wh (e:=ee) (by simp only[e1,Rs.next_ok,Rs.next_err,↓reduceIte,casesR,hm,Int.toNat_natCast,z0,zx,wfa]));subst hq;clear hQ;simp only[hEx,hEfa]at hh;unfold iO Cs Wq at hh
  try unfold Ts at hh
  refine cXg [0,1] (hh) ?_;simp[zU];((try simp only[zs]);refine Qk.pan (.inr ⟨[],by decide,by simp,?_⟩);simp[zM])
 have cc1:=hJ c x fa f h0 h1 kx hc ofa;rw[q1]at cc1;obtain⟨a1,b1⟩:=bJ c x fa f _ _ h0 h2 kx hc ofa e1;unfold Xb at cc1;simp only[hEx,hEfa]at cc1;unfold iO Cs at cc1
 try unfold Ts at cc1
 refine cXf [0,1] (cc1) ?_;simp[zU]
 (repeat rw[Qa];simp)
 clear cc1 q1;(refine hK _ _ _ ?_;clear hK K);(refine sR fun K hK=>?_;(repeat rw[Qa];simp));rcases Qv l n Xb (motiveR l I c p fa f1)with ⟨u2,f2,e2,q2⟩ | ⟨ee,e2,q2⟩
 rotate_left
 ·have hh:=Qd6 hk hF bI bJ hI hJ a1 (by omega) k0 (hc.le (by omega)) (y:=fa) (ofa.le (by omega));rw[q2]at hh;have hq:=hQ.symm.trans (Wh (e:=ee) (by simp only[e1,e2,Rs.next_ok,Rs.next_err,↓reduceIte,casesR,hm,Int.toNat_natCast,z0,zx,wfa]));subst hq;clear hQ;simp only[hEp,hEfa]at hh;unfold iO Cs Wq at hh
  try unfold Ts at hh
  refine cXg [0,1] (hh) ?_;simp[zU];((try simp only[zs]);refine Qk.pan (.inr ⟨[],by decide,by simp,?_⟩);simp[zM])
 have cc2:=Qd6 hk hF bI bJ hI hJ a1 (by omega) k0 (hc.le (by omega)) (y:=fa) (ofa.le (by omega));rw[q2]at cc2;obtain⟨a2,b2⟩:=Qgi hk.ok bI a1 (by omega) k0 (hc.le (by omega)) e2;unfold Xb at cc2;simp only[hEp,hEfa]at cc2;unfold iO Cs at cc2
 try unfold Ts at cc2
 refine cXf [0,1] (cc2) ?_;simp[zU]
 (repeat rw[Qa];simp)
 clear cc2 q2;(refine hK _ _ _ ?_;clear hK K);refine Qc fun K1 hK1=>?_
 (refine sI fun K Z=>?_;(repeat rw[Qa];simp[hw1,hm1,hta,hlen0]);refine Z ?_;clear Z K);refine Xm Wa Qf (ti:=3) (tk:=43) (tn:=42) (td:=44) (ts:=59) [10,11,43,44,45,46,47,48,49,50,51,52,53,54,55,56,57,58,59] [] (bs.length) (fun k ys hl=>∃(g:Int),ys= []/\brR J c t m 0 f2=brR J c t (m - k) k g/\0<=g/\g<=f2/\hl= [.cells 165 [.int .i64 g, .slice (l.map Qbj) .any, .int .i64 n, .map 1], .mp Qcl, .cells 27 [.int .i64 t.k, .int .i64 t.n, .int .i64 m, .slice (t.ls.map Qn) .any, .slice (.agg [.int .i64 p.k, .int .i64 p.n, .int .i64 p.a, .slice (p.ls.map Qn) .any, .slice (p.ks.map Qj) .any]::(bs.map Qj++ [.agg [.int .i64 x.k, .int .i64 x.n, .int .i64 x.a, .slice (x.ls.map Qn) .any, .slice (x.ks.map Qj) .any]])) .any], .cells 27 [.int .i64 0, .int .i64 0, .int .i64 0, .slice [] .full, .slice [] .full], .cells 27 [.int .i64 p.k, .int .i64 p.n, .int .i64 p.a, .slice (p.ls.map Qn) .any, .slice (p.ks.map Qj) .any], .cells 27 [.int .i64 x.k, .int .i64 x.n, .int .i64 x.a, .slice (x.ls.map Qn) .any, .slice (x.ks.map Qj) .any], .cells 27 [.int .i64 22, .int .i64 m, .int .i64 0, .slice [] .full, .slice [] .full]]) rfl rfl rfl rfl rfl rfl rfl rfl rfl rfl rfl rfl (by simp) (by decide) rfl (by first | assumption | omega | (unfold Ql;omega)) rfl (by kernel_rfl) (by decide) ?_ ?_ ?_
 ·exact⟨f2,rfl,rfl,a2,Int.le_refl _,rfl⟩
 ·rintro i ys hl A hi ⟨g,rfl,hb,g0,g1,rfl⟩ hA hA2;simp only[Qh,List.set,List.map_cons,List.map_nil,List.cons_append,List.nil_append];have hi':(i:Int)<bs.length:=by omega
  obtain⟨y,hy⟩:∃y,bs[i]=y:=⟨_,rfl⟩;have ky:=kk i hi;rw[hy]at ky;have hEy:=Qb y;obtain⟨d,hd⟩:∃d,m - i=d+1:=⟨m - i - 1,by omega⟩;rw[hd,Wba,zk i hi,hy,z0,hm]at hb;have oe:=Ze 6 [p,Qid i m];have hEe:Qj (Qid i m)= .agg [.int .i64 23, .int .i64 i, .int .i64 m, .slice [] .any, .slice [] .any]:=by unfold Qid;rw[Qfg];rfl
  have oyq:okT (ofT 6 [p,Qid i m])/\((ofT 6 [p,Qid i m]).pot:Int)<=100000:=⟨Qaj Qdc k0.ok (Qu2 (by unfold I64;unfold I64 at hma;omega) hma),by have:=Qag 6 p (Qid i m);rw[Qt7]at this;have:=k0.pot;omega⟩;generalize ofT 6 [p,Qid i m]=w at oe oyq hb;have hEw:=Qb w;simp only[List.map_cons,List.map_nil,hEp,hEe,hEw]at oe;have sp:=hJ c y w g g0 (by omega) ky (hc.le (by omega)) ⟨oyq.1,by have:=oyq.2;unfold Yb;omega⟩;have bd:∀u g',J c y w g= .ok (u,g') ->0<=g'/\g'<=g - 1:=fun u g' h=>bJ c y w g u g' g0 (by omega) ky (hc.le (by omega)) ⟨oyq.1,by have:=oyq.2;unfold Yb;omega⟩ h
  simp only[hEy,hEw]at sp;(refine sI fun K Z=>?_;(repeat rw[Qa];simp[hi,hi',hy,hEy]);refine Z ?_;clear Z K);(refine dR fun KT hKT=>?_;(repeat rw[Qd];simp[L2]));refine Xp.pureD Qf (oe) ?_ (by simp[D.deeps,D.deep,D.fgts,D.fgt]) (by simp[D.pures,D.pure,Cp.free,D.pures_map]) (by simp[Out.pure,D.pure,D.pures,Cp.free,D.pures_map]);(try simp only[zq]);(repeat rw[Qd];simp);rcases Qv l n Xb (J c y w g)with ⟨u3,g',e3,q3⟩ | ⟨ee,e3,q3⟩
  rotate_left
  ·rw[q3]at sp;have hq:=hQ.symm.trans (Wh (e:=ee) (by simp only[casesR,hm,Int.toNat_natCast,z0,zx,wfa,e1,e2,hb,e3,Rs.next_ok,Rs.next_err]));subst hq;clear hQ;unfold iO Cs Wq at sp;unfold Ts at sp;refine cYo [0,1] true false (sp) (fun o h e=>e) ?_;simp[zU];((try simp only[Qt,Qu,Qr,Qw,Wi]);(repeat(refine Wr _ _ _ _ (by kernel_rfl) ?_;simp only[Qr,List.set,List.nil_append,List.cons_append,Nat.reduceAdd]));(try simp only[Qm]));(refine hKT _ _ _ _ (by kernel_rfl) ?_;clear hKT KT);simp[Xi];((try simp only[zs]);refine Qk.pan (.inr ⟨[],by decide,by simp,?_⟩);simp[zM])
  rw[q3]at sp;obtain⟨b3,b4⟩:=bd _ _ e3;rw[e3,Rs.next_ok]at hb;unfold iO Cs Xb at sp;unfold Ts at sp;refine cYo [0,1] true true (sp) (fun o h e=>e) ?_;simp[zU];(try simp only[zq]);(repeat rw[Qd];simp);(refine hKT _ _ _ _ (by kernel_rfl) ?_;clear hKT KT);(refine hA2 ([2,3,4,5,6]) _ _ _ (LeT.refl _) (by decide) (by simp) (by simp[zM,Qh]) ?_ rfl;simp[zM])
  first | exact⟨g',by rw[hb,show m - (i+1)=d by omega],by omega,by omega,rfl⟩ | exact⟨g',by rw[hb,show m - (i+1)=d by omega],by omega,by omega⟩ | exact⟨by rw[hb,show m - (i+1)=d by omega],by omega,by omega⟩
 ·rintro ys hl tl' ⟨g,rfl,hb,g0,g1,rfl⟩ htl;refine hK1 _ _ _ (Xo htl ?_);simp only[Qh,List.set,List.map_cons,List.map_nil,List.cons_append,List.nil_append];clear hK1 K1;rw[show m - bs.length=0 by omega]at hb;have hb:brR J c t m 0 f2= .ok ((),g):=hb;(refine sR fun K hK=>?_;(repeat rw[Qa];simp[L2]));refine Wl.pureD Qf (ow) ?_ (by simp[D.deeps,D.deep,D.fgts,D.fgt]) (by simp[D.pures,D.pure,Cp.free,D.pures_map]) (by simp[Out.pure,D.pure,D.pures,Cp.free,D.pures_map]);(try simp only[zr]);(repeat rw[Qa];simp);have hq:=hQ.symm.trans (Qbi (w) (g:=g) (by simp only[e1,e2,hb,Rs.next_ok,Rs.next_err,↓reduceIte,casesR,hm,Int.toNat_natCast,z0,zx,wfa];rw[ww]));simp only[hEw]at hq;subst hq;clear hQ;(refine hK _ _ _ ?_;clear hK K);(refine Qe ?_;(try simp only[zs]);refine Qk.ret rfl (.inr ⟨[],by decide,by simp,?_⟩);simp[zM])
end
end Go.Proofs.YtgloldepdhgfaaaGreatDoor
