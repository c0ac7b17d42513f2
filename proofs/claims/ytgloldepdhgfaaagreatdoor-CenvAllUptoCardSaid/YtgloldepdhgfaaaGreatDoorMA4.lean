/-
  MA4: the texts Lrt Ccd Ccl Hrp Lval Lsuc Ifd Dfo Ddp Hen Hk Hs Ho Hw Hx Hrn Hy Hz Ha Hb Hc Cva Cvb Ife Iff, one behind the other.
-/
import Derived.Test.YtgloldepdhgfaaaGreatDoorMA3
namespace Go.Proofs.YtgloldepdhgfaaaGreatDoor
set_option linter.unusedSimpArgs false
set_option linter.unusedVariables false
set_option maxHeartbeats 10000000
set_option maxRecDepth 20000
open Go.RowKit
attribute [local simp] Qx Qm Qo Qp Wn Xg opD Qz Qr Qw Wi hOf Wj Xf Xd TK.isAgg TK.known Ws Wk Wc Qh D.ofV inB Wb Wp Xx Xz Zg Xc Xv Zh IntKind.min IntKind.max IntKind.signed IntKind.bits Wl Xy
theorem Ql5(x:Int):Sp 231 [.int .i64 x] [] (rt (.bool false)):=by
 refine eN Tryz.func231 rfl (by decide) rfl rfl ?_;(refine sR fun K hK=>?_;(repeat rw [Qa];simp);refine hK _ _ _ ?_;clear hK K);(refine sR fun K hK=>?_;(repeat rw [Qa];simp);refine hK _ _ _ ?_;clear hK K);(refine Qe ?_;(try simp only [zs]);refine Qk.ret rfl (.inl ?_);simp [zM])
def cmpI(x y:Int):Int:=if x<y then -1 else if y<x then 1 else 0
theorem Qpz(x y:Int):Sp 220 [.int .i64 x, .int .i64 y] [] (rt (.int .i64 (cmpI x y))):=by
 refine eN Tryz.func220 rfl (by decide) rfl rfl ?_;(refine sR fun K hK=>?_;(repeat rw [Qa];simp);refine hK _ _ _ ?_;clear hK K);(refine sR fun K hK=>?_;(repeat rw [Qa];simp));refine cXr (Ql5 x) ?_
 (repeat rw [Qa];simp)
 (refine hK _ _ _ ?_;clear hK K);(refine sR fun K hK=>?_;(repeat rw [Qa];simp));refine cXr (Ql5 y) ?_
 (repeat rw [Qa];simp)
 (refine hK _ _ _ ?_;clear hK K);refine Qc fun K1 hK1=>?_
 (refine sR fun K hK=>?_;(repeat rw [Qa];simp);refine hK _ _ _ ?_;clear hK K);refine Qad rfl (fun h=>by simp at h) (fun _=>Qg (hK1 _ _ _ ?_));clear hK1 K1;refine Qc fun K1 hK1=>?_
 (refine sR fun K hK=>?_;(repeat rw [Qa];simp);refine hK _ _ _ ?_;clear hK K);refine Qad rfl (fun h=>by simp at h) (fun _=>Qg (hK1 _ _ _ ?_));clear hK1 K1;refine Qc fun K1 hK1=>?_
 (refine sR fun K hK=>?_;(repeat rw [Qa];simp);refine hK _ _ _ ?_;clear hK K);refine Qad rfl (fun h=>?_) (fun h=>Qg (hK1 _ _ _ ?_))
 ·(refine sR fun K hK=>?_;(repeat rw [Qa];simp);refine hK _ _ _ ?_;clear hK K);(refine Qe ?_;(try simp only [zs]);refine Qk.ret rfl (.inl ?_);simp [zM]);simp [cmpI,show x<y by simpa using h]
 ·clear hK1 K1
  replace h:¬ x<y:=by simpa using h
  refine Qc fun K1 hK1=>?_
  (refine sR fun K hK=>?_;(repeat rw [Qa];simp);refine hK _ _ _ ?_;clear hK K);refine Qad rfl (fun h2=>?_) (fun h2=>Qg (hK1 _ _ _ ?_))
  ·(refine sR fun K hK=>?_;(repeat rw [Qa];simp);refine hK _ _ _ ?_;clear hK K);(refine Qe ?_;(try simp only [zs]);refine Qk.ret rfl (.inl ?_);simp [zM]);simp [cmpI,h,show y<x by simpa using h2]
  ·clear hK1 K1;(refine sR fun K hK=>?_;(repeat rw [Qa];simp);refine hK _ _ _ ?_;clear hK K);(refine Qe ?_;(try simp only [zs]);refine Qk.ret rfl (.inl ?_);simp [zM]);simp [cmpI,h,show ¬ y<x by simpa using h2]
def orI:List Int ->Int
 | []=>0
 | x::r=>if x=0 then orI r else x
theorem or_spec(l:List Int)(hl:l.length<=Ql):Sp 219 [Qd3 l] [] (rt (.int .i64 (orI l))):=by
 unfold Ql at hl;refine eN Tryz.func219 rfl (by decide) rfl rfl ?_;unfold Qd3;(refine sR fun K hK=>?_;(repeat rw [Qa];simp);refine hK _ _ _ ?_;clear hK K);(refine sR fun K hK=>?_;(repeat rw [Qa];simp);refine hK _ _ _ ?_;clear hK K);refine Qc fun K1 hK1=>?_
 (refine sR fun K hK=>?_;(repeat rw [Qa];simp);refine hK _ _ _ ?_;clear hK K);refine Qy ?_;refine Qg1 [2,5,8,9,10,11,12,13,14,15,16] (fun n ys hl=>∃(k:Nat) (x2 x5 x9 x10 x11 x12 x13 x14 x15 x16:D),ys= [x2,x5, .int .i64 k,x9,x10,x11,x12,x13,x14,x15,x16]/\n+k=l.length/\orI l=orI (l.drop k)/\hl= []) (l.length) (by kernel_rfl) ?_ ?_
 ·exact⟨0,_,_,_,_,_,_,_,_,_,_,rfl,rfl,rfl,rfl⟩
 ·rintro n ys hl A hA ⟨k,x2,x5,x9,x10,x11,x12,x13,x14,x15,x16,rfl,hn,hi,rfl⟩;simp only [Qh,List.set];(refine sR fun K hK=>?_;(repeat rw [Qa];simp);refine hK _ _ _ ?_;clear hK K);refine Qc fun K2 hK2=>?_
  refine Qad rfl (fun hk=>?_) (fun hk=>?_)
  ·replace hk:k<l.length:=by simpa using hk
   refine Qg (hK2 _ _ _ ?_);clear hK2 K2;refine Qc fun K3 hK3=>?_
   refine Qy ?_;(refine sR fun K hK=>?_;(repeat rw [Qa];simp [hk]);refine hK _ _ _ ?_;clear hK K);(refine sR fun K hK=>?_;(repeat rw [Qa];simp);refine hK _ _ _ ?_;clear hK K);refine Qad rfl (fun hb=>?_) (fun hb=>?_)
   ·(refine sR fun K hK=>?_;(repeat rw [Qa];simp);refine hK _ _ _ ?_;clear hK K);(refine Qe ?_;(try simp only [zs]);refine Qk.ret rfl (.inl ?_);simp [zM]);rw [hi,List.drop_eq_getElem_cons hk,orI,if_neg (by simpa using hb)]
   ·refine Qg (hK3 _ _ _ ?_);clear hK3 K3;have hw:IntKind.i64.wrap ((k:Int)+1)=(k:Int)+1:=Qbp (by omega) (by omega);(refine Qi Wa ?_;(repeat rw [Qa];simp [hw]));refine hA (n - 1) _ _ (by omega) (by kernel_rfl) ?_;exact⟨k+1,_,_,_,_,_,_,_,_,_,_,rfl,by omega,by rw [hi,List.drop_eq_getElem_cons hk,orI,if_pos (by simpa using hb)],rfl⟩
  ·refine Qab (hK1 _ _ _ ?_);(refine sR fun K hK=>?_;(repeat rw [Qa];simp);refine hK _ _ _ ?_;clear hK K);(refine Qe ?_;(try simp only [zs]);refine Qk.ret rfl (.inl ?_);simp [zM]);rw [hi,List.drop_eq_nil_of_le (by simpa using hk),orI]
def Qeu:LV ->Bool
 | []=>true
 | [_]=>true
 | a::b::r=>decide (a.1<b.1) && Qeu (b::r)
theorem Qgh:∀l:LV,Qeu l=true↔∀i (h:i+1<l.length),(l[i]'(by omega)).1<l[i+1].1
 | []=>by simp [Qeu]
 | [_]=>by simp [Qeu]
 | a::b::r=>by
  rw [Qeu,Bool.and_eq_true,decide_eq_true_eq,Qgh (b::r)];constructor
  ·rintro⟨h1,h2⟩ i h;cases i with
   | zero=>exact h1
   | succ i=>exact h2 i (by simpa using h)
  ·intro h;exact⟨h 0 (by simp),fun i hi=>h (i+1) (by simpa using hi)⟩
def Qgo(n:Int)(p:Int×Int):Bool:=decide (p.1<0) || decide (n<p.1) || decide (p.2<0) || decide (1000<p.2)
def Zc(l:LV)(n:Int):Bool:=Qeu l && decide (l.length<=9) && !(l.any (Qgo n))
def Qs1(p q:Int×Int):Int:=orI [cmpI p.1 q.1, -1]
theorem Quw(p q:Int×Int):Qs1 p q<0↔¬ q.1<p.1:=by
 unfold Qs1 cmpI;by_cases h1:p.1<q.1
 ·simp [h1,orI];omega
 ·by_cases h2:q.1<p.1 <;> simp [h1,h2,orI]
theorem Qq1(p q:Int×Int):Sp 218 [Wv p,Wv q] [] (rt (.int .i64 (Qs1 p q))):=by
 refine eN Tryz.func218 rfl (by decide) rfl rfl ?_;(refine sR fun K hK=>?_;(repeat rw [Qa];simp);refine hK _ _ _ ?_;clear hK K);(refine sR fun K hK=>?_;(repeat rw [Qa];simp));refine cXr (Qpz p.1 q.1) ?_
 (repeat rw [Qa];simp)
 refine Wm.pure Qf (or_spec [cmpI p.1 q.1, -1] (by simp [Ql])) ?_ (by simp [D.fgts,D.fgt,Qd3]) (by simp [D.pures,D.pure,Cp.free,D.pures_map,Qd3]) (by simp [Out.pure,D.pure,D.pures,Cp.free,D.pures_map,Qd3]);(try simp only [zr]);(repeat rw [Qa];simp);(refine hK _ _ _ ?_;clear hK K);(refine Qe ?_;(try simp only [zs]);refine Qk.ret rfl (.inl ?_);simp [zM]);rfl
theorem Qq0(n:Int)(p:Int×Int):Sp 221 [Wv p, .ref (.int .i64 n)] [] (rt (.bool (Qgo n p))):=by
 refine eN Tryz.func221 rfl (by decide) rfl rfl ?_;(refine sR fun K hK=>?_;(repeat rw [Qa];simp);refine hK _ _ _ ?_;clear hK K);by_cases h1:p.1<0
 ·(refine sR fun K hK=>?_;(repeat rw [Qa];simp [h1]);refine hK _ _ _ ?_;clear hK K);(refine Qe ?_;(try simp only [zs]);refine Qk.ret rfl (.inl ?_);simp [zM]);simp [Qgo,h1]
 ·by_cases h2:n<p.1
  ·(refine sR fun K hK=>?_;(repeat rw [Qa];simp [h1,h2]);refine hK _ _ _ ?_;clear hK K);(refine Qe ?_;(try simp only [zs]);refine Qk.ret rfl (.inl ?_);simp [zM]);simp [Qgo,h2]
  ·by_cases h3:p.2<0
   ·(refine sR fun K hK=>?_;(repeat rw [Qa];simp [h1,h2,h3]);refine hK _ _ _ ?_;clear hK K);(refine Qe ?_;(try simp only [zs]);refine Qk.ret rfl (.inl ?_);simp [zM]);simp [Qgo,h3]
   ·(refine sR fun K hK=>?_;(repeat rw [Qa];simp [h1,h2,h3]);refine hK _ _ _ ?_;clear hK K);(refine Qe ?_;(try simp only [zs]);refine Qk.ret rfl (.inl ?_);simp [zM]);simp [Qgo,h1,h2,h3]
theorem Qnp(l:LV)(hl:l.length<=Ql):Sp 217 [Ps l, .fn (.func 218) [] []] [] (rt (.bool (Qeu l))):=by
 unfold Ql at hl;refine eN Tryz.func217 rfl (by decide) rfl rfl ?_;unfold Ps;(refine sR fun K hK=>?_;(repeat rw [Qa];simp);refine hK _ _ _ ?_;clear hK K);have hw:IntKind.i64.wrap ((l.length:Int) - 1)=(l.length:Int) - 1:=Qbp (by omega) (by omega);refine Qc fun K1 hK1=>?_
 (refine sR fun K hK=>?_;(repeat rw [Qa];simp [hw]);refine hK _ _ _ ?_;clear hK K);refine Qy ?_;refine Qg1 [4,5,9,10,11,12,13,14,15,16,17,18,19,20,21,22,23,24] (fun n ys hl=>∃(k:Int) (x4 x9 x10 x11 x12 x13 x14 x15 x16 x17 x18 x19 x20 x21 x22 x23 x24:D),ys= [x4, .int .i64 k,x9,x10,x11,x12,x13,x14,x15,x16,x17,x18,x19,x20,x21,x22,x23,x24]/\(k<n/\k<l.length/\ -1<=k)/\(∀i (h:i+1<l.length),k<=i ->(l[i]'(by omega)).1<l[i+1].1)/\hl= []) (l.length) (by kernel_rfl) ?_ ?_
 ·exact⟨(l.length:Int) - 1,_,_,_,_,_,_,_,_,_,_,_,_,_,_,_,_,_,rfl,by omega,fun i h hi=>by omega,rfl⟩
 ·rintro n ys hl A hA ⟨k,x4,x9,x10,x11,x12,x13,x14,x15,x16,x17,x18,x19,x20,x21,x22,x23,x24,rfl,hn,hi,rfl⟩;simp only [Qh,List.set];refine Qc fun K2 hK2=>?_
  refine Qc fun K3 hK3=>?_
  (refine Qi Wa ?_;(repeat rw [Qa];simp));refine hK3 _ _ _ ?_;clear hK3 K3;refine Qad rfl (fun hk=>?_) (fun hk=>?_)
  ·replace hk:0<k:=by simpa using hk
   refine Qg (hK2 _ _ _ ?_);clear hK2 K2;refine Qc fun K3 hK3=>?_
   refine Qy ?_;obtain⟨j,hjk⟩:∃j:Nat,k=j+1:=⟨(k - 1).toNat,by omega⟩;have hj:j+1<l.length:=by omega
   have hj':j<l.length:=by omega
   have hw1:IntKind.i64.wrap (k - 1)=j:=by rw [Qbp (by omega) (by omega)];omega
   have e1:k.toNat=j+1:=by omega
   have e2:0<=k:=by omega
   (refine Qc fun K hK=>?_;refine dR fun KT hKT=>?_;(repeat rw [Qd];simp [e1,e2,hj,hj',hw1,Wv]));refine Xt.pure Qf (Qq1 (l[j+1]) (l[j])) ?_ (by simp [D.fgts,D.fgt,Wv]) (by simp [D.pures,D.pure,Cp.free,D.pures_map,Wv]) (by simp [Out.pure,D.pure,D.pures,Cp.free,D.pures_map,Wv]);(try simp only [zq]);(repeat rw [Qd];simp);(refine hKT _ _ _ _ (by kernel_rfl) ?_;clear hKT KT);(refine hK _ _ _ ?_;clear hK K);have hr:=Quw l[j+1] l[j];refine Qad rfl (fun hb=>?_) (fun hb=>?_)
   ·replace hb:¬ (l[j].1<l[j+1].1):=by rw [<- hr];simpa using hb
    (refine sR fun K hK=>?_;(repeat rw [Qa];simp);refine hK _ _ _ ?_;clear hK K);(refine Qe ?_;(try simp only [zs]);refine Qk.ret rfl (.inl ?_);simp [zM]);cases hs:Qeu l with
    | false=>rfl
    | true=>exact absurd (Qgh l |>.1 hs j hj) hb
   ·replace hb:l[j].1<l[j+1].1:=by
     have:¬ (Qs1 l[j+1] l[j]<0):=by simpa using hb
     rw [hr]at this;omega
    refine Qg (hK3 _ _ _ ?_);clear hK3 K3;have hw1:IntKind.i64.wrap (k - 1)=k - 1:=Qbp (by omega) (by omega);(refine Qi Wa ?_;(repeat rw [Qa];simp [hw1]));refine hA (n - 1) _ _ (by omega) (by kernel_rfl) ?_;refine⟨k - 1,_,_,_,_,_,_,_,_,_,_,_,_,_,_,_,_,_,rfl,by omega,fun i h hi2=>?_,rfl⟩;by_cases hij:i=j
    ·subst hij;exact hb
    ·exact hi i h (by omega)
  ·replace hk:¬ 0<k:=by simpa using hk
   refine Qab ?_;refine hK1 _ _ _ ?_;(refine sR fun K hK=>?_;(repeat rw [Qa];simp);refine hK _ _ _ ?_;clear hK K);(refine Qe ?_;(try simp only [zs]);refine Qk.ret rfl (.inl ?_);simp [zM]);exact(Qgh l).2 fun i h=>hi i h (by omega)
theorem Qfl(l:LV)(n:Int)(hl:l.length<=Ql):Sp 200 [Qn l, .int .i64 n] [] (rt (.bool (Zc l n))):=by
 have hl':=hl;unfold Ql at hl';refine eN Tryz.func200 rfl (by decide) rfl rfl ?_;(refine sR fun K hK=>?_;(repeat rw [Qa];simp);refine hK _ _ _ ?_;clear hK K);(refine sR fun K hK=>?_;(repeat rw [Qa];simp));refine Wm.pure Qf (Qnp l hl) ?_ (by simp [D.fgts,D.fgt,Ps]) (by simp [D.pures,D.pure,Cp.free,D.pures_map,Ps]) (by simp [Out.pure,D.pure,D.pures,Cp.free,D.pures_map,Ps]);(try simp only [zr]);(repeat rw [Qa];simp);(refine hK _ _ _ ?_;clear hK K);(refine Xe (T:=Qq) 1 (ty:=3) (ds:= [.int .i64 n]) rfl rfl (by first | exact⟨rfl, .inr ⟨_,rfl,rfl⟩⟩ | exact⟨rfl, .inl rfl⟩) ?_;simp [D.frzs,D.frz,HO.frz,Qaj,Qao,TK.isAgg,FK.isB,FK.isM,FK.isO,D.isLen]);cases hs:Qeu l with
 | false =>
  (refine sR fun K hK=>?_;(repeat rw [Qa];simp);refine hK _ _ _ ?_;clear hK K);(refine Qe ?_;(try simp only [zs]);refine Qk.ret rfl (.inl ?_);simp [zM]);simp [Zc,hs]
 | true =>
  by_cases h9:l.length<=9
  ·have h9':(l.length:Int)<=9:=by omega
   (refine sR fun K hK=>?_;(repeat rw [Qa];simp [h9,h9']));refine cXr (Qcb l (Qgo n) _ [.ref (.int .i64 n)] rfl rfl hl fun p _=>Qq0 n p) ?_
   (repeat rw [Qa];simp)
   (refine hK _ _ _ ?_;clear hK K);(refine Qe ?_;(try simp only [zs]);refine Qk.ret rfl (.inl ?_);simp [zM]);simp [Zc,hs,h9]
  ·have h9':¬ (l.length:Int)<=9:=by omega
   (refine sR fun K hK=>?_;(repeat rw [Qa];simp [h9,h9']);refine hK _ _ _ ?_;clear hK K);(refine Qe ?_;(try simp only [zs]);refine Qk.ret rfl (.inl ?_);simp [zM]);simp [Zc,hs,h9]
end Go.Proofs.YtgloldepdhgfaaaGreatDoor
namespace Go.Proofs.YtgloldepdhgfaaaGreatDoor
set_option linter.unusedSimpArgs false
set_option linter.unusedVariables false
open Go.RowKit
def Qfs(t:T):Bool:=decide (t.n=0) && decide (t.a=0) && decide (t.ls= [])
def Qb5(sc:Int)(t:T):Bool:=decide (0<=t.n) && decide (t.n<sc) && decide (t.a=0) && decide (t.ls= [])
def finB(t:T):Bool:=decide (0<=t.n) && decide (t.a=0) && decide (t.ls= [])
def Qzn(t:T):Bool:=decide (0<=t.n) && decide (t.n<t.a) && decide (t.ls= [])
def Qcw(t:T):Bool:=decide (t.n=0) && decide (0<=t.a) && decide (t.ls= [])
def Qqq(n:Int)(t:T):Bool:=decide (t.n=0) && decide (t.a=0) && decide (t.ls.length=1) && (t.ls.all fun l=>Zc l n)
def Qmc(n:Int)(cs:List Int)(t:T):Bool:=decide (0<=t.n) && decide (t.n<cs.length) && decide (t.a=0) && decide ((t.ls.length:Int)=cs.getD t.n.toNat 0) && (t.ls.all fun l=>Zc l n)
def Qn0(n sc:Int)(cs:List Int)(t:T):Bool :=
 if t.k=1 then Qb5 sc t else if t.k=2 then Qqq n t else if t.k=3 then Qmc n cs t else if t.k=22 then finB t else if t.k=23 then Qzn t else if t.k=24 then Qcw t else Qfs t
def Qwa(k a:Int):Int :=
 if k=7\/k=19 then 3 else if k=14\/k=15 then 1 else if k=18 then 5 else if k=21 then 6 else if k=24 then IntKind.i64.wrap (a+2)else if k=1\/k=2\/k=3\/k=20\/k=22\/k=23 then 0 else 2
def Qho(k:Int):Bool:=(decide (1<=k) && decide (k<=7)) || (decide (12<=k) && decide (k<=24))
def Qj2(n sc:Int)(cs:List Int)(t:T):Bool:=Qho t.k && Qn0 n sc cs t && decide ((t.ks.length:Int)=Qwa t.k t.a)
mutual
def Qcf(n:Int)(cs:List Int):T ->Int ->Bool
 | .mk k m a ls ks,sc=>Qj2 n sc cs (.mk k m a ls ks) && Qiy n cs ks k 0 sc
def Qiy(n:Int)(cs:List Int):List T ->Int ->Nat ->Int ->Bool
 | [],_,_,_=>true
 | t::r,k,i,sc=>Qcf n cs t (Xl sc k i) && Qiy n cs r k (i+1) sc
end
def Xu(n sc:Int)(cs:List Int)(t:T):Bool:=decide (0<=n) && decide (0<=sc) && Qcf n cs t sc
theorem Qmb{n:Int}{cs:List Int}{k sc:Int}:∀{ks:List T} {i:Nat},Qiy n cs ks k i sc=true↔∀j (h:j<ks.length),Qcf n cs ks[j] (Xl sc k ((i+j:Nat):Int))=true
 | [],i=>by rw [Qiy];simp
 | t::r,i=>by
  rw [Qiy,Bool.and_eq_true,Qmb (ks:=r)];constructor
  ·rintro⟨h1,h2⟩ j hj;cases j with
   | zero=>exact h1
   | succ j =>
    have:=h2 j (by simpa using hj);rw [show i+1+j=i+(j+1) by omega]at this;exact this
  ·intro h;refine⟨h 0 (by simp),fun j hj=>?_⟩;have:=h (j+1) (by simpa using hj);rw [show i+(j+1)=i+1+j by omega]at this;exact this
theorem Qik{n:Int}{cs:List Int}{k m a:Int}{ls:List LV}{ks:List T}{sc:Int}:Qcf n cs (.mk k m a ls ks) sc=true↔Qj2 n sc cs (.mk k m a ls ks)=true/\∀j (h:j<ks.length),Qcf n cs ks[j] (Xl sc k (j:Int))=true:=by
 rw [Qcf,Bool.and_eq_true,Qmb];simp only [Nat.zero_add]
theorem Qek{d k i:Int}(h: -1000000000000000<=d)(h2:d<=1000000000000000):Xl d k i=if Qa7 k i then d+1 else d:=by
 unfold Xl;split
 ·rw [Qbp (by omega) (by omega)]
 ·rfl
theorem Qhw{d k i:Int}(h: -1000000000000000<=d)(h2:d<=1000000000000000):d<=Xl d k i/\Xl d k i<=d+1:=by
 rw [Qek h h2];split <;> omega
theorem Qim{d c k i:Int}(h1:0<=d)(h2:0<=c)(h:d+c<=1000000000000000):Xl (d+c) k i=Xl d k i+c:=by
 rw [Qek (by omega) (by omega),Qek (by omega) (by omega)];split <;> omega
theorem ask_ks{n sc:Int}{cs:List Int}{k m a:Int}{ls:List LV}(ks ks':List T):Qn0 n sc cs (.mk k m a ls ks)=Qn0 n sc cs (.mk k m a ls ks'):=rfl
theorem Qhj{n sc:Int}{cs:List Int}{t:T}:Qj2 n sc cs t=true↔Qho t.k=true/\Qn0 n sc cs t=true/\(t.ks.length:Int)=Qwa t.k t.a:=by
 unfold Qj2;simp only [Bool.and_eq_true,decide_eq_true_eq,and_assoc]
theorem Qg3{sc:Int}{t:T}:Qb5 sc t=true↔0<=t.n/\t.n<sc/\t.a=0/\t.ls= []:=by
 unfold Qb5;simp only [Bool.and_eq_true,decide_eq_true_eq,and_assoc]
theorem Qhi{n sc:Int}{cs:List Int}{m a:Int}{ls:List LV}{ks:List T}:Qj2 n sc cs (.mk 1 m a ls ks)=true↔0<=m/\m<sc/\a=0/\ls= []/\ks= []:=by
 rw [Qhj,Qn0,if_pos (show(T.mk 1 m a ls ks).k=1 from rfl),Qg3];simp only [T.k_mk,T.n_mk,T.a_mk,T.ls_mk,T.ks_mk];have e:Qwa 1 a=0:=rfl;rw [e];constructor
 ·rintro⟨-,⟨h1,h2,h3,h4⟩,h5⟩;exact⟨h1,h2,h3,h4,List.length_eq_zero_iff.1 (by omega)⟩
 ·rintro⟨h1,h2,h3,h4,rfl⟩;exact⟨rfl,⟨h1,h2,h3,h4⟩,rfl⟩
theorem Qx6{n sc sc':Int}{cs:List Int}{t:T}(hk:t.k≠1):Qj2 n sc cs t=Qj2 n sc' cs t:=by
 have:Qn0 n sc cs t=Qn0 n sc' cs t:=by unfold Qn0;rw [if_neg hk,if_neg hk]
 unfold Qj2;rw [this]
theorem Qx7{n sc:Int}{cs:List Int}{k m a:Int}{ls:List LV}{ks ks':List T}(h:ks.length=ks'.length):Qj2 n sc cs (.mk k m a ls ks)=Qj2 n sc cs (.mk k m a ls ks'):=by
 rw [Bool.eq_iff_iff,Qhj,Qhj,ask_ks ks ks'];simp only [T.k_mk,T.ks_mk,T.a_mk,h]
def Qjh(cs cs':List Int):Prop:=cs.length<=cs'.length/\∀i,i<cs.length ->cs'.getD i 0=cs.getD i 0
theorem Qjh.refl(cs:List Int):Qjh cs cs:=⟨Nat.le_refl _,fun _ _=>rfl⟩
theorem Qjh.append(cs more:List Int):Qjh cs (cs++more):=by
 refine⟨by simp,fun i hi=>?_⟩;rw [List.getD_eq_getElem?_getD,List.getD_eq_getElem?_getD,List.getElem?_append_left hi]
def ScOk(sc:Int)(t:T):Prop:=0<=sc/\sc+t.deep<=1000000000000000
theorem ScOk.kid{sc k m a:Int}{ls:List LV}{ks:List T}(h:ScOk sc (.mk k m a ls ks)){t:T}(ht:t∈ks)(i:Int):ScOk (Xl sc k i) t:=by
 have h1:=T.deep_kid (k:=k) (n:=m) (a:=a) (ls:=ls) ht;obtain⟨h2,h3⟩:=h;have:=Qhw (d:=sc) (k:=k) (i:=i) (by omega) (by omega);unfold ScOk;omega
theorem Qwr{f:Turn}{k d:Int}{ks:List T}{i:Nat}:∀{j:Nat} (h:j<(T.walks f k ks i d).length) (h':j<ks.length),(T.walks f k ks i d)[j]=T.walk f ks[j] (Xl d k ((i+j:Nat):Int)):=by
 induction ks generalizing i with
 | nil=>intro j h h';simp at h'
 | cons t r ih =>
  intro j h h';cases j with
  | zero=>simp only [T.walks,List.getElem_cons_zero];rfl
  | succ j =>
   have hr:j<r.length:=by simpa using h'
   simp only [T.walks,List.getElem_cons_succ];rw [ih (by rw [T.walks_length];exact hr) hr,show i+1+j=i+(j+1) by omega]
theorem Qlp{f:Turn}{k d:Int}{ks:List T}{j:Nat}(h:j<(T.walks f k ks 0 d).length):(T.walks f k ks 0 d)[j]=T.walk f (ks[j]'(by rw [T.walks_length]at h;exact h)) (Xl d k (j:Int)):=by
 rw [Qwr h (by rw [T.walks_length]at h;exact h),Nat.zero_add]
theorem Qzq{n:Int}{cs:List Int}{lift fr:Int}(hl:0<=lift/\lift<=2000000000000)(t:T):∀sc d,0<=d ->d<=sc ->ScOk (sc+lift) t ->Qcf n cs t sc=true ->Qcf n cs (T.walk (Qau lift fr) t d) (sc+lift)=true:=by
 induction t using T.ind with
 | h k m a ls ks ih =>
  intro sc d hd hds hf h;have hf1:=hf.1;have hf2:=hf.2;rw [Qfd];rw [Qik]at h⊢;refine⟨?_,fun j hj=>?_⟩
  ·by_cases hk:k=1
   ·subst hk;obtain⟨h1,h2,rfl,rfl,rfl⟩:=Qhi.1 h.1;rw [Qhi];have hnum:Qb9 lift fr d 1 m=m\/Qb9 lift fr d 1 m=m+lift:=by
     unfold Qb9;split
     ·right;exact Qbp (by omega) (by omega)
     ·left;rfl
    refine⟨by omega,by omega,rfl,rfl,by simp [T.walks]⟩
   ·have e:Qb9 lift fr d k m=m:=by unfold Qb9;rw [if_neg (fun h=>hk h.1)]
    rw [e,Qx7 (ks':=ks) (T.walks_length _ _ _ _ _),Qx6 (t:= .mk k m a ls ks) (sc':=sc) hk];exact h.1
  ·have hj':j<ks.length:=by rw [T.walks_length]at hj;exact hj
   have hm:=List.getElem_mem hj';rw [Qlp hj];have hsc:=h.2 j hj';have e:Xl (sc+lift) k (j:Int)=Xl sc k (j:Int)+lift:=Qim (by omega) (by omega) (by omega);rw [e];have b1:=Qhw (d:=sc) (k:=k) (i:=(j:Int)) (by omega) (by omega);refine ih _ hm _ _ ?_ ?_ ?_ hsc
   ·have:=Qhw (d:=d) (k:=k) (i:=(j:Int)) (by omega) (by omega);omega
   ·rw [Qek (by omega) (by omega),Qek (by omega) (by omega)];split <;> omega
   ·rw [<- e];exact hf.kid hm _
theorem Wc9{n:Int}{cs:List Int}{bys:List T}{s0:Int}(h0:0<=s0)(hb:∀b,b∈bys ->Qcf n cs b s0=true/\b.deep<=DM)(hbl:bys.length<=Ql)(t:T):∀d,0<=d ->ScOk (s0+bys.length+d) t ->ScOk s0 t ->s0<=90000000000000 ->d+t.deep<=DM ->Qcf n cs t (s0+bys.length+d)=true ->Qcf n cs (T.walk (Qah bys) t d) (s0+d)=true:=by
 induction t using T.ind with
 | h k m a ls ks ih =>
  intro d hd hf hf0 hdm hdd h;have hf1:=hf.1;have hf2:=hf.2;unfold Ql at hbl;rw [Qik]at h;have hkids:∀m',(∀ms:List T,ms.length=ks.length ->Qj2 n (s0+d) cs (.mk k m' a ls ms)=true) ->Qcf n cs (.mk k m' a ls (T.walks (Qah bys) k ks 0 d)) (s0+d)=true:=by
   intro m' hm';rw [Qik];refine⟨hm' _ (T.walks_length _ _ _ _ _),fun j hj=>?_⟩;have hj':j<ks.length:=by rw [T.walks_length]at hj;exact hj
   have hm:=List.getElem_mem hj';rw [Qlp hj];have hsc:=h.2 j hj';have hdk:=T.deep_kid (k:=k) (n:=m) (a:=a) (ls:=ls) hm;have b1:=Qhw (d:=d) (k:=k) (i:=(j:Int)) (by omega) (by omega);have e1:Xl (s0+bys.length+d) k (j:Int)=s0+bys.length+Xl d k (j:Int):=by
    rw [Int.add_comm,Qim hd (by omega) (by omega)];omega
   have e2:Xl (s0+d) k (j:Int)=s0+Xl d k (j:Int):=by
    rw [Int.add_comm,Qim hd (by omega) (by omega)];omega
   rw [e2];rw [e1]at hsc;have hbk:Xl d k (j:Int)+ks[j].deep<=DM:=by omega
   refine ih _ hm _ (by omega) ?_ ?_ ?_ hbk hsc
   ·rw [<- e1];exact hf.kid hm _
   ·exact⟨hf0.1,by have:=hf0.2;omega⟩
   ·exact hdm
  by_cases hk:k=1
  ·subst hk;obtain⟨h1,h2,rfl,rfl,rfl⟩:=Qhi.1 h.1;by_cases hh:d<=m
   ·by_cases hl:(m - d).toNat<bys.length
    ·rw [Qmk (Qh6 (t:= .mk 1 m 0 [] []) ⟨rfl,hh⟩ hl)];obtain⟨hb1,hb2⟩:=hb (bys[bys.length - 1 - (m - d).toNat]'(by omega)) (List.getElem_mem _);have hdd':d<=DM:=by have:=hdd;omega
     unfold DM at hb2 hdd';exact Qzq (lift:=d) (fr:=0) ⟨hd,by omega⟩ _ s0 0 (by omega) h0 ⟨by omega,by simp only [T.n_mk];omega⟩ hb1
    ·rw [Qer (Qfi (t:= .mk 1 m 0 [] []) ⟨rfl,hh⟩ hl)];refine hkids _ fun ms hms=>?_
     obtain rfl:ms= []:=by simpa using hms
     rw [Qhi];simp only [T.n_mk];rw [Qbp (by omega) (by omega)];refine⟨by omega,by omega,?_,?_,?_⟩ <;> first | rfl | trivial
   ·rw [Qer (Qev (t:= .mk 1 m 0 [] []) (fun h=>hh h.2))];refine hkids _ fun ms hms=>?_
    obtain rfl:ms= []:=by simpa using hms
    rw [Qhi];refine⟨by simp only [T.n_mk];omega,by simp only [T.n_mk];omega,?_,?_,?_⟩ <;> first | rfl | trivial
  ·rw [Qer (Qev (t:= .mk k m a ls ks) (fun h=>hk h.1))];refine hkids _ fun ms hms=>?_
   have e:=Qx7 (n:=n) (sc:=s0+d) (cs:=cs) (k:=k) (m:=m) (a:=a) (ls:=ls) hms;rw [Qx6 (t:= .mk k m a ls ks) (sc':=s0+bys.length+d) hk,h.1]at e;exact e
def lowL(most:Int)(l:LV):Bool:=l.all fun p=>decide (p.2<=most)
mutual
def T.lowB(most:Int):T ->Bool
 | .mk _ _ _ ls ks=>ls.all (lowL most) && T.lowsB most ks
def T.lowsB(most:Int):List T ->Bool
 | []=>true
 | t::r=>T.lowB most t && T.lowsB most r
end
theorem Qeb{n sc:Int}{cs:List Int}{t:T}:Xu n sc cs t=true↔0<=n/\0<=sc/\Qcf n cs t sc=true:=by
 unfold Xu;simp [and_assoc]
theorem Qzy(i:Int):Qa7 24 i=false:=by
 unfold Qa7;rw [show(Qee 24).2.2.2.2= -1 from by kernel_rfl];simp;omega
theorem Qzz{d k i:Int}(h:Qa7 k i=false):Xl d k i=d:=by unfold Xl;rw [h];rfl
theorem Qv8{d k i:Int}(h:Qa7 k i=true)(hd:0<=d/\d<=1000000):Xl d k i=d+1:=by rw [Qek (by omega) (by omega),if_pos h]
theorem kid_at{t:T}{i:Nat}(h:i<t.ks.length):t.kid i=t.ks[i]:=by unfold T.kid;rw [List.getD_eq_getElem?_getD,List.getElem?_eq_getElem h];rfl
theorem Qt2{n:Int}{cs:List Int}{t:T}{sc:Int}(h:Qcf n cs t sc=true){i:Nat}(hi:i<t.ks.length):Qcf n cs (t.kid i) (Xl sc t.k (i:Int))=true:=by
 rw [kid_at hi];cases t with
 | mk k m a ls ks=>exact(Qik.1 h).2 i hi
theorem Qht{n:Int}{cs:List Int}{t:T}{sc:Int}(h:Qcf n cs t sc=true):Qho t.k=true/\Qn0 n sc cs t=true/\(t.ks.length:Int)=Qwa t.k t.a:=by
 cases t with
 | mk k m a ls ks=>exact Qhj.1 (Qik.1 h).1
structure BodyOk (cs : List Int) (l : List C) : Prop where
 eq:cs=l.map C.lv
 lv:∀c,c∈l ->0<=c.lv/\c.lv<=8
 bo:∀c,c∈l ->c.has=true ->Qcf c.lv cs c.bo 0=true
 low:∀c,c∈l ->c.bo.lowB 400=true
 deep:∀c,c∈l ->c.bo.deep<=1000000
end Go.Proofs.YtgloldepdhgfaaaGreatDoor
namespace Go.Proofs.YtgloldepdhgfaaaGreatDoor
set_option linter.unusedSimpArgs false
set_option linter.unusedVariables false
set_option maxHeartbeats 10000000
set_option maxRecDepth 20000
open Go.RowKit
attribute [local simp] Qx Qm Qo Qp Wn Xg opD Qz Qr Qw Wi hOf Wj Xf Xd TK.isAgg TK.known Ws Wk Wc Qh D.ofV inB Wb Wp Xx Xz Zg Xc Xv Zh IntKind.min IntKind.max IntKind.signed IntKind.bits Wl Xy
def Qqd(p:Int×Int):Int×Int:=(p.1,p.2+1)
def Qfa(l:LV):LV:=if Wg l= [] then Wg [(0,1)] else Wg ((Wg l).map Qqd)
theorem mixL{N:LV}{k:Nat}(hk:k<N.length):((N.take k).map Qqd++N.drop k).set k (Qqd N[k])=(N.take (k+1)).map Qqd++N.drop (k+1):=by
 have hl:((N.take k).map Qqd).length=k:=by rw [List.length_map,List.length_take];omega
 rw [List.drop_eq_getElem_cons hk,List.take_succ_eq_append_getElem hk,List.set_append_right _ _ (by omega),hl,Nat.sub_self,List.set_cons_zero,List.map_append,List.append_assoc];rfl
theorem Wce{N:LV}{k:Nat}(hk:k<N.length)(h:k<((N.take k).map Qqd++N.drop k).length):((N.take k).map Qqd++N.drop k)[k]=N[k]:=by
 rw [List.getElem_append_right (by rw [List.length_map,List.length_take];omega)];simp [List.length_take,Nat.min_eq_left (Nat.le_of_lt hk)]
theorem Qul(l:LV)(hl:l.length<=Ql):Sp 199 [Qn l] [] (Wdr (Qfa l)):=by
 have hsp:=Qib l hl;have hnf:=Qas l;have hnl:=Qia l;have hs1:Wg l= [] ->Qfa l=Wg [(0,1)]:=fun h=>if_pos h
 have hs2:Wg l≠ [] ->Qfa l=Wg ((Wg l).map Qqd):=fun h=>if_neg h
 generalize Wg l=N at hsp hnf hnl hs1 hs2;have hsp2:=Qib (N.map Qqd) (by rw [List.length_map];unfold Ql;omega);have hnum:=Qx3 1;unfold Qn at hsp hsp2⊢;refine eN Tryz.func199 rfl (by decide) rfl rfl ?_;(refine sR fun K hK=>?_;(repeat rw [Qa];simp);refine hK _ _ _ ?_;clear hK K);(refine sR fun K hK=>?_;(repeat rw [Qa];simp));refine Wm.objs Qf [] true hsp ?_ ?_ (by decide) (by simp) (by simp [zA]) (by simp [zA]) (by simp [zA]) (by simp [zA])
 ·rintro o hc (⟨hn,rfl,rfl⟩ | ⟨rfl,rfl⟩)
  ·refine⟨false,?_⟩;simp [zU]
   (repeat rw [Qa];simp)
   (refine hK _ _ _ ?_;clear hK K);rw [hs1 hn];refine Qc fun K1 hK1=>?_
   (refine sR fun K hK=>?_;(repeat rw [Qa];simp);refine hK _ _ _ ?_;clear hK K);refine pT rfl ?_;(refine sR fun K hK=>?_;(repeat rw [Qa];simp));refine Wm.objs Qf [] true hnum ?_ ?_ (by decide) (by simp) (by simp [zA]) (by simp [zA]) (by simp [zA]) (by simp [zA])
   ·rintro o hc (⟨hn,rfl,rfl⟩ | ⟨rfl,rfl⟩)
    ·refine⟨false,?_⟩;simp [zU]
     (repeat rw [Qa];simp)
     (refine hK _ _ _ ?_;clear hK K);(refine Qe ?_;(try simp only [zs]);refine Qk.ret rfl (.inr ⟨[],by decide,by simp,?_⟩);simp [zM]);exact .inl ⟨hn,rfl,rfl⟩
    ·refine⟨false,?_⟩;simp [zU]
     (repeat rw [Qa];simp)
     (refine hK _ _ _ ?_;clear hK K);(refine Qe ?_;(try simp only [zs]);refine Qk.ret rfl (.inr ⟨[2],by decide,by simp,?_⟩);simp [zM]);exact .inr ⟨rfl,rfl⟩
   ·rintro o hc (⟨hn,rfl,rfl⟩ | ⟨rfl,rfl⟩) <;> simp
  ·refine⟨false,?_⟩;simp [zU]
   (repeat rw [Qa];simp)
   (refine hK _ _ _ ?_;clear hK K);refine Qc fun K1 hK1=>?_
   by_cases hn:N= []
   ·rw [hs1 hn];subst hn;(refine sR fun K hK=>?_;(repeat rw [Qa];simp);refine hK _ _ _ ?_;clear hK K);refine pT rfl ?_;(refine sR fun K hK=>?_;(repeat rw [Qa];simp));refine Wm.objs Qf [] true hnum ?_ ?_ (by decide) (by simp) (by simp [zA]) (by simp [zA]) (by simp [zA]) (by simp [zA])
    ·rintro o hc (⟨hn,rfl,rfl⟩ | ⟨rfl,rfl⟩)
     ·refine⟨false,?_⟩;simp [zU]
      (repeat rw [Qa];simp)
      (refine hK _ _ _ ?_;clear hK K);(refine Qe ?_;(try simp only [zs]);refine Qk.ret rfl (.inr ⟨[],by decide,by simp,?_⟩);simp [zM]);exact .inl ⟨hn,rfl,rfl⟩
     ·refine⟨false,?_⟩;simp [zU]
      (repeat rw [Qa];simp)
      (refine hK _ _ _ ?_;clear hK K);(refine Qe ?_;(try simp only [zs]);refine Qk.ret rfl (.inr ⟨[3],by decide,by simp,?_⟩);simp [zM]);exact .inr ⟨rfl,rfl⟩
    ·rintro o hc (⟨hn,rfl,rfl⟩ | ⟨rfl,rfl⟩) <;> simp
   ·rw [hs2 hn];have hn0:¬ (N.length:Int)=0:=by
     have:N.length≠0:=fun h=>hn (List.eq_nil_of_length_eq_zero h)
     omega
    (refine sR fun K hK=>?_;(repeat rw [Qa];simp [hn,hn0]);refine hK _ _ _ ?_;clear hK K);refine pF rfl ?_;refine Qg (hK1 _ _ _ ?_);clear hK1 K1;refine Qc fun K1 hK1=>?_
    (refine sR fun K hK=>?_;(repeat rw [Qa];simp);refine hK _ _ _ ?_;clear hK K);refine Qbr Wa Qf (ti:=3) (tk:=14) (tn:=13) (td:=15) (ts:=26) [3,14,15,16,17,18,19,20,21,22,23,24,25,26] (N.length) (fun k ys hl=>∃(x3 x14 x15 x16 x17 x18 x19 x20 x21 x22 x23 x24 x25 x26:D),ys= [x3,x14,x15,x16,x17,x18,x19,x20,x21,x22,x23,x24,x25,x26]/\hl= [.cells 53 [.own 2 N.length], .cells 53 [.slice [] .full], .row 2 (((N.take k).map Qqd++N.drop k).map Wv)]) rfl rfl rfl rfl rfl rfl rfl rfl rfl rfl rfl rfl (by simp) (by decide) rfl (by first | assumption | omega | (unfold Ql;omega)) rfl (by kernel_rfl) (by decide) ?_ ?_ ?_
    ·exact⟨_,_,_,_,_,_,_,_,_,_,_,_,_,_,rfl,by simp⟩
    ·rintro k ys hl A hk ⟨x3,x14,x15,x16,x17,x18,x19,x20,x21,x22,x23,x24,x25,x26,rfl,rfl⟩ hA hA2;simp only [Qh,List.set];have hset:=mixL hk;have hXl:((N.take k).map Qqd++N.drop k).length=N.length:=by rw [List.length_append,List.length_map,List.length_take,List.length_drop];omega
     have hkX:k<((N.take k).map Qqd++N.drop k).length:=by omega
     have hgt:=Wce hk hkX;generalize (N.take k).map Qqd++N.drop k=X at hset hXl hkX hgt;have hb:=Qcn (hnf.ok N[k] (List.getElem_mem hk));rw [<- hgt]at hb hset;obtain⟨p,hp⟩:∃p,p=X[k]:=⟨_,rfl⟩;rw [<- hp]at hb hset;have hge:X[k]=p:=hp.symm;have hw1:IntKind.i64.wrap (p.2+1)=p.2+1:=Qbp (by omega) (by omega);(refine sR fun K hK=>?_;(repeat rw [Qa];simp);refine hK _ _ _ ?_;clear hK K);(refine Qi Wa ?_;(repeat rw [Qa];simp [hk,hkX,hge,hw1,Wv,hXl]));(refine hA _ _ (by kernel_rfl) ?_ rfl;simp only [Qbl,List.map_cons,List.map_nil]);exact⟨_,_,_,_,_,_,_,_,_,_,_,_,_,_,rfl,by rw [<- hset];simp [Qqd,Wv,reD]⟩
    ·rintro ys hl ⟨x3,x14,x15,x16,x17,x18,x19,x20,x21,x22,x23,x24,x25,x26,rfl,rfl⟩;simp only [Qh,List.set];refine hK1 _ _ _ ?_;clear hK1 K1;rw [List.take_length,List.drop_length,List.append_nil];have hfin:=hs2 hn;clear hs1 hs2;have hML:(N.map Qqd).length=N.length:=List.length_map ..;generalize N.map Qqd=M at hsp2 hfin hML;(refine Qd4 2 rfl ?_;simp [D.frzs,D.frz,HO.frz,Qaj,FK.isB,FK.isM,FK.isO,D.isLen,hML]);(refine sR fun K hK=>?_;(repeat rw [Qa];simp));refine Wm.objs Qf [] true hsp2 ?_ ?_ (by decide) (by simp) (by simp [zA]) (by simp [zA]) (by simp [zA]) (by simp [zA])
     ·rintro o hc (⟨hn,rfl,rfl⟩ | ⟨rfl,rfl⟩)
      ·refine⟨false,?_⟩;simp [zU]
       (repeat rw [Qa];simp)
       (refine hK _ _ _ ?_;clear hK K);(refine Qe ?_;(try simp only [zs]);refine Qk.ret rfl (.inr ⟨[],by decide,by simp,?_⟩);simp [zM]);rw [hfin];exact .inl ⟨hn,rfl,rfl⟩
      ·refine⟨false,?_⟩;simp [zU]
       (repeat rw [Qa];simp)
       (refine hK _ _ _ ?_;clear hK K);(refine Qe ?_;(try simp only [zs]);refine Qk.ret rfl (.inr ⟨[3],by decide,by simp,?_⟩);simp [zM]);rw [hfin];exact .inr ⟨rfl,rfl⟩
     ·rintro o hc (⟨hn,rfl,rfl⟩ | ⟨rfl,rfl⟩) <;> simp
 ·rintro o hc (⟨hn,rfl,rfl⟩ | ⟨rfl,rfl⟩) <;> simp
theorem Qw0(l:LV)(hl:l.length<=Ql):Sp 199 [Qn l] [] (rt (Qn (Qfa l))):=Wbr (Qul l hl)
theorem nf_01:NF [(0,4),(1,1)]:=⟨by decide,by decide,by decide⟩
theorem nf_n(n:Int)(h:0<n)(h2:n<=1048576):NF [(0,n)]:=⟨by simp,by simp [Qhz];omega,by simp;omega⟩
theorem nf_v(n:Int)(h:0<n)(h2:n<=1048576):NF [(n,0)]:=⟨by simp,by simp [Qhz];omega,by simp;omega⟩
theorem n1:Wg [(1,0)]= [(1,0)]:=Qh9 (nf_v 1 (by omega) (by omega))
theorem n2:Wg [(2,0)]= [(2,0)]:=Qh9 (nf_v 2 (by omega) (by omega))
theorem n3:Wg [(0,3)]= [(0,3)]:=Qh9 (nf_n 3 (by omega) (by omega))
theorem nf_03:NF [(0,3),(1,0)]:=⟨by decide,by decide,by decide⟩
theorem n4:Wg [(1,0),(0,3)]= [(0,3),(1,0)]:=by
 rw [Wb9 (b:= [(0,3),(1,0)]) (by unfold okV;decide) (by unfold okV;decide) (fun p hp=> .self (by simp at hp⊢;exact hp.symm)) (fun p hp=> .self (by simp at hp⊢;exact hp.symm))];exact Qh9 nf_03
theorem n5:Qfa [(0,3),(1,0)]= [(0,4),(1,1)]:=by
 unfold Qfa;rw [Qh9 nf_03,if_neg (by simp)];exact Qh9 nf_01
theorem q1:Qwf [(1,1)] [(0,5),(1,2)]=true:=(Qnl (by unfold okV;decide) (by unfold okV;decide)).2 fun p hp=>by
 simp at hp;subst hp;exact .inr ⟨(1,2),by simp, .inr rfl,by decide⟩
theorem q2:Qwf [(0,5)] [(1,0)]=false:=by
 cases h:Qwf [(0,5)] [(1,0)]with
 | false=>rfl
 | true =>
  have:=(Qnl (by unfold okV;decide) (by unfold okV;decide)).1 h (0,5) (by simp);rcases this with ⟨-,h⟩ | ⟨q,hq, -,h⟩
  ·cases h
  ·simp at hq;subst hq;exact absurd h (by decide)
theorem q3:Qwf [] [(1,0)]=true:=(Qnl (by unfold okV;decide) (by unfold okV;decide)).2 fun p hp=>by cases hp
end Go.Proofs.YtgloldepdhgfaaaGreatDoor
namespace Go.Proofs.YtgloldepdhgfaaaGreatDoor
set_option linter.unusedSimpArgs false
set_option linter.unusedVariables false
open Go.RowKit
abbrev Rs(α:Type):=Except Int (α×Int)
def Rs.next{α β:Type}(r:Rs α)(k:α ->Int ->Rs β):Rs β:=match r with
 | .ok (x,f)=>k x f
 | .error e=> .error e
theorem Rs.next_ok{α β:Type}{x:α}{f:Int}{k:α ->Int ->Rs β}:Rs.next (.ok (x,f)) k=k x f:=rfl
theorem Rs.next_err{α β:Type}{e:Int}{k:α ->Int ->Rs β}:Rs.next (.error e) k= .error e:=rfl
theorem Rs.next_some{α β:Type}{r:Rs α}{k:α ->Int ->Rs β}{y:β}{g:Int}(h:r.next k= .ok (y,g)):∃x f,r= .ok (x,f)/\k x f= .ok (y,g):=by
 cases r with
 | error e=>cases h
 | ok v=>exact⟨v.1,v.2,rfl,h⟩
noncomputable def hdR (l : List C) (t : T) (f : Int) : Rs T := match Classical.epsilon (fun o => HdO l t f o) with
 | some v=> .ok v
 | none=> .error 5
noncomputable def cvR (l : List C) (a b : T) (f : Int) : Rs Bool := match Classical.epsilon (fun o => ∃ h, CR l h [a] [b] f o) with
 | some v=> .ok v
 | none=> .error 5
noncomputable def lqR (l : List C) (a b : T) (f : Int) : Rs Bool := match Classical.epsilon (fun o => ∃ h, LR l h a b f o) with
 | some v=> .ok v
 | none=> .error 5
theorem Qns(l:List C)(t:T){f:Int}(h0:0<=f):(∃v,hdR l t f= .ok v/\HdO l t f (some v))\/(hdR l t f= .error 5/\HdO l t f none):=by
 have:=Classical.epsilon_spec (Qcu l t f h0);unfold hdR;cases h:Classical.epsilon (fun o=>HdO l t f o)with
 | none=>rw [h]at this;exact .inr ⟨rfl,this⟩
 | some v=>rw [h]at this;exact .inl ⟨v,rfl,this⟩
theorem Qty(l:List C)(a b:T){f:Int}(h0:0<=f):(∃v h,cvR l a b f= .ok v/\CR l h [a] [b] f (some v))\/∃h,cvR l a b f= .error 5/\CR l h [a] [b] f none:=by
 have ht:∃o h,CR l h [a] [b] f o:=by obtain⟨h,o,H⟩:=Qnw l f.toNat [a] [b] rfl f h0 (by omega);exact⟨o,h,H⟩
 have:=Classical.epsilon_spec ht;unfold cvR;cases h:Classical.epsilon (fun o=>∃h,CR l h [a] [b] f o)with
 | none=>rw [h]at this;obtain⟨q,this⟩:=this;exact .inr ⟨q,rfl,this⟩
 | some v=>rw [h]at this;obtain⟨q,this⟩:=this;exact .inl ⟨v,q,rfl,this⟩
theorem Qnh(l:List C)(a b:T){f:Int}(h0:0<=f):(∃v h,lqR l a b f= .ok v/\LR l h a b f (some v))\/∃h,lqR l a b f= .error 5/\LR l h a b f none:=by
 have ht:∃o h,LR l h a b f o:=by obtain⟨h,o,H⟩:=Wcm l f.toNat a b f h0 (by omega);exact⟨o,h,H⟩
 have:=Classical.epsilon_spec ht;unfold lqR;cases h:Classical.epsilon (fun o=>∃h,LR l h a b f o)with
 | none=>rw [h]at this;obtain⟨q,this⟩:=this;exact .inr ⟨q,rfl,this⟩
 | some v=>rw [h]at this;obtain⟨q,this⟩:=this;exact .inl ⟨v,q,rfl,this⟩
def Qqc(t a:T)(f:Int):Rs T:=if((t.sd a.nsz 0:Nat):Int)<=f then .ok (t.put [a] 0,f - (t.sd a.nsz 0:Nat))else .error 5
noncomputable def lvR (l : List C) (t : T) (f : Int) : Rs LV := (hdR l t f).next fun x f => if x.k = 2 /\ x.ls.length = 1 then .ok (x.ls.getD 0 [], f) else .error 7
noncomputable def asR (l : List C) (t : T) (k e : Int) (f : Int) : Rs (T × T) := (hdR l t f).next fun x f => if x.k = k then .ok ((x.kid 0, x.kid 1), f) else .error e
noncomputable def oneR (l : List C) (a b : T) (e f : Int) : Rs Unit := (cvR l a b f).next fun is f => if is = true then .ok ((), f) else .error e
def Qiq(l:LV):T:= .mk 2 0 0 [l] []
def Qje(n:Int):T:= .mk 22 n 0 [] []
def Qd5(n:Int):T:= .mk 1 n 0 [] []
def Qjm(a b p:T):T :=
 ofT 4 [a,ofT 4 [ofT 4 [b,ofT 16 [a.lift 2 0 0,b.lift 2 1 0]],ofT 4 [ofT 4 [b.lift 1 0 0,ofT 6 [p.lift 3 0 0,ofT 6 [Qd5 1,Qd5 0]]],ofT 6 [p.lift 3 0 0,ofT 17 [Qd5 2,Qd5 1]]]]]
def Qoe(l:List C)(num:Int)(lv:List LV):T :=
 if h:0<=num/\num.toNat<l.length then if(l[num.toNat]'h.2).lv=lv.length then(l[num.toNat]'h.2).ty.levels lv 0 else Xa else Xa
section
variable (l : List C) (n : Int) (I : List T -> T -> Int -> Rs T) (K : List T -> T -> T -> Int -> Rs Unit)
noncomputable def sortR (c : List T) (t : T) (f : Int) : Rs LV := (I c t f).next fun s f => lvR l s f
noncomputable def motiveR (c : List T) (p t : T) (f : Int) : Rs Unit := (I c p f).next fun s f => (asR l s 4 8 f).next fun v f => (oneR l v.1 t 13 f).next fun _ f => (lvR l v.2 f).next fun _ f => .ok ((), f)
def Qfe(c:List T)(t:T)(f:Int):Rs T:= .ok ((c.getD (c.length - 1 - t.n.toNat) Xa).lift (t.n+1) 0 0,f)
def Qd6(t:T)(f:Int):Rs T:=if Zc (Qfa (t.ls.getD 0 [])) n=true then .ok (Qiq (Qfa (t.ls.getD 0 [])),f)else .error 15
def Qfp(t:T)(f:Int):Rs T:= .ok (Qoe l t.n t.ls,f)
noncomputable def formerR (c : List T) (t : T) (f : Int) : Rs T := (sortR l I c (t.kid 0) f).next fun i f => (sortR l I (c ++ [t.kid 0]) (t.kid 1) f).next fun j f => .ok (Qiq (Wg [i, j].flatten), f)
noncomputable def lamR (c : List T) (t : T) (f : Int) : Rs T := (sortR l I c (t.kid 0) f).next fun _ f => (I (c ++ [t.kid 0]) (t.kid 1) f).next fun s f => .ok (ofT 4 [t.kid 0, s], f)
noncomputable def appR (c : List T) (t : T) (f : Int) : Rs T := (I c (t.kid 0) f).next fun s f => (asR l s 4 8 f).next fun v f => (K c (t.kid 1) v.1 f).next fun _ f => Qqc v.2 (t.kid 1) f
noncomputable def letR (c : List T) (t : T) (f : Int) : Rs T := (sortR l I c (t.kid 0) f).next fun _ f => (K c (t.kid 1) (t.kid 0) f).next fun _ f => Qqc (t.kid 2) (t.kid 1) f
noncomputable def withinR (c : List T) (t : T) (f : Int) : Rs T := (letR l I K c t f).next fun u f => I c u f
noncomputable def halfR (c : List T) (t : T) (f : Int) : Rs T := (I c (t.kid 0) f).next fun s f => (asR l s 12 9 f).next fun v f => if t.k = 14 then .ok (v.1, f) else Qqc v.2 (ofT 14 [t.kid 0]) f
noncomputable def recR (c : List T) (t : T) (f : Int) : Rs T :=
 (sortR l I c (t.kid 0) f).next fun _ f=>(sortR l I (c++ [t.kid 0]) (t.kid 1) f).next fun _ f=>(K c (t.kid 4) (ofT 16 [t.kid 0,t.kid 1]) f).next fun _ f =>
 (motiveR l I c (t.kid 2) (ofT 16 [t.kid 0,t.kid 1]) f).next fun _ f=>(K c (t.kid 3) (Qjm (t.kid 0) (t.kid 1) (t.kid 2)) f).next fun _ f=> .ok (ofT 6 [t.kid 2,t.kid 4],f)
noncomputable def idR (c : List T) (t : T) (f : Int) : Rs T := (sortR l I c (t.kid 0) f).next fun i f => (K c (t.kid 1) (t.kid 0) f).next fun _ f => (K c (t.kid 2) (t.kid 0) f).next fun _ f => .ok (Qiq i, f)
noncomputable def pathR (c : List T) (t : T) (f : Int) : Rs T :=
 (sortR l I c (t.kid 0) f).next fun _ f=>(K c (t.kid 1) (t.kid 0) f).next fun _ f=>(K c (t.kid 4) (t.kid 0) f).next fun _ f=>(K c (t.kid 5) (ofT 19 [t.kid 0,t.kid 1,t.kid 4]) f).next fun _ f =>
 (I c (t.kid 2) f).next fun s f=>(asR l s 4 8 f).next fun v f=>(oneR l v.1 (t.kid 0) 13 f).next fun _ f=>(asR l v.2 4 8 f).next fun w f =>
 (oneR l w.1 (ofT 19 [(t.kid 0).lift 1 0 0,(t.kid 1).lift 1 0 0,Qd5 0]) 13 f).next fun _ f=>(lvR l w.2 f).next fun _ f =>
 (K c (t.kid 3) (ofT 6 [ofT 6 [t.kid 2,t.kid 1],ofT 20 []]) f).next fun _ f=> .ok (ofT 6 [ofT 6 [t.kid 2,t.kid 4],t.kid 5],f)
def Qii(k a:Int):T:= .mk 23 k a [] []
def brR(c:List T)(t:T):Nat ->Nat ->Int ->Rs Unit
 | 0,_,f=> .ok ((),f)
 | m+1,k,f=>(K c (t.kid (k+1)) (ofT 6 [t.kid 0,Qii k t.a]) f).next fun _ f=>brR c t m (k+1) f
noncomputable def casesR (c : List T) (t : T) (f : Int) : Rs T :=
 (K c (t.kid (t.a.toNat+1)) (Qje t.a) f).next fun _ f=>(motiveR l I c (t.kid 0) (Qje t.a) f).next fun _ f=>(brR K c t t.a.toNat 0 f).next fun _ f=> .ok (ofT 6 [t.kid 0,t.kid (t.a.toNat+1)],f)
noncomputable def ruleR (c : List T) (t : T) (f : Int) : Rs T :=
 if t.k=1 then Qfe c t f else if t.k=2 then Qd6 n t f else if t.k=3 then Qfp l t f else if t.k=4\/t.k=12\/t.k=16 then formerR l I c t f
 else if t.k=5 then lamR l I c t f else if t.k=6 then appR l I K c t f else if t.k=7 then withinR l I K c t f else if t.k=14\/t.k=15 then halfR l I c t f
 else if t.k=18 then recR l I K c t f else if t.k=19 then idR l I K c t f else if t.k=21 then pathR l I K c t f else if t.k=22 then .ok (Qiq [],f)
 else if t.k=23 then .ok (Qje t.a,f)else if t.k=24 then casesR l I K c t f else .error 14
noncomputable def askR (c : List T) (t y : T) (f : Int) : Rs Unit :=
 if t.k=5 then(asR l y 4 8 f).next fun v f=>(sortR l I c (t.kid 0) f).next fun _ f=>(oneR l (t.kid 0) v.1 13 f).next fun _ f=>K (c++ [t.kid 0]) (t.kid 1) v.2 f
 else if t.k=13 then(asR l y 12 9 f).next fun v f=>(K c (t.kid 0) v.1 f).next fun _ f=>(Qqc v.2 (t.kid 0) f).next fun z f=>K c (t.kid 1) z f
 else if t.k=17 then(asR l y 16 10 f).next fun v f=>(K c (t.kid 0) v.1 f).next fun _ f=>(Qqc v.2 (t.kid 0) f).next fun z f=>K c (t.kid 1) (ofT 4 [z,ofT 16 [v.1.lift 1 0 0,v.2.lift 1 1 0]]) f
 else if t.k=20 then(hdR l y f).next fun x f=>if x.k=19 then oneR l (x.kid 1) (x.kid 2) 11 f else .error 11
 else if t.k=7 then(letR l I K c t f).next fun u f=>K c u y f
 else(I c t f).next fun s f=>(lqR l s y f).next fun is f=>if is=true then .ok ((),f)else .error 13
end
noncomputable def askT (l : List C) (n : Int) : Nat -> (List T -> T -> Int -> Rs T) × (List T -> T -> T -> Int -> Rs Unit)
 | 0=>(fun _ _ _=> .error 5,fun _ _ _ _=> .error 5)
 | g+1=>(fun c t f=>if f<1 then .error 5 else ruleR l n (askT l n g).1 (askT l n g).2 c t (f - 1),fun c t y f=>if f<1 then .error 5 else askR l (askT l n g).1 (askT l n g).2 c t y (f - 1))
noncomputable def infT (l : List C) (n : Int) (g : Nat) := (askT l n g).1
noncomputable def chkT (l : List C) (n : Int) (g : Nat) := (askT l n g).2
theorem Qhn(l:List C)(n:Int)(g:Nat)(c:List T)(t:T)(f:Int):infT l n (g+1) c t f=if f<1 then .error 5 else ruleR l n (infT l n g) (chkT l n g) c t (f - 1):=rfl
theorem Qkv(l:List C)(n:Int)(g:Nat)(c:List T)(t y:T)(f:Int):chkT l n (g+1) c t y f=if f<1 then .error 5 else askR l (infT l n g) (chkT l n g) c t y (f - 1):=rfl
end Go.Proofs.YtgloldepdhgfaaaGreatDoor
namespace Go.Proofs.YtgloldepdhgfaaaGreatDoor
set_option linter.unusedSimpArgs false
set_option linter.unusedVariables false
open Go.RowKit
theorem War{P:Program}{G:Nat ->Option D}{M:Nat}{Q:DQ}{tl:List D}{hl:List HO}{df:Df}{c:Code}(i:Nat){ty:TypeId}{ds:List D}(hi:hOf hl i= .cells ty ds)(h:wpD P G M c Q tl (hl.set i (.cells ty (D.fgts ds))) df):wpD P G M c Q tl hl df:=fun ρ0 w0 H0 ρ w a hbs hst=>by
 have hlt:i<hl.length:=by
  rcases Nat.lt_or_ge i hl.length with h | h
  ·exact h
  ·unfold hOf at hi;rw [List.getD_eq_getElem?_getD,List.getElem?_eq_none h]at hi;cases hi
 refine h ρ0 w0 H0 ρ w a hbs ?_;have hH:∀k,hOf (hl.set i (.cells ty (D.fgts ds))) k=if k=i then .cells ty (D.fgts ds)else hOf hl k:=fun k=>by
  unfold hOf;rw [List.getD_eq_getElem?_getD,List.getD_eq_getElem?_getD];by_cases hk:k=i
  ·subst hk;rw [if_pos rfl,List.getElem?_set_self hlt];rfl
  ·rw [if_neg hk,List.getElem?_set_ne (fun e=>hk e.symm)]
 have hlv:∀k,(hOf (hl.set i (.cells ty (D.fgts ds))) k).live=(hOf hl k).live:=fun k=>by
  rw [hH k];split
  ·rename_i hk;subst hk;rw [hi];rfl
  ·rfl
 have hL:∀b,Qk5 ρ (hOf (hl.set i (.cells ty (D.fgts ds)))) b ->Qk5 ρ (hOf hl) b:=fun b ⟨k,f,q1,q2⟩=>⟨k,f,q1,by rw [<- hlv k];exact q2⟩
 have hR:=hst.rel;refine⟨⟨fun k hk=>hR.free k ?_,hR.fresh,fun k b f hk=>?_,fun k l b f g e1 e2 e3 e4=>hR.inj k l b f g e1 e2 (by rw [<- hlv k];exact e3) (by rw [<- hlv l];exact e4),hR.glob⟩,⟨hst.ex.grow,hst.ex.frame,fun b hb hlt=>hst.ex.live b (hL b hb) hlt⟩,hst.tmp,hst.size,hst.df⟩
 ·rw [hH k]at hk;split at hk
  ·cases hk
  ·exact hk
 ·rw [hH k];have h2:=hR.obj k b f hk;split
  ·rename_i hki;subst hki;rw [hi]at h2;obtain⟨c0,vs,q1,q2⟩:=h2;exact⟨c0,vs,q1,Qio _ _ q2⟩
  ·exact h2
mutual
theorem D.fgt_of_deep:∀d:D,d.deep.fgt=d.deep
 | .agg ds=>by rw [D.deep,D.fgt,D.fgts_of_deeps ds]
 | .tuple ds=>by rw [D.deep,D.fgt,D.fgts_of_deeps ds]
 | .iface t d=>by rw [D.deep,D.fgt,D.fgt_of_deep d]
 | .slice els _=>by rw [D.deep,D.fgt]
 | .fn f a b=>by simp [D.deep,D.fgt]
 | .ref d=>by simp [D.deep,D.fgt]
 | .mapc ks vs=>by simp [D.deep,D.fgt]
 | .junk | .int k n | .bool b | .str s | .nilp | .nilf | .nili | .nilm | .box i o | .map i | .own i n | .ebox i sz k o=>by simp [D.deep,D.fgt]
theorem D.fgts_of_deeps:∀ds:List D,D.fgts (D.deeps ds)=D.deeps ds
 | []=>by rw [D.deeps,D.fgts]
 | d::r=>by rw [D.deeps,D.fgts,D.fgt_of_deep d,D.fgts_of_deeps r]
end
mutual
theorem D.deep_of_fgt:∀d:D,d.fgt.deep=d.deep
 | .agg ds=>by rw [D.fgt,D.deep,D.deep,D.deeps_of_fgts ds]
 | .tuple ds=>by rw [D.fgt,D.deep,D.deep,D.deeps_of_fgts ds]
 | .iface t d=>by rw [D.fgt,D.deep,D.deep,D.deep_of_fgt d]
 | .slice els _=>by rw [D.fgt,D.deep,D.deep]
 | .fn f a b=>by simp [D.deep,D.fgt]
 | .ref d=>by simp [D.deep,D.fgt]
 | .mapc ks vs=>by simp [D.deep,D.fgt]
 | .junk | .int k n | .bool b | .str s | .nilp | .nilf | .nili | .nilm | .box i o | .map i | .own i n | .ebox i sz k o=>by simp [D.deep,D.fgt]
theorem D.deeps_of_fgts:∀ds:List D,D.deeps (D.fgts ds)=D.deeps ds
 | []=>by rw [D.fgts]
 | d::r=>by rw [D.fgts,D.deeps,D.deeps,D.deep_of_fgt d,D.deeps_of_fgts r]
end
def Out.deep:Out ->Out
 | .ret d=> .ret d.deep
 | .pan d=> .pan d.deep
theorem Qlm.deep{ρ:Rho}{w:World}{o:Out}{e:Ending}(h:Qlm ρ w o e):Qlm ρ w o.deep e:=by
 cases o with
 | ret d=>obtain⟨u,h1,h2⟩:=h;exact⟨u,h1,Qgx _ _ h2⟩
 | pan d=>obtain⟨u,h1,h2⟩:=h;exact⟨u,h1,Qgx _ _ h2⟩
theorem Out.deep_ret{o:Out}{e:D}(h:o.fgt= .ret e):o.deep.fgt= .ret e.deep:=by
 cases o with
 | ret x =>
  have h':x.fgt=e:=by simpa [Out.fgt]using h
  subst h';show Out.ret _=_;rw [D.fgt_of_deep,D.deep_of_fgt]
 | pan x=>simp [Out.fgt]at h
theorem Spec.deepR{P:Program}{G:Nat ->Option D}{f:FuncId}{args:List D}{objs:List HO}{e d:D}(h:Spec P G f args objs (fun o _=>o.fgt= .ret e))(he:e.deep=d):Spec P G f args objs (fun o _=>o.fgt= .ret d):=fun ρ w vs hR hv=>by
 obtain⟨h1,h2⟩:=h ρ w vs hR hv;refine⟨h1,h2.mono ?_⟩;rintro e' w' ⟨ρ',out,hc,hp,hm,hr,hx⟩;exact⟨ρ',out.deep,hc,(Out.deep_ret hp).trans (by rw [he]),hm.deep,hr,hx⟩
theorem Qc6.deepA{P:Program}{G:Nat ->Option D}{f:FuncId}{args':List D}{hh:Nat ->HO}{out:Out}{rd:List Nat}{up:List (Nat×HO)}(h:Qc6 P G f (D.deeps args') hh out rd up):Qc6 P G f args' hh out rd up :=
 fun ρ w H vs hR hx hvs=>h ρ w H vs hR hx (Qdb _ _ hvs)
theorem Wm.pureD{P:Program}{G:Nat ->Option D}(hG:∀g d,G g=some d ->d.pure=true){f:FuncId}{args args':List D}{out:Out}(h:Spec P G f args [] (fun o _=>o.fgt=out)){hl:List HO}{K:Out ->List HO ->Prop}(hK:K out hl)(ha:D.fgts (D.deeps args')=args)(hp:D.pures args=true)(ho:out.pure=true):Wm P G f args' hl K :=
 ⟨fun o up=>o=out/\up= [],(Qc6.deepA (Qc6.pure hG h ha hp ho _)).toR,fun o up ⟨h1,h2⟩=>by subst h1;subst h2;exact hK⟩
theorem Xt.pureD{P:Program}{G:Nat ->Option D}(hG:∀g d,G g=some d ->d.pure=true){f:FuncId}{args args':List D}{out:Out}(h:Spec P G f args [] (fun o _=>o.fgt=out)){hl:List HO}{K:Out ->List Nat ->List (Nat×HO) ->Prop}(hK:K out [] [])(ha:D.fgts (D.deeps args')=args)(hp:D.pures args=true)(ho:out.pure=true):Xt P G f args' hl K :=
 ⟨out, [], [],Qc6.deepA (Qc6.pure hG h ha hp ho _),hK⟩
theorem Wap{P:Program}{G:Nat ->Option D}{M:Nat}{Q:DX ->List D ->List HO ->Df ->Prop}{tl:List D}{hl:List HO}{df:Df}{α:Type}{x y:Code}(W:List Nat)(ds:α ->List D)(hl1:α ->List HO)(Pre:α ->Prop)(h1:∀a,Pre a ->wpD P G M y Q (Qh tl W (ds a)) (hl1 a) df)
  (h2:∀K:List D ->List HO ->Df ->Prop,(∀a tl',Pre a ->leT (Qh tl W (ds a)) tl' ->K tl' (hl1 a) df) ->wpD P G M x (Wk K Q) tl hl df):wpD P G M (.seq x y) Q tl hl df :=
 Qc fun K hK=>h2 K fun a tl' hp h=>hK _ _ _ (Qbx h (h1 a hp))
@[simp high] theorem encP_deep (p:Int×Int):(Wv p).deep=Wv p:=rfl
theorem Qo1(l:LV):D.deeps (l.map Wv)=l.map Wv:=by rw [D.deeps_map,List.map_map];rfl
@[simp high] theorem mapP_deep' (l:LV):D.deeps (l.map Wv)=l.map Wv:=Qo1 l
@[simp high] theorem Qzi (l:LV):(Qn l).deep=Qn l:=by
 unfold Qn;simp only [D.deep,D.deeps,Qo1]
@[simp high] theorem Qo2 (l:List LV):D.deeps (l.map Qn)=l.map Qn:=by
 rw [D.deeps_map,List.map_map];exact List.map_congr_left fun x _=>Qzi x
@[simp high] theorem Qko (t:T):(Qj t).deep=Qj t:=by
 induction t using T.ind with
 | h k n a ls ks ih =>
  rw [Qb];have:D.deeps (ks.map Qj)=ks.map Qj:=by
   rw [D.deeps_map,List.map_map];exact List.map_congr_left fun x hx=>ih x hx
  simp only [D.deep,D.deeps,Qo2,T.ks_mk,this]
@[simp high] theorem Qj6 (l:List T):D.deeps (l.map Qj)=l.map Qj:=by
 rw [D.deeps_map,List.map_map];exact List.map_congr_left fun x _=>Qko x
@[simp high] theorem mapI_deep (l:List Int):D.deeps (l.map (.int .i64))=l.map (.int .i64):=by
 rw [D.deeps_map,List.map_map];rfl
def Qbn(c:C):D:= .agg [.int .i64 c.lv, .int .i64 c.ty.k, .int .i64 c.ty.n, .int .i64 c.ty.a, .slice (c.ty.ls.map Qn) .any, .slice (c.ty.ks.map Qj) .any, .bool c.has, .int .i64 c.bo.k, .int .i64 c.bo.n, .int .i64 c.bo.a, .slice (c.bo.ls.map Qn) .any, .slice (c.bo.ks.map Qj) .any]
def Cs(l:List C):D:= .slice (l.map Qbn) .any
def Qgz:C:=⟨0,Xa,false,Xa⟩
@[simp high] theorem Qdq (c:C):(Qbn c).pure=true:=by simp [Qbn,D.pure,D.pures,Cp.free]
@[simp high] theorem encC_fgt (c:C):(Qbn c).fgt=Qbn c:=by simp [Qbn,D.fgt,D.fgts]
@[simp high] theorem Qzj (c:C):(Qbn c).size=12:=rfl
@[simp high] theorem Qih (c:C):(Qbn c).cells= [.int .i64 c.lv, .int .i64 c.ty.k, .int .i64 c.ty.n, .int .i64 c.ty.a, .slice (c.ty.ls.map Qn) .any, .slice (c.ty.ks.map Qj) .any, .bool c.has, .int .i64 c.bo.k, .int .i64 c.bo.n, .int .i64 c.bo.a, .slice (c.bo.ls.map Qn) .any, .slice (c.bo.ks.map Qj) .any]:=rfl
@[simp high] theorem encC_frz (bx:FK) (i:Nat) (x:D) (c:C):D.frz bx i x (Qbn c)=Qbn c:=D.frz_pure bx i x _ (Qdq c)
@[simp high] theorem mapC_frz (bx:FK) (i:Nat) (x:D) (l:List C):D.frzs bx i x (l.map Qbn)=l.map Qbn:=D.frzs_pure bx i x _ (by simp [D.pures_map])
@[simp high] theorem encC_low (m:Nat) (c:C):(Qbn c).low m=true:=D.low_pure m _ (Qdq c)
@[simp high] theorem mapC_low (m:Nat) (l:List C):D.lows m (l.map Qbn)=true:=D.lows_pure m _ (by simp [D.pures_map])
@[simp high] theorem encC_okN (p:Nat ->Bool) (c:C):(Qbn c).okN p=true:=D.okN_pure p _ (Qdq c)
@[simp high] theorem encC_ren (σ:Nat ->Nat) (c:C):D.ren σ (Qbn c)=Qbn c:=D.ren_pure σ _ (Qdq c)
@[simp high] theorem mapC_okN (p:Nat ->Bool) (l:List C):D.okNs p (l.map Qbn)=true:=D.okNs_pure p _ (by simp [D.pures_map])
@[simp high] theorem mapC_ren (σ:Nat ->Nat) (l:List C):D.rens σ (l.map Qbn)=l.map Qbn:=D.rens_pure σ _ (by simp [D.pures_map])
@[simp high] theorem mapC_pures (l:List C):D.pures (l.map Qbn)=true:=by simp [D.pures_map]
@[simp high] theorem Qzl (c:C):(Qbn c).deep=Qbn c:=by simp only [Qbn,D.deep,D.deeps,Qo2,Qj6]
@[simp high] theorem Qyb (l:List C):D.deeps (l.map Qbn)=l.map Qbn:=by
 rw [D.deeps_map,List.map_map];exact List.map_congr_left fun x _=>Qzl x
theorem encZ:Qj Xa= .agg [.int .i64 0, .int .i64 0, .int .i64 0, .slice [] .any, .slice [] .any]:=Qb _
def Qi6(t:T)(n:Int):T:=if n<0 then Xa else t.kid n.toNat
theorem Qjc(t:T)(n:Nat):Qi6 t (n:Int)=t.kid n:=by unfold Qi6;rw [if_neg (by omega)];rfl
theorem Qdy(k n a:Int)(ls:List LV)(ks:List T):Qj (.mk k n a ls ks)= .agg [.int .i64 k, .int .i64 n, .int .i64 a, .slice (ls.map Qn) .any, .slice (ks.map Qj) .any]:=Qb _
def headD(left:Int)(l:List C)(once done:Bool):HO:= .cells 93 [.int .i64 left,Cs l, .bool once, .bool done, .map 1]
def Qam:D:= .iface 129 (.agg [])
mutual
def T.sdw(many:Int):T ->Int ->Int
 | .mk k n _ _ ks,b=>if k=1/\n=b then many else T.sdws many k ks 0 b 1
def T.sdws(many k:Int):List T ->Nat ->Int ->Int ->Int
 | [],_,_,s=>s
 | t::r,i,b,s=>T.sdws many k r (i+1) b (IntKind.i64.wrap (s+T.sdw many t (Xl b k i)))
end
theorem Qn8(a b:Int):IntKind.i64.wrap (IntKind.i64.wrap a+IntKind.i64.wrap b)=IntKind.i64.wrap (a+b):=by
 simp only [IntKind.wrap_i64];omega
mutual
theorem Qmt:∀t:T,t.sz=IntKind.i64.wrap (t.nsz:Int)
 | .mk k n a ls ks=>by
  rw [T.sz,T.nsz,Qms ks 1 1 (by rfl)]
theorem Qms:∀(ks:List T) (s:Int) (m:Nat),s=IntKind.i64.wrap (m:Int) ->T.szs ks s=IntKind.i64.wrap ((m+T.nszs ks:Nat):Int)
 | [],s,m,h=>by rw [T.szs,T.nszs,h];rfl
 | t::r,s,m,h=>by
  rw [T.szs,T.nszs,Qms r _ (m+t.nsz) (by
   rw [h,Qmt t,Qn8,Int.natCast_add])]
  congr 2
  omega
end
mutual
theorem Qm1(many:Nat):∀(t:T) (b:Int),T.sdw (IntKind.i64.wrap (many:Int)) t b=IntKind.i64.wrap ((t.sd many b:Nat):Int)
 | .mk k n a ls ks,b=>by
  rw [T.sdw,T.sd];split
  ·rfl
  ·rw [Qon many k ks 0 b 1 1 (by rfl)]
theorem Qon(many:Nat)(k:Int):∀(ks:List T) (i:Nat) (b s:Int) (m:Nat),s=IntKind.i64.wrap (m:Int) ->T.sdws (IntKind.i64.wrap (many:Int)) k ks i b s=IntKind.i64.wrap ((m+T.sds many k ks i b:Nat):Int)
 | [],i,b,s,m,h=>by rw [T.sdws,T.sds,h];rfl
 | t::r,i,b,s,m,h=>by
  rw [T.sdws,T.sds,Qon many k r (i+1) b _ (m+t.sd many (Xl b k i)) (by
   rw [h,Qm1 many t,Qn8,Int.natCast_add])]
  congr 2
  omega
end
end Go.Proofs.YtgloldepdhgfaaaGreatDoor
namespace Go.Proofs.YtgloldepdhgfaaaGreatDoor
set_option linter.unusedSimpArgs false
set_option linter.unusedVariables false
set_option maxHeartbeats 10000000
set_option maxRecDepth 20000
open Go.RowKit
attribute [local simp] Qx Qm Qo Qp Wn Xg opD Qz Qr Qw Wi hOf Wj Xf Xd TK.isAgg TK.known Ws Wk Wc Qh D.ofV inB Wb Wp Xx Xz Zg Xc Xv Zh IntKind.min IntKind.max IntKind.signed IntKind.bits Wl Xy
theorem Qtg(t:T)(n:Int):Sp 97 [Qj t, .int .i64 n] [] (rt (Qj (Qi6 t n))):=by
 obtain⟨r,hr⟩:∃r,r=Qi6 t n:=⟨_,rfl⟩;rw [<- hr];rw [Qb t];refine eN Tryz.func97 rfl (by decide) rfl rfl ?_;(refine sR fun K hK=>?_;(repeat rw [Qa];simp);refine hK _ _ _ ?_;clear hK K);refine Qc fun K1 hK1=>?_
 by_cases h1:n<0
 ·rw [show Qi6 t n=Xa from by unfold Qi6;rw [if_pos h1]]at hr;subst hr;(refine sR fun K hK=>?_;(repeat rw [Qa];simp [h1]);refine hK _ _ _ ?_;clear hK K);refine pT rfl ?_;(refine sR fun K hK=>?_;(repeat rw [Qa];simp);refine hK _ _ _ ?_;clear hK K);(refine Qe ?_;(try simp only [zs]);refine Qk.ret rfl (.inl ?_);simp [zM]);exact encZ.symm
 ·obtain⟨j,rfl⟩:∃j:Nat,n=j:=⟨n.toNat,by omega⟩;rw [Qjc]at hr;unfold T.kid at hr;rw [List.getD_eq_getElem?_getD]at hr;by_cases h2:j<t.ks.length
  ·have h2':(j:Int)<t.ks.length:=by omega
   have h2n:¬ t.ks.length<=j:=by omega
   rw [List.getElem?_eq_getElem h2,Option.getD_some]at hr;have hEr:=Qb r;have hx:t.ks[j]=r:=hr.symm;(refine sR fun K hK=>?_;(repeat rw [Qa];simp [h1,h2,h2',h2n]);refine hK _ _ _ ?_;clear hK K);refine pF rfl ?_;refine Qg (hK1 _ _ _ ?_);(refine sR fun K hK=>?_;(repeat rw [Qa];simp [h1,h2,h2',hx,hEr]);refine hK _ _ _ ?_;clear hK K);(refine Qe ?_;(try simp only [zs]);refine Qk.ret rfl (.inl ?_);simp [zM]);exact hEr.symm
  ·have h2':¬ (j:Int)<t.ks.length:=by omega
   have h2n:t.ks.length<=j:=by omega
   rw [List.getElem?_eq_none h2n,Option.getD_none]at hr;subst hr;(refine sR fun K hK=>?_;(repeat rw [Qa];simp [h1,h2,h2',h2n]);refine hK _ _ _ ?_;clear hK K);refine pT rfl ?_;(refine sR fun K hK=>?_;(repeat rw [Qa];simp);refine hK _ _ _ ?_;clear hK K);(refine Qe ?_;(try simp only [zs]);refine Qk.ret rfl (.inl ?_);simp [zM]);exact encZ.symm
theorem Qe1(k:Int)(ks:List T):Sp 145 [.int .i64 k, .slice (ks.map Qj) .any] [] (rt (Qj (ofT k ks))):=by
 unfold ofT;rw [Qdy];refine eN Tryz.func145 rfl (by decide) rfl rfl ?_;(refine sR fun K hK=>?_;(repeat rw [Qa];simp);refine hK _ _ _ ?_;clear hK K);(refine sR fun K hK=>?_;(repeat rw [Qa];simp);refine hK _ _ _ ?_;clear hK K);(refine Qe ?_;(try simp only [zs]);refine Qk.ret rfl (.inl ?_);simp [zM])
def wkT(ks:List T)(x:T)(i j:Nat):List T:=Qg2 ks x i j
theorem Wax(ks:List T)(x:T)(i j:Nat):wkT ks x i (j+1)=wkT ks x i j++ [if j=i then x else ks.getD j Xa]:=by
 unfold wkT Qg2;rw [List.range_succ,List.map_append];rfl
theorem wkT_len(ks:List T)(x:T)(i j:Nat):(wkT ks x i j).length=j:=Qcs ks x i j
theorem Qwp(t x:T)(i many:Nat)(hm:many<=Ql):Sp 96 [Qj t,Qj x, .int .i64 i, .int .i64 many] [] (rt (Qj (t.withT x i many))):=by
 obtain⟨kk,nn,aa,ls,ks⟩:=t;have hT:(T.mk kk nn aa ls ks).withT x i many= .mk kk nn aa ls (wkT ks x i many):=rfl;rw [hT];have hEx:=Qb x;have hk:=fun j:Nat=>Qtg (.mk kk nn aa ls ks) j
 simp only [Qjc]at hk;unfold T.kid at hk;simp only [T.ks_mk]at hk;simp only [Qdy]at hk⊢;rw [hEx];refine eN Tryz.func96 rfl (by decide) rfl rfl ?_;(refine sR fun K hK=>?_;(repeat rw [Qa];simp);refine hK _ _ _ ?_;clear hK K);(refine sR fun K hK=>?_;(repeat rw [Qa];simp);refine hK _ _ _ ?_;clear hK K);refine Qmi 3 4 (ty:=27) (ds:= [.int .i64 kk, .int .i64 nn, .int .i64 aa, .slice (ls.map Qn) .any, .slice [] .full]) rfl ?_;simp [D.tokd];refine Qc fun K1 hK1=>?_
 (refine sR fun K hK=>?_;(repeat rw [Qa];simp);refine hK _ _ _ ?_;clear hK K);refine Xm Wa Qf (ti:=3) (tk:=21) (tn:=20) (td:=22) (ts:=41) [10,21,22,23,24,25,26,27,28,29,30,31,32,33,34,35,36,37,38,39,40,41] [] (many) (fun k ys hl=>ys= []/\hl= [.cells 27 [.int .i64 kk, .int .i64 nn, .int .i64 aa, .slice (ls.map Qn) .any, .slice (ks.map Qj) .any], .cells 27 [.int .i64 x.k, .int .i64 x.n, .int .i64 x.a, .slice (x.ls.map Qn) .any, .slice (x.ks.map Qj) .any], .cells 27 [.int .i64 0, .int .i64 0, .int .i64 0, .slice [] .full, .slice [] .full], .cells 27 [.int .i64 kk, .int .i64 nn, .int .i64 aa, .slice (ls.map Qn) .any, .slice ((wkT ks x i k).map Qj) (.tok 4)], .tok]) rfl rfl rfl rfl rfl rfl rfl rfl rfl rfl rfl rfl (by simp) (by decide) rfl (by first | assumption | omega | (unfold Ql;omega)) rfl (by kernel_rfl) (by decide) ?_ ?_ ?_
 ·exact⟨rfl,rfl⟩
 ·rintro j ys hl A hj ⟨rfl,rfl⟩ hA hA2;simp only [Qh,List.set,List.map_cons,List.map_nil,List.cons_append,List.nil_append];have hsn:=Wax ks x i j;have hln:=wkT_len ks x i j;have hel:(wkT ks x i j).length+1<=Ql:=by omega
  have hkj:=hk j;generalize ks.getD j Xa=y at hsn hkj;generalize wkT ks x i j=es at hsn hln hel⊢;(refine sR fun K hK=>?_;(repeat rw [Qa];simp);refine hK _ _ _ ?_;clear hK K);refine Qc fun K2 hK2=>?_
  by_cases hji:j=i
  ·subst hji;rw [if_pos rfl]at hsn;(refine sR fun K hK=>?_;(repeat rw [Qa];simp);refine hK _ _ _ ?_;clear hK K);refine pT rfl ?_;(refine sR fun K hK=>?_;(repeat rw [Qa];simp [hel]);refine hK _ _ _ ?_;clear hK K);refine Qab ?_;(refine hA2 ([0,1,2,3,5]) _ _ _ (LeT.refl _) (by decide) (by simp) (by simp [zM,Qh]) ?_ rfl;simp [zM]);rw [hsn,<- hEx,show es.map Qj++ [Qj x]=(es++ [x]).map Qj by simp,Qhk]
  ·have hji':¬ (j:Int)=i:=by omega
   rw [if_neg hji]at hsn;(refine sR fun K hK=>?_;(repeat rw [Qa];simp [hji,hji']);refine hK _ _ _ ?_;clear hK K);refine pF rfl ?_;refine Qg (hK2 _ _ _ ?_);(refine dR fun KT hKT=>?_;(repeat rw [Qd];simp [hel]));refine cYp (hkj) ?_;(try simp only [zq]);(repeat rw [Qd];simp [hel]);(refine hKT _ _ _ _ (by kernel_rfl) ?_;clear hKT KT);(refine hA2 ([0,1,2,3,5]) _ _ _ (LeT.refl _) (by decide) (by simp) (by simp [zM,Qh]) ?_ rfl;simp [zM]);rw [hsn,show es.map Qj++ [Qj y]=(es++ [y]).map Qj by simp,Qhk]
 ·rintro ys hl tl' ⟨rfl,rfl⟩ htl;refine hK1 _ _ _ (Xn htl ?_);simp only [Qh,List.set,List.map_cons,List.map_nil,List.cons_append,List.nil_append];(refine sR fun K hK=>?_;(repeat rw [Qa];simp);refine hK _ _ _ ?_;clear hK K);(refine Qe ?_;(try simp only [zs]);refine Qk.ret rfl (.inl ?_);simp [zM])
def Qum(t:T):D :=
 if t.k=6 then .tuple [.int .i64 0, .int .i64 2, .bool true] else if t.k=14\/t.k=15 then .tuple [.int .i64 0, .int .i64 1, .bool true]
 else if t.k=18 then .tuple [.int .i64 4, .int .i64 5, .bool true] else if t.k=21 then .tuple [.int .i64 5, .int .i64 6, .bool true]
 else if t.k=24 then .tuple [.int .i64 (IntKind.i64.wrap (t.a+1)), .int .i64 (IntKind.i64.wrap (t.a+2)), .bool (decide (0<=t.a) && decide ((t.ks.length:Int) - 2=t.a))] else .tuple [.int .i64 0, .int .i64 0, .bool false]
theorem Qci{t:T}{i many:Nat}(h:spot t=some (i,many))(hl:t.ks.length<=Ql):Qum t= .tuple [.int .i64 i, .int .i64 many, .bool true]:=by
 unfold Ql at hl;unfold spot at h;unfold Qum;by_cases h1:t.k=6
 ·rw [if_pos h1]at h⊢;cases h;rfl
 rw [if_neg h1]at h⊢;by_cases h1:t.k=14\/t.k=15
 ·rw [if_pos h1]at h⊢;cases h;rfl
 rw [if_neg h1]at h⊢;by_cases h1:t.k=18
 ·rw [if_pos h1]at h⊢;cases h;rfl
 rw [if_neg h1]at h⊢;by_cases h1:t.k=21
 ·rw [if_pos h1]at h⊢;cases h;rfl
 rw [if_neg h1]at h⊢;by_cases h1:t.k=24/\0<=t.a/\(t.ks.length:Int) - 2=t.a
 ·rw [if_pos h1]at h;rw [if_pos h1.1];cases h;rw [Qbp (by omega) (by omega),Qbp (by omega) (by omega)];have e1:t.a+1=((t.a.toNat+1:Nat):Int):=by omega
  have e2:t.a+2=((t.a.toNat+2:Nat):Int):=by omega
  rw [e1,e2];simp [h1.2.1,h1.2.2]
 ·rw [if_neg h1]at h;cases h
theorem Qd9{t:T}(h:spot t=none):∃p q,Qum t= .tuple [.int .i64 p, .int .i64 q, .bool false]:=by
 unfold spot at h;unfold Qum;by_cases h1:t.k=6
 ·rw [if_pos h1]at h;cases h
 rw [if_neg h1]at h⊢;by_cases h1:t.k=14\/t.k=15
 ·rw [if_pos h1]at h;cases h
 rw [if_neg h1]at h⊢;by_cases h1:t.k=18
 ·rw [if_pos h1]at h;cases h
 rw [if_neg h1]at h⊢;by_cases h1:t.k=21
 ·rw [if_pos h1]at h;cases h
 rw [if_neg h1]at h⊢;by_cases h1:t.k=24
 ·rw [if_pos h1];refine⟨IntKind.i64.wrap (t.a+1),IntKind.i64.wrap (t.a+2),?_⟩;have:(decide (0<=t.a) && decide ((t.ks.length:Int) - 2=t.a))=false:=by
   rw [Bool.eq_false_iff];intro h2;simp only [Bool.and_eq_true,decide_eq_true_eq]at h2;rw [if_pos ⟨h1,h2⟩]at h;cases h
  rw [this]
 ·rw [if_neg h1];exact⟨_,_,rfl⟩
theorem Qa4(t:T)(hl:t.ks.length<=Ql):Sp 95 [Qj t] [] (rt (Qum t)):=by
 obtain⟨kk,nn,aa,ls,ks⟩:=t;simp only [T.ks_mk]at hl;unfold Ql at hl;unfold Qum;simp only [T.k_mk,T.a_mk,T.ks_mk];rw [Qdy];refine eN Tryz.func95 rfl (by decide) rfl rfl ?_;(refine sR fun K hK=>?_;(repeat rw [Qa];simp);refine hK _ _ _ ?_;clear hK K);refine Qc fun K1 hK1=>?_
 (refine sR fun K hK=>?_;(repeat rw [Qa];simp);refine hK _ _ _ ?_;clear hK K);refine Qy ?_;by_cases h6:kk=6
 ·subst h6;(refine sR fun K hK=>?_;(repeat rw [Qa];simp);refine hK _ _ _ ?_;clear hK K);refine pT rfl ?_;(refine sR fun K hK=>?_;(repeat rw [Qa];simp);refine hK _ _ _ ?_;clear hK K);(refine Qe ?_;(try simp only [zs]);refine Qk.ret rfl (.inl ?_);simp [zM])
 (refine sR fun K hK=>?_;(repeat rw [Qa];simp [h6]);refine hK _ _ _ ?_;clear hK K);refine pF rfl ?_;refine Qc fun K2 hK2=>?_
 by_cases h14:kk=14
 ·subst h14;(refine sR fun K hK=>?_;(repeat rw [Qa];simp);refine hK _ _ _ ?_;clear hK K);refine pT rfl ?_;refine Qg (hK2 _ _ _ ?_);refine pT rfl ?_;(refine sR fun K hK=>?_;(repeat rw [Qa];simp);refine hK _ _ _ ?_;clear hK K);(refine Qe ?_;(try simp only [zs]);refine Qk.ret rfl (.inl ?_);simp [zM])
 by_cases h15:kk=15
 ·subst h15;(refine sR fun K hK=>?_;(repeat rw [Qa];simp);refine hK _ _ _ ?_;clear hK K);refine pF rfl ?_;(refine Qi Wa ?_;(repeat rw [Qa];simp));refine hK2 _ _ _ ?_;refine pT rfl ?_;(refine sR fun K hK=>?_;(repeat rw [Qa];simp);refine hK _ _ _ ?_;clear hK K);(refine Qe ?_;(try simp only [zs]);refine Qk.ret rfl (.inl ?_);simp [zM])
 (refine sR fun K hK=>?_;(repeat rw [Qa];simp [h14]);refine hK _ _ _ ?_;clear hK K);refine pF rfl ?_;(refine Qi Wa ?_;(repeat rw [Qa];simp [h15]));refine hK2 _ _ _ ?_;refine pF rfl ?_;by_cases h18:kk=18
 ·subst h18;(refine sR fun K hK=>?_;(repeat rw [Qa];simp);refine hK _ _ _ ?_;clear hK K);refine pT rfl ?_;(refine sR fun K hK=>?_;(repeat rw [Qa];simp);refine hK _ _ _ ?_;clear hK K);(refine Qe ?_;(try simp only [zs]);refine Qk.ret rfl (.inl ?_);simp [zM])
 (refine sR fun K hK=>?_;(repeat rw [Qa];simp [h18]);refine hK _ _ _ ?_;clear hK K);refine pF rfl ?_;by_cases h21:kk=21
 ·subst h21;(refine sR fun K hK=>?_;(repeat rw [Qa];simp);refine hK _ _ _ ?_;clear hK K);refine pT rfl ?_;(refine sR fun K hK=>?_;(repeat rw [Qa];simp);refine hK _ _ _ ?_;clear hK K);(refine Qe ?_;(try simp only [zs]);refine Qk.ret rfl (.inl ?_);simp [zM])
 (refine sR fun K hK=>?_;(repeat rw [Qa];simp [h21]);refine hK _ _ _ ?_;clear hK K);refine pF rfl ?_;by_cases h24:kk=24
 ·subst h24;have hw:IntKind.i64.wrap ((ks.length:Int) - 2)=(ks.length:Int) - 2:=Qbp (by omega) (by omega);(refine sR fun K hK=>?_;(repeat rw [Qa];simp);refine hK _ _ _ ?_;clear hK K);refine pT rfl ?_;by_cases h0:0<=aa
  ·(refine Qc fun K hK=>?_;refine dR fun KT hKT=>?_;(repeat rw [Qd];simp [h0,hw]));(refine hKT _ _ _ _ (by kernel_rfl) ?_;clear hKT KT);(refine hK _ _ _ ?_;clear hK K);(refine Qe ?_;(try simp only [zs]);refine Qk.ret rfl (.inl ?_);simp [zM]);simp only [h0,decide_true,Bool.true_and];exact decide_eq_decide.2 Iff.rfl
  ·(refine Qc fun K hK=>?_;refine dR fun KT hKT=>?_;(repeat rw [Qd];simp [h0,hw]));(refine hKT _ _ _ _ (by kernel_rfl) ?_;clear hKT KT);(refine hK _ _ _ ?_;clear hK K);(refine Qe ?_;(try simp only [zs]);refine Qk.ret rfl (.inl ?_);simp [zM]);simp [h0]
 ·(refine sR fun K hK=>?_;(repeat rw [Qa];simp [h24]);refine hK _ _ _ ?_;clear hK K);refine pF rfl ?_;refine Qg (hK1 _ _ _ ?_);(refine sR fun K hK=>?_;(repeat rw [Qa];simp);refine hK _ _ _ ?_;clear hK K);(refine Qe ?_;(try simp only [zs]);refine Qk.ret rfl (.inl ?_);simp [zM]);simp [h6,h14,h15,h18,h21,h24]
theorem Qur(l:List T)(hl:l.length<=Ql)(hls:∀x,x∈l ->okT x):Sp 142 [.slice (l.map Qj) .any] [] (rt (.int .i64 (T.szs l 0))):=by
 obtain⟨R,hR⟩:∃R,R=T.szs l 0:=⟨_,rfl⟩;rw [<- hR];refine eN Tryz.func142 rfl (by decide) rfl rfl ?_;(refine sR fun K hK=>?_;(repeat rw [Qa];simp);refine hK _ _ _ ?_;clear hK K);(refine sR fun K hK=>?_;(repeat rw [Qa];simp);refine hK _ _ _ ?_;clear hK K);refine Qc fun K1 hK1=>?_
 (refine sR fun K hK=>?_;(repeat rw [Qa];simp);refine hK _ _ _ ?_;clear hK K);refine Xm Wa Qf (ti:=3) (tk:=8) (tn:=7) (td:=9) (ts:=16) [5,8,9,10,11,12,13,14,15,16] [3] (l.length) (fun k ys hl=>∃(s:Int),ys= [.int .i64 s]/\R=T.szs (l.drop k) s/\hl= []) rfl rfl rfl rfl rfl rfl rfl rfl rfl rfl rfl rfl (by simp) (by decide) rfl (by first | assumption | omega | (unfold Ql;omega)) rfl (by kernel_rfl) (by decide) ?_ ?_ ?_
 ·exact⟨0,rfl,hR,rfl⟩
 ·rintro i ys hl A hi ⟨s,rfl,hF,rfl⟩ hA hA2;simp only [Qh,List.set,List.map_cons,List.map_nil,List.cons_append,List.nil_append];have hi':(i:Int)<l.length:=by omega
  rw [List.drop_eq_getElem_cons hi,T.szs]at hF;have hrec:=Qg7 l[i] (hls _ (List.getElem_mem hi));obtain⟨x,hx⟩:∃x,l[i]=x:=⟨_,rfl⟩;rw [hx]at hF hrec;have hEx:=Qb x;rw [hEx]at hrec;generalize x.sz=v at hF hrec;(refine sR fun K hK=>?_;(repeat rw [Qa];simp [hi,hi',hx,hEx]);refine hK _ _ _ ?_;clear hK K);(refine Qi Wa ?_;(repeat rw [Qa];simp));refine cXr (hrec) ?_
  (repeat rw [Qa];simp)
  (refine hA2 ([]) _ _ _ (LeT.refl _) (by decide) (by simp) (by simp [zM,Qh]) ?_ rfl;simp [zM]);exact hF
 ·rintro ys hl tl' ⟨s,rfl,hF,rfl⟩ htl;refine hK1 _ _ _ (Xn htl ?_);simp only [Qh,List.set,List.map_cons,List.map_nil,List.cons_append,List.nil_append];rw [List.drop_length,T.szs]at hF;subst hF;(refine sR fun K hK=>?_;(repeat rw [Qa];simp);refine hK _ _ _ ?_;clear hK K);(refine Qe ?_;(try simp only [zs]);refine Qk.ret rfl (.inl ?_);simp [zM])
theorem Qus(many:Int)(t:T):∀b,okT t ->Sp 194 [Qj t, .int .i64 many, .int .i64 b] [] (rt (.int .i64 (T.sdw many t b))):=by
 induction t using T.ind with
 | h kk nn aa ls ks ih =>
 intro b ht;have hkl:ks.length<=Ql:=ht.kl;have hks:=ht.ks;simp only [T.ks_mk]at hks;obtain⟨R,hR⟩:∃R,R=T.sdw many (.mk kk nn aa ls ks) b:=⟨_,rfl⟩;rw [<- hR];rw [T.sdw]at hR;rw [Qdy];refine eN Tryz.func194 rfl (by decide) rfl rfl ?_;(refine sR fun K hK=>?_;(repeat rw [Qa];simp);refine hK _ _ _ ?_;clear hK K);by_cases h1:kk=1/\nn=b
 ·obtain⟨rfl,rfl⟩:=h1;rw [if_pos ⟨rfl,rfl⟩]at hR;subst hR;refine Qc fun K1 hK1=>?_
  (refine sR fun K hK=>?_;(repeat rw [Qa];simp);refine hK _ _ _ ?_;clear hK K);refine pT rfl ?_;(refine sR fun K hK=>?_;(repeat rw [Qa];simp);refine hK _ _ _ ?_;clear hK K);(refine Qe ?_;(try simp only [zs]);refine Qk.ret rfl (.inl ?_);simp [zM])
 rw [if_neg h1]at hR;refine Qsh [10,11,12,13,14,15,16,17,18] ([10,11,12,13,14,15,16,17,18].map fun _=> .junk) [.cells 27 [.int .i64 kk, .int .i64 nn, .int .i64 aa, .slice (ls.map Qn) .any, .slice (ks.map Qj) .any]] ?_ ?_
 rotate_left
 ·intro K hK0;by_cases h2:kk=1
  ·subst h2;have h3:¬ nn=b:=fun h=>h1 ⟨rfl,h⟩
   (refine sR fun K hK=>?_;(repeat rw [Qa];simp [h3]);refine hK _ _ _ ?_;clear hK K);refine pF rfl ?_;refine Qg (hK0 _ ?_);simp [leT,Qh]
  ·(refine sR fun K hK=>?_;(repeat rw [Qa];simp [h2]);refine hK _ _ _ ?_;clear hK K);refine pF rfl ?_;refine Qg (hK0 _ ?_);simp [leT,Qh]
 simp only [Qh,List.set,List.map_cons,List.map_nil,List.cons_append,List.nil_append];(refine sR fun K hK=>?_;(repeat rw [Qa];simp);refine hK _ _ _ ?_;clear hK K);refine Qc fun K1 hK1=>?_
 (refine sR fun K hK=>?_;(repeat rw [Qa];simp);refine hK _ _ _ ?_;clear hK K);refine Xm Wa Qf (ti:=3) (tk:=23) (tn:=22) (td:=24) (ts:=45) [8,9,23,24,25,26,27,28,29,30,31,32,33,34,35,36,37,38,39,40,41,42,43,44,45] [7] (ks.length) (fun k ys hl=>∃(s:Int),ys= [.int .i64 s]/\R=T.sdws many kk (ks.drop k) k b s/\hl= [.cells 27 [.int .i64 kk, .int .i64 nn, .int .i64 aa, .slice (ls.map Qn) .any, .slice (ks.map Qj) .any]]) rfl rfl rfl rfl rfl rfl rfl rfl rfl rfl rfl rfl (by simp) (by decide) rfl (by first | assumption | omega | (unfold Ql;omega)) rfl (by kernel_rfl) (by decide) ?_ ?_ ?_
 ·exact⟨1,rfl,hR,rfl⟩
 ·rintro i ys hl A hi ⟨s,rfl,hF,rfl⟩ hA hA2;simp only [Qh,List.set,List.map_cons,List.map_nil,List.cons_append,List.nil_append];have hi':(i:Int)<ks.length:=by omega
  rw [List.drop_eq_getElem_cons hi,T.sdws]at hF;have hrec:=ih ks[i] (List.getElem_mem hi) (Xl b kk i) (hks _ (List.getElem_mem hi));have hbi:=Qgc kk i;have hbd:Xl b kk i=if Qa7 kk i then IntKind.i64.wrap (b+1)else b:=rfl
  obtain⟨x,hx⟩:∃x,ks[i]=x:=⟨_,rfl⟩;rw [hx]at hF hrec;have hEx:=Qb x;rw [hEx]at hrec;generalize T.sdw many x (Xl b kk i)=v at hF hrec;generalize Xl b kk i=b' at hrec hbd;generalize Qa7 kk i=bb at hbi hbd;(refine sR fun K hK=>?_;(repeat rw [Qa];simp [hi,hi',hx,hEx]);refine hK _ _ _ ?_;clear hK K);(refine sR fun K hK=>?_;(repeat rw [Qa];simp));refine cXr (hbi) ?_
  (repeat rw [Qa];simp)
  (refine hK _ _ _ ?_;clear hK K);cases bb with
  | true =>
   rw [if_pos rfl]at hbd;subst hbd;refine pT rfl ?_;(refine Qi Wa ?_;(repeat rw [Qa];simp));refine cXr (hrec) ?_
   (repeat rw [Qa];simp)
   (refine hA2 ([0]) _ _ _ (LeT.refl _) (by decide) (by simp) (by simp [zM,Qh]) ?_ rfl;simp [zM]);exact hF
  | false =>
   rw [if_neg Bool.false_ne_true]at hbd;subst hbd;refine pF rfl ?_;(refine Qi Wa ?_;(repeat rw [Qa];simp));refine cXr (hrec) ?_
   (repeat rw [Qa];simp)
   (refine hA2 ([0]) _ _ _ (LeT.refl _) (by decide) (by simp) (by simp [zM,Qh]) ?_ rfl;simp [zM]);exact hF
 ·rintro ys hl tl' ⟨s,rfl,hF,rfl⟩ htl;refine hK1 _ _ _ (Xn htl ?_);simp only [Qh,List.set,List.map_cons,List.map_nil,List.cons_append,List.nil_append];rw [List.drop_length,T.sdws]at hF;subst hF;(refine sR fun K hK=>?_;(repeat rw [Qa];simp);refine hK _ _ _ ?_;clear hK K);(refine Qe ?_;(try simp only [zs]);refine Qk.ret rfl (.inl ?_);simp [zM])
theorem Qlu(t a:T)(ht:okT t)(ha:okT a)(hb:((t.sd a.nsz 0:Nat):Int)<=9223372036854775807):Sp 143 [Qj t,Qj a] [] (rt (.int .i64 ((t.sd a.nsz 0:Nat):Int))):=by
 have h1:=Qg7 a ha;have h2:=Qus a.sz t 0 ht;rw [Qmt a]at h1 h2;rw [Qm1,Qbp (n:=((t.sd a.nsz 0:Nat):Int)) (by omega) hb]at h2;generalize ((t.sd a.nsz 0:Nat):Int)=v at h2⊢;have hEt:=Qb t;have hEa:=Qb a;rw [hEt,hEa];rw [hEa]at h1;rw [hEt]at h2;refine eN Tryz.func143 rfl (by decide) rfl rfl ?_;(refine sR fun K hK=>?_;(repeat rw [Qa];simp);refine hK _ _ _ ?_;clear hK K);(refine Qc fun K hK=>?_;refine dR fun KT hKT=>?_;(repeat rw [Qd];simp));refine cYp (h1) ?_;(try simp only [zq]);(repeat rw [Qd];simp);refine cYp (h2) ?_;(try simp only [zq]);(repeat rw [Qd];simp);(refine hKT _ _ _ _ (by kernel_rfl) ?_;clear hKT KT);(refine hK _ _ _ ?_;clear hK K);(refine Qe ?_;(try simp only [zs]);refine Qk.ret rfl (.inl ?_);simp [zM])
def Wo:HO:= .mp [(.int .i64 6, .fn (.func 88) [.box 0 0] []),(.int .i64 14, .fn (.func 89) [.box 0 0] []),(.int .i64 15, .fn (.func 89) [.box 0 0] []),(.int .i64 7, .fn (.func 90) [.box 0 0] []),
 (.int .i64 3, .fn (.func 91) [.box 0 0] []),(.int .i64 18, .fn (.func 92) [.box 0 0] []),(.int .i64 21, .fn (.func 93) [.box 0 0] []),(.int .i64 24, .fn (.func 94) [.box 0 0] [])]
def Wf(left:Int)(l:List C)(once done:Bool):List HO:= [headD left l once done,Wo]
theorem Qr8(left:Int)(l:List C)(once done:Bool)(n:Int)(h0:0<=n)(h:n<=left)(hl:left<=9223372036854775807):Sp 141 [.box 0 0, .int .i64 n] (Wf left l once done) (fun o hc=>o= .ret (.tuple [])/\hc=Wf (left - n) l once done):=by
 have hw:IntKind.i64.wrap (left - n)=left - n:=Qbp (by omega) (by omega);have h':¬ left<n:=by omega
 unfold Wf headD Cs Wo;refine eN Tryz.func141 rfl (by decide) rfl rfl ?_;refine Qc fun K1 hK1=>?_
 (refine sR fun K hK=>?_;(repeat rw [Qa];simp [h']);refine hK _ _ _ ?_;clear hK K);refine pF rfl ?_;refine Qg (hK1 _ _ _ ?_);(refine Qi Wa ?_;(repeat rw [Qa];simp [hw]));((try simp only [zs]);refine Qk.nrm rfl (.inr ⟨[],by decide,by simp,?_⟩);simp [zM])
theorem burn_no(left:Int)(l:List C)(once done:Bool)(n:Int)(h:left<n):Sp 141 [.box 0 0, .int .i64 n] (Wf left l once done) (fun o hc=>o= .pan Qam/\hc=Wf left l once done):=by
 unfold Wf headD Cs Wo Qam;refine eN Tryz.func141 rfl (by decide) rfl rfl ?_;refine Qc fun K1 hK1=>?_
 (refine sR fun K hK=>?_;(repeat rw [Qa];simp [h]);refine hK _ _ _ ?_;clear hK K);refine pT rfl ?_;(refine Qi Wa ?_;(repeat rw [Qa];simp));((try simp only [zs]);refine Qk.pan (.inr ⟨[],by decide,by simp,?_⟩);simp [zM])
theorem Spec.dead{P:Program}{G:Nat ->Option D}{f:FuncId}{args:List D}{objs:List HO}{Post Post':Out ->List HO ->Prop}(h:Spec P G f args objs Post)(hP:∀o hc,Post o hc ->∃hc',(∀r,hOf hc' r=hOf hc r\/hOf hc' r= .dead)/\Post' o hc'):Spec P G f args objs Post':=fun ρ w vs hR hv=>by
 obtain⟨h1,h2⟩:=h ρ w vs hR hv;refine⟨h1,h2.mono ?_⟩;rintro e w' ⟨ρ',out,hc,hp,hm,hr,hx⟩;obtain⟨hc',hk,hp'⟩:=hP out hc hp;exact⟨ρ',out,hc',hp',hm,hr.kill hk,hx.kill hk⟩
theorem Qkx(left:Int)(l:List C)(once done:Bool)(n:Int)(h:left<n):Sp 141 [.box 0 0, .int .i64 n] (Wf left l once done) (fun o hc=>o= .pan Qam/\hc= [.dead, .dead]) :=
 (burn_no left l once done n h).dead fun o hc hp=>⟨[.dead, .dead],fun r=>by
  rw [hp.2]
  match r with
  | 0=>exact .inr rfl
  | 1=>exact .inr rfl
  | r+2=>exact .inl rfl,hp.1,rfl⟩
def Qk6(left:Int)(l:List C)(once done:Bool)(c:Nat)(d:D)(o:Out)(hc:List HO):Prop :=
 if(c:Int)<=left then o.fgt= .ret d/\hc=Wf (left - c) l once done else o= .pan Qam/\hc= [.dead, .dead]
theorem Qa2{left:Int}{l:List C}{once done:Bool}{c:Nat}{d:D}(h:(c:Int)<=left):Qk6 left l once done c d=(fun o hc=>o.fgt= .ret d/\hc=Wf (left - c) l once done):=by
 funext o hc;unfold Qk6;rw [if_pos h]
theorem Qa3{left:Int}{l:List C}{once done:Bool}{c:Nat}{d:D}(h:¬ (c:Int)<=left):Qk6 left l once done c d=(fun o hc=>o= .pan Qam/\hc= [.dead, .dead]):=by
 funext o hc;unfold Qk6;rw [if_neg h]
def Qep(left:Int)(l:List C)(once done:Bool)(t:T)(r:Option (T×Nat)):Out ->List HO ->Prop:=match r with
 | none=>fun o hc=>o.fgt= .ret (.tuple [Qj t, .bool false])/\hc=Wf left l once done
 | some p=>Qk6 left l once done p.2 (.tuple [Qj p.1, .bool true])
def PM:Nat:=536870912
def okS(t:T):Prop:=okT t/\t.pot<=PM
theorem okS.deep{t:T}(h:okS t):t.deep<=DM:=by have:=t.deep_nsz;have:=Qd2 t;have:=h.2;unfold PM at this;unfold DM;omega
theorem okS.kid{t:T}(h:okS t)(i:Nat):okS (t.kid i):=⟨Qaf h.1 i,Nat.le_trans (Qbo t i) h.2⟩
theorem okS.sd{t a:T}(h:okS t)(ha:okS a):((t.sd a.nsz 0:Nat):Int)<=288230376151711744:=by
 have:=Wbi h.2 ha.2;unfold PM at this;omega
theorem okS.nsz{t:T}(h:okS t):t.nsz<=536870912:=by have:=Qd2 t;have:=h.2;unfold PM at this;omega
structure okCs (l : List C) : Prop where
 len:l.length<=Ql
 ok:∀c,c∈l ->okC c
 bo:∀c,c∈l ->c.bo.nsz<=1048576
 ty:∀c,c∈l ->c.ty.nsz<=1048576
theorem Qph(left:Int)(l:List C)(once done:Bool)(hl:left<=9223372036854775807)(t a:T)(ht:okS t)(ha:okS a) :
  Sp 138 [.box 0 0,Qj t,Qj a] (Wf left l once done) (Qk6 left l once done (t.sd a.nsz 0) (Qj (t.put [a] 0))):=by
 have hz:=Qlu t a ht.1 ha.1 (Int.le_trans (ht.sd ha) (by omega));have hp:=Qjv t [a] (by unfold Ql;simp) (fun b hb=>by rw [Qgp hb];exact⟨ha.1,ha.deep⟩) ht.deep ht.1;have hEt:=Qb t;have hEa:=Qb a;generalize t.sd a.nsz 0=c at hz⊢;generalize t.put [a] 0=r at hp⊢;have hEr:=Qb r;unfold Ts at hp;simp only [List.map_cons,List.map_nil]at hp;rw [hEt,hEa]at hp hz⊢;by_cases hc:(c:Int)<=left
 ·rw [Qa2 hc];have hbu:=Qr8 left l once done c (by omega) hc hl;unfold Wf headD Cs Wo at hbu⊢;refine eN Tryz.func138 rfl (by decide) rfl rfl ?_;(refine sR fun K hK=>?_;(repeat rw [Qa];simp);refine hK _ _ _ ?_;clear hK K);(refine Qc fun K hK=>?_;refine dR fun KT hKT=>?_;(repeat rw [Qd];simp));refine cYp (hz) ?_;(try simp only [zq]);(repeat rw [Qd];simp);refine cYo [0,1] true false (hbu) (fun o h e=>e) ?_;simp [zU];(try simp only [zq]);(repeat rw [Qd];simp);(refine hKT _ _ _ _ (by kernel_rfl) ?_;clear hKT KT);(refine hK _ _ _ ?_;clear hK K);(refine sR fun K hK=>?_;(repeat rw [Qa];simp));refine cXr (hp) ?_
  (repeat rw [Qa];simp)
  (refine hK _ _ _ ?_;clear hK K);(refine Qe ?_;(try simp only [zs]);refine Qk.ret rfl (.inr ⟨[],by decide,by simp,?_⟩);simp [zM]);exact hEr.symm
 ·rw [Qa3 hc];have hbu:=Qkx left l once done c (by omega);unfold Wf headD Cs Wo Qam at hbu⊢;refine eN Tryz.func138 rfl (by decide) rfl rfl ?_;(refine sR fun K hK=>?_;(repeat rw [Qa];simp);refine hK _ _ _ ?_;clear hK K);(refine Qc fun K hK=>?_;refine dR fun KT hKT=>?_;(repeat rw [Qd];simp));refine cYp (hz) ?_;(try simp only [zq]);(repeat rw [Qd];simp);refine cYo [0,1] true false (hbu) (fun o h e=>e) ?_;simp [zU];((try simp only [Qt,Qu,Qr,Qw,Wi]);(repeat(refine Wr _ _ _ _ (by kernel_rfl) ?_;simp only [Qr,List.set,List.nil_append,List.cons_append,Nat.reduceAdd]));(try simp only [Qm]));(refine hKT _ _ _ _ (by kernel_rfl) ?_;clear hKT KT);simp [Xi];((try simp only [zs]);refine Qk.pan (.inr ⟨[],by decide,by simp,?_⟩);simp [zM])
theorem Qef(left:Int)(l:List C)(once done:Bool)(hl:left<=9223372036854775807)(t:T)(ht:okS t) :
  Sp 139 [.box 0 0,Qj t] (Wf left l once done) (Qk6 left l once done t.nsz (Qj t)):=by
 have hz:=Qg7 t ht.1;rw [Qmt,Qbp (by omega) (by have:=ht.nsz;omega)]at hz;have hEt:=Qb t;generalize t.nsz=c at hz⊢;rw [hEt]at hz⊢;by_cases hc:(c:Int)<=left
 ·rw [Qa2 hc];have hbu:=Qr8 left l once done c (by omega) hc hl;unfold Wf headD Cs Wo at hbu⊢;refine eN Tryz.func139 rfl (by decide) rfl rfl ?_;(refine sR fun K hK=>?_;(repeat rw [Qa];simp);refine hK _ _ _ ?_;clear hK K);(refine Qc fun K hK=>?_;refine dR fun KT hKT=>?_;(repeat rw [Qd];simp));refine cYp (hz) ?_;(try simp only [zq]);(repeat rw [Qd];simp);refine cYo [0,1] true false (hbu) (fun o h e=>e) ?_;simp [zU];(try simp only [zq]);(repeat rw [Qd];simp);(refine hKT _ _ _ _ (by kernel_rfl) ?_;clear hKT KT);(refine hK _ _ _ ?_;clear hK K);(refine sR fun K hK=>?_;(repeat rw [Qa];simp);refine hK _ _ _ ?_;clear hK K);(refine Qe ?_;(try simp only [zs]);refine Qk.ret rfl (.inr ⟨[],by decide,by simp,?_⟩);simp [zM])
 ·rw [Qa3 hc];have hbu:=Qkx left l once done c (by omega);unfold Wf headD Cs Wo Qam at hbu⊢;refine eN Tryz.func139 rfl (by decide) rfl rfl ?_;(refine sR fun K hK=>?_;(repeat rw [Qa];simp);refine hK _ _ _ ?_;clear hK K);(refine Qc fun K hK=>?_;refine dR fun KT hKT=>?_;(repeat rw [Qd];simp));refine cYp (hz) ?_;(try simp only [zq]);(repeat rw [Qd];simp);refine cYo [0,1] true false (hbu) (fun o h e=>e) ?_;simp [zU];((try simp only [Qt,Qu,Qr,Qw,Wi]);(repeat(refine Wr _ _ _ _ (by kernel_rfl) ?_;simp only [Qr,List.set,List.nil_append,List.cons_append,Nat.reduceAdd]));(try simp only [Qm]));(refine hKT _ _ _ _ (by kernel_rfl) ?_;clear hKT KT);simp [Xi];((try simp only [zs]);refine Qk.pan (.inr ⟨[],by decide,by simp,?_⟩);simp [zM])
theorem Zb(t:T)(n:Int)(m:Nat)(h:n=m):Sp 97 [Qj t, .int .i64 n] [] (rt (Qj (t.kid m))):=by
 subst h;have:=Qtg t m
 rwa [Qjc]at this
def atC(l:List C)(n:Int)(lv:List LV):Option C:=if h:0<=n/\n.toNat<l.length then if(l[n.toNat]'h.2).lv=lv.length then some (l[n.toNat]'h.2)else none else none
theorem atC_low{l:List C}{n:Int}{lv:List LV}(h:¬ 0<=n):atC l n lv=none:=by unfold atC;rw [dif_neg (fun h2=>h h2.1)]
theorem atC_in{l:List C}{j:Nat}{lv:List LV}(h:j<l.length):atC l (j:Int) lv=if l[j].lv=lv.length then some l[j] else none:=by unfold atC;rw [dif_pos ⟨by omega,by omega⟩];rfl
theorem atC_out{l:List C}{j:Nat}{lv:List LV}(h:¬ j<l.length):atC l (j:Int) lv=none:=by unfold atC;rw [dif_neg (fun h2=>h h2.2)]
theorem body_at(l:List C)(n:Int)(lv:List LV):Qlk l n lv=match atC l n lv with
  | some c=>if c.has=true then some (c.bo.levels lv 0)else none
  | none=>none:=by
 unfold Qlk atC;split
 ·rename_i h;by_cases h1:(l[n.toNat]'h.2).lv=lv.length
  ·rw [if_pos h1];by_cases h2:(l[n.toNat]'h.2).has=true
   ·rw [if_pos ⟨h1,h2⟩];simp only;rw [if_pos h2]
   ·rw [if_neg (fun h3=>h2 h3.2)];simp only;rw [if_neg h2]
  ·rw [if_neg (fun h3=>h1 h3.1),if_neg h1]
 ·rfl
theorem Qz4{l:List C}{n:Int}{lv:List LV}{c:C}(h:atC l n lv=some c):c∈l:=by
 unfold atC at h;split at h
 ·split at h
  ·cases h;exact List.getElem_mem _
  ·cases h
 ·cases h
theorem Qay(c:C):Qbn c= .agg [.int .i64 c.lv, .int .i64 c.ty.k, .int .i64 c.ty.n, .int .i64 c.ty.a, .slice (c.ty.ls.map Qn) .any, .slice (c.ty.ks.map Qj) .any, .bool c.has, .int .i64 c.bo.k, .int .i64 c.bo.n, .int .i64 c.bo.a, .slice (c.bo.ls.map Qn) .any, .slice (c.bo.ks.map Qj) .any]:=rfl
theorem Qz3(l:List C)(hl:l.length<=Ql)(n:Int)(lv:List LV):Sp 192 [Cs l, .int .i64 n, .slice (lv.map Qn) .any] [] (rt (.tuple [Qbn ((atC l n lv).getD Qgz), .bool (atC l n lv).isSome])):=by
 unfold Ql at hl;by_cases h0:0<=n
 ·obtain⟨j,rfl⟩:∃j:Nat,n=j:=⟨n.toNat,by omega⟩;by_cases hj:j<l.length
  ·have hj':(j:Int)<l.length:=by omega
   rw [atC_in hj];obtain⟨c,hc⟩:∃c,l[j]=c:=⟨_,rfl⟩;rw [hc];have hE:=Qay c;by_cases hlv:c.lv=lv.length
   ·rw [if_pos hlv];unfold Cs;refine eN Tryz.func192 rfl (by decide) rfl rfl ?_;(refine sR fun K hK=>?_;(repeat rw [Qa];simp);refine hK _ _ _ ?_;clear hK K);refine Qc fun K1 hK1=>?_
    (refine sR fun K hK=>?_;(repeat rw [Qa];simp [h0,hj,hj',hc,hE,hlv]);refine hK _ _ _ ?_;clear hK K);refine pT rfl ?_;(refine sR fun K hK=>?_;(repeat rw [Qa];simp [h0,hj,hj',hc,hE,hlv]);refine hK _ _ _ ?_;clear hK K);(refine Qe ?_;(try simp only [zs]);refine Qk.ret rfl (.inl ?_);simp [zM]);rw [hE,hlv]
   ·rw [if_neg hlv];unfold Cs;refine eN Tryz.func192 rfl (by decide) rfl rfl ?_;(refine sR fun K hK=>?_;(repeat rw [Qa];simp);refine hK _ _ _ ?_;clear hK K);refine Qc fun K1 hK1=>?_
    (refine sR fun K hK=>?_;(repeat rw [Qa];simp [h0,hj,hj',hc,hE,hlv]);refine hK _ _ _ ?_;clear hK K);refine pF rfl ?_;refine Qg (hK1 _ _ _ ?_);(refine sR fun K hK=>?_;(repeat rw [Qa];simp);refine hK _ _ _ ?_;clear hK K);(refine Qe ?_;(try simp only [zs]);refine Qk.ret rfl (.inl ?_);simp [zM]);rfl
  ·have hj':¬ (j:Int)<l.length:=by omega
   rw [atC_out hj];unfold Cs;refine eN Tryz.func192 rfl (by decide) rfl rfl ?_;(refine sR fun K hK=>?_;(repeat rw [Qa];simp);refine hK _ _ _ ?_;clear hK K);refine Qc fun K1 hK1=>?_
   (refine sR fun K hK=>?_;(repeat rw [Qa];simp [h0,hj,hj']);refine hK _ _ _ ?_;clear hK K);refine pF rfl ?_;refine Qg (hK1 _ _ _ ?_);(refine sR fun K hK=>?_;(repeat rw [Qa];simp);refine hK _ _ _ ?_;clear hK K);(refine Qe ?_;(try simp only [zs]);refine Qk.ret rfl (.inl ?_);simp [zM]);rfl
 ·rw [atC_low h0];unfold Cs;refine eN Tryz.func192 rfl (by decide) rfl rfl ?_;(refine sR fun K hK=>?_;(repeat rw [Qa];simp);refine hK _ _ _ ?_;clear hK K);refine Qc fun K1 hK1=>?_
  (refine sR fun K hK=>?_;(repeat rw [Qa];simp [h0]);refine hK _ _ _ ?_;clear hK K);refine pF rfl ?_;refine Qg (hK1 _ _ _ ?_);(refine sR fun K hK=>?_;(repeat rw [Qa];simp);refine hK _ _ _ ?_;clear hK K);(refine Qe ?_;(try simp only [zs]);refine Qk.ret rfl (.inl ?_);simp [zM]);rfl
theorem Qzw(l:List C)(hl:okCs l)(n:Int)(lv:List LV)(hv:lv.length<=Ql)(hvl:∀b,b∈lv ->b.length<=Ql):Sp 140 [Cs l, .int .i64 n, .slice (lv.map Qn) .any] [] (rt (.tuple [Qj ((Qlk l n lv).getD Xa), .bool (Qlk l n lv).isSome])):=by
 have ha:=Qz3 l hl.len n lv;rw [body_at];cases hc:atC l n lv with
 | none =>
  rw [hc]at ha;simp only [Option.getD_none,Option.isSome_none]at ha⊢;rw [encZ];unfold Cs Qgz at ha;unfold Cs;refine eN Tryz.func140 rfl (by decide) rfl rfl ?_;(refine sR fun K hK=>?_;(repeat rw [Qa];simp);refine hK _ _ _ ?_;clear hK K);(refine sR fun K hK=>?_;(repeat rw [Qa];simp));refine cXr (ha) ?_
  (repeat rw [Qa];simp)
  (refine hK _ _ _ ?_;clear hK K);refine Qc fun K1 hK1=>?_
  (refine sR fun K hK=>?_;(repeat rw [Qa];simp);refine hK _ _ _ ?_;clear hK K);refine pT rfl ?_;(refine sR fun K hK=>?_;(repeat rw [Qa];simp);refine hK _ _ _ ?_;clear hK K);(refine Qe ?_;(try simp only [zs]);refine Qk.ret rfl (.inl ?_);simp [zM])
 | some c =>
  rw [hc]at ha;simp only [Option.getD_some,Option.isSome_some]at ha⊢;have hm:=Qz4 hc;have hbo:=(hl.ok c hm).2.2;have hd:c.bo.deep<=DM:=by have:=c.bo.deep_nsz;have:=hl.bo c hm;unfold DM;omega
  cases hh:c.has with
  | false =>
   rw [if_neg Bool.false_ne_true];simp only [Option.getD_none,Option.isSome_none];rw [encZ];rw [Qay c,hh]at ha;unfold Cs at ha⊢;refine eN Tryz.func140 rfl (by decide) rfl rfl ?_;(refine sR fun K hK=>?_;(repeat rw [Qa];simp);refine hK _ _ _ ?_;clear hK K);(refine sR fun K hK=>?_;(repeat rw [Qa];simp));refine cXr (ha) ?_
   (repeat rw [Qa];simp)
   (refine hK _ _ _ ?_;clear hK K);refine Qc fun K1 hK1=>?_
   (refine sR fun K hK=>?_;(repeat rw [Qa];simp);refine hK _ _ _ ?_;clear hK K);refine pT rfl ?_;(refine sR fun K hK=>?_;(repeat rw [Qa];simp);refine hK _ _ _ ?_;clear hK K);(refine Qe ?_;(try simp only [zs]);refine Qk.ret rfl (.inl ?_);simp [zM])
  | true =>
   rw [if_pos rfl];simp only [Option.getD_some,Option.isSome_some];have hs:=Qj9 c.bo lv hv hvl hd hbo;rw [Qay c,hh]at ha;rw [Qb c.bo]at hs;generalize c.bo.levels lv 0=r at hs⊢;have hEr:=Qb r;unfold Lvs at hs;unfold Cs at ha⊢;refine eN Tryz.func140 rfl (by decide) rfl rfl ?_;(refine sR fun K hK=>?_;(repeat rw [Qa];simp);refine hK _ _ _ ?_;clear hK K);(refine sR fun K hK=>?_;(repeat rw [Qa];simp));refine cXr (ha) ?_
   (repeat rw [Qa];simp)
   (refine hK _ _ _ ?_;clear hK K);refine Qc fun K1 hK1=>?_
   (refine sR fun K hK=>?_;(repeat rw [Qa];simp);refine hK _ _ _ ?_;clear hK K);refine pF rfl ?_;refine Qg (hK1 _ _ _ ?_);(refine sR fun K hK=>?_;(repeat rw [Qa];simp));refine cXr (hs) ?_
   (repeat rw [Qa];simp)
   (refine hK _ _ _ ?_;clear hK K);(refine Qe ?_;(try simp only [zs]);refine Qk.ret rfl (.inl ?_);simp [zM]);exact hEr.symm
theorem Qy7(left:Int)(l:List C)(once done:Bool)(hl:left<=9223372036854775807)(t x:T)(ht:okS t)(hx:okS x)(h6:t.k=6):Sp 88 [.box 0 0,Qj t,Qj x] (Wf left l once done) (Qep left l once done t (Qbq l t x)):=by
 have hEt:=Qb t;have hEx:=Qb x;unfold Qbq;rw [if_pos h6];by_cases hk:x.k=5
 ·rw [if_pos hk];have k1:=Zb x 1 1 rfl;have k2:=Zb t 1 1 rfl;have hp:=Qph left l once done hl (x.kid 1) (t.kid 1) (hx.kid 1) (ht.kid 1);generalize (x.kid 1).sd (t.kid 1).nsz 0=c at hp⊢;generalize (x.kid 1).put [t.kid 1] 0=r at hp⊢;generalize x.kid 1=a at k1 hp;generalize t.kid 1=b at k2 hp;have hEr:=Qb r;have hEa:=Qb a;have hEb:=Qb b;rw [hEx,hEa,hk]at k1;rw [hEt,hEb]at k2;rw [hEa,hEb,hEr]at hp;rw [hEt,hEx];by_cases hc:(c:Int)<=left
  ·rw [Qa2 hc]at hp;show Spec _ _ _ _ _ (Qk6 left l once done c _);rw [Qa2 hc];unfold Wf headD Cs Wo at hp⊢;refine eN Tryz.func88 rfl (by decide) rfl rfl ?_;(refine sR fun K hK=>?_;(repeat rw [Qa];simp);refine hK _ _ _ ?_;clear hK K);refine Qc fun K1 hK1=>?_
   (refine sR fun K hK=>?_;(repeat rw [Qa];simp [hk]);refine hK _ _ _ ?_;clear hK K);refine pF rfl ?_;refine Qg (hK1 _ _ _ ?_);(refine Qc fun K hK=>?_;refine dR fun KT hKT=>?_;(repeat rw [Qd];simp));refine cYp (k1) ?_;(try simp only [zq]);(repeat rw [Qd];simp);refine cYp (k2) ?_;(try simp only [zq]);(repeat rw [Qd];simp);refine cYo [0,1] true true (hp) (fun o h e=>e) ?_;simp [zU];(try simp only [zq]);(repeat rw [Qd];simp);(refine hKT _ _ _ _ (by kernel_rfl) ?_;clear hKT KT);(refine hK _ _ _ ?_;clear hK K);(refine Qe ?_;(try simp only [zs]);refine Qk.ret rfl (.inr ⟨[],by decide,by simp,?_⟩);simp [zM])
   first | done | simp [hEr]
  ·rw [Qa3 hc]at hp;show Spec _ _ _ _ _ (Qk6 left l once done c _);rw [Qa3 hc];unfold Wf headD Cs Wo Qam at hp;unfold Wf headD Cs Wo Qam;refine eN Tryz.func88 rfl (by decide) rfl rfl ?_;(refine sR fun K hK=>?_;(repeat rw [Qa];simp);refine hK _ _ _ ?_;clear hK K);refine Qc fun K1 hK1=>?_
   (refine sR fun K hK=>?_;(repeat rw [Qa];simp [hk]);refine hK _ _ _ ?_;clear hK K);refine pF rfl ?_;refine Qg (hK1 _ _ _ ?_);(refine Qc fun K hK=>?_;refine dR fun KT hKT=>?_;(repeat rw [Qd];simp));refine cYp (k1) ?_;(try simp only [zq]);(repeat rw [Qd];simp);refine cYp (k2) ?_;(try simp only [zq]);(repeat rw [Qd];simp);refine cYo [0,1] true false (hp) (fun o h e=>e) ?_;simp [zU];((try simp only [Qt,Qu,Qr,Qw,Wi]);(repeat(refine Wr _ _ _ _ (by kernel_rfl) ?_;simp only [Qr,List.set,List.nil_append,List.cons_append,Nat.reduceAdd]));(try simp only [Qm]));(refine hKT _ _ _ _ (by kernel_rfl) ?_;clear hKT KT);simp [Xi];((try simp only [zs]);refine Qk.pan (.inr ⟨[],by decide,by simp,?_⟩);simp [zM])
 ·rw [if_neg hk];rw [hEt,hEx];unfold Qep Wf headD Cs Wo;refine eN Tryz.func88 rfl (by decide) rfl rfl ?_;(refine sR fun K hK=>?_;(repeat rw [Qa];simp);refine hK _ _ _ ?_;clear hK K);refine Qc fun K1 hK1=>?_
  (refine sR fun K hK=>?_;(repeat rw [Qa];simp [hk]);refine hK _ _ _ ?_;clear hK K);refine pT rfl ?_;(refine sR fun K hK=>?_;(repeat rw [Qa];simp);refine hK _ _ _ ?_;clear hK K);(refine Qe ?_;(try simp only [zs]);refine Qk.ret rfl (.inr ⟨[],by decide,by simp,?_⟩);simp [zM])
  first | done | simp [hEt]
theorem Qy2(left:Int)(l:List C)(once done:Bool)(hl:left<=9223372036854775807)(t x:T)(ht:okS t)(h7:t.k=7):Sp 90 [.box 0 0,Qj t,Qj x] (Wf left l once done) (Qep left l once done t (Qbq l t x)):=by
 have hEt:=Qb t;have hEx:=Qb x;unfold Qbq;rw [if_neg (by omega),if_neg (by omega),if_pos h7];have k1:=Zb t 2 2 rfl;have k2:=Zb t 1 1 rfl;have hp:=Qph left l once done hl (t.kid 2) (t.kid 1) (ht.kid 2) (ht.kid 1);generalize (t.kid 2).sd (t.kid 1).nsz 0=c at hp⊢;generalize (t.kid 2).put [t.kid 1] 0=r at hp⊢;generalize t.kid 2=a at k1 hp;generalize t.kid 1=b at k2 hp;have hEr:=Qb r;have hEa:=Qb a;have hEb:=Qb b;rw [hEt,hEa]at k1;rw [hEt,hEb]at k2;rw [hEa,hEb,hEr]at hp;rw [hEt,hEx];by_cases hc:(c:Int)<=left
 ·rw [Qa2 hc]at hp;show Spec _ _ _ _ _ (Qk6 left l once done c _);rw [Qa2 hc];unfold Wf headD Cs Wo at hp⊢;refine eN Tryz.func90 rfl (by decide) rfl rfl ?_;(refine sR fun K hK=>?_;(repeat rw [Qa];simp);refine hK _ _ _ ?_;clear hK K);(refine Qc fun K hK=>?_;refine dR fun KT hKT=>?_;(repeat rw [Qd];simp));refine cYp (k1) ?_;(try simp only [zq]);(repeat rw [Qd];simp);refine cYp (k2) ?_;(try simp only [zq]);(repeat rw [Qd];simp);refine cYo [0,1] true true (hp) (fun o h e=>e) ?_;simp [zU];(try simp only [zq]);(repeat rw [Qd];simp);(refine hKT _ _ _ _ (by kernel_rfl) ?_;clear hKT KT);(refine hK _ _ _ ?_;clear hK K);(refine Qe ?_;(try simp only [zs]);refine Qk.ret rfl (.inr ⟨[],by decide,by simp,?_⟩);simp [zM])
  first | done | simp [hEr]
 ·rw [Qa3 hc]at hp;show Spec _ _ _ _ _ (Qk6 left l once done c _);rw [Qa3 hc];unfold Wf headD Cs Wo Qam at hp;unfold Wf headD Cs Wo Qam;refine eN Tryz.func90 rfl (by decide) rfl rfl ?_;(refine sR fun K hK=>?_;(repeat rw [Qa];simp);refine hK _ _ _ ?_;clear hK K);(refine Qc fun K hK=>?_;refine dR fun KT hKT=>?_;(repeat rw [Qd];simp));refine cYp (k1) ?_;(try simp only [zq]);(repeat rw [Qd];simp);refine cYp (k2) ?_;(try simp only [zq]);(repeat rw [Qd];simp);refine cYo [0,1] true false (hp) (fun o h e=>e) ?_;simp [zU];((try simp only [Qt,Qu,Qr,Qw,Wi]);(repeat(refine Wr _ _ _ _ (by kernel_rfl) ?_;simp only [Qr,List.set,List.nil_append,List.cons_append,Nat.reduceAdd]));(try simp only [Qm]));(refine hKT _ _ _ _ (by kernel_rfl) ?_;clear hKT KT);simp [Xi];((try simp only [zs]);refine Qk.pan (.inr ⟨[],by decide,by simp,?_⟩);simp [zM])
theorem Ql6(left:Int)(l:List C)(once done:Bool)(hl:left<=9223372036854775807)(t x:T)(hx:okS x)(h14:t.k=14\/t.k=15):Sp 89 [.box 0 0,Qj t,Qj x] (Wf left l once done) (Qep left l once done t (Qbq l t x)):=by
 have hEt:=Qb t;have hEx:=Qb x;unfold Qbq;rw [if_neg (by omega),if_pos h14];by_cases hk:x.k=13
 ·rw [if_pos hk];by_cases h15:t.k=15
  ·rw [if_pos h15];have k1:=Zb x 1 1 rfl;have hp:=Qef left l once done hl (x.kid 1) (hx.kid 1);generalize (x.kid 1).nsz=c at hp⊢;generalize x.kid 1=r at k1 hp⊢;have hEr:=Qb r;rw [hEx,hEr,hk]at k1;rw [hEr]at hp;rw [hEt,hEx];by_cases hc:(c:Int)<=left
   ·rw [Qa2 hc]at hp;show Spec _ _ _ _ _ (Qk6 left l once done c _);rw [Qa2 hc];unfold Wf headD Cs Wo at hp⊢;refine eN Tryz.func89 rfl (by decide) rfl rfl ?_;(refine sR fun K hK=>?_;(repeat rw [Qa];simp);refine hK _ _ _ ?_;clear hK K);refine Qc fun K1 hK1=>?_
    (refine sR fun K hK=>?_;(repeat rw [Qa];simp [hk]);refine hK _ _ _ ?_;clear hK K);refine pF rfl ?_;refine Qg (hK1 _ _ _ ?_);(refine sR fun K hK=>?_;(repeat rw [Qa];simp);refine hK _ _ _ ?_;clear hK K);refine Qc fun K2 hK2=>?_
    (refine sR fun K hK=>?_;(repeat rw [Qa];simp [h15]);refine hK _ _ _ ?_;clear hK K);refine pT rfl ?_;(refine Qi Wa ?_;(repeat rw [Qa];simp));refine hK2 _ _ _ ?_;(refine sR fun K hK=>?_;(repeat rw [Qa];simp));refine cXr (k1) ?_
    (repeat rw [Qa];simp)
    refine cXf [0,1] (hp) ?_;simp [zU]
    (repeat rw [Qa];simp)
    (refine hK _ _ _ ?_;clear hK K);(refine Qe ?_;(try simp only [zs]);refine Qk.ret rfl (.inr ⟨[],by decide,by simp,?_⟩);simp [zM])
    first | done | simp [hEr]
   ·rw [Qa3 hc]at hp;show Spec _ _ _ _ _ (Qk6 left l once done c _);rw [Qa3 hc];unfold Wf headD Cs Wo Qam at hp;unfold Wf headD Cs Wo Qam;refine eN Tryz.func89 rfl (by decide) rfl rfl ?_;(refine sR fun K hK=>?_;(repeat rw [Qa];simp);refine hK _ _ _ ?_;clear hK K);refine Qc fun K1 hK1=>?_
    (refine sR fun K hK=>?_;(repeat rw [Qa];simp [hk]);refine hK _ _ _ ?_;clear hK K);refine pF rfl ?_;refine Qg (hK1 _ _ _ ?_);(refine sR fun K hK=>?_;(repeat rw [Qa];simp);refine hK _ _ _ ?_;clear hK K);refine Qc fun K2 hK2=>?_
    (refine sR fun K hK=>?_;(repeat rw [Qa];simp [h15]);refine hK _ _ _ ?_;clear hK K);refine pT rfl ?_;(refine Qi Wa ?_;(repeat rw [Qa];simp));refine hK2 _ _ _ ?_;(refine sR fun K hK=>?_;(repeat rw [Qa];simp));refine cXr (k1) ?_
    (repeat rw [Qa];simp)
    refine cXg [0,1] (hp) ?_;simp [zU];((try simp only [zs]);refine Qk.pan (.inr ⟨[],by decide,by simp,?_⟩);simp [zM])
  ·rw [if_neg h15];have k1:=Zb x 0 0 rfl;have hp:=Qef left l once done hl (x.kid 0) (hx.kid 0);generalize (x.kid 0).nsz=c at hp⊢;generalize x.kid 0=r at k1 hp⊢;have hEr:=Qb r;rw [hEx,hEr,hk]at k1;rw [hEr]at hp;rw [hEt,hEx];by_cases hc:(c:Int)<=left
   ·rw [Qa2 hc]at hp;show Spec _ _ _ _ _ (Qk6 left l once done c _);rw [Qa2 hc];unfold Wf headD Cs Wo at hp⊢;refine eN Tryz.func89 rfl (by decide) rfl rfl ?_;(refine sR fun K hK=>?_;(repeat rw [Qa];simp);refine hK _ _ _ ?_;clear hK K);refine Qc fun K1 hK1=>?_
    (refine sR fun K hK=>?_;(repeat rw [Qa];simp [hk]);refine hK _ _ _ ?_;clear hK K);refine pF rfl ?_;refine Qg (hK1 _ _ _ ?_);(refine sR fun K hK=>?_;(repeat rw [Qa];simp);refine hK _ _ _ ?_;clear hK K);refine Qc fun K2 hK2=>?_
    (refine sR fun K hK=>?_;(repeat rw [Qa];simp [h15]);refine hK _ _ _ ?_;clear hK K);refine pF rfl ?_;refine Qg (hK2 _ _ _ ?_);(refine sR fun K hK=>?_;(repeat rw [Qa];simp));refine cXr (k1) ?_
    (repeat rw [Qa];simp)
    refine cXf [0,1] (hp) ?_;simp [zU]
    (repeat rw [Qa];simp)
    (refine hK _ _ _ ?_;clear hK K);(refine Qe ?_;(try simp only [zs]);refine Qk.ret rfl (.inr ⟨[],by decide,by simp,?_⟩);simp [zM])
    first | done | simp [hEr]
   ·rw [Qa3 hc]at hp;show Spec _ _ _ _ _ (Qk6 left l once done c _);rw [Qa3 hc];unfold Wf headD Cs Wo Qam at hp;unfold Wf headD Cs Wo Qam;refine eN Tryz.func89 rfl (by decide) rfl rfl ?_;(refine sR fun K hK=>?_;(repeat rw [Qa];simp);refine hK _ _ _ ?_;clear hK K);refine Qc fun K1 hK1=>?_
    (refine sR fun K hK=>?_;(repeat rw [Qa];simp [hk]);refine hK _ _ _ ?_;clear hK K);refine pF rfl ?_;refine Qg (hK1 _ _ _ ?_);(refine sR fun K hK=>?_;(repeat rw [Qa];simp);refine hK _ _ _ ?_;clear hK K);refine Qc fun K2 hK2=>?_
    (refine sR fun K hK=>?_;(repeat rw [Qa];simp [h15]);refine hK _ _ _ ?_;clear hK K);refine pF rfl ?_;refine Qg (hK2 _ _ _ ?_);(refine sR fun K hK=>?_;(repeat rw [Qa];simp));refine cXr (k1) ?_
    (repeat rw [Qa];simp)
    refine cXg [0,1] (hp) ?_;simp [zU];((try simp only [zs]);refine Qk.pan (.inr ⟨[],by decide,by simp,?_⟩);simp [zM])
 ·rw [if_neg hk];rw [hEt,hEx];unfold Qep Wf headD Cs Wo;refine eN Tryz.func89 rfl (by decide) rfl rfl ?_;(refine sR fun K hK=>?_;(repeat rw [Qa];simp);refine hK _ _ _ ?_;clear hK K);refine Qc fun K1 hK1=>?_
  (refine sR fun K hK=>?_;(repeat rw [Qa];simp [hk]);refine hK _ _ _ ?_;clear hK K);refine pT rfl ?_;(refine sR fun K hK=>?_;(repeat rw [Qa];simp);refine hK _ _ _ ?_;clear hK K);(refine Qe ?_;(try simp only [zs]);refine Qk.ret rfl (.inr ⟨[],by decide,by simp,?_⟩);simp [zM])
  first | done | simp [hEt]
theorem Qvt(left:Int)(l:List C)(once done:Bool)(hl:left<=9223372036854775807)(t x:T)(ht:okS t)(h21:t.k=21):Sp 93 [.box 0 0,Qj t,Qj x] (Wf left l once done) (Qep left l once done t (Qbq l t x)):=by
 have hEt:=Qb t;have hEx:=Qb x;unfold Qbq;rw [if_neg (by omega),if_neg (by omega),if_neg (by omega),if_neg (by omega),if_neg (by omega),if_pos h21];by_cases hk:x.k=20
 ·rw [if_pos hk];have k1:=Zb t 3 3 rfl;have hp:=Qef left l once done hl (t.kid 3) (ht.kid 3);generalize (t.kid 3).nsz=c at hp⊢;generalize t.kid 3=r at k1 hp⊢;have hEr:=Qb r;rw [hEt,hEr]at k1;rw [hEr]at hp;rw [hEt,hEx];by_cases hc:(c:Int)<=left
  ·rw [Qa2 hc]at hp;show Spec _ _ _ _ _ (Qk6 left l once done c _);rw [Qa2 hc];unfold Wf headD Cs Wo at hp⊢;refine eN Tryz.func93 rfl (by decide) rfl rfl ?_;(refine sR fun K hK=>?_;(repeat rw [Qa];simp);refine hK _ _ _ ?_;clear hK K);refine Qc fun K1 hK1=>?_
   (refine sR fun K hK=>?_;(repeat rw [Qa];simp [hk]);refine hK _ _ _ ?_;clear hK K);refine pF rfl ?_;refine Qg (hK1 _ _ _ ?_);(refine sR fun K hK=>?_;(repeat rw [Qa];simp));refine cXr (k1) ?_
   (repeat rw [Qa];simp)
   refine cXf [0,1] (hp) ?_;simp [zU]
   (repeat rw [Qa];simp)
   (refine hK _ _ _ ?_;clear hK K);(refine Qe ?_;(try simp only [zs]);refine Qk.ret rfl (.inr ⟨[],by decide,by simp,?_⟩);simp [zM])
   first | done | simp [hEr]
  ·rw [Qa3 hc]at hp;show Spec _ _ _ _ _ (Qk6 left l once done c _);rw [Qa3 hc];unfold Wf headD Cs Wo Qam at hp;unfold Wf headD Cs Wo Qam;refine eN Tryz.func93 rfl (by decide) rfl rfl ?_;(refine sR fun K hK=>?_;(repeat rw [Qa];simp);refine hK _ _ _ ?_;clear hK K);refine Qc fun K1 hK1=>?_
   (refine sR fun K hK=>?_;(repeat rw [Qa];simp [hk]);refine hK _ _ _ ?_;clear hK K);refine pF rfl ?_;refine Qg (hK1 _ _ _ ?_);(refine sR fun K hK=>?_;(repeat rw [Qa];simp));refine cXr (k1) ?_
   (repeat rw [Qa];simp)
   refine cXg [0,1] (hp) ?_;simp [zU];((try simp only [zs]);refine Qk.pan (.inr ⟨[],by decide,by simp,?_⟩);simp [zM])
 ·rw [if_neg hk];rw [hEt,hEx];unfold Qep Wf headD Cs Wo;refine eN Tryz.func93 rfl (by decide) rfl rfl ?_;(refine sR fun K hK=>?_;(repeat rw [Qa];simp);refine hK _ _ _ ?_;clear hK K);refine Qc fun K1 hK1=>?_
  (refine sR fun K hK=>?_;(repeat rw [Qa];simp [hk]);refine hK _ _ _ ?_;clear hK K);refine pT rfl ?_;(refine sR fun K hK=>?_;(repeat rw [Qa];simp);refine hK _ _ _ ?_;clear hK K);(refine Qe ?_;(try simp only [zs]);refine Qk.ret rfl (.inr ⟨[],by decide,by simp,?_⟩);simp [zM])
  first | done | simp [hEt]
theorem Qpk(left:Int)(l:List C)(once done:Bool)(hl:left<=9223372036854775807)(t x:T)(ht:okS t)(hxn:okS x)(h24:t.k=24)(hs:(spot t).isSome=true):Sp 94 [.box 0 0,Qj t,Qj x] (Wf left l once done) (Qep left l once done t (Qbq l t x)):=by
 have hEt:=Qb t;have hEx:=Qb x;unfold Qbq;rw [if_neg (by omega),if_neg (by omega),if_neg (by omega),if_neg (by omega),if_neg (by omega),if_neg (by omega),if_pos ⟨h24,hs⟩];have hta:=ht.1.a;unfold I64 at hta;by_cases hk:x.k=23
 ·by_cases h0:0<=x.n
  ·by_cases h1:x.n<t.a
   ·rw [if_pos ⟨hk,h0,h1⟩];have hw:IntKind.i64.wrap (x.n+1)=x.n+1:=Qbp (by omega) (by omega);have k1:=Zb t (x.n+1) (x.n.toNat+1) (by omega);have hp:=Qef left l once done hl (t.kid (x.n.toNat+1)) (ht.kid _);generalize (t.kid (x.n.toNat+1)).nsz=c at hp⊢;generalize t.kid (x.n.toNat+1)=r at k1 hp⊢;have hEr:=Qb r;rw [hEt,hEr]at k1;rw [hEr]at hp;rw [hEt,hEx];have h0':¬ x.n<0:=by omega
    have h1':¬ t.a<=x.n:=by omega
    by_cases hc:(c:Int)<=left
    ·rw [Qa2 hc]at hp;show Spec _ _ _ _ _ (Qk6 left l once done c _);rw [Qa2 hc];unfold Wf headD Cs Wo at hp⊢;refine eN Tryz.func94 rfl (by decide) rfl rfl ?_;(refine sR fun K hK=>?_;(repeat rw [Qa];simp);refine hK _ _ _ ?_;clear hK K);refine Qc fun K1 hK1=>?_
     (refine sR fun K hK=>?_;(repeat rw [Qa];simp [hk,h0,h0',h1,h1']);refine hK _ _ _ ?_;clear hK K);refine pF rfl ?_;refine Qg (hK1 _ _ _ ?_);(refine sR fun K hK=>?_;(repeat rw [Qa];simp [hw]));refine cXr (k1) ?_
     (repeat rw [Qa];simp)
     refine cXf [0,1] (hp) ?_;simp [zU]
     (repeat rw [Qa];simp)
     (refine hK _ _ _ ?_;clear hK K);(refine Qe ?_;(try simp only [zs]);refine Qk.ret rfl (.inr ⟨[],by decide,by simp,?_⟩);simp [zM])
     first | done | simp [hEr]
    ·rw [Qa3 hc]at hp;show Spec _ _ _ _ _ (Qk6 left l once done c _);rw [Qa3 hc];unfold Wf headD Cs Wo Qam at hp;unfold Wf headD Cs Wo Qam;refine eN Tryz.func94 rfl (by decide) rfl rfl ?_;(refine sR fun K hK=>?_;(repeat rw [Qa];simp);refine hK _ _ _ ?_;clear hK K);refine Qc fun K1 hK1=>?_
     (refine sR fun K hK=>?_;(repeat rw [Qa];simp [hk,h0,h0',h1,h1']);refine hK _ _ _ ?_;clear hK K);refine pF rfl ?_;refine Qg (hK1 _ _ _ ?_);(refine sR fun K hK=>?_;(repeat rw [Qa];simp [hw]));refine cXr (k1) ?_
     (repeat rw [Qa];simp)
     refine cXg [0,1] (hp) ?_;simp [zU];((try simp only [zs]);refine Qk.pan (.inr ⟨[],by decide,by simp,?_⟩);simp [zM])
   ·rw [if_neg (fun h=>h1 h.2.2)];have h0':¬ x.n<0:=by omega
    have h1':t.a<=x.n:=by omega
    rw [hEt,hEx];unfold Qep Wf headD Cs Wo;refine eN Tryz.func94 rfl (by decide) rfl rfl ?_;(refine sR fun K hK=>?_;(repeat rw [Qa];simp);refine hK _ _ _ ?_;clear hK K);refine Qc fun K1 hK1=>?_
    (refine sR fun K hK=>?_;(repeat rw [Qa];simp [hk,h0,h0',h1,h1']);refine hK _ _ _ ?_;clear hK K);refine pT rfl ?_;(refine sR fun K hK=>?_;(repeat rw [Qa];simp);refine hK _ _ _ ?_;clear hK K);(refine Qe ?_;(try simp only [zs]);refine Qk.ret rfl (.inr ⟨[],by decide,by simp,?_⟩);simp [zM])
    first | done | simp [hEt]
  ·rw [if_neg (fun h=>h0 h.2.1)];have h0':x.n<0:=by omega
   rw [hEt,hEx];unfold Qep Wf headD Cs Wo;refine eN Tryz.func94 rfl (by decide) rfl rfl ?_;(refine sR fun K hK=>?_;(repeat rw [Qa];simp);refine hK _ _ _ ?_;clear hK K);refine Qc fun K1 hK1=>?_
   (refine sR fun K hK=>?_;(repeat rw [Qa];simp [hk,h0,h0']);refine hK _ _ _ ?_;clear hK K);refine pT rfl ?_;(refine sR fun K hK=>?_;(repeat rw [Qa];simp);refine hK _ _ _ ?_;clear hK K);(refine Qe ?_;(try simp only [zs]);refine Qk.ret rfl (.inr ⟨[],by decide,by simp,?_⟩);simp [zM])
   first | done | simp [hEt]
 ·rw [if_neg (fun h=>hk h.1)];rw [hEt,hEx];unfold Qep Wf headD Cs Wo;refine eN Tryz.func94 rfl (by decide) rfl rfl ?_;(refine sR fun K hK=>?_;(repeat rw [Qa];simp);refine hK _ _ _ ?_;clear hK K);refine Qc fun K1 hK1=>?_
  (refine sR fun K hK=>?_;(repeat rw [Qa];simp [hk]);refine hK _ _ _ ?_;clear hK K);refine pT rfl ?_;(refine sR fun K hK=>?_;(repeat rw [Qa];simp);refine hK _ _ _ ?_;clear hK K);(refine Qe ?_;(try simp only [zs]);refine Qk.ret rfl (.inr ⟨[],by decide,by simp,?_⟩);simp [zM])
  first | done | simp [hEt]
theorem Qrv(left:Int)(l:List C)(once done:Bool)(hl:left<=9223372036854775807)(hcs:okCs l)(t x:T)(ht:okS t)(h3:t.k=3):Sp 91 [.box 0 0,Qj t,Qj x] (Wf left l once done) (Qep left l once done t (Qbq l t x)):=by
 have hEt:=Qb t;have hEx:=Qb x;unfold Qbq;rw [if_neg (by omega),if_neg (by omega),if_neg (by omega),if_pos h3];have hb:=Qzw l hcs t.n t.ls ht.1.ll (fun b hb=>(ht.1.ls b hb).1);cases hbo:Qlk l t.n t.ls with
 | none =>
  rw [hbo]at hb;simp only [Option.getD_none,Option.isSome_none]at hb;rw [encZ]at hb;rw [hEt,hEx];simp only [Option.map_none];unfold Cs at hb;unfold Qep Wf headD Cs Wo;refine eN Tryz.func91 rfl (by decide) rfl rfl ?_;(refine sR fun K hK=>?_;(repeat rw [Qa];simp);refine hK _ _ _ ?_;clear hK K);(refine Qc fun K hK=>?_;refine dR fun KT hKT=>?_;(repeat rw [Qd];simp));refine cYp (hb) ?_;(try simp only [zq]);(repeat rw [Qd];simp);(refine hKT _ _ _ _ (by kernel_rfl) ?_;clear hKT KT);(refine hK _ _ _ ?_;clear hK K);refine Qc fun K1 hK1=>?_
  (refine sR fun K hK=>?_;(repeat rw [Qa];simp);refine hK _ _ _ ?_;clear hK K);refine pT rfl ?_;(refine sR fun K hK=>?_;(repeat rw [Qa];simp);refine hK _ _ _ ?_;clear hK K);(refine Qe ?_;(try simp only [zs]);refine Qk.ret rfl (.inr ⟨[],by decide,by simp,?_⟩);simp [zM])
  first | done | simp [hEt]
 | some r =>
  rw [hbo]at hb;simp only [Option.getD_some,Option.isSome_some]at hb;have hr:okS r:=⟨Qzx hcs.ok hbo,by have:=Wde hcs.bo hbo;have:=Qfk r;unfold PM;omega⟩;have hp:=Qef left l once done hl r hr;simp only [Option.map_some];generalize r.nsz=c at hp⊢;have hEr:=Qb r;rw [hEr]at hp hb;rw [hEt,hEx];unfold Cs at hb;by_cases hc:(c:Int)<=left
  ·rw [Qa2 hc]at hp;show Spec _ _ _ _ _ (Qk6 left l once done c _);rw [Qa2 hc];unfold Wf headD Cs Wo at hp⊢;refine eN Tryz.func91 rfl (by decide) rfl rfl ?_;(refine sR fun K hK=>?_;(repeat rw [Qa];simp);refine hK _ _ _ ?_;clear hK K);(refine Qc fun K hK=>?_;refine dR fun KT hKT=>?_;(repeat rw [Qd];simp));refine cYp (hb) ?_;(try simp only [zq]);(repeat rw [Qd];simp);(refine hKT _ _ _ _ (by kernel_rfl) ?_;clear hKT KT);(refine hK _ _ _ ?_;clear hK K);refine Qc fun K1 hK1=>?_
   (refine sR fun K hK=>?_;(repeat rw [Qa];simp);refine hK _ _ _ ?_;clear hK K);refine pF rfl ?_;refine Qg (hK1 _ _ _ ?_);(refine sR fun K hK=>?_;(repeat rw [Qa];simp));refine cXf [0,1] (hp) ?_;simp [zU]
   (repeat rw [Qa];simp)
   (refine hK _ _ _ ?_;clear hK K);(refine Qe ?_;(try simp only [zs]);refine Qk.ret rfl (.inr ⟨[],by decide,by simp,?_⟩);simp [zM])
   first | done | simp [hEr]
  ·rw [Qa3 hc]at hp;show Spec _ _ _ _ _ (Qk6 left l once done c _);rw [Qa3 hc];unfold Wf headD Cs Wo Qam at hp;unfold Wf headD Cs Wo Qam;refine eN Tryz.func91 rfl (by decide) rfl rfl ?_;(refine sR fun K hK=>?_;(repeat rw [Qa];simp);refine hK _ _ _ ?_;clear hK K);(refine Qc fun K hK=>?_;refine dR fun KT hKT=>?_;(repeat rw [Qd];simp));refine cYp (hb) ?_;(try simp only [zq]);(repeat rw [Qd];simp);(refine hKT _ _ _ _ (by kernel_rfl) ?_;clear hKT KT);(refine hK _ _ _ ?_;clear hK K);refine Qc fun K1 hK1=>?_
   (refine sR fun K hK=>?_;(repeat rw [Qa];simp);refine hK _ _ _ ?_;clear hK K);refine pF rfl ?_;refine Qg (hK1 _ _ _ ?_);(refine sR fun K hK=>?_;(repeat rw [Qa];simp));refine cXg [0,1] (hp) ?_;simp [zU];((try simp only [zs]);refine Qk.pan (.inr ⟨[],by decide,by simp,?_⟩);simp [zM])
theorem Qfz(t:T)(ht:okS t)(i:Int)(m:Nat)(c:Int)(hi:i=m):Sp 144 ([.int .i64 i, .int .i64 c]++ [.ref (Qj t)]) [] (rt (Qj ((t.kid m).lift 1 c 0))):=by
 have k1:=Zb t i m hi;have k2:=Qbu (t.kid m) 1 c (ht.kid m).deep (ht.kid m).1;generalize (t.kid m).lift 1 c 0=r at k2⊢;generalize t.kid m=a at k1 k2;have hEr:=Qb r;rw [Qb t,Qb a]at k1;rw [Qb a,hEr]at k2;rw [Qb t];refine eN Tryz.func144 rfl (by decide) rfl rfl ?_;simp only [List.cons_append,List.nil_append];(refine sR fun K hK=>?_;(repeat rw [Qa];simp);refine hK _ _ _ ?_;clear hK K);(refine sR fun K hK=>?_;(repeat rw [Qa];simp));refine cXr (k1) ?_
 (repeat rw [Qa];simp)
 refine cXr (k2) ?_
 (repeat rw [Qa];simp)
 (refine hK _ _ _ ?_;clear hK K);(refine Qe ?_;(try simp only [zs]);refine Qk.ret rfl (.inl ?_);simp [zM]);exact hEr.symm
theorem Wc6:List.map Qj ([]:List T)= []:=rfl
theorem Qvs(left:Int)(l:List C)(once done:Bool)(hl:left<=9223372036854775807)(t x:T)(ht:okS t)(hx:okS x)(h18:t.k=18):Sp 92 [.box 0 0,Qj t,Qj x] (Wf left l once done) (Qep left l once done t (Qbq l t x)):=by
 have hEt:=Qb t;have hEx:=Qb x;unfold Qbq;rw [if_neg (by omega),if_neg (by omega),if_neg (by omega),if_neg (by omega),if_pos h18];by_cases hk:x.k=17
 ·rw [if_pos hk];have e8:T.nszs [x.kid 0,x.kid 1,x.kid 1,t.kid 3,t.kid 3,t.kid 0,t.kid 1,t.kid 2]=(x.kid 0).nsz+(x.kid 1).nsz+(x.kid 1).nsz+(t.kid 3).nsz+(t.kid 3).nsz+(t.kid 0).nsz+(t.kid 1).nsz+(t.kid 2).nsz:=by
   simp only [T.nszs];omega
  have hz:=Qur [x.kid 0,x.kid 1,x.kid 1,t.kid 3,t.kid 3,t.kid 0,t.kid 1,t.kid 2] (by unfold Ql;simp) (fun y hy=>by
   simp only [List.mem_cons,List.not_mem_nil,or_false]at hy;rcases hy with rfl | rfl | rfl | rfl | rfl | rfl | rfl | rfl
   ·exact(hx.kid _).1
   ·exact(hx.kid _).1
   ·exact(hx.kid _).1
   ·exact(ht.kid _).1
   ·exact(ht.kid _).1
   ·exact(ht.kid _).1
   ·exact(ht.kid _).1
   ·exact(ht.kid _).1)
  rw [Qms _ 0 0 rfl,Nat.zero_add,e8]at hz;have z1:=(hx.kid 0).nsz;have z2:=(hx.kid 1).nsz;have z3:=(ht.kid 3).nsz;have z4:=(ht.kid 0).nsz;have z5:=(ht.kid 1).nsz;have z6:=(ht.kid 2).nsz;have hsd:=(ht.kid 1).sd (hx.kid 0);have hs:=Qlu (t.kid 1) (x.kid 0) (ht.kid 1).1 (hx.kid 0).1 (by omega);have hcn:Qui t x=7+((x.kid 0).nsz+(x.kid 1).nsz+(x.kid 1).nsz+(t.kid 3).nsz+(t.kid 3).nsz+(t.kid 0).nsz+(t.kid 1).nsz+(t.kid 2).nsz)+(t.kid 1).sd (x.kid 0).nsz 0:=rfl;generalize hm:(x.kid 0).nsz+(x.kid 1).nsz+(x.kid 1).nsz+(t.kid 3).nsz+(t.kid 3).nsz+(t.kid 0).nsz+(t.kid 1).nsz+(t.kid 2).nsz=m at hz hcn;generalize (t.kid 1).sd (x.kid 0).nsz 0=s at hs hcn hsd;rw [Qbp (n:=((m:Nat):Int)) (by omega) (by omega)]at hz;have w1:IntKind.i64.wrap (7+(m:Int))=7+(m:Int):=Qbp (by omega) (by omega);have w2:IntKind.i64.wrap (7+(m:Int)+(s:Int))=((Qui t x:Nat):Int):=by rw [hcn,Qbp (by omega) (by omega)];push_cast;rfl
  have hR:Qqk t x=ofT 6 [ofT 6 [ofT 6 [t.kid 3,x.kid 0],x.kid 1],ofT 5 [(t.kid 1).put [x.kid 0] 0,ofT 18 [(t.kid 0).lift 1 0 0,(t.kid 1).lift 1 1 0,(t.kid 2).lift 1 0 0,(t.kid 3).lift 1 0 0,ofT 6 [(x.kid 1).lift 1 0 0,ofT 1 []]]]]:=rfl;have ka0:=Zb x 0 0 rfl;have ka1:=Zb x 1 1 rfl;have k0:=Zb t 0 0 rfl;have k1:=Zb t 1 1 rfl;have k2:=Zb t 2 2 rfl;have k3:=Zb t 3 3 rfl;have c0:=Qfz t ht 0 0 0 rfl;have c1:=Qfz t ht 1 1 1 rfl;have c2:=Qfz t ht 2 2 0 rfl;have c3:=Qfz t ht 3 3 0 rfl;have cf:=Qbu (x.kid 1) 1 0 (hx.kid 1).deep (hx.kid 1).1;have op:=Qjv (t.kid 1) [x.kid 0] (by unfold Ql;simp) (fun b hb=>by rw [Qgp hb];exact⟨(hx.kid 0).1,(hx.kid 0).deep⟩) (ht.kid 1).deep (ht.kid 1).1;obtain⟨a,ha⟩:∃y,y=x.kid 0:=⟨_,rfl⟩;obtain⟨g,hg⟩:∃y,y=x.kid 1:=⟨_,rfl⟩;obtain⟨t0,ht0⟩:∃y,y=t.kid 0:=⟨_,rfl⟩;obtain⟨t1,ht1⟩:∃y,y=t.kid 1:=⟨_,rfl⟩;obtain⟨t2,ht2⟩:∃y,y=t.kid 2:=⟨_,rfl⟩;obtain⟨t3,ht3⟩:∃y,y=t.kid 3:=⟨_,rfl⟩;obtain⟨l0,hl0⟩:∃y,y=(t.kid 0).lift 1 0 0:=⟨_,rfl⟩;obtain⟨l1,hl1⟩:∃y,y=(t.kid 1).lift 1 1 0:=⟨_,rfl⟩;obtain⟨l2,hl2⟩:∃y,y=(t.kid 2).lift 1 0 0:=⟨_,rfl⟩;obtain⟨l3,hl3⟩:∃y,y=(t.kid 3).lift 1 0 0:=⟨_,rfl⟩;obtain⟨lf,hlf⟩:∃y,y=(x.kid 1).lift 1 0 0:=⟨_,rfl⟩;obtain⟨v,hv⟩:∃y,y=ofT 1 []:=⟨_,rfl⟩;obtain⟨p1,hp1⟩:∃y,y=ofT 6 [lf,v]:=⟨_,rfl⟩;obtain⟨rest,hrest⟩:∃y,y=ofT 18 [l0,l1,l2,l3,p1]:=⟨_,rfl⟩;obtain⟨pu,hpu⟩:∃y,y=(t.kid 1).put [x.kid 0] 0:=⟨_,rfl⟩;obtain⟨lam,hlam⟩:∃y,y=ofT 5 [pu,rest]:=⟨_,rfl⟩;obtain⟨b1,hb1⟩:∃y,y=ofT 6 [t3,a]:=⟨_,rfl⟩;obtain⟨b2,hb2⟩:∃y,y=ofT 6 [b1,g]:=⟨_,rfl⟩;obtain⟨r,hr⟩:∃y,y=ofT 6 [b2,lam]:=⟨_,rfl⟩;have ov:=Qe1 1 [];have o1:=Qe1 6 [lf,v];have o2:=Qe1 18 [l0,l1,l2,l3,p1];have o3:=Qe1 5 [pu,rest];have o4:=Qe1 6 [t3,a];have o5:=Qe1 6 [b1,g];have o6:=Qe1 6 [b2,lam];rw [<- ha]at ka0;rw [<- hg]at ka1;rw [<- ht0]at k0;rw [<- ht1]at k1;rw [<- ht2]at k2;rw [<- ht3]at k3;rw [<- hl0]at c0;rw [<- hl1]at c1;rw [<- hl2]at c2;rw [<- hl3]at c3;rw [<- hlf,<- hg]at cf;rw [<- hv]at ov;rw [<- hp1]at o1;rw [<- hrest]at o2;rw [<- hpu,<- ht1,<- ha]at op;rw [<- hlam]at o3;rw [<- hb1]at o4;rw [<- hb2]at o5;rw [<- hr]at o6;rw [<- ha,<- hg,<- ht0,<- ht1,<- ht2,<- ht3]at hz;rw [<- ht1,<- ha]at hs;have hRr:Qqk t x=r:=by rw [hR,<- hv,<- hlf,<- hp1,<- hl0,<- hl1,<- hl2,<- hl3,<- hrest,<- hpu,<- hlam,<- ht3,<- ha,<- hb1,<- hg,<- hb2,<- hr]
  rw [hRr];generalize Qui t x=c at w2⊢;unfold Ts at op;have Ea:=Qb a;have Eg:=Qb g;have Et0:=Qb t0;have Et1:=Qb t1;have Et2:=Qb t2;have Et3:=Qb t3;have El0:=Qb l0;have El1:=Qb l1;have El2:=Qb l2;have El3:=Qb l3;have Elf:=Qb lf;have Ev:=Qb v;have Ep1:=Qb p1;have Erest:=Qb rest;have Epu:=Qb pu;have Elam:=Qb lam;have Eb1:=Qb b1;have Eb2:=Qb b2;have Er:=Qb r;simp only [List.map_cons,Wc6]at ov o1 o2 op o3 o4 o5 o6 hz;simp only [Ea,Eg,Et0,Et1,Et2,Et3,El0,El1,El2,El3,Elf,Ev,Ep1,Erest,Epu,Elam,Eb1,Eb2,Er]at ka0 ka1 k0 k1 k2 k3 c0 c1 c2 c3 cf ov o1 o2 op o3 o4 o5 o6 hz hs;rw [hEt]at k0 k1 k2 k3 c0 c1 c2 c3;rw [hEx,hk]at ka0 ka1;rw [hEt,hEx];simp only [List.cons_append,List.nil_append]at c0 c1 c2 c3;by_cases hc:(c:Int)<=left
  ·have hp:=Qr8 left l once done c (by omega) hc hl;show Spec _ _ _ _ _ (Qk6 left l once done c _);rw [Qa2 hc];unfold Wf headD Cs Wo at hp⊢;refine eN Tryz.func92 rfl (by decide) rfl rfl ?_;(refine sR fun K hK=>?_;(repeat rw [Qa];simp);refine hK _ _ _ ?_;clear hK K);(refine Xe (T:=Qq) 2 (ty:=27) (ds:= [.int .i64 t.k, .int .i64 t.n, .int .i64 t.a, .slice (t.ls.map Qn) .any, .slice (t.ks.map Qj) .any]) rfl rfl (by first | exact⟨rfl, .inr ⟨_,rfl,rfl⟩⟩ | exact⟨rfl, .inl rfl⟩) ?_;simp [D.frzs,D.frz,HO.frz,Qaj,Qao,TK.isAgg,FK.isB,FK.isM,FK.isO,D.isLen]);refine Qc fun K1 hK1=>?_
   (refine sR fun K hK=>?_;(repeat rw [Qa];simp [hk]);refine hK _ _ _ ?_;clear hK K);refine pF rfl ?_;refine Qg (hK1 _ _ _ ?_);(refine Qc fun K hK=>?_;refine dR fun KT hKT=>?_;(repeat rw [Qd];simp));refine cYp (ka0) ?_;(try simp only [zq]);(repeat rw [Qd];simp);refine cYp (ka1) ?_;(try simp only [zq]);(repeat rw [Qd];simp);refine cYp (k3) ?_;(try simp only [zq]);(repeat rw [Qd];simp);(refine hKT _ _ _ _ (by kernel_rfl) ?_;clear hKT KT);(refine hK _ _ _ ?_;clear hK K);(refine Qc fun K hK=>?_;refine dR fun KT hKT=>?_;(repeat rw [Qd];simp));refine cYp (k0) ?_;(try simp only [zq]);(repeat rw [Qd];simp [w1,w2]);refine cYp (k1) ?_;(try simp only [zq]);(repeat rw [Qd];simp [w1,w2]);refine cYp (k2) ?_;(try simp only [zq]);(repeat rw [Qd];simp [w1,w2]);refine cYp (hz) ?_;(try simp only [zq]);(repeat rw [Qd];simp [w1,w2]);refine cYp (k1) ?_;(try simp only [zq]);(repeat rw [Qd];simp [w1,w2]);refine cYp (hs) ?_;(try simp only [zq]);(repeat rw [Qd];simp [w1,w2]);refine cYo [0,1] true false (hp) (fun o h e=>e) ?_;simp [zU];(try simp only [zq]);(repeat rw [Qd];simp);(refine hKT _ _ _ _ (by kernel_rfl) ?_;clear hKT KT);(refine hK _ _ _ ?_;clear hK K);(refine sR fun K hK=>?_;(repeat rw [Qa];simp);refine hK _ _ _ ?_;clear hK K);(refine Qc fun K hK=>?_;refine dR fun KT hKT=>?_;(repeat rw [Qd];simp));refine cYp (c0) ?_;(try simp only [zq]);(repeat rw [Qd];simp);refine cYp (c1) ?_;(try simp only [zq]);(repeat rw [Qd];simp);refine cYp (c2) ?_;(try simp only [zq]);(repeat rw [Qd];simp);refine cYp (c3) ?_;(try simp only [zq]);(repeat rw [Qd];simp);refine cYp (cf) ?_;(try simp only [zq]);(repeat rw [Qd];simp);refine cYp (ov) ?_;(try simp only [zq]);(repeat rw [Qd];simp);refine cYp (o1) ?_;(try simp only [zq]);(repeat rw [Qd];simp);refine cYp (o2) ?_;(try simp only [zq]);(repeat rw [Qd];simp);(refine hKT _ _ _ _ (by kernel_rfl) ?_;clear hKT KT);(refine hK _ _ _ ?_;clear hK K);(refine Qc fun K hK=>?_;refine dR fun KT hKT=>?_;(repeat rw [Qd];simp));refine cYp (k1) ?_;(try simp only [zq]);(repeat rw [Qd];simp);refine cYp (op) ?_;(try simp only [zq]);(repeat rw [Qd];simp);refine cYp (o3) ?_;(try simp only [zq]);(repeat rw [Qd];simp);(refine hKT _ _ _ _ (by kernel_rfl) ?_;clear hKT KT);(refine hK _ _ _ ?_;clear hK K);(refine Qc fun K hK=>?_;refine dR fun KT hKT=>?_;(repeat rw [Qd];simp));refine cYp (o4) ?_;(try simp only [zq]);(repeat rw [Qd];simp);refine cYp (o5) ?_;(try simp only [zq]);(repeat rw [Qd];simp);refine cYp (o6) ?_;(try simp only [zq]);(repeat rw [Qd];simp);(refine hKT _ _ _ _ (by kernel_rfl) ?_;clear hKT KT);(refine hK _ _ _ ?_;clear hK K);(refine Qe ?_;(try simp only [zs]);refine Qk.ret rfl (.inr ⟨[],by decide,by simp,?_⟩);simp [zM]);exact Er.symm
  ·have hp:=Qkx left l once done c (by omega);show Spec _ _ _ _ _ (Qk6 left l once done c _);rw [Qa3 hc];unfold Wf headD Cs Wo Qam at hp;unfold Wf headD Cs Wo Qam;refine eN Tryz.func92 rfl (by decide) rfl rfl ?_;(refine sR fun K hK=>?_;(repeat rw [Qa];simp);refine hK _ _ _ ?_;clear hK K);(refine Xe (T:=Qq) 2 (ty:=27) (ds:= [.int .i64 t.k, .int .i64 t.n, .int .i64 t.a, .slice (t.ls.map Qn) .any, .slice (t.ks.map Qj) .any]) rfl rfl (by first | exact⟨rfl, .inr ⟨_,rfl,rfl⟩⟩ | exact⟨rfl, .inl rfl⟩) ?_;simp [D.frzs,D.frz,HO.frz,Qaj,Qao,TK.isAgg,FK.isB,FK.isM,FK.isO,D.isLen]);refine Qc fun K1 hK1=>?_
   (refine sR fun K hK=>?_;(repeat rw [Qa];simp [hk]);refine hK _ _ _ ?_;clear hK K);refine pF rfl ?_;refine Qg (hK1 _ _ _ ?_);(refine Qc fun K hK=>?_;refine dR fun KT hKT=>?_;(repeat rw [Qd];simp));refine cYp (ka0) ?_;(try simp only [zq]);(repeat rw [Qd];simp);refine cYp (ka1) ?_;(try simp only [zq]);(repeat rw [Qd];simp);refine cYp (k3) ?_;(try simp only [zq]);(repeat rw [Qd];simp);(refine hKT _ _ _ _ (by kernel_rfl) ?_;clear hKT KT);(refine hK _ _ _ ?_;clear hK K);(refine Qc fun K hK=>?_;refine dR fun KT hKT=>?_;(repeat rw [Qd];simp));refine cYp (k0) ?_;(try simp only [zq]);(repeat rw [Qd];simp [w1,w2]);refine cYp (k1) ?_;(try simp only [zq]);(repeat rw [Qd];simp [w1,w2]);refine cYp (k2) ?_;(try simp only [zq]);(repeat rw [Qd];simp [w1,w2]);refine cYp (hz) ?_;(try simp only [zq]);(repeat rw [Qd];simp [w1,w2]);refine cYp (k1) ?_;(try simp only [zq]);(repeat rw [Qd];simp [w1,w2]);refine cYp (hs) ?_;(try simp only [zq]);(repeat rw [Qd];simp [w1,w2]);refine cYo [0,1] true false (hp) (fun o h e=>e) ?_;simp [zU];((try simp only [Qt,Qu,Qr,Qw,Wi]);(repeat(refine Wr _ _ _ _ (by kernel_rfl) ?_;simp only [Qr,List.set,List.nil_append,List.cons_append,Nat.reduceAdd]));(try simp only [Qm]));(refine hKT _ _ _ _ (by kernel_rfl) ?_;clear hKT KT);simp [Xi];((try simp only [zs]);refine Qk.pan (.inr ⟨[],by decide,by simp,?_⟩);simp [zM])
 ·rw [if_neg hk];rw [hEt,hEx];unfold Qep Wf headD Cs Wo;refine eN Tryz.func92 rfl (by decide) rfl rfl ?_;(refine sR fun K hK=>?_;(repeat rw [Qa];simp);refine hK _ _ _ ?_;clear hK K);refine Qc fun K1 hK1=>?_
  (refine sR fun K hK=>?_;(repeat rw [Qa];simp [hk]);refine hK _ _ _ ?_;clear hK K);refine pT rfl ?_;(refine sR fun K hK=>?_;(repeat rw [Qa];simp);refine hK _ _ _ ?_;clear hK K);(refine Qe ?_;(try simp only [zs]);refine Qk.ret rfl (.inr ⟨[],by decide,by simp,?_⟩);simp [zM])
  first | done | simp [hEt]
theorem Qb3(left:Int)(l:List C)(once done:Bool)(t:T)(w:Option (T×Nat)):(∃v b lf,Qep left l once done t w=fun o hc=>o.fgt= .ret (.tuple [Qj v, .bool b])/\hc=Wf lf l once done)\/Qep left l once done t w=fun o hc=>o= .pan Qam/\hc= [.dead, .dead]:=by
 cases w with
 | none=>exact .inl ⟨t,false,left,rfl⟩
 | some p =>
  by_cases h:(p.2:Int)<=left
  ·exact .inl ⟨p.1,true,left - p.2,Qa2 h⟩
  ·exact .inr (Qa3 h)
theorem Qbz{t:T}{i many:Nat}(h:spot t=some (i,many)):Wx t=t.kid i:=by unfold Wx;rw [h]
theorem Qgn{t:T}(h:spot t=none):Wx t=Xa:=by unfold Wx;rw [h]
theorem step_6(left:Int)(l:List C)(once done:Bool)(hl:left<=9223372036854775807)(t:T)(ht:okS t)(hk:t.k=6){i many:Nat}(hs:spot t=some (i,many))(hp:Sp 88 [.box 0 0,Qj t,Qj (Wx t)] (Wf left l once done) (Qep left l once done t (Qbq l t (Wx t)))):Sp 98 [.box 0 0,Qj t] (Wf left l once done) (Qep left l once done t (Qbq l t (Wx t))):=by
 have hsp:=Qa4 t ht.1.kl;rw [Qci hs ht.1.kl]at hsp;have hki:=Zb t i i rfl;rw [<- Qbz hs]at hki;rcases Qb3 left l once done t (Qbq l t (Wx t))with ⟨v,b,lf,e⟩ | e
 ·rw [e]at hp⊢;generalize Wx t=x at hp hki;have hEx:=Qb x;rw [hEx,Qb t,Qb v,hk]at hp;rw [Qb t]at hsp;rw [hEx,Qb t,hk]at hki;rw [Qb t];unfold Wf headD Cs Wo at hp⊢;refine eN Tryz.func98 rfl (by decide) rfl rfl ?_;(refine sR fun K hK=>?_;(repeat rw [Qa];simp);refine hK _ _ _ ?_;clear hK K);(refine sR fun K hK=>?_;(repeat rw [Qa];simp));refine cXr (hsp) ?_
  (repeat rw [Qa];simp)
  (refine hK _ _ _ ?_;clear hK K);(refine Qc fun K hK=>?_;refine dR fun KT hKT=>?_;(repeat rw [Qd];simp [hk]));(refine hKT _ _ _ _ (by kernel_rfl) ?_;clear hKT KT);(refine hK _ _ _ ?_;clear hK K);refine Qc fun K1 hK1=>?_
  (refine sR fun K hK=>?_;(repeat rw [Qa];simp [hk]);refine hK _ _ _ ?_;clear hK K);refine pF rfl ?_;refine Qg (hK1 _ _ _ ?_);(refine sR fun K hK=>?_;(repeat rw [Qa];simp);refine hK _ _ _ ?_;clear hK K);refine Qc fun K2 hK2=>?_
  (refine sR fun K hK=>?_;(repeat rw [Qa];simp);refine hK _ _ _ ?_;clear hK K);refine pT rfl ?_;(refine Qi Wa ?_;(repeat rw [Qa];simp));refine cXr (hki) ?_
  (repeat rw [Qa];simp)
  refine hK2 _ _ _ ?_;(refine sR fun K hK=>?_;(repeat rw [Qa];simp));refine cXf [0,1] (hp) ?_;simp [zU]
  (repeat rw [Qa];simp)
  (refine hK _ _ _ ?_;clear hK K);(refine Qe ?_;(try simp only [zs]);refine Qk.ret rfl (.inr ⟨[],by decide,by simp,?_⟩);simp [zM])
  first | done | simp [Qb v]
 ·rw [e]at hp⊢;generalize Wx t=x at hp hki;have hEx:=Qb x;rw [hEx,Qb t,hk]at hp;rw [Qb t]at hsp;rw [hEx,Qb t,hk]at hki;rw [Qb t];unfold Wf headD Cs Wo Qam at hp;unfold Wf headD Cs Wo Qam;refine eN Tryz.func98 rfl (by decide) rfl rfl ?_;(refine sR fun K hK=>?_;(repeat rw [Qa];simp);refine hK _ _ _ ?_;clear hK K);(refine sR fun K hK=>?_;(repeat rw [Qa];simp));refine cXr (hsp) ?_
  (repeat rw [Qa];simp)
  (refine hK _ _ _ ?_;clear hK K);(refine Qc fun K hK=>?_;refine dR fun KT hKT=>?_;(repeat rw [Qd];simp [hk]));(refine hKT _ _ _ _ (by kernel_rfl) ?_;clear hKT KT);(refine hK _ _ _ ?_;clear hK K);refine Qc fun K1 hK1=>?_
  (refine sR fun K hK=>?_;(repeat rw [Qa];simp [hk]);refine hK _ _ _ ?_;clear hK K);refine pF rfl ?_;refine Qg (hK1 _ _ _ ?_);(refine sR fun K hK=>?_;(repeat rw [Qa];simp);refine hK _ _ _ ?_;clear hK K);refine Qc fun K2 hK2=>?_
  (refine sR fun K hK=>?_;(repeat rw [Qa];simp);refine hK _ _ _ ?_;clear hK K);refine pT rfl ?_;(refine Qi Wa ?_;(repeat rw [Qa];simp));refine cXr (hki) ?_
  (repeat rw [Qa];simp)
  refine hK2 _ _ _ ?_;(refine sR fun K hK=>?_;(repeat rw [Qa];simp));refine cXg [0,1] (hp) ?_;simp [zU];((try simp only [zs]);refine Qk.pan (.inr ⟨[],by decide,by simp,?_⟩);simp [zM])
theorem step_14(left:Int)(l:List C)(once done:Bool)(hl:left<=9223372036854775807)(t:T)(ht:okS t)(hk:t.k=14){i many:Nat}(hs:spot t=some (i,many))(hp:Sp 89 [.box 0 0,Qj t,Qj (Wx t)] (Wf left l once done) (Qep left l once done t (Qbq l t (Wx t)))):Sp 98 [.box 0 0,Qj t] (Wf left l once done) (Qep left l once done t (Qbq l t (Wx t))):=by
 have hsp:=Qa4 t ht.1.kl;rw [Qci hs ht.1.kl]at hsp;have hki:=Zb t i i rfl;rw [<- Qbz hs]at hki;rcases Qb3 left l once done t (Qbq l t (Wx t))with ⟨v,b,lf,e⟩ | e
 ·rw [e]at hp⊢;generalize Wx t=x at hp hki;have hEx:=Qb x;rw [hEx,Qb t,Qb v,hk]at hp;rw [Qb t]at hsp;rw [hEx,Qb t,hk]at hki;rw [Qb t];unfold Wf headD Cs Wo at hp⊢;refine eN Tryz.func98 rfl (by decide) rfl rfl ?_;(refine sR fun K hK=>?_;(repeat rw [Qa];simp);refine hK _ _ _ ?_;clear hK K);(refine sR fun K hK=>?_;(repeat rw [Qa];simp));refine cXr (hsp) ?_
  (repeat rw [Qa];simp)
  (refine hK _ _ _ ?_;clear hK K);(refine Qc fun K hK=>?_;refine dR fun KT hKT=>?_;(repeat rw [Qd];simp [hk]));(refine hKT _ _ _ _ (by kernel_rfl) ?_;clear hKT KT);(refine hK _ _ _ ?_;clear hK K);refine Qc fun K1 hK1=>?_
  (refine sR fun K hK=>?_;(repeat rw [Qa];simp [hk]);refine hK _ _ _ ?_;clear hK K);refine pF rfl ?_;refine Qg (hK1 _ _ _ ?_);(refine sR fun K hK=>?_;(repeat rw [Qa];simp);refine hK _ _ _ ?_;clear hK K);refine Qc fun K2 hK2=>?_
  (refine sR fun K hK=>?_;(repeat rw [Qa];simp);refine hK _ _ _ ?_;clear hK K);refine pT rfl ?_;(refine Qi Wa ?_;(repeat rw [Qa];simp));refine cXr (hki) ?_
  (repeat rw [Qa];simp)
  refine hK2 _ _ _ ?_;(refine sR fun K hK=>?_;(repeat rw [Qa];simp));refine cXf [0,1] (hp) ?_;simp [zU]
  (repeat rw [Qa];simp)
  (refine hK _ _ _ ?_;clear hK K);(refine Qe ?_;(try simp only [zs]);refine Qk.ret rfl (.inr ⟨[],by decide,by simp,?_⟩);simp [zM])
  first | done | simp [Qb v]
 ·rw [e]at hp⊢;generalize Wx t=x at hp hki;have hEx:=Qb x;rw [hEx,Qb t,hk]at hp;rw [Qb t]at hsp;rw [hEx,Qb t,hk]at hki;rw [Qb t];unfold Wf headD Cs Wo Qam at hp;unfold Wf headD Cs Wo Qam;refine eN Tryz.func98 rfl (by decide) rfl rfl ?_;(refine sR fun K hK=>?_;(repeat rw [Qa];simp);refine hK _ _ _ ?_;clear hK K);(refine sR fun K hK=>?_;(repeat rw [Qa];simp));refine cXr (hsp) ?_
  (repeat rw [Qa];simp)
  (refine hK _ _ _ ?_;clear hK K);(refine Qc fun K hK=>?_;refine dR fun KT hKT=>?_;(repeat rw [Qd];simp [hk]));(refine hKT _ _ _ _ (by kernel_rfl) ?_;clear hKT KT);(refine hK _ _ _ ?_;clear hK K);refine Qc fun K1 hK1=>?_
  (refine sR fun K hK=>?_;(repeat rw [Qa];simp [hk]);refine hK _ _ _ ?_;clear hK K);refine pF rfl ?_;refine Qg (hK1 _ _ _ ?_);(refine sR fun K hK=>?_;(repeat rw [Qa];simp);refine hK _ _ _ ?_;clear hK K);refine Qc fun K2 hK2=>?_
  (refine sR fun K hK=>?_;(repeat rw [Qa];simp);refine hK _ _ _ ?_;clear hK K);refine pT rfl ?_;(refine Qi Wa ?_;(repeat rw [Qa];simp));refine cXr (hki) ?_
  (repeat rw [Qa];simp)
  refine hK2 _ _ _ ?_;(refine sR fun K hK=>?_;(repeat rw [Qa];simp));refine cXg [0,1] (hp) ?_;simp [zU];((try simp only [zs]);refine Qk.pan (.inr ⟨[],by decide,by simp,?_⟩);simp [zM])
theorem step_15(left:Int)(l:List C)(once done:Bool)(hl:left<=9223372036854775807)(t:T)(ht:okS t)(hk:t.k=15){i many:Nat}(hs:spot t=some (i,many))(hp:Sp 89 [.box 0 0,Qj t,Qj (Wx t)] (Wf left l once done) (Qep left l once done t (Qbq l t (Wx t)))):Sp 98 [.box 0 0,Qj t] (Wf left l once done) (Qep left l once done t (Qbq l t (Wx t))):=by
 have hsp:=Qa4 t ht.1.kl;rw [Qci hs ht.1.kl]at hsp;have hki:=Zb t i i rfl;rw [<- Qbz hs]at hki;rcases Qb3 left l once done t (Qbq l t (Wx t))with ⟨v,b,lf,e⟩ | e
 ·rw [e]at hp⊢;generalize Wx t=x at hp hki;have hEx:=Qb x;rw [hEx,Qb t,Qb v,hk]at hp;rw [Qb t]at hsp;rw [hEx,Qb t,hk]at hki;rw [Qb t];unfold Wf headD Cs Wo at hp⊢;refine eN Tryz.func98 rfl (by decide) rfl rfl ?_;(refine sR fun K hK=>?_;(repeat rw [Qa];simp);refine hK _ _ _ ?_;clear hK K);(refine sR fun K hK=>?_;(repeat rw [Qa];simp));refine cXr (hsp) ?_
  (repeat rw [Qa];simp)
  (refine hK _ _ _ ?_;clear hK K);(refine Qc fun K hK=>?_;refine dR fun KT hKT=>?_;(repeat rw [Qd];simp [hk]));(refine hKT _ _ _ _ (by kernel_rfl) ?_;clear hKT KT);(refine hK _ _ _ ?_;clear hK K);refine Qc fun K1 hK1=>?_
  (refine sR fun K hK=>?_;(repeat rw [Qa];simp [hk]);refine hK _ _ _ ?_;clear hK K);refine pF rfl ?_;refine Qg (hK1 _ _ _ ?_);(refine sR fun K hK=>?_;(repeat rw [Qa];simp);refine hK _ _ _ ?_;clear hK K);refine Qc fun K2 hK2=>?_
  (refine sR fun K hK=>?_;(repeat rw [Qa];simp);refine hK _ _ _ ?_;clear hK K);refine pT rfl ?_;(refine Qi Wa ?_;(repeat rw [Qa];simp));refine cXr (hki) ?_
  (repeat rw [Qa];simp)
  refine hK2 _ _ _ ?_;(refine sR fun K hK=>?_;(repeat rw [Qa];simp));refine cXf [0,1] (hp) ?_;simp [zU]
  (repeat rw [Qa];simp)
  (refine hK _ _ _ ?_;clear hK K);(refine Qe ?_;(try simp only [zs]);refine Qk.ret rfl (.inr ⟨[],by decide,by simp,?_⟩);simp [zM])
  first | done | simp [Qb v]
 ·rw [e]at hp⊢;generalize Wx t=x at hp hki;have hEx:=Qb x;rw [hEx,Qb t,hk]at hp;rw [Qb t]at hsp;rw [hEx,Qb t,hk]at hki;rw [Qb t];unfold Wf headD Cs Wo Qam at hp;unfold Wf headD Cs Wo Qam;refine eN Tryz.func98 rfl (by decide) rfl rfl ?_;(refine sR fun K hK=>?_;(repeat rw [Qa];simp);refine hK _ _ _ ?_;clear hK K);(refine sR fun K hK=>?_;(repeat rw [Qa];simp));refine cXr (hsp) ?_
  (repeat rw [Qa];simp)
  (refine hK _ _ _ ?_;clear hK K);(refine Qc fun K hK=>?_;refine dR fun KT hKT=>?_;(repeat rw [Qd];simp [hk]));(refine hKT _ _ _ _ (by kernel_rfl) ?_;clear hKT KT);(refine hK _ _ _ ?_;clear hK K);refine Qc fun K1 hK1=>?_
  (refine sR fun K hK=>?_;(repeat rw [Qa];simp [hk]);refine hK _ _ _ ?_;clear hK K);refine pF rfl ?_;refine Qg (hK1 _ _ _ ?_);(refine sR fun K hK=>?_;(repeat rw [Qa];simp);refine hK _ _ _ ?_;clear hK K);refine Qc fun K2 hK2=>?_
  (refine sR fun K hK=>?_;(repeat rw [Qa];simp);refine hK _ _ _ ?_;clear hK K);refine pT rfl ?_;(refine Qi Wa ?_;(repeat rw [Qa];simp));refine cXr (hki) ?_
  (repeat rw [Qa];simp)
  refine hK2 _ _ _ ?_;(refine sR fun K hK=>?_;(repeat rw [Qa];simp));refine cXg [0,1] (hp) ?_;simp [zU];((try simp only [zs]);refine Qk.pan (.inr ⟨[],by decide,by simp,?_⟩);simp [zM])
theorem step_18(left:Int)(l:List C)(once done:Bool)(hl:left<=9223372036854775807)(t:T)(ht:okS t)(hk:t.k=18){i many:Nat}(hs:spot t=some (i,many))(hp:Sp 92 [.box 0 0,Qj t,Qj (Wx t)] (Wf left l once done) (Qep left l once done t (Qbq l t (Wx t)))):Sp 98 [.box 0 0,Qj t] (Wf left l once done) (Qep left l once done t (Qbq l t (Wx t))):=by
 have hsp:=Qa4 t ht.1.kl;rw [Qci hs ht.1.kl]at hsp;have hki:=Zb t i i rfl;rw [<- Qbz hs]at hki;rcases Qb3 left l once done t (Qbq l t (Wx t))with ⟨v,b,lf,e⟩ | e
 ·rw [e]at hp⊢;generalize Wx t=x at hp hki;have hEx:=Qb x;rw [hEx,Qb t,Qb v,hk]at hp;rw [Qb t]at hsp;rw [hEx,Qb t,hk]at hki;rw [Qb t];unfold Wf headD Cs Wo at hp⊢;refine eN Tryz.func98 rfl (by decide) rfl rfl ?_;(refine sR fun K hK=>?_;(repeat rw [Qa];simp);refine hK _ _ _ ?_;clear hK K);(refine sR fun K hK=>?_;(repeat rw [Qa];simp));refine cXr (hsp) ?_
  (repeat rw [Qa];simp)
  (refine hK _ _ _ ?_;clear hK K);(refine Qc fun K hK=>?_;refine dR fun KT hKT=>?_;(repeat rw [Qd];simp [hk]));(refine hKT _ _ _ _ (by kernel_rfl) ?_;clear hKT KT);(refine hK _ _ _ ?_;clear hK K);refine Qc fun K1 hK1=>?_
  (refine sR fun K hK=>?_;(repeat rw [Qa];simp [hk]);refine hK _ _ _ ?_;clear hK K);refine pF rfl ?_;refine Qg (hK1 _ _ _ ?_);(refine sR fun K hK=>?_;(repeat rw [Qa];simp);refine hK _ _ _ ?_;clear hK K);refine Qc fun K2 hK2=>?_
  (refine sR fun K hK=>?_;(repeat rw [Qa];simp);refine hK _ _ _ ?_;clear hK K);refine pT rfl ?_;(refine Qi Wa ?_;(repeat rw [Qa];simp));refine cXr (hki) ?_
  (repeat rw [Qa];simp)
  refine hK2 _ _ _ ?_;(refine sR fun K hK=>?_;(repeat rw [Qa];simp));refine cXf [0,1] (hp) ?_;simp [zU]
  (repeat rw [Qa];simp)
  (refine hK _ _ _ ?_;clear hK K);(refine Qe ?_;(try simp only [zs]);refine Qk.ret rfl (.inr ⟨[],by decide,by simp,?_⟩);simp [zM])
  first | done | simp [Qb v]
 ·rw [e]at hp⊢;generalize Wx t=x at hp hki;have hEx:=Qb x;rw [hEx,Qb t,hk]at hp;rw [Qb t]at hsp;rw [hEx,Qb t,hk]at hki;rw [Qb t];unfold Wf headD Cs Wo Qam at hp;unfold Wf headD Cs Wo Qam;refine eN Tryz.func98 rfl (by decide) rfl rfl ?_;(refine sR fun K hK=>?_;(repeat rw [Qa];simp);refine hK _ _ _ ?_;clear hK K);(refine sR fun K hK=>?_;(repeat rw [Qa];simp));refine cXr (hsp) ?_
  (repeat rw [Qa];simp)
  (refine hK _ _ _ ?_;clear hK K);(refine Qc fun K hK=>?_;refine dR fun KT hKT=>?_;(repeat rw [Qd];simp [hk]));(refine hKT _ _ _ _ (by kernel_rfl) ?_;clear hKT KT);(refine hK _ _ _ ?_;clear hK K);refine Qc fun K1 hK1=>?_
  (refine sR fun K hK=>?_;(repeat rw [Qa];simp [hk]);refine hK _ _ _ ?_;clear hK K);refine pF rfl ?_;refine Qg (hK1 _ _ _ ?_);(refine sR fun K hK=>?_;(repeat rw [Qa];simp);refine hK _ _ _ ?_;clear hK K);refine Qc fun K2 hK2=>?_
  (refine sR fun K hK=>?_;(repeat rw [Qa];simp);refine hK _ _ _ ?_;clear hK K);refine pT rfl ?_;(refine Qi Wa ?_;(repeat rw [Qa];simp));refine cXr (hki) ?_
  (repeat rw [Qa];simp)
  refine hK2 _ _ _ ?_;(refine sR fun K hK=>?_;(repeat rw [Qa];simp));refine cXg [0,1] (hp) ?_;simp [zU];((try simp only [zs]);refine Qk.pan (.inr ⟨[],by decide,by simp,?_⟩);simp [zM])
theorem step_21(left:Int)(l:List C)(once done:Bool)(hl:left<=9223372036854775807)(t:T)(ht:okS t)(hk:t.k=21){i many:Nat}(hs:spot t=some (i,many))(hp:Sp 93 [.box 0 0,Qj t,Qj (Wx t)] (Wf left l once done) (Qep left l once done t (Qbq l t (Wx t)))):Sp 98 [.box 0 0,Qj t] (Wf left l once done) (Qep left l once done t (Qbq l t (Wx t))):=by
 have hsp:=Qa4 t ht.1.kl;rw [Qci hs ht.1.kl]at hsp;have hki:=Zb t i i rfl;rw [<- Qbz hs]at hki;rcases Qb3 left l once done t (Qbq l t (Wx t))with ⟨v,b,lf,e⟩ | e
 ·rw [e]at hp⊢;generalize Wx t=x at hp hki;have hEx:=Qb x;rw [hEx,Qb t,Qb v,hk]at hp;rw [Qb t]at hsp;rw [hEx,Qb t,hk]at hki;rw [Qb t];unfold Wf headD Cs Wo at hp⊢;refine eN Tryz.func98 rfl (by decide) rfl rfl ?_;(refine sR fun K hK=>?_;(repeat rw [Qa];simp);refine hK _ _ _ ?_;clear hK K);(refine sR fun K hK=>?_;(repeat rw [Qa];simp));refine cXr (hsp) ?_
  (repeat rw [Qa];simp)
  (refine hK _ _ _ ?_;clear hK K);(refine Qc fun K hK=>?_;refine dR fun KT hKT=>?_;(repeat rw [Qd];simp [hk]));(refine hKT _ _ _ _ (by kernel_rfl) ?_;clear hKT KT);(refine hK _ _ _ ?_;clear hK K);refine Qc fun K1 hK1=>?_
  (refine sR fun K hK=>?_;(repeat rw [Qa];simp [hk]);refine hK _ _ _ ?_;clear hK K);refine pF rfl ?_;refine Qg (hK1 _ _ _ ?_);(refine sR fun K hK=>?_;(repeat rw [Qa];simp);refine hK _ _ _ ?_;clear hK K);refine Qc fun K2 hK2=>?_
  (refine sR fun K hK=>?_;(repeat rw [Qa];simp);refine hK _ _ _ ?_;clear hK K);refine pT rfl ?_;(refine Qi Wa ?_;(repeat rw [Qa];simp));refine cXr (hki) ?_
  (repeat rw [Qa];simp)
  refine hK2 _ _ _ ?_;(refine sR fun K hK=>?_;(repeat rw [Qa];simp));refine cXf [0,1] (hp) ?_;simp [zU]
  (repeat rw [Qa];simp)
  (refine hK _ _ _ ?_;clear hK K);(refine Qe ?_;(try simp only [zs]);refine Qk.ret rfl (.inr ⟨[],by decide,by simp,?_⟩);simp [zM])
  first | done | simp [Qb v]
 ·rw [e]at hp⊢;generalize Wx t=x at hp hki;have hEx:=Qb x;rw [hEx,Qb t,hk]at hp;rw [Qb t]at hsp;rw [hEx,Qb t,hk]at hki;rw [Qb t];unfold Wf headD Cs Wo Qam at hp;unfold Wf headD Cs Wo Qam;refine eN Tryz.func98 rfl (by decide) rfl rfl ?_;(refine sR fun K hK=>?_;(repeat rw [Qa];simp);refine hK _ _ _ ?_;clear hK K);(refine sR fun K hK=>?_;(repeat rw [Qa];simp));refine cXr (hsp) ?_
  (repeat rw [Qa];simp)
  (refine hK _ _ _ ?_;clear hK K);(refine Qc fun K hK=>?_;refine dR fun KT hKT=>?_;(repeat rw [Qd];simp [hk]));(refine hKT _ _ _ _ (by kernel_rfl) ?_;clear hKT KT);(refine hK _ _ _ ?_;clear hK K);refine Qc fun K1 hK1=>?_
  (refine sR fun K hK=>?_;(repeat rw [Qa];simp [hk]);refine hK _ _ _ ?_;clear hK K);refine pF rfl ?_;refine Qg (hK1 _ _ _ ?_);(refine sR fun K hK=>?_;(repeat rw [Qa];simp);refine hK _ _ _ ?_;clear hK K);refine Qc fun K2 hK2=>?_
  (refine sR fun K hK=>?_;(repeat rw [Qa];simp);refine hK _ _ _ ?_;clear hK K);refine pT rfl ?_;(refine Qi Wa ?_;(repeat rw [Qa];simp));refine cXr (hki) ?_
  (repeat rw [Qa];simp)
  refine hK2 _ _ _ ?_;(refine sR fun K hK=>?_;(repeat rw [Qa];simp));refine cXg [0,1] (hp) ?_;simp [zU];((try simp only [zs]);refine Qk.pan (.inr ⟨[],by decide,by simp,?_⟩);simp [zM])
theorem step_24(left:Int)(l:List C)(once done:Bool)(hl:left<=9223372036854775807)(t:T)(ht:okS t)(hk:t.k=24){i many:Nat}(hs:spot t=some (i,many))(hp:Sp 94 [.box 0 0,Qj t,Qj (Wx t)] (Wf left l once done) (Qep left l once done t (Qbq l t (Wx t)))):Sp 98 [.box 0 0,Qj t] (Wf left l once done) (Qep left l once done t (Qbq l t (Wx t))):=by
 have hsp:=Qa4 t ht.1.kl;rw [Qci hs ht.1.kl]at hsp;have hki:=Zb t i i rfl;rw [<- Qbz hs]at hki;rcases Qb3 left l once done t (Qbq l t (Wx t))with ⟨v,b,lf,e⟩ | e
 ·rw [e]at hp⊢;generalize Wx t=x at hp hki;have hEx:=Qb x;rw [hEx,Qb t,Qb v,hk]at hp;rw [Qb t]at hsp;rw [hEx,Qb t,hk]at hki;rw [Qb t];unfold Wf headD Cs Wo at hp⊢;refine eN Tryz.func98 rfl (by decide) rfl rfl ?_;(refine sR fun K hK=>?_;(repeat rw [Qa];simp);refine hK _ _ _ ?_;clear hK K);(refine sR fun K hK=>?_;(repeat rw [Qa];simp));refine cXr (hsp) ?_
  (repeat rw [Qa];simp)
  (refine hK _ _ _ ?_;clear hK K);(refine Qc fun K hK=>?_;refine dR fun KT hKT=>?_;(repeat rw [Qd];simp [hk]));(refine hKT _ _ _ _ (by kernel_rfl) ?_;clear hKT KT);(refine hK _ _ _ ?_;clear hK K);refine Qc fun K1 hK1=>?_
  (refine sR fun K hK=>?_;(repeat rw [Qa];simp [hk]);refine hK _ _ _ ?_;clear hK K);refine pF rfl ?_;refine Qg (hK1 _ _ _ ?_);(refine sR fun K hK=>?_;(repeat rw [Qa];simp);refine hK _ _ _ ?_;clear hK K);refine Qc fun K2 hK2=>?_
  (refine sR fun K hK=>?_;(repeat rw [Qa];simp);refine hK _ _ _ ?_;clear hK K);refine pT rfl ?_;(refine Qi Wa ?_;(repeat rw [Qa];simp));refine cXr (hki) ?_
  (repeat rw [Qa];simp)
  refine hK2 _ _ _ ?_;(refine sR fun K hK=>?_;(repeat rw [Qa];simp));refine cXf [0,1] (hp) ?_;simp [zU]
  (repeat rw [Qa];simp)
  (refine hK _ _ _ ?_;clear hK K);(refine Qe ?_;(try simp only [zs]);refine Qk.ret rfl (.inr ⟨[],by decide,by simp,?_⟩);simp [zM])
  first | done | simp [Qb v]
 ·rw [e]at hp⊢;generalize Wx t=x at hp hki;have hEx:=Qb x;rw [hEx,Qb t,hk]at hp;rw [Qb t]at hsp;rw [hEx,Qb t,hk]at hki;rw [Qb t];unfold Wf headD Cs Wo Qam at hp;unfold Wf headD Cs Wo Qam;refine eN Tryz.func98 rfl (by decide) rfl rfl ?_;(refine sR fun K hK=>?_;(repeat rw [Qa];simp);refine hK _ _ _ ?_;clear hK K);(refine sR fun K hK=>?_;(repeat rw [Qa];simp));refine cXr (hsp) ?_
  (repeat rw [Qa];simp)
  (refine hK _ _ _ ?_;clear hK K);(refine Qc fun K hK=>?_;refine dR fun KT hKT=>?_;(repeat rw [Qd];simp [hk]));(refine hKT _ _ _ _ (by kernel_rfl) ?_;clear hKT KT);(refine hK _ _ _ ?_;clear hK K);refine Qc fun K1 hK1=>?_
  (refine sR fun K hK=>?_;(repeat rw [Qa];simp [hk]);refine hK _ _ _ ?_;clear hK K);refine pF rfl ?_;refine Qg (hK1 _ _ _ ?_);(refine sR fun K hK=>?_;(repeat rw [Qa];simp);refine hK _ _ _ ?_;clear hK K);refine Qc fun K2 hK2=>?_
  (refine sR fun K hK=>?_;(repeat rw [Qa];simp);refine hK _ _ _ ?_;clear hK K);refine pT rfl ?_;(refine Qi Wa ?_;(repeat rw [Qa];simp));refine cXr (hki) ?_
  (repeat rw [Qa];simp)
  refine hK2 _ _ _ ?_;(refine sR fun K hK=>?_;(repeat rw [Qa];simp));refine cXg [0,1] (hp) ?_;simp [zU];((try simp only [zs]);refine Qk.pan (.inr ⟨[],by decide,by simp,?_⟩);simp [zM])
theorem step_7(left:Int)(l:List C)(once done:Bool)(hl:left<=9223372036854775807)(t:T)(ht:okS t)(hk:t.k=7)(hs:spot t=none)(hp:Sp 90 [.box 0 0,Qj t,Qj (Wx t)] (Wf left l once done) (Qep left l once done t (Qbq l t (Wx t)))):Sp 98 [.box 0 0,Qj t] (Wf left l once done) (Qep left l once done t (Qbq l t (Wx t))):=by
 have hsp:=Qa4 t ht.1.kl;obtain⟨p,q,hpq⟩:=Qd9 hs;rw [hpq]at hsp;have hx0:=Qgn hs;rcases Qb3 left l once done t (Qbq l t (Wx t))with ⟨v,b,lf,e⟩ | e
 ·rw [e]at hp⊢;generalize Wx t=x at hp hx0;have hEx:=Qb x;rw [hEx,Qb t,Qb v,hk]at hp;rw [Qb t]at hsp;subst hx0;rw [show(Xa:T).k=0 from rfl,show(Xa:T).n=0 from rfl,show(Xa:T).a=0 from rfl,show(Xa:T).ls= [] from rfl,show(Xa:T).ks= [] from rfl,List.map_nil,List.map_nil]at hp;rw [Qb t];unfold Wf headD Cs Wo at hp⊢;refine eN Tryz.func98 rfl (by decide) rfl rfl ?_;(refine sR fun K hK=>?_;(repeat rw [Qa];simp);refine hK _ _ _ ?_;clear hK K);(refine sR fun K hK=>?_;(repeat rw [Qa];simp));refine cXr (hsp) ?_
  (repeat rw [Qa];simp)
  (refine hK _ _ _ ?_;clear hK K);(refine Qc fun K hK=>?_;refine dR fun KT hKT=>?_;(repeat rw [Qd];simp [hk]));(refine hKT _ _ _ _ (by kernel_rfl) ?_;clear hKT KT);(refine hK _ _ _ ?_;clear hK K);refine Qc fun K1 hK1=>?_
  (refine sR fun K hK=>?_;(repeat rw [Qa];simp [hk]);refine hK _ _ _ ?_;clear hK K);refine pF rfl ?_;refine Qg (hK1 _ _ _ ?_);(refine sR fun K hK=>?_;(repeat rw [Qa];simp);refine hK _ _ _ ?_;clear hK K);refine Qc fun K2 hK2=>?_
  (refine sR fun K hK=>?_;(repeat rw [Qa];simp);refine hK _ _ _ ?_;clear hK K);refine pF rfl ?_;refine Qg (hK2 _ _ _ ?_);(refine sR fun K hK=>?_;(repeat rw [Qa];simp));refine cXf [0,1] (hp) ?_;simp [zU]
  (repeat rw [Qa];simp)
  (refine hK _ _ _ ?_;clear hK K);(refine Qe ?_;(try simp only [zs]);refine Qk.ret rfl (.inr ⟨[],by decide,by simp,?_⟩);simp [zM])
  first | done | simp [Qb v]
 ·rw [e]at hp⊢;generalize Wx t=x at hp hx0;have hEx:=Qb x;rw [hEx,Qb t,hk]at hp;rw [Qb t]at hsp;subst hx0;rw [show(Xa:T).k=0 from rfl,show(Xa:T).n=0 from rfl,show(Xa:T).a=0 from rfl,show(Xa:T).ls= [] from rfl,show(Xa:T).ks= [] from rfl,List.map_nil,List.map_nil]at hp;rw [Qb t];unfold Wf headD Cs Wo Qam at hp;unfold Wf headD Cs Wo Qam;refine eN Tryz.func98 rfl (by decide) rfl rfl ?_;(refine sR fun K hK=>?_;(repeat rw [Qa];simp);refine hK _ _ _ ?_;clear hK K);(refine sR fun K hK=>?_;(repeat rw [Qa];simp));refine cXr (hsp) ?_
  (repeat rw [Qa];simp)
  (refine hK _ _ _ ?_;clear hK K);(refine Qc fun K hK=>?_;refine dR fun KT hKT=>?_;(repeat rw [Qd];simp [hk]));(refine hKT _ _ _ _ (by kernel_rfl) ?_;clear hKT KT);(refine hK _ _ _ ?_;clear hK K);refine Qc fun K1 hK1=>?_
  (refine sR fun K hK=>?_;(repeat rw [Qa];simp [hk]);refine hK _ _ _ ?_;clear hK K);refine pF rfl ?_;refine Qg (hK1 _ _ _ ?_);(refine sR fun K hK=>?_;(repeat rw [Qa];simp);refine hK _ _ _ ?_;clear hK K);refine Qc fun K2 hK2=>?_
  (refine sR fun K hK=>?_;(repeat rw [Qa];simp);refine hK _ _ _ ?_;clear hK K);refine pF rfl ?_;refine Qg (hK2 _ _ _ ?_);(refine sR fun K hK=>?_;(repeat rw [Qa];simp));refine cXg [0,1] (hp) ?_;simp [zU];((try simp only [zs]);refine Qk.pan (.inr ⟨[],by decide,by simp,?_⟩);simp [zM])
theorem step_3(left:Int)(l:List C)(once done:Bool)(hl:left<=9223372036854775807)(t:T)(ht:okS t)(hk:t.k=3)(hs:spot t=none)(hp:Sp 91 [.box 0 0,Qj t,Qj (Wx t)] (Wf left l once done) (Qep left l once done t (Qbq l t (Wx t)))):Sp 98 [.box 0 0,Qj t] (Wf left l once done) (Qep left l once done t (Qbq l t (Wx t))):=by
 have hsp:=Qa4 t ht.1.kl;obtain⟨p,q,hpq⟩:=Qd9 hs;rw [hpq]at hsp;have hx0:=Qgn hs;rcases Qb3 left l once done t (Qbq l t (Wx t))with ⟨v,b,lf,e⟩ | e
 ·rw [e]at hp⊢;generalize Wx t=x at hp hx0;have hEx:=Qb x;rw [hEx,Qb t,Qb v,hk]at hp;rw [Qb t]at hsp;subst hx0;rw [show(Xa:T).k=0 from rfl,show(Xa:T).n=0 from rfl,show(Xa:T).a=0 from rfl,show(Xa:T).ls= [] from rfl,show(Xa:T).ks= [] from rfl,List.map_nil,List.map_nil]at hp;rw [Qb t];unfold Wf headD Cs Wo at hp⊢;refine eN Tryz.func98 rfl (by decide) rfl rfl ?_;(refine sR fun K hK=>?_;(repeat rw [Qa];simp);refine hK _ _ _ ?_;clear hK K);(refine sR fun K hK=>?_;(repeat rw [Qa];simp));refine cXr (hsp) ?_
  (repeat rw [Qa];simp)
  (refine hK _ _ _ ?_;clear hK K);(refine Qc fun K hK=>?_;refine dR fun KT hKT=>?_;(repeat rw [Qd];simp [hk]));(refine hKT _ _ _ _ (by kernel_rfl) ?_;clear hKT KT);(refine hK _ _ _ ?_;clear hK K);refine Qc fun K1 hK1=>?_
  (refine sR fun K hK=>?_;(repeat rw [Qa];simp [hk]);refine hK _ _ _ ?_;clear hK K);refine pF rfl ?_;refine Qg (hK1 _ _ _ ?_);(refine sR fun K hK=>?_;(repeat rw [Qa];simp);refine hK _ _ _ ?_;clear hK K);refine Qc fun K2 hK2=>?_
  (refine sR fun K hK=>?_;(repeat rw [Qa];simp);refine hK _ _ _ ?_;clear hK K);refine pF rfl ?_;refine Qg (hK2 _ _ _ ?_);(refine sR fun K hK=>?_;(repeat rw [Qa];simp));refine cXf [0,1] (hp) ?_;simp [zU]
  (repeat rw [Qa];simp)
  (refine hK _ _ _ ?_;clear hK K);(refine Qe ?_;(try simp only [zs]);refine Qk.ret rfl (.inr ⟨[],by decide,by simp,?_⟩);simp [zM])
  first | done | simp [Qb v]
 ·rw [e]at hp⊢;generalize Wx t=x at hp hx0;have hEx:=Qb x;rw [hEx,Qb t,hk]at hp;rw [Qb t]at hsp;subst hx0;rw [show(Xa:T).k=0 from rfl,show(Xa:T).n=0 from rfl,show(Xa:T).a=0 from rfl,show(Xa:T).ls= [] from rfl,show(Xa:T).ks= [] from rfl,List.map_nil,List.map_nil]at hp;rw [Qb t];unfold Wf headD Cs Wo Qam at hp;unfold Wf headD Cs Wo Qam;refine eN Tryz.func98 rfl (by decide) rfl rfl ?_;(refine sR fun K hK=>?_;(repeat rw [Qa];simp);refine hK _ _ _ ?_;clear hK K);(refine sR fun K hK=>?_;(repeat rw [Qa];simp));refine cXr (hsp) ?_
  (repeat rw [Qa];simp)
  (refine hK _ _ _ ?_;clear hK K);(refine Qc fun K hK=>?_;refine dR fun KT hKT=>?_;(repeat rw [Qd];simp [hk]));(refine hKT _ _ _ _ (by kernel_rfl) ?_;clear hKT KT);(refine hK _ _ _ ?_;clear hK K);refine Qc fun K1 hK1=>?_
  (refine sR fun K hK=>?_;(repeat rw [Qa];simp [hk]);refine hK _ _ _ ?_;clear hK K);refine pF rfl ?_;refine Qg (hK1 _ _ _ ?_);(refine sR fun K hK=>?_;(repeat rw [Qa];simp);refine hK _ _ _ ?_;clear hK K);refine Qc fun K2 hK2=>?_
  (refine sR fun K hK=>?_;(repeat rw [Qa];simp);refine hK _ _ _ ?_;clear hK K);refine pF rfl ?_;refine Qg (hK2 _ _ _ ?_);(refine sR fun K hK=>?_;(repeat rw [Qa];simp));refine cXg [0,1] (hp) ?_;simp [zU];((try simp only [zs]);refine Qk.pan (.inr ⟨[],by decide,by simp,?_⟩);simp [zM])
theorem Wa7(left:Int)(l:List C)(once done:Bool)(hl:left<=9223372036854775807)(t:T)(ht:okS t)(hk:t.k=24)(hs:spot t=none):Sp 98 [.box 0 0,Qj t] (Wf left l once done) (Qep left l once done t (Qbq l t (Wx t))):=by
 have hw:Qbq l t (Wx t)=none:=by
  unfold Qbq;rw [if_neg (by omega),if_neg (by omega),if_neg (by omega),if_neg (by omega),if_neg (by omega),if_neg (by omega),if_neg (by rw [hs];simp)]
 rw [hw];have hsp:=Qa4 t ht.1.kl;obtain⟨p,q,hpq⟩:=Qd9 hs;rw [hpq]at hsp;unfold Qep Wf headD Cs Wo;rw [Qb t]at hsp;rw [Qb t];refine eN Tryz.func98 rfl (by decide) rfl rfl ?_;(refine sR fun K hK=>?_;(repeat rw [Qa];simp);refine hK _ _ _ ?_;clear hK K);(refine sR fun K hK=>?_;(repeat rw [Qa];simp));refine cXr (hsp) ?_
 (repeat rw [Qa];simp)
 (refine hK _ _ _ ?_;clear hK K);(refine Qc fun K hK=>?_;refine dR fun KT hKT=>?_;(repeat rw [Qd];simp [hk]));(refine hKT _ _ _ _ (by kernel_rfl) ?_;clear hKT KT);(refine hK _ _ _ ?_;clear hK K);refine Qc fun K1 hK1=>?_
 (refine sR fun K hK=>?_;(repeat rw [Qa];simp [hk]);refine hK _ _ _ ?_;clear hK K);refine pT rfl ?_;(refine sR fun K hK=>?_;(repeat rw [Qa];simp);refine hK _ _ _ ?_;clear hK K);(refine Qe ?_;(try simp only [zs]);refine Qk.ret rfl (.inr ⟨[],by decide,by simp,?_⟩);simp [zM])
 first | done | simp [Qb t,hk]
theorem find_no(k:Int)(h6:¬ k=6)(h14:¬ k=14)(h15:¬ k=15)(h7:¬ k=7)(h3:¬ k=3)(h18:¬ k=18)(h21:¬ k=21)(h24:¬ k=24):Qca (.int .i64 k) [(.int .i64 6, .fn (.func 88) [.box 0 0] []),(.int .i64 14, .fn (.func 89) [.box 0 0] []),(.int .i64 15, .fn (.func 89) [.box 0 0] []),(.int .i64 7, .fn (.func 90) [.box 0 0] []),
 (.int .i64 3, .fn (.func 91) [.box 0 0] []),(.int .i64 18, .fn (.func 92) [.box 0 0] []),(.int .i64 21, .fn (.func 93) [.box 0 0] []),(.int .i64 24, .fn (.func 94) [.box 0 0] [])]=none:=by
 simp [Qca,Qdr,h6,h14,h15,h7,h3,h18,h21,h24]
theorem step_no(left:Int)(l:List C)(once done:Bool)(hl:left<=9223372036854775807)(t:T)(ht:okS t)(h6:¬ t.k=6)(h14:¬ t.k=14)(h15:¬ t.k=15)(h7:¬ t.k=7)(h3:¬ t.k=3)(h18:¬ t.k=18)(h21:¬ t.k=21)(h24:¬ t.k=24):Sp 98 [.box 0 0,Qj t] (Wf left l once done) (Qep left l once done t (Qbq l t (Wx t))):=by
 have hw:Qbq l t (Wx t)=none:=by
  unfold Qbq;rw [if_neg h6,if_neg (by omega),if_neg h7,if_neg h3,if_neg h18,if_neg h21,if_neg (fun h=>h24 h.1)]
 rw [hw];have hs:spot t=none:=by
  unfold spot;rw [if_neg h6,if_neg (by omega),if_neg h18,if_neg h21,if_neg (fun h=>h24 h.1)]
 have hfd:=find_no t.k h6 h14 h15 h7 h3 h18 h21 h24;have hsp:=Qa4 t ht.1.kl;obtain⟨p,q,hpq⟩:=Qd9 hs;rw [hpq]at hsp;unfold Qep Wf headD Cs Wo;rw [Qb t]at hsp;rw [Qb t];refine eN Tryz.func98 rfl (by decide) rfl rfl ?_;(refine sR fun K hK=>?_;(repeat rw [Qa];simp);refine hK _ _ _ ?_;clear hK K);(refine sR fun K hK=>?_;(repeat rw [Qa];simp));refine cXr (hsp) ?_
 (repeat rw [Qa];simp)
 (refine hK _ _ _ ?_;clear hK K);(refine Qc fun K hK=>?_;refine dR fun KT hKT=>?_;(repeat rw [Qd];simp [hfd,Qbm,h24]));(refine hKT _ _ _ _ (by kernel_rfl) ?_;clear hKT KT);(refine hK _ _ _ ?_;clear hK K);refine Qc fun K1 hK1=>?_
 (refine sR fun K hK=>?_;(repeat rw [Qa];simp [hfd,Qbm,h24]);refine hK _ _ _ ?_;clear hK K);refine pT rfl ?_;(refine sR fun K hK=>?_;(repeat rw [Qa];simp);refine hK _ _ _ ?_;clear hK K);(refine Qe ?_;(try simp only [zs]);refine Qk.ret rfl (.inr ⟨[],by decide,by simp,?_⟩);simp [zM])
 first | done | simp [Qb t]
theorem Qw1(left:Int)(l:List C)(once done:Bool)(hl:left<=9223372036854775807)(hcs:okCs l)(t:T)(ht:okS t):Sp 98 [.box 0 0,Qj t] (Wf left l once done) (Qep left l once done t (Qbq l t (Wx t))):=by
 have hz:okS Xa:=⟨Qcy,by rw [Qc8];unfold PM;omega⟩;have hx:okS (Wx t):=by
  rcases Qfg t with h | ⟨i,many,h⟩
  ·rw [Qgn h];exact hz
  ·rw [Qbz h];exact ht.kid i
 by_cases h6:t.k=6
 ·exact step_6 left l once done hl t ht h6 (i:=0) (many:=2) (by unfold spot;rw [if_pos h6]) (Qy7 left l once done hl t _ ht hx h6)
 by_cases h14:t.k=14
 ·exact step_14 left l once done hl t ht h14 (i:=0) (many:=1) (by unfold spot;rw [if_neg h6,if_pos (.inl h14)]) (Ql6 left l once done hl t _ hx (.inl h14))
 by_cases h15:t.k=15
 ·exact step_15 left l once done hl t ht h15 (i:=0) (many:=1) (by unfold spot;rw [if_neg h6,if_pos (.inr h15)]) (Ql6 left l once done hl t _ hx (.inr h15))
 have h145:¬ (t.k=14\/t.k=15):=by omega
 by_cases h18:t.k=18
 ·exact step_18 left l once done hl t ht h18 (i:=4) (many:=5) (by unfold spot;rw [if_neg h6,if_neg h145,if_pos h18]) (Qvs left l once done hl t _ ht hx h18)
 by_cases h21:t.k=21
 ·exact step_21 left l once done hl t ht h21 (i:=5) (many:=6) (by unfold spot;rw [if_neg h6,if_neg h145,if_neg h18,if_pos h21]) (Qvt left l once done hl t _ ht h21)
 by_cases h24:t.k=24
 ·rcases Qfg t with h | ⟨i,many,h⟩
  ·exact Wa7 left l once done hl t ht h24 h
  ·exact step_24 left l once done hl t ht h24 h (Qpk left l once done hl t _ ht hx h24 (by rw [h];rfl))
 have hs:spot t=none:=by unfold spot;rw [if_neg h6,if_neg h145,if_neg h18,if_neg h21,if_neg (fun h=>h24 h.1)]
 by_cases h7:t.k=7
 ·exact step_7 left l once done hl t ht h7 hs (Qy2 left l once done hl t _ ht h7)
 by_cases h3:t.k=3
 ·exact step_3 left l once done hl t ht h3 hs (Qrv left l once done hl hcs t _ ht h3)
 exact step_no left l once done hl t ht h6 h14 h15 h7 h3 h18 h21 h24
end Go.Proofs.YtgloldepdhgfaaaGreatDoor
namespace Go.Proofs.YtgloldepdhgfaaaGreatDoor
set_option linter.unusedSimpArgs false
set_option linter.unusedVariables false
open Go.RowKit
def RetP(l:List C)(u:T)(lf:Int)(d:Bool):Out ->List HO ->Prop:=fun o hc=>o.fgt= .ret (Qj u)/\hc=Wf lf l false d
def Qwe:Out ->List HO ->Prop:=fun o hc=>o= .pan Qam/\hc= [.dead, .dead]
inductive RunH (l : List C) : T -> Int -> Bool -> (Out -> List HO -> Prop) -> Prop where
 | fin {t u:T} {n:Nat} {lf:Int} {d:Bool} (h:Hd l t n u) (hn:(n:Int)<=lf):RunH l t lf d (RetP l u (lf - n) (d || decide (0<n)))
 | gone {t:T} {lf q:Int} {d:Bool} (h:GoneAt l t lf q):RunH l t lf d Qwe
def Qse(l:List C)(t:T):Prop:=hstep l t=Qbq l t (Wx t)/\t.trunc=t
theorem Qse.none{l:List C}{t:T}(h:spot t=none):Qse l t:=⟨by rw [Qeg h];unfold Wx;rw [h],Qbi h⟩
theorem Qse.some{l:List C}{t v:T}{i many:Nat}(hs:spot t=some (i,many)){m:Nat}{x:T}(h:Hd l x m v):Qse l (t.withT v i many):=by
 obtain⟨h1,h2⟩:=h.done;obtain⟨h3,h4⟩:=ready hs h1 h2;exact⟨by rw [h3,Qu4 hs],h4⟩
theorem RunH.place{l:List C}{t:T}{lf:Int}{d:Bool}{P:Out ->List HO ->Prop}(h:RunH l t lf d P)(h0:0<=lf){i many:Nat}(hs:spot t=some (i,many)) :
  (∃q,GoneAt l (t.kid i) lf q/\P=Qwe)\/∃m v,Hd l (t.kid i) m v/\(m:Int)<=lf/\Qse l (t.withT v i many)/\RunH l (t.withT v i many) (lf - m) (d || decide (0<m)) P:=by
 cases h with
 | fin h hn =>
  rename_i u n;obtain⟨m,v,h1,h2,h3⟩:=h.place hs;refine .inr ⟨m,v,h1,by omega, .some hs h1,?_⟩;have:=RunH.fin (lf:=lf - m) (d:=d || decide (0<m)) h3 (by omega);rw [show lf - (m:Int) - ((n - m:Nat):Int)=lf - n by omega,Bool.or_assoc,show(decide (0<m) || decide (0<n - m))=decide (0<n) by rw [<- Bool.decide_or];apply decide_eq_decide.2;omega]at this;exact this
 | gone h =>
  rcases h.place h0 hs with h1 | ⟨m,v,h1,h2,h3⟩
  ·exact .inl ⟨_,h1,rfl⟩
  ·exact .inr ⟨m,v,h1,h2, .some hs h1, .gone h3⟩
theorem RunH.own{l:List C}{t:T}{lf:Int}{d:Bool}{P:Out ->List HO ->Prop}(h:RunH l t lf d P)(hr:Qse l t) :
  match Qbq l t (Wx t)with
  | none=>P=RetP l t lf d
  | some p=>if(p.2:Int)<=lf then RunH l p.1 (lf - p.2) true P else P=Qwe:=by
 rw [<- hr.1];cases h with
 | fin h hn =>
  rename_i u n;cases h with
  | stop h=>rw [h];simp only;rw [hr.2];simp
  | @step _ w _ c n h r =>
   have:=Qhq t h;rw [h];simp only;rw [if_pos (by omega)];have:=RunH.fin (lf:=lf - c) (d:=true) r (by omega);rw [show lf - (c:Int) - (n:Int)=lf - ((c+n:Nat):Int) by omega,Bool.true_or]at this;rw [show(d || decide (0<c+n))=true by rw [decide_eq_true (by omega),Bool.or_true]];exact this
 | gone h =>
  cases h with
  | now h hf=>rw [h];simp only;rw [if_neg (by omega)];trivial
  | later h hf r=>rw [h];simp only;rw [if_pos hf];exact .gone r
theorem Hd.pot{l:List C}{t u:T}{n:Nat}(h:Hd l t n u):u.pot<=t.pot+7 * n:=by
 induction h with
 | stop h=>have:=Qof ‹T›;omega
 | step h r ih=>have:=Qpg _ h;omega
theorem Hd.ok{l:List C}(hl:∀c,c∈l ->okC c){t u:T}{n:Nat}(h:Hd l t n u):okT t ->okT u:=by
 induction h with
 | stop h=>exact Qmq _
 | step h r ih=>intro ht;exact ih (Qtj hl _ ht h)
def mu(t:T):Nat:=if spot t=none then 0 else t.deep+1
theorem mu_kid{t:T}{i many:Nat}(hs:spot t=some (i,many)):mu (t.kid i)<mu t:=by
 have h0:mu t=t.deep+1:=by unfold mu;rw [if_neg (by rw [hs];simp)]
 rw [h0];by_cases hi:i<t.ks.length
 ·rw [Qth hi];have hd:(t.ks[i]).deep+1<=t.deep:=by
   cases t with
   | mk k n a ls ks=>exact T.deep_kid (List.getElem_mem hi)
  unfold mu;split <;> omega
 ·rw [Qrq hi];unfold mu;rw [if_pos Qfc];omega
end Go.Proofs.YtgloldepdhgfaaaGreatDoor
namespace Go.Proofs.YtgloldepdhgfaaaGreatDoor
set_option linter.unusedSimpArgs false
set_option linter.unusedVariables false
set_option maxHeartbeats 10000000
set_option maxRecDepth 20000
open Go.RowKit
attribute [local simp] Qx Qm Qo Qp Wn Xg opD Qz Qr Qw Wi hOf Wj Xf Xd TK.isAgg TK.known Ws Wk Wc Qh D.ofV inB Wb Wp Xx Xz Zg Xc Xv Zh IntKind.min IntKind.max IntKind.signed IntKind.bits Wl Xy
theorem Qpj{l:List C}(hcs:okCs l)(N:Nat):∀(k:Nat) (t:T) (left:Int) (done:Bool) (P:Out ->List HO ->Prop),0<=left ->left.toNat=N ->mu t=k ->okT t ->t.pot+7 * left.toNat<=PM ->RunH l t left done P ->
  Sp 49 [.box 0 0,Qj t] (Wf left l false done) P:=by
 induction N using Nat.strongRecOn with
 | ind N ihN =>
 intro k
 induction k using Nat.strongRecOn with
 | ind k ihk =>
 intro t left done P h0 hN hk ht hpot hrun;have hrec:∀(t':T) (lf:Int) (d:Bool) (P':Out ->List HO ->Prop),0<=lf ->(lf<left\/(lf=left/\mu t'<mu t)) ->okT t' ->t'.pot+7 * lf.toNat<=PM ->RunH l t' lf d P' ->Sp 49 [.box 0 0,Qj t'] (Wf lf l false d) P':=by
  intro t' lf d P' g0 gc gt gp gr;rcases gc with gc | ⟨rfl,gc⟩
  ·exact ihN lf.toNat (by omega) (mu t') t' lf d P' g0 rfl rfl gt gp gr
  ·exact ihk (mu t') (by omega) t' lf d P' g0 hN rfl gt gp gr
 clear ihN ihk;rw [Qb t];unfold Wf headD Cs Wo;refine eN Tryz.func49 rfl (by decide) rfl rfl ?_;(refine sR fun K hK=>?_;(repeat rw [Qa];simp);refine hK _ _ _ ?_;clear hK K);refine Qy ?_;refine Que Qf [5,6,7,8,9,10,11,12,13,14,15,16,17,18,19,20,21,22,23,24,25,26,27,28,29,30,31,32,33,34,35,36,37,38,39,40,41,42,43,44,45,46,47,48,49,50,51,52,53,54] [] (fun n ys hl=>∃(t':T) (lf:Int) (d:Bool),ys= []/\n=lf.toNat/\0<=lf/\(lf=left/\t'=t\/lf<left)/\okT t'/\t'.pot+7 * lf.toNat<=PM/\RunH l t' lf d P/\hl= [.cells 93 [.int .i64 lf, .slice (l.map Qbn) .any, .bool false, .bool d, .map 1], .mp [(.int .i64 6, .fn (.func 88) [.box 0 0] []),(.int .i64 14, .fn (.func 89) [.box 0 0] []),(.int .i64 15, .fn (.func 89) [.box 0 0] []),(.int .i64 7, .fn (.func 90) [.box 0 0] []),(.int .i64 3, .fn (.func 91) [.box 0 0] []),(.int .i64 18, .fn (.func 92) [.box 0 0] []),(.int .i64 21, .fn (.func 93) [.box 0 0] []),(.int .i64 24, .fn (.func 94) [.box 0 0] [])], .cells 27 [.int .i64 t'.k, .int .i64 t'.n, .int .i64 t'.a, .slice (t'.ls.map Qn) .any, .slice (t'.ks.map Qj) .any], .cells 27 [.int .i64 0, .int .i64 0, .int .i64 0, .slice [] .full, .slice [] .full]]) (left.toNat) (by kernel_rfl) ?_ ?_
 ·exact⟨t,left,done,rfl,rfl,h0, .inl ⟨rfl,rfl⟩,ht,hpot,hrun,rfl⟩
 ·rintro n ys hl A hA hA2 ⟨t',lf,d,rfl,hn,h0',hcase,ht',hp',hrun',rfl⟩;have hle:lf<=left:=by omega
  have hlf:lf<=9223372036854775807:=by unfold PM at hp';omega
  simp only [Qh,List.set,List.map_cons,List.map_nil,List.cons_append,List.nil_append];refine Qy ?_;refine Wap (α:=T×Int×Bool) [5,6,7,10,11,12,13,14,15,16,17,18,19,20,21,22,23,24,25,26,27,28,29,30,31,32,33,34,35] (fun _=> [5,6,7,10,11,12,13,14,15,16,17,18,19,20,21,22,23,24,25,26,27,28,29,30,31,32,33,34,35].map fun _=> .junk) (fun a=> [.cells 93 [.int .i64 a.2.1, .slice (l.map Qbn) .any, .bool false, .bool a.2.2, .map 1], .mp [(.int .i64 6, .fn (.func 88) [.box 0 0] []),(.int .i64 14, .fn (.func 89) [.box 0 0] []),(.int .i64 15, .fn (.func 89) [.box 0 0] []),(.int .i64 7, .fn (.func 90) [.box 0 0] []),(.int .i64 3, .fn (.func 91) [.box 0 0] []),(.int .i64 18, .fn (.func 92) [.box 0 0] []),(.int .i64 21, .fn (.func 93) [.box 0 0] []),(.int .i64 24, .fn (.func 94) [.box 0 0] [])], .cells 27 [.int .i64 a.1.k, .int .i64 a.1.n, .int .i64 a.1.a, .slice (a.1.ls.map Qn) .any, .slice (a.1.ks.map Qj) .any], .cells 27 [.int .i64 0, .int .i64 0, .int .i64 0, .slice [] .full, .slice [] .full]]) (fun a=>0<=a.2.1/\a.2.1<=lf/\okT a.1/\a.1.pot+7 * a.2.1.toNat<=PM/\RunH l a.1 a.2.1 a.2.2 P/\Qse l a.1) ?_ ?_
  rotate_left
  ·intro K hK0;rcases Qfg t' with hs | ⟨i,many,hs⟩
   ·obtain⟨p,q,hpq⟩:=Qd9 hs;have hsp:=Qa4 t' ht'.kl;rw [hpq,Qb t']at hsp;(refine sR fun K hK=>?_;(repeat rw [Qa];simp));refine cXr (hsp) ?_
    (repeat rw [Qa];simp)
    (refine hK _ _ _ ?_;clear hK K);(refine sR fun K hK=>?_;(repeat rw [Qa];simp);refine hK _ _ _ ?_;clear hK K);refine pF rfl ?_;refine Qg (hK0 (t',lf,d) _ ⟨h0',Int.le_refl _,ht',hp',hrun', .none hs⟩ ?_);simp [leT,Qh]
   ·have hsp:=Qa4 t' ht'.kl;rw [Qci hs ht'.kl,Qb t']at hsp;have hki:=Zb t' i i rfl;have hmu:=mu_kid hs;have hkp:=Qbo t' i;have hcs2:lf<left\/(lf=left/\mu (t'.kid i)<mu t):=by
     rcases hcase with ⟨e1,e2⟩ | h
     ·subst e2;exact .inr ⟨e1,hmu⟩
     ·exact .inl h
    rcases hrun'.place h0' hs with ⟨q,hq,hP⟩ | ⟨m,v,hv,hm,hrd,hrun2⟩
    ·subst hP;have hre:=hrec (t'.kid i) lf d Qwe h0' hcs2 (Qaf ht' i) (by omega) (.gone hq);generalize t'.kid i=y at hki hre;rw [Qb t',Qb y]at hki;rw [Qb y]at hre;unfold Qwe Wf headD Cs Wo Qam at hre;(refine sR fun K hK=>?_;(repeat rw [Qa];simp));refine cXr (hsp) ?_
     (repeat rw [Qa];simp)
     (refine hK _ _ _ ?_;clear hK K);(refine sR fun K hK=>?_;(repeat rw [Qa];simp);refine hK _ _ _ ?_;clear hK K);refine pT rfl ?_;(refine Qc fun K hK=>?_;refine dR fun KT hKT=>?_;(repeat rw [Qd];simp));refine cYp (hki) ?_;(try simp only [zq]);(repeat rw [Qd];simp);refine cYo [0,1] true false (hre) (fun o h e=>e) ?_;simp [zU];(try simp only [Qt,Qu,Qr,Qw,Wi])
     (rw [Qd,if_neg (Bool.eq_false_iff.mp (by kernel_rfl))];simp)
     (rw [Qd,if_neg (Bool.eq_false_iff.mp (by kernel_rfl))];simp)
     ((try simp only [Qt,Qu,Qr,Qw,Wi]);(repeat(refine Wr _ _ _ _ (by kernel_rfl) ?_;simp only [Qr,List.set,List.nil_append,List.cons_append,Nat.reduceAdd]));(try simp only [Qm]));(refine hKT _ _ _ _ (by kernel_rfl) ?_;clear hKT KT);simp [Xi];((try simp only [zs]);refine Qk.pan (.inr ⟨[],by decide,by simp,?_⟩);simp [zM]);exact⟨rfl,rfl⟩
    ·have hre:=hrec (t'.kid i) lf d _ h0' hcs2 (Qaf ht' i) (by omega) (.fin hv hm);have hw:=Qwp t' v i many (Qdg hs ht');have hvo:=hv.ok hcs.ok (Qaf ht' i);have hvp:=hv.pot;have hwp:=Qi7 (x:=v) hs;have hwo:=Qh1 (i:=i) ht' hvo (Qdg hs ht');generalize hy:t'.kid i=y at hki hre hvp hwp hkp;generalize hu:t'.withT v i many=u at hw hrd hrun2 hwp hwo;rw [Qb t',Qb y]at hki;unfold RetP Wf headD Cs Wo at hre;rw [Qb y,Qb v]at hre;rw [Qb t',Qb v,Qb u]at hw;generalize hd1:(d || decide (0<m))=d1 at hre hrun2;(refine sR fun K hK=>?_;(repeat rw [Qa];simp));refine cXr (hsp) ?_
     (repeat rw [Qa];simp)
     (refine hK _ _ _ ?_;clear hK K);(refine sR fun K hK=>?_;(repeat rw [Qa];simp);refine hK _ _ _ ?_;clear hK K);refine pT rfl ?_;(refine Qc fun K hK=>?_;refine dR fun KT hKT=>?_;(repeat rw [Qd];simp));refine cYp (hki) ?_;(try simp only [zq]);(repeat rw [Qd];simp);refine cYo [0,1] true true (hre) (fun o h e=>e) ?_;simp [zU];(try simp only [zq]);(repeat rw [Qd];simp);refine cYp (hw) ?_;(try simp only [zq]);(repeat rw [Qd];simp);(refine hKT _ _ _ _ (by kernel_rfl) ?_;clear hKT KT);(refine hK _ _ _ ?_;clear hK K);(refine sR fun K hK=>?_;(repeat rw [Qa];simp);refine hK _ _ _ ?_;clear hK K);refine pF rfl ?_;refine Qg (hK0 (u,lf - m,d1) _ ⟨by simp only;omega,by simp only;omega,hwo,by simp only;omega,hrun2,hrd⟩ ?_);simp [leT,Qh]
  ·rintro⟨t1,lf1,d1⟩ ⟨g0,gle,gt,gp,grun,grd⟩;simp only at g0 gle gt gp grun grd;simp only [Qh,List.set,List.map_cons,List.map_nil,List.cons_append,List.nil_append];have hst:=Qw1 lf1 l false d1 (by omega) hcs t1 ⟨gt,by omega⟩;have hown:=grun.own grd;have hrd:=grd.1;cases ho:Qbq l t1 (Wx t1)with
   | none =>
    rw [ho]at hst hown;simp only at hown;subst hown;unfold Qep Wf headD Cs Wo at hst;rw [Qb t1]at hst;(refine sR fun K hK=>?_;(repeat rw [Qa];simp));refine cXf [0,1] (hst) ?_;simp [zU]
    (repeat rw [Qa];simp)
    (refine hK _ _ _ ?_;clear hK K);refine Qc fun K1 hK1=>?_
    (refine sR fun K hK=>?_;(repeat rw [Qa];simp);refine hK _ _ _ ?_;clear hK K);refine pT rfl ?_;(refine sR fun K hK=>?_;(repeat rw [Qa];simp);refine hK _ _ _ ?_;clear hK K);(refine Qe ?_;(try simp only [zs]);refine Qk.ret rfl (.inr ⟨[],by decide,by simp,?_⟩);simp [zM]);refine⟨?_,rfl⟩;simp [Out.fgt,Qb t1,D.fgt,D.fgts]
   | some p =>
    obtain⟨w,c⟩:=p;rw [ho]at hst hown hrd;simp only at hown;unfold Qep at hst;simp only at hst;by_cases hc:(c:Int)<=lf1
    ·rw [if_pos hc]at hown;rw [Qa2 hc]at hst;unfold Wf headD Cs Wo at hst;rw [Qb t1,Qb w]at hst;have hpos:=Qhq t1 hrd;have hwo:=Qtj hcs.ok t1 gt hrd;have hwp:=Qpg t1 hrd;(refine sR fun K hK=>?_;(repeat rw [Qa];simp));refine cXf [0,1] (hst) ?_;simp [zU]
     (repeat rw [Qa];simp)
     (refine hK _ _ _ ?_;clear hK K);refine Qc fun K1 hK1=>?_
     (refine sR fun K hK=>?_;(repeat rw [Qa];simp);refine hK _ _ _ ?_;clear hK K);refine pF rfl ?_;refine Qg (hK1 _ _ _ ?_);(refine sR fun K hK=>?_;(repeat rw [Qa];simp);refine hK _ _ _ ?_;clear hK K);(refine sR fun K hK=>?_;(repeat rw [Qa];simp);refine hK _ _ _ ?_;clear hK K);refine pF rfl ?_;refine Qg ?_;(refine hA2 ([2,3]) ((lf1 - c).toNat) _ _ _ (LeT.refl _) (by decide) (by simp) (by omega) (by simp [zM,Qh]) ?_;simp [zM]);exact⟨w,lf1 - c,by omega,by omega, .inr (by omega),hwo,by omega,hown,rfl,rfl,rfl,rfl,rfl,rfl⟩
    ·rw [if_neg hc]at hown;subst hown;rw [Qa3 hc]at hst;unfold Wf headD Cs Wo Qam at hst;rw [Qb t1]at hst;(refine sR fun K hK=>?_;(repeat rw [Qa];simp));refine cXg [0,1] (hst) ?_;simp [zU];((try simp only [zs]);refine Qk.pan (.inr ⟨[],by decide,by simp,?_⟩);simp [zM]);exact⟨rfl,rfl⟩
theorem Qtk(l:List C)(f:Int):Sp 48 [Cs l, .int .i64 f] [] (fun o hc=>o= .ret (.box 0 0)/\hc=Wf f l false false):=by
 unfold Wf headD Cs Wo;have L0:0<Ql:=by unfold Ql;omega
 have L1:1<Ql:=by unfold Ql;omega
 have L2:2<Ql:=by unfold Ql;omega
 have L3:3<Ql:=by unfold Ql;omega
 have L4:4<Ql:=by unfold Ql;omega
 have L5:5<Ql:=by unfold Ql;omega
 have L6:6<Ql:=by unfold Ql;omega
 have L7:7<Ql:=by unfold Ql;omega
 refine eN Tryz.func48 rfl (by decide) rfl rfl ?_;(refine sR fun K hK=>?_;(repeat rw [Qa];simp);refine hK _ _ _ ?_;clear hK K);(refine sR fun K hK=>?_;(repeat rw [Qa];simp);refine hK _ _ _ ?_;clear hK K);(refine sR fun K hK=>?_;(repeat rw [Qa];simp [Qca,Qdr,Qbm,L0,L1,L2,L3,L4,L5,L6,L7]);refine hK _ _ _ ?_;clear hK K);(refine sR fun K hK=>?_;(repeat rw [Qa];simp);refine hK _ _ _ ?_;clear hK K);(refine Qe ?_;(try simp only [zs]);refine Qk.ret rfl (.inr ⟨[0,1],by decide,by simp,?_⟩);simp [zM])
theorem Qqg(k n a x y:Int)(ls ks:D):Qge Tryz.prog glob 84 [.box 0 0, .box 1 0, .box 2 0] [.cells 27 [.int .i64 k, .int .i64 n, .int .i64 a,ls,ks], .cells 3 [.int .i64 x], .cells 33 [.int .i64 y]] none
  (fun hc=>hc= [.cells 27 [.int .i64 k, .int .i64 n, .int .i64 a,ls,ks], .cells 3 [.int .i64 x], .cells 33 [.int .i64 y]]):=by
 refine Qaq Wa Tryz.func84 rfl rfl (fun a w=>rfl) rfl (Qch _ _ Tryz.func84 rfl (by decide)) rfl rfl ?_;(try simp only [zr]);(repeat rw [Qa];simp);(refine sR fun K hK=>?_;(repeat rw [Qa];simp);refine hK _ _ _ ?_;clear hK K);refine pF rfl ?_;refine Qg ?_;refine Qk.nrm rfl ?_;simp [Qw]
theorem Qqh(x y:Int):Qge Tryz.prog glob 84 [.box 0 0, .box 1 0, .box 2 0] [.cells 27 [.int .i64 0, .int .i64 0, .int .i64 0, .slice [] .full, .slice [] .full], .cells 3 [.int .i64 x], .cells 33 [.int .i64 y]] (some Qam)
  (fun hc=>hc= [.cells 27 [.int .i64 0, .int .i64 0, .int .i64 0, .slice [] .full, .slice [] .full], .cells 3 [.int .i64 0], .cells 33 [.int .i64 5], .cells 129 []]):=by
 refine Qaq Wa Tryz.func84 rfl rfl (fun a w=>rfl) rfl (Qch _ _ Tryz.func84 rfl (by decide)) rfl rfl ?_;unfold Qam;(try simp only [zr]);(repeat rw [Qa];simp);(refine sR fun K hK=>?_;(repeat rw [Qa];simp);refine hK _ _ _ ?_;clear hK K);refine pT rfl ?_;refine Qc fun K1 hK1=>?_
 (refine sR fun K hK=>?_;(repeat rw [Qa];simp);refine hK _ _ _ ?_;clear hK K);refine Qc fun K2 hK2=>?_
 (refine Qi Wa ?_;(repeat rw [Qa];simp));refine hK2 _ _ _ ?_;refine pF rfl ?_;refine Qg (hK1 _ _ _ ?_);(refine Qi Wa ?_;(repeat rw [Qa];simp));refine Qk.nrm rfl ?_;simp
theorem Qsl{l:List C}(hcs:okCs l){t u:T}{f:Int}{n:Nat}(h0:0<=f)(h1:f<=1073741824)(ht:okT t)(hp:t.pot+7 * f.toNat<=PM)(h:Hd l t n u)(hn:(n:Int)<=f) :
  Sp 36 [Cs l,Qj t, .int .i64 f] [] (rt (.tuple [Qj u, .int .i64 (f - n), .int .i64 0])):=by
 have hat:=Qtk l f;have hre:=Qpj hcs _ _ t f false _ h0 rfl rfl ht hp (.fin h hn);have huo:=h.ok hcs.ok ht;have hup:=h.pot;have hud:u.deep<=DM:=by have:=u.deep_nsz;have:=Qd2 u;unfold PM at hp;unfold DM;omega
 have hli:=Qbu u 0 0 hud huo;rw [show u.lift 0 0 0=u from Qj8 huo 0]at hli;have h0':¬ f<0:=by omega
 have h1':¬ 1073741824<f:=by omega
 generalize (false || decide (0<n))=d at hre;unfold RetP Wf headD Cs Wo at hre;unfold Wf headD Cs Wo at hat;rw [Qb t,Qb u]at hre;rw [Qb u]at hli;rw [Qb t];unfold Cs;refine eD Tryz.func36 rfl (by decide) rfl rfl ?_;(refine sR fun K hK=>?_;(repeat rw [Qa];simp);refine hK _ _ _ ?_;clear hK K);refine Qc fun K1 hK1=>?_
 (refine sR fun K hK=>?_;(repeat rw [Qa];simp [h0',h1']);refine hK _ _ _ ?_;clear hK K);refine pF rfl ?_;refine Qg (hK1 _ _ _ ?_);(refine sR fun K hK=>?_;(repeat rw [Qa];simp);refine hK _ _ _ ?_;clear hK K);(refine sR fun K hK=>?_;(repeat rw [Qa];simp));refine cXg [] (hat) ?_;simp [zU]
 (repeat rw [Qa];simp)
 (refine hK _ _ _ ?_;clear hK K);(refine sR fun K hK=>?_;(repeat rw [Qa];simp));refine cXf [4,5] (hre) ?_;simp [zU]
 (repeat rw [Qa];simp)
 refine cXr (hli) ?_
 (repeat rw [Qa];simp)
 (refine hK _ _ _ ?_;clear hK K);(refine Qc fun K hK=>?_;refine dR fun KT hKT=>?_;(repeat rw [Qd];simp));(refine hKT _ _ _ _ (by kernel_rfl) ?_;clear hKT KT);(refine hK _ _ _ ?_;clear hK K);refine Qe ?_;refine Qfb.objs Qf [1,2,3] (Qqg u.k u.n u.a (f - n) 0 (.slice (u.ls.map Qn) .any) (.slice (u.ks.map Qj) .any)) ?_ ?_ (fun d h=>by cases h) (by decide) (by simp) (by simp [zA]) (by simp [zA]) (by simp [zA]) (by simp [zA])
 ·rintro hc rfl;simp [zA,upO,Qw,Wi];refine Qen.intro rfl (.inr ⟨[],by decide,by simp,?_⟩);simp [zM];simp [Out.fgt,Qb u,D.fgt,D.fgts]
 ·rintro hc rfl;simp
theorem Qob{l:List C}(hcs:okCs l){t:T}{f q:Int}(h0:0<=f)(h1:f<=1073741824)(ht:okT t)(hp:t.pot+7 * f.toNat<=PM)(h:GoneAt l t f q) :
  Sp 36 [Cs l,Qj t, .int .i64 f] [] (rt (.tuple [Qj Xa, .int .i64 0, .int .i64 5])):=by
 have hat:=Qtk l f;have hre:=Qpj hcs _ _ t f false _ h0 rfl rfl ht hp (.gone h);have h0':¬ f<0:=by omega
 have h1':¬ 1073741824<f:=by omega
 unfold Qwe Wf headD Cs Wo Qam at hre;unfold Wf headD Cs Wo at hat;rw [Qb t]at hre;rw [Qb t,encZ];unfold Cs;have hcg:=Qqh 0 0;unfold Qam at hcg;refine eD Tryz.func36 rfl (by decide) rfl rfl ?_;(refine sR fun K hK=>?_;(repeat rw [Qa];simp);refine hK _ _ _ ?_;clear hK K);refine Qc fun K1 hK1=>?_
 (refine sR fun K hK=>?_;(repeat rw [Qa];simp [h0',h1']);refine hK _ _ _ ?_;clear hK K);refine pF rfl ?_;refine Qg (hK1 _ _ _ ?_);(refine sR fun K hK=>?_;(repeat rw [Qa];simp);refine hK _ _ _ ?_;clear hK K);(refine sR fun K hK=>?_;(repeat rw [Qa];simp));refine cXg [] (hat) ?_;simp [zU]
 (repeat rw [Qa];simp)
 (refine hK _ _ _ ?_;clear hK K);(refine sR fun K hK=>?_;(repeat rw [Qa];simp));refine cXg [4,5] (hre) ?_;simp [zU];(try simp only [zs]);refine Qfb.objs Qf [1,2,3] hcg ?_ ?_ (fun d h=>by cases h;rfl) (by decide) (by simp) (by simp [zA]) (by simp [zA]) (by simp [zA]) (by simp [zA])
 ·rintro hc rfl;simp [zA,upO,Qw,Wi];refine Qen.intro rfl (.inr ⟨[],by decide,by simp,?_⟩);simp [zM]
 ·rintro hc rfl;simp
def Wy(left:Int)(l:List C):List HO:= [.cells 181 [.int .i64 left,Cs l]]
def Xw:D:= .iface 33 (.int .i64 5)
theorem Qe6(left:Int)(l:List C)(h:1<=left)(hl:left<=9223372036854775807):Sp 130 [.box 0 0] (Wy left l) (fun o hc=>o= .ret (.tuple [])/\hc=Wy (left - 1) l):=by
 have hw:IntKind.i64.wrap (left - 1)=left - 1:=Qbp (by omega) (by omega);have h':¬ left=0:=by omega
 unfold Wy Cs;refine eN Tryz.func130 rfl (by decide) rfl rfl ?_;refine Qc fun K1 hK1=>?_
 (refine sR fun K hK=>?_;(repeat rw [Qa];simp [h']);refine hK _ _ _ ?_;clear hK K);refine pF rfl ?_;refine Qg (hK1 _ _ _ ?_);(refine Qi Wa ?_;(repeat rw [Qa];simp [hw]));((try simp only [zs]);refine Qk.nrm rfl (.inr ⟨[],by decide,by simp,?_⟩);simp [zM])
theorem Qzu(l:List C):Sp 130 [.box 0 0] (Wy 0 l) (fun o hc=>o= .pan Xw/\hc= [.dead]):=by
 refine Spec.dead (Post:=fun o hc=>o= .pan Xw/\hc=Wy 0 l) ?_ fun o hc hp=>⟨[.dead],fun r=>by
  rw [hp.2]
  match r with
  | 0=>exact .inr rfl
  | r+1=>exact .inl rfl,hp.1,rfl⟩
 unfold Wy Cs Xw;refine eN Tryz.func130 rfl (by decide) rfl rfl ?_;refine Qc fun K1 hK1=>?_
 (refine sR fun K hK=>?_;(repeat rw [Qa];simp);refine hK _ _ _ ?_;clear hK K);refine pT rfl ?_;(refine Qi Wa ?_;(repeat rw [Qa];simp));((try simp only [zs]);refine Qk.pan (.inr ⟨[],by decide,by simp,?_⟩);simp [zM])
theorem Wa8(left g:Int)(l:List C):Sp 187 [.box 0 0, .int .i64 g, .int .i64 0] (Wy left l) (fun o hc=>o= .ret (.tuple [])/\hc=Wy g l):=by
 unfold Wy Cs;refine eN Tryz.func187 rfl (by decide) rfl rfl ?_;(refine sR fun K hK=>?_;(repeat rw [Qa];simp);refine hK _ _ _ ?_;clear hK K);(refine sR fun K hK=>?_;(repeat rw [Qa];simp);refine hK _ _ _ ?_;clear hK K);refine pF rfl ?_;refine Qg ?_;((try simp only [zs]);refine Qk.nrm rfl (.inr ⟨[],by decide,by simp,?_⟩);simp [zM])
theorem Wa9(left g:Int)(l:List C):Sp 187 [.box 0 0, .int .i64 g, .int .i64 5] (Wy left l) (fun o hc=>o= .pan Xw/\hc= [.dead]):=by
 refine Spec.dead (Post:=fun o hc=>o= .pan Xw/\hc=Wy g l) ?_ fun o hc hp=>⟨[.dead],fun r=>by
  rw [hp.2]
  match r with
  | 0=>exact .inr rfl
  | r+1=>exact .inl rfl,hp.1,rfl⟩
 unfold Wy Cs Xw;refine eN Tryz.func187 rfl (by decide) rfl rfl ?_;(refine sR fun K hK=>?_;(repeat rw [Qa];simp);refine hK _ _ _ ?_;clear hK K);(refine sR fun K hK=>?_;(repeat rw [Qa];simp);refine hK _ _ _ ?_;clear hK K);refine pT rfl ?_;(refine Qi Wa ?_;(repeat rw [Qa];simp));((try simp only [zs]);refine Qk.pan (.inr ⟨[],by decide,by simp,?_⟩);simp [zM])
def HeadP(l:List C):Option (T×Int) ->Out ->List HO ->Prop
 | some (u,g)=>fun o hc=>o.fgt= .ret (Qj u)/\hc=Wy g l
 | none=>fun o hc=>o= .pan Xw/\hc= [.dead]
theorem Qal{l:List C}(hcs:okCs l){t:T}{f:Int}{r:Option (T×Int)}(h0:0<=f)(h1:f<=1073741824)(ht:okT t)(hp:t.pot+7 * f.toNat<=PM)(h:HdO l t f r) :
  Sp 131 [.box 0 0,Qj t] (Wy f l) (HeadP l r):=by
 cases h with
 | @fin m u h hm =>
  have wh:=Qsl hcs h0 h1 ht hp h hm;have sp:=Wa8 f (f - m) l;generalize f - (m:Int)=g at wh sp⊢;show Sp 131 _ _ (fun o hc=>o.fgt= .ret (Qj u)/\hc=Wy g l);unfold Wy Cs at sp⊢;unfold Cs at wh;have hEt:=Qb t;have hEu:=Qb u;rw [hEt,hEu]at wh;rw [hEt,hEu];refine eN Tryz.func131 rfl (by decide) rfl rfl ?_;(refine sR fun K hK=>?_;(repeat rw [Qa];simp);refine hK _ _ _ ?_;clear hK K);(refine Qc fun K hK=>?_;refine dR fun KT hKT=>?_;(repeat rw [Qd];simp));refine cYp (wh) ?_;(try simp only [zq]);(repeat rw [Qd];simp);(refine hKT _ _ _ _ (by kernel_rfl) ?_;clear hKT KT);(refine hK _ _ _ ?_;clear hK K);(refine sR fun K hK=>?_;(repeat rw [Qa];simp));refine cXo [0] false (sp) ?_;(rintro o hc ⟨rfl,rfl⟩;refine⟨false,?_⟩;simp [zU]);(try simp only [zr]);(repeat rw [Qa];simp);(refine hK _ _ _ ?_;clear hK K);(refine sR fun K hK=>?_;(repeat rw [Qa];simp);refine hK _ _ _ ?_;clear hK K);(refine Qe ?_;(try simp only [zs]);refine Qk.ret rfl (.inr ⟨[],by decide,by simp,?_⟩);simp [zM])
 | @gone q g =>
  have wh:=Qob hcs h0 h1 ht hp g;have sp:=Wa9 f 0 l;show Sp 131 _ _ (fun o hc=>o= .pan Xw/\hc= [.dead]);unfold Wy Cs Xw at sp;unfold Wy Cs Xw;unfold Cs at wh;have hEt:=Qb t;rw [hEt,encZ]at wh;rw [hEt];refine eN Tryz.func131 rfl (by decide) rfl rfl ?_;(refine sR fun K hK=>?_;(repeat rw [Qa];simp);refine hK _ _ _ ?_;clear hK K);(refine Qc fun K hK=>?_;refine dR fun KT hKT=>?_;(repeat rw [Qd];simp));refine cYp (wh) ?_;(try simp only [zq]);(repeat rw [Qd];simp);(refine hKT _ _ _ _ (by kernel_rfl) ?_;clear hKT KT);(refine hK _ _ _ ?_;clear hK K);(refine sR fun K hK=>?_;(repeat rw [Qa];simp));refine cXo [0] false (sp) ?_;(rintro o hc ⟨rfl,rfl⟩;refine⟨false,?_⟩;simp [zU]);((try simp only [zs]);refine Qk.pan (.inr ⟨[],by decide,by simp,?_⟩);simp [zM])
def Qlh(t:T)(ns:List Int)(k:Nat):List T:=(ns.take k).map (Qi6 t)
theorem Qvo{t:T}{ns:List Int}{k:Nat}(h:k<ns.length):Qlh t ns (k+1)=Qlh t ns k++ [Qi6 t ns[k]]:=by unfold Qlh;rw [List.take_succ_eq_append_getElem h,List.map_append];rfl
theorem Qyu(t:T)(ns:List Int):Qlh t ns ns.length=ns.map (Qi6 t):=by unfold Qlh;rw [List.take_length]
theorem Qyt{t:T}{ns:List Int}{k:Nat}(h:k<=ns.length):(Qlh t ns k).length=k:=by unfold Qlh;rw [List.length_map,List.length_take];omega
theorem Qa5(t:T)(ht:okT t)(ns:List Int)(hl:ns.length<=Ql)(hn:∀n,n∈ns ->0<=n):Sp 135 [Qj t,Qd3 ns] [] (rt (Ts (ns.map (Qi6 t)))):=by
 rw [<- Qyu];have hkl:=ht.kl;unfold Ql at hkl;obtain⟨kk,nn,aa,ls,ks⟩:=t;simp only [T.ks_mk]at hkl;rw [Qdy];unfold Qd3 Ts;refine eN Tryz.func135 rfl (by decide) rfl rfl ?_;(refine sR fun K hK=>?_;(repeat rw [Qa];simp);refine hK _ _ _ ?_;clear hK K);refine Qsg 4 ?_;simp [D.tokd];refine Qc fun K1 hK1=>?_
 (refine sR fun K hK=>?_;(repeat rw [Qa];simp);refine hK _ _ _ ?_;clear hK K);refine Xm Wa Qf (ti:=3) (tk:=10) (tn:=9) (td:=11) (ts:=29) [6,7,10,11,12,13,14,15,16,17,18,19,20,21,22,23,24,25,26,27,28,29] [4] (ns.length) (fun k ys hl=>ys= [.slice ((Qlh (.mk kk nn aa ls ks) ns k).map Qj) (.tok 1)]/\hl= [.cells 27 [.int .i64 kk, .int .i64 nn, .int .i64 aa, .slice (ls.map Qn) .any, .slice (ks.map Qj) .any], .tok]) rfl rfl rfl rfl rfl rfl rfl rfl rfl rfl rfl rfl (by simp) (by decide) rfl (by first | assumption | omega | (unfold Ql;omega)) rfl (by kernel_rfl) (by decide) ?_ ?_ ?_
 ·exact⟨rfl,rfl⟩
 ·rintro i ys hl A hi ⟨rfl,rfl⟩ hA hA2;simp only [Qh,List.set,List.map_cons,List.map_nil,List.cons_append,List.nil_append];have hi':(i:Int)<ns.length:=by omega
  have hsn:=Qvo (t:= .mk kk nn aa ls ks) hi;have hln:=Qyt (t:= .mk kk nn aa ls ks) (Nat.le_of_lt hi);have hx0:=hn _ (List.getElem_mem hi);obtain⟨x,hx⟩:∃x,ns[i]=x:=⟨_,rfl⟩;rw [hx]at hsn hx0;obtain⟨m,rfl⟩:∃m:Nat,x=m:=⟨x.toNat,by omega⟩;rw [Qjc]at hsn;have hel:(Qlh (.mk kk nn aa ls ks) ns i).length+1<=Ql:=by omega
  generalize Qlh (.mk kk nn aa ls ks) ns i=es at hsn hln hel⊢;(refine sR fun K hK=>?_;(repeat rw [Qa];simp [hi,hi',hx]);refine hK _ _ _ ?_;clear hK K);(refine sR fun K hK=>?_;(repeat rw [Qa];simp);refine hK _ _ _ ?_;clear hK K);refine War 2 rfl ?_;simp [D.fgts,D.fgt];refine Qc fun K2 hK2=>?_
  by_cases hm:m<ks.length
  ·have hm':(m:Int)<ks.length:=by omega
   have hk:(T.mk kk nn aa ls ks).kid m=ks[m]:=by unfold T.kid;simp [List.getD_eq_getElem?_getD,hm]
   rw [hk]at hsn;obtain⟨y,hy⟩:∃y,ks[m]=y:=⟨_,rfl⟩;rw [hy]at hsn;have hEy:=Qb y;(refine sR fun K hK=>?_;(repeat rw [Qa];simp [hm,hm']);refine hK _ _ _ ?_;clear hK K);refine pT rfl ?_;(refine Qi Wa ?_;(repeat rw [Qa];simp [hm,hm',hy,hEy]));refine hK2 _ _ _ ?_;clear hK2 K2;(refine Qi Wa ?_;(repeat rw [Qa];simp [hel]));(refine hA2 ([0,3]) _ _ _ (LeT.refl _) (by decide) (by simp) (by simp [zM,Qh]) ?_ rfl;simp [zM]);rw [hsn,<- hEy,show es.map Qj++ [Qj y]=(es++ [y]).map Qj by simp,Qhk]
  ·have hm':¬ (m:Int)<ks.length:=by omega
   have hk:(T.mk kk nn aa ls ks).kid m=Xa:=by unfold T.kid;simp [List.getD_eq_getElem?_getD,hm]
   rw [hk]at hsn;(refine sR fun K hK=>?_;(repeat rw [Qa];simp [hm,hm']);refine hK _ _ _ ?_;clear hK K);refine pF rfl ?_;refine Qg (hK2 _ _ _ ?_);clear hK2 K2;(refine Qi Wa ?_;(repeat rw [Qa];simp [hel]));(refine hA2 ([0,3]) _ _ _ (LeT.refl _) (by decide) (by simp) (by simp [zM,Qh]) ?_ rfl;simp [zM]);rw [hsn,<- encZ,show es.map Qj++ [Qj Xa]=(es++ [Xa]).map Qj by simp,Qhk]
 ·rintro ys hl tl' ⟨rfl,rfl⟩ htl;refine hK1 _ _ _ (Xn htl ?_);simp only [Qh,List.set,List.map_cons,List.map_nil,List.cons_append,List.nil_append];(refine sR fun K hK=>?_;(repeat rw [Qa];simp);refine hK _ _ _ ?_;clear hK K);(refine Qe ?_;(try simp only [zs]);refine Qk.ret rfl (.inl ?_);simp [zM])
theorem Qp6(t:T)(ht:okT t)(hd:t.deep<=DM):Sp 226 [Qj t] [] (rt (Ts [Qhx t])):=by
 have hli:=Qbu t 1 0 hd ht;unfold Qhx;generalize t.lift 1 0 0=u at hli⊢;have hEu:=Qb u;have hEt:=Qb t;rw [hEt,hEu]at hli;rw [hEt];refine Spec.deepR (e:= .slice [.agg [.int .i64 6, .int .i64 0, .int .i64 0, .slice [] .full, .slice [Qj u, .agg [.int .i64 1, .int .i64 0, .int .i64 0, .slice [] .full, .slice [] .full]] .full]] .any) ?_ ?_
 rotate_left
 ·unfold Ts ofT;simp only [List.map_cons,List.map_nil,Qdy,D.deep,D.deeps,Qj6,Qko]
 rw [hEu];refine eN Tryz.func226 rfl (by decide) rfl rfl ?_;(refine sR fun K hK=>?_;(repeat rw [Qa];simp);refine hK _ _ _ ?_;clear hK K);(refine sR fun K hK=>?_;(repeat rw [Qa];simp));refine cXr (hli) ?_
 (repeat rw [Qa];simp)
 (refine hK _ _ _ ?_;clear hK K);(refine Qe ?_;(try simp only [zs]);refine Qk.ret rfl (.inl ?_);simp [zM])
theorem Qrw(t:T):Sp 228 [Qj t] [] (rt (Ts [ofT 14 [t],ofT 15 [t]])):=by
 have hEt:=Qb t;refine Spec.deepR (e:= .slice [.agg [.int .i64 14, .int .i64 0, .int .i64 0, .slice [] .full, .slice [Qj t] .full], .agg [.int .i64 15, .int .i64 0, .int .i64 0, .slice [] .full, .slice [Qj t] .full]] .any) ?_ ?_
 rotate_left
 ·unfold Ts ofT;simp only [List.map_cons,List.map_nil,Qdy,D.deep,D.deeps,Qj6,Qko]
 rw [hEt];refine eN Tryz.func228 rfl (by decide) rfl rfl ?_;(refine sR fun K hK=>?_;(repeat rw [Qa];simp);refine hK _ _ _ ?_;clear hK K);(refine sR fun K hK=>?_;(repeat rw [Qa];simp);refine hK _ _ _ ?_;clear hK K);(refine Qe ?_;(try simp only [zs]);refine Qk.ret rfl (.inl ?_);simp [zM])
theorem Qra(t:T)(ht:okT t):Sp 225 [.ref (Qj t)] [] (rt (Ts [t.kid 1])):=by
 have hk:=Qa5 t ht [1] (by unfold Ql;simp) (by simp);unfold Qd3 at hk;simp only [List.map_cons,List.map_nil]at hk;rw [show Qi6 t 1=t.kid 1 from rfl]at hk;unfold Ts at hk⊢;simp only [List.map_cons,List.map_nil]at hk⊢;rw [Qb t]at hk⊢;refine eN Tryz.func225 rfl (by decide) rfl rfl ?_;(refine sR fun K hK=>?_;(repeat rw [Qa];simp);refine hK _ _ _ ?_;clear hK K);(refine sR fun K hK=>?_;(repeat rw [Qa];simp));refine cXr (hk) ?_
 (repeat rw [Qa];simp)
 (refine hK _ _ _ ?_;clear hK K);(refine Qe ?_;(try simp only [zs]);refine Qk.ret rfl (.inl ?_);simp [zM])
theorem Qq9(t:T)(ht:okT t):Sp 227 [.ref (Qj t)] [] (rt (Ts [t.kid 0,t.kid 1])):=by
 have hk:=Qa5 t ht [0,1] (by unfold Ql;simp) (by simp);unfold Qd3 at hk;simp only [List.map_cons,List.map_nil]at hk;rw [show Qi6 t 1=t.kid 1 from rfl,show Qi6 t 0=t.kid 0 from rfl]at hk;unfold Ts at hk⊢;simp only [List.map_cons,List.map_nil]at hk⊢;rw [Qb t]at hk⊢;refine eN Tryz.func227 rfl (by decide) rfl rfl ?_;(refine sR fun K hK=>?_;(repeat rw [Qa];simp);refine hK _ _ _ ?_;clear hK K);(refine sR fun K hK=>?_;(repeat rw [Qa];simp));refine cXr (hk) ?_
 (repeat rw [Qa];simp)
 (refine hK _ _ _ ?_;clear hK K);(refine Qe ?_;(try simp only [zs]);refine Qk.ret rfl (.inl ?_);simp [zM])
theorem Qf1(t:T)(ht:okT t)(hd:t.deep<=DM)(k:Int)(hk:k=5\/k=13):Sp 212 [Qj t, .int .i64 k] [] (rt (Ts (Qar k t))):=by
 have h1:=Qra t ht;have h2:=Qq9 t ht;have h3:=Qp6 t ht hd;have h4:=Qrw t;have hEt:=Qb t;obtain⟨R,hR⟩:∃R,R=Qar k t:=⟨_,rfl⟩;rw [<- hR];unfold Qar at hR;generalize t.kid 0=k0 at h2 hR;generalize t.kid 1=k1 at h1 h2 hR;generalize ofT 14 [t]=o1 at h4 hR;generalize ofT 15 [t]=o2 at h4 hR;generalize Qhx t=ap at h3 hR;unfold Ts at h1 h2 h3 h4⊢;rw [hEt]at h1 h2 h3 h4⊢;rcases hk with rfl | rfl
 ·refine eN Tryz.func212 rfl (by decide) rfl rfl ?_;(refine sR fun K hK=>?_;(repeat rw [Qa];simp);refine hK _ _ _ ?_;clear hK K);(refine Xe (T:=Qq) 0 (ty:=27) (ds:= [.int .i64 t.k, .int .i64 t.n, .int .i64 t.a, .slice (t.ls.map Qn) .any, .slice (t.ks.map Qj) .any]) rfl rfl (by first | exact⟨rfl, .inr ⟨_,rfl,rfl⟩⟩ | exact⟨rfl, .inl rfl⟩) ?_;simp [D.frzs,D.frz,HO.frz,Qaj,Qao,TK.isAgg,FK.isB,FK.isM,FK.isO,D.isLen]);(refine sR fun K hK=>?_;(repeat rw [Qa];simp);refine hK _ _ _ ?_;clear hK K);refine Qc fun K1 hK1=>?_
  (refine sR fun K hK=>?_;(repeat rw [Qa];simp);refine hK _ _ _ ?_;clear hK K);refine pF rfl ?_;refine Qg (hK1 _ _ _ ?_);clear hK1 K1;refine Qc fun K1 hK1=>?_
  by_cases hk5:t.k=5
  ·rw [if_pos hk5,if_neg (by omega)]at hR;subst hR;rw [hk5]at h1;(refine sR fun K hK=>?_;(repeat rw [Qa];simp [hk5]);refine hK _ _ _ ?_;clear hK K);refine pT rfl ?_;(refine sR fun K hK=>?_;(repeat rw [Qa];simp));refine cXr (h1) ?_
   (repeat rw [Qa];simp)
   (refine hK _ _ _ ?_;clear hK K);(refine Qe ?_;(try simp only [zs]);refine Qk.ret rfl (.inl ?_);simp [zM])
  ·rw [if_neg hk5,if_neg (by omega)]at hR;subst hR;(refine sR fun K hK=>?_;(repeat rw [Qa];simp [hk5]);refine hK _ _ _ ?_;clear hK K);refine pF rfl ?_;refine Qg (hK1 _ _ _ ?_);(refine sR fun K hK=>?_;(repeat rw [Qa];simp));refine cXr (h3) ?_
   (repeat rw [Qa];simp)
   (refine hK _ _ _ ?_;clear hK K);(refine Qe ?_;(try simp only [zs]);refine Qk.ret rfl (.inl ?_);simp [zM])
 ·refine eN Tryz.func212 rfl (by decide) rfl rfl ?_;(refine sR fun K hK=>?_;(repeat rw [Qa];simp);refine hK _ _ _ ?_;clear hK K);(refine Xe (T:=Qq) 0 (ty:=27) (ds:= [.int .i64 t.k, .int .i64 t.n, .int .i64 t.a, .slice (t.ls.map Qn) .any, .slice (t.ks.map Qj) .any]) rfl rfl (by first | exact⟨rfl, .inr ⟨_,rfl,rfl⟩⟩ | exact⟨rfl, .inl rfl⟩) ?_;simp [D.frzs,D.frz,HO.frz,Qaj,Qao,TK.isAgg,FK.isB,FK.isM,FK.isO,D.isLen]);(refine sR fun K hK=>?_;(repeat rw [Qa];simp);refine hK _ _ _ ?_;clear hK K);refine Qc fun K1 hK1=>?_
  (refine sR fun K hK=>?_;(repeat rw [Qa];simp);refine hK _ _ _ ?_;clear hK K);refine pT rfl ?_;(refine Qi Wa ?_;(repeat rw [Qa];simp));refine hK1 _ _ _ ?_;clear hK1 K1;refine Qc fun K1 hK1=>?_
  by_cases hk5:t.k=13
  ·rw [if_pos hk5,if_pos rfl]at hR;subst hR;rw [hk5]at h2;(refine sR fun K hK=>?_;(repeat rw [Qa];simp [hk5]);refine hK _ _ _ ?_;clear hK K);refine pT rfl ?_;(refine sR fun K hK=>?_;(repeat rw [Qa];simp));refine cXr (h2) ?_
   (repeat rw [Qa];simp)
   (refine hK _ _ _ ?_;clear hK K);(refine Qe ?_;(try simp only [zs]);refine Qk.ret rfl (.inl ?_);simp [zM])
  ·rw [if_neg hk5,if_pos rfl]at hR;subst hR;(refine sR fun K hK=>?_;(repeat rw [Qa];simp [hk5]);refine hK _ _ _ ?_;clear hK K);refine pF rfl ?_;refine Qg (hK1 _ _ _ ?_);(refine sR fun K hK=>?_;(repeat rw [Qa];simp));refine cXr (h4) ?_
   (repeat rw [Qa];simp)
   (refine hK _ _ _ ?_;clear hK K);(refine Qe ?_;(try simp only [zs]);refine Qk.ret rfl (.inl ?_);simp [zM])
theorem Qix(t:T)(ht:okT t):Sp 213 [Qj t] [] (rt (Ts (Qat t))):=by
 have h1:=Qa5 t ht [2,3,4] (by unfold Ql;simp) (by simp);have h2:=Qa5 t ht [2,3,5] (by unfold Ql;simp) (by simp);unfold Qd3 at h1 h2;simp only [List.map_cons,List.map_nil]at h1 h2;rw [show Qi6 t 2=t.kid 2 from rfl,show Qi6 t 3=t.kid 3 from rfl]at h1 h2;rw [show Qi6 t 4=t.kid 4 from rfl]at h1;rw [show Qi6 t 5=t.kid 5 from rfl]at h2;obtain⟨R,hR⟩:∃R,R=Qat t:=⟨_,rfl⟩;rw [<- hR];unfold Qat at hR;generalize t.kid 2=k2 at h1 h2 hR;generalize t.kid 3=k3 at h1 h2 hR;generalize t.kid 4=k4 at h1 hR;generalize t.kid 5=k5 at h2 hR;unfold Ts at h1 h2⊢;have hEt:=Qb t;rw [hEt]at h1 h2⊢;refine eN Tryz.func213 rfl (by decide) rfl rfl ?_;(refine sR fun K hK=>?_;(repeat rw [Qa];simp);refine hK _ _ _ ?_;clear hK K);refine Qc fun K1 hK1=>?_
 (refine sR fun K hK=>?_;(repeat rw [Qa];simp);refine hK _ _ _ ?_;clear hK K);refine Qy ?_;by_cases k18:t.k=18
 ·rw [if_pos k18]at hR;subst hR;rw [k18]at h1;(refine sR fun K hK=>?_;(repeat rw [Qa];simp [k18]);refine hK _ _ _ ?_;clear hK K);refine pT rfl ?_;(refine sR fun K hK=>?_;(repeat rw [Qa];simp));refine cXr (h1) ?_
  (repeat rw [Qa];simp)
  (refine hK _ _ _ ?_;clear hK K);(refine Qe ?_;(try simp only [zs]);refine Qk.ret rfl (.inl ?_);simp [zM])
 ·rw [if_neg k18]at hR;(refine sR fun K hK=>?_;(repeat rw [Qa];simp [k18]);refine hK _ _ _ ?_;clear hK K);refine pF rfl ?_;by_cases k21:t.k=21
  ·rw [if_pos k21]at hR;subst hR;rw [k21]at h2;(refine sR fun K hK=>?_;(repeat rw [Qa];simp [k21]);refine hK _ _ _ ?_;clear hK K);refine pT rfl ?_;(refine sR fun K hK=>?_;(repeat rw [Qa];simp));refine cXr (h2) ?_
   (repeat rw [Qa];simp)
   (refine hK _ _ _ ?_;clear hK K);(refine Qe ?_;(try simp only [zs]);refine Qk.ret rfl (.inl ?_);simp [zM])
  ·rw [if_neg k21]at hR;subst hR;(refine sR fun K hK=>?_;(repeat rw [Qa];simp [k21]);refine hK _ _ _ ?_;clear hK K);refine pF rfl ?_;refine Qg (hK1 _ _ _ ?_);(refine sR fun K hK=>?_;(repeat rw [Qa];simp);refine hK _ _ _ ?_;clear hK K);(refine Qe ?_;(try simp only [zs]);refine Qk.ret rfl (.inl ?_);simp [zM])
def Quc(l:List C):Option (Bool×Int) ->Out ->List HO ->Prop
 | some (b,g)=>fun o hc=>o.fgt= .ret (.bool b)/\hc=Wy g l
 | none=>fun o hc=>o= .pan Xw/\hc= [.dead]
theorem Xj{l:List C}{b:Bool}{g:Int}:Quc l (some (b,g))=fun o hc=>o.fgt= .ret (.bool b)/\hc=Wy g l:=rfl
theorem Xr{l:List C}:Quc l none=fun o hc=>o= .pan Xw/\hc= [.dead]:=rfl
def okP(f:Int)(t:T):Prop:=okT t/\t.pot+7 * f.toNat<=PM
theorem okP.le{f g:Int}{t:T}(h:okP f t)(hg:g<=f):okP g t:=⟨h.1,by have:=h.2;omega⟩
theorem okP.head{l:List C}(hcs:okCs l){f g:Int}{t u:T}(h:okP f t)(hd:HdO l t f (some (u,g))):okP g u:=by
 obtain⟨m,h1,h2,h3⟩:=hd.cost;have:=h1.pot;have:=h.2;exact⟨h1.ok hcs.ok h.1,by omega⟩
mutual
theorem Qna(n fr:Int):∀(t:T) (d:Int),(T.walk (Qau n fr) t d).pot=t.pot
 | .mk k m a ls ks,d=>by rw [Qfd,T.pot,T.pot,Qos n fr k ks 0 d,T.walks_length]
theorem Qos(n fr k:Int):∀(ks:List T) (i:Nat) (d:Int),T.pots (T.walks (Qau n fr) k ks i d)=T.pots ks
 | [],_,_=>by rw [T.walks]
 | t::r,i,d=>by rw [T.walks,T.pots,T.pots,Qna n fr t,Qos n fr k r]
end
theorem Qxs(t:T)(n fr:Int):(t.lift n fr 0).pot<=t.pot:=Nat.le_of_eq (Qna n fr t 0)
theorem Qxt{k:Int}{t a:T}(h:a∈Qar k t):a.pot<=t.pot+7:=by
 unfold Qar at h;split at h
 ·split at h
  ·simp only [List.mem_cons,List.not_mem_nil,or_false]at h;rcases h with rfl | rfl
   ·have:=Qbo t 0;omega
   ·have:=Qbo t 1;omega
  ·simp only [List.mem_cons,List.not_mem_nil,or_false]at h;subst h;have:=Qbo t 1;omega
 ·split at h
  ·simp only [List.mem_cons,List.not_mem_nil,or_false]at h;rcases h with rfl | rfl
   ·unfold ofT;rw [T.pot,T.pots,T.pots,show Qi5 14 [t].length=0 from rfl];omega
   ·unfold ofT;rw [T.pot,T.pots,T.pots,show Qi5 15 [t].length=0 from rfl];omega
  ·simp only [List.mem_cons,List.not_mem_nil,or_false]at h;subst h;unfold Qhx ofT;have:=Qxs t 1 0;rw [T.pot,T.pots,T.pots,T.pots,T.pot,T.pots,show Qi5 1 ([]:List T).length=0 from rfl];generalize t.lift 1 0 0=u at this;rw [show Qi5 6 [u,T.mk 1 0 0 [] []].length=0 from rfl];omega
theorem Qxu{k:Int}{t a:T}(ht:okT t)(h:a∈Qar k t):okT a:=by
 unfold Qar at h;split at h
 ·split at h
  ·simp only [List.mem_cons,List.not_mem_nil,or_false]at h;rcases h with rfl | rfl <;> exact Qaf ht _
  ·simp only [List.mem_cons,List.not_mem_nil,or_false]at h;subst h;exact Qaf ht _
 ·split at h
  ·simp only [List.mem_cons,List.not_mem_nil,or_false]at h;rcases h with rfl | rfl
   ·exact Qnd (by unfold I64;omega) (by unfold Ql;simp) fun x hx=>by rw [List.mem_singleton.1 hx];exact ht
   ·exact Qnd (by unfold I64;omega) (by unfold Ql;simp) fun x hx=>by rw [List.mem_singleton.1 hx];exact ht
  ·simp only [List.mem_cons,List.not_mem_nil,or_false]at h;subst h;exact Qai (by unfold I64;omega) (Qa9 1 0 0 ht) (Qnd (by unfold I64;omega) (by unfold Ql;simp) fun x hx=>by cases hx)
theorem Qvc{t a:T}(h:a∈Qat t):a∈t.ks\/∃i,a=t.kid i:=by
 unfold Qat at h;split at h
 ·simp only [List.mem_cons,List.not_mem_nil,or_false]at h;rcases h with rfl | rfl | rfl <;> exact .inr ⟨_,rfl⟩
 ·split at h
  ·simp only [List.mem_cons,List.not_mem_nil,or_false]at h;rcases h with rfl | rfl | rfl <;> exact .inr ⟨_,rfl⟩
  ·exact .inl h
theorem Qj5{f:Int}{t a:T}(ht:okP f t)(h:a∈Qat t):okP f a:=by
 rcases Qvc h with h | ⟨i,rfl⟩
 ·refine⟨ht.1.ks a h,?_⟩;have h2:=ht.2;cases t with
  | mk k n x ls ks=>have:=Qs3 (show a∈ks from h);rw [T.pot]at h2;omega
 ·exact⟨Qaf ht.1 i,by have:=Qbo t i;have:=ht.2;omega⟩
theorem Qhc{k f:Int}{t a:T}(h0:0<=f)(ht:okP (f+1) t)(h:a∈Qar k t):okP f a:=⟨Qxu ht.1 h,by have:=Qxt h;have:=ht.2;omega⟩
theorem Qrl{f:Int}{t:T}(ht:okP f t):(Qat t).length<=Ql:=by
 unfold Qat;split
 ·unfold Ql;simp
 ·split
  ·unfold Ql;simp
  ·exact ht.1.kl
theorem Qly(k:Int)(t:T):(Qar k t).length<=Ql:=by unfold Qar Ql;split <;> split <;> simp
def Qk4(l:List C)(h:Nat):Prop:=∀p q f o,0<=f ->f<=1073741824 ->okP f p ->okP f q ->CR l h [p] [q] f o ->Sp 136 [.box 0 0,Qj p,Qj q] (Wy f l) (Quc l o)
set_option maxHeartbeats 4000000 in
theorem Qhy{l:List C}{h:Nat}(H:Qk4 l h){ps qs:List T}{f:Int}{o:Option (Bool×Int)}(hlen:ps.length=qs.length)(hl:ps.length<=Ql)(h0:0<=f)(h1:f<=1073741824)(hp:∀p,p∈ps ->okP f p)(hq:∀q,q∈qs ->okP f q)(hcr:CR l h ps qs f o) :
  Sp 134 [.box 0 0,Ts ps,Ts qs] (Wy f l) (Quc l o):=by
 have hl0:=hl;unfold Ql at hl0;unfold Ts Wy Cs;refine eN Tryz.func134 rfl (by decide) rfl rfl ?_;(refine sR fun K hK=>?_;(repeat rw [Qa];simp);refine hK _ _ _ ?_;clear hK K);refine Qc fun K1 hK1=>?_
 (refine sR fun K hK=>?_;(repeat rw [Qa];simp);refine hK _ _ _ ?_;clear hK K);refine Xm Wa Qf (ti:=3) (tk:=10) (tn:=9) (td:=11) (ts:=24) [6,7,10,11,12,13,14,15,16,17,18,19,20,21,22,23,24] [] (ps.length) (fun k ys hl=>∃(g:Int),ys= []/\CR l h (ps.drop k) (qs.drop k) g o/\0<=g/\g<=f/\hl= [.cells 181 [.int .i64 g, .slice (l.map Qbn) .any]]) rfl rfl rfl rfl rfl rfl rfl rfl rfl rfl rfl rfl (by simp) (by decide) rfl (by first | assumption | omega | (unfold Ql;omega)) rfl (by kernel_rfl) (by decide) ?_ ?_ ?_
 ·exact⟨f,rfl,hcr,h0,Int.le_refl _,rfl⟩
 ·rintro i ys hl A hi ⟨g,rfl,hg,hg0,hg1,rfl⟩ hA hA2;simp only [Qh,List.set,List.map_cons,List.map_nil,List.cons_append,List.nil_append];have hi':(i:Int)<ps.length:=by omega
  have hi2:i<qs.length:=by omega
  have hi2':(i:Int)<qs.length:=by omega
  rw [List.drop_eq_getElem_cons hi,List.drop_eq_getElem_cons hi2]at hg;have hpo:=(hp _ (List.getElem_mem hi)).le hg1;have hqo:=(hq _ (List.getElem_mem hi2)).le hg1;obtain⟨x,hx⟩:∃x,ps[i]=x:=⟨_,rfl⟩;obtain⟨y,hy⟩:∃y,qs[i]=y:=⟨_,rfl⟩;rw [hx,hy]at hg;rw [hx]at hpo;rw [hy]at hqo;have hEx:=Qb x;have hEy:=Qb y;have hone:=fun o'=>H x y g o' hg0 (by omega) hpo hqo
  rw [hEx,hEy]at hone;unfold Wy Cs at hone;have hsp:(CR l h [x] [y] g none/\o=none)\/(∃g',CR l h [x] [y] g (some (false,g'))/\o=some (false,g'))\/∃g',CR l h [x] [y] g (some (true,g'))/\CR l h (ps.drop (i+1)) (qs.drop (i+1)) g' o:=by
   cases h with
   | zero=>cases hg
   | succ h=>exact hg.split
  rcases hsp with ⟨c1,rfl⟩ | ⟨g',c1,rfl⟩ | ⟨g',c1,c2⟩
  ·have one:=hone _ c1;rw [Xr]at one;unfold Xw at one;(refine sR fun K hK=>?_;(repeat rw [Qa];simp [hi,hi']);refine hK _ _ _ ?_;clear hK K);(refine Qc fun K hK=>?_;refine dR fun KT hKT=>?_;(repeat rw [Qd];simp [hi,hi',hx,hi2,hi2',hy,hEx,hEy]));refine cYo [0] true false (one) (fun o h e=>e) ?_;simp [zU];((try simp only [Qt,Qu,Qr,Qw,Wi]);(repeat(refine Wr _ _ _ _ (by kernel_rfl) ?_;simp only [Qr,List.set,List.nil_append,List.cons_append,Nat.reduceAdd]));(try simp only [Qm]));(refine hKT _ _ _ _ (by kernel_rfl) ?_;clear hKT KT);simp [Xi];rw [Xr];unfold Xw;((try simp only [zs]);refine Qk.pan (.inr ⟨[],by decide,by simp,?_⟩);simp [zM])
  ·have one:=hone _ c1;rw [Xj]at one;unfold Wy Cs at one;(refine sR fun K hK=>?_;(repeat rw [Qa];simp [hi,hi']);refine hK _ _ _ ?_;clear hK K);(refine Qc fun K hK=>?_;refine dR fun KT hKT=>?_;(repeat rw [Qd];simp [hi,hi',hx,hi2,hi2',hy,hEx,hEy]));refine cYo [0] true true (one) (fun o h e=>e) ?_;simp [zU];(try simp only [zq]);(repeat rw [Qd];simp);(refine hKT _ _ _ _ (by kernel_rfl) ?_;clear hKT KT);(refine hK _ _ _ ?_;clear hK K);refine pT rfl ?_;(refine sR fun K hK=>?_;(repeat rw [Qa];simp);refine hK _ _ _ ?_;clear hK K);rw [Xj];unfold Wy Cs;(refine Qe ?_;(try simp only [zs]);refine Qk.ret rfl (.inr ⟨[],by decide,by simp,?_⟩);simp [zM])
  ·have one:=hone _ c1;have hle:=c1.le hg0 _ _ rfl;rw [Xj]at one;unfold Wy Cs at one;(refine sR fun K hK=>?_;(repeat rw [Qa];simp [hi,hi']);refine hK _ _ _ ?_;clear hK K);(refine Qc fun K hK=>?_;refine dR fun KT hKT=>?_;(repeat rw [Qd];simp [hi,hi',hx,hi2,hi2',hy,hEx,hEy]));refine cYo [0] true true (one) (fun o h e=>e) ?_;simp [zU];(try simp only [zq]);(repeat rw [Qd];simp);(refine hKT _ _ _ _ (by kernel_rfl) ?_;clear hKT KT);(refine hK _ _ _ ?_;clear hK K);refine pF rfl ?_;refine Qg ?_;(refine hA2 ([]) _ _ _ (LeT.refl _) (by decide) (by simp) (by simp [zM,Qh]) ?_ rfl;simp [zM]);exact⟨g',c2,hle.1,by omega,rfl⟩
 ·rintro ys hl tl' ⟨g,rfl,hg,hg0,hg1,rfl⟩ htl;refine hK1 _ _ _ (Xn htl ?_);simp only [Qh,List.set,List.map_cons,List.map_nil,List.cons_append,List.nil_append];rw [List.drop_length,hlen,List.drop_length]at hg;cases hg;rw [Xj];unfold Wy Cs;(refine sR fun K hK=>?_;(repeat rw [Qa];simp);refine hK _ _ _ ?_;clear hK K);(refine Qe ?_;(try simp only [zs]);refine Qk.ret rfl (.inr ⟨[],by decide,by simp,?_⟩);simp [zM])
end Go.Proofs.YtgloldepdhgfaaaGreatDoor
namespace Go.Proofs.YtgloldepdhgfaaaGreatDoor
set_option linter.unusedSimpArgs false
set_option linter.unusedVariables false
open Go.RowKit
def Yb(f:Int):Int:=401300000 - 20060 * f
def okY(f:Int)(t:T):Prop:=okT t/\(t.pot:Int)<=Yb f
structure Sub (n : Int) (cs : List Int) (c : List T) (t : T) : Prop where
 core:Qcf n cs t (c.length:Int)=true
 ok:okT t
 sz:t.nsz<=20000
structure Cx (c : List T) (f : Int) : Prop where
 ok:∀x,x∈c ->okT x/\x.pot<=20000
 len:(c.length:Int)+f<=1000000
theorem Cx.le{c:List T}{f g:Int}(h:Cx c f)(hg:g<=f):Cx c g:=⟨h.ok,by have:=h.len;omega⟩
theorem okY.le{f g:Int}{t:T}(h:okY f t)(hg:g<=f):okY g t:=⟨h.1,by have:=h.2;unfold Yb at *;omega⟩
theorem okY.okP{f:Int}{t:T}(h0:0<=f)(h1:f<=20000)(h:okY f t):okP f t:=⟨h.1,by have:=h.2;unfold Yb at this;unfold PM;omega⟩
def okI(f0 f:Int)(t:T):Prop:=okT t/\(t.pot:Int)<=100000+20060 * (f0 - f)
theorem okI.okY{f0 f:Int}{t:T}(h:okI f0 f t)(h0:f0<=20000):okY f t:=⟨h.1,by have:=h.2;unfold Yb;omega⟩
theorem Qt0{n:Int}{cs:List Int}(t:T):∀{sc:Int},Qcf n cs t sc=true ->t.pot=t.nsz:=by
 induction t using T.ind with
 | h k m a ls ks ih =>
  intro sc h;obtain⟨h1,h2⟩:=Qik.1 h;obtain⟨-, -,h3⟩:=Qhj.1 h1;have h3:(ks.length:Int)=Qwa k a:=h3;have hl:Qi5 k ks.length=0:=by
   unfold Qi5;unfold Qwa at h3;split
   ·rename_i e;subst e;simp at h3;omega
   ·split
    ·rename_i e;rcases e with rfl | rfl <;> simp at h3 <;> omega
    ·split
     ·rename_i e;subst e;simp at h3;omega
     ·split
      ·rename_i e;subst e;simp at h3;omega
      ·rfl
  rw [T.pot,T.nsz,hl];have key:∀zs:List T,(∀z,z∈zs ->z.pot=z.nsz) ->T.pots zs=T.nszs zs:=fun zs=>by
   induction zs with
   | nil=>intro _;rfl
   | cons z r ih=>intro H;rw [T.pots,T.nszs,H z (List.mem_cons_self ..),ih fun y hy=>H y (List.mem_cons_of_mem _ hy)]
  rw [key ks fun z hz=>by
   obtain⟨i,hi,rfl⟩:=List.getElem_of_mem hz
   exact ih _ (List.getElem_mem hi) (h2 i hi)]
theorem Sub.pot{n:Int}{cs:List Int}{c:List T}{t:T}(h:Sub n cs c t):t.pot<=20000:=by rw [Qt0 t h.core];exact h.sz
theorem Sub.okY{n:Int}{cs:List Int}{c:List T}{t:T}(h:Sub n cs c t){f:Int}(h1:f<=20000):okY f t:=⟨h.ok,by have:=h.pot;unfold Yb;omega⟩
theorem Sub.in{n:Int}{cs:List Int}{c:List T}{t:T}(h:Sub n cs c t):(t.ks.length:Int)=Qwa t.k t.a:=(Qht h.core).2.2
theorem Sub.kid{n:Int}{cs:List Int}{c:List T}{t:T}(h:Sub n cs c t){i:Nat}(hi:i<t.ks.length)(hb:Qa7 t.k (i:Int)=false):Sub n cs c (t.kid i) :=
 ⟨by have:=Qt2 h.core hi;rwa [Qzz hb]at this,Qaf h.ok i,Nat.le_trans (Qyv t i) h.sz⟩
theorem Sub.kidB{n:Int}{cs:List Int}{c:List T}{t:T}(h:Sub n cs c t)(hc:c.length<=1000000)(x:T){i:Nat}(hi:i<t.ks.length)(hb:Qa7 t.k (i:Int)=true):Sub n cs (c++ [x]) (t.kid i) :=
 ⟨by have:=Qt2 h.core hi;rw [Qv8 hb (by omega)]at this;rw [List.length_append];exact this,Qaf h.ok i,Nat.le_trans (Qyv t i) h.sz⟩
theorem Cx.below{c:List T}{f:Int}(h:Cx c f){n:Int}{cs:List Int}{c':List T}{t:T}(hs:Sub n cs c' t){g:Int}(hg:g<=f - 1):Cx (c++ [t]) g :=
 ⟨fun x hx=>by
  rcases List.mem_append.1 hx with hx | hx
  ·exact h.ok x hx
  ·rw [List.mem_singleton.1 hx];exact⟨hs.ok,hs.pot⟩,by rw [List.length_append];have:=h.len;simp;omega⟩
theorem Qy6{l:List C}(hl:∀c,c∈l ->okC c){y x:T}{f g:Int}(h0:0<=f)(hy:okT y)(h:hdR l y f= .ok (x,g)):0<=g/\g<=f/\okT x/\(x.pot:Int)<=y.pot+7 * (f - g):=by
 rcases Qns l y h0 with ⟨v,h1,h2⟩ | ⟨h1,h2⟩
 ·rw [h]at h1;cases h1;have:=h2.le;obtain⟨m,h3,h4,h5⟩:=h2.cost;have hp:=h3.pot;exact⟨this.1,this.2,h3.ok hl hy,by omega⟩
 ·rw [h]at h1;cases h1
theorem Qru{l:List C}(hl:∀c,c∈l ->okC c){y x:T}{f g:Int}(h0:0<=f)(hy:okY f y)(h:hdR l y f= .ok (x,g)):0<=g/\g<=f/\okY g x:=by
 obtain⟨a,b,c,d⟩:=Qy6 hl h0 hy.1 h;refine⟨a,b,c,?_⟩;have:=hy.2;unfold Yb at *;omega
theorem Wcr(t:T):(t.kid 0).pot+(t.kid 1).pot<=t.pot+1:=by
 cases t with
 | mk k n a ls ks =>
  have h1:(T.mk k n a ls ks).kid 0=ks.getD 0 Xa:=rfl;have h2:(T.mk k n a ls ks).kid 1=ks.getD 1 Xa:=rfl;rw [h1,h2,T.pot]
  match ks with
  | []=>rw [T.pots];simp [Qc8]
  | [x]=>rw [T.pots,T.pots];simp [Qc8];try omega
  | x::y::r=>rw [T.pots,T.pots];simp;try omega
theorem asR_ok{l:List C}{y:T}{k e f g:Int}{v:T×T}(h:asR l y k e f= .ok (v,g)):∃x,hdR l y f= .ok (x,g)/\x.k=k/\v=(x.kid 0,x.kid 1):=by
 unfold asR at h;obtain⟨x,f1,h1,h⟩:=Rs.next_some h;split at h
 ·cases h;exact⟨x,h1,by assumption,rfl⟩
 ·cases h
theorem Qbe{l:List C}(hl:∀c,c∈l ->okC c){y:T}{k e f g:Int}{v:T×T}(h0:0<=f)(hy:okY f y)(h:asR l y k e f= .ok (v,g)):0<=g/\g<=f/\okY g v.1/\okY g v.2/\((v.1.pot+v.2.pot:Nat):Int)<=y.pot+7 * (f - g)+1:=by
 obtain⟨x,h1, -,rfl⟩:=asR_ok h;obtain⟨a,b,c⟩:=Qru hl h0 hy h1;obtain⟨-, -, -,d⟩:=Qy6 hl h0 hy.1 h1;have p0:=Qbo x 0;have p1:=Qbo x 1;have p2:=Wcr x;have:=c.2;exact⟨a,b,⟨Qaf c.1 0,by show((x.kid 0).pot:Int)<=_;omega⟩,⟨Qaf c.1 1,by show((x.kid 1).pot:Int)<=_;omega⟩,by show(((x.kid 0).pot+(x.kid 1).pot:Nat):Int)<=_;omega⟩
theorem Qew{l:List C}{a b:T}{e f g:Int}{u:Unit}(h0:0<=f)(h:oneR l a b e f= .ok (u,g)):0<=g/\g<=f:=by
 unfold oneR at h;obtain⟨x,f1,h1,h⟩:=Rs.next_some h;rcases Qty l a b h0 with ⟨v,q,h2,h3⟩ | ⟨q,h2,h3⟩
 ·rw [h1]at h2;cases h2;have:=h3.le h0 _ _ rfl;split at h
  ·cases h;exact this
  ·cases h
 ·rw [h1]at h2;cases h2
theorem lqR_ok{l:List C}{a b:T}{f g:Int}{v:Bool}(h0:0<=f)(h:lqR l a b f= .ok (v,g)):0<=g/\g<=f:=by
 rcases Qnh l a b h0 with ⟨v,q,h2,h3⟩ | ⟨q,h2,h3⟩
 ·rw [h]at h2;cases h2;exact h3.le _ _ rfl
 ·rw [h]at h2;cases h2
theorem Qtd{l:List C}(hl:∀c,c∈l ->okC c){y:T}{f g:Int}{i:LV}(h0:0<=f)(hy:okT y)(h:lvR l y f= .ok (i,g)):0<=g/\g<=f/\okL i:=by
 unfold lvR at h;obtain⟨x,f1,h1,h⟩:=Rs.next_some h;obtain⟨a,b,c, -⟩:=Qy6 hl h0 hy h1;split at h
 ·rename_i hx;cases h;refine⟨a,b,c.ls _ ?_⟩;rw [List.getD_eq_getElem?_getD,List.getElem?_eq_getElem (by omega)];exact List.getElem_mem _
 ·cases h
theorem Qgl{n:Int}{t a u:T}{f g:Int}(h0:0<=f)(ht:okT t)(ha:okT a)(h:Qqc t a f= .ok (u,g)):0<=g/\g<=f - 1/\okT u/\(u.nsz:Int)=f - g/\u=t.put [a] 0:=by
 unfold Qqc at h;split at h
 ·cases h;have hn:(t.put [a] 0).nsz=t.sd a.nsz 0:=Qrk a t 0;have hp:=T.nsz_pos (t.put [a] 0);refine⟨by omega,by omega,?_,by omega,rfl⟩;exact Qoq (fun b hb=>by rw [List.mem_singleton.1 hb];exact ha) 0 ht
 ·cases h
section
variable {l : List C} {n : Int} {I : List T -> T -> Int -> Rs T} {K : List T -> T -> T -> Int -> Rs Unit}
def IB(l:List C)(n:Int)(I:List T ->T ->Int ->Rs T):Prop:=∀c t f s g,0<=f ->f<=20000 ->Sub n (l.map C.lv) c t ->Cx c f ->I c t f= .ok (s,g) ->0<=g/\g<=f - 1/\okI f g s
def KB(l:List C)(n:Int)(K:List T ->T ->T ->Int ->Rs Unit):Prop:=∀c t y f u g,0<=f ->f<=20000 ->Sub n (l.map C.lv) c t ->Cx c f ->okY f y ->K c t y f= .ok (u,g) ->0<=g/\g<=f - 1
theorem okI.at{f0 f1 f:Int}{t:T}(h:okI f0 f t)(h1:f0<=f1):okI f1 f t:=⟨h.1,by have:=h.2;omega⟩
theorem Qag(hl:∀c,c∈l ->okC c)(hI:IB l n I){c:List T}{t:T}{f g:Int}{i:LV}(h0:0<=f)(h1:f<=20000)(hs:Sub n (l.map C.lv) c t)(hc:Cx c f)(h:sortR l I c t f= .ok (i,g)):0<=g/\g<=f - 1/\okL i:=by
 unfold sortR at h;obtain⟨s,f1,e1,h⟩:=Rs.next_some h;obtain⟨a,b,d⟩:=hI _ _ _ _ _ h0 h1 hs hc e1;obtain⟨a',b',d'⟩:=Qtd hl a d.1 h;exact⟨a',by omega,d'⟩
theorem Qf3(hl:∀c,c∈l ->okC c)(hI:IB l n I){c:List T}{p t:T}{f g:Int}{u:Unit}(h0:0<=f)(h1:f<=20000)(hs:Sub n (l.map C.lv) c p)(hc:Cx c f)(h:motiveR l I c p t f= .ok (u,g)):0<=g/\g<=f - 1:=by
 unfold motiveR at h;obtain⟨s,f1,e1,h⟩:=Rs.next_some h;obtain⟨v,f2,e2,h⟩:=Rs.next_some h;obtain⟨_,f3,e3,h⟩:=Rs.next_some h;obtain⟨j,f4,e4,h⟩:=Rs.next_some h;cases h;obtain⟨a,b,d⟩:=hI _ _ _ _ _ h0 h1 hs hc e1;obtain⟨a2,b2,d2,d3, -⟩:=Qbe hl a (d.okY h1) e2;obtain⟨a3,b3⟩:=Qew a2 e3;obtain⟨a4,b4, -⟩:=Qtd hl a3 d3.1 e4;exact⟨a4,by omega⟩
theorem Qae(k:Int)(x y:T):(ofT k [x,y]).pot<=7+x.pot+y.pot:=by unfold ofT;rw [T.pot,T.pots,T.pots,T.pots];have:=Qf5 k [x,y].length;omega
theorem Qq7(k:Int)(x y z:T):(ofT k [x,y,z]).pot<=7+x.pot+y.pot+z.pot:=by unfold ofT;rw [T.pot,T.pots,T.pots,T.pots,T.pots];have:=Qf5 k [x,y,z].length;omega
theorem pot_of1(k:Int)(x:T):(ofT k [x]).pot<=7+x.pot:=by unfold ofT;rw [T.pot,T.pots,T.pots];have:=Qf5 k [x].length;omega
theorem Qxr(k:Int):(ofT k []).pot<=7:=by unfold ofT;rw [T.pot,T.pots];have:=Qf5 k ([]:List T).length;omega
theorem Qsm{i:LV}(h:okL i):okT (Qiq i):= .mk (by unfold I64;omega) (by unfold I64;omega) (by unfold I64;omega) (by unfold Ql;simp) (fun x hx=>by rw [List.mem_singleton.1 hx];exact h) (by simp) (fun _ h=>nomatch h)
theorem Qm9(i:LV):(Qiq i).pot<=7:=by unfold Qiq;rw [T.pot,T.pots];have:=Qf5 2 ([]:List T).length;omega
theorem Qsv(i:LV):okL (Qfa i):=by unfold Qfa;split <;> exact Qnf _
theorem Qry{k:Int}(hk:I64 k):okT (Qje k):= .mk (by unfold I64;omega) hk (by unfold I64;omega) (by simp) (fun _ h=>nomatch h) (by simp) (fun _ h=>nomatch h)
theorem Qtx{k a:Int}(hk:I64 k)(ha:I64 a):okT (Qii k a):= .mk (by unfold I64;omega) hk ha (by simp) (fun _ h=>nomatch h) (by simp) (fun _ h=>nomatch h)
theorem Qmm{k:Int}(hk:I64 k):okT (Qd5 k):= .mk (by unfold I64;omega) hk (by unfold I64;omega) (by simp) (fun _ h=>nomatch h) (by simp) (fun _ h=>nomatch h)
theorem Qq8(k:Int):(Qje k).pot=1:=rfl
theorem Qs4(k a:Int):(Qii k a).pot=1:=rfl
theorem Qq5(k:Int):(Qd5 k).pot=1:=rfl
theorem Qx1{k:Int}{x y z:T}(hk:I64 k)(hx:okT x)(hy:okT y)(hz:okT z):okT (ofT k [x,y,z]):=Qnd hk (by unfold Ql;simp) fun t h=>by
 simp only [List.mem_cons,List.not_mem_nil,or_false]at h;rcases h with rfl | rfl | rfl
 ·exact hx
 ·exact hy
 ·exact hz
theorem Wdw{k:Int}{x:T}(hk:I64 k)(hx:okT x):okT (ofT k [x]):=Qnd hk (by unfold Ql;simp) fun t h=>by rw [Qgp h];exact hx
theorem Wdx{k:Int}(hk:I64 k):okT (ofT k []):=Qnd hk (by simp) fun t h=>by cases h
theorem Qc4{k:Int}(h: -1000000<=k/\k<=1000000:=by omega):I64 k:=by unfold I64;omega
theorem Qb8(t:T)(m fr:Int):(t.lift m fr 0).pot=t.pot:=Qna m fr t 0
theorem Qw2{a b p:T}(ha:okT a)(hb:okT b)(hp:okT p):okT (Qjm a b p)/\(Qjm a b p).pot<=200+2 * a.pot+3 * b.pot+2 * p.pot:=by
 have v0:=Qmm (k:=0) Qc4;have v1:=Qmm (k:=1) Qc4;have v2:=Qmm (k:=2) Qc4;have la:=Qa9 2 0 0 ha;have lb:=Qa9 2 1 0 hb;have lb':=Qa9 1 0 0 hb;have lp:=Qa9 3 0 0 hp;unfold Qjm;refine⟨Qai Qc4 ha (Qai Qc4 (Qai Qc4 hb (Qai Qc4 la lb)) (Qai Qc4 (Qai Qc4 lb' (Qai Qc4 lp (Qai Qc4 v1 v0))) (Qai Qc4 lp (Qai Qc4 v2 v1)))),?_⟩;have e1:=Qae 4 a (ofT 4 [ofT 4 [b,ofT 16 [a.lift 2 0 0,b.lift 2 1 0]],ofT 4 [ofT 4 [b.lift 1 0 0,ofT 6 [p.lift 3 0 0,ofT 6 [Qd5 1,Qd5 0]]],ofT 6 [p.lift 3 0 0,ofT 17 [Qd5 2,Qd5 1]]]]);have e2:=Qae 4 (ofT 4 [b,ofT 16 [a.lift 2 0 0,b.lift 2 1 0]]) (ofT 4 [ofT 4 [b.lift 1 0 0,ofT 6 [p.lift 3 0 0,ofT 6 [Qd5 1,Qd5 0]]],ofT 6 [p.lift 3 0 0,ofT 17 [Qd5 2,Qd5 1]]]);have e3:=Qae 4 b (ofT 16 [a.lift 2 0 0,b.lift 2 1 0]);have e4:=Qae 16 (a.lift 2 0 0) (b.lift 2 1 0);have e5:=Qae 4 (ofT 4 [b.lift 1 0 0,ofT 6 [p.lift 3 0 0,ofT 6 [Qd5 1,Qd5 0]]]) (ofT 6 [p.lift 3 0 0,ofT 17 [Qd5 2,Qd5 1]]);have e6:=Qae 4 (b.lift 1 0 0) (ofT 6 [p.lift 3 0 0,ofT 6 [Qd5 1,Qd5 0]]);have e7:=Qae 6 (p.lift 3 0 0) (ofT 6 [Qd5 1,Qd5 0]);have e8:=Qae 6 (Qd5 1) (Qd5 0);have e9:=Qae 6 (p.lift 3 0 0) (ofT 17 [Qd5 2,Qd5 1]);have e10:=Qae 17 (Qd5 2) (Qd5 1);rw [Qq5,Qq5]at e8 e10;rw [Qb8]at e4 e6 e7 e9;rw [Qb8]at e4;omega
theorem Wa1(hl:∀c,c∈l ->okC c/\c.ty.nsz<=14000)(m:Int)(lv:List LV):okT (Qoe l m lv)/\(Qoe l m lv).pot<=98000:=by
 unfold Qoe;split
 ·rename_i h;split
  ·have hm:=hl _ (List.getElem_mem h.2);refine⟨Qo6 _ _ hm.1.2.1,?_⟩;have:=Qfk (T.levels (l[m.toNat]'h.2).ty lv 0);have e:(T.levels (l[m.toNat]'h.2).ty lv 0).nsz=(l[m.toNat]'h.2).ty.nsz:=Qh8 lv _ 0;omega
  ·exact⟨Qcy,by rw [Qc8];omega⟩
 ·exact⟨Qcy,by rw [Qc8];omega⟩
structure Kc (l : List C) : Prop where
 cs:okCs l
 ty:∀c,c∈l ->c.ty.nsz<=14000
theorem Kc.ok(h:Kc l):∀c,c∈l ->okC c:=h.cs.ok
theorem Sub.ks{cs:List Int}{c:List T}{t:T}(h:Sub n cs c t){k:Int}(hk:t.k=k){m:Nat}(hm:Qwa k t.a=m:=by rfl):t.ks.length=m:=by
 have:=h.in;rw [hk,hm]at this;omega
theorem letP_ok{cs:List Int}{c:List T}{b a:T}{f:Int}(hb:Sub n cs (c++ [a]) b)(ha:Sub n cs c a)(hc:c.length<=1000000)(hn:(b.put [a] 0).nsz<=20000):Sub n cs c (b.put [a] 0):=by
 refine⟨?_,Qoq (fun x hx=>by rw [List.mem_singleton.1 hx];exact ha.ok) 0 hb.ok,hn⟩;have d1:=b.deep_nsz;have d2:=a.deep_nsz;have s1:=hb.sz;have s2:=ha.sz;have h1:=hb.core;rw [List.length_append]at h1;have:=Wc9 (n:=n) (cs:=cs) (bys:= [a]) (s0:=(c.length:Int)) (by omega) (fun x hx=>by rw [List.mem_singleton.1 hx];exact⟨ha.core,by unfold DM;omega⟩) (by unfold Ql;simp) b 0 (by omega) ⟨by simp;omega,by simp;omega⟩ ⟨by omega,by omega⟩ (by omega) (by unfold DM;omega);have e:Qcf n cs b ((c.length:Int)+(([a]:List T).length:Int)+0)=true:=by
  rw [show((c.length:Int)+(([a]:List T).length:Int)+0)=((c.length+ [a].length:Nat):Int) by simp];exact h1
 have:=this e;rw [show((c.length:Int)+0)=(c.length:Int) by omega]at this;exact this
end
end Go.Proofs.YtgloldepdhgfaaaGreatDoor
namespace Go.Proofs.YtgloldepdhgfaaaGreatDoor
set_option linter.unusedSimpArgs false
set_option linter.unusedVariables false
open Go.RowKit
theorem getDi{ks:List T}{i:Nat}(h:i<ks.length):ks.getD i Xa=ks[i]:=by rw [List.getD_eq_getElem?_getD,List.getElem?_eq_getElem h];rfl
theorem getDo{ks:List T}{i:Nat}(h:¬ i<ks.length):ks.getD i Xa=Xa:=by rw [List.getD_eq_getElem?_getD,List.getElem?_eq_none (by omega)];rfl
section
variable {l : List C} {n : Int} {I : List T -> T -> Int -> Rs T} {K : List T -> T -> T -> Int -> Rs Unit}
theorem Qvx{c:List T}{f:Int}(hc:Cx c f)(i:Nat):okT (c.getD i Xa)/\(c.getD i Xa).pot<=20000:=by
 by_cases h:i<c.length
 ·rw [getDi h];exact hc.ok _ (List.getElem_mem h)
 ·rw [getDo h];exact⟨Qcy,by rw [Qc8];omega⟩
theorem Qbt{f g:Int}{t:T}(h:okT t)(hp:t.pot<=100000)(hg:g<=f):okI (f+1) g t:=⟨h,by omega⟩
theorem Qni(hk:Kc l)(hI:IB l n I)(hK:KB l n K){c:List T}{t u:T}{f g:Int}(h0:0<=f)(h1:f<=20000)(hs:Sub n (l.map C.lv) c t)(hc:Cx c f)(ht:t.k=7)(h:letR l I K c t f= .ok (u,g)):0<=g/\g<=f - 1/\Sub n (l.map C.lv) c u:=by
 have hl:=hs.ks ht (m:=3);unfold letR at h;obtain⟨i,f1,e1,h⟩:=Rs.next_some h;obtain⟨_,f2,e2,h⟩:=Rs.next_some h;have k0:=hs.kid (i:=0) (by omega) (by rw [ht];rfl);have k1:=hs.kid (i:=1) (by omega) (by rw [ht];rfl);obtain⟨a1,b1, -⟩:=Qag hk.ok hI h0 h1 k0 hc e1;obtain⟨a2,b2⟩:=hK _ _ _ _ _ _ a1 (by omega) k1 (hc.le (by omega)) (k0.okY (by omega)) e2;have hcl:=hc.len;have k2:=hs.kidB (i:=2) (by omega) (t.kid 1) (by omega) (by rw [ht];rfl);obtain⟨a3,b3,d3,p3,rfl⟩:=Qgl (n:=n) a2 k2.ok k1.ok h;exact⟨a3,by omega,letP_ok (f:=f) k2 k1 (by omega) (by omega)⟩
theorem Wd9(hK:KB l n K){c:List T}{t:T}(hs:Sub n (l.map C.lv) c t)(ht:t.k=24)(ha:0<=t.a)(hlen:t.ks.length=t.a.toNat+2):∀(m k:Nat) {f g:Int} {u:Unit},k+m<=t.a.toNat ->0<=f ->f<=20000 ->Cx c f ->brR K c t m k f= .ok (u,g) ->0<=g/\g<=f
 | 0,k,f,g,u,_,h0,_,_,h=>by rw [brR]at h;cases h;exact⟨h0,Int.le_refl _⟩
 | m+1,k,f,g,u,hkm,h0,h1,hc,h=>by
  have hl:=hlen;rw [brR]at h;obtain⟨_,f1,e1,h⟩:=Rs.next_some h;have hb:∀i:Int,Qa7 t.k i=false:=fun i=>by rw [ht];exact Qzy i
  have k0:=hs.kid (i:=0) (by omega) (hb _);have kk:=hs.kid (i:=k+1) (by omega) (hb _)
  have hy:okY f (ofT 6 [t.kid 0,Qii k t.a]):=⟨Qai Qc4 k0.ok (Qtx (by have:=hs.ok.a;unfold I64 at *;omega) hs.ok.a),by
   have:=Qae 6 (t.kid 0) (Qii k t.a);rw [Qs4]at this;have:=k0.pot;unfold Yb
   omega⟩
  obtain⟨a1,b1⟩:=hK _ _ _ _ _ _ h0 h1 kk hc hy e1;obtain⟨a2,b2⟩:=Wd9 hK hs ht ha hlen m (k+1) (by omega) a1 (by omega) (hc.le (by omega)) h;exact⟨a2,by omega⟩
theorem Qzt{cs:List Int}{c:List T}{t:T}(hs:Sub n cs c t)(ht:t.k=24):0<=t.a/\t.ks.length=t.a.toNat+2:=by
 have h1:=(Qht hs.core).2.1;have hl:=hs.in;have hk24:Qwa t.k t.a=IntKind.i64.wrap (t.a+2):=by rw [ht];rfl
 have ha:0<=t.a:=by
  have h2:Qcw t=true:=by
   have:Qn0 n (c.length:Int) cs t=Qcw t:=by unfold Qn0;rw [ht];rfl
   rw [<- this];exact h1
  unfold Qcw at h2;rw [Bool.and_eq_true,Bool.and_eq_true]at h2;exact of_decide_eq_true h2.1.2
 have hb:=hs.ok.a;unfold I64 at hb;by_cases h3:t.a<=9223372036854775805
 ·rw [Qbp (by omega) (by omega)]at hk24;exact⟨ha,by omega⟩
 ·exfalso;have h5:t.a=9223372036854775806\/t.a=9223372036854775807:=by omega
  have h6:IntKind.i64.wrap (t.a+2)<0:=by
   rcases h5 with e | e <;> (rw [e];decide)
  omega
theorem Wbk(hk:Kc l)(hI:IB l n I)(hK:KB l n K){c:List T}{t s:T}{f g:Int}(h0:0<=f)(h1:f<=19999)(hs:Sub n (l.map C.lv) c t)(hc:Cx c f)(h:ruleR l n I K c t f= .ok (s,g)):0<=g/\g<=f/\okI (f+1) g s:=by
 have h2:f<=20000:=by omega
 have hcl:=hc.len;have hcc:c.length<=1000000:=by omega
 unfold ruleR at h;by_cases hkk:t.k=1
 ·rw [if_pos hkk]at h;unfold Qfe at h;cases h;obtain⟨a,b⟩:=Qvx hc (c.length - 1 - t.n.toNat);exact⟨h0,Int.le_refl _,Qbt (Qa9 _ _ _ a) (by rw [Qb8];omega) (Int.le_refl _)⟩
 rw [if_neg hkk]at h;clear hkk;by_cases hkk:t.k=2
 ·rw [if_pos hkk]at h;unfold Qd6 at h;split at h
  ·cases h;exact⟨h0,Int.le_refl _,Qbt (Qsm (Qsv _)) (by have:=Qm9 (Qfa (t.ls.getD 0 []));omega) (Int.le_refl _)⟩
  ·cases h
 rw [if_neg hkk]at h;clear hkk;by_cases hkk:t.k=3
 ·rw [if_pos hkk]at h;unfold Qfp at h;cases h;obtain⟨a,b⟩:=Wa1 (l:=l) (fun c hc=>⟨hk.ok c hc,hk.ty c hc⟩) t.n t.ls;exact⟨h0,Int.le_refl _,Qbt a (by omega) (Int.le_refl _)⟩
 rw [if_neg hkk]at h;clear hkk;by_cases hkk:t.k=4\/t.k=12\/t.k=16
 ·rw [if_pos hkk]at h;unfold formerR at h;obtain⟨i,f1,e1,h⟩:=Rs.next_some h;obtain⟨j,f2,e2,h⟩:=Rs.next_some h;cases h;have hl:t.ks.length=2:=by rcases hkk with e | e | e <;> exact hs.ks e (m:=2)
  have b0:Qa7 t.k ((0:Nat):Int)=false:=by rcases hkk with e | e | e <;> (rw [e];rfl)
  have b1:Qa7 t.k ((1:Nat):Int)=true:=by rcases hkk with e | e | e <;> (rw [e];rfl)
  have k0:=hs.kid (i:=0) (by omega) b0;have k1:=hs.kidB (i:=1) hcc (t.kid 0) (by omega) b1;obtain⟨a1,c1, -⟩:=Qag hk.ok hI h0 h2 k0 hc e1;obtain⟨a2,c2, -⟩:=Qag hk.ok hI a1 (by omega) k1 (hc.below k0 (by omega)) e2;exact⟨a2,by omega,Qbt (Qsm (Qnf _)) (by have:=Qm9 (Wg [i,j].flatten);omega) (by omega)⟩
 rw [if_neg hkk]at h;clear hkk;by_cases hkk:t.k=5
 ·rw [if_pos hkk]at h;unfold lamR at h;obtain⟨i,f1,e1,h⟩:=Rs.next_some h;obtain⟨s1,f2,e2,h⟩:=Rs.next_some h;cases h;have hl:=hs.ks hkk (m:=2);have k0:=hs.kid (i:=0) (by omega) (by rw [hkk];rfl);have k1:=hs.kidB (i:=1) hcc (t.kid 0) (by omega) (by rw [hkk];rfl);obtain⟨a1,c1, -⟩:=Qag hk.ok hI h0 h2 k0 hc e1;obtain⟨a2,c2,d2⟩:=hI _ _ _ _ _ a1 (by omega) k1 (hc.below k0 (by omega)) e2;refine⟨a2,by omega,Qai Qc4 k0.ok d2.1,?_⟩;have e1:=Qae 4 (t.kid 0) s1;have e2:=k0.pot;have e3:=d2.2;omega
 rw [if_neg hkk]at h;clear hkk;by_cases hkk:t.k=6
 ·rw [if_pos hkk]at h;unfold appR at h;obtain⟨s1,f1,e1,h⟩:=Rs.next_some h;obtain⟨v,f2,e2,h⟩:=Rs.next_some h;obtain⟨_,f3,e3,h⟩:=Rs.next_some h;have hl:=hs.ks hkk (m:=2);have k0:=hs.kid (i:=0) (by omega) (by rw [hkk];rfl);have k1:=hs.kid (i:=1) (by omega) (by rw [hkk];rfl);obtain⟨a1,c1,d1⟩:=hI _ _ _ _ _ h0 h2 k0 hc e1;obtain⟨a2,c2,d2,d2', -⟩:=Qbe hk.ok a1 (d1.okY h2) e2;obtain⟨a3,c3⟩:=hK _ _ _ _ _ _ a2 (by omega) k1 (hc.le (by omega)) d2 e3;obtain⟨a4,c4,d4,p4, -⟩:=Qgl (n:=n) a3 d2'.1 k1.ok h;refine⟨a4,by omega,d4,?_⟩;have:=Qfk s;omega
 rw [if_neg hkk]at h;clear hkk;by_cases hkk:t.k=7
 ·rw [if_pos hkk]at h;unfold withinR at h;obtain⟨u,f1,e1,h⟩:=Rs.next_some h;obtain⟨a1,c1,d1⟩:=Qni hk hI hK h0 h2 hs hc hkk e1;obtain⟨a2,c2,d2⟩:=hI _ _ _ _ _ a1 (by omega) d1 (hc.le (by omega)) h;exact⟨a2,by omega,d2.at (by omega)⟩
 rw [if_neg hkk]at h;clear hkk;by_cases hkk:t.k=14\/t.k=15
 ·rw [if_pos hkk]at h;unfold halfR at h;obtain⟨s1,f1,e1,h⟩:=Rs.next_some h;obtain⟨v,f2,e2,h⟩:=Rs.next_some h;have hl:t.ks.length=1:=by rcases hkk with e | e <;> exact hs.ks e (m:=1)
  have k0:=hs.kid (i:=0) (by omega) (by rcases hkk with e | e <;> (rw [e];rfl));obtain⟨a1,c1,d1⟩:=hI _ _ _ _ _ h0 h2 k0 hc e1;obtain⟨a2,c2,d2,d2',p2⟩:=Qbe hk.ok a1 (d1.okY h2) e2;split at h
  ·cases h;refine⟨a2,by omega,d2.1,?_⟩;have:=d1.2;omega
  ·obtain⟨a4,c4,d4,p4, -⟩:=Qgl (n:=n) a2 d2'.1 (Wdw Qc4 k0.ok) h;refine⟨a4,by omega,d4,?_⟩;have:=Qfk s;omega
 rw [if_neg hkk]at h;clear hkk;by_cases hkk:t.k=18
 ·rw [if_pos hkk]at h;unfold recR at h;obtain⟨_,f1,e1,h⟩:=Rs.next_some h;obtain⟨_,f2,e2,h⟩:=Rs.next_some h;obtain⟨_,f3,e3,h⟩:=Rs.next_some h;obtain⟨_,f4,e4,h⟩:=Rs.next_some h;obtain⟨_,f5,e5,h⟩:=Rs.next_some h;cases h;have hl:=hs.ks hkk (m:=5);have k0:=hs.kid (i:=0) (by omega) (by rw [hkk];rfl);have k1:=hs.kidB (i:=1) hcc (t.kid 0) (by omega) (by rw [hkk];rfl);have k2:=hs.kid (i:=2) (by omega) (by rw [hkk];rfl);have k3:=hs.kid (i:=3) (by omega) (by rw [hkk];rfl);have k4:=hs.kid (i:=4) (by omega) (by rw [hkk];rfl);obtain⟨a1,c1, -⟩:=Qag hk.ok hI h0 h2 k0 hc e1;obtain⟨a2,c2, -⟩:=Qag hk.ok hI a1 (by omega) k1 (hc.below k0 (by omega)) e2;have p0:=k0.pot;have p1:=k1.pot;have p2:=k2.pot;have p4:=k4.pot;have hy:okY f2 (ofT 16 [t.kid 0,t.kid 1]):=⟨Qai Qc4 k0.ok k1.ok,by have:=Qae 16 (t.kid 0) (t.kid 1);unfold Yb;omega⟩;obtain⟨a3,c3⟩:=hK _ _ _ _ _ _ a2 (by omega) k4 (hc.le (by omega)) hy e3;obtain⟨a4,c4⟩:=Qf3 hk.ok hI a3 (by omega) k2 (hc.le (by omega)) e4;have hst:=Qw2 k0.ok k1.ok k2.ok;obtain⟨a5,c5⟩:=hK _ _ (Qjm (t.kid 0) (t.kid 1) (t.kid 2)) _ _ _ a4 (by omega) k3 (hc.le (by omega)) ⟨hst.1,by have:=hst.2;unfold Yb;omega⟩ e5;exact⟨a5,by omega,Qbt (Qai Qc4 k2.ok k4.ok) (by have:=Qae 6 (t.kid 2) (t.kid 4);omega) (by omega)⟩
 rw [if_neg hkk]at h;clear hkk;by_cases hkk:t.k=19
 ·rw [if_pos hkk]at h;unfold idR at h;obtain⟨i,f1,e1,h⟩:=Rs.next_some h;obtain⟨_,f2,e2,h⟩:=Rs.next_some h;obtain⟨_,f3,e3,h⟩:=Rs.next_some h;cases h;have hl:=hs.ks hkk (m:=3);have k0:=hs.kid (i:=0) (by omega) (by rw [hkk];rfl);have k1:=hs.kid (i:=1) (by omega) (by rw [hkk];rfl);have k2:=hs.kid (i:=2) (by omega) (by rw [hkk];rfl);obtain⟨a1,c1,d1⟩:=Qag hk.ok hI h0 h2 k0 hc e1;obtain⟨a2,c2⟩:=hK _ _ _ _ _ _ a1 (by omega) k1 (hc.le (by omega)) (k0.okY (by omega)) e2;obtain⟨a3,c3⟩:=hK _ _ _ _ _ _ a2 (by omega) k2 (hc.le (by omega)) (k0.okY (by omega)) e3;exact⟨a3,by omega,Qbt (Qsm d1) (by have:=Qm9 i;omega) (by omega)⟩
 rw [if_neg hkk]at h;clear hkk;by_cases hkk:t.k=21
 ·rw [if_pos hkk]at h;unfold pathR at h;obtain⟨_,f1,e1,h⟩:=Rs.next_some h;obtain⟨_,f2,e2,h⟩:=Rs.next_some h;obtain⟨_,f3,e3,h⟩:=Rs.next_some h;obtain⟨_,f4,e4,h⟩:=Rs.next_some h;obtain⟨s1,f5,e5,h⟩:=Rs.next_some h;obtain⟨v,f6,e6,h⟩:=Rs.next_some h;obtain⟨_,f7,e7,h⟩:=Rs.next_some h;obtain⟨w,f8,e8,h⟩:=Rs.next_some h;obtain⟨_,f9,e9,h⟩:=Rs.next_some h;obtain⟨_,f10,e10,h⟩:=Rs.next_some h;obtain⟨_,f11,e11,h⟩:=Rs.next_some h;cases h;have hl:=hs.ks hkk (m:=6);have k0:=hs.kid (i:=0) (by omega) (by rw [hkk];rfl);have k1:=hs.kid (i:=1) (by omega) (by rw [hkk];rfl);have k2:=hs.kid (i:=2) (by omega) (by rw [hkk];rfl);have k3:=hs.kid (i:=3) (by omega) (by rw [hkk];rfl);have k4:=hs.kid (i:=4) (by omega) (by rw [hkk];rfl);have k5:=hs.kid (i:=5) (by omega) (by rw [hkk];rfl);have p0:=k0.pot;have p1:=k1.pot;have p2:=k2.pot;have p4:=k4.pot;have p5:=k5.pot;obtain⟨a1,c1, -⟩:=Qag hk.ok hI h0 h2 k0 hc e1;obtain⟨a2,c2⟩:=hK _ _ _ _ _ _ a1 (by omega) k1 (hc.le (by omega)) (k0.okY (by omega)) e2;obtain⟨a3,c3⟩:=hK _ _ _ _ _ _ a2 (by omega) k4 (hc.le (by omega)) (k0.okY (by omega)) e3;have hy:okY f3 (ofT 19 [t.kid 0,t.kid 1,t.kid 4]):=⟨Qx1 Qc4 k0.ok k1.ok k4.ok,by have:=Qq7 19 (t.kid 0) (t.kid 1) (t.kid 4);unfold Yb;omega⟩;obtain⟨a4,c4⟩:=hK _ _ _ _ _ _ a3 (by omega) k5 (hc.le (by omega)) hy e4;obtain⟨a5,c5,d5⟩:=hI _ _ _ _ _ a4 (by omega) k2 (hc.le (by omega)) e5;obtain⟨a6,c6,d6,d6', -⟩:=Qbe hk.ok a5 (d5.okY (by omega)) e6;obtain⟨a7,c7⟩:=Qew a6 e7;obtain⟨a8,c8,d8,d8', -⟩:=Qbe hk.ok a7 (d6'.le c7) e8;obtain⟨a9,c9⟩:=Qew a8 e9;obtain⟨a10,c10, -⟩:=Qtd hk.ok a9 d8'.1 e10
  have hy2:okY f10 (ofT 6 [ofT 6 [t.kid 2,t.kid 1],ofT 20 []]):=⟨Qai Qc4 (Qai Qc4 k2.ok k1.ok) (Wdx Qc4),by
   have:=Qae 6 (ofT 6 [t.kid 2,t.kid 1]) (ofT 20 []);have:=Qae 6 (t.kid 2) (t.kid 1);have:=Qxr 20
   unfold Yb;omega⟩
  obtain⟨a11,c11⟩:=hK _ _ _ _ _ _ a10 (by omega) k3 (hc.le (by omega)) hy2 e11;exact⟨a11,by omega,Qbt (Qai Qc4 (Qai Qc4 k2.ok k4.ok) k5.ok) (by have:=Qae 6 (ofT 6 [t.kid 2,t.kid 4]) (t.kid 5);have:=Qae 6 (t.kid 2) (t.kid 4);omega) (by omega)⟩
 rw [if_neg hkk]at h;clear hkk;by_cases hkk:t.k=22
 ·rw [if_pos hkk]at h;cases h;exact⟨h0,Int.le_refl _,Qbt (Qsm ⟨by simp,fun p hp=>by cases hp⟩) (by have:=Qm9 [];omega) (Int.le_refl _)⟩
 rw [if_neg hkk]at h;clear hkk;by_cases hkk:t.k=23
 ·rw [if_pos hkk]at h;cases h;exact⟨h0,Int.le_refl _,Qbt (Qry hs.ok.a) (by rw [Qq8];omega) (Int.le_refl _)⟩
 rw [if_neg hkk]at h;clear hkk;by_cases hkk:t.k=24
 ·rw [if_pos hkk]at h;unfold casesR at h;obtain⟨_,f1,e1,h⟩:=Rs.next_some h;obtain⟨_,f2,e2,h⟩:=Rs.next_some h;obtain⟨_,f3,e3,h⟩:=Rs.next_some h;cases h;obtain⟨ha,hl⟩:=Qzt hs hkk;have hb:∀i:Int,Qa7 t.k i=false:=fun i=>by rw [hkk];exact Qzy i
  have k0:=hs.kid (i:=0) (by omega) (hb _);have kx:=hs.kid (i:=t.a.toNat+1) (by omega) (hb _);obtain⟨a1,c1⟩:=hK _ _ (Qje t.a) _ _ _ h0 h2 kx hc ⟨Qry hs.ok.a,by rw [Qq8];unfold Yb;omega⟩ e1;obtain⟨a2,c2⟩:=Qf3 hk.ok hI a1 (by omega) k0 (hc.le (by omega)) e2;obtain⟨a3,c3⟩:=Wd9 hK hs hkk ha hl _ 0 (by omega) a2 (by omega) (hc.le (by omega)) e3;have p0:=k0.pot;have px:=kx.pot;exact⟨a3,by omega,Qbt (Qai Qc4 k0.ok kx.ok) (by have:=Qae 6 (t.kid 0) (t.kid (t.a.toNat+1));omega) (by omega)⟩
 ·rw [if_neg hkk]at h;cases h
theorem askR_ok(hk:Kc l)(hI:IB l n I)(hK:KB l n K){c:List T}{t y:T}{f g:Int}{u:Unit}(h0:0<=f)(h1:f<=19999)(hs:Sub n (l.map C.lv) c t)(hc:Cx c f)(hy:okY (f+1) y)(h:askR l I K c t y f= .ok (u,g)):0<=g/\g<=f:=by
 have h2:f<=20000:=by omega
 have hcl:=hc.len;have hcc:c.length<=1000000:=by omega
 have hy1:=hy.le (show f<=f+1 by omega);unfold askR at h;by_cases hkk:t.k=5
 ·rw [if_pos hkk]at h;obtain⟨v,f1,e1,h⟩:=Rs.next_some h;obtain⟨_,f2,e2,h⟩:=Rs.next_some h;obtain⟨_,f3,e3,h⟩:=Rs.next_some h;have hl:=hs.ks hkk (m:=2);have k0:=hs.kid (i:=0) (by omega) (by rw [hkk];rfl);have k1:=hs.kidB (i:=1) hcc (t.kid 0) (by omega) (by rw [hkk];rfl);obtain⟨a1,c1,d1,d1', -⟩:=Qbe hk.ok h0 hy1 e1;obtain⟨a2,c2, -⟩:=Qag hk.ok hI a1 (by omega) k0 (hc.le (by omega)) e2;obtain⟨a3,c3⟩:=Qew a2 e3;obtain⟨a4,c4⟩:=hK _ _ _ _ _ _ a3 (by omega) k1 (hc.below k0 (by omega)) (d1'.le (by omega)) h;exact⟨a4,by omega⟩
 rw [if_neg hkk]at h;clear hkk;by_cases hkk:t.k=13
 ·rw [if_pos hkk]at h;obtain⟨v,f1,e1,h⟩:=Rs.next_some h;obtain⟨_,f2,e2,h⟩:=Rs.next_some h;obtain⟨z,f3,e3,h⟩:=Rs.next_some h;have hl:=hs.ks hkk (m:=2);have k0:=hs.kid (i:=0) (by omega) (by rw [hkk];rfl);have k1:=hs.kid (i:=1) (by omega) (by rw [hkk];rfl);obtain⟨a1,c1,d1,d1', -⟩:=Qbe hk.ok h0 hy1 e1;obtain⟨a2,c2⟩:=hK _ _ _ _ _ _ a1 (by omega) k0 (hc.le (by omega)) d1 e2;obtain⟨a3,c3,d3,p3, -⟩:=Qgl (n:=n) a2 d1'.1 k0.ok e3;have:=Qfk z;obtain⟨a4,c4⟩:=hK _ _ (z) _ _ _ a3 (by omega) k1 (hc.le (by omega)) ⟨d3,by unfold Yb;omega⟩ h;exact⟨a4,by omega⟩
 rw [if_neg hkk]at h;clear hkk;by_cases hkk:t.k=17
 ·rw [if_pos hkk]at h;obtain⟨v,f1,e1,h⟩:=Rs.next_some h;obtain⟨_,f2,e2,h⟩:=Rs.next_some h;obtain⟨z,f3,e3,h⟩:=Rs.next_some h;have hl:=hs.ks hkk (m:=2);have k0:=hs.kid (i:=0) (by omega) (by rw [hkk];rfl);have k1:=hs.kid (i:=1) (by omega) (by rw [hkk];rfl);obtain⟨a1,c1,d1,d1',p1⟩:=Qbe hk.ok h0 hy1 e1;obtain⟨a2,c2⟩:=hK _ _ _ _ _ _ a1 (by omega) k0 (hc.le (by omega)) d1 e2;obtain⟨a3,c3,d3,p3, -⟩:=Qgl (n:=n) a2 d1'.1 k0.ok e3;have pz:=Qfk z;have q1:=Qae 4 z (ofT 16 [v.1.lift 1 0 0,v.2.lift 1 1 0]);have q2:=Qae 16 (v.1.lift 1 0 0) (v.2.lift 1 1 0);rw [Qb8,Qb8]at q2;have q3:=hy.2;unfold Yb at q3;obtain⟨a4,c4⟩:=hK _ _ (ofT 4 [z,ofT 16 [v.1.lift 1 0 0,v.2.lift 1 1 0]]) _ _ _ a3 (by omega) k1 (hc.le (by omega)) ⟨Qai Qc4 d3 (Qai Qc4 (Qa9 _ _ _ d1.1) (Qa9 _ _ _ d1'.1)),by unfold Yb;omega⟩ h;exact⟨a4,by omega⟩
 rw [if_neg hkk]at h;clear hkk;by_cases hkk:t.k=20
 ·rw [if_pos hkk]at h;obtain⟨x,f1,e1,h⟩:=Rs.next_some h;obtain⟨a1,c1,d1⟩:=Qru hk.ok h0 hy1 e1;split at h
  ·obtain⟨a2,c2⟩:=Qew a1 h;exact⟨a2,by omega⟩
  ·cases h
 rw [if_neg hkk]at h;clear hkk;by_cases hkk:t.k=7
 ·rw [if_pos hkk]at h;obtain⟨w,f1,e1,h⟩:=Rs.next_some h;obtain⟨a1,c1,d1⟩:=Qni hk hI hK h0 h2 hs hc hkk e1;obtain⟨a2,c2⟩:=hK _ _ _ _ _ _ a1 (by omega) d1 (hc.le (by omega)) (hy1.le (by omega)) h;exact⟨a2,by omega⟩
 ·rw [if_neg hkk]at h;obtain⟨s,f1,e1,h⟩:=Rs.next_some h;obtain⟨is,f2,e2,h⟩:=Rs.next_some h;obtain⟨a1,c1,d1⟩:=hI _ _ _ _ _ h0 h2 hs hc e1;obtain⟨a2,c2⟩:=lqR_ok a1 e2;split at h
  ·cases h;exact⟨a2,by omega⟩
  ·cases h
end
theorem Qin{l:List C}{n:Int}(hk:Kc l):∀g,IB l n (infT l n g)/\KB l n (chkT l n g)
 | 0=>by
  constructor
  ·intro c t f s g _ _ _ _ h;have h':(Except.error 5:Rs T)= .ok (s,g):=h;cases h'
  ·intro c t y f u g _ _ _ _ _ h;have h':(Except.error 5:Rs Unit)= .ok (u,g):=h;cases h'
 | k+1=>by
  obtain⟨hI,hK⟩:=Qin hk k;constructor
  ·intro c t f s g h0 h1 hs hc h;rw [Qhn]at h;split at h
   ·cases h
   ·obtain⟨a,b,d⟩:=Wbk hk hI hK (by omega) (by omega) hs (hc.le (by omega)) h;exact⟨a,by omega,by rw [show f - 1+1=f by omega]at d;exact d⟩
  ·intro c t y f u g h0 h1 hs hc hy h;rw [Qkv]at h;split at h
   ·cases h
   ·obtain⟨a,b⟩:=askR_ok hk hI hK (by omega) (by omega) hs (hc.le (by omega)) (by rw [show f - 1+1=f by omega];exact hy) h;exact⟨a,b⟩
end Go.Proofs.YtgloldepdhgfaaaGreatDoor
