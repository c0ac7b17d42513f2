/-
  MB6: the texts Ifa Ifb Kon Ddl Ifc Ifi Ja Jb Jc Jd Je Jf Jg Jp Jm Jh Jk, one behind the other.
-/
import Derived.Test.YtgloldepdhgfaaaGreatDoorMB5
namespace Go.Proofs.YtgloldepdhgfaaaGreatDoor
set_option linter.unusedSimpArgs false
set_option linter.unusedVariables false
set_option linter.unusedSimpArgs false
set_option linter.unusedVariables false
set_option maxHeartbeats 10000000
set_option maxRecDepth 20000
open Go.RowKit
attribute [local simp] Qx Qm Qo Qp Wn Xg opD Wc Qr Qw Wi hOf Wj Xf Xd TK.isAgg TK.known Ws Wk Qz Qh D.ofV inB Qy Wp Xy Za Zg Xc Xw Zh IntKind.min IntKind.max IntKind.signed IntKind.bits Wm Xz
section
theorem c_lam{l:List C}{n F:Int}{I:List T ->T ->Int ->Rs T}{J:List T ->T ->T ->Int ->Rs Unit}(hk:Kc l)(hF:F<=19999)(bI:IB l n I)(bJ:KB l n J)(hI:IS l n I F)(hJ:KS l n J F){c:List T}{t y:T}{f:Int}(h0:0<=f)(h1:f<=F)(hs:Sub n (l.map C.lv) c t)(hc:Cx c f)(hkk:t.k=5)(hy0:okY (f+1) y) :
  Sp 68 [.box 0 0,Ts c,Qj t,Qj y] (iO (f+1) l n) (RP l n Xb (askR l I J c t y f)):=by
 have h2:f<=20000:=by omega
 have hcl:=hc.len;have hcc:c.length<=1000000:=by omega
 have hF2:F<=20000:=by omega
 have hy:=hy0.le (show f<=f+1 by omega);have hl:=hs.ks hkk (m:=2);obtain⟨x0,x1,hks⟩:=Qmt hl;have z0:t.kid 0=x0:=by unfold T.kid;rw[hks];rfl
 have z1:t.kid 1=x1:=by unfold T.kid;rw[hks];rfl
 have hEt:Qj t= .agg [.int .i64 t.k, .int .i64 t.n, .int .i64 t.a, .slice (t.ls.map Qn) .any, .slice [Qj x0,Qj x1] .any]:=by rw[Qb t,hks];rfl
 have k0:=hs.kid (i:=0) (by omega) (by rw[hkk];rfl);rw[z0]at k0;obtain⟨c1,hc1⟩:∃c1,c1=c++ [x0]:=⟨_,rfl⟩;have k1:=hs.kidB (i:=1) hcc x0 (by omega) (by rw[hkk];rfl);rw[z1,<- hc1]at k1;have hE0:=Qb x0;have hE1:=Qb x1;rw[hkk]at hEt;have hEy:=Qb y;have L1:1<=Ql:=by unfold Ql;omega
 have L2:2<=Ql:=by unfold Ql;omega
 have L3:3<=Ql:=by unfold Ql;omega
 have hb:=Qfc c x0 hcc;rw[<- hc1]at hb;unfold Ts at hb;simp only[List.map_cons,List.map_nil,hE0]at hb;have bu:Sp 118 [.box 0 0, .int .i64 1] (iO (f+1) l n) (fun o hc=>o.fgt= .ret (.tuple [])/\hc=iO f l n):=by
  have h:=Qbq (l:=l) (n:=n) (f:=f+1) (m:=1) (by omega) (by omega);rw[show Qd1 1 (f+1)= .ok ((),f) by unfold Qd1;rw[if_pos (by omega),show f+1 - 1=f by omega]]at h;exact h
 have hA:askR l I J c t y f=(asR l y 4 8 f).next fun v f=>(sortR l I c (t.kid 0) f).next fun _ f=>(oneR l (t.kid 0) v.1 13 f).next fun _ f=>J (c++ [t.kid 0]) (t.kid 1) v.2 f:=by
  unfold askR;rw[if_pos hkk]
 refine RP.of ?_;generalize hQ:RQ l n Xb (askR l I J c t y f)=Q;rw[hA]at hQ;rw[hEt,hEy];simp only[hE0,hE1];unfold iO Cs at bu;unfold iO Cs Ts;refine eN Tryz.func68 rfl (by decide) rfl rfl ?_;(refine sI fun K Z=>?_;(repeat rw[Qa];simp);refine Z ?_;clear Z K);(refine sR fun K hK=>?_;(repeat rw[Qa];simp));refine cXf [0,1] (bu) ?_;simp[zU]
 (repeat rw[Qa];simp)
 (refine hK _ _ _ ?_;clear hK K);(refine sI fun K Z=>?_;(repeat rw[Qa];simp);refine Z ?_;clear Z K);refine Wd ?_;(refine sI fun K Z=>?_;(repeat rw[Qa];simp);refine Z ?_;clear Z K);refine pT rfl ?_;(refine sR fun K hK=>?_;(repeat rw[Qa];simp));rcases Qv l n asD (asR l y 4 8 f)with ⟨v,f1,e1,q1⟩ | ⟨ee,e1,q1⟩
 rotate_left
 ·have hh:=Qas hk (n:=n) (k:=4) (e:=8) h0 (by omega) hy;rw[q1]at hh;have hq:=hQ.symm.trans (Wh (e:=ee) (by simp only[e1,Rs.next_ok,Rs.next_err,↓reduceIte,z0,z1,<- hc1]));subst hq;clear hQ;simp only[hEy]at hh;unfold iO Cs Wq at hh
  try unfold Ts at hh
  refine cXg [0,1] (hh) ?_;simp[zU];((try simp only[zs]);refine Qk.pan (.inr ⟨[],by decide,by simp,?_⟩);simp[zM])
 have cc1:=Qas hk (n:=n) (k:=4) (e:=8) h0 (by omega) hy;rw[q1]at cc1;obtain⟨a1,b1,d2,d3,p2⟩:=Qbk hk.ok h0 hy e1;obtain⟨va,vb⟩:=v;have hEva:=Qb va;have hEvb:=Qb vb;unfold asD at cc1;dsimp only at cc1;simp only[hEy,hEva,hEvb]at cc1;unfold iO Cs at cc1
 try unfold Ts at cc1
 replace d2:okY f1 va:=d2
 replace d3:okY f1 vb:=d3
 replace p2:((va.pot+vb.pot:Nat):Int)<=y.pot+7 * (f - f1)+1:=p2
 refine cXf [0,1] (cc1) ?_;simp[zU]
 (repeat rw[Qa];simp)
 clear cc1 q1;(refine hK _ _ _ ?_;clear hK K);(refine sR fun K hK=>?_;(repeat rw[Qa];simp));rcases Qv l n Qn (sortR l I c x0 f1)with ⟨i,f2,e2,q2⟩ | ⟨ee,e2,q2⟩
 rotate_left
 ·have hh:=Zd hk hF2 bI bJ hI hJ a1 (by omega) k0 (hc.le (by omega));rw[q2]at hh;have hq:=hQ.symm.trans (Wh (e:=ee) (by simp only[e1,e2,Rs.next_ok,Rs.next_err,↓reduceIte,z0,z1,<- hc1]));subst hq;clear hQ;simp only[hE0]at hh;unfold iO Cs Wq at hh
  try unfold Ts at hh
  refine cXg [0,1] (hh) ?_;simp[zU];((try simp only[zs]);refine Qk.pan (.inr ⟨[],by decide,by simp,?_⟩);simp[zM])
 have cc2:=Zd hk hF2 bI bJ hI hJ a1 (by omega) k0 (hc.le (by omega));rw[q2]at cc2;obtain⟨a2,b2, -⟩:=Qai hk.ok bI a1 (by omega) k0 (hc.le (by omega)) e2;have cx:Cx c1 f2:=by rw[hc1];exact hc.below k0 (by omega)
 have hEi:Qn i= .agg [.slice (i.map Wv) .any]:=rfl;simp only[hE0,hEi]at cc2;unfold iO Cs at cc2
 try unfold Ts at cc2
 refine cXf [0,1] (cc2) ?_;simp[zU]
 (repeat rw[Qa];simp)
 clear cc2 q2;(refine hK _ _ _ ?_;clear hK K);(refine Qc fun K hK=>?_;refine dR fun KT hKT=>?_;(repeat rw[Qd];simp));rcases Qv l n Xb (oneR l x0 va 13 f2)with ⟨u3,f3,e3,q3⟩ | ⟨ee,e3,q3⟩
 rotate_left
 ·have hh:=Qb0 hk (n:=n) (e:=13) a2 (by omega) (k0.okY (by omega)) (d2.le (by omega));rw[q3]at hh;have hq:=hQ.symm.trans (Wh (e:=ee) (by simp only[e1,e2,e3,Rs.next_ok,Rs.next_err,↓reduceIte,z0,z1,<- hc1]));subst hq;clear hQ;simp only[hE0,hEva]at hh;unfold iO Cs Wq at hh
  try unfold Ts at hh
  refine cYo [0,1] true false (hh) (fun o h e=>e) ?_;simp[zU];((try simp only[Qt,Qu,Qr,Qw,Wi]);(repeat(refine Wr _ _ _ _ (by kernel_rfl) ?_;simp only[Qr,List.set,List.nil_append,List.cons_append,Nat.reduceAdd]));(try simp only[Qm]));(refine hKT _ _ _ _ (by kernel_rfl) ?_;clear hKT KT);simp[Xi];((try simp only[zs]);refine Qk.pan (.inr ⟨[],by decide,by simp,?_⟩);simp[zM])
 have cc3:=Qb0 hk (n:=n) (e:=13) a2 (by omega) (k0.okY (by omega)) (d2.le (by omega));rw[q3]at cc3;obtain⟨a3,b3⟩:=Qe9 a2 e3;unfold Xb at cc3;simp only[hE0,hEva]at cc3;unfold iO Cs at cc3
 try unfold Ts at cc3
 refine cYo [0,1] true true (cc3) (fun o h e=>e) ?_;simp[zU];(try simp only[zq]);(repeat rw[Qd];simp);clear cc3 q3;(refine hKT _ _ _ _ (by kernel_rfl) ?_;clear hKT KT);(refine hK _ _ _ ?_;clear hK K);(refine dR fun KT hKT=>?_;(repeat rw[Qd];simp[L1]));refine cYp (hb) ?_;(try simp only[zq]);(repeat rw[Qd];simp[L1,L2]);rcases Qv l n Xb (J c1 x1 vb f3)with ⟨u4,f4,e4,q4⟩ | ⟨ee,e4,q4⟩
 rotate_left
 ·have hh:=hJ c1 x1 vb f3 a3 (by omega) k1 (cx.le b3) (d3.le (by omega));rw[q4]at hh;have hq:=hQ.symm.trans (Wh (e:=ee) (by simp only[e1,e2,e3,e4,Rs.next_ok,Rs.next_err,↓reduceIte,z0,z1,<- hc1]));subst hq;clear hQ;simp only[hE1,hEvb]at hh;unfold iO Cs Wq at hh
  try unfold Ts at hh
  refine cYo [0,1] true false (hh) (fun o h e=>e) ?_;simp[zU];((try simp only[Qt,Qu,Qr,Qw,Wi]);(repeat(refine Wr _ _ _ _ (by kernel_rfl) ?_;simp only[Qr,List.set,List.nil_append,List.cons_append,Nat.reduceAdd]));(try simp only[Qm]));(refine hKT _ _ _ _ (by kernel_rfl) ?_;clear hKT KT);simp[Xi];((try simp only[zs]);refine Qk.pan (.inr ⟨[],by decide,by simp,?_⟩);simp[zM])
 have cc4:=hJ c1 x1 vb f3 a3 (by omega) k1 (cx.le b3) (d3.le (by omega));rw[q4]at cc4;unfold Xb at cc4;simp only[hE1,hEvb]at cc4;unfold iO Cs at cc4
 try unfold Ts at cc4
 refine cYo [0,1] true true (cc4) (fun o h e=>e) ?_;simp[zU];(try simp only[zq]);(repeat rw[Qd];simp);clear cc4 q4;have hq:=hQ.symm.trans (Qbi (()) (g:=f4) (by simp only[e1,e2,e3,e4,Rs.next_ok,Rs.next_err,↓reduceIte,z0,z1,<- hc1]));simp only[Xb]at hq;subst hq;clear hQ;(refine hKT _ _ _ _ (by kernel_rfl) ?_;clear hKT KT);((try simp only[zs]);refine Qk.nrm rfl (.inr ⟨[],by decide,by simp,?_⟩);simp[zM])
theorem c_pair{l:List C}{n F:Int}{I:List T ->T ->Int ->Rs T}{J:List T ->T ->T ->Int ->Rs Unit}(hk:Kc l)(hF:F<=19999)(bI:IB l n I)(bJ:KB l n J)(hI:IS l n I F)(hJ:KS l n J F){c:List T}{t y:T}{f:Int}(h0:0<=f)(h1:f<=F)(hs:Sub n (l.map C.lv) c t)(hc:Cx c f)(hkk:t.k=13)(hy0:okY (f+1) y) :
  Sp 68 [.box 0 0,Ts c,Qj t,Qj y] (iO (f+1) l n) (RP l n Xb (askR l I J c t y f)):=by
 have h2:f<=20000:=by omega
 have hcl:=hc.len;have hcc:c.length<=1000000:=by omega
 have hF2:F<=20000:=by omega
 have hy:=hy0.le (show f<=f+1 by omega);have hl:=hs.ks hkk (m:=2);obtain⟨x0,x1,hks⟩:=Qmt hl;have z0:t.kid 0=x0:=by unfold T.kid;rw[hks];rfl
 have z1:t.kid 1=x1:=by unfold T.kid;rw[hks];rfl
 have hEt:Qj t= .agg [.int .i64 t.k, .int .i64 t.n, .int .i64 t.a, .slice (t.ls.map Qn) .any, .slice [Qj x0,Qj x1] .any]:=by rw[Qb t,hks];rfl
 have k0:=hs.kid (i:=0) (by omega) (by rw[hkk];rfl);rw[z0]at k0;have k1:=hs.kid (i:=1) (by omega) (by rw[hkk];rfl);rw[z1]at k1;have hE0:=Qb x0;have hE1:=Qb x1;rw[hkk]at hEt;have hEy:=Qb y;have L1:1<=Ql:=by unfold Ql;omega
 have L2:2<=Ql:=by unfold Ql;omega
 have L3:3<=Ql:=by unfold Ql;omega
 have bu:Sp 118 [.box 0 0, .int .i64 1] (iO (f+1) l n) (fun o hc=>o.fgt= .ret (.tuple [])/\hc=iO f l n):=by
  have h:=Qbq (l:=l) (n:=n) (f:=f+1) (m:=1) (by omega) (by omega);rw[show Qd1 1 (f+1)= .ok ((),f) by unfold Qd1;rw[if_pos (by omega),show f+1 - 1=f by omega]]at h;exact h
 have hA:askR l I J c t y f=(asR l y 12 9 f).next fun v f=>(J c (t.kid 0) v.1 f).next fun _ f=>(Qn0 v.2 (t.kid 0) f).next fun z f=>J c (t.kid 1) z f:=by
  unfold askR;rw[if_neg (show ¬ t.k=5 by rw[hkk];decide),if_pos hkk]
 refine RP.of ?_;generalize hQ:RQ l n Xb (askR l I J c t y f)=Q;rw[hA]at hQ;rw[hEt,hEy];simp only[hE0,hE1];unfold iO Cs at bu;unfold iO Cs Ts;refine eN Tryz.func68 rfl (by decide) rfl rfl ?_;(refine sI fun K Z=>?_;(repeat rw[Qa];simp);refine Z ?_;clear Z K);(refine sR fun K hK=>?_;(repeat rw[Qa];simp));refine cXf [0,1] (bu) ?_;simp[zU]
 (repeat rw[Qa];simp)
 (refine hK _ _ _ ?_;clear hK K);(refine sI fun K Z=>?_;(repeat rw[Qa];simp);refine Z ?_;clear Z K);refine Wd ?_;(refine sI fun K Z=>?_;(repeat rw[Qa];simp);refine Z ?_;clear Z K);refine pF rfl ?_;(refine sI fun K Z=>?_;(repeat rw[Qa];simp);refine Z ?_;clear Z K);refine pT rfl ?_;(refine sR fun K hK=>?_;(repeat rw[Qa];simp));rcases Qv l n asD (asR l y 12 9 f)with ⟨v,f1,e1,q1⟩ | ⟨ee,e1,q1⟩
 rotate_left
 ·have hh:=Qas hk (n:=n) (k:=12) (e:=9) h0 (by omega) hy;rw[q1]at hh;have hq:=hQ.symm.trans (Wh (e:=ee) (by simp only[e1,Rs.next_ok,Rs.next_err,↓reduceIte,z0,z1]));subst hq;clear hQ;simp only[hEy]at hh;unfold iO Cs Wq at hh
  try unfold Ts at hh
  refine cXg [0,1] (hh) ?_;simp[zU];((try simp only[zs]);refine Qk.pan (.inr ⟨[],by decide,by simp,?_⟩);simp[zM])
 have cc1:=Qas hk (n:=n) (k:=12) (e:=9) h0 (by omega) hy;rw[q1]at cc1;obtain⟨a1,b1,d2,d3,p2⟩:=Qbk hk.ok h0 hy e1;obtain⟨va,vb⟩:=v;have hEva:=Qb va;have hEvb:=Qb vb;unfold asD at cc1;dsimp only at cc1;simp only[hEy,hEva,hEvb]at cc1;unfold iO Cs at cc1
 try unfold Ts at cc1
 replace d2:okY f1 va:=d2
 replace d3:okY f1 vb:=d3
 replace p2:((va.pot+vb.pot:Nat):Int)<=y.pot+7 * (f - f1)+1:=p2
 refine cXf [0,1] (cc1) ?_;simp[zU]
 (repeat rw[Qa];simp)
 clear cc1 q1;(refine hK _ _ _ ?_;clear hK K);(refine Qc fun K hK=>?_;refine dR fun KT hKT=>?_;(repeat rw[Qd];simp));rcases Qv l n Xb (J c x0 va f1)with ⟨u2,f2,e2,q2⟩ | ⟨ee,e2,q2⟩
 rotate_left
 ·have hh:=hJ c x0 va f1 a1 (by omega) k0 (hc.le (by omega)) d2;rw[q2]at hh;have hq:=hQ.symm.trans (Wh (e:=ee) (by simp only[e1,e2,Rs.next_ok,Rs.next_err,↓reduceIte,z0,z1]));subst hq;clear hQ;simp only[hE0,hEva]at hh;unfold iO Cs Wq at hh
  try unfold Ts at hh
  refine cYo [0,1] true false (hh) (fun o h e=>e) ?_;simp[zU];((try simp only[Qt,Qu,Qr,Qw,Wi]);(repeat(refine Wr _ _ _ _ (by kernel_rfl) ?_;simp only[Qr,List.set,List.nil_append,List.cons_append,Nat.reduceAdd]));(try simp only[Qm]));(refine hKT _ _ _ _ (by kernel_rfl) ?_;clear hKT KT);simp[Xi];((try simp only[zs]);refine Qk.pan (.inr ⟨[],by decide,by simp,?_⟩);simp[zM])
 have cc2:=hJ c x0 va f1 a1 (by omega) k0 (hc.le (by omega)) d2;rw[q2]at cc2;obtain⟨a2,b2⟩:=bJ c x0 va f1 _ _ a1 (by omega) k0 (hc.le (by omega)) d2 e2;unfold Xb at cc2;simp only[hE0,hEva]at cc2;unfold iO Cs at cc2
 try unfold Ts at cc2
 refine cYo [0,1] true true (cc2) (fun o h e=>e) ?_;simp[zU];(try simp only[zq]);(repeat rw[Qd];simp);clear cc2 q2;(refine hKT _ _ _ _ (by kernel_rfl) ?_;clear hKT KT);(refine hK _ _ _ ?_;clear hK K);(refine dR fun KT hKT=>?_;(repeat rw[Qd];simp));rcases Qv l n Qj (Qn0 vb x0 f2)with ⟨z,f3,e3,q3⟩ | ⟨ee,e3,q3⟩
 rotate_left
 ·have hh:=Qbz (l:=l) (n:=n) (f:=f2) (t:=vb) (a:=x0) (by omega) ⟨d3.1,d3.pm (by omega)⟩ ⟨k0.ok,by have:=k0.pot;unfold PM;omega⟩;rw[q3]at hh;have hq:=hQ.symm.trans (Wh (e:=ee) (by simp only[e1,e2,e3,Rs.next_ok,Rs.next_err,↓reduceIte,z0,z1]));subst hq;clear hQ;simp only[hEvb,hE0]at hh;unfold iO Cs Wq at hh
  try unfold Ts at hh
  refine cYo [0,1] true false (hh) (fun o h e=>e) ?_;simp[zU];((try simp only[Qt,Qu,Qr,Qw,Wi]);(repeat(refine Wr _ _ _ _ (by kernel_rfl) ?_;simp only[Qr,List.set,List.nil_append,List.cons_append,Nat.reduceAdd]));(try simp only[Qm]));(refine hKT _ _ _ _ (by kernel_rfl) ?_;clear hKT KT);simp[Xi];((try simp only[zs]);refine Qk.pan (.inr ⟨[],by decide,by simp,?_⟩);simp[zM])
 have cc3:=Qbz (l:=l) (n:=n) (f:=f2) (t:=vb) (a:=x0) (by omega) ⟨d3.1,d3.pm (by omega)⟩ ⟨k0.ok,by have:=k0.pot;unfold PM;omega⟩;rw[q3]at cc3;obtain⟨a3,b3,oz,nz, -⟩:=Qg7 (n:=n) a2 d3.1 k0.ok e3;have pz:=Qfy z;have hEz:=Qb z;simp only[hEvb,hE0,hEz]at cc3;unfold iO Cs at cc3
 try unfold Ts at cc3
 refine cYo [0,1] true true (cc3) (fun o h e=>e) ?_;simp[zU];(try simp only[zq]);(repeat rw[Qd];simp);clear cc3 q3;rcases Qv l n Xb (J c x1 z f3)with ⟨u4,f4,e4,q4⟩ | ⟨ee,e4,q4⟩
 rotate_left
 ·have hh:=hJ c x1 z f3 a3 (by omega) k1 (hc.le (by omega)) ⟨oz,by unfold Yb;omega⟩;rw[q4]at hh;have hq:=hQ.symm.trans (Wh (e:=ee) (by simp only[e1,e2,e3,e4,Rs.next_ok,Rs.next_err,↓reduceIte,z0,z1]));subst hq;clear hQ;simp only[hE1,hEz]at hh;unfold iO Cs Wq at hh
  try unfold Ts at hh
  refine cYo [0,1] true false (hh) (fun o h e=>e) ?_;simp[zU];((try simp only[Qt,Qu,Qr,Qw,Wi]);(repeat(refine Wr _ _ _ _ (by kernel_rfl) ?_;simp only[Qr,List.set,List.nil_append,List.cons_append,Nat.reduceAdd]));(try simp only[Qm]));(refine hKT _ _ _ _ (by kernel_rfl) ?_;clear hKT KT);simp[Xi];((try simp only[zs]);refine Qk.pan (.inr ⟨[],by decide,by simp,?_⟩);simp[zM])
 have cc4:=hJ c x1 z f3 a3 (by omega) k1 (hc.le (by omega)) ⟨oz,by unfold Yb;omega⟩;rw[q4]at cc4;unfold Xb at cc4;simp only[hE1,hEz]at cc4;unfold iO Cs at cc4
 try unfold Ts at cc4
 refine cYo [0,1] true true (cc4) (fun o h e=>e) ?_;simp[zU];(try simp only[zq]);(repeat rw[Qd];simp);clear cc4 q4;have hq:=hQ.symm.trans (Qbi (()) (g:=f4) (by simp only[e1,e2,e3,e4,Rs.next_ok,Rs.next_err,↓reduceIte,z0,z1]));simp only[Xb]at hq;subst hq;clear hQ;(refine hKT _ _ _ _ (by kernel_rfl) ?_;clear hKT KT);((try simp only[zs]);refine Qk.nrm rfl (.inr ⟨[],by decide,by simp,?_⟩);simp[zM])
set_option maxHeartbeats 16000000 in
theorem c_sup{l:List C}{n F:Int}{I:List T ->T ->Int ->Rs T}{J:List T ->T ->T ->Int ->Rs Unit}(hk:Kc l)(hF:F<=19999)(bI:IB l n I)(bJ:KB l n J)(hI:IS l n I F)(hJ:KS l n J F){c:List T}{t y:T}{f:Int}(h0:0<=f)(h1:f<=F)(hs:Sub n (l.map C.lv) c t)(hc:Cx c f)(hkk:t.k=17)(hy0:okY (f+1) y) :
  Sp 68 [.box 0 0,Ts c,Qj t,Qj y] (iO (f+1) l n) (RP l n Xb (askR l I J c t y f)):=by
 have h2:f<=20000:=by omega
 have hcl:=hc.len;have hcc:c.length<=1000000:=by omega
 have hF2:F<=20000:=by omega
 have hy:=hy0.le (show f<=f+1 by omega);have hl:=hs.ks hkk (m:=2);obtain⟨x0,x1,hks⟩:=Qmt hl;have z0:t.kid 0=x0:=by unfold T.kid;rw[hks];rfl
 have z1:t.kid 1=x1:=by unfold T.kid;rw[hks];rfl
 have hEt:Qj t= .agg [.int .i64 t.k, .int .i64 t.n, .int .i64 t.a, .slice (t.ls.map Qn) .any, .slice [Qj x0,Qj x1] .any]:=by rw[Qb t,hks];rfl
 have k0:=hs.kid (i:=0) (by omega) (by rw[hkk];rfl);rw[z0]at k0;have k1:=hs.kid (i:=1) (by omega) (by rw[hkk];rfl);rw[z1]at k1;have hE0:=Qb x0;have hE1:=Qb x1;rw[hkk]at hEt;have hEy:=Qb y;have L1:1<=Ql:=by unfold Ql;omega
 have L2:2<=Ql:=by unfold Ql;omega
 have L3:3<=Ql:=by unfold Ql;omega
 have bu:Sp 118 [.box 0 0, .int .i64 1] (iO (f+1) l n) (fun o hc=>o.fgt= .ret (.tuple [])/\hc=iO f l n):=by
  have h:=Qbq (l:=l) (n:=n) (f:=f+1) (m:=1) (by omega) (by omega);rw[show Qd1 1 (f+1)= .ok ((),f) by unfold Qd1;rw[if_pos (by omega),show f+1 - 1=f by omega]]at h;exact h
 have hA:askR l I J c t y f=(asR l y 16 10 f).next fun v f=>(J c (t.kid 0) v.1 f).next fun _ f=>(Qn0 v.2 (t.kid 0) f).next fun z f=>J c (t.kid 1) (ofT 4 [z,ofT 16 [v.1.lift 1 0 0,v.2.lift 1 1 0]]) f:=by
  unfold askR;rw[if_neg (show ¬ t.k=5 by rw[hkk];decide),if_neg (show ¬ t.k=13 by rw[hkk];decide),if_pos hkk]
 refine RP.of ?_;generalize hQ:RQ l n Xb (askR l I J c t y f)=Q;rw[hA]at hQ;rw[hEt,hEy];simp only[hE0,hE1];unfold iO Cs at bu;unfold iO Cs Ts;refine eN Tryz.func68 rfl (by decide) rfl rfl ?_;(refine sI fun K Z=>?_;(repeat rw[Qa];simp);refine Z ?_;clear Z K);(refine sR fun K hK=>?_;(repeat rw[Qa];simp));refine cXf [0,1] (bu) ?_;simp[zU]
 (repeat rw[Qa];simp)
 (refine hK _ _ _ ?_;clear hK K);(refine sI fun K Z=>?_;(repeat rw[Qa];simp);refine Z ?_;clear Z K);refine Wd ?_;(refine sI fun K Z=>?_;(repeat rw[Qa];simp);refine Z ?_;clear Z K);refine pF rfl ?_;(refine sI fun K Z=>?_;(repeat rw[Qa];simp);refine Z ?_;clear Z K);refine pF rfl ?_;(refine sI fun K Z=>?_;(repeat rw[Qa];simp);refine Z ?_;clear Z K);refine pT rfl ?_;(refine sR fun K hK=>?_;(repeat rw[Qa];simp));rcases Qv l n asD (asR l y 16 10 f)with ⟨v,f1,e1,q1⟩ | ⟨ee,e1,q1⟩
 rotate_left
 ·have hh:=Qas hk (n:=n) (k:=16) (e:=10) h0 (by omega) hy;rw[q1]at hh;have hq:=hQ.symm.trans (Wh (e:=ee) (by simp only[e1,Rs.next_ok,Rs.next_err,↓reduceIte,z0,z1]));subst hq;clear hQ;simp only[hEy]at hh;unfold iO Cs Wq at hh
  try unfold Ts at hh
  refine cXg [0,1] (hh) ?_;simp[zU];((try simp only[zs]);refine Qk.pan (.inr ⟨[],by decide,by simp,?_⟩);simp[zM])
 have cc1:=Qas hk (n:=n) (k:=16) (e:=10) h0 (by omega) hy;rw[q1]at cc1;obtain⟨a1,b1,d2,d3,p2⟩:=Qbk hk.ok h0 hy e1;obtain⟨va,vb⟩:=v;have hEva:=Qb va;have hEvb:=Qb vb;unfold asD at cc1;dsimp only at cc1;simp only[hEy,hEva,hEvb]at cc1;unfold iO Cs at cc1
 try unfold Ts at cc1
 replace d2:okY f1 va:=d2
 replace d3:okY f1 vb:=d3
 replace p2:((va.pot+vb.pot:Nat):Int)<=y.pot+7 * (f - f1)+1:=p2
 refine cXf [0,1] (cc1) ?_;simp[zU]
 (repeat rw[Qa];simp)
 clear cc1 q1;(refine hK _ _ _ ?_;clear hK K);(refine Qc fun K hK=>?_;refine dR fun KT hKT=>?_;(repeat rw[Qd];simp));rcases Qv l n Xb (J c x0 va f1)with ⟨u2,f2,e2,q2⟩ | ⟨ee,e2,q2⟩
 rotate_left
 ·have hh:=hJ c x0 va f1 a1 (by omega) k0 (hc.le (by omega)) d2;rw[q2]at hh;have hq:=hQ.symm.trans (Wh (e:=ee) (by simp only[e1,e2,Rs.next_ok,Rs.next_err,↓reduceIte,z0,z1]));subst hq;clear hQ;simp only[hE0,hEva]at hh;unfold iO Cs Wq at hh
  try unfold Ts at hh
  refine cYo [0,1] true false (hh) (fun o h e=>e) ?_;simp[zU];((try simp only[Qt,Qu,Qr,Qw,Wi]);(repeat(refine Wr _ _ _ _ (by kernel_rfl) ?_;simp only[Qr,List.set,List.nil_append,List.cons_append,Nat.reduceAdd]));(try simp only[Qm]));(refine hKT _ _ _ _ (by kernel_rfl) ?_;clear hKT KT);simp[Xi];((try simp only[zs]);refine Qk.pan (.inr ⟨[],by decide,by simp,?_⟩);simp[zM])
 have cc2:=hJ c x0 va f1 a1 (by omega) k0 (hc.le (by omega)) d2;rw[q2]at cc2;obtain⟨a2,b2⟩:=bJ c x0 va f1 _ _ a1 (by omega) k0 (hc.le (by omega)) d2 e2;unfold Xb at cc2;simp only[hE0,hEva]at cc2;unfold iO Cs at cc2
 try unfold Ts at cc2
 refine cYo [0,1] true true (cc2) (fun o h e=>e) ?_;simp[zU];(try simp only[zq]);(repeat rw[Qd];simp);clear cc2 q2;(refine hKT _ _ _ _ (by kernel_rfl) ?_;clear hKT KT);(refine hK _ _ _ ?_;clear hK K);(refine dR fun KT hKT=>?_;(repeat rw[Qd];simp));have ola:=Qfb va 1 d2.1 (d2.pm (by omega));obtain⟨la,wla⟩:∃la,va.lift 1 0 0=la:=⟨_,rfl⟩;have hEla:=Qb la;simp only[wla,List.map_cons,List.map_nil,hEva,hEla]at ola;have olb:=Qby vb 1 1 (by have:=vb.deep_nsz;have:=Qef vb;have:=d3.pm (show 0<=f1 by omega);unfold PM at this;unfold DM;omega) d3.1;obtain⟨lb,wlb⟩:∃lb,vb.lift 1 1 0=lb:=⟨_,rfl⟩;have hElb:=Qb lb;simp only[wlb,List.map_cons,List.map_nil,hEvb,hElb]at olb;have oq1:=Ze 16 [la,lb];obtain⟨q1,wq1⟩:∃q1,ofT 16 [la,lb]=q1:=⟨_,rfl⟩;have hEq1:=Qb q1;simp only[wq1,List.map_cons,List.map_nil,hEla,hElb,hEq1]at oq1;rcases Qv l n Qj (Qn0 vb x0 f2)with ⟨z,f3,e3,q3⟩ | ⟨ee,e3,q3⟩
 rotate_left
 ·have hh:=Qbz (l:=l) (n:=n) (f:=f2) (t:=vb) (a:=x0) (by omega) ⟨d3.1,d3.pm (by omega)⟩ ⟨k0.ok,by have:=k0.pot;unfold PM;omega⟩;rw[q3]at hh;have hq:=hQ.symm.trans (Wh (e:=ee) (by simp only[e1,e2,e3,Rs.next_ok,Rs.next_err,↓reduceIte,z0,z1]));subst hq;clear hQ;simp only[hEvb,hE0]at hh;unfold iO Cs Wq at hh
  try unfold Ts at hh
  refine cYo [0,1] true false (hh) (fun o h e=>e) ?_;simp[zU];(try simp only[Qt,Qu,Qr,Qw,Wi])
  (rw[Qd,if_neg (Bool.eq_false_iff.mp (by kernel_rfl))];simp)
  (refine Wr _ _ _ _ (by kernel_rfl) ?_;simp only[Qr,List.set,List.nil_append,List.cons_append,Nat.reduceAdd])
  (rw[Qd,if_neg (Bool.eq_false_iff.mp (by kernel_rfl))];simp)
  ((try simp only[Qt,Qu,Qr,Qw,Wi]);(repeat(refine Wr _ _ _ _ (by kernel_rfl) ?_;simp only[Qr,List.set,List.nil_append,List.cons_append,Nat.reduceAdd]));(try simp only[Qm]));(refine hKT _ _ _ _ (by kernel_rfl) ?_;clear hKT KT);simp[Xi];((try simp only[zs]);refine Qk.pan (.inr ⟨[],by decide,by simp,?_⟩);simp[zM])
 have cc3:=Qbz (l:=l) (n:=n) (f:=f2) (t:=vb) (a:=x0) (by omega) ⟨d3.1,d3.pm (by omega)⟩ ⟨k0.ok,by have:=k0.pot;unfold PM;omega⟩;rw[q3]at cc3;obtain⟨a3,b3,oz,nz, -⟩:=Qg7 (n:=n) a2 d3.1 k0.ok e3;have pz:=Qfy z;have hEz:=Qb z;simp only[hEvb,hE0,hEz]at cc3;unfold iO Cs at cc3
 try unfold Ts at cc3
 have oq2:=Ze 4 [z,q1];obtain⟨q2,wq2⟩:∃q2,ofT 4 [z,q1]=q2:=⟨_,rfl⟩;have hEq2:=Qb q2;simp only[wq2,List.map_cons,List.map_nil,hEz,hEq1,hEq2]at oq2;have oq22:okT q2/\q2.pot<=z.pot+14+(va.pot+vb.pot):=by
  rw[<- wq2,<- wq1,<- wla,<- wlb];refine⟨Qaj Qdc oz (Qaj Qdc (Qbe _ _ _ d2.1) (Qbe _ _ _ d3.1)),?_⟩;have:=Qag 4 z (ofT 16 [va.lift 1 0 0,vb.lift 1 1 0]);have:=Qag 16 (va.lift 1 0 0) (vb.lift 1 1 0);rw[Qcf,Qcf]at this;omega
 have oqy:okY f3 q2:=⟨oq22.1,by have:=oq22.2;have:=hy0.2;unfold Yb at *;omega⟩;refine cYo [0,1] true true (cc3) (fun o h e=>e) ?_;simp[zU];(try simp only[zq]);(repeat rw[Qd];simp);clear cc3 q3;refine cYp (ola) ?_;(try simp only[zq]);(repeat rw[Qd];simp);refine cYp (olb) ?_;(try simp only[zq]);(repeat rw[Qd];simp[L2]);refine Xp.pureD Qf (oq1) ?_ (by simp[D.deeps,D.deep,D.fgts,D.fgt]) (by simp[D.pures,D.pure,Cp.free,D.pures_map]) (by simp[Out.pure,D.pure,D.pures,Cp.free,D.pures_map]);(try simp only[zq]);(repeat rw[Qd];simp[L2]);refine Xp.pureD Qf (oq2) ?_ (by simp[D.deeps,D.deep,D.fgts,D.fgt]) (by simp[D.pures,D.pure,Cp.free,D.pures_map]) (by simp[Out.pure,D.pure,D.pures,Cp.free,D.pures_map]);(try simp only[zq]);(repeat rw[Qd];simp);rcases Qv l n Xb (J c x1 q2 f3)with ⟨u4,f4,e4,q4⟩ | ⟨ee,e4,q4⟩
 rotate_left
 ·have hh:=hJ c x1 q2 f3 a3 (by omega) k1 (hc.le (by omega)) oqy;rw[q4]at hh;have hq:=hQ.symm.trans (Wh (e:=ee) (by simp only[e1,e2,e3,e4,Rs.next_ok,Rs.next_err,↓reduceIte,z0,z1,wla,wlb,wq1,wq2]));subst hq;clear hQ;simp only[hE1,hEq2]at hh;unfold iO Cs Wq at hh
  try unfold Ts at hh
  refine cYo [0,1] true false (hh) (fun o h e=>e) ?_;simp[zU];((try simp only[Qt,Qu,Qr,Qw,Wi]);(repeat(refine Wr _ _ _ _ (by kernel_rfl) ?_;simp only[Qr,List.set,List.nil_append,List.cons_append,Nat.reduceAdd]));(try simp only[Qm]));(refine hKT _ _ _ _ (by kernel_rfl) ?_;clear hKT KT);simp[Xi];((try simp only[zs]);refine Qk.pan (.inr ⟨[],by decide,by simp,?_⟩);simp[zM])
 have cc4:=hJ c x1 q2 f3 a3 (by omega) k1 (hc.le (by omega)) oqy;rw[q4]at cc4;unfold Xb at cc4;simp only[hE1,hEq2]at cc4;unfold iO Cs at cc4
 try unfold Ts at cc4
 refine cYo [0,1] true true (cc4) (fun o h e=>e) ?_;simp[zU];(try simp only[zq]);(repeat rw[Qd];simp);clear cc4 q4;have hq:=hQ.symm.trans (Qbi (()) (g:=f4) (by simp only[e1,e2,e3,e4,Rs.next_ok,Rs.next_err,↓reduceIte,z0,z1,wla,wlb,wq1,wq2]));simp only[Xb]at hq;subst hq;clear hQ;(refine hKT _ _ _ _ (by kernel_rfl) ?_;clear hKT KT);((try simp only[zs]);refine Qk.nrm rfl (.inr ⟨[],by decide,by simp,?_⟩);simp[zM])
theorem c_let{l:List C}{n F:Int}{I:List T ->T ->Int ->Rs T}{J:List T ->T ->T ->Int ->Rs Unit}(hk:Kc l)(hF:F<=19999)(bI:IB l n I)(bJ:KB l n J)(hI:IS l n I F)(hJ:KS l n J F){c:List T}{t y:T}{f:Int}(h0:0<=f)(h1:f<=F)(hs:Sub n (l.map C.lv) c t)(hc:Cx c f)(hkk:t.k=7)(hy0:okY (f+1) y) :
  Sp 68 [.box 0 0,Ts c,Qj t,Qj y] (iO (f+1) l n) (RP l n Xb (askR l I J c t y f)):=by
 have h2:f<=20000:=by omega
 have hcl:=hc.len;have hcc:c.length<=1000000:=by omega
 have hF2:F<=20000:=by omega
 have hy:=hy0.le (show f<=f+1 by omega);have hEt:=Qb t;rw[hkk]at hEt;have hEy:=Qb y;have L1:1<=Ql:=by unfold Ql;omega
 have L2:2<=Ql:=by unfold Ql;omega
 have L3:3<=Ql:=by unfold Ql;omega
 have bu:Sp 118 [.box 0 0, .int .i64 1] (iO (f+1) l n) (fun o hc=>o.fgt= .ret (.tuple [])/\hc=iO f l n):=by
  have h:=Qbq (l:=l) (n:=n) (f:=f+1) (m:=1) (by omega) (by omega);rw[show Qd1 1 (f+1)= .ok ((),f) by unfold Qd1;rw[if_pos (by omega),show f+1 - 1=f by omega]]at h;exact h
 have hA:askR l I J c t y f=(letR l I J c t f).next fun u f=>J c u y f:=by
  unfold askR;rw[if_neg (show ¬ t.k=5 by rw[hkk];decide),if_neg (show ¬ t.k=13 by rw[hkk];decide),if_neg (show ¬ t.k=17 by rw[hkk];decide),if_neg (show ¬ t.k=20 by rw[hkk];decide),if_pos hkk]
 refine RP.of ?_;generalize hQ:RQ l n Xb (askR l I J c t y f)=Q;rw[hA]at hQ;rw[hEt,hEy];unfold iO Cs at bu;unfold iO Cs Ts;refine eN Tryz.func68 rfl (by decide) rfl rfl ?_;(refine sI fun K Z=>?_;(repeat rw[Qa];simp);refine Z ?_;clear Z K);(refine sR fun K hK=>?_;(repeat rw[Qa];simp));refine cXf [0,1] (bu) ?_;simp[zU]
 (repeat rw[Qa];simp)
 (refine hK _ _ _ ?_;clear hK K);(refine sI fun K Z=>?_;(repeat rw[Qa];simp);refine Z ?_;clear Z K);refine Wd ?_;(refine sI fun K Z=>?_;(repeat rw[Qa];simp);refine Z ?_;clear Z K);refine pF rfl ?_;(refine sI fun K Z=>?_;(repeat rw[Qa];simp);refine Z ?_;clear Z K);refine pF rfl ?_;(refine sI fun K Z=>?_;(repeat rw[Qa];simp);refine Z ?_;clear Z K);refine pF rfl ?_;(refine sI fun K Z=>?_;(repeat rw[Qa];simp);refine Z ?_;clear Z K);refine pF rfl ?_;(refine sI fun K Z=>?_;(repeat rw[Qa];simp);refine Z ?_;clear Z K);refine pT rfl ?_;(refine dR fun KT hKT=>?_;(repeat rw[Qd];simp));rcases Qv l n Qj (letR l I J c t f)with ⟨u,f1,e1,q1⟩ | ⟨ee,e1,q1⟩
 rotate_left
 ·have hh:=Wdc hk hF2 bI bJ hI hJ h0 h1 hs hc hkk;rw[q1]at hh;have hq:=hQ.symm.trans (Wh (e:=ee) (by simp only[e1,Rs.next_ok,Rs.next_err,↓reduceIte]));subst hq;clear hQ;simp only[hEt]at hh;unfold iO Cs Wq at hh
  try unfold Ts at hh
  refine cYo [0,1] true false (hh) (fun o h e=>e) ?_;simp[zU];(try simp only[Qt,Qu,Qr,Qw,Wi])
  (rw[Qd,if_neg (Bool.eq_false_iff.mp (by kernel_rfl))];simp)
  ((try simp only[Qt,Qu,Qr,Qw,Wi]);(repeat(refine Wr _ _ _ _ (by kernel_rfl) ?_;simp only[Qr,List.set,List.nil_append,List.cons_append,Nat.reduceAdd]));(try simp only[Qm]));(refine hKT _ _ _ _ (by kernel_rfl) ?_;clear hKT KT);simp[Xi];((try simp only[zs]);refine Qk.pan (.inr ⟨[],by decide,by simp,?_⟩);simp[zM])
 have cc1:=Wdc hk hF2 bI bJ hI hJ h0 h1 hs hc hkk;rw[q1]at cc1;obtain⟨a1,b1,d1⟩:=Qob hk bI bJ h0 h2 hs hc hkk e1;have hEu:=Qb u;simp only[hEt,hEu]at cc1;unfold iO Cs at cc1
 try unfold Ts at cc1
 refine cYo [0,1] true true (cc1) (fun o h e=>e) ?_;simp[zU];(try simp only[zq]);(repeat rw[Qd];simp);clear cc1 q1;rcases Qv l n Xb (J c u y f1)with ⟨u2,f2,e2,q2⟩ | ⟨ee,e2,q2⟩
 rotate_left
 ·have hh:=hJ c u y f1 a1 (by omega) d1 (hc.le (by omega)) (hy.le (by omega));rw[q2]at hh;have hq:=hQ.symm.trans (Wh (e:=ee) (by simp only[e1,e2,Rs.next_ok,Rs.next_err,↓reduceIte]));subst hq;clear hQ;simp only[hEu,hEy]at hh;unfold iO Cs Wq at hh
  try unfold Ts at hh
  refine cYo [0,1] true false (hh) (fun o h e=>e) ?_;simp[zU];((try simp only[Qt,Qu,Qr,Qw,Wi]);(repeat(refine Wr _ _ _ _ (by kernel_rfl) ?_;simp only[Qr,List.set,List.nil_append,List.cons_append,Nat.reduceAdd]));(try simp only[Qm]));(refine hKT _ _ _ _ (by kernel_rfl) ?_;clear hKT KT);simp[Xi];((try simp only[zs]);refine Qk.pan (.inr ⟨[],by decide,by simp,?_⟩);simp[zM])
 have cc2:=hJ c u y f1 a1 (by omega) d1 (hc.le (by omega)) (hy.le (by omega));rw[q2]at cc2;unfold Xb at cc2;simp only[hEu,hEy]at cc2;unfold iO Cs at cc2
 try unfold Ts at cc2
 refine cYo [0,1] true true (cc2) (fun o h e=>e) ?_;simp[zU];(try simp only[zq]);(repeat rw[Qd];simp);clear cc2 q2;have hq:=hQ.symm.trans (Qbi (()) (g:=f2) (by simp only[e1,e2,Rs.next_ok,Rs.next_err,↓reduceIte]));simp only[Xb]at hq;subst hq;clear hQ;(refine hKT _ _ _ _ (by kernel_rfl) ?_;clear hKT KT);((try simp only[zs]);refine Qk.nrm rfl (.inr ⟨[],by decide,by simp,?_⟩);simp[zM])
theorem c_refl{l:List C}{n F:Int}{I:List T ->T ->Int ->Rs T}{J:List T ->T ->T ->Int ->Rs Unit}(hk:Kc l)(hF:F<=19999)(bI:IB l n I)(bJ:KB l n J)(hI:IS l n I F)(hJ:KS l n J F){c:List T}{t y:T}{f:Int}(h0:0<=f)(h1:f<=F)(hs:Sub n (l.map C.lv) c t)(hc:Cx c f)(hkk:t.k=20)(hy0:okY (f+1) y) :
  Sp 68 [.box 0 0,Ts c,Qj t,Qj y] (iO (f+1) l n) (RP l n Xb (askR l I J c t y f)):=by
 have h2:f<=20000:=by omega
 have hcl:=hc.len;have hcc:c.length<=1000000:=by omega
 have hF2:F<=20000:=by omega
 have hy:=hy0.le (show f<=f+1 by omega);have hEt:=Qb t;rw[hkk]at hEt;have hEy:=Qb y;have L1:1<=Ql:=by unfold Ql;omega
 have L2:2<=Ql:=by unfold Ql;omega
 have L3:3<=Ql:=by unfold Ql;omega
 have bu:Sp 118 [.box 0 0, .int .i64 1] (iO (f+1) l n) (fun o hc=>o.fgt= .ret (.tuple [])/\hc=iO f l n):=by
  have h:=Qbq (l:=l) (n:=n) (f:=f+1) (m:=1) (by omega) (by omega);rw[show Qd1 1 (f+1)= .ok ((),f) by unfold Qd1;rw[if_pos (by omega),show f+1 - 1=f by omega]]at h;exact h
 have hA:askR l I J c t y f=(hdR l y f).next fun x f=>if x.k=19 then oneR l (x.kid 1) (x.kid 2) 11 f else .error 11:=by
  unfold askR;rw[if_neg (show ¬ t.k=5 by rw[hkk];decide),if_neg (show ¬ t.k=13 by rw[hkk];decide),if_neg (show ¬ t.k=17 by rw[hkk];decide),if_pos hkk]
 refine RP.of ?_;generalize hQ:RQ l n Xb (askR l I J c t y f)=Q;rw[hA]at hQ;rw[hEt,hEy];unfold iO Cs at bu;unfold iO Cs Ts;refine eN Tryz.func68 rfl (by decide) rfl rfl ?_;(refine sI fun K Z=>?_;(repeat rw[Qa];simp);refine Z ?_;clear Z K);(refine sR fun K hK=>?_;(repeat rw[Qa];simp));refine cXf [0,1] (bu) ?_;simp[zU]
 (repeat rw[Qa];simp)
 (refine hK _ _ _ ?_;clear hK K);(refine sI fun K Z=>?_;(repeat rw[Qa];simp);refine Z ?_;clear Z K);refine Wd ?_;(refine sI fun K Z=>?_;(repeat rw[Qa];simp);refine Z ?_;clear Z K);refine pF rfl ?_;(refine sI fun K Z=>?_;(repeat rw[Qa];simp);refine Z ?_;clear Z K);refine pF rfl ?_;(refine sI fun K Z=>?_;(repeat rw[Qa];simp);refine Z ?_;clear Z K);refine pF rfl ?_;(refine sI fun K Z=>?_;(repeat rw[Qa];simp);refine Z ?_;clear Z K);refine pT rfl ?_;(refine sR fun K hK=>?_;(repeat rw[Qa];simp));rcases Qv l n Qj (hdR l y f)with ⟨x,f1,e1,q1⟩ | ⟨ee,e1,q1⟩
 rotate_left
 ·have hh:=Qgm hk (n:=n) h0 (by omega) hy;rw[q1]at hh;have hq:=hQ.symm.trans (Wh (e:=ee) (by simp only[e1,Rs.next_ok,Rs.next_err,↓reduceIte]));subst hq;clear hQ;simp only[hEy]at hh;unfold iO Cs Wq at hh
  try unfold Ts at hh
  refine cXg [0,1] (hh) ?_;simp[zU];((try simp only[zs]);refine Qk.pan (.inr ⟨[],by decide,by simp,?_⟩);simp[zM])
 have cc1:=Qgm hk (n:=n) h0 (by omega) hy;rw[q1]at cc1;obtain⟨a1,b1,d1⟩:=Qss hk.ok h0 hy e1;have hEx:=Qb x;simp only[hEy,hEx]at cc1;unfold iO Cs at cc1
 try unfold Ts at cc1
 refine cXf [0,1] (cc1) ?_;simp[zU]
 (repeat rw[Qa];simp)
 clear cc1 q1;(refine hK _ _ _ ?_;clear hK K);by_cases hx:x.k=19
 rotate_left
 ·have hq:=hQ.symm.trans (Wh (e:=11) (by simp only[e1,Rs.next_ok,if_neg hx]));subst hq;clear hQ;have mo:=Qbf 11;unfold Wq at mo;(refine sR fun K hK=>?_;(repeat rw[Qa];simp[hx]));refine cXp (mo) ?_;(try simp only[zr]);(repeat rw[Qa];simp);((try simp only[zs]);refine Qk.pan (.inr ⟨[],by decide,by simp,?_⟩);simp[zM])
 have mo:=Qbp 11;have k1:=Qia x 1;have k2:=Qia x 2;obtain⟨p,hp⟩:∃p,x.kid 1=p:=⟨_,rfl⟩;obtain⟨r,hr⟩:∃r,x.kid 2=r:=⟨_,rfl⟩;have hEp:=Qb p;have hEr:=Qb r;have dp:okY f1 p:=by rw[<- hp];exact⟨Qah d1.1 1,by have:=d1.2;have:=Qbt x 1;omega⟩
 have dr:okY f1 r:=by rw[<- hr];exact⟨Qah d1.1 2,by have:=d1.2;have:=Qbt x 2;omega⟩
 rw[hEx,hp,hEp,hx]at k1;rw[hEx,hr,hEr,hx]at k2;(refine sR fun K hK=>?_;(repeat rw[Qa];simp[hx]));refine cXp (mo) ?_;(try simp only[zr]);(repeat rw[Qa];simp);(refine hK _ _ _ ?_;clear hK K);(refine dR fun KT hKT=>?_;(repeat rw[Qd];simp));refine cYp (k1) ?_;(try simp only[zq]);(repeat rw[Qd];simp);refine cYp (k2) ?_;(try simp only[zq]);(repeat rw[Qd];simp);rcases Qv l n Xb (oneR l p r 11 f1)with ⟨u3,f3,e2,q2⟩ | ⟨ee,e2,q2⟩
 rotate_left
 ·have hh:=Qb0 hk (n:=n) (e:=11) a1 (by omega) dp dr;rw[q2]at hh;have hq:=hQ.symm.trans (Wh (e:=ee) (by simp only[e1,e2,Rs.next_ok,Rs.next_err,↓reduceIte,if_pos hx,hp,hr]));subst hq;clear hQ;simp only[hEp,hEr]at hh;unfold iO Cs Wq at hh
  try unfold Ts at hh
  refine cYo [0,1] true false (hh) (fun o h e=>e) ?_;simp[zU];((try simp only[Qt,Qu,Qr,Qw,Wi]);(repeat(refine Wr _ _ _ _ (by kernel_rfl) ?_;simp only[Qr,List.set,List.nil_append,List.cons_append,Nat.reduceAdd]));(try simp only[Qm]));(refine hKT _ _ _ _ (by kernel_rfl) ?_;clear hKT KT);simp[Xi];((try simp only[zs]);refine Qk.pan (.inr ⟨[],by decide,by simp,?_⟩);simp[zM])
 have cc2:=Qb0 hk (n:=n) (e:=11) a1 (by omega) dp dr;rw[q2]at cc2;unfold Xb at cc2;simp only[hEp,hEr]at cc2;unfold iO Cs at cc2
 try unfold Ts at cc2
 refine cYo [0,1] true true (cc2) (fun o h e=>e) ?_;simp[zU];(try simp only[zq]);(repeat rw[Qd];simp);clear cc2 q2;have hq:=hQ.symm.trans (Qbi (()) (g:=f3) (by simp only[e1,e2,Rs.next_ok,Rs.next_err,↓reduceIte,if_pos hx,hp,hr]));simp only[Xb]at hq;subst hq;clear hQ;(refine hKT _ _ _ _ (by kernel_rfl) ?_;clear hKT KT);((try simp only[zs]);refine Qk.nrm rfl (.inr ⟨[],by decide,by simp,?_⟩);simp[zM])
theorem c_else{l:List C}{n F:Int}{I:List T ->T ->Int ->Rs T}{J:List T ->T ->T ->Int ->Rs Unit}(hk:Kc l)(hF:F<=19999)(bI:IB l n I)(bJ:KB l n J)(hI:IS l n I F)(hJ:KS l n J F){c:List T}{t y:T}{f:Int}(h0:0<=f)(h1:f<=F)(hs:Sub n (l.map C.lv) c t)(hc:Cx c f)(n5:¬ t.k=5)(n13:¬ t.k=13)(n17:¬ t.k=17)(n20:¬ t.k=20)(n7:¬ t.k=7)(hy0:okY (f+1) y) :
  Sp 68 [.box 0 0,Ts c,Qj t,Qj y] (iO (f+1) l n) (RP l n Xb (askR l I J c t y f)):=by
 have h2:f<=20000:=by omega
 have hcl:=hc.len;have hcc:c.length<=1000000:=by omega
 have hF2:F<=20000:=by omega
 have hy:=hy0.le (show f<=f+1 by omega);have hEt:=Qb t;have hEy:=Qb y;have L1:1<=Ql:=by unfold Ql;omega
 have L2:2<=Ql:=by unfold Ql;omega
 have L3:3<=Ql:=by unfold Ql;omega
 have bu:Sp 118 [.box 0 0, .int .i64 1] (iO (f+1) l n) (fun o hc=>o.fgt= .ret (.tuple [])/\hc=iO f l n):=by
  have h:=Qbq (l:=l) (n:=n) (f:=f+1) (m:=1) (by omega) (by omega);rw[show Qd1 1 (f+1)= .ok ((),f) by unfold Qd1;rw[if_pos (by omega),show f+1 - 1=f by omega]]at h;exact h
 have hA:askR l I J c t y f=(I c t f).next fun s f=>(lqR l s y f).next fun is f=>if is=true then .ok ((),f)else .error 13:=by
  unfold askR;rw[if_neg n5,if_neg n13,if_neg n17,if_neg n20,if_neg n7]
 refine RP.of ?_;generalize hQ:RQ l n Xb (askR l I J c t y f)=Q;rw[hA]at hQ;rw[hEt,hEy];unfold iO Cs at bu;unfold iO Cs Ts;refine eN Tryz.func68 rfl (by decide) rfl rfl ?_;(refine sI fun K Z=>?_;(repeat rw[Qa];simp);refine Z ?_;clear Z K);(refine sR fun K hK=>?_;(repeat rw[Qa];simp));refine cXf [0,1] (bu) ?_;simp[zU]
 (repeat rw[Qa];simp)
 (refine hK _ _ _ ?_;clear hK K);(refine sI fun K Z=>?_;(repeat rw[Qa];simp);refine Z ?_;clear Z K);refine Wd ?_;(refine sI fun K Z=>?_;(repeat rw[Qa];simp[n5]);refine Z ?_;clear Z K);refine pF rfl ?_;(refine sI fun K Z=>?_;(repeat rw[Qa];simp[n13]);refine Z ?_;clear Z K);refine pF rfl ?_;(refine sI fun K Z=>?_;(repeat rw[Qa];simp[n17]);refine Z ?_;clear Z K);refine pF rfl ?_;(refine sI fun K Z=>?_;(repeat rw[Qa];simp[n20]);refine Z ?_;clear Z K);refine pF rfl ?_;(refine sI fun K Z=>?_;(repeat rw[Qa];simp[n7]);refine Z ?_;clear Z K);refine pF rfl ?_;(refine sR fun K hK=>?_;(repeat rw[Qa];simp));rcases Qv l n Qj (I c t f)with ⟨s,f1,e1,q1⟩ | ⟨ee,e1,q1⟩
 rotate_left
 ·have hh:=hI c t f h0 h1 hs hc;rw[q1]at hh;have hq:=hQ.symm.trans (Wh (e:=ee) (by simp only[e1,Rs.next_ok,Rs.next_err,↓reduceIte]));subst hq;clear hQ;simp only[hEt]at hh;unfold iO Cs Wq at hh
  try unfold Ts at hh
  refine cXg [0,1] (hh) ?_;simp[zU];((try simp only[zs]);refine Qk.pan (.inr ⟨[],by decide,by simp,?_⟩);simp[zM])
 have cc1:=hI c t f h0 h1 hs hc;rw[q1]at cc1;obtain⟨a1,b1,d1⟩:=bI _ _ _ _ _ h0 h2 hs hc e1;have hEs:=Qb s;simp only[hEt,hEs]at cc1;unfold iO Cs at cc1
 try unfold Ts at cc1
 refine cXf [0,1] (cc1) ?_;simp[zU]
 (repeat rw[Qa];simp)
 clear cc1 q1;(refine hK _ _ _ ?_;clear hK K);rcases Qgj l s y a1 with ⟨⟨is,g⟩,q,e2,H⟩ | ⟨q,e2,H⟩
 ·have cv:=Qjl hk.cs a1 (by omega) ((d1.okY h2).okP a1 (by omega)) ((hy.le (show f1<=f by omega)).okP a1 (by omega)) H;have sp:=Qkz (l:=l) (n:=n) (f:=f1) (g:=g);unfold Wb3 at cv;simp only[hEs,hEy]at cv;unfold Cs at cv;unfold iO Cs at sp;cases is with
  | true =>
   have hq:=hQ.symm.trans (Qbi () (g:=g) (by simp only[e1,e2,Rs.next_ok,if_true]));subst hq;clear hQ;have mo:=Qbp 13;unfold Xb;(refine Qc fun K hK=>?_;refine dR fun KT hKT=>?_;(repeat rw[Qd];simp));refine cYp (cv) ?_;(try simp only[zq]);(repeat rw[Qd];simp);(refine hKT _ _ _ _ (by kernel_rfl) ?_;clear hKT KT);(refine hK _ _ _ ?_;clear hK K);(refine sR fun K hK=>?_;(repeat rw[Qa];simp));refine cXo [0,1] false (sp) ?_;(rintro o hc ⟨rfl,rfl⟩;refine⟨false,?_⟩;simp[zU]);(try simp only[zr]);(repeat rw[Qa];simp);(refine hK _ _ _ ?_;clear hK K);(refine Qi Wa ?_;(repeat rw[Qa];simp));refine cXp (mo) ?_;(try simp only[zr]);(repeat rw[Qa];simp);((try simp only[zs]);refine Qk.nrm rfl (.inr ⟨[],by decide,by simp,?_⟩);simp[zM])
  | false =>
   have hq:=hQ.symm.trans (Wh (e:=13) (by simp[e1,e2,Rs.next_ok]));subst hq;clear hQ;have mo:=Qbf 13;unfold Wq at mo;(refine Qc fun K hK=>?_;refine dR fun KT hKT=>?_;(repeat rw[Qd];simp));refine cYp (cv) ?_;(try simp only[zq]);(repeat rw[Qd];simp);(refine hKT _ _ _ _ (by kernel_rfl) ?_;clear hKT KT);(refine hK _ _ _ ?_;clear hK K);(refine sR fun K hK=>?_;(repeat rw[Qa];simp));refine cXo [0,1] false (sp) ?_;(rintro o hc ⟨rfl,rfl⟩;refine⟨false,?_⟩;simp[zU]);(try simp only[zr]);(repeat rw[Qa];simp);(refine hK _ _ _ ?_;clear hK K);(refine Qi Wa ?_;(repeat rw[Qa];simp));refine cXp (mo) ?_;(try simp only[zr]);(repeat rw[Qa];simp);((try simp only[zs]);refine Qk.pan (.inr ⟨[],by decide,by simp,?_⟩);simp[zM])
 ·have cv:=Qjl hk.cs a1 (by omega) ((d1.okY h2).okP a1 (by omega)) ((hy.le (show f1<=f by omega)).okP a1 (by omega)) H;have sp:=Qk0 (l:=l) (n:=n) (f:=f1) (g:=0) (e:=5) (by omega);unfold Wb3 at cv;simp only[hEs,hEy]at cv;unfold Cs at cv;unfold iO Cs Wq at sp;have hq:=hQ.symm.trans (Wh (e:=5) (by simp only[e1,e2,Rs.next_ok,Rs.next_err]));subst hq;clear hQ;(refine Qc fun K hK=>?_;refine dR fun KT hKT=>?_;(repeat rw[Qd];simp));refine cYp (cv) ?_;(try simp only[zq]);(repeat rw[Qd];simp);(refine hKT _ _ _ _ (by kernel_rfl) ?_;clear hKT KT);(refine hK _ _ _ ?_;clear hK K);(refine sR fun K hK=>?_;(repeat rw[Qa];simp));refine cXo [0,1] false (sp) ?_;(rintro o hc ⟨rfl,rfl⟩;refine⟨false,?_⟩;simp[zU]);((try simp only[zs]);refine Qk.pan (.inr ⟨[],by decide,by simp,?_⟩);simp[zM])
end
theorem Qiu:(Qcl.all fun p=>Qbr .i64 p.1)=true:=rfl
theorem Wfi{l:List C}{n f:Int}(h0:0<=f)(h1:f<=20000):Sp 118 [.box 0 0, .int .i64 1] (iO (f+1) l n) (fun o hc=>o.fgt= .ret (.tuple [])/\hc=iO f l n):=by
 have h:=Qbq (l:=l) (n:=n) (f:=f+1) (m:=1) (by omega) (by omega);rw[show Qd1 1 (f+1)= .ok ((),f) by unfold Qd1;rw[if_pos (by omega),show f+1 - 1=f by omega]]at h;exact h
theorem Wfj{l:List C}{n f:Int}(h1:f<1):Sp 118 [.box 0 0, .int .i64 1] (iO f l n) (fun o hc=>o= .pan (Wq 5)/\hc= [.dead, .dead]):=by
 have h:=Qbq (l:=l) (n:=n) (f:=f) (m:=1) (by omega) (by omega);rw[show Qd1 1 f= .error 5 by unfold Qd1;rw[if_neg (by omega)]]at h;exact h
theorem i_dead{l:List C}{n f:Int}{c:List T}{t:T}(h1:f<1):Sp 79 [.box 0 0,Ts c,Qj t] (iO f l n) (RP l n Qj (.error 5)):=by
 have bu:=Wfj (l:=l) (n:=n) h1;have hEt:=Qb t;refine RP.of ?_;rw[Qdd rfl,hEt];unfold iO Cs Wq at bu;unfold iO Cs Ts Wq;refine eN Tryz.func79 rfl (by decide) rfl rfl ?_;(refine sI fun K Z=>?_;(repeat rw[Qa];simp);refine Z ?_;clear Z K);(refine sR fun K hK=>?_;(repeat rw[Qa];simp));refine cXg [0,1] (bu) ?_;simp[zU];((try simp only[zs]);refine Qk.pan (.inr ⟨[],by decide,by simp,?_⟩);simp[zM])
theorem c_dead{l:List C}{n f:Int}{c:List T}{t y:T}(h1:f<1):Sp 68 [.box 0 0,Ts c,Qj t,Qj y] (iO f l n) (RP l n Xb (.error 5)):=by
 have bu:=Wfj (l:=l) (n:=n) h1;have hEt:=Qb t;have hEy:=Qb y;refine RP.of ?_;rw[Qdd rfl,hEt,hEy];unfold iO Cs Wq at bu;unfold iO Cs Ts Wq;refine eN Tryz.func68 rfl (by decide) rfl rfl ?_;(refine sI fun K Z=>?_;(repeat rw[Qa];simp);refine Z ?_;clear Z K);(refine sR fun K hK=>?_;(repeat rw[Qa];simp));refine cXg [0,1] (bu) ?_;simp[zU];((try simp only[zs]);refine Qk.pan (.inr ⟨[],by decide,by simp,?_⟩);simp[zM])
theorem Qqf{l:List C}{n f:Int}{c:List T}{t:T}{r:Rs T}{fid:FuncId}(h0:0<=f)(h1:f<=20000)(hf:Qcg (.int .i64 t.k) Qcl=some (.fn (.func fid) [] []))
  (hr:Sp fid [.box 0 0,Ts c,Qj t] (iO f l n) (RP l n Qj r)):Sp 79 [.box 0 0,Ts c,Qj t] (iO (f+1) l n) (RP l n Qj r):=by
 have bu:=Wfi (l:=l) (n:=n) h0 h1;have hEt:=Qb t;have mo:=Qbp 14;refine RP.of ?_;rcases Qv l n Qj r with ⟨x,g,e1,q1⟩ | ⟨e,e1,q1⟩
 ·rw[q1]at hr;rw[Qoz e1];have hEx:=Qb x;rw[hEt,hEx]at hr;rw[hEt,hEx];unfold iO Cs Ts at hr⊢;unfold iO Cs at bu;refine eN Tryz.func79 rfl (by decide) rfl rfl ?_;(refine sI fun K Z=>?_;(repeat rw[Qa];simp);refine Z ?_;clear Z K);(refine sR fun K hK=>?_;(repeat rw[Qa];simp));refine cXf [0,1] (bu) ?_;simp[zU]
  (repeat rw[Qa];simp)
  (refine hK _ _ _ ?_;clear hK K);(refine Qc fun K hK=>?_;refine dR fun KT hKT=>?_;(repeat rw[Qd];simp[Qiu,hf]));(refine hKT _ _ _ _ (by kernel_rfl) ?_;clear hKT KT);(refine hK _ _ _ ?_;clear hK K);(refine sR fun K hK=>?_;(repeat rw[Qa];simp));refine cXp (mo) ?_;(try simp only[zr]);(repeat rw[Qa];simp);(refine hK _ _ _ ?_;clear hK K);(refine sR fun K hK=>?_;(repeat rw[Qa];simp));refine cXf [0,1] (hr) ?_;simp[zU]
  (repeat rw[Qa];simp)
  (refine hK _ _ _ ?_;clear hK K);(refine Qe ?_;(try simp only[zs]);refine Qk.ret rfl (.inr ⟨[],by decide,by simp,?_⟩);simp[zM])
 ·rw[q1]at hr;rw[Qdd e1];rw[hEt]at hr;rw[hEt];unfold iO Cs Ts Wq at hr⊢;unfold iO Cs at bu;refine eN Tryz.func79 rfl (by decide) rfl rfl ?_;(refine sI fun K Z=>?_;(repeat rw[Qa];simp);refine Z ?_;clear Z K);(refine sR fun K hK=>?_;(repeat rw[Qa];simp));refine cXf [0,1] (bu) ?_;simp[zU]
  (repeat rw[Qa];simp)
  (refine hK _ _ _ ?_;clear hK K);(refine Qc fun K hK=>?_;refine dR fun KT hKT=>?_;(repeat rw[Qd];simp[Qiu,hf]));(refine hKT _ _ _ _ (by kernel_rfl) ?_;clear hKT KT);(refine hK _ _ _ ?_;clear hK K);(refine sR fun K hK=>?_;(repeat rw[Qa];simp));refine cXp (mo) ?_;(try simp only[zr]);(repeat rw[Qa];simp);(refine hK _ _ _ ?_;clear hK K);(refine sR fun K hK=>?_;(repeat rw[Qa];simp));refine cXg [0,1] (hr) ?_;simp[zU];((try simp only[zs]);refine Qk.pan (.inr ⟨[],by decide,by simp,?_⟩);simp[zM])
theorem i_no{l:List C}{n f:Int}{c:List T}{t:T}(h0:0<=f)(h1:f<=20000)(hf:Qcg (.int .i64 t.k) Qcl=none):Sp 79 [.box 0 0,Ts c,Qj t] (iO (f+1) l n) (RP l n Qj (.error 14)):=by
 have bu:=Wfi (l:=l) (n:=n) h0 h1;have hEt:=Qb t;have mo:=Qbf 14;unfold Wq at mo;refine RP.of ?_;rw[Qdd rfl,hEt];unfold iO Cs at bu;unfold iO Cs Ts Wq;refine eN Tryz.func79 rfl (by decide) rfl rfl ?_;(refine sI fun K Z=>?_;(repeat rw[Qa];simp);refine Z ?_;clear Z K);(refine sR fun K hK=>?_;(repeat rw[Qa];simp));refine cXf [0,1] (bu) ?_;simp[zU]
 (repeat rw[Qa];simp)
 (refine hK _ _ _ ?_;clear hK K);(refine Qc fun K hK=>?_;refine dR fun KT hKT=>?_;(repeat rw[Qd];simp[Qiu,hf]));(refine hKT _ _ _ _ (by kernel_rfl) ?_;clear hKT KT);(refine hK _ _ _ ?_;clear hK K);(refine sR fun K hK=>?_;(repeat rw[Qa];simp));refine cXp (mo) ?_;(try simp only[zr]);(repeat rw[Qa];simp);((try simp only[zs]);refine Qk.pan (.inr ⟨[],by decide,by simp,?_⟩);simp[zM])
theorem i_rule{l:List C}{n F:Int}{I:List T ->T ->Int ->Rs T}{J:List T ->T ->T ->Int ->Rs Unit}(hk:Kc l)(hF:F<=19999)(bI:IB l n I)(bJ:KB l n J)(hI:IS l n I F)(hJ:KS l n J F){c:List T}{t:T}{f:Int}(h0:0<=f)(h1:f<=F)(hs:Sub n (l.map C.lv) c t)(hc:Cx c f):Sp 79 [.box 0 0,Ts c,Qj t] (iO (f+1) l n) (RP l n Qj (ruleR l n I J c t f)):=by
 have hF2:F<=20000:=by omega
 have h2:f<=20000:=by omega
 unfold ruleR;by_cases hh:t.k=1
 ·rw[if_pos hh];exact Qqf h0 h2 (by rw[hh];rfl) (Qv7 hk hF2 bI bJ hI hJ h0 h1 hs hc hh)
 rw[if_neg hh];have n1:=hh;clear hh;by_cases hh:t.k=2
 ·rw[if_pos hh];exact Qqf h0 h2 (by rw[hh];rfl) (Qv8 hk hF2 bI bJ hI hJ h0 h1 hs hc hh)
 rw[if_neg hh];have n2:=hh;clear hh;by_cases hh:t.k=3
 ·rw[if_pos hh];exact Qqf h0 h2 (by rw[hh];rfl) (Qv9 hk hF2 bI bJ hI hJ h0 h1 hs hc hh)
 rw[if_neg hh];have n3:=hh;clear hh;by_cases hh:t.k=4\/t.k=12\/t.k=16
 ·rw[if_pos hh];rcases hh with hkk | hkk | hkk
  ·exact Qqf h0 h2 (by rw[hkk];rfl) (Qnz hk hF2 bI bJ hI hJ h0 h1 hs hc (by omega))
  ·exact Qqf h0 h2 (by rw[hkk];rfl) (Qnz hk hF2 bI bJ hI hJ h0 h1 hs hc (by omega))
  ·exact Qqf h0 h2 (by rw[hkk];rfl) (Qnz hk hF2 bI bJ hI hJ h0 h1 hs hc (by omega))
 rw[if_neg hh];have n4:=hh;clear hh;by_cases hh:t.k=5
 ·rw[if_pos hh];exact Qqf h0 h2 (by rw[hh];rfl) (r_lam hk hF2 bI bJ hI hJ h0 h1 hs hc hh)
 rw[if_neg hh];have n5:=hh;clear hh;by_cases hh:t.k=6
 ·rw[if_pos hh];exact Qqf h0 h2 (by rw[hh];rfl) (r_app hk hF2 bI bJ hI hJ h0 h1 hs hc hh)
 rw[if_neg hh];have n6:=hh;clear hh;by_cases hh:t.k=7
 ·rw[if_pos hh];exact Qqf h0 h2 (by rw[hh];rfl) (Wdb hk hF2 bI bJ hI hJ h0 h1 hs hc hh)
 rw[if_neg hh];have n7:=hh;clear hh;by_cases hh:t.k=14\/t.k=15
 ·rw[if_pos hh];rcases hh with hkk | hkk
  ·exact Qqf h0 h2 (by rw[hkk];rfl) (Wde hk hF2 bI bJ hI hJ h0 h1 hs hc hkk)
  ·exact Qqf h0 h2 (by rw[hkk];rfl) (Wdd hk hF2 bI bJ hI hJ h0 h1 hs hc hkk)
 rw[if_neg hh];have n14:=hh;clear hh;by_cases hh:t.k=18
 ·rw[if_pos hh];exact Qqf h0 h2 (by rw[hh];rfl) (Qr1 hk hF2 bI bJ hI hJ h0 h1 hs hc hh)
 rw[if_neg hh];have n18:=hh;clear hh;by_cases hh:t.k=19
 ·rw[if_pos hh];exact Qqf h0 h2 (by rw[hh];rfl) (r_id hk hF2 bI bJ hI hJ h0 h1 hs hc hh)
 rw[if_neg hh];have n19:=hh;clear hh;by_cases hh:t.k=21
 ·rw[if_pos hh];exact Qqf h0 h2 (by rw[hh];rfl) (r_path hk hF2 bI bJ hI hJ h0 h1 hs hc hh)
 rw[if_neg hh];have n21:=hh;clear hh;by_cases hh:t.k=22
 ·rw[if_pos hh];exact Qqf h0 h2 (by rw[hh];rfl) (r_fin hk hF2 bI bJ hI hJ h0 h1 hs hc hh)
 rw[if_neg hh];have n22:=hh;clear hh;by_cases hh:t.k=23
 ·rw[if_pos hh];exact Qqf h0 h2 (by rw[hh];rfl) (r_elem hk hF2 bI bJ hI hJ h0 h1 hs hc hh)
 rw[if_neg hh];have n23:=hh;clear hh;by_cases hh:t.k=24
 ·rw[if_pos hh];exact Qqf h0 h2 (by rw[hh];rfl) (Qwa hk hF2 bI bJ hI hJ h0 h1 hs hc hh)
 rw[if_neg hh];have n24:=hh;clear hh;refine i_no h0 h2 ?_;have hne:∀k,k∈ [(1:Int),2,3,4,12,16,5,6,7,14,15,18,19,21,22,23,24] ->¬ t.k=k:=by
  intro k hkm;simp only[List.mem_cons,List.not_mem_nil,or_false]at hkm;omega
 unfold Qcl;simp only[Qcg,Qd0];simp[hne]
theorem c_rule{l:List C}{n F:Int}{I:List T ->T ->Int ->Rs T}{J:List T ->T ->T ->Int ->Rs Unit}(hk:Kc l)(hF:F<=19999)(bI:IB l n I)(bJ:KB l n J)(hI:IS l n I F)(hJ:KS l n J F){c:List T}{t y:T}{f:Int}(h0:0<=f)(h1:f<=F)(hs:Sub n (l.map C.lv) c t)(hc:Cx c f)(hy:okY (f+1) y):Sp 68 [.box 0 0,Ts c,Qj t,Qj y] (iO (f+1) l n) (RP l n Xb (askR l I J c t y f)):=by
 by_cases n5:t.k=5
 ·exact c_lam hk hF bI bJ hI hJ h0 h1 hs hc n5 hy
 by_cases n13:t.k=13
 ·exact c_pair hk hF bI bJ hI hJ h0 h1 hs hc n13 hy
 by_cases n17:t.k=17
 ·exact c_sup hk hF bI bJ hI hJ h0 h1 hs hc n17 hy
 by_cases n20:t.k=20
 ·exact c_refl hk hF bI bJ hI hJ h0 h1 hs hc n20 hy
 by_cases n7:t.k=7
 ·exact c_let hk hF bI bJ hI hJ h0 h1 hs hc n7 hy
 exact c_else hk hF bI bJ hI hJ h0 h1 hs hc n5 n13 n17 n20 n7 hy
theorem Qo5{l:List C}(hk:Kc l)(n:Int)(g:Nat):(g:Int)<=20000 ->IS l n (infT l n g) ((g:Int) - 1)/\KS l n (chkT l n g) ((g:Int) - 1):=by
 induction g with
 | zero=>exact fun _=>⟨fun c t f h0 h1=>by omega,fun c t y f h0 h1=>by omega⟩
 | succ g ih =>
  intro hg;obtain⟨hI,hJ⟩:=ih (by omega);obtain⟨bI,bJ⟩:=Qjb (n:=n) hk g;refine⟨fun c t f h0 h1 hs hc=>?_,fun c t y f h0 h1 hs hc hy=>?_⟩
  ·rw[Qeq];by_cases hf:f<1
   ·rw[if_pos hf];exact i_dead hf
   ·rw[if_neg hf];have:=i_rule (f:=f - 1) hk (by omega) bI bJ hI hJ (by omega) (by omega) hs (hc.le (by omega))
    rwa [show f - 1+1=f by omega]at this
  ·rw[Qf6];by_cases hf:f<1
   ·rw[if_pos hf];exact c_dead hf
   ·rw[if_neg hf];have:=c_rule (f:=f - 1) (y:=y) hk (by omega) bI bJ hI hJ (by omega) (by omega) hs (hc.le (by omega)) (by rw[show f - 1+1=f by omega];exact hy)
    rwa [show f - 1+1=f by omega]at this
end Go.Proofs.YtgloldepdhgfaaaGreatDoor
namespace Go.Proofs.YtgloldepdhgfaaaGreatDoor
set_option linter.unusedSimpArgs false
set_option linter.unusedVariables false
set_option maxHeartbeats 10000000
set_option maxRecDepth 20000
open Go.RowKit
attribute [local simp] Qx Qm Qo Qp Wn Xg opD Wc Qr Qw Wi hOf Wj Xf Xd TK.isAgg TK.known Ws Wk Qz Qh D.ofV inB Qy Wp Xy Za Zg Xc Xw Zh IntKind.min IntKind.max IntKind.signed IntKind.bits Wm Xz
def lvC(l:List C)(k:Nat):List Int:=(l.take k).map C.lv
theorem Wd2{l:List C}{k:Nat}(h:k<l.length):lvC l (k+1)=lvC l k++ [l[k].lv]:=by unfold lvC;rw[List.take_succ_eq_append_getElem h,List.map_append];rfl
theorem lvC_end(l:List C):lvC l l.length=l.map C.lv:=by unfold lvC;rw[List.take_length]
theorem lvC_len{l:List C}{k:Nat}(h:k<=l.length):(lvC l k).length=k:=by unfold lvC;rw[List.length_map,List.length_take];omega
theorem Web(σ:Nat ->Nat)(l:List Int):D.rens σ (l.map (D.int .i64))=l.map (D.int .i64):=D.rens_pure σ _ (by rw[D.pures_map];simp[D.pure])
theorem Qlh(l:List C)(hl:l.length<=Ql):Sp 51 [Cs l] [] (rt (Qeg (l.map C.lv))):=by
 have hE:∀c,Qbj c= .agg [.int .i64 c.lv, .int .i64 c.ty.k, .int .i64 c.ty.n, .int .i64 c.ty.a, .slice (c.ty.ls.map Qn) .any, .slice (c.ty.ks.map Qj) .any, .bool c.has, .int .i64 c.bo.k, .int .i64 c.bo.n, .int .i64 c.bo.a, .slice (c.bo.ls.map Qn) .any, .slice (c.bo.ks.map Qj) .any]:=fun c=>Qax c
 rw[<- lvC_end];unfold Cs Qeg;refine eN Tryz.func51 rfl (by decide) rfl rfl ?_;(refine sI fun K Z=>?_;(repeat rw[Qa];simp);refine Z ?_;clear Z K);(refine sI fun K Z=>?_;(repeat rw[Qa];simp);refine Z ?_;clear Z K);refine Qtk 3 ?_;simp[D.tokd];refine Qc fun K1 hK1=>?_
 (refine sI fun K Z=>?_;(repeat rw[Qa];simp);refine Z ?_;clear Z K);refine Xm Wa Qf (ti:=3) (tk:=8) (tn:=7) (td:=9) (ts:=17) [5,8,9,10,11,12,13,14,15,16,17] [3] (l.length) (fun k ys hl=>ys= [.slice ((lvC l k).map (D.int .i64)) (.tok 0)]/\hl= [.tok]) rfl rfl rfl rfl rfl rfl rfl rfl rfl rfl rfl rfl (by simp) (by decide) rfl (by first | assumption | omega | (unfold Ql;omega)) rfl (by kernel_rfl) (by decide) ?_ ?_ ?_
 ·exact⟨rfl,rfl⟩
 ·rintro i ys hl A hi ⟨rfl,rfl⟩ hA hA2;simp only[Qh,List.set,List.map_cons,List.map_nil,List.cons_append,List.nil_append];have hi':(i:Int)<l.length:=by omega
  have hsn:=Wd2 hi;have hln:=lvC_len (Nat.le_of_lt hi);obtain⟨c,hc⟩:∃c,l[i]=c:=⟨_,rfl⟩;rw[hc]at hsn;have hel:(lvC l i).length+1<=Ql:=by omega
  have hEc:=hE c;generalize lvC l i=es at hsn hln hel⊢;(refine sI fun K Z=>?_;(repeat rw[Qa];simp[hi,hi',hc,hEc]);refine Z ?_;clear Z K);(refine Qi Wa ?_;(repeat rw[Qa];simp[hel]));(refine hA2 ([2]) _ _ _ (LeT.refl _) (by decide) (by simp) (by simp[zM,Qh]) ?_ rfl;simp[zM]);rw[hsn,show es.map (D.int .i64)++ [D.int .i64 c.lv]=(es++ [c.lv]).map (D.int .i64) by simp]
  try rw[Web]
 ·rintro ys hl tl' ⟨rfl,rfl⟩ htl;refine hK1 _ _ _ (Xo htl ?_);simp only[Qh,List.set,List.map_cons,List.map_nil,List.cons_append,List.nil_append];(refine sI fun K Z=>?_;(repeat rw[Qa];simp);refine Z ?_;clear Z K);(refine Qe ?_;(try simp only[zs]);refine Qk.ret rfl (.inl ?_);simp[zM])
end Go.Proofs.YtgloldepdhgfaaaGreatDoor
namespace Go.Proofs.YtgloldepdhgfaaaGreatDoor
set_option linter.unusedSimpArgs false
set_option linter.unusedVariables false
open Go.RowKit
section
variable {G : Nat -> Option D} {tl : List D} {hl : List HO} {P : Program} {Q : DQ} {M : Nat} {df : Df}
theorem Qvj{c:Code}(hG:∀g d,G g=some d ->d.pure=true)(I:Nat ->List D ->List HO ->Prop)(n0:Nat)(hI:I n0 tl hl)
  (hr:∀n tl' hl' (A:List D ->List HO ->Df ->Prop),tl'.length=tl.length ->(∀k tl2 hl2,k<n ->I k tl2 hl2 ->A tl2 hl2 df) ->
   (∀(κ:List Nat) k tl2 hl2,κ.Nodup ->(κ.all fun i=>decide (M<=i))=true ->okD M κ df=true ->Qzf M κ df=df ->k<n ->I k (Qhd M κ tl2) (Qn9 M κ hl2) ->A tl2 hl2 df) ->I n tl' hl' ->wpD P G M c (Wk A Q) tl' hl' df):wpD P G M (.loop c) Q tl hl df:=fun ρ0 w0 H0 ρ w a hbs hst=>by
 intro b k cs;have key:∀n tl' hl' ρ w a,tl'.length=tl.length ->I n tl' hl' ->InSt G ρ0 w0 H0 tl.length ρ w a (Wc tl') (hOf hl') df ->
   ∃e a' w',Qti G ρ0 w0 H0 tl.length Q e a' w'/\Arrives P (lone (b.at a (.code c:: .inLoop c::k)) cs w) b k cs e a' w':=by
  intro n
  induction n using Nat.strongRecOn with
  | _ n ih =>
   intro tl' hl' ρ w a hl1 hI hst;obtain⟨e,a₁,w₁,hq,harr⟩:=hr n tl' hl' (fun tl2 hl2 df2=>df2=df/\((∃k,k<n/\I k tl2 hl2)\/∃(κ:List Nat) (k:Nat),κ.Nodup/\(κ.all fun i=>decide (M<=i))=true/\(okD M κ df=true/\Qzf M κ df=df)/\k<n/\I k (Qhd M κ tl2) (Qn9 M κ hl2))) hl1
    (fun k tl2 hl2 h1 h3=>⟨rfl, .inl ⟨k,h1,h3⟩⟩) (fun κ k tl2 hl2 h1 h2 d1 d2 h3 h5=>⟨rfl, .inr ⟨κ,k,h1,h2,⟨d1,d2⟩,h3,h5⟩⟩) hI ρ0 w0 H0 ρ w a hbs (hl1▸hst) b (.inLoop c::k) cs
   rw[hl1]at hq;obtain⟨x,tl2,hl2,df2,ρ2,h1,h2,h3,h4⟩:=hq;cases x with
   | nrm =>
    cases h2;obtain⟨rfl,⟨k',hk',hI2⟩ | ⟨κ,k',hnd,hge,⟨d1,d2⟩,hk',hI2⟩⟩:=h1
    ·obtain⟨e₂,a₂,w₂,hq₂,harr₂⟩:=ih k' hk' _ _ ρ2 w₁ a₁ h3 hI2 h4;exact⟨e₂,a₂,w₂,hq₂, .of_steps (Steps.trans harr (.one step_inLoop)) harr₂⟩
    ·have h5:=h4.mov hG hbs hnd (fun i hi=>by simpa using List.all_eq_true.1 hge i hi) d1;rw[d2]at h5;obtain⟨e₂,a₂,w₂,hq₂,harr₂⟩:=ih k' hk' _ _ (ρ2.mov M κ) w₁ a₁ (by unfold Qhd;rw[List.length_map];exact h3) hI2 h5;exact⟨e₂,a₂,w₂,hq₂, .of_steps (Steps.trans harr (.one step_inLoop)) harr₂⟩
   | ret=>cases h2;exact⟨_,a₁,w₁,⟨.ret,tl2,hl2,df2,ρ2,h1,rfl,h3,h4⟩, .pass (x:= .inLoop c) rfl (fun _ _=> .inl (by simp)) harr⟩
   | ext i=>cases h2;exact⟨_,a₁,w₁,⟨.ext i,tl2,hl2,df2,ρ2,h1,rfl,h3,h4⟩, .pass (x:= .inLoop c) rfl (fun _ _=> .inl (by simp)) harr⟩
   | pan d =>
    obtain⟨u,rfl,hu⟩:=h2;exact⟨_,a₁,w₁,⟨.pan d,tl2,hl2,df2,ρ2,h1,⟨u,rfl,hu⟩,h3,h4⟩, .pass (x:= .inLoop c) rfl (fun _ _=> .inl (by simp)) harr⟩
 obtain⟨e,a',w',hq,harr⟩:=key n0 _ _ ρ w a rfl hI hst;exact⟨e,a',w',hq, .of_steps (.one step_loop) harr⟩
variable {T : TypeId -> Ty}
theorem Qrf(hT:∀t,Zf P t (T t))(hG:∀g d,G g=some d ->d.pure=true){b0 b1 r1 r2:Nat}{ops1 ops2:Array Oper}{o1 o2 o3:Oper}{body:Code}{ti tk tn td ts:Nat}(W:List Nat)(n:Nat)(I:Nat ->List D ->List HO ->Prop)
  (h1:ops1.toList= [o1]) (e1:o1.op= .binOp .lss ti (.tmp tk) (.tmp tn) ti) (g1:o1.guard=none) (d1:o1.dst=some td) (h2:ops2.toList= [o2,o3]) (e2:o2.op= .binOp .add ti (.tmp tk) (.const (.int .i64 1)) ti) (g2:o2.guard=none) (d2:o2.dst=some ts)
  (e3:o3.op= .move (.tmp ts)) (g3:o3.guard=none) (d3:o3.dst=some tk) (hti:(T ti).k= .int .i64) (hlen:tk<tl.length/\td<tl.length/\ts<tl.length) (hne:td≠tk/\td≠tn/\ts≠tk/\ts≠tn/\tk≠tn) (hn:tl.getD tn .junk= .int .i64 n) (hnl:n<=Ql) (hk0:tl.getD tk .junk= .int .i64 0)
  (hw:tl=(Qh tl W (Qb4 W tl)).set tk (.int .i64 0)) (htn:¬ tn∈W)
  (hI:I 0 (Qb4 W tl) hl)
  (hr:∀k ys hl' (A:List D ->List HO ->Df ->Prop),k<n ->I k ys hl' ->
   (∀tl2 hl2,(tl2.set ts (.int .i64 (k+1))).set tk (.int .i64 (k+1))=(Qh tl W (Qb4 W ((tl2.set ts (.int .i64 (k+1))).set tk (.int .i64 (k+1))))).set tk (.int .i64 (k+1)) ->I (k+1) (Qb4 W ((tl2.set ts (.int .i64 (k+1))).set tk (.int .i64 (k+1)))) hl2 ->tl2.getD tk .junk= .int .i64 k ->A tl2 hl2 df) ->
   (∀(κ:List Nat) tl2 hl2,κ.Nodup ->(κ.all fun i=>decide (M<=i))=true ->okD M κ df=true ->Qzf M κ df=df ->Qhd M κ ((tl2.set ts (.int .i64 (k+1))).set tk (.int .i64 (k+1)))=(Qh tl W (Qb4 W (Qhd M κ ((tl2.set ts (.int .i64 (k+1))).set tk (.int .i64 (k+1)))))).set tk (.int .i64 (k+1)) ->
    I (k+1) (Qb4 W (Qhd M κ ((tl2.set ts (.int .i64 (k+1))).set tk (.int .i64 (k+1))))) (Qn9 M κ hl2) ->tl2.getD tk .junk= .int .i64 k ->A tl2 hl2 df) ->
   (∀tl3 tl2 hl2,leT tl3 tl2 ->A tl3 hl2 df ->A tl2 hl2 df) ->
   wpD P G M body (Qz b1 (Wk A (Qz b0 Q))) (((Qh tl W ys).set tk (.int .i64 k)).set td (.bool true)) hl' df)
  (he:∀ys hl',I n ys hl' ->Q .nrm (((Qh tl W ys).set tk (.int .i64 n)).set td (.bool false)) hl' df) :
  wpD P G M (.block b0 (.loop (.seq (.region r1 ops1 false) (.seq (.cond (.tmp td) .skip (.exit b0)) (.seq (.block b1 body) (.region r2 ops2 false)))))) Q tl hl df:=by
 have hnl':=hnl;unfold Ql at hnl';refine Wd ?_;refine Qvj hG (fun m tl' hl'=>∃k ys,m+k=n/\tl'=(Qh tl W ys).set tk (.int .i64 k)/\I k ys hl') n ⟨0,_,rfl,hw,hI⟩ ?_;rintro m tl' hl' A hlen' hA hA' ⟨k,ys,hm,rfl,hIk⟩;have hpl:(Qh tl W ys).length=tl.length:=Qa2 _ _ _;have hgn:((Qh tl W ys).set tk (.int .i64 k)).getD tn .junk= .int .i64 n:=by
  rw[List.getD_eq_getElem?_getD,List.getElem?_set_ne hne.2.2.2.2,<- List.getD_eq_getElem?_getD,Qg8 _ _ _ htn,hn]
 have hgk:((Qh tl W ys).set tk (.int .i64 k)).getD tk .junk= .int .i64 k:=by
  rw[List.getD_eq_getElem?_getD,List.getElem?_set_self (by rw[hpl];exact hlen.1)];rfl
 refine Qg1 (Qi hT ?_);rw[h1,Qa,Qx];have hev:Xg T (opD G (Wc ((Qh tl W ys).set tk (.int .i64 k)))) (hOf hl') hl'.length o1=some (.val (.bool (decide ((k:Int)<n))) [] []):=by
  unfold Xg;rw[e1];simp only[opD,Wc,hgn,hgk,Qkp,Bool.false_eq_true,if_false,Qhz,Xy,Za,Xc,hti];rfl
 have hwt:Wn ops1 (Wc ((Qh tl W ys).set tk (.int .i64 k))) o1=some true:=by unfold Wn;rw[g1]
 rw[hwt,hev];simp only[if_true,d1,Qr,Qw,Wk];have hset:((((Qh tl W ys).set tk (.int .i64 k)).set td (.bool (decide ((k:Int)<n))))).getD td .junk= .bool (decide ((k:Int)<n)):=by
  rw[List.getD_eq_getElem?_getD,List.getElem?_set_self (by rw[List.length_set,hpl];exact hlen.2.1)];rfl
 refine Qg1 (Qac (b:=decide ((k:Int)<n)) hset (fun hk=>?_) (fun hk=>?_))
 ·have hkn:k<n:=by simpa using hk
  refine Qg ?_;refine Qg1 (Wd ?_);rw[hk]
  -- behind the body
  have hinc:∀tl2 hl2,tl2.getD tk .junk= .int .i64 k ->A ((tl2.set ts (.int .i64 (k+1))).set tk (.int .i64 (k+1))) hl2 df ->tl2.length=tl.length ->wpD P G M (.region r2 ops2 false) (Wk A (Qz b0 Q)) tl2 hl2 df:=fun tl2 hl2 hq hAA hl2l=>by
   refine Qi hT ?_;have hev2:Xg T (opD G (Wc tl2)) (hOf hl2) hl2.length o2=some (.val (.int .i64 (k+1)) [] []):=by
    unfold Xg;rw[e2];have hw1:IntKind.i64.wrap ((k:Int)+1)=(k:Int)+1:=Qbu (by omega) (by omega);have hc1:D.ofV (.int .i64 1)= .int .i64 1:=by kernel_rfl
    simp only[opD,Wc,hq,Qkq,Bool.false_eq_true,if_false,Qhz,Xy,Za,Xc,hti,hc1,if_true,hw1];rfl
   rw[h2,Qa];have hwt2:Wn ops2 (Wc tl2) o2=some true:=by unfold Wn;rw[g2]
   rw[hwt2,hev2];simp only[if_true,d2,Qr,Qw];rw[Qa];have hwt3:Wn ops2 (Wc (tl2.set ts (.int .i64 (k+1)))) o3=some true:=by unfold Wn;rw[g3]
   have hev3:Xg T (opD G (Wc (tl2.set ts (.int .i64 (k+1))))) (hOf hl2) hl2.length o3=some (.val (.int .i64 (k+1)) [] []):=by
    unfold Xg;rw[e3];simp only[opD,Wc];rw[List.getD_eq_getElem?_getD,List.getElem?_set_self (by rw[hl2l];exact hlen.2.2)];rfl
   rw[hwt3,hev3];simp only[if_true,d3,Qr,Qw,Qx,Wk];exact hAA
  have hcast:((k+1:Nat):Int)=(k:Int)+1:=by omega
  refine Qtm (hr k ys hl' (fun tl hl df'=>wpD P G M (.region r2 ops2 false) (Wk A (Qz b0 Q)) tl hl df') hkn hIk (fun tl2 hl2 heq hI1 hq=>?_) (fun κ tl2 hl2 hnd hge d1 d2 heq hI1 hq=>?_) (fun tl3 tl2 hl2 hle h=>Qcb hle h)) (fun x tl hl df' hx=>?_)
  ·have hl2l:tl2.length=tl.length:=by
    have:=congrArg List.length heq;simpa [Qa2]using this
   refine hinc tl2 hl2 hq (hA (m - 1) _ _ (by omega) ⟨k+1,_,by omega,?_,hI1⟩) hl2l;rw[hcast];exact heq
  ·have hl2l:tl2.length=tl.length:=by
    have:=congrArg List.length heq;simpa [Qa2,Qhd]using this
   refine hinc tl2 hl2 hq (hA' κ (m - 1) _ _ hnd hge d1 d2 (by omega) ⟨k+1,_,by omega,?_,hI1⟩) hl2l;rw[hcast];exact heq
  ·cases x with
   | nrm=>exact hx
   | ret=>exact hx
   | pan d=>exact hx
   | ext i =>
    show(if i=b1 then _ else _);have hx':(if i=b1 then wpD P G M (.region r2 ops2 false) (Wk A (Qz b0 Q)) tl hl df' else Qz b0 Q (.ext i) tl hl df'):=hx;split
    ·rename_i hi;rw[if_pos hi]at hx';exact hx'
    ·rename_i hi;rw[if_neg hi]at hx';exact hx'
 ·have hkn:k=n:=by have:¬ ((k:Int)<n):=(by simpa using hk);omega
  subst hkn;refine Qad ?_;rw[hk];show(if b0=b0 then _ else _);rw[if_pos rfl];exact he ys hl' hIk
end
section
variable {P : Program} {G : Nat -> Option D} {M : Nat} {Q : DQ} {tl tl' : List D} {hl : List HO} {df : Df}
theorem Qdm{T:TypeId ->Ty}(hT:∀t,Zf P t (T t))(hG:∀g d,G g=some d ->d.pure=true){b0 b1 r1 r2:Nat}{ops1 ops2:Array Oper}{o1 o2 o3:Oper}{body:Code}{ti tk tn td ts:Nat}(J S:List Nat)(n:Nat)(I:Nat ->List D ->List HO ->Prop)
  (h1:ops1.toList= [o1]) (e1:o1.op= .binOp .lss ti (.tmp tk) (.tmp tn) ti) (g1:o1.guard=none) (d1:o1.dst=some td) (h2:ops2.toList= [o2,o3]) (e2:o2.op= .binOp .add ti (.tmp tk) (.const (.int .i64 1)) ti) (g2:o2.guard=none) (d2:o2.dst=some ts)
  (e3:o3.op= .move (.tmp ts)) (g3:o3.guard=none) (d3:o3.dst=some tk) (hti:(T ti).k= .int .i64) (hlen:tk<tl.length/\td<tl.length/\ts<tl.length) (hne:td≠tk/\td≠tn/\ts≠tk/\ts≠tn/\tk≠tn) (hn:tl.getD tn .junk= .int .i64 n) (hnl:n<=Ql) (hk0:tl.getD tk .junk= .int .i64 0)
  (hw:tl=(Qh tl (J++S) (Qb4 (J++S) tl)).set tk (.int .i64 0)) (htn:¬ tn∈J++S)
  (hI:I 0 (Qb4 S tl) hl)
  (hr:∀k ds hl' (A:List D ->List HO ->Df ->Prop),k<n ->I k ds hl' ->
   (∀tl3 tl2 hl2,LeT tl3 tl2 ->(tl3.set ts (.int .i64 (k+1))).set tk (.int .i64 (k+1))=(Qh tl (J++S) (Qb4 (J++S) ((tl3.set ts (.int .i64 (k+1))).set tk (.int .i64 (k+1))))).set tk (.int .i64 (k+1)) ->I (k+1) (Qb4 S ((tl3.set ts (.int .i64 (k+1))).set tk (.int .i64 (k+1)))) hl2 ->tl3.getD tk .junk= .int .i64 k ->A tl2 hl2 df) ->
   (∀(κ:List Nat) tl3 tl2 hl2,LeT tl3 tl2 ->κ.Nodup ->(κ.all fun i=>decide (M<=i))=true ->okD M κ df=true ->Qzf M κ df=df ->Qhd M κ ((tl3.set ts (.int .i64 (k+1))).set tk (.int .i64 (k+1)))=(Qh tl (J++S) (Qb4 (J++S) (Qhd M κ ((tl3.set ts (.int .i64 (k+1))).set tk (.int .i64 (k+1)))))).set tk (.int .i64 (k+1)) ->
    I (k+1) (Qb4 S (Qhd M κ ((tl3.set ts (.int .i64 (k+1))).set tk (.int .i64 (k+1))))) (Qn9 M κ hl2) ->tl3.getD tk .junk= .int .i64 k ->A tl2 hl2 df) ->
   wpD P G M body (Qz b1 (Wk A (Qz b0 Q))) (((Qh tl (J++S) (J.map (fun _=> .junk)++ds)).set tk (.int .i64 k)).set td (.bool true)) hl' df)
  (he:∀ds hl' tl',I n ds hl' ->LeT (((Qh tl (J++S) (J.map (fun _=> .junk)++ds)).set tk (.int .i64 n)).set td (.bool false)) tl' ->Q .nrm tl' hl' df) :
  wpD P G M (.block b0 (.loop (.seq (.region r1 ops1 false) (.seq (.cond (.tmp td) .skip (.exit b0)) (.seq (.block b1 body) (.region r2 ops2 false)))))) Q tl hl df:=by
 refine Qrf hT hG (J++S) n (fun k ys hl=>∃js ds,ys=js++ds/\js.length=J.length/\I k ds hl) h1 e1 g1 d1 h2 e2 g2 d2 e3 g3 d3 hti hlen hne hn hnl hk0 hw htn ⟨_,_,Qff ..,Qfe ..,hI⟩ ?_ ?_
 ·rintro k ys hl' A hk ⟨js,ds,rfl,hj,hIn⟩ hA hA2 hAm
  refine Qcb (Qcv _ _ (Qcv _ _ (Qmv J S js ds hj (Qd5 _)))) (hr k ds hl' A hk hIn (fun tl3 tl2 hl2 h0 h1 h2 h3=>hAm _ _ _ h0.h (hA tl3 hl2 h1 ⟨_,_,Qff ..,Qfe ..,h2⟩ h3))
   (fun κ tl3 tl2 hl2 h0 k1 k2 d1 d2 h1 h2 h3=>hAm _ _ _ h0.h (hA2 κ tl3 hl2 k1 k2 d1 d2 h1 ⟨_,_,Qff ..,Qfe ..,h2⟩ h3)))
 ·rintro ys hl' ⟨js,ds,rfl,hj,hIn⟩;exact he ds hl' _ hIn ⟨Qcv _ _ (Qcv _ _ (Qmv J S js ds hj (Qd5 _)))⟩
end
end Go.Proofs.YtgloldepdhgfaaaGreatDoor
namespace Go.Proofs.YtgloldepdhgfaaaGreatDoor
set_option linter.unusedSimpArgs false
set_option linter.unusedVariables false
set_option linter.unusedSimpArgs false
set_option linter.unusedVariables false
set_option maxHeartbeats 10000000
set_option maxRecDepth 20000
open Go.RowKit
attribute [local simp] Qx Qm Qo Qp Wn Xg opD Wc Qr Qw Wi hOf Wj Xf Xd TK.isAgg TK.known Ws Wk Qz Qh D.ofV inB Qy Wp Xy Za Zg Xc Xw Zh IntKind.min IntKind.max IntKind.signed IntKind.bits Wm Xz
theorem Qk2:Sp 114 [] [] (fun o hc=>o= .ret (.map 0)/\hc= [.mp Qcl]):=by
 refine eN Tryz.func114 rfl (by decide) rfl rfl ?_;unfold Qcl;(refine sI fun K Z=>?_;(repeat rw[Qa];simp);refine Z ?_;clear Z K);(refine sI fun K Z=>?_;(repeat rw[Qa];simp[Ql,Qcg,Qd0,Qbr]);refine Z ?_;clear Z K);(refine Qe ?_;(try simp only[zs]);refine Qk.ret rfl (.inr ⟨[0],by decide,by simp,?_⟩);simp[zM])
def Qft{α:Type}(z:D)(enc:α ->D):Rs α ->D
 | .ok (x,g)=> .tuple [enc x, .int .i64 g, .int .i64 0]
 | .error e=> .tuple [z, .int .i64 0, .int .i64 e]
open Classical in
noncomputable def toldR {α : Type} (l : List C) (n : Int) (c : List T) (f : Int) (ts : List T) (r : Rs α) : Rs α :=
 if(0<=n/\n<=8)/\0<=f/\f<=1073741824 then
  if(∀(i:Nat) (h:i<c.length),Xq n i (l.map C.lv) c[i]=true)/\(∀(i:Nat) (h:i<ts.length),Xq n c.length (l.map C.lv) ts[i]=true)then r else .error 6
 else .error 2
@[simp] theorem lvs_ren (σ:Nat ->Nat):∀l:List C,D.rens σ (l.map (D.int .i64∘C.lv))=l.map (D.int .i64∘C.lv)
 | []=>rfl
 | x::r=>by rw[List.map_cons,D.rens,lvs_ren σ r];rfl
@[simp] theorem lvs_ok (p:Nat ->Bool):∀l:List C,D.okNs p (l.map (D.int .i64∘C.lv))=true
 | []=>rfl
 | x::r=>by rw[List.map_cons,D.okNs,lvs_ok p r];rfl
def Qlm(b:Bool):D:= .bool b
def zLD:D:= .agg [.slice [] .any]
theorem tI_l(ps:List D)(cp:Cp)(x y:Int):Qgw Tryz.prog glob 112 [.box 0 0, .box 1 0, .box 2 0] [.cells 33 [.int .i64 y], .cells 53 [.slice ps cp], .cells 3 [.int .i64 x]] none
  (fun hc=>hc= [.cells 33 [.int .i64 y], .cells 53 [.slice ps cp], .cells 3 [.int .i64 x]]):=by
 refine Qav Wa Tryz.func112 rfl rfl (fun a w=>rfl) rfl (Qcm _ _ Tryz.func112 rfl (by decide)) rfl rfl ?_;(try simp only[zr]);(repeat rw[Qa];simp);(refine sI fun K Z=>?_;(repeat rw[Qa];simp);refine Z ?_;clear Z K);refine pF rfl ?_;refine Qg ?_;refine Qk.nrm rfl ?_;simp[Qw]
theorem tG_l(ps:List D)(cp:Cp)(x y e:Int):Qgw Tryz.prog glob 112 [.box 0 0, .box 1 0, .box 2 0] [.cells 33 [.int .i64 y], .cells 53 [.slice ps cp], .cells 3 [.int .i64 x]] (some (.iface 33 (.int .i64 e)))
  (fun hc=>hc= [.cells 33 [.int .i64 e], .cells 53 [.slice [] .full], .cells 3 [.int .i64 0], .cells 53 [.slice [] .full]]):=by
 refine Qav Wa Tryz.func112 rfl rfl (fun a w=>rfl) rfl (Qcm _ _ Tryz.func112 rfl (by decide)) rfl rfl ?_;(try simp only[zr]);(repeat rw[Qa];simp);(refine sI fun K Z=>?_;(repeat rw[Qa];simp);refine Z ?_;clear Z K);refine pT rfl ?_;(refine sI fun K Z=>?_;(repeat rw[Qa];simp);refine Z ?_;clear Z K);refine Qc fun K1 hK1=>?_
 (refine sI fun K Z=>?_;(repeat rw[Qa];simp);refine Z ?_;clear Z K);(refine sI fun K Z=>?_;(repeat rw[Qa];simp);refine Z ?_;clear Z K);refine pF rfl ?_;refine Qg (hK1 _ _ _ ?_);(refine sI fun K Z=>?_;(repeat rw[Qa];simp);refine Z ?_;clear Z K);(refine Qi Wa ?_;(repeat rw[Qa];simp));refine Qk.nrm rfl ?_;simp[Qw]
theorem told_l{l:List C}{n f:Int}{c ts:List T}(g:FuncId)(d:List T)(t:T){r:Rs LV}(hl:l.length<=Ql)(hc1:c.length<=1000000)(hco:∀x,x∈c ->okT x)(hts:ts.length<=2)(hto:∀x,x∈ts ->okT x)
  (hsp:(0<=n/\n<=8) ->0<=f/\f<=1073741824 ->(∀(i:Nat) (h:i<c.length),Xq n i (l.map C.lv) c[i]=true) ->(∀(i:Nat) (h:i<ts.length),Xq n c.length (l.map C.lv) ts[i]=true) ->Sp g [.box 0 0, .ref (.slice (d.map Qj) .any), .ref (.agg [.int .i64 t.k, .int .i64 t.n, .int .i64 t.a, .slice (t.ls.map Qn) .any, .slice (t.ks.map Qj) .any])] (iO f l n) (RP l n Qn r)) :
  Sp 62 [Cs l, .int .i64 n,Ts c, .int .i64 f, .fn (.func g) [] [.ref (.slice (d.map Qj) .any), .ref (.agg [.int .i64 t.k, .int .i64 t.n, .int .i64 t.a, .slice (t.ls.map Qn) .any, .slice (t.ks.map Qj) .any])],Ts ts] [] (rt (Qft zLD Qn (toldR l n c f ts r))):=by
 have cs:=Qlh l hl;have ru:=Qk2;have m2:=Qbp 2;have m6:=Qbp 6;have p2:=Qbf 2;have p6:=Qbf 6;unfold Wq at p2 p6;have hcm:(l.map C.lv).length<=Ql:=by simpa using hl
 have hcL:c.length<=Ql:=by unfold Ql;omega
 have hnn:∀k,k∈c ->True:=fun _ _=>trivial
 generalize hR:toldR l n c f ts r=R;unfold Ts Cs;by_cases hA:(0<=n/\n<=8)/\0<=f/\f<=1073741824
 rotate_left
 ·have hR2:R= .error 2:=by rw[<- hR];unfold toldR;rw[if_neg hA]
  subst hR2;unfold Qft zLD;have hq:¬ 0<=n\/(0<=n/\¬ n<=8)\/(0<=n/\n<=8/\¬ 0<=f)\/(0<=n/\n<=8/\0<=f/\¬ f<=1073741824):=by omega
  rcases hq with a1 | ⟨a1,a2⟩ | ⟨a1,a2,a3⟩ | ⟨a1,a2,a3,a4⟩
  ·refine eD Tryz.func62 rfl (by decide) rfl rfl ?_;(refine sI fun K Z=>?_;(repeat rw[Qa];simp);refine Z ?_;clear Z K);(refine sI fun K Z=>?_;(repeat rw[Qa];simp);refine Z ?_;clear Z K);(refine sR fun K hK=>?_;(repeat rw[Qa];simp[a1]));refine cXp (p2) ?_;(try simp only[zr]);(repeat rw[Qa];simp);(try simp only[zs]);refine Qfn.objs Qf [2,0,1] (tG_l [] .full 0 0 2) ?_ ?_ (fun d h=>by cases h;rfl) (by decide) (by simp) (by simp[zA]) (by simp[zA]) (by simp[zA]) (by simp[zA])
   ·rintro hc rfl;simp[zA,upO,Qw,Wi];refine Qez.intro rfl (.inr ⟨[],by decide,by simp,?_⟩);simp[zM]
    try simp[Out.fgt,D.fgt,D.fgts]
   ·rintro hc rfl;simp
  ·refine eD Tryz.func62 rfl (by decide) rfl rfl ?_;(refine sI fun K Z=>?_;(repeat rw[Qa];simp);refine Z ?_;clear Z K);(refine sI fun K Z=>?_;(repeat rw[Qa];simp);refine Z ?_;clear Z K);(refine sR fun K hK=>?_;(repeat rw[Qa];simp[a1,a2]));refine cXp (p2) ?_;(try simp only[zr]);(repeat rw[Qa];simp);(try simp only[zs]);refine Qfn.objs Qf [2,0,1] (tG_l [] .full 0 0 2) ?_ ?_ (fun d h=>by cases h;rfl) (by decide) (by simp) (by simp[zA]) (by simp[zA]) (by simp[zA]) (by simp[zA])
   ·rintro hc rfl;simp[zA,upO,Qw,Wi];refine Qez.intro rfl (.inr ⟨[],by decide,by simp,?_⟩);simp[zM]
    try simp[Out.fgt,D.fgt,D.fgts]
   ·rintro hc rfl;simp
  ·refine eD Tryz.func62 rfl (by decide) rfl rfl ?_;(refine sI fun K Z=>?_;(repeat rw[Qa];simp);refine Z ?_;clear Z K);(refine sI fun K Z=>?_;(repeat rw[Qa];simp);refine Z ?_;clear Z K);(refine sR fun K hK=>?_;(repeat rw[Qa];simp[a1,a2,a3]));refine cXp (p2) ?_;(try simp only[zr]);(repeat rw[Qa];simp);(try simp only[zs]);refine Qfn.objs Qf [2,0,1] (tG_l [] .full 0 0 2) ?_ ?_ (fun d h=>by cases h;rfl) (by decide) (by simp) (by simp[zA]) (by simp[zA]) (by simp[zA]) (by simp[zA])
   ·rintro hc rfl;simp[zA,upO,Qw,Wi];refine Qez.intro rfl (.inr ⟨[],by decide,by simp,?_⟩);simp[zM]
    try simp[Out.fgt,D.fgt,D.fgts]
   ·rintro hc rfl;simp
  ·refine eD Tryz.func62 rfl (by decide) rfl rfl ?_;(refine sI fun K Z=>?_;(repeat rw[Qa];simp);refine Z ?_;clear Z K);(refine sI fun K Z=>?_;(repeat rw[Qa];simp);refine Z ?_;clear Z K);(refine sR fun K hK=>?_;(repeat rw[Qa];simp[a1,a2,a3,a4]));refine cXp (p2) ?_;(try simp only[zr]);(repeat rw[Qa];simp);(try simp only[zs]);refine Qfn.objs Qf [2,0,1] (tG_l [] .full 0 0 2) ?_ ?_ (fun d h=>by cases h;rfl) (by decide) (by simp) (by simp[zA]) (by simp[zA]) (by simp[zA]) (by simp[zA])
   ·rintro hc rfl;simp[zA,upO,Qw,Wi];refine Qez.intro rfl (.inr ⟨[],by decide,by simp,?_⟩);simp[zM]
    try simp[Out.fgt,D.fgt,D.fgts]
   ·rintro hc rfl;simp
 obtain⟨⟨a1,a2⟩,a3,a4⟩:=hA;unfold Qeg at cs;unfold Cs at cs;have hbad:¬ ((∀(i:Nat) (h:i<c.length),Xq n i (l.map C.lv) c[i]=true)/\(∀(i:Nat) (h:i<ts.length),Xq n c.length (l.map C.lv) ts[i]=true)) ->R= .error 6:=fun h=>by rw[<- hR];unfold toldR;rw[if_pos ⟨⟨a1,a2⟩,a3,a4⟩,if_neg h]
 refine eD Tryz.func62 rfl (by decide) rfl rfl ?_;(refine sI fun K Z=>?_;(repeat rw[Qa];simp);refine Z ?_;clear Z K);(refine sI fun K Z=>?_;(repeat rw[Qa];simp);refine Z ?_;clear Z K);(refine sR fun K hK=>?_;(repeat rw[Qa];simp[a1,a2,a3,a4]));refine cXr (m2) ?_
 (repeat rw[Qa];simp)
 (refine hK _ _ _ ?_;clear hK K);(refine sR fun K hK=>?_;(repeat rw[Qa];simp));refine cXr (cs) ?_
 (repeat rw[Qa];simp)
 (refine hK _ _ _ ?_;clear hK K);refine Qc fun K1 hK1=>?_
 (refine sI fun K Z=>?_;(repeat rw[Qa];simp);refine Z ?_;clear Z K);refine Qdm Wa Qf (ti:=3) (tk:=41) (tn:=40) (td:=42) (ts:=52) [16,17,41,42,43,44,45,46,47,48,49,50,51,52] [] (c.length) (fun k ys hl=>ys= []/\(∀(j:Nat) (h:j<c.length),j<k ->Xq n j (l.map C.lv) c[j]=true)/\hl= [.cells 53 [.slice [] .full], .cells 3 [.int .i64 0], .cells 33 [.int .i64 0]]) rfl rfl rfl rfl rfl rfl rfl rfl rfl rfl rfl rfl (by simp) (by decide) rfl (by first | assumption | omega | (unfold Ql;omega)) rfl (by kernel_rfl) (by decide) ?_ ?_ ?_
 ·exact⟨rfl,fun j _ h=>by omega,rfl⟩
 ·rintro i ys hl A hi ⟨rfl,hall,rfl⟩ hA hA2;simp only[Qh,List.set,List.map_cons,List.map_nil,List.cons_append,List.nil_append];have hi':(i:Int)<c.length:=by omega
  obtain⟨y,hy⟩:∃y,c[i]=y:=⟨_,rfl⟩;have hri:=Qcw n i (l.map C.lv) y hcm (hco y (by rw[<- hy];exact List.getElem_mem hi));have hEy:=Qb y;rw[hEy]at hri;unfold Qeg at hri;by_cases hb:Xq n i (l.map C.lv) y=true
  ·rw[hb]at hri;(refine sI fun K Z=>?_;(repeat rw[Qa];simp[hi,hi',hy,hEy]);refine Z ?_;clear Z K);(refine Qi Wa ?_;(repeat rw[Qa];simp));refine cXr (hri) ?_
   (repeat rw[Qa];simp)
   refine cXr (m6) ?_
   (repeat rw[Qa];simp)
   (refine hA2 ([0,1,2]) _ _ _ (LeT.refl _) (by decide) (by simp) (by first | rfl | simp[okD,zM]) (by first | rfl | simp[Qzf,zM]) (by simp[zM,Qh]) ?_ rfl;simp[zM]);have hnx:∀(j:Nat) (h:j<c.length),j<i+1 ->Xq n j (l.map C.lv) c[j]=true:=fun j h hj=>by
    by_cases hji:j=i
    ·subst hji;rw[hy];exact hb
    ·exact hall j h (by omega)
   first | exact⟨rfl,hnx,rfl⟩ | exact⟨hnx,rfl⟩ | exact hnx
  ·have hR6:=hbad (fun h=>hb (by rw[<- hy];exact h.1 i hi));subst hR6;unfold Qft zLD;rw[Bool.eq_false_iff.2 hb]at hri;(refine sI fun K Z=>?_;(repeat rw[Qa];simp[hi,hi',hy,hEy]);refine Z ?_;clear Z K);(refine Qi Wa ?_;(repeat rw[Qa];simp));refine cXr (hri) ?_
   (repeat rw[Qa];simp)
   refine cXp (p6) ?_;(try simp only[zr]);(repeat rw[Qa];simp);(try simp only[zs]);refine Qfn.objs Qf [2,0,1] (tG_l [] .full 0 0 6) ?_ ?_ (fun d h=>by cases h;rfl) (by decide) (by simp) (by simp[zA]) (by simp[zA]) (by simp[zA]) (by simp[zA])
   ·rintro hc rfl;simp[zA,upO,Qw,Wi];refine Qez.intro rfl (.inr ⟨[],by decide,by simp,?_⟩);simp[zM]
    try simp[Out.fgt,D.fgt,D.fgts]
   ·rintro hc rfl;simp
 ·rintro ys hl tl' ⟨rfl,hallc,rfl⟩ htl;refine hK1 _ _ _ (Xo htl ?_);simp only[Qh,List.set,List.map_cons,List.map_nil,List.cons_append,List.nil_append];clear hK1 K1;refine Qc fun K1 hK1=>?_
  (refine sI fun K Z=>?_;(repeat rw[Qa];simp);refine Z ?_;clear Z K);refine Qdm Wa Qf (ti:=3) (tk:=55) (tn:=54) (td:=56) (ts:=66) [19,55,56,57,58,59,60,61,62,63,64,65,66] [] (ts.length) (fun k ys hl=>ys= []/\(∀(j:Nat) (h:j<ts.length),j<k ->Xq n c.length (l.map C.lv) ts[j]=true)/\hl= [.cells 53 [.slice [] .full], .cells 3 [.int .i64 0], .cells 33 [.int .i64 0]]) rfl rfl rfl rfl rfl rfl rfl rfl rfl rfl rfl rfl (by simp) (by decide) rfl (by first | assumption | omega | (unfold Ql;omega)) rfl (by kernel_rfl) (by decide) ?_ ?_ ?_
  ·exact⟨rfl,fun j _ h=>by omega,rfl⟩
  ·rintro i ys hl A hi ⟨rfl,hall,rfl⟩ hA hA2;simp only[Qh,List.set,List.map_cons,List.map_nil,List.cons_append,List.nil_append];have hi':(i:Int)<ts.length:=by omega
   obtain⟨y,hy⟩:∃y,ts[i]=y:=⟨_,rfl⟩;have hri:=Qcw n c.length (l.map C.lv) y hcm (hto y (by rw[<- hy];exact List.getElem_mem hi));have hEy:=Qb y;rw[hEy]at hri;unfold Qeg at hri;by_cases hb:Xq n c.length (l.map C.lv) y=true
   ·rw[hb]at hri;(refine sI fun K Z=>?_;(repeat rw[Qa];simp[hi,hi',hy,hEy]);refine Z ?_;clear Z K);(refine Qi Wa ?_;(repeat rw[Qa];simp));refine cXr (hri) ?_
    (repeat rw[Qa];simp)
    refine cXr (m6) ?_
    (repeat rw[Qa];simp)
    (refine hA2 ([0,1,2]) _ _ _ (LeT.refl _) (by decide) (by simp) (by first | rfl | simp[okD,zM]) (by first | rfl | simp[Qzf,zM]) (by simp[zM,Qh]) ?_ rfl;simp[zM]);have hnx:∀(j:Nat) (h:j<ts.length),j<i+1 ->Xq n c.length (l.map C.lv) ts[j]=true:=fun j h hj=>by
     by_cases hji:j=i
     ·subst hji;rw[hy];exact hb
     ·exact hall j h (by omega)
    first | exact⟨rfl,hnx,rfl⟩ | exact⟨hnx,rfl⟩ | exact hnx
   ·have hR6:=hbad (fun h=>hb (by rw[<- hy];exact h.2 i hi));subst hR6;unfold Qft zLD;rw[Bool.eq_false_iff.2 hb]at hri;(refine sI fun K Z=>?_;(repeat rw[Qa];simp[hi,hi',hy,hEy]);refine Z ?_;clear Z K);(refine Qi Wa ?_;(repeat rw[Qa];simp));refine cXr (hri) ?_
    (repeat rw[Qa];simp)
    refine cXp (p6) ?_;(try simp only[zr]);(repeat rw[Qa];simp);(try simp only[zs]);refine Qfn.objs Qf [2,0,1] (tG_l [] .full 0 0 6) ?_ ?_ (fun d h=>by cases h;rfl) (by decide) (by simp) (by simp[zA]) (by simp[zA]) (by simp[zA]) (by simp[zA])
    ·rintro hc rfl;simp[zA,upO,Qw,Wi];refine Qez.intro rfl (.inr ⟨[],by decide,by simp,?_⟩);simp[zM]
     try simp[Out.fgt,D.fgt,D.fgts]
    ·rintro hc rfl;simp
  ·rintro ys hl tl' ⟨rfl,hallt,rfl⟩ htl;refine hK1 _ _ _ (Xo htl ?_);simp only[Qh,List.set,List.map_cons,List.map_nil,List.cons_append,List.nil_append];clear hK1 K1;have hRr:R=r:=by rw[<- hR];unfold toldR;rw[if_pos ⟨⟨a1,a2⟩,a3,a4⟩,if_pos ⟨fun i h=>hallc i h h,fun i h=>hallt i h h⟩]
   subst hRr;have sp:=hsp ⟨a1,a2⟩ ⟨a3,a4⟩ (fun i h=>hallc i h h) (fun i h=>hallt i h h);clear hbad hR;rcases Qv l n Qn R with ⟨x,q,e1,q1⟩ | ⟨e,e1,q1⟩
   ·rw[q1]at sp;subst e1;have hEx:Qn x= .agg [.slice (x.map Wv) .any]:=rfl;rw[hEx]at sp;unfold Qft;dsimp only;rw[hEx];unfold iO Cs at sp;(refine sR fun K hK=>?_;(repeat rw[Qa];simp));refine cXo [] false (ru) ?_;(rintro o hc ⟨rfl,rfl⟩;refine⟨false,?_⟩;simp[zU]);(try simp only[zr]);(repeat rw[Qa];simp);(refine hK _ _ _ ?_;clear hK K);(refine sR fun K hK=>?_;(repeat rw[Qa];simp));refine cXf [4,3] (sp) ?_;simp[zU]
    (repeat rw[Qa];simp)
    (refine hK _ _ _ ?_;clear hK K);(refine Qc fun K hK=>?_;refine dR fun KT hKT=>?_;(repeat rw[Qd];simp));(refine hKT _ _ _ _ (by kernel_rfl) ?_;clear hKT KT);(refine hK _ _ _ ?_;clear hK K);refine Qe ?_;refine Qfn.objs Qf [2,0,1] (tI_l (x.map Wv) .any q 0) ?_ ?_ (fun d h=>by cases h) (by decide) (by simp) (by simp[zA]) (by simp[zA]) (by simp[zA]) (by simp[zA])
    ·rintro hc rfl;simp[zA,upO,Qw,Wi];refine Qez.intro rfl (.inr ⟨[],by decide,by simp,?_⟩);simp[zM]
     try simp[Out.fgt,D.fgt,D.fgts]
    ·rintro hc rfl;simp
   ·rw[q1]at sp;subst e1;unfold Qft zLD;unfold iO Cs Wq at sp;(refine sR fun K hK=>?_;(repeat rw[Qa];simp));refine cXo [] false (ru) ?_;(rintro o hc ⟨rfl,rfl⟩;refine⟨false,?_⟩;simp[zU]);(try simp only[zr]);(repeat rw[Qa];simp);(refine hK _ _ _ ?_;clear hK K);(refine sR fun K hK=>?_;(repeat rw[Qa];simp));refine cXg [4,3] (sp) ?_;simp[zU];(try simp only[zs]);refine Qfn.objs Qf [2,0,1] (tG_l [] .full 0 0 e) ?_ ?_ (fun d h=>by cases h;rfl) (by decide) (by simp) (by simp[zA]) (by simp[zA]) (by simp[zA]) (by simp[zA])
    ·rintro hc rfl;simp[zA,upO,Qw,Wi];refine Qez.intro rfl (.inr ⟨[],by decide,by simp,?_⟩);simp[zM]
     try simp[Out.fgt,D.fgt,D.fgts]
    ·rintro hc rfl;simp
theorem tI_b(b:Bool)(x y:Int):Qgw Tryz.prog glob 117 [.box 0 0, .box 1 0, .box 2 0] [.cells 33 [.int .i64 y], .cells 4 [.bool b], .cells 3 [.int .i64 x]] none
  (fun hc=>hc= [.cells 33 [.int .i64 y], .cells 4 [.bool b], .cells 3 [.int .i64 x]]):=by
 refine Qav Wa Tryz.func117 rfl rfl (fun a w=>rfl) rfl (Qcm _ _ Tryz.func117 rfl (by decide)) rfl rfl ?_;(try simp only[zr]);(repeat rw[Qa];simp);(refine sI fun K Z=>?_;(repeat rw[Qa];simp);refine Z ?_;clear Z K);refine pF rfl ?_;refine Qg ?_;refine Qk.nrm rfl ?_;simp[Qw]
theorem tG_b(b:Bool)(x y e:Int):Qgw Tryz.prog glob 117 [.box 0 0, .box 1 0, .box 2 0] [.cells 33 [.int .i64 y], .cells 4 [.bool b], .cells 3 [.int .i64 x]] (some (.iface 33 (.int .i64 e)))
  (fun hc=>hc= [.cells 33 [.int .i64 e], .cells 4 [.bool false], .cells 3 [.int .i64 0]]):=by
 refine Qav Wa Tryz.func117 rfl rfl (fun a w=>rfl) rfl (Qcm _ _ Tryz.func117 rfl (by decide)) rfl rfl ?_;(try simp only[zr]);(repeat rw[Qa];simp);(refine sI fun K Z=>?_;(repeat rw[Qa];simp);refine Z ?_;clear Z K);refine pT rfl ?_;(refine sI fun K Z=>?_;(repeat rw[Qa];simp);refine Z ?_;clear Z K);refine Qc fun K1 hK1=>?_
 (refine sI fun K Z=>?_;(repeat rw[Qa];simp);refine Z ?_;clear Z K);(refine sI fun K Z=>?_;(repeat rw[Qa];simp);refine Z ?_;clear Z K);refine pF rfl ?_;refine Qg (hK1 _ _ _ ?_);(refine sI fun K Z=>?_;(repeat rw[Qa];simp);refine Z ?_;clear Z K);(refine Qi Wa ?_;(repeat rw[Qa];simp));refine Qk.nrm rfl ?_;simp[Qw]
theorem told_b{l:List C}{n f:Int}{c ts:List T}(g:FuncId)(d:List T)(t y:T){r:Rs Bool}(hl:l.length<=Ql)(hc1:c.length<=1000000)(hco:∀x,x∈c ->okT x)(hts:ts.length<=2)(hto:∀x,x∈ts ->okT x)
  (hsp:(0<=n/\n<=8) ->0<=f/\f<=1073741824 ->(∀(i:Nat) (h:i<c.length),Xq n i (l.map C.lv) c[i]=true) ->(∀(i:Nat) (h:i<ts.length),Xq n c.length (l.map C.lv) ts[i]=true) ->Sp g [.box 0 0, .ref (.slice (d.map Qj) .any), .ref (.agg [.int .i64 t.k, .int .i64 t.n, .int .i64 t.a, .slice (t.ls.map Qn) .any, .slice (t.ks.map Qj) .any]), .ref (.agg [.int .i64 y.k, .int .i64 y.n, .int .i64 y.a, .slice (y.ls.map Qn) .any, .slice (y.ks.map Qj) .any])] (iO f l n) (RP l n Qlm r)) :
  Sp 66 [Cs l, .int .i64 n,Ts c, .int .i64 f, .fn (.func g) [] [.ref (.slice (d.map Qj) .any), .ref (.agg [.int .i64 t.k, .int .i64 t.n, .int .i64 t.a, .slice (t.ls.map Qn) .any, .slice (t.ks.map Qj) .any]), .ref (.agg [.int .i64 y.k, .int .i64 y.n, .int .i64 y.a, .slice (y.ls.map Qn) .any, .slice (y.ks.map Qj) .any])],Ts ts] [] (rt (Qft (.bool false) Qlm (toldR l n c f ts r))):=by
 have cs:=Qlh l hl;have ru:=Qk2;have m2:=Qbp 2;have m6:=Qbp 6;have p2:=Qbf 2;have p6:=Qbf 6;unfold Wq at p2 p6;have hcm:(l.map C.lv).length<=Ql:=by simpa using hl
 have hcL:c.length<=Ql:=by unfold Ql;omega
 have hnn:∀k,k∈c ->True:=fun _ _=>trivial
 generalize hR:toldR l n c f ts r=R;unfold Ts Cs;by_cases hA:(0<=n/\n<=8)/\0<=f/\f<=1073741824
 rotate_left
 ·have hR2:R= .error 2:=by rw[<- hR];unfold toldR;rw[if_neg hA]
  subst hR2;unfold Qft Qlm;have hq:¬ 0<=n\/(0<=n/\¬ n<=8)\/(0<=n/\n<=8/\¬ 0<=f)\/(0<=n/\n<=8/\0<=f/\¬ f<=1073741824):=by omega
  rcases hq with a1 | ⟨a1,a2⟩ | ⟨a1,a2,a3⟩ | ⟨a1,a2,a3,a4⟩
  ·refine eD Tryz.func66 rfl (by decide) rfl rfl ?_;(refine sI fun K Z=>?_;(repeat rw[Qa];simp);refine Z ?_;clear Z K);(refine sI fun K Z=>?_;(repeat rw[Qa];simp);refine Z ?_;clear Z K);(refine sR fun K hK=>?_;(repeat rw[Qa];simp[a1]));refine cXp (p2) ?_;(try simp only[zr]);(repeat rw[Qa];simp);(try simp only[zs]);refine Qfn.objs Qf [2,0,1] (tG_b false 0 0 2) ?_ ?_ (fun d h=>by cases h;rfl) (by decide) (by simp) (by simp[zA]) (by simp[zA]) (by simp[zA]) (by simp[zA])
   ·rintro hc rfl;simp[zA,upO,Qw,Wi];refine Qez.intro rfl (.inr ⟨[],by decide,by simp,?_⟩);simp[zM]
    try simp[Out.fgt,D.fgt,D.fgts]
   ·rintro hc rfl;simp
  ·refine eD Tryz.func66 rfl (by decide) rfl rfl ?_;(refine sI fun K Z=>?_;(repeat rw[Qa];simp);refine Z ?_;clear Z K);(refine sI fun K Z=>?_;(repeat rw[Qa];simp);refine Z ?_;clear Z K);(refine sR fun K hK=>?_;(repeat rw[Qa];simp[a1,a2]));refine cXp (p2) ?_;(try simp only[zr]);(repeat rw[Qa];simp);(try simp only[zs]);refine Qfn.objs Qf [2,0,1] (tG_b false 0 0 2) ?_ ?_ (fun d h=>by cases h;rfl) (by decide) (by simp) (by simp[zA]) (by simp[zA]) (by simp[zA]) (by simp[zA])
   ·rintro hc rfl;simp[zA,upO,Qw,Wi];refine Qez.intro rfl (.inr ⟨[],by decide,by simp,?_⟩);simp[zM]
    try simp[Out.fgt,D.fgt,D.fgts]
   ·rintro hc rfl;simp
  ·refine eD Tryz.func66 rfl (by decide) rfl rfl ?_;(refine sI fun K Z=>?_;(repeat rw[Qa];simp);refine Z ?_;clear Z K);(refine sI fun K Z=>?_;(repeat rw[Qa];simp);refine Z ?_;clear Z K);(refine sR fun K hK=>?_;(repeat rw[Qa];simp[a1,a2,a3]));refine cXp (p2) ?_;(try simp only[zr]);(repeat rw[Qa];simp);(try simp only[zs]);refine Qfn.objs Qf [2,0,1] (tG_b false 0 0 2) ?_ ?_ (fun d h=>by cases h;rfl) (by decide) (by simp) (by simp[zA]) (by simp[zA]) (by simp[zA]) (by simp[zA])
   ·rintro hc rfl;simp[zA,upO,Qw,Wi];refine Qez.intro rfl (.inr ⟨[],by decide,by simp,?_⟩);simp[zM]
    try simp[Out.fgt,D.fgt,D.fgts]
   ·rintro hc rfl;simp
  ·refine eD Tryz.func66 rfl (by decide) rfl rfl ?_;(refine sI fun K Z=>?_;(repeat rw[Qa];simp);refine Z ?_;clear Z K);(refine sI fun K Z=>?_;(repeat rw[Qa];simp);refine Z ?_;clear Z K);(refine sR fun K hK=>?_;(repeat rw[Qa];simp[a1,a2,a3,a4]));refine cXp (p2) ?_;(try simp only[zr]);(repeat rw[Qa];simp);(try simp only[zs]);refine Qfn.objs Qf [2,0,1] (tG_b false 0 0 2) ?_ ?_ (fun d h=>by cases h;rfl) (by decide) (by simp) (by simp[zA]) (by simp[zA]) (by simp[zA]) (by simp[zA])
   ·rintro hc rfl;simp[zA,upO,Qw,Wi];refine Qez.intro rfl (.inr ⟨[],by decide,by simp,?_⟩);simp[zM]
    try simp[Out.fgt,D.fgt,D.fgts]
   ·rintro hc rfl;simp
 obtain⟨⟨a1,a2⟩,a3,a4⟩:=hA;unfold Qeg at cs;unfold Cs at cs;have hbad:¬ ((∀(i:Nat) (h:i<c.length),Xq n i (l.map C.lv) c[i]=true)/\(∀(i:Nat) (h:i<ts.length),Xq n c.length (l.map C.lv) ts[i]=true)) ->R= .error 6:=fun h=>by rw[<- hR];unfold toldR;rw[if_pos ⟨⟨a1,a2⟩,a3,a4⟩,if_neg h]
 refine eD Tryz.func66 rfl (by decide) rfl rfl ?_;(refine sI fun K Z=>?_;(repeat rw[Qa];simp);refine Z ?_;clear Z K);(refine sI fun K Z=>?_;(repeat rw[Qa];simp);refine Z ?_;clear Z K);(refine sR fun K hK=>?_;(repeat rw[Qa];simp[a1,a2,a3,a4]));refine cXr (m2) ?_
 (repeat rw[Qa];simp)
 (refine hK _ _ _ ?_;clear hK K);(refine sR fun K hK=>?_;(repeat rw[Qa];simp));refine cXr (cs) ?_
 (repeat rw[Qa];simp)
 (refine hK _ _ _ ?_;clear hK K);refine Qc fun K1 hK1=>?_
 (refine sI fun K Z=>?_;(repeat rw[Qa];simp);refine Z ?_;clear Z K);refine Qdm Wa Qf (ti:=3) (tk:=41) (tn:=40) (td:=42) (ts:=52) [16,17,41,42,43,44,45,46,47,48,49,50,51,52] [] (c.length) (fun k ys hl=>ys= []/\(∀(j:Nat) (h:j<c.length),j<k ->Xq n j (l.map C.lv) c[j]=true)/\hl= [.cells 4 [.bool false], .cells 3 [.int .i64 0], .cells 33 [.int .i64 0]]) rfl rfl rfl rfl rfl rfl rfl rfl rfl rfl rfl rfl (by simp) (by decide) rfl (by first | assumption | omega | (unfold Ql;omega)) rfl (by kernel_rfl) (by decide) ?_ ?_ ?_
 ·exact⟨rfl,fun j _ h=>by omega,rfl⟩
 ·rintro i ys hl A hi ⟨rfl,hall,rfl⟩ hA hA2;simp only[Qh,List.set,List.map_cons,List.map_nil,List.cons_append,List.nil_append];have hi':(i:Int)<c.length:=by omega
  obtain⟨y,hy⟩:∃y,c[i]=y:=⟨_,rfl⟩;have hri:=Qcw n i (l.map C.lv) y hcm (hco y (by rw[<- hy];exact List.getElem_mem hi));have hEy:=Qb y;rw[hEy]at hri;unfold Qeg at hri;by_cases hb:Xq n i (l.map C.lv) y=true
  ·rw[hb]at hri;(refine sI fun K Z=>?_;(repeat rw[Qa];simp[hi,hi',hy,hEy]);refine Z ?_;clear Z K);(refine Qi Wa ?_;(repeat rw[Qa];simp));refine cXr (hri) ?_
   (repeat rw[Qa];simp)
   refine cXr (m6) ?_
   (repeat rw[Qa];simp)
   (refine hA2 ([0,1,2]) _ _ _ (LeT.refl _) (by decide) (by simp) (by first | rfl | simp[okD,zM]) (by first | rfl | simp[Qzf,zM]) (by simp[zM,Qh]) ?_ rfl;simp[zM]);have hnx:∀(j:Nat) (h:j<c.length),j<i+1 ->Xq n j (l.map C.lv) c[j]=true:=fun j h hj=>by
    by_cases hji:j=i
    ·subst hji;rw[hy];exact hb
    ·exact hall j h (by omega)
   first | exact⟨rfl,hnx,rfl⟩ | exact⟨hnx,rfl⟩ | exact hnx
  ·have hR6:=hbad (fun h=>hb (by rw[<- hy];exact h.1 i hi));subst hR6;unfold Qft Qlm;rw[Bool.eq_false_iff.2 hb]at hri;(refine sI fun K Z=>?_;(repeat rw[Qa];simp[hi,hi',hy,hEy]);refine Z ?_;clear Z K);(refine Qi Wa ?_;(repeat rw[Qa];simp));refine cXr (hri) ?_
   (repeat rw[Qa];simp)
   refine cXp (p6) ?_;(try simp only[zr]);(repeat rw[Qa];simp);(try simp only[zs]);refine Qfn.objs Qf [2,0,1] (tG_b false 0 0 6) ?_ ?_ (fun d h=>by cases h;rfl) (by decide) (by simp) (by simp[zA]) (by simp[zA]) (by simp[zA]) (by simp[zA])
   ·rintro hc rfl;simp[zA,upO,Qw,Wi];refine Qez.intro rfl (.inr ⟨[],by decide,by simp,?_⟩);simp[zM]
    try simp[Out.fgt,D.fgt,D.fgts]
   ·rintro hc rfl;simp
 ·rintro ys hl tl' ⟨rfl,hallc,rfl⟩ htl;refine hK1 _ _ _ (Xo htl ?_);simp only[Qh,List.set,List.map_cons,List.map_nil,List.cons_append,List.nil_append];clear hK1 K1;refine Qc fun K1 hK1=>?_
  (refine sI fun K Z=>?_;(repeat rw[Qa];simp);refine Z ?_;clear Z K);refine Qdm Wa Qf (ti:=3) (tk:=55) (tn:=54) (td:=56) (ts:=66) [19,55,56,57,58,59,60,61,62,63,64,65,66] [] (ts.length) (fun k ys hl=>ys= []/\(∀(j:Nat) (h:j<ts.length),j<k ->Xq n c.length (l.map C.lv) ts[j]=true)/\hl= [.cells 4 [.bool false], .cells 3 [.int .i64 0], .cells 33 [.int .i64 0]]) rfl rfl rfl rfl rfl rfl rfl rfl rfl rfl rfl rfl (by simp) (by decide) rfl (by first | assumption | omega | (unfold Ql;omega)) rfl (by kernel_rfl) (by decide) ?_ ?_ ?_
  ·exact⟨rfl,fun j _ h=>by omega,rfl⟩
  ·rintro i ys hl A hi ⟨rfl,hall,rfl⟩ hA hA2;simp only[Qh,List.set,List.map_cons,List.map_nil,List.cons_append,List.nil_append];have hi':(i:Int)<ts.length:=by omega
   obtain⟨y,hy⟩:∃y,ts[i]=y:=⟨_,rfl⟩;have hri:=Qcw n c.length (l.map C.lv) y hcm (hto y (by rw[<- hy];exact List.getElem_mem hi));have hEy:=Qb y;rw[hEy]at hri;unfold Qeg at hri;by_cases hb:Xq n c.length (l.map C.lv) y=true
   ·rw[hb]at hri;(refine sI fun K Z=>?_;(repeat rw[Qa];simp[hi,hi',hy,hEy]);refine Z ?_;clear Z K);(refine Qi Wa ?_;(repeat rw[Qa];simp));refine cXr (hri) ?_
    (repeat rw[Qa];simp)
    refine cXr (m6) ?_
    (repeat rw[Qa];simp)
    (refine hA2 ([0,1,2]) _ _ _ (LeT.refl _) (by decide) (by simp) (by first | rfl | simp[okD,zM]) (by first | rfl | simp[Qzf,zM]) (by simp[zM,Qh]) ?_ rfl;simp[zM]);have hnx:∀(j:Nat) (h:j<ts.length),j<i+1 ->Xq n c.length (l.map C.lv) ts[j]=true:=fun j h hj=>by
     by_cases hji:j=i
     ·subst hji;rw[hy];exact hb
     ·exact hall j h (by omega)
    first | exact⟨rfl,hnx,rfl⟩ | exact⟨hnx,rfl⟩ | exact hnx
   ·have hR6:=hbad (fun h=>hb (by rw[<- hy];exact h.2 i hi));subst hR6;unfold Qft Qlm;rw[Bool.eq_false_iff.2 hb]at hri;(refine sI fun K Z=>?_;(repeat rw[Qa];simp[hi,hi',hy,hEy]);refine Z ?_;clear Z K);(refine Qi Wa ?_;(repeat rw[Qa];simp));refine cXr (hri) ?_
    (repeat rw[Qa];simp)
    refine cXp (p6) ?_;(try simp only[zr]);(repeat rw[Qa];simp);(try simp only[zs]);refine Qfn.objs Qf [2,0,1] (tG_b false 0 0 6) ?_ ?_ (fun d h=>by cases h;rfl) (by decide) (by simp) (by simp[zA]) (by simp[zA]) (by simp[zA]) (by simp[zA])
    ·rintro hc rfl;simp[zA,upO,Qw,Wi];refine Qez.intro rfl (.inr ⟨[],by decide,by simp,?_⟩);simp[zM]
     try simp[Out.fgt,D.fgt,D.fgts]
    ·rintro hc rfl;simp
  ·rintro ys hl tl' ⟨rfl,hallt,rfl⟩ htl;refine hK1 _ _ _ (Xo htl ?_);simp only[Qh,List.set,List.map_cons,List.map_nil,List.cons_append,List.nil_append];clear hK1 K1;have hRr:R=r:=by rw[<- hR];unfold toldR;rw[if_pos ⟨⟨a1,a2⟩,a3,a4⟩,if_pos ⟨fun i h=>hallc i h h,fun i h=>hallt i h h⟩]
   subst hRr;have sp:=hsp ⟨a1,a2⟩ ⟨a3,a4⟩ (fun i h=>hallc i h h) (fun i h=>hallt i h h);clear hbad hR;rcases Qv l n Qlm R with ⟨x,q,e1,q1⟩ | ⟨e,e1,q1⟩
   ·rw[q1]at sp;subst e1;have hEx:Qlm x= .bool x:=rfl;rw[hEx]at sp;unfold Qft;dsimp only;rw[hEx];unfold iO Cs at sp;(refine sR fun K hK=>?_;(repeat rw[Qa];simp));refine cXo [] false (ru) ?_;(rintro o hc ⟨rfl,rfl⟩;refine⟨false,?_⟩;simp[zU]);(try simp only[zr]);(repeat rw[Qa];simp);(refine hK _ _ _ ?_;clear hK K);(refine sR fun K hK=>?_;(repeat rw[Qa];simp));refine cXf [4,3] (sp) ?_;simp[zU]
    (repeat rw[Qa];simp)
    (refine hK _ _ _ ?_;clear hK K);(refine Qc fun K hK=>?_;refine dR fun KT hKT=>?_;(repeat rw[Qd];simp));(refine hKT _ _ _ _ (by kernel_rfl) ?_;clear hKT KT);(refine hK _ _ _ ?_;clear hK K);refine Qe ?_;refine Qfn.objs Qf [2,0,1] (tI_b x q 0) ?_ ?_ (fun d h=>by cases h) (by decide) (by simp) (by simp[zA]) (by simp[zA]) (by simp[zA]) (by simp[zA])
    ·rintro hc rfl;simp[zA,upO,Qw,Wi];refine Qez.intro rfl (.inr ⟨[],by decide,by simp,?_⟩);simp[zM]
     try simp[Out.fgt,D.fgt,D.fgts]
    ·rintro hc rfl;simp
   ·rw[q1]at sp;subst e1;unfold Qft Qlm;unfold iO Cs Wq at sp;(refine sR fun K hK=>?_;(repeat rw[Qa];simp));refine cXo [] false (ru) ?_;(rintro o hc ⟨rfl,rfl⟩;refine⟨false,?_⟩;simp[zU]);(try simp only[zr]);(repeat rw[Qa];simp);(refine hK _ _ _ ?_;clear hK K);(refine sR fun K hK=>?_;(repeat rw[Qa];simp));refine cXg [4,3] (sp) ?_;simp[zU];(try simp only[zs]);refine Qfn.objs Qf [2,0,1] (tG_b false 0 0 e) ?_ ?_ (fun d h=>by cases h;rfl) (by decide) (by simp) (by simp[zA]) (by simp[zA]) (by simp[zA]) (by simp[zA])
    ·rintro hc rfl;simp[zA,upO,Qw,Wi];refine Qez.intro rfl (.inr ⟨[],by decide,by simp,?_⟩);simp[zM]
     try simp[Out.fgt,D.fgt,D.fgts]
    ·rintro hc rfl;simp
end Go.Proofs.YtgloldepdhgfaaaGreatDoor
namespace Go.Proofs.YtgloldepdhgfaaaGreatDoor
set_option linter.unusedSimpArgs false
set_option linter.unusedVariables false
set_option linter.unusedSimpArgs false
set_option linter.unusedVariables false
set_option maxHeartbeats 10000000
set_option maxRecDepth 20000
open Go.RowKit
attribute [local simp] Qx Qm Qo Qp Wn Xg opD Wc Qr Qw Wi hOf Wj Xf Xd TK.isAgg TK.known Ws Wk Qz Qh D.ofV inB Qy Wp Xy Za Zg Xc Xw Zh IntKind.min IntKind.max IntKind.signed IntKind.bits Wm Xz
def hgt(f:Int):Nat:=f.toNat+1
noncomputable def inferT (l : List C) (n : Int) (c : List T) (t : T) (f : Int) : Rs T := toldR l n c f [t] ((infT l n (hgt f) c t f).next fun s f => .ok (s.lift 0 0 0, f))
noncomputable def checkT (l : List C) (n : Int) (c : List T) (t y : T) (f : Int) : Rs Bool := toldR l n c f [t, y] ((chkT l n (hgt f) c t y f).next fun _ f => .ok (true, f))
noncomputable def sortT (l : List C) (n : Int) (c : List T) (t : T) (f : Int) : Rs LV := toldR l n c f [t] ((sortR l (infT l n (hgt f)) c t f).next fun i f => .ok (Wf i, f))
def leftD{α:Type}:Rs α ->D
 | .ok (_,g)=> .tuple [.int .i64 g, .int .i64 0]
 | .error e=> .tuple [.int .i64 0, .int .i64 e]
structure AskOk (c ts : List T) (f : Int) : Prop where
 ok:∀x,x∈c ->okT x/\x.nsz<=20000
 cl:c.length<=1000000
 len:(c.length:Int)+f<=1000000\/1073741824<f
 ts:∀x,x∈ts ->okT x/\x.nsz<=20000
 fu:f<=19998\/1073741824<f
theorem AskOk.cx{l:List C}{n:Int}{c ts:List T}{f:Int}(h:AskOk c ts f)(hf:f<=1073741824)(hr:∀(i:Nat) (h:i<c.length),Xq n i (l.map C.lv) c[i]=true):Cx c f :=
 ⟨fun x hx=>by
  obtain⟨i,hi,e⟩:=List.getElem_of_mem hx;have:=(Qb9.1 (hr i hi)).2.2;rw[e]at this
  exact⟨(h.ok x hx).1,by rw[Qu4 x this];exact(h.ok x hx).2⟩,by have:=h.len;omega⟩
theorem AskOk.sub{l:List C}{n:Int}{c ts:List T}{f:Int}(h:AskOk c ts f)(hr:∀(i:Nat) (h:i<ts.length),Xq n c.length (l.map C.lv) ts[i]=true){i:Nat}(hi:i<ts.length):Sub n (l.map C.lv) c ts[i] :=
 ⟨(Qb9.1 (hr i hi)).2.2,(h.ts _ (List.getElem_mem hi)).1,(h.ts _ (List.getElem_mem hi)).2⟩
theorem Wcs{l:List C}(hk:Kc l){n f:Int}{c:List T}{t:T}(ha:AskOk c [t] f)(h0:0<=f)(h1:f<=1073741824)(hrc:∀(i:Nat) (h:i<c.length),Xq n i (l.map C.lv) c[i]=true)(hrt:∀(i:Nat) (h:i< [t].length),Xq n c.length (l.map C.lv) [t][i]=true) :
  Sp 63 [.box 0 0, .ref (.slice (c.map Qj) .any), .ref (.agg [.int .i64 t.k, .int .i64 t.n, .int .i64 t.a, .slice (t.ls.map Qn) .any, .slice (t.ks.map Qj) .any])] (iO f l n) (RP l n Qn ((sortR l (infT l n (hgt f)) c t f).next fun i f=> .ok (Wf i,f))):=by
 have hx:=ha.cx h1 hrc;have k0:Sub n (l.map C.lv) c t:=ha.sub hrt (i:=0) (by simp);have hf:f<=19998:=by have:=ha.fu;omega
 have hgn:((hgt f:Nat):Int)=f+1:=by unfold hgt;omega
 obtain⟨hI,hJ⟩:=Qo5 hk n (hgt f) (by omega);obtain⟨bI,bJ⟩:=Qjb (n:=n) hk (hgt f);have h2:f<=20000:=by omega
 have h3:f<=((hgt f:Nat):Int) - 1:=by omega
 have hEt:=Qb t;generalize infT l n (hgt f)=I at hI bI hJ bJ⊢;generalize chkT l n (hgt f)=J at hI bI hJ bJ⊢;refine RP.of ?_;have hF:((hgt f:Nat):Int) - 1<=20000:=by omega
 have sp:=Zd hk hF bI bJ hI hJ h0 h3 k0 hx;rcases Qv l n Qn (sortR l I c t f)with ⟨s,g,e1,q1⟩ | ⟨e,e1,q1⟩
 ·obtain⟨a1,b1,d1⟩:=Qai hk.ok bI h0 h2 k0 hx e1;have up:=Qdu s d1.1;obtain⟨w,hw⟩:∃w,Wf s=w:=⟨_,rfl⟩;rw[hw]at up;have hEs:Qn s= .agg [.slice (s.map Wv) .any]:=rfl;have hEw:Qn w= .agg [.slice (w.map Wv) .any]:=rfl;rw[Qoz (show(sortR l I c t f).next (fun i f=>(.ok (Wf i,f):Rs LV))= .ok (w,g) by rw[e1,Rs.next_ok,hw]),hEw];rw[q1,hEt,hEs]at sp;rw[hEs,hEw]at up;unfold iO Cs Ts at sp;unfold iO Cs;refine eN Tryz.func63 rfl (by decide) rfl rfl ?_;(refine sI fun K Z=>?_;(repeat rw[Qa];simp);refine Z ?_;clear Z K);(refine sR fun K hK=>?_;(repeat rw[Qa];simp));refine cXf [0,1] (sp) ?_;simp[zU]
  (repeat rw[Qa];simp)
  refine cXr (up) ?_
  (repeat rw[Qa];simp)
  (refine hK _ _ _ ?_;clear hK K);(refine Qe ?_;(try simp only[zs]);refine Qk.ret rfl (.inr ⟨[],by decide,by simp,?_⟩);simp[zM])
 ·rw[Qdd (show(sortR l I c t f).next (fun i f=>(.ok (Wf i,f):Rs LV))= .error e by rw[e1,Rs.next_err])];rw[q1,hEt]at sp;unfold iO Cs Ts Wq at sp;unfold iO Cs Wq;refine eN Tryz.func63 rfl (by decide) rfl rfl ?_;(refine sI fun K Z=>?_;(repeat rw[Qa];simp);refine Z ?_;clear Z K);(refine sR fun K hK=>?_;(repeat rw[Qa];simp));refine cXg [0,1] (sp) ?_;simp[zU];((try simp only[zs]);refine Qk.pan (.inr ⟨[],by decide,by simp,?_⟩);simp[zM])
theorem Qvs{l:List C}(hk:Kc l){n f:Int}{c:List T}{t:T}(ha:AskOk c [t] f) :
  Sp 24 [Cs l, .int .i64 n,Ts c,Qj t, .int .i64 f] [] (rt (Qft zLD Qn (sortT l n c t f))):=by
 have hcl:c.length<=1000000:=ha.cl;have to:=told_l 63 c t (n:=n) (f:=f) (c:=c) (ts:= [t]) hk.cs.len hcl (fun x hx=>(ha.ok x hx).1) (by simp) (fun x hx=>(ha.ts x hx).1) (fun a b hrc hrt=>Wcs hk ha b.1 b.2 hrc hrt);have hEt:=Qb t;have L1:1<=Ql:=by unfold Ql;omega
 have L2:2<=Ql:=by unfold Ql;omega
 have hd:∃(ls:LV) (g e:Int),Qft zLD Qn (sortT l n c t f)= .tuple [(.agg [.slice (ls.map Wv) .any]), .int .i64 g, .int .i64 e]:=by
  cases sortT l n c t f with
  | ok v =>
   obtain⟨x,g⟩:=v;unfold Qft;dsimp only
   skip
   exact⟨_,_,_,rfl⟩
  | error e=>exact⟨[],_,_,rfl⟩
 obtain⟨ls,g,e,e1⟩:=hd;rw[e1];unfold sortT at e1;rw[e1]at to;rw[hEt];unfold Cs Ts at to⊢;simp only[List.map_cons,List.map_nil,hEt]at to;refine eN Tryz.func24 rfl (by decide) rfl rfl ?_;(refine sI fun K Z=>?_;(repeat rw[Qa];simp);refine Z ?_;clear Z K);(refine Xe (T:=Qq) 0 (ty:=25) (ds:= [.slice (c.map Qj) .any]) rfl rfl (by first | exact⟨rfl, .inr ⟨_,rfl,rfl⟩⟩ | exact⟨rfl, .inl rfl⟩) ?_;simp[D.frzs,D.frz,HO.frz,Qam,Qat,TK.isAgg,FK.isB,FK.isM,FK.isO,D.isLen]);(refine Xe (T:=Qq) 1 (ty:=27) (ds:= [.int .i64 t.k, .int .i64 t.n, .int .i64 t.a, .slice (t.ls.map Qn) .any, .slice (t.ks.map Qj) .any]) rfl rfl (by first | exact⟨rfl, .inr ⟨_,rfl,rfl⟩⟩ | exact⟨rfl, .inl rfl⟩) ?_;simp[D.frzs,D.frz,HO.frz,Qam,Qat,TK.isAgg,FK.isB,FK.isM,FK.isO,D.isLen]);(refine sR fun K hK=>?_;(repeat rw[Qa];simp[L1]));refine cXr (to) ?_
 (repeat rw[Qa];simp)
 (refine hK _ _ _ ?_;clear hK K);(refine Qe ?_;(try simp only[zs]);refine Qk.ret rfl (.inl ?_);simp[zM])
theorem Wa5{l:List C}(hk:Kc l){n f:Int}{c:List T}{t y:T}(ha:AskOk c [t,y] f)(h0:0<=f)(h1:f<=1073741824)(hrc:∀(i:Nat) (h:i<c.length),Xq n i (l.map C.lv) c[i]=true)(hrt:∀(i:Nat) (h:i< [t,y].length),Xq n c.length (l.map C.lv) [t,y][i]=true) :
  Sp 67 [.box 0 0, .ref (.slice (c.map Qj) .any), .ref (.agg [.int .i64 t.k, .int .i64 t.n, .int .i64 t.a, .slice (t.ls.map Qn) .any, .slice (t.ks.map Qj) .any]), .ref (.agg [.int .i64 y.k, .int .i64 y.n, .int .i64 y.a, .slice (y.ls.map Qn) .any, .slice (y.ks.map Qj) .any])] (iO f l n) (RP l n Qlm ((chkT l n (hgt f) c t y f).next fun _ f=> .ok (true,f))):=by
 have hx:=ha.cx h1 hrc;have k0:Sub n (l.map C.lv) c t:=ha.sub hrt (i:=0) (by simp);have k1:Sub n (l.map C.lv) c y:=ha.sub hrt (i:=1) (by simp);have hf:f<=19998:=by have:=ha.fu;omega
 have hgn:((hgt f:Nat):Int)=f+1:=by unfold hgt;omega
 obtain⟨hI,hJ⟩:=Qo5 hk n (hgt f) (by omega);obtain⟨bI,bJ⟩:=Qjb (n:=n) hk (hgt f);have h2:f<=20000:=by omega
 have h3:f<=((hgt f:Nat):Int) - 1:=by omega
 have hEt:=Qb t;have hEy:=Qb y;generalize infT l n (hgt f)=I at hI bI hJ bJ⊢;generalize chkT l n (hgt f)=J at hI bI hJ bJ⊢;refine RP.of ?_;have sp:=hJ c t y f h0 h3 k0 hx (k1.okY h2);rcases Qv l n Xb (J c t y f)with ⟨s,g,e1,q1⟩ | ⟨e,e1,q1⟩
 ·rw[Qoz (show(J c t y f).next (fun _ f=>(.ok (true,f):Rs Bool))= .ok (true,g) by rw[e1,Rs.next_ok])];rw[q1,hEt,hEy]at sp;unfold iO Cs Ts Xb at sp;unfold iO Cs Qlm;refine eN Tryz.func67 rfl (by decide) rfl rfl ?_;(refine sI fun K Z=>?_;(repeat rw[Qa];simp);refine Z ?_;clear Z K);(refine sR fun K hK=>?_;(repeat rw[Qa];simp));refine cXf [0,1] (sp) ?_;simp[zU]
  (repeat rw[Qa];simp)
  (refine hK _ _ _ ?_;clear hK K);(refine sI fun K Z=>?_;(repeat rw[Qa];simp);refine Z ?_;clear Z K);(refine Qe ?_;(try simp only[zs]);refine Qk.ret rfl (.inr ⟨[],by decide,by simp,?_⟩);simp[zM])
 ·rw[Qdd (show(J c t y f).next (fun _ f=>(.ok (true,f):Rs Bool))= .error e by rw[e1,Rs.next_err])];rw[q1,hEt,hEy]at sp;unfold iO Cs Ts Wq at sp;unfold iO Cs Wq;refine eN Tryz.func67 rfl (by decide) rfl rfl ?_;(refine sI fun K Z=>?_;(repeat rw[Qa];simp);refine Z ?_;clear Z K);(refine sR fun K hK=>?_;(repeat rw[Qa];simp));refine cXg [0,1] (sp) ?_;simp[zU];((try simp only[zs]);refine Qk.pan (.inr ⟨[],by decide,by simp,?_⟩);simp[zM])
theorem Qs4{l:List C}(hk:Kc l){n f:Int}{c:List T}{t y:T}(ha:AskOk c [t,y] f) :
  Sp 25 [Cs l, .int .i64 n,Ts c,Qj t,Qj y, .int .i64 f] [] (rt (leftD (checkT l n c t y f))):=by
 have hcl:c.length<=1000000:=ha.cl;have to:=told_b 67 c t y (n:=n) (f:=f) (c:=c) (ts:= [t,y]) hk.cs.len hcl (fun x hx=>(ha.ok x hx).1) (by simp) (fun x hx=>(ha.ts x hx).1) (fun a b hrc hrt=>Wa5 hk ha b.1 b.2 hrc hrt);have hEt:=Qb t;have hEy:=Qb y;have L1:1<=Ql:=by unfold Ql;omega
 have L2:2<=Ql:=by unfold Ql;omega
 have hd:∃b g e,Qft (.bool false) Qlm (checkT l n c t y f)= .tuple [.bool b, .int .i64 g, .int .i64 e]/\leftD (checkT l n c t y f)= .tuple [.int .i64 g, .int .i64 e]:=by
  cases checkT l n c t y f with
  | ok v=>exact⟨_,_,_,rfl,rfl⟩
  | error e=>exact⟨_,_,_,rfl,rfl⟩
 obtain⟨b,g,e,e1,e2⟩:=hd;unfold checkT at e1;rw[e1]at to;rw[e2,hEt,hEy];unfold Cs Ts at to⊢;simp only[List.map_cons,List.map_nil,hEt,hEy]at to;refine eN Tryz.func25 rfl (by decide) rfl rfl ?_;(refine sI fun K Z=>?_;(repeat rw[Qa];simp);refine Z ?_;clear Z K);(refine Xe (T:=Qq) 0 (ty:=25) (ds:= [.slice (c.map Qj) .any]) rfl rfl (by first | exact⟨rfl, .inr ⟨_,rfl,rfl⟩⟩ | exact⟨rfl, .inl rfl⟩) ?_;simp[D.frzs,D.frz,HO.frz,Qam,Qat,TK.isAgg,FK.isB,FK.isM,FK.isO,D.isLen]);(refine Xe (T:=Qq) 1 (ty:=27) (ds:= [.int .i64 t.k, .int .i64 t.n, .int .i64 t.a, .slice (t.ls.map Qn) .any, .slice (t.ks.map Qj) .any]) rfl rfl (by first | exact⟨rfl, .inr ⟨_,rfl,rfl⟩⟩ | exact⟨rfl, .inl rfl⟩) ?_;simp[D.frzs,D.frz,HO.frz,Qam,Qat,TK.isAgg,FK.isB,FK.isM,FK.isO,D.isLen]);(refine Xe (T:=Qq) 2 (ty:=27) (ds:= [.int .i64 y.k, .int .i64 y.n, .int .i64 y.a, .slice (y.ls.map Qn) .any, .slice (y.ks.map Qj) .any]) rfl rfl (by first | exact⟨rfl, .inr ⟨_,rfl,rfl⟩⟩ | exact⟨rfl, .inl rfl⟩) ?_;simp[D.frzs,D.frz,HO.frz,Qam,Qat,TK.isAgg,FK.isB,FK.isM,FK.isO,D.isLen]);(refine sR fun K hK=>?_;(repeat rw[Qa];simp[L2]));refine cXr (to) ?_
 (repeat rw[Qa];simp)
 (refine hK _ _ _ ?_;clear hK K);(refine sI fun K Z=>?_;(repeat rw[Qa];simp);refine Z ?_;clear Z K);(refine Qe ?_;(try simp only[zs]);refine Qk.ret rfl (.inl ?_);simp[zM])
def coF(c:C):List D:= [.int .i64 c.lv, .int .i64 c.ty.k, .int .i64 c.ty.n, .int .i64 c.ty.a, .slice (c.ty.ls.map Qn) .any, .slice (c.ty.ks.map Qj) .any, .bool c.has, .int .i64 c.bo.k, .int .i64 c.bo.n, .int .i64 c.bo.a, .slice (c.bo.ls.map Qn) .any, .slice (c.bo.ks.map Qj) .any]
def adO(f:Int)(l:List C)(c:C):List HO:= [.cells 105 (.int .i64 f:: .slice (l.map Qbj) .any::coF c)]
def SP(l:List C)(c:C):Rs Unit ->Out ->List HO ->Prop
 | .ok (_,g)=>fun o hc=>o.fgt= .ret (.tuple [])/\hc=adO g l c
 | .error e=>fun o hc=>o= .pan (Wq e)/\hc= [.dead]
theorem Qz7{l:List C}{c:C}{f g:Int}:Sp 165 [.box 0 0, .int .i64 g, .int .i64 0] (adO f l c) (fun o hc=>o.fgt= .ret (.tuple [])/\hc=adO g l c):=by
 unfold adO coF;refine eN Tryz.func165 rfl (by decide) rfl rfl ?_;(refine sI fun K Z=>?_;(repeat rw[Qa];simp);refine Z ?_;clear Z K);(refine sI fun K Z=>?_;(repeat rw[Qa];simp);refine Z ?_;clear Z K);refine pF rfl ?_;refine Qg ?_;((try simp only[zs]);refine Qk.nrm rfl (.inr ⟨[],by decide,by simp,?_⟩);simp[zM])
theorem Qz8{l:List C}{c:C}{f g e:Int}(he:¬ e=0):Sp 165 [.box 0 0, .int .i64 g, .int .i64 e] (adO f l c) (fun o hc=>o= .pan (Wq e)/\hc= [.dead]):=by
 refine Spec.dead (Post:=fun o hc=>o= .pan (Wq e)/\hc=adO g l c) ?_ fun o hc hp=>⟨[.dead],fun r=>by
  rw[hp.2]
  match r with
  | 0=>exact .inr rfl
  | r+1=>exact .inl rfl,hp.1,rfl⟩
 unfold adO coF Wq;refine eN Tryz.func165 rfl (by decide) rfl rfl ?_;(refine sI fun K Z=>?_;(repeat rw[Qa];simp);refine Z ?_;clear Z K);(refine sI fun K Z=>?_;(repeat rw[Qa];simp[he]);refine Z ?_;clear Z K);refine pT rfl ?_;(refine Qi Wa ?_;(repeat rw[Qa];simp));((try simp only[zs]);refine Qk.pan (.inr ⟨[],by decide,by simp,?_⟩);simp[zM])
def Qz9(t:T):Bool:=decide (t.k=0) && decide (t.n=0) && decide (t.a=0) && decide (t.ls.length=0) && decide (t.ks.length=0)
def Qb6(c:C)(f:Int):Rs Unit:=if 0<=c.lv/\c.lv<=8/\(c.has=true\/Qz9 c.bo=true)then .ok ((),f)else .error 2
noncomputable def typR (l : List C) (c : C) (f : Int) : Rs Unit := match sortT l c.lv [] c.ty f with
 | .ok (_,g)=> .ok ((),g)
 | .error e=>if e=0 then .ok ((),0)else .error e
noncomputable def bodyR (l : List C) (c : C) (f : Int) : Rs Unit := if c.has = true then match checkT l c.lv [] c.bo c.ty f with
  | .ok (_,g)=> .ok ((),g)
  | .error e=>if e=0 then .ok ((),0)else .error e
 else .ok ((),f)
theorem Qtz{l:List C}{c:C}{f g e:Int}{r:Rs Unit}(h:(e=0/\r= .ok ((),g))\/(¬ e=0/\r= .error e)):Sp 165 [.box 0 0, .int .i64 g, .int .i64 e] (adO f l c) (SP l c r):=by
 rcases h with ⟨rfl,rfl⟩ | ⟨he,rfl⟩
 ·exact Qz7
 ·exact Qz8 he
theorem Qz6{l:List C}(hk:Kc l){c:C}{f:Int}(ht:okT c.ty/\c.ty.nsz<=20000)(hf:f<=19998\/1073741824<f):Sp 110 [.box 0 0] (adO f l c) (SP l c (typR l c f)):=by
 have sq:=Qvs hk (n:=c.lv) (f:=f) (c:= []) (t:=c.ty) ⟨fun x hx=>by simp at hx,by simp,by simp;omega,fun x hx=>by simp at hx;subst hx;exact ht,hf⟩;have hd:∃(ls:LV) (g e:Int),Qft zLD Qn (sortT l c.lv [] c.ty f)= .tuple [.agg [.slice (ls.map Wv) .any], .int .i64 g, .int .i64 e]/\((e=0/\typR l c f= .ok ((),g))\/(¬ e=0/\typR l c f= .error e)):=by
  unfold typR;cases sortT l c.lv [] c.ty f with
  | ok v=>obtain⟨x,g⟩:=v;exact⟨x,g,0,rfl, .inl ⟨rfl,rfl⟩⟩
  | error e =>
   by_cases he:e=0
   ·exact⟨[],0,e,rfl, .inl ⟨he,by simp[he]⟩⟩
   ·exact⟨[],0,e,rfl, .inr ⟨he,by simp[he]⟩⟩
 obtain⟨ls,g,e,e1,e2⟩:=hd;rw[e1]at sq;have sr:=Qtz (l:=l) (c:=c) (f:=f) e2;have hEt:=Qb c.ty;rw[hEt]at sq;unfold Cs Ts at sq;simp only[List.map_nil]at sq;rcases e2 with ⟨he,hr⟩ | ⟨he,hr⟩
 ·subst he;rw[hr]at sr⊢;unfold SP adO coF at sr⊢;refine eN Tryz.func110 rfl (by decide) rfl rfl ?_;(refine Qc fun K hK=>?_;refine dR fun KT hKT=>?_;(repeat rw[Qd];simp));refine cYp (sq) ?_;(try simp only[zq]);(repeat rw[Qd];simp);(refine hKT _ _ _ _ (by kernel_rfl) ?_;clear hKT KT);(refine hK _ _ _ ?_;clear hK K);(refine Qi Wa ?_;(repeat rw[Qa];simp));refine cXf [0] (sr) ?_;simp[zU]
  (repeat rw[Qa];simp)
  ((try simp only[zs]);refine Qk.nrm rfl (.inr ⟨[],by decide,by simp,?_⟩);simp[zM])
 ·rw[hr]at sr⊢;unfold SP adO coF Wq at sr⊢;refine eN Tryz.func110 rfl (by decide) rfl rfl ?_;(refine Qc fun K hK=>?_;refine dR fun KT hKT=>?_;(repeat rw[Qd];simp));refine cYp (sq) ?_;(try simp only[zq]);(repeat rw[Qd];simp);(refine hKT _ _ _ _ (by kernel_rfl) ?_;clear hKT KT);(refine hK _ _ _ ?_;clear hK K);(refine Qi Wa ?_;(repeat rw[Qa];simp));refine cXg [0] (sr) ?_;simp[zU];((try simp only[zs]);refine Qk.pan (.inr ⟨[],by decide,by simp,?_⟩);simp[zM])
theorem Qww{l:List C}(hk:Kc l){c:C}{f:Int}(ht:okT c.ty/\c.ty.nsz<=20000)(hb:okT c.bo/\c.bo.nsz<=20000)(hf:f<=19998\/1073741824<f):Sp 111 [.box 0 0] (adO f l c) (SP l c (bodyR l c f)):=by
 by_cases hh:c.has=true
 rotate_left
 ·rw[show bodyR l c f= .ok ((),f) by unfold bodyR;rw[if_neg hh]];have hh2:c.has=false:=by simpa using hh
  unfold SP adO coF;rw[hh2];refine eN Tryz.func111 rfl (by decide) rfl rfl ?_;(refine sI fun K Z=>?_;(repeat rw[Qa];simp);refine Z ?_;clear Z K);refine pF rfl ?_;refine Qg ?_;((try simp only[zs]);refine Qk.nrm rfl (.inr ⟨[],by decide,by simp,?_⟩);simp[zM])
 have sq:=Qs4 hk (n:=c.lv) (f:=f) (c:= []) (t:=c.bo) (y:=c.ty) ⟨fun x hx=>by simp at hx,by simp,by simp;omega,fun x hx=>by
  simp only[List.mem_cons,List.not_mem_nil,or_false]at hx;rcases hx with rfl | rfl
  ·exact hb
  ·exact ht,hf⟩
 have hd:∃(g e:Int),leftD (checkT l c.lv [] c.bo c.ty f)= .tuple [.int .i64 g, .int .i64 e]/\((e=0/\bodyR l c f= .ok ((),g))\/(¬ e=0/\bodyR l c f= .error e)):=by
  unfold bodyR;rw[if_pos hh];cases checkT l c.lv [] c.bo c.ty f with
  | ok v=>obtain⟨x,g⟩:=v;exact⟨g,0,rfl, .inl ⟨rfl,rfl⟩⟩
  | error e =>
   by_cases he:e=0
   ·exact⟨0,e,rfl, .inl ⟨he,by simp[he]⟩⟩
   ·exact⟨0,e,rfl, .inr ⟨he,by simp[he]⟩⟩
 obtain⟨g,e,e1,e2⟩:=hd;rw[e1]at sq;have sr:=Qtz (l:=l) (c:=c) (f:=f) e2;have hEt:=Qb c.ty;have hEb:=Qb c.bo;rw[hEt,hEb]at sq;unfold Cs Ts at sq;simp only[List.map_nil]at sq;rcases e2 with ⟨he,hr⟩ | ⟨he,hr⟩
 ·subst he;rw[hr]at sr⊢;unfold SP adO coF at sr⊢;rw[hh]at sr⊢;refine eN Tryz.func111 rfl (by decide) rfl rfl ?_;(refine sI fun K Z=>?_;(repeat rw[Qa];simp);refine Z ?_;clear Z K);refine pT rfl ?_;(refine Qc fun K hK=>?_;refine dR fun KT hKT=>?_;(repeat rw[Qd];simp));refine cYp (sq) ?_;(try simp only[zq]);(repeat rw[Qd];simp);(refine hKT _ _ _ _ (by kernel_rfl) ?_;clear hKT KT);(refine hK _ _ _ ?_;clear hK K);(refine Qi Wa ?_;(repeat rw[Qa];simp));refine cXf [0] (sr) ?_;simp[zU]
  (repeat rw[Qa];simp)
  ((try simp only[zs]);refine Qk.nrm rfl (.inr ⟨[],by decide,by simp,?_⟩);simp[zM])
 ·rw[hr]at sr⊢;unfold SP adO coF Wq at sr⊢;rw[hh]at sr⊢;refine eN Tryz.func111 rfl (by decide) rfl rfl ?_;(refine sI fun K Z=>?_;(repeat rw[Qa];simp);refine Z ?_;clear Z K);refine pT rfl ?_;(refine Qc fun K hK=>?_;refine dR fun KT hKT=>?_;(repeat rw[Qd];simp));refine cYp (sq) ?_;(try simp only[zq]);(repeat rw[Qd];simp);(refine hKT _ _ _ _ (by kernel_rfl) ?_;clear hKT KT);(refine hK _ _ _ ?_;clear hK K);(refine Qi Wa ?_;(repeat rw[Qa];simp));refine cXg [0] (sr) ?_;simp[zU];((try simp only[zs]);refine Qk.pan (.inr ⟨[],by decide,by simp,?_⟩);simp[zM])
theorem Qsp{l:List C}{c:C}{f:Int}(hc:okC c):Sp 109 [.box 0 0] (adO f l c) (SP l c (Qb6 c f)):=by
 have hl1:c.bo.ls.length<=Ql:=hc.2.2.ll;have hl2:c.bo.ks.length<=Ql:=hc.2.2.kl;unfold Ql at hl1 hl2;have hw:IntKind.i64.wrap ((c.bo.ls.length:Int)+c.bo.ks.length)=(c.bo.ls.length:Int)+c.bo.ks.length:=Qbu (by omega) (by omega);clear hc;obtain⟨lv,ty,has,bo⟩:=c;obtain⟨k,n,a,ls,ks⟩:=bo
 replace hl1:ls.length<=16777216\/True:= .inr trivial
 replace hw:IntKind.i64.wrap ((ls.length:Int)+ks.length)=(ls.length:Int)+ks.length:=hw
 unfold adO;rw[show coF ⟨lv,ty,has, .mk k n a ls ks⟩= [.int .i64 lv, .int .i64 ty.k, .int .i64 ty.n, .int .i64 ty.a, .slice (ty.ls.map Qn) .any, .slice (ty.ks.map Qj) .any, .bool has, .int .i64 k, .int .i64 n, .int .i64 a, .slice (ls.map Qn) .any, .slice (ks.map Qj) .any] from rfl];obtain⟨R,hR⟩:∃R,Qb6 ⟨lv,ty,has, .mk k n a ls ks⟩ f=R:=⟨_,rfl⟩;rw[hR];have hRb:Qb6 ⟨lv,ty,has, .mk k n a ls ks⟩ f=if 0<=lv/\lv<=8/\(has=true\/(decide (k=0) && decide (n=0) && decide (a=0) && decide (ls.length=0) && decide (ks.length=0))=true)then .ok ((),f)else .error 2:=rfl
 rw[hRb]at hR;clear hRb;rw[show SP l ⟨lv,ty,has, .mk k n a ls ks⟩ R=(match R with | .ok (_,g)=>fun o hc=>o.fgt= .ret (.tuple [])/\hc= [.cells 105 [.int .i64 g, .slice (l.map Qbj) .any, .int .i64 lv, .int .i64 ty.k, .int .i64 ty.n, .int .i64 ty.a, .slice (ty.ls.map Qn) .any, .slice (ty.ks.map Qj) .any, .bool has, .int .i64 k, .int .i64 n, .int .i64 a, .slice (ls.map Qn) .any, .slice (ks.map Qj) .any]] | .error e=>fun o hc=>o= .pan (Wq e)/\hc= [.dead]) by cases R <;> rfl];by_cases hk:k=0
 rotate_left
 ·by_cases v0:lv<0
  ·have v0':¬ 0<=lv:=by omega
   have hq:R= .error 2:=by rw[<- hR];simp[hk,v0,v0'] <;> assumption
   subst hq
   refine Spec.dead (Post:=fun o hc=>o= .pan (Wq 2)/\hc.length=1) ?_ fun o hc hp=>⟨[.dead],fun r=>by
    match r with
    | 0=>exact .inr rfl
    | r+1=>exact .inl (by unfold hOf;rw[List.getD_eq_getElem?_getD,List.getD_eq_getElem?_getD,List.getElem?_eq_none (by simp),List.getElem?_eq_none (by have:=hp.2;omega)]),hp.1,rfl⟩
   unfold Wq;refine eN Tryz.func109 rfl (by decide) rfl rfl ?_;(refine sI fun K Z=>?_;(repeat rw[Qa];simp);refine Z ?_;clear Z K);(refine sI fun K Z=>?_;(repeat rw[Qa];simp[hk,v0,v0']);refine Z ?_;clear Z K);(refine sI fun K Z=>?_;(repeat rw[Qa];simp[hk,v0,v0']);refine Z ?_;clear Z K);refine pT rfl ?_;(refine Qi Wa ?_;(repeat rw[Qa];simp));((try simp only[zs]);refine Qk.pan (.inr ⟨[],by decide,by simp,?_⟩);simp[zM])
  have v0':0<=lv:=by omega
  by_cases v8:8<lv
  ·have v8':¬ lv<=8:=by omega
   have hq:R= .error 2:=by rw[<- hR];simp[hk,v0,v0',v8,v8'] <;> assumption
   subst hq
   refine Spec.dead (Post:=fun o hc=>o= .pan (Wq 2)/\hc.length=1) ?_ fun o hc hp=>⟨[.dead],fun r=>by
    match r with
    | 0=>exact .inr rfl
    | r+1=>exact .inl (by unfold hOf;rw[List.getD_eq_getElem?_getD,List.getD_eq_getElem?_getD,List.getElem?_eq_none (by simp),List.getElem?_eq_none (by have:=hp.2;omega)]),hp.1,rfl⟩
   unfold Wq;refine eN Tryz.func109 rfl (by decide) rfl rfl ?_;(refine sI fun K Z=>?_;(repeat rw[Qa];simp);refine Z ?_;clear Z K);(refine sI fun K Z=>?_;(repeat rw[Qa];simp[hk,v0,v0',v8,v8']);refine Z ?_;clear Z K);(refine sI fun K Z=>?_;(repeat rw[Qa];simp[hk,v0,v0',v8,v8']);refine Z ?_;clear Z K);refine pT rfl ?_;(refine Qi Wa ?_;(repeat rw[Qa];simp));((try simp only[zs]);refine Qk.pan (.inr ⟨[],by decide,by simp,?_⟩);simp[zM])
  have v8':lv<=8:=by omega
  cases has
  ·have hq:R= .error 2:=by rw[<- hR];simp[hk,v0,v0',v8,v8'] <;> assumption
   subst hq
   refine Spec.dead (Post:=fun o hc=>o= .pan (Wq 2)/\hc.length=1) ?_ fun o hc hp=>⟨[.dead],fun r=>by
    match r with
    | 0=>exact .inr rfl
    | r+1=>exact .inl (by unfold hOf;rw[List.getD_eq_getElem?_getD,List.getD_eq_getElem?_getD,List.getElem?_eq_none (by simp),List.getElem?_eq_none (by have:=hp.2;omega)]),hp.1,rfl⟩
   unfold Wq;refine eN Tryz.func109 rfl (by decide) rfl rfl ?_;(refine sI fun K Z=>?_;(repeat rw[Qa];simp);refine Z ?_;clear Z K);(refine sI fun K Z=>?_;(repeat rw[Qa];simp[hk,v0,v0',v8,v8']);refine Z ?_;clear Z K);(refine sI fun K Z=>?_;(repeat rw[Qa];simp[hk,v0,v0',v8,v8']);refine Z ?_;clear Z K);refine pT rfl ?_;(refine Qi Wa ?_;(repeat rw[Qa];simp));((try simp only[zs]);refine Qk.pan (.inr ⟨[],by decide,by simp,?_⟩);simp[zM])
  ·have hq:R= .ok ((),f):=by rw[<- hR];simp[hk,v0,v0',v8,v8'] <;> assumption
   subst hq;refine eN Tryz.func109 rfl (by decide) rfl rfl ?_;(refine sI fun K Z=>?_;(repeat rw[Qa];simp);refine Z ?_;clear Z K);(refine sI fun K Z=>?_;(repeat rw[Qa];simp[hk,v0,v0',v8,v8']);refine Z ?_;clear Z K);(refine sI fun K Z=>?_;(repeat rw[Qa];simp[hk,v0,v0',v8,v8']);refine Z ?_;clear Z K);refine pF rfl ?_;refine Qg ?_;((try simp only[zs]);refine Qk.nrm rfl (.inr ⟨[],by decide,by simp,?_⟩);simp[zM])
 subst hk;by_cases hn:n=0
 rotate_left
 ·by_cases v0:lv<0
  ·have v0':¬ 0<=lv:=by omega
   have hq:R= .error 2:=by rw[<- hR];simp[hn,v0,v0'] <;> assumption
   subst hq
   refine Spec.dead (Post:=fun o hc=>o= .pan (Wq 2)/\hc.length=1) ?_ fun o hc hp=>⟨[.dead],fun r=>by
    match r with
    | 0=>exact .inr rfl
    | r+1=>exact .inl (by unfold hOf;rw[List.getD_eq_getElem?_getD,List.getD_eq_getElem?_getD,List.getElem?_eq_none (by simp),List.getElem?_eq_none (by have:=hp.2;omega)]),hp.1,rfl⟩
   unfold Wq;refine eN Tryz.func109 rfl (by decide) rfl rfl ?_;(refine sI fun K Z=>?_;(repeat rw[Qa];simp);refine Z ?_;clear Z K);(refine sI fun K Z=>?_;(repeat rw[Qa];simp[hn,v0,v0']);refine Z ?_;clear Z K);(refine sI fun K Z=>?_;(repeat rw[Qa];simp[hn,v0,v0']);refine Z ?_;clear Z K);refine pT rfl ?_;(refine Qi Wa ?_;(repeat rw[Qa];simp));((try simp only[zs]);refine Qk.pan (.inr ⟨[],by decide,by simp,?_⟩);simp[zM])
  have v0':0<=lv:=by omega
  by_cases v8:8<lv
  ·have v8':¬ lv<=8:=by omega
   have hq:R= .error 2:=by rw[<- hR];simp[hn,v0,v0',v8,v8'] <;> assumption
   subst hq
   refine Spec.dead (Post:=fun o hc=>o= .pan (Wq 2)/\hc.length=1) ?_ fun o hc hp=>⟨[.dead],fun r=>by
    match r with
    | 0=>exact .inr rfl
    | r+1=>exact .inl (by unfold hOf;rw[List.getD_eq_getElem?_getD,List.getD_eq_getElem?_getD,List.getElem?_eq_none (by simp),List.getElem?_eq_none (by have:=hp.2;omega)]),hp.1,rfl⟩
   unfold Wq;refine eN Tryz.func109 rfl (by decide) rfl rfl ?_;(refine sI fun K Z=>?_;(repeat rw[Qa];simp);refine Z ?_;clear Z K);(refine sI fun K Z=>?_;(repeat rw[Qa];simp[hn,v0,v0',v8,v8']);refine Z ?_;clear Z K);(refine sI fun K Z=>?_;(repeat rw[Qa];simp[hn,v0,v0',v8,v8']);refine Z ?_;clear Z K);refine pT rfl ?_;(refine Qi Wa ?_;(repeat rw[Qa];simp));((try simp only[zs]);refine Qk.pan (.inr ⟨[],by decide,by simp,?_⟩);simp[zM])
  have v8':lv<=8:=by omega
  cases has
  ·have hq:R= .error 2:=by rw[<- hR];simp[hn,v0,v0',v8,v8'] <;> assumption
   subst hq
   refine Spec.dead (Post:=fun o hc=>o= .pan (Wq 2)/\hc.length=1) ?_ fun o hc hp=>⟨[.dead],fun r=>by
    match r with
    | 0=>exact .inr rfl
    | r+1=>exact .inl (by unfold hOf;rw[List.getD_eq_getElem?_getD,List.getD_eq_getElem?_getD,List.getElem?_eq_none (by simp),List.getElem?_eq_none (by have:=hp.2;omega)]),hp.1,rfl⟩
   unfold Wq;refine eN Tryz.func109 rfl (by decide) rfl rfl ?_;(refine sI fun K Z=>?_;(repeat rw[Qa];simp);refine Z ?_;clear Z K);(refine sI fun K Z=>?_;(repeat rw[Qa];simp[hn,v0,v0',v8,v8']);refine Z ?_;clear Z K);(refine sI fun K Z=>?_;(repeat rw[Qa];simp[hn,v0,v0',v8,v8']);refine Z ?_;clear Z K);refine pT rfl ?_;(refine Qi Wa ?_;(repeat rw[Qa];simp));((try simp only[zs]);refine Qk.pan (.inr ⟨[],by decide,by simp,?_⟩);simp[zM])
  ·have hq:R= .ok ((),f):=by rw[<- hR];simp[hn,v0,v0',v8,v8'] <;> assumption
   subst hq;refine eN Tryz.func109 rfl (by decide) rfl rfl ?_;(refine sI fun K Z=>?_;(repeat rw[Qa];simp);refine Z ?_;clear Z K);(refine sI fun K Z=>?_;(repeat rw[Qa];simp[hn,v0,v0',v8,v8']);refine Z ?_;clear Z K);(refine sI fun K Z=>?_;(repeat rw[Qa];simp[hn,v0,v0',v8,v8']);refine Z ?_;clear Z K);refine pF rfl ?_;refine Qg ?_;((try simp only[zs]);refine Qk.nrm rfl (.inr ⟨[],by decide,by simp,?_⟩);simp[zM])
 subst hn;by_cases ha:a=0
 rotate_left
 ·by_cases v0:lv<0
  ·have v0':¬ 0<=lv:=by omega
   have hq:R= .error 2:=by rw[<- hR];simp[ha,v0,v0'] <;> assumption
   subst hq
   refine Spec.dead (Post:=fun o hc=>o= .pan (Wq 2)/\hc.length=1) ?_ fun o hc hp=>⟨[.dead],fun r=>by
    match r with
    | 0=>exact .inr rfl
    | r+1=>exact .inl (by unfold hOf;rw[List.getD_eq_getElem?_getD,List.getD_eq_getElem?_getD,List.getElem?_eq_none (by simp),List.getElem?_eq_none (by have:=hp.2;omega)]),hp.1,rfl⟩
   unfold Wq;refine eN Tryz.func109 rfl (by decide) rfl rfl ?_;(refine sI fun K Z=>?_;(repeat rw[Qa];simp);refine Z ?_;clear Z K);(refine sI fun K Z=>?_;(repeat rw[Qa];simp[ha,v0,v0']);refine Z ?_;clear Z K);(refine sI fun K Z=>?_;(repeat rw[Qa];simp[ha,v0,v0']);refine Z ?_;clear Z K);refine pT rfl ?_;(refine Qi Wa ?_;(repeat rw[Qa];simp));((try simp only[zs]);refine Qk.pan (.inr ⟨[],by decide,by simp,?_⟩);simp[zM])
  have v0':0<=lv:=by omega
  by_cases v8:8<lv
  ·have v8':¬ lv<=8:=by omega
   have hq:R= .error 2:=by rw[<- hR];simp[ha,v0,v0',v8,v8'] <;> assumption
   subst hq
   refine Spec.dead (Post:=fun o hc=>o= .pan (Wq 2)/\hc.length=1) ?_ fun o hc hp=>⟨[.dead],fun r=>by
    match r with
    | 0=>exact .inr rfl
    | r+1=>exact .inl (by unfold hOf;rw[List.getD_eq_getElem?_getD,List.getD_eq_getElem?_getD,List.getElem?_eq_none (by simp),List.getElem?_eq_none (by have:=hp.2;omega)]),hp.1,rfl⟩
   unfold Wq;refine eN Tryz.func109 rfl (by decide) rfl rfl ?_;(refine sI fun K Z=>?_;(repeat rw[Qa];simp);refine Z ?_;clear Z K);(refine sI fun K Z=>?_;(repeat rw[Qa];simp[ha,v0,v0',v8,v8']);refine Z ?_;clear Z K);(refine sI fun K Z=>?_;(repeat rw[Qa];simp[ha,v0,v0',v8,v8']);refine Z ?_;clear Z K);refine pT rfl ?_;(refine Qi Wa ?_;(repeat rw[Qa];simp));((try simp only[zs]);refine Qk.pan (.inr ⟨[],by decide,by simp,?_⟩);simp[zM])
  have v8':lv<=8:=by omega
  cases has
  ·have hq:R= .error 2:=by rw[<- hR];simp[ha,v0,v0',v8,v8'] <;> assumption
   subst hq
   refine Spec.dead (Post:=fun o hc=>o= .pan (Wq 2)/\hc.length=1) ?_ fun o hc hp=>⟨[.dead],fun r=>by
    match r with
    | 0=>exact .inr rfl
    | r+1=>exact .inl (by unfold hOf;rw[List.getD_eq_getElem?_getD,List.getD_eq_getElem?_getD,List.getElem?_eq_none (by simp),List.getElem?_eq_none (by have:=hp.2;omega)]),hp.1,rfl⟩
   unfold Wq;refine eN Tryz.func109 rfl (by decide) rfl rfl ?_;(refine sI fun K Z=>?_;(repeat rw[Qa];simp);refine Z ?_;clear Z K);(refine sI fun K Z=>?_;(repeat rw[Qa];simp[ha,v0,v0',v8,v8']);refine Z ?_;clear Z K);(refine sI fun K Z=>?_;(repeat rw[Qa];simp[ha,v0,v0',v8,v8']);refine Z ?_;clear Z K);refine pT rfl ?_;(refine Qi Wa ?_;(repeat rw[Qa];simp));((try simp only[zs]);refine Qk.pan (.inr ⟨[],by decide,by simp,?_⟩);simp[zM])
  ·have hq:R= .ok ((),f):=by rw[<- hR];simp[ha,v0,v0',v8,v8'] <;> assumption
   subst hq;refine eN Tryz.func109 rfl (by decide) rfl rfl ?_;(refine sI fun K Z=>?_;(repeat rw[Qa];simp);refine Z ?_;clear Z K);(refine sI fun K Z=>?_;(repeat rw[Qa];simp[ha,v0,v0',v8,v8']);refine Z ?_;clear Z K);(refine sI fun K Z=>?_;(repeat rw[Qa];simp[ha,v0,v0',v8,v8']);refine Z ?_;clear Z K);refine pF rfl ?_;refine Qg ?_;((try simp only[zs]);refine Qk.nrm rfl (.inr ⟨[],by decide,by simp,?_⟩);simp[zM])
 subst ha;by_cases hs:ls.length=0/\ks.length=0
 rotate_left
 ·have hz:¬ ((ls.length:Int)+ks.length=0):=by omega
  have hs1:ls= [] ->¬ ks= []:=fun e1 e2=>hs ⟨by rw[e1];rfl,by rw[e2];rfl⟩
  by_cases v0:lv<0
  ·have v0':¬ 0<=lv:=by omega
   have hq:R= .error 2:=by rw[<- hR];simp[hw,hz,hs,hs1,v0,v0'] <;> assumption
   subst hq
   refine Spec.dead (Post:=fun o hc=>o= .pan (Wq 2)/\hc.length=1) ?_ fun o hc hp=>⟨[.dead],fun r=>by
    match r with
    | 0=>exact .inr rfl
    | r+1=>exact .inl (by unfold hOf;rw[List.getD_eq_getElem?_getD,List.getD_eq_getElem?_getD,List.getElem?_eq_none (by simp),List.getElem?_eq_none (by have:=hp.2;omega)]),hp.1,rfl⟩
   unfold Wq;refine eN Tryz.func109 rfl (by decide) rfl rfl ?_;(refine sI fun K Z=>?_;(repeat rw[Qa];simp);refine Z ?_;clear Z K);(refine sI fun K Z=>?_;(repeat rw[Qa];simp[hw,hz,hs,hs1,v0,v0']);refine Z ?_;clear Z K);(refine sI fun K Z=>?_;(repeat rw[Qa];simp[hw,hz,hs,hs1,v0,v0']);refine Z ?_;clear Z K);refine pT rfl ?_;(refine Qi Wa ?_;(repeat rw[Qa];simp));((try simp only[zs]);refine Qk.pan (.inr ⟨[],by decide,by simp,?_⟩);simp[zM])
  have v0':0<=lv:=by omega
  by_cases v8:8<lv
  ·have v8':¬ lv<=8:=by omega
   have hq:R= .error 2:=by rw[<- hR];simp[hw,hz,hs,hs1,v0,v0',v8,v8'] <;> assumption
   subst hq
   refine Spec.dead (Post:=fun o hc=>o= .pan (Wq 2)/\hc.length=1) ?_ fun o hc hp=>⟨[.dead],fun r=>by
    match r with
    | 0=>exact .inr rfl
    | r+1=>exact .inl (by unfold hOf;rw[List.getD_eq_getElem?_getD,List.getD_eq_getElem?_getD,List.getElem?_eq_none (by simp),List.getElem?_eq_none (by have:=hp.2;omega)]),hp.1,rfl⟩
   unfold Wq;refine eN Tryz.func109 rfl (by decide) rfl rfl ?_;(refine sI fun K Z=>?_;(repeat rw[Qa];simp);refine Z ?_;clear Z K);(refine sI fun K Z=>?_;(repeat rw[Qa];simp[hw,hz,hs,hs1,v0,v0',v8,v8']);refine Z ?_;clear Z K);(refine sI fun K Z=>?_;(repeat rw[Qa];simp[hw,hz,hs,hs1,v0,v0',v8,v8']);refine Z ?_;clear Z K);refine pT rfl ?_;(refine Qi Wa ?_;(repeat rw[Qa];simp));((try simp only[zs]);refine Qk.pan (.inr ⟨[],by decide,by simp,?_⟩);simp[zM])
  have v8':lv<=8:=by omega
  cases has
  ·have hq:R= .error 2:=by rw[<- hR];simp[hw,hz,hs,hs1,v0,v0',v8,v8'] <;> assumption
   subst hq
   refine Spec.dead (Post:=fun o hc=>o= .pan (Wq 2)/\hc.length=1) ?_ fun o hc hp=>⟨[.dead],fun r=>by
    match r with
    | 0=>exact .inr rfl
    | r+1=>exact .inl (by unfold hOf;rw[List.getD_eq_getElem?_getD,List.getD_eq_getElem?_getD,List.getElem?_eq_none (by simp),List.getElem?_eq_none (by have:=hp.2;omega)]),hp.1,rfl⟩
   unfold Wq;refine eN Tryz.func109 rfl (by decide) rfl rfl ?_;(refine sI fun K Z=>?_;(repeat rw[Qa];simp);refine Z ?_;clear Z K);(refine sI fun K Z=>?_;(repeat rw[Qa];simp[hw,hz,hs,hs1,v0,v0',v8,v8']);refine Z ?_;clear Z K);(refine sI fun K Z=>?_;(repeat rw[Qa];simp[hw,hz,hs,hs1,v0,v0',v8,v8']);refine Z ?_;clear Z K);refine pT rfl ?_;(refine Qi Wa ?_;(repeat rw[Qa];simp));((try simp only[zs]);refine Qk.pan (.inr ⟨[],by decide,by simp,?_⟩);simp[zM])
  ·have hq:R= .ok ((),f):=by rw[<- hR];simp[hw,hz,hs,hs1,v0,v0',v8,v8'] <;> assumption
   subst hq;refine eN Tryz.func109 rfl (by decide) rfl rfl ?_;(refine sI fun K Z=>?_;(repeat rw[Qa];simp);refine Z ?_;clear Z K);(refine sI fun K Z=>?_;(repeat rw[Qa];simp[hw,hz,hs,hs1,v0,v0',v8,v8']);refine Z ?_;clear Z K);(refine sI fun K Z=>?_;(repeat rw[Qa];simp[hw,hz,hs,hs1,v0,v0',v8,v8']);refine Z ?_;clear Z K);refine pF rfl ?_;refine Qg ?_;((try simp only[zs]);refine Qk.nrm rfl (.inr ⟨[],by decide,by simp,?_⟩);simp[zM])
 obtain⟨s1,s2⟩:=hs;have e1:ls= []:=List.length_eq_zero_iff.1 s1;have e2:ks= []:=List.length_eq_zero_iff.1 s2;subst e1;subst e2;have hw0:IntKind.i64.wrap 0=0:=by decide
 by_cases v0:lv<0
 ·have v0':¬ 0<=lv:=by omega
  have hq:R= .error 2:=by rw[<- hR];simp[hw0,v0,v0'] <;> assumption
  subst hq
  refine Spec.dead (Post:=fun o hc=>o= .pan (Wq 2)/\hc.length=1) ?_ fun o hc hp=>⟨[.dead],fun r=>by
   match r with
   | 0=>exact .inr rfl
   | r+1=>exact .inl (by unfold hOf;rw[List.getD_eq_getElem?_getD,List.getD_eq_getElem?_getD,List.getElem?_eq_none (by simp),List.getElem?_eq_none (by have:=hp.2;omega)]),hp.1,rfl⟩
  unfold Wq;refine eN Tryz.func109 rfl (by decide) rfl rfl ?_;(refine sI fun K Z=>?_;(repeat rw[Qa];simp);refine Z ?_;clear Z K);(refine sI fun K Z=>?_;(repeat rw[Qa];simp[hw0,v0,v0']);refine Z ?_;clear Z K);(refine sI fun K Z=>?_;(repeat rw[Qa];simp[hw0,v0,v0']);refine Z ?_;clear Z K);refine pT rfl ?_;(refine Qi Wa ?_;(repeat rw[Qa];simp));((try simp only[zs]);refine Qk.pan (.inr ⟨[],by decide,by simp,?_⟩);simp[zM])
 have v0':0<=lv:=by omega
 by_cases v8:8<lv
 ·have v8':¬ lv<=8:=by omega
  have hq:R= .error 2:=by rw[<- hR];simp[hw0,v0,v0',v8,v8'] <;> assumption
  subst hq
  refine Spec.dead (Post:=fun o hc=>o= .pan (Wq 2)/\hc.length=1) ?_ fun o hc hp=>⟨[.dead],fun r=>by
   match r with
   | 0=>exact .inr rfl
   | r+1=>exact .inl (by unfold hOf;rw[List.getD_eq_getElem?_getD,List.getD_eq_getElem?_getD,List.getElem?_eq_none (by simp),List.getElem?_eq_none (by have:=hp.2;omega)]),hp.1,rfl⟩
  unfold Wq;refine eN Tryz.func109 rfl (by decide) rfl rfl ?_;(refine sI fun K Z=>?_;(repeat rw[Qa];simp);refine Z ?_;clear Z K);(refine sI fun K Z=>?_;(repeat rw[Qa];simp[hw0,v0,v0',v8,v8']);refine Z ?_;clear Z K);(refine sI fun K Z=>?_;(repeat rw[Qa];simp[hw0,v0,v0',v8,v8']);refine Z ?_;clear Z K);refine pT rfl ?_;(refine Qi Wa ?_;(repeat rw[Qa];simp));((try simp only[zs]);refine Qk.pan (.inr ⟨[],by decide,by simp,?_⟩);simp[zM])
 have v8':lv<=8:=by omega
 cases has
 ·have hq:R= .ok ((),f):=by rw[<- hR];simp[hw0,v0,v0',v8,v8'] <;> assumption
  subst hq;refine eN Tryz.func109 rfl (by decide) rfl rfl ?_;(refine sI fun K Z=>?_;(repeat rw[Qa];simp);refine Z ?_;clear Z K);(refine sI fun K Z=>?_;(repeat rw[Qa];simp[hw0,v0,v0',v8,v8']);refine Z ?_;clear Z K);(refine sI fun K Z=>?_;(repeat rw[Qa];simp[hw0,v0,v0',v8,v8']);refine Z ?_;clear Z K);refine pF rfl ?_;refine Qg ?_;((try simp only[zs]);refine Qk.nrm rfl (.inr ⟨[],by decide,by simp,?_⟩);simp[zM])
 ·have hq:R= .ok ((),f):=by rw[<- hR];simp[hw0,v0,v0',v8,v8'] <;> assumption
  subst hq;refine eN Tryz.func109 rfl (by decide) rfl rfl ?_;(refine sI fun K Z=>?_;(repeat rw[Qa];simp);refine Z ?_;clear Z K);(refine sI fun K Z=>?_;(repeat rw[Qa];simp[hw0,v0,v0',v8,v8']);refine Z ?_;clear Z K);(refine sI fun K Z=>?_;(repeat rw[Qa];simp[hw0,v0,v0',v8,v8']);refine Z ?_;clear Z K);refine pF rfl ?_;refine Qg ?_;((try simp only[zs]);refine Qk.nrm rfl (.inr ⟨[],by decide,by simp,?_⟩);simp[zM])
noncomputable def declR (l : List C) (c : C) (f : Int) : Rs Unit := (Qb6 c f).next fun _ f => (typR l c f).next fun _ f => bodyR l c f
noncomputable def rowR (l : List C) : Nat -> Nat -> Int -> Except (Nat × Int) Int
 | 0,_,f=> .ok f
 | m+1,k,f=>match declR (l.take k) (l.getD k Qhn) f with
  | .ok (_,g)=>rowR l m (k+1) g
  | .error e=> .error (k,e)
noncomputable def rowsR (l : List C) (k : Nat) (f : Int) : Except (Nat × Int) Int := if 0 <= f /\ f <= 1073741824 then rowR l (l.length - k) k f else .error (0, 2)
theorem Wbk(x:Int):Qgw Tryz.prog glob 108 [.box 0 0] [.cells 33 [.int .i64 x]] none (fun hc=>hc= [.cells 33 [.int .i64 x]]):=by
 refine Qav Wa Tryz.func108 rfl rfl (fun a w=>rfl) rfl (Qcm _ _ Tryz.func108 rfl (by decide)) rfl rfl ?_;(try simp only[zr]);(repeat rw[Qa];simp);(refine sI fun K Z=>?_;(repeat rw[Qa];simp);refine Z ?_;clear Z K);refine pF rfl ?_;refine Qg ?_;refine Qk.nrm rfl ?_;simp[Qw]
theorem Wbl(x e:Int):Qgw Tryz.prog glob 108 [.box 0 0] [.cells 33 [.int .i64 x]] (some (.iface 33 (.int .i64 e))) (fun hc=>hc= [.cells 33 [.int .i64 e]]):=by
 refine Qav Wa Tryz.func108 rfl rfl (fun a w=>rfl) rfl (Qcm _ _ Tryz.func108 rfl (by decide)) rfl rfl ?_;(try simp only[zr]);(repeat rw[Qa];simp);(refine sI fun K Z=>?_;(repeat rw[Qa];simp);refine Z ?_;clear Z K);refine pT rfl ?_;(refine sI fun K Z=>?_;(repeat rw[Qa];simp);refine Z ?_;clear Z K);(refine sI fun K Z=>?_;(repeat rw[Qa];simp);refine Z ?_;clear Z K);(refine sI fun K Z=>?_;(repeat rw[Qa];simp);refine Z ?_;clear Z K);refine pF rfl ?_;refine Qg ?_;refine Qk.nrm rfl ?_;simp[Qw]
def AP(len:Nat):Except (Nat×Int) Int ->Out ->List HO ->Prop
 | .ok g=>fun o hc=>o.fgt= .ret (.tuple [.int .i64 len, .int .i64 0])/\∃cs,hc= [.cells 105 (.int .i64 g::cs)]
 | .error (k,e)=>fun o hc=>o.fgt= .ret (.tuple [.int .i64 k, .int .i64 e])/\∃x,hc= [x]
noncomputable def restR (l : List C) (c : C) : Nat -> Int -> Rs Unit
 | 0,f=>declR l c f
 | 1,f=>(typR l c f).next fun _ f=>bodyR l c f
 | 2,f=>bodyR l c f
 | _,f=> .ok ((),f)
theorem Qtq{α:Type}{l:List C}{n:Int}{c ts:List T}{f:Int}{r:Rs α}{v:α×Int}(h:toldR l n c f ts r= .ok v):r= .ok v/\(∀(i:Nat) (h:i<c.length),Xq n i (l.map C.lv) c[i]=true)/\(∀(i:Nat) (h:i<ts.length),Xq n c.length (l.map C.lv) ts[i]=true):=by
 unfold toldR at h;split at h
 ·split at h
  ·rename_i h2;exact⟨h,h2⟩
  ·cases h
 ·cases h
theorem typR_le{l:List C}(hk:Kc l){c:C}{f g:Int}{u:Unit}(ht:okT c.ty/\c.ty.nsz<=20000)(h0:0<=f)(h1:f<=19998)(h:typR l c f= .ok (u,g)):0<=g/\g<=f:=by
 unfold typR at h;cases hs:sortT l c.lv [] c.ty f with
 | ok v =>
  rw[hs]at h;obtain⟨x,q⟩:=v;cases h;have hs2:=hs;unfold sortT at hs2;obtain⟨h2, -,h4⟩:=Qtq hs2;obtain⟨i,q,h5,h6⟩:=Rs.next_some h2;cases h6;obtain⟨bI, -⟩:=Qjb (n:=c.lv) hk (hgt f);obtain⟨a,b, -⟩:=Qai hk.ok bI h0 (by omega) ⟨(Qb9.1 (h4 0 (by simp))).2.2,ht.1,ht.2⟩ ⟨fun x hx=>by simp at hx,by simp;omega⟩ h5;exact⟨a,by omega⟩
 | error e =>
  rw[hs]at h;dsimp only at h;split at h
  ·cases h;omega
  ·cases h
theorem Wew{l:List C}(hk:Kc l){c:C}{f g:Int}{u:Unit}(ht:okT c.ty/\c.ty.nsz<=20000)(hb:okT c.bo/\c.bo.nsz<=20000)(h0:0<=f)(h1:f<=19998)(h:bodyR l c f= .ok (u,g)):0<=g/\g<=f:=by
 unfold bodyR at h;split at h
 ·cases hs:checkT l c.lv [] c.bo c.ty f with
  | ok v =>
   rw[hs]at h;obtain⟨x,q⟩:=v;cases h;have hs2:=hs;unfold checkT at hs2;obtain⟨h2, -,h4⟩:=Qtq hs2;obtain⟨i,q,h5,h6⟩:=Rs.next_some h2;cases h6;obtain⟨-,bJ⟩:=Qjb (n:=c.lv) hk (hgt f);have k1:Sub c.lv (l.map C.lv) [] c.ty:=⟨(Qb9.1 (h4 1 (by simp))).2.2,ht.1,ht.2⟩;obtain⟨a,b⟩:=bJ _ _ _ _ _ _ h0 (by omega) ⟨(Qb9.1 (h4 0 (by simp))).2.2,hb.1,hb.2⟩ ⟨fun x hx=>by simp at hx,by simp;omega⟩ (k1.okY (by omega)) h5;exact⟨a,by omega⟩
  | error e =>
   rw[hs]at h;dsimp only at h;split at h
   ·cases h;omega
   ·cases h
 ·cases h;omega
theorem Qao{d:D}(h:d.pure=true):(∀p,D.okN p d=true)/\∀σ,D.ren σ d=d:=⟨fun p=>D.okN_pure p d h,fun σ=>D.ren_pure σ d h⟩
theorem Qyl{c:C}{f g:Int}{u:Unit}(h0:0<=f)(h:Qb6 c f= .ok (u,g)):0<=g/\g<=f:=by
 unfold Qb6 at h;split at h
 ·cases h;omega
 ·cases h
theorem rest0(l:List C)(c:C)(f:Int):restR l c 0 f=(Qb6 c f).next fun _ f=>restR l c 1 f:=rfl
theorem rest1(l:List C)(c:C)(f:Int):restR l c 1 f=(typR l c f).next fun _ f=>restR l c 2 f:=rfl
theorem Qmm{l:List C}{k:Nat}{f:Int}(hk:k<l.length):rowR l (l.length - k) k f=match declR (l.take k) (l.getD k Qhn) f with
  | .ok (_,g)=>rowR l (l.length - (k+1)) (k+1) g
  | .error e=> .error (k,e):=by
 rw[show l.length - k=(l.length - (k+1))+1 by omega];rfl
theorem Wc4{l:List C}{f:Int}:rowR l (l.length - l.length) l.length f= .ok f:=by rw[Nat.sub_self];rfl
theorem Qny{l env:List C}{c:C}{k:Nat}{g e:Int}(hk:k<l.length)(hc:l.getD k Qhn=c)(he:l.take k=env)(h:declR env c g= .error e):rowR l (l.length - k) k g= .error (k,e):=by
 rw[Qmm hk,hc,he,h]
theorem Qyn{l env:List C}{c:C}{k:Nat}{g g1:Int}{u:Unit}(hk:k<l.length)(hc:l.getD k Qhn=c)(he:l.take k=env)(h:declR env c g= .ok (u,g1)):rowR l (l.length - k) k g=rowR l (l.length - (k+1)) (k+1) g1:=by
 rw[Qmm hk,hc,he,h]
structure RowOk (l : List C) : Prop where
 len:l.length<=1000000
 ok:∀c,c∈l ->okC c/\c.ty.nsz<=14000/\c.bo.nsz<=14000
theorem RowOk.kc{l:List C}(h:RowOk l)(k:Nat):Kc (l.take k) :=
 ⟨⟨by rw[List.length_take];have:=h.len;unfold Ql;omega,fun c hc=>(h.ok c (List.mem_of_mem_take hc)).1,fun c hc=>by have:=(h.ok c (List.mem_of_mem_take hc)).2.2;omega,fun c hc=>by have:=(h.ok c (List.mem_of_mem_take hc)).2.1;omega⟩,fun c hc=>(h.ok c (List.mem_of_mem_take hc)).2.1⟩
theorem Qm6{l:List C}(hl:RowOk l){a:Nat}(ha:a<=l.length){f:Int}(hf:f<=19998\/1073741824<f)(e0 e1 e2 e3 e4 e5 e6 e7 e8 e9 e10 e11 e12:D)(he:D.pures [e0,e1,e2,e3,e4,e5,e6,e7,e8,e9,e10,e11,e12]=true) :
  Sp 59 [.box 0 0, .int .i64 a,Cs l] [.cells 105 [.int .i64 f,e0,e1,e2,e3,e4,e5,e6,e7,e8,e9,e10,e11,e12]] (AP l.length (rowsR l a f)):=by
 generalize hX:rowsR l a f=X;unfold rowsR at hX;unfold Cs;have hlen:=hl.len;by_cases hf0:0<=f
 rotate_left
 ·rw[if_neg (by omega)]at hX;subst hX;unfold AP;have hfl:f<0:=by omega
  refine eD Tryz.func59 rfl (by decide) rfl rfl ?_;(refine sI fun K Z=>?_;(repeat rw[Qa];simp);refine Z ?_;clear Z K);(refine sI fun K Z=>?_;(repeat rw[Qa];simp);refine Z ?_;clear Z K);refine Qc fun K1 hK1=>?_
  (refine sI fun K Z=>?_;(repeat rw[Qa];simp[hf0,hfl]);refine Z ?_;clear Z K);refine pT rfl ?_;(refine sI fun K Z=>?_;(repeat rw[Qa];simp);refine Z ?_;clear Z K);refine Qe ?_;refine Qfn.objs Qf [1] (Wbk 2) ?_ ?_ (fun d h=>by cases h) (by decide) (by simp) (by simp[zA]) (by simp[zA]) (by simp[zA]) (by simp[zA])
  ·rintro hc rfl;simp[zA,upO,Qw,Wi];refine Qez.intro rfl (.inr ⟨[],by decide,by simp,?_⟩);simp[zM]
   try simp[Out.fgt,D.fgt,D.fgts]
  ·rintro hc rfl;simp
 by_cases hf1:f<=1073741824
 rotate_left
 ·rw[if_neg (by omega)]at hX;subst hX;unfold AP;have hfl:¬ f<0:=by omega
  have hfm:1073741824<f:=by omega
  refine eD Tryz.func59 rfl (by decide) rfl rfl ?_;(refine sI fun K Z=>?_;(repeat rw[Qa];simp);refine Z ?_;clear Z K);(refine sI fun K Z=>?_;(repeat rw[Qa];simp);refine Z ?_;clear Z K);refine Qc fun K1 hK1=>?_
  (refine sI fun K Z=>?_;(repeat rw[Qa];simp[hfl,hfm,hf1]);refine Z ?_;clear Z K);refine pT rfl ?_;(refine sI fun K Z=>?_;(repeat rw[Qa];simp);refine Z ?_;clear Z K);refine Qe ?_;refine Qfn.objs Qf [1] (Wbk 2) ?_ ?_ (fun d h=>by cases h) (by decide) (by simp) (by simp[zA]) (by simp[zA]) (by simp[zA]) (by simp[zA])
  ·rintro hc rfl;simp[zA,upO,Qw,Wi];refine Qez.intro rfl (.inr ⟨[],by decide,by simp,?_⟩);simp[zM]
   try simp[Out.fgt,D.fgt,D.fgts]
  ·rintro hc rfl;simp
 rw[if_pos ⟨hf0,hf1⟩]at hX;have hf2:f<=19998:=by omega
 have hfl:¬ f<0:=by omega
 have hfm:¬ 1073741824<f:=by omega
 refine eD Tryz.func59 rfl (by decide) rfl rfl ?_;(refine sI fun K Z=>?_;(repeat rw[Qa];simp);refine Z ?_;clear Z K);(refine sI fun K Z=>?_;(repeat rw[Qa];simp);refine Z ?_;clear Z K);refine Qc fun K1 hK1=>?_
 (refine sI fun K Z=>?_;(repeat rw[Qa];simp[hfl,hfm]);refine Z ?_;clear Z K);refine pF rfl ?_;refine Qg (hK1 _ _ _ ?_);clear hK1 K1;refine Qc fun K1 hK1=>?_
 (refine sI fun K Z=>?_;(repeat rw[Qa];simp);refine Z ?_;clear Z K);refine Wd ?_;refine Qbb [9,26,27,28,29,30,31,32,33,34,35,36,37,38,39,40,41,42,43,44,45,46,47,48,49,50,51,52,53,54,55,56,57,58,59] [6] (fun n ys hl=>∃(k:Nat) (g:Int) (e0 e1 e2 e3 e4 e5 e6 e7 e8 e9 e10 e11 e12:D),ys= [.int .i64 k]/\n+k=l.length/\0<=g/\g<=f/\rowR l (l.length - k) k g=X/\D.pures [e0,e1,e2,e3,e4,e5,e6,e7,e8,e9,e10,e11,e12]=true/\hl= [.cells 105 [.int .i64 g,e0,e1,e2,e3,e4,e5,e6,e7,e8,e9,e10,e11,e12], .cells 33 [.int .i64 0]]) (l.length - a) (by kernel_rfl) ?_ ?_
 ·exact⟨a,f,e0,e1,e2,e3,e4,e5,e6,e7,e8,e9,e10,e11,e12,rfl,by omega,hf0,by omega,hX,he,rfl⟩
 ·rintro n ys hl' A hA ⟨k,g,e0,e1,e2,e3,e4,e5,e6,e7,e8,e9,e10,e11,e12,rfl,hn,g0,g1,hF,hpp,rfl⟩;simp only[Qh,List.set,List.map_cons,List.map_nil,List.cons_append,List.nil_append];refine Qc fun K2 hK2=>?_
  by_cases hi:k<l.length
  rotate_left
  ·have hkl:k=l.length:=by omega
   rw[hkl,Wc4]at hF;subst hF;have hi':¬ (k:Int)<l.length:=by omega
   simp only[D.pures,Bool.and_eq_true]at hpp;obtain⟨w0,w1,w2,w3,w4,w5,w6,w7,w8,w9,w10,w11,w12, -⟩:=hpp;obtain⟨y0,z0⟩:=Qao w0;obtain⟨y1,z1⟩:=Qao w1;obtain⟨y2,z2⟩:=Qao w2;obtain⟨y3,z3⟩:=Qao w3;obtain⟨y4,z4⟩:=Qao w4;obtain⟨y5,z5⟩:=Qao w5;obtain⟨y6,z6⟩:=Qao w6;obtain⟨y7,z7⟩:=Qao w7;obtain⟨y8,z8⟩:=Qao w8;obtain⟨y9,z9⟩:=Qao w9;obtain⟨y10,z10⟩:=Qao w10;obtain⟨y11,z11⟩:=Qao w11;obtain⟨y12,z12⟩:=Qao w12;(refine sI fun K Z=>?_;(repeat rw[Qa];simp[hi,hi']);refine Z ?_;clear Z K);refine pF rfl ?_;refine Qad ?_;refine hK1 _ _ _ ?_;(refine sI fun K Z=>?_;(repeat rw[Qa];simp);refine Z ?_;clear Z K);refine Qe ?_;refine Qfn.objs Qf [1] (Wbk 0) ?_ ?_ (fun d h=>by cases h) (by decide) (by simp) (by simp[zA]) (by simp[zA]) (by simp[zA]) (by simp[zA])
   ·rintro hc rfl;simp[zA,upO,Qw,Wi];refine Qez.intro rfl (.inr ⟨[],by decide,by simp,?_⟩);simp[zM,y0,z0,y1,z1,y2,z2,y3,z3,y4,z4,y5,z5,y6,z6,y7,z7,y8,z8,y9,z9,y10,z10,y11,z11,y12,z12];exact⟨by simp[Out.fgt,D.fgt,D.fgts,hkl],_,rfl⟩
   ·rintro hc rfl;simp
  ·have hi':(k:Int)<l.length:=by omega
   (refine sI fun K Z=>?_;(repeat rw[Qa];simp[hi,hi']);refine Z ?_;clear Z K);refine pT rfl ?_;refine Qg (hK2 _ _ _ ?_);clear hK2 K2;obtain⟨c,hy⟩:∃c,l[k]=c:=⟨_,rfl⟩;obtain⟨env,henv⟩:∃env,l.take k=env:=⟨_,rfl⟩;have hcc:l.getD k Qhn=c:=by rw[List.getD_eq_getElem?_getD,List.getElem?_eq_getElem hi,hy];rfl
   have hco:=hl.ok c (by rw[<- hy];exact List.getElem_mem hi);have hkc:=hl.kc k;rw[henv]at hkc;have hEc:=Qax c;have hta:(l.map Qbj).take k=env.map Qbj:=by rw[<- henv,List.map_take]
   have hle:k<=l.length:=by omega
   have hle':(k:Int)<=l.length:=by omega
   have hk0:(0:Int)<=k:=by omega
   refine Qc fun K3 hK3=>?_
   refine Wd ?_;(refine Qc fun K hK=>?_;refine dR fun KT hKT=>?_;(repeat rw[Qd];simp[hi,hi',hy,hEc,hle,hle',hk0,hta]));(refine hKT _ _ _ _ (by kernel_rfl) ?_;clear hKT KT);(refine hK _ _ _ ?_;clear hK K);(refine sI fun K Z=>?_;(repeat rw[Qa];simp);refine Z ?_;clear Z K);have ht:okT c.ty/\c.ty.nsz<=20000:=⟨hco.1.2.1,by have:=hco.2.1;omega⟩;have hb:okT c.bo/\c.bo.nsz<=20000:=⟨hco.1.2.2,by have:=hco.2.2;omega⟩;refine Qdm Wa Qf (ti:=3) (tk:=53) (tn:=52) (td:=54) (ts:=59) [9,53,54,55,56,57,58,59] [] (3) (fun k ys hl=>∃(g2:Int),ys= []/\restR env c k g2=declR env c g/\0<=g2/\g2<=f/\hl= [.cells 105 [.int .i64 g2, .slice (env.map Qbj) .any, .int .i64 c.lv, .int .i64 c.ty.k, .int .i64 c.ty.n, .int .i64 c.ty.a, .slice (c.ty.ls.map Qn) .any, .slice (c.ty.ks.map Qj) .any, .bool c.has, .int .i64 c.bo.k, .int .i64 c.bo.n, .int .i64 c.bo.a, .slice (c.bo.ls.map Qn) .any, .slice (c.bo.ks.map Qj) .any], .cells 33 [.int .i64 0]]) rfl rfl rfl rfl rfl rfl rfl rfl rfl rfl rfl rfl (by simp) (by decide) rfl (by first | assumption | omega | (unfold Ql;omega)) rfl (by kernel_rfl) (by decide) ?_ ?_ ?_
   ·exact⟨g,rfl,rfl,g0,g1,rfl⟩
   ·rintro i ys hl' A hi3 ⟨g2,rfl,hgs,b0,b1,rfl⟩ hA hA2;simp only[Qh,List.set,List.map_cons,List.map_nil,List.cons_append,List.nil_append];have h3:i=0\/i=1\/i=2:=by omega
    rcases h3 with rfl | rfl | rfl
    ·obtain⟨r,hr⟩:∃r,Qb6 c g2=r:=⟨_,rfl⟩;have sp:=Qsp (l:=env) (f:=g2) hco.1;rw[hr]at sp;(refine sI fun K Z=>?_;(repeat rw[Qa];simp);refine Z ?_;clear Z K);rcases r with e | ⟨u,g3⟩
     ·have hd:declR env c g= .error e:=by rw[<- hgs];rw[rest0,hr];rfl
      have hq:=hF.symm.trans (Qny hi hcc henv hd);subst hq;unfold SP adO coF Wq at sp;(refine Qi Wa ?_;(repeat rw[Qa];simp));refine cXg [0] (sp) ?_;simp[zU];(try simp only[zs]);refine Qfn.objs Qf [1] (Wbl 0 e) ?_ ?_ (fun d h=>by cases h;rfl) (by decide) (by simp) (by simp[zA]) (by simp[zA]) (by simp[zA]) (by simp[zA])
      ·rintro hc rfl;simp[zA,upO,Qw,Wi];refine Qez.intro rfl (.inr ⟨[],by decide,by simp,?_⟩);simp[zM]
       try exact⟨by simp[Out.fgt,D.fgt,D.fgts],_,rfl⟩
      ·rintro hc rfl;simp
     ·have hgs1:restR env c 1 g3=declR env c g:=by rw[<- hgs];rw[rest0,hr];rfl
      obtain⟨c0,c1⟩:0<=g3/\g3<=g2:=Qyl b0 hr;unfold SP adO coF at sp;(refine Qi Wa ?_;(repeat rw[Qa];simp));refine cXf [0] (sp) ?_;simp[zU]
      (repeat rw[Qa];simp)
      (refine hA _ _ _ (LeT.refl _) (by kernel_rfl) ?_ rfl;simp only[Qb4,List.map_cons,List.map_nil])
      first | exact⟨g3,rfl,hgs1,c0,by omega,rfl⟩ | exact⟨g3,trivial,hgs1,c0,by omega,rfl⟩ | exact⟨g3,trivial,hgs1,c0,by omega,trivial⟩ | exact⟨g3,hgs1,c0,by omega,rfl⟩ | exact⟨g3,hgs1,c0,by omega⟩
    ·obtain⟨r,hr⟩:∃r,typR env c g2=r:=⟨_,rfl⟩;have sp:=Qz6 hkc (f:=g2) ht (by omega);rw[hr]at sp;(refine sI fun K Z=>?_;(repeat rw[Qa];simp);refine Z ?_;clear Z K);rcases r with e | ⟨u,g3⟩
     ·have hd:declR env c g= .error e:=by rw[<- hgs];rw[rest1,hr];rfl
      have hq:=hF.symm.trans (Qny hi hcc henv hd);subst hq;unfold SP adO coF Wq at sp;(refine Qi Wa ?_;(repeat rw[Qa];simp));refine cXg [0] (sp) ?_;simp[zU];(try simp only[zs]);refine Qfn.objs Qf [1] (Wbl 0 e) ?_ ?_ (fun d h=>by cases h;rfl) (by decide) (by simp) (by simp[zA]) (by simp[zA]) (by simp[zA]) (by simp[zA])
      ·rintro hc rfl;simp[zA,upO,Qw,Wi];refine Qez.intro rfl (.inr ⟨[],by decide,by simp,?_⟩);simp[zM]
       try exact⟨by simp[Out.fgt,D.fgt,D.fgts],_,rfl⟩
      ·rintro hc rfl;simp
     ·have hgs1:restR env c 2 g3=declR env c g:=by rw[<- hgs];rw[rest1,hr];rfl
      obtain⟨c0,c1⟩:0<=g3/\g3<=g2:=typR_le hkc ht b0 (by omega) hr;unfold SP adO coF at sp;(refine Qi Wa ?_;(repeat rw[Qa];simp));refine cXf [0] (sp) ?_;simp[zU]
      (repeat rw[Qa];simp)
      (refine hA _ _ _ (LeT.refl _) (by kernel_rfl) ?_ rfl;simp only[Qb4,List.map_cons,List.map_nil])
      first | exact⟨g3,rfl,hgs1,c0,by omega,rfl⟩ | exact⟨g3,trivial,hgs1,c0,by omega,rfl⟩ | exact⟨g3,trivial,hgs1,c0,by omega,trivial⟩ | exact⟨g3,hgs1,c0,by omega,rfl⟩ | exact⟨g3,hgs1,c0,by omega⟩
    ·obtain⟨r,hr⟩:∃r,bodyR env c g2=r:=⟨_,rfl⟩;have sp:=Qww hkc (f:=g2) ht hb (by omega);rw[hr]at sp;(refine sI fun K Z=>?_;(repeat rw[Qa];simp);refine Z ?_;clear Z K);rcases r with e | ⟨u,g3⟩
     ·have hd:declR env c g= .error e:=by rw[<- hgs];exact hr
      have hq:=hF.symm.trans (Qny hi hcc henv hd);subst hq;unfold SP adO coF Wq at sp;(refine Qi Wa ?_;(repeat rw[Qa];simp));refine cXg [0] (sp) ?_;simp[zU];(try simp only[zs]);refine Qfn.objs Qf [1] (Wbl 0 e) ?_ ?_ (fun d h=>by cases h;rfl) (by decide) (by simp) (by simp[zA]) (by simp[zA]) (by simp[zA]) (by simp[zA])
      ·rintro hc rfl;simp[zA,upO,Qw,Wi];refine Qez.intro rfl (.inr ⟨[],by decide,by simp,?_⟩);simp[zM]
       try exact⟨by simp[Out.fgt,D.fgt,D.fgts],_,rfl⟩
      ·rintro hc rfl;simp
     ·have hgs1:restR env c 3 g3=declR env c g:=by rw[<- hgs];exact hr.symm
      obtain⟨c0,c1⟩:0<=g3/\g3<=g2:=Wew hkc ht hb b0 (by omega) hr;unfold SP adO coF at sp;(refine Qi Wa ?_;(repeat rw[Qa];simp));refine cXf [0] (sp) ?_;simp[zU]
      (repeat rw[Qa];simp)
      (refine hA _ _ _ (LeT.refl _) (by kernel_rfl) ?_ rfl;simp only[Qb4,List.map_cons,List.map_nil])
      first | exact⟨g3,rfl,hgs1,c0,by omega,rfl⟩ | exact⟨g3,trivial,hgs1,c0,by omega,rfl⟩ | exact⟨g3,trivial,hgs1,c0,by omega,trivial⟩ | exact⟨g3,hgs1,c0,by omega,rfl⟩ | exact⟨g3,hgs1,c0,by omega⟩
   ·rintro ys hl' tl' ⟨g2,rfl,hgs,b0,b1,rfl⟩ htl;refine hK3 _ _ _ (Xo htl ?_);simp only[Qh,List.set,List.map_cons,List.map_nil,List.cons_append,List.nil_append];clear hK3 K3;have hd:declR env c g= .ok ((),g2):=by rw[<- hgs];rfl
    have hF2:=(Qyn hi hcc henv hd).symm.trans hF;have hw1:IntKind.i64.wrap ((k:Int)+1)=(k:Int)+1:=Qbu (by omega) (by omega);(refine Qi Wa ?_;(repeat rw[Qa];simp[hw1]));refine hA (n - 1) _ _ _ (LeT.refl _) (by omega) (by kernel_rfl) ?_;exact⟨k+1,g2,_,_,_,_,_,_,_,_,_,_,_,_,_,rfl,by omega,b0,b1,hF2,by simp[D.pures,D.pure,Cp.free,D.pures_map],rfl⟩
theorem Qle{l:List C}{c:C}{f e:Int}(h:declR l c f= .error e):¬ e=0:=by
 unfold declR at h;cases h1:Qb6 c f with
 | error e1 =>
  rw[h1]at h;cases h;unfold Qb6 at h1;split at h1
  ·cases h1
  ·cases h1;decide
 | ok v =>
  obtain⟨u,g⟩:=v;rw[h1,Rs.next_ok]at h;cases h2:typR l c g with
  | error e1 =>
   rw[h2]at h;cases h;unfold typR at h2;split at h2
   ·cases h2
   ·split at h2
    ·cases h2
    ·rename_i hne;cases h2;exact hne
  | ok v =>
   obtain⟨u,q⟩:=v;rw[h2,Rs.next_ok]at h;unfold bodyR at h;split at h
   ·split at h
    ·cases h
    ·split at h
     ·cases h
     ·rename_i hne;cases h;exact hne
   ·cases h
theorem Qnx{l:List C}:∀(m k:Nat) (f:Int) {j:Nat} {e:Int},rowR l m k f= .error (j,e) ->¬ e=0/\j<k+m
 | 0,k,f,j,e,h=>by cases h
 | m+1,k,f,j,e,h=>by
  rw[rowR]at h;split at h
  ·obtain⟨a,b⟩:=Qnx m (k+1) _ h;exact⟨a,by omega⟩
  ·rename_i h1;cases h;exact⟨Qle h1,by omega⟩
noncomputable def allD (l : List C) (f : Int) : D := match rowsR l 0 f with
 | .ok g=> .tuple [.int .i64 g, .int .i64 0, .int .i64 0]
 | .error (k,e)=>if 0<=f/\f<=1073741824 then .tuple [.int .i64 0, .int .i64 ((k:Int)+1), .int .i64 e] else .tuple [.int .i64 0, .int .i64 0, .int .i64 e]
theorem Qq9{l:List C}(hl:RowOk l){f:Int}(hf:f<=19998\/1073741824<f):Sp 22 [Cs l, .int .i64 f] [] (rt (allD l f)):=by
 have aq:=Qm6 hl (a:=0) (by omega) hf (.slice [] .full) (.int .i64 0) (.int .i64 0) (.int .i64 0) (.int .i64 0) (.slice [] .full) (.slice [] .full) (.bool false) (.int .i64 0) (.int .i64 0) (.int .i64 0) (.slice [] .full) (.slice [] .full) (by simp[D.pures,D.pure,Cp.free]);have hlen:=hl.len;unfold allD;unfold Cs at aq⊢;by_cases hok:0<=f/\f<=1073741824
 rotate_left
 ·have hr:rowsR l 0 f= .error (0,2):=by unfold rowsR;rw[if_neg hok]
  rw[hr]at aq⊢;dsimp only;rw[if_neg hok];unfold AP at aq;have hq:f<0\/(¬ f<0/\1073741824<f):=by omega
  rcases hq with q1 | ⟨q1,q2⟩
  ·refine eN Tryz.func22 rfl (by decide) rfl rfl ?_;(refine sI fun K Z=>?_;(repeat rw[Qa];simp);refine Z ?_;clear Z K);(refine sI fun K Z=>?_;(repeat rw[Qa];simp);refine Z ?_;clear Z K);(refine sR fun K hK=>?_;(repeat rw[Qa];simp));refine Wl.objs Qf [0] true (aq) ?_ (by rintro o hc ⟨_,x,rfl⟩;simp) (by decide) (by simp) (by simp[zA]) (by simp[zA]) (by simp[zA]) (by simp[zA]);(rintro o hc ⟨ho,x,rfl⟩;refine⟨true,?_⟩;rw[show told true o=_ from ho];clear ho;simp[zU]);(try simp only[zr]);(repeat rw[Qa];simp);(refine hK _ _ _ ?_;clear hK K);refine Qc fun K1 hK1=>?_
   refine Wd ?_;(refine sI fun K Z=>?_;(repeat rw[Qa];simp[q1]);refine Z ?_;clear Z K);refine pT rfl ?_;(refine sI fun K Z=>?_;(repeat rw[Qa];simp);refine Z ?_;clear Z K);(refine Qe ?_;(try simp only[zs]);refine Qk.ret rfl (.inl ?_);simp[zM])
  ·refine eN Tryz.func22 rfl (by decide) rfl rfl ?_;(refine sI fun K Z=>?_;(repeat rw[Qa];simp);refine Z ?_;clear Z K);(refine sI fun K Z=>?_;(repeat rw[Qa];simp);refine Z ?_;clear Z K);(refine sR fun K hK=>?_;(repeat rw[Qa];simp));refine Wl.objs Qf [0] true (aq) ?_ (by rintro o hc ⟨_,x,rfl⟩;simp) (by decide) (by simp) (by simp[zA]) (by simp[zA]) (by simp[zA]) (by simp[zA]);(rintro o hc ⟨ho,x,rfl⟩;refine⟨true,?_⟩;rw[show told true o=_ from ho];clear ho;simp[zU]);(try simp only[zr]);(repeat rw[Qa];simp);(refine hK _ _ _ ?_;clear hK K);refine Qc fun K1 hK1=>?_
   refine Wd ?_;(refine sI fun K Z=>?_;(repeat rw[Qa];simp[q1,q2]);refine Z ?_;clear Z K);refine pT rfl ?_;(refine sI fun K Z=>?_;(repeat rw[Qa];simp);refine Z ?_;clear Z K);(refine Qe ?_;(try simp only[zs]);refine Qk.ret rfl (.inl ?_);simp[zM])
 have h0:¬ f<0:=by omega
 have h1:¬ 1073741824<f:=by omega
 cases hr:rowsR l 0 f with
 | error v =>
  obtain⟨k,e⟩:=v;have hx:¬ e=0/\k<0+(l.length - 0):=by
   unfold rowsR at hr;rw[if_pos hok]at hr;exact Qnx _ _ _ hr
  obtain⟨he,hk⟩:=hx;rw[hr]at aq;dsimp only;rw[if_pos hok];unfold AP at aq;have hw1:IntKind.i64.wrap ((k:Int)+1)=(k:Int)+1:=Qbu (by omega) (by omega);refine eN Tryz.func22 rfl (by decide) rfl rfl ?_;(refine sI fun K Z=>?_;(repeat rw[Qa];simp);refine Z ?_;clear Z K);(refine sI fun K Z=>?_;(repeat rw[Qa];simp);refine Z ?_;clear Z K);(refine sR fun K hK=>?_;(repeat rw[Qa];simp));refine Wl.objs Qf [0] true (aq) ?_ (by rintro o hc ⟨_,x,rfl⟩;simp) (by decide) (by simp) (by simp[zA]) (by simp[zA]) (by simp[zA]) (by simp[zA]);(rintro o hc ⟨ho,x,rfl⟩;refine⟨true,?_⟩;rw[show told true o=_ from ho];clear ho;simp[zU]);(try simp only[zr]);(repeat rw[Qa];simp);(refine hK _ _ _ ?_;clear hK K);refine Qc fun K1 hK1=>?_
  refine Wd ?_;(refine sI fun K Z=>?_;(repeat rw[Qa];simp[h0,h1]);refine Z ?_;clear Z K);refine pF rfl ?_;(refine sI fun K Z=>?_;(repeat rw[Qa];simp[he]);refine Z ?_;clear Z K);refine pT rfl ?_;(refine sI fun K Z=>?_;(repeat rw[Qa];simp[hw1]);refine Z ?_;clear Z K);(refine Qe ?_;(try simp only[zs]);refine Qk.ret rfl (.inl ?_);simp[zM])
 | ok g =>
  rw[hr]at aq;dsimp only;unfold AP at aq;refine eN Tryz.func22 rfl (by decide) rfl rfl ?_;(refine sI fun K Z=>?_;(repeat rw[Qa];simp);refine Z ?_;clear Z K);(refine sI fun K Z=>?_;(repeat rw[Qa];simp);refine Z ?_;clear Z K);(refine sR fun K hK=>?_;(repeat rw[Qa];simp));refine Wl.objs Qf [0] true (aq) ?_ (by rintro o hc ⟨_,x,rfl⟩;simp) (by decide) (by simp) (by simp[zA]) (by simp[zA]) (by simp[zA]) (by simp[zA]);(rintro o hc ⟨ho,x,rfl⟩;refine⟨true,?_⟩;rw[show told true o=_ from ho];clear ho;simp[zU]);(try simp only[zr]);(repeat rw[Qa];simp);(refine hK _ _ _ ?_;clear hK K);refine Qc fun K1 hK1=>?_
  refine Wd ?_;(refine sI fun K Z=>?_;(repeat rw[Qa];simp[h0,h1]);refine Z ?_;clear Z K);refine pF rfl ?_;(refine sI fun K Z=>?_;(repeat rw[Qa];simp);refine Z ?_;clear Z K);refine pF rfl ?_;refine Qg (hK1 _ _ _ ?_);(refine sI fun K Z=>?_;(repeat rw[Qa];simp);refine Z ?_;clear Z K);(refine Qe ?_;(try simp only[zs]);refine Qk.ret rfl (.inl ?_);simp[zM])
def OwnF(sz:Nat)(els:List D)(o:Out)(hc:List HO):Prop:=(els= []/\((o= .ret (.slice [] .full)/\hc= [])\/(o= .ret (.slice [] (.tok 0))/\hc= [.tok])))\/(els≠ []/\o= .ret (.own 0 els.length)/\hc= [.row sz els])
theorem Spec.tokO{P:Program}{G:Nat ->Option D}{f:FuncId}{args:List D}{hc:List HO}{Post Post':Out ->List HO ->Prop}(h:Spec P G f args hc Post)
  (hp:∀o h',Post o h' ->Post' o h'\/∃d,o= .ret d/\Post' (.ret (d.tokd h'.length)) (h'++ [.tok])):Spec P G f args hc Post':=by
 intro ρ w vs hR hvs;obtain⟨h1,h2⟩:=h ρ w vs hR hvs;refine⟨h1,h2.mono ?_⟩;rintro e w' ⟨ρ',o,h',hpo,ho,g1,g2⟩;rcases hp o h' hpo with hq | ⟨d,rfl,hq⟩
 ·exact⟨ρ',o,h',hq,ho,g1,g2⟩
 ·obtain⟨u,rfl,hu⟩:=ho;have hf:hOf h' h'.length= .free:=by unfold hOf;rw[List.getD_eq_getElem?_getD,List.getElem?_eq_none (Nat.le_refl _)];rfl
  have e:hOf (h'++ [.tok])=Qbm (hOf h') h'.length .tok:=by
   rw[<- Qom];simp[Wi]
  obtain⟨r1,r2⟩:=Ex.name g1 hf;rw[<- e]at r1 r2;exact⟨ρ',_,_,hq,⟨u,rfl,Qtd hu⟩,r1,g2.trans r2⟩
theorem Qb2(p:Nat ->Bool):∀l:List C,D.okNs p ((l.map Qbj).flatMap D.cells)=true
 | []=>rfl
 | c::r=>by rw[List.map_cons,List.flatMap_cons,Qub,Qb2 p r,Qgs];simp[D.okNs,D.okN,Cp.okN]
theorem Qa9(σ:Nat ->Nat):D.ren σ∘Qbj=Qbj:=funext fun c=>D.ren_pure σ _ (Qdz c)
theorem Qhh(l:List C)(hl:l.length<=Ql):Sp 60 [Cs l] [] (OwnF 12 (l.map Qbj)):=by
 unfold Cs;refine eN Tryz.func60 rfl (by decide) rfl rfl ?_;(refine sI fun K Z=>?_;(repeat rw[Qa];simp);refine Z ?_;clear Z K);refine Qc fun K1 hK1=>?_
 cases l with
 | nil =>
  (refine sR fun K hK=>?_;(repeat rw[Qa];simp));refine⟨hK _ _ _ ?_,hK _ _ _ ?_⟩
  ·refine pF rfl ?_;refine Qg (hK1 _ _ _ ?_);(refine sI fun K Z=>?_;(repeat rw[Qa];simp);refine Z ?_;clear Z K);(refine Qe ?_;(try simp only[zs]);refine Qk.ret rfl (.inr ⟨[0],by decide,by simp,?_⟩);simp[zM]);exact .inl ⟨rfl, .inr ⟨rfl,rfl⟩⟩
  ·refine pT rfl ?_;(refine sI fun K Z=>?_;(repeat rw[Qa];simp);refine Z ?_;clear Z K);(refine Qe ?_;(try simp only[zs]);refine Qk.ret rfl (.inr ⟨[],by decide,by simp,?_⟩);simp[zM]);exact .inl ⟨rfl, .inl ⟨rfl,rfl⟩⟩
 | cons p r =>
  have hr:r.length+1<=Ql:=by simpa using hl
  have hE:=Qax p;(refine sI fun K Z=>?_;(repeat rw[Qa];simp);refine Z ?_;clear Z K);refine pF rfl ?_;refine Qg (hK1 _ _ _ ?_);refine Qc fun K hK=>?_
  refine Qj6 Wa 1 5 12 ?_;simp only[List.take_succ_cons,List.take_zero,List.drop_succ_cons,List.drop_zero];(try simp only[zr]);(repeat rw[Qa];simp[-Qx]);(try simp only[zs]);simp[D.ownd];(try simp only[zr]);(repeat rw[Qa];simp[hr]);(refine hK _ _ _ ?_;clear hK K);(refine Qe ?_;(try simp only[zs]);refine Qk.ret rfl (.inr ⟨[1],by decide,by simp,?_⟩);simp[zM]);exact .inr ⟨by simp,by simp,by rw[if_pos (Qb2 _ _),Qa9]⟩
theorem Qlj:Sp 60 [Cs []] [] (fun o hc=>o= .ret (.slice [] (.tok 0))/\hc= [.tok]):=by
 refine(Qhh [] (by unfold Ql;simp)).tokO ?_;rintro o hc (⟨-,⟨rfl,rfl⟩ | ⟨rfl,rfl⟩⟩ | ⟨h, -, -⟩)
 ·exact .inr ⟨_,rfl,rfl,rfl⟩
 ·exact .inl ⟨rfl,rfl⟩
 ·exact absurd rfl h
theorem Qli{l:List C}(hl:l.length<=Ql)(h0:l≠ []):Sp 60 [Cs l] [] (fun o hc=>o= .ret (.own 0 l.length)/\hc= [.row 12 (l.map Qbj)]):=by
 refine(Qhh l hl).tokO ?_;rintro o hc (⟨h, -⟩ | ⟨-,rfl,rfl⟩)
 ·exact absurd (List.map_eq_nil_iff.1 h) h0
 ·exact .inl ⟨by simp,rfl⟩
theorem Qsz{l:List C}(hl:RowOk l):Sp 61 [Cs l] [] (rt (Cs l)):=by
 have hlen:=hl.len;have L1:l.length<=Ql:=by unfold Ql;omega
 have cl:=Qhh l L1;unfold Cs at cl⊢;refine eN Tryz.func61 rfl (by decide) rfl rfl ?_;(refine sI fun K Z=>?_;(repeat rw[Qa];simp);refine Z ?_;clear Z K);(refine sR fun K hK=>?_;(repeat rw[Qa];simp));refine Wl.objs Qf [] true cl ?_ (by rintro o hc _;simp) (by decide) (by simp) (by simp[zA]) (by simp[zA]) (by simp[zA]) (by simp[zA]);rintro o hc (⟨hn,⟨rfl,rfl⟩ | ⟨rfl,rfl⟩⟩ | ⟨-,rfl,rfl⟩)
 ·refine⟨false,?_⟩;simp[zU]
  (repeat rw[Qa];simp)
  (refine hK _ _ _ ?_;clear hK K);have hl0:l= []:=List.map_eq_nil_iff.1 hn;subst hl0;refine Qc fun K1 hK1=>?_
  (refine sI fun K Z=>?_;(repeat rw[Qa];simp);refine Z ?_;clear Z K);refine Xm Wa Qf (ti:=3) (tk:=8) (tn:=7) (td:=9) (ts:=31) [3,8,9,10,11,12,13,14,15,16,17,18,19,20,21,22,23,24,25,26,27,28,29,30,31] [] (0) (fun k ys hl=>ys= []/\hl= []) rfl rfl rfl rfl rfl rfl rfl rfl rfl rfl rfl rfl (by simp) (by decide) rfl (by first | assumption | omega | (unfold Ql;omega)) rfl (by kernel_rfl) (by decide) ?_ ?_ ?_
  ·exact⟨rfl,rfl⟩
  ·rintro i ys hl' A hi ⟨rfl,rfl⟩ hA hA2;omega
  ·rintro ys hl' tl' ⟨rfl,rfl⟩ htl;refine hK1 _ _ _ (Xo htl ?_);simp only[Qh,List.set,List.map_cons,List.map_nil,List.cons_append,List.nil_append];clear hK1 K1;(refine sI fun K Z=>?_;(repeat rw[Qa];simp);refine Z ?_;clear Z K);(refine Qe ?_;(try simp only[zs]);refine Qk.ret rfl (.inl ?_);simp[zM])
 ·refine⟨false,?_⟩;simp[zU]
  (repeat rw[Qa];simp)
  (refine hK _ _ _ ?_;clear hK K);have hl0:l= []:=List.map_eq_nil_iff.1 hn;subst hl0;refine Qc fun K1 hK1=>?_
  (refine sI fun K Z=>?_;(repeat rw[Qa];simp);refine Z ?_;clear Z K);refine Xm Wa Qf (ti:=3) (tk:=8) (tn:=7) (td:=9) (ts:=31) [3,8,9,10,11,12,13,14,15,16,17,18,19,20,21,22,23,24,25,26,27,28,29,30,31] [] (0) (fun k ys hl=>ys= []/\hl= [.tok]) rfl rfl rfl rfl rfl rfl rfl rfl rfl rfl rfl rfl (by simp) (by decide) rfl (by first | assumption | omega | (unfold Ql;omega)) rfl (by kernel_rfl) (by decide) ?_ ?_ ?_
  ·exact⟨rfl,rfl⟩
  ·rintro i ys hl' A hi ⟨rfl,rfl⟩ hA hA2;omega
  ·rintro ys hl' tl' ⟨rfl,rfl⟩ htl;refine hK1 _ _ _ (Xo htl ?_);simp only[Qh,List.set,List.map_cons,List.map_nil,List.cons_append,List.nil_append];clear hK1 K1;(refine sI fun K Z=>?_;(repeat rw[Qa];simp);refine Z ?_;clear Z K);(refine Qe ?_;(try simp only[zs]);refine Qk.ret rfl (.inl ?_);simp[zM])
 ·refine⟨false,?_⟩;simp[zU]
  (repeat rw[Qa];simp)
  (refine hK _ _ _ ?_;clear hK K);simp only[Qa9];refine Qc fun K1 hK1=>?_
  (refine sI fun K Z=>?_;(repeat rw[Qa];simp);refine Z ?_;clear Z K);refine Xm Wa Qf (ti:=3) (tk:=8) (tn:=7) (td:=9) (ts:=31) [3,8,9,10,11,12,13,14,15,16,17,18,19,20,21,22,23,24,25,26,27,28,29,30,31] [] (l.length) (fun k ys hl=>ys= []/\hl= [.row 12 (l.map Qbj)]) rfl rfl rfl rfl rfl rfl rfl rfl rfl rfl rfl rfl (by simp) (by decide) rfl (by first | assumption | omega | (unfold Ql;omega)) rfl (by kernel_rfl) (by decide) ?_ ?_ ?_
  ·exact⟨rfl,rfl⟩
  ·rintro i ys hl' A hi ⟨rfl,rfl⟩ hA hA2;simp only[Qh,List.set,List.map_cons,List.map_nil,List.cons_append,List.nil_append];have hi':(i:Int)<l.length:=by omega
   obtain⟨c,hy⟩:∃c,l[i]=c:=⟨_,rfl⟩;have hco:=hl.ok c (by rw[<- hy];exact List.getElem_mem hi);have hEc:=Qax c;have dt:c.ty.deep<=DM:=by have:=c.ty.deep_nsz;have:=hco.2.1;unfold DM;omega
   have db:c.bo.deep<=DM:=by have:=c.bo.deep_nsz;have:=hco.2.2;unfold DM;omega
   have lt:=Qby c.ty 0 0 dt hco.1.2.1;have lb:=Qby c.bo 0 0 db hco.1.2.2;rw[Qku hco.1.2.1 0,Qb c.ty]at lt;rw[Qku hco.1.2.2 0,Qb c.bo]at lb;have hset:(l.map Qbj).set i (Qbj c)=l.map Qbj:=by
    apply List.ext_getElem?;intro j;rw[List.getElem?_set];split
    ·rename_i h;subst h;simp[hi,hy]
    ·rfl
   rw[hEc]at hset;(refine sI fun K Z=>?_;(repeat rw[Qa];simp[hi,hi',hy,hEc]);refine Z ?_;clear Z K);(refine dR fun KT hKT=>?_;(repeat rw[Qd];simp[hi,hi',hy,hEc]));refine cYp (lt) ?_;(try simp only[zq]);(repeat rw[Qd];simp[hi,hi',hy,hEc]);refine cYp (lb) ?_;(try simp only[zq]);(repeat rw[Qd];simp[hi,hi',hy,hEc,reD]);(refine hKT _ _ _ _ (by kernel_rfl) ?_;clear hKT KT);(refine hA _ _ _ (LeT.refl _) (by kernel_rfl) ?_ rfl;simp only[Qb4,List.map_cons,List.map_nil]);exact⟨trivial,by rw[hset]⟩
  ·rintro ys hl' tl' ⟨rfl,rfl⟩ htl;refine hK1 _ _ _ (Xo htl ?_);simp only[Qh,List.set,List.map_cons,List.map_nil,List.cons_append,List.nil_append];clear hK1 K1;(refine sI fun K Z=>?_;(repeat rw[Qa];simp);refine Z ?_;clear Z K);(refine Qei 0 rfl ?_;simp[D.frzs,D.frz,HO.frz,Qam,FK.isB,FK.isM,FK.isO,D.isLen]);(refine Qe ?_;(try simp only[zs]);refine Qk.ret rfl (.inl ?_);simp[zM])
theorem Qpn{l:List C}{k:Nat}{f:Int}{j:Nat}{e:Int}(h:rowsR l k f= .error (j,e)):¬ e=0:=by
 unfold rowsR at h;split at h
 ·exact(Qnx _ _ _ h).1
 ·cases h;decide
noncomputable def addD (l : List C) (c : C) (f : Int) : D := match rowsR (l ++ [c]) l.length f with
 | .ok g=> .tuple [Cs (l++ [c]), .int .i64 g, .int .i64 0]
 | .error (_,e)=> .tuple [.slice [] .any, .int .i64 0, .int .i64 e]
theorem Qim{l:List C}{c:C}(hl:RowOk (l++ [c])){f:Int}(hf:f<=19998\/1073741824<f):Sp 23 [Cs l,Qbj c, .int .i64 f] [] (rt (addD l c f)):=by
 have hlen:=hl.len;rw[List.length_append,List.length_singleton]at hlen;have L1:l.length<=Ql:=by unfold Ql;omega
 have L2:l.length+1<=Ql:=by unfold Ql;omega
 have aq:=Qm6 hl (a:=l.length) (by simp) hf (.slice [] .full) (.int .i64 0) (.int .i64 0) (.int .i64 0) (.int .i64 0) (.slice [] .full) (.slice [] .full) (.bool false) (.int .i64 0) (.int .i64 0) (.int .i64 0) (.slice [] .full) (.slice [] .full) (by simp[D.pures,D.pure,Cp.free]);have cp:=Qsz hl;have hEc:=Qax c;unfold addD;cases hr:rowsR (l++ [c]) l.length f with
 | ok g =>
  rw[hr]at aq;unfold AP at aq;dsimp only;by_cases h0:l= []
  ·subst h0;have cl:=Qlj;unfold Cs at cl aq cp⊢;simp only[List.nil_append,List.map_cons,List.map_nil,List.length_nil,List.length_singleton]at cl aq cp⊢;rw[hEc]at aq cp⊢;refine eN Tryz.func23 rfl (by decide) rfl rfl ?_;(refine sI fun K Z=>?_;(repeat rw[Qa];simp);refine Z ?_;clear Z K);(refine sI fun K Z=>?_;(repeat rw[Qa];simp);refine Z ?_;clear Z K);(refine Qc fun K hK=>?_;refine dR fun KT hKT=>?_;(repeat rw[Qd];simp));refine cYo [] true false (cl) (fun o h e=>e) ?_;simp[zU];(try simp only[zq]);(repeat rw[Qd];simp);(refine hKT _ _ _ _ (by kernel_rfl) ?_;clear hKT KT);(refine hK _ _ _ ?_;clear hK K);refine Qc fun K1 hK1=>?_
   (refine sR fun K hK=>?_;(repeat rw[Qa];simp));refine Wl.objs Qf [1] true (aq) ?_ (by rintro o hc ⟨_,x,rfl⟩;simp) (by decide) (by simp) (by simp[zA]) (by simp[zA]) (by simp[zA]) (by simp[zA]);(rintro o hc ⟨ho,x,rfl⟩;refine⟨true,?_⟩;rw[show told true o=_ from ho];clear ho;simp[zU]);(try simp only[zr]);(repeat rw[Qa];simp);(refine hK _ _ _ ?_;clear hK K);(refine sI fun K Z=>?_;(repeat rw[Qa];simp);refine Z ?_;clear Z K);refine pF rfl ?_;refine Qg (hK1 _ _ _ ?_);clear hK1 K1;(refine Qc fun K hK=>?_;refine dR fun KT hKT=>?_;(repeat rw[Qd];simp));refine Xp.pureD Qf (cp) ?_ (by simp[D.deeps,D.deep,D.fgts,D.fgt]) (by simp[D.pures,D.pure,Cp.free,D.pures_map]) (by simp[Out.pure,D.pure,D.pures,Cp.free,D.pures_map]);(try simp only[zq]);(repeat rw[Qd];simp);(refine hKT _ _ _ _ (by kernel_rfl) ?_;clear hKT KT);(refine hK _ _ _ ?_;clear hK K);(refine Qe ?_;(try simp only[zs]);refine Qk.ret rfl (.inl ?_);simp[zM])
  ·have cl:=Qli L1 h0;unfold Cs at cl aq cp⊢;rw[List.map_append,List.map_cons,List.map_nil]at aq cp⊢;have hpu:D.pures ((l++ [c]).map Qbj)=true:=by rw[D.pures_map];simp[Qdz]
   have hde:D.deeps ((l++ [c]).map Qbj)=(l++ [c]).map Qbj:=Qzi _;rw[List.map_append,List.map_cons,List.map_nil,hEc]at hpu hde;rw[hEc]at aq cp⊢;refine eN Tryz.func23 rfl (by decide) rfl rfl ?_;(refine sI fun K Z=>?_;(repeat rw[Qa];simp);refine Z ?_;clear Z K);(refine sI fun K Z=>?_;(repeat rw[Qa];simp);refine Z ?_;clear Z K);(refine Qc fun K hK=>?_;refine dR fun KT hKT=>?_;(repeat rw[Qd];simp));refine Xp.objs Qf [] true false (cl) (fun o h e=>e) ?_ (by simp) (by decide) (by simp) (by simp[zA,Qa9,Qb2]) (by simp[zA,Qa9,Qb2]) (by simp[zA,Qa9,Qb2]) (by simp[zA,Qa9,Qb2]);simp[zU,Qa9,Qb2];(try simp only[zq]);(repeat rw[Qd];simp[L2]);(refine hKT _ _ _ _ (by kernel_rfl) ?_;clear hKT KT);(refine hK _ _ _ ?_;clear hK K);(refine Qei 3 rfl ?_;simp[D.frzs,D.frz,HO.frz,Qam,FK.isB,FK.isM,FK.isO,D.isLen]);refine Qc fun K1 hK1=>?_
   (refine sR fun K hK=>?_;(repeat rw[Qa];simp));refine Wl.objs Qf [1] true (aq) ?_ (by rintro o hc ⟨_,x,rfl⟩;simp) (by decide) (by simp) (by simp[zA]) (by simp[zA]) (by simp[zA]) (by simp[zA]);(rintro o hc ⟨ho,x,rfl⟩;refine⟨true,?_⟩;rw[show told true o=_ from ho];clear ho;simp[zU]);(try simp only[zr]);(repeat rw[Qa];simp);(refine hK _ _ _ ?_;clear hK K);(refine sI fun K Z=>?_;(repeat rw[Qa];simp);refine Z ?_;clear Z K);refine pF rfl ?_;refine Qg (hK1 _ _ _ ?_);clear hK1 K1;(refine Qc fun K hK=>?_;refine dR fun KT hKT=>?_;(repeat rw[Qd];simp));refine Xp.pureD Qf (cp) ?_ (by simp[D.deeps,D.deep,D.fgts,D.fgt,hpu,hde]) (by simp[D.pures,D.pure,Cp.free,D.pures_map,hpu,hde]) (by simp[Out.pure,D.pure,D.pures,Cp.free,D.pures_map,hpu,hde]);(try simp only[zq]);(repeat rw[Qd];simp);(refine hKT _ _ _ _ (by kernel_rfl) ?_;clear hKT KT);(refine hK _ _ _ ?_;clear hK K);(refine Qe ?_;(try simp only[zs]);refine Qk.ret rfl (.inl ?_);simp[zM])
 | error v =>
  obtain⟨k,e⟩:=v;have he:=Qpn hr;rw[hr]at aq;unfold AP at aq;dsimp only;by_cases h0:l= []
  ·subst h0;have cl:=Qlj;unfold Cs at cl aq cp⊢;simp only[List.nil_append,List.map_cons,List.map_nil,List.length_nil,List.length_singleton]at cl aq cp⊢;rw[hEc]at aq cp⊢;refine eN Tryz.func23 rfl (by decide) rfl rfl ?_;(refine sI fun K Z=>?_;(repeat rw[Qa];simp);refine Z ?_;clear Z K);(refine sI fun K Z=>?_;(repeat rw[Qa];simp);refine Z ?_;clear Z K);(refine Qc fun K hK=>?_;refine dR fun KT hKT=>?_;(repeat rw[Qd];simp));refine cYo [] true false (cl) (fun o h e=>e) ?_;simp[zU];(try simp only[zq]);(repeat rw[Qd];simp);(refine hKT _ _ _ _ (by kernel_rfl) ?_;clear hKT KT);(refine hK _ _ _ ?_;clear hK K);refine Qc fun K1 hK1=>?_
   (refine sR fun K hK=>?_;(repeat rw[Qa];simp));refine Wl.objs Qf [1] true (aq) ?_ (by rintro o hc ⟨_,x,rfl⟩;simp) (by decide) (by simp) (by simp[zA]) (by simp[zA]) (by simp[zA]) (by simp[zA]);(rintro o hc ⟨ho,x,rfl⟩;refine⟨true,?_⟩;rw[show told true o=_ from ho];clear ho;simp[zU]);(try simp only[zr]);(repeat rw[Qa];simp);(refine hK _ _ _ ?_;clear hK K);(refine sI fun K Z=>?_;(repeat rw[Qa];simp[he]);refine Z ?_;clear Z K);refine pT rfl ?_;(refine sI fun K Z=>?_;(repeat rw[Qa];simp);refine Z ?_;clear Z K);(refine Qe ?_;(try simp only[zs]);refine Qk.ret rfl (.inl ?_);simp[zM])
  ·have cl:=Qli L1 h0;unfold Cs at cl aq cp⊢;rw[List.map_append,List.map_cons,List.map_nil]at aq cp;rw[hEc]at aq cp⊢;refine eN Tryz.func23 rfl (by decide) rfl rfl ?_;(refine sI fun K Z=>?_;(repeat rw[Qa];simp);refine Z ?_;clear Z K);(refine sI fun K Z=>?_;(repeat rw[Qa];simp);refine Z ?_;clear Z K);(refine Qc fun K hK=>?_;refine dR fun KT hKT=>?_;(repeat rw[Qd];simp));refine Xp.objs Qf [] true false (cl) (fun o h e=>e) ?_ (by simp) (by decide) (by simp) (by simp[zA,Qa9,Qb2]) (by simp[zA,Qa9,Qb2]) (by simp[zA,Qa9,Qb2]) (by simp[zA,Qa9,Qb2]);simp[zU,Qa9,Qb2];(try simp only[zq]);(repeat rw[Qd];simp[L2]);(refine hKT _ _ _ _ (by kernel_rfl) ?_;clear hKT KT);(refine hK _ _ _ ?_;clear hK K);(refine Qei 3 rfl ?_;simp[D.frzs,D.frz,HO.frz,Qam,FK.isB,FK.isM,FK.isO,D.isLen]);refine Qc fun K1 hK1=>?_
   (refine sR fun K hK=>?_;(repeat rw[Qa];simp));refine Wl.objs Qf [1] true (aq) ?_ (by rintro o hc ⟨_,x,rfl⟩;simp) (by decide) (by simp) (by simp[zA]) (by simp[zA]) (by simp[zA]) (by simp[zA]);(rintro o hc ⟨ho,x,rfl⟩;refine⟨true,?_⟩;rw[show told true o=_ from ho];clear ho;simp[zU]);(try simp only[zr]);(repeat rw[Qa];simp);(refine hK _ _ _ ?_;clear hK K);(refine sI fun K Z=>?_;(repeat rw[Qa];simp[he]);refine Z ?_;clear Z K);refine pT rfl ?_;(refine sI fun K Z=>?_;(repeat rw[Qa];simp);refine Z ?_;clear Z K);(refine Qe ?_;(try simp only[zs]);refine Qk.ret rfl (.inl ?_);simp[zM])
end Go.Proofs.YtgloldepdhgfaaaGreatDoor
namespace Go.Proofs.YtgloldepdhgfaaaGreatDoor
set_option linter.unusedSimpArgs false
set_option linter.unusedVariables false
open Go.RowKit
def Qf5(c:C)(s:Int):Int:=IntKind.i64.wrap (IntKind.i64.wrap (IntKind.i64.wrap (s+1)+c.ty.tof 800)+c.bo.tof 800)
theorem Qlg:∀(l:List C) (s:Int),0<=s ->s+(Qi8 l:Int)<=QB ->s<=Qe0 Qf5 800 l s/\Qe0 Qf5 800 l s<=s+(Qi8 l:Int)/\(Qe0 Qf5 800 l s<=800 ->Qe0 Qf5 800 l s=s+(Qi8 l:Int))
 | [],s,h0,h1=>by simp only[Qe0,Qi8];omega
 | c::r,s,h0,h1=>by
  rw[Qe0];rw[Qi8]at h1⊢;split
  ·rename_i hs;have h2:=h1;unfold QB at h2;have hq:(0:Int)<=800/\(800:Int)<=QB:=⟨by omega,by unfold QB;omega⟩;obtain⟨a1,a2,a3⟩:=Qrl c.ty 800 (by unfold QB;omega) hq;obtain⟨c1,c2,c3⟩:=Qrl c.bo 800 (by unfold QB;omega) hq;have e:Qf5 c s=s+1+c.ty.tof 800+c.bo.tof 800:=by
    unfold Qf5;rw[Qbu (n:=s+1) (by omega) (by omega),Qbu (n:=s+1+c.ty.tof 800) (by omega) (by omega),Qbu (by omega) (by omega)]
   rw[e];obtain⟨b1,b2,b3⟩:=Qlg r (s+1+c.ty.tof 800+c.bo.tof 800) (by omega) (by unfold QB;omega);refine⟨by omega,by omega,fun h=>?_⟩;have:=b3 h;have:=a3 (by omega);have:=c3 (by omega);omega
  ·omega
theorem Qqu:∀{l:List C} {c:C},c∈l ->1+c.ty.tsz+c.bo.tsz<=Qi8 l
 | x::r,c,h=>by
  rw[Qi8];rcases List.mem_cons.1 h with rfl | h
  ·omega
  ·have:=Qqu h;omega
theorem Qv2{l:List C}(hls:∀c,c∈l ->okC c)(hq:(Qi8 l:Int)<=QB)(h4:¬ Qe0 Qf5 800 l 0 > 800):RowOk l:=by
 obtain⟨b1,b2,b3⟩:=Qlg l 0 (by omega) (by omega);have h5:=b3 (by omega);have hlen:=Qu3 l;refine⟨by omega,fun c hc=>⟨hls c hc,?_⟩⟩;have:=Qqu hc;have:=Qsh c.ty;have:=Qsh c.bo;omega
theorem RowOk.take{l:List C}(h:RowOk l)(k:Nat):RowOk (l.take k):=⟨by rw[List.length_take];have:=h.len;omega,fun c hc=>h.ok c (List.mem_of_mem_take hc)⟩
theorem one10{l:List C}{i:Nat}(hi:i<l.length){f:Int}(h0:0<=f)(h1:f<=1073741824):rowsR (l.take i++ [l[i]]) (l.take i).length f=(match declR (l.take i) l[i] f with | .ok (_,g)=> .ok g | .error e=> .error (i,e)):=by
 have hlen:(l.take i).length=i:=by rw[List.length_take];omega
 have hl2:(l.take i++ [l[i]]).length=i+1:=by rw[List.length_append,hlen];rfl
 unfold rowsR;rw[if_pos ⟨h0,h1⟩,hl2,hlen,show i+1 - i=1 by omega,rowR];have e1:(l.take i++ [l[i]]).take i=l.take i:=by
  have:=List.take_left (l₁:=l.take i) (l₂:= [l[i]]);rw[hlen]at this;exact this
 have e2:(l.take i++ [l[i]]).getD i Qhn=l[i]:=by
  rw[List.getD_eq_getElem?_getD,List.getElem?_append_right (by omega),hlen,Nat.sub_self];rfl
 rw[e1,e2];cases declR (l.take i) l[i] f with
 | ok v=>rfl
 | error e=>rfl
noncomputable def sortG (l : List C) (c : C) (f : Int) : Int × Int := match sortT l c.lv [] c.ty f with
 | .ok (_,g)=>(g,0)
 | .error e=>(0,e)
noncomputable def bodyG (l : List C) (c : C) (f : Int) : Int × Int := match checkT l c.lv [] c.bo c.ty f with
 | .ok (_,g)=>(g,0)
 | .error e=>(0,e)
def Qck(v p:Int):T:= .mk 2 0 0 [[(v,p)]] []
def Qre:C:=⟨0,Qck 0 0,true,Qju 2⟩
def Qxe:C:=⟨0, .mk 3 0 0 [] [],false,Xa⟩
def Qq4:C:=⟨0,Qeh 0,false,Xa⟩
def Qou:C:=⟨0,Qck 0 0,false,Xa⟩
theorem Qok{l:List C}{t:T}(h1:spot t=none)(h2:Qbn l t Xa=none){f:Int}(h0:0<=f):HdO l t f (some (t,f)):=by
 have h3:hstep l t=none:=by rw[Qcr h1];exact h2
 have:=Hd.stop h3;rw[Qbc h1]at this;exact .of this (by omega) (by omega)
theorem LR.det{l:List C}{h:Nat}{p q:T}{f:Int}{o:Option (Bool×Int)}(H:LR l h p q f o):∀{h':Nat} {o':Option (Bool×Int)},LR l h' p q f o' ->o=o':=by
 induction H with
 | out=>intro h' o' K;cases K <;> first | rfl | omega
 | same hf hs =>
  intro h' o' K;cases K with
  | out=>omega
  | same _ _=>rfl
  | gone1 _ hs' _ | gone2 _ hs' _ _ | sort _ hs' _ _ _ _ | pino _ hs' _ _ _ _ _ _ | pi _ hs' _ _ _ _ _ _ | one _ hs' _ _ _ _ _=>rw[hs]at hs';cases hs'
 | gone1 hf hs h1 =>
  intro h' o' K;cases K with
  | out=>rfl
  | same _ hs'=>rw[hs]at hs';cases hs'
  | gone1 _ _ _=>rfl
  | gone2 _ _ h1' _ | sort _ _ h1' _ _ _ | pino _ _ h1' _ _ _ _ _ | pi _ _ h1' _ _ _ _ _ | one _ _ h1' _ _ _ _=>cases h1.det h1'
 | gone2 hf hs h1 h2 =>
  intro h' o' K;cases K with
  | out=>rfl
  | same _ hs'=>rw[hs]at hs';cases hs'
  | gone1 _ _ _=>rfl
  | gone2 _ _ _ _=>rfl
  | sort _ _ h1' h2' _ _ | pino _ _ h1' h2' _ _ _ _ | pi _ _ h1' h2' _ _ _ _ | one _ _ h1' h2' _ _ _=>cases h1.det h1';cases h2.det h2'
 | sort hf hs h1 h2 hx hy =>
  intro h' o' K;cases K with
  | out=>omega
  | same _ hs'=>rw[hs]at hs';cases hs'
  | gone1 _ _ h1'=>cases h1.det h1'
  | gone2 _ _ h1' h2'=>cases h1.det h1';cases h2.det h2'
  | sort _ _ h1' h2' hx' hy' =>
   cases h1.det h1';cases h2.det h2';have e1:=hx.2.symm.trans hx'.2;have e2:=hy.2.symm.trans hy'.2;cases e1;cases e2;rfl
  | pino _ _ h1' h2' hx' hy' _ _ | pi _ _ h1' h2' hx' hy' _ _=>cases h1.det h1';cases h2.det h2';have:=hx.1;omega
  | one _ _ h1' h2' hn' _ _=>cases h1.det h1';cases h2.det h2';exact absurd ⟨hx.1,hy.1,by rw[hx.2];rfl,by rw[hy.2];rfl⟩ hn'
 | pino hf hs h1 h2 hx hy hk hn =>
  intro h' o' K;cases K with
  | out=>omega
  | same _ hs'=>rw[hs]at hs';cases hs'
  | gone1 _ _ h1'=>cases h1.det h1'
  | gone2 _ _ h1' h2'=>cases h1.det h1';cases h2.det h2'
  | sort _ _ h1' h2' hx' hy'=>cases h1.det h1';cases h2.det h2';have:=hx'.1;omega
  | pino _ _ h1' h2' hx' hy' hk' _=>cases h1.det h1';cases h2.det h2';exact hk.det hk'
  | pi _ _ h1' h2' hx' hy' hk' _=>cases h1.det h1';cases h2.det h2';exact absurd (hk.det hk') (hn _)
  | one _ _ h1' h2' _ hn2' _=>cases h1.det h1';cases h2.det h2';exact absurd ⟨hx,hy⟩ hn2'
 | pi hf hs h1 h2 hx hy hk hr ih =>
  intro h' o' K;cases K with
  | out=>omega
  | same _ hs'=>rw[hs]at hs';cases hs'
  | gone1 _ _ h1'=>cases h1.det h1'
  | gone2 _ _ h1' h2'=>cases h1.det h1';cases h2.det h2'
  | sort _ _ h1' h2' hx' hy'=>cases h1.det h1';cases h2.det h2';have:=hx'.1;omega
  | pino _ _ h1' h2' hx' hy' hk' hn'=>cases h1.det h1';cases h2.det h2';exact absurd (hk.det hk').symm (hn' _)
  | pi _ _ h1' h2' hx' hy' hk' hr'=>cases h1.det h1';cases h2.det h2';cases hk.det hk';exact ih hr'
  | one _ _ h1' h2' _ hn2' _=>cases h1.det h1';cases h2.det h2';exact absurd ⟨hx,hy⟩ hn2'
 | one hf hs h1 h2 hn hn2 hr =>
  intro h' o' K;cases K with
  | out=>omega
  | same _ hs'=>rw[hs]at hs';cases hs'
  | gone1 _ _ h1'=>cases h1.det h1'
  | gone2 _ _ h1' h2'=>cases h1.det h1';cases h2.det h2'
  | sort _ _ h1' h2' hx' hy'=>cases h1.det h1';cases h2.det h2';exact absurd ⟨hx'.1,hy'.1,by rw[hx'.2];rfl,by rw[hy'.2];rfl⟩ hn
  | pino _ _ h1' h2' hx' hy' _ _ | pi _ _ h1' h2' hx' hy' _ _=>cases h1.det h1';cases h2.det h2';exact absurd ⟨hx',hy'⟩ hn2
  | one _ _ h1' h2' _ _ hr'=>cases h1.det h1';cases h2.det h2';exact hr.det hr'
theorem Wae{l:List C}{t:T}(h1:spot t=none)(h2:Qbn l t Xa=none){f:Int}(h0:0<=f):hdR l t f= .ok (t,f):=by
 have h:=Qok (l:=l) h1 h2 h0;rcases Qgp l t h0 with ⟨v,e1,e2⟩ | ⟨e1,e2⟩
 ·have:=h.det e2;cases this;exact e1
 ·have:=h.det e2;cases this
theorem Wci(i:LV):spot (Qir i)=none:=rfl
theorem uni_own(l:List C)(i:LV):Qbn l (Qir i) Xa=none:=rfl
theorem Qvc(h:Bool)(b:T):typR [] ⟨0,Qck 0 0,h,b⟩ 10= .ok ((),9):=by
 have e:sortT [] 0 [] (Qck 0 0) 10= .ok (Wf (Qfm [(0,0)]),9):=by
  have hr:∀(i:Nat) (h:i< [Qck 0 0].length),Xq 0 ((([]:List T).length:Nat):Int) (([]:List C).map C.lv) [Qck 0 0][i]=true:=fun i h=>by
   have:i=0:=by simp at h;omega
   subst this;show Xq 0 0 [] (Qck 0 0)=true
   kernel_rfl
  unfold sortT toldR;rw[if_pos ⟨⟨by omega,by omega⟩,by omega,by omega⟩,if_pos ⟨fun i h=>by simp at h,hr⟩];have e1:sortR [] (infT [] 0 (hgt 10)) [] (Qck 0 0) 10= .ok (Qfm [(0,0)],9):=by
   unfold sortR;have:hgt 10=10+1:=rfl;rw[this,Qeq,if_neg (by omega)];have e2:ruleR [] 0 (infT [] 0 10) (chkT [] 0 10) [] (Qck 0 0) (10 - 1)= .ok (Qir (Qfm [(0,0)]),9):=by
    unfold ruleR;rw[if_neg (by decide),if_pos (show(Qck 0 0).k=2 from rfl)];unfold Qdo;rw[show(Qck 0 0).ls.getD 0 []= [(0,0)] from rfl,if_pos (show Xn (Qfm [(0,0)]) 0=true from by kernel_rfl)];rfl
   rw[e2,Rs.next_ok];unfold lvR;rw[Wae (Wci _) (uni_own _ _) (by omega),Rs.next_ok,if_pos ⟨rfl,rfl⟩];rfl
  rw[e1,Rs.next_ok]
 unfold typR;dsimp only;rw[e]
theorem Wbh:bodyR [] Qre 9= .ok ((),6):=by
 have e:checkT [] 0 [] (Qju 2) (Qck 0 0) 9= .ok (true,6):=by
  have hr:∀(i:Nat) (h:i< [Qju 2,Qck 0 0].length),Xq 0 ((([]:List T).length:Nat):Int) (([]:List C).map C.lv) [Qju 2,Qck 0 0][i]=true:=fun i h=>by
   have:i=0\/i=1:=by simp at h;omega
   rcases this with rfl | rfl
   ·show Xq 0 0 [] (Qju 2)=true
    kernel_rfl
   ·show Xq 0 0 [] (Qck 0 0)=true
    kernel_rfl
  unfold checkT toldR;rw[if_pos ⟨⟨by omega,by omega⟩,by omega,by omega⟩,if_pos ⟨fun i h=>by simp at h,hr⟩];have e1:chkT [] 0 (hgt 9) [] (Qju 2) (Qck 0 0) 9= .ok ((),6):=by
   have:hgt 9=9+1:=rfl;rw[this,Qf6,if_neg (by omega)];unfold askR;rw[if_neg (by decide),if_neg (by decide),if_neg (by decide),if_neg (by decide),if_neg (by decide)];rw[Qeq,if_neg (by omega)];have e2:ruleR [] 0 (infT [] 0 8) (chkT [] 0 8) [] (Qju 2) (9 - 1 - 1)= .ok (Qir [],7):=by
    unfold ruleR;rw[if_neg (by decide),if_neg (by decide),if_neg (by decide),if_neg (by decide),if_neg (by decide),if_neg (by decide),if_neg (by decide),if_neg (by decide),if_neg (by decide),if_neg (by decide),if_neg (by decide),if_pos (by rfl)];rfl
   rw[e2,Rs.next_ok];have h:LR [] 0 (Qir []) (Qck 0 0) 7 (some (true,6)):=by
    by_cases hs:(Qir []).sameB (Qck 0 0)=true
    ·exact .same (by omega) hs
    ·have h2:LR [] 0 (Qir []) (Qck 0 0) 7 (some (Qxn [] [(0,0)],6)):= .sort (x:=Qir []) (y:=Qck 0 0) (f1:=6) (by omega) (by simpa using hs) (Qok rfl rfl (by omega)) (Qok rfl rfl (by omega)) ⟨rfl,rfl⟩ ⟨rfl,rfl⟩
     rwa [show Qxn [] [(0,0)]=true from by kernel_rfl]at h2
   have hq:lqR [] (Qir []) (Qck 0 0) 7= .ok (true,6):=by
    rcases Qgj [] (Qir []) (Qck 0 0) (f:=7) (by omega)with ⟨v,h',e1,e2⟩ | ⟨h',e1,e2⟩
    ·have:=h.det e2;cases this;exact e1
    ·have:=h.det e2;cases this
   rw[hq,Rs.next_ok,if_pos rfl]
  rw[e1,Rs.next_ok]
 unfold bodyR;rw[if_pos (show Qre.has=true from rfl)];rw[show Qre.lv=0 from rfl,show Qre.bo=Qju 2 from rfl,show Qre.ty=Qck 0 0 from rfl,e]
theorem We0:rowsR ([]++ [Qre]) ([]:List C).length 10= .ok 6:=by
 unfold rowsR;rw[if_pos ⟨by omega,by omega⟩];show rowR [Qre] 1 0 10=_;rw[rowR,show([Qre]:List C).take 0= [] from rfl,show([Qre]:List C).getD 0 Qhn=Qre from rfl];have:declR [] Qre 10= .ok ((),6):=by
  unfold declR;rw[show Qb6 Qre 10= .ok ((),10) by unfold Qb6;rw[if_pos (by decide)],Rs.next_ok,show typR [] Qre 10= .ok ((),9)from Qvc _ _,Rs.next_ok,Wbh]
 rw[this];rfl
theorem Qjd{α:Type}{l:List C}{t:T}{ts:List T}{f:Int}{r:Rs α}(h0:0<=f)(h1:f<=1073741824)(ht:Xq 0 0 (l.map C.lv) t=false):toldR l 0 [] f (t::ts) r= .error 6:=by
 unfold toldR;rw[if_pos ⟨⟨by omega,by omega⟩,h0,h1⟩,if_neg];rintro⟨-,h⟩;have:=h 0 (by simp);have e:Xq 0 (([]:List T).length:Nat) (l.map C.lv) t=true:=this;rw[show(([]:List T).length:Nat)=(0:Nat)from rfl]at e;rw[show((0:Nat):Int)=0 from rfl,ht]at e;cases e
theorem Wez:rowsR ([]++ [Qxe]) ([]:List C).length 10= .error (0,6):=by
 unfold rowsR;rw[if_pos ⟨by omega,by omega⟩];show rowR [Qxe] 1 0 10=_;rw[rowR,show([Qxe]:List C).take 0= [] from rfl,show([Qxe]:List C).getD 0 Qhn=Qxe from rfl];have:declR [] Qxe 10= .error 6:=by
  unfold declR;rw[show Qb6 Qxe 10= .ok ((),10) by unfold Qb6;rw[if_pos (by decide +kernel)],Rs.next_ok];have:typR [] Qxe 10= .error 6:=by
   unfold typR;rw[show Qxe.lv=0 from rfl,show sortT [] 0 [] Qxe.ty 10= .error 6 from Qjd (by omega) (by omega) (by kernel_rfl)];rfl
  rw[this,Rs.next_err]
 rw[this]
theorem We1:rowsR [Qou,Qq4] 0 10= .error (1,6):=by
 unfold rowsR;rw[if_pos ⟨by omega,by omega⟩];show rowR [Qou,Qq4] 2 0 10=_;rw[rowR,show([Qou,Qq4]:List C).take 0= [] from rfl,show([Qou,Qq4]:List C).getD 0 Qhn=Qou from rfl];have e1:declR [] Qou 10= .ok ((),9):=by
  unfold declR;rw[show Qb6 Qou 10= .ok ((),10) by unfold Qb6;rw[if_pos (by decide +kernel)],Rs.next_ok,show typR [] Qou 10= .ok ((),9)from Qvc _ _,Rs.next_ok];rfl
 rw[e1];show rowR [Qou,Qq4] 1 1 9=_;rw[rowR,show([Qou,Qq4]:List C).take 1= [Qou] from rfl,show([Qou,Qq4]:List C).getD 1 Qhn=Qq4 from rfl];have e2:declR [Qou] Qq4 9= .error 6:=by
  unfold declR;rw[show Qb6 Qq4 9= .ok ((),9) by unfold Qb6;rw[if_pos (by decide +kernel)],Rs.next_ok];have:typR [Qou] Qq4 9= .error 6:=by
   unfold typR;rw[show Qq4.lv=0 from rfl,show sortT [Qou] 0 [] Qq4.ty 9= .error 6 from Qjd (by omega) (by omega) (by kernel_rfl)];rfl
  rw[this,Rs.next_err]
 rw[e2]
mutual
def T.cB(m:Int):T ->Bool
 | .mk k n _ _ ks=>(!decide (k=3) || decide (n<m)) && T.csB m ks
def T.csB(m:Int):List T ->Bool
 | []=>true
 | t::r=>T.cB m t && T.csB m r
end
theorem Waz{m:Int}:∀{ks:List T},T.csB m ks=true↔∀t,t∈ks ->t.cB m=true
 | []=>by simp[T.csB]
 | t::r=>by rw[T.csB,Bool.and_eq_true,Waz (ks:=r)];simp
theorem Ql8{m k n a:Int}{ls:List LV}{ks:List T}:(T.mk k n a ls ks).cB m=true↔(k=3 ->n<m)/\∀t,t∈ks ->t.cB m=true:=by
 rw[T.cB,Bool.and_eq_true,Waz];by_cases h:k=3 <;> simp[h]
theorem Qm4{m:Int}{t:T}(h:t.cB m=true):t.k=3 ->t.n<m:=by cases t with | mk k n a ls ks=>exact(Ql8.1 h).1
theorem Wa8{m:Int}{t:T}(h:t.cB m=true):∀x,x∈t.ks ->x.cB m=true:=by cases t with | mk k n a ls ks=>exact(Ql8.1 h).2
theorem Qhj{m:Int}:Xa.cB m=true:=rfl
theorem Qs8{m:Int}{ks:List T}(h:∀x,x∈ks ->x.cB m=true)(i:Nat):(ks.getD i Xa).cB m=true:=by
 rw[List.getD_eq_getElem?_getD];by_cases hi:i<ks.length
 ·rw[List.getElem?_eq_getElem hi];exact h _ (List.getElem_mem hi)
 ·rw[List.getElem?_eq_none (by omega)];exact Qhj
theorem Qan{m:Int}{t:T}(h:t.cB m=true)(i:Nat):(t.kid i).cB m=true:=Qs8 (Wa8 h) i
theorem Qs7{m k:Int}{ks:List T}(hk:¬ k=3)(h:∀x,x∈ks ->x.cB m=true):(ofT k ks).cB m=true:=Ql8.2 ⟨fun e=>absurd e hk,h⟩
theorem Wfs{m k:Int}{x:T}(hk:¬ k=3)(h:x.cB m=true):(ofT k [x]).cB m=true:=Qs7 hk fun y hy=>by rw[List.mem_singleton.1 hy];exact h
theorem Qa1{m k:Int}{x y:T}(hk:¬ k=3)(h:x.cB m=true)(h2:y.cB m=true):(ofT k [x,y]).cB m=true:=Qs7 hk fun z hz=>by
 simp only[List.mem_cons,List.not_mem_nil,or_false]at hz;rcases hz with rfl | rfl
 ·exact h
 ·exact h2
theorem Qrj{m:Int}{f:Turn}(hf:∀d t,t.cB m=true ->(∀u,f d t= .inl u ->u.cB m=true)/\(∀x,f d t= .inr x ->t.k=3 ->x.1<m))(t:T):∀d,t.cB m=true ->(T.walk f t d).cB m=true:=by
 induction t using T.ind with
 | h k n a ls ks ih =>
  intro d ht;obtain⟨h1,h2⟩:=hf d _ ht;cases hturn:f d (.mk k n a ls ks)with
  | inl u=>rw[Qjw hturn];exact h1 u hturn
  | inr x =>
   rw[Qd2 hturn];refine Ql8.2 ⟨h2 x hturn,?_⟩;have key:∀(l:List T) (i:Nat),(∀t,t∈l ->∀d,t.cB m=true ->(T.walk f t d).cB m=true) ->(∀t,t∈l ->t.cB m=true) ->∀t,t∈T.walks f k l i d ->t.cB m=true:=by
    intro l
    induction l with
    | nil=>intro i _ _ t ht;rw[T.walks]at ht;cases ht
    | cons y r ihr =>
     intro i hl hc t ht;rw[T.walks]at ht;rcases List.mem_cons.1 ht with rfl | ht
     ·exact hl y (List.mem_cons_self ..) _ (hc y (List.mem_cons_self ..))
     ·exact ihr (i+1) (fun t h=>hl t (List.mem_cons_of_mem _ h)) (fun t h=>hc t (List.mem_cons_of_mem _ h)) t ht
   exact key ks 0 ih (Ql8.1 ht).2
theorem Qct{m:Int}{t:T}(h:t.cB m=true)(n fr d:Int):(t.lift n fr d).cB m=true:=by
 refine Qrj (fun d t ht=>⟨fun u hu=>(by unfold Qal at hu;cases hu),fun x hx h3=>?_⟩) t d h;unfold Qal at hx;cases hx;have h4:=Qm4 ht h3;show Qbs n fr d t.k t.n<m;unfold Qbs;rw[if_neg (fun e=>by have:=e.1;omega)];exact h4
theorem Qq3{m:Int}{t:T}(h:t.cB m=true)(bys:List LV)(d:Int):(t.levels bys d).cB m=true:=by
 refine Qrj (fun d t ht=>⟨fun u hu=>(by unfold Qdv at hu;cases hu),fun x hx h3=>?_⟩) t d h;unfold Qdv at hx;cases hx;exact Qm4 ht h3
theorem cB_put{m:Int}{t:T}{bys:List T}(h:t.cB m=true)(hb:∀x,x∈bys ->x.cB m=true)(d:Int):(t.put bys d).cB m=true:=by
 refine Qrj (fun d t ht=>⟨fun u hu=>?_,fun x hx h3=>?_⟩) t d h
 ·unfold Qaf at hu;split at hu
  ·split at hu
   ·cases hu;exact Qct (hb _ (List.getElem_mem _)) _ _ _
   ·cases hu
  ·cases hu
 ·unfold Qaf at hx;rw[if_neg (fun e=>by have:=e.1;omega)]at hx;cases hx;exact Qm4 ht h3
theorem Qot{m:Int}{t x:T}(h:t.cB m=true)(hb:x.cB m=true)(d:Int):(t.put [x] d).cB m=true:=cB_put h (fun y hy=>by rw[List.mem_singleton.1 hy];exact hb) d
theorem Qij{m:Int}{t x:T}(h:t.cB m=true)(hx:x.cB m=true)(i many:Nat):(t.withT x i many).cB m=true:=by
 refine Ql8.2 ⟨Qm4 h,fun y hy=>?_⟩;unfold Qg2 at hy;obtain⟨j, -,rfl⟩:=List.mem_map.1 hy;split
 ·exact hx
 ·exact Qs8 (Wa8 h) j
theorem Qos{m:Int}(t:T):t.cB m=true ->t.trunc.cB m=true:=by
 induction t using T.ind with
 | h k n a ls ks ih =>
  intro h;rcases Qee (.mk k n a ls ks)with hs | ⟨i,many,hs⟩
  ·rw[Qbc hs];exact h
  ·by_cases hi:i<(T.mk k n a ls ks).ks.length
   ·rw[Qe4 hs hi];exact Qij h (ih _ (List.getElem_mem hi) (Wa8 h _ (List.getElem_mem hi))) _ _
   ·rw[Qfs hs hi];exact Qij h Qhj _ _
def ClC(l:List C):Prop:=∀c,c∈l ->c.ty.cB l.length=true/\c.bo.cB l.length=true
section
variable {l : List C} (more : List C)
theorem Qxg(hl:ClC l){num:Int}(hn:num<l.length)(lv:List LV):Qhk (l++more) num lv=Qhk l num lv/\∀b,Qhk l num lv=some b ->b.cB l.length=true:=by
 unfold Qhk;by_cases h:0<=num/\num.toNat<l.length
 ·rw[dif_pos h,dif_pos (show 0<=num/\num.toNat<(l++more).length from⟨h.1,by rw[List.length_append];omega⟩)];have e:(l++more)[num.toNat]'(by rw[List.length_append];omega)=l[num.toNat]'h.2:=List.getElem_append_left h.2;rw[e];refine⟨rfl,fun b hb=>?_⟩;split at hb
  ·cases hb;exact Qq3 (hl _ (List.getElem_mem h.2)).2 _ _
  ·cases hb
 ·rw[dif_neg h,dif_neg (fun e=>h ⟨e.1,by omega⟩)];exact⟨rfl,fun b hb=>by cases hb⟩
theorem Qvl(hl:ClC l){num:Int}(hn:num<l.length)(lv:List LV):Qjq (l++more) num lv=Qjq l num lv/\(Qjq l num lv).cB l.length=true:=by
 unfold Qjq;by_cases h:0<=num/\num.toNat<l.length
 ·rw[dif_pos h,dif_pos (show 0<=num/\num.toNat<(l++more).length from⟨h.1,by rw[List.length_append];omega⟩)];have e:(l++more)[num.toNat]'(by rw[List.length_append];omega)=l[num.toNat]'h.2:=List.getElem_append_left h.2;rw[e];refine⟨rfl,?_⟩;split
  ·exact Qq3 (hl _ (List.getElem_mem h.2)).1 _ _
  ·exact Qhj
 ·rw[dif_neg h,dif_neg (fun e=>h ⟨e.1,by omega⟩)];exact⟨rfl,Qhj⟩
theorem Qkk(hl:ClC l){t x:T}(ht:t.cB l.length=true)(hx:x.cB l.length=true):Qbn (l++more) t x=Qbn l t x/\∀u c,Qbn l t x=some (u,c) ->u.cB l.length=true:=by
 unfold Qbn;by_cases h:t.k=6
 ·rw[if_pos h,if_pos h];refine⟨rfl,fun u c e=>?_⟩;split at e
  ·cases e;exact Qot (Qan hx _) (Qan ht _) _
  ·cases e
 rw[if_neg h,if_neg h];clear h;by_cases h:t.k=14\/t.k=15
 ·rw[if_pos h,if_pos h];refine⟨rfl,fun u c e=>?_⟩;split at e
  ·cases e;exact Qan hx _
  ·cases e
 rw[if_neg h,if_neg h];clear h;by_cases h:t.k=7
 ·rw[if_pos h,if_pos h];exact⟨rfl,fun u c e=>by cases e;exact Qot (Qan ht _) (Qan ht _) _⟩
 rw[if_neg h,if_neg h];clear h;by_cases h:t.k=3
 ·rw[if_pos h,if_pos h];obtain⟨e1,e2⟩:=Qxg more hl (Qm4 ht h) t.ls;rw[e1];refine⟨rfl,fun u c e=>?_⟩;cases hb:Qhk l t.n t.ls with
  | none=>rw[hb]at e;cases e
  | some b=>rw[hb]at e;cases e;exact e2 _ hb
 rw[if_neg h,if_neg h];clear h;by_cases h:t.k=18
 ·rw[if_pos h];refine⟨rfl,fun u c e=>?_⟩;split at e
  ·cases e;unfold Qpa;have k:=fun i=>Qan ht i
   have q:=fun i=>Qan hx i
   refine Qa1 (by decide) (Qa1 (by decide) (Qa1 (by decide) (k 3) (q 0)) (q 1)) (Qa1 (by decide) (Qot (k 1) (q 0) _) (Qs7 (by decide) fun y hy=>?_));simp only[List.mem_cons,List.not_mem_nil,or_false]at hy;rcases hy with rfl | rfl | rfl | rfl | rfl
   ·exact Qct (k 0) _ _ _
   ·exact Qct (k 1) _ _ _
   ·exact Qct (k 2) _ _ _
   ·exact Qct (k 3) _ _ _
   ·exact Qa1 (by decide) (Qct (q 1) _ _ _) (Qs7 (by decide) fun y hy=>by cases hy)
  ·cases e
 rw[if_neg h];clear h;by_cases h:t.k=21
 ·rw[if_pos h];refine⟨rfl,fun u c e=>?_⟩;split at e
  ·cases e;exact Qan ht _
  ·cases e
 rw[if_neg h];clear h;refine⟨rfl,fun u c e=>?_⟩;split at e
 ·split at e
  ·cases e;exact Qan ht _
  ·cases e
 ·cases e
theorem Qun(hl:ClC l)(t:T):t.cB l.length=true ->hstep (l++more) t=hstep l t/\∀u c,hstep l t=some (u,c) ->u.cB l.length=true:=by
 induction t using T.ind with
 | h k n a ls ks ih =>
  intro h;rcases Qee (.mk k n a ls ks)with hs | ⟨i,many,hs⟩
  ·rw[Qcr hs,Qcr hs];exact Qkk more hl h Qhj
  ·by_cases hi:i<(T.mk k n a ls ks).ks.length
   ·have hk:=Wa8 h _ (List.getElem_mem hi);obtain⟨e1,e2⟩:=ih _ (List.getElem_mem hi) hk;cases hu:hstep l (T.mk k n a ls ks).ks[i]with
    | some u =>
     rw[Qgn hs hi (u:=u.1) (c:=u.2) hu,Qgn (l:=l++more) hs hi (u:=u.1) (c:=u.2) (e1.trans hu)];exact⟨rfl,fun v c e=>by cases e;exact Qij h (e2 _ _ hu) _ _⟩
    | none =>
     rw[Qd7 hs hi hu,Qd7 (l:=l++more) hs hi (e1.trans hu)];exact Qkk more hl (Qij h (Qos _ hk) _ _) (Qos _ hk)
   ·rw[Qes hs hi,Qes hs hi];exact Qkk more hl (Qij h Qhj _ _) Qhj
theorem hd_more(hl:ClC l){t v:T}{n:Nat}(H:Hd l t n v):t.cB l.length=true ->Hd (l++more) t n v/\v.cB l.length=true:=by
 induction H with
 | stop h=>intro ht;exact⟨.stop ((Qun more hl _ ht).1.trans h),Qos _ ht⟩
 | step h r ih =>
  intro ht;obtain⟨e1,e2⟩:=Qun more hl _ ht;obtain⟨a,b⟩:=ih (e2 _ _ h);exact⟨.step (e1.trans h) a,b⟩
theorem Wai(hl:ClC l){t:T}{f q:Int}(H:GoneAt l t f q):t.cB l.length=true ->GoneAt (l++more) t f q:=by
 induction H with
 | now h hf=>intro ht;exact .now ((Qun more hl _ ht).1.trans h) hf
 | later h hf r ih =>
  intro ht;obtain⟨e1,e2⟩:=Qun more hl _ ht;exact .later (e1.trans h) hf (ih (e2 _ _ h))
theorem Qae(hl:ClC l){t:T}{f:Int}{o:Option (T×Int)}(H:HdO l t f o)(ht:t.cB l.length=true):HdO (l++more) t f o/\∀u g,o=some (u,g) ->u.cB l.length=true:=by
 cases H with
 | fin h hm =>
  obtain⟨a,b⟩:=hd_more more hl h ht;exact⟨.fin a hm,fun u g e=>by cases e;exact b⟩
 | gone h=>exact⟨.gone (Wai more hl h ht),fun u g e=>by cases e⟩
theorem Qj3{m:Int}(k:Int){t:T}(h:t.cB m=true):∀x,x∈Qaq k t ->x.cB m=true:=by
 intro x hx;unfold Qaq at hx;split at hx
 ·split at hx
  ·simp only[List.mem_cons,List.not_mem_nil,or_false]at hx;rcases hx with rfl | rfl <;> exact Qan h _
  ·rw[List.mem_singleton.1 hx];exact Qan h _
 ·split at hx
  ·simp only[List.mem_cons,List.not_mem_nil,or_false]at hx;rcases hx with rfl | rfl <;> exact Wfs (by decide) h
  ·rw[List.mem_singleton.1 hx];exact Qa1 (by decide) (Qct h _ _ _) (Qs7 (by decide) fun y hy=>by cases hy)
theorem Qm5{m:Int}{t:T}(h:t.cB m=true):∀x,x∈Qak t ->x.cB m=true:=by
 intro x hx;unfold Qak at hx;split at hx
 ·simp only[List.mem_cons,List.not_mem_nil,or_false]at hx;rcases hx with rfl | rfl | rfl <;> exact Qan h _
 ·split at hx
  ·simp only[List.mem_cons,List.not_mem_nil,or_false]at hx;rcases hx with rfl | rfl | rfl <;> exact Qan h _
  ·exact Wa8 h x hx
theorem Wfq{m:Int}{x y:T}{ds bs:List T}(hx:x.cB m=true)(hy:y.cB m=true)(h:prs x y=some (ds,bs)):(∀z,z∈ds ->z.cB m=true)/\∀z,z∈bs ->z.cB m=true:=by
 unfold prs at h;split at h
 ·cases h;exact⟨Qj3 5 hx,Qj3 5 hy⟩
 ·split at h
  ·cases h;exact⟨Qj3 13 hx,Qj3 13 hy⟩
  ·split at h
   ·cases h;exact⟨Qm5 hx,Qm5 hy⟩
   ·cases h
theorem Qlf(hl:ClC l){h:Nat}{ps qs:List T}{f:Int}{o:Option (Bool×Int)}(H:CR l h ps qs f o):(∀z,z∈ps ->z.cB l.length=true) ->(∀z,z∈qs ->z.cB l.length=true) ->CR (l++more) h ps qs f o:=by
 induction H with
 | nil=>intro _ _;exact .nil
 | out=>intro _ _;exact .out
 | same hf hs hr ih=>intro hp hq;exact .same hf hs (ih (fun z hz=>hp z (List.mem_cons_of_mem _ hz)) (fun z hz=>hq z (List.mem_cons_of_mem _ hz)))
 | gone1 hf hs h1=>intro hp hq;exact .gone1 hf hs (Qae more hl h1 (hp _ (List.mem_cons_self ..))).1
 | gone2 hf hs h1 h2=>intro hp hq;exact .gone2 hf hs (Qae more hl h1 (hp _ (List.mem_cons_self ..))).1 (Qae more hl h2 (hq _ (List.mem_cons_self ..))).1
 | mis hf hs h1 h2 hpr=>intro hp hq;exact .mis hf hs (Qae more hl h1 (hp _ (List.mem_cons_self ..))).1 (Qae more hl h2 (hq _ (List.mem_cons_self ..))).1 hpr
 | kids hf hs h1 h2 hpr hk hn ih =>
  intro hp hq;obtain⟨a1,b1⟩:=Qae more hl h1 (hp _ (List.mem_cons_self ..));obtain⟨a2,b2⟩:=Qae more hl h2 (hq _ (List.mem_cons_self ..));obtain⟨c1,c2⟩:=Wfq (b1 _ _ rfl) (b2 _ _ rfl) hpr;exact .kids hf hs a1 a2 hpr (ih c1 c2) hn
 | yes hf hs h1 h2 hpr hk hr ih1 ih2 =>
  intro hp hq;obtain⟨a1,b1⟩:=Qae more hl h1 (hp _ (List.mem_cons_self ..));obtain⟨a2,b2⟩:=Qae more hl h2 (hq _ (List.mem_cons_self ..));obtain⟨c1,c2⟩:=Wfq (b1 _ _ rfl) (b2 _ _ rfl) hpr;exact .yes hf hs a1 a2 hpr (ih1 c1 c2) (ih2 (fun z hz=>hp z (List.mem_cons_of_mem _ hz)) (fun z hz=>hq z (List.mem_cons_of_mem _ hz)))
theorem Qgz{m:Int}{x:T}(h:x.cB m=true):∀z,z∈ [x] ->z.cB m=true:=fun z hz=>by rw[List.mem_singleton.1 hz];exact h
theorem Qzo(hl:ClC l){h:Nat}{p q:T}{f:Int}{o:Option (Bool×Int)}(H:LR l h p q f o):p.cB l.length=true ->q.cB l.length=true ->LR (l++more) h p q f o:=by
 induction H with
 | out=>intro _ _;exact .out
 | same hf hs=>intro _ _;exact .same hf hs
 | gone1 hf hs h1=>intro hp hq;exact .gone1 hf hs (Qae more hl h1 hp).1
 | gone2 hf hs h1 h2=>intro hp hq;exact .gone2 hf hs (Qae more hl h1 hp).1 (Qae more hl h2 hq).1
 | sort hf hs h1 h2 hx hy=>intro hp hq;exact .sort hf hs (Qae more hl h1 hp).1 (Qae more hl h2 hq).1 hx hy
 | pino hf hs h1 h2 hx hy hk hn =>
  intro hp hq;obtain⟨a1,b1⟩:=Qae more hl h1 hp;obtain⟨a2,b2⟩:=Qae more hl h2 hq;exact .pino hf hs a1 a2 hx hy (Qlf more hl hk (Qgz (Qan (b1 _ _ rfl) _)) (Qgz (Qan (b2 _ _ rfl) _))) hn
 | pi hf hs h1 h2 hx hy hk hr ih =>
  intro hp hq;obtain⟨a1,b1⟩:=Qae more hl h1 hp;obtain⟨a2,b2⟩:=Qae more hl h2 hq;exact .pi hf hs a1 a2 hx hy (Qlf more hl hk (Qgz (Qan (b1 _ _ rfl) _)) (Qgz (Qan (b2 _ _ rfl) _))) (ih (Qan (b1 _ _ rfl) _) (Qan (b2 _ _ rfl) _))
 | one hf hs h1 h2 hn hn2 hr =>
  intro hp hq;obtain⟨a1,b1⟩:=Qae more hl h1 hp;obtain⟨a2,b2⟩:=Qae more hl h2 hq;exact .one hf hs a1 a2 hn hn2 (Qlf more hl hr (Qgz (b1 _ _ rfl)) (Qgz (b2 _ _ rfl)))
def Agr{α:Type}(P:α ->Prop)(r2 r1:Rs α):Prop:=r2=r1/\∀x g,r1= .ok (x,g) ->P x/\0<=g
theorem Agr.next{α β:Type}{P:α ->Prop}{Q:β ->Prop}{r2 r1:Rs α}{k2 k1:α ->Int ->Rs β}(h:Agr P r2 r1)(hk:∀x g,P x ->0<=g ->Agr Q (k2 x g) (k1 x g)):Agr Q (r2.next k2) (r1.next k1):=by
 obtain⟨rfl,h2⟩:=h;cases r2 with
 | error e=>exact⟨rfl,fun x g e=>by cases e⟩
 | ok v =>
  obtain⟨x,g⟩:=v;obtain⟨a,b⟩:=h2 x g rfl;rw[Rs.next_ok,Rs.next_ok];exact hk x g a b
theorem Agr.ok{α:Type}{P:α ->Prop}{x:α}{g:Int}(hp:P x)(h0:0<=g):Agr P (.ok (x,g)) (.ok (x,g)):=⟨rfl,fun y q e=>by cases e;exact⟨hp,h0⟩⟩
theorem Agr.err{α:Type}{P:α ->Prop}{e:Int}:Agr P (.error e) (.error e):=⟨rfl,fun y q h=>by cases h⟩
theorem Agr.ite{α:Type}{P:α ->Prop}{c:Prop} [Decidable c]{a2 a1 b2 b1:Rs α}(h1:c ->Agr P a2 a1)(h2:¬ c ->Agr P b2 b1):Agr P (if c then a2 else b2) (if c then a1 else b1):=by
 by_cases h:c
 ·rw[if_pos h,if_pos h];exact h1 h
 ·rw[if_neg h,if_neg h];exact h2 h
abbrev Cm(l:List C)(t:T):Prop:=t.cB l.length=true
theorem Qol(hl:ClC l){t:T}(ht:Cm l t){f:Int}(h0:0<=f):Agr (Cm l) (hdR (l++more) t f) (hdR l t f):=by
 rcases Qgp l t h0 with ⟨v,e1,h1⟩ | ⟨e1,h1⟩
 ·obtain⟨a,b⟩:=Qae more hl h1 ht;have e2:hdR (l++more) t f= .ok v:=by
   rcases Qgp (l++more) t h0 with ⟨v2,e3,h3⟩ | ⟨e3,h3⟩
   ·have:=a.det h3;cases this;exact e3
   ·have:=a.det h3;cases this
  refine⟨e2.trans e1.symm,fun x g e=>?_⟩;rw[e1]at e;cases e;exact⟨b _ _ rfl,h1.le.1⟩
 ·obtain⟨a,b⟩:=Qae more hl h1 ht;have e2:hdR (l++more) t f= .error 5:=by
   rcases Qgp (l++more) t h0 with ⟨v2,e3,h3⟩ | ⟨e3,h3⟩
   ·have:=a.det h3;cases this
   ·exact e3
  exact⟨e2.trans e1.symm,fun x g e=>by rw[e1]at e;cases e⟩
theorem Wep(hl:ClC l){a b:T}(ha:Cm l a)(hb:Cm l b){f:Int}(h0:0<=f):Agr (fun _=>True) (cvR (l++more) a b f) (cvR l a b f):=by
 rcases Qie l a b h0 with ⟨v,h,e1,h1⟩ | ⟨h,e1,h1⟩
 ·have h2:=Qlf more hl h1 (Qgz ha) (Qgz hb);have e2:cvR (l++more) a b f= .ok v:=by
   rcases Qie (l++more) a b h0 with ⟨v2,h',e3,h3⟩ | ⟨h',e3,h3⟩
   ·have:=h2.det h3;cases this;exact e3
   ·have:=h2.det h3;cases this
  refine⟨e2.trans e1.symm,fun x g e=>?_⟩;rw[e1]at e;cases e;exact⟨trivial,(h1.le h0 _ _ rfl).1⟩
 ·have h2:=Qlf more hl h1 (Qgz ha) (Qgz hb);have e2:cvR (l++more) a b f= .error 5:=by
   rcases Qie (l++more) a b h0 with ⟨v2,h',e3,h3⟩ | ⟨h',e3,h3⟩
   ·have:=h2.det h3;cases this
   ·exact e3
  exact⟨e2.trans e1.symm,fun x g e=>by rw[e1]at e;cases e⟩
theorem Wd4(hl:ClC l){a b:T}(ha:Cm l a)(hb:Cm l b){f:Int}(h0:0<=f):Agr (fun _=>True) (lqR (l++more) a b f) (lqR l a b f):=by
 rcases Qgj l a b h0 with ⟨v,h,e1,h1⟩ | ⟨h,e1,h1⟩
 ·have h2:=Qzo more hl h1 ha hb;have e2:lqR (l++more) a b f= .ok v:=by
   rcases Qgj (l++more) a b h0 with ⟨v2,h',e3,h3⟩ | ⟨h',e3,h3⟩
   ·have:=h2.det h3;cases this;exact e3
   ·have:=h2.det h3;cases this
  refine⟨e2.trans e1.symm,fun x g e=>?_⟩;rw[e1]at e;cases e;exact⟨trivial,(h1.le _ _ rfl).1⟩
 ·have h2:=Qzo more hl h1 ha hb;have e2:lqR (l++more) a b f= .error 5:=by
   rcases Qgj (l++more) a b h0 with ⟨v2,h',e3,h3⟩ | ⟨h',e3,h3⟩
   ·have:=h2.det h3;cases this
   ·exact e3
  exact⟨e2.trans e1.symm,fun x g e=>by rw[e1]at e;cases e⟩
theorem Qfw{t a:T}(ht:Cm l t)(ha:Cm l a){f:Int}(h0:0<=f):Agr (Cm l) (Qn0 t a f) (Qn0 t a f):=by
 unfold Qn0;exact .ite (fun h=> .ok (Qot ht ha _) (by omega)) fun _=> .err
theorem Qoa(hl:ClC l){t:T}(ht:Cm l t){f:Int}(h0:0<=f):Agr (fun _=>True) (lvR (l++more) t f) (lvR l t f) :=
 (Qol more hl ht h0).next fun x g _ hg=> .ite (fun _=> .ok trivial hg) fun _=> .err
theorem Qed(hl:ClC l){t:T}(ht:Cm l t)(k e:Int){f:Int}(h0:0<=f):Agr (fun v=>Cm l v.1/\Cm l v.2) (asR (l++more) t k e f) (asR l t k e f) :=
 (Qol more hl ht h0).next fun x g hx hg=> .ite (fun _=> .ok ⟨Qan hx _,Qan hx _⟩ hg) fun _=> .err
theorem Qf0(hl:ClC l){a b:T}(ha:Cm l a)(hb:Cm l b)(e:Int){f:Int}(h0:0<=f):Agr (fun _=>True) (oneR (l++more) a b e f) (oneR l a b e f) :=
 (Wep more hl ha hb h0).next fun x g _ hg=> .ite (fun _=> .ok trivial hg) fun _=> .err
theorem Qu8{m:Int}(i:LV):(Qir i).cB m=true:=rfl
theorem Wa9{m:Int}(i:Int):(Qju i).cB m=true:=rfl
theorem Qq2{m:Int}(i:Int):(Qeh i).cB m=true:=rfl
theorem cB_elem{m:Int}(i j:Int):(Qid i j).cB m=true:=rfl
variable {n : Int} {I2 I1 : List T -> T -> Int -> Rs T} {K2 K1 : List T -> T -> T -> Int -> Rs Unit}
def IA(l:List C)(I2 I1:List T ->T ->Int ->Rs T):Prop:=∀c t f,(∀x,x∈c ->Cm l x) ->Cm l t ->Agr (Cm l) (I2 c t f) (I1 c t f)
def KA(l:List C)(K2 K1:List T ->T ->T ->Int ->Rs Unit):Prop:=∀c t y f,(∀x,x∈c ->Cm l x) ->Cm l t ->Cm l y ->Agr (fun _=>True) (K2 c t y f) (K1 c t y f)
theorem Qj4{c:List T}{t:T}(hc:∀x,x∈c ->Cm l x)(ht:Cm l t):∀x,x∈c++ [t] ->Cm l x:=fun x hx=>(List.mem_append.1 hx).elim (hc x) fun h=>by rw[List.mem_singleton.1 h];exact ht
theorem Qbd(hl:ClC l)(hI:IA l I2 I1){c:List T}{t:T}(hc:∀x,x∈c ->Cm l x)(ht:Cm l t)(f:Int):Agr (fun _=>True) (sortR (l++more) I2 c t f) (sortR l I1 c t f) :=
 (hI c t f hc ht).next fun s g hs hg=>Qoa more hl hs hg
theorem Qjj(hl:ClC l)(hI:IA l I2 I1){c:List T}{p t:T}(hc:∀x,x∈c ->Cm l x)(hp:Cm l p)(ht:Cm l t)(f:Int):Agr (fun _=>True) (motiveR (l++more) I2 c p t f) (motiveR l I1 c p t f) :=
 (hI c p f hc hp).next fun s g hs hg=>(Qed more hl hs 4 8 hg).next fun v g hv hg=>(Qf0 more hl hv.1 ht 13 hg).next fun _ g _ hg=>(Qoa more hl hv.2 hg).next fun _ g _ hg=> .ok trivial hg
theorem Qp8(hl:ClC l)(hI:IA l I2 I1)(hK:KA l K2 K1){c:List T}{t:T}(hc:∀x,x∈c ->Cm l x)(ht:Cm l t)(f:Int):Agr (Cm l) (letR (l++more) I2 K2 c t f) (letR l I1 K1 c t f) :=
 (Qbd more hl hI hc (Qan ht 0) f).next fun _ g _ _=>(hK c _ _ g hc (Qan ht 1) (Qan ht 0)).next fun _ g _ hg=>Qfw (Qan ht 2) (Qan ht 1) hg
theorem Qvb(hK:KA l K2 K1){c:List T}{t:T}(hc:∀x,x∈c ->Cm l x)(ht:Cm l t):∀(m k:Nat) (f:Int),0<=f ->Agr (fun _=>True) (brR K2 c t m k f) (brR K1 c t m k f)
 | 0,k,f,h0=>by rw[brR,brR];exact .ok trivial h0
 | m+1,k,f,h0=>by
  rw[brR,brR];exact(hK c _ _ f hc (Qan ht (k+1)) (Qa1 (by decide) (Qan ht 0) (cB_elem _ _))).next fun _ g _ hg=>Qvb hK hc ht m (k+1) g hg
theorem cB_step{m:Int}{a b p:T}(ha:a.cB m=true)(hb:b.cB m=true)(hp:p.cB m=true):(Qis a b p).cB m=true:=by
 unfold Qis;have L:∀{t:T} (_:t.cB m=true) (i j k:Int),(t.lift i j k).cB m=true:=fun h i j k=>Qct h i j k
 exact Qa1 (by decide) ha (Qa1 (by decide) (Qa1 (by decide) hb (Qa1 (by decide) (L ha _ _ _) (L hb _ _ _))) (Qa1 (by decide) (Qa1 (by decide) (L hb _ _ _) (Qa1 (by decide) (L hp _ _ _) (Qa1 (by decide) (Qq2 _) (Qq2 _))))
  (Qa1 (by decide) (L hp _ _ _) (Qa1 (by decide) (Qq2 _) (Qq2 _)))))
theorem Wfr{m k:Int}{x y z:T}(hk:¬ k=3)(h:x.cB m=true)(h2:y.cB m=true)(h3:z.cB m=true):(ofT k [x,y,z]).cB m=true:=Qs7 hk fun w hw=>by
 simp only[List.mem_cons,List.not_mem_nil,or_false]at hw;rcases hw with rfl | rfl | rfl
 ·exact h
 ·exact h2
 ·exact h3
theorem Qv1(hl:ClC l)(hI:IA l I2 I1)(hK:KA l K2 K1){c:List T}{t:T}(hc:∀x,x∈c ->Cm l x)(ht:Cm l t){f:Int}(h0:0<=f):Agr (Cm l) (ruleR (l++more) n I2 K2 c t f) (ruleR l n I1 K1 c t f):=by
 have k:=fun i=>Qan ht i
 unfold ruleR;refine .ite (fun _=> .ok (Qct (Qs8 hc _) _ _ _) h0) fun _=>?_
 refine .ite (fun _=>by unfold Qdo;exact .ite (fun _=> .ok (Qu8 _) h0) fun _=> .err) fun _=>?_
 refine .ite (fun h3=>by unfold Qew;obtain⟨e1,e2⟩:=Qvl more hl (Qm4 ht h3) t.ls;rw[e1];exact .ok e2 h0) fun _=>?_
 refine .ite (fun _=>(Qbd more hl hI hc (k 0) f).next fun _ g _ _=>(Qbd more hl hI (Qj4 hc (k 0)) (k 1) g).next fun _ g _ hg=> .ok (Qu8 _) hg) fun _=>?_
 refine .ite (fun _=>(Qbd more hl hI hc (k 0) f).next fun _ g _ _=>(hI _ _ g (Qj4 hc (k 0)) (k 1)).next fun s g hs hg=> .ok (Qa1 (by decide) (k 0) hs) hg) fun _=>?_
 refine .ite (fun _=>(hI _ _ f hc (k 0)).next fun s g hs hg=>(Qed more hl hs 4 8 hg).next fun v g hv hg=>(hK _ _ _ g hc (k 1) hv.1).next fun _ g _ hg=>Qfw hv.2 (k 1) hg) fun _=>?_
 refine .ite (fun _=>(Qp8 more hl hI hK hc ht f).next fun u g hu _=>hI _ _ g hc hu) fun _=>?_
 refine .ite (fun _=>(hI _ _ f hc (k 0)).next fun s g hs hg=>(Qed more hl hs 12 9 hg).next fun v g hv hg=> .ite (fun _=> .ok hv.1 hg) fun _=>Qfw hv.2 (Wfs (by decide) (k 0)) hg) fun _=>?_
 have hT:Cm l (ofT 16 [t.kid 0,t.kid 1]):=Qa1 (by decide) (k 0) (k 1)
 refine .ite (fun _=>(Qbd more hl hI hc (k 0) f).next fun _ g _ _=>(Qbd more hl hI (Qj4 hc (k 0)) (k 1) g).next fun _ g _ _=>(hK _ _ _ g hc (k 4) hT).next fun _ g _ _ =>
  (Qjj more hl hI hc (k 2) hT g).next fun _ g _ _=>(hK _ _ _ g hc (k 3) (cB_step (k 0) (k 1) (k 2))).next fun _ g _ hg=> .ok (Qa1 (by decide) (k 2) (k 4)) hg) fun _=>?_
 refine .ite (fun _=>(Qbd more hl hI hc (k 0) f).next fun i g _ _=>(hK _ _ _ g hc (k 1) (k 0)).next fun _ g _ _=>(hK _ _ _ g hc (k 2) (k 0)).next fun _ g _ hg=> .ok (Qu8 _) hg) fun _=>?_
 refine .ite (fun _=>(Qbd more hl hI hc (k 0) f).next fun _ g _ _=>(hK _ _ _ g hc (k 1) (k 0)).next fun _ g _ _=>(hK _ _ _ g hc (k 4) (k 0)).next fun _ g _ _=>(hK _ _ _ g hc (k 5) (Wfr (by decide) (k 0) (k 1) (k 4))).next fun _ g _ _ =>
  (hI _ _ g hc (k 2)).next fun s g hs hg=>(Qed more hl hs 4 8 hg).next fun v g hv hg=>(Qf0 more hl hv.1 (k 0) 13 hg).next fun _ g _ hg=>(Qed more hl hv.2 4 8 hg).next fun w g hw hg =>
  (Qf0 more hl hw.1 (Wfr (by decide) (Qct (k 0) _ _ _) (Qct (k 1) _ _ _) (Qq2 _)) 13 hg).next fun _ g _ hg=>(Qoa more hl hw.2 hg).next fun _ g _ _ =>
  (hK _ _ _ g hc (k 3) (Qa1 (by decide) (Qa1 (by decide) (k 2) (k 1)) (Qs7 (by decide) fun y hy=>by cases hy))).next fun _ g _ hg=> .ok (Qa1 (by decide) (Qa1 (by decide) (k 2) (k 4)) (k 5)) hg) fun _=>?_
 refine .ite (fun _=> .ok (Qu8 _) h0) fun _=>?_
 refine .ite (fun _=> .ok (Wa9 _) h0) fun _=>?_
 exact .ite (fun _=>(hK _ _ _ f hc (k _) (Wa9 _)).next fun _ g _ _=>(Qjj more hl hI hc (k 0) (Wa9 _) g).next fun _ g _ hg=>(Qvb hK hc ht _ _ g hg).next fun _ g _ hg=> .ok (Qa1 (by decide) (k 0) (k _)) hg) fun _=> .err
theorem Wbm(hl:ClC l)(hI:IA l I2 I1)(hK:KA l K2 K1){c:List T}{t y:T}(hc:∀x,x∈c ->Cm l x)(ht:Cm l t)(hy:Cm l y){f:Int}(h0:0<=f):Agr (fun _=>True) (askR (l++more) I2 K2 c t y f) (askR l I1 K1 c t y f):=by
 have k:=fun i=>Qan ht i
 unfold askR;refine .ite (fun _=>(Qed more hl hy 4 8 h0).next fun v g hv _=>(Qbd more hl hI hc (k 0) g).next fun _ g _ hg=>(Qf0 more hl (k 0) hv.1 13 hg).next fun _ g _ _=>hK _ _ _ g (Qj4 hc (k 0)) (k 1) hv.2) fun _=>?_
 refine .ite (fun _=>(Qed more hl hy 12 9 h0).next fun v g hv _=>(hK _ _ _ g hc (k 0) hv.1).next fun _ g _ hg=>(Qfw hv.2 (k 0) hg).next fun z g hz _=>hK _ _ _ g hc (k 1) hz) fun _=>?_
 refine .ite (fun _=>(Qed more hl hy 16 10 h0).next fun v g hv _=>(hK _ _ _ g hc (k 0) hv.1).next fun _ g _ hg=>(Qfw hv.2 (k 0) hg).next fun z g hz _=>hK _ _ _ g hc (k 1) (Qa1 (by decide) hz (Qa1 (by decide) (Qct hv.1 _ _ _) (Qct hv.2 _ _ _)))) fun _=>?_
 refine .ite (fun _=>(Qol more hl hy h0).next fun x g hx hg=> .ite (fun _=>Qf0 more hl (Qan hx 1) (Qan hx 2) 11 hg) fun _=> .err) fun _=>?_
 refine .ite (fun _=>(Qp8 more hl hI hK hc ht f).next fun u g hu _=>hK _ _ _ g hc hu hy) fun _=>?_
 exact(hI _ _ f hc ht).next fun s g hs hg=>(Wd4 more hl hs hy hg).next fun is g _ hg=> .ite (fun _=> .ok trivial hg) fun _=> .err
theorem Qln(hl:ClC l)(n:Int):∀g:Nat,IA l (infT (l++more) n g) (infT l n g)/\KA l (chkT (l++more) n g) (chkT l n g)
 | 0=>⟨fun c t f _ _=> .err,fun c t y f _ _ _=> .err⟩
 | g+1=>by
  obtain⟨hI,hK⟩:=Qln hl n g;refine⟨fun c t f hc ht=>?_,fun c t y f hc ht hy=>?_⟩
  ·rw[Qeq,Qeq];exact .ite (fun _=> .err) fun h=>Qv1 more hl hI hK hc ht (by omega)
  ·rw[Qf6,Qf6];exact .ite (fun _=> .err) fun h=>Wbm more hl hI hK hc ht hy (by omega)
mutual
theorem Wa3{n:Int}{cs:List Int}:∀(t:T) (sc:Int),Qb1 n cs t sc=true ->t.cB cs.length=true
 | .mk k m a ls ks,sc,h=>by
  rw[Qb1,Bool.and_eq_true]at h;refine Ql8.2 ⟨fun h3=>?_,Qqw ks k 0 sc h.2⟩;subst h3;have h1:=h.1;unfold Qh4 at h1;rw[Bool.and_eq_true,Bool.and_eq_true]at h1;have h2:Ql9 n sc cs (T.mk 3 m a ls ks)=Qii n cs (T.mk 3 m a ls ks):=rfl;have h4:=h1.1.2;rw[h2]at h4;unfold Qii at h4;simp only[Bool.and_eq_true,decide_eq_true_eq]at h4;exact h4.1.1.1.2
theorem Qqw{n:Int}{cs:List Int}:∀(ks:List T) (k:Int) (i:Nat) (sc:Int),Qgy n cs ks k i sc=true ->∀t,t∈ks ->t.cB cs.length=true
 | [],_,_,_,_,t,ht=>by cases ht
 | x::r,k,i,sc,h,t,ht=>by
  rw[Qgy,Bool.and_eq_true]at h;rcases List.mem_cons.1 ht with e | ht
  ·rw[e];exact Wa3 x _ h.1
  ·exact Qqw r k (i+1) sc h.2 t ht
end
theorem Qt4{n sc:Int}{t:T}(h:Xq n sc (l.map C.lv) t=true):Cm l t:=by
 have:=Wa3 _ _ (Qb9.1 h).2.2
 rwa [List.length_map]at this
theorem Qv4{n:Int}{t:T}(hd:(0:Int)<=0/\Qrb 0 t)(h:Xq n 0 (l.map C.lv) t=true):Xq n 0 ((l++more).map C.lv) t=true:=by
 obtain⟨h1,h2,h3⟩:=Qb9.1 h;rw[List.map_append];exact Qb9.2 ⟨h1,h2,Wa1 (Int.le_refl _) (Qfj.append _ _) t 0 0 (Int.le_refl _) (Int.le_refl _) hd.2 h3⟩
theorem Qpc{α:Type}{P:α ->Prop}{n f:Int}{ts:List T}{r2 r1:Rs α}(hd:∀t,t∈ts ->Qrb 0 t)(hr:(∀t,t∈ts ->Cm l t) ->Agr P r2 r1):toldR l n [] f ts r1= .error 6\/toldR (l++more) n [] f ts r2=toldR l n [] f ts r1:=by
 unfold toldR;by_cases h:(0<=n/\n<=8)/\0<=f/\f<=1073741824
 ·rw[if_pos h,if_pos h];by_cases h2:(∀(i:Nat) (h:i<([]:List T).length),Xq n i (l.map C.lv) ([]:List T)[i]=true)/\(∀(i:Nat) (h:i<ts.length),Xq n (([]:List T).length:Nat) (l.map C.lv) ts[i]=true)
  ·right;rw[if_pos h2,if_pos ⟨fun i h=>by simp at h,fun i hi=>Qv4 more ⟨Int.le_refl _,hd _ (List.getElem_mem hi)⟩ (h2.2 i hi)⟩]
   exact(hr fun t ht=>by
    obtain⟨i,hi,rfl⟩:=List.getElem_of_mem ht
    exact Qt4 (h2.2 i hi)).1
  ·left;rw[if_neg h2]
 ·right;rw[if_neg h,if_neg h]
theorem Qx2(hl:ClC l){c:C}(hd:Qrb 0 c.ty)(f:Int):typR l c f= .error 6\/typR (l++more) c f=typR l c f:=by
 have:=Qpc (α:=LV) (P:=fun _=>True) more (l:=l) (n:=c.lv) (f:=f) (ts:= [c.ty]) (r2:=(sortR (l++more) (infT (l++more) c.lv (hgt f)) [] c.ty f).next fun i f=> .ok (Wf i,f)) (r1:=(sortR l (infT l c.lv (hgt f)) [] c.ty f).next fun i f=> .ok (Wf i,f))
  (fun t ht=>by rw[List.mem_singleton.1 ht];exact hd) (fun ht=>(Qbd more hl (Qln more hl c.lv (hgt f)).1 (fun x hx=>by cases hx) (ht _ (List.mem_singleton.2 rfl)) f).next fun i g _ hg=> .ok trivial hg)
 unfold typR;rcases this with h | h
 ·left;rw[show sortT l c.lv [] c.ty f= .error 6 from h];rfl
 ·right;rw[show sortT (l++more) c.lv [] c.ty f=sortT l c.lv [] c.ty f from h]
theorem Qxf(hl:ClC l){c:C}(hd:Qrb 0 c.ty)(hb:Qrb 0 c.bo)(f:Int):bodyR l c f= .error 6\/bodyR (l++more) c f=bodyR l c f:=by
 have:=Qpc (α:=Bool) (P:=fun _=>True) more (l:=l) (n:=c.lv) (f:=f) (ts:= [c.bo,c.ty]) (r2:=(chkT (l++more) c.lv (hgt f) [] c.bo c.ty f).next fun _ f=> .ok (true,f)) (r1:=(chkT l c.lv (hgt f) [] c.bo c.ty f).next fun _ f=> .ok (true,f))
  (fun t ht=>by
   simp only[List.mem_cons,List.not_mem_nil,or_false]at ht;rcases ht with rfl | rfl
   ·exact hb
   ·exact hd) (fun ht=>((Qln more hl c.lv (hgt f)).2 [] c.bo c.ty f (fun x hx=>by cases hx) (ht _ (by simp)) (ht _ (by simp))).next fun i g _ hg=> .ok trivial hg)
 unfold bodyR;by_cases hh:c.has=true
 ·rw[if_pos hh,if_pos hh];rcases this with h | h
  ·left;rw[show checkT l c.lv [] c.bo c.ty f= .error 6 from h];rfl
  ·right;rw[show checkT (l++more) c.lv [] c.bo c.ty f=checkT l c.lv [] c.bo c.ty f from h]
 ·rw[if_neg hh,if_neg hh];exact .inr rfl
theorem Qw7(hl:ClC l){c:C}(hd:Qrb 0 c.ty)(hb:Qrb 0 c.bo)(f:Int):declR l c f= .error 6\/declR (l++more) c f=declR l c f:=by
 unfold declR;cases h1:Qb6 c f with
 | error e=>exact .inr rfl
 | ok v =>
  obtain⟨u,g⟩:=v;simp only[Rs.next_ok];rcases Qx2 more hl hd g with h2 | h2
  ·left;rw[h2];rfl
  ·rw[h2];cases h3:typR l c g with
   | error e=>exact .inr rfl
   | ok v =>
    obtain⟨u,q⟩:=v;simp only[Rs.next_ok];exact Qxf more hl hd hb q
end
theorem cB_le{m m':Int}(hm:m<=m')(t:T):t.cB m=true ->t.cB m'=true:=by
 induction t using T.ind with
 | h k n a ls ks ih =>
  intro h;obtain⟨h1,h2⟩:=Ql8.1 h;exact Ql8.2 ⟨fun e=>by have:=h1 e;omega,fun t ht=>ih t ht (h2 t ht)⟩
theorem Qx5{α:Type}{l:List C}{n f:Int}{ts:List T}{r:Rs α}(h:toldR l n [] f ts r≠ .error 6)(h2:toldR l n [] f ts r≠ .error 2):∀t,t∈ts ->Cm l t:=by
 unfold toldR at h h2;split at h
 ·split at h
  ·rename_i h3;intro t ht;obtain⟨i,hi,rfl⟩:=List.getElem_of_mem ht;exact Qt4 (h3.2 i hi)
  ·exact absurd rfl h
 ·rename_i h3;rw[if_neg h3]at h2;exact absurd rfl h2
theorem decl_cB{l:List C}{c:C}{f:Int}{v:Unit×Int}(h:declR l c f= .ok v):Cm l c.ty/\Cm l c.bo:=by
 unfold declR at h;obtain⟨g,q⟩:=v;obtain⟨u1,f1,h1,h⟩:=Rs.next_some h;obtain⟨u2,f2,h2,h3⟩:=Rs.next_some h;have ht:Cm l c.ty:=by
  unfold typR at h2;refine Qx5 (l:=l) (n:=c.lv) (f:=f1) (ts:= [c.ty]) (r:=(sortR l (infT l c.lv (hgt f1)) [] c.ty f1).next fun i f=> .ok (Wf i,f)) (fun e=>?_) (fun e=>?_) _ (List.mem_singleton.2 rfl)
  ·rw[show sortT l c.lv [] c.ty f1= .error 6 from e]at h2;simp at h2
  ·rw[show sortT l c.lv [] c.ty f1= .error 2 from e]at h2;simp at h2
 refine⟨ht,?_⟩;by_cases hh:c.has=true
 ·unfold bodyR at h3;rw[if_pos hh]at h3;refine Qx5 (l:=l) (n:=c.lv) (f:=f2) (ts:= [c.bo,c.ty]) (r:=(chkT l c.lv (hgt f2) [] c.bo c.ty f2).next fun _ f=> .ok (true,f)) (fun e=>?_) (fun e=>?_) _ (by simp)
  ·rw[show checkT l c.lv [] c.bo c.ty f2= .error 6 from e]at h3;simp at h3
  ·rw[show checkT l c.lv [] c.bo c.ty f2= .error 2 from e]at h3;simp at h3
 ·unfold Qb6 at h1;split at h1
  ·rename_i h4;have hb:Qz9 c.bo=true:=h4.2.2.resolve_left hh;unfold Qz9 at hb;simp only[Bool.and_eq_true,decide_eq_true_eq]at hb;obtain⟨lv,ty,has,⟨k,n,a,ls,ks⟩⟩:=c;have hk:k=0:=hb.1.1.1.1;have hks:ks= []:=List.eq_nil_of_length_eq_zero hb.2;subst hk hks;exact Ql8.2 ⟨fun e=>absurd e (by decide),fun t ht=>by cases ht⟩
  ·cases h1
theorem Qym{l:List C}:∀(m k:Nat) (f g:Int),k+m=l.length ->(∀(i:Nat) (h:i<k) (hi:i<l.length),Cm (l.take i) l[i].ty/\Cm (l.take i) l[i].bo) ->rowR l m k f= .ok g ->∀(i:Nat) (hi:i<l.length),Cm (l.take i) l[i].ty/\Cm (l.take i) l[i].bo
 | 0,k,f,g,hk,h,hr=>fun i hi=>h i (by omega) hi
 | m+1,k,f,g,hk,h,hr=>by
  rw[rowR]at hr;split at hr
  ·rename_i v q hd;have hkl:k<l.length:=by omega
   rw[show l.getD k Qhn=l[k] by simp[List.getD_eq_getElem?_getD,hkl]]at hd;refine Qym m (k+1) q g (by omega) (fun i h1 hi=>?_) hr;by_cases hik:i=k
   ·subst hik;exact decl_cB hd
   ·exact h i (by omega) hi
  ·cases hr
theorem clC_of{l:List C}{f g:Int}(h:rowsR l 0 f= .ok g):ClC l:=by
 unfold rowsR at h;split at h
 ·intro c hc;obtain⟨i,hi,rfl⟩:=List.getElem_of_mem hc;obtain⟨a,b⟩:=Qym _ 0 f g (by omega) (fun i h=>absurd h (by omega)) h i hi;unfold Cm at a b;have hle:((l.take i).length:Int)<=l.length:=by rw[List.length_take];omega
  exact⟨cB_le hle _ a,cB_le hle _ b⟩
 ·cases h
end Go.Proofs.YtgloldepdhgfaaaGreatDoor
namespace Go.Proofs.YtgloldepdhgfaaaGreatDoor
set_option linter.unusedSimpArgs false
set_option linter.unusedVariables false
set_option linter.unusedSimpArgs false
set_option linter.unusedVariables false
set_option maxHeartbeats 10000000
set_option maxRecDepth 20000
open Go.RowKit
attribute [local simp] Qx Qm Qo Qp Wn Xg opD Wc Qr Qw Wi hOf Wj Xf Xd TK.isAgg TK.known Ws Wk Qz Qh D.ofV inB Qy Wp Xy Za Zg Xc Xw Zh IntKind.min IntKind.max IntKind.signed IntKind.bits Wm Xz
def gr10(c:C):Bool:=decide (60<c.bo.dp 60) || decide (60<c.ty.dp 60)
theorem Ql6(l:List C)(hl:l.length<=Ql)(hls:∀c,c∈l ->okC c):Sp 41 [Cs l, .int .i64 800] [] (rt (.int .i64 (Qe0 Qf5 800 l 0))):=Qsy l 800 Qf5 hl (fun _ _=>rfl) (fun c hc _=>hls c hc)
theorem Qql(l:List C)(hl:l.length<=Ql)(hls:∀c,c∈l ->okC c):∃b,Sp 21 [Cs l] [] (rt (.bool b))/\(b=false ->¬ Qe0 Qf5 800 l 0 > 800):=by
 have h:=Ql6 l hl hls;generalize Qe0 Qf5 800 l 0=v at h⊢;obtain⟨g,hg⟩:∃g,g=decide (800<v):=⟨_,rfl⟩
 refine⟨(l.take 800).any gr10 || g,?_,fun hb=>by
  intro h4;rw[hg,decide_eq_true (show 800<v by omega)]at hb
  simp at hb⟩
 have hl0:=hl;unfold Ql at hl0;unfold Cs at h;unfold Cs;obtain⟨R,hR⟩:∃R,R=((l.take 800).any gr10 || g):=⟨_,rfl⟩;rw[<- hR];have hE:∀c,Qbj c= .agg [.int .i64 c.lv, .int .i64 c.ty.k, .int .i64 c.ty.n, .int .i64 c.ty.a, .slice (c.ty.ls.map Qn) .any, .slice (c.ty.ks.map Qj) .any, .bool c.has, .int .i64 c.bo.k, .int .i64 c.bo.n, .int .i64 c.bo.a, .slice (c.bo.ls.map Qn) .any, .slice (c.bo.ks.map Qj) .any]:=fun c=>Qax c
 refine eN Tryz.func21 rfl (by decide) rfl rfl ?_;(refine sI fun K Z=>?_;(repeat rw[Qa];simp);refine Z ?_;clear Z K);refine Qc fun K1a hK1a=>?_
 (refine sI fun K Z=>?_;(repeat rw[Qa];simp);refine Z ?_;clear Z K);refine Wd ?_;refine Qbb [2,4,5,6,7,8,9,10,11,12,13,14,15,16,17,18,19,20,21,22,23,24,25,26,27,28,29] [3] (fun n ys hl=>∃(k:Nat),ys= [.int .i64 k]/\n+k=l.length/\R=(((l.take 800).drop k).any gr10 || g)/\hl= []) (l.length) (by kernel_rfl) ?_ ?_
 ·exact⟨0,rfl,rfl,hR,rfl⟩
 ·rintro n1 ys hl A1 hA1 ⟨i,rfl,hn,hF,rfl⟩;have hA:=hA1;simp only[Qh,List.set,List.map_cons,List.map_nil,List.cons_append,List.nil_append];refine Qc fun K1b hK1b=>?_
  by_cases hi:i<l.length
  ·have hi':(i:Int)<l.length:=by omega
   by_cases h6:i<800
   ·have h6':(i:Int)<800:=by omega
    have hti:i<(l.take 800).length:=by rw[List.length_take];omega
    rw[List.drop_eq_getElem_cons hti,List.any_cons,List.getElem_take]at hF;obtain⟨x,hx⟩:∃x,l[i]=x:=⟨_,rfl⟩;have hxo:okC x:=by rw[<- hx];exact hls _ (List.getElem_mem hi)
    rw[hx]at hF;have hg1:gr10 x=(decide (60<x.bo.dp 60) || decide (60<x.ty.dp 60)):=rfl;rw[hg1]at hF;have d1:=Qqt x.bo 60 hxo.2.2;have d2:=Qqt x.ty 60 hxo.2.1;rw[Qb x.bo]at d1;rw[Qb x.ty]at d2;have hEx:=hE x;generalize x.bo.dp 60=w1 at d1 hF;generalize x.ty.dp 60=w2 at d2 hF;(refine sI fun K Z=>?_;(repeat rw[Qa];simp[hi,hi',h6,h6']);refine Z ?_;clear Z K);refine pT rfl ?_;refine Qg (hK1b _ _ _ ?_);clear hK1b K1b;refine Qc fun K1c hK1c=>?_
    refine Wd ?_;by_cases hw:60<w1
    ·(refine sR fun K hK=>?_;(repeat rw[Qa];simp[hi,hi',hx,hEx]));refine cXr (d1) ?_
     (repeat rw[Qa];simp[hw])
     (refine hK _ _ _ ?_;clear hK K);refine pT rfl ?_;(refine sI fun K Z=>?_;(repeat rw[Qa];simp);refine Z ?_;clear Z K);(refine Qe ?_;(try simp only[zs]);refine Qk.ret rfl (.inl ?_);simp[zM]);rw[hF];simp[hw]
    ·by_cases hw2:60<w2
     ·(refine sR fun K hK=>?_;(repeat rw[Qa];simp[hi,hi',hx,hEx]));refine cXr (d1) ?_
      (repeat rw[Qa];simp[hi,hi',hx,hEx,hw])
      refine cXr (d2) ?_
      (repeat rw[Qa];simp[hw,hw2])
      (refine hK _ _ _ ?_;clear hK K);refine pT rfl ?_;(refine sI fun K Z=>?_;(repeat rw[Qa];simp);refine Z ?_;clear Z K);(refine Qe ?_;(try simp only[zs]);refine Qk.ret rfl (.inl ?_);simp[zM]);rw[hF];simp[hw,hw2]
     ·(refine sR fun K hK=>?_;(repeat rw[Qa];simp[hi,hi',hx,hEx]));refine cXr (d1) ?_
      (repeat rw[Qa];simp[hi,hi',hx,hEx,hw])
      refine cXr (d2) ?_
      (repeat rw[Qa];simp[hw,hw2])
      (refine hK _ _ _ ?_;clear hK K);refine pF rfl ?_;refine Qg (hK1c _ _ _ ?_);clear hK1c K1c;have hw1:IntKind.i64.wrap ((i:Int)+1)=(i:Int)+1:=Qbu (by omega) (by omega);(refine Qi Wa ?_;(repeat rw[Qa];simp[hw1]));refine hA (n1 - 1) _ _ _ (LeT.refl _) (by omega) (by kernel_rfl) ?_;exact⟨i+1,rfl,by omega,by rw[hF];simp[hw,hw2],rfl⟩
   ·have h6':¬ (i:Int)<800:=by omega
    (refine sI fun K Z=>?_;(repeat rw[Qa];simp[hi,hi',h6,h6']);refine Z ?_;clear Z K);refine pF rfl ?_;refine Qad ?_;refine hK1a _ _ _ ?_;clear hK1b K1b;rw[List.drop_of_length_le (by rw[List.length_take];omega)]at hF;(refine sR fun K hK=>?_;(repeat rw[Qa];simp));refine cXr (h) ?_
    (repeat rw[Qa];simp)
    (refine hK _ _ _ ?_;clear hK K);(refine Qe ?_;(try simp only[zs]);refine Qk.ret rfl (.inl ?_);simp[zM]);rw[hF,hg];simp
  ·have hi':¬ (i:Int)<l.length:=by omega
   (refine sI fun K Z=>?_;(repeat rw[Qa];simp[hi,hi']);refine Z ?_;clear Z K);refine pF rfl ?_;refine Qad ?_;refine hK1a _ _ _ ?_;clear hK1b K1b;rw[List.drop_of_length_le (by rw[List.length_take];omega)]at hF;(refine sR fun K hK=>?_;(repeat rw[Qa];simp));refine cXr (h) ?_
   (repeat rw[Qa];simp)
   (refine hK _ _ _ ?_;clear hK K);(refine Qe ?_;(try simp only[zs]);refine Qk.ret rfl (.inl ?_);simp[zM]);rw[hF,hg];simp
theorem Wch(n:Int):Sp 58 [.int .i64 n] [] (rt (Qj (Qeh n))):=by
 unfold Qeh;rw[Qfg];refine eN Tryz.func58 rfl (by decide) rfl rfl ?_;(refine sI fun K Z=>?_;(repeat rw[Qa];simp);refine Z ?_;clear Z K);(refine sI fun K Z=>?_;(repeat rw[Qa];simp);refine Z ?_;clear Z K);(refine Qe ?_;(try simp only[zs]);refine Qk.ret rfl (.inl ?_);simp[zM])
theorem Qw5(n:Int):Sp 57 [.int .i64 n] [] (rt (Qj (Qju n))):=by
 unfold Qju;rw[Qfg];refine eN Tryz.func57 rfl (by decide) rfl rfl ?_;(refine sI fun K Z=>?_;(repeat rw[Qa];simp);refine Z ?_;clear Z K);(refine sI fun K Z=>?_;(repeat rw[Qa];simp);refine Z ?_;clear Z K);(refine Qe ?_;(try simp only[zs]);refine Qk.ret rfl (.inl ?_);simp[zM])
theorem Qrq(v p:Int):Sp 56 [.int .i64 v, .int .i64 p] [] (rt (Qj (Qck v p))):=by
 unfold Qck;refine Spec.deepR (e:= .agg [.int .i64 2, .int .i64 0, .int .i64 0, .slice [.agg [.slice [.agg [.int .i64 v, .int .i64 p]] .full]] .any, .slice [] .any]) ?_ ?_
 rotate_left
 ·rw[Qfg];simp only[List.map_cons,List.map_nil,D.deep,D.deeps,Qn,Wv]
 refine eN Tryz.func56 rfl (by decide) rfl rfl ?_;(refine sI fun K Z=>?_;(repeat rw[Qa];simp);refine Z ?_;clear Z K);(refine sI fun K Z=>?_;(repeat rw[Qa];simp);refine Z ?_;clear Z K);(refine Qe ?_;(try simp only[zs]);refine Qk.ret rfl (.inl ?_);simp[zM])
theorem Wdm{a b:Int}(ha:I64 a)(hb:I64 b):okL [(a,b)]:=⟨by unfold Ql;simp,fun p hp=>by rw[List.mem_singleton.1 hp];exact⟨ha,hb⟩⟩
theorem Quc{lv:Int}{ty bo:T}{has:Bool}(h:I64 lv)(h1:okT ty)(h2:okT bo):okC ⟨lv,ty,has,bo⟩:=⟨h,h1,h2⟩
theorem Qt0{v p:Int}(h:0<=v/\v<=100)(h2:0<=p/\p<=100):okT (Qck v p):= .mk Qdc Qdc Qdc (by unfold Ql;simp) (fun l hl=>by rw[List.mem_singleton.1 hl];exact Wdm Qdc Qdc) (by unfold Ql;simp) (fun _ h=>nomatch h)
theorem Qsn{k n:Int}(hk:0<=k/\k<=100)(h:0<=n/\n<=100):okT (.mk k n 0 [] []):= .mk Qdc Qdc Qdc (by unfold Ql;simp) (fun _ h=>nomatch h) (by unfold Ql;simp) (fun _ h=>nomatch h)
theorem Qyo{c:C}(h:okC c)(h1:c.ty.nsz<=14000)(h2:c.bo.nsz<=14000):RowOk ([]++ [c]):=⟨by simp,fun x hx=>by simp at hx;subst hx;exact⟨h,h1,h2⟩⟩
theorem Qq6:Sp 20 [] [] (rt (.bool true)):=by
 have ok1:okC Qre:=Quc Qdc (Qt0 (by omega) (by omega)) (Qsn (by omega) (by omega));have ok2:okC Qxe:=Quc Qdc (Qsn (by omega) (by omega)) Qc6;have ok3:okC Qq4:=Quc Qdc (Qsn (by omega) (by omega)) Qc6;have ok4:okC Qou:=Quc Qdc (Qt0 (by omega) (by omega)) Qc6;have a1:=Qim (Qyo ok1 (by decide +kernel) (by decide +kernel)) (f:=10) (by omega);have a2:=Qim (Qyo ok2 (by decide +kernel) (by decide +kernel)) (f:=10) (by omega)
 have a3:=Qq9 (l:= [Qou,Qq4]) ⟨by simp,fun x hx=>by
  simp only[List.mem_cons,List.not_mem_nil,or_false]at hx;rcases hx with rfl | rfl
  ·exact⟨ok4,by decide +kernel,by decide +kernel⟩
  ·exact⟨ok3,by decide +kernel,by decide +kernel⟩⟩ (f:=10) (by omega)
 unfold addD at a1 a2;unfold allD at a3;rw[We0]at a1;rw[Wez]at a2;rw[We1]at a3;dsimp only at a1 a2 a3;rw[if_pos ⟨by omega,by omega⟩]at a3;have s0:=Qrq 0 0;have f2:=Qw5 2;have v0:=Wch 0;have L1:1<=Ql:=by unfold Ql;omega
 have L2:2<=Ql:=by unfold Ql;omega
 unfold Cs at a1 a2 a3;simp only[List.nil_append,List.map_cons,List.map_nil]at a1 a2 a3;have e1:=Qax Qre;have e2:=Qax Qxe;have e3:=Qax Qq4;have e4:=Qax Qou;have t0:=Qb (Qck 0 0);have t2:=Qb (Qju 2);have tv:=Qb (Qeh 0);rw[e1]at a1;rw[e2]at a2;rw[e3,e4]at a3;rw[t0]at s0;rw[t2]at f2;rw[tv]at v0;simp only[Qre,Qxe,Qq4,Qou,Xa,T.k_mk,T.n_mk,T.a_mk,T.ls_mk,T.ks_mk,List.map_nil]at a1 a2 a3;generalize Qck 0 0=S at s0 a1 a3;generalize Qju 2=F at f2 a1;generalize Qeh 0=V at v0 a3;refine eN Tryz.func20 rfl (by decide) rfl rfl ?_;(refine sI fun K Z=>?_;(repeat rw[Qa];simp);refine Z ?_;clear Z K);(refine sR fun K hK=>?_;(repeat rw[Qa];simp));refine cXr (s0) ?_
 (repeat rw[Qa];simp)
 refine cXr (f2) ?_
 (repeat rw[Qa];simp)
 refine cXr (a1) ?_
 (repeat rw[Qa];simp)
 (refine hK _ _ _ ?_;clear hK K);(refine sR fun K hK=>?_;(repeat rw[Qa];simp));refine cXr (a2) ?_
 (repeat rw[Qa];simp)
 (refine hK _ _ _ ?_;clear hK K);(refine sR fun K hK=>?_;(repeat rw[Qa];simp));refine cXr (s0) ?_
 (repeat rw[Qa];simp)
 refine cXr (v0) ?_
 (repeat rw[Qa];simp[L2])
 refine Wl.pureD Qf (a3) ?_ (by simp[D.deeps,D.deep,D.fgts,D.fgt]) (by simp[D.pures,D.pure,Cp.free,D.pures_map]) (by simp[Out.pure,D.pure,D.pures,Cp.free,D.pures_map]);(try simp only[zr]);(repeat rw[Qa];simp);(refine hK _ _ _ ?_;clear hK K);(refine sI fun K Z=>?_;(repeat rw[Qa];simp);refine Z ?_;clear Z K);(refine Qe ?_;(try simp only[zs]);refine Qk.ret rfl (.inl ?_);simp[zM])
def C.eqB(a b:C):Bool:=decide (a.lv=b.lv) && a.ty.eqB b.ty && decide (a.has=b.has) && a.bo.eqB b.bo
theorem C.eqB_self(c:C):c.eqB c=true:=by unfold C.eqB;simp[(T.eqB_iff _ _).2]
theorem Qm0{α:Type}{p:α ->α ->Bool}(h:∀x,p x x=true):∀l:List α,Qa3 p l l=true
 | []=>rfl
 | a::r=>by rw[Qa3,h a,Qm0 h r];rfl
theorem Quy(c d:C)(hc:okC c)(hd:okC d):Sp 27 [Qbj c,Qbj d] [] (rt (.bool (c.eqB d))):=by
 have h1:=Qux c.ty d.ty hc.2.1 hd.2.1;have h2:=Qux c.bo d.bo hc.2.2 hd.2.2;unfold C.eqB;rw[Qb c.ty,Qb d.ty]at h1;rw[Qb c.bo,Qb d.bo]at h2;rw[Qax c,Qax d];generalize c.ty.eqB d.ty=B1 at h1⊢;generalize c.bo.eqB d.bo=B2 at h2⊢;refine eN Tryz.func27 rfl (by decide) rfl rfl ?_;(refine sI fun K Z=>?_;(repeat rw[Qa];simp);refine Z ?_;clear Z K);by_cases q1:c.lv=d.lv
 ·cases B1 with
  | true =>
   (refine sR fun K hK=>?_;(repeat rw[Qa];simp[q1]));refine cXr (h1) ?_
   (repeat rw[Qa];simp[q1,Qr9])
   by_cases q3:c.has=d.has
   ·iterate 5 rw[if_pos q3]
    refine cXr (h2) ?_
    (repeat rw[Qa];simp[q3])
    (refine hK _ _ _ ?_;clear hK K);(refine Qe ?_;(try simp only[zs]);refine Qk.ret rfl (.inl ?_);simp[zM]);simp[q1,q3]
   ·repeat(first | rw[if_neg q3] | refine⟨q3,?_⟩)
    (refine hK _ _ _ ?_;clear hK K);(refine Qe ?_;(try simp only[zs]);refine Qk.ret rfl (.inl ?_);simp[zM]);simp[q3]
  | false =>
   (refine sR fun K hK=>?_;(repeat rw[Qa];simp[q1]));refine cXr (h1) ?_
   (repeat rw[Qa];simp[q1])
   (refine hK _ _ _ ?_;clear hK K);(refine Qe ?_;(try simp only[zs]);refine Qk.ret rfl (.inl ?_);simp[zM])
 ·(refine sI fun K Z=>?_;(repeat rw[Qa];simp[q1]);refine Z ?_;clear Z K);(refine Qe ?_;(try simp only[zs]);refine Qk.ret rfl (.inl ?_);simp[zM]);simp[q1]
theorem Qnv(p:C ->C ->Bool)(l m:List (C))(hl:l.length<=Ql)(hm:m.length<=Ql)(hg:∀x y,x∈l ->y∈m ->Sp 27 [Qbj x,Qbj y] [] (rt (.bool (p x y)))) :
  Sp 26 [.slice (l.map Qbj) .any, .slice (m.map Qbj) .any] [] (rt (.bool (Qa3 p l m))):=by
 obtain⟨R,hR⟩:∃R,R=Qa3 p l m:=⟨_,rfl⟩;rw[<- hR];have hl0:=hl;unfold Ql at hl0;refine eN Tryz.func26 rfl (by decide) rfl rfl ?_;(refine sI fun K Z=>?_;(repeat rw[Qa];simp);refine Z ?_;clear Z K);refine Qc fun K1 hK1=>?_
 by_cases hlen:l.length=m.length
 ·have hlen':(l.length:Int)=m.length:=by omega
  (refine sI fun K Z=>?_;(repeat rw[Qa];simp[hlen,hlen']);refine Z ?_;clear Z K);refine pF rfl ?_;refine Qg (hK1 _ _ _ ?_);clear hK1 K1;refine Qc fun K1 hK1=>?_
  (refine sI fun K Z=>?_;(repeat rw[Qa];simp);refine Z ?_;clear Z K);refine Wd ?_;refine Qbb [4,11,12,13,14,15,16,17,18,19,20,21,22,23,24,25,26] [5] (fun n ys hl=>∃(k:Nat),ys= [.int .i64 k]/\n+k=l.length/\R=Qa3 p (l.drop k) (m.drop k)/\hl= []) (l.length) (by kernel_rfl) ?_ ?_
  ·exact⟨0,rfl,rfl,hR,rfl⟩
  ·rintro n ys hl A hA ⟨i,rfl,hn,hF,rfl⟩;simp only[Qh,List.set,List.map_cons,List.map_nil,List.cons_append,List.nil_append];refine Qc fun K2 hK2=>?_
   by_cases hi:i<l.length
   ·have hi2:i<m.length:=by omega
    have hi':(i:Int)<l.length:=by omega
    have hi2':(i:Int)<m.length:=by omega
    (refine sI fun K Z=>?_;(repeat rw[Qa];simp[hi,hi']);refine Z ?_;clear Z K);refine pT rfl ?_;refine Qg (hK2 _ _ _ ?_);clear hK2 K2;refine Qc fun K3 hK3=>?_
    refine Wd ?_;rw[Qeu hi hi2]at hF;have hrec:=hg l[i] m[i] (List.getElem_mem hi) (List.getElem_mem hi2);obtain⟨x,hx⟩:∃x,l[i]=x:=⟨_,rfl⟩;obtain⟨y,hy⟩:∃y,m[i]=y:=⟨_,rfl⟩;rw[hx,hy]at hrec hF;have hEx:=Qax x;have hEy:=Qax y;rw[hEx,hEy]at hrec;generalize p x y=B at hrec hF;(refine Qc fun K hK=>?_;refine dR fun KT hKT=>?_;(repeat rw[Qd];simp[hi,hi',hx,hi2,hi2',hy,hEx,hEy]));refine cYp (hrec) ?_;(try simp only[zq]);(repeat rw[Qd];simp);(refine hKT _ _ _ _ (by kernel_rfl) ?_;clear hKT KT);(refine hK _ _ _ ?_;clear hK K);cases B with
    | true =>
     refine pF rfl ?_;refine Qg (hK3 _ _ _ ?_);clear hK3 K3;have hw1:IntKind.i64.wrap ((i:Int)+1)=(i:Int)+1:=Qbu (by omega) (by omega);(refine Qi Wa ?_;(repeat rw[Qa];simp[hw1]));refine hA (n - 1) _ _ _ (LeT.refl _) (by omega) (by kernel_rfl) ?_;exact⟨i+1,rfl,by omega,by simpa using hF,rfl⟩
    | false =>
     refine pT rfl ?_;(refine sI fun K Z=>?_;(repeat rw[Qa];simp);refine Z ?_;clear Z K);(refine Qe ?_;(try simp only[zs]);refine Qk.ret rfl (.inl ?_);simp[zM]);simpa using hF
   ·have hi':¬ (i:Int)<l.length:=by omega
    (refine sI fun K Z=>?_;(repeat rw[Qa];simp[hi,hi']);refine Z ?_;clear Z K);refine pF rfl ?_;refine Qad ?_;refine hK1 _ _ _ ?_;rw[List.drop_of_length_le (by omega),List.drop_of_length_le (by omega)]at hF;have hF':R=true:=hF;subst hF';(refine sI fun K Z=>?_;(repeat rw[Qa];simp);refine Z ?_;clear Z K);(refine Qe ?_;(try simp only[zs]);refine Qk.ret rfl (.inl ?_);simp[zM])
 ·have hlen':¬ (l.length:Int)=m.length:=by omega
  (refine sI fun K Z=>?_;(repeat rw[Qa];simp[hlen,hlen']);refine Z ?_;clear Z K);refine pT rfl ?_;(refine sI fun K Z=>?_;(repeat rw[Qa];simp);refine Z ?_;clear Z K);(refine Qe ?_;(try simp only[zs]);refine Qk.ret rfl (.inl ?_);simp[zM]);rw[hR];exact Qet hlen
theorem Wan(l m:List C)(hl:l.length<=Ql)(hm:m.length<=Ql)(hls:∀c,c∈l ->okC c)(hms:∀c,c∈m ->okC c):Sp 26 [Cs l,Cs m] [] (rt (.bool (Qa3 C.eqB l m))) :=
 Qnv C.eqB l m hl hm fun x y hx hy=>Quy x y (hls x hx) (hms y hy)
theorem Wao(l:List C)(hl:l.length<=Ql)(hls:∀c,c∈l ->okC c):Sp 26 [Cs l,Cs l] [] (rt (.bool true)):=by
 have:=Wan l l hl hl hls hls
 rwa [Qm0 C.eqB_self]at this
end Go.Proofs.YtgloldepdhgfaaaGreatDoor
