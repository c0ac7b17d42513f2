/-
  MA6: the texts If7 If8 If9 Ifa Ifb Kon Ddl Ifc Ifi Ja Jb Jc Jd Je Jf Jg Jp Jh Jk, one behind the other.
-/
import Derived.Test.YtgloldepdhgfaaaGreatDoorMA5
namespace Go.Proofs.YtgloldepdhgfaaaGreatDoor
set_option linter.unusedSimpArgs false
set_option linter.unusedVariables false
set_option linter.unusedSimpArgs false
set_option linter.unusedVariables false
set_option maxHeartbeats 10000000
set_option maxRecDepth 20000
open Go.RowKit
attribute [local simp] Qx Qm Qo Qp Wn Xg opD Qz Qr Qw Wi hOf Wj Xf Xd TK.isAgg TK.known Ws Wk Wc Qh D.ofV inB Wb Wp Xx Xz Zg Xc Xv Zh IntKind.min IntKind.max IntKind.signed IntKind.bits Wl Xy
set_option maxHeartbeats 16000000 in
theorem Qvq{a b p:T}(oa:okT a)(ob:okT b)(op:okT p)(ha:a.pot<=PM)(hb:b.pot<=PM)(hp:p.pot<=PM):Sp 205 [Qj a,Qj b,Qj p] [] (rt (Qj (Qjm a b p))):=by
 have L2:2<=Ql:=by unfold Ql;omega
 have hEa:=Qb a;have hEb:=Qb b;have hEp:=Qb p;have ov0:=Qno 0;obtain⟨v0,wv0⟩:∃v0,Qd5 0=v0:=⟨_,rfl⟩;have hEv0:=Qb v0;simp only [wv0,List.map_cons,List.map_nil,hEv0]at ov0;have ov1:=Qno 1;obtain⟨v1,wv1⟩:∃v1,Qd5 1=v1:=⟨_,rfl⟩;have hEv1:=Qb v1;simp only [wv1,List.map_cons,List.map_nil,hEv1]at ov1;have ov2:=Qno 2;obtain⟨v2,wv2⟩:∃v2,Qd5 2=v2:=⟨_,rfl⟩;have hEv2:=Qb v2;simp only [wv2,List.map_cons,List.map_nil,hEv2]at ov2;have op3:=Qez p 3 op (by omega);obtain⟨p3,wp3⟩:∃p3,p.lift 3 0 0=p3:=⟨_,rfl⟩;have hEp3:=Qb p3;simp only [wp3,List.map_cons,List.map_nil,hEp,hEp3]at op3;have oa2:=Qez a 2 oa (by omega);obtain⟨a2,wa2⟩:∃a2,a.lift 2 0 0=a2:=⟨_,rfl⟩;have hEa2:=Qb a2;simp only [wa2,List.map_cons,List.map_nil,hEa,hEa2]at oa2;have ob2:=Qbu b 2 1 (by have:=b.deep_nsz;have:=Qd2 b;unfold PM at hb;unfold DM;omega) ob;obtain⟨b2,wb2⟩:∃b2,b.lift 2 1 0=b2:=⟨_,rfl⟩;have hEb2:=Qb b2;simp only [wb2,List.map_cons,List.map_nil,hEb,hEb2]at ob2;have ob1:=Qez b 1 ob (by omega);obtain⟨b1,wb1⟩:∃b1,b.lift 1 0 0=b1:=⟨_,rfl⟩;have hEb1:=Qb b1;simp only [wb1,List.map_cons,List.map_nil,hEb,hEb1]at ob1;have ou1:=Ze 16 [a2,b2];obtain⟨u1,wu1⟩:∃u1,ofT 16 [a2,b2]=u1:=⟨_,rfl⟩;have hEu1:=Qb u1;simp only [wu1,List.map_cons,List.map_nil,hEa2,hEb2,hEu1]at ou1;have ou2:=Ze 4 [b,u1];obtain⟨u2,wu2⟩:∃u2,ofT 4 [b,u1]=u2:=⟨_,rfl⟩;have hEu2:=Qb u2;simp only [wu2,List.map_cons,List.map_nil,hEb,hEu1,hEu2]at ou2;have ou3:=Ze 6 [v1,v0];obtain⟨u3,wu3⟩:∃u3,ofT 6 [v1,v0]=u3:=⟨_,rfl⟩;have hEu3:=Qb u3;simp only [wu3,List.map_cons,List.map_nil,hEv1,hEv0,hEu3]at ou3;have ou4:=Ze 6 [p3,u3];obtain⟨u4,wu4⟩:∃u4,ofT 6 [p3,u3]=u4:=⟨_,rfl⟩;have hEu4:=Qb u4;simp only [wu4,List.map_cons,List.map_nil,hEp3,hEu3,hEu4]at ou4;have ou5:=Ze 4 [b1,u4];obtain⟨u5,wu5⟩:∃u5,ofT 4 [b1,u4]=u5:=⟨_,rfl⟩;have hEu5:=Qb u5;simp only [wu5,List.map_cons,List.map_nil,hEb1,hEu4,hEu5]at ou5;have ou6:=Ze 17 [v2,v1];obtain⟨u6,wu6⟩:∃u6,ofT 17 [v2,v1]=u6:=⟨_,rfl⟩;have hEu6:=Qb u6;simp only [wu6,List.map_cons,List.map_nil,hEv2,hEv1,hEu6]at ou6;have ou7:=Ze 6 [p3,u6];obtain⟨u7,wu7⟩:∃u7,ofT 6 [p3,u6]=u7:=⟨_,rfl⟩;have hEu7:=Qb u7;simp only [wu7,List.map_cons,List.map_nil,hEp3,hEu6,hEu7]at ou7;have ou8:=Ze 4 [u5,u7];obtain⟨u8,wu8⟩:∃u8,ofT 4 [u5,u7]=u8:=⟨_,rfl⟩;have hEu8:=Qb u8;simp only [wu8,List.map_cons,List.map_nil,hEu5,hEu7,hEu8]at ou8;have ou9:=Ze 4 [u2,u8];obtain⟨u9,wu9⟩:∃u9,ofT 4 [u2,u8]=u9:=⟨_,rfl⟩;have hEu9:=Qb u9;simp only [wu9,List.map_cons,List.map_nil,hEu2,hEu8,hEu9]at ou9;have ow:=Ze 4 [a,u9];obtain⟨w,ww⟩:∃w,ofT 4 [a,u9]=w:=⟨_,rfl⟩;have hEw:=Qb w;simp only [ww,List.map_cons,List.map_nil,hEa,hEu9,hEw]at ow;rw [show Qjm a b p=w by unfold Qjm;rw [wp3,wa2,wb2,wb1,wv0,wv1,wv2,wu1,wu2,wu3,wu4,wu5,wu6,wu7,wu8,wu9,ww]];rw [hEa,hEb,hEp,hEw];refine eN Tryz.func205 rfl (by decide) rfl rfl ?_;(refine sR fun K hK=>?_;(repeat rw [Qa];simp);refine hK _ _ _ ?_;clear hK K);(refine sR fun K hK=>?_;(repeat rw [Qa];simp));refine cXr (op3) ?_
 (repeat rw [Qa];simp)
 (refine hK _ _ _ ?_;clear hK K);(refine Qc fun K hK=>?_;refine dR fun KT hKT=>?_;(repeat rw [Qd];simp [L2]));refine cYp (oa2) ?_;(try simp only [zq]);(repeat rw [Qd];simp [L2]);refine cYp (ob2) ?_;(try simp only [zq]);(repeat rw [Qd];simp [L2]);refine Xt.pureD Qf (ou1) ?_ (by simp [D.deeps,D.deep,D.fgts,D.fgt]) (by simp [D.pures,D.pure,Cp.free,D.pures_map]) (by simp [Out.pure,D.pure,D.pures,Cp.free,D.pures_map]);(try simp only [zq]);(repeat rw [Qd];simp [L2]);refine Xt.pureD Qf (ou2) ?_ (by simp [D.deeps,D.deep,D.fgts,D.fgt]) (by simp [D.pures,D.pure,Cp.free,D.pures_map]) (by simp [Out.pure,D.pure,D.pures,Cp.free,D.pures_map]);(try simp only [zq]);(repeat rw [Qd];simp [L2]);(refine hKT _ _ _ _ (by kernel_rfl) ?_;clear hKT KT);(refine hK _ _ _ ?_;clear hK K);(refine Qc fun K hK=>?_;refine dR fun KT hKT=>?_;(repeat rw [Qd];simp [L2]));refine cYp (ob1) ?_;(try simp only [zq]);(repeat rw [Qd];simp [L2]);refine cYp (ov1) ?_;(try simp only [zq]);(repeat rw [Qd];simp [L2]);refine cYp (ov0) ?_;(try simp only [zq]);(repeat rw [Qd];simp [L2]);refine Xt.pureD Qf (ou3) ?_ (by simp [D.deeps,D.deep,D.fgts,D.fgt]) (by simp [D.pures,D.pure,Cp.free,D.pures_map]) (by simp [Out.pure,D.pure,D.pures,Cp.free,D.pures_map]);(try simp only [zq]);(repeat rw [Qd];simp [L2]);refine Xt.pureD Qf (ou4) ?_ (by simp [D.deeps,D.deep,D.fgts,D.fgt]) (by simp [D.pures,D.pure,Cp.free,D.pures_map]) (by simp [Out.pure,D.pure,D.pures,Cp.free,D.pures_map]);(try simp only [zq]);(repeat rw [Qd];simp [L2]);refine Xt.pureD Qf (ou5) ?_ (by simp [D.deeps,D.deep,D.fgts,D.fgt]) (by simp [D.pures,D.pure,Cp.free,D.pures_map]) (by simp [Out.pure,D.pure,D.pures,Cp.free,D.pures_map]);(try simp only [zq]);(repeat rw [Qd];simp [L2]);(refine hKT _ _ _ _ (by kernel_rfl) ?_;clear hKT KT);(refine hK _ _ _ ?_;clear hK K);(refine Qc fun K hK=>?_;refine dR fun KT hKT=>?_;(repeat rw [Qd];simp [L2]));refine cYp (ov2) ?_;(try simp only [zq]);(repeat rw [Qd];simp [L2]);refine cYp (ov1) ?_;(try simp only [zq]);(repeat rw [Qd];simp [L2]);refine Xt.pureD Qf (ou6) ?_ (by simp [D.deeps,D.deep,D.fgts,D.fgt]) (by simp [D.pures,D.pure,Cp.free,D.pures_map]) (by simp [Out.pure,D.pure,D.pures,Cp.free,D.pures_map]);(try simp only [zq]);(repeat rw [Qd];simp [L2]);refine Xt.pureD Qf (ou7) ?_ (by simp [D.deeps,D.deep,D.fgts,D.fgt]) (by simp [D.pures,D.pure,Cp.free,D.pures_map]) (by simp [Out.pure,D.pure,D.pures,Cp.free,D.pures_map]);(try simp only [zq]);(repeat rw [Qd];simp [L2]);refine Xt.pureD Qf (ou8) ?_ (by simp [D.deeps,D.deep,D.fgts,D.fgt]) (by simp [D.pures,D.pure,Cp.free,D.pures_map]) (by simp [Out.pure,D.pure,D.pures,Cp.free,D.pures_map]);(try simp only [zq]);(repeat rw [Qd];simp [L2]);refine Xt.pureD Qf (ou9) ?_ (by simp [D.deeps,D.deep,D.fgts,D.fgt]) (by simp [D.pures,D.pure,Cp.free,D.pures_map]) (by simp [Out.pure,D.pure,D.pures,Cp.free,D.pures_map]);(try simp only [zq]);(repeat rw [Qd];simp [L2]);refine Xt.pureD Qf (ow) ?_ (by simp [D.deeps,D.deep,D.fgts,D.fgt]) (by simp [D.pures,D.pure,Cp.free,D.pures_map]) (by simp [Out.pure,D.pure,D.pures,Cp.free,D.pures_map]);(try simp only [zq]);(repeat rw [Qd];simp [L2]);(refine hKT _ _ _ _ (by kernel_rfl) ?_;clear hKT KT);(refine hK _ _ _ ?_;clear hK K);(refine Qe ?_;(try simp only [zs]);refine Qk.ret rfl (.inl ?_);simp [zM])
set_option maxHeartbeats 16000000 in
theorem Qq3{l:List C}{n F:Int}{I:List T ->T ->Int ->Rs T}{J:List T ->T ->T ->Int ->Rs Unit}(hk:Kc l)(hF:F<=20000)(bI:IB l n I)(bJ:KB l n J)(hI:IS l n I F)(hJ:KS l n J F){c:List T}{t:T}{f:Int}(h0:0<=f)(h1:f<=F)(hs:Sub n (l.map C.lv) c t)(hc:Cx c f)(hkk:t.k=18) :
  Sp 174 [.box 0 0,Ts c,Qj t] (iO f l n) (RP l n Qj (recR l I J c t f)):=by
 have h2:f<=20000:=by omega
 have hcl:=hc.len;have hcc:c.length<=1000000:=by omega
 have hl:=hs.ks hkk (m:=5);obtain⟨x0,x1,x2,x3,x4,hks⟩:=list_5 hl;have z0:t.kid 0=x0:=by unfold T.kid;rw [hks];rfl
 have z1:t.kid 1=x1:=by unfold T.kid;rw [hks];rfl
 have z2:t.kid 2=x2:=by unfold T.kid;rw [hks];rfl
 have z3:t.kid 3=x3:=by unfold T.kid;rw [hks];rfl
 have z4:t.kid 4=x4:=by unfold T.kid;rw [hks];rfl
 have hEt:Qj t= .agg [.int .i64 t.k, .int .i64 t.n, .int .i64 t.a, .slice (t.ls.map Qn) .any, .slice [Qj x0,Qj x1,Qj x2,Qj x3,Qj x4] .any]:=by rw [Qb t,hks];rfl
 have k0:=hs.kid (i:=0) (by omega) (by rw [hkk];rfl);rw [z0]at k0;obtain⟨c1,hc1⟩:∃c1,c1=c++ [x0]:=⟨_,rfl⟩;have k1:=hs.kidB (i:=1) hcc x0 (by omega) (by rw [hkk];rfl);rw [z1,<- hc1]at k1;have k2:=hs.kid (i:=2) (by omega) (by rw [hkk];rfl);rw [z2]at k2;have k3:=hs.kid (i:=3) (by omega) (by rw [hkk];rfl);rw [z3]at k3;have k4:=hs.kid (i:=4) (by omega) (by rw [hkk];rfl);rw [z4]at k4;have hE0:=Qb x0;have hE1:=Qb x1;have hE2:=Qb x2;have hE3:=Qb x3;have hE4:=Qb x4;have L1:1<=Ql:=by unfold Ql;omega
 have L2:2<=Ql:=by unfold Ql;omega
 have L3:3<=Ql:=by unfold Ql;omega
 have hb:=Qe0 c x0 hcc;rw [<- hc1]at hb;unfold Ts at hb;simp only [List.map_cons,List.map_nil,hE0]at hb;have otr:=Ze 16 [x0,x1];obtain⟨tr,wtr⟩:∃tr,ofT 16 [x0,x1]=tr:=⟨_,rfl⟩;have hEtr:=Qb tr;simp only [wtr,List.map_cons,List.map_nil,hE0,hE1,hEtr]at otr;have otr2:okT tr/\(tr.pot:Int)<=100000:=by rw [<- wtr];exact⟨Qai Qc4 k0.ok k1.ok,by have:=Qae 16 x0 x1;have:=k0.pot;have:=k1.pot;omega⟩
 have ost2:okT (Qjm x0 x1 x2)/\((Qjm x0 x1 x2).pot:Int)<=150000:=by have:=Qw2 k0.ok k1.ok k2.ok;exact⟨this.1,by have:=this.2;have:=k0.pot;have:=k1.pot;have:=k2.pot;omega⟩
 have ost:=Qvq k0.ok k1.ok k2.ok (by have:=k0.pot;unfold PM;omega) (by have:=k1.pot;unfold PM;omega) (by have:=k2.pot;unfold PM;omega);obtain⟨st,wst⟩:∃st,Qjm x0 x1 x2=st:=⟨_,rfl⟩;have hEst:=Qb st;simp only [wst,List.map_cons,List.map_nil,hE0,hE1,hE2,hEst]at ost;rw [wst]at ost2;have ow:=Ze 6 [x2,x4];obtain⟨w,ww⟩:∃w,ofT 6 [x2,x4]=w:=⟨_,rfl⟩;have hEw:=Qb w;simp only [ww,List.map_cons,List.map_nil,hE2,hE4,hEw]at ow;refine RP.of ?_;generalize hQ:RQ l n Qj (recR l I J c t f)=Q;rw [hEt];simp only [hE0,hE1,hE2,hE3,hE4];unfold iO Cs Ts;refine eN Tryz.func174 rfl (by decide) rfl rfl ?_;(refine sR fun K hK=>?_;(repeat rw [Qa];simp);refine hK _ _ _ ?_;clear hK K);(refine Qc fun K hK=>?_;refine dR fun KT hKT=>?_;(repeat rw [Qd];simp));(refine hKT _ _ _ _ (by kernel_rfl) ?_;clear hKT KT);(refine hK _ _ _ ?_;clear hK K);(refine sR fun K hK=>?_;(repeat rw [Qa];simp));rcases Qv l n Qn (sortR l I c x0 f)with ⟨i,f1,e1,q1⟩ | ⟨ee,e1,q1⟩
 rotate_left
 ·have hh:=Zd hk hF bI bJ hI hJ h0 h1 k0 hc;rw [q1]at hh;have hq:=hQ.symm.trans (Wh (e:=ee) (by simp only [e1,Rs.next_ok,Rs.next_err,↓reduceIte,recR,z0,z1,z2,z3,z4,<- hc1,wtr,wst]));subst hq;clear hQ;simp only [hE0]at hh;unfold iO Cs Wq at hh
  try unfold Ts at hh
  refine cXg [0,1] (hh) ?_;simp [zU];((try simp only [zs]);refine Qk.pan (.inr ⟨[],by decide,by simp,?_⟩);simp [zM])
 have cc1:=Zd hk hF bI bJ hI hJ h0 h1 k0 hc;rw [q1]at cc1;obtain⟨a1,b1, -⟩:=Qag hk.ok bI h0 h2 k0 hc e1;have cx:Cx c1 f1:=by rw [hc1];exact hc.below k0 (by omega)
 have hEi:Qn i= .agg [.slice (i.map Wv) .any]:=rfl;simp only [hE0,hEi]at cc1;unfold iO Cs at cc1
 try unfold Ts at cc1
 refine cXf [0,1] (cc1) ?_;simp [zU]
 (repeat rw [Qa];simp)
 clear cc1 q1;(refine hK _ _ _ ?_;clear hK K);(refine Qc fun K hK=>?_;refine dR fun KT hKT=>?_;(repeat rw [Qd];simp [L1]));refine cYp (hb) ?_;(try simp only [zq]);(repeat rw [Qd];simp [L1,L2]);rcases Qv l n Qn (sortR l I c1 x1 f1)with ⟨j,f2,e2,q2⟩ | ⟨ee,e2,q2⟩
 rotate_left
 ·have hh:=Zd hk hF bI bJ hI hJ a1 (by omega) k1 cx;rw [q2]at hh;have hq:=hQ.symm.trans (Wh (e:=ee) (by simp only [e1,e2,Rs.next_ok,Rs.next_err,↓reduceIte,recR,z0,z1,z2,z3,z4,<- hc1,wtr,wst]));subst hq;clear hQ;simp only [hE1]at hh;unfold iO Cs Wq at hh
  try unfold Ts at hh
  refine cYo [0,1] true false (hh) (fun o h e=>e) ?_;simp [zU];((try simp only [Qt,Qu,Qr,Qw,Wi]);(repeat(refine Wr _ _ _ _ (by kernel_rfl) ?_;simp only [Qr,List.set,List.nil_append,List.cons_append,Nat.reduceAdd]));(try simp only [Qm]));(refine hKT _ _ _ _ (by kernel_rfl) ?_;clear hKT KT);simp [Xi];((try simp only [zs]);refine Qk.pan (.inr ⟨[],by decide,by simp,?_⟩);simp [zM])
 have cc2:=Zd hk hF bI bJ hI hJ a1 (by omega) k1 cx;rw [q2]at cc2;obtain⟨a2,b2, -⟩:=Qag hk.ok bI a1 (by omega) k1 cx e2;have hEj:Qn j= .agg [.slice (j.map Wv) .any]:=rfl;simp only [hE1,hEj]at cc2;unfold iO Cs at cc2
 try unfold Ts at cc2
 refine cYo [0,1] true true (cc2) (fun o h e=>e) ?_;simp [zU];(try simp only [zq]);(repeat rw [Qd];simp);clear cc2 q2;(refine hKT _ _ _ _ (by kernel_rfl) ?_;clear hKT KT);(refine hK _ _ _ ?_;clear hK K);(refine sR fun K hK=>?_;(repeat rw [Qa];simp [L2]));refine Wm.pureD Qf (otr) ?_ (by simp [D.deeps,D.deep,D.fgts,D.fgt]) (by simp [D.pures,D.pure,Cp.free,D.pures_map]) (by simp [Out.pure,D.pure,D.pures,Cp.free,D.pures_map]);(try simp only [zr]);(repeat rw [Qa];simp);(refine hK _ _ _ ?_;clear hK K);(refine Qc fun K hK=>?_;refine dR fun KT hKT=>?_;(repeat rw [Qd];simp));rcases Qv l n Xb (J c x4 tr f2)with ⟨u3,f3,e3,q3⟩ | ⟨ee,e3,q3⟩
 rotate_left
 ·have hh:=hJ c x4 tr f2 a2 (by omega) k4 (hc.le (by omega)) ⟨otr2.1,by have:=otr2.2;unfold Yb;omega⟩;rw [q3]at hh;have hq:=hQ.symm.trans (Wh (e:=ee) (by simp only [e1,e2,e3,Rs.next_ok,Rs.next_err,↓reduceIte,recR,z0,z1,z2,z3,z4,<- hc1,wtr,wst]));subst hq;clear hQ;simp only [hE4,hEtr]at hh;unfold iO Cs Wq at hh
  try unfold Ts at hh
  refine cYo [0,1] true false (hh) (fun o h e=>e) ?_;simp [zU];((try simp only [Qt,Qu,Qr,Qw,Wi]);(repeat(refine Wr _ _ _ _ (by kernel_rfl) ?_;simp only [Qr,List.set,List.nil_append,List.cons_append,Nat.reduceAdd]));(try simp only [Qm]));(refine hKT _ _ _ _ (by kernel_rfl) ?_;clear hKT KT);simp [Xi];((try simp only [zs]);refine Qk.pan (.inr ⟨[],by decide,by simp,?_⟩);simp [zM])
 have cc3:=hJ c x4 tr f2 a2 (by omega) k4 (hc.le (by omega)) ⟨otr2.1,by have:=otr2.2;unfold Yb;omega⟩;rw [q3]at cc3;obtain⟨a3,b3⟩:=bJ c x4 tr f2 _ _ a2 (by omega) k4 (hc.le (by omega)) ⟨otr2.1,by have:=otr2.2;unfold Yb;omega⟩ e3;unfold Xb at cc3;simp only [hE4,hEtr]at cc3;unfold iO Cs at cc3
 try unfold Ts at cc3
 refine cYo [0,1] true true (cc3) (fun o h e=>e) ?_;simp [zU];(try simp only [zq]);(repeat rw [Qd];simp);clear cc3 q3;(refine hKT _ _ _ _ (by kernel_rfl) ?_;clear hKT KT);(refine hK _ _ _ ?_;clear hK K);(refine sR fun K hK=>?_;(repeat rw [Qa];simp));rcases Qv l n Xb (motiveR l I c x2 tr f3)with ⟨u4,f4,e4,q4⟩ | ⟨ee,e4,q4⟩
 rotate_left
 ·have hh:=Qdw hk hF bI bJ hI hJ a3 (by omega) k2 (hc.le (by omega)) (y:=tr) ⟨otr2.1,by have:=otr2.2;unfold Yb;omega⟩;rw [q4]at hh;have hq:=hQ.symm.trans (Wh (e:=ee) (by simp only [e1,e2,e3,e4,Rs.next_ok,Rs.next_err,↓reduceIte,recR,z0,z1,z2,z3,z4,<- hc1,wtr,wst]));subst hq;clear hQ;simp only [hE2,hEtr]at hh;unfold iO Cs Wq at hh
  try unfold Ts at hh
  refine cXg [0,1] (hh) ?_;simp [zU];((try simp only [zs]);refine Qk.pan (.inr ⟨[],by decide,by simp,?_⟩);simp [zM])
 have cc4:=Qdw hk hF bI bJ hI hJ a3 (by omega) k2 (hc.le (by omega)) (y:=tr) ⟨otr2.1,by have:=otr2.2;unfold Yb;omega⟩;rw [q4]at cc4;obtain⟨a4,b4⟩:=Qf3 hk.ok bI a3 (by omega) k2 (hc.le (by omega)) e4;unfold Xb at cc4;simp only [hE2,hEtr]at cc4;unfold iO Cs at cc4
 try unfold Ts at cc4
 refine cXf [0,1] (cc4) ?_;simp [zU]
 (repeat rw [Qa];simp)
 clear cc4 q4;(refine hK _ _ _ ?_;clear hK K);(refine Qc fun K hK=>?_;refine dR fun KT hKT=>?_;(repeat rw [Qd];simp));refine cYp (ost) ?_;(try simp only [zq]);(repeat rw [Qd];simp);rcases Qv l n Xb (J c x3 st f4)with ⟨u5,f5,e5,q5⟩ | ⟨ee,e5,q5⟩
 rotate_left
 ·have hh:=hJ c x3 st f4 a4 (by omega) k3 (hc.le (by omega)) ⟨ost2.1,by have:=ost2.2;unfold Yb;omega⟩;rw [q5]at hh;have hq:=hQ.symm.trans (Wh (e:=ee) (by simp only [e1,e2,e3,e4,e5,Rs.next_ok,Rs.next_err,↓reduceIte,recR,z0,z1,z2,z3,z4,<- hc1,wtr,wst]));subst hq;clear hQ;simp only [hE3,hEst]at hh;unfold iO Cs Wq at hh
  try unfold Ts at hh
  refine cYo [0,1] true false (hh) (fun o h e=>e) ?_;simp [zU];((try simp only [Qt,Qu,Qr,Qw,Wi]);(repeat(refine Wr _ _ _ _ (by kernel_rfl) ?_;simp only [Qr,List.set,List.nil_append,List.cons_append,Nat.reduceAdd]));(try simp only [Qm]));(refine hKT _ _ _ _ (by kernel_rfl) ?_;clear hKT KT);simp [Xi];((try simp only [zs]);refine Qk.pan (.inr ⟨[],by decide,by simp,?_⟩);simp [zM])
 have cc5:=hJ c x3 st f4 a4 (by omega) k3 (hc.le (by omega)) ⟨ost2.1,by have:=ost2.2;unfold Yb;omega⟩;rw [q5]at cc5;unfold Xb at cc5;simp only [hE3,hEst]at cc5;unfold iO Cs at cc5
 try unfold Ts at cc5
 refine cYo [0,1] true true (cc5) (fun o h e=>e) ?_;simp [zU];(try simp only [zq]);(repeat rw [Qd];simp);clear cc5 q5;(refine hKT _ _ _ _ (by kernel_rfl) ?_;clear hKT KT);(refine hK _ _ _ ?_;clear hK K);(refine Qc fun K hK=>?_;refine dR fun KT hKT=>?_;(repeat rw [Qd];simp [L2]));refine Xt.pureD Qf (ow) ?_ (by simp [D.deeps,D.deep,D.fgts,D.fgt]) (by simp [D.pures,D.pure,Cp.free,D.pures_map]) (by simp [Out.pure,D.pure,D.pures,Cp.free,D.pures_map]);(try simp only [zq]);(repeat rw [Qd];simp);have hq:=hQ.symm.trans (Qbd (w) (g:=f5) (by simp only [e1,e2,e3,e4,e5,Rs.next_ok,Rs.next_err,↓reduceIte,recR,z0,z1,z2,z3,z4,<- hc1,wtr,wst];rw [ww]));simp only [hEw]at hq;subst hq;clear hQ;(refine hKT _ _ _ _ (by kernel_rfl) ?_;clear hKT KT);(refine hK _ _ _ ?_;clear hK K);(refine Qe ?_;(try simp only [zs]);refine Qk.ret rfl (.inr ⟨[],by decide,by simp,?_⟩);simp [zM])
section
set_option maxHeartbeats 16000000 in
theorem r_path{l:List C}{n F:Int}{I:List T ->T ->Int ->Rs T}{J:List T ->T ->T ->Int ->Rs Unit}(hk:Kc l)(hF:F<=20000)(bI:IB l n I)(bJ:KB l n J)(hI:IS l n I F)(hJ:KS l n J F){c:List T}{t:T}{f:Int}(h0:0<=f)(h1:f<=F)(hs:Sub n (l.map C.lv) c t)(hc:Cx c f)(hkk:t.k=21) :
  Sp 176 [.box 0 0,Ts c,Qj t] (iO f l n) (RP l n Qj (pathR l I J c t f)):=by
 have h2:f<=20000:=by omega
 have hcl:=hc.len;have hcc:c.length<=1000000:=by omega
 have hl:=hs.ks hkk (m:=6);obtain⟨x0,x1,x2,x3,x4,x5,hks⟩:=list_6 hl;have z0:t.kid 0=x0:=by unfold T.kid;rw [hks];rfl
 have z1:t.kid 1=x1:=by unfold T.kid;rw [hks];rfl
 have z2:t.kid 2=x2:=by unfold T.kid;rw [hks];rfl
 have z3:t.kid 3=x3:=by unfold T.kid;rw [hks];rfl
 have z4:t.kid 4=x4:=by unfold T.kid;rw [hks];rfl
 have z5:t.kid 5=x5:=by unfold T.kid;rw [hks];rfl
 have hEt:Qj t= .agg [.int .i64 t.k, .int .i64 t.n, .int .i64 t.a, .slice (t.ls.map Qn) .any, .slice [Qj x0,Qj x1,Qj x2,Qj x3,Qj x4,Qj x5] .any]:=by rw [Qb t,hks];rfl
 have k0:=hs.kid (i:=0) (by omega) (by rw [hkk];rfl);rw [z0]at k0;have k1:=hs.kid (i:=1) (by omega) (by rw [hkk];rfl);rw [z1]at k1;have k2:=hs.kid (i:=2) (by omega) (by rw [hkk];rfl);rw [z2]at k2;have k3:=hs.kid (i:=3) (by omega) (by rw [hkk];rfl);rw [z3]at k3;have k4:=hs.kid (i:=4) (by omega) (by rw [hkk];rfl);rw [z4]at k4;have k5:=hs.kid (i:=5) (by omega) (by rw [hkk];rfl);rw [z5]at k5;have hE0:=Qb x0;have hE1:=Qb x1;have hE2:=Qb x2;have hE3:=Qb x3;have hE4:=Qb x4;have hE5:=Qb x5;have L1:1<=Ql:=by unfold Ql;omega
 have L2:2<=Ql:=by unfold Ql;omega
 have L3:3<=Ql:=by unfold Ql;omega
 have oi1:=Ze 19 [x0,x1,x4];obtain⟨i1,wi1⟩:∃i1,ofT 19 [x0,x1,x4]=i1:=⟨_,rfl⟩;have hEi1:=Qb i1;simp only [wi1,List.map_cons,List.map_nil,hE0,hE1,hE4,hEi1]at oi1;have ola:=Qez x0 1 k0.ok (by have:=k0.pot;unfold PM;omega);obtain⟨la,wla⟩:∃la,x0.lift 1 0 0=la:=⟨_,rfl⟩;have hEla:=Qb la;simp only [wla,List.map_cons,List.map_nil,hE0,hEla]at ola;have olx:=Qez x1 1 k1.ok (by have:=k1.pot;unfold PM;omega);obtain⟨lx,wlx⟩:∃lx,x1.lift 1 0 0=lx:=⟨_,rfl⟩;have hElx:=Qb lx;simp only [wlx,List.map_cons,List.map_nil,hE1,hElx]at olx;have ovv:=Qno 0;obtain⟨vv,wvv⟩:∃vv,Qd5 0=vv:=⟨_,rfl⟩;have hEvv:=Qb vv;simp only [wvv,List.map_cons,List.map_nil,hEvv]at ovv;have oi2:=Ze 19 [la,lx,vv];obtain⟨i2,wi2⟩:∃i2,ofT 19 [la,lx,vv]=i2:=⟨_,rfl⟩;have hEi2:=Qb i2;simp only [wi2,List.map_cons,List.map_nil,hEla,hElx,hEvv,hEi2]at oi2;have oq1:=Ze 6 [x2,x1];obtain⟨q1,wq1⟩:∃q1,ofT 6 [x2,x1]=q1:=⟨_,rfl⟩;have hEq1:=Qb q1;simp only [wq1,List.map_cons,List.map_nil,hE2,hE1,hEq1]at oq1;have oq2:=Ze 20 [];obtain⟨q2,wq2⟩:∃q2,ofT 20 []=q2:=⟨_,rfl⟩;have hEq2:=Qb q2;simp only [wq2,List.map_cons,List.map_nil,hEq2]at oq2;have oq3:=Ze 6 [q1,q2];obtain⟨q3,wq3⟩:∃q3,ofT 6 [q1,q2]=q3:=⟨_,rfl⟩;have hEq3:=Qb q3;simp only [wq3,List.map_cons,List.map_nil,hEq1,hEq2,hEq3]at oq3;have or1:=Ze 6 [x2,x4];obtain⟨r1,wr1⟩:∃r1,ofT 6 [x2,x4]=r1:=⟨_,rfl⟩;have hEr1:=Qb r1;simp only [wr1,List.map_cons,List.map_nil,hE2,hE4,hEr1]at or1;have oy:=Ze 6 [r1,x5];obtain⟨y,wy⟩:∃y,ofT 6 [r1,x5]=y:=⟨_,rfl⟩;have hEy:=Qb y;simp only [wy,List.map_cons,List.map_nil,hEr1,hE5,hEy]at oy;have oi12:okT i1/\(i1.pot:Int)<=100000:=by rw [<- wi1];exact⟨Qx1 Qc4 k0.ok k1.ok k4.ok,by have:=Qq7 19 x0 x1 x4;have:=k0.pot;have:=k1.pot;have:=k4.pot;omega⟩
 have oi22:okT i2/\(i2.pot:Int)<=100000:=by rw [<- wi2,<- wla,<- wlx,<- wvv];exact⟨Qx1 Qc4 (Qa9 _ _ _ k0.ok) (Qa9 _ _ _ k1.ok) (Qmm Qc4),by have:=Qq7 19 (x0.lift 1 0 0) (x1.lift 1 0 0) (Qd5 0);rw [Qb8,Qb8,Qq5]at this;have:=k0.pot;have:=k1.pot;omega⟩
 have oq32:okT q3/\(q3.pot:Int)<=100000:=by rw [<- wq3,<- wq2,<- wq1];exact⟨Qai Qc4 (Qai Qc4 k2.ok k1.ok) (Wdx Qc4),by have:=Qae 6 (ofT 6 [x2,x1]) (ofT 20 []);have:=Qae 6 x2 x1;have:=Qxr 20;have:=k2.pot;have:=k1.pot;omega⟩
 refine RP.of ?_;generalize hQ:RQ l n Qj (pathR l I J c t f)=Q;rw [hEt];simp only [hE0,hE1,hE2,hE3,hE4,hE5];unfold iO Cs Ts;refine eN Tryz.func176 rfl (by decide) rfl rfl ?_;(refine sR fun K hK=>?_;(repeat rw [Qa];simp);refine hK _ _ _ ?_;clear hK K);(refine Qc fun K hK=>?_;refine dR fun KT hKT=>?_;(repeat rw [Qd];simp));(refine hKT _ _ _ _ (by kernel_rfl) ?_;clear hKT KT);(refine hK _ _ _ ?_;clear hK K);(refine sR fun K hK=>?_;(repeat rw [Qa];simp));rcases Qv l n Qn (sortR l I c x0 f)with ⟨i,f1,e1,q1⟩ | ⟨ee,e1,q1⟩
 rotate_left
 ·have hh:=Zd hk hF bI bJ hI hJ h0 h1 k0 hc;rw [q1]at hh;have hq:=hQ.symm.trans (Wh (e:=ee) (by simp only [e1,Rs.next_ok,Rs.next_err,↓reduceIte,pathR,z0,z1,z2,z3,z4,z5,wlx,wla,wi1,wi2,wq1,wq2,wq3,wvv]));subst hq;clear hQ;simp only [hE0]at hh;unfold iO Cs Wq at hh
  try unfold Ts at hh
  refine cXg [0,1] (hh) ?_;simp [zU];((try simp only [zs]);refine Qk.pan (.inr ⟨[],by decide,by simp,?_⟩);simp [zM])
 have cc1:=Zd hk hF bI bJ hI hJ h0 h1 k0 hc;rw [q1]at cc1;obtain⟨a1,b1, -⟩:=Qag hk.ok bI h0 h2 k0 hc e1;have hEi:Qn i= .agg [.slice (i.map Wv) .any]:=rfl;simp only [hE0,hEi]at cc1;unfold iO Cs at cc1
 try unfold Ts at cc1
 refine cXf [0,1] (cc1) ?_;simp [zU]
 (repeat rw [Qa];simp)
 clear cc1 q1;(refine hK _ _ _ ?_;clear hK K);(refine sR fun K hK=>?_;(repeat rw [Qa];simp));rcases Qv l n Xb (J c x1 x0 f1)with ⟨u2,f2,e2,q2⟩ | ⟨ee,e2,q2⟩
 rotate_left
 ·have hh:=hJ c x1 x0 f1 a1 (by omega) k1 (hc.le (by omega)) (k0.okY (by omega));rw [q2]at hh;have hq:=hQ.symm.trans (Wh (e:=ee) (by simp only [e1,e2,Rs.next_ok,Rs.next_err,↓reduceIte,pathR,z0,z1,z2,z3,z4,z5,wlx,wla,wi1,wi2,wq1,wq2,wq3,wvv]));subst hq;clear hQ;simp only [hE1,hE0]at hh;unfold iO Cs Wq at hh
  try unfold Ts at hh
  refine cXg [0,1] (hh) ?_;simp [zU];((try simp only [zs]);refine Qk.pan (.inr ⟨[],by decide,by simp,?_⟩);simp [zM])
 have cc2:=hJ c x1 x0 f1 a1 (by omega) k1 (hc.le (by omega)) (k0.okY (by omega));rw [q2]at cc2;obtain⟨a2,b2⟩:=bJ c x1 x0 f1 _ _ a1 (by omega) k1 (hc.le (by omega)) (k0.okY (by omega)) e2;unfold Xb at cc2;simp only [hE1,hE0]at cc2;unfold iO Cs at cc2
 try unfold Ts at cc2
 refine cXf [0,1] (cc2) ?_;simp [zU]
 (repeat rw [Qa];simp)
 clear cc2 q2;(refine hK _ _ _ ?_;clear hK K);(refine sR fun K hK=>?_;(repeat rw [Qa];simp));rcases Qv l n Xb (J c x4 x0 f2)with ⟨u3,f3,e3,q3⟩ | ⟨ee,e3,q3⟩
 rotate_left
 ·have hh:=hJ c x4 x0 f2 a2 (by omega) k4 (hc.le (by omega)) (k0.okY (by omega));rw [q3]at hh;have hq:=hQ.symm.trans (Wh (e:=ee) (by simp only [e1,e2,e3,Rs.next_ok,Rs.next_err,↓reduceIte,pathR,z0,z1,z2,z3,z4,z5,wlx,wla,wi1,wi2,wq1,wq2,wq3,wvv]));subst hq;clear hQ;simp only [hE4,hE0]at hh;unfold iO Cs Wq at hh
  try unfold Ts at hh
  refine cXg [0,1] (hh) ?_;simp [zU];((try simp only [zs]);refine Qk.pan (.inr ⟨[],by decide,by simp,?_⟩);simp [zM])
 have cc3:=hJ c x4 x0 f2 a2 (by omega) k4 (hc.le (by omega)) (k0.okY (by omega));rw [q3]at cc3;obtain⟨a3,b3⟩:=bJ c x4 x0 f2 _ _ a2 (by omega) k4 (hc.le (by omega)) (k0.okY (by omega)) e3;unfold Xb at cc3;simp only [hE4,hE0]at cc3;unfold iO Cs at cc3
 try unfold Ts at cc3
 refine cXf [0,1] (cc3) ?_;simp [zU]
 (repeat rw [Qa];simp)
 clear cc3 q3;(refine hK _ _ _ ?_;clear hK K);(refine Qc fun K hK=>?_;refine dR fun KT hKT=>?_;(repeat rw [Qd];simp [L3]));refine Xt.pureD Qf (oi1) ?_ (by simp [D.deeps,D.deep,D.fgts,D.fgt]) (by simp [D.pures,D.pure,Cp.free,D.pures_map]) (by simp [Out.pure,D.pure,D.pures,Cp.free,D.pures_map]);(try simp only [zq]);(repeat rw [Qd];simp);rcases Qv l n Xb (J c x5 i1 f3)with ⟨u4,f4,e4,q4⟩ | ⟨ee,e4,q4⟩
 rotate_left
 ·have hh:=hJ c x5 i1 f3 a3 (by omega) k5 (hc.le (by omega)) ⟨oi12.1,by have:=oi12.2;unfold Yb;omega⟩;rw [q4]at hh;have hq:=hQ.symm.trans (Wh (e:=ee) (by simp only [e1,e2,e3,e4,Rs.next_ok,Rs.next_err,↓reduceIte,pathR,z0,z1,z2,z3,z4,z5,wlx,wla,wi1,wi2,wq1,wq2,wq3,wvv]));subst hq;clear hQ;simp only [hE5,hEi1]at hh;unfold iO Cs Wq at hh
  try unfold Ts at hh
  refine cYo [0,1] true false (hh) (fun o h e=>e) ?_;simp [zU];((try simp only [Qt,Qu,Qr,Qw,Wi]);(repeat(refine Wr _ _ _ _ (by kernel_rfl) ?_;simp only [Qr,List.set,List.nil_append,List.cons_append,Nat.reduceAdd]));(try simp only [Qm]));(refine hKT _ _ _ _ (by kernel_rfl) ?_;clear hKT KT);simp [Xi];((try simp only [zs]);refine Qk.pan (.inr ⟨[],by decide,by simp,?_⟩);simp [zM])
 have cc4:=hJ c x5 i1 f3 a3 (by omega) k5 (hc.le (by omega)) ⟨oi12.1,by have:=oi12.2;unfold Yb;omega⟩;rw [q4]at cc4;obtain⟨a4,b4⟩:=bJ c x5 i1 f3 _ _ a3 (by omega) k5 (hc.le (by omega)) ⟨oi12.1,by have:=oi12.2;unfold Yb;omega⟩ e4;unfold Xb at cc4;simp only [hE5,hEi1]at cc4;unfold iO Cs at cc4
 try unfold Ts at cc4
 refine cYo [0,1] true true (cc4) (fun o h e=>e) ?_;simp [zU];(try simp only [zq]);(repeat rw [Qd];simp);clear cc4 q4;(refine hKT _ _ _ _ (by kernel_rfl) ?_;clear hKT KT);(refine hK _ _ _ ?_;clear hK K);(refine sR fun K hK=>?_;(repeat rw [Qa];simp));rcases Qv l n Qj (I c x2 f4)with ⟨s,f5,e5,q5⟩ | ⟨ee,e5,q5⟩
 rotate_left
 ·have hh:=hI c x2 f4 a4 (by omega) k2 (hc.le (by omega));rw [q5]at hh;have hq:=hQ.symm.trans (Wh (e:=ee) (by simp only [e1,e2,e3,e4,e5,Rs.next_ok,Rs.next_err,↓reduceIte,pathR,z0,z1,z2,z3,z4,z5,wlx,wla,wi1,wi2,wq1,wq2,wq3,wvv]));subst hq;clear hQ;simp only [hE2]at hh;unfold iO Cs Wq at hh
  try unfold Ts at hh
  refine cXg [0,1] (hh) ?_;simp [zU];((try simp only [zs]);refine Qk.pan (.inr ⟨[],by decide,by simp,?_⟩);simp [zM])
 have cc5:=hI c x2 f4 a4 (by omega) k2 (hc.le (by omega));rw [q5]at cc5;obtain⟨a5,b5,d5⟩:=bI _ _ _ _ _ a4 (by omega) k2 (hc.le (by omega)) e5;have hEs:=Qb s;simp only [hE2,hEs]at cc5;unfold iO Cs at cc5
 try unfold Ts at cc5
 refine cXf [0,1] (cc5) ?_;simp [zU]
 (repeat rw [Qa];simp)
 clear cc5 q5;rcases Qv l n asD (asR l s 4 8 f5)with ⟨v,f6,e6,q6⟩ | ⟨ee,e6,q6⟩
 rotate_left
 ·have hh:=Qan hk (n:=n) (k:=4) (e:=8) a5 (by omega) (d5.okY (by omega));rw [q6]at hh;have hq:=hQ.symm.trans (Wh (e:=ee) (by simp only [e1,e2,e3,e4,e5,e6,Rs.next_ok,Rs.next_err,↓reduceIte,pathR,z0,z1,z2,z3,z4,z5,wlx,wla,wi1,wi2,wq1,wq2,wq3,wvv]));subst hq;clear hQ;simp only [hEs]at hh;unfold iO Cs Wq at hh
  try unfold Ts at hh
  refine cXg [0,1] (hh) ?_;simp [zU];((try simp only [zs]);refine Qk.pan (.inr ⟨[],by decide,by simp,?_⟩);simp [zM])
 have cc6:=Qan hk (n:=n) (k:=4) (e:=8) a5 (by omega) (d5.okY (by omega));rw [q6]at cc6;obtain⟨a6,b6,d6,d6b, -⟩:=Qbe hk.ok a5 (d5.okY (by omega)) e6;obtain⟨va,vb⟩:=v;have hEva:=Qb va;have hEvb:=Qb vb;unfold asD at cc6;dsimp only at cc6;simp only [hEs,hEva,hEvb]at cc6;unfold iO Cs at cc6
 try unfold Ts at cc6
 refine cXf [0,1] (cc6) ?_;simp [zU]
 (repeat rw [Qa];simp)
 clear cc6 q6;(refine hK _ _ _ ?_;clear hK K);(refine sR fun K hK=>?_;(repeat rw [Qa];simp));rcases Qv l n Xb (oneR l va x0 13 f6)with ⟨u7,f7,e7,q7⟩ | ⟨ee,e7,q7⟩
 rotate_left
 ·have hh:=Qbw hk (n:=n) (e:=13) a6 (by omega) d6 (k0.okY (by omega));rw [q7]at hh;have hq:=hQ.symm.trans (Wh (e:=ee) (by simp only [e1,e2,e3,e4,e5,e6,e7,Rs.next_ok,Rs.next_err,↓reduceIte,pathR,z0,z1,z2,z3,z4,z5,wlx,wla,wi1,wi2,wq1,wq2,wq3,wvv]));subst hq;clear hQ;simp only [hEva,hE0]at hh;unfold iO Cs Wq at hh
  try unfold Ts at hh
  refine cXg [0,1] (hh) ?_;simp [zU];((try simp only [zs]);refine Qk.pan (.inr ⟨[],by decide,by simp,?_⟩);simp [zM])
 have cc7:=Qbw hk (n:=n) (e:=13) a6 (by omega) d6 (k0.okY (by omega));rw [q7]at cc7;obtain⟨a7,b7⟩:=Qew a6 e7;unfold Xb at cc7;simp only [hEva,hE0]at cc7;unfold iO Cs at cc7
 try unfold Ts at cc7
 refine cXf [0,1] (cc7) ?_;simp [zU]
 (repeat rw [Qa];simp)
 clear cc7 q7;(refine hK _ _ _ ?_;clear hK K);(refine sR fun K hK=>?_;(repeat rw [Qa];simp));rcases Qv l n asD (asR l vb 4 8 f7)with ⟨w,f8,e8,q8⟩ | ⟨ee,e8,q8⟩
 rotate_left
 ·have hh:=Qan hk (n:=n) (k:=4) (e:=8) a7 (by omega) (d6b.le b7);rw [q8]at hh;have hq:=hQ.symm.trans (Wh (e:=ee) (by simp only [e1,e2,e3,e4,e5,e6,e7,e8,Rs.next_ok,Rs.next_err,↓reduceIte,pathR,z0,z1,z2,z3,z4,z5,wlx,wla,wi1,wi2,wq1,wq2,wq3,wvv]));subst hq;clear hQ;simp only [hEvb]at hh;unfold iO Cs Wq at hh
  try unfold Ts at hh
  refine cXg [0,1] (hh) ?_;simp [zU];((try simp only [zs]);refine Qk.pan (.inr ⟨[],by decide,by simp,?_⟩);simp [zM])
 have cc8:=Qan hk (n:=n) (k:=4) (e:=8) a7 (by omega) (d6b.le b7);rw [q8]at cc8;obtain⟨a8,b8,d8,d8b, -⟩:=Qbe hk.ok a7 (d6b.le b7) e8;obtain⟨wa,wb⟩:=w;have hEwa:=Qb wa;have hEwb:=Qb wb;unfold asD at cc8;dsimp only at cc8;simp only [hEvb,hEwa,hEwb]at cc8;unfold iO Cs at cc8
 try unfold Ts at cc8
 refine cXf [0,1] (cc8) ?_;simp [zU]
 (repeat rw [Qa];simp)
 clear cc8 q8;(refine hK _ _ _ ?_;clear hK K);(refine Qc fun K hK=>?_;refine dR fun KT hKT=>?_;(repeat rw [Qd];simp));refine cYp (ola) ?_;(try simp only [zq]);(repeat rw [Qd];simp);refine cYp (olx) ?_;(try simp only [zq]);(repeat rw [Qd];simp);refine cYp (ovv) ?_;(try simp only [zq]);(repeat rw [Qd];simp [L3]);refine Xt.pureD Qf (oi2) ?_ (by simp [D.deeps,D.deep,D.fgts,D.fgt]) (by simp [D.pures,D.pure,Cp.free,D.pures_map]) (by simp [Out.pure,D.pure,D.pures,Cp.free,D.pures_map]);(try simp only [zq]);(repeat rw [Qd];simp);rcases Qv l n Xb (oneR l wa i2 13 f8)with ⟨u9,f9,e9,q9⟩ | ⟨ee,e9,q9⟩
 rotate_left
 ·have hh:=Qbw hk (n:=n) (e:=13) a8 (by omega) d8 ⟨oi22.1,by have:=oi22.2;unfold Yb;omega⟩;rw [q9]at hh;have hq:=hQ.symm.trans (Wh (e:=ee) (by simp only [e1,e2,e3,e4,e5,e6,e7,e8,e9,Rs.next_ok,Rs.next_err,↓reduceIte,pathR,z0,z1,z2,z3,z4,z5,wlx,wla,wi1,wi2,wq1,wq2,wq3,wvv]));subst hq;clear hQ;simp only [hEwa,hEi2]at hh;unfold iO Cs Wq at hh
  try unfold Ts at hh
  refine cYo [0,1] true false (hh) (fun o h e=>e) ?_;simp [zU];((try simp only [Qt,Qu,Qr,Qw,Wi]);(repeat(refine Wr _ _ _ _ (by kernel_rfl) ?_;simp only [Qr,List.set,List.nil_append,List.cons_append,Nat.reduceAdd]));(try simp only [Qm]));(refine hKT _ _ _ _ (by kernel_rfl) ?_;clear hKT KT);simp [Xi];((try simp only [zs]);refine Qk.pan (.inr ⟨[],by decide,by simp,?_⟩);simp [zM])
 have cc9:=Qbw hk (n:=n) (e:=13) a8 (by omega) d8 ⟨oi22.1,by have:=oi22.2;unfold Yb;omega⟩;rw [q9]at cc9;obtain⟨a9,b9⟩:=Qew a8 e9;unfold Xb at cc9;simp only [hEwa,hEi2]at cc9;unfold iO Cs at cc9
 try unfold Ts at cc9
 refine cYo [0,1] true true (cc9) (fun o h e=>e) ?_;simp [zU];(try simp only [zq]);(repeat rw [Qd];simp);clear cc9 q9;(refine hKT _ _ _ _ (by kernel_rfl) ?_;clear hKT KT);(refine hK _ _ _ ?_;clear hK K);(refine sR fun K hK=>?_;(repeat rw [Qa];simp));rcases Qv l n Qn (lvR l wb f9)with ⟨ll,f10,e10,q10⟩ | ⟨ee,e10,q10⟩
 rotate_left
 ·have hh:=Qcl hk (n:=n) a9 (by omega) (d8b.le (by omega));rw [q10]at hh;have hq:=hQ.symm.trans (Wh (e:=ee) (by simp only [e1,e2,e3,e4,e5,e6,e7,e8,e9,e10,Rs.next_ok,Rs.next_err,↓reduceIte,pathR,z0,z1,z2,z3,z4,z5,wlx,wla,wi1,wi2,wq1,wq2,wq3,wvv]));subst hq;clear hQ;simp only [hEwb]at hh;unfold iO Cs Wq at hh
  try unfold Ts at hh
  refine cXg [0,1] (hh) ?_;simp [zU];((try simp only [zs]);refine Qk.pan (.inr ⟨[],by decide,by simp,?_⟩);simp [zM])
 have cc10:=Qcl hk (n:=n) a9 (by omega) (d8b.le (by omega));rw [q10]at cc10;obtain⟨a10,b10, -⟩:=Qtd hk.ok a9 d8b.1 e10;have hEll:Qn ll= .agg [.slice (ll.map Wv) .any]:=rfl;simp only [hEwb,hEll]at cc10;unfold iO Cs at cc10
 try unfold Ts at cc10
 refine cXf [0,1] (cc10) ?_;simp [zU]
 (repeat rw [Qa];simp)
 clear cc10 q10;(refine hK _ _ _ ?_;clear hK K);(refine Qc fun K hK=>?_;refine dR fun KT hKT=>?_;(repeat rw [Qd];simp [L2]));refine Xt.pureD Qf (oq1) ?_ (by simp [D.deeps,D.deep,D.fgts,D.fgt]) (by simp [D.pures,D.pure,Cp.free,D.pures_map]) (by simp [Out.pure,D.pure,D.pures,Cp.free,D.pures_map]);(try simp only [zq]);(repeat rw [Qd];simp [L2]);refine Xt.pureD Qf (oq2) ?_ (by simp [D.deeps,D.deep,D.fgts,D.fgt]) (by simp [D.pures,D.pure,Cp.free,D.pures_map]) (by simp [Out.pure,D.pure,D.pures,Cp.free,D.pures_map]);(try simp only [zq]);(repeat rw [Qd];simp [L2]);refine Xt.pureD Qf (oq3) ?_ (by simp [D.deeps,D.deep,D.fgts,D.fgt]) (by simp [D.pures,D.pure,Cp.free,D.pures_map]) (by simp [Out.pure,D.pure,D.pures,Cp.free,D.pures_map]);(try simp only [zq]);(repeat rw [Qd];simp);rcases Qv l n Xb (J c x3 q3 f10)with ⟨u11,f11,e11,q11⟩ | ⟨ee,e11,q11⟩
 rotate_left
 ·have hh:=hJ c x3 q3 f10 a10 (by omega) k3 (hc.le (by omega)) ⟨oq32.1,by have:=oq32.2;unfold Yb;omega⟩;rw [q11]at hh;have hq:=hQ.symm.trans (Wh (e:=ee) (by simp only [e1,e2,e3,e4,e5,e6,e7,e8,e9,e10,e11,Rs.next_ok,Rs.next_err,↓reduceIte,pathR,z0,z1,z2,z3,z4,z5,wlx,wla,wi1,wi2,wq1,wq2,wq3,wvv]));subst hq;clear hQ;simp only [hE3,hEq3]at hh;unfold iO Cs Wq at hh
  try unfold Ts at hh
  refine cYo [0,1] true false (hh) (fun o h e=>e) ?_;simp [zU];((try simp only [Qt,Qu,Qr,Qw,Wi]);(repeat(refine Wr _ _ _ _ (by kernel_rfl) ?_;simp only [Qr,List.set,List.nil_append,List.cons_append,Nat.reduceAdd]));(try simp only [Qm]));(refine hKT _ _ _ _ (by kernel_rfl) ?_;clear hKT KT);simp [Xi];((try simp only [zs]);refine Qk.pan (.inr ⟨[],by decide,by simp,?_⟩);simp [zM])
 have cc11:=hJ c x3 q3 f10 a10 (by omega) k3 (hc.le (by omega)) ⟨oq32.1,by have:=oq32.2;unfold Yb;omega⟩;rw [q11]at cc11;unfold Xb at cc11;simp only [hE3,hEq3]at cc11;unfold iO Cs at cc11
 try unfold Ts at cc11
 refine cYo [0,1] true true (cc11) (fun o h e=>e) ?_;simp [zU];(try simp only [zq]);(repeat rw [Qd];simp);clear cc11 q11;(refine hKT _ _ _ _ (by kernel_rfl) ?_;clear hKT KT);(refine hK _ _ _ ?_;clear hK K);(refine Qc fun K hK=>?_;refine dR fun KT hKT=>?_;(repeat rw [Qd];simp [L2]));refine Xt.pureD Qf (or1) ?_ (by simp [D.deeps,D.deep,D.fgts,D.fgt]) (by simp [D.pures,D.pure,Cp.free,D.pures_map]) (by simp [Out.pure,D.pure,D.pures,Cp.free,D.pures_map]);(try simp only [zq]);(repeat rw [Qd];simp [L2]);refine Xt.pureD Qf (oy) ?_ (by simp [D.deeps,D.deep,D.fgts,D.fgt]) (by simp [D.pures,D.pure,Cp.free,D.pures_map]) (by simp [Out.pure,D.pure,D.pures,Cp.free,D.pures_map]);(try simp only [zq]);(repeat rw [Qd];simp);have hq:=hQ.symm.trans (Qbd (y) (g:=f11) (by simp only [e1,e2,e3,e4,e5,e6,e7,e8,e9,e10,e11,Rs.next_ok,Rs.next_err,↓reduceIte,pathR,z0,z1,z2,z3,z4,z5,wlx,wla,wi1,wi2,wq1,wq2,wq3,wvv];rw [wr1,wy]));simp only [hEy]at hq;subst hq;clear hQ;(refine hKT _ _ _ _ (by kernel_rfl) ?_;clear hKT KT);(refine hK _ _ _ ?_;clear hK K);(refine Qe ?_;(try simp only [zs]);refine Qk.ret rfl (.inr ⟨[],by decide,by simp,?_⟩);simp [zM])
theorem Wcn{l:List T}{m:Nat}(h:l.length=m+2):∃p bs x,l=p::(bs++ [x])/\bs.length=m:=by
 match l,h with
 | p::r,h =>
  have hr:r≠ []:=by intro e;subst e;simp at h
  refine⟨p,r.dropLast,r.getLast hr,by rw [List.dropLast_concat_getLast],by rw [List.length_dropLast];simp at h;omega⟩
theorem Qzv{J:List T ->T ->T ->Int ->Rs Unit}{c:List T}{t:T}(m k:Nat)(f:Int):brR J c t (m+1) k f=(J c (t.kid (k+1)) (ofT 6 [t.kid 0,Qii k t.a]) f).next fun _ f=>brR J c t m (k+1) f:=rfl
end
@[simp] theorem Wbp (σ:Nat ->Nat):∀a b:List D,D.rens σ (a++b)=D.rens σ a++D.rens σ b
 | [],b=>by rw [D.rens];rfl
 | x::r,b=>by rw [List.cons_append,D.rens,D.rens,Wbp σ r b];rfl
@[simp] theorem Qs8 (p:Nat ->Bool):∀a b:List D,D.okNs p (a++b)=(D.okNs p a && D.okNs p b)
 | [],b=>by rw [D.okNs];rfl
 | x::r,b=>by rw [List.cons_append,D.okNs,D.okNs,Qs8 p r b,Bool.and_assoc]
section
set_option maxHeartbeats 16000000 in
theorem Qu2{l:List C}{n F:Int}{I:List T ->T ->Int ->Rs T}{J:List T ->T ->T ->Int ->Rs Unit}(hk:Kc l)(hF:F<=20000)(bI:IB l n I)(bJ:KB l n J)(hI:IS l n I F)(hJ:KS l n J F){c:List T}{t:T}{f:Int}(h0:0<=f)(h1:f<=F)(hs:Sub n (l.map C.lv) c t)(hc:Cx c f)(hkk:t.k=24) :
  Sp 179 [.box 0 0,Ts c,Qj t] (iO f l n) (RP l n Qj (casesR l I J c t f)):=by
 have h2:f<=20000:=by omega
 have hcl:=hc.len;have hcc:c.length<=1000000:=by omega
 have L1:1<=Ql:=by unfold Ql;omega
 have L2:2<=Ql:=by unfold Ql;omega
 have L3:3<=Ql:=by unfold Ql;omega
 obtain⟨ha,hl⟩:=Qzt hs hkk;obtain⟨p,bs,x,hks,hbl⟩:=Wcn hl;obtain⟨m,hm⟩:∃m:Nat,t.a=(m:Int):=⟨t.a.toNat,by omega⟩;have hma:=hs.ok.a;rw [hm]at hma;have hbm:bs.length=m:=by omega
 have hbb:∀i:Int,Qa7 t.k i=false:=fun i=>by rw [hkk];exact Qzy i
 have z0:t.kid 0=p:=by unfold T.kid;rw [hks];rfl
 have zx:t.kid (m+1)=x:=by unfold T.kid;rw [hks,<- hbm];simp
 have zk:∀k (h:k<bs.length),t.kid (k+1)=bs[k]:=fun k h=>by unfold T.kid;rw [hks,List.getD_eq_getElem?_getD,List.getElem?_cons_succ,List.getElem?_append_left h,List.getElem?_eq_getElem h];rfl
 have hlen1:t.ks.length=m+2:=by omega
 have k0:=hs.kid (i:=0) (by omega) (hbb _);rw [z0]at k0;have kx:=hs.kid (i:=m+1) (by omega) (hbb _);rw [zx]at kx;have kk:∀k (h:k<bs.length),Sub n (l.map C.lv) c bs[k]:=fun k h=>by
  have:=hs.kid (i:=k+1) (by omega) (hbb _)
  rwa [zk k h]at this
 have hlm:m<=Ql:=by have:=hs.ok.kl;omega
 unfold Ql at hlm;have hEt:Qj t= .agg [.int .i64 t.k, .int .i64 t.n, .int .i64 m, .slice (t.ls.map Qn) .any, .slice (Qj p::(bs.map Qj++ [Qj x])) .any]:=by rw [Qb t,hks,hm];simp
 have hEp:=Qb p;have hEx:=Qb x;obtain⟨fa,wfa⟩:∃fa,Qje m=fa:=⟨_,rfl⟩;have hEfa:Qj fa= .agg [.int .i64 22, .int .i64 m, .int .i64 0, .slice [] .any, .slice [] .any]:=by rw [<- wfa];unfold Qje;rw [Qe4];rfl
 have ofa:okY f fa:=by rw [<- wfa];exact⟨Qry hma,by rw [Qq8];unfold Yb;omega⟩
 have hw1:IntKind.i64.wrap ((m:Int)+1)=(m:Int)+1:=Qbp (by omega) (by omega);have hm1:(0:Int)<=(m:Int)+1:=by omega
 have hix:(bs.map Qj++ [Qj x])[m]?=some (Qj x):=by rw [List.getElem?_append_right (by simp [hbm])];simp [hbm]
 have hta:(bs.map Qj++ [Qj x]).take m=bs.map Qj:=by rw [List.take_append_of_le_length (by simp [hbm]),List.take_of_length_le (by simp [hbm])]
 have hlen0:m<=bs.length+1:=by omega
 simp only [hEp,hEx]at hEt hix hta;have ow:=Ze 6 [p,x];obtain⟨w,ww⟩:∃w,ofT 6 [p,x]=w:=⟨_,rfl⟩;have hEw:=Qb w;simp only [ww,List.map_cons,List.map_nil,hEp,hEx,hEw]at ow;refine RP.of ?_;generalize hQ:RQ l n Qj (casesR l I J c t f)=Q;rw [hEt];unfold iO Cs Ts;refine eN Tryz.func179 rfl (by decide) rfl rfl ?_;(refine sR fun K hK=>?_;(repeat rw [Qa];simp);refine hK _ _ _ ?_;clear hK K);(refine Qc fun K hK=>?_;refine dR fun KT hKT=>?_;(repeat rw [Qd];simp [hix,hw1,hm1]));(refine hKT _ _ _ _ (by kernel_rfl) ?_;clear hKT KT);(refine hK _ _ _ ?_;clear hK K);(refine sR fun K hK=>?_;(repeat rw [Qa];simp));rcases Qv l n Xb (J c x fa f)with ⟨u1,f1,e1,q1⟩ | ⟨ee,e1,q1⟩
 rotate_left
 ·have hh:=hJ c x fa f h0 h1 kx hc ofa;rw [q1]at hh;have hq:=hQ.symm.trans (Wh (e:=ee) (by simp only [e1,Rs.next_ok,Rs.next_err,↓reduceIte,casesR,hm,Int.toNat_natCast,z0,zx,wfa]));subst hq;clear hQ;simp only [hEx,hEfa]at hh;unfold iO Cs Wq at hh
  try unfold Ts at hh
  refine cXg [0,1] (hh) ?_;simp [zU];((try simp only [zs]);refine Qk.pan (.inr ⟨[],by decide,by simp,?_⟩);simp [zM])
 have cc1:=hJ c x fa f h0 h1 kx hc ofa;rw [q1]at cc1;obtain⟨a1,b1⟩:=bJ c x fa f _ _ h0 h2 kx hc ofa e1;unfold Xb at cc1;simp only [hEx,hEfa]at cc1;unfold iO Cs at cc1
 try unfold Ts at cc1
 refine cXf [0,1] (cc1) ?_;simp [zU]
 (repeat rw [Qa];simp)
 clear cc1 q1;(refine hK _ _ _ ?_;clear hK K);(refine sR fun K hK=>?_;(repeat rw [Qa];simp));rcases Qv l n Xb (motiveR l I c p fa f1)with ⟨u2,f2,e2,q2⟩ | ⟨ee,e2,q2⟩
 rotate_left
 ·have hh:=Qdw hk hF bI bJ hI hJ a1 (by omega) k0 (hc.le (by omega)) (y:=fa) (ofa.le (by omega));rw [q2]at hh;have hq:=hQ.symm.trans (Wh (e:=ee) (by simp only [e1,e2,Rs.next_ok,Rs.next_err,↓reduceIte,casesR,hm,Int.toNat_natCast,z0,zx,wfa]));subst hq;clear hQ;simp only [hEp,hEfa]at hh;unfold iO Cs Wq at hh
  try unfold Ts at hh
  refine cXg [0,1] (hh) ?_;simp [zU];((try simp only [zs]);refine Qk.pan (.inr ⟨[],by decide,by simp,?_⟩);simp [zM])
 have cc2:=Qdw hk hF bI bJ hI hJ a1 (by omega) k0 (hc.le (by omega)) (y:=fa) (ofa.le (by omega));rw [q2]at cc2;obtain⟨a2,b2⟩:=Qf3 hk.ok bI a1 (by omega) k0 (hc.le (by omega)) e2;unfold Xb at cc2;simp only [hEp,hEfa]at cc2;unfold iO Cs at cc2
 try unfold Ts at cc2
 refine cXf [0,1] (cc2) ?_;simp [zU]
 (repeat rw [Qa];simp)
 clear cc2 q2;(refine hK _ _ _ ?_;clear hK K);refine Qc fun K1 hK1=>?_
 (refine sR fun K hK=>?_;(repeat rw [Qa];simp [hw1,hm1,hta,hlen0]);refine hK _ _ _ ?_;clear hK K);refine Xm Wa Qf (ti:=3) (tk:=43) (tn:=42) (td:=44) (ts:=59) [10,11,43,44,45,46,47,48,49,50,51,52,53,54,55,56,57,58,59] [] (bs.length) (fun k ys hl=>∃(g:Int),ys= []/\brR J c t m 0 f2=brR J c t (m - k) k g/\0<=g/\g<=f2/\hl= [.cells 165 [.int .i64 g, .slice (l.map Qbn) .any, .int .i64 n, .map 1], .mp Qcg, .cells 27 [.int .i64 t.k, .int .i64 t.n, .int .i64 m, .slice (t.ls.map Qn) .any, .slice (.agg [.int .i64 p.k, .int .i64 p.n, .int .i64 p.a, .slice (p.ls.map Qn) .any, .slice (p.ks.map Qj) .any]::(bs.map Qj++ [.agg [.int .i64 x.k, .int .i64 x.n, .int .i64 x.a, .slice (x.ls.map Qn) .any, .slice (x.ks.map Qj) .any]])) .any], .cells 27 [.int .i64 0, .int .i64 0, .int .i64 0, .slice [] .full, .slice [] .full], .cells 27 [.int .i64 p.k, .int .i64 p.n, .int .i64 p.a, .slice (p.ls.map Qn) .any, .slice (p.ks.map Qj) .any], .cells 27 [.int .i64 x.k, .int .i64 x.n, .int .i64 x.a, .slice (x.ls.map Qn) .any, .slice (x.ks.map Qj) .any], .cells 27 [.int .i64 22, .int .i64 m, .int .i64 0, .slice [] .full, .slice [] .full]]) rfl rfl rfl rfl rfl rfl rfl rfl rfl rfl rfl rfl (by simp) (by decide) rfl (by first | assumption | omega | (unfold Ql;omega)) rfl (by kernel_rfl) (by decide) ?_ ?_ ?_
 ·exact⟨f2,rfl,rfl,a2,Int.le_refl _,rfl⟩
 ·rintro i ys hl A hi ⟨g,rfl,hb,g0,g1,rfl⟩ hA hA2;simp only [Qh,List.set,List.map_cons,List.map_nil,List.cons_append,List.nil_append];have hi':(i:Int)<bs.length:=by omega
  obtain⟨y,hy⟩:∃y,bs[i]=y:=⟨_,rfl⟩;have ky:=kk i hi;rw [hy]at ky;have hEy:=Qb y;obtain⟨d,hd⟩:∃d,m - i=d+1:=⟨m - i - 1,by omega⟩;rw [hd,Qzv,zk i hi,hy,z0,hm]at hb;have oe:=Ze 6 [p,Qii i m];have hEe:Qj (Qii i m)= .agg [.int .i64 23, .int .i64 i, .int .i64 m, .slice [] .any, .slice [] .any]:=by unfold Qii;rw [Qe4];rfl
  have oyq:okT (ofT 6 [p,Qii i m])/\((ofT 6 [p,Qii i m]).pot:Int)<=100000:=⟨Qai Qc4 k0.ok (Qtx (by unfold I64;unfold I64 at hma;omega) hma),by have:=Qae 6 p (Qii i m);rw [Qs4]at this;have:=k0.pot;omega⟩;generalize ofT 6 [p,Qii i m]=w at oe oyq hb;have hEw:=Qb w;simp only [List.map_cons,List.map_nil,hEp,hEe,hEw]at oe;have sp:=hJ c y w g g0 (by omega) ky (hc.le (by omega)) ⟨oyq.1,by have:=oyq.2;unfold Yb;omega⟩;have bd:∀u g',J c y w g= .ok (u,g') ->0<=g'/\g'<=g - 1:=fun u g' h=>bJ c y w g u g' g0 (by omega) ky (hc.le (by omega)) ⟨oyq.1,by have:=oyq.2;unfold Yb;omega⟩ h
  simp only [hEy,hEw]at sp;(refine sR fun K hK=>?_;(repeat rw [Qa];simp [hi,hi',hy,hEy]);refine hK _ _ _ ?_;clear hK K);(refine dR fun KT hKT=>?_;(repeat rw [Qd];simp [L2]));refine Xt.pureD Qf (oe) ?_ (by simp [D.deeps,D.deep,D.fgts,D.fgt]) (by simp [D.pures,D.pure,Cp.free,D.pures_map]) (by simp [Out.pure,D.pure,D.pures,Cp.free,D.pures_map]);(try simp only [zq]);(repeat rw [Qd];simp);rcases Qv l n Xb (J c y w g)with ⟨u3,g',e3,q3⟩ | ⟨ee,e3,q3⟩
  rotate_left
  ·rw [q3]at sp;have hq:=hQ.symm.trans (Wh (e:=ee) (by simp only [casesR,hm,Int.toNat_natCast,z0,zx,wfa,e1,e2,hb,e3,Rs.next_ok,Rs.next_err]));subst hq;clear hQ;unfold iO Cs Wq at sp;unfold Ts at sp;refine cYo [0,1] true false (sp) (fun o h e=>e) ?_;simp [zU];((try simp only [Qt,Qu,Qr,Qw,Wi]);(repeat(refine Wr _ _ _ _ (by kernel_rfl) ?_;simp only [Qr,List.set,List.nil_append,List.cons_append,Nat.reduceAdd]));(try simp only [Qm]));(refine hKT _ _ _ _ (by kernel_rfl) ?_;clear hKT KT);simp [Xi];((try simp only [zs]);refine Qk.pan (.inr ⟨[],by decide,by simp,?_⟩);simp [zM])
  rw [q3]at sp;obtain⟨b3,b4⟩:=bd _ _ e3;rw [e3,Rs.next_ok]at hb;unfold iO Cs Xb at sp;unfold Ts at sp;refine cYo [0,1] true true (sp) (fun o h e=>e) ?_;simp [zU];(try simp only [zq]);(repeat rw [Qd];simp);(refine hKT _ _ _ _ (by kernel_rfl) ?_;clear hKT KT);(refine hA2 ([2,3,4,5,6]) _ _ _ (LeT.refl _) (by decide) (by simp) (by simp [zM,Qh]) ?_ rfl;simp [zM])
  first | exact⟨g',by rw [hb,show m - (i+1)=d by omega],by omega,by omega,rfl⟩ | exact⟨g',by rw [hb,show m - (i+1)=d by omega],by omega,by omega⟩ | exact⟨by rw [hb,show m - (i+1)=d by omega],by omega,by omega⟩
 ·rintro ys hl tl' ⟨g,rfl,hb,g0,g1,rfl⟩ htl;refine hK1 _ _ _ (Xn htl ?_);simp only [Qh,List.set,List.map_cons,List.map_nil,List.cons_append,List.nil_append];clear hK1 K1;rw [show m - bs.length=0 by omega]at hb;have hb:brR J c t m 0 f2= .ok ((),g):=hb;(refine sR fun K hK=>?_;(repeat rw [Qa];simp [L2]));refine Wm.pureD Qf (ow) ?_ (by simp [D.deeps,D.deep,D.fgts,D.fgt]) (by simp [D.pures,D.pure,Cp.free,D.pures_map]) (by simp [Out.pure,D.pure,D.pures,Cp.free,D.pures_map]);(try simp only [zr]);(repeat rw [Qa];simp);have hq:=hQ.symm.trans (Qbd (w) (g:=g) (by simp only [e1,e2,hb,Rs.next_ok,Rs.next_err,↓reduceIte,casesR,hm,Int.toNat_natCast,z0,zx,wfa];rw [ww]));simp only [hEw]at hq;subst hq;clear hQ;(refine hK _ _ _ ?_;clear hK K);(refine Qe ?_;(try simp only [zs]);refine Qk.ret rfl (.inr ⟨[],by decide,by simp,?_⟩);simp [zM])
end
section
theorem c_lam{l:List C}{n F:Int}{I:List T ->T ->Int ->Rs T}{J:List T ->T ->T ->Int ->Rs Unit}(hk:Kc l)(hF:F<=19999)(bI:IB l n I)(bJ:KB l n J)(hI:IS l n I F)(hJ:KS l n J F){c:List T}{t y:T}{f:Int}(h0:0<=f)(h1:f<=F)(hs:Sub n (l.map C.lv) c t)(hc:Cx c f)(hkk:t.k=5)(hy0:okY (f+1) y) :
  Sp 68 [.box 0 0,Ts c,Qj t,Qj y] (iO (f+1) l n) (RP l n Xb (askR l I J c t y f)):=by
 have h2:f<=20000:=by omega
 have hcl:=hc.len;have hcc:c.length<=1000000:=by omega
 have hF2:F<=20000:=by omega
 have hy:=hy0.le (show f<=f+1 by omega);have hl:=hs.ks hkk (m:=2);obtain⟨x0,x1,hks⟩:=Ql2 hl;have z0:t.kid 0=x0:=by unfold T.kid;rw [hks];rfl
 have z1:t.kid 1=x1:=by unfold T.kid;rw [hks];rfl
 have hEt:Qj t= .agg [.int .i64 t.k, .int .i64 t.n, .int .i64 t.a, .slice (t.ls.map Qn) .any, .slice [Qj x0,Qj x1] .any]:=by rw [Qb t,hks];rfl
 have k0:=hs.kid (i:=0) (by omega) (by rw [hkk];rfl);rw [z0]at k0;obtain⟨c1,hc1⟩:∃c1,c1=c++ [x0]:=⟨_,rfl⟩;have k1:=hs.kidB (i:=1) hcc x0 (by omega) (by rw [hkk];rfl);rw [z1,<- hc1]at k1;have hE0:=Qb x0;have hE1:=Qb x1;rw [hkk]at hEt;have hEy:=Qb y;have L1:1<=Ql:=by unfold Ql;omega
 have L2:2<=Ql:=by unfold Ql;omega
 have L3:3<=Ql:=by unfold Ql;omega
 have hb:=Qe0 c x0 hcc;rw [<- hc1]at hb;unfold Ts at hb;simp only [List.map_cons,List.map_nil,hE0]at hb;have bu:Sp 118 [.box 0 0, .int .i64 1] (iO (f+1) l n) (fun o hc=>o.fgt= .ret (.tuple [])/\hc=iO f l n):=by
  have h:=Qbk (l:=l) (n:=n) (f:=f+1) (m:=1) (by omega) (by omega);rw [show Qds 1 (f+1)= .ok ((),f) by unfold Qds;rw [if_pos (by omega),show f+1 - 1=f by omega]]at h;exact h
 have hA:askR l I J c t y f=(asR l y 4 8 f).next fun v f=>(sortR l I c (t.kid 0) f).next fun _ f=>(oneR l (t.kid 0) v.1 13 f).next fun _ f=>J (c++ [t.kid 0]) (t.kid 1) v.2 f:=by
  unfold askR;rw [if_pos hkk]
 refine RP.of ?_;generalize hQ:RQ l n Xb (askR l I J c t y f)=Q;rw [hA]at hQ;rw [hEt,hEy];simp only [hE0,hE1];unfold iO Cs at bu;unfold iO Cs Ts;refine eN Tryz.func68 rfl (by decide) rfl rfl ?_;(refine sR fun K hK=>?_;(repeat rw [Qa];simp);refine hK _ _ _ ?_;clear hK K);(refine sR fun K hK=>?_;(repeat rw [Qa];simp));refine cXf [0,1] (bu) ?_;simp [zU]
 (repeat rw [Qa];simp)
 (refine hK _ _ _ ?_;clear hK K);(refine sR fun K hK=>?_;(repeat rw [Qa];simp);refine hK _ _ _ ?_;clear hK K);refine Qy ?_;(refine sR fun K hK=>?_;(repeat rw [Qa];simp);refine hK _ _ _ ?_;clear hK K);refine pT rfl ?_;(refine sR fun K hK=>?_;(repeat rw [Qa];simp));rcases Qv l n asD (asR l y 4 8 f)with ⟨v,f1,e1,q1⟩ | ⟨ee,e1,q1⟩
 rotate_left
 ·have hh:=Qan hk (n:=n) (k:=4) (e:=8) h0 (by omega) hy;rw [q1]at hh;have hq:=hQ.symm.trans (Wh (e:=ee) (by simp only [e1,Rs.next_ok,Rs.next_err,↓reduceIte,z0,z1,<- hc1]));subst hq;clear hQ;simp only [hEy]at hh;unfold iO Cs Wq at hh
  try unfold Ts at hh
  refine cXg [0,1] (hh) ?_;simp [zU];((try simp only [zs]);refine Qk.pan (.inr ⟨[],by decide,by simp,?_⟩);simp [zM])
 have cc1:=Qan hk (n:=n) (k:=4) (e:=8) h0 (by omega) hy;rw [q1]at cc1;obtain⟨a1,b1,d2,d3,p2⟩:=Qbe hk.ok h0 hy e1;obtain⟨va,vb⟩:=v;have hEva:=Qb va;have hEvb:=Qb vb;unfold asD at cc1;dsimp only at cc1;simp only [hEy,hEva,hEvb]at cc1;unfold iO Cs at cc1
 try unfold Ts at cc1
 replace d2:okY f1 va:=d2
 replace d3:okY f1 vb:=d3
 replace p2:((va.pot+vb.pot:Nat):Int)<=y.pot+7 * (f - f1)+1:=p2
 refine cXf [0,1] (cc1) ?_;simp [zU]
 (repeat rw [Qa];simp)
 clear cc1 q1;(refine hK _ _ _ ?_;clear hK K);(refine sR fun K hK=>?_;(repeat rw [Qa];simp));rcases Qv l n Qn (sortR l I c x0 f1)with ⟨i,f2,e2,q2⟩ | ⟨ee,e2,q2⟩
 rotate_left
 ·have hh:=Zd hk hF2 bI bJ hI hJ a1 (by omega) k0 (hc.le (by omega));rw [q2]at hh;have hq:=hQ.symm.trans (Wh (e:=ee) (by simp only [e1,e2,Rs.next_ok,Rs.next_err,↓reduceIte,z0,z1,<- hc1]));subst hq;clear hQ;simp only [hE0]at hh;unfold iO Cs Wq at hh
  try unfold Ts at hh
  refine cXg [0,1] (hh) ?_;simp [zU];((try simp only [zs]);refine Qk.pan (.inr ⟨[],by decide,by simp,?_⟩);simp [zM])
 have cc2:=Zd hk hF2 bI bJ hI hJ a1 (by omega) k0 (hc.le (by omega));rw [q2]at cc2;obtain⟨a2,b2, -⟩:=Qag hk.ok bI a1 (by omega) k0 (hc.le (by omega)) e2;have cx:Cx c1 f2:=by rw [hc1];exact hc.below k0 (by omega)
 have hEi:Qn i= .agg [.slice (i.map Wv) .any]:=rfl;simp only [hE0,hEi]at cc2;unfold iO Cs at cc2
 try unfold Ts at cc2
 refine cXf [0,1] (cc2) ?_;simp [zU]
 (repeat rw [Qa];simp)
 clear cc2 q2;(refine hK _ _ _ ?_;clear hK K);(refine Qc fun K hK=>?_;refine dR fun KT hKT=>?_;(repeat rw [Qd];simp));rcases Qv l n Xb (oneR l x0 va 13 f2)with ⟨u3,f3,e3,q3⟩ | ⟨ee,e3,q3⟩
 rotate_left
 ·have hh:=Qbw hk (n:=n) (e:=13) a2 (by omega) (k0.okY (by omega)) (d2.le (by omega));rw [q3]at hh;have hq:=hQ.symm.trans (Wh (e:=ee) (by simp only [e1,e2,e3,Rs.next_ok,Rs.next_err,↓reduceIte,z0,z1,<- hc1]));subst hq;clear hQ;simp only [hE0,hEva]at hh;unfold iO Cs Wq at hh
  try unfold Ts at hh
  refine cYo [0,1] true false (hh) (fun o h e=>e) ?_;simp [zU];((try simp only [Qt,Qu,Qr,Qw,Wi]);(repeat(refine Wr _ _ _ _ (by kernel_rfl) ?_;simp only [Qr,List.set,List.nil_append,List.cons_append,Nat.reduceAdd]));(try simp only [Qm]));(refine hKT _ _ _ _ (by kernel_rfl) ?_;clear hKT KT);simp [Xi];((try simp only [zs]);refine Qk.pan (.inr ⟨[],by decide,by simp,?_⟩);simp [zM])
 have cc3:=Qbw hk (n:=n) (e:=13) a2 (by omega) (k0.okY (by omega)) (d2.le (by omega));rw [q3]at cc3;obtain⟨a3,b3⟩:=Qew a2 e3;unfold Xb at cc3;simp only [hE0,hEva]at cc3;unfold iO Cs at cc3
 try unfold Ts at cc3
 refine cYo [0,1] true true (cc3) (fun o h e=>e) ?_;simp [zU];(try simp only [zq]);(repeat rw [Qd];simp);clear cc3 q3;(refine hKT _ _ _ _ (by kernel_rfl) ?_;clear hKT KT);(refine hK _ _ _ ?_;clear hK K);(refine dR fun KT hKT=>?_;(repeat rw [Qd];simp [L1]));refine cYp (hb) ?_;(try simp only [zq]);(repeat rw [Qd];simp [L1,L2]);rcases Qv l n Xb (J c1 x1 vb f3)with ⟨u4,f4,e4,q4⟩ | ⟨ee,e4,q4⟩
 rotate_left
 ·have hh:=hJ c1 x1 vb f3 a3 (by omega) k1 (cx.le b3) (d3.le (by omega));rw [q4]at hh;have hq:=hQ.symm.trans (Wh (e:=ee) (by simp only [e1,e2,e3,e4,Rs.next_ok,Rs.next_err,↓reduceIte,z0,z1,<- hc1]));subst hq;clear hQ;simp only [hE1,hEvb]at hh;unfold iO Cs Wq at hh
  try unfold Ts at hh
  refine cYo [0,1] true false (hh) (fun o h e=>e) ?_;simp [zU];((try simp only [Qt,Qu,Qr,Qw,Wi]);(repeat(refine Wr _ _ _ _ (by kernel_rfl) ?_;simp only [Qr,List.set,List.nil_append,List.cons_append,Nat.reduceAdd]));(try simp only [Qm]));(refine hKT _ _ _ _ (by kernel_rfl) ?_;clear hKT KT);simp [Xi];((try simp only [zs]);refine Qk.pan (.inr ⟨[],by decide,by simp,?_⟩);simp [zM])
 have cc4:=hJ c1 x1 vb f3 a3 (by omega) k1 (cx.le b3) (d3.le (by omega));rw [q4]at cc4;unfold Xb at cc4;simp only [hE1,hEvb]at cc4;unfold iO Cs at cc4
 try unfold Ts at cc4
 refine cYo [0,1] true true (cc4) (fun o h e=>e) ?_;simp [zU];(try simp only [zq]);(repeat rw [Qd];simp);clear cc4 q4;have hq:=hQ.symm.trans (Qbd (()) (g:=f4) (by simp only [e1,e2,e3,e4,Rs.next_ok,Rs.next_err,↓reduceIte,z0,z1,<- hc1]));simp only [Xb]at hq;subst hq;clear hQ;(refine hKT _ _ _ _ (by kernel_rfl) ?_;clear hKT KT);((try simp only [zs]);refine Qk.nrm rfl (.inr ⟨[],by decide,by simp,?_⟩);simp [zM])
theorem c_pair{l:List C}{n F:Int}{I:List T ->T ->Int ->Rs T}{J:List T ->T ->T ->Int ->Rs Unit}(hk:Kc l)(hF:F<=19999)(bI:IB l n I)(bJ:KB l n J)(hI:IS l n I F)(hJ:KS l n J F){c:List T}{t y:T}{f:Int}(h0:0<=f)(h1:f<=F)(hs:Sub n (l.map C.lv) c t)(hc:Cx c f)(hkk:t.k=13)(hy0:okY (f+1) y) :
  Sp 68 [.box 0 0,Ts c,Qj t,Qj y] (iO (f+1) l n) (RP l n Xb (askR l I J c t y f)):=by
 have h2:f<=20000:=by omega
 have hcl:=hc.len;have hcc:c.length<=1000000:=by omega
 have hF2:F<=20000:=by omega
 have hy:=hy0.le (show f<=f+1 by omega);have hl:=hs.ks hkk (m:=2);obtain⟨x0,x1,hks⟩:=Ql2 hl;have z0:t.kid 0=x0:=by unfold T.kid;rw [hks];rfl
 have z1:t.kid 1=x1:=by unfold T.kid;rw [hks];rfl
 have hEt:Qj t= .agg [.int .i64 t.k, .int .i64 t.n, .int .i64 t.a, .slice (t.ls.map Qn) .any, .slice [Qj x0,Qj x1] .any]:=by rw [Qb t,hks];rfl
 have k0:=hs.kid (i:=0) (by omega) (by rw [hkk];rfl);rw [z0]at k0;have k1:=hs.kid (i:=1) (by omega) (by rw [hkk];rfl);rw [z1]at k1;have hE0:=Qb x0;have hE1:=Qb x1;rw [hkk]at hEt;have hEy:=Qb y;have L1:1<=Ql:=by unfold Ql;omega
 have L2:2<=Ql:=by unfold Ql;omega
 have L3:3<=Ql:=by unfold Ql;omega
 have bu:Sp 118 [.box 0 0, .int .i64 1] (iO (f+1) l n) (fun o hc=>o.fgt= .ret (.tuple [])/\hc=iO f l n):=by
  have h:=Qbk (l:=l) (n:=n) (f:=f+1) (m:=1) (by omega) (by omega);rw [show Qds 1 (f+1)= .ok ((),f) by unfold Qds;rw [if_pos (by omega),show f+1 - 1=f by omega]]at h;exact h
 have hA:askR l I J c t y f=(asR l y 12 9 f).next fun v f=>(J c (t.kid 0) v.1 f).next fun _ f=>(Qqc v.2 (t.kid 0) f).next fun z f=>J c (t.kid 1) z f:=by
  unfold askR;rw [if_neg (show ¬ t.k=5 by rw [hkk];decide),if_pos hkk]
 refine RP.of ?_;generalize hQ:RQ l n Xb (askR l I J c t y f)=Q;rw [hA]at hQ;rw [hEt,hEy];simp only [hE0,hE1];unfold iO Cs at bu;unfold iO Cs Ts;refine eN Tryz.func68 rfl (by decide) rfl rfl ?_;(refine sR fun K hK=>?_;(repeat rw [Qa];simp);refine hK _ _ _ ?_;clear hK K);(refine sR fun K hK=>?_;(repeat rw [Qa];simp));refine cXf [0,1] (bu) ?_;simp [zU]
 (repeat rw [Qa];simp)
 (refine hK _ _ _ ?_;clear hK K);(refine sR fun K hK=>?_;(repeat rw [Qa];simp);refine hK _ _ _ ?_;clear hK K);refine Qy ?_;(refine sR fun K hK=>?_;(repeat rw [Qa];simp);refine hK _ _ _ ?_;clear hK K);refine pF rfl ?_;(refine sR fun K hK=>?_;(repeat rw [Qa];simp);refine hK _ _ _ ?_;clear hK K);refine pT rfl ?_;(refine sR fun K hK=>?_;(repeat rw [Qa];simp));rcases Qv l n asD (asR l y 12 9 f)with ⟨v,f1,e1,q1⟩ | ⟨ee,e1,q1⟩
 rotate_left
 ·have hh:=Qan hk (n:=n) (k:=12) (e:=9) h0 (by omega) hy;rw [q1]at hh;have hq:=hQ.symm.trans (Wh (e:=ee) (by simp only [e1,Rs.next_ok,Rs.next_err,↓reduceIte,z0,z1]));subst hq;clear hQ;simp only [hEy]at hh;unfold iO Cs Wq at hh
  try unfold Ts at hh
  refine cXg [0,1] (hh) ?_;simp [zU];((try simp only [zs]);refine Qk.pan (.inr ⟨[],by decide,by simp,?_⟩);simp [zM])
 have cc1:=Qan hk (n:=n) (k:=12) (e:=9) h0 (by omega) hy;rw [q1]at cc1;obtain⟨a1,b1,d2,d3,p2⟩:=Qbe hk.ok h0 hy e1;obtain⟨va,vb⟩:=v;have hEva:=Qb va;have hEvb:=Qb vb;unfold asD at cc1;dsimp only at cc1;simp only [hEy,hEva,hEvb]at cc1;unfold iO Cs at cc1
 try unfold Ts at cc1
 replace d2:okY f1 va:=d2
 replace d3:okY f1 vb:=d3
 replace p2:((va.pot+vb.pot:Nat):Int)<=y.pot+7 * (f - f1)+1:=p2
 refine cXf [0,1] (cc1) ?_;simp [zU]
 (repeat rw [Qa];simp)
 clear cc1 q1;(refine hK _ _ _ ?_;clear hK K);(refine Qc fun K hK=>?_;refine dR fun KT hKT=>?_;(repeat rw [Qd];simp));rcases Qv l n Xb (J c x0 va f1)with ⟨u2,f2,e2,q2⟩ | ⟨ee,e2,q2⟩
 rotate_left
 ·have hh:=hJ c x0 va f1 a1 (by omega) k0 (hc.le (by omega)) d2;rw [q2]at hh;have hq:=hQ.symm.trans (Wh (e:=ee) (by simp only [e1,e2,Rs.next_ok,Rs.next_err,↓reduceIte,z0,z1]));subst hq;clear hQ;simp only [hE0,hEva]at hh;unfold iO Cs Wq at hh
  try unfold Ts at hh
  refine cYo [0,1] true false (hh) (fun o h e=>e) ?_;simp [zU];((try simp only [Qt,Qu,Qr,Qw,Wi]);(repeat(refine Wr _ _ _ _ (by kernel_rfl) ?_;simp only [Qr,List.set,List.nil_append,List.cons_append,Nat.reduceAdd]));(try simp only [Qm]));(refine hKT _ _ _ _ (by kernel_rfl) ?_;clear hKT KT);simp [Xi];((try simp only [zs]);refine Qk.pan (.inr ⟨[],by decide,by simp,?_⟩);simp [zM])
 have cc2:=hJ c x0 va f1 a1 (by omega) k0 (hc.le (by omega)) d2;rw [q2]at cc2;obtain⟨a2,b2⟩:=bJ c x0 va f1 _ _ a1 (by omega) k0 (hc.le (by omega)) d2 e2;unfold Xb at cc2;simp only [hE0,hEva]at cc2;unfold iO Cs at cc2
 try unfold Ts at cc2
 refine cYo [0,1] true true (cc2) (fun o h e=>e) ?_;simp [zU];(try simp only [zq]);(repeat rw [Qd];simp);clear cc2 q2;(refine hKT _ _ _ _ (by kernel_rfl) ?_;clear hKT KT);(refine hK _ _ _ ?_;clear hK K);(refine dR fun KT hKT=>?_;(repeat rw [Qd];simp));rcases Qv l n Qj (Qqc vb x0 f2)with ⟨z,f3,e3,q3⟩ | ⟨ee,e3,q3⟩
 rotate_left
 ·have hh:=Qbv (l:=l) (n:=n) (f:=f2) (t:=vb) (a:=x0) (by omega) ⟨d3.1,d3.pm (by omega)⟩ ⟨k0.ok,by have:=k0.pot;unfold PM;omega⟩;rw [q3]at hh;have hq:=hQ.symm.trans (Wh (e:=ee) (by simp only [e1,e2,e3,Rs.next_ok,Rs.next_err,↓reduceIte,z0,z1]));subst hq;clear hQ;simp only [hEvb,hE0]at hh;unfold iO Cs Wq at hh
  try unfold Ts at hh
  refine cYo [0,1] true false (hh) (fun o h e=>e) ?_;simp [zU];((try simp only [Qt,Qu,Qr,Qw,Wi]);(repeat(refine Wr _ _ _ _ (by kernel_rfl) ?_;simp only [Qr,List.set,List.nil_append,List.cons_append,Nat.reduceAdd]));(try simp only [Qm]));(refine hKT _ _ _ _ (by kernel_rfl) ?_;clear hKT KT);simp [Xi];((try simp only [zs]);refine Qk.pan (.inr ⟨[],by decide,by simp,?_⟩);simp [zM])
 have cc3:=Qbv (l:=l) (n:=n) (f:=f2) (t:=vb) (a:=x0) (by omega) ⟨d3.1,d3.pm (by omega)⟩ ⟨k0.ok,by have:=k0.pot;unfold PM;omega⟩;rw [q3]at cc3;obtain⟨a3,b3,oz,nz, -⟩:=Qgl (n:=n) a2 d3.1 k0.ok e3;have pz:=Qfk z;have hEz:=Qb z;simp only [hEvb,hE0,hEz]at cc3;unfold iO Cs at cc3
 try unfold Ts at cc3
 refine cYo [0,1] true true (cc3) (fun o h e=>e) ?_;simp [zU];(try simp only [zq]);(repeat rw [Qd];simp);clear cc3 q3;rcases Qv l n Xb (J c x1 z f3)with ⟨u4,f4,e4,q4⟩ | ⟨ee,e4,q4⟩
 rotate_left
 ·have hh:=hJ c x1 z f3 a3 (by omega) k1 (hc.le (by omega)) ⟨oz,by unfold Yb;omega⟩;rw [q4]at hh;have hq:=hQ.symm.trans (Wh (e:=ee) (by simp only [e1,e2,e3,e4,Rs.next_ok,Rs.next_err,↓reduceIte,z0,z1]));subst hq;clear hQ;simp only [hE1,hEz]at hh;unfold iO Cs Wq at hh
  try unfold Ts at hh
  refine cYo [0,1] true false (hh) (fun o h e=>e) ?_;simp [zU];((try simp only [Qt,Qu,Qr,Qw,Wi]);(repeat(refine Wr _ _ _ _ (by kernel_rfl) ?_;simp only [Qr,List.set,List.nil_append,List.cons_append,Nat.reduceAdd]));(try simp only [Qm]));(refine hKT _ _ _ _ (by kernel_rfl) ?_;clear hKT KT);simp [Xi];((try simp only [zs]);refine Qk.pan (.inr ⟨[],by decide,by simp,?_⟩);simp [zM])
 have cc4:=hJ c x1 z f3 a3 (by omega) k1 (hc.le (by omega)) ⟨oz,by unfold Yb;omega⟩;rw [q4]at cc4;unfold Xb at cc4;simp only [hE1,hEz]at cc4;unfold iO Cs at cc4
 try unfold Ts at cc4
 refine cYo [0,1] true true (cc4) (fun o h e=>e) ?_;simp [zU];(try simp only [zq]);(repeat rw [Qd];simp);clear cc4 q4;have hq:=hQ.symm.trans (Qbd (()) (g:=f4) (by simp only [e1,e2,e3,e4,Rs.next_ok,Rs.next_err,↓reduceIte,z0,z1]));simp only [Xb]at hq;subst hq;clear hQ;(refine hKT _ _ _ _ (by kernel_rfl) ?_;clear hKT KT);((try simp only [zs]);refine Qk.nrm rfl (.inr ⟨[],by decide,by simp,?_⟩);simp [zM])
set_option maxHeartbeats 16000000 in
theorem c_sup{l:List C}{n F:Int}{I:List T ->T ->Int ->Rs T}{J:List T ->T ->T ->Int ->Rs Unit}(hk:Kc l)(hF:F<=19999)(bI:IB l n I)(bJ:KB l n J)(hI:IS l n I F)(hJ:KS l n J F){c:List T}{t y:T}{f:Int}(h0:0<=f)(h1:f<=F)(hs:Sub n (l.map C.lv) c t)(hc:Cx c f)(hkk:t.k=17)(hy0:okY (f+1) y) :
  Sp 68 [.box 0 0,Ts c,Qj t,Qj y] (iO (f+1) l n) (RP l n Xb (askR l I J c t y f)):=by
 have h2:f<=20000:=by omega
 have hcl:=hc.len;have hcc:c.length<=1000000:=by omega
 have hF2:F<=20000:=by omega
 have hy:=hy0.le (show f<=f+1 by omega);have hl:=hs.ks hkk (m:=2);obtain⟨x0,x1,hks⟩:=Ql2 hl;have z0:t.kid 0=x0:=by unfold T.kid;rw [hks];rfl
 have z1:t.kid 1=x1:=by unfold T.kid;rw [hks];rfl
 have hEt:Qj t= .agg [.int .i64 t.k, .int .i64 t.n, .int .i64 t.a, .slice (t.ls.map Qn) .any, .slice [Qj x0,Qj x1] .any]:=by rw [Qb t,hks];rfl
 have k0:=hs.kid (i:=0) (by omega) (by rw [hkk];rfl);rw [z0]at k0;have k1:=hs.kid (i:=1) (by omega) (by rw [hkk];rfl);rw [z1]at k1;have hE0:=Qb x0;have hE1:=Qb x1;rw [hkk]at hEt;have hEy:=Qb y;have L1:1<=Ql:=by unfold Ql;omega
 have L2:2<=Ql:=by unfold Ql;omega
 have L3:3<=Ql:=by unfold Ql;omega
 have bu:Sp 118 [.box 0 0, .int .i64 1] (iO (f+1) l n) (fun o hc=>o.fgt= .ret (.tuple [])/\hc=iO f l n):=by
  have h:=Qbk (l:=l) (n:=n) (f:=f+1) (m:=1) (by omega) (by omega);rw [show Qds 1 (f+1)= .ok ((),f) by unfold Qds;rw [if_pos (by omega),show f+1 - 1=f by omega]]at h;exact h
 have hA:askR l I J c t y f=(asR l y 16 10 f).next fun v f=>(J c (t.kid 0) v.1 f).next fun _ f=>(Qqc v.2 (t.kid 0) f).next fun z f=>J c (t.kid 1) (ofT 4 [z,ofT 16 [v.1.lift 1 0 0,v.2.lift 1 1 0]]) f:=by
  unfold askR;rw [if_neg (show ¬ t.k=5 by rw [hkk];decide),if_neg (show ¬ t.k=13 by rw [hkk];decide),if_pos hkk]
 refine RP.of ?_;generalize hQ:RQ l n Xb (askR l I J c t y f)=Q;rw [hA]at hQ;rw [hEt,hEy];simp only [hE0,hE1];unfold iO Cs at bu;unfold iO Cs Ts;refine eN Tryz.func68 rfl (by decide) rfl rfl ?_;(refine sR fun K hK=>?_;(repeat rw [Qa];simp);refine hK _ _ _ ?_;clear hK K);(refine sR fun K hK=>?_;(repeat rw [Qa];simp));refine cXf [0,1] (bu) ?_;simp [zU]
 (repeat rw [Qa];simp)
 (refine hK _ _ _ ?_;clear hK K);(refine sR fun K hK=>?_;(repeat rw [Qa];simp);refine hK _ _ _ ?_;clear hK K);refine Qy ?_;(refine sR fun K hK=>?_;(repeat rw [Qa];simp);refine hK _ _ _ ?_;clear hK K);refine pF rfl ?_;(refine sR fun K hK=>?_;(repeat rw [Qa];simp);refine hK _ _ _ ?_;clear hK K);refine pF rfl ?_;(refine sR fun K hK=>?_;(repeat rw [Qa];simp);refine hK _ _ _ ?_;clear hK K);refine pT rfl ?_;(refine sR fun K hK=>?_;(repeat rw [Qa];simp));rcases Qv l n asD (asR l y 16 10 f)with ⟨v,f1,e1,q1⟩ | ⟨ee,e1,q1⟩
 rotate_left
 ·have hh:=Qan hk (n:=n) (k:=16) (e:=10) h0 (by omega) hy;rw [q1]at hh;have hq:=hQ.symm.trans (Wh (e:=ee) (by simp only [e1,Rs.next_ok,Rs.next_err,↓reduceIte,z0,z1]));subst hq;clear hQ;simp only [hEy]at hh;unfold iO Cs Wq at hh
  try unfold Ts at hh
  refine cXg [0,1] (hh) ?_;simp [zU];((try simp only [zs]);refine Qk.pan (.inr ⟨[],by decide,by simp,?_⟩);simp [zM])
 have cc1:=Qan hk (n:=n) (k:=16) (e:=10) h0 (by omega) hy;rw [q1]at cc1;obtain⟨a1,b1,d2,d3,p2⟩:=Qbe hk.ok h0 hy e1;obtain⟨va,vb⟩:=v;have hEva:=Qb va;have hEvb:=Qb vb;unfold asD at cc1;dsimp only at cc1;simp only [hEy,hEva,hEvb]at cc1;unfold iO Cs at cc1
 try unfold Ts at cc1
 replace d2:okY f1 va:=d2
 replace d3:okY f1 vb:=d3
 replace p2:((va.pot+vb.pot:Nat):Int)<=y.pot+7 * (f - f1)+1:=p2
 refine cXf [0,1] (cc1) ?_;simp [zU]
 (repeat rw [Qa];simp)
 clear cc1 q1;(refine hK _ _ _ ?_;clear hK K);(refine Qc fun K hK=>?_;refine dR fun KT hKT=>?_;(repeat rw [Qd];simp));rcases Qv l n Xb (J c x0 va f1)with ⟨u2,f2,e2,q2⟩ | ⟨ee,e2,q2⟩
 rotate_left
 ·have hh:=hJ c x0 va f1 a1 (by omega) k0 (hc.le (by omega)) d2;rw [q2]at hh;have hq:=hQ.symm.trans (Wh (e:=ee) (by simp only [e1,e2,Rs.next_ok,Rs.next_err,↓reduceIte,z0,z1]));subst hq;clear hQ;simp only [hE0,hEva]at hh;unfold iO Cs Wq at hh
  try unfold Ts at hh
  refine cYo [0,1] true false (hh) (fun o h e=>e) ?_;simp [zU];((try simp only [Qt,Qu,Qr,Qw,Wi]);(repeat(refine Wr _ _ _ _ (by kernel_rfl) ?_;simp only [Qr,List.set,List.nil_append,List.cons_append,Nat.reduceAdd]));(try simp only [Qm]));(refine hKT _ _ _ _ (by kernel_rfl) ?_;clear hKT KT);simp [Xi];((try simp only [zs]);refine Qk.pan (.inr ⟨[],by decide,by simp,?_⟩);simp [zM])
 have cc2:=hJ c x0 va f1 a1 (by omega) k0 (hc.le (by omega)) d2;rw [q2]at cc2;obtain⟨a2,b2⟩:=bJ c x0 va f1 _ _ a1 (by omega) k0 (hc.le (by omega)) d2 e2;unfold Xb at cc2;simp only [hE0,hEva]at cc2;unfold iO Cs at cc2
 try unfold Ts at cc2
 refine cYo [0,1] true true (cc2) (fun o h e=>e) ?_;simp [zU];(try simp only [zq]);(repeat rw [Qd];simp);clear cc2 q2;(refine hKT _ _ _ _ (by kernel_rfl) ?_;clear hKT KT);(refine hK _ _ _ ?_;clear hK K);(refine dR fun KT hKT=>?_;(repeat rw [Qd];simp));have ola:=Qez va 1 d2.1 (d2.pm (by omega));obtain⟨la,wla⟩:∃la,va.lift 1 0 0=la:=⟨_,rfl⟩;have hEla:=Qb la;simp only [wla,List.map_cons,List.map_nil,hEva,hEla]at ola;have olb:=Qbu vb 1 1 (by have:=vb.deep_nsz;have:=Qd2 vb;have:=d3.pm (show 0<=f1 by omega);unfold PM at this;unfold DM;omega) d3.1;obtain⟨lb,wlb⟩:∃lb,vb.lift 1 1 0=lb:=⟨_,rfl⟩;have hElb:=Qb lb;simp only [wlb,List.map_cons,List.map_nil,hEvb,hElb]at olb;have oq1:=Ze 16 [la,lb];obtain⟨q1,wq1⟩:∃q1,ofT 16 [la,lb]=q1:=⟨_,rfl⟩;have hEq1:=Qb q1;simp only [wq1,List.map_cons,List.map_nil,hEla,hElb,hEq1]at oq1;rcases Qv l n Qj (Qqc vb x0 f2)with ⟨z,f3,e3,q3⟩ | ⟨ee,e3,q3⟩
 rotate_left
 ·have hh:=Qbv (l:=l) (n:=n) (f:=f2) (t:=vb) (a:=x0) (by omega) ⟨d3.1,d3.pm (by omega)⟩ ⟨k0.ok,by have:=k0.pot;unfold PM;omega⟩;rw [q3]at hh;have hq:=hQ.symm.trans (Wh (e:=ee) (by simp only [e1,e2,e3,Rs.next_ok,Rs.next_err,↓reduceIte,z0,z1]));subst hq;clear hQ;simp only [hEvb,hE0]at hh;unfold iO Cs Wq at hh
  try unfold Ts at hh
  refine cYo [0,1] true false (hh) (fun o h e=>e) ?_;simp [zU];(try simp only [Qt,Qu,Qr,Qw,Wi])
  (rw [Qd,if_neg (Bool.eq_false_iff.mp (by kernel_rfl))];simp)
  (refine Wr _ _ _ _ (by kernel_rfl) ?_;simp only [Qr,List.set,List.nil_append,List.cons_append,Nat.reduceAdd])
  (rw [Qd,if_neg (Bool.eq_false_iff.mp (by kernel_rfl))];simp)
  ((try simp only [Qt,Qu,Qr,Qw,Wi]);(repeat(refine Wr _ _ _ _ (by kernel_rfl) ?_;simp only [Qr,List.set,List.nil_append,List.cons_append,Nat.reduceAdd]));(try simp only [Qm]));(refine hKT _ _ _ _ (by kernel_rfl) ?_;clear hKT KT);simp [Xi];((try simp only [zs]);refine Qk.pan (.inr ⟨[],by decide,by simp,?_⟩);simp [zM])
 have cc3:=Qbv (l:=l) (n:=n) (f:=f2) (t:=vb) (a:=x0) (by omega) ⟨d3.1,d3.pm (by omega)⟩ ⟨k0.ok,by have:=k0.pot;unfold PM;omega⟩;rw [q3]at cc3;obtain⟨a3,b3,oz,nz, -⟩:=Qgl (n:=n) a2 d3.1 k0.ok e3;have pz:=Qfk z;have hEz:=Qb z;simp only [hEvb,hE0,hEz]at cc3;unfold iO Cs at cc3
 try unfold Ts at cc3
 have oq2:=Ze 4 [z,q1];obtain⟨q2,wq2⟩:∃q2,ofT 4 [z,q1]=q2:=⟨_,rfl⟩;have hEq2:=Qb q2;simp only [wq2,List.map_cons,List.map_nil,hEz,hEq1,hEq2]at oq2;have oq22:okT q2/\q2.pot<=z.pot+14+(va.pot+vb.pot):=by
  rw [<- wq2,<- wq1,<- wla,<- wlb];refine⟨Qai Qc4 oz (Qai Qc4 (Qa9 _ _ _ d2.1) (Qa9 _ _ _ d3.1)),?_⟩;have:=Qae 4 z (ofT 16 [va.lift 1 0 0,vb.lift 1 1 0]);have:=Qae 16 (va.lift 1 0 0) (vb.lift 1 1 0);rw [Qb8,Qb8]at this;omega
 have oqy:okY f3 q2:=⟨oq22.1,by have:=oq22.2;have:=hy0.2;unfold Yb at *;omega⟩;refine cYo [0,1] true true (cc3) (fun o h e=>e) ?_;simp [zU];(try simp only [zq]);(repeat rw [Qd];simp);clear cc3 q3;refine cYp (ola) ?_;(try simp only [zq]);(repeat rw [Qd];simp);refine cYp (olb) ?_;(try simp only [zq]);(repeat rw [Qd];simp [L2]);refine Xt.pureD Qf (oq1) ?_ (by simp [D.deeps,D.deep,D.fgts,D.fgt]) (by simp [D.pures,D.pure,Cp.free,D.pures_map]) (by simp [Out.pure,D.pure,D.pures,Cp.free,D.pures_map]);(try simp only [zq]);(repeat rw [Qd];simp [L2]);refine Xt.pureD Qf (oq2) ?_ (by simp [D.deeps,D.deep,D.fgts,D.fgt]) (by simp [D.pures,D.pure,Cp.free,D.pures_map]) (by simp [Out.pure,D.pure,D.pures,Cp.free,D.pures_map]);(try simp only [zq]);(repeat rw [Qd];simp);rcases Qv l n Xb (J c x1 q2 f3)with ⟨u4,f4,e4,q4⟩ | ⟨ee,e4,q4⟩
 rotate_left
 ·have hh:=hJ c x1 q2 f3 a3 (by omega) k1 (hc.le (by omega)) oqy;rw [q4]at hh;have hq:=hQ.symm.trans (Wh (e:=ee) (by simp only [e1,e2,e3,e4,Rs.next_ok,Rs.next_err,↓reduceIte,z0,z1,wla,wlb,wq1,wq2]));subst hq;clear hQ;simp only [hE1,hEq2]at hh;unfold iO Cs Wq at hh
  try unfold Ts at hh
  refine cYo [0,1] true false (hh) (fun o h e=>e) ?_;simp [zU];((try simp only [Qt,Qu,Qr,Qw,Wi]);(repeat(refine Wr _ _ _ _ (by kernel_rfl) ?_;simp only [Qr,List.set,List.nil_append,List.cons_append,Nat.reduceAdd]));(try simp only [Qm]));(refine hKT _ _ _ _ (by kernel_rfl) ?_;clear hKT KT);simp [Xi];((try simp only [zs]);refine Qk.pan (.inr ⟨[],by decide,by simp,?_⟩);simp [zM])
 have cc4:=hJ c x1 q2 f3 a3 (by omega) k1 (hc.le (by omega)) oqy;rw [q4]at cc4;unfold Xb at cc4;simp only [hE1,hEq2]at cc4;unfold iO Cs at cc4
 try unfold Ts at cc4
 refine cYo [0,1] true true (cc4) (fun o h e=>e) ?_;simp [zU];(try simp only [zq]);(repeat rw [Qd];simp);clear cc4 q4;have hq:=hQ.symm.trans (Qbd (()) (g:=f4) (by simp only [e1,e2,e3,e4,Rs.next_ok,Rs.next_err,↓reduceIte,z0,z1,wla,wlb,wq1,wq2]));simp only [Xb]at hq;subst hq;clear hQ;(refine hKT _ _ _ _ (by kernel_rfl) ?_;clear hKT KT);((try simp only [zs]);refine Qk.nrm rfl (.inr ⟨[],by decide,by simp,?_⟩);simp [zM])
theorem c_let{l:List C}{n F:Int}{I:List T ->T ->Int ->Rs T}{J:List T ->T ->T ->Int ->Rs Unit}(hk:Kc l)(hF:F<=19999)(bI:IB l n I)(bJ:KB l n J)(hI:IS l n I F)(hJ:KS l n J F){c:List T}{t y:T}{f:Int}(h0:0<=f)(h1:f<=F)(hs:Sub n (l.map C.lv) c t)(hc:Cx c f)(hkk:t.k=7)(hy0:okY (f+1) y) :
  Sp 68 [.box 0 0,Ts c,Qj t,Qj y] (iO (f+1) l n) (RP l n Xb (askR l I J c t y f)):=by
 have h2:f<=20000:=by omega
 have hcl:=hc.len;have hcc:c.length<=1000000:=by omega
 have hF2:F<=20000:=by omega
 have hy:=hy0.le (show f<=f+1 by omega);have hEt:=Qb t;rw [hkk]at hEt;have hEy:=Qb y;have L1:1<=Ql:=by unfold Ql;omega
 have L2:2<=Ql:=by unfold Ql;omega
 have L3:3<=Ql:=by unfold Ql;omega
 have bu:Sp 118 [.box 0 0, .int .i64 1] (iO (f+1) l n) (fun o hc=>o.fgt= .ret (.tuple [])/\hc=iO f l n):=by
  have h:=Qbk (l:=l) (n:=n) (f:=f+1) (m:=1) (by omega) (by omega);rw [show Qds 1 (f+1)= .ok ((),f) by unfold Qds;rw [if_pos (by omega),show f+1 - 1=f by omega]]at h;exact h
 have hA:askR l I J c t y f=(letR l I J c t f).next fun u f=>J c u y f:=by
  unfold askR;rw [if_neg (show ¬ t.k=5 by rw [hkk];decide),if_neg (show ¬ t.k=13 by rw [hkk];decide),if_neg (show ¬ t.k=17 by rw [hkk];decide),if_neg (show ¬ t.k=20 by rw [hkk];decide),if_pos hkk]
 refine RP.of ?_;generalize hQ:RQ l n Xb (askR l I J c t y f)=Q;rw [hA]at hQ;rw [hEt,hEy];unfold iO Cs at bu;unfold iO Cs Ts;refine eN Tryz.func68 rfl (by decide) rfl rfl ?_;(refine sR fun K hK=>?_;(repeat rw [Qa];simp);refine hK _ _ _ ?_;clear hK K);(refine sR fun K hK=>?_;(repeat rw [Qa];simp));refine cXf [0,1] (bu) ?_;simp [zU]
 (repeat rw [Qa];simp)
 (refine hK _ _ _ ?_;clear hK K);(refine sR fun K hK=>?_;(repeat rw [Qa];simp);refine hK _ _ _ ?_;clear hK K);refine Qy ?_;(refine sR fun K hK=>?_;(repeat rw [Qa];simp);refine hK _ _ _ ?_;clear hK K);refine pF rfl ?_;(refine sR fun K hK=>?_;(repeat rw [Qa];simp);refine hK _ _ _ ?_;clear hK K);refine pF rfl ?_;(refine sR fun K hK=>?_;(repeat rw [Qa];simp);refine hK _ _ _ ?_;clear hK K);refine pF rfl ?_;(refine sR fun K hK=>?_;(repeat rw [Qa];simp);refine hK _ _ _ ?_;clear hK K);refine pF rfl ?_;(refine sR fun K hK=>?_;(repeat rw [Qa];simp);refine hK _ _ _ ?_;clear hK K);refine pT rfl ?_;(refine dR fun KT hKT=>?_;(repeat rw [Qd];simp));rcases Qv l n Qj (letR l I J c t f)with ⟨u,f1,e1,q1⟩ | ⟨ee,e1,q1⟩
 rotate_left
 ·have hh:=Wbt hk hF2 bI bJ hI hJ h0 h1 hs hc hkk;rw [q1]at hh;have hq:=hQ.symm.trans (Wh (e:=ee) (by simp only [e1,Rs.next_ok,Rs.next_err,↓reduceIte]));subst hq;clear hQ;simp only [hEt]at hh;unfold iO Cs Wq at hh
  try unfold Ts at hh
  refine cYo [0,1] true false (hh) (fun o h e=>e) ?_;simp [zU];(try simp only [Qt,Qu,Qr,Qw,Wi])
  (rw [Qd,if_neg (Bool.eq_false_iff.mp (by kernel_rfl))];simp)
  ((try simp only [Qt,Qu,Qr,Qw,Wi]);(repeat(refine Wr _ _ _ _ (by kernel_rfl) ?_;simp only [Qr,List.set,List.nil_append,List.cons_append,Nat.reduceAdd]));(try simp only [Qm]));(refine hKT _ _ _ _ (by kernel_rfl) ?_;clear hKT KT);simp [Xi];((try simp only [zs]);refine Qk.pan (.inr ⟨[],by decide,by simp,?_⟩);simp [zM])
 have cc1:=Wbt hk hF2 bI bJ hI hJ h0 h1 hs hc hkk;rw [q1]at cc1;obtain⟨a1,b1,d1⟩:=Qni hk bI bJ h0 h2 hs hc hkk e1;have hEu:=Qb u;simp only [hEt,hEu]at cc1;unfold iO Cs at cc1
 try unfold Ts at cc1
 refine cYo [0,1] true true (cc1) (fun o h e=>e) ?_;simp [zU];(try simp only [zq]);(repeat rw [Qd];simp);clear cc1 q1;rcases Qv l n Xb (J c u y f1)with ⟨u2,f2,e2,q2⟩ | ⟨ee,e2,q2⟩
 rotate_left
 ·have hh:=hJ c u y f1 a1 (by omega) d1 (hc.le (by omega)) (hy.le (by omega));rw [q2]at hh;have hq:=hQ.symm.trans (Wh (e:=ee) (by simp only [e1,e2,Rs.next_ok,Rs.next_err,↓reduceIte]));subst hq;clear hQ;simp only [hEu,hEy]at hh;unfold iO Cs Wq at hh
  try unfold Ts at hh
  refine cYo [0,1] true false (hh) (fun o h e=>e) ?_;simp [zU];((try simp only [Qt,Qu,Qr,Qw,Wi]);(repeat(refine Wr _ _ _ _ (by kernel_rfl) ?_;simp only [Qr,List.set,List.nil_append,List.cons_append,Nat.reduceAdd]));(try simp only [Qm]));(refine hKT _ _ _ _ (by kernel_rfl) ?_;clear hKT KT);simp [Xi];((try simp only [zs]);refine Qk.pan (.inr ⟨[],by decide,by simp,?_⟩);simp [zM])
 have cc2:=hJ c u y f1 a1 (by omega) d1 (hc.le (by omega)) (hy.le (by omega));rw [q2]at cc2;unfold Xb at cc2;simp only [hEu,hEy]at cc2;unfold iO Cs at cc2
 try unfold Ts at cc2
 refine cYo [0,1] true true (cc2) (fun o h e=>e) ?_;simp [zU];(try simp only [zq]);(repeat rw [Qd];simp);clear cc2 q2;have hq:=hQ.symm.trans (Qbd (()) (g:=f2) (by simp only [e1,e2,Rs.next_ok,Rs.next_err,↓reduceIte]));simp only [Xb]at hq;subst hq;clear hQ;(refine hKT _ _ _ _ (by kernel_rfl) ?_;clear hKT KT);((try simp only [zs]);refine Qk.nrm rfl (.inr ⟨[],by decide,by simp,?_⟩);simp [zM])
theorem c_refl{l:List C}{n F:Int}{I:List T ->T ->Int ->Rs T}{J:List T ->T ->T ->Int ->Rs Unit}(hk:Kc l)(hF:F<=19999)(bI:IB l n I)(bJ:KB l n J)(hI:IS l n I F)(hJ:KS l n J F){c:List T}{t y:T}{f:Int}(h0:0<=f)(h1:f<=F)(hs:Sub n (l.map C.lv) c t)(hc:Cx c f)(hkk:t.k=20)(hy0:okY (f+1) y) :
  Sp 68 [.box 0 0,Ts c,Qj t,Qj y] (iO (f+1) l n) (RP l n Xb (askR l I J c t y f)):=by
 have h2:f<=20000:=by omega
 have hcl:=hc.len;have hcc:c.length<=1000000:=by omega
 have hF2:F<=20000:=by omega
 have hy:=hy0.le (show f<=f+1 by omega);have hEt:=Qb t;rw [hkk]at hEt;have hEy:=Qb y;have L1:1<=Ql:=by unfold Ql;omega
 have L2:2<=Ql:=by unfold Ql;omega
 have L3:3<=Ql:=by unfold Ql;omega
 have bu:Sp 118 [.box 0 0, .int .i64 1] (iO (f+1) l n) (fun o hc=>o.fgt= .ret (.tuple [])/\hc=iO f l n):=by
  have h:=Qbk (l:=l) (n:=n) (f:=f+1) (m:=1) (by omega) (by omega);rw [show Qds 1 (f+1)= .ok ((),f) by unfold Qds;rw [if_pos (by omega),show f+1 - 1=f by omega]]at h;exact h
 have hA:askR l I J c t y f=(hdR l y f).next fun x f=>if x.k=19 then oneR l (x.kid 1) (x.kid 2) 11 f else .error 11:=by
  unfold askR;rw [if_neg (show ¬ t.k=5 by rw [hkk];decide),if_neg (show ¬ t.k=13 by rw [hkk];decide),if_neg (show ¬ t.k=17 by rw [hkk];decide),if_pos hkk]
 refine RP.of ?_;generalize hQ:RQ l n Xb (askR l I J c t y f)=Q;rw [hA]at hQ;rw [hEt,hEy];unfold iO Cs at bu;unfold iO Cs Ts;refine eN Tryz.func68 rfl (by decide) rfl rfl ?_;(refine sR fun K hK=>?_;(repeat rw [Qa];simp);refine hK _ _ _ ?_;clear hK K);(refine sR fun K hK=>?_;(repeat rw [Qa];simp));refine cXf [0,1] (bu) ?_;simp [zU]
 (repeat rw [Qa];simp)
 (refine hK _ _ _ ?_;clear hK K);(refine sR fun K hK=>?_;(repeat rw [Qa];simp);refine hK _ _ _ ?_;clear hK K);refine Qy ?_;(refine sR fun K hK=>?_;(repeat rw [Qa];simp);refine hK _ _ _ ?_;clear hK K);refine pF rfl ?_;(refine sR fun K hK=>?_;(repeat rw [Qa];simp);refine hK _ _ _ ?_;clear hK K);refine pF rfl ?_;(refine sR fun K hK=>?_;(repeat rw [Qa];simp);refine hK _ _ _ ?_;clear hK K);refine pF rfl ?_;(refine sR fun K hK=>?_;(repeat rw [Qa];simp);refine hK _ _ _ ?_;clear hK K);refine pT rfl ?_;(refine sR fun K hK=>?_;(repeat rw [Qa];simp));rcases Qv l n Qj (hdR l y f)with ⟨x,f1,e1,q1⟩ | ⟨ee,e1,q1⟩
 rotate_left
 ·have hh:=Qf6 hk (n:=n) h0 (by omega) hy;rw [q1]at hh;have hq:=hQ.symm.trans (Wh (e:=ee) (by simp only [e1,Rs.next_ok,Rs.next_err,↓reduceIte]));subst hq;clear hQ;simp only [hEy]at hh;unfold iO Cs Wq at hh
  try unfold Ts at hh
  refine cXg [0,1] (hh) ?_;simp [zU];((try simp only [zs]);refine Qk.pan (.inr ⟨[],by decide,by simp,?_⟩);simp [zM])
 have cc1:=Qf6 hk (n:=n) h0 (by omega) hy;rw [q1]at cc1;obtain⟨a1,b1,d1⟩:=Qru hk.ok h0 hy e1;have hEx:=Qb x;simp only [hEy,hEx]at cc1;unfold iO Cs at cc1
 try unfold Ts at cc1
 refine cXf [0,1] (cc1) ?_;simp [zU]
 (repeat rw [Qa];simp)
 clear cc1 q1;(refine hK _ _ _ ?_;clear hK K);by_cases hx:x.k=19
 rotate_left
 ·have hq:=hQ.symm.trans (Wh (e:=11) (by simp only [e1,Rs.next_ok,if_neg hx]));subst hq;clear hQ;have mo:=Qba 11;unfold Wq at mo;(refine sR fun K hK=>?_;(repeat rw [Qa];simp [hx]));refine cXp (mo) ?_;(try simp only [zr]);(repeat rw [Qa];simp);((try simp only [zs]);refine Qk.pan (.inr ⟨[],by decide,by simp,?_⟩);simp [zM])
 have mo:=Qbj 11;have k1:=Qhp x 1;have k2:=Qhp x 2;obtain⟨p,hp⟩:∃p,x.kid 1=p:=⟨_,rfl⟩;obtain⟨r,hr⟩:∃r,x.kid 2=r:=⟨_,rfl⟩;have hEp:=Qb p;have hEr:=Qb r;have dp:okY f1 p:=by rw [<- hp];exact⟨Qaf d1.1 1,by have:=d1.2;have:=Qbo x 1;omega⟩
 have dr:okY f1 r:=by rw [<- hr];exact⟨Qaf d1.1 2,by have:=d1.2;have:=Qbo x 2;omega⟩
 rw [hEx,hp,hEp,hx]at k1;rw [hEx,hr,hEr,hx]at k2;(refine sR fun K hK=>?_;(repeat rw [Qa];simp [hx]));refine cXp (mo) ?_;(try simp only [zr]);(repeat rw [Qa];simp);(refine hK _ _ _ ?_;clear hK K);(refine dR fun KT hKT=>?_;(repeat rw [Qd];simp));refine cYp (k1) ?_;(try simp only [zq]);(repeat rw [Qd];simp);refine cYp (k2) ?_;(try simp only [zq]);(repeat rw [Qd];simp);rcases Qv l n Xb (oneR l p r 11 f1)with ⟨u3,f3,e2,q2⟩ | ⟨ee,e2,q2⟩
 rotate_left
 ·have hh:=Qbw hk (n:=n) (e:=11) a1 (by omega) dp dr;rw [q2]at hh;have hq:=hQ.symm.trans (Wh (e:=ee) (by simp only [e1,e2,Rs.next_ok,Rs.next_err,↓reduceIte,if_pos hx,hp,hr]));subst hq;clear hQ;simp only [hEp,hEr]at hh;unfold iO Cs Wq at hh
  try unfold Ts at hh
  refine cYo [0,1] true false (hh) (fun o h e=>e) ?_;simp [zU];((try simp only [Qt,Qu,Qr,Qw,Wi]);(repeat(refine Wr _ _ _ _ (by kernel_rfl) ?_;simp only [Qr,List.set,List.nil_append,List.cons_append,Nat.reduceAdd]));(try simp only [Qm]));(refine hKT _ _ _ _ (by kernel_rfl) ?_;clear hKT KT);simp [Xi];((try simp only [zs]);refine Qk.pan (.inr ⟨[],by decide,by simp,?_⟩);simp [zM])
 have cc2:=Qbw hk (n:=n) (e:=11) a1 (by omega) dp dr;rw [q2]at cc2;unfold Xb at cc2;simp only [hEp,hEr]at cc2;unfold iO Cs at cc2
 try unfold Ts at cc2
 refine cYo [0,1] true true (cc2) (fun o h e=>e) ?_;simp [zU];(try simp only [zq]);(repeat rw [Qd];simp);clear cc2 q2;have hq:=hQ.symm.trans (Qbd (()) (g:=f3) (by simp only [e1,e2,Rs.next_ok,Rs.next_err,↓reduceIte,if_pos hx,hp,hr]));simp only [Xb]at hq;subst hq;clear hQ;(refine hKT _ _ _ _ (by kernel_rfl) ?_;clear hKT KT);((try simp only [zs]);refine Qk.nrm rfl (.inr ⟨[],by decide,by simp,?_⟩);simp [zM])
theorem c_else{l:List C}{n F:Int}{I:List T ->T ->Int ->Rs T}{J:List T ->T ->T ->Int ->Rs Unit}(hk:Kc l)(hF:F<=19999)(bI:IB l n I)(bJ:KB l n J)(hI:IS l n I F)(hJ:KS l n J F){c:List T}{t y:T}{f:Int}(h0:0<=f)(h1:f<=F)(hs:Sub n (l.map C.lv) c t)(hc:Cx c f)(n5:¬ t.k=5)(n13:¬ t.k=13)(n17:¬ t.k=17)(n20:¬ t.k=20)(n7:¬ t.k=7)(hy0:okY (f+1) y) :
  Sp 68 [.box 0 0,Ts c,Qj t,Qj y] (iO (f+1) l n) (RP l n Xb (askR l I J c t y f)):=by
 have h2:f<=20000:=by omega
 have hcl:=hc.len;have hcc:c.length<=1000000:=by omega
 have hF2:F<=20000:=by omega
 have hy:=hy0.le (show f<=f+1 by omega);have hEt:=Qb t;have hEy:=Qb y;have L1:1<=Ql:=by unfold Ql;omega
 have L2:2<=Ql:=by unfold Ql;omega
 have L3:3<=Ql:=by unfold Ql;omega
 have bu:Sp 118 [.box 0 0, .int .i64 1] (iO (f+1) l n) (fun o hc=>o.fgt= .ret (.tuple [])/\hc=iO f l n):=by
  have h:=Qbk (l:=l) (n:=n) (f:=f+1) (m:=1) (by omega) (by omega);rw [show Qds 1 (f+1)= .ok ((),f) by unfold Qds;rw [if_pos (by omega),show f+1 - 1=f by omega]]at h;exact h
 have hA:askR l I J c t y f=(I c t f).next fun s f=>(lqR l s y f).next fun is f=>if is=true then .ok ((),f)else .error 13:=by
  unfold askR;rw [if_neg n5,if_neg n13,if_neg n17,if_neg n20,if_neg n7]
 refine RP.of ?_;generalize hQ:RQ l n Xb (askR l I J c t y f)=Q;rw [hA]at hQ;rw [hEt,hEy];unfold iO Cs at bu;unfold iO Cs Ts;refine eN Tryz.func68 rfl (by decide) rfl rfl ?_;(refine sR fun K hK=>?_;(repeat rw [Qa];simp);refine hK _ _ _ ?_;clear hK K);(refine sR fun K hK=>?_;(repeat rw [Qa];simp));refine cXf [0,1] (bu) ?_;simp [zU]
 (repeat rw [Qa];simp)
 (refine hK _ _ _ ?_;clear hK K);(refine sR fun K hK=>?_;(repeat rw [Qa];simp);refine hK _ _ _ ?_;clear hK K);refine Qy ?_;(refine sR fun K hK=>?_;(repeat rw [Qa];simp [n5]);refine hK _ _ _ ?_;clear hK K);refine pF rfl ?_;(refine sR fun K hK=>?_;(repeat rw [Qa];simp [n13]);refine hK _ _ _ ?_;clear hK K);refine pF rfl ?_;(refine sR fun K hK=>?_;(repeat rw [Qa];simp [n17]);refine hK _ _ _ ?_;clear hK K);refine pF rfl ?_;(refine sR fun K hK=>?_;(repeat rw [Qa];simp [n20]);refine hK _ _ _ ?_;clear hK K);refine pF rfl ?_;(refine sR fun K hK=>?_;(repeat rw [Qa];simp [n7]);refine hK _ _ _ ?_;clear hK K);refine pF rfl ?_;(refine sR fun K hK=>?_;(repeat rw [Qa];simp));rcases Qv l n Qj (I c t f)with ⟨s,f1,e1,q1⟩ | ⟨ee,e1,q1⟩
 rotate_left
 ·have hh:=hI c t f h0 h1 hs hc;rw [q1]at hh;have hq:=hQ.symm.trans (Wh (e:=ee) (by simp only [e1,Rs.next_ok,Rs.next_err,↓reduceIte]));subst hq;clear hQ;simp only [hEt]at hh;unfold iO Cs Wq at hh
  try unfold Ts at hh
  refine cXg [0,1] (hh) ?_;simp [zU];((try simp only [zs]);refine Qk.pan (.inr ⟨[],by decide,by simp,?_⟩);simp [zM])
 have cc1:=hI c t f h0 h1 hs hc;rw [q1]at cc1;obtain⟨a1,b1,d1⟩:=bI _ _ _ _ _ h0 h2 hs hc e1;have hEs:=Qb s;simp only [hEt,hEs]at cc1;unfold iO Cs at cc1
 try unfold Ts at cc1
 refine cXf [0,1] (cc1) ?_;simp [zU]
 (repeat rw [Qa];simp)
 clear cc1 q1;(refine hK _ _ _ ?_;clear hK K);rcases Qnh l s y a1 with ⟨⟨is,g⟩,q,e2,H⟩ | ⟨q,e2,H⟩
 ·have cv:=Qiz hk.cs a1 (by omega) ((d1.okY h2).okP a1 (by omega)) ((hy.le (show f1<=f by omega)).okP a1 (by omega)) H;have sp:=Qkc (l:=l) (n:=n) (f:=f1) (g:=g);unfold Wam at cv;simp only [hEs,hEy]at cv;unfold Cs at cv;unfold iO Cs at sp;cases is with
  | true =>
   have hq:=hQ.symm.trans (Qbd () (g:=g) (by simp only [e1,e2,Rs.next_ok,if_true]));subst hq;clear hQ;have mo:=Qbj 13;unfold Xb;(refine Qc fun K hK=>?_;refine dR fun KT hKT=>?_;(repeat rw [Qd];simp));refine cYp (cv) ?_;(try simp only [zq]);(repeat rw [Qd];simp);(refine hKT _ _ _ _ (by kernel_rfl) ?_;clear hKT KT);(refine hK _ _ _ ?_;clear hK K);(refine sR fun K hK=>?_;(repeat rw [Qa];simp));refine cXo [0,1] false (sp) ?_;(rintro o hc ⟨rfl,rfl⟩;refine⟨false,?_⟩;simp [zU]);(try simp only [zr]);(repeat rw [Qa];simp);(refine hK _ _ _ ?_;clear hK K);(refine Qi Wa ?_;(repeat rw [Qa];simp));refine cXp (mo) ?_;(try simp only [zr]);(repeat rw [Qa];simp);((try simp only [zs]);refine Qk.nrm rfl (.inr ⟨[],by decide,by simp,?_⟩);simp [zM])
  | false =>
   have hq:=hQ.symm.trans (Wh (e:=13) (by simp [e1,e2,Rs.next_ok]));subst hq;clear hQ;have mo:=Qba 13;unfold Wq at mo;(refine Qc fun K hK=>?_;refine dR fun KT hKT=>?_;(repeat rw [Qd];simp));refine cYp (cv) ?_;(try simp only [zq]);(repeat rw [Qd];simp);(refine hKT _ _ _ _ (by kernel_rfl) ?_;clear hKT KT);(refine hK _ _ _ ?_;clear hK K);(refine sR fun K hK=>?_;(repeat rw [Qa];simp));refine cXo [0,1] false (sp) ?_;(rintro o hc ⟨rfl,rfl⟩;refine⟨false,?_⟩;simp [zU]);(try simp only [zr]);(repeat rw [Qa];simp);(refine hK _ _ _ ?_;clear hK K);(refine Qi Wa ?_;(repeat rw [Qa];simp));refine cXp (mo) ?_;(try simp only [zr]);(repeat rw [Qa];simp);((try simp only [zs]);refine Qk.pan (.inr ⟨[],by decide,by simp,?_⟩);simp [zM])
 ·have cv:=Qiz hk.cs a1 (by omega) ((d1.okY h2).okP a1 (by omega)) ((hy.le (show f1<=f by omega)).okP a1 (by omega)) H;have sp:=Qkd (l:=l) (n:=n) (f:=f1) (g:=0) (e:=5) (by omega);unfold Wam at cv;simp only [hEs,hEy]at cv;unfold Cs at cv;unfold iO Cs Wq at sp;have hq:=hQ.symm.trans (Wh (e:=5) (by simp only [e1,e2,Rs.next_ok,Rs.next_err]));subst hq;clear hQ;(refine Qc fun K hK=>?_;refine dR fun KT hKT=>?_;(repeat rw [Qd];simp));refine cYp (cv) ?_;(try simp only [zq]);(repeat rw [Qd];simp);(refine hKT _ _ _ _ (by kernel_rfl) ?_;clear hKT KT);(refine hK _ _ _ ?_;clear hK K);(refine sR fun K hK=>?_;(repeat rw [Qa];simp));refine cXo [0,1] false (sp) ?_;(rintro o hc ⟨rfl,rfl⟩;refine⟨false,?_⟩;simp [zU]);((try simp only [zs]);refine Qk.pan (.inr ⟨[],by decide,by simp,?_⟩);simp [zM])
end
theorem Qh4:(Qcg.all fun p=>Qbm .i64 p.1)=true:=rfl
theorem Wd1{l:List C}{n f:Int}(h0:0<=f)(h1:f<=20000):Sp 118 [.box 0 0, .int .i64 1] (iO (f+1) l n) (fun o hc=>o.fgt= .ret (.tuple [])/\hc=iO f l n):=by
 have h:=Qbk (l:=l) (n:=n) (f:=f+1) (m:=1) (by omega) (by omega);rw [show Qds 1 (f+1)= .ok ((),f) by unfold Qds;rw [if_pos (by omega),show f+1 - 1=f by omega]]at h;exact h
theorem Wd2{l:List C}{n f:Int}(h1:f<1):Sp 118 [.box 0 0, .int .i64 1] (iO f l n) (fun o hc=>o= .pan (Wq 5)/\hc= [.dead, .dead]):=by
 have h:=Qbk (l:=l) (n:=n) (f:=f) (m:=1) (by omega) (by omega);rw [show Qds 1 f= .error 5 by unfold Qds;rw [if_neg (by omega)]]at h;exact h
theorem i_dead{l:List C}{n f:Int}{c:List T}{t:T}(h1:f<1):Sp 79 [.box 0 0,Ts c,Qj t] (iO f l n) (RP l n Qj (.error 5)):=by
 have bu:=Wd2 (l:=l) (n:=n) h1;have hEt:=Qb t;refine RP.of ?_;rw [Qc5 rfl,hEt];unfold iO Cs Wq at bu;unfold iO Cs Ts Wq;refine eN Tryz.func79 rfl (by decide) rfl rfl ?_;(refine sR fun K hK=>?_;(repeat rw [Qa];simp);refine hK _ _ _ ?_;clear hK K);(refine sR fun K hK=>?_;(repeat rw [Qa];simp));refine cXg [0,1] (bu) ?_;simp [zU];((try simp only [zs]);refine Qk.pan (.inr ⟨[],by decide,by simp,?_⟩);simp [zM])
theorem c_dead{l:List C}{n f:Int}{c:List T}{t y:T}(h1:f<1):Sp 68 [.box 0 0,Ts c,Qj t,Qj y] (iO f l n) (RP l n Xb (.error 5)):=by
 have bu:=Wd2 (l:=l) (n:=n) h1;have hEt:=Qb t;have hEy:=Qb y;refine RP.of ?_;rw [Qc5 rfl,hEt,hEy];unfold iO Cs Wq at bu;unfold iO Cs Ts Wq;refine eN Tryz.func68 rfl (by decide) rfl rfl ?_;(refine sR fun K hK=>?_;(repeat rw [Qa];simp);refine hK _ _ _ ?_;clear hK K);(refine sR fun K hK=>?_;(repeat rw [Qa];simp));refine cXg [0,1] (bu) ?_;simp [zU];((try simp only [zs]);refine Qk.pan (.inr ⟨[],by decide,by simp,?_⟩);simp [zM])
theorem Qpf{l:List C}{n f:Int}{c:List T}{t:T}{r:Rs T}{fid:FuncId}(h0:0<=f)(h1:f<=20000)(hf:Qca (.int .i64 t.k) Qcg=some (.fn (.func fid) [] []))
  (hr:Sp fid [.box 0 0,Ts c,Qj t] (iO f l n) (RP l n Qj r)):Sp 79 [.box 0 0,Ts c,Qj t] (iO (f+1) l n) (RP l n Qj r):=by
 have bu:=Wd1 (l:=l) (n:=n) h0 h1;have hEt:=Qb t;have mo:=Qbj 14;refine RP.of ?_;rcases Qv l n Qj r with ⟨x,g,e1,q1⟩ | ⟨e,e1,q1⟩
 ·rw [q1]at hr;rw [Qn4 e1];have hEx:=Qb x;rw [hEt,hEx]at hr;rw [hEt,hEx];unfold iO Cs Ts at hr⊢;unfold iO Cs at bu;refine eN Tryz.func79 rfl (by decide) rfl rfl ?_;(refine sR fun K hK=>?_;(repeat rw [Qa];simp);refine hK _ _ _ ?_;clear hK K);(refine sR fun K hK=>?_;(repeat rw [Qa];simp));refine cXf [0,1] (bu) ?_;simp [zU]
  (repeat rw [Qa];simp)
  (refine hK _ _ _ ?_;clear hK K);(refine Qc fun K hK=>?_;refine dR fun KT hKT=>?_;(repeat rw [Qd];simp [Qh4,hf]));(refine hKT _ _ _ _ (by kernel_rfl) ?_;clear hKT KT);(refine hK _ _ _ ?_;clear hK K);(refine sR fun K hK=>?_;(repeat rw [Qa];simp));refine cXp (mo) ?_;(try simp only [zr]);(repeat rw [Qa];simp);(refine hK _ _ _ ?_;clear hK K);(refine sR fun K hK=>?_;(repeat rw [Qa];simp));refine cXf [0,1] (hr) ?_;simp [zU]
  (repeat rw [Qa];simp)
  (refine hK _ _ _ ?_;clear hK K);(refine Qe ?_;(try simp only [zs]);refine Qk.ret rfl (.inr ⟨[],by decide,by simp,?_⟩);simp [zM])
 ·rw [q1]at hr;rw [Qc5 e1];rw [hEt]at hr;rw [hEt];unfold iO Cs Ts Wq at hr⊢;unfold iO Cs at bu;refine eN Tryz.func79 rfl (by decide) rfl rfl ?_;(refine sR fun K hK=>?_;(repeat rw [Qa];simp);refine hK _ _ _ ?_;clear hK K);(refine sR fun K hK=>?_;(repeat rw [Qa];simp));refine cXf [0,1] (bu) ?_;simp [zU]
  (repeat rw [Qa];simp)
  (refine hK _ _ _ ?_;clear hK K);(refine Qc fun K hK=>?_;refine dR fun KT hKT=>?_;(repeat rw [Qd];simp [Qh4,hf]));(refine hKT _ _ _ _ (by kernel_rfl) ?_;clear hKT KT);(refine hK _ _ _ ?_;clear hK K);(refine sR fun K hK=>?_;(repeat rw [Qa];simp));refine cXp (mo) ?_;(try simp only [zr]);(repeat rw [Qa];simp);(refine hK _ _ _ ?_;clear hK K);(refine sR fun K hK=>?_;(repeat rw [Qa];simp));refine cXg [0,1] (hr) ?_;simp [zU];((try simp only [zs]);refine Qk.pan (.inr ⟨[],by decide,by simp,?_⟩);simp [zM])
theorem i_no{l:List C}{n f:Int}{c:List T}{t:T}(h0:0<=f)(h1:f<=20000)(hf:Qca (.int .i64 t.k) Qcg=none):Sp 79 [.box 0 0,Ts c,Qj t] (iO (f+1) l n) (RP l n Qj (.error 14)):=by
 have bu:=Wd1 (l:=l) (n:=n) h0 h1;have hEt:=Qb t;have mo:=Qba 14;unfold Wq at mo;refine RP.of ?_;rw [Qc5 rfl,hEt];unfold iO Cs at bu;unfold iO Cs Ts Wq;refine eN Tryz.func79 rfl (by decide) rfl rfl ?_;(refine sR fun K hK=>?_;(repeat rw [Qa];simp);refine hK _ _ _ ?_;clear hK K);(refine sR fun K hK=>?_;(repeat rw [Qa];simp));refine cXf [0,1] (bu) ?_;simp [zU]
 (repeat rw [Qa];simp)
 (refine hK _ _ _ ?_;clear hK K);(refine Qc fun K hK=>?_;refine dR fun KT hKT=>?_;(repeat rw [Qd];simp [Qh4,hf]));(refine hKT _ _ _ _ (by kernel_rfl) ?_;clear hKT KT);(refine hK _ _ _ ?_;clear hK K);(refine sR fun K hK=>?_;(repeat rw [Qa];simp));refine cXp (mo) ?_;(try simp only [zr]);(repeat rw [Qa];simp);((try simp only [zs]);refine Qk.pan (.inr ⟨[],by decide,by simp,?_⟩);simp [zM])
theorem i_rule{l:List C}{n F:Int}{I:List T ->T ->Int ->Rs T}{J:List T ->T ->T ->Int ->Rs Unit}(hk:Kc l)(hF:F<=19999)(bI:IB l n I)(bJ:KB l n J)(hI:IS l n I F)(hJ:KS l n J F){c:List T}{t:T}{f:Int}(h0:0<=f)(h1:f<=F)(hs:Sub n (l.map C.lv) c t)(hc:Cx c f):Sp 79 [.box 0 0,Ts c,Qj t] (iO (f+1) l n) (RP l n Qj (ruleR l n I J c t f)):=by
 have hF2:F<=20000:=by omega
 have h2:f<=20000:=by omega
 unfold ruleR;by_cases hh:t.k=1
 ·rw [if_pos hh];exact Qpf h0 h2 (by rw [hh];rfl) (Quz hk hF2 bI bJ hI hJ h0 h1 hs hc hh)
 rw [if_neg hh];have n1:=hh;clear hh;by_cases hh:t.k=2
 ·rw [if_pos hh];exact Qpf h0 h2 (by rw [hh];rfl) (Qu0 hk hF2 bI bJ hI hJ h0 h1 hs hc hh)
 rw [if_neg hh];have n2:=hh;clear hh;by_cases hh:t.k=3
 ·rw [if_pos hh];exact Qpf h0 h2 (by rw [hh];rfl) (Qu1 hk hF2 bI bJ hI hJ h0 h1 hs hc hh)
 rw [if_neg hh];have n3:=hh;clear hh;by_cases hh:t.k=4\/t.k=12\/t.k=16
 ·rw [if_pos hh];rcases hh with hkk | hkk | hkk
  ·exact Qpf h0 h2 (by rw [hkk];rfl) (Qm7 hk hF2 bI bJ hI hJ h0 h1 hs hc (by omega))
  ·exact Qpf h0 h2 (by rw [hkk];rfl) (Qm7 hk hF2 bI bJ hI hJ h0 h1 hs hc (by omega))
  ·exact Qpf h0 h2 (by rw [hkk];rfl) (Qm7 hk hF2 bI bJ hI hJ h0 h1 hs hc (by omega))
 rw [if_neg hh];have n4:=hh;clear hh;by_cases hh:t.k=5
 ·rw [if_pos hh];exact Qpf h0 h2 (by rw [hh];rfl) (r_lam hk hF2 bI bJ hI hJ h0 h1 hs hc hh)
 rw [if_neg hh];have n5:=hh;clear hh;by_cases hh:t.k=6
 ·rw [if_pos hh];exact Qpf h0 h2 (by rw [hh];rfl) (r_app hk hF2 bI bJ hI hJ h0 h1 hs hc hh)
 rw [if_neg hh];have n6:=hh;clear hh;by_cases hh:t.k=7
 ·rw [if_pos hh];exact Qpf h0 h2 (by rw [hh];rfl) (Wbs hk hF2 bI bJ hI hJ h0 h1 hs hc hh)
 rw [if_neg hh];have n7:=hh;clear hh;by_cases hh:t.k=14\/t.k=15
 ·rw [if_pos hh];rcases hh with hkk | hkk
  ·exact Qpf h0 h2 (by rw [hkk];rfl) (Wbv hk hF2 bI bJ hI hJ h0 h1 hs hc hkk)
  ·exact Qpf h0 h2 (by rw [hkk];rfl) (Wbu hk hF2 bI bJ hI hJ h0 h1 hs hc hkk)
 rw [if_neg hh];have n14:=hh;clear hh;by_cases hh:t.k=18
 ·rw [if_pos hh];exact Qpf h0 h2 (by rw [hh];rfl) (Qq3 hk hF2 bI bJ hI hJ h0 h1 hs hc hh)
 rw [if_neg hh];have n18:=hh;clear hh;by_cases hh:t.k=19
 ·rw [if_pos hh];exact Qpf h0 h2 (by rw [hh];rfl) (r_id hk hF2 bI bJ hI hJ h0 h1 hs hc hh)
 rw [if_neg hh];have n19:=hh;clear hh;by_cases hh:t.k=21
 ·rw [if_pos hh];exact Qpf h0 h2 (by rw [hh];rfl) (r_path hk hF2 bI bJ hI hJ h0 h1 hs hc hh)
 rw [if_neg hh];have n21:=hh;clear hh;by_cases hh:t.k=22
 ·rw [if_pos hh];exact Qpf h0 h2 (by rw [hh];rfl) (r_fin hk hF2 bI bJ hI hJ h0 h1 hs hc hh)
 rw [if_neg hh];have n22:=hh;clear hh;by_cases hh:t.k=23
 ·rw [if_pos hh];exact Qpf h0 h2 (by rw [hh];rfl) (r_elem hk hF2 bI bJ hI hJ h0 h1 hs hc hh)
 rw [if_neg hh];have n23:=hh;clear hh;by_cases hh:t.k=24
 ·rw [if_pos hh];exact Qpf h0 h2 (by rw [hh];rfl) (Qu2 hk hF2 bI bJ hI hJ h0 h1 hs hc hh)
 rw [if_neg hh];have n24:=hh;clear hh;refine i_no h0 h2 ?_;have hne:∀k,k∈ [(1:Int),2,3,4,12,16,5,6,7,14,15,18,19,21,22,23,24] ->¬ t.k=k:=by
  intro k hkm;simp only [List.mem_cons,List.not_mem_nil,or_false]at hkm;omega
 unfold Qcg;simp only [Qca,Qdr];simp [hne]
theorem c_rule{l:List C}{n F:Int}{I:List T ->T ->Int ->Rs T}{J:List T ->T ->T ->Int ->Rs Unit}(hk:Kc l)(hF:F<=19999)(bI:IB l n I)(bJ:KB l n J)(hI:IS l n I F)(hJ:KS l n J F){c:List T}{t y:T}{f:Int}(h0:0<=f)(h1:f<=F)(hs:Sub n (l.map C.lv) c t)(hc:Cx c f)(hy:okY (f+1) y):Sp 68 [.box 0 0,Ts c,Qj t,Qj y] (iO (f+1) l n) (RP l n Xb (askR l I J c t y f)):=by
 by_cases n5:t.k=5
 ·exact c_lam hk hF bI bJ hI hJ h0 h1 hs hc n5 hy
 by_cases n13:t.k=13
 ·exact c_pair hk hF bI bJ hI hJ h0 h1 hs hc n13 hy
 by_cases n17:t.k=17
 ·exact c_sup hk hF bI bJ hI hJ h0 h1 hs hc n17 hy
 by_cases n20:t.k=20
 ·exact c_refl hk hF bI bJ hI hJ h0 h1 hs hc n20 hy
 by_cases n7:t.k=7
 ·exact c_let hk hF bI bJ hI hJ h0 h1 hs hc n7 hy
 exact c_else hk hF bI bJ hI hJ h0 h1 hs hc n5 n13 n17 n20 n7 hy
theorem Qoa{l:List C}(hk:Kc l)(n:Int)(g:Nat):(g:Int)<=20000 ->IS l n (infT l n g) ((g:Int) - 1)/\KS l n (chkT l n g) ((g:Int) - 1):=by
 induction g with
 | zero=>exact fun _=>⟨fun c t f h0 h1=>by omega,fun c t y f h0 h1=>by omega⟩
 | succ g ih =>
  intro hg;obtain⟨hI,hJ⟩:=ih (by omega);obtain⟨bI,bJ⟩:=Qin (n:=n) hk g;refine⟨fun c t f h0 h1 hs hc=>?_,fun c t y f h0 h1 hs hc hy=>?_⟩
  ·rw [Qhn];by_cases hf:f<1
   ·rw [if_pos hf];exact i_dead hf
   ·rw [if_neg hf];have:=i_rule (f:=f - 1) hk (by omega) bI bJ hI hJ (by omega) (by omega) hs (hc.le (by omega))
    rwa [show f - 1+1=f by omega]at this
  ·rw [Qkv];by_cases hf:f<1
   ·rw [if_pos hf];exact c_dead hf
   ·rw [if_neg hf];have:=c_rule (f:=f - 1) (y:=y) hk (by omega) bI bJ hI hJ (by omega) (by omega) hs (hc.le (by omega)) (by rw [show f - 1+1=f by omega];exact hy)
    rwa [show f - 1+1=f by omega]at this
end Go.Proofs.YtgloldepdhgfaaaGreatDoor
namespace Go.Proofs.YtgloldepdhgfaaaGreatDoor
set_option linter.unusedSimpArgs false
set_option linter.unusedVariables false
set_option maxHeartbeats 10000000
set_option maxRecDepth 20000
open Go.RowKit
attribute [local simp] Qx Qm Qo Qp Wn Xg opD Qz Qr Qw Wi hOf Wj Xf Xd TK.isAgg TK.known Ws Wk Wc Qh D.ofV inB Wb Wp Xx Xz Zg Xc Xv Zh IntKind.min IntKind.max IntKind.signed IntKind.bits Wl Xy
def lvC(l:List C)(k:Nat):List Int:=(l.take k).map C.lv
theorem Wcl{l:List C}{k:Nat}(h:k<l.length):lvC l (k+1)=lvC l k++ [l[k].lv]:=by unfold lvC;rw [List.take_succ_eq_append_getElem h,List.map_append];rfl
theorem lvC_end(l:List C):lvC l l.length=l.map C.lv:=by unfold lvC;rw [List.take_length]
theorem lvC_len{l:List C}{k:Nat}(h:k<=l.length):(lvC l k).length=k:=by unfold lvC;rw [List.length_map,List.length_take];omega
theorem Wct(σ:Nat ->Nat)(l:List Int):D.rens σ (l.map (D.int .i64))=l.map (D.int .i64):=D.rens_pure σ _ (by rw [D.pures_map];simp [D.pure])
theorem Qks(l:List C)(hl:l.length<=Ql):Sp 51 [Cs l] [] (rt (Qd3 (l.map C.lv))):=by
 have hE:∀c,Qbn c= .agg [.int .i64 c.lv, .int .i64 c.ty.k, .int .i64 c.ty.n, .int .i64 c.ty.a, .slice (c.ty.ls.map Qn) .any, .slice (c.ty.ks.map Qj) .any, .bool c.has, .int .i64 c.bo.k, .int .i64 c.bo.n, .int .i64 c.bo.a, .slice (c.bo.ls.map Qn) .any, .slice (c.bo.ks.map Qj) .any]:=fun c=>Qay c
 rw [<- lvC_end];unfold Cs Qd3;refine eN Tryz.func51 rfl (by decide) rfl rfl ?_;(refine sR fun K hK=>?_;(repeat rw [Qa];simp);refine hK _ _ _ ?_;clear hK K);(refine sR fun K hK=>?_;(repeat rw [Qa];simp);refine hK _ _ _ ?_;clear hK K);refine Qsg 3 ?_;simp [D.tokd];refine Qc fun K1 hK1=>?_
 (refine sR fun K hK=>?_;(repeat rw [Qa];simp);refine hK _ _ _ ?_;clear hK K);refine Xm Wa Qf (ti:=3) (tk:=8) (tn:=7) (td:=9) (ts:=17) [5,8,9,10,11,12,13,14,15,16,17] [3] (l.length) (fun k ys hl=>ys= [.slice ((lvC l k).map (D.int .i64)) (.tok 0)]/\hl= [.tok]) rfl rfl rfl rfl rfl rfl rfl rfl rfl rfl rfl rfl (by simp) (by decide) rfl (by first | assumption | omega | (unfold Ql;omega)) rfl (by kernel_rfl) (by decide) ?_ ?_ ?_
 ·exact⟨rfl,rfl⟩
 ·rintro i ys hl A hi ⟨rfl,rfl⟩ hA hA2;simp only [Qh,List.set,List.map_cons,List.map_nil,List.cons_append,List.nil_append];have hi':(i:Int)<l.length:=by omega
  have hsn:=Wcl hi;have hln:=lvC_len (Nat.le_of_lt hi);obtain⟨c,hc⟩:∃c,l[i]=c:=⟨_,rfl⟩;rw [hc]at hsn;have hel:(lvC l i).length+1<=Ql:=by omega
  have hEc:=hE c;generalize lvC l i=es at hsn hln hel⊢;(refine sR fun K hK=>?_;(repeat rw [Qa];simp [hi,hi',hc,hEc]);refine hK _ _ _ ?_;clear hK K);(refine Qi Wa ?_;(repeat rw [Qa];simp [hel]));(refine hA2 ([2]) _ _ _ (LeT.refl _) (by decide) (by simp) (by simp [zM,Qh]) ?_ rfl;simp [zM]);rw [hsn,show es.map (D.int .i64)++ [D.int .i64 c.lv]=(es++ [c.lv]).map (D.int .i64) by simp]
  try rw [Wct]
 ·rintro ys hl tl' ⟨rfl,rfl⟩ htl;refine hK1 _ _ _ (Xn htl ?_);simp only [Qh,List.set,List.map_cons,List.map_nil,List.cons_append,List.nil_append];(refine sR fun K hK=>?_;(repeat rw [Qa];simp);refine hK _ _ _ ?_;clear hK K);(refine Qe ?_;(try simp only [zs]);refine Qk.ret rfl (.inl ?_);simp [zM])
end Go.Proofs.YtgloldepdhgfaaaGreatDoor
namespace Go.Proofs.YtgloldepdhgfaaaGreatDoor
set_option linter.unusedSimpArgs false
set_option linter.unusedVariables false
open Go.RowKit
section
variable {G : Nat -> Option D} {tl : List D} {hl : List HO} {P : Program} {Q : DQ} {M : Nat} {df : Df}
theorem Quf{c:Code}(hG:∀g d,G g=some d ->d.pure=true)(I:Nat ->List D ->List HO ->Prop)(n0:Nat)(hI:I n0 tl hl)
  (hr:∀n tl' hl' (A:List D ->List HO ->Df ->Prop),tl'.length=tl.length ->(∀k tl2 hl2,k<n ->I k tl2 hl2 ->A tl2 hl2 df) ->
   (∀(κ:List Nat) k tl2 hl2,κ.Nodup ->(κ.all fun i=>decide (M<=i))=true ->okD M κ df=true ->Qx8 M κ df=df ->k<n ->I k (Qgs M κ tl2) (Qng M κ hl2) ->A tl2 hl2 df) ->I n tl' hl' ->wpD P G M c (Wk A Q) tl' hl' df):wpD P G M (.loop c) Q tl hl df:=fun ρ0 w0 H0 ρ w a hbs hst=>by
 intro b k cs;have key:∀n tl' hl' ρ w a,tl'.length=tl.length ->I n tl' hl' ->InSt G ρ0 w0 H0 tl.length ρ w a (Qz tl') (hOf hl') df ->
   ∃e a' w',Qqb G ρ0 w0 H0 tl.length Q e a' w'/\Arrives P (lone (b.at a (.code c:: .inLoop c::k)) cs w) b k cs e a' w':=by
  intro n
  induction n using Nat.strongRecOn with
  | _ n ih =>
   intro tl' hl' ρ w a hl1 hI hst;obtain⟨e,a₁,w₁,hq,harr⟩:=hr n tl' hl' (fun tl2 hl2 df2=>df2=df/\((∃k,k<n/\I k tl2 hl2)\/∃(κ:List Nat) (k:Nat),κ.Nodup/\(κ.all fun i=>decide (M<=i))=true/\(okD M κ df=true/\Qx8 M κ df=df)/\k<n/\I k (Qgs M κ tl2) (Qng M κ hl2))) hl1
    (fun k tl2 hl2 h1 h3=>⟨rfl, .inl ⟨k,h1,h3⟩⟩) (fun κ k tl2 hl2 h1 h2 d1 d2 h3 h5=>⟨rfl, .inr ⟨κ,k,h1,h2,⟨d1,d2⟩,h3,h5⟩⟩) hI ρ0 w0 H0 ρ w a hbs (hl1▸hst) b (.inLoop c::k) cs
   rw [hl1]at hq;obtain⟨x,tl2,hl2,df2,ρ2,h1,h2,h3,h4⟩:=hq;cases x with
   | nrm =>
    cases h2;obtain⟨rfl,⟨k',hk',hI2⟩ | ⟨κ,k',hnd,hge,⟨d1,d2⟩,hk',hI2⟩⟩:=h1
    ·obtain⟨e₂,a₂,w₂,hq₂,harr₂⟩:=ih k' hk' _ _ ρ2 w₁ a₁ h3 hI2 h4;exact⟨e₂,a₂,w₂,hq₂, .of_steps (Steps.trans harr (.one step_inLoop)) harr₂⟩
    ·have h5:=h4.mov hG hbs hnd (fun i hi=>by simpa using List.all_eq_true.1 hge i hi) d1;rw [d2]at h5;obtain⟨e₂,a₂,w₂,hq₂,harr₂⟩:=ih k' hk' _ _ (ρ2.mov M κ) w₁ a₁ (by unfold Qgs;rw [List.length_map];exact h3) hI2 h5;exact⟨e₂,a₂,w₂,hq₂, .of_steps (Steps.trans harr (.one step_inLoop)) harr₂⟩
   | ret=>cases h2;exact⟨_,a₁,w₁,⟨.ret,tl2,hl2,df2,ρ2,h1,rfl,h3,h4⟩, .pass (x:= .inLoop c) rfl (fun _ _=> .inl (by simp)) harr⟩
   | ext i=>cases h2;exact⟨_,a₁,w₁,⟨.ext i,tl2,hl2,df2,ρ2,h1,rfl,h3,h4⟩, .pass (x:= .inLoop c) rfl (fun _ _=> .inl (by simp)) harr⟩
   | pan d =>
    obtain⟨u,rfl,hu⟩:=h2;exact⟨_,a₁,w₁,⟨.pan d,tl2,hl2,df2,ρ2,h1,⟨u,rfl,hu⟩,h3,h4⟩, .pass (x:= .inLoop c) rfl (fun _ _=> .inl (by simp)) harr⟩
 obtain⟨e,a',w',hq,harr⟩:=key n0 _ _ ρ w a rfl hI hst;exact⟨e,a',w',hq, .of_steps (.one step_loop) harr⟩
variable {T : TypeId -> Ty}
theorem Qqf(hT:∀t,Zf P t (T t))(hG:∀g d,G g=some d ->d.pure=true){b0 b1 r1 r2:Nat}{ops1 ops2:Array Oper}{o1 o2 o3:Oper}{body:Code}{ti tk tn td ts:Nat}(W:List Nat)(n:Nat)(I:Nat ->List D ->List HO ->Prop)
  (h1:ops1.toList= [o1]) (e1:o1.op= .binOp .lss ti (.tmp tk) (.tmp tn) ti) (g1:o1.guard=none) (d1:o1.dst=some td) (h2:ops2.toList= [o2,o3]) (e2:o2.op= .binOp .add ti (.tmp tk) (.const (.int .i64 1)) ti) (g2:o2.guard=none) (d2:o2.dst=some ts)
  (e3:o3.op= .move (.tmp ts)) (g3:o3.guard=none) (d3:o3.dst=some tk) (hti:(T ti).k= .int .i64) (hlen:tk<tl.length/\td<tl.length/\ts<tl.length) (hne:td≠tk/\td≠tn/\ts≠tk/\ts≠tn/\tk≠tn) (hn:tl.getD tn .junk= .int .i64 n) (hnl:n<=Ql) (hk0:tl.getD tk .junk= .int .i64 0)
  (hw:tl=(Qh tl W (Qbl W tl)).set tk (.int .i64 0)) (htn:¬ tn∈W)
  (hI:I 0 (Qbl W tl) hl)
  (hr:∀k ys hl' (A:List D ->List HO ->Df ->Prop),k<n ->I k ys hl' ->
   (∀tl2 hl2,(tl2.set ts (.int .i64 (k+1))).set tk (.int .i64 (k+1))=(Qh tl W (Qbl W ((tl2.set ts (.int .i64 (k+1))).set tk (.int .i64 (k+1))))).set tk (.int .i64 (k+1)) ->I (k+1) (Qbl W ((tl2.set ts (.int .i64 (k+1))).set tk (.int .i64 (k+1)))) hl2 ->tl2.getD tk .junk= .int .i64 k ->A tl2 hl2 df) ->
   (∀(κ:List Nat) tl2 hl2,κ.Nodup ->(κ.all fun i=>decide (M<=i))=true ->okD M κ df=true ->Qx8 M κ df=df ->Qgs M κ ((tl2.set ts (.int .i64 (k+1))).set tk (.int .i64 (k+1)))=(Qh tl W (Qbl W (Qgs M κ ((tl2.set ts (.int .i64 (k+1))).set tk (.int .i64 (k+1)))))).set tk (.int .i64 (k+1)) ->
    I (k+1) (Qbl W (Qgs M κ ((tl2.set ts (.int .i64 (k+1))).set tk (.int .i64 (k+1))))) (Qng M κ hl2) ->tl2.getD tk .junk= .int .i64 k ->A tl2 hl2 df) ->
   (∀tl3 tl2 hl2,leT tl3 tl2 ->A tl3 hl2 df ->A tl2 hl2 df) ->
   wpD P G M body (Wc b1 (Wk A (Wc b0 Q))) (((Qh tl W ys).set tk (.int .i64 k)).set td (.bool true)) hl' df)
  (he:∀ys hl',I n ys hl' ->Q .nrm (((Qh tl W ys).set tk (.int .i64 n)).set td (.bool false)) hl' df) :
  wpD P G M (.block b0 (.loop (.seq (.region r1 ops1 false) (.seq (.cond (.tmp td) .skip (.exit b0)) (.seq (.block b1 body) (.region r2 ops2 false)))))) Q tl hl df:=by
 have hnl':=hnl;unfold Ql at hnl';refine Qy ?_;refine Quf hG (fun m tl' hl'=>∃k ys,m+k=n/\tl'=(Qh tl W ys).set tk (.int .i64 k)/\I k ys hl') n ⟨0,_,rfl,hw,hI⟩ ?_;rintro m tl' hl' A hlen' hA hA' ⟨k,ys,hm,rfl,hIk⟩;have hpl:(Qh tl W ys).length=tl.length:=Qaz _ _ _;have hgn:((Qh tl W ys).set tk (.int .i64 k)).getD tn .junk= .int .i64 n:=by
  rw [List.getD_eq_getElem?_getD,List.getElem?_set_ne hne.2.2.2.2,<- List.getD_eq_getElem?_getD,Qgm _ _ _ htn,hn]
 have hgk:((Qh tl W ys).set tk (.int .i64 k)).getD tk .junk= .int .i64 k:=by
  rw [List.getD_eq_getElem?_getD,List.getElem?_set_self (by rw [hpl];exact hlen.1)];rfl
 refine Qgg (Qi hT ?_);rw [h1,Qa,Qx];have hev:Xg T (opD G (Qz ((Qh tl W ys).set tk (.int .i64 k)))) (hOf hl') hl'.length o1=some (.val (.bool (decide ((k:Int)<n))) [] []):=by
  unfold Xg;rw [e1];simp only [opD,Qz,hgn,hgk,Qj3,Bool.false_eq_true,if_false,Qhe,Xx,Xz,Xc,hti];rfl
 have hwt:Wn ops1 (Qz ((Qh tl W ys).set tk (.int .i64 k))) o1=some true:=by unfold Wn;rw [g1]
 rw [hwt,hev];simp only [if_true,d1,Qr,Qw,Wk];have hset:((((Qh tl W ys).set tk (.int .i64 k)).set td (.bool (decide ((k:Int)<n))))).getD td .junk= .bool (decide ((k:Int)<n)):=by
  rw [List.getD_eq_getElem?_getD,List.getElem?_set_self (by rw [List.length_set,hpl];exact hlen.2.1)];rfl
 refine Qgg (Qad (b:=decide ((k:Int)<n)) hset (fun hk=>?_) (fun hk=>?_))
 ·have hkn:k<n:=by simpa using hk
  refine Qg ?_;refine Qgg (Qy ?_);rw [hk]
  -- behind the body
  have hinc:∀tl2 hl2,tl2.getD tk .junk= .int .i64 k ->A ((tl2.set ts (.int .i64 (k+1))).set tk (.int .i64 (k+1))) hl2 df ->tl2.length=tl.length ->wpD P G M (.region r2 ops2 false) (Wk A (Wc b0 Q)) tl2 hl2 df:=fun tl2 hl2 hq hAA hl2l=>by
   refine Qi hT ?_;have hev2:Xg T (opD G (Qz tl2)) (hOf hl2) hl2.length o2=some (.val (.int .i64 (k+1)) [] []):=by
    unfold Xg;rw [e2];have hw1:IntKind.i64.wrap ((k:Int)+1)=(k:Int)+1:=Qbp (by omega) (by omega);have hc1:D.ofV (.int .i64 1)= .int .i64 1:=by kernel_rfl
    simp only [opD,Qz,hq,Qj4,Bool.false_eq_true,if_false,Qhe,Xx,Xz,Xc,hti,hc1,if_true,hw1];rfl
   rw [h2,Qa];have hwt2:Wn ops2 (Qz tl2) o2=some true:=by unfold Wn;rw [g2]
   rw [hwt2,hev2];simp only [if_true,d2,Qr,Qw];rw [Qa];have hwt3:Wn ops2 (Qz (tl2.set ts (.int .i64 (k+1)))) o3=some true:=by unfold Wn;rw [g3]
   have hev3:Xg T (opD G (Qz (tl2.set ts (.int .i64 (k+1))))) (hOf hl2) hl2.length o3=some (.val (.int .i64 (k+1)) [] []):=by
    unfold Xg;rw [e3];simp only [opD,Qz];rw [List.getD_eq_getElem?_getD,List.getElem?_set_self (by rw [hl2l];exact hlen.2.2)];rfl
   rw [hwt3,hev3];simp only [if_true,d3,Qr,Qw,Qx,Wk];exact hAA
  have hcast:((k+1:Nat):Int)=(k:Int)+1:=by omega
  refine Qsi (hr k ys hl' (fun tl hl df'=>wpD P G M (.region r2 ops2 false) (Wk A (Wc b0 Q)) tl hl df') hkn hIk (fun tl2 hl2 heq hI1 hq=>?_) (fun κ tl2 hl2 hnd hge d1 d2 heq hI1 hq=>?_) (fun tl3 tl2 hl2 hle h=>Qbx hle h)) (fun x tl hl df' hx=>?_)
  ·have hl2l:tl2.length=tl.length:=by
    have:=congrArg List.length heq;simpa [Qaz]using this
   refine hinc tl2 hl2 hq (hA (m - 1) _ _ (by omega) ⟨k+1,_,by omega,?_,hI1⟩) hl2l;rw [hcast];exact heq
  ·have hl2l:tl2.length=tl.length:=by
    have:=congrArg List.length heq;simpa [Qaz,Qgs]using this
   refine hinc tl2 hl2 hq (hA' κ (m - 1) _ _ hnd hge d1 d2 (by omega) ⟨k+1,_,by omega,?_,hI1⟩) hl2l;rw [hcast];exact heq
  ·cases x with
   | nrm=>exact hx
   | ret=>exact hx
   | pan d=>exact hx
   | ext i =>
    show(if i=b1 then _ else _);have hx':(if i=b1 then wpD P G M (.region r2 ops2 false) (Wk A (Wc b0 Q)) tl hl df' else Wc b0 Q (.ext i) tl hl df'):=hx;split
    ·rename_i hi;rw [if_pos hi]at hx';exact hx'
    ·rename_i hi;rw [if_neg hi]at hx';exact hx'
 ·have hkn:k=n:=by have:¬ ((k:Int)<n):=(by simpa using hk);omega
  subst hkn;refine Qab ?_;rw [hk];show(if b0=b0 then _ else _);rw [if_pos rfl];exact he ys hl' hIk
end
section
variable {P : Program} {G : Nat -> Option D} {M : Nat} {Q : DQ} {tl tl' : List D} {hl : List HO} {df : Df}
theorem Qde{T:TypeId ->Ty}(hT:∀t,Zf P t (T t))(hG:∀g d,G g=some d ->d.pure=true){b0 b1 r1 r2:Nat}{ops1 ops2:Array Oper}{o1 o2 o3:Oper}{body:Code}{ti tk tn td ts:Nat}(J S:List Nat)(n:Nat)(I:Nat ->List D ->List HO ->Prop)
  (h1:ops1.toList= [o1]) (e1:o1.op= .binOp .lss ti (.tmp tk) (.tmp tn) ti) (g1:o1.guard=none) (d1:o1.dst=some td) (h2:ops2.toList= [o2,o3]) (e2:o2.op= .binOp .add ti (.tmp tk) (.const (.int .i64 1)) ti) (g2:o2.guard=none) (d2:o2.dst=some ts)
  (e3:o3.op= .move (.tmp ts)) (g3:o3.guard=none) (d3:o3.dst=some tk) (hti:(T ti).k= .int .i64) (hlen:tk<tl.length/\td<tl.length/\ts<tl.length) (hne:td≠tk/\td≠tn/\ts≠tk/\ts≠tn/\tk≠tn) (hn:tl.getD tn .junk= .int .i64 n) (hnl:n<=Ql) (hk0:tl.getD tk .junk= .int .i64 0)
  (hw:tl=(Qh tl (J++S) (Qbl (J++S) tl)).set tk (.int .i64 0)) (htn:¬ tn∈J++S)
  (hI:I 0 (Qbl S tl) hl)
  (hr:∀k ds hl' (A:List D ->List HO ->Df ->Prop),k<n ->I k ds hl' ->
   (∀tl3 tl2 hl2,LeT tl3 tl2 ->(tl3.set ts (.int .i64 (k+1))).set tk (.int .i64 (k+1))=(Qh tl (J++S) (Qbl (J++S) ((tl3.set ts (.int .i64 (k+1))).set tk (.int .i64 (k+1))))).set tk (.int .i64 (k+1)) ->I (k+1) (Qbl S ((tl3.set ts (.int .i64 (k+1))).set tk (.int .i64 (k+1)))) hl2 ->tl3.getD tk .junk= .int .i64 k ->A tl2 hl2 df) ->
   (∀(κ:List Nat) tl3 tl2 hl2,LeT tl3 tl2 ->κ.Nodup ->(κ.all fun i=>decide (M<=i))=true ->okD M κ df=true ->Qx8 M κ df=df ->Qgs M κ ((tl3.set ts (.int .i64 (k+1))).set tk (.int .i64 (k+1)))=(Qh tl (J++S) (Qbl (J++S) (Qgs M κ ((tl3.set ts (.int .i64 (k+1))).set tk (.int .i64 (k+1)))))).set tk (.int .i64 (k+1)) ->
    I (k+1) (Qbl S (Qgs M κ ((tl3.set ts (.int .i64 (k+1))).set tk (.int .i64 (k+1))))) (Qng M κ hl2) ->tl3.getD tk .junk= .int .i64 k ->A tl2 hl2 df) ->
   wpD P G M body (Wc b1 (Wk A (Wc b0 Q))) (((Qh tl (J++S) (J.map (fun _=> .junk)++ds)).set tk (.int .i64 k)).set td (.bool true)) hl' df)
  (he:∀ds hl' tl',I n ds hl' ->LeT (((Qh tl (J++S) (J.map (fun _=> .junk)++ds)).set tk (.int .i64 n)).set td (.bool false)) tl' ->Q .nrm tl' hl' df) :
  wpD P G M (.block b0 (.loop (.seq (.region r1 ops1 false) (.seq (.cond (.tmp td) .skip (.exit b0)) (.seq (.block b1 body) (.region r2 ops2 false)))))) Q tl hl df:=by
 refine Qqf hT hG (J++S) n (fun k ys hl=>∃js ds,ys=js++ds/\js.length=J.length/\I k ds hl) h1 e1 g1 d1 h2 e2 g2 d2 e3 g3 d3 hti hlen hne hn hnl hk0 hw htn ⟨_,_,Qe3 ..,Qe2 ..,hI⟩ ?_ ?_
 ·rintro k ys hl' A hk ⟨js,ds,rfl,hj,hIn⟩ hA hA2 hAm
  refine Qbx (Qco _ _ (Qco _ _ (Ql4 J S js ds hj (Qdv _)))) (hr k ds hl' A hk hIn (fun tl3 tl2 hl2 h0 h1 h2 h3=>hAm _ _ _ h0.h (hA tl3 hl2 h1 ⟨_,_,Qe3 ..,Qe2 ..,h2⟩ h3))
   (fun κ tl3 tl2 hl2 h0 k1 k2 d1 d2 h1 h2 h3=>hAm _ _ _ h0.h (hA2 κ tl3 hl2 k1 k2 d1 d2 h1 ⟨_,_,Qe3 ..,Qe2 ..,h2⟩ h3)))
 ·rintro ys hl' ⟨js,ds,rfl,hj,hIn⟩;exact he ds hl' _ hIn ⟨Qco _ _ (Qco _ _ (Ql4 J S js ds hj (Qdv _)))⟩
end
end Go.Proofs.YtgloldepdhgfaaaGreatDoor
namespace Go.Proofs.YtgloldepdhgfaaaGreatDoor
set_option linter.unusedSimpArgs false
set_option linter.unusedVariables false
set_option linter.unusedSimpArgs false
set_option linter.unusedVariables false
set_option maxHeartbeats 10000000
set_option maxRecDepth 20000
open Go.RowKit
attribute [local simp] Qx Qm Qo Qp Wn Xg opD Qz Qr Qw Wi hOf Wj Xf Xd TK.isAgg TK.known Ws Wk Wc Qh D.ofV inB Wb Wp Xx Xz Zg Xc Xv Zh IntKind.min IntKind.max IntKind.signed IntKind.bits Wl Xy
theorem Qkf:Sp 114 [] [] (fun o hc=>o= .ret (.map 0)/\hc= [.mp Qcg]):=by
 refine eN Tryz.func114 rfl (by decide) rfl rfl ?_;unfold Qcg;(refine sR fun K hK=>?_;(repeat rw [Qa];simp);refine hK _ _ _ ?_;clear hK K);(refine sR fun K hK=>?_;(repeat rw [Qa];simp [Ql,Qca,Qdr,Qbm]);refine hK _ _ _ ?_;clear hK K);(refine Qe ?_;(try simp only [zs]);refine Qk.ret rfl (.inr ⟨[0],by decide,by simp,?_⟩);simp [zM])
def Qe9{α:Type}(z:D)(enc:α ->D):Rs α ->D
 | .ok (x,g)=> .tuple [enc x, .int .i64 g, .int .i64 0]
 | .error e=> .tuple [z, .int .i64 0, .int .i64 e]
open Classical in
noncomputable def toldR {α : Type} (l : List C) (n : Int) (c : List T) (f : Int) (ts : List T) (r : Rs α) : Rs α :=
 if(0<=n/\n<=8)/\0<=f/\f<=1073741824 then
  if(∀(i:Nat) (h:i<c.length),Xu n i (l.map C.lv) c[i]=true)/\(∀(i:Nat) (h:i<ts.length),Xu n c.length (l.map C.lv) ts[i]=true)then r else .error 6
 else .error 2
@[simp] theorem lvs_ren (σ:Nat ->Nat):∀l:List C,D.rens σ (l.map (D.int .i64∘C.lv))=l.map (D.int .i64∘C.lv)
 | []=>rfl
 | x::r=>by rw [List.map_cons,D.rens,lvs_ren σ r];rfl
@[simp] theorem lvs_ok (p:Nat ->Bool):∀l:List C,D.okNs p (l.map (D.int .i64∘C.lv))=true
 | []=>rfl
 | x::r=>by rw [List.map_cons,D.okNs,lvs_ok p r];rfl
def Qkz(b:Bool):D:= .bool b
def zLD:D:= .agg [.slice [] .any]
theorem tI_l(ps:List D)(cp:Cp)(x y:Int):Qge Tryz.prog glob 112 [.box 0 0, .box 1 0, .box 2 0] [.cells 33 [.int .i64 y], .cells 53 [.slice ps cp], .cells 3 [.int .i64 x]] none
  (fun hc=>hc= [.cells 33 [.int .i64 y], .cells 53 [.slice ps cp], .cells 3 [.int .i64 x]]):=by
 refine Qaq Wa Tryz.func112 rfl rfl (fun a w=>rfl) rfl (Qch _ _ Tryz.func112 rfl (by decide)) rfl rfl ?_;(try simp only [zr]);(repeat rw [Qa];simp);(refine sR fun K hK=>?_;(repeat rw [Qa];simp);refine hK _ _ _ ?_;clear hK K);refine pF rfl ?_;refine Qg ?_;refine Qk.nrm rfl ?_;simp [Qw]
theorem tG_l(ps:List D)(cp:Cp)(x y e:Int):Qge Tryz.prog glob 112 [.box 0 0, .box 1 0, .box 2 0] [.cells 33 [.int .i64 y], .cells 53 [.slice ps cp], .cells 3 [.int .i64 x]] (some (.iface 33 (.int .i64 e)))
  (fun hc=>hc= [.cells 33 [.int .i64 e], .cells 53 [.slice [] .full], .cells 3 [.int .i64 0], .cells 53 [.slice [] .full]]):=by
 refine Qaq Wa Tryz.func112 rfl rfl (fun a w=>rfl) rfl (Qch _ _ Tryz.func112 rfl (by decide)) rfl rfl ?_;(try simp only [zr]);(repeat rw [Qa];simp);(refine sR fun K hK=>?_;(repeat rw [Qa];simp);refine hK _ _ _ ?_;clear hK K);refine pT rfl ?_;(refine sR fun K hK=>?_;(repeat rw [Qa];simp);refine hK _ _ _ ?_;clear hK K);refine Qc fun K1 hK1=>?_
 (refine sR fun K hK=>?_;(repeat rw [Qa];simp);refine hK _ _ _ ?_;clear hK K);(refine sR fun K hK=>?_;(repeat rw [Qa];simp);refine hK _ _ _ ?_;clear hK K);refine pF rfl ?_;refine Qg (hK1 _ _ _ ?_);(refine sR fun K hK=>?_;(repeat rw [Qa];simp);refine hK _ _ _ ?_;clear hK K);(refine Qi Wa ?_;(repeat rw [Qa];simp));refine Qk.nrm rfl ?_;simp [Qw]
theorem told_l{l:List C}{n f:Int}{c ts:List T}(g:FuncId)(d:List T)(t:T){r:Rs LV}(hl:l.length<=Ql)(hc1:c.length<=1000000)(hco:∀x,x∈c ->okT x)(hts:ts.length<=2)(hto:∀x,x∈ts ->okT x)
  (hsp:(0<=n/\n<=8) ->0<=f/\f<=1073741824 ->(∀(i:Nat) (h:i<c.length),Xu n i (l.map C.lv) c[i]=true) ->(∀(i:Nat) (h:i<ts.length),Xu n c.length (l.map C.lv) ts[i]=true) ->Sp g [.box 0 0, .ref (.slice (d.map Qj) .any), .ref (.agg [.int .i64 t.k, .int .i64 t.n, .int .i64 t.a, .slice (t.ls.map Qn) .any, .slice (t.ks.map Qj) .any])] (iO f l n) (RP l n Qn r)) :
  Sp 62 [Cs l, .int .i64 n,Ts c, .int .i64 f, .fn (.func g) [] [.ref (.slice (d.map Qj) .any), .ref (.agg [.int .i64 t.k, .int .i64 t.n, .int .i64 t.a, .slice (t.ls.map Qn) .any, .slice (t.ks.map Qj) .any])],Ts ts] [] (rt (Qe9 zLD Qn (toldR l n c f ts r))):=by
 have cs:=Qks l hl;have ru:=Qkf;have m2:=Qbj 2;have m6:=Qbj 6;have p2:=Qba 2;have p6:=Qba 6;unfold Wq at p2 p6;have hcm:(l.map C.lv).length<=Ql:=by simpa using hl
 have hcL:c.length<=Ql:=by unfold Ql;omega
 have hnn:∀k,k∈c ->True:=fun _ _=>trivial
 generalize hR:toldR l n c f ts r=R;unfold Ts Cs;by_cases hA:(0<=n/\n<=8)/\0<=f/\f<=1073741824
 rotate_left
 ·have hR2:R= .error 2:=by rw [<- hR];unfold toldR;rw [if_neg hA]
  subst hR2;unfold Qe9 zLD;have hq:¬ 0<=n\/(0<=n/\¬ n<=8)\/(0<=n/\n<=8/\¬ 0<=f)\/(0<=n/\n<=8/\0<=f/\¬ f<=1073741824):=by omega
  rcases hq with a1 | ⟨a1,a2⟩ | ⟨a1,a2,a3⟩ | ⟨a1,a2,a3,a4⟩
  ·refine eD Tryz.func62 rfl (by decide) rfl rfl ?_;(refine sR fun K hK=>?_;(repeat rw [Qa];simp);refine hK _ _ _ ?_;clear hK K);(refine sR fun K hK=>?_;(repeat rw [Qa];simp);refine hK _ _ _ ?_;clear hK K);(refine sR fun K hK=>?_;(repeat rw [Qa];simp [a1]));refine cXp (p2) ?_;(try simp only [zr]);(repeat rw [Qa];simp);(try simp only [zs]);refine Qfb.objs Qf [2,0,1] (tG_l [] .full 0 0 2) ?_ ?_ (fun d h=>by cases h;rfl) (by decide) (by simp) (by simp [zA]) (by simp [zA]) (by simp [zA]) (by simp [zA])
   ·rintro hc rfl;simp [zA,upO,Qw,Wi];refine Qen.intro rfl (.inr ⟨[],by decide,by simp,?_⟩);simp [zM]
    try simp [Out.fgt,D.fgt,D.fgts]
   ·rintro hc rfl;simp
  ·refine eD Tryz.func62 rfl (by decide) rfl rfl ?_;(refine sR fun K hK=>?_;(repeat rw [Qa];simp);refine hK _ _ _ ?_;clear hK K);(refine sR fun K hK=>?_;(repeat rw [Qa];simp);refine hK _ _ _ ?_;clear hK K);(refine sR fun K hK=>?_;(repeat rw [Qa];simp [a1,a2]));refine cXp (p2) ?_;(try simp only [zr]);(repeat rw [Qa];simp);(try simp only [zs]);refine Qfb.objs Qf [2,0,1] (tG_l [] .full 0 0 2) ?_ ?_ (fun d h=>by cases h;rfl) (by decide) (by simp) (by simp [zA]) (by simp [zA]) (by simp [zA]) (by simp [zA])
   ·rintro hc rfl;simp [zA,upO,Qw,Wi];refine Qen.intro rfl (.inr ⟨[],by decide,by simp,?_⟩);simp [zM]
    try simp [Out.fgt,D.fgt,D.fgts]
   ·rintro hc rfl;simp
  ·refine eD Tryz.func62 rfl (by decide) rfl rfl ?_;(refine sR fun K hK=>?_;(repeat rw [Qa];simp);refine hK _ _ _ ?_;clear hK K);(refine sR fun K hK=>?_;(repeat rw [Qa];simp);refine hK _ _ _ ?_;clear hK K);(refine sR fun K hK=>?_;(repeat rw [Qa];simp [a1,a2,a3]));refine cXp (p2) ?_;(try simp only [zr]);(repeat rw [Qa];simp);(try simp only [zs]);refine Qfb.objs Qf [2,0,1] (tG_l [] .full 0 0 2) ?_ ?_ (fun d h=>by cases h;rfl) (by decide) (by simp) (by simp [zA]) (by simp [zA]) (by simp [zA]) (by simp [zA])
   ·rintro hc rfl;simp [zA,upO,Qw,Wi];refine Qen.intro rfl (.inr ⟨[],by decide,by simp,?_⟩);simp [zM]
    try simp [Out.fgt,D.fgt,D.fgts]
   ·rintro hc rfl;simp
  ·refine eD Tryz.func62 rfl (by decide) rfl rfl ?_;(refine sR fun K hK=>?_;(repeat rw [Qa];simp);refine hK _ _ _ ?_;clear hK K);(refine sR fun K hK=>?_;(repeat rw [Qa];simp);refine hK _ _ _ ?_;clear hK K);(refine sR fun K hK=>?_;(repeat rw [Qa];simp [a1,a2,a3,a4]));refine cXp (p2) ?_;(try simp only [zr]);(repeat rw [Qa];simp);(try simp only [zs]);refine Qfb.objs Qf [2,0,1] (tG_l [] .full 0 0 2) ?_ ?_ (fun d h=>by cases h;rfl) (by decide) (by simp) (by simp [zA]) (by simp [zA]) (by simp [zA]) (by simp [zA])
   ·rintro hc rfl;simp [zA,upO,Qw,Wi];refine Qen.intro rfl (.inr ⟨[],by decide,by simp,?_⟩);simp [zM]
    try simp [Out.fgt,D.fgt,D.fgts]
   ·rintro hc rfl;simp
 obtain⟨⟨a1,a2⟩,a3,a4⟩:=hA;unfold Qd3 at cs;unfold Cs at cs;have hbad:¬ ((∀(i:Nat) (h:i<c.length),Xu n i (l.map C.lv) c[i]=true)/\(∀(i:Nat) (h:i<ts.length),Xu n c.length (l.map C.lv) ts[i]=true)) ->R= .error 6:=fun h=>by rw [<- hR];unfold toldR;rw [if_pos ⟨⟨a1,a2⟩,a3,a4⟩,if_neg h]
 refine eD Tryz.func62 rfl (by decide) rfl rfl ?_;(refine sR fun K hK=>?_;(repeat rw [Qa];simp);refine hK _ _ _ ?_;clear hK K);(refine sR fun K hK=>?_;(repeat rw [Qa];simp);refine hK _ _ _ ?_;clear hK K);(refine sR fun K hK=>?_;(repeat rw [Qa];simp [a1,a2,a3,a4]));refine cXr (m2) ?_
 (repeat rw [Qa];simp)
 (refine hK _ _ _ ?_;clear hK K);(refine sR fun K hK=>?_;(repeat rw [Qa];simp));refine cXr (cs) ?_
 (repeat rw [Qa];simp)
 (refine hK _ _ _ ?_;clear hK K);refine Qc fun K1 hK1=>?_
 (refine sR fun K hK=>?_;(repeat rw [Qa];simp);refine hK _ _ _ ?_;clear hK K);refine Qde Wa Qf (ti:=3) (tk:=41) (tn:=40) (td:=42) (ts:=52) [16,17,41,42,43,44,45,46,47,48,49,50,51,52] [] (c.length) (fun k ys hl=>ys= []/\(∀(j:Nat) (h:j<c.length),j<k ->Xu n j (l.map C.lv) c[j]=true)/\hl= [.cells 53 [.slice [] .full], .cells 3 [.int .i64 0], .cells 33 [.int .i64 0]]) rfl rfl rfl rfl rfl rfl rfl rfl rfl rfl rfl rfl (by simp) (by decide) rfl (by first | assumption | omega | (unfold Ql;omega)) rfl (by kernel_rfl) (by decide) ?_ ?_ ?_
 ·exact⟨rfl,fun j _ h=>by omega,rfl⟩
 ·rintro i ys hl A hi ⟨rfl,hall,rfl⟩ hA hA2;simp only [Qh,List.set,List.map_cons,List.map_nil,List.cons_append,List.nil_append];have hi':(i:Int)<c.length:=by omega
  obtain⟨y,hy⟩:∃y,c[i]=y:=⟨_,rfl⟩;have hri:=Qcp n i (l.map C.lv) y hcm (hco y (by rw [<- hy];exact List.getElem_mem hi));have hEy:=Qb y;rw [hEy]at hri;unfold Qd3 at hri;by_cases hb:Xu n i (l.map C.lv) y=true
  ·rw [hb]at hri;(refine sR fun K hK=>?_;(repeat rw [Qa];simp [hi,hi',hy,hEy]);refine hK _ _ _ ?_;clear hK K);(refine Qi Wa ?_;(repeat rw [Qa];simp));refine cXr (hri) ?_
   (repeat rw [Qa];simp)
   refine cXr (m6) ?_
   (repeat rw [Qa];simp)
   (refine hA2 ([0,1,2]) _ _ _ (LeT.refl _) (by decide) (by simp) (by first | rfl | simp [okD,zM]) (by first | rfl | simp [Qx8,zM]) (by simp [zM,Qh]) ?_ rfl;simp [zM]);have hnx:∀(j:Nat) (h:j<c.length),j<i+1 ->Xu n j (l.map C.lv) c[j]=true:=fun j h hj=>by
    by_cases hji:j=i
    ·subst hji;rw [hy];exact hb
    ·exact hall j h (by omega)
   first | exact⟨rfl,hnx,rfl⟩ | exact⟨hnx,rfl⟩ | exact hnx
  ·have hR6:=hbad (fun h=>hb (by rw [<- hy];exact h.1 i hi));subst hR6;unfold Qe9 zLD;rw [Bool.eq_false_iff.2 hb]at hri;(refine sR fun K hK=>?_;(repeat rw [Qa];simp [hi,hi',hy,hEy]);refine hK _ _ _ ?_;clear hK K);(refine Qi Wa ?_;(repeat rw [Qa];simp));refine cXr (hri) ?_
   (repeat rw [Qa];simp)
   refine cXp (p6) ?_;(try simp only [zr]);(repeat rw [Qa];simp);(try simp only [zs]);refine Qfb.objs Qf [2,0,1] (tG_l [] .full 0 0 6) ?_ ?_ (fun d h=>by cases h;rfl) (by decide) (by simp) (by simp [zA]) (by simp [zA]) (by simp [zA]) (by simp [zA])
   ·rintro hc rfl;simp [zA,upO,Qw,Wi];refine Qen.intro rfl (.inr ⟨[],by decide,by simp,?_⟩);simp [zM]
    try simp [Out.fgt,D.fgt,D.fgts]
   ·rintro hc rfl;simp
 ·rintro ys hl tl' ⟨rfl,hallc,rfl⟩ htl;refine hK1 _ _ _ (Xn htl ?_);simp only [Qh,List.set,List.map_cons,List.map_nil,List.cons_append,List.nil_append];clear hK1 K1;refine Qc fun K1 hK1=>?_
  (refine sR fun K hK=>?_;(repeat rw [Qa];simp);refine hK _ _ _ ?_;clear hK K);refine Qde Wa Qf (ti:=3) (tk:=55) (tn:=54) (td:=56) (ts:=66) [19,55,56,57,58,59,60,61,62,63,64,65,66] [] (ts.length) (fun k ys hl=>ys= []/\(∀(j:Nat) (h:j<ts.length),j<k ->Xu n c.length (l.map C.lv) ts[j]=true)/\hl= [.cells 53 [.slice [] .full], .cells 3 [.int .i64 0], .cells 33 [.int .i64 0]]) rfl rfl rfl rfl rfl rfl rfl rfl rfl rfl rfl rfl (by simp) (by decide) rfl (by first | assumption | omega | (unfold Ql;omega)) rfl (by kernel_rfl) (by decide) ?_ ?_ ?_
  ·exact⟨rfl,fun j _ h=>by omega,rfl⟩
  ·rintro i ys hl A hi ⟨rfl,hall,rfl⟩ hA hA2;simp only [Qh,List.set,List.map_cons,List.map_nil,List.cons_append,List.nil_append];have hi':(i:Int)<ts.length:=by omega
   obtain⟨y,hy⟩:∃y,ts[i]=y:=⟨_,rfl⟩;have hri:=Qcp n c.length (l.map C.lv) y hcm (hto y (by rw [<- hy];exact List.getElem_mem hi));have hEy:=Qb y;rw [hEy]at hri;unfold Qd3 at hri;by_cases hb:Xu n c.length (l.map C.lv) y=true
   ·rw [hb]at hri;(refine sR fun K hK=>?_;(repeat rw [Qa];simp [hi,hi',hy,hEy]);refine hK _ _ _ ?_;clear hK K);(refine Qi Wa ?_;(repeat rw [Qa];simp));refine cXr (hri) ?_
    (repeat rw [Qa];simp)
    refine cXr (m6) ?_
    (repeat rw [Qa];simp)
    (refine hA2 ([0,1,2]) _ _ _ (LeT.refl _) (by decide) (by simp) (by first | rfl | simp [okD,zM]) (by first | rfl | simp [Qx8,zM]) (by simp [zM,Qh]) ?_ rfl;simp [zM]);have hnx:∀(j:Nat) (h:j<ts.length),j<i+1 ->Xu n c.length (l.map C.lv) ts[j]=true:=fun j h hj=>by
     by_cases hji:j=i
     ·subst hji;rw [hy];exact hb
     ·exact hall j h (by omega)
    first | exact⟨rfl,hnx,rfl⟩ | exact⟨hnx,rfl⟩ | exact hnx
   ·have hR6:=hbad (fun h=>hb (by rw [<- hy];exact h.2 i hi));subst hR6;unfold Qe9 zLD;rw [Bool.eq_false_iff.2 hb]at hri;(refine sR fun K hK=>?_;(repeat rw [Qa];simp [hi,hi',hy,hEy]);refine hK _ _ _ ?_;clear hK K);(refine Qi Wa ?_;(repeat rw [Qa];simp));refine cXr (hri) ?_
    (repeat rw [Qa];simp)
    refine cXp (p6) ?_;(try simp only [zr]);(repeat rw [Qa];simp);(try simp only [zs]);refine Qfb.objs Qf [2,0,1] (tG_l [] .full 0 0 6) ?_ ?_ (fun d h=>by cases h;rfl) (by decide) (by simp) (by simp [zA]) (by simp [zA]) (by simp [zA]) (by simp [zA])
    ·rintro hc rfl;simp [zA,upO,Qw,Wi];refine Qen.intro rfl (.inr ⟨[],by decide,by simp,?_⟩);simp [zM]
     try simp [Out.fgt,D.fgt,D.fgts]
    ·rintro hc rfl;simp
  ·rintro ys hl tl' ⟨rfl,hallt,rfl⟩ htl;refine hK1 _ _ _ (Xn htl ?_);simp only [Qh,List.set,List.map_cons,List.map_nil,List.cons_append,List.nil_append];clear hK1 K1;have hRr:R=r:=by rw [<- hR];unfold toldR;rw [if_pos ⟨⟨a1,a2⟩,a3,a4⟩,if_pos ⟨fun i h=>hallc i h h,fun i h=>hallt i h h⟩]
   subst hRr;have sp:=hsp ⟨a1,a2⟩ ⟨a3,a4⟩ (fun i h=>hallc i h h) (fun i h=>hallt i h h);clear hbad hR;rcases Qv l n Qn R with ⟨x,q,e1,q1⟩ | ⟨e,e1,q1⟩
   ·rw [q1]at sp;subst e1;have hEx:Qn x= .agg [.slice (x.map Wv) .any]:=rfl;rw [hEx]at sp;unfold Qe9;dsimp only;rw [hEx];unfold iO Cs at sp;(refine sR fun K hK=>?_;(repeat rw [Qa];simp));refine cXo [] false (ru) ?_;(rintro o hc ⟨rfl,rfl⟩;refine⟨false,?_⟩;simp [zU]);(try simp only [zr]);(repeat rw [Qa];simp);(refine hK _ _ _ ?_;clear hK K);(refine sR fun K hK=>?_;(repeat rw [Qa];simp));refine cXf [4,3] (sp) ?_;simp [zU]
    (repeat rw [Qa];simp)
    (refine hK _ _ _ ?_;clear hK K);(refine Qc fun K hK=>?_;refine dR fun KT hKT=>?_;(repeat rw [Qd];simp));(refine hKT _ _ _ _ (by kernel_rfl) ?_;clear hKT KT);(refine hK _ _ _ ?_;clear hK K);refine Qe ?_;refine Qfb.objs Qf [2,0,1] (tI_l (x.map Wv) .any q 0) ?_ ?_ (fun d h=>by cases h) (by decide) (by simp) (by simp [zA]) (by simp [zA]) (by simp [zA]) (by simp [zA])
    ·rintro hc rfl;simp [zA,upO,Qw,Wi];refine Qen.intro rfl (.inr ⟨[],by decide,by simp,?_⟩);simp [zM]
     try simp [Out.fgt,D.fgt,D.fgts]
    ·rintro hc rfl;simp
   ·rw [q1]at sp;subst e1;unfold Qe9 zLD;unfold iO Cs Wq at sp;(refine sR fun K hK=>?_;(repeat rw [Qa];simp));refine cXo [] false (ru) ?_;(rintro o hc ⟨rfl,rfl⟩;refine⟨false,?_⟩;simp [zU]);(try simp only [zr]);(repeat rw [Qa];simp);(refine hK _ _ _ ?_;clear hK K);(refine sR fun K hK=>?_;(repeat rw [Qa];simp));refine cXg [4,3] (sp) ?_;simp [zU];(try simp only [zs]);refine Qfb.objs Qf [2,0,1] (tG_l [] .full 0 0 e) ?_ ?_ (fun d h=>by cases h;rfl) (by decide) (by simp) (by simp [zA]) (by simp [zA]) (by simp [zA]) (by simp [zA])
    ·rintro hc rfl;simp [zA,upO,Qw,Wi];refine Qen.intro rfl (.inr ⟨[],by decide,by simp,?_⟩);simp [zM]
     try simp [Out.fgt,D.fgt,D.fgts]
    ·rintro hc rfl;simp
theorem tI_b(b:Bool)(x y:Int):Qge Tryz.prog glob 117 [.box 0 0, .box 1 0, .box 2 0] [.cells 33 [.int .i64 y], .cells 4 [.bool b], .cells 3 [.int .i64 x]] none
  (fun hc=>hc= [.cells 33 [.int .i64 y], .cells 4 [.bool b], .cells 3 [.int .i64 x]]):=by
 refine Qaq Wa Tryz.func117 rfl rfl (fun a w=>rfl) rfl (Qch _ _ Tryz.func117 rfl (by decide)) rfl rfl ?_;(try simp only [zr]);(repeat rw [Qa];simp);(refine sR fun K hK=>?_;(repeat rw [Qa];simp);refine hK _ _ _ ?_;clear hK K);refine pF rfl ?_;refine Qg ?_;refine Qk.nrm rfl ?_;simp [Qw]
theorem tG_b(b:Bool)(x y e:Int):Qge Tryz.prog glob 117 [.box 0 0, .box 1 0, .box 2 0] [.cells 33 [.int .i64 y], .cells 4 [.bool b], .cells 3 [.int .i64 x]] (some (.iface 33 (.int .i64 e)))
  (fun hc=>hc= [.cells 33 [.int .i64 e], .cells 4 [.bool false], .cells 3 [.int .i64 0]]):=by
 refine Qaq Wa Tryz.func117 rfl rfl (fun a w=>rfl) rfl (Qch _ _ Tryz.func117 rfl (by decide)) rfl rfl ?_;(try simp only [zr]);(repeat rw [Qa];simp);(refine sR fun K hK=>?_;(repeat rw [Qa];simp);refine hK _ _ _ ?_;clear hK K);refine pT rfl ?_;(refine sR fun K hK=>?_;(repeat rw [Qa];simp);refine hK _ _ _ ?_;clear hK K);refine Qc fun K1 hK1=>?_
 (refine sR fun K hK=>?_;(repeat rw [Qa];simp);refine hK _ _ _ ?_;clear hK K);(refine sR fun K hK=>?_;(repeat rw [Qa];simp);refine hK _ _ _ ?_;clear hK K);refine pF rfl ?_;refine Qg (hK1 _ _ _ ?_);(refine sR fun K hK=>?_;(repeat rw [Qa];simp);refine hK _ _ _ ?_;clear hK K);(refine Qi Wa ?_;(repeat rw [Qa];simp));refine Qk.nrm rfl ?_;simp [Qw]
theorem told_b{l:List C}{n f:Int}{c ts:List T}(g:FuncId)(d:List T)(t y:T){r:Rs Bool}(hl:l.length<=Ql)(hc1:c.length<=1000000)(hco:∀x,x∈c ->okT x)(hts:ts.length<=2)(hto:∀x,x∈ts ->okT x)
  (hsp:(0<=n/\n<=8) ->0<=f/\f<=1073741824 ->(∀(i:Nat) (h:i<c.length),Xu n i (l.map C.lv) c[i]=true) ->(∀(i:Nat) (h:i<ts.length),Xu n c.length (l.map C.lv) ts[i]=true) ->Sp g [.box 0 0, .ref (.slice (d.map Qj) .any), .ref (.agg [.int .i64 t.k, .int .i64 t.n, .int .i64 t.a, .slice (t.ls.map Qn) .any, .slice (t.ks.map Qj) .any]), .ref (.agg [.int .i64 y.k, .int .i64 y.n, .int .i64 y.a, .slice (y.ls.map Qn) .any, .slice (y.ks.map Qj) .any])] (iO f l n) (RP l n Qkz r)) :
  Sp 66 [Cs l, .int .i64 n,Ts c, .int .i64 f, .fn (.func g) [] [.ref (.slice (d.map Qj) .any), .ref (.agg [.int .i64 t.k, .int .i64 t.n, .int .i64 t.a, .slice (t.ls.map Qn) .any, .slice (t.ks.map Qj) .any]), .ref (.agg [.int .i64 y.k, .int .i64 y.n, .int .i64 y.a, .slice (y.ls.map Qn) .any, .slice (y.ks.map Qj) .any])],Ts ts] [] (rt (Qe9 (.bool false) Qkz (toldR l n c f ts r))):=by
 have cs:=Qks l hl;have ru:=Qkf;have m2:=Qbj 2;have m6:=Qbj 6;have p2:=Qba 2;have p6:=Qba 6;unfold Wq at p2 p6;have hcm:(l.map C.lv).length<=Ql:=by simpa using hl
 have hcL:c.length<=Ql:=by unfold Ql;omega
 have hnn:∀k,k∈c ->True:=fun _ _=>trivial
 generalize hR:toldR l n c f ts r=R;unfold Ts Cs;by_cases hA:(0<=n/\n<=8)/\0<=f/\f<=1073741824
 rotate_left
 ·have hR2:R= .error 2:=by rw [<- hR];unfold toldR;rw [if_neg hA]
  subst hR2;unfold Qe9 Qkz;have hq:¬ 0<=n\/(0<=n/\¬ n<=8)\/(0<=n/\n<=8/\¬ 0<=f)\/(0<=n/\n<=8/\0<=f/\¬ f<=1073741824):=by omega
  rcases hq with a1 | ⟨a1,a2⟩ | ⟨a1,a2,a3⟩ | ⟨a1,a2,a3,a4⟩
  ·refine eD Tryz.func66 rfl (by decide) rfl rfl ?_;(refine sR fun K hK=>?_;(repeat rw [Qa];simp);refine hK _ _ _ ?_;clear hK K);(refine sR fun K hK=>?_;(repeat rw [Qa];simp);refine hK _ _ _ ?_;clear hK K);(refine sR fun K hK=>?_;(repeat rw [Qa];simp [a1]));refine cXp (p2) ?_;(try simp only [zr]);(repeat rw [Qa];simp);(try simp only [zs]);refine Qfb.objs Qf [2,0,1] (tG_b false 0 0 2) ?_ ?_ (fun d h=>by cases h;rfl) (by decide) (by simp) (by simp [zA]) (by simp [zA]) (by simp [zA]) (by simp [zA])
   ·rintro hc rfl;simp [zA,upO,Qw,Wi];refine Qen.intro rfl (.inr ⟨[],by decide,by simp,?_⟩);simp [zM]
    try simp [Out.fgt,D.fgt,D.fgts]
   ·rintro hc rfl;simp
  ·refine eD Tryz.func66 rfl (by decide) rfl rfl ?_;(refine sR fun K hK=>?_;(repeat rw [Qa];simp);refine hK _ _ _ ?_;clear hK K);(refine sR fun K hK=>?_;(repeat rw [Qa];simp);refine hK _ _ _ ?_;clear hK K);(refine sR fun K hK=>?_;(repeat rw [Qa];simp [a1,a2]));refine cXp (p2) ?_;(try simp only [zr]);(repeat rw [Qa];simp);(try simp only [zs]);refine Qfb.objs Qf [2,0,1] (tG_b false 0 0 2) ?_ ?_ (fun d h=>by cases h;rfl) (by decide) (by simp) (by simp [zA]) (by simp [zA]) (by simp [zA]) (by simp [zA])
   ·rintro hc rfl;simp [zA,upO,Qw,Wi];refine Qen.intro rfl (.inr ⟨[],by decide,by simp,?_⟩);simp [zM]
    try simp [Out.fgt,D.fgt,D.fgts]
   ·rintro hc rfl;simp
  ·refine eD Tryz.func66 rfl (by decide) rfl rfl ?_;(refine sR fun K hK=>?_;(repeat rw [Qa];simp);refine hK _ _ _ ?_;clear hK K);(refine sR fun K hK=>?_;(repeat rw [Qa];simp);refine hK _ _ _ ?_;clear hK K);(refine sR fun K hK=>?_;(repeat rw [Qa];simp [a1,a2,a3]));refine cXp (p2) ?_;(try simp only [zr]);(repeat rw [Qa];simp);(try simp only [zs]);refine Qfb.objs Qf [2,0,1] (tG_b false 0 0 2) ?_ ?_ (fun d h=>by cases h;rfl) (by decide) (by simp) (by simp [zA]) (by simp [zA]) (by simp [zA]) (by simp [zA])
   ·rintro hc rfl;simp [zA,upO,Qw,Wi];refine Qen.intro rfl (.inr ⟨[],by decide,by simp,?_⟩);simp [zM]
    try simp [Out.fgt,D.fgt,D.fgts]
   ·rintro hc rfl;simp
  ·refine eD Tryz.func66 rfl (by decide) rfl rfl ?_;(refine sR fun K hK=>?_;(repeat rw [Qa];simp);refine hK _ _ _ ?_;clear hK K);(refine sR fun K hK=>?_;(repeat rw [Qa];simp);refine hK _ _ _ ?_;clear hK K);(refine sR fun K hK=>?_;(repeat rw [Qa];simp [a1,a2,a3,a4]));refine cXp (p2) ?_;(try simp only [zr]);(repeat rw [Qa];simp);(try simp only [zs]);refine Qfb.objs Qf [2,0,1] (tG_b false 0 0 2) ?_ ?_ (fun d h=>by cases h;rfl) (by decide) (by simp) (by simp [zA]) (by simp [zA]) (by simp [zA]) (by simp [zA])
   ·rintro hc rfl;simp [zA,upO,Qw,Wi];refine Qen.intro rfl (.inr ⟨[],by decide,by simp,?_⟩);simp [zM]
    try simp [Out.fgt,D.fgt,D.fgts]
   ·rintro hc rfl;simp
 obtain⟨⟨a1,a2⟩,a3,a4⟩:=hA;unfold Qd3 at cs;unfold Cs at cs;have hbad:¬ ((∀(i:Nat) (h:i<c.length),Xu n i (l.map C.lv) c[i]=true)/\(∀(i:Nat) (h:i<ts.length),Xu n c.length (l.map C.lv) ts[i]=true)) ->R= .error 6:=fun h=>by rw [<- hR];unfold toldR;rw [if_pos ⟨⟨a1,a2⟩,a3,a4⟩,if_neg h]
 refine eD Tryz.func66 rfl (by decide) rfl rfl ?_;(refine sR fun K hK=>?_;(repeat rw [Qa];simp);refine hK _ _ _ ?_;clear hK K);(refine sR fun K hK=>?_;(repeat rw [Qa];simp);refine hK _ _ _ ?_;clear hK K);(refine sR fun K hK=>?_;(repeat rw [Qa];simp [a1,a2,a3,a4]));refine cXr (m2) ?_
 (repeat rw [Qa];simp)
 (refine hK _ _ _ ?_;clear hK K);(refine sR fun K hK=>?_;(repeat rw [Qa];simp));refine cXr (cs) ?_
 (repeat rw [Qa];simp)
 (refine hK _ _ _ ?_;clear hK K);refine Qc fun K1 hK1=>?_
 (refine sR fun K hK=>?_;(repeat rw [Qa];simp);refine hK _ _ _ ?_;clear hK K);refine Qde Wa Qf (ti:=3) (tk:=41) (tn:=40) (td:=42) (ts:=52) [16,17,41,42,43,44,45,46,47,48,49,50,51,52] [] (c.length) (fun k ys hl=>ys= []/\(∀(j:Nat) (h:j<c.length),j<k ->Xu n j (l.map C.lv) c[j]=true)/\hl= [.cells 4 [.bool false], .cells 3 [.int .i64 0], .cells 33 [.int .i64 0]]) rfl rfl rfl rfl rfl rfl rfl rfl rfl rfl rfl rfl (by simp) (by decide) rfl (by first | assumption | omega | (unfold Ql;omega)) rfl (by kernel_rfl) (by decide) ?_ ?_ ?_
 ·exact⟨rfl,fun j _ h=>by omega,rfl⟩
 ·rintro i ys hl A hi ⟨rfl,hall,rfl⟩ hA hA2;simp only [Qh,List.set,List.map_cons,List.map_nil,List.cons_append,List.nil_append];have hi':(i:Int)<c.length:=by omega
  obtain⟨y,hy⟩:∃y,c[i]=y:=⟨_,rfl⟩;have hri:=Qcp n i (l.map C.lv) y hcm (hco y (by rw [<- hy];exact List.getElem_mem hi));have hEy:=Qb y;rw [hEy]at hri;unfold Qd3 at hri;by_cases hb:Xu n i (l.map C.lv) y=true
  ·rw [hb]at hri;(refine sR fun K hK=>?_;(repeat rw [Qa];simp [hi,hi',hy,hEy]);refine hK _ _ _ ?_;clear hK K);(refine Qi Wa ?_;(repeat rw [Qa];simp));refine cXr (hri) ?_
   (repeat rw [Qa];simp)
   refine cXr (m6) ?_
   (repeat rw [Qa];simp)
   (refine hA2 ([0,1,2]) _ _ _ (LeT.refl _) (by decide) (by simp) (by first | rfl | simp [okD,zM]) (by first | rfl | simp [Qx8,zM]) (by simp [zM,Qh]) ?_ rfl;simp [zM]);have hnx:∀(j:Nat) (h:j<c.length),j<i+1 ->Xu n j (l.map C.lv) c[j]=true:=fun j h hj=>by
    by_cases hji:j=i
    ·subst hji;rw [hy];exact hb
    ·exact hall j h (by omega)
   first | exact⟨rfl,hnx,rfl⟩ | exact⟨hnx,rfl⟩ | exact hnx
  ·have hR6:=hbad (fun h=>hb (by rw [<- hy];exact h.1 i hi));subst hR6;unfold Qe9 Qkz;rw [Bool.eq_false_iff.2 hb]at hri;(refine sR fun K hK=>?_;(repeat rw [Qa];simp [hi,hi',hy,hEy]);refine hK _ _ _ ?_;clear hK K);(refine Qi Wa ?_;(repeat rw [Qa];simp));refine cXr (hri) ?_
   (repeat rw [Qa];simp)
   refine cXp (p6) ?_;(try simp only [zr]);(repeat rw [Qa];simp);(try simp only [zs]);refine Qfb.objs Qf [2,0,1] (tG_b false 0 0 6) ?_ ?_ (fun d h=>by cases h;rfl) (by decide) (by simp) (by simp [zA]) (by simp [zA]) (by simp [zA]) (by simp [zA])
   ·rintro hc rfl;simp [zA,upO,Qw,Wi];refine Qen.intro rfl (.inr ⟨[],by decide,by simp,?_⟩);simp [zM]
    try simp [Out.fgt,D.fgt,D.fgts]
   ·rintro hc rfl;simp
 ·rintro ys hl tl' ⟨rfl,hallc,rfl⟩ htl;refine hK1 _ _ _ (Xn htl ?_);simp only [Qh,List.set,List.map_cons,List.map_nil,List.cons_append,List.nil_append];clear hK1 K1;refine Qc fun K1 hK1=>?_
  (refine sR fun K hK=>?_;(repeat rw [Qa];simp);refine hK _ _ _ ?_;clear hK K);refine Qde Wa Qf (ti:=3) (tk:=55) (tn:=54) (td:=56) (ts:=66) [19,55,56,57,58,59,60,61,62,63,64,65,66] [] (ts.length) (fun k ys hl=>ys= []/\(∀(j:Nat) (h:j<ts.length),j<k ->Xu n c.length (l.map C.lv) ts[j]=true)/\hl= [.cells 4 [.bool false], .cells 3 [.int .i64 0], .cells 33 [.int .i64 0]]) rfl rfl rfl rfl rfl rfl rfl rfl rfl rfl rfl rfl (by simp) (by decide) rfl (by first | assumption | omega | (unfold Ql;omega)) rfl (by kernel_rfl) (by decide) ?_ ?_ ?_
  ·exact⟨rfl,fun j _ h=>by omega,rfl⟩
  ·rintro i ys hl A hi ⟨rfl,hall,rfl⟩ hA hA2;simp only [Qh,List.set,List.map_cons,List.map_nil,List.cons_append,List.nil_append];have hi':(i:Int)<ts.length:=by omega
   obtain⟨y,hy⟩:∃y,ts[i]=y:=⟨_,rfl⟩;have hri:=Qcp n c.length (l.map C.lv) y hcm (hto y (by rw [<- hy];exact List.getElem_mem hi));have hEy:=Qb y;rw [hEy]at hri;unfold Qd3 at hri;by_cases hb:Xu n c.length (l.map C.lv) y=true
   ·rw [hb]at hri;(refine sR fun K hK=>?_;(repeat rw [Qa];simp [hi,hi',hy,hEy]);refine hK _ _ _ ?_;clear hK K);(refine Qi Wa ?_;(repeat rw [Qa];simp));refine cXr (hri) ?_
    (repeat rw [Qa];simp)
    refine cXr (m6) ?_
    (repeat rw [Qa];simp)
    (refine hA2 ([0,1,2]) _ _ _ (LeT.refl _) (by decide) (by simp) (by first | rfl | simp [okD,zM]) (by first | rfl | simp [Qx8,zM]) (by simp [zM,Qh]) ?_ rfl;simp [zM]);have hnx:∀(j:Nat) (h:j<ts.length),j<i+1 ->Xu n c.length (l.map C.lv) ts[j]=true:=fun j h hj=>by
     by_cases hji:j=i
     ·subst hji;rw [hy];exact hb
     ·exact hall j h (by omega)
    first | exact⟨rfl,hnx,rfl⟩ | exact⟨hnx,rfl⟩ | exact hnx
   ·have hR6:=hbad (fun h=>hb (by rw [<- hy];exact h.2 i hi));subst hR6;unfold Qe9 Qkz;rw [Bool.eq_false_iff.2 hb]at hri;(refine sR fun K hK=>?_;(repeat rw [Qa];simp [hi,hi',hy,hEy]);refine hK _ _ _ ?_;clear hK K);(refine Qi Wa ?_;(repeat rw [Qa];simp));refine cXr (hri) ?_
    (repeat rw [Qa];simp)
    refine cXp (p6) ?_;(try simp only [zr]);(repeat rw [Qa];simp);(try simp only [zs]);refine Qfb.objs Qf [2,0,1] (tG_b false 0 0 6) ?_ ?_ (fun d h=>by cases h;rfl) (by decide) (by simp) (by simp [zA]) (by simp [zA]) (by simp [zA]) (by simp [zA])
    ·rintro hc rfl;simp [zA,upO,Qw,Wi];refine Qen.intro rfl (.inr ⟨[],by decide,by simp,?_⟩);simp [zM]
     try simp [Out.fgt,D.fgt,D.fgts]
    ·rintro hc rfl;simp
  ·rintro ys hl tl' ⟨rfl,hallt,rfl⟩ htl;refine hK1 _ _ _ (Xn htl ?_);simp only [Qh,List.set,List.map_cons,List.map_nil,List.cons_append,List.nil_append];clear hK1 K1;have hRr:R=r:=by rw [<- hR];unfold toldR;rw [if_pos ⟨⟨a1,a2⟩,a3,a4⟩,if_pos ⟨fun i h=>hallc i h h,fun i h=>hallt i h h⟩]
   subst hRr;have sp:=hsp ⟨a1,a2⟩ ⟨a3,a4⟩ (fun i h=>hallc i h h) (fun i h=>hallt i h h);clear hbad hR;rcases Qv l n Qkz R with ⟨x,q,e1,q1⟩ | ⟨e,e1,q1⟩
   ·rw [q1]at sp;subst e1;have hEx:Qkz x= .bool x:=rfl;rw [hEx]at sp;unfold Qe9;dsimp only;rw [hEx];unfold iO Cs at sp;(refine sR fun K hK=>?_;(repeat rw [Qa];simp));refine cXo [] false (ru) ?_;(rintro o hc ⟨rfl,rfl⟩;refine⟨false,?_⟩;simp [zU]);(try simp only [zr]);(repeat rw [Qa];simp);(refine hK _ _ _ ?_;clear hK K);(refine sR fun K hK=>?_;(repeat rw [Qa];simp));refine cXf [4,3] (sp) ?_;simp [zU]
    (repeat rw [Qa];simp)
    (refine hK _ _ _ ?_;clear hK K);(refine Qc fun K hK=>?_;refine dR fun KT hKT=>?_;(repeat rw [Qd];simp));(refine hKT _ _ _ _ (by kernel_rfl) ?_;clear hKT KT);(refine hK _ _ _ ?_;clear hK K);refine Qe ?_;refine Qfb.objs Qf [2,0,1] (tI_b x q 0) ?_ ?_ (fun d h=>by cases h) (by decide) (by simp) (by simp [zA]) (by simp [zA]) (by simp [zA]) (by simp [zA])
    ·rintro hc rfl;simp [zA,upO,Qw,Wi];refine Qen.intro rfl (.inr ⟨[],by decide,by simp,?_⟩);simp [zM]
     try simp [Out.fgt,D.fgt,D.fgts]
    ·rintro hc rfl;simp
   ·rw [q1]at sp;subst e1;unfold Qe9 Qkz;unfold iO Cs Wq at sp;(refine sR fun K hK=>?_;(repeat rw [Qa];simp));refine cXo [] false (ru) ?_;(rintro o hc ⟨rfl,rfl⟩;refine⟨false,?_⟩;simp [zU]);(try simp only [zr]);(repeat rw [Qa];simp);(refine hK _ _ _ ?_;clear hK K);(refine sR fun K hK=>?_;(repeat rw [Qa];simp));refine cXg [4,3] (sp) ?_;simp [zU];(try simp only [zs]);refine Qfb.objs Qf [2,0,1] (tG_b false 0 0 e) ?_ ?_ (fun d h=>by cases h;rfl) (by decide) (by simp) (by simp [zA]) (by simp [zA]) (by simp [zA]) (by simp [zA])
    ·rintro hc rfl;simp [zA,upO,Qw,Wi];refine Qen.intro rfl (.inr ⟨[],by decide,by simp,?_⟩);simp [zM]
     try simp [Out.fgt,D.fgt,D.fgts]
    ·rintro hc rfl;simp
end Go.Proofs.YtgloldepdhgfaaaGreatDoor
namespace Go.Proofs.YtgloldepdhgfaaaGreatDoor
set_option linter.unusedSimpArgs false
set_option linter.unusedVariables false
set_option linter.unusedSimpArgs false
set_option linter.unusedVariables false
set_option maxHeartbeats 10000000
set_option maxRecDepth 20000
open Go.RowKit
attribute [local simp] Qx Qm Qo Qp Wn Xg opD Qz Qr Qw Wi hOf Wj Xf Xd TK.isAgg TK.known Ws Wk Wc Qh D.ofV inB Wb Wp Xx Xz Zg Xc Xv Zh IntKind.min IntKind.max IntKind.signed IntKind.bits Wl Xy
def hgt(f:Int):Nat:=f.toNat+1
noncomputable def inferT (l : List C) (n : Int) (c : List T) (t : T) (f : Int) : Rs T := toldR l n c f [t] ((infT l n (hgt f) c t f).next fun s f => .ok (s.lift 0 0 0, f))
noncomputable def checkT (l : List C) (n : Int) (c : List T) (t y : T) (f : Int) : Rs Bool := toldR l n c f [t, y] ((chkT l n (hgt f) c t y f).next fun _ f => .ok (true, f))
noncomputable def sortT (l : List C) (n : Int) (c : List T) (t : T) (f : Int) : Rs LV := toldR l n c f [t] ((sortR l (infT l n (hgt f)) c t f).next fun i f => .ok (Wg i, f))
def Qyl{α:Type}:Rs α ->D
 | .ok (_,g)=> .tuple [.int .i64 g, .int .i64 0]
 | .error e=> .tuple [.int .i64 0, .int .i64 e]
structure AskOk (c ts : List T) (f : Int) : Prop where
 ok:∀x,x∈c ->okT x/\x.nsz<=20000
 cl:c.length<=1000000
 len:(c.length:Int)+f<=1000000\/1073741824<f
 ts:∀x,x∈ts ->okT x/\x.nsz<=20000
 fu:f<=19998\/1073741824<f
theorem AskOk.cx{l:List C}{n:Int}{c ts:List T}{f:Int}(h:AskOk c ts f)(hf:f<=1073741824)(hr:∀(i:Nat) (h:i<c.length),Xu n i (l.map C.lv) c[i]=true):Cx c f :=
 ⟨fun x hx=>by
  obtain⟨i,hi,e⟩:=List.getElem_of_mem hx;have:=(Qeb.1 (hr i hi)).2.2;rw [e]at this
  exact⟨(h.ok x hx).1,by rw [Qt0 x this];exact(h.ok x hx).2⟩,by have:=h.len;omega⟩
theorem AskOk.sub{l:List C}{n:Int}{c ts:List T}{f:Int}(h:AskOk c ts f)(hr:∀(i:Nat) (h:i<ts.length),Xu n c.length (l.map C.lv) ts[i]=true){i:Nat}(hi:i<ts.length):Sub n (l.map C.lv) c ts[i] :=
 ⟨(Qeb.1 (hr i hi)).2.2,(h.ts _ (List.getElem_mem hi)).1,(h.ts _ (List.getElem_mem hi)).2⟩
theorem Wba{l:List C}(hk:Kc l){n f:Int}{c:List T}{t:T}(ha:AskOk c [t] f)(h0:0<=f)(h1:f<=1073741824)(hrc:∀(i:Nat) (h:i<c.length),Xu n i (l.map C.lv) c[i]=true)(hrt:∀(i:Nat) (h:i< [t].length),Xu n c.length (l.map C.lv) [t][i]=true) :
  Sp 63 [.box 0 0, .ref (.slice (c.map Qj) .any), .ref (.agg [.int .i64 t.k, .int .i64 t.n, .int .i64 t.a, .slice (t.ls.map Qn) .any, .slice (t.ks.map Qj) .any])] (iO f l n) (RP l n Qn ((sortR l (infT l n (hgt f)) c t f).next fun i f=> .ok (Wg i,f))):=by
 have hx:=ha.cx h1 hrc;have k0:Sub n (l.map C.lv) c t:=ha.sub hrt (i:=0) (by simp);have hf:f<=19998:=by have:=ha.fu;omega
 have hgn:((hgt f:Nat):Int)=f+1:=by unfold hgt;omega
 obtain⟨hI,hJ⟩:=Qoa hk n (hgt f) (by omega);obtain⟨bI,bJ⟩:=Qin (n:=n) hk (hgt f);have h2:f<=20000:=by omega
 have h3:f<=((hgt f:Nat):Int) - 1:=by omega
 have hEt:=Qb t;generalize infT l n (hgt f)=I at hI bI hJ bJ⊢;generalize chkT l n (hgt f)=J at hI bI hJ bJ⊢;refine RP.of ?_;have hF:((hgt f:Nat):Int) - 1<=20000:=by omega
 have sp:=Zd hk hF bI bJ hI hJ h0 h3 k0 hx;rcases Qv l n Qn (sortR l I c t f)with ⟨s,g,e1,q1⟩ | ⟨e,e1,q1⟩
 ·obtain⟨a1,b1,d1⟩:=Qag hk.ok bI h0 h2 k0 hx e1;have up:=Qdl s d1.1;obtain⟨w,hw⟩:∃w,Wg s=w:=⟨_,rfl⟩;rw [hw]at up;have hEs:Qn s= .agg [.slice (s.map Wv) .any]:=rfl;have hEw:Qn w= .agg [.slice (w.map Wv) .any]:=rfl;rw [Qn4 (show(sortR l I c t f).next (fun i f=>(.ok (Wg i,f):Rs LV))= .ok (w,g) by rw [e1,Rs.next_ok,hw]),hEw];rw [q1,hEt,hEs]at sp;rw [hEs,hEw]at up;unfold iO Cs Ts at sp;unfold iO Cs;refine eN Tryz.func63 rfl (by decide) rfl rfl ?_;(refine sR fun K hK=>?_;(repeat rw [Qa];simp);refine hK _ _ _ ?_;clear hK K);(refine sR fun K hK=>?_;(repeat rw [Qa];simp));refine cXf [0,1] (sp) ?_;simp [zU]
  (repeat rw [Qa];simp)
  refine cXr (up) ?_
  (repeat rw [Qa];simp)
  (refine hK _ _ _ ?_;clear hK K);(refine Qe ?_;(try simp only [zs]);refine Qk.ret rfl (.inr ⟨[],by decide,by simp,?_⟩);simp [zM])
 ·rw [Qc5 (show(sortR l I c t f).next (fun i f=>(.ok (Wg i,f):Rs LV))= .error e by rw [e1,Rs.next_err])];rw [q1,hEt]at sp;unfold iO Cs Ts Wq at sp;unfold iO Cs Wq;refine eN Tryz.func63 rfl (by decide) rfl rfl ?_;(refine sR fun K hK=>?_;(repeat rw [Qa];simp);refine hK _ _ _ ?_;clear hK K);(refine sR fun K hK=>?_;(repeat rw [Qa];simp));refine cXg [0,1] (sp) ?_;simp [zU];((try simp only [zs]);refine Qk.pan (.inr ⟨[],by decide,by simp,?_⟩);simp [zM])
theorem Qlr{l:List C}(hk:Kc l){n f:Int}{c:List T}{t:T}(ha:AskOk c [t] f) :
  Sp 24 [Cs l, .int .i64 n,Ts c,Qj t, .int .i64 f] [] (rt (Qe9 zLD Qn (sortT l n c t f))):=by
 have hcl:c.length<=1000000:=ha.cl;have to:=told_l 63 c t (n:=n) (f:=f) (c:=c) (ts:= [t]) hk.cs.len hcl (fun x hx=>(ha.ok x hx).1) (by simp) (fun x hx=>(ha.ts x hx).1) (fun a b hrc hrt=>Wba hk ha b.1 b.2 hrc hrt);have hEt:=Qb t;have L1:1<=Ql:=by unfold Ql;omega
 have L2:2<=Ql:=by unfold Ql;omega
 have hd:∃(ls:LV) (g e:Int),Qe9 zLD Qn (sortT l n c t f)= .tuple [(.agg [.slice (ls.map Wv) .any]), .int .i64 g, .int .i64 e]:=by
  cases sortT l n c t f with
  | ok v =>
   obtain⟨x,g⟩:=v;unfold Qe9;dsimp only
   skip
   exact⟨_,_,_,rfl⟩
  | error e=>exact⟨[],_,_,rfl⟩
 obtain⟨ls,g,e,e1⟩:=hd;rw [e1];unfold sortT at e1;rw [e1]at to;rw [hEt];unfold Cs Ts at to⊢;simp only [List.map_cons,List.map_nil,hEt]at to;refine eN Tryz.func24 rfl (by decide) rfl rfl ?_;(refine sR fun K hK=>?_;(repeat rw [Qa];simp);refine hK _ _ _ ?_;clear hK K);(refine Xe (T:=Qq) 0 (ty:=25) (ds:= [.slice (c.map Qj) .any]) rfl rfl (by first | exact⟨rfl, .inr ⟨_,rfl,rfl⟩⟩ | exact⟨rfl, .inl rfl⟩) ?_;simp [D.frzs,D.frz,HO.frz,Qaj,Qao,TK.isAgg,FK.isB,FK.isM,FK.isO,D.isLen]);(refine Xe (T:=Qq) 1 (ty:=27) (ds:= [.int .i64 t.k, .int .i64 t.n, .int .i64 t.a, .slice (t.ls.map Qn) .any, .slice (t.ks.map Qj) .any]) rfl rfl (by first | exact⟨rfl, .inr ⟨_,rfl,rfl⟩⟩ | exact⟨rfl, .inl rfl⟩) ?_;simp [D.frzs,D.frz,HO.frz,Qaj,Qao,TK.isAgg,FK.isB,FK.isM,FK.isO,D.isLen]);(refine sR fun K hK=>?_;(repeat rw [Qa];simp [L1]));refine cXr (to) ?_
 (repeat rw [Qa];simp)
 (refine hK _ _ _ ?_;clear hK K);(refine Qe ?_;(try simp only [zs]);refine Qk.ret rfl (.inl ?_);simp [zM])
theorem Qzs{l:List C}(hk:Kc l){n f:Int}{c:List T}{t y:T}(ha:AskOk c [t,y] f)(h0:0<=f)(h1:f<=1073741824)(hrc:∀(i:Nat) (h:i<c.length),Xu n i (l.map C.lv) c[i]=true)(hrt:∀(i:Nat) (h:i< [t,y].length),Xu n c.length (l.map C.lv) [t,y][i]=true) :
  Sp 67 [.box 0 0, .ref (.slice (c.map Qj) .any), .ref (.agg [.int .i64 t.k, .int .i64 t.n, .int .i64 t.a, .slice (t.ls.map Qn) .any, .slice (t.ks.map Qj) .any]), .ref (.agg [.int .i64 y.k, .int .i64 y.n, .int .i64 y.a, .slice (y.ls.map Qn) .any, .slice (y.ks.map Qj) .any])] (iO f l n) (RP l n Qkz ((chkT l n (hgt f) c t y f).next fun _ f=> .ok (true,f))):=by
 have hx:=ha.cx h1 hrc;have k0:Sub n (l.map C.lv) c t:=ha.sub hrt (i:=0) (by simp);have k1:Sub n (l.map C.lv) c y:=ha.sub hrt (i:=1) (by simp);have hf:f<=19998:=by have:=ha.fu;omega
 have hgn:((hgt f:Nat):Int)=f+1:=by unfold hgt;omega
 obtain⟨hI,hJ⟩:=Qoa hk n (hgt f) (by omega);obtain⟨bI,bJ⟩:=Qin (n:=n) hk (hgt f);have h2:f<=20000:=by omega
 have h3:f<=((hgt f:Nat):Int) - 1:=by omega
 have hEt:=Qb t;have hEy:=Qb y;generalize infT l n (hgt f)=I at hI bI hJ bJ⊢;generalize chkT l n (hgt f)=J at hI bI hJ bJ⊢;refine RP.of ?_;have sp:=hJ c t y f h0 h3 k0 hx (k1.okY h2);rcases Qv l n Xb (J c t y f)with ⟨s,g,e1,q1⟩ | ⟨e,e1,q1⟩
 ·rw [Qn4 (show(J c t y f).next (fun _ f=>(.ok (true,f):Rs Bool))= .ok (true,g) by rw [e1,Rs.next_ok])];rw [q1,hEt,hEy]at sp;unfold iO Cs Ts Xb at sp;unfold iO Cs Qkz;refine eN Tryz.func67 rfl (by decide) rfl rfl ?_;(refine sR fun K hK=>?_;(repeat rw [Qa];simp);refine hK _ _ _ ?_;clear hK K);(refine sR fun K hK=>?_;(repeat rw [Qa];simp));refine cXf [0,1] (sp) ?_;simp [zU]
  (repeat rw [Qa];simp)
  (refine hK _ _ _ ?_;clear hK K);(refine sR fun K hK=>?_;(repeat rw [Qa];simp);refine hK _ _ _ ?_;clear hK K);(refine Qe ?_;(try simp only [zs]);refine Qk.ret rfl (.inr ⟨[],by decide,by simp,?_⟩);simp [zM])
 ·rw [Qc5 (show(J c t y f).next (fun _ f=>(.ok (true,f):Rs Bool))= .error e by rw [e1,Rs.next_err])];rw [q1,hEt,hEy]at sp;unfold iO Cs Ts Wq at sp;unfold iO Cs Wq;refine eN Tryz.func67 rfl (by decide) rfl rfl ?_;(refine sR fun K hK=>?_;(repeat rw [Qa];simp);refine hK _ _ _ ?_;clear hK K);(refine sR fun K hK=>?_;(repeat rw [Qa];simp));refine cXg [0,1] (sp) ?_;simp [zU];((try simp only [zs]);refine Qk.pan (.inr ⟨[],by decide,by simp,?_⟩);simp [zM])
theorem Qkw{l:List C}(hk:Kc l){n f:Int}{c:List T}{t y:T}(ha:AskOk c [t,y] f) :
  Sp 25 [Cs l, .int .i64 n,Ts c,Qj t,Qj y, .int .i64 f] [] (rt (Qyl (checkT l n c t y f))):=by
 have hcl:c.length<=1000000:=ha.cl;have to:=told_b 67 c t y (n:=n) (f:=f) (c:=c) (ts:= [t,y]) hk.cs.len hcl (fun x hx=>(ha.ok x hx).1) (by simp) (fun x hx=>(ha.ts x hx).1) (fun a b hrc hrt=>Qzs hk ha b.1 b.2 hrc hrt);have hEt:=Qb t;have hEy:=Qb y;have L1:1<=Ql:=by unfold Ql;omega
 have L2:2<=Ql:=by unfold Ql;omega
 have hd:∃b g e,Qe9 (.bool false) Qkz (checkT l n c t y f)= .tuple [.bool b, .int .i64 g, .int .i64 e]/\Qyl (checkT l n c t y f)= .tuple [.int .i64 g, .int .i64 e]:=by
  cases checkT l n c t y f with
  | ok v=>exact⟨_,_,_,rfl,rfl⟩
  | error e=>exact⟨_,_,_,rfl,rfl⟩
 obtain⟨b,g,e,e1,e2⟩:=hd;unfold checkT at e1;rw [e1]at to;rw [e2,hEt,hEy];unfold Cs Ts at to⊢;simp only [List.map_cons,List.map_nil,hEt,hEy]at to;refine eN Tryz.func25 rfl (by decide) rfl rfl ?_;(refine sR fun K hK=>?_;(repeat rw [Qa];simp);refine hK _ _ _ ?_;clear hK K);(refine Xe (T:=Qq) 0 (ty:=25) (ds:= [.slice (c.map Qj) .any]) rfl rfl (by first | exact⟨rfl, .inr ⟨_,rfl,rfl⟩⟩ | exact⟨rfl, .inl rfl⟩) ?_;simp [D.frzs,D.frz,HO.frz,Qaj,Qao,TK.isAgg,FK.isB,FK.isM,FK.isO,D.isLen]);(refine Xe (T:=Qq) 1 (ty:=27) (ds:= [.int .i64 t.k, .int .i64 t.n, .int .i64 t.a, .slice (t.ls.map Qn) .any, .slice (t.ks.map Qj) .any]) rfl rfl (by first | exact⟨rfl, .inr ⟨_,rfl,rfl⟩⟩ | exact⟨rfl, .inl rfl⟩) ?_;simp [D.frzs,D.frz,HO.frz,Qaj,Qao,TK.isAgg,FK.isB,FK.isM,FK.isO,D.isLen]);(refine Xe (T:=Qq) 2 (ty:=27) (ds:= [.int .i64 y.k, .int .i64 y.n, .int .i64 y.a, .slice (y.ls.map Qn) .any, .slice (y.ks.map Qj) .any]) rfl rfl (by first | exact⟨rfl, .inr ⟨_,rfl,rfl⟩⟩ | exact⟨rfl, .inl rfl⟩) ?_;simp [D.frzs,D.frz,HO.frz,Qaj,Qao,TK.isAgg,FK.isB,FK.isM,FK.isO,D.isLen]);(refine sR fun K hK=>?_;(repeat rw [Qa];simp [L2]));refine cXr (to) ?_
 (repeat rw [Qa];simp)
 (refine hK _ _ _ ?_;clear hK K);(refine sR fun K hK=>?_;(repeat rw [Qa];simp);refine hK _ _ _ ?_;clear hK K);(refine Qe ?_;(try simp only [zs]);refine Qk.ret rfl (.inl ?_);simp [zM])
def coF(c:C):List D:= [.int .i64 c.lv, .int .i64 c.ty.k, .int .i64 c.ty.n, .int .i64 c.ty.a, .slice (c.ty.ls.map Qn) .any, .slice (c.ty.ks.map Qj) .any, .bool c.has, .int .i64 c.bo.k, .int .i64 c.bo.n, .int .i64 c.bo.a, .slice (c.bo.ls.map Qn) .any, .slice (c.bo.ks.map Qj) .any]
def adO(f:Int)(l:List C)(c:C):List HO:= [.cells 105 (.int .i64 f:: .slice (l.map Qbn) .any::coF c)]
def SP(l:List C)(c:C):Rs Unit ->Out ->List HO ->Prop
 | .ok (_,g)=>fun o hc=>o.fgt= .ret (.tuple [])/\hc=adO g l c
 | .error e=>fun o hc=>o= .pan (Wq e)/\hc= [.dead]
theorem Qyz{l:List C}{c:C}{f g:Int}:Sp 165 [.box 0 0, .int .i64 g, .int .i64 0] (adO f l c) (fun o hc=>o.fgt= .ret (.tuple [])/\hc=adO g l c):=by
 unfold adO coF;refine eN Tryz.func165 rfl (by decide) rfl rfl ?_;(refine sR fun K hK=>?_;(repeat rw [Qa];simp);refine hK _ _ _ ?_;clear hK K);(refine sR fun K hK=>?_;(repeat rw [Qa];simp);refine hK _ _ _ ?_;clear hK K);refine pF rfl ?_;refine Qg ?_;((try simp only [zs]);refine Qk.nrm rfl (.inr ⟨[],by decide,by simp,?_⟩);simp [zM])
theorem Qy0{l:List C}{c:C}{f g e:Int}(he:¬ e=0):Sp 165 [.box 0 0, .int .i64 g, .int .i64 e] (adO f l c) (fun o hc=>o= .pan (Wq e)/\hc= [.dead]):=by
 refine Spec.dead (Post:=fun o hc=>o= .pan (Wq e)/\hc=adO g l c) ?_ fun o hc hp=>⟨[.dead],fun r=>by
  rw [hp.2]
  match r with
  | 0=>exact .inr rfl
  | r+1=>exact .inl rfl,hp.1,rfl⟩
 unfold adO coF Wq;refine eN Tryz.func165 rfl (by decide) rfl rfl ?_;(refine sR fun K hK=>?_;(repeat rw [Qa];simp);refine hK _ _ _ ?_;clear hK K);(refine sR fun K hK=>?_;(repeat rw [Qa];simp [he]);refine hK _ _ _ ?_;clear hK K);refine pT rfl ?_;(refine Qi Wa ?_;(repeat rw [Qa];simp));((try simp only [zs]);refine Qk.pan (.inr ⟨[],by decide,by simp,?_⟩);simp [zM])
def jbareB(t:T):Bool:=decide (t.k=0) && decide (t.n=0) && decide (t.a=0) && decide (t.ls.length=0) && decide (t.ks.length=0)
def Qb7(c:C)(f:Int):Rs Unit:=if 0<=c.lv/\c.lv<=8/\(c.has=true\/jbareB c.bo=true)then .ok ((),f)else .error 2
noncomputable def typR (l : List C) (c : C) (f : Int) : Rs Unit := match sortT l c.lv [] c.ty f with
 | .ok (_,g)=> .ok ((),g)
 | .error e=>if e=0 then .ok ((),0)else .error e
noncomputable def bodyR (l : List C) (c : C) (f : Int) : Rs Unit := if c.has = true then match checkT l c.lv [] c.bo c.ty f with
  | .ok (_,g)=> .ok ((),g)
  | .error e=>if e=0 then .ok ((),0)else .error e
 else .ok ((),f)
theorem Qsw{l:List C}{c:C}{f g e:Int}{r:Rs Unit}(h:(e=0/\r= .ok ((),g))\/(¬ e=0/\r= .error e)):Sp 165 [.box 0 0, .int .i64 g, .int .i64 e] (adO f l c) (SP l c r):=by
 rcases h with ⟨rfl,rfl⟩ | ⟨he,rfl⟩
 ·exact Qyz
 ·exact Qy0 he
theorem Qyy{l:List C}(hk:Kc l){c:C}{f:Int}(ht:okT c.ty/\c.ty.nsz<=20000)(hf:f<=19998\/1073741824<f):Sp 110 [.box 0 0] (adO f l c) (SP l c (typR l c f)):=by
 have sq:=Qlr hk (n:=c.lv) (f:=f) (c:= []) (t:=c.ty) ⟨fun x hx=>by simp at hx,by simp,by simp;omega,fun x hx=>by simp at hx;subst hx;exact ht,hf⟩;have hd:∃(ls:LV) (g e:Int),Qe9 zLD Qn (sortT l c.lv [] c.ty f)= .tuple [.agg [.slice (ls.map Wv) .any], .int .i64 g, .int .i64 e]/\((e=0/\typR l c f= .ok ((),g))\/(¬ e=0/\typR l c f= .error e)):=by
  unfold typR;cases sortT l c.lv [] c.ty f with
  | ok v=>obtain⟨x,g⟩:=v;exact⟨x,g,0,rfl, .inl ⟨rfl,rfl⟩⟩
  | error e =>
   by_cases he:e=0
   ·exact⟨[],0,e,rfl, .inl ⟨he,by simp [he]⟩⟩
   ·exact⟨[],0,e,rfl, .inr ⟨he,by simp [he]⟩⟩
 obtain⟨ls,g,e,e1,e2⟩:=hd;rw [e1]at sq;have sr:=Qsw (l:=l) (c:=c) (f:=f) e2;have hEt:=Qb c.ty;rw [hEt]at sq;unfold Cs Ts at sq;simp only [List.map_nil]at sq;rcases e2 with ⟨he,hr⟩ | ⟨he,hr⟩
 ·subst he;rw [hr]at sr⊢;unfold SP adO coF at sr⊢;refine eN Tryz.func110 rfl (by decide) rfl rfl ?_;(refine Qc fun K hK=>?_;refine dR fun KT hKT=>?_;(repeat rw [Qd];simp));refine cYp (sq) ?_;(try simp only [zq]);(repeat rw [Qd];simp);(refine hKT _ _ _ _ (by kernel_rfl) ?_;clear hKT KT);(refine hK _ _ _ ?_;clear hK K);(refine Qi Wa ?_;(repeat rw [Qa];simp));refine cXf [0] (sr) ?_;simp [zU]
  (repeat rw [Qa];simp)
  ((try simp only [zs]);refine Qk.nrm rfl (.inr ⟨[],by decide,by simp,?_⟩);simp [zM])
 ·rw [hr]at sr⊢;unfold SP adO coF Wq at sr⊢;refine eN Tryz.func110 rfl (by decide) rfl rfl ?_;(refine Qc fun K hK=>?_;refine dR fun KT hKT=>?_;(repeat rw [Qd];simp));refine cYp (sq) ?_;(try simp only [zq]);(repeat rw [Qd];simp);(refine hKT _ _ _ _ (by kernel_rfl) ?_;clear hKT KT);(refine hK _ _ _ ?_;clear hK K);(refine Qi Wa ?_;(repeat rw [Qa];simp));refine cXg [0] (sr) ?_;simp [zU];((try simp only [zs]);refine Qk.pan (.inr ⟨[],by decide,by simp,?_⟩);simp [zM])
theorem Qvp{l:List C}(hk:Kc l){c:C}{f:Int}(ht:okT c.ty/\c.ty.nsz<=20000)(hb:okT c.bo/\c.bo.nsz<=20000)(hf:f<=19998\/1073741824<f):Sp 111 [.box 0 0] (adO f l c) (SP l c (bodyR l c f)):=by
 by_cases hh:c.has=true
 rotate_left
 ·rw [show bodyR l c f= .ok ((),f) by unfold bodyR;rw [if_neg hh]];have hh2:c.has=false:=by simpa using hh
  unfold SP adO coF;rw [hh2];refine eN Tryz.func111 rfl (by decide) rfl rfl ?_;(refine sR fun K hK=>?_;(repeat rw [Qa];simp);refine hK _ _ _ ?_;clear hK K);refine pF rfl ?_;refine Qg ?_;((try simp only [zs]);refine Qk.nrm rfl (.inr ⟨[],by decide,by simp,?_⟩);simp [zM])
 have sq:=Qkw hk (n:=c.lv) (f:=f) (c:= []) (t:=c.bo) (y:=c.ty) ⟨fun x hx=>by simp at hx,by simp,by simp;omega,fun x hx=>by
  simp only [List.mem_cons,List.not_mem_nil,or_false]at hx;rcases hx with rfl | rfl
  ·exact hb
  ·exact ht,hf⟩
 have hd:∃(g e:Int),Qyl (checkT l c.lv [] c.bo c.ty f)= .tuple [.int .i64 g, .int .i64 e]/\((e=0/\bodyR l c f= .ok ((),g))\/(¬ e=0/\bodyR l c f= .error e)):=by
  unfold bodyR;rw [if_pos hh];cases checkT l c.lv [] c.bo c.ty f with
  | ok v=>obtain⟨x,g⟩:=v;exact⟨g,0,rfl, .inl ⟨rfl,rfl⟩⟩
  | error e =>
   by_cases he:e=0
   ·exact⟨0,e,rfl, .inl ⟨he,by simp [he]⟩⟩
   ·exact⟨0,e,rfl, .inr ⟨he,by simp [he]⟩⟩
 obtain⟨g,e,e1,e2⟩:=hd;rw [e1]at sq;have sr:=Qsw (l:=l) (c:=c) (f:=f) e2;have hEt:=Qb c.ty;have hEb:=Qb c.bo;rw [hEt,hEb]at sq;unfold Cs Ts at sq;simp only [List.map_nil]at sq;rcases e2 with ⟨he,hr⟩ | ⟨he,hr⟩
 ·subst he;rw [hr]at sr⊢;unfold SP adO coF at sr⊢;rw [hh]at sr⊢;refine eN Tryz.func111 rfl (by decide) rfl rfl ?_;(refine sR fun K hK=>?_;(repeat rw [Qa];simp);refine hK _ _ _ ?_;clear hK K);refine pT rfl ?_;(refine Qc fun K hK=>?_;refine dR fun KT hKT=>?_;(repeat rw [Qd];simp));refine cYp (sq) ?_;(try simp only [zq]);(repeat rw [Qd];simp);(refine hKT _ _ _ _ (by kernel_rfl) ?_;clear hKT KT);(refine hK _ _ _ ?_;clear hK K);(refine Qi Wa ?_;(repeat rw [Qa];simp));refine cXf [0] (sr) ?_;simp [zU]
  (repeat rw [Qa];simp)
  ((try simp only [zs]);refine Qk.nrm rfl (.inr ⟨[],by decide,by simp,?_⟩);simp [zM])
 ·rw [hr]at sr⊢;unfold SP adO coF Wq at sr⊢;rw [hh]at sr⊢;refine eN Tryz.func111 rfl (by decide) rfl rfl ?_;(refine sR fun K hK=>?_;(repeat rw [Qa];simp);refine hK _ _ _ ?_;clear hK K);refine pT rfl ?_;(refine Qc fun K hK=>?_;refine dR fun KT hKT=>?_;(repeat rw [Qd];simp));refine cYp (sq) ?_;(try simp only [zq]);(repeat rw [Qd];simp);(refine hKT _ _ _ _ (by kernel_rfl) ?_;clear hKT KT);(refine hK _ _ _ ?_;clear hK K);(refine Qi Wa ?_;(repeat rw [Qa];simp));refine cXg [0] (sr) ?_;simp [zU];((try simp only [zs]);refine Qk.pan (.inr ⟨[],by decide,by simp,?_⟩);simp [zM])
theorem Qrr{l:List C}{c:C}{f:Int}(hc:okC c):Sp 109 [.box 0 0] (adO f l c) (SP l c (Qb7 c f)):=by
 have hl1:c.bo.ls.length<=Ql:=hc.2.2.ll;have hl2:c.bo.ks.length<=Ql:=hc.2.2.kl;unfold Ql at hl1 hl2;have hw:IntKind.i64.wrap ((c.bo.ls.length:Int)+c.bo.ks.length)=(c.bo.ls.length:Int)+c.bo.ks.length:=Qbp (by omega) (by omega);clear hc;obtain⟨lv,ty,has,bo⟩:=c;obtain⟨k,n,a,ls,ks⟩:=bo
 replace hl1:ls.length<=16777216\/True:= .inr trivial
 replace hw:IntKind.i64.wrap ((ls.length:Int)+ks.length)=(ls.length:Int)+ks.length:=hw
 unfold adO;rw [show coF ⟨lv,ty,has, .mk k n a ls ks⟩= [.int .i64 lv, .int .i64 ty.k, .int .i64 ty.n, .int .i64 ty.a, .slice (ty.ls.map Qn) .any, .slice (ty.ks.map Qj) .any, .bool has, .int .i64 k, .int .i64 n, .int .i64 a, .slice (ls.map Qn) .any, .slice (ks.map Qj) .any] from rfl];obtain⟨R,hR⟩:∃R,Qb7 ⟨lv,ty,has, .mk k n a ls ks⟩ f=R:=⟨_,rfl⟩;rw [hR];have hRb:Qb7 ⟨lv,ty,has, .mk k n a ls ks⟩ f=if 0<=lv/\lv<=8/\(has=true\/(decide (k=0) && decide (n=0) && decide (a=0) && decide (ls.length=0) && decide (ks.length=0))=true)then .ok ((),f)else .error 2:=rfl
 rw [hRb]at hR;clear hRb;rw [show SP l ⟨lv,ty,has, .mk k n a ls ks⟩ R=(match R with | .ok (_,g)=>fun o hc=>o.fgt= .ret (.tuple [])/\hc= [.cells 105 [.int .i64 g, .slice (l.map Qbn) .any, .int .i64 lv, .int .i64 ty.k, .int .i64 ty.n, .int .i64 ty.a, .slice (ty.ls.map Qn) .any, .slice (ty.ks.map Qj) .any, .bool has, .int .i64 k, .int .i64 n, .int .i64 a, .slice (ls.map Qn) .any, .slice (ks.map Qj) .any]] | .error e=>fun o hc=>o= .pan (Wq e)/\hc= [.dead]) by cases R <;> rfl];by_cases hk:k=0
 rotate_left
 ·by_cases v0:lv<0
  ·have v0':¬ 0<=lv:=by omega
   have hq:R= .error 2:=by rw [<- hR];simp [hk,v0,v0'] <;> assumption
   subst hq
   refine Spec.dead (Post:=fun o hc=>o= .pan (Wq 2)/\hc.length=1) ?_ fun o hc hp=>⟨[.dead],fun r=>by
    match r with
    | 0=>exact .inr rfl
    | r+1=>exact .inl (by unfold hOf;rw [List.getD_eq_getElem?_getD,List.getD_eq_getElem?_getD,List.getElem?_eq_none (by simp),List.getElem?_eq_none (by have:=hp.2;omega)]),hp.1,rfl⟩
   unfold Wq;refine eN Tryz.func109 rfl (by decide) rfl rfl ?_;(refine sR fun K hK=>?_;(repeat rw [Qa];simp);refine hK _ _ _ ?_;clear hK K);(refine sR fun K hK=>?_;(repeat rw [Qa];simp [hk,v0,v0']);refine hK _ _ _ ?_;clear hK K);(refine sR fun K hK=>?_;(repeat rw [Qa];simp [hk,v0,v0']);refine hK _ _ _ ?_;clear hK K);refine pT rfl ?_;(refine Qi Wa ?_;(repeat rw [Qa];simp));((try simp only [zs]);refine Qk.pan (.inr ⟨[],by decide,by simp,?_⟩);simp [zM])
  have v0':0<=lv:=by omega
  by_cases v8:8<lv
  ·have v8':¬ lv<=8:=by omega
   have hq:R= .error 2:=by rw [<- hR];simp [hk,v0,v0',v8,v8'] <;> assumption
   subst hq
   refine Spec.dead (Post:=fun o hc=>o= .pan (Wq 2)/\hc.length=1) ?_ fun o hc hp=>⟨[.dead],fun r=>by
    match r with
    | 0=>exact .inr rfl
    | r+1=>exact .inl (by unfold hOf;rw [List.getD_eq_getElem?_getD,List.getD_eq_getElem?_getD,List.getElem?_eq_none (by simp),List.getElem?_eq_none (by have:=hp.2;omega)]),hp.1,rfl⟩
   unfold Wq;refine eN Tryz.func109 rfl (by decide) rfl rfl ?_;(refine sR fun K hK=>?_;(repeat rw [Qa];simp);refine hK _ _ _ ?_;clear hK K);(refine sR fun K hK=>?_;(repeat rw [Qa];simp [hk,v0,v0',v8,v8']);refine hK _ _ _ ?_;clear hK K);(refine sR fun K hK=>?_;(repeat rw [Qa];simp [hk,v0,v0',v8,v8']);refine hK _ _ _ ?_;clear hK K);refine pT rfl ?_;(refine Qi Wa ?_;(repeat rw [Qa];simp));((try simp only [zs]);refine Qk.pan (.inr ⟨[],by decide,by simp,?_⟩);simp [zM])
  have v8':lv<=8:=by omega
  cases has
  ·have hq:R= .error 2:=by rw [<- hR];simp [hk,v0,v0',v8,v8'] <;> assumption
   subst hq
   refine Spec.dead (Post:=fun o hc=>o= .pan (Wq 2)/\hc.length=1) ?_ fun o hc hp=>⟨[.dead],fun r=>by
    match r with
    | 0=>exact .inr rfl
    | r+1=>exact .inl (by unfold hOf;rw [List.getD_eq_getElem?_getD,List.getD_eq_getElem?_getD,List.getElem?_eq_none (by simp),List.getElem?_eq_none (by have:=hp.2;omega)]),hp.1,rfl⟩
   unfold Wq;refine eN Tryz.func109 rfl (by decide) rfl rfl ?_;(refine sR fun K hK=>?_;(repeat rw [Qa];simp);refine hK _ _ _ ?_;clear hK K);(refine sR fun K hK=>?_;(repeat rw [Qa];simp [hk,v0,v0',v8,v8']);refine hK _ _ _ ?_;clear hK K);(refine sR fun K hK=>?_;(repeat rw [Qa];simp [hk,v0,v0',v8,v8']);refine hK _ _ _ ?_;clear hK K);refine pT rfl ?_;(refine Qi Wa ?_;(repeat rw [Qa];simp));((try simp only [zs]);refine Qk.pan (.inr ⟨[],by decide,by simp,?_⟩);simp [zM])
  ·have hq:R= .ok ((),f):=by rw [<- hR];simp [hk,v0,v0',v8,v8'] <;> assumption
   subst hq;refine eN Tryz.func109 rfl (by decide) rfl rfl ?_;(refine sR fun K hK=>?_;(repeat rw [Qa];simp);refine hK _ _ _ ?_;clear hK K);(refine sR fun K hK=>?_;(repeat rw [Qa];simp [hk,v0,v0',v8,v8']);refine hK _ _ _ ?_;clear hK K);(refine sR fun K hK=>?_;(repeat rw [Qa];simp [hk,v0,v0',v8,v8']);refine hK _ _ _ ?_;clear hK K);refine pF rfl ?_;refine Qg ?_;((try simp only [zs]);refine Qk.nrm rfl (.inr ⟨[],by decide,by simp,?_⟩);simp [zM])
 subst hk;by_cases hn:n=0
 rotate_left
 ·by_cases v0:lv<0
  ·have v0':¬ 0<=lv:=by omega
   have hq:R= .error 2:=by rw [<- hR];simp [hn,v0,v0'] <;> assumption
   subst hq
   refine Spec.dead (Post:=fun o hc=>o= .pan (Wq 2)/\hc.length=1) ?_ fun o hc hp=>⟨[.dead],fun r=>by
    match r with
    | 0=>exact .inr rfl
    | r+1=>exact .inl (by unfold hOf;rw [List.getD_eq_getElem?_getD,List.getD_eq_getElem?_getD,List.getElem?_eq_none (by simp),List.getElem?_eq_none (by have:=hp.2;omega)]),hp.1,rfl⟩
   unfold Wq;refine eN Tryz.func109 rfl (by decide) rfl rfl ?_;(refine sR fun K hK=>?_;(repeat rw [Qa];simp);refine hK _ _ _ ?_;clear hK K);(refine sR fun K hK=>?_;(repeat rw [Qa];simp [hn,v0,v0']);refine hK _ _ _ ?_;clear hK K);(refine sR fun K hK=>?_;(repeat rw [Qa];simp [hn,v0,v0']);refine hK _ _ _ ?_;clear hK K);refine pT rfl ?_;(refine Qi Wa ?_;(repeat rw [Qa];simp));((try simp only [zs]);refine Qk.pan (.inr ⟨[],by decide,by simp,?_⟩);simp [zM])
  have v0':0<=lv:=by omega
  by_cases v8:8<lv
  ·have v8':¬ lv<=8:=by omega
   have hq:R= .error 2:=by rw [<- hR];simp [hn,v0,v0',v8,v8'] <;> assumption
   subst hq
   refine Spec.dead (Post:=fun o hc=>o= .pan (Wq 2)/\hc.length=1) ?_ fun o hc hp=>⟨[.dead],fun r=>by
    match r with
    | 0=>exact .inr rfl
    | r+1=>exact .inl (by unfold hOf;rw [List.getD_eq_getElem?_getD,List.getD_eq_getElem?_getD,List.getElem?_eq_none (by simp),List.getElem?_eq_none (by have:=hp.2;omega)]),hp.1,rfl⟩
   unfold Wq;refine eN Tryz.func109 rfl (by decide) rfl rfl ?_;(refine sR fun K hK=>?_;(repeat rw [Qa];simp);refine hK _ _ _ ?_;clear hK K);(refine sR fun K hK=>?_;(repeat rw [Qa];simp [hn,v0,v0',v8,v8']);refine hK _ _ _ ?_;clear hK K);(refine sR fun K hK=>?_;(repeat rw [Qa];simp [hn,v0,v0',v8,v8']);refine hK _ _ _ ?_;clear hK K);refine pT rfl ?_;(refine Qi Wa ?_;(repeat rw [Qa];simp));((try simp only [zs]);refine Qk.pan (.inr ⟨[],by decide,by simp,?_⟩);simp [zM])
  have v8':lv<=8:=by omega
  cases has
  ·have hq:R= .error 2:=by rw [<- hR];simp [hn,v0,v0',v8,v8'] <;> assumption
   subst hq
   refine Spec.dead (Post:=fun o hc=>o= .pan (Wq 2)/\hc.length=1) ?_ fun o hc hp=>⟨[.dead],fun r=>by
    match r with
    | 0=>exact .inr rfl
    | r+1=>exact .inl (by unfold hOf;rw [List.getD_eq_getElem?_getD,List.getD_eq_getElem?_getD,List.getElem?_eq_none (by simp),List.getElem?_eq_none (by have:=hp.2;omega)]),hp.1,rfl⟩
   unfold Wq;refine eN Tryz.func109 rfl (by decide) rfl rfl ?_;(refine sR fun K hK=>?_;(repeat rw [Qa];simp);refine hK _ _ _ ?_;clear hK K);(refine sR fun K hK=>?_;(repeat rw [Qa];simp [hn,v0,v0',v8,v8']);refine hK _ _ _ ?_;clear hK K);(refine sR fun K hK=>?_;(repeat rw [Qa];simp [hn,v0,v0',v8,v8']);refine hK _ _ _ ?_;clear hK K);refine pT rfl ?_;(refine Qi Wa ?_;(repeat rw [Qa];simp));((try simp only [zs]);refine Qk.pan (.inr ⟨[],by decide,by simp,?_⟩);simp [zM])
  ·have hq:R= .ok ((),f):=by rw [<- hR];simp [hn,v0,v0',v8,v8'] <;> assumption
   subst hq;refine eN Tryz.func109 rfl (by decide) rfl rfl ?_;(refine sR fun K hK=>?_;(repeat rw [Qa];simp);refine hK _ _ _ ?_;clear hK K);(refine sR fun K hK=>?_;(repeat rw [Qa];simp [hn,v0,v0',v8,v8']);refine hK _ _ _ ?_;clear hK K);(refine sR fun K hK=>?_;(repeat rw [Qa];simp [hn,v0,v0',v8,v8']);refine hK _ _ _ ?_;clear hK K);refine pF rfl ?_;refine Qg ?_;((try simp only [zs]);refine Qk.nrm rfl (.inr ⟨[],by decide,by simp,?_⟩);simp [zM])
 subst hn;by_cases ha:a=0
 rotate_left
 ·by_cases v0:lv<0
  ·have v0':¬ 0<=lv:=by omega
   have hq:R= .error 2:=by rw [<- hR];simp [ha,v0,v0'] <;> assumption
   subst hq
   refine Spec.dead (Post:=fun o hc=>o= .pan (Wq 2)/\hc.length=1) ?_ fun o hc hp=>⟨[.dead],fun r=>by
    match r with
    | 0=>exact .inr rfl
    | r+1=>exact .inl (by unfold hOf;rw [List.getD_eq_getElem?_getD,List.getD_eq_getElem?_getD,List.getElem?_eq_none (by simp),List.getElem?_eq_none (by have:=hp.2;omega)]),hp.1,rfl⟩
   unfold Wq;refine eN Tryz.func109 rfl (by decide) rfl rfl ?_;(refine sR fun K hK=>?_;(repeat rw [Qa];simp);refine hK _ _ _ ?_;clear hK K);(refine sR fun K hK=>?_;(repeat rw [Qa];simp [ha,v0,v0']);refine hK _ _ _ ?_;clear hK K);(refine sR fun K hK=>?_;(repeat rw [Qa];simp [ha,v0,v0']);refine hK _ _ _ ?_;clear hK K);refine pT rfl ?_;(refine Qi Wa ?_;(repeat rw [Qa];simp));((try simp only [zs]);refine Qk.pan (.inr ⟨[],by decide,by simp,?_⟩);simp [zM])
  have v0':0<=lv:=by omega
  by_cases v8:8<lv
  ·have v8':¬ lv<=8:=by omega
   have hq:R= .error 2:=by rw [<- hR];simp [ha,v0,v0',v8,v8'] <;> assumption
   subst hq
   refine Spec.dead (Post:=fun o hc=>o= .pan (Wq 2)/\hc.length=1) ?_ fun o hc hp=>⟨[.dead],fun r=>by
    match r with
    | 0=>exact .inr rfl
    | r+1=>exact .inl (by unfold hOf;rw [List.getD_eq_getElem?_getD,List.getD_eq_getElem?_getD,List.getElem?_eq_none (by simp),List.getElem?_eq_none (by have:=hp.2;omega)]),hp.1,rfl⟩
   unfold Wq;refine eN Tryz.func109 rfl (by decide) rfl rfl ?_;(refine sR fun K hK=>?_;(repeat rw [Qa];simp);refine hK _ _ _ ?_;clear hK K);(refine sR fun K hK=>?_;(repeat rw [Qa];simp [ha,v0,v0',v8,v8']);refine hK _ _ _ ?_;clear hK K);(refine sR fun K hK=>?_;(repeat rw [Qa];simp [ha,v0,v0',v8,v8']);refine hK _ _ _ ?_;clear hK K);refine pT rfl ?_;(refine Qi Wa ?_;(repeat rw [Qa];simp));((try simp only [zs]);refine Qk.pan (.inr ⟨[],by decide,by simp,?_⟩);simp [zM])
  have v8':lv<=8:=by omega
  cases has
  ·have hq:R= .error 2:=by rw [<- hR];simp [ha,v0,v0',v8,v8'] <;> assumption
   subst hq
   refine Spec.dead (Post:=fun o hc=>o= .pan (Wq 2)/\hc.length=1) ?_ fun o hc hp=>⟨[.dead],fun r=>by
    match r with
    | 0=>exact .inr rfl
    | r+1=>exact .inl (by unfold hOf;rw [List.getD_eq_getElem?_getD,List.getD_eq_getElem?_getD,List.getElem?_eq_none (by simp),List.getElem?_eq_none (by have:=hp.2;omega)]),hp.1,rfl⟩
   unfold Wq;refine eN Tryz.func109 rfl (by decide) rfl rfl ?_;(refine sR fun K hK=>?_;(repeat rw [Qa];simp);refine hK _ _ _ ?_;clear hK K);(refine sR fun K hK=>?_;(repeat rw [Qa];simp [ha,v0,v0',v8,v8']);refine hK _ _ _ ?_;clear hK K);(refine sR fun K hK=>?_;(repeat rw [Qa];simp [ha,v0,v0',v8,v8']);refine hK _ _ _ ?_;clear hK K);refine pT rfl ?_;(refine Qi Wa ?_;(repeat rw [Qa];simp));((try simp only [zs]);refine Qk.pan (.inr ⟨[],by decide,by simp,?_⟩);simp [zM])
  ·have hq:R= .ok ((),f):=by rw [<- hR];simp [ha,v0,v0',v8,v8'] <;> assumption
   subst hq;refine eN Tryz.func109 rfl (by decide) rfl rfl ?_;(refine sR fun K hK=>?_;(repeat rw [Qa];simp);refine hK _ _ _ ?_;clear hK K);(refine sR fun K hK=>?_;(repeat rw [Qa];simp [ha,v0,v0',v8,v8']);refine hK _ _ _ ?_;clear hK K);(refine sR fun K hK=>?_;(repeat rw [Qa];simp [ha,v0,v0',v8,v8']);refine hK _ _ _ ?_;clear hK K);refine pF rfl ?_;refine Qg ?_;((try simp only [zs]);refine Qk.nrm rfl (.inr ⟨[],by decide,by simp,?_⟩);simp [zM])
 subst ha;by_cases hs:ls.length=0/\ks.length=0
 rotate_left
 ·have hz:¬ ((ls.length:Int)+ks.length=0):=by omega
  have hs1:ls= [] ->¬ ks= []:=fun e1 e2=>hs ⟨by rw [e1];rfl,by rw [e2];rfl⟩
  by_cases v0:lv<0
  ·have v0':¬ 0<=lv:=by omega
   have hq:R= .error 2:=by rw [<- hR];simp [hw,hz,hs,hs1,v0,v0'] <;> assumption
   subst hq
   refine Spec.dead (Post:=fun o hc=>o= .pan (Wq 2)/\hc.length=1) ?_ fun o hc hp=>⟨[.dead],fun r=>by
    match r with
    | 0=>exact .inr rfl
    | r+1=>exact .inl (by unfold hOf;rw [List.getD_eq_getElem?_getD,List.getD_eq_getElem?_getD,List.getElem?_eq_none (by simp),List.getElem?_eq_none (by have:=hp.2;omega)]),hp.1,rfl⟩
   unfold Wq;refine eN Tryz.func109 rfl (by decide) rfl rfl ?_;(refine sR fun K hK=>?_;(repeat rw [Qa];simp);refine hK _ _ _ ?_;clear hK K);(refine sR fun K hK=>?_;(repeat rw [Qa];simp [hw,hz,hs,hs1,v0,v0']);refine hK _ _ _ ?_;clear hK K);(refine sR fun K hK=>?_;(repeat rw [Qa];simp [hw,hz,hs,hs1,v0,v0']);refine hK _ _ _ ?_;clear hK K);refine pT rfl ?_;(refine Qi Wa ?_;(repeat rw [Qa];simp));((try simp only [zs]);refine Qk.pan (.inr ⟨[],by decide,by simp,?_⟩);simp [zM])
  have v0':0<=lv:=by omega
  by_cases v8:8<lv
  ·have v8':¬ lv<=8:=by omega
   have hq:R= .error 2:=by rw [<- hR];simp [hw,hz,hs,hs1,v0,v0',v8,v8'] <;> assumption
   subst hq
   refine Spec.dead (Post:=fun o hc=>o= .pan (Wq 2)/\hc.length=1) ?_ fun o hc hp=>⟨[.dead],fun r=>by
    match r with
    | 0=>exact .inr rfl
    | r+1=>exact .inl (by unfold hOf;rw [List.getD_eq_getElem?_getD,List.getD_eq_getElem?_getD,List.getElem?_eq_none (by simp),List.getElem?_eq_none (by have:=hp.2;omega)]),hp.1,rfl⟩
   unfold Wq;refine eN Tryz.func109 rfl (by decide) rfl rfl ?_;(refine sR fun K hK=>?_;(repeat rw [Qa];simp);refine hK _ _ _ ?_;clear hK K);(refine sR fun K hK=>?_;(repeat rw [Qa];simp [hw,hz,hs,hs1,v0,v0',v8,v8']);refine hK _ _ _ ?_;clear hK K);(refine sR fun K hK=>?_;(repeat rw [Qa];simp [hw,hz,hs,hs1,v0,v0',v8,v8']);refine hK _ _ _ ?_;clear hK K);refine pT rfl ?_;(refine Qi Wa ?_;(repeat rw [Qa];simp));((try simp only [zs]);refine Qk.pan (.inr ⟨[],by decide,by simp,?_⟩);simp [zM])
  have v8':lv<=8:=by omega
  cases has
  ·have hq:R= .error 2:=by rw [<- hR];simp [hw,hz,hs,hs1,v0,v0',v8,v8'] <;> assumption
   subst hq
   refine Spec.dead (Post:=fun o hc=>o= .pan (Wq 2)/\hc.length=1) ?_ fun o hc hp=>⟨[.dead],fun r=>by
    match r with
    | 0=>exact .inr rfl
    | r+1=>exact .inl (by unfold hOf;rw [List.getD_eq_getElem?_getD,List.getD_eq_getElem?_getD,List.getElem?_eq_none (by simp),List.getElem?_eq_none (by have:=hp.2;omega)]),hp.1,rfl⟩
   unfold Wq;refine eN Tryz.func109 rfl (by decide) rfl rfl ?_;(refine sR fun K hK=>?_;(repeat rw [Qa];simp);refine hK _ _ _ ?_;clear hK K);(refine sR fun K hK=>?_;(repeat rw [Qa];simp [hw,hz,hs,hs1,v0,v0',v8,v8']);refine hK _ _ _ ?_;clear hK K);(refine sR fun K hK=>?_;(repeat rw [Qa];simp [hw,hz,hs,hs1,v0,v0',v8,v8']);refine hK _ _ _ ?_;clear hK K);refine pT rfl ?_;(refine Qi Wa ?_;(repeat rw [Qa];simp));((try simp only [zs]);refine Qk.pan (.inr ⟨[],by decide,by simp,?_⟩);simp [zM])
  ·have hq:R= .ok ((),f):=by rw [<- hR];simp [hw,hz,hs,hs1,v0,v0',v8,v8'] <;> assumption
   subst hq;refine eN Tryz.func109 rfl (by decide) rfl rfl ?_;(refine sR fun K hK=>?_;(repeat rw [Qa];simp);refine hK _ _ _ ?_;clear hK K);(refine sR fun K hK=>?_;(repeat rw [Qa];simp [hw,hz,hs,hs1,v0,v0',v8,v8']);refine hK _ _ _ ?_;clear hK K);(refine sR fun K hK=>?_;(repeat rw [Qa];simp [hw,hz,hs,hs1,v0,v0',v8,v8']);refine hK _ _ _ ?_;clear hK K);refine pF rfl ?_;refine Qg ?_;((try simp only [zs]);refine Qk.nrm rfl (.inr ⟨[],by decide,by simp,?_⟩);simp [zM])
 obtain⟨s1,s2⟩:=hs;have e1:ls= []:=List.length_eq_zero_iff.1 s1;have e2:ks= []:=List.length_eq_zero_iff.1 s2;subst e1;subst e2;have hw0:IntKind.i64.wrap 0=0:=by decide
 by_cases v0:lv<0
 ·have v0':¬ 0<=lv:=by omega
  have hq:R= .error 2:=by rw [<- hR];simp [hw0,v0,v0'] <;> assumption
  subst hq
  refine Spec.dead (Post:=fun o hc=>o= .pan (Wq 2)/\hc.length=1) ?_ fun o hc hp=>⟨[.dead],fun r=>by
   match r with
   | 0=>exact .inr rfl
   | r+1=>exact .inl (by unfold hOf;rw [List.getD_eq_getElem?_getD,List.getD_eq_getElem?_getD,List.getElem?_eq_none (by simp),List.getElem?_eq_none (by have:=hp.2;omega)]),hp.1,rfl⟩
  unfold Wq;refine eN Tryz.func109 rfl (by decide) rfl rfl ?_;(refine sR fun K hK=>?_;(repeat rw [Qa];simp);refine hK _ _ _ ?_;clear hK K);(refine sR fun K hK=>?_;(repeat rw [Qa];simp [hw0,v0,v0']);refine hK _ _ _ ?_;clear hK K);(refine sR fun K hK=>?_;(repeat rw [Qa];simp [hw0,v0,v0']);refine hK _ _ _ ?_;clear hK K);refine pT rfl ?_;(refine Qi Wa ?_;(repeat rw [Qa];simp));((try simp only [zs]);refine Qk.pan (.inr ⟨[],by decide,by simp,?_⟩);simp [zM])
 have v0':0<=lv:=by omega
 by_cases v8:8<lv
 ·have v8':¬ lv<=8:=by omega
  have hq:R= .error 2:=by rw [<- hR];simp [hw0,v0,v0',v8,v8'] <;> assumption
  subst hq
  refine Spec.dead (Post:=fun o hc=>o= .pan (Wq 2)/\hc.length=1) ?_ fun o hc hp=>⟨[.dead],fun r=>by
   match r with
   | 0=>exact .inr rfl
   | r+1=>exact .inl (by unfold hOf;rw [List.getD_eq_getElem?_getD,List.getD_eq_getElem?_getD,List.getElem?_eq_none (by simp),List.getElem?_eq_none (by have:=hp.2;omega)]),hp.1,rfl⟩
  unfold Wq;refine eN Tryz.func109 rfl (by decide) rfl rfl ?_;(refine sR fun K hK=>?_;(repeat rw [Qa];simp);refine hK _ _ _ ?_;clear hK K);(refine sR fun K hK=>?_;(repeat rw [Qa];simp [hw0,v0,v0',v8,v8']);refine hK _ _ _ ?_;clear hK K);(refine sR fun K hK=>?_;(repeat rw [Qa];simp [hw0,v0,v0',v8,v8']);refine hK _ _ _ ?_;clear hK K);refine pT rfl ?_;(refine Qi Wa ?_;(repeat rw [Qa];simp));((try simp only [zs]);refine Qk.pan (.inr ⟨[],by decide,by simp,?_⟩);simp [zM])
 have v8':lv<=8:=by omega
 cases has
 ·have hq:R= .ok ((),f):=by rw [<- hR];simp [hw0,v0,v0',v8,v8'] <;> assumption
  subst hq;refine eN Tryz.func109 rfl (by decide) rfl rfl ?_;(refine sR fun K hK=>?_;(repeat rw [Qa];simp);refine hK _ _ _ ?_;clear hK K);(refine sR fun K hK=>?_;(repeat rw [Qa];simp [hw0,v0,v0',v8,v8']);refine hK _ _ _ ?_;clear hK K);(refine sR fun K hK=>?_;(repeat rw [Qa];simp [hw0,v0,v0',v8,v8']);refine hK _ _ _ ?_;clear hK K);refine pF rfl ?_;refine Qg ?_;((try simp only [zs]);refine Qk.nrm rfl (.inr ⟨[],by decide,by simp,?_⟩);simp [zM])
 ·have hq:R= .ok ((),f):=by rw [<- hR];simp [hw0,v0,v0',v8,v8'] <;> assumption
  subst hq;refine eN Tryz.func109 rfl (by decide) rfl rfl ?_;(refine sR fun K hK=>?_;(repeat rw [Qa];simp);refine hK _ _ _ ?_;clear hK K);(refine sR fun K hK=>?_;(repeat rw [Qa];simp [hw0,v0,v0',v8,v8']);refine hK _ _ _ ?_;clear hK K);(refine sR fun K hK=>?_;(repeat rw [Qa];simp [hw0,v0,v0',v8,v8']);refine hK _ _ _ ?_;clear hK K);refine pF rfl ?_;refine Qg ?_;((try simp only [zs]);refine Qk.nrm rfl (.inr ⟨[],by decide,by simp,?_⟩);simp [zM])
noncomputable def declR (l : List C) (c : C) (f : Int) : Rs Unit := (Qb7 c f).next fun _ f => (typR l c f).next fun _ f => bodyR l c f
noncomputable def rowR (l : List C) : Nat -> Nat -> Int -> Except (Nat × Int) Int
 | 0,_,f=> .ok f
 | m+1,k,f=>match declR (l.take k) (l.getD k Qgz) f with
  | .ok (_,g)=>rowR l m (k+1) g
  | .error e=> .error (k,e)
noncomputable def rowsR (l : List C) (k : Nat) (f : Int) : Except (Nat × Int) Int := if 0 <= f /\ f <= 1073741824 then rowR l (l.length - k) k f else .error (0, 2)
theorem Qz5(x:Int):Qge Tryz.prog glob 108 [.box 0 0] [.cells 33 [.int .i64 x]] none (fun hc=>hc= [.cells 33 [.int .i64 x]]):=by
 refine Qaq Wa Tryz.func108 rfl rfl (fun a w=>rfl) rfl (Qch _ _ Tryz.func108 rfl (by decide)) rfl rfl ?_;(try simp only [zr]);(repeat rw [Qa];simp);(refine sR fun K hK=>?_;(repeat rw [Qa];simp);refine hK _ _ _ ?_;clear hK K);refine pF rfl ?_;refine Qg ?_;refine Qk.nrm rfl ?_;simp [Qw]
theorem Qz6(x e:Int):Qge Tryz.prog glob 108 [.box 0 0] [.cells 33 [.int .i64 x]] (some (.iface 33 (.int .i64 e))) (fun hc=>hc= [.cells 33 [.int .i64 e]]):=by
 refine Qaq Wa Tryz.func108 rfl rfl (fun a w=>rfl) rfl (Qch _ _ Tryz.func108 rfl (by decide)) rfl rfl ?_;(try simp only [zr]);(repeat rw [Qa];simp);(refine sR fun K hK=>?_;(repeat rw [Qa];simp);refine hK _ _ _ ?_;clear hK K);refine pT rfl ?_;(refine sR fun K hK=>?_;(repeat rw [Qa];simp);refine hK _ _ _ ?_;clear hK K);(refine sR fun K hK=>?_;(repeat rw [Qa];simp);refine hK _ _ _ ?_;clear hK K);(refine sR fun K hK=>?_;(repeat rw [Qa];simp);refine hK _ _ _ ?_;clear hK K);refine pF rfl ?_;refine Qg ?_;refine Qk.nrm rfl ?_;simp [Qw]
def AP(len:Nat):Except (Nat×Int) Int ->Out ->List HO ->Prop
 | .ok g=>fun o hc=>o.fgt= .ret (.tuple [.int .i64 len, .int .i64 0])/\∃cs,hc= [.cells 105 (.int .i64 g::cs)]
 | .error (k,e)=>fun o hc=>o.fgt= .ret (.tuple [.int .i64 k, .int .i64 e])/\∃x,hc= [x]
noncomputable def restR (l : List C) (c : C) : Nat -> Int -> Rs Unit
 | 0,f=>declR l c f
 | 1,f=>(typR l c f).next fun _ f=>bodyR l c f
 | 2,f=>bodyR l c f
 | _,f=> .ok ((),f)
theorem Qsn{α:Type}{l:List C}{n:Int}{c ts:List T}{f:Int}{r:Rs α}{v:α×Int}(h:toldR l n c f ts r= .ok v):r= .ok v/\(∀(i:Nat) (h:i<c.length),Xu n i (l.map C.lv) c[i]=true)/\(∀(i:Nat) (h:i<ts.length),Xu n c.length (l.map C.lv) ts[i]=true):=by
 unfold toldR at h;split at h
 ·split at h
  ·rename_i h2;exact⟨h,h2⟩
  ·cases h
 ·cases h
theorem Qwv{l:List C}(hk:Kc l){c:C}{f g:Int}{u:Unit}(ht:okT c.ty/\c.ty.nsz<=20000)(h0:0<=f)(h1:f<=19998)(h:typR l c f= .ok (u,g)):0<=g/\g<=f:=by
 unfold typR at h;cases hs:sortT l c.lv [] c.ty f with
 | ok v =>
  rw [hs]at h;obtain⟨x,q⟩:=v;cases h;have hs2:=hs;unfold sortT at hs2;obtain⟨h2, -,h4⟩:=Qsn hs2;obtain⟨i,q,h5,h6⟩:=Rs.next_some h2;cases h6;obtain⟨bI, -⟩:=Qin (n:=c.lv) hk (hgt f);obtain⟨a,b, -⟩:=Qag hk.ok bI h0 (by omega) ⟨(Qeb.1 (h4 0 (by simp))).2.2,ht.1,ht.2⟩ ⟨fun x hx=>by simp at hx,by simp;omega⟩ h5;exact⟨a,by omega⟩
 | error e =>
  rw [hs]at h;dsimp only at h;split at h
  ·cases h;omega
  ·cases h
theorem Qt6{l:List C}(hk:Kc l){c:C}{f g:Int}{u:Unit}(ht:okT c.ty/\c.ty.nsz<=20000)(hb:okT c.bo/\c.bo.nsz<=20000)(h0:0<=f)(h1:f<=19998)(h:bodyR l c f= .ok (u,g)):0<=g/\g<=f:=by
 unfold bodyR at h;split at h
 ·cases hs:checkT l c.lv [] c.bo c.ty f with
  | ok v =>
   rw [hs]at h;obtain⟨x,q⟩:=v;cases h;have hs2:=hs;unfold checkT at hs2;obtain⟨h2, -,h4⟩:=Qsn hs2;obtain⟨i,q,h5,h6⟩:=Rs.next_some h2;cases h6;obtain⟨-,bJ⟩:=Qin (n:=c.lv) hk (hgt f);have k1:Sub c.lv (l.map C.lv) [] c.ty:=⟨(Qeb.1 (h4 1 (by simp))).2.2,ht.1,ht.2⟩;obtain⟨a,b⟩:=bJ _ _ _ _ _ _ h0 (by omega) ⟨(Qeb.1 (h4 0 (by simp))).2.2,hb.1,hb.2⟩ ⟨fun x hx=>by simp at hx,by simp;omega⟩ (k1.okY (by omega)) h5;exact⟨a,by omega⟩
  | error e =>
   rw [hs]at h;dsimp only at h;split at h
   ·cases h;omega
   ·cases h
 ·cases h;omega
theorem Qak{d:D}(h:d.pure=true):(∀p,D.okN p d=true)/\∀σ,D.ren σ d=d:=⟨fun p=>D.okN_pure p d h,fun σ=>D.ren_pure σ d h⟩
theorem Qxe{c:C}{f g:Int}{u:Unit}(h0:0<=f)(h:Qb7 c f= .ok (u,g)):0<=g/\g<=f:=by
 unfold Qb7 at h;split at h
 ·cases h;omega
 ·cases h
theorem rest0(l:List C)(c:C)(f:Int):restR l c 0 f=(Qb7 c f).next fun _ f=>restR l c 1 f:=rfl
theorem rest1(l:List C)(c:C)(f:Int):restR l c 1 f=(typR l c f).next fun _ f=>restR l c 2 f:=rfl
theorem Qh5{l:List C}{k:Nat}{f:Int}(hk:k<l.length):rowR l (l.length - k) k f=match declR (l.take k) (l.getD k Qgz) f with
  | .ok (_,g)=>rowR l (l.length - (k+1)) (k+1) g
  | .error e=> .error (k,e):=by
 rw [show l.length - k=(l.length - (k+1))+1 by omega];rfl
theorem Qs0{l:List C}{f:Int}:rowR l (l.length - l.length) l.length f= .ok f:=by rw [Nat.sub_self];rfl
theorem Qm6{l env:List C}{c:C}{k:Nat}{g e:Int}(hk:k<l.length)(hc:l.getD k Qgz=c)(he:l.take k=env)(h:declR env c g= .error e):rowR l (l.length - k) k g= .error (k,e):=by
 rw [Qh5 hk,hc,he,h]
theorem Qxg{l env:List C}{c:C}{k:Nat}{g g1:Int}{u:Unit}(hk:k<l.length)(hc:l.getD k Qgz=c)(he:l.take k=env)(h:declR env c g= .ok (u,g1)):rowR l (l.length - k) k g=rowR l (l.length - (k+1)) (k+1) g1:=by
 rw [Qh5 hk,hc,he,h]
structure RowOk (l : List C) : Prop where
 len:l.length<=1000000
 ok:∀c,c∈l ->okC c/\c.ty.nsz<=14000/\c.bo.nsz<=14000
theorem RowOk.kc{l:List C}(h:RowOk l)(k:Nat):Kc (l.take k) :=
 ⟨⟨by rw [List.length_take];have:=h.len;unfold Ql;omega,fun c hc=>(h.ok c (List.mem_of_mem_take hc)).1,fun c hc=>by have:=(h.ok c (List.mem_of_mem_take hc)).2.2;omega,fun c hc=>by have:=(h.ok c (List.mem_of_mem_take hc)).2.1;omega⟩,fun c hc=>(h.ok c (List.mem_of_mem_take hc)).2.1⟩
theorem Qmd{l:List C}(hl:RowOk l){a:Nat}(ha:a<=l.length){f:Int}(hf:f<=19998\/1073741824<f)(e0 e1 e2 e3 e4 e5 e6 e7 e8 e9 e10 e11 e12:D)(he:D.pures [e0,e1,e2,e3,e4,e5,e6,e7,e8,e9,e10,e11,e12]=true) :
  Sp 59 [.box 0 0, .int .i64 a,Cs l] [.cells 105 [.int .i64 f,e0,e1,e2,e3,e4,e5,e6,e7,e8,e9,e10,e11,e12]] (AP l.length (rowsR l a f)):=by
 generalize hX:rowsR l a f=X;unfold rowsR at hX;unfold Cs;have hlen:=hl.len;by_cases hf0:0<=f
 rotate_left
 ·rw [if_neg (by omega)]at hX;subst hX;unfold AP;have hfl:f<0:=by omega
  refine eD Tryz.func59 rfl (by decide) rfl rfl ?_;(refine sR fun K hK=>?_;(repeat rw [Qa];simp);refine hK _ _ _ ?_;clear hK K);(refine sR fun K hK=>?_;(repeat rw [Qa];simp);refine hK _ _ _ ?_;clear hK K);refine Qc fun K1 hK1=>?_
  (refine sR fun K hK=>?_;(repeat rw [Qa];simp [hf0,hfl]);refine hK _ _ _ ?_;clear hK K);refine pT rfl ?_;(refine sR fun K hK=>?_;(repeat rw [Qa];simp);refine hK _ _ _ ?_;clear hK K);refine Qe ?_;refine Qfb.objs Qf [1] (Qz5 2) ?_ ?_ (fun d h=>by cases h) (by decide) (by simp) (by simp [zA]) (by simp [zA]) (by simp [zA]) (by simp [zA])
  ·rintro hc rfl;simp [zA,upO,Qw,Wi];refine Qen.intro rfl (.inr ⟨[],by decide,by simp,?_⟩);simp [zM]
   try simp [Out.fgt,D.fgt,D.fgts]
  ·rintro hc rfl;simp
 by_cases hf1:f<=1073741824
 rotate_left
 ·rw [if_neg (by omega)]at hX;subst hX;unfold AP;have hfl:¬ f<0:=by omega
  have hfm:1073741824<f:=by omega
  refine eD Tryz.func59 rfl (by decide) rfl rfl ?_;(refine sR fun K hK=>?_;(repeat rw [Qa];simp);refine hK _ _ _ ?_;clear hK K);(refine sR fun K hK=>?_;(repeat rw [Qa];simp);refine hK _ _ _ ?_;clear hK K);refine Qc fun K1 hK1=>?_
  (refine sR fun K hK=>?_;(repeat rw [Qa];simp [hfl,hfm,hf1]);refine hK _ _ _ ?_;clear hK K);refine pT rfl ?_;(refine sR fun K hK=>?_;(repeat rw [Qa];simp);refine hK _ _ _ ?_;clear hK K);refine Qe ?_;refine Qfb.objs Qf [1] (Qz5 2) ?_ ?_ (fun d h=>by cases h) (by decide) (by simp) (by simp [zA]) (by simp [zA]) (by simp [zA]) (by simp [zA])
  ·rintro hc rfl;simp [zA,upO,Qw,Wi];refine Qen.intro rfl (.inr ⟨[],by decide,by simp,?_⟩);simp [zM]
   try simp [Out.fgt,D.fgt,D.fgts]
  ·rintro hc rfl;simp
 rw [if_pos ⟨hf0,hf1⟩]at hX;have hf2:f<=19998:=by omega
 have hfl:¬ f<0:=by omega
 have hfm:¬ 1073741824<f:=by omega
 refine eD Tryz.func59 rfl (by decide) rfl rfl ?_;(refine sR fun K hK=>?_;(repeat rw [Qa];simp);refine hK _ _ _ ?_;clear hK K);(refine sR fun K hK=>?_;(repeat rw [Qa];simp);refine hK _ _ _ ?_;clear hK K);refine Qc fun K1 hK1=>?_
 (refine sR fun K hK=>?_;(repeat rw [Qa];simp [hfl,hfm]);refine hK _ _ _ ?_;clear hK K);refine pF rfl ?_;refine Qg (hK1 _ _ _ ?_);clear hK1 K1;refine Qc fun K1 hK1=>?_
 (refine sR fun K hK=>?_;(repeat rw [Qa];simp);refine hK _ _ _ ?_;clear hK K);refine Qy ?_;refine Qa8 [9,26,27,28,29,30,31,32,33,34,35,36,37,38,39,40,41,42,43,44,45,46,47,48,49,50,51,52,53,54,55,56,57,58,59] [6] (fun n ys hl=>∃(k:Nat) (g:Int) (e0 e1 e2 e3 e4 e5 e6 e7 e8 e9 e10 e11 e12:D),ys= [.int .i64 k]/\n+k=l.length/\0<=g/\g<=f/\rowR l (l.length - k) k g=X/\D.pures [e0,e1,e2,e3,e4,e5,e6,e7,e8,e9,e10,e11,e12]=true/\hl= [.cells 105 [.int .i64 g,e0,e1,e2,e3,e4,e5,e6,e7,e8,e9,e10,e11,e12], .cells 33 [.int .i64 0]]) (l.length - a) (by kernel_rfl) ?_ ?_
 ·exact⟨a,f,e0,e1,e2,e3,e4,e5,e6,e7,e8,e9,e10,e11,e12,rfl,by omega,hf0,by omega,hX,he,rfl⟩
 ·rintro n ys hl' A hA ⟨k,g,e0,e1,e2,e3,e4,e5,e6,e7,e8,e9,e10,e11,e12,rfl,hn,g0,g1,hF,hpp,rfl⟩;simp only [Qh,List.set,List.map_cons,List.map_nil,List.cons_append,List.nil_append];refine Qc fun K2 hK2=>?_
  by_cases hi:k<l.length
  rotate_left
  ·have hkl:k=l.length:=by omega
   rw [hkl,Qs0]at hF;subst hF;have hi':¬ (k:Int)<l.length:=by omega
   simp only [D.pures,Bool.and_eq_true]at hpp;obtain⟨w0,w1,w2,w3,w4,w5,w6,w7,w8,w9,w10,w11,w12, -⟩:=hpp;obtain⟨y0,z0⟩:=Qak w0;obtain⟨y1,z1⟩:=Qak w1;obtain⟨y2,z2⟩:=Qak w2;obtain⟨y3,z3⟩:=Qak w3;obtain⟨y4,z4⟩:=Qak w4;obtain⟨y5,z5⟩:=Qak w5;obtain⟨y6,z6⟩:=Qak w6;obtain⟨y7,z7⟩:=Qak w7;obtain⟨y8,z8⟩:=Qak w8;obtain⟨y9,z9⟩:=Qak w9;obtain⟨y10,z10⟩:=Qak w10;obtain⟨y11,z11⟩:=Qak w11;obtain⟨y12,z12⟩:=Qak w12;(refine sR fun K hK=>?_;(repeat rw [Qa];simp [hi,hi']);refine hK _ _ _ ?_;clear hK K);refine pF rfl ?_;refine Qab ?_;refine hK1 _ _ _ ?_;(refine sR fun K hK=>?_;(repeat rw [Qa];simp);refine hK _ _ _ ?_;clear hK K);refine Qe ?_;refine Qfb.objs Qf [1] (Qz5 0) ?_ ?_ (fun d h=>by cases h) (by decide) (by simp) (by simp [zA]) (by simp [zA]) (by simp [zA]) (by simp [zA])
   ·rintro hc rfl;simp [zA,upO,Qw,Wi];refine Qen.intro rfl (.inr ⟨[],by decide,by simp,?_⟩);simp [zM,y0,z0,y1,z1,y2,z2,y3,z3,y4,z4,y5,z5,y6,z6,y7,z7,y8,z8,y9,z9,y10,z10,y11,z11,y12,z12];exact⟨by simp [Out.fgt,D.fgt,D.fgts,hkl],_,rfl⟩
   ·rintro hc rfl;simp
  ·have hi':(k:Int)<l.length:=by omega
   (refine sR fun K hK=>?_;(repeat rw [Qa];simp [hi,hi']);refine hK _ _ _ ?_;clear hK K);refine pT rfl ?_;refine Qg (hK2 _ _ _ ?_);clear hK2 K2;obtain⟨c,hy⟩:∃c,l[k]=c:=⟨_,rfl⟩;obtain⟨env,henv⟩:∃env,l.take k=env:=⟨_,rfl⟩;have hcc:l.getD k Qgz=c:=by rw [List.getD_eq_getElem?_getD,List.getElem?_eq_getElem hi,hy];rfl
   have hco:=hl.ok c (by rw [<- hy];exact List.getElem_mem hi);have hkc:=hl.kc k;rw [henv]at hkc;have hEc:=Qay c;have hta:(l.map Qbn).take k=env.map Qbn:=by rw [<- henv,List.map_take]
   have hle:k<=l.length:=by omega
   have hle':(k:Int)<=l.length:=by omega
   have hk0:(0:Int)<=k:=by omega
   refine Qc fun K3 hK3=>?_
   refine Qy ?_;(refine Qc fun K hK=>?_;refine dR fun KT hKT=>?_;(repeat rw [Qd];simp [hi,hi',hy,hEc,hle,hle',hk0,hta]));(refine hKT _ _ _ _ (by kernel_rfl) ?_;clear hKT KT);(refine hK _ _ _ ?_;clear hK K);(refine sR fun K hK=>?_;(repeat rw [Qa];simp);refine hK _ _ _ ?_;clear hK K);have ht:okT c.ty/\c.ty.nsz<=20000:=⟨hco.1.2.1,by have:=hco.2.1;omega⟩;have hb:okT c.bo/\c.bo.nsz<=20000:=⟨hco.1.2.2,by have:=hco.2.2;omega⟩;refine Qde Wa Qf (ti:=3) (tk:=53) (tn:=52) (td:=54) (ts:=59) [9,53,54,55,56,57,58,59] [] (3) (fun k ys hl=>∃(g2:Int),ys= []/\restR env c k g2=declR env c g/\0<=g2/\g2<=f/\hl= [.cells 105 [.int .i64 g2, .slice (env.map Qbn) .any, .int .i64 c.lv, .int .i64 c.ty.k, .int .i64 c.ty.n, .int .i64 c.ty.a, .slice (c.ty.ls.map Qn) .any, .slice (c.ty.ks.map Qj) .any, .bool c.has, .int .i64 c.bo.k, .int .i64 c.bo.n, .int .i64 c.bo.a, .slice (c.bo.ls.map Qn) .any, .slice (c.bo.ks.map Qj) .any], .cells 33 [.int .i64 0]]) rfl rfl rfl rfl rfl rfl rfl rfl rfl rfl rfl rfl (by simp) (by decide) rfl (by first | assumption | omega | (unfold Ql;omega)) rfl (by kernel_rfl) (by decide) ?_ ?_ ?_
   ·exact⟨g,rfl,rfl,g0,g1,rfl⟩
   ·rintro i ys hl' A hi3 ⟨g2,rfl,hgs,b0,b1,rfl⟩ hA hA2;simp only [Qh,List.set,List.map_cons,List.map_nil,List.cons_append,List.nil_append];have h3:i=0\/i=1\/i=2:=by omega
    rcases h3 with rfl | rfl | rfl
    ·obtain⟨r,hr⟩:∃r,Qb7 c g2=r:=⟨_,rfl⟩;have sp:=Qrr (l:=env) (f:=g2) hco.1;rw [hr]at sp;(refine sR fun K hK=>?_;(repeat rw [Qa];simp);refine hK _ _ _ ?_;clear hK K);rcases r with e | ⟨u,g3⟩
     ·have hd:declR env c g= .error e:=by rw [<- hgs];rw [rest0,hr];rfl
      have hq:=hF.symm.trans (Qm6 hi hcc henv hd);subst hq;unfold SP adO coF Wq at sp;(refine Qi Wa ?_;(repeat rw [Qa];simp));refine cXg [0] (sp) ?_;simp [zU];(try simp only [zs]);refine Qfb.objs Qf [1] (Qz6 0 e) ?_ ?_ (fun d h=>by cases h;rfl) (by decide) (by simp) (by simp [zA]) (by simp [zA]) (by simp [zA]) (by simp [zA])
      ·rintro hc rfl;simp [zA,upO,Qw,Wi];refine Qen.intro rfl (.inr ⟨[],by decide,by simp,?_⟩);simp [zM]
       try exact⟨by simp [Out.fgt,D.fgt,D.fgts],_,rfl⟩
      ·rintro hc rfl;simp
     ·have hgs1:restR env c 1 g3=declR env c g:=by rw [<- hgs];rw [rest0,hr];rfl
      obtain⟨c0,c1⟩:0<=g3/\g3<=g2:=Qxe b0 hr;unfold SP adO coF at sp;(refine Qi Wa ?_;(repeat rw [Qa];simp));refine cXf [0] (sp) ?_;simp [zU]
      (repeat rw [Qa];simp)
      (refine hA _ _ _ (LeT.refl _) (by kernel_rfl) ?_ rfl;simp only [Qbl,List.map_cons,List.map_nil])
      first | exact⟨g3,rfl,hgs1,c0,by omega,rfl⟩ | exact⟨g3,trivial,hgs1,c0,by omega,rfl⟩ | exact⟨g3,trivial,hgs1,c0,by omega,trivial⟩ | exact⟨g3,hgs1,c0,by omega,rfl⟩ | exact⟨g3,hgs1,c0,by omega⟩
    ·obtain⟨r,hr⟩:∃r,typR env c g2=r:=⟨_,rfl⟩;have sp:=Qyy hkc (f:=g2) ht (by omega);rw [hr]at sp;(refine sR fun K hK=>?_;(repeat rw [Qa];simp);refine hK _ _ _ ?_;clear hK K);rcases r with e | ⟨u,g3⟩
     ·have hd:declR env c g= .error e:=by rw [<- hgs];rw [rest1,hr];rfl
      have hq:=hF.symm.trans (Qm6 hi hcc henv hd);subst hq;unfold SP adO coF Wq at sp;(refine Qi Wa ?_;(repeat rw [Qa];simp));refine cXg [0] (sp) ?_;simp [zU];(try simp only [zs]);refine Qfb.objs Qf [1] (Qz6 0 e) ?_ ?_ (fun d h=>by cases h;rfl) (by decide) (by simp) (by simp [zA]) (by simp [zA]) (by simp [zA]) (by simp [zA])
      ·rintro hc rfl;simp [zA,upO,Qw,Wi];refine Qen.intro rfl (.inr ⟨[],by decide,by simp,?_⟩);simp [zM]
       try exact⟨by simp [Out.fgt,D.fgt,D.fgts],_,rfl⟩
      ·rintro hc rfl;simp
     ·have hgs1:restR env c 2 g3=declR env c g:=by rw [<- hgs];rw [rest1,hr];rfl
      obtain⟨c0,c1⟩:0<=g3/\g3<=g2:=Qwv hkc ht b0 (by omega) hr;unfold SP adO coF at sp;(refine Qi Wa ?_;(repeat rw [Qa];simp));refine cXf [0] (sp) ?_;simp [zU]
      (repeat rw [Qa];simp)
      (refine hA _ _ _ (LeT.refl _) (by kernel_rfl) ?_ rfl;simp only [Qbl,List.map_cons,List.map_nil])
      first | exact⟨g3,rfl,hgs1,c0,by omega,rfl⟩ | exact⟨g3,trivial,hgs1,c0,by omega,rfl⟩ | exact⟨g3,trivial,hgs1,c0,by omega,trivial⟩ | exact⟨g3,hgs1,c0,by omega,rfl⟩ | exact⟨g3,hgs1,c0,by omega⟩
    ·obtain⟨r,hr⟩:∃r,bodyR env c g2=r:=⟨_,rfl⟩;have sp:=Qvp hkc (f:=g2) ht hb (by omega);rw [hr]at sp;(refine sR fun K hK=>?_;(repeat rw [Qa];simp);refine hK _ _ _ ?_;clear hK K);rcases r with e | ⟨u,g3⟩
     ·have hd:declR env c g= .error e:=by rw [<- hgs];exact hr
      have hq:=hF.symm.trans (Qm6 hi hcc henv hd);subst hq;unfold SP adO coF Wq at sp;(refine Qi Wa ?_;(repeat rw [Qa];simp));refine cXg [0] (sp) ?_;simp [zU];(try simp only [zs]);refine Qfb.objs Qf [1] (Qz6 0 e) ?_ ?_ (fun d h=>by cases h;rfl) (by decide) (by simp) (by simp [zA]) (by simp [zA]) (by simp [zA]) (by simp [zA])
      ·rintro hc rfl;simp [zA,upO,Qw,Wi];refine Qen.intro rfl (.inr ⟨[],by decide,by simp,?_⟩);simp [zM]
       try exact⟨by simp [Out.fgt,D.fgt,D.fgts],_,rfl⟩
      ·rintro hc rfl;simp
     ·have hgs1:restR env c 3 g3=declR env c g:=by rw [<- hgs];exact hr.symm
      obtain⟨c0,c1⟩:0<=g3/\g3<=g2:=Qt6 hkc ht hb b0 (by omega) hr;unfold SP adO coF at sp;(refine Qi Wa ?_;(repeat rw [Qa];simp));refine cXf [0] (sp) ?_;simp [zU]
      (repeat rw [Qa];simp)
      (refine hA _ _ _ (LeT.refl _) (by kernel_rfl) ?_ rfl;simp only [Qbl,List.map_cons,List.map_nil])
      first | exact⟨g3,rfl,hgs1,c0,by omega,rfl⟩ | exact⟨g3,trivial,hgs1,c0,by omega,rfl⟩ | exact⟨g3,trivial,hgs1,c0,by omega,trivial⟩ | exact⟨g3,hgs1,c0,by omega,rfl⟩ | exact⟨g3,hgs1,c0,by omega⟩
   ·rintro ys hl' tl' ⟨g2,rfl,hgs,b0,b1,rfl⟩ htl;refine hK3 _ _ _ (Xn htl ?_);simp only [Qh,List.set,List.map_cons,List.map_nil,List.cons_append,List.nil_append];clear hK3 K3;have hd:declR env c g= .ok ((),g2):=by rw [<- hgs];rfl
    have hF2:=(Qxg hi hcc henv hd).symm.trans hF;have hw1:IntKind.i64.wrap ((k:Int)+1)=(k:Int)+1:=Qbp (by omega) (by omega);(refine Qi Wa ?_;(repeat rw [Qa];simp [hw1]));refine hA (n - 1) _ _ _ (LeT.refl _) (by omega) (by kernel_rfl) ?_;exact⟨k+1,g2,_,_,_,_,_,_,_,_,_,_,_,_,_,rfl,by omega,b0,b1,hF2,by simp [D.pures,D.pure,Cp.free,D.pures_map],rfl⟩
theorem Qpu{l:List C}{c:C}{f e:Int}(h:declR l c f= .error e):¬ e=0:=by
 unfold declR at h;cases h1:Qb7 c f with
 | error e1 =>
  rw [h1]at h;cases h;unfold Qb7 at h1;split at h1
  ·cases h1
  ·cases h1;decide
 | ok v =>
  obtain⟨u,g⟩:=v;rw [h1,Rs.next_ok]at h;cases h2:typR l c g with
  | error e1 =>
   rw [h2]at h;cases h;unfold typR at h2;split at h2
   ·cases h2
   ·split at h2
    ·cases h2
    ·rename_i hne;cases h2;exact hne
  | ok v =>
   obtain⟨u,q⟩:=v;rw [h2,Rs.next_ok]at h;unfold bodyR at h;split at h
   ·split at h
    ·cases h
    ·split at h
     ·cases h
     ·rename_i hne;cases h;exact hne
   ·cases h
theorem Qm5{l:List C}:∀(m k:Nat) (f:Int) {j:Nat} {e:Int},rowR l m k f= .error (j,e) ->¬ e=0/\j<k+m
 | 0,k,f,j,e,h=>by cases h
 | m+1,k,f,j,e,h=>by
  rw [rowR]at h;split at h
  ·obtain⟨a,b⟩:=Qm5 m (k+1) _ h;exact⟨a,by omega⟩
  ·rename_i h1;cases h;exact⟨Qpu h1,by omega⟩
noncomputable def allD (l : List C) (f : Int) : D := match rowsR l 0 f with
 | .ok g=> .tuple [.int .i64 g, .int .i64 0, .int .i64 0]
 | .error (k,e)=>if 0<=f/\f<=1073741824 then .tuple [.int .i64 0, .int .i64 ((k:Int)+1), .int .i64 e] else .tuple [.int .i64 0, .int .i64 0, .int .i64 e]
theorem Qp8{l:List C}(hl:RowOk l){f:Int}(hf:f<=19998\/1073741824<f):Sp 22 [Cs l, .int .i64 f] [] (rt (allD l f)):=by
 have aq:=Qmd hl (a:=0) (by omega) hf (.slice [] .full) (.int .i64 0) (.int .i64 0) (.int .i64 0) (.int .i64 0) (.slice [] .full) (.slice [] .full) (.bool false) (.int .i64 0) (.int .i64 0) (.int .i64 0) (.slice [] .full) (.slice [] .full) (by simp [D.pures,D.pure,Cp.free]);have hlen:=hl.len;unfold allD;unfold Cs at aq⊢;by_cases hok:0<=f/\f<=1073741824
 rotate_left
 ·have hr:rowsR l 0 f= .error (0,2):=by unfold rowsR;rw [if_neg hok]
  rw [hr]at aq⊢;dsimp only;rw [if_neg hok];unfold AP at aq;have hq:f<0\/(¬ f<0/\1073741824<f):=by omega
  rcases hq with q1 | ⟨q1,q2⟩
  ·refine eN Tryz.func22 rfl (by decide) rfl rfl ?_;(refine sR fun K hK=>?_;(repeat rw [Qa];simp);refine hK _ _ _ ?_;clear hK K);(refine sR fun K hK=>?_;(repeat rw [Qa];simp);refine hK _ _ _ ?_;clear hK K);(refine sR fun K hK=>?_;(repeat rw [Qa];simp));refine Wm.objs Qf [0] true (aq) ?_ (by rintro o hc ⟨_,x,rfl⟩;simp) (by decide) (by simp) (by simp [zA]) (by simp [zA]) (by simp [zA]) (by simp [zA]);(rintro o hc ⟨ho,x,rfl⟩;refine⟨true,?_⟩;rw [show told true o=_ from ho];clear ho;simp [zU]);(try simp only [zr]);(repeat rw [Qa];simp);(refine hK _ _ _ ?_;clear hK K);refine Qc fun K1 hK1=>?_
   refine Qy ?_;(refine sR fun K hK=>?_;(repeat rw [Qa];simp [q1]);refine hK _ _ _ ?_;clear hK K);refine pT rfl ?_;(refine sR fun K hK=>?_;(repeat rw [Qa];simp);refine hK _ _ _ ?_;clear hK K);(refine Qe ?_;(try simp only [zs]);refine Qk.ret rfl (.inl ?_);simp [zM])
  ·refine eN Tryz.func22 rfl (by decide) rfl rfl ?_;(refine sR fun K hK=>?_;(repeat rw [Qa];simp);refine hK _ _ _ ?_;clear hK K);(refine sR fun K hK=>?_;(repeat rw [Qa];simp);refine hK _ _ _ ?_;clear hK K);(refine sR fun K hK=>?_;(repeat rw [Qa];simp));refine Wm.objs Qf [0] true (aq) ?_ (by rintro o hc ⟨_,x,rfl⟩;simp) (by decide) (by simp) (by simp [zA]) (by simp [zA]) (by simp [zA]) (by simp [zA]);(rintro o hc ⟨ho,x,rfl⟩;refine⟨true,?_⟩;rw [show told true o=_ from ho];clear ho;simp [zU]);(try simp only [zr]);(repeat rw [Qa];simp);(refine hK _ _ _ ?_;clear hK K);refine Qc fun K1 hK1=>?_
   refine Qy ?_;(refine sR fun K hK=>?_;(repeat rw [Qa];simp [q1,q2]);refine hK _ _ _ ?_;clear hK K);refine pT rfl ?_;(refine sR fun K hK=>?_;(repeat rw [Qa];simp);refine hK _ _ _ ?_;clear hK K);(refine Qe ?_;(try simp only [zs]);refine Qk.ret rfl (.inl ?_);simp [zM])
 have h0:¬ f<0:=by omega
 have h1:¬ 1073741824<f:=by omega
 cases hr:rowsR l 0 f with
 | error v =>
  obtain⟨k,e⟩:=v;have hx:¬ e=0/\k<0+(l.length - 0):=by
   unfold rowsR at hr;rw [if_pos hok]at hr;exact Qm5 _ _ _ hr
  obtain⟨he,hk⟩:=hx;rw [hr]at aq;dsimp only;rw [if_pos hok];unfold AP at aq;have hw1:IntKind.i64.wrap ((k:Int)+1)=(k:Int)+1:=Qbp (by omega) (by omega);refine eN Tryz.func22 rfl (by decide) rfl rfl ?_;(refine sR fun K hK=>?_;(repeat rw [Qa];simp);refine hK _ _ _ ?_;clear hK K);(refine sR fun K hK=>?_;(repeat rw [Qa];simp);refine hK _ _ _ ?_;clear hK K);(refine sR fun K hK=>?_;(repeat rw [Qa];simp));refine Wm.objs Qf [0] true (aq) ?_ (by rintro o hc ⟨_,x,rfl⟩;simp) (by decide) (by simp) (by simp [zA]) (by simp [zA]) (by simp [zA]) (by simp [zA]);(rintro o hc ⟨ho,x,rfl⟩;refine⟨true,?_⟩;rw [show told true o=_ from ho];clear ho;simp [zU]);(try simp only [zr]);(repeat rw [Qa];simp);(refine hK _ _ _ ?_;clear hK K);refine Qc fun K1 hK1=>?_
  refine Qy ?_;(refine sR fun K hK=>?_;(repeat rw [Qa];simp [h0,h1]);refine hK _ _ _ ?_;clear hK K);refine pF rfl ?_;(refine sR fun K hK=>?_;(repeat rw [Qa];simp [he]);refine hK _ _ _ ?_;clear hK K);refine pT rfl ?_;(refine sR fun K hK=>?_;(repeat rw [Qa];simp [hw1]);refine hK _ _ _ ?_;clear hK K);(refine Qe ?_;(try simp only [zs]);refine Qk.ret rfl (.inl ?_);simp [zM])
 | ok g =>
  rw [hr]at aq;dsimp only;unfold AP at aq;refine eN Tryz.func22 rfl (by decide) rfl rfl ?_;(refine sR fun K hK=>?_;(repeat rw [Qa];simp);refine hK _ _ _ ?_;clear hK K);(refine sR fun K hK=>?_;(repeat rw [Qa];simp);refine hK _ _ _ ?_;clear hK K);(refine sR fun K hK=>?_;(repeat rw [Qa];simp));refine Wm.objs Qf [0] true (aq) ?_ (by rintro o hc ⟨_,x,rfl⟩;simp) (by decide) (by simp) (by simp [zA]) (by simp [zA]) (by simp [zA]) (by simp [zA]);(rintro o hc ⟨ho,x,rfl⟩;refine⟨true,?_⟩;rw [show told true o=_ from ho];clear ho;simp [zU]);(try simp only [zr]);(repeat rw [Qa];simp);(refine hK _ _ _ ?_;clear hK K);refine Qc fun K1 hK1=>?_
  refine Qy ?_;(refine sR fun K hK=>?_;(repeat rw [Qa];simp [h0,h1]);refine hK _ _ _ ?_;clear hK K);refine pF rfl ?_;(refine sR fun K hK=>?_;(repeat rw [Qa];simp);refine hK _ _ _ ?_;clear hK K);refine pF rfl ?_;refine Qg (hK1 _ _ _ ?_);(refine sR fun K hK=>?_;(repeat rw [Qa];simp);refine hK _ _ _ ?_;clear hK K);(refine Qe ?_;(try simp only [zs]);refine Qk.ret rfl (.inl ?_);simp [zM])
def OwnF(sz:Nat)(els:List D)(o:Out)(hc:List HO):Prop:=(els= []/\((o= .ret (.slice [] .full)/\hc= [])\/(o= .ret (.slice [] (.tok 0))/\hc= [.tok])))\/(els≠ []/\o= .ret (.own 0 els.length)/\hc= [.row sz els])
theorem Spec.tokO{P:Program}{G:Nat ->Option D}{f:FuncId}{args:List D}{hc:List HO}{Post Post':Out ->List HO ->Prop}(h:Spec P G f args hc Post)
  (hp:∀o h',Post o h' ->Post' o h'\/∃d,o= .ret d/\Post' (.ret (d.tokd h'.length)) (h'++ [.tok])):Spec P G f args hc Post':=by
 intro ρ w vs hR hvs;obtain⟨h1,h2⟩:=h ρ w vs hR hvs;refine⟨h1,h2.mono ?_⟩;rintro e w' ⟨ρ',o,h',hpo,ho,g1,g2⟩;rcases hp o h' hpo with hq | ⟨d,rfl,hq⟩
 ·exact⟨ρ',o,h',hq,ho,g1,g2⟩
 ·obtain⟨u,rfl,hu⟩:=ho;have hf:hOf h' h'.length= .free:=by unfold hOf;rw [List.getD_eq_getElem?_getD,List.getElem?_eq_none (Nat.le_refl _)];rfl
  have e:hOf (h'++ [.tok])=Qbg (hOf h') h'.length .tok:=by
   rw [<- Qnt];simp [Wi]
  obtain⟨r1,r2⟩:=Ex.name g1 hf;rw [<- e]at r1 r2;exact⟨ρ',_,_,hq,⟨u,rfl,Qsa hu⟩,r1,g2.trans r2⟩
theorem Qby(p:Nat ->Bool):∀l:List C,D.okNs p ((l.map Qbn).flatMap D.cells)=true
 | []=>rfl
 | c::r=>by rw [List.map_cons,List.flatMap_cons,Qs8,Qby p r,Qih];simp [D.okNs,D.okN,Cp.okN]
theorem Qa6(σ:Nat ->Nat):D.ren σ∘Qbn=Qbn:=funext fun c=>D.ren_pure σ _ (Qdq c)
theorem Qgv(l:List C)(hl:l.length<=Ql):Sp 60 [Cs l] [] (OwnF 12 (l.map Qbn)):=by
 unfold Cs;refine eN Tryz.func60 rfl (by decide) rfl rfl ?_;(refine sR fun K hK=>?_;(repeat rw [Qa];simp);refine hK _ _ _ ?_;clear hK K);refine Qc fun K1 hK1=>?_
 cases l with
 | nil =>
  (refine sR fun K hK=>?_;(repeat rw [Qa];simp));refine⟨hK _ _ _ ?_,hK _ _ _ ?_⟩
  ·refine pF rfl ?_;refine Qg (hK1 _ _ _ ?_);(refine sR fun K hK=>?_;(repeat rw [Qa];simp);refine hK _ _ _ ?_;clear hK K);(refine Qe ?_;(try simp only [zs]);refine Qk.ret rfl (.inr ⟨[0],by decide,by simp,?_⟩);simp [zM]);exact .inl ⟨rfl, .inr ⟨rfl,rfl⟩⟩
  ·refine pT rfl ?_;(refine sR fun K hK=>?_;(repeat rw [Qa];simp);refine hK _ _ _ ?_;clear hK K);(refine Qe ?_;(try simp only [zs]);refine Qk.ret rfl (.inr ⟨[],by decide,by simp,?_⟩);simp [zM]);exact .inl ⟨rfl, .inl ⟨rfl,rfl⟩⟩
 | cons p r =>
  have hr:r.length+1<=Ql:=by simpa using hl
  have hE:=Qay p;(refine sR fun K hK=>?_;(repeat rw [Qa];simp);refine hK _ _ _ ?_;clear hK K);refine pF rfl ?_;refine Qg (hK1 _ _ _ ?_);refine Qc fun K hK=>?_
  refine Qji Wa 1 5 12 ?_;simp only [List.take_succ_cons,List.take_zero,List.drop_succ_cons,List.drop_zero];(try simp only [zr]);(repeat rw [Qa];simp [-Qx]);(try simp only [zs]);simp [D.ownd];(try simp only [zr]);(repeat rw [Qa];simp [hr]);(refine hK _ _ _ ?_;clear hK K);(refine Qe ?_;(try simp only [zs]);refine Qk.ret rfl (.inr ⟨[1],by decide,by simp,?_⟩);simp [zM]);exact .inr ⟨by simp,by simp,by rw [if_pos (Qby _ _),Qa6]⟩
theorem Qku:Sp 60 [Cs []] [] (fun o hc=>o= .ret (.slice [] (.tok 0))/\hc= [.tok]):=by
 refine(Qgv [] (by unfold Ql;simp)).tokO ?_;rintro o hc (⟨-,⟨rfl,rfl⟩ | ⟨rfl,rfl⟩⟩ | ⟨h, -, -⟩)
 ·exact .inr ⟨_,rfl,rfl,rfl⟩
 ·exact .inl ⟨rfl,rfl⟩
 ·exact absurd rfl h
theorem Qkt{l:List C}(hl:l.length<=Ql)(h0:l≠ []):Sp 60 [Cs l] [] (fun o hc=>o= .ret (.own 0 l.length)/\hc= [.row 12 (l.map Qbn)]):=by
 refine(Qgv l hl).tokO ?_;rintro o hc (⟨h, -⟩ | ⟨-,rfl,rfl⟩)
 ·exact absurd (List.map_eq_nil_iff.1 h) h0
 ·exact .inl ⟨by simp,rfl⟩
theorem Qr1{l:List C}(hl:RowOk l):Sp 61 [Cs l] [] (rt (Cs l)):=by
 have hlen:=hl.len;have L1:l.length<=Ql:=by unfold Ql;omega
 have cl:=Qgv l L1;unfold Cs at cl⊢;refine eN Tryz.func61 rfl (by decide) rfl rfl ?_;(refine sR fun K hK=>?_;(repeat rw [Qa];simp);refine hK _ _ _ ?_;clear hK K);(refine sR fun K hK=>?_;(repeat rw [Qa];simp));refine Wm.objs Qf [] true cl ?_ (by rintro o hc _;simp) (by decide) (by simp) (by simp [zA]) (by simp [zA]) (by simp [zA]) (by simp [zA]);rintro o hc (⟨hn,⟨rfl,rfl⟩ | ⟨rfl,rfl⟩⟩ | ⟨-,rfl,rfl⟩)
 ·refine⟨false,?_⟩;simp [zU]
  (repeat rw [Qa];simp)
  (refine hK _ _ _ ?_;clear hK K);have hl0:l= []:=List.map_eq_nil_iff.1 hn;subst hl0;refine Qc fun K1 hK1=>?_
  (refine sR fun K hK=>?_;(repeat rw [Qa];simp);refine hK _ _ _ ?_;clear hK K);refine Xm Wa Qf (ti:=3) (tk:=8) (tn:=7) (td:=9) (ts:=31) [3,8,9,10,11,12,13,14,15,16,17,18,19,20,21,22,23,24,25,26,27,28,29,30,31] [] (0) (fun k ys hl=>ys= []/\hl= []) rfl rfl rfl rfl rfl rfl rfl rfl rfl rfl rfl rfl (by simp) (by decide) rfl (by first | assumption | omega | (unfold Ql;omega)) rfl (by kernel_rfl) (by decide) ?_ ?_ ?_
  ·exact⟨rfl,rfl⟩
  ·rintro i ys hl' A hi ⟨rfl,rfl⟩ hA hA2;omega
  ·rintro ys hl' tl' ⟨rfl,rfl⟩ htl;refine hK1 _ _ _ (Xn htl ?_);simp only [Qh,List.set,List.map_cons,List.map_nil,List.cons_append,List.nil_append];clear hK1 K1;(refine sR fun K hK=>?_;(repeat rw [Qa];simp);refine hK _ _ _ ?_;clear hK K);(refine Qe ?_;(try simp only [zs]);refine Qk.ret rfl (.inl ?_);simp [zM])
 ·refine⟨false,?_⟩;simp [zU]
  (repeat rw [Qa];simp)
  (refine hK _ _ _ ?_;clear hK K);have hl0:l= []:=List.map_eq_nil_iff.1 hn;subst hl0;refine Qc fun K1 hK1=>?_
  (refine sR fun K hK=>?_;(repeat rw [Qa];simp);refine hK _ _ _ ?_;clear hK K);refine Xm Wa Qf (ti:=3) (tk:=8) (tn:=7) (td:=9) (ts:=31) [3,8,9,10,11,12,13,14,15,16,17,18,19,20,21,22,23,24,25,26,27,28,29,30,31] [] (0) (fun k ys hl=>ys= []/\hl= [.tok]) rfl rfl rfl rfl rfl rfl rfl rfl rfl rfl rfl rfl (by simp) (by decide) rfl (by first | assumption | omega | (unfold Ql;omega)) rfl (by kernel_rfl) (by decide) ?_ ?_ ?_
  ·exact⟨rfl,rfl⟩
  ·rintro i ys hl' A hi ⟨rfl,rfl⟩ hA hA2;omega
  ·rintro ys hl' tl' ⟨rfl,rfl⟩ htl;refine hK1 _ _ _ (Xn htl ?_);simp only [Qh,List.set,List.map_cons,List.map_nil,List.cons_append,List.nil_append];clear hK1 K1;(refine sR fun K hK=>?_;(repeat rw [Qa];simp);refine hK _ _ _ ?_;clear hK K);(refine Qe ?_;(try simp only [zs]);refine Qk.ret rfl (.inl ?_);simp [zM])
 ·refine⟨false,?_⟩;simp [zU]
  (repeat rw [Qa];simp)
  (refine hK _ _ _ ?_;clear hK K);simp only [Qa6];refine Qc fun K1 hK1=>?_
  (refine sR fun K hK=>?_;(repeat rw [Qa];simp);refine hK _ _ _ ?_;clear hK K);refine Xm Wa Qf (ti:=3) (tk:=8) (tn:=7) (td:=9) (ts:=31) [3,8,9,10,11,12,13,14,15,16,17,18,19,20,21,22,23,24,25,26,27,28,29,30,31] [] (l.length) (fun k ys hl=>ys= []/\hl= [.row 12 (l.map Qbn)]) rfl rfl rfl rfl rfl rfl rfl rfl rfl rfl rfl rfl (by simp) (by decide) rfl (by first | assumption | omega | (unfold Ql;omega)) rfl (by kernel_rfl) (by decide) ?_ ?_ ?_
  ·exact⟨rfl,rfl⟩
  ·rintro i ys hl' A hi ⟨rfl,rfl⟩ hA hA2;simp only [Qh,List.set,List.map_cons,List.map_nil,List.cons_append,List.nil_append];have hi':(i:Int)<l.length:=by omega
   obtain⟨c,hy⟩:∃c,l[i]=c:=⟨_,rfl⟩;have hco:=hl.ok c (by rw [<- hy];exact List.getElem_mem hi);have hEc:=Qay c;have dt:c.ty.deep<=DM:=by have:=c.ty.deep_nsz;have:=hco.2.1;unfold DM;omega
   have db:c.bo.deep<=DM:=by have:=c.bo.deep_nsz;have:=hco.2.2;unfold DM;omega
   have lt:=Qbu c.ty 0 0 dt hco.1.2.1;have lb:=Qbu c.bo 0 0 db hco.1.2.2;rw [Qj8 hco.1.2.1 0,Qb c.ty]at lt;rw [Qj8 hco.1.2.2 0,Qb c.bo]at lb;have hset:(l.map Qbn).set i (Qbn c)=l.map Qbn:=by
    apply List.ext_getElem?;intro j;rw [List.getElem?_set];split
    ·rename_i h;subst h;simp [hi,hy]
    ·rfl
   rw [hEc]at hset;(refine sR fun K hK=>?_;(repeat rw [Qa];simp [hi,hi',hy,hEc]);refine hK _ _ _ ?_;clear hK K);(refine dR fun KT hKT=>?_;(repeat rw [Qd];simp [hi,hi',hy,hEc]));refine cYp (lt) ?_;(try simp only [zq]);(repeat rw [Qd];simp [hi,hi',hy,hEc]);refine cYp (lb) ?_;(try simp only [zq]);(repeat rw [Qd];simp [hi,hi',hy,hEc,reD]);(refine hKT _ _ _ _ (by kernel_rfl) ?_;clear hKT KT);(refine hA _ _ _ (LeT.refl _) (by kernel_rfl) ?_ rfl;simp only [Qbl,List.map_cons,List.map_nil]);exact⟨trivial,by rw [hset]⟩
  ·rintro ys hl' tl' ⟨rfl,rfl⟩ htl;refine hK1 _ _ _ (Xn htl ?_);simp only [Qh,List.set,List.map_cons,List.map_nil,List.cons_append,List.nil_append];clear hK1 K1;(refine sR fun K hK=>?_;(repeat rw [Qa];simp);refine hK _ _ _ ?_;clear hK K);(refine Qd4 0 rfl ?_;simp [D.frzs,D.frz,HO.frz,Qaj,FK.isB,FK.isM,FK.isO,D.isLen]);(refine Qe ?_;(try simp only [zs]);refine Qk.ret rfl (.inl ?_);simp [zM])
theorem Qxf{l:List C}{k:Nat}{f:Int}{j:Nat}{e:Int}(h:rowsR l k f= .error (j,e)):¬ e=0:=by
 unfold rowsR at h;split at h
 ·exact(Qm5 _ _ _ h).1
 ·cases h;decide
noncomputable def addD (l : List C) (c : C) (f : Int) : D := match rowsR (l ++ [c]) l.length f with
 | .ok g=> .tuple [Cs (l++ [c]), .int .i64 g, .int .i64 0]
 | .error (_,e)=> .tuple [.slice [] .any, .int .i64 0, .int .i64 e]
theorem Qk1{l:List C}{c:C}(hl:RowOk (l++ [c])){f:Int}(hf:f<=19998\/1073741824<f):Sp 23 [Cs l,Qbn c, .int .i64 f] [] (rt (addD l c f)):=by
 have hlen:=hl.len;rw [List.length_append,List.length_singleton]at hlen;have L1:l.length<=Ql:=by unfold Ql;omega
 have L2:l.length+1<=Ql:=by unfold Ql;omega
 have aq:=Qmd hl (a:=l.length) (by simp) hf (.slice [] .full) (.int .i64 0) (.int .i64 0) (.int .i64 0) (.int .i64 0) (.slice [] .full) (.slice [] .full) (.bool false) (.int .i64 0) (.int .i64 0) (.int .i64 0) (.slice [] .full) (.slice [] .full) (by simp [D.pures,D.pure,Cp.free]);have cp:=Qr1 hl;have hEc:=Qay c;unfold addD;cases hr:rowsR (l++ [c]) l.length f with
 | ok g =>
  rw [hr]at aq;unfold AP at aq;dsimp only;by_cases h0:l= []
  ·subst h0;have cl:=Qku;unfold Cs at cl aq cp⊢;simp only [List.nil_append,List.map_cons,List.map_nil,List.length_nil,List.length_singleton]at cl aq cp⊢;rw [hEc]at aq cp⊢;refine eN Tryz.func23 rfl (by decide) rfl rfl ?_;(refine sR fun K hK=>?_;(repeat rw [Qa];simp);refine hK _ _ _ ?_;clear hK K);(refine sR fun K hK=>?_;(repeat rw [Qa];simp);refine hK _ _ _ ?_;clear hK K);(refine Qc fun K hK=>?_;refine dR fun KT hKT=>?_;(repeat rw [Qd];simp));refine cYo [] true false (cl) (fun o h e=>e) ?_;simp [zU];(try simp only [zq]);(repeat rw [Qd];simp);(refine hKT _ _ _ _ (by kernel_rfl) ?_;clear hKT KT);(refine hK _ _ _ ?_;clear hK K);refine Qc fun K1 hK1=>?_
   (refine sR fun K hK=>?_;(repeat rw [Qa];simp));refine Wm.objs Qf [1] true (aq) ?_ (by rintro o hc ⟨_,x,rfl⟩;simp) (by decide) (by simp) (by simp [zA]) (by simp [zA]) (by simp [zA]) (by simp [zA]);(rintro o hc ⟨ho,x,rfl⟩;refine⟨true,?_⟩;rw [show told true o=_ from ho];clear ho;simp [zU]);(try simp only [zr]);(repeat rw [Qa];simp);(refine hK _ _ _ ?_;clear hK K);(refine sR fun K hK=>?_;(repeat rw [Qa];simp);refine hK _ _ _ ?_;clear hK K);refine pF rfl ?_;refine Qg (hK1 _ _ _ ?_);clear hK1 K1;(refine Qc fun K hK=>?_;refine dR fun KT hKT=>?_;(repeat rw [Qd];simp));refine Xt.pureD Qf (cp) ?_ (by simp [D.deeps,D.deep,D.fgts,D.fgt]) (by simp [D.pures,D.pure,Cp.free,D.pures_map]) (by simp [Out.pure,D.pure,D.pures,Cp.free,D.pures_map]);(try simp only [zq]);(repeat rw [Qd];simp);(refine hKT _ _ _ _ (by kernel_rfl) ?_;clear hKT KT);(refine hK _ _ _ ?_;clear hK K);(refine Qe ?_;(try simp only [zs]);refine Qk.ret rfl (.inl ?_);simp [zM])
  ·have cl:=Qkt L1 h0;unfold Cs at cl aq cp⊢;rw [List.map_append,List.map_cons,List.map_nil]at aq cp⊢;have hpu:D.pures ((l++ [c]).map Qbn)=true:=by rw [D.pures_map];simp [Qdq]
   have hde:D.deeps ((l++ [c]).map Qbn)=(l++ [c]).map Qbn:=Qyb _;rw [List.map_append,List.map_cons,List.map_nil,hEc]at hpu hde;rw [hEc]at aq cp⊢;refine eN Tryz.func23 rfl (by decide) rfl rfl ?_;(refine sR fun K hK=>?_;(repeat rw [Qa];simp);refine hK _ _ _ ?_;clear hK K);(refine sR fun K hK=>?_;(repeat rw [Qa];simp);refine hK _ _ _ ?_;clear hK K);(refine Qc fun K hK=>?_;refine dR fun KT hKT=>?_;(repeat rw [Qd];simp));refine Xt.objs Qf [] true false (cl) (fun o h e=>e) ?_ (by simp) (by decide) (by simp) (by simp [zA,Qa6,Qby]) (by simp [zA,Qa6,Qby]) (by simp [zA,Qa6,Qby]) (by simp [zA,Qa6,Qby]);simp [zU,Qa6,Qby];(try simp only [zq]);(repeat rw [Qd];simp [L2]);(refine hKT _ _ _ _ (by kernel_rfl) ?_;clear hKT KT);(refine hK _ _ _ ?_;clear hK K);(refine Qd4 3 rfl ?_;simp [D.frzs,D.frz,HO.frz,Qaj,FK.isB,FK.isM,FK.isO,D.isLen]);refine Qc fun K1 hK1=>?_
   (refine sR fun K hK=>?_;(repeat rw [Qa];simp));refine Wm.objs Qf [1] true (aq) ?_ (by rintro o hc ⟨_,x,rfl⟩;simp) (by decide) (by simp) (by simp [zA]) (by simp [zA]) (by simp [zA]) (by simp [zA]);(rintro o hc ⟨ho,x,rfl⟩;refine⟨true,?_⟩;rw [show told true o=_ from ho];clear ho;simp [zU]);(try simp only [zr]);(repeat rw [Qa];simp);(refine hK _ _ _ ?_;clear hK K);(refine sR fun K hK=>?_;(repeat rw [Qa];simp);refine hK _ _ _ ?_;clear hK K);refine pF rfl ?_;refine Qg (hK1 _ _ _ ?_);clear hK1 K1;(refine Qc fun K hK=>?_;refine dR fun KT hKT=>?_;(repeat rw [Qd];simp));refine Xt.pureD Qf (cp) ?_ (by simp [D.deeps,D.deep,D.fgts,D.fgt,hpu,hde]) (by simp [D.pures,D.pure,Cp.free,D.pures_map,hpu,hde]) (by simp [Out.pure,D.pure,D.pures,Cp.free,D.pures_map,hpu,hde]);(try simp only [zq]);(repeat rw [Qd];simp);(refine hKT _ _ _ _ (by kernel_rfl) ?_;clear hKT KT);(refine hK _ _ _ ?_;clear hK K);(refine Qe ?_;(try simp only [zs]);refine Qk.ret rfl (.inl ?_);simp [zM])
 | error v =>
  obtain⟨k,e⟩:=v;have he:=Qxf hr;rw [hr]at aq;unfold AP at aq;dsimp only;by_cases h0:l= []
  ·subst h0;have cl:=Qku;unfold Cs at cl aq cp⊢;simp only [List.nil_append,List.map_cons,List.map_nil,List.length_nil,List.length_singleton]at cl aq cp⊢;rw [hEc]at aq cp⊢;refine eN Tryz.func23 rfl (by decide) rfl rfl ?_;(refine sR fun K hK=>?_;(repeat rw [Qa];simp);refine hK _ _ _ ?_;clear hK K);(refine sR fun K hK=>?_;(repeat rw [Qa];simp);refine hK _ _ _ ?_;clear hK K);(refine Qc fun K hK=>?_;refine dR fun KT hKT=>?_;(repeat rw [Qd];simp));refine cYo [] true false (cl) (fun o h e=>e) ?_;simp [zU];(try simp only [zq]);(repeat rw [Qd];simp);(refine hKT _ _ _ _ (by kernel_rfl) ?_;clear hKT KT);(refine hK _ _ _ ?_;clear hK K);refine Qc fun K1 hK1=>?_
   (refine sR fun K hK=>?_;(repeat rw [Qa];simp));refine Wm.objs Qf [1] true (aq) ?_ (by rintro o hc ⟨_,x,rfl⟩;simp) (by decide) (by simp) (by simp [zA]) (by simp [zA]) (by simp [zA]) (by simp [zA]);(rintro o hc ⟨ho,x,rfl⟩;refine⟨true,?_⟩;rw [show told true o=_ from ho];clear ho;simp [zU]);(try simp only [zr]);(repeat rw [Qa];simp);(refine hK _ _ _ ?_;clear hK K);(refine sR fun K hK=>?_;(repeat rw [Qa];simp [he]);refine hK _ _ _ ?_;clear hK K);refine pT rfl ?_;(refine sR fun K hK=>?_;(repeat rw [Qa];simp);refine hK _ _ _ ?_;clear hK K);(refine Qe ?_;(try simp only [zs]);refine Qk.ret rfl (.inl ?_);simp [zM])
  ·have cl:=Qkt L1 h0;unfold Cs at cl aq cp⊢;rw [List.map_append,List.map_cons,List.map_nil]at aq cp;rw [hEc]at aq cp⊢;refine eN Tryz.func23 rfl (by decide) rfl rfl ?_;(refine sR fun K hK=>?_;(repeat rw [Qa];simp);refine hK _ _ _ ?_;clear hK K);(refine sR fun K hK=>?_;(repeat rw [Qa];simp);refine hK _ _ _ ?_;clear hK K);(refine Qc fun K hK=>?_;refine dR fun KT hKT=>?_;(repeat rw [Qd];simp));refine Xt.objs Qf [] true false (cl) (fun o h e=>e) ?_ (by simp) (by decide) (by simp) (by simp [zA,Qa6,Qby]) (by simp [zA,Qa6,Qby]) (by simp [zA,Qa6,Qby]) (by simp [zA,Qa6,Qby]);simp [zU,Qa6,Qby];(try simp only [zq]);(repeat rw [Qd];simp [L2]);(refine hKT _ _ _ _ (by kernel_rfl) ?_;clear hKT KT);(refine hK _ _ _ ?_;clear hK K);(refine Qd4 3 rfl ?_;simp [D.frzs,D.frz,HO.frz,Qaj,FK.isB,FK.isM,FK.isO,D.isLen]);refine Qc fun K1 hK1=>?_
   (refine sR fun K hK=>?_;(repeat rw [Qa];simp));refine Wm.objs Qf [1] true (aq) ?_ (by rintro o hc ⟨_,x,rfl⟩;simp) (by decide) (by simp) (by simp [zA]) (by simp [zA]) (by simp [zA]) (by simp [zA]);(rintro o hc ⟨ho,x,rfl⟩;refine⟨true,?_⟩;rw [show told true o=_ from ho];clear ho;simp [zU]);(try simp only [zr]);(repeat rw [Qa];simp);(refine hK _ _ _ ?_;clear hK K);(refine sR fun K hK=>?_;(repeat rw [Qa];simp [he]);refine hK _ _ _ ?_;clear hK K);refine pT rfl ?_;(refine sR fun K hK=>?_;(repeat rw [Qa];simp);refine hK _ _ _ ?_;clear hK K);(refine Qe ?_;(try simp only [zs]);refine Qk.ret rfl (.inl ?_);simp [zM])
end Go.Proofs.YtgloldepdhgfaaaGreatDoor
namespace Go.Proofs.YtgloldepdhgfaaaGreatDoor
set_option linter.unusedSimpArgs false
set_option linter.unusedVariables false
open Go.RowKit
def Qfq(c:C)(s:Int):Int:=IntKind.i64.wrap (IntKind.i64.wrap (IntKind.i64.wrap (s+1)+c.ty.tof 800)+c.bo.tof 800)
theorem Qkr:∀(l:List C) (s:Int),0<=s ->s+(Qpw l:Int)<=QB ->s<=Qeo Qfq 800 l s/\Qeo Qfq 800 l s<=s+(Qpw l:Int)/\(Qeo Qfq 800 l s<=800 ->Qeo Qfq 800 l s=s+(Qpw l:Int))
 | [],s,h0,h1=>by simp only [Qeo,Qpw];omega
 | c::r,s,h0,h1=>by
  rw [Qeo];rw [Qpw]at h1⊢;split
  ·rename_i hs;have h2:=h1;unfold QB at h2;have hq:(0:Int)<=800/\(800:Int)<=QB:=⟨by omega,by unfold QB;omega⟩;obtain⟨a1,a2,a3⟩:=Qql c.ty 800 (by unfold QB;omega) hq;obtain⟨c1,c2,c3⟩:=Qql c.bo 800 (by unfold QB;omega) hq;have e:Qfq c s=s+1+c.ty.tof 800+c.bo.tof 800:=by
    unfold Qfq;rw [Qbp (n:=s+1) (by omega) (by omega),Qbp (n:=s+1+c.ty.tof 800) (by omega) (by omega),Qbp (by omega) (by omega)]
   rw [e];obtain⟨b1,b2,b3⟩:=Qkr r (s+1+c.ty.tof 800+c.bo.tof 800) (by omega) (by unfold QB;omega);refine⟨by omega,by omega,fun h=>?_⟩;have:=b3 h;have:=a3 (by omega);have:=c3 (by omega);omega
  ·omega
theorem Qpv:∀{l:List C} {c:C},c∈l ->1+c.ty.tsz+c.bo.tsz<=Qpw l
 | x::r,c,h=>by
  rw [Qpw];rcases List.mem_cons.1 h with rfl | h
  ·omega
  ·have:=Qpv h;omega
theorem Quv{l:List C}(hls:∀c,c∈l ->okC c)(hq:(Qpw l:Int)<=QB)(h4:¬ Qeo Qfq 800 l 0 > 800):RowOk l:=by
 obtain⟨b1,b2,b3⟩:=Qkr l 0 (by omega) (by omega);have h5:=b3 (by omega);have hlen:=Qtz l;refine⟨by omega,fun c hc=>⟨hls c hc,?_⟩⟩;have:=Qpv hc;have:=Qrj c.ty;have:=Qrj c.bo;omega
theorem RowOk.take{l:List C}(h:RowOk l)(k:Nat):RowOk (l.take k):=⟨by rw [List.length_take];have:=h.len;omega,fun c hc=>h.ok c (List.mem_of_mem_take hc)⟩
theorem Qwz{l:List C}{i:Nat}(hi:i<l.length):l.take i++ [l[i]]=l.take (i+1):=by rw [List.take_add_one,List.getElem?_eq_getElem hi];rfl
theorem one10{l:List C}{i:Nat}(hi:i<l.length){f:Int}(h0:0<=f)(h1:f<=1073741824):rowsR (l.take i++ [l[i]]) (l.take i).length f=(match declR (l.take i) l[i] f with | .ok (_,g)=> .ok g | .error e=> .error (i,e)):=by
 have hlen:(l.take i).length=i:=by rw [List.length_take];omega
 have hl2:(l.take i++ [l[i]]).length=i+1:=by rw [List.length_append,hlen];rfl
 unfold rowsR;rw [if_pos ⟨h0,h1⟩,hl2,hlen,show i+1 - i=1 by omega,rowR];have e1:(l.take i++ [l[i]]).take i=l.take i:=by
  have:=List.take_left (l₁:=l.take i) (l₂:= [l[i]]);rw [hlen]at this;exact this
 have e2:(l.take i++ [l[i]]).getD i Qgz=l[i]:=by
  rw [List.getD_eq_getElem?_getD,List.getElem?_append_right (by omega),hlen,Nat.sub_self];rfl
 rw [e1,e2];cases declR (l.take i) l[i] f with
 | ok v=>rfl
 | error e=>rfl
theorem Qqz{l:List C}{i:Nat}(hi:i<l.length){f:Int}:rowR l (l.length - i) i f=(match declR (l.take i) l[i] f with | .ok (_,g)=>rowR l (l.length - (i+1)) (i+1) g | .error e=> .error (i,e)):=by
 rw [Qh5 hi,show l.getD i Qgz=l[i] by simp [List.getD_eq_getElem?_getD,hi]]
 all_goals (cases declR (l.take i) l[i] f <;> rfl)
noncomputable def sortG (l : List C) (c : C) (f : Int) : Int × Int := match sortT l c.lv [] c.ty f with
 | .ok (_,g)=>(g,0)
 | .error e=>(0,e)
noncomputable def bodyG (l : List C) (c : C) (f : Int) : Int × Int := match checkT l c.lv [] c.bo c.ty f with
 | .ok (_,g)=>(g,0)
 | .error e=>(0,e)
theorem typR_eq{l:List C}{c:C}{f:Int}:typR l c f=if(sortG l c f).2=0 then .ok ((),(sortG l c f).1)else .error (sortG l c f).2:=by
 unfold typR sortG;cases sortT l c.lv [] c.ty f with
 | ok v=>obtain⟨x,g⟩:=v;rfl
 | error e=>rfl
theorem Wdf{l:List C}{c:C}{f:Int}(h:c.has=true):bodyR l c f=if(bodyG l c f).2=0 then .ok ((),(bodyG l c f).1)else .error (bodyG l c f).2:=by
 unfold bodyR bodyG;rw [if_pos h];cases checkT l c.lv [] c.bo c.ty f with
 | ok v=>obtain⟨x,g⟩:=v;rfl
 | error e=>rfl
theorem decl10{l:List C}(hk:Kc l){c:C}{f g:Int}{u:Unit}(hc:okC c/\c.ty.nsz<=14000/\c.bo.nsz<=14000)(h0:0<=f)(h1:f<=19998)(h:declR l c f= .ok (u,g)) :
  (sortG l c f).2=0/\0<=(sortG l c f).1/\(sortG l c f).1<=f/\0<=g/\g<=(sortG l c f).1/\(c.has=true ->bodyG l c (sortG l c f).1=(g,0))/\(c.has=false ->g=(sortG l c f).1):=by
 unfold declR at h;obtain⟨u1,f1,h2,h3⟩:=Rs.next_some h;have:f1=f:=by
  unfold Qb7 at h2;split at h2
  ·cases h2;rfl
  ·cases h2
 subst this;obtain⟨u2,f2,h4,h5⟩:=Rs.next_some h3;have le1:=Qwv hk ⟨hc.1.2.1,by omega⟩ h0 h1 h4;have le2:=Qt6 hk ⟨hc.1.2.1,by omega⟩ ⟨hc.1.2.2,by omega⟩ le1.1 (by omega) h5;rw [typR_eq]at h4;split at h4
 ·rename_i hz;cases h4;refine⟨hz,le1.1,le1.2,le2.1,le2.2,fun hh=>?_,fun hh=>?_⟩
  ·rw [Wdf hh]at h5;split at h5
   ·rename_i hz2;cases h5;exact Prod.ext rfl hz2
   ·cases h5
  ·unfold bodyR at h5;rw [if_neg (by rw [hh];simp)]at h5;cases h5;rfl
 ·cases h4
def Qce(v p:Int):T:= .mk 2 0 0 [[(v,p)]] []
def Qqe:C:=⟨0,Qce 0 0,true,Qje 2⟩
def Qv6:C:=⟨0, .mk 3 0 0 [] [],false,Xa⟩
def Qp3:C:=⟨0,Qd5 0,false,Xa⟩
def Qny:C:=⟨0,Qce 0 0,false,Xa⟩
theorem Qnr{l:List C}{t:T}(h1:spot t=none)(h2:Qbq l t Xa=none){f:Int}(h0:0<=f):HdO l t f (some (t,f)):=by
 have h3:hstep l t=none:=by rw [Qeg h1];exact h2
 have:=Hd.stop h3;rw [Qbi h1]at this;exact .of this (by omega) (by omega)
theorem LR.det{l:List C}{h:Nat}{p q:T}{f:Int}{o:Option (Bool×Int)}(H:LR l h p q f o):∀{h':Nat} {o':Option (Bool×Int)},LR l h' p q f o' ->o=o':=by
 induction H with
 | out=>intro h' o' K;cases K <;> first | rfl | omega
 | same hf hs =>
  intro h' o' K;cases K with
  | out=>omega
  | same _ _=>rfl
  | gone1 _ hs' _ | gone2 _ hs' _ _ | sort _ hs' _ _ _ _ | pino _ hs' _ _ _ _ _ _ | pi _ hs' _ _ _ _ _ _ | one _ hs' _ _ _ _ _=>rw [hs]at hs';cases hs'
 | gone1 hf hs h1 =>
  intro h' o' K;cases K with
  | out=>rfl
  | same _ hs'=>rw [hs]at hs';cases hs'
  | gone1 _ _ _=>rfl
  | gone2 _ _ h1' _ | sort _ _ h1' _ _ _ | pino _ _ h1' _ _ _ _ _ | pi _ _ h1' _ _ _ _ _ | one _ _ h1' _ _ _ _=>cases h1.det h1'
 | gone2 hf hs h1 h2 =>
  intro h' o' K;cases K with
  | out=>rfl
  | same _ hs'=>rw [hs]at hs';cases hs'
  | gone1 _ _ _=>rfl
  | gone2 _ _ _ _=>rfl
  | sort _ _ h1' h2' _ _ | pino _ _ h1' h2' _ _ _ _ | pi _ _ h1' h2' _ _ _ _ | one _ _ h1' h2' _ _ _=>cases h1.det h1';cases h2.det h2'
 | sort hf hs h1 h2 hx hy =>
  intro h' o' K;cases K with
  | out=>omega
  | same _ hs'=>rw [hs]at hs';cases hs'
  | gone1 _ _ h1'=>cases h1.det h1'
  | gone2 _ _ h1' h2'=>cases h1.det h1';cases h2.det h2'
  | sort _ _ h1' h2' hx' hy' =>
   cases h1.det h1';cases h2.det h2';have e1:=hx.2.symm.trans hx'.2;have e2:=hy.2.symm.trans hy'.2;cases e1;cases e2;rfl
  | pino _ _ h1' h2' hx' hy' _ _ | pi _ _ h1' h2' hx' hy' _ _=>cases h1.det h1';cases h2.det h2';have:=hx.1;omega
  | one _ _ h1' h2' hn' _ _=>cases h1.det h1';cases h2.det h2';exact absurd ⟨hx.1,hy.1,by rw [hx.2];rfl,by rw [hy.2];rfl⟩ hn'
 | pino hf hs h1 h2 hx hy hk hn =>
  intro h' o' K;cases K with
  | out=>omega
  | same _ hs'=>rw [hs]at hs';cases hs'
  | gone1 _ _ h1'=>cases h1.det h1'
  | gone2 _ _ h1' h2'=>cases h1.det h1';cases h2.det h2'
  | sort _ _ h1' h2' hx' hy'=>cases h1.det h1';cases h2.det h2';have:=hx'.1;omega
  | pino _ _ h1' h2' hx' hy' hk' _=>cases h1.det h1';cases h2.det h2';exact hk.det hk'
  | pi _ _ h1' h2' hx' hy' hk' _=>cases h1.det h1';cases h2.det h2';exact absurd (hk.det hk') (hn _)
  | one _ _ h1' h2' _ hn2' _=>cases h1.det h1';cases h2.det h2';exact absurd ⟨hx,hy⟩ hn2'
 | pi hf hs h1 h2 hx hy hk hr ih =>
  intro h' o' K;cases K with
  | out=>omega
  | same _ hs'=>rw [hs]at hs';cases hs'
  | gone1 _ _ h1'=>cases h1.det h1'
  | gone2 _ _ h1' h2'=>cases h1.det h1';cases h2.det h2'
  | sort _ _ h1' h2' hx' hy'=>cases h1.det h1';cases h2.det h2';have:=hx'.1;omega
  | pino _ _ h1' h2' hx' hy' hk' hn'=>cases h1.det h1';cases h2.det h2';exact absurd (hk.det hk').symm (hn' _)
  | pi _ _ h1' h2' hx' hy' hk' hr'=>cases h1.det h1';cases h2.det h2';cases hk.det hk';exact ih hr'
  | one _ _ h1' h2' _ hn2' _=>cases h1.det h1';cases h2.det h2';exact absurd ⟨hx,hy⟩ hn2'
 | one hf hs h1 h2 hn hn2 hr =>
  intro h' o' K;cases K with
  | out=>omega
  | same _ hs'=>rw [hs]at hs';cases hs'
  | gone1 _ _ h1'=>cases h1.det h1'
  | gone2 _ _ h1' h2'=>cases h1.det h1';cases h2.det h2'
  | sort _ _ h1' h2' hx' hy'=>cases h1.det h1';cases h2.det h2';exact absurd ⟨hx'.1,hy'.1,by rw [hx'.2];rfl,by rw [hy'.2];rfl⟩ hn
  | pino _ _ h1' h2' hx' hy' _ _ | pi _ _ h1' h2' hx' hy' _ _=>cases h1.det h1';cases h2.det h2';exact absurd ⟨hx',hy'⟩ hn2
  | one _ _ h1' h2' _ _ hr'=>cases h1.det h1';cases h2.det h2';exact hr.det hr'
theorem Qy5{l:List C}{t:T}(h1:spot t=none)(h2:Qbq l t Xa=none){f:Int}(h0:0<=f):hdR l t f= .ok (t,f):=by
 have h:=Qnr (l:=l) h1 h2 h0;rcases Qns l t h0 with ⟨v,e1,e2⟩ | ⟨e1,e2⟩
 ·have:=h.det e2;cases this;exact e1
 ·have:=h.det e2;cases this
theorem Wa0(i:LV):spot (Qiq i)=none:=rfl
theorem uni_own(l:List C)(i:LV):Qbq l (Qiq i) Xa=none:=rfl
theorem Qt7(h:Bool)(b:T):typR [] ⟨0,Qce 0 0,h,b⟩ 10= .ok ((),9):=by
 have e:sortT [] 0 [] (Qce 0 0) 10= .ok (Wg (Qfa [(0,0)]),9):=by
  have hr:∀(i:Nat) (h:i< [Qce 0 0].length),Xu 0 ((([]:List T).length:Nat):Int) (([]:List C).map C.lv) [Qce 0 0][i]=true:=fun i h=>by
   have:i=0:=by simp at h;omega
   subst this;show Xu 0 0 [] (Qce 0 0)=true
   kernel_rfl
  unfold sortT toldR;rw [if_pos ⟨⟨by omega,by omega⟩,by omega,by omega⟩,if_pos ⟨fun i h=>by simp at h,hr⟩];have e1:sortR [] (infT [] 0 (hgt 10)) [] (Qce 0 0) 10= .ok (Qfa [(0,0)],9):=by
   unfold sortR;have:hgt 10=10+1:=rfl;rw [this,Qhn,if_neg (by omega)];have e2:ruleR [] 0 (infT [] 0 10) (chkT [] 0 10) [] (Qce 0 0) (10 - 1)= .ok (Qiq (Qfa [(0,0)]),9):=by
    unfold ruleR;rw [if_neg (by decide),if_pos (show(Qce 0 0).k=2 from rfl)];unfold Qd6;rw [show(Qce 0 0).ls.getD 0 []= [(0,0)] from rfl,if_pos (show Zc (Qfa [(0,0)]) 0=true from by kernel_rfl)];rfl
   rw [e2,Rs.next_ok];unfold lvR;rw [Qy5 (Wa0 _) (uni_own _ _) (by omega),Rs.next_ok,if_pos ⟨rfl,rfl⟩];rfl
  rw [e1,Rs.next_ok]
 unfold typR;dsimp only;rw [e]
theorem Qz2:bodyR [] Qqe 9= .ok ((),6):=by
 have e:checkT [] 0 [] (Qje 2) (Qce 0 0) 9= .ok (true,6):=by
  have hr:∀(i:Nat) (h:i< [Qje 2,Qce 0 0].length),Xu 0 ((([]:List T).length:Nat):Int) (([]:List C).map C.lv) [Qje 2,Qce 0 0][i]=true:=fun i h=>by
   have:i=0\/i=1:=by simp at h;omega
   rcases this with rfl | rfl
   ·show Xu 0 0 [] (Qje 2)=true
    kernel_rfl
   ·show Xu 0 0 [] (Qce 0 0)=true
    kernel_rfl
  unfold checkT toldR;rw [if_pos ⟨⟨by omega,by omega⟩,by omega,by omega⟩,if_pos ⟨fun i h=>by simp at h,hr⟩];have e1:chkT [] 0 (hgt 9) [] (Qje 2) (Qce 0 0) 9= .ok ((),6):=by
   have:hgt 9=9+1:=rfl;rw [this,Qkv,if_neg (by omega)];unfold askR;rw [if_neg (by decide),if_neg (by decide),if_neg (by decide),if_neg (by decide),if_neg (by decide)];rw [Qhn,if_neg (by omega)];have e2:ruleR [] 0 (infT [] 0 8) (chkT [] 0 8) [] (Qje 2) (9 - 1 - 1)= .ok (Qiq [],7):=by
    unfold ruleR;rw [if_neg (by decide),if_neg (by decide),if_neg (by decide),if_neg (by decide),if_neg (by decide),if_neg (by decide),if_neg (by decide),if_neg (by decide),if_neg (by decide),if_neg (by decide),if_neg (by decide),if_pos (by rfl)];rfl
   rw [e2,Rs.next_ok];have h:LR [] 0 (Qiq []) (Qce 0 0) 7 (some (true,6)):=by
    by_cases hs:(Qiq []).sameB (Qce 0 0)=true
    ·exact .same (by omega) hs
    ·have h2:LR [] 0 (Qiq []) (Qce 0 0) 7 (some (Qwf [] [(0,0)],6)):= .sort (x:=Qiq []) (y:=Qce 0 0) (f1:=6) (by omega) (by simpa using hs) (Qnr rfl rfl (by omega)) (Qnr rfl rfl (by omega)) ⟨rfl,rfl⟩ ⟨rfl,rfl⟩
     rwa [show Qwf [] [(0,0)]=true from by kernel_rfl]at h2
   have hq:lqR [] (Qiq []) (Qce 0 0) 7= .ok (true,6):=by
    rcases Qnh [] (Qiq []) (Qce 0 0) (f:=7) (by omega)with ⟨v,h',e1,e2⟩ | ⟨h',e1,e2⟩
    ·have:=h.det e2;cases this;exact e1
    ·have:=h.det e2;cases this
   rw [hq,Rs.next_ok,if_pos rfl]
  rw [e1,Rs.next_ok]
 unfold bodyR;rw [if_pos (show Qqe.has=true from rfl)];rw [show Qqe.lv=0 from rfl,show Qqe.bo=Qje 2 from rfl,show Qqe.ty=Qce 0 0 from rfl,e]
theorem Wdj:rowsR ([]++ [Qqe]) ([]:List C).length 10= .ok 6:=by
 unfold rowsR;rw [if_pos ⟨by omega,by omega⟩];show rowR [Qqe] 1 0 10=_;rw [rowR,show([Qqe]:List C).take 0= [] from rfl,show([Qqe]:List C).getD 0 Qgz=Qqe from rfl];have:declR [] Qqe 10= .ok ((),6):=by
  unfold declR;rw [show Qb7 Qqe 10= .ok ((),10) by unfold Qb7;rw [if_pos (by decide)],Rs.next_ok,show typR [] Qqe 10= .ok ((),9)from Qt7 _ _,Rs.next_ok,Qz2]
 rw [this];rfl
theorem Qir{α:Type}{l:List C}{t:T}{ts:List T}{f:Int}{r:Rs α}(h0:0<=f)(h1:f<=1073741824)(ht:Xu 0 0 (l.map C.lv) t=false):toldR l 0 [] f (t::ts) r= .error 6:=by
 unfold toldR;rw [if_pos ⟨⟨by omega,by omega⟩,h0,h1⟩,if_neg];rintro⟨-,h⟩;have:=h 0 (by simp);have e:Xu 0 (([]:List T).length:Nat) (l.map C.lv) t=true:=this;rw [show(([]:List T).length:Nat)=(0:Nat)from rfl]at e;rw [show((0:Nat):Int)=0 from rfl,ht]at e;cases e
theorem Wdi:rowsR ([]++ [Qv6]) ([]:List C).length 10= .error (0,6):=by
 unfold rowsR;rw [if_pos ⟨by omega,by omega⟩];show rowR [Qv6] 1 0 10=_;rw [rowR,show([Qv6]:List C).take 0= [] from rfl,show([Qv6]:List C).getD 0 Qgz=Qv6 from rfl];have:declR [] Qv6 10= .error 6:=by
  unfold declR;rw [show Qb7 Qv6 10= .ok ((),10) by unfold Qb7;rw [if_pos (by decide +kernel)],Rs.next_ok];have:typR [] Qv6 10= .error 6:=by
   unfold typR;rw [show Qv6.lv=0 from rfl,show sortT [] 0 [] Qv6.ty 10= .error 6 from Qir (by omega) (by omega) (by kernel_rfl)];rfl
  rw [this,Rs.next_err]
 rw [this]
theorem Wdk:rowsR [Qny,Qp3] 0 10= .error (1,6):=by
 unfold rowsR;rw [if_pos ⟨by omega,by omega⟩];show rowR [Qny,Qp3] 2 0 10=_;rw [rowR,show([Qny,Qp3]:List C).take 0= [] from rfl,show([Qny,Qp3]:List C).getD 0 Qgz=Qny from rfl];have e1:declR [] Qny 10= .ok ((),9):=by
  unfold declR;rw [show Qb7 Qny 10= .ok ((),10) by unfold Qb7;rw [if_pos (by decide +kernel)],Rs.next_ok,show typR [] Qny 10= .ok ((),9)from Qt7 _ _,Rs.next_ok];rfl
 rw [e1];show rowR [Qny,Qp3] 1 1 9=_;rw [rowR,show([Qny,Qp3]:List C).take 1= [Qny] from rfl,show([Qny,Qp3]:List C).getD 1 Qgz=Qp3 from rfl];have e2:declR [Qny] Qp3 9= .error 6:=by
  unfold declR;rw [show Qb7 Qp3 9= .ok ((),9) by unfold Qb7;rw [if_pos (by decide +kernel)],Rs.next_ok];have:typR [Qny] Qp3 9= .error 6:=by
   unfold typR;rw [show Qp3.lv=0 from rfl,show sortT [Qny] 0 [] Qp3.ty 9= .error 6 from Qir (by omega) (by omega) (by kernel_rfl)];rfl
  rw [this,Rs.next_err]
 rw [e2]
end Go.Proofs.YtgloldepdhgfaaaGreatDoor
namespace Go.Proofs.YtgloldepdhgfaaaGreatDoor
set_option linter.unusedSimpArgs false
set_option linter.unusedVariables false
set_option linter.unusedSimpArgs false
set_option linter.unusedVariables false
set_option maxHeartbeats 10000000
set_option maxRecDepth 20000
open Go.RowKit
attribute [local simp] Qx Qm Qo Qp Wn Xg opD Qz Qr Qw Wi hOf Wj Xf Xd TK.isAgg TK.known Ws Wk Wc Qh D.ofV inB Wb Wp Xx Xz Zg Xc Xv Zh IntKind.min IntKind.max IntKind.signed IntKind.bits Wl Xy
def gr10(c:C):Bool:=decide (60<c.bo.dp 60) || decide (60<c.ty.dp 60)
theorem Qli(l:List C)(hl:l.length<=Ql)(hls:∀c,c∈l ->okC c):Sp 41 [Cs l, .int .i64 800] [] (rt (.int .i64 (Qeo Qfq 800 l 0))):=Qr0 l 800 Qfq hl (fun _ _=>rfl) (fun c hc _=>hls c hc)
theorem Qpl(l:List C)(hl:l.length<=Ql)(hls:∀c,c∈l ->okC c):∃b,Sp 21 [Cs l] [] (rt (.bool b))/\(b=false ->¬ Qeo Qfq 800 l 0 > 800):=by
 have h:=Qli l hl hls;generalize Qeo Qfq 800 l 0=v at h⊢;obtain⟨g,hg⟩:∃g,g=decide (800<v):=⟨_,rfl⟩
 refine⟨(l.take 800).any gr10 || g,?_,fun hb=>by
  intro h4;rw [hg,decide_eq_true (show 800<v by omega)]at hb
  simp at hb⟩
 have hl0:=hl;unfold Ql at hl0;unfold Cs at h;unfold Cs;obtain⟨R,hR⟩:∃R,R=((l.take 800).any gr10 || g):=⟨_,rfl⟩;rw [<- hR];have hE:∀c,Qbn c= .agg [.int .i64 c.lv, .int .i64 c.ty.k, .int .i64 c.ty.n, .int .i64 c.ty.a, .slice (c.ty.ls.map Qn) .any, .slice (c.ty.ks.map Qj) .any, .bool c.has, .int .i64 c.bo.k, .int .i64 c.bo.n, .int .i64 c.bo.a, .slice (c.bo.ls.map Qn) .any, .slice (c.bo.ks.map Qj) .any]:=fun c=>Qay c
 refine eN Tryz.func21 rfl (by decide) rfl rfl ?_;(refine sR fun K hK=>?_;(repeat rw [Qa];simp);refine hK _ _ _ ?_;clear hK K);refine Qc fun K1a hK1a=>?_
 (refine sR fun K hK=>?_;(repeat rw [Qa];simp);refine hK _ _ _ ?_;clear hK K);refine Qy ?_;refine Qa8 [2,4,5,6,7,8,9,10,11,12,13,14,15,16,17,18,19,20,21,22,23,24,25,26,27,28,29] [3] (fun n ys hl=>∃(k:Nat),ys= [.int .i64 k]/\n+k=l.length/\R=(((l.take 800).drop k).any gr10 || g)/\hl= []) (l.length) (by kernel_rfl) ?_ ?_
 ·exact⟨0,rfl,rfl,hR,rfl⟩
 ·rintro n1 ys hl A1 hA1 ⟨i,rfl,hn,hF,rfl⟩;have hA:=hA1;simp only [Qh,List.set,List.map_cons,List.map_nil,List.cons_append,List.nil_append];refine Qc fun K1b hK1b=>?_
  by_cases hi:i<l.length
  ·have hi':(i:Int)<l.length:=by omega
   by_cases h6:i<800
   ·have h6':(i:Int)<800:=by omega
    have hti:i<(l.take 800).length:=by rw [List.length_take];omega
    rw [List.drop_eq_getElem_cons hti,List.any_cons,List.getElem_take]at hF;obtain⟨x,hx⟩:∃x,l[i]=x:=⟨_,rfl⟩;have hxo:okC x:=by rw [<- hx];exact hls _ (List.getElem_mem hi)
    rw [hx]at hF;have hg1:gr10 x=(decide (60<x.bo.dp 60) || decide (60<x.ty.dp 60)):=rfl;rw [hg1]at hF;have d1:=Qpt x.bo 60 hxo.2.2;have d2:=Qpt x.ty 60 hxo.2.1;rw [Qb x.bo]at d1;rw [Qb x.ty]at d2;have hEx:=hE x;generalize x.bo.dp 60=w1 at d1 hF;generalize x.ty.dp 60=w2 at d2 hF;(refine sR fun K hK=>?_;(repeat rw [Qa];simp [hi,hi',h6,h6']);refine hK _ _ _ ?_;clear hK K);refine pT rfl ?_;refine Qg (hK1b _ _ _ ?_);clear hK1b K1b;refine Qc fun K1c hK1c=>?_
    refine Qy ?_;by_cases hw:60<w1
    ·(refine sR fun K hK=>?_;(repeat rw [Qa];simp [hi,hi',hx,hEx]));refine cXr (d1) ?_
     (repeat rw [Qa];simp [hw])
     (refine hK _ _ _ ?_;clear hK K);refine pT rfl ?_;(refine sR fun K hK=>?_;(repeat rw [Qa];simp);refine hK _ _ _ ?_;clear hK K);(refine Qe ?_;(try simp only [zs]);refine Qk.ret rfl (.inl ?_);simp [zM]);rw [hF];simp [hw]
    ·by_cases hw2:60<w2
     ·(refine sR fun K hK=>?_;(repeat rw [Qa];simp [hi,hi',hx,hEx]));refine cXr (d1) ?_
      (repeat rw [Qa];simp [hi,hi',hx,hEx,hw])
      refine cXr (d2) ?_
      (repeat rw [Qa];simp [hw,hw2])
      (refine hK _ _ _ ?_;clear hK K);refine pT rfl ?_;(refine sR fun K hK=>?_;(repeat rw [Qa];simp);refine hK _ _ _ ?_;clear hK K);(refine Qe ?_;(try simp only [zs]);refine Qk.ret rfl (.inl ?_);simp [zM]);rw [hF];simp [hw,hw2]
     ·(refine sR fun K hK=>?_;(repeat rw [Qa];simp [hi,hi',hx,hEx]));refine cXr (d1) ?_
      (repeat rw [Qa];simp [hi,hi',hx,hEx,hw])
      refine cXr (d2) ?_
      (repeat rw [Qa];simp [hw,hw2])
      (refine hK _ _ _ ?_;clear hK K);refine pF rfl ?_;refine Qg (hK1c _ _ _ ?_);clear hK1c K1c;have hw1:IntKind.i64.wrap ((i:Int)+1)=(i:Int)+1:=Qbp (by omega) (by omega);(refine Qi Wa ?_;(repeat rw [Qa];simp [hw1]));refine hA (n1 - 1) _ _ _ (LeT.refl _) (by omega) (by kernel_rfl) ?_;exact⟨i+1,rfl,by omega,by rw [hF];simp [hw,hw2],rfl⟩
   ·have h6':¬ (i:Int)<800:=by omega
    (refine sR fun K hK=>?_;(repeat rw [Qa];simp [hi,hi',h6,h6']);refine hK _ _ _ ?_;clear hK K);refine pF rfl ?_;refine Qab ?_;refine hK1a _ _ _ ?_;clear hK1b K1b;rw [List.drop_of_length_le (by rw [List.length_take];omega)]at hF;(refine sR fun K hK=>?_;(repeat rw [Qa];simp));refine cXr (h) ?_
    (repeat rw [Qa];simp)
    (refine hK _ _ _ ?_;clear hK K);(refine Qe ?_;(try simp only [zs]);refine Qk.ret rfl (.inl ?_);simp [zM]);rw [hF,hg];simp
  ·have hi':¬ (i:Int)<l.length:=by omega
   (refine sR fun K hK=>?_;(repeat rw [Qa];simp [hi,hi']);refine hK _ _ _ ?_;clear hK K);refine pF rfl ?_;refine Qab ?_;refine hK1a _ _ _ ?_;clear hK1b K1b;rw [List.drop_of_length_le (by rw [List.length_take];omega)]at hF;(refine sR fun K hK=>?_;(repeat rw [Qa];simp));refine cXr (h) ?_
   (repeat rw [Qa];simp)
   (refine hK _ _ _ ?_;clear hK K);(refine Qe ?_;(try simp only [zs]);refine Qk.ret rfl (.inl ?_);simp [zM]);rw [hF,hg];simp
theorem Waz(n:Int):Sp 58 [.int .i64 n] [] (rt (Qj (Qd5 n))):=by
 unfold Qd5;rw [Qe4];refine eN Tryz.func58 rfl (by decide) rfl rfl ?_;(refine sR fun K hK=>?_;(repeat rw [Qa];simp);refine hK _ _ _ ?_;clear hK K);(refine sR fun K hK=>?_;(repeat rw [Qa];simp);refine hK _ _ _ ?_;clear hK K);(refine Qe ?_;(try simp only [zs]);refine Qk.ret rfl (.inl ?_);simp [zM])
theorem Qvy(n:Int):Sp 57 [.int .i64 n] [] (rt (Qj (Qje n))):=by
 unfold Qje;rw [Qe4];refine eN Tryz.func57 rfl (by decide) rfl rfl ?_;(refine sR fun K hK=>?_;(repeat rw [Qa];simp);refine hK _ _ _ ?_;clear hK K);(refine sR fun K hK=>?_;(repeat rw [Qa];simp);refine hK _ _ _ ?_;clear hK K);(refine Qe ?_;(try simp only [zs]);refine Qk.ret rfl (.inl ?_);simp [zM])
theorem Qqr(v p:Int):Sp 56 [.int .i64 v, .int .i64 p] [] (rt (Qj (Qce v p))):=by
 unfold Qce;refine Spec.deepR (e:= .agg [.int .i64 2, .int .i64 0, .int .i64 0, .slice [.agg [.slice [.agg [.int .i64 v, .int .i64 p]] .full]] .any, .slice [] .any]) ?_ ?_
 rotate_left
 ·rw [Qe4];simp only [List.map_cons,List.map_nil,D.deep,D.deeps,Qn,Wv]
 refine eN Tryz.func56 rfl (by decide) rfl rfl ?_;(refine sR fun K hK=>?_;(repeat rw [Qa];simp);refine hK _ _ _ ?_;clear hK K);(refine sR fun K hK=>?_;(repeat rw [Qa];simp);refine hK _ _ _ ?_;clear hK K);(refine Qe ?_;(try simp only [zs]);refine Qk.ret rfl (.inl ?_);simp [zM])
theorem Wb3{a b:Int}(ha:I64 a)(hb:I64 b):okL [(a,b)]:=⟨by unfold Ql;simp,fun p hp=>by rw [List.mem_singleton.1 hp];exact⟨ha,hb⟩⟩
theorem Qs9{lv:Int}{ty bo:T}{has:Bool}(h:I64 lv)(h1:okT ty)(h2:okT bo):okC ⟨lv,ty,has,bo⟩:=⟨h,h1,h2⟩
theorem Qsx{v p:Int}(h:0<=v/\v<=100)(h2:0<=p/\p<=100):okT (Qce v p):= .mk Qc4 Qc4 Qc4 (by unfold Ql;simp) (fun l hl=>by rw [List.mem_singleton.1 hl];exact Wb3 Qc4 Qc4) (by unfold Ql;simp) (fun _ h=>nomatch h)
theorem Qro{k n:Int}(hk:0<=k/\k<=100)(h:0<=n/\n<=100):okT (.mk k n 0 [] []):= .mk Qc4 Qc4 Qc4 (by unfold Ql;simp) (fun _ h=>nomatch h) (by unfold Ql;simp) (fun _ h=>nomatch h)
theorem Qxh{c:C}(h:okC c)(h1:c.ty.nsz<=14000)(h2:c.bo.nsz<=14000):RowOk ([]++ [c]):=⟨by simp,fun x hx=>by simp at hx;subst hx;exact⟨h,h1,h2⟩⟩
theorem Qp5:Sp 20 [] [] (rt (.bool true)):=by
 have ok1:okC Qqe:=Qs9 Qc4 (Qsx (by omega) (by omega)) (Qro (by omega) (by omega));have ok2:okC Qv6:=Qs9 Qc4 (Qro (by omega) (by omega)) Qcy;have ok3:okC Qp3:=Qs9 Qc4 (Qro (by omega) (by omega)) Qcy;have ok4:okC Qny:=Qs9 Qc4 (Qsx (by omega) (by omega)) Qcy;have a1:=Qk1 (Qxh ok1 (by decide +kernel) (by decide +kernel)) (f:=10) (by omega);have a2:=Qk1 (Qxh ok2 (by decide +kernel) (by decide +kernel)) (f:=10) (by omega)
 have a3:=Qp8 (l:= [Qny,Qp3]) ⟨by simp,fun x hx=>by
  simp only [List.mem_cons,List.not_mem_nil,or_false]at hx;rcases hx with rfl | rfl
  ·exact⟨ok4,by decide +kernel,by decide +kernel⟩
  ·exact⟨ok3,by decide +kernel,by decide +kernel⟩⟩ (f:=10) (by omega)
 unfold addD at a1 a2;unfold allD at a3;rw [Wdj]at a1;rw [Wdi]at a2;rw [Wdk]at a3;dsimp only at a1 a2 a3;rw [if_pos ⟨by omega,by omega⟩]at a3;have s0:=Qqr 0 0;have f2:=Qvy 2;have v0:=Waz 0;have L1:1<=Ql:=by unfold Ql;omega
 have L2:2<=Ql:=by unfold Ql;omega
 unfold Cs at a1 a2 a3;simp only [List.nil_append,List.map_cons,List.map_nil]at a1 a2 a3;have e1:=Qay Qqe;have e2:=Qay Qv6;have e3:=Qay Qp3;have e4:=Qay Qny;have t0:=Qb (Qce 0 0);have t2:=Qb (Qje 2);have tv:=Qb (Qd5 0);rw [e1]at a1;rw [e2]at a2;rw [e3,e4]at a3;rw [t0]at s0;rw [t2]at f2;rw [tv]at v0;simp only [Qqe,Qv6,Qp3,Qny,Xa,T.k_mk,T.n_mk,T.a_mk,T.ls_mk,T.ks_mk,List.map_nil]at a1 a2 a3;generalize Qce 0 0=S at s0 a1 a3;generalize Qje 2=F at f2 a1;generalize Qd5 0=V at v0 a3;refine eN Tryz.func20 rfl (by decide) rfl rfl ?_;(refine sR fun K hK=>?_;(repeat rw [Qa];simp);refine hK _ _ _ ?_;clear hK K);(refine sR fun K hK=>?_;(repeat rw [Qa];simp));refine cXr (s0) ?_
 (repeat rw [Qa];simp)
 refine cXr (f2) ?_
 (repeat rw [Qa];simp)
 refine cXr (a1) ?_
 (repeat rw [Qa];simp)
 (refine hK _ _ _ ?_;clear hK K);(refine sR fun K hK=>?_;(repeat rw [Qa];simp));refine cXr (a2) ?_
 (repeat rw [Qa];simp)
 (refine hK _ _ _ ?_;clear hK K);(refine sR fun K hK=>?_;(repeat rw [Qa];simp));refine cXr (s0) ?_
 (repeat rw [Qa];simp)
 refine cXr (v0) ?_
 (repeat rw [Qa];simp [L2])
 refine Wm.pureD Qf (a3) ?_ (by simp [D.deeps,D.deep,D.fgts,D.fgt]) (by simp [D.pures,D.pure,Cp.free,D.pures_map]) (by simp [Out.pure,D.pure,D.pures,Cp.free,D.pures_map]);(try simp only [zr]);(repeat rw [Qa];simp);(refine hK _ _ _ ?_;clear hK K);(refine sR fun K hK=>?_;(repeat rw [Qa];simp);refine hK _ _ _ ?_;clear hK K);(refine Qe ?_;(try simp only [zs]);refine Qk.ret rfl (.inl ?_);simp [zM])
def C.eqB(a b:C):Bool:=decide (a.lv=b.lv) && a.ty.eqB b.ty && decide (a.has=b.has) && a.bo.eqB b.bo
theorem C.eqB_self(c:C):c.eqB c=true:=by unfold C.eqB;simp [(T.eqB_iff _ _).2]
theorem Ql9{α:Type}{p:α ->α ->Bool}(h:∀x,p x x=true):∀l:List α,Qa0 p l l=true
 | []=>rfl
 | a::r=>by rw [Qa0,h a,Ql9 h r];rfl
theorem Wc4(c d:C)(hc:okC c)(hd:okC d):Sp 27 [Qbn c,Qbn d] [] (rt (.bool (c.eqB d))):=by
 have h1:=Qtt c.ty d.ty hc.2.1 hd.2.1;have h2:=Qtt c.bo d.bo hc.2.2 hd.2.2;unfold C.eqB;rw [Qb c.ty,Qb d.ty]at h1;rw [Qb c.bo,Qb d.bo]at h2;rw [Qay c,Qay d];generalize c.ty.eqB d.ty=B1 at h1⊢;generalize c.bo.eqB d.bo=B2 at h2⊢;refine eN Tryz.func27 rfl (by decide) rfl rfl ?_;(refine sR fun K hK=>?_;(repeat rw [Qa];simp);refine hK _ _ _ ?_;clear hK K);by_cases q1:c.lv=d.lv
 ·cases B1 with
  | true =>
   (refine sR fun K hK=>?_;(repeat rw [Qa];simp [q1]));refine cXr (h1) ?_
   (repeat rw [Qa];simp [q1,Qrb])
   by_cases q3:c.has=d.has
   ·iterate 5 rw [if_pos q3]
    refine cXr (h2) ?_
    (repeat rw [Qa];simp [q3])
    (refine hK _ _ _ ?_;clear hK K);(refine Qe ?_;(try simp only [zs]);refine Qk.ret rfl (.inl ?_);simp [zM]);simp [q1,q3]
   ·repeat(first | rw [if_neg q3] | refine⟨q3,?_⟩)
    (refine hK _ _ _ ?_;clear hK K);(refine Qe ?_;(try simp only [zs]);refine Qk.ret rfl (.inl ?_);simp [zM]);simp [q3]
  | false =>
   (refine sR fun K hK=>?_;(repeat rw [Qa];simp [q1]));refine cXr (h1) ?_
   (repeat rw [Qa];simp [q1])
   (refine hK _ _ _ ?_;clear hK K);(refine Qe ?_;(try simp only [zs]);refine Qk.ret rfl (.inl ?_);simp [zM])
 ·(refine sR fun K hK=>?_;(repeat rw [Qa];simp [q1]);refine hK _ _ _ ?_;clear hK K);(refine Qe ?_;(try simp only [zs]);refine Qk.ret rfl (.inl ?_);simp [zM]);simp [q1]
theorem Qm3(p:C ->C ->Bool)(l m:List (C))(hl:l.length<=Ql)(hm:m.length<=Ql)(hg:∀x y,x∈l ->y∈m ->Sp 27 [Qbn x,Qbn y] [] (rt (.bool (p x y)))) :
  Sp 26 [.slice (l.map Qbn) .any, .slice (m.map Qbn) .any] [] (rt (.bool (Qa0 p l m))):=by
 obtain⟨R,hR⟩:∃R,R=Qa0 p l m:=⟨_,rfl⟩;rw [<- hR];have hl0:=hl;unfold Ql at hl0;refine eN Tryz.func26 rfl (by decide) rfl rfl ?_;(refine sR fun K hK=>?_;(repeat rw [Qa];simp);refine hK _ _ _ ?_;clear hK K);refine Qc fun K1 hK1=>?_
 by_cases hlen:l.length=m.length
 ·have hlen':(l.length:Int)=m.length:=by omega
  (refine sR fun K hK=>?_;(repeat rw [Qa];simp [hlen,hlen']);refine hK _ _ _ ?_;clear hK K);refine pF rfl ?_;refine Qg (hK1 _ _ _ ?_);clear hK1 K1;refine Qc fun K1 hK1=>?_
  (refine sR fun K hK=>?_;(repeat rw [Qa];simp);refine hK _ _ _ ?_;clear hK K);refine Qy ?_;refine Qa8 [4,11,12,13,14,15,16,17,18,19,20,21,22,23,24,25,26] [5] (fun n ys hl=>∃(k:Nat),ys= [.int .i64 k]/\n+k=l.length/\R=Qa0 p (l.drop k) (m.drop k)/\hl= []) (l.length) (by kernel_rfl) ?_ ?_
  ·exact⟨0,rfl,rfl,hR,rfl⟩
  ·rintro n ys hl A hA ⟨i,rfl,hn,hF,rfl⟩;simp only [Qh,List.set,List.map_cons,List.map_nil,List.cons_append,List.nil_append];refine Qc fun K2 hK2=>?_
   by_cases hi:i<l.length
   ·have hi2:i<m.length:=by omega
    have hi':(i:Int)<l.length:=by omega
    have hi2':(i:Int)<m.length:=by omega
    (refine sR fun K hK=>?_;(repeat rw [Qa];simp [hi,hi']);refine hK _ _ _ ?_;clear hK K);refine pT rfl ?_;refine Qg (hK2 _ _ _ ?_);clear hK2 K2;refine Qc fun K3 hK3=>?_
    refine Qy ?_;rw [Qei hi hi2]at hF;have hrec:=hg l[i] m[i] (List.getElem_mem hi) (List.getElem_mem hi2);obtain⟨x,hx⟩:∃x,l[i]=x:=⟨_,rfl⟩;obtain⟨y,hy⟩:∃y,m[i]=y:=⟨_,rfl⟩;rw [hx,hy]at hrec hF;have hEx:=Qay x;have hEy:=Qay y;rw [hEx,hEy]at hrec;generalize p x y=B at hrec hF;(refine Qc fun K hK=>?_;refine dR fun KT hKT=>?_;(repeat rw [Qd];simp [hi,hi',hx,hi2,hi2',hy,hEx,hEy]));refine cYp (hrec) ?_;(try simp only [zq]);(repeat rw [Qd];simp);(refine hKT _ _ _ _ (by kernel_rfl) ?_;clear hKT KT);(refine hK _ _ _ ?_;clear hK K);cases B with
    | true =>
     refine pF rfl ?_;refine Qg (hK3 _ _ _ ?_);clear hK3 K3;have hw1:IntKind.i64.wrap ((i:Int)+1)=(i:Int)+1:=Qbp (by omega) (by omega);(refine Qi Wa ?_;(repeat rw [Qa];simp [hw1]));refine hA (n - 1) _ _ _ (LeT.refl _) (by omega) (by kernel_rfl) ?_;exact⟨i+1,rfl,by omega,by simpa using hF,rfl⟩
    | false =>
     refine pT rfl ?_;(refine sR fun K hK=>?_;(repeat rw [Qa];simp);refine hK _ _ _ ?_;clear hK K);(refine Qe ?_;(try simp only [zs]);refine Qk.ret rfl (.inl ?_);simp [zM]);simpa using hF
   ·have hi':¬ (i:Int)<l.length:=by omega
    (refine sR fun K hK=>?_;(repeat rw [Qa];simp [hi,hi']);refine hK _ _ _ ?_;clear hK K);refine pF rfl ?_;refine Qab ?_;refine hK1 _ _ _ ?_;rw [List.drop_of_length_le (by omega),List.drop_of_length_le (by omega)]at hF;have hF':R=true:=hF;subst hF';(refine sR fun K hK=>?_;(repeat rw [Qa];simp);refine hK _ _ _ ?_;clear hK K);(refine Qe ?_;(try simp only [zs]);refine Qk.ret rfl (.inl ?_);simp [zM])
 ·have hlen':¬ (l.length:Int)=m.length:=by omega
  (refine sR fun K hK=>?_;(repeat rw [Qa];simp [hlen,hlen']);refine hK _ _ _ ?_;clear hK K);refine pT rfl ?_;(refine sR fun K hK=>?_;(repeat rw [Qa];simp);refine hK _ _ _ ?_;clear hK K);(refine Qe ?_;(try simp only [zs]);refine Qk.ret rfl (.inl ?_);simp [zM]);rw [hR];exact Qeh hlen
theorem Qzd(l m:List C)(hl:l.length<=Ql)(hm:m.length<=Ql)(hls:∀c,c∈l ->okC c)(hms:∀c,c∈m ->okC c):Sp 26 [Cs l,Cs m] [] (rt (.bool (Qa0 C.eqB l m))) :=
 Qm3 C.eqB l m hl hm fun x y hx hy=>Wc4 x y (hls x hx) (hms y hy)
theorem Qze(l:List C)(hl:l.length<=Ql)(hls:∀c,c∈l ->okC c):Sp 26 [Cs l,Cs l] [] (rt (.bool true)):=by
 have:=Qzd l l hl hl hls hls
 rwa [Ql9 C.eqB_self]at this
end Go.Proofs.YtgloldepdhgfaaaGreatDoor
