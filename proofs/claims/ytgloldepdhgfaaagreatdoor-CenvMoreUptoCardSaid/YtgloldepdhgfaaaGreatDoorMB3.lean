/-
  MB3: the texts Tow Twk Tlf Tpt Tsz Tfr Lmap Lhid Lay Lsort Llev Lmad Lleq Llaw Lpd Lkit Lput Lpt2 Tlv Tsm Tpla Hdd Tok Hdp Hdl Cvd Cve Lrt Ccd Ccl, one behind the other.
-/
import Derived.WalkKit
import Derived.Maps.RangeWalk
import Derived.Shelf.SlIterI.Nil
import Derived.Shelf.SortM.Plain
import Derived.Shelf.SortM.SortNone
import Derived.Ground.GgzProg
import Derived.Ground.SlgmProg
import Derived.Test.YtgloldepdhgfaaaGreatDoorChecked
import Derived.Test.YtgloldepdhgfaaaGreatDoorMB2
namespace Go.Proofs.YtgloldepdhgfaaaGreatDoor
set_option linter.unusedSimpArgs false
set_option linter.unusedVariables false
set_option maxHeartbeats 10000000
set_option maxRecDepth 20000
open Go.RowKit
attribute [local simp] Qx Qm Qo Qp Wn Xg opD Wc Qr Qw Wi hOf Wj Xf Xd TK.isAgg TK.known Ws Wk Qz Qh D.ofV inB Qy Wp Xy Za Zg Xc Xw Zh IntKind.min IntKind.max IntKind.signed IntKind.bits Wm Xz
theorem Qt2{α:Type}:∀{l:List α} {k:Nat} {x:α},l[k]?=some x ->l.set k x=l
 | [],k,x,h=>by simp at h
 | a::r,0,x,h=>by simp at h;rw[h];rfl
 | a::r,k+1,x,h=>by rw[List.set_cons_succ,Qt2 (by simpa using h)]
theorem Qt9(t:T)(ht:okT t):Sp 101 [Qj t] [] (rt (Qj t)):=by
 obtain⟨kk,nn,aa,ls,ks⟩:=t;have hll:ls.length<=Ql:=ht.ll;have hls:=ht.ls;simp only[T.ls_mk]at hls;have hcl:=Qs2 ls hll;rw[Qb];simp only[T.k_mk,T.n_mk,T.a_mk,T.ls_mk,T.ks_mk];refine eN Tryz.func101 rfl (by decide) rfl rfl ?_;(refine sI fun K Z=>?_;(repeat rw[Qa];simp);refine Z ?_;clear Z K);(refine sR fun K hK=>?_;(repeat rw[Qa];simp));refine Wl.objs Qf [] true hcl ?_ ?_ (by decide) (by simp) (by simp[zA]) (by simp[zA]) (by simp[zA]) (by simp[zA])
 ·rintro o hc (⟨hn,ho,rfl⟩ | ⟨rfl,rfl⟩)
  ·refine⟨true,?_⟩;rw[show told true o=_ from ho];clear ho;have hn':ls= []:=by cases ls with | nil=>rfl | cons _ _=>simp at hn
   subst hn';simp[zU]
   (repeat rw[Qa];simp)
   (refine hK _ _ _ ?_;clear hK K);refine Qc fun K1 hK1=>?_
   (refine sI fun K Z=>?_;(repeat rw[Qa];simp);refine Z ?_;clear Z K);refine Xm Wa Qf (ti:=3) (tk:=11) (tn:=10) (td:=12) (ts:=26) [3,11,12,13,14,15,16,17,18,19,20,21,22,23,24,25,26] [] (0) (fun k ys hl=>ys= []/\hl= [.cells 27 [.int .i64 kk, .int .i64 nn, .int .i64 aa, .slice [] .any, .slice (ks.map Qj) .any], .cells 27 [.int .i64 0, .int .i64 0, .int .i64 0, .slice [] .full, .slice [] .full]]) rfl rfl rfl rfl rfl rfl rfl rfl rfl rfl rfl rfl (by simp) (by decide) rfl (by first | assumption | omega | (unfold Ql;omega)) rfl (by kernel_rfl) (by decide) ?_ ?_ ?_
   ·exact⟨rfl,rfl⟩
   ·rintro i ys hl A hi;exact absurd hi (by omega)
   ·rintro ys hl tl' ⟨rfl,rfl⟩ htl;refine hK1 _ _ _ (Xo htl ?_);simp only[Qh,List.set,List.map_cons,List.map_nil,List.cons_append,List.nil_append];(refine sI fun K Z=>?_;(repeat rw[Qa];simp);refine Z ?_;clear Z K);(refine Qe ?_;(try simp only[zs]);refine Qk.ret rfl (.inl ?_);simp[zM])
  ·refine⟨false,?_⟩;simp[zU]
   (repeat rw[Qa];simp)
   (refine hK _ _ _ ?_;clear hK K);refine Qc fun K1 hK1=>?_
   (refine sI fun K Z=>?_;(repeat rw[Qa];simp);refine Z ?_;clear Z K);refine Xm Wa Qf (ti:=3) (tk:=11) (tn:=10) (td:=12) (ts:=26) [3,11,12,13,14,15,16,17,18,19,20,21,22,23,24,25,26] [] (ls.length) (fun k ys hl=>ys= []/\hl= [.cells 27 [.int .i64 kk, .int .i64 nn, .int .i64 aa, .own 2 ls.length, .slice (ks.map Qj) .any], .cells 27 [.int .i64 0, .int .i64 0, .int .i64 0, .slice [] .full, .slice [] .full], .row 1 (ls.map Qn)]) rfl rfl rfl rfl rfl rfl rfl rfl rfl rfl rfl rfl (by simp) (by decide) rfl (by first | assumption | omega | (unfold Ql;omega)) rfl (by kernel_rfl) (by decide) ?_ ?_ ?_
   ·exact⟨rfl,rfl⟩
   ·rintro i ys hl A hi ⟨rfl,rfl⟩ hA hA2;simp only[Qh,List.set,List.map_cons,List.map_nil,List.cons_append,List.nil_append];have hi':(i:Int)<ls.length:=by omega
    have hcp:=Qs1 ls[i] (hls _ (List.getElem_mem hi)).1;(refine sI fun K Z=>?_;(repeat rw[Qa];simp);refine Z ?_;clear Z K);(refine dR fun KT hKT=>?_;(repeat rw[Qd];simp[hi,hi',Qn]));refine cYp (hcp) ?_;(try simp only[zq]);(repeat rw[Qd];simp[hi,hi',Qn]);(refine hKT _ _ _ _ (by kernel_rfl) ?_;clear hKT KT);rw[show reD (D.agg [D.slice (List.map Wv ls[i]) Cp.any]) [D.slice (List.map Wv ls[i]) Cp.any]=Qn ls[i] from rfl,Qt2 (by simp[hi])];(refine hA _ _ _ (LeT.refl _) (by kernel_rfl) ?_ rfl;simp only[Qb4,List.map_cons,List.map_nil]);exact⟨trivial,trivial⟩
   ·rintro ys hl tl' ⟨rfl,rfl⟩ htl;refine hK1 _ _ _ (Xo htl ?_);simp only[Qh,List.set,List.map_cons,List.map_nil,List.cons_append,List.nil_append];(refine Qei 2 rfl ?_;simp[D.frzs,D.frz,HO.frz,Qam,FK.isB,FK.isM,FK.isO,D.isLen]);(refine sI fun K Z=>?_;(repeat rw[Qa];simp);refine Z ?_;clear Z K);(refine Qe ?_;(try simp only[zs]);refine Qk.ret rfl (.inl ?_);simp[zM])
 ·rintro o hc (⟨hn,ho,rfl⟩ | ⟨rfl,rfl⟩) <;> simp
def Qgv(d:Int)(g:FuncId)(cap:List D):D:= .agg [.int .i64 d, .fn (.func g) [] cap]
def Xl(d k:Int)(i:Int):Int:=if Qba k i then IntKind.i64.wrap (d+1)else d
theorem Qmq(d n:Int):Sp 100 [.agg [.int .i64 d], .int .i64 n] [] (rt (.tuple [.int .i64 (IntKind.i64.wrap (n - d)), .bool (decide (d<=n))])):=by
 refine eN Tryz.func100 rfl (by decide) rfl rfl ?_;(refine sI fun K Z=>?_;(repeat rw[Qa];simp);refine Z ?_;clear Z K);(refine Qc fun K hK=>?_;refine dR fun KT hKT=>?_;(repeat rw[Qd];simp));(refine hKT _ _ _ _ (by kernel_rfl) ?_;clear hKT KT);(refine hK _ _ _ ?_;clear hK K);(refine Qe ?_;(try simp only[zs]);refine Qk.ret rfl (.inl ?_);simp[zM])
theorem Qxh(d k:Int)(i:Int)(g:FuncId)(cap:List D)(hp:D.pures cap=true):Sp 149 [Qgv d g cap, .int .i64 k, .int .i64 i] [] (rt (Qgv (Xl d k i) g cap)):=by
 have hb:=Qgu k i;refine eN Tryz.func149 rfl (by decide) rfl rfl ?_;unfold Qgv Xl;(refine sI fun K Z=>?_;(repeat rw[Qa];simp);refine Z ?_;clear Z K);refine Qc fun K1 hK1=>?_
 cases hbb:Qba k i with
 | true =>
  rw[hbb]at hb;(refine sR fun K hK=>?_;(repeat rw[Qa];simp));refine cXr (hb) ?_
  (repeat rw[Qa];simp)
  (refine hK _ _ _ ?_;clear hK K);refine pT rfl ?_;(refine Qi Wa ?_;(repeat rw[Qa];simp));refine hK1 _ _ _ ?_;(refine sI fun K Z=>?_;(repeat rw[Qa];simp);refine Z ?_;clear Z K);(refine Qe ?_;(try simp only[zs]);refine Qk.ret rfl (.inl ?_);simp[zM]);simp[hbb]
 | false =>
  rw[hbb]at hb;(refine sR fun K hK=>?_;(repeat rw[Qa];simp));refine cXr (hb) ?_
  (repeat rw[Qa];simp)
  (refine hK _ _ _ ?_;clear hK K);refine pF rfl ?_;refine Qg (hK1 _ _ _ ?_);(refine sI fun K Z=>?_;(repeat rw[Qa];simp);refine Z ?_;clear Z K);(refine Qe ?_;(try simp only[zs]);refine Qk.ret rfl (.inl ?_);simp[zM]);simp[hbb]
abbrev Turn:=Int ->T ->Sum T (Int×List LV)
mutual
def T.walk(turn:Turn):T ->Int ->T
 | .mk k n a ls ks,d=>match turn d (.mk k n a ls ks)with
  | .inl u=>u
  | .inr x=> .mk k x.1 a x.2 (T.walks turn k ks 0 d)
def T.walks(turn:Turn)(k:Int):List T ->Nat ->Int ->List T
 | [],_,_=> []
 | t::r,i,d=>T.walk turn t (Xl d k i)::T.walks turn k r (i+1) d
end
theorem T.walks_length(turn:Turn)(k d:Int):∀(ks:List T) (i:Nat),(T.walks turn k ks i d).length=ks.length
 | [],i=>rfl
 | t::r,i=>by rw[T.walks,List.length_cons,List.length_cons,T.walks_length turn k d r (i+1)]
theorem T.walks_snoc(turn:Turn)(k d:Int):∀(ks:List T) (i j:Nat) (h:j<ks.length),T.walks turn k (ks.take (j+1)) i d=T.walks turn k (ks.take j) i d++ [T.walk turn ks[j] (Xl d k ((i+j:Nat):Int))]
 | [],i,j,h=>by simp at h
 | t::r,i,0,h=>by simp[T.walks]
 | t::r,i,j+1,h=>by
  have h':j<r.length:=by simpa using h
  simp only[List.take_succ_cons,T.walks,List.cons_append,List.getElem_cons_succ];rw[T.walks_snoc turn k d r (i+1) j h',show i+1+j=i+(j+1) by omega]
mutual
def T.deep:T ->Nat
 | .mk _ _ _ _ ks=>1+T.deeps ks
def T.deeps:List T ->Nat
 | []=>0
 | t::r=>max (T.deep t) (T.deeps r)
end
theorem T.deep_mem{t:T}{ks:List T}(h:t∈ks):t.deep<=T.deeps ks:=by
 induction ks with
 | nil=>cases h
 | cons x r ih =>
  rw[T.deeps];cases h with
  | head=>omega
  | tail _ hm=>have:=ih hm;omega
theorem T.deep_kid{t:T}{k n a:Int}{ls:List LV}{ks:List T}(h:t∈ks):t.deep+1<=(T.mk k n a ls ks).deep:=by
 have:=T.deep_mem h;rw[T.deep];omega
def DM:Nat:=1099511627776
def Wb4(d:Int)(t:T):Prop:=0<=d/\d+t.deep<=DM
theorem Wb4.kid{d k n a:Int}{ls:List LV}{ks:List T}(h:Wb4 d (.mk k n a ls ks)){t:T}(ht:t∈ks)(i:Int):Wb4 (Xl d k i) t:=by
 have h1:=T.deep_kid (k:=k) (n:=n) (a:=a) (ls:=ls) ht;obtain⟨h2,h3⟩:=h;unfold DM at h3;unfold Wb4 Xl DM;split
 ·rw[Qbu (by omega) (by omega)];omega
 ·omega
def Wbz(turn:Turn)(k d:Int)(ks:List T)(j:Nat):List T:=T.walks turn k (ks.take j) 0 d
theorem Qxv{turn:Turn}{k d:Int}{ks:List T}{j:Nat}(h:j<ks.length):Wbz turn k d ks (j+1)=Wbz turn k d ks j++ [T.walk turn ks[j] (Xl d k j)]:=by
 unfold Wbz;rw[T.walks_snoc turn k d ks 0 j h,Nat.zero_add]
theorem Wce{turn:Turn}{k d:Int}{ks:List T}{j:Nat}(h:ks.length<=j):Wbz turn k d ks j=T.walks turn k ks 0 d:=by unfold Wbz;rw[List.take_of_length_le h]
theorem Wcd{turn:Turn}{k d:Int}{ks:List T}{j:Nat}(h:j<=ks.length):(Wbz turn k d ks j).length=j:=by unfold Wbz;rw[T.walks_length,List.length_take];omega
def Qce(turn:Turn)(d:Int)(t:T):D:=match turn d t with
 | .inl u=> .tuple [Qj u, .bool true]
 | .inr x=> .tuple [Qj (.mk t.k x.1 t.a x.2 t.ks), .bool false]
theorem Qiq(turn:Turn)(g:FuncId)(cap:List D)(hcf:D.fgts cap=cap)(hp:D.pures cap=true)(hg:∀d t,Wb4 d t ->okT t ->Sp g ([Qgv d g cap,Qj t]++cap) [] (rt (Qce turn d t)))(t:T) :
  ∀d,Wb4 d t ->okT t ->Sp 102 [Qgv d g cap,Qj t] [] (rt (Qj (T.walk turn t d))):=by
 induction t using T.ind with
 | h kk nn aa ls ks ih =>
  intro d hfit ht;have hgt:=hg d _ hfit ht;have hcN:∀p,D.okNs p cap=true:=fun p=>D.okNs_pure p cap hp
  have hcR:∀σ,D.rens σ cap=cap:=fun σ=>D.rens_pure σ cap hp
  have hkl:ks.length<=Ql:=ht.kl;have hks:∀x,x∈ks ->okT x:=ht.ks;have hw:T.walk turn (.mk kk nn aa ls ks) d=match turn d (.mk kk nn aa ls ks)with
   | .inl u=>u
   | .inr x=> .mk kk x.1 aa x.2 (T.walks turn kk ks 0 d):=by rw[T.walk]
  rw[hw];have hE:Qj (.mk kk nn aa ls ks)= .agg [.int .i64 kk, .int .i64 nn, .int .i64 aa, .slice (ls.map Qn) .any, .slice (ks.map Qj) .any]:=Qb _;unfold Qgv at hgt⊢;unfold Qce at hgt;rw[hE]at hgt⊢;cases hturn:turn d (.mk kk nn aa ls ks)with
  | inl u =>
   simp only[hturn]at hgt;refine eN Tryz.func102 rfl (by decide) rfl rfl ?_;(refine sI fun K Z=>?_;(repeat rw[Qa];simp);refine Z ?_;clear Z K);(refine sR fun K hK=>?_;(repeat rw[Qa];simp));refine Wl.pure Qf hgt ?_ (by simp[D.fgts,D.fgt,hcf]) (by simp[D.pures,D.pure,Cp.free,hp]) (by simp[Out.pure,D.pure,D.pures]);(try simp only[zr]);(repeat rw[Qa];simp);(refine hK _ _ _ ?_;clear hK K);refine Qc fun K1 hK1=>?_
   (refine sI fun K Z=>?_;(repeat rw[Qa];simp);refine Z ?_;clear Z K);refine pT rfl ?_;(refine sI fun K Z=>?_;(repeat rw[Qa];simp);refine Z ?_;clear Z K);(refine Qe ?_;(try simp only[zs]);refine Qk.ret rfl (.inl ?_);simp[zM]);exact(Qb u).symm
  | inr x =>
   simp only[hturn,T.k_mk,T.a_mk,T.ks_mk]at hgt;rw[Qb]at hgt;simp only[T.k_mk,T.n_mk,T.a_mk,T.ls_mk,T.ks_mk]at hgt;refine eN Tryz.func102 rfl (by decide) rfl rfl ?_;(refine sI fun K Z=>?_;(repeat rw[Qa];simp);refine Z ?_;clear Z K);(refine sR fun K hK=>?_;(repeat rw[Qa];simp));refine Wl.pure Qf hgt ?_ (by simp[D.fgts,D.fgt,hcf]) (by simp[D.pures,D.pure,Cp.free,hp]) (by simp[Out.pure,D.pure,D.pures,Cp.free]);(try simp only[zr]);(repeat rw[Qa];simp);(refine hK _ _ _ ?_;clear hK K);refine Qc fun K1 hK1=>?_
   (refine sI fun K Z=>?_;(repeat rw[Qa];simp);refine Z ?_;clear Z K);refine pF rfl ?_;refine Qg (hK1 _ _ _ ?_);clear hK1 K1;(refine sI fun K Z=>?_;(repeat rw[Qa];simp);refine Z ?_;clear Z K);(refine sI fun K Z=>?_;(repeat rw[Qa];simp);refine Z ?_;clear Z K);refine Qnb 3 4 (ty:=27) (ds:= [.int .i64 kk, .int .i64 x.1, .int .i64 aa, .slice (x.2.map Qn) .any, .slice [] .full]) rfl ?_;simp[D.tokd];refine Qc fun K1 hK1=>?_
   (refine sI fun K Z=>?_;(repeat rw[Qa];simp);refine Z ?_;clear Z K);refine Xm Wa Qf (ti:=3) (tk:=25) (tn:=24) (td:=26) (ts:=42) [8,9,25,26,27,28,29,30,31,32,33,34,35,36,37,38,39,40,41,42] [] (ks.length) (fun k ys hl=>ys= []/\hl= [.cells 143 [.int .i64 d, .fn (.func g) [] cap], .cells 27 [.int .i64 kk, .int .i64 nn, .int .i64 aa, .slice (ls.map Qn) .any, .slice (ks.map Qj) .any], .cells 27 [.int .i64 0, .int .i64 0, .int .i64 0, .slice [] .full, .slice [] .full], .cells 27 [.int .i64 kk, .int .i64 x.1, .int .i64 aa, .slice (x.2.map Qn) .any, .slice ((Wbz turn kk d ks k).map Qj) (.tok 4)], .tok]) rfl rfl rfl rfl rfl rfl rfl rfl rfl rfl rfl rfl (by simp) (by decide) rfl (by first | assumption | omega | (unfold Ql;omega)) rfl (by kernel_rfl) (by decide) ?_ ?_ ?_
   ·exact⟨rfl,rfl⟩
   ·rintro i ys hl A hi ⟨rfl,rfl⟩ hA hA2;simp only[Qh,List.set,List.map_cons,List.map_nil,List.cons_append,List.nil_append];have hi':(i:Int)<ks.length:=by omega
    have hsn:=Qxv (turn:=turn) (k:=kk) (d:=d) hi;have hln:=Wcd (turn:=turn) (k:=kk) (d:=d) (Nat.le_of_lt hi);have hrec:=ih ks[i] (List.getElem_mem hi) (Xl d kk i) (hfit.kid (List.getElem_mem hi) i) (hks _ (List.getElem_mem hi));have hbel:=Qxh d kk i g cap hp;unfold Qgv at hrec hbel;obtain⟨y,hy⟩:∃y,ks[i]=y:=⟨_,rfl⟩;rw[hy]at hrec hsn;have hEy:=Qb y;rw[hEy]at hrec;have hel:(Wbz turn kk d ks i).length+1<=Ql:=by omega
    generalize Wbz turn kk d ks i=es at hsn hln hel⊢;(refine sI fun K Z=>?_;(repeat rw[Qa];simp[hi,hi',hy,hEy]);refine Z ?_;clear Z K);(refine dR fun KT hKT=>?_;(repeat rw[Qd];simp[hi,hi',hy]));refine Xp.pure Qf (hbel) ?_ (by simp[D.fgts,D.fgt,hp]) (by simp[D.pures,D.pure,Cp.free,D.pures_map,hp]) (by simp[Out.pure,D.pure,D.pures,Cp.free,D.pures_map,hp]);(try simp only[zq]);(repeat rw[Qd];simp[hi,hi',hy]);refine Xp.pure Qf (hrec) ?_ (by simp[D.fgts,D.fgt,hp]) (by simp[D.pures,D.pure,Cp.free,D.pures_map,hp]) (by simp[Out.pure,D.pure,D.pures,Cp.free,D.pures_map,hp]);(try simp only[zq]);(repeat rw[Qd];simp[hel]);(refine hKT _ _ _ _ (by kernel_rfl) ?_;clear hKT KT);(refine hA2 ([0,1,2,3,6]) _ _ _ (LeT.refl _) (by decide) (by simp) (by simp[zM,Qh,hcN,hcR]) ?_ rfl;simp[zM,hcN,hcR]);rw[hsn,show es.map Qj++ [Qj (T.walk turn y (Xl d kk i))]=(es++ [T.walk turn y (Xl d kk i)]).map Qj by simp,Qh5]
   ·rintro ys hl tl' ⟨rfl,rfl⟩ htl;refine hK1 _ _ _ (Xo htl ?_);simp only[Qh,List.set,List.map_cons,List.map_nil,List.cons_append,List.nil_append];rw[Wce (Nat.le_refl _)];(refine sI fun K Z=>?_;(repeat rw[Qa];simp);refine Z ?_;clear Z K);(refine Qe ?_;(try simp only[zs]);refine Qk.ret rfl (.inl ?_);simp[zM]);rw[Qb];rfl
def Qbs(n fr d k m:Int):Int:=if k=1/\d<=m/\fr<=IntKind.i64.wrap (m - d)then IntKind.i64.wrap (m+n)else m
def Qal(n fr:Int):Turn:=fun d t=> .inr (Qbs n fr d t.k t.n,t.ls)
theorem Qoj(n:Int):I64 (IntKind.i64.wrap n):=by
 have:=Qio IntKind.i64 n;simp[IntKind.min,IntKind.max,IntKind.signed,IntKind.bits]at this;exact⟨by omega,by omega⟩
theorem okT.num{t:T}(h:okT t){m:Int}(hm:I64 m):okT (.mk t.k m t.a t.ls t.ks):=by
 cases h with
 | mk hk hn ha hl hls hks h=>exact .mk hk hm ha hl hls hks h
theorem Qmu{n fr d k m:Int}(h:I64 m):I64 (Qbs n fr d k m):=by
 unfold Qbs;split
 ·exact Qoj _
 ·exact h
def Qi3(n fr:Int):List D:= [.ref (.int .i64 fr), .ref (.int .i64 n)]
theorem Qwm(n fr d:Int)(t:T)(ht:okT t):Sp 99 ([Qgv d 99 (Qi3 n fr),Qj t]++Qi3 n fr) [] (rt (Qce (Qal n fr) d t)):=by
 obtain⟨kk,nn,aa,ls,ks⟩:=t;have hm:=Qmq d nn;have how:=Qt9 (.mk kk (Qbs n fr d kk nn) aa ls ks) (ht.num (Qmu ht.n));have hln:Qbs n fr d kk nn=if kk=1/\d<=nn/\fr<=IntKind.i64.wrap (nn - d)then IntKind.i64.wrap (nn+n)else nn:=rfl
 unfold Qce Qal;simp only[T.k_mk,T.n_mk,T.a_mk,T.ls_mk,T.ks_mk];generalize Qbs n fr d kk nn=num at how hln⊢;rw[Qb]at how;rw[Qb,Qb];simp only[T.k_mk,T.n_mk,T.a_mk,T.ls_mk,T.ks_mk]at how⊢;unfold Qgv Qi3;refine eN Tryz.func99 rfl (by decide) rfl rfl ?_;simp only[List.cons_append,List.nil_append];(refine sI fun K Z=>?_;(repeat rw[Qa];simp);refine Z ?_;clear Z K);refine Qc fun K1 hK1=>?_
 (refine sR fun K hK=>?_;(repeat rw[Qa];simp));refine cXr (hm) ?_
 (repeat rw[Qa];simp)
 (refine hK _ _ _ ?_;clear hK K);by_cases h1:kk=1
 ·subst h1;by_cases h2:d<=nn
  ·by_cases h3:fr<=IntKind.i64.wrap (nn - d)
   ·rw[if_pos ⟨rfl,h2,h3⟩]at hln;(refine sI fun K Z=>?_;(repeat rw[Qa];simp[h2,h3]);refine Z ?_;clear Z K);refine pT rfl ?_;(refine Qi Wa ?_;(repeat rw[Qa];simp));refine hK1 _ _ _ ?_;rw[<- hln];(refine sR fun K hK=>?_;(repeat rw[Qa];simp));refine cXr (how) ?_
    (repeat rw[Qa];simp)
    (refine hK _ _ _ ?_;clear hK K);(refine Qe ?_;(try simp only[zs]);refine Qk.ret rfl (.inl ?_);simp[zM])
   ·rw[if_neg (fun h=>h3 h.2.2)]at hln;(refine sI fun K Z=>?_;(repeat rw[Qa];simp[h2,h3]);refine Z ?_;clear Z K);refine pF rfl ?_;refine Qg (hK1 _ _ _ ?_);rw[hln]at how;(refine sR fun K hK=>?_;(repeat rw[Qa];simp));refine cXr (how) ?_
    (repeat rw[Qa];simp)
    (refine hK _ _ _ ?_;clear hK K);(refine Qe ?_;(try simp only[zs]);refine Qk.ret rfl (.inl ?_);simp[zM]);rw[hln]
  ·rw[if_neg (fun h=>h2 h.2.1)]at hln;(refine sI fun K Z=>?_;(repeat rw[Qa];simp[h2]);refine Z ?_;clear Z K);refine pF rfl ?_;refine Qg (hK1 _ _ _ ?_);rw[hln]at how;(refine sR fun K hK=>?_;(repeat rw[Qa];simp));refine cXr (how) ?_
   (repeat rw[Qa];simp)
   (refine hK _ _ _ ?_;clear hK K);(refine Qe ?_;(try simp only[zs]);refine Qk.ret rfl (.inl ?_);simp[zM]);rw[hln]
 ·rw[if_neg (fun h=>h1 h.1)]at hln;(refine sI fun K Z=>?_;(repeat rw[Qa];simp[h1]);refine Z ?_;clear Z K);refine pF rfl ?_;refine Qg (hK1 _ _ _ ?_);rw[hln]at how;(refine sR fun K hK=>?_;(repeat rw[Qa];simp));refine cXr (how) ?_
  (repeat rw[Qa];simp)
  (refine hK _ _ _ ?_;clear hK K);(refine Qe ?_;(try simp only[zs]);refine Qk.ret rfl (.inl ?_);simp[zM]);rw[hln]
def T.lift(t:T)(n fr d:Int):T:=T.walk (Qal n fr) t d
theorem Qby(t:T)(n fr:Int)(hd:t.deep<=DM)(ht:okT t):Sp 50 [Qj t, .int .i64 n, .int .i64 fr] [] (rt (Qj (t.lift n fr 0))):=by
 have hw:=Qiq (Qal n fr) 99 (Qi3 n fr) rfl (by simp[Qi3,D.pures,D.pure]) (fun d t _=>Qwm n fr d t) t 0 ⟨by omega,by omega⟩ ht;unfold Qgv Qi3 at hw;rw[show T.walk (Qal n fr) t 0=t.lift n fr 0 from rfl]at hw;generalize t.lift n fr 0=r at hw⊢;refine eN Tryz.func50 rfl (by decide) rfl rfl ?_;(refine sI fun K Z=>?_;(repeat rw[Qa];simp);refine Z ?_;clear Z K);(refine Xe (T:=Qq) 1 (ty:=3) (ds:= [.int .i64 n]) rfl rfl (by first | exact⟨rfl, .inr ⟨_,rfl,rfl⟩⟩ | exact⟨rfl, .inl rfl⟩) ?_;simp[D.frzs,D.frz,HO.frz,Qam,Qat,TK.isAgg,FK.isB,FK.isM,FK.isO,D.isLen]);(refine Xe (T:=Qq) 2 (ty:=3) (ds:= [.int .i64 fr]) rfl rfl (by first | exact⟨rfl, .inr ⟨_,rfl,rfl⟩⟩ | exact⟨rfl, .inl rfl⟩) ?_;simp[D.frzs,D.frz,HO.frz,Qam,Qat,TK.isAgg,FK.isB,FK.isM,FK.isO,D.isLen]);rw[Qb t]at hw;(refine sR fun K hK=>?_;(repeat rw[Qa];simp));refine cXr (hw) ?_
 (repeat rw[Qa];simp)
 (refine hK _ _ _ ?_;clear hK K);(refine Qe ?_;(try simp only[zs]);refine Qk.ret rfl (.inl ?_);simp[zM]);exact(Qb r).symm
def Qaf(bys:List T):Turn:=fun d t =>
 if t.k=1/\d<=t.n then
  if h:(t.n - d).toNat<bys.length then .inl ((bys[bys.length - 1 - (t.n - d).toNat]'(by omega)).lift d 0 0)else .inr (IntKind.i64.wrap (t.n - bys.length),t.ls)
 else .inr (t.n,t.ls)
def T.put(t:T)(bys:List T)(d:Int):T:=T.walk (Qaf bys) t d
theorem put_hit{bys:List T}{d:Int}{t:T}(h1:t.k=1/\d<=t.n){q:Nat}(hq:q<bys.length)(hn:q+(t.n - d).toNat+1=bys.length):Qce (Qaf bys) d t= .tuple [Qj (bys[q].lift d 0 0), .bool true]:=by
 have:Qaf bys d t= .inl (bys[q].lift d 0 0):=by
  unfold Qaf;rw[if_pos h1,dif_pos (by omega)]
  congr 2
  congr 1
  omega
 unfold Qce;rw[this]
theorem Wdg{bys:List T}{d:Int}{t:T}(h1:t.k=1/\d<=t.n)(hn:bys.length<=(t.n - d).toNat):Qce (Qaf bys) d t= .tuple [Qj (.mk t.k (IntKind.i64.wrap (t.n - bys.length)) t.a t.ls t.ks), .bool false]:=by
 have:Qaf bys d t= .inr (IntKind.i64.wrap (t.n - bys.length),t.ls):=by
  unfold Qaf;rw[if_pos h1,dif_neg (by omega)]
 unfold Qce;rw[this]
theorem put_low{bys:List T}{d:Int}{t:T}(h1:¬ (t.k=1/\d<=t.n)):Qce (Qaf bys) d t= .tuple [Qj (.mk t.k t.n t.a t.ls t.ks), .bool false]:=by
 have:Qaf bys d t= .inr (t.n,t.ls):=by
  unfold Qaf;rw[if_neg h1]
 unfold Qce;rw[this]
theorem Qwb(bys:List T)(hb:bys.length<=Ql)(hbo:∀b,b∈bys ->okT b/\b.deep<=DM)(d:Int)(t:T)(hf:Wb4 d t)(ht:okT t):Sp 195 ([Qgv d 195 [.ref (Ts bys)],Qj t]++ [.ref (Ts bys)]) [] (rt (Qce (Qaf bys) d t)):=by
 obtain⟨kk,nn,aa,ls,ks⟩:=t;have hm:=Qmq d nn;have hn:=ht.n;simp only[T.n_mk]at hn;obtain⟨hd0,hd1⟩:=hf;unfold DM at hd1;unfold Ql at hb;have how:=fun num (h:I64 num)=>Qt9 (.mk kk num aa ls ks) (ht.num h)
 have hA:= @put_hit bys d (.mk kk nn aa ls ks);have hB:= @Wdg bys d (.mk kk nn aa ls ks);have hC:= @put_low bys d (.mk kk nn aa ls ks);simp only[T.k_mk,T.n_mk,T.a_mk,T.ls_mk,T.ks_mk]at hA hB hC;generalize Qce (Qaf bys) d (.mk kk nn aa ls ks)=O at hA hB hC⊢;have hE:∀num,Qj (.mk kk num aa ls ks)= .agg [.int .i64 kk, .int .i64 num, .int .i64 aa, .slice (ls.map Qn) .any, .slice (ks.map Qj) .any]:=fun num=>Qb _
 simp only[hE]at how hB hC⊢;unfold Qgv Ts;unfold I64 at hn;refine eN Tryz.func195 rfl (by decide) rfl rfl ?_;simp only[List.cons_append,List.nil_append];(refine sI fun K Z=>?_;(repeat rw[Qa];simp);refine Z ?_;clear Z K);(refine sR fun K hK=>?_;(repeat rw[Qa];simp));refine cXr (hm) ?_
 (repeat rw[Qa];simp)
 (refine hK _ _ _ ?_;clear hK K);refine Qc fun K1 hK1=>?_
 refine Wd ?_;by_cases h1:kk=1
 ·by_cases h2:d<=nn
  ·have hw:IntKind.i64.wrap (nn - d)=nn - d:=Qbu (by omega) (by omega);obtain⟨j,hj⟩:∃j:Nat,nn - d=j:=⟨(nn - d).toNat,by omega⟩;subst h1;have hwj:IntKind.i64.wrap (j:Int)=(j:Int):=Qbu (by omega) (by omega);(refine sI fun K Z=>?_;(repeat rw[Qa];simp[h2]);refine Z ?_;clear Z K);refine pF rfl ?_;by_cases h3:j<bys.length
   ·have h3':(j:Int)<bys.length:=by omega
    obtain⟨q,hq⟩:∃q:Nat,q=bys.length - 1 - j:=⟨_,rfl⟩;have hql:q<bys.length:=by omega
    have hw2:IntKind.i64.wrap ((bys.length:Int) - 1)=(bys.length:Int) - 1:=Qbu (by omega) (by omega);have hw3:IntKind.i64.wrap ((bys.length:Int) - 1 - (j:Int))=(q:Int):=by rw[Qbu (by omega) (by omega)];omega
    obtain⟨b,hbq⟩:∃b,bys[q]=b:=⟨_,rfl⟩;have hbb:=hbo b (by rw[<- hbq];exact List.getElem_mem hql);have hlf:=Qby b d 0 hbb.2 hbb.1;rw[Qb b]at hlf;have hEb:=Qb b;have hO:=hA ⟨rfl,h2⟩ hql (by omega);rw[hbq]at hO;rw[hO];generalize b.lift d 0 0=r at hlf⊢;(refine sI fun K Z=>?_;(repeat rw[Qa];simp[hw,hwj,hj,h3,h3']);refine Z ?_;clear Z K);refine pT rfl ?_;(refine Qc fun K hK=>?_;refine dR fun KT hKT=>?_;(repeat rw[Qd];simp[hw,hwj,hj,hw2,hw3,hql,hbq,hEb]));refine cYp (hlf) ?_;(try simp only[zq]);(repeat rw[Qd];simp);(refine hKT _ _ _ _ (by kernel_rfl) ?_;clear hKT KT);(refine hK _ _ _ ?_;clear hK K);(refine Qe ?_;(try simp only[zs]);refine Qk.ret rfl (.inl ?_);simp[zM]);exact(Qb r).symm
   ·have h3':¬ (j:Int)<bys.length:=by omega
    (refine sI fun K Z=>?_;(repeat rw[Qa];simp[hw,hwj,hj,h3,h3']);refine Z ?_;clear Z K);refine pF rfl ?_;(refine Qi Wa ?_;(repeat rw[Qa];simp));refine hK1 _ _ _ ?_;have hw4:=how (IntKind.i64.wrap (nn - bys.length)) (Qoj _);(refine sR fun K hK=>?_;(repeat rw[Qa];simp));refine cXr (hw4) ?_
    (repeat rw[Qa];simp)
    (refine hK _ _ _ ?_;clear hK K);(refine Qe ?_;(try simp only[zs]);refine Qk.ret rfl (.inl ?_);simp[zM]);exact(hB ⟨rfl,h2⟩ (by omega)).symm
  ·skip
   subst h1;(refine sI fun K Z=>?_;(repeat rw[Qa];simp[h2]);refine Z ?_;clear Z K);refine pT rfl ?_;refine Qg (hK1 _ _ _ ?_);have hw4:=how nn hn;(refine sR fun K hK=>?_;(repeat rw[Qa];simp));refine cXr (hw4) ?_
   (repeat rw[Qa];simp)
   (refine hK _ _ _ ?_;clear hK K);(refine Qe ?_;(try simp only[zs]);refine Qk.ret rfl (.inl ?_);simp[zM]);exact(hC (fun h=>h2 h.2)).symm
 ·skip
  (refine sI fun K Z=>?_;(repeat rw[Qa];simp[h1]);refine Z ?_;clear Z K);refine pT rfl ?_;refine Qg (hK1 _ _ _ ?_);have hw4:=how nn hn;(refine sR fun K hK=>?_;(repeat rw[Qa];simp));refine cXr (hw4) ?_
  (repeat rw[Qa];simp)
  (refine hK _ _ _ ?_;clear hK K);(refine Qe ?_;(try simp only[zs]);refine Qk.ret rfl (.inl ?_);simp[zM]);exact(hC (fun h=>h1 h.1)).symm
theorem Qki(t:T)(bys:List T)(hb:bys.length<=Ql)(hbo:∀b,b∈bys ->okT b/\b.deep<=DM)(hd:t.deep<=DM)(ht:okT t):Sp 146 [Qj t,Ts bys] [] (rt (Qj (t.put bys 0))):=by
 have hw:=Qiq (Qaf bys) 195 [.ref (Ts bys)] rfl (by simp[D.pures,D.pure,Ts_pure]) (Qwb bys hb hbo) t 0 ⟨by omega,by omega⟩ ht;unfold Qgv at hw;rw[show T.walk (Qaf bys) t 0=t.put bys 0 from rfl]at hw;generalize t.put bys 0=r at hw⊢;rw[Qb t]at hw;unfold Ts at hw⊢;refine eN Tryz.func146 rfl (by decide) rfl rfl ?_;(refine sI fun K Z=>?_;(repeat rw[Qa];simp);refine Z ?_;clear Z K);(refine Xe (T:=Qq) 1 (ty:=25) (ds:= [.slice (bys.map Qj) .any]) rfl rfl (by first | exact⟨rfl, .inr ⟨_,rfl,rfl⟩⟩ | exact⟨rfl, .inl rfl⟩) ?_;simp[D.frzs,D.frz,HO.frz,Qam,Qat,TK.isAgg,FK.isB,FK.isM,FK.isO,D.isLen]);(refine sR fun K hK=>?_;(repeat rw[Qa];simp));refine cXr (hw) ?_
 (repeat rw[Qa];simp)
 (refine hK _ _ _ ?_;clear hK K);(refine Qe ?_;(try simp only[zs]);refine Qk.ret rfl (.inl ?_);simp[zM]);exact(Qb r).symm
mutual
def T.sz:T ->Int
 | .mk _ _ _ _ ks=>T.szs ks 1
def T.szs:List T ->Int ->Int
 | [],n=>n
 | t::r,n=>T.szs r (IntKind.i64.wrap (n+T.sz t))
end
theorem T.szs_snoc:∀(ks:List T) (n:Int) (j:Nat) (h:j<ks.length),T.szs (ks.take (j+1)) n=IntKind.i64.wrap (T.szs (ks.take j) n+T.sz ks[j])
 | [],n,j,h=>by simp at h
 | t::r,n,0,h=>by simp[T.szs]
 | t::r,n,j+1,h=>by
  have h':j<r.length:=by simpa using h
  simp only[List.take_succ_cons,T.szs,List.getElem_cons_succ];rw[T.szs_snoc r _ j h']
def szT(ks:List T)(j:Nat):Int:=T.szs (ks.take j) 1
theorem Wco{ks:List T}{j:Nat}(h:j<ks.length):szT ks (j+1)=IntKind.i64.wrap (szT ks j+T.sz ks[j]):=T.szs_snoc ks 1 j h
theorem szT_end{ks:List T}{j:Nat}(h:ks.length<=j):szT ks j=T.szs ks 1:=by unfold szT;rw[List.take_of_length_le h]
theorem Qhs(t:T):okT t ->Sp 186 [Qj t] [] (rt (.int .i64 t.sz)):=by
 induction t using T.ind with
 | h kk nn aa ls ks ih =>
  intro ht;have hkl:ks.length<=Ql:=ht.kl;have hks:∀x,x∈ks ->okT x:=ht.ks;rw[show(T.mk kk nn aa ls ks).sz=T.szs ks 1 by rw[T.sz]];rw[Qb];simp only[T.k_mk,T.n_mk,T.a_mk,T.ls_mk,T.ks_mk];refine eN Tryz.func186 rfl (by decide) rfl rfl ?_;(refine sI fun K Z=>?_;(repeat rw[Qa];simp);refine Z ?_;clear Z K);(refine sI fun K Z=>?_;(repeat rw[Qa];simp);refine Z ?_;clear Z K);refine Qc fun K1 hK1=>?_
  (refine sI fun K Z=>?_;(repeat rw[Qa];simp);refine Z ?_;clear Z K);refine Xm Wa Qf (ti:=3) (tk:=9) (tn:=8) (td:=10) (ts:=17) [5,9,10,11,12,13,14,15,16,17] [3] (ks.length) (fun k ys hl=>ys= [.int .i64 (szT ks k)]/\hl= [.cells 27 [.int .i64 kk, .int .i64 nn, .int .i64 aa, .slice (ls.map Qn) .any, .slice (ks.map Qj) .any]]) rfl rfl rfl rfl rfl rfl rfl rfl rfl rfl rfl rfl (by simp) (by decide) rfl (by first | assumption | omega | (unfold Ql;omega)) rfl (by kernel_rfl) (by decide) ?_ ?_ ?_
  ·exact⟨rfl,rfl⟩
  ·rintro i ys hl A hi ⟨rfl,rfl⟩ hA hA2;simp only[Qh,List.set,List.map_cons,List.map_nil,List.cons_append,List.nil_append];have hi':(i:Int)<ks.length:=by omega
   have hsn:=Wco hi;have hrec:=ih ks[i] (List.getElem_mem hi) (hks _ (List.getElem_mem hi));obtain⟨y,hy⟩:∃y,ks[i]=y:=⟨_,rfl⟩;have hEy:=Qb y;rw[hy]at hrec hsn;rw[hEy]at hrec;generalize szT ks i=s at hsn⊢;(refine sI fun K Z=>?_;(repeat rw[Qa];simp[hi,hi',hy,hEy]);refine Z ?_;clear Z K);(refine Qi Wa ?_;(repeat rw[Qa];simp));refine cXr (hrec) ?_
   (repeat rw[Qa];simp)
   (refine hA2 ([0]) _ _ _ (LeT.refl _) (by decide) (by simp) (by simp[zM,Qh]) ?_ rfl;simp[zM]);rw[hsn]
  ·rintro ys hl tl' ⟨rfl,rfl⟩ htl;refine hK1 _ _ _ (Xo htl ?_);simp only[Qh,List.set,List.map_cons,List.map_nil,List.cons_append,List.nil_append];rw[szT_end (Nat.le_refl _)];(refine sI fun K Z=>?_;(repeat rw[Qa];simp);refine Z ?_;clear Z K);(refine Qe ?_;(try simp only[zs]);refine Qk.ret rfl (.inl ?_);simp[zM])
def hitB(fr to k n d:Int):Bool:=decide (k=1) && decide (d<=n) && decide (fr<=IntKind.i64.wrap (n - d)) && decide (IntKind.i64.wrap (n - d)<to)
mutual
def T.freeB(fr to:Int):T ->Int ->Bool
 | .mk k n _ _ ks,d=>hitB fr to k n d || T.freesB fr to k ks 0 d
def T.freesB(fr to k:Int):List T ->Nat ->Int ->Bool
 | [],_,_=>false
 | t::r,i,d=>T.freeB fr to t (Xl d k i) || T.freesB fr to k r (i+1) d
end
abbrev MP:=List (Int×Int)
def Qxo(p:Int×Int):D×D:=(.int .i64 p.1, .int .i64 p.2)
def Qdx(m:MP):List (D×D):=m.map Qxo
def Qdi(m:MP)(v:Int):Option Int:=(m.find? fun p=>decide (v=p.1)).map (·.2)
def Qvk(v x:Int):MP ->MP
 | []=> []
 | p::r=>if v=p.1 then(p.1,x)::r else p::Qvk v x r
def Qdl(m:MP)(p:Int×Int):MP:=match Qdi m p.1 with
 | some k=>Qvk p.1 (max k p.2) m
 | none=>m++ [(p.1,max 0 p.2)]
def Qin(p:Int×Int):Bool:=decide (p.1<0) || decide (p.2<0) || decide (1048576<p.1) || decide (1048576<p.2)
structure MOK (m : MP) : Prop where
 nd:(m.map (·.1)).Nodup
 v:∀p,p∈m ->0<=p.1/\p.1<=1048576
 n:∀p,p∈m ->0<=p.2/\p.2<=1048576
theorem Qhc:∀(k:Nat) (l:List Int),l.Nodup ->(∀x,x∈l ->0<=x/\x<k) ->l.length<=k
 | 0,l,_,h=>by
  cases l with
  | nil=>simp
  | cons x r=>have:=h x (List.mem_cons_self ..);omega
 | k+1,l,hn,h=>by
  by_cases hk:(k:Int)∈l
  ·have h1:=Qhc k (l.erase (k:Int)) (hn.erase _) (fun x hx=>by
    rw[hn.mem_erase_iff]at hx;have:=h x hx.2;have:=hx.1
    omega)
   rw[List.length_erase_of_mem hk]at h1;have:=List.length_pos_of_mem hk;omega
  ·have h1:=Qhc k l hn (fun x hx=>by
    have:=h x hx;have:x≠(k:Int):=fun e=>hk (e▸hx)
    omega)
   omega
theorem MOK.len{m:MP}(h:MOK m):m.length<=1048577:=by
 have:=Qhc 1048577 (m.map (·.1)) h.nd (fun x hx=>by
  obtain⟨p,hp,rfl⟩:=List.mem_map.1 hx;have:=h.v p hp
  omega)
 simpa using this
theorem Qgr{v:Int}:∀{m:MP},Qdi m v=none ->¬ v∈m.map (·.1)
 | [],_=>by simp
 | p::r,h=>by
  unfold Qdi at h;rw[List.find?_cons]at h;by_cases hv:v=p.1
  ·simp[hv]at h
  ·have h':Qdi r v=none:=by unfold Qdi;simpa [hv]using h
   rw[List.map_cons,List.mem_cons];exact fun h=>h.elim hv (Qgr h')
theorem Qcs{v x:Int}:∀{m:MP},Qdi m v=some x ->(v,x)∈m
 | [],h=>by cases h
 | p::r,h=>by
  unfold Qdi at h;rw[List.find?_cons]at h;by_cases hv:v=p.1
  ·simp[hv]at h;subst hv;subst h;exact List.mem_cons_self ..
  ·have h':Qdi r v=some x:=by unfold Qdi;simpa [hv]using h
   exact List.mem_cons_of_mem _ (Qcs h')
theorem Qo7(v x:Int):∀m:MP,(Qvk v x m).map (·.1)=m.map (·.1)
 | []=>rfl
 | p::r=>by
  rw[Qvk];split
  ·rfl
  ·rw[List.map_cons,Qo7 v x r];rfl
theorem Qjx{v x:Int}{p:Int×Int}:∀{m:MP},p∈Qvk v x m ->p∈m\/p=(v,x)
 | [],h=> .inl h
 | q::r,h=>by
  rw[Qvk]at h;split at h
  ·rename_i hv;rcases List.mem_cons.1 h with h | h
   ·right;rw[h,hv]
   ·left;exact List.mem_cons_of_mem _ h
  ·rcases List.mem_cons.1 h with h | h
   ·left;rw[h];exact List.mem_cons_self ..
   ·rcases Qjx h with h | h
    ·left;exact List.mem_cons_of_mem _ h
    ·right;exact h
theorem Qfx{m:MP}{p:Int×Int}(h:MOK m)(hp:Qin p=false):MOK (Qdl m p):=by
 simp only[Qin,Bool.or_eq_false_iff,decide_eq_false_iff_not]at hp;obtain⟨⟨⟨h1,h2⟩,h3⟩,h4⟩:=hp;unfold Qdl;cases hf:Qdi m p.1 with
 | some k =>
  have hk:=h.n _ (Qcs hf);dsimp only at hk⊢;refine⟨by rw[Qo7];exact h.nd,fun q hq=>?_,fun q hq=>?_⟩
  ·rcases Qjx hq with hq | rfl
   ·exact h.v q hq
   ·dsimp only;omega
  ·rcases Qjx hq with hq | rfl
   ·exact h.n q hq
   ·dsimp only;omega
 | none =>
  refine⟨?_,fun q hq=>?_,fun q hq=>?_⟩
  ·rw[List.map_append];refine List.nodup_append.2 ⟨h.nd,by simp,fun a ha b hb=>?_⟩;simp only[List.map_cons,List.map_nil,List.mem_singleton]at hb;subst hb;exact fun e=>Qgr hf (e▸ha)
  ·rcases List.mem_append.1 hq with hq | hq
   ·exact h.v q hq
   ·rw[List.mem_singleton.1 hq];dsimp only;omega
  ·rcases List.mem_append.1 hq with hq | hq
   ·exact h.n q hq
   ·rw[List.mem_singleton.1 hq];dsimp only;omega
theorem MOK.nil:MOK []:=⟨by simp,(fun p h=>by cases h),(fun p h=>by cases h)⟩
theorem Qgq:∀{l:List (Int×Int)} {m:MP},MOK m ->(∀p,p∈l ->Qin p=false) ->MOK (l.foldl Qdl m)
 | [],m,h,_=>h
 | p::r,m,h,hb=>Qgq (l:=r) (m:=Qdl m p) (Qfx h (hb p (List.mem_cons_self ..))) (fun q hq=>hb q (List.mem_cons_of_mem _ hq))
def Xk(l:List (Int×Int)):Bool:=l.any Qin
theorem Qu1(m:MP):((Qdx m).all fun p=>Qbr .i64 p.1)=true:=by simp[Qdx,Qxo,Qbr]
theorem Qld(v:Int):∀m:MP,Qcg (.int .i64 v) (Qdx m)=(Qdi m v).map (.int .i64)
 | []=>rfl
 | p::r=>by
  unfold Qdx Qdi;rw[List.map_cons,Qcg,List.find?_cons];by_cases h:v=p.1
  ·simp[Qd0,Qxo,h]
  ·have:=Qld v r;unfold Qdx Qdi at this;simp[Qd0,Qxo,h,this]
theorem Qu0(v x:Int):∀m:MP,Qx0 (.int .i64 v) (.int .i64 x) (Qdx m)=Qdx (Qvk v x m)
 | []=>rfl
 | p::r=>by
  unfold Qdx;rw[List.map_cons,Qx0,Qvk];by_cases h:v=p.1
  ·simp[Qd0,Qxo,h]
  ·have:=Qu0 v x r;unfold Qdx at this;simp[Qd0,Qxo,h,this]
theorem War(m:MP)(v x:Int):Qdx m++ [((.int .i64 v:D),(.int .i64 x:D))]=Qdx (m++ [(v,x)]):=by simp[Qdx,Qxo]
theorem Qlc(m:MP):(Qdx m).length=m.length:=by simp[Qdx]
@[simp high] theorem encM_okN1 (p:Nat ->Bool) (m:MP):D.okNs p ((Qdx m).map (·.1))=true:=by
 induction m with
 | nil=>rfl
 | cons x r ih=>simp only[Qdx,List.map_cons,D.okNs,Qxo,D.okN]at ih⊢;simpa using ih
@[simp high] theorem encM_okN2 (p:Nat ->Bool) (m:MP):D.okNs p ((Qdx m).map (·.2))=true:=by
 induction m with
 | nil=>rfl
 | cons x r ih=>simp only[Qdx,List.map_cons,D.okNs,Qxo,D.okN]at ih⊢;simpa using ih
@[simp high] theorem encM_ren (σ:Nat ->Nat) (m:MP):(Qdx m).map (fun e=>(D.ren σ e.1,D.ren σ e.2))=Qdx m:=by
 induction m with
 | nil=>rfl
 | cons x r ih=>simp only[Qdx,List.map_cons,Qxo,D.ren]at ih⊢;rw[ih]
def Qhb:D:= .iface 228 (.agg [])
theorem Qdr(l:List (Int×Int))(m:MP)(hl:l.length<=Ql)(hm:MOK m):Sp 182 [.agg [.map 0],Ps l] [.mp (Qdx m)]
  (fun o hc=>if Xk l then o= .pan Qhb/\∃m',hc= [.mp (Qdx m')] else o.fgt= .ret (.tuple [])/\hc= [.mp (Qdx (l.foldl Qdl m))]):=by
 refine eN Tryz.func182 rfl (by decide) rfl rfl ?_;unfold Ps;(refine sI fun K Z=>?_;(repeat rw[Qa];simp);refine Z ?_;clear Z K);(refine sI fun K Z=>?_;(repeat rw[Qa];simp);refine Z ?_;clear Z K);refine Qbv Wa Qf (ti:=3) (tk:=8) (tn:=7) (td:=9) (ts:=44) [5,8,9,10,11,12,13,14,15,16,17,18,19,20,21,22,23,24,25,26,27,28,29,30,31,32,33,34,35,36,37,38,39,40,41,42,43,44] (l.length) (fun k ys hl=>∃(m':MP) (x5 x8 x9 x10 x11 x12 x13 x14 x15 x16 x17 x18 x19 x20 x21 x22 x23 x24 x25 x26 x27 x28 x29 x30 x31 x32 x33 x34 x35 x36 x37 x38 x39 x40 x41 x42 x43 x44:D),ys= [x5,x8,x9,x10,x11,x12,x13,x14,x15,x16,x17,x18,x19,x20,x21,x22,x23,x24,x25,x26,x27,x28,x29,x30,x31,x32,x33,x34,x35,x36,x37,x38,x39,x40,x41,x42,x43,x44]/\Xk l=Xk (l.drop k)/\(l.drop k).foldl Qdl m'=l.foldl Qdl m/\MOK m'/\hl= [.mp (Qdx m'), .cells 204 [.map 0]]) rfl rfl rfl rfl rfl rfl rfl rfl rfl rfl rfl rfl (by simp) (by decide) rfl (by first | assumption | omega | (unfold Ql;omega)) rfl (by kernel_rfl) (by decide) ?_ ?_ ?_
 ·exact⟨m,_,_,_,_,_,_,_,_,_,_,_,_,_,_,_,_,_,_,_,_,_,_,_,_,_,_,_,_,_,_,_,_,_,_,_,_,_,_,rfl,rfl,rfl,hm,rfl⟩
 ·rintro k ys hl A hk ⟨m',x5,x8,x9,x10,x11,x12,x13,x14,x15,x16,x17,x18,x19,x20,x21,x22,x23,x24,x25,x26,x27,x28,x29,x30,x31,x32,x33,x34,x35,x36,x37,x38,x39,x40,x41,x42,x43,x44,rfl,hb,hf,hml,rfl⟩ hA hA2;simp only[Qh,List.set];(refine sI fun K Z=>?_;(repeat rw[Qa];simp[hk,Wv]);refine Z ?_;clear Z K);refine Qc fun K1 hK1=>?_
  have hd:l.drop k=l[k]::l.drop (k+1):=List.drop_eq_getElem_cons hk;cases hbad:Qin l[k]with
  | true =>
   have hall:Xk l=true:=by rw[hb,hd,Xk,List.any_cons,hbad];rfl
   rw[hall];simp only[if_true];have fin:True:=trivial;by_cases h1:l[k].1<0
   ·(refine sI fun K Z=>?_;(repeat rw[Qa];simp[h1]);refine Z ?_;clear Z K);refine pT rfl ?_;(refine Qi Wa ?_;(repeat rw[Qa];simp));((try simp only[zs]);refine Qk.pan (.inr ⟨[],by decide,by simp,?_⟩);simp[zM]);exact⟨rfl,m',rfl⟩
   ·by_cases h2:l[k].2<0
    ·(refine sI fun K Z=>?_;(repeat rw[Qa];simp[h1,h2]);refine Z ?_;clear Z K);refine pT rfl ?_;(refine Qi Wa ?_;(repeat rw[Qa];simp));((try simp only[zs]);refine Qk.pan (.inr ⟨[],by decide,by simp,?_⟩);simp[zM]);exact⟨rfl,m',rfl⟩
    ·by_cases h3:1048576<l[k].1
     ·(refine sI fun K Z=>?_;(repeat rw[Qa];simp[h1,h2,h3]);refine Z ?_;clear Z K);refine pT rfl ?_;(refine Qi Wa ?_;(repeat rw[Qa];simp));((try simp only[zs]);refine Qk.pan (.inr ⟨[],by decide,by simp,?_⟩);simp[zM]);exact⟨rfl,m',rfl⟩
     ·have h4:1048576<l[k].2:=by simpa [Qin,h1,h2,h3]using hbad
      (refine sI fun K Z=>?_;(repeat rw[Qa];simp[h1,h2,h3,h4]);refine Z ?_;clear Z K);refine pT rfl ?_;(refine Qi Wa ?_;(repeat rw[Qa];simp));((try simp only[zs]);refine Qk.pan (.inr ⟨[],by decide,by simp,?_⟩);simp[zM]);exact⟨rfl,m',rfl⟩
  | false =>
   have hbad':=hbad;simp only[Qin,Bool.or_eq_false_iff,decide_eq_false_iff_not]at hbad';obtain⟨⟨⟨h1,h2⟩,h3⟩,h4⟩:=hbad';(refine sI fun K Z=>?_;(repeat rw[Qa];simp[h1,h2,h3,h4]);refine Z ?_;clear Z K);refine pF rfl ?_;refine Qg (hK1 _ _ _ ?_);clear hK1 K1;have e1:=Qu1 m';have e2:=Qld l[k].1 m';have hlt:m'.length<Ql:=by have:=hml.len;unfold Ql;omega
   cases hf0:Qdi m' l[k].1 with
   | none =>
    (refine Qi Wa ?_;(repeat rw[Qa];simp[e1,e2,hf0,Qlc,hlt]));rw[War];(refine hA2 ([1]) _ _ (by decide) (by simp) (by simp[zM,Qh]) ?_ rfl;simp[zM]);have hp:Qdl m' l[k]=m'++ [(l[k].1,max 0 l[k].2)]:=by unfold Qdl;rw[hf0]
    refine⟨by rw[hb,hd,Xk,List.any_cons,hbad];rfl,_,?_,?_,by rw[<- hp]⟩
    ·rw[<- hf,hd,List.foldl_cons]
    ·exact Qfx hml hbad
   | some x =>
    (refine Qi Wa ?_;(repeat rw[Qa];simp[e1,e2,hf0,Qlc,hlt]));rw[Qu0];(refine hA2 ([1]) _ _ (by decide) (by simp) (by simp[zM,Qh]) ?_ rfl;simp[zM]);have hp:Qdl m' l[k]=Qvk l[k].1 (max x l[k].2) m':=by unfold Qdl;rw[hf0]
    refine⟨by rw[hb,hd,Xk,List.any_cons,hbad];rfl,_,?_,?_,by rw[<- hp]⟩
    ·rw[<- hf,hd,List.foldl_cons]
    ·exact Qfx hml hbad
 ·rintro ys hl ⟨m',x5,x8,x9,x10,x11,x12,x13,x14,x15,x16,x17,x18,x19,x20,x21,x22,x23,x24,x25,x26,x27,x28,x29,x30,x31,x32,x33,x34,x35,x36,x37,x38,x39,x40,x41,x42,x43,x44,rfl,hb,hf,hml,rfl⟩;simp only[Qh,List.set];have hall:Xk l=false:=by rw[hb,List.drop_length];rfl
  rw[List.drop_length,List.foldl_nil]at hf;rw[hall,hf];((try simp only[zs]);refine Qk.nrm rfl (.inr ⟨[],by decide,by simp,?_⟩);simp[zM])
end Go.Proofs.YtgloldepdhgfaaaGreatDoor
namespace Go.Proofs.YtgloldepdhgfaaaGreatDoor
set_option linter.unusedSimpArgs false
set_option linter.unusedVariables false
open Go.RowKit Go.Maps Go.MapKept
open Go.ChangeMaps (setBlock)
section
variable {P : Program} (w : World) {ops : Array Oper} {rest : List Oper} {o : Oper} {a : Act} {Q : Exit -> Act -> World -> Prop}
theorem Qlv(hg:o.guard=none)(m:Operand)(t:TypeId)(hop:o.op=Op.range t m)(k e:TypeId)(ht:P.underlying t=some (.map k e)){b clock:Nat}{es:Array MapEntry}(hm:a.eval m= .map (some b))(hb:w.heap[b]?=some (.map es clock))
  (hK:wpList P ops Q rest (a.put o.dst (.pointer (some ⟨w.heap.size,0,none⟩))) (w.alloc (.mapIter (some b) clock #[] clock))) :
  wpList P ops Q (o::rest) a w:=by
 refine wpList_plain hg fun K' hK'=>?_
 unfold Oper.wp;have hrun:(Instr.range t (.map (some b))).run P w= .ok (.pointer (some ⟨w.heap.size,0,none⟩)) (w.alloc (.mapIter (some b) clock #[] clock)):=by
  simp[Instr.range,run_underlying ht,getObj,Sem.run,hb,newObj]
 simp[execOp,hop,hm,hrun,Result.andThen];exact hK' _ _ hK
theorem Qna(hg:o.guard=none)(it:Operand)(hop:o.op=Op.next it false){b r clock:Nat}{es:Array MapEntry}{seen:Array Nat}(hit:a.eval it= .pointer (some ⟨r,0,none⟩))(hb:w.heap[b]?=some (.map es clock))(hr:w.heap[r]?=some (.mapIter (some b) clock seen clock))(hst:Stamped es clock)
  (hDone:(leftOf es seen).size=0 ->wpList P ops Q rest (a.put o.dst (.tuple #[.bool false])) w)
  (hMore:∀(e:MapEntry) (w1:World),e∈(leftOf es seen).toList ->(w1=w\/w1=w.drew) ->wpList P ops Q rest (a.put o.dst (.tuple #[.bool true,e.key,e.val])) (setBlock w1 r (.mapIter (some b) clock (seen.push e.born) clock))) :
  wpList P ops Q (o::rest) a w:=by
 refine wpList_plain hg fun K' hK'=>?_
 unfold Oper.wp;rcases run_next_at (P:=P) w o.type r b clock clock seen es clock hr hb hst.1 (Nat.le_refl _)with ⟨h0,hrun⟩ | ⟨e,he,w1,hw1,hrun⟩
 ·simp[execOp,hop,hit,hrun,Result.andThen];exact hK' _ _ (hDone h0)
 ·simp[execOp,hop,hit,hrun,Result.andThen];exact hK' _ _ (hMore e w1 he hw1)
end
def Wb2(n:Int)(e:MapEntry):Bool:=match e.key,e.val with
 | .int _ x, .int _ c=>decide (0<x) && decide (n<=c)
 | _,_=>false
theorem Qjf{w:World}{r k:Nat}{o:Obj}(h:k≠r):(setBlock w r o).heap[k]?=w.heap[k]?:=by simp[setBlock,Array.getElem?_setIfInBounds_ne (Ne.symm h)]
theorem Qrw{w:World}{r:Nat}{o:Obj}(h:r<w.heap.size):(setBlock w r o).heap[r]?=some o:=by simp[setBlock,h]
theorem Qzs{es:Array MapEntry}{seen:Array Nat}{e:MapEntry}(hn:(es.toList.map (·.born)).Nodup)(he:e∈(leftOf es seen).toList):(leftOf es (seen.push e.born)).size<(leftOf es seen).size:=by
 unfold leftOf at he⊢;show(Array.filter _ es).toList.length<(Array.filter _ es).toList.length;rw[Array.toList_filter,Array.toList_filter];rw[Array.toList_filter]at he;have h1:(es.toList.filter fun x=>!(seen.push e.born).contains x.born)=(es.toList.filter fun x=>!seen.contains x.born).filter fun x=>!(x.born == e.born):=by
  rw[List.filter_filter];refine List.filter_congr fun x _=>?_
  rw[show(x.born == e.born)=decide (x.born=e.born)from rfl];simp[Array.contains_push,Bool.and_comm]
 rw[h1];refine List.length_filter_lt_length_iff_exists.2 ⟨e,he,by simp⟩
set_option maxRecDepth 100000 in
theorem Qqi(b clock:Nat)(ents:Array MapEntry)(n:Int)(w:World)(hb:w.heap[b]?=some (.map ents clock))(hst:Stamped ents clock)(hsh:∀e∈ents.toList,∃x c,e.key= .int .i64 x/\e.val= .int .i64 c) :
  Calls Tryz.prog 224 #[.agg #[.map (some b)], .int .i64 n] w fun e w'=>e= .returned (.bool (ents.toList.any (Wb2 n)))/\Below w.heap.size w w':=by
 have hbl:b<w.heap.size:=(Array.getElem?_eq_some_iff.1 hb).1
 go_enter Tryz.func224,Tryz.ntmps224
 go_wp2_with (first
  | (at_range;refine Qlv _ rfl _ 202 rfl 3 3 Tryz.underlying202 rfl ((Below.heap_alloc _ _ b hbl).trans hb) ?_)
  | go_in)
 go_frame
 simp only[World.size_alloc]
 go_loopw [5] (fun _ wr=>∃seen,wr.heap[b]?=some (.map ents clock)/\wr.heap[w.heap.size+1]?=some (.mapIter (some b) clock seen clock)/\(∀e∈ents.toList,seen.contains e.born=true ->Wb2 n e=false)/\Below w.heap.size w wr)
  (fun _ wr=>wr.rangeLeft b (w.heap.size+1))
 case atStart =>
  refine⟨#[],?_,?_,fun e _ h=>by simp at h,((Below.refl _ w).alloc (Nat.le_refl _) _).alloc (by simp) _⟩
  ·exact(Below.heap_alloc _ _ b (by simp;omega)).trans ((Below.heap_alloc _ _ b hbl).trans hb)
  ·have:=Qgo (w.alloc (.cells #[.map (some b)] 206)) (.mapIter (some b) clock #[] clock);simpa using this
 case round =>
  obtain⟨seen,hbr,hrr,hseen,hbel⟩:=hrel;have hleft:wr.rangeLeft b (w.heap.size+1)=(leftOf ents seen).size:=by simp[World.rangeLeft,hbr,hrr]
  go_wp2_with (first
   | (at_next;refine Qna _ rfl _ rfl rfl hbr hrr hst ?_ ?_)
   | go_in)
  ·intro h0;have hall:(ents.toList.any (Wb2 n))=false:=by
    rw[List.any_eq_false];intro e he;have:seen.contains e.born=true:=by
     cases hc:seen.contains e.born with
     | true=>rfl
     | false =>
      exfalso;have hm:e∈(leftOf ents seen).toList:=by unfold leftOf;rw[Array.toList_filter];exact List.mem_filter.2 ⟨he,by rw[hc];rfl⟩
      have hz:(leftOf ents seen).toList= []:=by rw[h0]
      rw[hz]at hm;cases hm
    rw[hseen e he this];simp
   go_wp2
   go_ret
   exact⟨by rw[hall];rfl,hbel⟩
  ·intro e w1 he0 hw1;have he:e∈(leftOf ents seen).toList:=by simpa using he0
   have hem:e∈ents.toList:=by unfold leftOf at he;rw[Array.toList_filter]at he;exact(List.mem_filter.1 he).1
   obtain⟨x,c,hx,hc⟩:=hsh e hem;have hh:w1.heap=wr.heap:=by rcases hw1 with rfl | rfl <;> rfl
   have hrl:w.heap.size+1<w1.heap.size:=by rw[hh];exact(Array.getElem?_eq_some_iff.1 hrr).1
   have hne:b≠w.heap.size+1:=by omega
   have hb2:(setBlock w1 (w.heap.size+1) (.mapIter (some b) clock (seen.push e.born) clock)).heap[b]?=some (.map ents clock):=by rw[Qjf hne,hh];exact hbr
   have hr2:(setBlock w1 (w.heap.size+1) (.mapIter (some b) clock (seen.push e.born) clock)).heap[w.heap.size+1]?=some (.mapIter (some b) clock (seen.push e.born) clock):=Qrw hrl;have hlt:=Qzs hst.2.1 he;have hbel2:Below w.heap.size w (setBlock w1 (w.heap.size+1) (.mapIter (some b) clock (seen.push e.born) clock)):=by
    refine hbel.trans ⟨?_,?_,?_,?_,fun k hk=>?_⟩
    ·rcases hw1 with rfl | rfl <;> rfl
    ·rcases hw1 with rfl | rfl <;> rfl
    ·rcases hw1 with rfl | rfl <;> rfl
    ·simp[setBlock,hh]
    ·rw[Qjf (by omega),hh]
   have hen:=run_entry_at (P:=Tryz.prog) _ _ _ _ seen ents clock e hr2 hb2 hem hst.2.1;have hseen2:(∀e'∈ents.toList,(seen.push e.born).contains e'.born=true ->Wb2 n e'=false)↔Wb2 n e=false:=by
    constructor
    ·intro h;exact h e hem (by simp)
    ·intro h e' he' hc';simp[Array.contains_push]at hc';rcases hc' with hc' | hc'
     ·exact hseen e' he' (by simpa using hc')
     ·have:e'=e:=by
       obtain⟨i,hi⟩:=List.getElem?_of_mem he';obtain⟨j,hj⟩:=List.getElem?_of_mem hem;have hi':(ents.toList.map (·.born))[i]?=some e'.born:=by rw[List.getElem?_map,hi];rfl
       have hj':(ents.toList.map (·.born))[j]?=some e.born:=by rw[List.getElem?_map,hj];rfl
       have hil:=(List.getElem?_eq_some_iff.1 hi').1;have hij:i=j:=by
        exact(List.getElem?_inj hil hst.2.1).1 (by rw[hi',hj',hc'])
       subst hij;rw[hi]at hj;exact Option.some.inj hj
      rw[this];exact h
   have hhit:Wb2 n e=(decide (0<x) && decide (n<=c)):=by simp[Wb2,hx,hc]
   generalize setBlock w1 (w.heap.size+1) (.mapIter (some b) clock (seen.push e.born) clock)=W2 at *;rw[hx,hc]at hen⊢;clear hw1 hh hrl hx hc
   go_wp2
   ·have hall:(ents.toList.any (Wb2 n))=true:=List.any_eq_true.2 ⟨e,hem,by rw[hhit];simp[*]⟩
    go_ret
    exact⟨by rw[hall];rfl,hbel2⟩
   ·refine⟨⟨_,hb2,hr2,hseen2.2 (by rw[hhit];simp;omega),hbel2⟩,?_⟩;rw[hleft];simpa [World.rangeLeft,hb2,hr2]using hlt
   ·refine⟨⟨_,hb2,hr2,hseen2.2 (by rw[hhit];simp;omega),hbel2⟩,?_⟩;rw[hleft];simpa [World.rangeLeft,hb2,hr2]using hlt
theorem Rel.below{G:Nat ->Option D}{ρ:Rho}{w w':World}{H:Nat ->HO}(hR:Rel G ρ w H)(hb:Below w.heap.size w w'):Rel G ρ w' H/\Ex ρ w H ρ w' H :=
 Ex.quiet hR ⟨hb.os,hb.tape,hb.output,hb.size,fun b h hc=>⟨hc,hb.block b h⟩,fun b k h hc=>⟨.inl ⟨k,hc,Nat.le_refl _⟩,fun vs ty fz hh=>⟨vs,(hb.block b h).trans hh,rfl,fun _ _=>rfl⟩⟩,fun _ _ h=>h⟩ (fun b h=>hb.block b h)
theorem Wfx{ρ:Rho}{w:World}{i:Nat}{v:Value}:Rp ρ w (.map i) v=∃b f,ρ.nm i=some (b,f)/\v= .map (some b):=by rw[Rp]
theorem Rp_agg{ρ:Rho}{w:World}{ds:List D}{v:Value}:Rp ρ w (.agg ds) v=∃us:List Value,v= .agg us.toArray/\RpL ρ w ds us:=by rw[Rp]
theorem Rp_int{ρ:Rho}{w:World}{k:IntKind}{n:Int}{v:Value}:Rp ρ w (.int k n) v=(v= .int k n/\k.min<=n/\n<=k.max):=by rw[Rp]
theorem Qsq{ρ:Rho}{w:World}{f:Int×Int ->Int}:∀{m:List (Int×Int)} {vs:List Value},RpL ρ w (m.map fun p=>(.int .i64 (f p):D)) vs ->vs=m.map fun p=> .int .i64 (f p)
 | [],vs,h=>by rw[List.map_nil,Wu]at h;exact h
 | p::r,vs,h=>by
  rw[List.map_cons,Qab]at h;obtain⟨v,us,rfl,h1,h2⟩:=h;rw[Rp]at h1;rw[Qsq h2,h1.1];rfl
theorem Qy8{G:Nat ->Option D}{ρ:Rho}{w:World}{H:Nat ->HO}{i b f:Nat}{m:MP}(hR:Rel G ρ w H)(hi:H i= .mp (Qdx m))(hn:ρ.nm i=some (b,f)) :
  ∃ents clock,w.heap[b]?=some (.map ents clock)/\ents.toList.map (·.key)=m.map (fun p=> .int .i64 p.1)/\ents.toList.map (·.val)=m.map (fun p=> .int .i64 p.2)/\Stamped ents clock/\m.length<=Ql:=by
 have h:=hR.obj i b f hn;rw[hi]at h;obtain⟨-,ents,clock,h1,h2,h3,h4,h5⟩:=h;refine⟨ents,clock,h1,Qsq (ρ:=ρ) (w:=w) (f:=(·.1)) ?_,Qsq (ρ:=ρ) (w:=w) (f:=(·.2)) ?_,h4,by simpa [Qdx]using h5⟩
 ·simpa [Qdx,Qxo,List.map_map,Function.comp_def]using h2
 ·simpa [Qdx,Qxo,List.map_map,Function.comp_def]using h3
def Qf3(m:MP)(n:Int):Bool:=m.any fun p=>decide (0<p.1) && decide (n<=p.2)
theorem Wac{n:Int}:∀{m:MP} {l:List MapEntry},l.map (·.key)=m.map (fun p=> .int .i64 p.1) ->l.map (·.val)=m.map (fun p=> .int .i64 p.2) ->l.any (Wb2 n)=Qf3 m n
 | [],l,h,_=>by
  have:l= []:=List.map_eq_nil_iff.1 h;subst this;rfl
 | p::m, [],h,_=>by simp at h
 | p::m,e::l,h1,h2=>by
  simp only[List.map_cons,List.cons.injEq]at h1 h2;have ih:=Wac (n:=n) h1.2 h2.2;unfold Qf3 at ih⊢;rw[List.any_cons,List.any_cons,ih]
  congr 1
  simp[Wb2,h1.1,h2.1]
theorem Qk5(m:MP)(n:Int):Sp 224 [.agg [.map 0], .int .i64 n] [.mp (Qdx m)] (fun o hc=>o.fgt= .ret (.bool (Qf3 m n))/\hc= [.mp (Qdx m)]):=by
 intro ρ w vs hR hvs;refine⟨Qcm _ _ Tryz.func224 rfl (by decide) _ _,?_⟩;rw[Qab]at hvs;obtain⟨v1,us,rfl,h1,h2⟩:=hvs;rw[Qab]at h2;obtain⟨v2,us2,rfl,h2,h3⟩:=h2;rw[Wu]at h3;subst h3;rw[Rp_agg]at h1;rw[Rp_int]at h2;obtain⟨l1,rfl,hl1⟩:=h1;rw[Qab]at hl1;obtain⟨v3,us3,rfl,h4,h5⟩:=hl1;rw[Wu]at h5;subst h5;rw[Wfx]at h4;obtain⟨b,f,hnm,rfl⟩:=h4;obtain⟨ents,clock,k1,k2,k3,k4, -⟩:=Qy8 hR (i:=0) rfl hnm;have hsh:∀e∈ents.toList,∃x c,e.key= .int .i64 x/\e.val= .int .i64 c:=fun e he=>by
  have a1:e.key∈ents.toList.map (·.key):=List.mem_map.2 ⟨e,he,rfl⟩;have a2:e.val∈ents.toList.map (·.val):=List.mem_map.2 ⟨e,he,rfl⟩;rw[k2]at a1;rw[k3]at a2;obtain⟨p, -,hp⟩:=List.mem_map.1 a1;obtain⟨q, -,hq⟩:=List.mem_map.1 a2;exact⟨_,_,hp.symm,hq.symm⟩
 rw[h2.1];refine(Qqi b clock ents n w k1 k4 hsh).mono ?_;rintro e w' ⟨rfl,hbel⟩;obtain⟨r1,r2⟩:=hR.below hbel;refine⟨ρ, .ret (.bool (Qf3 m n)), [.mp (Qdx m)],⟨rfl,rfl⟩,⟨_,rfl,?_⟩,r1,r2⟩;rw[Rp,Wac k2 k3]
end Go.Proofs.YtgloldepdhgfaaaGreatDoor
namespace Go.Proofs.YtgloldepdhgfaaaGreatDoor
set_option linter.unusedSimpArgs false
set_option linter.unusedVariables false
open Go.RowKit Go.Maps Go.Sort Go.Shelf
def Qqc:Go.Shelf.Ren:=⟨fun | 7=>223 | 10=>234 | n=>n,fun | 23=>202 | 26=>3 | 3=>3 | 28=>243 | 0=>0 | 27=>242 | 33=>245 | 4=>4 | n=>n,fun | n=>n⟩
theorem keysL:Go.Proofs.SlLaysZI.n7 Tryz.prog Qqc:={
 mixed:=by kernel_rfl,
 f7:=⟨Tryz.f223.name,by decide,Tryz.func223.trans (congrArg some (by kernel_rfl))⟩,
 f10:=⟨Tryz.f234.name,by decide,Tryz.func234.trans (congrArg some (by kernel_rfl))⟩,
 t0:=Tryz.underlying0,
 a0:=Tryz.isAgg0,
 z0:=Tryz.sizeOf0,
 v0:=Tryz.zeroValue0,
 t4:=Tryz.underlying4,
 a4:=Tryz.isAgg4,
 z4:=Tryz.sizeOf4,
 v4:=Tryz.zeroValue4,
 t23:=Tryz.underlying202,
 a23:=Tryz.isAgg202,
 z23:=Tryz.sizeOf202,
 v23:=Tryz.zeroValue202,
 t26:=Tryz.underlying3,
 a26:=Tryz.isAgg3,
 z26:=Tryz.sizeOf3,
 v26:=Tryz.zeroValue3,
 t27:=Tryz.underlying242,
 a27:=Tryz.isAgg242,
 z27:=Tryz.sizeOf242,
 v27:=Tryz.zeroValue242,
 t28:=Tryz.underlying243,
 a28:=Tryz.isAgg243,
 z28:=Tryz.sizeOf243,
 v28:=Tryz.zeroValue243,
 t33:=Tryz.underlying245,
 a33:=Tryz.isAgg245,
 z33:=Tryz.sizeOf245,
 v33:=Tryz.zeroValue245}
def Qka:Go.Shelf.Ren:=⟨fun | 6=>222 | 8=>232 | 9=>233 | 11=>235 | 13=>237 | 12=>236 | 23=>247 | 24=>248 | 14=>238 | 15=>239 | 16=>240 | 17=>241 | 18=>242 | 19=>243 | 20=>244 | 21=>245 | 22=>246 | 25=>249 | 26=>250 | 27=>251 | 28=>252 | 29=>253 | 30=>231 | 31=>254 | n=>n,fun | 26=>3 | 28=>243 | 24=>38 | 0=>0 | 3=>3 | 37=>252 | 48=>262 | 50=>264 | 4=>4 | 40=>255 | 39=>254 | 45=>144 | 5=>5 | 9=>9 | 51=>265 | 55=>269 | 57=>271 | 58=>272 | 33=>245 | n=>n,fun | n=>n⟩
theorem sortedL:Go.Proofs.SlLaysZI.n6 Tryz.prog Qka:={
 mixed:=by kernel_rfl,
 f6:=⟨Tryz.f222.name,by decide,Tryz.func222.trans (congrArg some (by kernel_rfl))⟩,
 f8:=⟨Tryz.f232.name,by decide,Tryz.func232.trans (congrArg some (by kernel_rfl))⟩,
 f11:=⟨Tryz.f235.name,by decide,Tryz.func235.trans (congrArg some (by kernel_rfl))⟩,
 t0:=Tryz.underlying0,
 a0:=Tryz.isAgg0,
 z0:=Tryz.sizeOf0,
 v0:=Tryz.zeroValue0,
 t24:=Tryz.underlying38,
 a24:=Tryz.isAgg38,
 z24:=Tryz.sizeOf38,
 v24:=Tryz.zeroValue38,
 t26:=Tryz.underlying3,
 a26:=Tryz.isAgg3,
 z26:=Tryz.sizeOf3,
 v26:=Tryz.zeroValue3,
 t28:=Tryz.underlying243,
 a28:=Tryz.isAgg243,
 z28:=Tryz.sizeOf243,
 v28:=Tryz.zeroValue243,
 i26:=by kernel_rfl}
def Qyc:Go.Shelf.Ren:=⟨fun | 5=>233 | 8=>237 | 7=>236 | 19=>247 | 20=>248 | 10=>238 | 11=>239 | 12=>240 | 13=>241 | 14=>242 | 15=>243 | 16=>244 | 17=>245 | 18=>246 | 30=>249 | 31=>250 | 32=>251 | 33=>252 | 34=>253 | 35=>231 | 40=>254 | n=>n,fun | 23=>38 | 25=>3 | 3=>3 | 32=>252 | 22=>38 | 0=>0 | 44=>262 | 46=>264 | 4=>4 | 36=>255 | 35=>254 | 41=>144 | 5=>5 | 9=>9 | 53=>265 | 57=>269 | 63=>271 | 64=>272 | n=>n,fun | n=>n⟩
theorem sortL:Go.Proofs.SlLaysM.n5 Tryz.prog Qyc:={
 mixed:=by kernel_rfl,
 f5:=⟨Tryz.f233.name,by decide,Tryz.func233.trans (congrArg some (by kernel_rfl))⟩,
 f7:=⟨Tryz.f236.name,by decide,Tryz.func236.trans (congrArg some (by kernel_rfl))⟩,
 f8:=Tryz.func237.trans (congrArg some (by kernel_rfl)),
 f10:=⟨Tryz.f238.name,by decide,Tryz.func238.trans (congrArg some (by kernel_rfl))⟩,
 f11:=⟨Tryz.f239.name,by decide,Tryz.func239.trans (congrArg some (by kernel_rfl))⟩,
 f12:=⟨Tryz.f240.name,by decide,Tryz.func240.trans (congrArg some (by kernel_rfl))⟩,
 f13:=⟨Tryz.f241.name,by decide,Tryz.func241.trans (congrArg some (by kernel_rfl))⟩,
 f14:=⟨Tryz.f242.name,by decide,Tryz.func242.trans (congrArg some (by kernel_rfl))⟩,
 f15:=⟨Tryz.f243.name,by decide,Tryz.func243.trans (congrArg some (by kernel_rfl))⟩,
 f16:=⟨Tryz.f244.name,by decide,Tryz.func244.trans (congrArg some (by kernel_rfl))⟩,
 f17:=⟨Tryz.f245.name,by decide,Tryz.func245.trans (congrArg some (by kernel_rfl))⟩,
 f18:=⟨Tryz.f246.name,by decide,Tryz.func246.trans (congrArg some (by kernel_rfl))⟩,
 f19:=Tryz.func247.trans (congrArg some (by kernel_rfl)),
 f20:=Tryz.func248.trans (congrArg some (by kernel_rfl)),
 f30:=⟨Tryz.f249.name,by decide,Tryz.func249.trans (congrArg some (by kernel_rfl))⟩,
 f31:=Tryz.func250.trans (congrArg some (by kernel_rfl)),
 f32:=Tryz.func251.trans (congrArg some (by kernel_rfl)),
 f33:=⟨Tryz.f252.name,by decide,Tryz.func252.trans (congrArg some (by kernel_rfl))⟩,
 f34:=⟨Tryz.f253.name,by decide,Tryz.func253.trans (congrArg some (by kernel_rfl))⟩,
 f35:=⟨Tryz.f231.name,by decide,Tryz.func231.trans (congrArg some (by kernel_rfl))⟩,
 f40:=⟨Tryz.f254.name,by decide,Tryz.func254.trans (congrArg some (by kernel_rfl))⟩,
 t0:=Tryz.underlying0,
 a0:=Tryz.isAgg0,
 z0:=Tryz.sizeOf0,
 v0:=Tryz.zeroValue0,
 t3:=Tryz.underlying3,
 a3:=Tryz.isAgg3,
 z3:=Tryz.sizeOf3,
 v3:=Tryz.zeroValue3,
 t4:=Tryz.underlying4,
 a4:=Tryz.isAgg4,
 z4:=Tryz.sizeOf4,
 v4:=Tryz.zeroValue4,
 t5:=Tryz.underlying5,
 a5:=Tryz.isAgg5,
 z5:=Tryz.sizeOf5,
 v5:=Tryz.zeroValue5,
 t9:=Tryz.underlying9,
 a9:=Tryz.isAgg9,
 z9:=Tryz.sizeOf9,
 v9:=Tryz.zeroValue9,
 t22:=Tryz.underlying38,
 a22:=Tryz.isAgg38,
 z22:=Tryz.sizeOf38,
 v22:=Tryz.zeroValue38,
 t23:=Tryz.underlying38,
 a23:=Tryz.isAgg38,
 z23:=Tryz.sizeOf38,
 v23:=Tryz.zeroValue38,
 t25:=Tryz.underlying3,
 a25:=Tryz.isAgg3,
 z25:=Tryz.sizeOf3,
 v25:=Tryz.zeroValue3,
 t32:=Tryz.underlying252,
 a32:=Tryz.isAgg252,
 z32:=Tryz.sizeOf252,
 v32:=Tryz.zeroValue252,
 t35:=Tryz.underlying254,
 a35:=Tryz.isAgg254,
 z35:=Tryz.sizeOf254,
 v35:=Tryz.zeroValue254,
 t36:=Tryz.underlying255,
 a36:=Tryz.isAgg255,
 z36:=Tryz.sizeOf255,
 v36:=Tryz.zeroValue255,
 t41:=Tryz.underlying144,
 a41:=Tryz.isAgg144,
 z41:=Tryz.sizeOf144,
 v41:=Tryz.zeroValue144,
 t44:=Tryz.underlying262,
 a44:=Tryz.isAgg262,
 z44:=Tryz.sizeOf262,
 v44:=Tryz.zeroValue262,
 t46:=Tryz.underlying264,
 a46:=Tryz.isAgg264,
 z46:=Tryz.sizeOf264,
 v46:=Tryz.zeroValue264,
 t53:=Tryz.underlying265,
 a53:=Tryz.isAgg265,
 z53:=Tryz.sizeOf265,
 v53:=Tryz.zeroValue265,
 t57:=Tryz.underlying269,
 a57:=Tryz.isAgg269,
 z57:=Tryz.sizeOf269,
 v57:=Tryz.zeroValue269,
 t63:=Tryz.underlying271,
 a63:=Tryz.isAgg271,
 z63:=Tryz.sizeOf271,
 v63:=Tryz.zeroValue271,
 t64:=Tryz.underlying272,
 a64:=Tryz.isAgg272,
 z64:=Tryz.sizeOf272,
 v64:=Tryz.zeroValue272}
end Go.Proofs.YtgloldepdhgfaaaGreatDoor
namespace Go.Proofs.YtgloldepdhgfaaaGreatDoor
set_option linter.unusedSimpArgs false
set_option linter.unusedVariables false
open Go.RowKit Go.Maps Go.MapKept Go.Sort Go.Shelf Go.WideAt Go.WideElems Go.WideShapes
theorem sortsIn(k:Nat):AnyZI.SortsIn Tryz.prog Qka Fence.wide k :=
 ⟨fun blk off cap ss W hH hblk hsz=>callsIn_wide.2 (AnyM.slices_Sort_int sortL blk off cap ss W hH hblk hsz),fun p cap W=>callsIn_wide.2 (AnyM.slices_Sort_int_none sortL p cap W)⟩
def Wbo(v:Value):Option (DataW Unit×List MemPlace):=some (.nil, [])
theorem Qqe{es:Array MapEntry}{m:MP}(hk:es.toList.map (·.key)=m.map (fun p=> .int .i64 p.1))(hb:∀p∈m,(Lit.int .i64 p.1).wf=true) :
  (intKeys (.map ((es.toList.map (rg Tryz.prog 3 Wbo)).foldr DataW.insert []))).Perm (m.map (·.1)):=by
 have h1:∀l:List MapEntry,∀m:MP,(∀p∈m,(Lit.int .i64 p.1).wf=true) ->l.map (·.key)=m.map (fun p=> .int .i64 p.1) ->(l.map (rg Tryz.prog 3 Wbo)).map (fun q=>Go.intOf q.1)=m.map (·.1):=by
  intro l
  induction l with
  | nil =>
   intro m _ h;have:m= []:=List.map_eq_nil_iff.1 h.symm;subst this;rfl
  | cons e r ih =>
   intro m hw h;cases m with
   | nil=>simp at h
   | cons p m =>
    simp only[List.map_cons,List.cons.injEq]at h⊢;refine⟨?_,ih m (fun q hq=>hw q (List.mem_cons_of_mem _ hq)) h.2⟩;have hkey:keyOf Tryz.prog 3 e.key=some (.int .i64 p.1):=by rw[h.1];exact keyOf_int_mk Tryz.underlying3 (hw p (List.mem_cons_self ..))
    have:rg Tryz.prog 3 Wbo e=(.int .i64 p.1, .nil):=by simp[rg,WideElems.rd,hkey,Wbo]
    rw[this];rfl
 have h2:=h1 es.toList m hb hk;show(List.map (fun p:Lit×DataW Unit=>Go.intOf p.1) _).Perm _;rw[<- h2];exact(sorted_perm _).map _
theorem Qpe(b bx clock:Nat)(ents:Array MapEntry)(m:MP)(w:World)(hb:w.heap[b]?=some (.map ents clock))(hst:Stamped ents clock)(hk:ents.toList.map (·.key)=m.map (fun p=> .int .i64 p.1))(hw:∀p∈m,(Lit.int .i64 p.1).wf=true)(hm:m.length<=16777216)
  (hbx:w.cell? ⟨bx,0,none⟩=some (.map (some b))) :
  Calls Tryz.prog 222 #[.func (.func 234) #[] #[.pointer (some ⟨bx,0,none⟩)]] w fun e w'=>∃(v:Value) (ss:List Int),e= .returned v/\ss.Perm (m.map (·.1)) /\
   w'.ownsRow w.heap.size 3 1 v ss.length ((ss.mergeSort (fun x y=>decide (x<=y))).map encZ)/\Below w.heap.size w w':=by
 have hsz:ents.size=m.length:=by have:=congrArg List.length hk;simpa using this
 have hmax:ents.size<=maxLen:=by simp only[maxLen];omega
 have hF:Fit Tryz.prog 3 Wbo ents clock:=⟨hmax,hst,fun x hx=>by
  have a1:x.key∈ents.toList.map (·.key):=List.mem_map.2 ⟨x,hx,rfl⟩;rw[hk]at a1;obtain⟨p,hp,e⟩:=List.mem_map.1 a1;have hkey:keyOf Tryz.prog 3 x.key=some (.int .i64 p.1):=by rw[<- e];exact keyOf_int_mk Tryz.underlying3 (hw p hp)
  exact⟨_,by simp[WideElems.rd,hkey,Wbo];rfl⟩⟩
 have hown:w.ownsMap Tryz.prog 3 Wbo b ents.size (.map ((ents.toList.map (rg Tryz.prog 3 Wbo)).foldr DataW.insert [])):=⟨ents,clock,hb,hF,Nat.le_refl _,rfl⟩;have hseq:SeqGives Fence.wide 2 Tryz.prog 234 #[.pointer (some ⟨bx,0,none⟩)] encZ (fun ss=>ss.Perm (intKeys (.map ((ents.toList.map (rg Tryz.prog 3 Wbo)).foldr DataW.insert [])))) (Maps.size (.map ((ents.toList.map (rg Tryz.prog 3 Wbo)).foldr DataW.insert []))) w :=
  AnyZI.keys_gives (ρ:=Qqc) {keysL with} Fence.wide _ trivial rfl (by omega) bx b ents.size _ w (World.block_lt_of_cell? w _ hbx) hbx hown
 have hDs:Maps.size (.map ((ents.toList.map (rg Tryz.prog 3 Wbo)).foldr DataW.insert []))=m.length:=by
  rw[Maps.size_eq,(sorted_perm _).length_eq,List.length_map,Array.length_toList];exact hsz
 have cS:=AnyZI.sorted_in sortedL Fence.wide 5 trivial trivial trivial trivial rfl (by omega) (sortsIn _) (enters_of Tryz.func233 (by kernel_rfl) rfl) 234 #[.pointer (some ⟨bx,0,none⟩)] trivial (enters_of Tryz.func234 (by kernel_rfl) rfl) _ _ (by rw[hDs];omega) (by rw[hDs];omega) _ hseq;refine((callsIn_wide (n:=5)).1 cS).mono ?_;rintro e w' ⟨v,ss,rfl,hS,hrow,hnil,hbel⟩;exact⟨v,ss,rfl,hS.trans (Qqe hk hw),hrow,hbel⟩
def Qc7(m:MP):List Int:=(m.map (·.1)).mergeSort fun x y=>decide (x<=y)
theorem Qwd{l l':List Int}(h:l.Perm l'):(l.mergeSort fun x y=>decide (x<=y))=l'.mergeSort fun x y=>decide (x<=y):=by
 have tr:∀a b c:Int,decide (a<=b)=true ->decide (b<=c)=true ->decide (a<=c)=true:=fun a b c h1 h2=>by simp only[decide_eq_true_eq]at *;omega
 have to:∀a b:Int,(decide (a<=b) || decide (b<=a))=true:=fun a b=>by simp only[Bool.or_eq_true,decide_eq_true_eq];omega
 refine List.Perm.eq_of_pairwise (le:=fun x y=>decide (x<=y)=true) ?_ (List.pairwise_mergeSort tr to l) (List.pairwise_mergeSort tr to l') (((List.mergeSort_perm l _).trans h).trans (List.mergeSort_perm l' _).symm);intro a b _ _ h1 h2;simp only[decide_eq_true_eq]at h1 h2;omega
theorem Rp_row{ρ:Rho}{w w':World}{e:TypeId}{v:Value}{l:List Int}(hfr:∀b,w.heap.size<=b ->ρ.c b=none)(h:w'.ownsRow w.heap.size e 1 v l.length (l.map encZ))(hb:∀x,x∈l ->IntKind.i64.min<=x/\x<=IntKind.i64.max)(hl:l.length<=Ql):Rp ρ w' (Qeg l) v:=by
 unfold Qeg;rw[Rp];rw[List.length_map];rcases h.2 with ⟨rfl,hz⟩ | ⟨g,cap,cur,rfl,hbase,hg,r1,r2,r3,r4⟩
 ·have:l= []:=List.eq_nil_of_length_eq_zero hz;subst this;exact⟨none,0,1,rfl,Nat.le_refl _,Nat.zero_le _,Nat.zero_le _,(fun _ h=>by cases h),trivial,fun h=>absurd rfl h⟩
 ·refine⟨_,cap,1,rfl,r1,r2,hl,fun d hd=>?_,trivial,fun _=>⟨g,0,rfl,RpE.of (sz:=1) (fun d hd=>?_) fun i d hi=>?_⟩⟩
  ·obtain⟨x, -,rfl⟩:=List.mem_map.1 hd;rfl
  ·obtain⟨x, -,rfl⟩:=List.mem_map.1 hd;rfl
  ·rw[List.getElem?_map]at hi;cases hx:l[i]? with
   | none=>rw[hx]at hi;cases hi
   | some x =>
    rw[hx]at hi;cases hi;have hm:=hb x (List.mem_of_getElem? hx);refine⟨.int .i64 x,⟨(fun k hk=>by rw[hfr g hbase]at hk;cases hk),?_,rfl⟩,by rw[Rp];exact⟨rfl,hm⟩⟩;have h1:(l.map encZ)[i]?=some (.int .i64 x):=by rw[List.getElem?_map,hx];rfl
    rw[<- r4,Nat.mul_one]at h1;have hi':i<l.length:=(List.getElem?_eq_some_iff.1 hx).1;rw[List.getElem?_take_of_lt hi',Array.getElem?_toList]at h1;simp[World.cell?,hg,h1]
theorem Qrp(m:MP)(hm:MOK m):Sp 222 [.fn (.func 234) [] [.box 1 0]] [.mp (Qdx m), .cells 202 [.map 0]]
  (fun o hc=>o.fgt= .ret (Qeg (Qc7 m))/\hc= [.mp (Qdx m), .cells 202 [.map 0]]):=by
 intro ρ w vs hR hvs;refine⟨Qcm _ _ Tryz.func222 rfl (by decide) _ _,?_⟩;rw[Qab]at hvs;obtain⟨v1,us,rfl,h1,h2⟩:=hvs;rw[Wu]at h2;subst h2;rw[Rp]at h1;obtain⟨us,vs,rfl,h2,h3⟩:=h1;rw[Wu]at h2;subst h2;rw[Qab]at h3;obtain⟨v2,us2,rfl,h4,h5⟩:=h3;rw[Wu]at h5;subst h5;obtain⟨bx,f,cs,rfl,hnm, -,hh,hr⟩:=Qh0 hR (i:=1) (ty:=202) (ds:= [.map 0]) rfl h4;rw[Qab]at hr;obtain⟨v3,us3,rfl,h6,h7⟩:=hr;rw[Wu]at h7;subst h7;rw[Wfx]at h6;obtain⟨b,f0,hnm0,rfl⟩:=h6;obtain⟨ents,clock,k1,k2,k3,k4, -⟩:=Qy8 hR (i:=0) rfl hnm0;have hw:∀p∈m,(Lit.int .i64 p.1).wf=true:=fun p hp=>by
  have:=hm.v p hp;simp[Lit.wf,IntKind.min,IntKind.max,IntKind.signed,IntKind.bits];omega
 have hlen:=hm.len;refine(Qpe b bx clock ents m w k1 k4 k2 hw (by omega) (by simp[World.cell?,hh])).mono ?_;rintro e w' ⟨v,ss,rfl,hperm,hrow,hbel⟩;obtain⟨r1,r2⟩:=hR.below hbel;have hs:(ss.mergeSort fun x y=>decide (x<=y))=Qc7 m:=by
  exact Qwd hperm
 rw[hs]at hrow;have hmem:∀x,x∈Qc7 m ->0<=x/\x<=1048576:=fun x hx=>by
  have hx':x∈m.map (·.1):=(List.mergeSort_perm _ _).mem_iff.1 hx;obtain⟨p,hp,rfl⟩:=List.mem_map.1 hx';exact hm.v p hp
 have hsl:(Qc7 m).length=ss.length:=by rw[<- hs,List.length_mergeSort]
 have hsl2:ss.length=m.length:=by rw[hperm.length_eq,List.length_map]
 refine⟨ρ, .ret (Qeg (Qc7 m)),_,⟨?_,rfl⟩,⟨v,rfl,Rp_row hR.fresh (by rw[hsl];exact hrow) (fun x hx=>?_) (by unfold Ql;omega)⟩,r1,r2⟩
 ·simp[Out.fgt,Qeg,D.fgt]
 ·have:=hmem x hx;have h1:IntKind.i64.min= -9223372036854775808:=by decide
  have h2:IntKind.i64.max=9223372036854775807:=by decide
  omega
end Go.Proofs.YtgloldepdhgfaaaGreatDoor
namespace Go.Proofs.YtgloldepdhgfaaaGreatDoor
set_option linter.unusedSimpArgs false
set_option linter.unusedVariables false
set_option maxHeartbeats 10000000
set_option maxRecDepth 20000
open Go.RowKit
attribute [local simp] Qx Qm Qo Qp Wn Xg opD Wc Qr Qw Wi hOf Wj Xf Xd TK.isAgg TK.known Ws Wk Qz Qh D.ofV inB Qy Wp Xy Za Zg Xc Xw Zh IntKind.min IntKind.max IntKind.signed IntKind.bits Wm Xz
theorem Qz4(es:List (D×D)):Sp 223 [.map 0] [.mp es] (fun o hc=>o= .ret (.fn (.func 234) [] [.box 1 0])/\hc= [.mp es, .cells 202 [.map 0]]):=by
 refine eN Tryz.func223 rfl (by decide) rfl rfl ?_;(refine sI fun K Z=>?_;(repeat rw[Qa];simp);refine Z ?_;clear Z K);(refine sI fun K Z=>?_;(repeat rw[Qa];simp);refine Z ?_;clear Z K);(refine Qe ?_;(try simp only[zs]);refine Qk.ret rfl (.inl ?_);simp[zM])
def Qdw(m:MP)(v:Int):Option (Int×Int) :=
 if 0<v\/(0<(Qdi m v).getD 0/\Qf3 m ((Qdi m v).getD 0)=false)then some (v,(Qdi m v).getD 0)else none
def Quh(m:MP):LV:=(Qc7 m).filterMap (Qdw m)
theorem Qpf(m:MP):(Qc7 m).length=m.length:=by unfold Qc7;rw[List.length_mergeSort,List.length_map]
theorem Wd6(m:MP):(Quh m).length<=m.length:=by
 have:=List.length_filterMap_le (Qdw m) (Qc7 m);rw[Qpf]at this;exact this
theorem Qwn(m:MP)(hm:MOK m):Sp 208 [.agg [.map 0]] [.mp (Qdx m)] (fun o hc=>o= .ret (.agg [.own 1 (Quh m).length])/\hc= [.mp (Qdx m), .row 2 ((Quh m).map Wv)]):=by
 have hml:=hm.len;have hsl:=Qpf m;refine eN Tryz.func208 rfl (by decide) rfl rfl ?_;(refine sI fun K Z=>?_;(repeat rw[Qa];simp);refine Z ?_;clear Z K);refine Wb7 2 0 2 (ty:=53) (ds:= [.slice [] .full]) rfl ?_;simp[D.ownd];refine Qc fun K1 hK1=>?_
 (refine sR fun K hK=>?_;(repeat rw[Qa];simp));refine cXg [0] (Qz4 (Qdx m)) ?_;simp[zU]
 (repeat rw[Qa];simp)
 refine cXf [0,4] (Qrp m hm) ?_;simp[zU,Qeg]
 (repeat rw[Qa];simp)
 (refine hK _ _ _ ?_;clear hK K);refine Qbv Wa Qf (ti:=3) (tk:=12) (tn:=11) (td:=13) (ts:=41) [4,5,12,13,14,15,16,17,18,19,20,21,22,23,24,25,26,27,28,29,30,31,32,33,34,35,36,37,38,39,40,41] ((Qc7 m).length) (fun k ys hl=>∃(x4 x5 x12 x13 x14 x15 x16 x17 x18 x19 x20 x21 x22 x23 x24 x25 x26 x27 x28 x29 x30 x31 x32 x33 x34 x35 x36 x37 x38 x39 x40 x41:D),ys= [x4,x5,x12,x13,x14,x15,x16,x17,x18,x19,x20,x21,x22,x23,x24,x25,x26,x27,x28,x29,x30,x31,x32,x33,x34,x35,x36,x37,x38,x39,x40,x41]/\hl= [.mp (Qdx m), .cells 206 [.map 0], .cells 53 [.own 3 (((Qc7 m).take k).filterMap (Qdw m)).length], .row 2 ((((Qc7 m).take k).filterMap (Qdw m)).map Wv), .cells 202 [.map 0]]) rfl rfl rfl rfl rfl rfl rfl rfl rfl rfl rfl rfl (by simp) (by decide) rfl (by first | assumption | omega | (unfold Ql;omega)) rfl (by kernel_rfl) (by decide) ?_ ?_ ?_
 ·exact⟨_,_,_,_,_,_,_,_,_,_,_,_,_,_,_,_,_,_,_,_,_,_,_,_,_,_,_,_,_,_,_,_,rfl,rfl⟩
 ·rintro k ys hl A hk ⟨x4,x5,x12,x13,x14,x15,x16,x17,x18,x19,x20,x21,x22,x23,x24,x25,x26,x27,x28,x29,x30,x31,x32,x33,x34,x35,x36,x37,x38,x39,x40,x41,rfl,rfl⟩ hA hA2;simp only[Qh,List.set];have htk:(Qc7 m).take (k+1)=(Qc7 m).take k++ [(Qc7 m)[k]]:=List.take_succ_eq_append_getElem hk;generalize hes:((Qc7 m).take k).filterMap (Qdw m)=es;have hel:es.length+1<=Ql:=by
   have h1:=List.length_filterMap_le (Qdw m) ((Qc7 m).take k);rw[hes,List.length_take]at h1;unfold Ql;omega
  have hnx:((Qc7 m).take (k+1)).filterMap (Qdw m)=es++(Qdw m (Qc7 m)[k]).toList:=by
   rw[htk,List.filterMap_append,hes];cases hq:Qdw m (Qc7 m)[k] <;> simp[hq]
  obtain⟨v,hv⟩:∃v,v=(Qc7 m)[k]:=⟨_,rfl⟩;have hvm:v∈m.map (·.1):=by
   rw[hv];exact(List.mergeSort_perm _ _).mem_iff.1 (List.getElem_mem hk)
  obtain⟨n,hn⟩:∃n,Qdi m v=some n:=by
   cases hq:Qdi m v with
   | some n=>exact⟨n,rfl⟩
   | none=>exact absurd hvm (Qgr hq)
  have e1:=Qu1 m;have e2:=Qld v m;(refine sI fun K Z=>?_;(repeat rw[Qa];simp[hk,<- hv]);refine Z ?_;clear Z K);(refine sI fun K Z=>?_;(repeat rw[Qa];simp[e1,e2,hn]);refine Z ?_;clear Z K);rw[<- hv]at hnx;have hpush:List.map Wv es++ [D.agg [.int .i64 v, .int .i64 n]]=(es++ [(v,n)]).map Wv:=by simp[Wv]
  by_cases h1:0<v
  ·have hkp:Qdw m v=some (v,n):=by simp[Qdw,h1,hn]
   rw[hkp]at hnx;(refine sI fun K Z=>?_;(repeat rw[Qa];simp[h1]);refine Z ?_;clear Z K);refine pT rfl ?_;(refine Qi Wa ?_;(repeat rw[Qa];simp[hel]));rw[hpush];(refine hA2 ([1,2,5,4]) _ _ (by decide) (by simp) (by simp[zM,Qh]) ?_ rfl;simp[zM]);rw[hnx];simp
  ·by_cases h2:0<n
   ·cases h3:Qf3 m n with
    | true =>
     have hkp:Qdw m v=none:=by simp[Qdw,h1,hn,h3]
     rw[hkp]at hnx;(refine sR fun K hK=>?_;(repeat rw[Qa];simp[h1,h2]));refine cXf [0] (Qk5 m n) ?_;simp[zU]
     (repeat rw[Qa];simp[h3])
     (refine hK _ _ _ ?_;clear hK K);refine pF rfl ?_;refine Qg ?_;(refine hA _ _ (by kernel_rfl) ?_ rfl;simp only[Qb4,List.map_cons,List.map_nil]);exact⟨_,_,_,_,_,_,_,_,_,_,_,_,_,_,_,_,_,_,_,_,_,_,_,_,_,_,_,_,_,_,_,_,rfl,by rw[hnx];simp⟩
    | false =>
     have hkp:Qdw m v=some (v,n):=by simp[Qdw,h1,hn,h2,h3]
     rw[hkp]at hnx;(refine sR fun K hK=>?_;(repeat rw[Qa];simp[h1,h2]));refine cXf [0] (Qk5 m n) ?_;simp[zU]
     (repeat rw[Qa];simp[h3])
     (refine hK _ _ _ ?_;clear hK K);refine pT rfl ?_;(refine Qi Wa ?_;(repeat rw[Qa];simp[hel]));rw[hpush];(refine hA2 ([1,2,5,4]) _ _ (by decide) (by simp) (by simp[zM,Qh]) ?_ rfl;simp[zM]);rw[hnx];simp
   ·have hkp:Qdw m v=none:=by simp[Qdw,h1,hn,h2]
    rw[hkp]at hnx;(refine sI fun K Z=>?_;(repeat rw[Qa];simp[h1,h2]);refine Z ?_;clear Z K);refine pF rfl ?_;refine Qg ?_;(refine hA _ _ (by kernel_rfl) ?_ rfl;simp only[Qb4,List.map_cons,List.map_nil]);exact⟨_,_,_,_,_,_,_,_,_,_,_,_,_,_,_,_,_,_,_,_,_,_,_,_,_,_,_,_,_,_,_,_,rfl,by rw[hnx];simp⟩
 ·rintro ys hl ⟨x4,x5,x12,x13,x14,x15,x16,x17,x18,x19,x20,x21,x22,x23,x24,x25,x26,x27,x28,x29,x30,x31,x32,x33,x34,x35,x36,x37,x38,x39,x40,x41,rfl,rfl⟩;simp only[Qh,List.set];refine hK1 _ _ _ ?_;clear hK1 K1;have htk:((Qc7 m).take (Qc7 m).length).filterMap (Qdw m)=Quh m:=by rw[List.take_length];rfl
  rw[htk];(refine sI fun K Z=>?_;(repeat rw[Qa];simp);refine Z ?_;clear Z K);(refine Qe ?_;(try simp only[zs]);refine Qk.ret rfl (.inr ⟨[3],by decide,by simp,?_⟩);simp[zM])
theorem Qxd(d:D)(x:HO):Qgw Tryz.prog glob 207 [.box 0 0] [.cells 53 [d],x] none (fun hc=>hc= [.cells 53 [d],x]):=by
 refine Qav Wa Tryz.func207 rfl rfl (fun a w=>rfl) rfl (Qcm _ _ Tryz.func207 rfl (by decide)) rfl rfl ?_;(try simp only[zr]);(repeat rw[Qa];simp);(refine sI fun K Z=>?_;(repeat rw[Qa];simp);refine Z ?_;clear Z K);refine pF rfl ?_;refine Qg ?_;refine Qk.nrm rfl ?_;simp[Qw]
theorem Qxc(d:D):Qgw Tryz.prog glob 207 [.box 0 0] [.cells 53 [d]] (some Qhb) (fun hc=>hc= [.cells 53 [.slice [] .full], .cells 228 []]):=by
 refine Qav Wa Tryz.func207 rfl rfl (fun a w=>rfl) rfl (Qcm _ _ Tryz.func207 rfl (by decide)) rfl rfl ?_;unfold Qhb;(try simp only[zr]);(repeat rw[Qa];simp);(refine sI fun K Z=>?_;(repeat rw[Qa];simp);refine Z ?_;clear Z K);refine pT rfl ?_;refine Qc fun K1 hK1=>?_
 (refine sI fun K Z=>?_;(repeat rw[Qa];simp);refine Z ?_;clear Z K);refine Qc fun K2 hK2=>?_
 (refine Qi Wa ?_;(repeat rw[Qa];simp));refine hK2 _ _ _ ?_;refine pF rfl ?_;refine Qg (hK1 _ _ _ ?_);(refine Qi Wa ?_;(repeat rw[Qa];simp));refine Qk.nrm rfl ?_;simp
def We8(l:LV)(o:Out)(hc:List HO):Prop:=(l= []/\o= .ret (.agg [.slice [] .full])/\hc= [])\/(o= .ret (.agg [.own 0 l.length])/\hc= [.row 2 (l.map Wv)])
def Qma(R:Option MP)(o:Out)(hc:List HO):Prop:=match R with
 | none=>o= .pan Qhb/\∃m',hc= [.mp (Qdx m')]
 | some m=>o.fgt= .ret (.tuple [])/\hc= [.mp (Qdx m)]
def levR:Option MP ->LV
 | none=> []
 | some m=>Quh m
theorem Qp2(g:FuncId)(cap:List D)(R:Option MP)(hcf:D.fgts cap=cap)(hcp:D.pures cap=true)(hR:∀m,R=some m ->MOK m)(hg:Sp g (.agg [.map 0]::cap) [.mp []] (Qma R)) :
  Sp 180 [.fn (.func g) [] cap] [] (We8 (levR R)):=by
 have hren:∀σ,D.rens σ cap=cap:=fun σ=>D.rens_pure σ cap hcp
 have hok:∀p,D.okNs p cap=true:=fun p=>D.okNs_pure p cap hcp
 refine eD Tryz.func180 rfl (by decide) rfl rfl ?_;(refine sI fun K Z=>?_;(repeat rw[Qa];simp);refine Z ?_;clear Z K);(refine sI fun K Z=>?_;(repeat rw[Qa];simp);refine Z ?_;clear Z K);(refine sI fun K Z=>?_;(repeat rw[Qa];simp);refine Z ?_;clear Z K);(refine sR fun K hK=>?_;(repeat rw[Qa];simp));refine Wl.objs Qf [1] true hg ?_ ?_ (by decide) (by simp) (by simp[zA,Qdx]) (by simp[zA]) (by simp[zA,hcf,hren]) (by simp[zA,hcf,hok])
 ·cases R with
  | none =>
   rintro o hc ⟨rfl,m',rfl⟩;refine⟨false,?_⟩;unfold Qhb;simp[zU]
   (repeat rw[Qa];simp)
   (try simp only[zs]);refine Qfn.objs Qf [0] (Qxc (.slice [] .full)) ?_ ?_ (fun d h=>by cases h;rfl) (by decide) (by simp) (by simp[zA]) (by simp[zA]) (by simp[zA]) (by simp[zA])
   ·rintro hc rfl;simp[zA,upO,Qw,Wi];refine Qez.intro rfl (.inr ⟨[],by decide,by simp,?_⟩);simp[zM];exact .inl ⟨rfl,rfl,rfl⟩
   ·rintro hc rfl;simp
  | some m =>
   rintro o hc ⟨ho,rfl⟩;refine⟨true,?_⟩;rw[show told true o=_ from ho];clear ho;simp[zU]
   (repeat rw[Qa];simp)
   (refine hK _ _ _ ?_;clear hK K);(refine sR fun K hK=>?_;(repeat rw[Qa];simp));refine cXg [1] (Qwn m (hR m rfl)) ?_;simp[zU]
   (repeat rw[Qa];simp)
   (refine hK _ _ _ ?_;clear hK K);refine Qe ?_;refine Qfn.objs Qf [0,3] (Qxd (.own 1 (Quh m).length) (.row 2 ((Quh m).map Wv))) ?_ ?_ (fun d h=>by cases h) (by decide) (by simp) (by simp[zA]) (by simp[zA]) (by simp[zA]) (by simp[zA])
   ·rintro hc rfl;simp[zA,upO,Qw,Wi];refine Qez.intro rfl (.inr ⟨[3],by decide,by simp,?_⟩);simp[zM];exact .inr ⟨rfl,rfl⟩
   ·rintro hc rfl;simp
 ·cases R with
  | none=>rintro o hc ⟨rfl,m',rfl⟩;simp
  | some m=>rintro o hc ⟨ho,rfl⟩;simp
def Wf(l:LV):LV:=if Xk l then [] else Quh (l.foldl Qdl [])
def Qen(l:LV)(m:MP):Option MP:=if Xk l then none else some (l.foldl Qdl m)
theorem Wdn(ls:List LV)(hl:ls.length<=Ql)(hls:∀l,l∈ls ->l.length<=Ql):Sp 181 [.agg [.map 0], .ref (Lvs ls)] [.mp []] (Qma (Qen ls.flatten [])):=by
 refine eN Tryz.func181 rfl (by decide) rfl rfl ?_;unfold Lvs;(refine sI fun K Z=>?_;(repeat rw[Qa];simp);refine Z ?_;clear Z K);(refine sI fun K Z=>?_;(repeat rw[Qa];simp);refine Z ?_;clear Z K);refine Qbv Wa Qf (ti:=3) (tk:=7) (tn:=6) (td:=8) (ts:=16) [4,7,8,9,10,11,12,13,14,15,16] (ls.length) (fun k ys hl=>∃(m':MP) (x4 x7 x8 x9 x10 x11 x12 x13 x14 x15 x16:D),ys= [x4,x7,x8,x9,x10,x11,x12,x13,x14,x15,x16]/\Xk ls.flatten=Xk (ls.drop k).flatten/\(ls.drop k).flatten.foldl Qdl m'=ls.flatten.foldl Qdl []/\MOK m'/\hl= [.mp (Qdx m'), .cells 206 [.map 0]]) rfl rfl rfl rfl rfl rfl rfl rfl rfl rfl rfl rfl (by simp) (by decide) rfl (by first | assumption | omega | (unfold Ql;omega)) rfl (by kernel_rfl) (by decide) ?_ ?_ ?_
 ·exact⟨[],_,_,_,_,_,_,_,_,_,_,_,rfl,rfl,rfl,MOK.nil,rfl⟩
 ·rintro k ys hl A hk ⟨m',x4,x7,x8,x9,x10,x11,x12,x13,x14,x15,x16,rfl,hb,hf,hml,rfl⟩ hA hA2;simp only[Qh,List.set];have hd:ls.drop k=ls[k]::ls.drop (k+1):=List.drop_eq_getElem_cons hk;rw[hd,List.flatten_cons]at hb hf;(refine sI fun K Z=>?_;(repeat rw[Qa];simp[hk,Qn]);refine Z ?_;clear Z K);have hsp:=Qdr ls[k] m' (hls _ (List.getElem_mem hk)) hml;(refine Qi Wa ?_;(repeat rw[Qa];simp));refine Wl.objs Qf [0] true hsp ?_ ?_ (by decide) (by simp) (by simp[zA]) (by simp[zA]) (by simp[zA,Ps]) (by simp[zA])
  ·cases hbad:Xk ls[k]with
   | true =>
    simp only[if_true];rintro o hc ⟨rfl,m2,rfl⟩;refine⟨false,?_⟩;unfold Qhb;simp[zU]
    (repeat rw[Qa];simp)
    ((try simp only[zs]);refine Qk.pan (.inr ⟨[],by decide,by simp,?_⟩);simp[zM]);have hall:Xk ls.flatten=true:=by rw[hb];unfold Xk at hbad⊢;rw[List.any_append,hbad];rfl
    simp[Qma,Qen,hall,Qhb];exact⟨m2,rfl⟩
   | false =>
    simp only[if_false,Bool.false_eq_true];rintro o hc ⟨ho,rfl⟩;refine⟨true,?_⟩;rw[show told true o=_ from ho];clear ho;simp[zU]
    (repeat rw[Qa];simp)
    (refine hA2 ([1]) _ _ (by decide) (by simp) (by simp[zM,Qh]) ?_ rfl;simp[zM]);refine⟨by rw[hb];unfold Xk at hbad⊢;rw[List.any_append,hbad];rfl,_,?_,?_,rfl⟩
    ·rw[<- hf,List.foldl_append]
    ·exact Qgq hml (fun p hp=>by
      have:¬ Qin p=true:=fun h=>by
       have:=List.any_eq_true.2 ⟨p,hp,h⟩;unfold Xk at hbad;rw[hbad]at this;cases this
      simpa using this)
  ·intro o hc h;split at h
   ·obtain⟨-,m2,rfl⟩:=h;simp
   ·obtain⟨-,rfl⟩:=h;simp
 ·rintro ys hl ⟨m',x4,x7,x8,x9,x10,x11,x12,x13,x14,x15,x16,rfl,hb,hf,hml,rfl⟩;simp only[Qh,List.set];rw[List.drop_length]at hb hf;((try simp only[zs]);refine Qk.nrm rfl (.inr ⟨[],by decide,by simp,?_⟩);simp[zM]);have hall:Xk ls.flatten=false:=hb;simp[Qma,Qen,hall,Out.fgt,D.fgt,D.fgts];rw[<- hf];rfl
theorem Qlo{l:LV}(h:Xk l=false):∀p,p∈l ->Qin p=false:=fun p hp=>by
 have:¬ Qin p=true:=fun h'=>by
  have:=List.any_eq_true.2 ⟨p,hp,h'⟩;unfold Xk at h;rw[h]at this;cases this
 simpa using this
theorem Qp7(l:LV):levR (Qen l [])=Wf l:=by unfold Qen Wf;split <;> rfl
theorem Qys{l:LV}{m m':MP}(h:MOK m)(hm:Qen l m=some m'):MOK m':=by
 unfold Qen at hm;split at hm
 ·cases hm
 ·rename_i hb;cases hm;exact Qgq h (Qlo (by simpa using hb))
theorem Qsf(ls:List LV)(hl:ls.length<=Ql)(hls:∀l,l∈ls ->l.length<=Ql):Sp 115 [Lvs ls] [] (We8 (Wf ls.flatten)):=by
 refine eN Tryz.func115 rfl (by decide) rfl rfl ?_;unfold Lvs;(refine sI fun K Z=>?_;(repeat rw[Qa];simp);refine Z ?_;clear Z K);(refine Xe (T:=Qq) 0 (ty:=24) (ds:= [.slice (ls.map Qn) .any]) rfl rfl (by first | exact⟨rfl, .inr ⟨_,rfl,rfl⟩⟩ | exact⟨rfl, .inl rfl⟩) ?_;simp[D.frzs,D.frz,HO.frz,Qam,Qat,TK.isAgg,FK.isB,FK.isM,FK.isO,D.isLen]);have hsp:=Qp2 181 [.ref (Lvs ls)] _ rfl (by simp[D.pures,D.pure,Qo0]) (fun m hm=>Qys MOK.nil hm) (Wdn ls hl hls);rw[Qp7]at hsp;unfold Lvs at hsp;(refine sR fun K hK=>?_;(repeat rw[Qa];simp));refine Wl.objs Qf [] true hsp ?_ ?_ (by decide) (by simp) (by simp[zA]) (by simp[zA]) (by simp[zA]) (by simp[zA])
 ·rintro o hc (⟨hn,rfl,rfl⟩ | ⟨rfl,rfl⟩)
  ·refine⟨false,?_⟩;simp[zU]
   (repeat rw[Qa];simp)
   (refine hK _ _ _ ?_;clear hK K);(refine Qe ?_;(try simp only[zs]);refine Qk.ret rfl (.inr ⟨[],by decide,by simp,?_⟩);simp[zM]);exact .inl ⟨hn,rfl,rfl⟩
  ·refine⟨false,?_⟩;simp[zU]
   (repeat rw[Qa];simp)
   (refine hK _ _ _ ?_;clear hK K);(refine Qe ?_;(try simp only[zs]);refine Qk.ret rfl (.inr ⟨[2],by decide,by simp,?_⟩);simp[zM]);exact .inr ⟨rfl,rfl⟩
 ·rintro o hc (⟨hn,rfl,rfl⟩ | ⟨rfl,rfl⟩) <;> simp
theorem Qi1(l:LV)(hl:l.length<=Ql):Sp 64 [Qn l] [] (We8 (Wf l)):=by
 have hsp:=Qsf [l] (by simp[Ql]) (fun x hx=>by rw[List.mem_singleton.1 hx];exact hl);rw[show [l].flatten=l by simp]at hsp;unfold Lvs at hsp;refine eN Tryz.func64 rfl (by decide) rfl rfl ?_;(refine sI fun K Z=>?_;(repeat rw[Qa];simp[Qn]);refine Z ?_;clear Z K);(refine sR fun K hK=>?_;(repeat rw[Qa];simp[Qn]));refine Wl.objs Qf [] true hsp ?_ ?_ (by decide) (by simp) (by simp[zA]) (by simp[zA]) (by simp[zA,Qn]) (by simp[zA,Qn])
 ·rintro o hc (⟨hn,rfl,rfl⟩ | ⟨rfl,rfl⟩)
  ·refine⟨false,?_⟩;simp[zU]
   (repeat rw[Qa];simp)
   (refine hK _ _ _ ?_;clear hK K);(refine Qe ?_;(try simp only[zs]);refine Qk.ret rfl (.inr ⟨[],by decide,by simp,?_⟩);simp[zM]);exact .inl ⟨hn,rfl,rfl⟩
  ·refine⟨false,?_⟩;simp[zU]
   (repeat rw[Qa];simp)
   (refine hK _ _ _ ?_;clear hK K);(refine Qe ?_;(try simp only[zs]);refine Qk.ret rfl (.inr ⟨[2],by decide,by simp,?_⟩);simp[zM]);exact .inr ⟨rfl,rfl⟩
 ·rintro o hc (⟨hn,rfl,rfl⟩ | ⟨rfl,rfl⟩) <;> simp
theorem Qzh(ls:List LV)(hl:ls.length<=Ql)(hls:∀l,l∈ls ->l.length<=Ql):Sp 203 [Lvs ls] [] (We8 (Wf ls.flatten)):=by
 have hsp:=Qsf ls hl hls;unfold Lvs at hsp⊢;refine eN Tryz.func203 rfl (by decide) rfl rfl ?_;(refine sI fun K Z=>?_;(repeat rw[Qa];simp);refine Z ?_;clear Z K);(refine sR fun K hK=>?_;(repeat rw[Qa];simp));refine Wl.objs Qf [] true hsp ?_ ?_ (by decide) (by simp) (by simp[zA]) (by simp[zA]) (by simp[zA]) (by simp[zA])
 ·rintro o hc (⟨hn,rfl,rfl⟩ | ⟨rfl,rfl⟩)
  ·refine⟨false,?_⟩;simp[zU]
   (repeat rw[Qa];simp)
   (refine hK _ _ _ ?_;clear hK K);(refine Qe ?_;(try simp only[zs]);refine Qk.ret rfl (.inr ⟨[],by decide,by simp,?_⟩);simp[zM]);exact .inl ⟨hn,rfl,rfl⟩
  ·refine⟨false,?_⟩;simp[zU]
   (repeat rw[Qa];simp)
   (refine hK _ _ _ ?_;clear hK K);(refine Qe ?_;(try simp only[zs]);refine Qk.ret rfl (.inr ⟨[1],by decide,by simp,?_⟩);simp[zM]);exact .inr ⟨rfl,rfl⟩
 ·rintro o hc (⟨hn,rfl,rfl⟩ | ⟨rfl,rfl⟩) <;> simp
theorem Qwf(v n:Int):Sp 230 [.int .i64 v, .int .i64 n] [] (We8 (Wf [(v,n)])):=by
 have hsp:=Qsf [[(v,n)]] (by simp[Ql]) (fun x hx=>by rw[List.mem_singleton.1 hx];simp[Ql]);rw[show [[(v,n)]].flatten= [(v,n)] by simp]at hsp;unfold Lvs at hsp;simp only[List.map_cons,List.map_nil,Qn,Wv]at hsp;refine eN Tryz.func230 rfl (by decide) rfl rfl ?_;(refine sI fun K Z=>?_;(repeat rw[Qa];simp);refine Z ?_;clear Z K);(refine sR fun K hK=>?_;(repeat rw[Qa];simp));refine Wl.deep ?_;simp[D.deep,D.deeps];refine Wl.objs Qf [] true hsp ?_ ?_ (by decide) (by simp) (by simp[zA]) (by simp[zA]) (by simp[zA]) (by simp[zA])
 ·rintro o hc (⟨hn,rfl,rfl⟩ | ⟨rfl,rfl⟩)
  ·refine⟨false,?_⟩;simp[zU]
   (repeat rw[Qa];simp)
   (refine hK _ _ _ ?_;clear hK K);(refine Qe ?_;(try simp only[zs]);refine Qk.ret rfl (.inr ⟨[],by decide,by simp,?_⟩);simp[zM]);exact .inl ⟨hn,rfl,rfl⟩
  ·refine⟨false,?_⟩;simp[zU]
   (repeat rw[Qa];simp)
   (refine hK _ _ _ ?_;clear hK K);(refine Qe ?_;(try simp only[zs]);refine Qk.ret rfl (.inr ⟨[1],by decide,by simp,?_⟩);simp[zM]);exact .inr ⟨rfl,rfl⟩
 ·rintro o hc (⟨hn,rfl,rfl⟩ | ⟨rfl,rfl⟩) <;> simp
theorem Qy9(n:Int):Sp 216 [.int .i64 n] [] (We8 (Wf [(0,n)])):=by
 refine eN Tryz.func216 rfl (by decide) rfl rfl ?_;(refine sI fun K Z=>?_;(repeat rw[Qa];simp);refine Z ?_;clear Z K);(refine sR fun K hK=>?_;(repeat rw[Qa];simp));refine Wl.objs Qf [] true (Qwf 0 n) ?_ ?_ (by decide) (by simp) (by simp[zA]) (by simp[zA]) (by simp[zA]) (by simp[zA])
 ·rintro o hc (⟨hn,rfl,rfl⟩ | ⟨rfl,rfl⟩)
  ·refine⟨false,?_⟩;simp[zU]
   (repeat rw[Qa];simp)
   (refine hK _ _ _ ?_;clear hK K);(refine Qe ?_;(try simp only[zs]);refine Qk.ret rfl (.inr ⟨[],by decide,by simp,?_⟩);simp[zM]);exact .inl ⟨hn,rfl,rfl⟩
  ·refine⟨false,?_⟩;simp[zU]
   (repeat rw[Qa];simp)
   (refine hK _ _ _ ?_;clear hK K);(refine Qe ?_;(try simp only[zs]);refine Qk.ret rfl (.inr ⟨[1],by decide,by simp,?_⟩);simp[zM]);exact .inr ⟨rfl,rfl⟩
 ·rintro o hc (⟨hn,rfl,rfl⟩ | ⟨rfl,rfl⟩) <;> simp
theorem Wda{f:FuncId}{args:List D}{l:LV}(h:Sp f args [] (We8 l)):Sp f args [] (rt (Qn l)):=by
 refine Spec.frzO h fun o hc hp=>?_
 rcases hp with ⟨rfl,rfl,rfl⟩ | ⟨rfl,rfl⟩
 ·left;rfl
 ·right;refine⟨0,2,l.map Wv,_,rfl,rfl,?_⟩;simp[D.frz,D.frzs,FK.isO,D.isLen,Out.fgt,D.fgt,D.fgts,Qn]
theorem Qdu(l:LV)(hl:l.length<=Ql):Sp 64 [Qn l] [] (rt (Qn (Wf l))):=Wda (Qi1 l hl)
theorem Wdx(ls:List LV)(hl:ls.length<=Ql)(hls:∀l,l∈ls ->l.length<=Ql):Sp 203 [Lvs ls] [] (rt (Qn (Wf ls.flatten))):=Wda (Qzh ls hl hls)
def Wb1{α:Type}(p:α ->Bool):List α ->Int ->Int
 | [],_=> -1
 | x::r,i=>if p x=true then i else Wb1 p r (i+1)
theorem Qul{α:Type}(p:α ->Bool):∀(l:List α) (i:Int),0<=i ->decide (0<=Wb1 p l i)=l.any p
 | [],i,h=>by simp[Wb1]
 | x::r,i,h=>by
  rw[Wb1,List.any_cons];by_cases hx:p x=true
  ·simp[hx,h]
  ·rw[if_neg hx,Qul p r (i+1) (by omega)];simp[hx]
theorem Qk3(l:List (Int×Int))(p:Int×Int ->Bool)(g:FuncId)(cap:List D)(hc:D.fgts cap=cap)(hcp:D.pures cap=true)(hl:l.length<=Ql)
  (hg:∀x,x∈l ->Sp g (Wv x::cap) [] (rt (.bool (p x)))) :
  Sp 211 [.slice (l.map Wv) .any, .fn (.func g) [] cap] [] (rt (.int .i64 (Wb1 p l 0))):=by
 unfold Ql at hl;refine eN Tryz.func211 rfl (by decide) rfl rfl ?_;(refine sI fun K Z=>?_;(repeat rw[Qa];simp);refine Z ?_;clear Z K);refine Qc fun K1 hK1=>?_
 (refine sI fun K Z=>?_;(repeat rw[Qa];simp);refine Z ?_;clear Z K);refine Wd ?_;refine Qhp [4,5,8,9,10,11,12,13,14,15,16,17,18] (fun n ys hl=>∃(k:Nat) (x4 x5 x9 x10 x11 x12 x13 x14 x15 x16 x17 x18:D),ys= [x4,x5, .int .i64 k,x9,x10,x11,x12,x13,x14,x15,x16,x17,x18]/\n+k=l.length/\Wb1 p l 0=Wb1 p (l.drop k) k/\hl= []) (l.length) (by kernel_rfl) ?_ ?_
 ·exact⟨0,_,_,_,_,_,_,_,_,_,_,_,_,rfl,rfl,rfl,rfl⟩
 ·rintro n ys hl A hA ⟨k,x4,x5,x9,x10,x11,x12,x13,x14,x15,x16,x17,x18,rfl,hn,hi,rfl⟩;simp only[Qh,List.set];(refine sI fun K Z=>?_;(repeat rw[Qa];simp);refine Z ?_;clear Z K);refine Qc fun K2 hK2=>?_
  refine Qac rfl (fun hk=>?_) (fun hk=>?_)
  ·replace hk:k<l.length:=by simpa using hk
   refine Qg (hK2 _ _ _ ?_);clear hK2 K2;refine Qc fun K3 hK3=>?_
   refine Wd ?_;(refine sI fun K Z=>?_;(repeat rw[Qa];simp);refine Z ?_;clear Z K);(refine sR fun K hK=>?_;(repeat rw[Qa];simp[hk,Wv]));refine Wl.pure Qf (hg _ (List.getElem_mem hk)) ?_ (by simp[D.fgts,D.fgt,hc,hcp,Wv]) (by simp[D.pures,D.pure,Cp.free,D.pures_map,hc,hcp,Wv]) (by simp[Out.pure,D.pure,D.pures,Cp.free,D.pures_map,hc,hcp,Wv]);(try simp only[zr]);(repeat rw[Qa];simp);(refine hK _ _ _ ?_;clear hK K);refine Qac rfl (fun hb=>?_) (fun hb=>?_)
   ·(refine sI fun K Z=>?_;(repeat rw[Qa];simp);refine Z ?_;clear Z K);(refine Qe ?_;(try simp only[zs]);refine Qk.ret rfl (.inl ?_);simp[zM]);rw[hi,List.drop_eq_getElem_cons hk,Wb1,if_pos hb]
   ·refine Qg (hK3 _ _ _ ?_);clear hK3 K3;have hw:IntKind.i64.wrap ((k:Int)+1)=(k:Int)+1:=Qbu (by omega) (by omega);(refine Qi Wa ?_;(repeat rw[Qa];simp[hw]));refine hA (n - 1) _ _ (by omega) (by kernel_rfl) ?_;exact⟨k+1,_,_,_,_,_,_,_,_,_,_,_,_,rfl,by omega,by rw[hi,List.drop_eq_getElem_cons hk,Wb1,if_neg (by simpa using hb)];simp,rfl⟩
  ·refine Qad (hK1 _ _ _ ?_);(refine sI fun K Z=>?_;(repeat rw[Qa];simp);refine Z ?_;clear Z K);(refine Qe ?_;(try simp only[zs]);refine Qk.ret rfl (.inl ?_);simp[zM]);rw[hi,List.drop_eq_nil_of_le (by simpa using hk),Wb1]
theorem Qch(l:List (Int×Int))(p:Int×Int ->Bool)(g:FuncId)(cap:List D)(hc:D.fgts cap=cap)(hcp:D.pures cap=true)(hl:l.length<=Ql)
  (hg:∀x,x∈l ->Sp g (Wv x::cap) [] (rt (.bool (p x)))) :
  Sp 188 [.slice (l.map Wv) .any, .fn (.func g) [] cap] [] (rt (.bool (l.any p))):=by
 refine eN Tryz.func188 rfl (by decide) rfl rfl ?_;(refine sI fun K Z=>?_;(repeat rw[Qa];simp);refine Z ?_;clear Z K);(refine sR fun K hK=>?_;(repeat rw[Qa];simp));refine Wl.pure Qf (Qk3 l p g cap hc hcp hl hg) ?_ (by simp[D.fgts,D.fgt,hc,hcp]) (by simp[D.pures,D.pure,Cp.free,D.pures_map,hc,hcp]) (by simp[Out.pure,D.pure,D.pures,Cp.free,D.pures_map,hc,hcp]);(try simp only[zr]);(repeat rw[Qa];simp);(refine hK _ _ _ ?_;clear hK K);(refine Qe ?_;(try simp only[zs]);refine Qk.ret rfl (.inl ?_);simp[zM]);exact Qul p l 0 (by omega)
theorem Qi0(l:LV):(Wf l).length<=1048577:=by
 unfold Wf;split
 ·simp
 ·rename_i h;have hm:MOK (l.foldl Qdl []):=Qgq MOK.nil (Qlo (by simpa using h));exact Nat.le_trans (Wd6 _) hm.len
theorem Qcp(l:LV):(Wf l).length<=Ql:=by
 have:=Qi0 l;unfold Ql;omega
def Qhq(p q:Int×Int):Bool:=(decide (p.1=0) || decide (p.1=q.1)) && decide (p.2<=q.2)
def leqN(a b:LV):Bool:=!(a.any fun p=>!(b.any (Qhq p)))
def Qxn(a b:LV):Bool:=leqN (Wf a) (Wf b)
theorem Qwp(p q:Int×Int):Sp 190 [Wv q, .ref (Wv p)] [] (rt (.bool (Qhq p q))):=by
 refine eN Tryz.func190 rfl (by decide) rfl rfl ?_;unfold Wv;(refine sI fun K Z=>?_;(repeat rw[Qa];simp);refine Z ?_;clear Z K);by_cases h1:p.1=0
 ·(refine sI fun K Z=>?_;(repeat rw[Qa];simp[h1]);refine Z ?_;clear Z K);(refine Qe ?_;(try simp only[zs]);refine Qk.ret rfl (.inl ?_);simp[zM]);simp[Qhq,h1]
 ·by_cases h2:p.1=q.1
  ·have h3:¬ q.1=0:=fun e=>h1 (h2.trans e)
   (refine sI fun K Z=>?_;(repeat rw[Qa];simp[h2,h3]);refine Z ?_;clear Z K);(refine Qe ?_;(try simp only[zs]);refine Qk.ret rfl (.inl ?_);simp[zM]);simp[Qhq,h2]
  ·(refine sI fun K Z=>?_;(repeat rw[Qa];simp[h1,h2]);refine Z ?_;clear Z K);(refine Qe ?_;(try simp only[zs]);refine Qk.ret rfl (.inl ?_);simp[zM]);simp[Qhq,h1,h2]
theorem Qzr(b:LV)(p:Int×Int)(hb:b.length<=Ql):Sp 189 [Wv p, .ref (Qn b)] [] (rt (.bool (!(b.any (Qhq p))))):=by
 refine eN Tryz.func189 rfl (by decide) rfl rfl ?_;unfold Wv Qn;(refine sI fun K Z=>?_;(repeat rw[Qa];simp);refine Z ?_;clear Z K);(refine Xe (T:=Qq) 0 (ty:=157) (ds:= [.int .i64 p.1, .int .i64 p.2]) rfl rfl (by first | exact⟨rfl, .inr ⟨_,rfl,rfl⟩⟩ | exact⟨rfl, .inl rfl⟩) ?_;simp[D.frzs,D.frz,HO.frz,Qam,Qat,TK.isAgg,FK.isB,FK.isM,FK.isO,D.isLen]);(refine sR fun K hK=>?_;(repeat rw[Qa];simp));refine Wl.pure Qf (Qch b (Qhq p) _ [.ref (Wv p)] rfl rfl hb fun q _=>Qwp p q) ?_ (by simp[D.fgts,D.fgt,Wv]) (by simp[D.pures,D.pure,Cp.free,D.pures_map,Wv]) (by simp[Out.pure,D.pure,D.pures,Cp.free,D.pures_map,Wv]);(try simp only[zr]);(repeat rw[Qa];simp);(refine hK _ _ _ ?_;clear hK K);(refine Qe ?_;(try simp only[zs]);refine Qk.ret rfl (.inl ?_);simp[zM])
theorem Wd7(a b:LV)(ha:a.length<=Ql)(hb:b.length<=Ql):Sp 133 [Qn a,Qn b] [] (rt (.bool (Qxn a b))):=by
 have hna:=Qdu a ha;have hnb:=Qdu b hb;unfold Qn at hna hnb;refine eN Tryz.func133 rfl (by decide) rfl rfl ?_;unfold Qn;(refine sI fun K Z=>?_;(repeat rw[Qa];simp);refine Z ?_;clear Z K);(refine Qc fun K hK=>?_;refine dR fun KT hKT=>?_;(repeat rw[Qd];simp));refine Xp.pure Qf (hna) ?_ (by simp[D.fgts,D.fgt,Xu]) (by simp[D.pures,D.pure,Cp.free,D.pures_map,Xu]) (by simp[Out.pure,D.pure,D.pures,Cp.free,D.pures_map,Xu]);(try simp only[zq]);(repeat rw[Qd];simp);refine Xp.pure Qf (hnb) ?_ (by simp[D.fgts,D.fgt,Xu]) (by simp[D.pures,D.pure,Cp.free,D.pures_map,Xu]) (by simp[Out.pure,D.pure,D.pures,Cp.free,D.pures_map,Xu]);(try simp only[zq]);(repeat rw[Qd];simp);(refine hKT _ _ _ _ (by kernel_rfl) ?_;clear hKT KT);(refine hK _ _ _ ?_;clear hK K);(refine Xe (T:=Qq) 1 (ty:=53) (ds:= [.slice ((Wf b).map Wv) .any]) rfl rfl (by first | exact⟨rfl, .inr ⟨_,rfl,rfl⟩⟩ | exact⟨rfl, .inl rfl⟩) ?_;simp[D.frzs,D.frz,HO.frz,Qam,Qat,TK.isAgg,FK.isB,FK.isM,FK.isO,D.isLen]);(refine sR fun K hK=>?_;(repeat rw[Qa];simp));refine Wl.pure Qf (Qch (Wf a) (fun p=>!((Wf b).any (Qhq p))) _ [.ref (Qn (Wf b))] (by simp[D.fgts,D.fgt,Qn]) (by simp[D.pures,D.pure]) (Qcp a) fun p _=>Qzr (Wf b) p (Qcp b)) ?_ (by simp[D.fgts,D.fgt,Qn]) (by simp[D.pures,D.pure,Cp.free,D.pures_map,Qn]) (by simp[Out.pure,D.pure,D.pures,Cp.free,D.pures_map,Qn]);(try simp only[zr]);(repeat rw[Qa];simp);(refine hK _ _ _ ?_;clear hK K);(refine Qe ?_;(try simp only[zs]);refine Qk.ret rfl (.inl ?_);simp[zM]);simp[Qxn,leqN]
theorem Qsx(a b:LV)(ha:a.length<=Ql)(hb:b.length<=Ql):Sp 107 [.slice (a.map Wv) .any, .slice (b.map Wv) .any] [] (rt (.bool (decide (a=b)))):=by
 unfold Ql at ha hb;refine eN Tryz.func107 rfl (by decide) rfl rfl ?_;(refine sI fun K Z=>?_;(repeat rw[Qa];simp);refine Z ?_;clear Z K);refine Qc fun K1 hK1=>?_
 (refine sI fun K Z=>?_;(repeat rw[Qa];simp);refine Z ?_;clear Z K);refine Qac rfl (fun h=>?_) (fun h=>?_)
 ·(refine sI fun K Z=>?_;(repeat rw[Qa];simp);refine Z ?_;clear Z K);(refine Qe ?_;(try simp only[zs]);refine Qk.ret rfl (.inl ?_);simp[zM]);have h:¬ (a.length:Int)=b.length:=by simpa using h
  intro e;exact h (by rw[e])
 ·replace h:a.length=b.length:=by
   have h:(a.length:Int)=b.length:=by simpa using h
   omega
  refine Qg (hK1 _ _ _ ?_);clear hK1 K1;refine Qc fun K1 hK1=>?_
  (refine sI fun K Z=>?_;(repeat rw[Qa];simp);refine Z ?_;clear Z K);refine Qbv Wa Qf (ti:=3) (tk:=13) (tn:=12) (td:=14) (ts:=25) [4,5,13,14,15,16,17,18,19,20,21,22,23,24,25] (a.length) (fun k ys hl=>∃(x4 x5 x13 x14 x15 x16 x17 x18 x19 x20 x21 x22 x23 x24 x25:D),ys= [x4,x5,x13,x14,x15,x16,x17,x18,x19,x20,x21,x22,x23,x24,x25]/\a.take k=b.take k/\hl= []) rfl rfl rfl rfl rfl rfl rfl rfl rfl rfl rfl rfl (by simp) (by decide) rfl (by first | assumption | omega | (unfold Ql;omega)) rfl (by kernel_rfl) (by decide) ?_ ?_ ?_
  ·exact⟨_,_,_,_,_,_,_,_,_,_,_,_,_,_,_,rfl,by simp,rfl⟩
  ·rintro k ys hl A hk ⟨x4,x5,x13,x14,x15,x16,x17,x18,x19,x20,x21,x22,x23,x24,x25,rfl,he,rfl⟩ hA hA2;simp only[Qh,List.set];have hkb:k<b.length:=by omega
   (refine sI fun K Z=>?_;(repeat rw[Qa];simp);refine Z ?_;clear Z K);(refine Qc fun K hK=>?_;refine dR fun KT hKT=>?_;(repeat rw[Qd];simp[hk,hkb,Wv]));(refine hKT _ _ _ _ (by kernel_rfl) ?_;clear hKT KT);(refine hK _ _ _ ?_;clear hK K);refine Qac rfl (fun hb=>?_) (fun hb=>?_)
   ·(refine sI fun K Z=>?_;(repeat rw[Qa];simp);refine Z ?_;clear Z K);(refine Qe ?_;(try simp only[zs]);refine Qk.ret rfl (.inl ?_);simp[zM]);intro e;subst e;simp at hb
   ·refine Qg ?_;(refine hA _ _ (by kernel_rfl) ?_ rfl;simp only[Qb4,List.map_cons,List.map_nil]);refine⟨_,_,_,_,_,_,_,_,_,_,_,_,_,_,_,rfl,?_,rfl⟩;rw[List.take_succ_eq_append_getElem hk,List.take_succ_eq_append_getElem hkb,he];have hb:a[k]=b[k]:=by
     have hb':a[k].1=b[k].1/\a[k].2=b[k].2:=by simpa using hb
     exact Prod.ext hb'.1 hb'.2
    rw[hb]
  ·rintro ys hl ⟨x4,x5,x13,x14,x15,x16,x17,x18,x19,x20,x21,x22,x23,x24,x25,rfl,he,rfl⟩;simp only[Qh,List.set];refine hK1 _ _ _ ?_;clear hK1 K1;(refine sI fun K Z=>?_;(repeat rw[Qa];simp);refine Z ?_;clear Z K);(refine Qe ?_;(try simp only[zs]);refine Qk.ret rfl (.inl ?_);simp[zM]);rw[List.take_length,h,List.take_length]at he;exact he
theorem Qpm(a b:LV)(ha:a.length<=Ql)(hb:b.length<=Ql):Sp 54 [Qn a,Qn b] [] (rt (.bool (decide (Wf a=Wf b)))):=by
 have hna:=Qdu a ha;have hnb:=Qdu b hb;unfold Qn at hna hnb;refine eN Tryz.func54 rfl (by decide) rfl rfl ?_;unfold Qn;(refine sI fun K Z=>?_;(repeat rw[Qa];simp);refine Z ?_;clear Z K);(refine Qc fun K hK=>?_;refine dR fun KT hKT=>?_;(repeat rw[Qd];simp));refine Xp.pure Qf (hna) ?_ (by simp[D.fgts,D.fgt,Xu]) (by simp[D.pures,D.pure,Cp.free,D.pures_map,Xu]) (by simp[Out.pure,D.pure,D.pures,Cp.free,D.pures_map,Xu]);(try simp only[zq]);(repeat rw[Qd];simp);refine Xp.pure Qf (hnb) ?_ (by simp[D.fgts,D.fgt,Xu]) (by simp[D.pures,D.pure,Cp.free,D.pures_map,Xu]) (by simp[Out.pure,D.pure,D.pures,Cp.free,D.pures_map,Xu]);(try simp only[zq]);(repeat rw[Qd];simp);refine cYp (Qsx (Wf a) (Wf b) (Qcp a) (Qcp b)) ?_;(try simp only[zq]);(repeat rw[Qd];simp);(refine hKT _ _ _ _ (by kernel_rfl) ?_;clear hKT KT);(refine hK _ _ _ ?_;clear hK K);(refine Qe ?_;(try simp only[zs]);refine Qk.ret rfl (.inl ?_);simp[zM])
end Go.Proofs.YtgloldepdhgfaaaGreatDoor
namespace Go.Proofs.YtgloldepdhgfaaaGreatDoor
set_option linter.unusedSimpArgs false
set_option linter.unusedVariables false
open Go.RowKit
theorem Qnf{v x:Int}:∀{m:MP},v∈m.map (·.1) ->(v,x)∈Qvk v x m
 | [],h=>by cases h
 | p::r,h=>by
  rw[Qvk];split
  ·rename_i hv;rw[hv];exact List.mem_cons_self ..
  ·rename_i hv;rw[List.map_cons,List.mem_cons]at h;exact List.mem_cons_of_mem _ (Qnf (h.resolve_left hv))
theorem Qo8{v x:Int}{q:Int×Int}(hq:q.1≠v):∀{m:MP},q∈m ->q∈Qvk v x m
 | [],h=>by cases h
 | p::r,h=>by
  rw[Qvk];rcases List.mem_cons.1 h with rfl | h
  ·rw[if_neg (fun e=>hq e.symm)];exact List.mem_cons_self ..
  ·split
   ·exact List.mem_cons_of_mem _ h
   ·exact List.mem_cons_of_mem _ (Qo8 hq h)
theorem MOK.uniq{m:MP}(h:MOK m){v a b:Int}(ha:(v,a)∈m)(hb:(v,b)∈m):a=b:=by
 have hn:=h.nd;clear h
 induction m with
 | nil=>cases ha
 | cons p r ih =>
  rw[List.map_cons,List.nodup_cons]at hn;rcases List.mem_cons.1 ha with ha' | ha' <;> rcases List.mem_cons.1 hb with hb' | hb'
  ·rw[<- ha']at hb';exact(Prod.mk.inj hb').2.symm
  ·subst ha';exact absurd (List.mem_map.2 ⟨_,hb',rfl⟩) hn.1
  ·subst hb';exact absurd (List.mem_map.2 ⟨_,ha',rfl⟩) hn.1
  ·exact ih ha' hb' hn.2
theorem Wdh{m:MP}{p q:Int×Int}(hp:0<=p.2)(h:q∈Qdl m p):q∈m\/q=p:=by
 unfold Qdl at h;cases hf:Qdi m p.1 with
 | some k =>
  rw[hf]at h;rcases Qjx h with h | h
  ·exact .inl h
  ·by_cases hk:k<=p.2
   ·right;rw[h,Int.max_eq_right hk]
   ·left;rw[h,Int.max_eq_left (by omega)];exact Qcs hf
 | none =>
  rw[hf]at h;rcases List.mem_append.1 h with h | h
  ·exact .inl h
  ·right;rw[List.mem_singleton.1 h,Int.max_eq_right hp]
theorem Wdi{m:MP}{p:Int×Int}:∃n,(p.1,n)∈Qdl m p/\p.2<=n:=by
 unfold Qdl;cases hf:Qdi m p.1 with
 | some k=>exact⟨_,Qnf (List.mem_map.2 ⟨_,Qcs hf,rfl⟩),Int.le_max_right ..⟩
 | none=>exact⟨_,List.mem_append_right _ (List.mem_singleton.2 rfl),Int.le_max_right ..⟩
theorem putM_ge{m:MP}(hm:MOK m){p q:Int×Int}(h:q∈m):∃n,(q.1,n)∈Qdl m p/\q.2<=n:=by
 unfold Qdl;cases hf:Qdi m p.1 with
 | some k =>
  by_cases hv:q.1=p.1
  ·refine⟨max k p.2,?_,?_⟩
   ·rw[hv];exact Qnf (List.mem_map.2 ⟨_,Qcs hf,rfl⟩)
   ·have:q.2=k:=hm.uniq (v:=q.1) (by exact h) (by rw[hv];exact Qcs hf);rw[this];exact Int.le_max_left ..
  ·exact⟨q.2,Qo8 hv h,Int.le_refl _⟩
 | none=>exact⟨q.2,List.mem_append_left _ h,Int.le_refl _⟩
theorem Qcu{p:Int×Int}(h:Qin p=false):0<=p.1/\0<=p.2/\p.1<=1048576/\p.2<=1048576:=by
 simp only[Qin,Bool.or_eq_false_iff,decide_eq_false_iff_not]at h;omega
theorem Qur:∀{l:LV} {m:MP} {q:Int×Int},(∀p,p∈l ->Qin p=false) ->q∈l.foldl Qdl m ->q∈m\/q∈l
 | [],m,q,_,h=> .inl h
 | p::r,m,q,hb,h=>by
  rcases Qur (l:=r) (fun x hx=>hb x (List.mem_cons_of_mem _ hx)) h with h | h
  ·rcases Wdh (Qcu (hb p (List.mem_cons_self ..))).2.1 h with h | rfl
   ·exact .inl h
   ·exact .inr (List.mem_cons_self ..)
  ·exact .inr (List.mem_cons_of_mem _ h)
theorem Qsv:∀{l:LV} {m:MP} {q:Int×Int},MOK m ->(∀p,p∈l ->Qin p=false) ->(q∈m\/q∈l) ->∃n,(q.1,n)∈l.foldl Qdl m/\q.2<=n
 | [],m,q,_,_,h=>⟨q.2,h.elim id (fun h=>by cases h),Int.le_refl _⟩
 | p::r,m,q,hm,hb,h=>by
  have hb':∀x,x∈r ->Qin x=false:=fun x hx=>hb x (List.mem_cons_of_mem _ hx)
  have hm':=Qfx hm (hb p (List.mem_cons_self ..));have hstep:∀{y:Int×Int},(∃n,(y.1,n)∈Qdl m p/\y.2<=n) ->∃n,(y.1,n)∈r.foldl Qdl (Qdl m p)/\y.2<=n:=fun {y} ⟨n,h1,h2⟩=>by
   obtain⟨n',h3,h4⟩:=Qsv (l:=r) hm' hb' (.inl h1);exact⟨n',h3,Int.le_trans h2 h4⟩
  rcases h with h | h
  ·exact hstep (putM_ge hm h)
  ·rcases List.mem_cons.1 h with rfl | h
   ·exact hstep Wdi
   ·exact Qsv (l:=r) hm' hb' (.inr h)
theorem Quf{m:MP}(hm:MOK m){v n:Int}(h:(v,n)∈m):Qdi m v=some n:=by
 cases hf:Qdi m v with
 | none=>exact absurd (List.mem_map.2 ⟨_,h,rfl⟩) (Qgr hf)
 | some k=>rw[hm.uniq h (Qcs hf)]
theorem Wad{m:MP}{n:Int}:Qf3 m n=false↔∀q,q∈m ->0<q.1 ->q.2<n:=by
 unfold Qf3;rw[List.any_eq_false];constructor
 ·intro h q hq hv;have:=h q hq;simp only[Bool.and_eq_true,decide_eq_true_eq,not_and]at this;have:=this hv;omega
 ·intro h q hq;simp only[Bool.and_eq_true,decide_eq_true_eq,not_and];intro hv;have:=h q hq hv;omega
theorem Qfa{m:MP}(hm:MOK m){p:Int×Int}:p∈Quh m↔p∈m/\(0<p.1\/(0<p.2/\∀q,q∈m ->0<q.1 ->q.2<p.2)):=by
 obtain⟨v,n⟩:=p;unfold Quh;rw[List.mem_filterMap];constructor
 ·rintro⟨x,hx,hk⟩;have hx':x∈m.map (·.1):=(List.mergeSort_perm _ _).mem_iff.1 hx;obtain⟨⟨x',k⟩,hk',rfl⟩:=List.mem_map.1 hx';have hf:=Quf hm hk';unfold Qdw at hk;dsimp only at hk;rw[hf]at hk;simp only[Option.getD_some]at hk;split at hk
  ·rename_i hc;cases hk;exact⟨hk',hc.imp id (fun h=>⟨h.1,Wad.1 h.2⟩)⟩
  ·cases hk
 ·rintro⟨h1,h2⟩;refine⟨v,(List.mergeSort_perm _ _).mem_iff.2 (List.mem_map.2 ⟨_,h1,rfl⟩),?_⟩;unfold Qdw;rw[Quf hm h1];simp only[Option.getD_some];rw[if_pos (h2.imp id (fun h=>⟨h.1,Wad.2 h.2⟩))]
structure NF (l : LV) : Prop where
 up:l.Pairwise (fun p q=>p.1<q.1)
 ok:∀p,p∈l ->Qin p=false
 z:∀p,p∈l ->p.1=0 ->0<p.2/\∀q,q∈l ->0<q.1 ->q.2<p.2
theorem Qji:∀{l:List Int},l.Pairwise (fun x y=>x<=y) ->l.Nodup ->l.Pairwise (fun x y=>x<y)
 | [],_,_=>List.Pairwise.nil
 | x::r,h,hn=>by
  rw[List.pairwise_cons]at h⊢;rw[List.nodup_cons]at hn;refine⟨fun y hy=>?_,Qji h.2 hn.2⟩;have:=h.1 y hy;have:x≠y:=fun e=>hn.1 (e▸hy)
  omega
theorem Wct{m:MP}(hm:MOK m):(Qc7 m).Pairwise (fun x y=>x<y):=by
 refine Qji ?_ ?_
 ·have:=List.pairwise_mergeSort (le:=fun x y:Int=>decide (x<=y)) (fun a b c h1 h2=>by simp only[decide_eq_true_eq]at *;omega) (fun a b=>by simp only[Bool.or_eq_true,decide_eq_true_eq];omega) (m.map (·.1));exact this.imp (fun h=>by simpa using h)
 ·exact((List.mergeSort_perm _ _).nodup_iff).2 hm.nd
theorem Qqd{m:MP}{v:Int}{p:Int×Int}(h:Qdw m v=some p):p.1=v:=by
 unfold Qdw at h;split at h
 ·cases h;rfl
 ·cases h
theorem levM_up{m:MP}(hm:MOK m):(Quh m).Pairwise (fun p q=>p.1<q.1):=by
 unfold Quh;have:=Wct hm;generalize Qc7 m=s at this
 induction s with
 | nil=>exact List.Pairwise.nil
 | cons x r ih =>
  rw[List.pairwise_cons]at this;rw[List.filterMap_cons];cases hk:Qdw m x with
  | none=>exact ih this.2
  | some p =>
   refine List.pairwise_cons.2 ⟨fun q hq=>?_,ih this.2⟩;obtain⟨y,hy,hq⟩:=List.mem_filterMap.1 hq;rw[Qqd hk,Qqd hq];exact this.1 y hy
theorem NF.nil:NF []:=⟨List.Pairwise.nil,(fun _ h=>nomatch h),(fun _ h=>nomatch h)⟩
theorem levM_nf{m:MP}(hm:MOK m):NF (Quh m) where
 up:=levM_up hm
 ok:=fun p hp=>by
  have h:=((Qfa hm).1 hp).1;have h1:=hm.v p h;have h2:=hm.n p h;simp only[Qin,Bool.or_eq_false_iff,decide_eq_false_iff_not];omega
 z:=fun p hp h0=>by
  have h:=((Qfa hm).1 hp).2;rcases h with h | ⟨h1,h2⟩
  ·omega
  ·exact⟨h1,fun q hq hv=>h2 q ((Qfa hm).1 hq).1 hv⟩
theorem NF.uniq{l:LV}(h:NF l){p q:Int×Int}(hp:p∈l)(hq:q∈l)(e:p.1=q.1):p=q:=by
 have hu:=h.up;clear h
 induction l with
 | nil=>cases hp
 | cons x r ih =>
  rw[List.pairwise_cons]at hu;rcases List.mem_cons.1 hp with hp' | hp' <;> rcases List.mem_cons.1 hq with hq' | hq'
  ·rw[hp',hq']
  ·subst hp';have:=hu.1 q hq';omega
  ·subst hq';have:=hu.1 p hp';omega
  ·exact ih hp' hq' hu.2
theorem Wfb:∀{a b:LV},a.Pairwise (fun p q=>p.1<q.1) ->b.Pairwise (fun p q=>p.1<q.1) ->(∀p,p∈a↔p∈b) ->a=b
 | [], [],_,_,_=>rfl
 | [],y::s,_,_,h=>by have:=(h y).2 (List.mem_cons_self ..);cases this
 | x::r, [],_,_,h=>by have:=(h x).1 (List.mem_cons_self ..);cases this
 | x::r,y::s,ha,hb,h=>by
  rw[List.pairwise_cons]at ha hb;have hxy:x=y:=by
   rcases List.mem_cons.1 ((h x).1 (List.mem_cons_self ..))with e | hx
   ·exact e
   ·rcases List.mem_cons.1 ((h y).2 (List.mem_cons_self ..))with e | hy
    ·exact e.symm
    ·have h1:=hb.1 x hx;have h2:=ha.1 y hy;omega
  subst hxy;rw[Wfb ha.2 hb.2 fun p=>?_];constructor
  ·intro hp;rcases List.mem_cons.1 ((h p).1 (List.mem_cons_of_mem _ hp))with rfl | hp'
   ·have:=ha.1 p hp;omega
   ·exact hp'
  ·intro hp;rcases List.mem_cons.1 ((h p).2 (List.mem_cons_of_mem _ hp))with rfl | hp'
   ·have:=hb.1 p hp;omega
   ·exact hp'
def Way(l:LV)(p:Int×Int):Prop:=(p.1=0/\p.2=0)\/∃q,q∈l/\(p.1=0\/p.1=q.1)/\p.2<=q.2
def leR(a b:LV):Prop:=∀p,p∈a ->Way b p
def okV(l:LV):Prop:=∀p,p∈l ->Qin p=false
theorem Way.self{l:LV}{p:Int×Int}(h:p∈l):Way l p:= .inr ⟨p,h, .inr rfl,Int.le_refl _⟩
theorem Way.step{l:LV}{p q:Int×Int}(hp:0<=p.2)(h1:p.1=0\/p.1=q.1)(h2:p.2<=q.2)(h:Way l q):Way l p:=by
 rcases h with ⟨e1,e2⟩ | ⟨r,hr,e1,e2⟩
 ·left;omega
 ·right;exact⟨r,hr,by omega,by omega⟩
theorem Way.trans{a b:LV}{p:Int×Int}(hp:0<=p.2)(h:Way a p)(hab:leR a b):Way b p:=by
 rcases h with h | ⟨q,hq,h1,h2⟩
 ·exact .inl h
 ·exact(hab q hq).step hp h1 h2
theorem leR.refl(a:LV):leR a a:=fun _ h=> .self h
theorem leR.trans{a b c:LV}(ha:okV a)(h1:leR a b)(h2:leR b c):leR a c:=fun p hp=>(h1 p hp).trans (Qcu (ha p hp)).2.1 h2
theorem okV_of{l:LV}(h:okV l):Xk l=false:=by
 unfold Xk;rw[List.any_eq_false];intro p hp;rw[h p hp];simp
theorem Qzb{l:LV}(h:okV l):Wf l=Quh (l.foldl Qdl []):=by unfold Wf;rw[if_neg (by rw[okV_of h];simp)]
theorem Quq{l:LV}(h:okV l):MOK (l.foldl Qdl []):=Qgq MOK.nil h
theorem Qaw(l:LV):NF (Wf l):=by
 unfold Wf;split
 ·exact NF.nil
 ·rename_i h;exact levM_nf (Qgq MOK.nil (Qlo (by simpa using h)))
theorem NF.okV{l:LV}(h:NF l):okV l:=h.ok
theorem Wdp{l:LV}(h:Go.Proofs.YtgloldepdhgfaaaGreatDoor.okV l){p:Int×Int}(hp:p∈Wf l):p∈l:=by
 rw[Qzb h]at hp;rcases Qur h ((Qfa (Quq h)).1 hp).1 with h | h
 ·cases h
 ·exact h
theorem Wdr{l:LV}(h:Go.Proofs.YtgloldepdhgfaaaGreatDoor.okV l){p:Int×Int}(hp0:0<=p.2)(hp:Way l p):Way (Wf l) p:=by
 rcases hp with hp | ⟨q,hq,h1,h2⟩
 ·exact .inl hp
 ·have hm:=Quq h;obtain⟨n,h3,h4⟩:=Qsv MOK.nil h (.inr hq);rw[Qzb h];have hv:=(hm.v _ h3).1;dsimp only at hv;by_cases hq1:0<q.1
  ·exact .inr ⟨(q.1,n),(Qfa hm).2 ⟨h3, .inl hq1⟩,h1,by dsimp only;omega⟩
  ·have hq0:q.1=0:=by omega
   by_cases hn:0<n
   ·by_cases hh:∀r,r∈l.foldl Qdl [] ->0<r.1 ->r.2<n
    ·exact .inr ⟨(q.1,n),(Qfa hm).2 ⟨h3, .inr ⟨hn,hh⟩⟩,h1,by dsimp only;omega⟩
    ·simp only[Classical.not_forall]at hh;obtain⟨r,hr,hr1,hr2⟩:=hh;exact .inr ⟨r,(Qfa hm).2 ⟨hr, .inl hr1⟩,by left;omega,by omega⟩
   ·left;omega
theorem Qh1{l:LV}(h:Go.Proofs.YtgloldepdhgfaaaGreatDoor.okV l):leR l (Wf l):=fun p hp=>Wdr h (Qcu (h p hp)).2.1 (.self hp)
theorem Qh2{l:LV}(h:Go.Proofs.YtgloldepdhgfaaaGreatDoor.okV l):leR (Wf l) l:=fun _ hp=> .self (Wdp h hp)
theorem Qod{a b:LV}:leqN a b=true↔∀p,p∈a ->∃q,q∈b/\(p.1=0\/p.1=q.1)/\p.2<=q.2:=by
 unfold leqN;simp[Qhq]
theorem Qoc{a b:LV}(ha:NF a):leqN a b=true↔leR a b:=by
 rw[Qod];constructor
 ·exact fun h p hp=> .inr (h p hp)
 ·intro h p hp;rcases h p hp with ⟨h1,h2⟩ | h
  ·have:=(ha.z p hp h1).1;omega
  ·exact h
theorem Qoe{a b:LV}(ha:Go.Proofs.YtgloldepdhgfaaaGreatDoor.okV a)(hb:Go.Proofs.YtgloldepdhgfaaaGreatDoor.okV b):Qxn a b=true↔leR a b:=by
 unfold Qxn;rw[Qoc (Qaw a)];constructor
 ·exact fun h=>((Qh1 ha).trans ha h).trans ha (Qh2 hb)
 ·exact fun h=>((Qh2 ha).trans (Qaw a).ok h).trans (Qaw a).ok (Qh1 hb)
theorem NF.sub{a b:LV}(ha:NF a)(hb:NF b)(h1:leR a b)(h2:leR b a):∀p,p∈a ->p∈b:=by
 have ha':=Qod.1 ((Qoc ha).2 h1);have hb':=Qod.1 ((Qoc hb).2 h2);have hpos:∀{a b:LV},NF a ->NF b ->(∀p,p∈a ->∃q,q∈b/\(p.1=0\/p.1=q.1)/\p.2<=q.2) ->(∀p,p∈b ->∃q,q∈a/\(p.1=0\/p.1=q.1)/\p.2<=q.2) ->∀p,p∈a ->0<p.1 ->p∈b:=by
  intro a b ha hb ha' hb' p hp hp0;obtain⟨q,hq,h1,h2⟩:=ha' p hp;obtain⟨r,hr,h3,h4⟩:=hb' q hq;have:r=p:=ha.uniq hr hp (by omega);subst this;have:q=r:=Prod.ext (by omega) (by omega);rw[<- this];exact hq
 intro p hp;by_cases hp0:0<p.1
 ·exact hpos ha hb ha' hb' p hp hp0
 ·have hpz:p.1=0:=by have:=(Qcu (ha.ok p hp)).1;omega
  obtain⟨q,hq,h1,h2⟩:=ha' p hp;have hz:=ha.z p hp hpz;by_cases hq0:0<q.1
  ·have:=hz.2 q (hpos hb ha hb' ha' q hq hq0) hq0;omega
  ·have hqz:q.1=0:=by have:=(Qcu (hb.ok q hq)).1;omega
   obtain⟨r,hr,h3,h4⟩:=hb' q hq;by_cases hr0:0<r.1
   ·have:=hz.2 r hr hr0;omega
   ·have hrz:r.1=0:=by have:=(Qcu (ha.ok r hr)).1;omega
    have:r=p:=ha.uniq hr hp (by omega);subst this;have:q=r:=Prod.ext (by omega) (by omega);rw[<- this];exact hq
theorem NF.ext{a b:LV}(ha:NF a)(hb:NF b)(h1:leR a b)(h2:leR b a):a=b :=
 Wfb ha.up hb.up fun p=>⟨ha.sub hb h1 h2 p,hb.sub ha h2 h1 p⟩
theorem Wdq{a b:LV}(ha:Go.Proofs.YtgloldepdhgfaaaGreatDoor.okV a)(hb:Go.Proofs.YtgloldepdhgfaaaGreatDoor.okV b)(h1:leR a b)(h2:leR b a):Wf a=Wf b :=
 (Qaw a).ext (Qaw b) (((Qh2 ha).trans (Qaw a).ok h1).trans (Qaw a).ok (Qh1 hb)) (((Qh2 hb).trans (Qaw b).ok h2).trans (Qaw b).ok (Qh1 ha))
theorem Qiz{l:LV}(h:NF l):Wf l=l:=(Qaw l).ext h (Qh2 h.ok) (Qh1 h.ok)
theorem Wdo(a:LV):okV (Wf a):=(Qaw a).ok
def Qpr(x:LV):LV:=if x= [] then [(0,0)] else x
def Qzq(bys:List LV)(v:Int):LV:=if 0<v/\v<=bys.length then Wf (bys.getD (v - 1).toNat [])else []
def xsP(bys:List LV)(p:Int×Int):LV:=Qpr (Qzq bys p.1)
theorem Qwg{x:LV}{q:Int×Int}(h:q∈Qpr x):q=(0,0)\/q∈x:=by
 unfold Qpr at h;split at h
 ·left;simpa using h
 ·exact .inr h
def Qjn(n:Int)(q:Int×Int):Int×Int:=(q.1,q.2+n)
def rowP(bys:List LV)(p:Int×Int):LV:=(xsP bys p).map (Qjn p.2)
def Qyu(l:LV)(bys:List LV):LV:=((Wf l).map (rowP bys)).flatten
theorem Qzp{bys:List LV}{v:Int}{q:Int×Int}(h:q∈Qzq bys v):∃l,l∈bys/\q∈Wf l:=by
 unfold Qzq at h;split at h
 ·rename_i hv;refine⟨_,?_,h⟩;rw[List.getD_eq_getElem?_getD,List.getElem?_eq_getElem (by omega)];exact List.getElem_mem _
 ·cases h
theorem xsP_ok(bys:List LV)(p:Int×Int):okV (xsP bys p):=fun q hq=>by
 rcases Qwg hq with rfl | hq
 ·rfl
 ·obtain⟨l, -,h⟩:=Qzp hq;exact Wdo _ q h
end Go.Proofs.YtgloldepdhgfaaaGreatDoor
namespace Go.Proofs.YtgloldepdhgfaaaGreatDoor
set_option linter.unusedSimpArgs false
set_option linter.unusedVariables false
set_option maxHeartbeats 10000000
set_option maxRecDepth 20000
open Go.RowKit
attribute [local simp] Qx Qm Qo Qp Wn Xg opD Wc Qr Qw Wi hOf Wj Xf Xd TK.isAgg TK.known Ws Wk Qz Qh D.ofV inB Qy Wp Xy Za Zg Xc Xw Zh IntKind.min IntKind.max IntKind.signed IntKind.bits Wm Xz
theorem Ql0(a b:LV)(ha:a.length<=Ql)(hb:b.length<=Ql):Sp 83 [.slice (a.map Wv) .any, .slice (b.map Wv) .any] [] (rt (.bool (decide (a=b)))):=by
 unfold Ql at ha hb;refine eN Tryz.func83 rfl (by decide) rfl rfl ?_;(refine sI fun K Z=>?_;(repeat rw[Qa];simp);refine Z ?_;clear Z K);refine Qc fun K1 hK1=>?_
 (refine sI fun K Z=>?_;(repeat rw[Qa];simp);refine Z ?_;clear Z K);refine Qac rfl (fun h=>?_) (fun h=>?_)
 ·(refine sI fun K Z=>?_;(repeat rw[Qa];simp);refine Z ?_;clear Z K);(refine Qe ?_;(try simp only[zs]);refine Qk.ret rfl (.inl ?_);simp[zM]);have h:¬ (a.length:Int)=b.length:=by simpa using h
  intro e;exact h (by rw[e])
 ·replace h:a.length=b.length:=by
   have h:(a.length:Int)=b.length:=by simpa using h
   omega
  refine Qg (hK1 _ _ _ ?_);clear hK1 K1;refine Qc fun K1 hK1=>?_
  (refine sI fun K Z=>?_;(repeat rw[Qa];simp);refine Z ?_;clear Z K);refine Wd ?_;refine Qhp [4,5,11,12,13,14,15,16,17,18,19,20,21,22,23,24,25] (fun n ys hl=>∃(k:Nat) (x4 x11 x12 x13 x14 x15 x16 x17 x18 x19 x20 x21 x22 x23 x24 x25:D),ys= [x4, .int .i64 k,x11,x12,x13,x14,x15,x16,x17,x18,x19,x20,x21,x22,x23,x24,x25]/\n+k=a.length/\a.take k=b.take k/\hl= []) (a.length) (by kernel_rfl) ?_ ?_
  ·exact⟨0,_,_,_,_,_,_,_,_,_,_,_,_,_,_,_,_,rfl,rfl,by simp,rfl⟩
  ·rintro n ys hl A hA ⟨k,x4,x11,x12,x13,x14,x15,x16,x17,x18,x19,x20,x21,x22,x23,x24,x25,rfl,hk,he,rfl⟩;simp only[Qh,List.set];refine Qc fun K2 hK2=>?_
   (refine sI fun K Z=>?_;(repeat rw[Qa];simp);refine Z ?_;clear Z K);refine Qac rfl (fun hka=>?_) (fun hka=>?_)
   ·replace hka:k<a.length:=by simpa using hka
    have hkb:k<b.length:=by omega
    refine Qg (hK2 _ _ _ ?_);clear hK2 K2;refine Qc fun K3 hK3=>?_
    refine Wd ?_;(refine Qc fun K hK=>?_;refine dR fun KT hKT=>?_;(repeat rw[Qd];simp[hka,hkb,Wv]));(refine hKT _ _ _ _ (by kernel_rfl) ?_;clear hKT KT);(refine hK _ _ _ ?_;clear hK K);refine Qac rfl (fun hb=>?_) (fun hb=>?_)
    ·(refine sI fun K Z=>?_;(repeat rw[Qa];simp);refine Z ?_;clear Z K);(refine Qe ?_;(try simp only[zs]);refine Qk.ret rfl (.inl ?_);simp[zM]);intro e;subst e;simp at hb
    ·refine Qg (hK3 _ _ _ ?_);clear hK3 K3;have hw1:IntKind.i64.wrap ((k:Int)+1)=(k:Int)+1:=Qbu (by omega) (by omega);(refine Qi Wa ?_;(repeat rw[Qa];simp[hw1]));refine hA (n - 1) _ _ (by omega) (by kernel_rfl) ?_;refine⟨k+1,_,_,_,_,_,_,_,_,_,_,_,_,_,_,_,_,rfl,by omega,?_,rfl⟩;rw[List.take_succ_eq_append_getElem hka,List.take_succ_eq_append_getElem hkb,he];have hb:a[k]=b[k]:=by
      have hb':a[k].1=b[k].1/\a[k].2=b[k].2:=by simpa using hb
      exact Prod.ext hb'.1 hb'.2
     rw[hb]
   ·replace hka:¬ k<a.length:=by simpa using hka
    refine Qad ?_;refine hK1 _ _ _ ?_;(refine sI fun K Z=>?_;(repeat rw[Qa];simp);refine Z ?_;clear Z K);(refine Qe ?_;(try simp only[zs]);refine Qk.ret rfl (.inl ?_);simp[zM]);rw[List.take_of_length_le (by omega),List.take_of_length_le (by omega)]at he;exact he
theorem Ql2(a b:LV)(ha:a.length<=Ql)(hb:b.length<=Ql):Sp 35 [Qn a,Qn b] [] (rt (.bool (decide (a=b)))):=by
 refine eN Tryz.func35 rfl (by decide) rfl rfl ?_;unfold Qn;(refine sI fun K Z=>?_;(repeat rw[Qa];simp);refine Z ?_;clear Z K);(refine sR fun K hK=>?_;(repeat rw[Qa];simp));refine cXr (Ql0 a b ha hb) ?_
 (repeat rw[Qa];simp)
 (refine hK _ _ _ ?_;clear hK K);(refine Qe ?_;(try simp only[zs]);refine Qk.ret rfl (.inl ?_);simp[zM])
set_option maxHeartbeats 20000000 in
theorem Qyv(l:LV)(bys:List LV)(hl:l.length<=Ql)(hbl:bys.length<=Ql)(hbys:∀x,x∈bys ->x.length<=Ql):Sp 229 [.agg [.map 0], .ref (Qn l), .ref (Lvs bys)] [.mp []] (Qma (Qen (Qyu l bys) [])):=by
 have hsp0:=Qdu l hl;have hnf:=Qaw l;have hnl:=Qi0 l;unfold Qyu;generalize Wf l=N at hsp0 hnf hnl;have hNl:N.length<=Ql:=by unfold Ql;omega
 obtain⟨rs,hrs⟩:∃rs,rs=N.map (rowP bys):=⟨_,rfl⟩;rw[<- hrs];have hrl:rs.length=N.length:=by rw[hrs,List.length_map]
 obtain⟨L,hL⟩:∃L,L=rs.flatten:=⟨_,rfl⟩;rw[<- hL];unfold Ql at hbl;refine eN Tryz.func229 rfl (by decide) rfl rfl ?_;unfold Qn Lvs;(refine sI fun K Z=>?_;(repeat rw[Qa];simp);refine Z ?_;clear Z K);unfold Qn at hsp0;(refine sR fun K hK=>?_;(repeat rw[Qa];simp));refine Wl.pure Qf (hsp0) ?_ (by simp[D.fgts,D.fgt,Xu]) (by simp[D.pures,D.pure,Cp.free,D.pures_map,Xu]) (by simp[Out.pure,D.pure,D.pures,Cp.free,D.pures_map,Xu]);(try simp only[zr]);(repeat rw[Qa];simp);(refine hK _ _ _ ?_;clear hK K);refine Qbv Wa Qf (ti:=3) (tk:=13) (tn:=12) (td:=14) (ts:=62) [5,6,8,13,14,15,16,17,18,19,20,21,22,23,24,25,26,27,28,29,30,31,32,33,34,35,36,37,38,39,40,41,42,43,44,45,46,47,48,49,50,51,52,53,54,55,56,57,58,59,60,61,62] (N.length) (fun k ys hl=>∃(m':MP) (x5 x6 x8 x13 x14 x15 x16 x17 x18 x19 x20 x21 x22 x23 x24 x25 x26 x27 x28 x29 x30 x31 x32 x33 x34 x35 x36 x37 x38 x39 x40 x41 x42 x43 x44 x45 x46 x47 x48 x49 x50 x51 x52 x53 x54 x55 x56 x57 x58 x59 x60 x61 x62:D),ys= [x5,x6,x8,x13,x14,x15,x16,x17,x18,x19,x20,x21,x22,x23,x24,x25,x26,x27,x28,x29,x30,x31,x32,x33,x34,x35,x36,x37,x38,x39,x40,x41,x42,x43,x44,x45,x46,x47,x48,x49,x50,x51,x52,x53,x54,x55,x56,x57,x58,x59,x60,x61,x62]/\Xk L=Xk (rs.drop k).flatten/\(rs.drop k).flatten.foldl Qdl m'=L.foldl Qdl []/\MOK m'/\hl= [.mp (Qdx m'), .cells 206 [.map 0]]) rfl rfl rfl rfl rfl rfl rfl rfl rfl rfl rfl rfl (by simp) (by decide) rfl (by first | assumption | omega | (unfold Ql;omega)) rfl (by kernel_rfl) (by decide) ?_ ?_ ?_
 ·exact⟨[],_,_,_,_,_,_,_,_,_,_,_,_,_,_,_,_,_,_,_,_,_,_,_,_,_,_,_,_,_,_,_,_,_,_,_,_,_,_,_,_,_,_,_,_,_,_,_,_,_,_,_,_,_,rfl,by rw[hL];rfl,by rw[hL];rfl,MOK.nil,rfl⟩
 rotate_left
 ·rintro ys hl ⟨m',x5,x6,x8,x13,x14,x15,x16,x17,x18,x19,x20,x21,x22,x23,x24,x25,x26,x27,x28,x29,x30,x31,x32,x33,x34,x35,x36,x37,x38,x39,x40,x41,x42,x43,x44,x45,x46,x47,x48,x49,x50,x51,x52,x53,x54,x55,x56,x57,x58,x59,x60,x61,x62,rfl,hb,hf,hml,rfl⟩;simp only[Qh,List.set];rw[show N.length=rs.length from hrl.symm,List.drop_length]at hb hf;((try simp only[zs]);refine Qk.nrm rfl (.inr ⟨[],by decide,by simp,?_⟩);simp[zM]);have hall:Xk L=false:=hb;simp[Qma,Qen,hall,Out.fgt,D.fgt,D.fgts];rw[<- hf];rfl
 ·rintro k ys hl A hk ⟨m',x5,x6,x8,x13,x14,x15,x16,x17,x18,x19,x20,x21,x22,x23,x24,x25,x26,x27,x28,x29,x30,x31,x32,x33,x34,x35,x36,x37,x38,x39,x40,x41,x42,x43,x44,x45,x46,x47,x48,x49,x50,x51,x52,x53,x54,x55,x56,x57,x58,x59,x60,x61,x62,rfl,hb,hf,hml,rfl⟩ hA hA2;simp only[Qh,List.set];have hkr:k<rs.length:=by omega
  have hd:rs.drop k=rs[k]::rs.drop (k+1):=List.drop_eq_getElem_cons hkr;obtain⟨p,hp⟩:∃p,p=N[k]:=⟨_,rfl⟩;have hgp:N[k]=p:=hp.symm;have hrk:rs[k]=(xsP bys p).map (Qjn p.2):=by
   have:rs[k]=rowP bys N[k]:=by simp[hrs]
   rw[this,hgp];rfl
  rw[hd,List.flatten_cons,hrk]at hb hf;have hpb:=Qcu (hnf.ok N[k] (List.getElem_mem hk));rw[hgp]at hpb;have hXok:=xsP_ok bys p;have hXe:xsP bys p=Qpr (Qzq bys p.1):=rfl;have hlv:Qzq bys p.1=(if 0<p.1/\p.1<=bys.length then Wf (bys.getD (p.1 - 1).toNat [])else []):=rfl;generalize xsP bys p=X at hb hf hXok hXe;have hXl:∀n,X.length<=n ->n<=Ql ->X.length<=Ql:=fun n h1 h2=>Nat.le_trans h1 h2
  (refine sI fun K Z=>?_;(repeat rw[Qa];simp[hk,hgp,Wv]);refine Z ?_;clear Z K);(refine sI fun K Z=>?_;(repeat rw[Qa];simp);refine Z ?_;clear Z K);refine Qc fun K2 hK2=>?_
  by_cases h1:0<p.1
  ·by_cases h2:p.1<=bys.length
   ·obtain⟨j0,hj0⟩:∃j0:Nat,p.1 - 1=j0:=⟨(p.1 - 1).toNat,by omega⟩;have hjl:j0<bys.length:=by omega
    have hw0:IntKind.i64.wrap (p.1 - 1)=(j0:Int):=by rw[Qbu (by omega) (by omega)];exact hj0
    have hgd:bys.getD (p.1 - 1).toNat []=bys[j0]:=by rw[hj0];simp[List.getD_eq_getElem?_getD,hjl]
    rw[if_pos ⟨h1,h2⟩,hgd]at hlv;rw[hlv]at hXe;unfold Qpr at hXe;have hspj:=Qdu bys[j0] (hbys _ (List.getElem_mem hjl));have hYl:=Qcp bys[j0];unfold Qn at hspj;generalize Wf bys[j0]=Y at hXe hspj hYl;(refine sI fun K Z=>?_;(repeat rw[Qa];simp[h1,h2]);refine Z ?_;clear Z K);refine pT rfl ?_;(refine Qi Wa ?_;(repeat rw[Qa];simp[hw0,hjl,Qn]));refine Wl.pure Qf (hspj) ?_ (by simp[D.fgts,D.fgt,Xu]) (by simp[D.pures,D.pure,Cp.free,D.pures_map,Xu]) (by simp[Out.pure,D.pure,D.pures,Cp.free,D.pures_map,Xu]);(try simp only[zr]);(repeat rw[Qa];simp);refine hK2 _ _ _ ?_;clear hK2 K2;refine Qc fun K2 hK2=>?_
    by_cases hY:Y= []
    ·rw[if_pos hY]at hXe;subst hY;have hXL:X.length<=Ql:=by rw[hXe];simp[Ql]
     (refine sI fun K Z=>?_;(repeat rw[Qa];simp);refine Z ?_;clear Z K);refine pT rfl ?_;(refine Qi Wa ?_;(repeat rw[Qa];simp));refine hK2 _ _ _ ?_;clear hK2 K2;have hXm: [D.agg [.int .i64 0, .int .i64 0]]=X.map Wv:=by rw[hXe];rfl
     rw[hXm];have hX1:(1:Int)=X.length:=by rw[hXe];rfl
     clear hXe hXm;(refine sI fun K Z=>?_;(repeat rw[Qa];simp);refine Z ?_;clear Z K);obtain⟨rest,hrest⟩:∃rest,rest=(rs.drop (k+1)).flatten:=⟨_,rfl⟩;rw[<- hrest]at hb hf;refine Qbv Wa Qf (ti:=3) (tk:=45) (tn:=44) (td:=46) (ts:=61) [8,45,46,47,48,49,50,51,52,53,54,55,56,57,58,59,60,61,62] (X.length) (fun k ys hl=>∃(m2:MP) (x8 x45 x46 x47 x48 x49 x50 x51 x52 x53 x54 x55 x56 x57 x58 x59 x60 x61 x62:D),ys= [x8,x45,x46,x47,x48,x49,x50,x51,x52,x53,x54,x55,x56,x57,x58,x59,x60,x61,x62]/\Xk L=Xk ((X.drop k).map (Qjn p.2)++rest)/\((X.drop k).map (Qjn p.2)++rest).foldl Qdl m2=L.foldl Qdl []/\MOK m2/\hl= [.mp (Qdx m2), .cells 206 [.map 0], .cells 157 [.int .i64 p.1, .int .i64 p.2], .cells 53 [.slice (X.map Wv) .full]]) rfl rfl rfl rfl rfl rfl rfl rfl rfl rfl rfl rfl (by simp) (by decide) rfl (by first | assumption | omega | (unfold Ql;omega)) rfl (by kernel_rfl) (by decide) ?_ ?_ ?_
     ·exact⟨m',_,_,_,_,_,_,_,_,_,_,_,_,_,_,_,_,_,_,_,rfl,hb,hf,hml,rfl⟩
     ·rintro j zs hl2 B hj ⟨m2,x8,x45,x46,x47,x48,x49,x50,x51,x52,x53,x54,x55,x56,x57,x58,x59,x60,x61,x62,rfl,hb2,hf2,hml2,rfl⟩ hB hB2;simp only[Qh,List.set];have hd2:X.drop j=X[j]::X.drop (j+1):=List.drop_eq_getElem_cons hj;have hqb:=Qcu (hXok X[j] (List.getElem_mem hj));rw[hd2,List.map_cons,List.cons_append]at hb2 hf2;obtain⟨q,hq⟩:∃q,q=X[j]:=⟨_,rfl⟩;have hge:X[j]=q:=hq.symm;rw[hge]at hb2 hf2 hqb;have hw1:IntKind.i64.wrap (q.2+p.2)=q.2+p.2:=Qbu (by omega) (by omega);have hsp:=Qdr [(q.1,q.2+p.2)] m2 (by simp[Ql]) hml2;have hone: [(q.1,q.2+p.2)].foldl Qdl m2=Qdl m2 (Qjn p.2 q):=rfl;rw[hone]at hsp;have hbad1:Xk [(q.1,q.2+p.2)]=Qin (Qjn p.2 q):=by simp[Xk,Qjn]
      rw[hbad1]at hsp;(refine sI fun K Z=>?_;(repeat rw[Qa];simp[hj,hge,Wv]);refine Z ?_;clear Z K);(refine Qi Wa ?_;(repeat rw[Qa];simp[hw1]));refine Wl.objs Qf [0] true hsp ?_ ?_ (by decide) (by simp) (by simp[zA]) (by simp[zA]) (by simp[zA,Ps,Wv]) (by simp[zA])
      ·cases hbad:Qin (Qjn p.2 q)with
       | true =>
        simp only[if_true];rintro o hc ⟨rfl,m3,rfl⟩;refine⟨false,?_⟩;unfold Qhb;simp[zU]
        (repeat rw[Qa];simp)
        ((try simp only[zs]);refine Qk.pan (.inr ⟨[],by decide,by simp,?_⟩);simp[zM]);have hall:Xk L=true:=by rw[hb2];unfold Xk;rw[List.any_cons,hbad];rfl
        simp[Qma,Qen,hall,Qhb];exact⟨m3,rfl⟩
       | false =>
        simp only[if_false,Bool.false_eq_true];rintro o hc ⟨ho,rfl⟩;refine⟨true,?_⟩;rw[show told true o=_ from ho];clear ho;simp[zU]
        (repeat rw[Qa];simp)
        (refine hB2 ([1,2,3]) _ _ (by decide) (by simp) (by simp[zM,Qh]) ?_ rfl;simp[zM]);refine⟨by rw[hb2];unfold Xk;rw[List.any_cons,hbad,Bool.false_or,List.map_drop],_,?_,?_,rfl⟩
        ·rw[<- hf2,List.foldl_cons,List.foldl_append,List.map_drop]
        ·exact Qfx hml2 hbad
      ·intro o hc h;split at h
       ·obtain⟨-,m3,rfl⟩:=h;simp
       ·obtain⟨-,rfl⟩:=h;simp
     ·rintro zs hl2 ⟨m2,x8,x45,x46,x47,x48,x49,x50,x51,x52,x53,x54,x55,x56,x57,x58,x59,x60,x61,x62,rfl,hb2,hf2,hml2,rfl⟩;simp only[Qh,List.set];rw[List.drop_length,List.map_nil,List.nil_append]at hb2 hf2;(refine hA2 ([1]) _ _ (by decide) (by simp) (by simp[zM,Qh]) ?_ rfl;simp[zM]);exact⟨by rw[hb2,hrest],m2,by rw[<- hf2,hrest],hml2,rfl⟩
    ·rw[if_neg hY]at hXe;subst hXe;have hXL:=hYl;have hY0:¬ (X.length:Int)=0:=by
      have:X.length≠0:=fun h=>hY (List.eq_nil_of_length_eq_zero h)
      omega
     (refine sI fun K Z=>?_;(repeat rw[Qa];simp[hY,hY0]);refine Z ?_;clear Z K);refine pF rfl ?_;refine Qg (hK2 _ _ _ ?_);clear hK2 K2;(refine sI fun K Z=>?_;(repeat rw[Qa];simp);refine Z ?_;clear Z K);obtain⟨rest,hrest⟩:∃rest,rest=(rs.drop (k+1)).flatten:=⟨_,rfl⟩;rw[<- hrest]at hb hf;refine Qbv Wa Qf (ti:=3) (tk:=45) (tn:=44) (td:=46) (ts:=61) [8,39,40,41,45,46,47,48,49,50,51,52,53,54,55,56,57,58,59,60,61,62] (X.length) (fun k ys hl=>∃(m2:MP) (x8 x39 x40 x41 x45 x46 x47 x48 x49 x50 x51 x52 x53 x54 x55 x56 x57 x58 x59 x60 x61 x62:D),ys= [x8,x39,x40,x41,x45,x46,x47,x48,x49,x50,x51,x52,x53,x54,x55,x56,x57,x58,x59,x60,x61,x62]/\Xk L=Xk ((X.drop k).map (Qjn p.2)++rest)/\((X.drop k).map (Qjn p.2)++rest).foldl Qdl m2=L.foldl Qdl []/\MOK m2/\hl= [.mp (Qdx m2), .cells 206 [.map 0], .cells 157 [.int .i64 p.1, .int .i64 p.2], .cells 53 [.slice (X.map Wv) .any]]) rfl rfl rfl rfl rfl rfl rfl rfl rfl rfl rfl rfl (by simp) (by decide) rfl (by first | assumption | omega | (unfold Ql;omega)) rfl (by kernel_rfl) (by decide) ?_ ?_ ?_
     ·exact⟨m',_,_,_,_,_,_,_,_,_,_,_,_,_,_,_,_,_,_,_,_,_,_,rfl,hb,hf,hml,rfl⟩
     ·rintro j zs hl2 B hj ⟨m2,x8,x39,x40,x41,x45,x46,x47,x48,x49,x50,x51,x52,x53,x54,x55,x56,x57,x58,x59,x60,x61,x62,rfl,hb2,hf2,hml2,rfl⟩ hB hB2;simp only[Qh,List.set];have hd2:X.drop j=X[j]::X.drop (j+1):=List.drop_eq_getElem_cons hj;have hqb:=Qcu (hXok X[j] (List.getElem_mem hj));rw[hd2,List.map_cons,List.cons_append]at hb2 hf2;obtain⟨q,hq⟩:∃q,q=X[j]:=⟨_,rfl⟩;have hge:X[j]=q:=hq.symm;rw[hge]at hb2 hf2 hqb;have hw1:IntKind.i64.wrap (q.2+p.2)=q.2+p.2:=Qbu (by omega) (by omega);have hsp:=Qdr [(q.1,q.2+p.2)] m2 (by simp[Ql]) hml2;have hone: [(q.1,q.2+p.2)].foldl Qdl m2=Qdl m2 (Qjn p.2 q):=rfl;rw[hone]at hsp;have hbad1:Xk [(q.1,q.2+p.2)]=Qin (Qjn p.2 q):=by simp[Xk,Qjn]
      rw[hbad1]at hsp;(refine sI fun K Z=>?_;(repeat rw[Qa];simp[hj,hge,Wv]);refine Z ?_;clear Z K);(refine Qi Wa ?_;(repeat rw[Qa];simp[hw1]));refine Wl.objs Qf [0] true hsp ?_ ?_ (by decide) (by simp) (by simp[zA]) (by simp[zA]) (by simp[zA,Ps,Wv]) (by simp[zA])
      ·cases hbad:Qin (Qjn p.2 q)with
       | true =>
        simp only[if_true];rintro o hc ⟨rfl,m3,rfl⟩;refine⟨false,?_⟩;unfold Qhb;simp[zU]
        (repeat rw[Qa];simp)
        ((try simp only[zs]);refine Qk.pan (.inr ⟨[],by decide,by simp,?_⟩);simp[zM]);have hall:Xk L=true:=by rw[hb2];unfold Xk;rw[List.any_cons,hbad];rfl
        simp[Qma,Qen,hall,Qhb];exact⟨m3,rfl⟩
       | false =>
        simp only[if_false,Bool.false_eq_true];rintro o hc ⟨ho,rfl⟩;refine⟨true,?_⟩;rw[show told true o=_ from ho];clear ho;simp[zU]
        (repeat rw[Qa];simp)
        (refine hB2 ([1,2,3]) _ _ (by decide) (by simp) (by simp[zM,Qh]) ?_ rfl;simp[zM]);refine⟨by rw[hb2];unfold Xk;rw[List.any_cons,hbad,Bool.false_or,List.map_drop],_,?_,?_,rfl⟩
        ·rw[<- hf2,List.foldl_cons,List.foldl_append,List.map_drop]
        ·exact Qfx hml2 hbad
      ·intro o hc h;split at h
       ·obtain⟨-,m3,rfl⟩:=h;simp
       ·obtain⟨-,rfl⟩:=h;simp
     ·rintro zs hl2 ⟨m2,x8,x39,x40,x41,x45,x46,x47,x48,x49,x50,x51,x52,x53,x54,x55,x56,x57,x58,x59,x60,x61,x62,rfl,hb2,hf2,hml2,rfl⟩;simp only[Qh,List.set];rw[List.drop_length,List.map_nil,List.nil_append]at hb2 hf2;(refine hA2 ([1]) _ _ (by decide) (by simp) (by simp[zM,Qh]) ?_ rfl;simp[zM]);exact⟨by rw[hb2,hrest],m2,by rw[<- hf2,hrest],hml2,rfl⟩
   ·have hXe:X= [(0,0)]:=by
     rw[if_neg (fun h=>h2 h.2)]at hlv;rw[hXe,hlv];rfl
    have hXL:X.length<=Ql:=by rw[hXe];simp[Ql]
    (refine sI fun K Z=>?_;(repeat rw[Qa];simp[h1,h2]);refine Z ?_;clear Z K);refine pF rfl ?_;refine Qg (hK2 _ _ _ ?_);clear hK2 K2;refine Qc fun K2 hK2=>?_
    (refine sI fun K Z=>?_;(repeat rw[Qa];simp);refine Z ?_;clear Z K);refine pT rfl ?_;(refine Qi Wa ?_;(repeat rw[Qa];simp));refine hK2 _ _ _ ?_;clear hK2 K2;have hXm: [D.agg [.int .i64 0, .int .i64 0]]=X.map Wv:=by rw[hXe];rfl
    rw[hXm];have hX1:(1:Int)=X.length:=by rw[hXe];rfl
    clear hXe hXm;(refine sI fun K Z=>?_;(repeat rw[Qa];simp);refine Z ?_;clear Z K);obtain⟨rest,hrest⟩:∃rest,rest=(rs.drop (k+1)).flatten:=⟨_,rfl⟩;rw[<- hrest]at hb hf;refine Qbv Wa Qf (ti:=3) (tk:=45) (tn:=44) (td:=46) (ts:=61) [8,28,29,30,31,32,33,34,45,46,47,48,49,50,51,52,53,54,55,56,57,58,59,60,61,62] (X.length) (fun k ys hl=>∃(m2:MP) (x8 x28 x29 x30 x31 x32 x33 x34 x45 x46 x47 x48 x49 x50 x51 x52 x53 x54 x55 x56 x57 x58 x59 x60 x61 x62:D),ys= [x8,x28,x29,x30,x31,x32,x33,x34,x45,x46,x47,x48,x49,x50,x51,x52,x53,x54,x55,x56,x57,x58,x59,x60,x61,x62]/\Xk L=Xk ((X.drop k).map (Qjn p.2)++rest)/\((X.drop k).map (Qjn p.2)++rest).foldl Qdl m2=L.foldl Qdl []/\MOK m2/\hl= [.mp (Qdx m2), .cells 206 [.map 0], .cells 157 [.int .i64 p.1, .int .i64 p.2], .cells 53 [.slice (X.map Wv) .full]]) rfl rfl rfl rfl rfl rfl rfl rfl rfl rfl rfl rfl (by simp) (by decide) rfl (by first | assumption | omega | (unfold Ql;omega)) rfl (by kernel_rfl) (by decide) ?_ ?_ ?_
    ·exact⟨m',_,_,_,_,_,_,_,_,_,_,_,_,_,_,_,_,_,_,_,_,_,_,_,_,_,_,rfl,hb,hf,hml,rfl⟩
    ·rintro j zs hl2 B hj ⟨m2,x8,x28,x29,x30,x31,x32,x33,x34,x45,x46,x47,x48,x49,x50,x51,x52,x53,x54,x55,x56,x57,x58,x59,x60,x61,x62,rfl,hb2,hf2,hml2,rfl⟩ hB hB2;simp only[Qh,List.set];have hd2:X.drop j=X[j]::X.drop (j+1):=List.drop_eq_getElem_cons hj;have hqb:=Qcu (hXok X[j] (List.getElem_mem hj));rw[hd2,List.map_cons,List.cons_append]at hb2 hf2;obtain⟨q,hq⟩:∃q,q=X[j]:=⟨_,rfl⟩;have hge:X[j]=q:=hq.symm;rw[hge]at hb2 hf2 hqb;have hw1:IntKind.i64.wrap (q.2+p.2)=q.2+p.2:=Qbu (by omega) (by omega);have hsp:=Qdr [(q.1,q.2+p.2)] m2 (by simp[Ql]) hml2;have hone: [(q.1,q.2+p.2)].foldl Qdl m2=Qdl m2 (Qjn p.2 q):=rfl;rw[hone]at hsp;have hbad1:Xk [(q.1,q.2+p.2)]=Qin (Qjn p.2 q):=by simp[Xk,Qjn]
     rw[hbad1]at hsp;(refine sI fun K Z=>?_;(repeat rw[Qa];simp[hj,hge,Wv]);refine Z ?_;clear Z K);(refine Qi Wa ?_;(repeat rw[Qa];simp[hw1]));refine Wl.objs Qf [0] true hsp ?_ ?_ (by decide) (by simp) (by simp[zA]) (by simp[zA]) (by simp[zA,Ps,Wv]) (by simp[zA])
     ·cases hbad:Qin (Qjn p.2 q)with
      | true =>
       simp only[if_true];rintro o hc ⟨rfl,m3,rfl⟩;refine⟨false,?_⟩;unfold Qhb;simp[zU]
       (repeat rw[Qa];simp)
       ((try simp only[zs]);refine Qk.pan (.inr ⟨[],by decide,by simp,?_⟩);simp[zM]);have hall:Xk L=true:=by rw[hb2];unfold Xk;rw[List.any_cons,hbad];rfl
       simp[Qma,Qen,hall,Qhb];exact⟨m3,rfl⟩
      | false =>
       simp only[if_false,Bool.false_eq_true];rintro o hc ⟨ho,rfl⟩;refine⟨true,?_⟩;rw[show told true o=_ from ho];clear ho;simp[zU]
       (repeat rw[Qa];simp)
       (refine hB2 ([1,2,3]) _ _ (by decide) (by simp) (by simp[zM,Qh]) ?_ rfl;simp[zM]);refine⟨by rw[hb2];unfold Xk;rw[List.any_cons,hbad,Bool.false_or,List.map_drop],_,?_,?_,rfl⟩
       ·rw[<- hf2,List.foldl_cons,List.foldl_append,List.map_drop]
       ·exact Qfx hml2 hbad
     ·intro o hc h;split at h
      ·obtain⟨-,m3,rfl⟩:=h;simp
      ·obtain⟨-,rfl⟩:=h;simp
    ·rintro zs hl2 ⟨m2,x8,x28,x29,x30,x31,x32,x33,x34,x45,x46,x47,x48,x49,x50,x51,x52,x53,x54,x55,x56,x57,x58,x59,x60,x61,x62,rfl,hb2,hf2,hml2,rfl⟩;simp only[Qh,List.set];rw[List.drop_length,List.map_nil,List.nil_append]at hb2 hf2;(refine hA2 ([1]) _ _ (by decide) (by simp) (by simp[zM,Qh]) ?_ rfl;simp[zM]);exact⟨by rw[hb2,hrest],m2,by rw[<- hf2,hrest],hml2,rfl⟩
  ·have hXe:X= [(0,0)]:=by
    rw[if_neg (fun h=>h1 h.1)]at hlv;rw[hXe,hlv];rfl
   have hXL:X.length<=Ql:=by rw[hXe];simp[Ql]
   (refine sI fun K Z=>?_;(repeat rw[Qa];simp[h1]);refine Z ?_;clear Z K);refine pF rfl ?_;refine Qg (hK2 _ _ _ ?_);clear hK2 K2;refine Qc fun K2 hK2=>?_
   (refine sI fun K Z=>?_;(repeat rw[Qa];simp);refine Z ?_;clear Z K);refine pT rfl ?_;(refine Qi Wa ?_;(repeat rw[Qa];simp));refine hK2 _ _ _ ?_;clear hK2 K2;have hXm: [D.agg [.int .i64 0, .int .i64 0]]=X.map Wv:=by rw[hXe];rfl
   rw[hXm];have hX1:(1:Int)=X.length:=by rw[hXe];rfl
   clear hXe hXm;(refine sI fun K Z=>?_;(repeat rw[Qa];simp);refine Z ?_;clear Z K);obtain⟨rest,hrest⟩:∃rest,rest=(rs.drop (k+1)).flatten:=⟨_,rfl⟩;rw[<- hrest]at hb hf;refine Qbv Wa Qf (ti:=3) (tk:=45) (tn:=44) (td:=46) (ts:=61) [8,28,29,30,31,32,33,34,45,46,47,48,49,50,51,52,53,54,55,56,57,58,59,60,61,62] (X.length) (fun k ys hl=>∃(m2:MP) (x8 x28 x29 x30 x31 x32 x33 x34 x45 x46 x47 x48 x49 x50 x51 x52 x53 x54 x55 x56 x57 x58 x59 x60 x61 x62:D),ys= [x8,x28,x29,x30,x31,x32,x33,x34,x45,x46,x47,x48,x49,x50,x51,x52,x53,x54,x55,x56,x57,x58,x59,x60,x61,x62]/\Xk L=Xk ((X.drop k).map (Qjn p.2)++rest)/\((X.drop k).map (Qjn p.2)++rest).foldl Qdl m2=L.foldl Qdl []/\MOK m2/\hl= [.mp (Qdx m2), .cells 206 [.map 0], .cells 157 [.int .i64 p.1, .int .i64 p.2], .cells 53 [.slice (X.map Wv) .full]]) rfl rfl rfl rfl rfl rfl rfl rfl rfl rfl rfl rfl (by simp) (by decide) rfl (by first | assumption | omega | (unfold Ql;omega)) rfl (by kernel_rfl) (by decide) ?_ ?_ ?_
   ·exact⟨m',_,_,_,_,_,_,_,_,_,_,_,_,_,_,_,_,_,_,_,_,_,_,_,_,_,_,rfl,hb,hf,hml,rfl⟩
   ·rintro j zs hl2 B hj ⟨m2,x8,x28,x29,x30,x31,x32,x33,x34,x45,x46,x47,x48,x49,x50,x51,x52,x53,x54,x55,x56,x57,x58,x59,x60,x61,x62,rfl,hb2,hf2,hml2,rfl⟩ hB hB2;simp only[Qh,List.set];have hd2:X.drop j=X[j]::X.drop (j+1):=List.drop_eq_getElem_cons hj;have hqb:=Qcu (hXok X[j] (List.getElem_mem hj));rw[hd2,List.map_cons,List.cons_append]at hb2 hf2;obtain⟨q,hq⟩:∃q,q=X[j]:=⟨_,rfl⟩;have hge:X[j]=q:=hq.symm;rw[hge]at hb2 hf2 hqb;have hw1:IntKind.i64.wrap (q.2+p.2)=q.2+p.2:=Qbu (by omega) (by omega);have hsp:=Qdr [(q.1,q.2+p.2)] m2 (by simp[Ql]) hml2;have hone: [(q.1,q.2+p.2)].foldl Qdl m2=Qdl m2 (Qjn p.2 q):=rfl;rw[hone]at hsp;have hbad1:Xk [(q.1,q.2+p.2)]=Qin (Qjn p.2 q):=by simp[Xk,Qjn]
    rw[hbad1]at hsp;(refine sI fun K Z=>?_;(repeat rw[Qa];simp[hj,hge,Wv]);refine Z ?_;clear Z K);(refine Qi Wa ?_;(repeat rw[Qa];simp[hw1]));refine Wl.objs Qf [0] true hsp ?_ ?_ (by decide) (by simp) (by simp[zA]) (by simp[zA]) (by simp[zA,Ps,Wv]) (by simp[zA])
    ·cases hbad:Qin (Qjn p.2 q)with
     | true =>
      simp only[if_true];rintro o hc ⟨rfl,m3,rfl⟩;refine⟨false,?_⟩;unfold Qhb;simp[zU]
      (repeat rw[Qa];simp)
      ((try simp only[zs]);refine Qk.pan (.inr ⟨[],by decide,by simp,?_⟩);simp[zM]);have hall:Xk L=true:=by rw[hb2];unfold Xk;rw[List.any_cons,hbad];rfl
      simp[Qma,Qen,hall,Qhb];exact⟨m3,rfl⟩
     | false =>
      simp only[if_false,Bool.false_eq_true];rintro o hc ⟨ho,rfl⟩;refine⟨true,?_⟩;rw[show told true o=_ from ho];clear ho;simp[zU]
      (repeat rw[Qa];simp)
      (refine hB2 ([1,2,3]) _ _ (by decide) (by simp) (by simp[zM,Qh]) ?_ rfl;simp[zM]);refine⟨by rw[hb2];unfold Xk;rw[List.any_cons,hbad,Bool.false_or,List.map_drop],_,?_,?_,rfl⟩
      ·rw[<- hf2,List.foldl_cons,List.foldl_append,List.map_drop]
      ·exact Qfx hml2 hbad
    ·intro o hc h;split at h
     ·obtain⟨-,m3,rfl⟩:=h;simp
     ·obtain⟨-,rfl⟩:=h;simp
   ·rintro zs hl2 ⟨m2,x8,x28,x29,x30,x31,x32,x33,x34,x45,x46,x47,x48,x49,x50,x51,x52,x53,x54,x55,x56,x57,x58,x59,x60,x61,x62,rfl,hb2,hf2,hml2,rfl⟩;simp only[Qh,List.set];rw[List.drop_length,List.map_nil,List.nil_append]at hb2 hf2;(refine hA2 ([1]) _ _ (by decide) (by simp) (by simp[zM,Qh]) ?_ rfl;simp[zM]);exact⟨by rw[hb2,hrest],m2,by rw[<- hf2,hrest],hml2,rfl⟩
theorem Qyt(l:LV)(bys:List LV)(hl:l.length<=Ql)(hbl:bys.length<=Ql)(hbys:∀x,x∈bys ->x.length<=Ql):Sp 215 [Qn l,Lvs bys] [] (We8 (Wf (Qyu l bys))):=by
 have hsp1:=Qyv l bys hl hbl hbys;have hsp:=Qp2 229 [.ref (Qn l), .ref (Lvs bys)] _ rfl (by simp[D.pures,D.pure,Qo0,Qn,Xu,Cp.free,D.pures_map]) (fun m hm=>Qys MOK.nil hm) hsp1;rw[Qp7]at hsp;have hel:Qn l= .agg [.slice (l.map Wv) .any]:=rfl;unfold Lvs at hsp⊢;rw[hel]at hsp⊢;refine eN Tryz.func215 rfl (by decide) rfl rfl ?_;(refine sI fun K Z=>?_;(repeat rw[Qa];simp);refine Z ?_;clear Z K);(refine Xe (T:=Qq) 0 (ty:=53) (ds:= [.slice (l.map Wv) .any]) rfl rfl (by first | exact⟨rfl, .inr ⟨_,rfl,rfl⟩⟩ | exact⟨rfl, .inl rfl⟩) ?_;simp[D.frzs,D.frz,HO.frz,Qam,Qat,TK.isAgg,FK.isB,FK.isM,FK.isO,D.isLen]);(refine Xe (T:=Qq) 1 (ty:=24) (ds:= [.slice (bys.map Qn) .any]) rfl rfl (by first | exact⟨rfl, .inr ⟨_,rfl,rfl⟩⟩ | exact⟨rfl, .inl rfl⟩) ?_;simp[D.frzs,D.frz,HO.frz,Qam,Qat,TK.isAgg,FK.isB,FK.isM,FK.isO,D.isLen]);(refine sR fun K hK=>?_;(repeat rw[Qa];simp));refine Wl.objs Qf [] true hsp ?_ ?_ (by decide) (by simp) (by simp[zA]) (by simp[zA]) (by simp[zA]) (by simp[zA])
 ·rintro o hc (⟨hn,rfl,rfl⟩ | ⟨rfl,rfl⟩)
  ·refine⟨false,?_⟩;simp[zU]
   (repeat rw[Qa];simp)
   (refine hK _ _ _ ?_;clear hK K);(refine Qe ?_;(try simp only[zs]);refine Qk.ret rfl (.inr ⟨[],by decide,by simp,?_⟩);simp[zM]);exact .inl ⟨hn,rfl,rfl⟩
  ·refine⟨false,?_⟩;simp[zU]
   (repeat rw[Qa];simp)
   (refine hK _ _ _ ?_;clear hK K);(refine Qe ?_;(try simp only[zs]);refine Qk.ret rfl (.inr ⟨[3],by decide,by simp,?_⟩);simp[zM]);exact .inr ⟨rfl,rfl⟩
 ·rintro o hc (⟨hn,rfl,rfl⟩ | ⟨rfl,rfl⟩) <;> simp
theorem Wdf(l:LV)(bys:List LV)(hl:l.length<=Ql)(hbl:bys.length<=Ql)(hbys:∀x,x∈bys ->x.length<=Ql):Sp 215 [Qn l,Lvs bys] [] (rt (Qn (Wf (Qyu l bys)))):=Wda (Qyt l bys hl hbl hbys)
def Qdv(bys:List LV):Turn:=fun _ t=> .inr (t.n,t.ls.map fun l=>Wf (Qyu l bys))
def T.levels(t:T)(bys:List LV)(d:Int):T:=T.walk (Qdv bys) t d
def lvT(bys:List LV)(ls:List LV)(j:Nat):List LV:=(ls.take j).map fun l=>Wf (Qyu l bys)
theorem Wd0{bys ls:List LV}{j:Nat}(h:j<ls.length):lvT bys ls (j+1)=lvT bys ls j++ [Wf (Qyu ls[j] bys)]:=by
 unfold lvT;rw[List.take_succ_eq_append_getElem h,List.map_append];rfl
theorem lvT_end{bys ls:List LV}{j:Nat}(h:ls.length<=j):lvT bys ls j=ls.map fun l=>Wf (Qyu l bys):=by unfold lvT;rw[List.take_of_length_le h]
theorem lvT_len{bys ls:List LV}{j:Nat}(h:j<=ls.length):(lvT bys ls j).length=j:=by unfold lvT;rw[List.length_map,List.length_take];omega
theorem Qp6(bys:List LV)(hb:bys.length<=Ql)(hbo:∀b,b∈bys ->b.length<=Ql)(d:Int)(t:T)(ht:okT t):Sp 214 ([Qgv d 214 [.ref (Lvs bys)],Qj t]++ [.ref (Lvs bys)]) [] (rt (Qce (Qdv bys) d t)):=by
 obtain⟨kk,nn,aa,ls,ks⟩:=t;have hll:ls.length<=Ql:=ht.ll;have hls:=ht.ls;simp only[T.ls_mk]at hls;unfold Qce Qdv;simp only[T.k_mk,T.n_mk,T.a_mk,T.ls_mk,T.ks_mk];rw[<- lvT_end (bys:=bys) (Nat.le_refl _)];have hE:∀l,Qj (.mk kk nn aa l ks)= .agg [.int .i64 kk, .int .i64 nn, .int .i64 aa, .slice (l.map Qn) .any, .slice (ks.map Qj) .any]:=fun l=>Qb _
 simp only[hE];unfold Qgv Lvs;refine eN Tryz.func214 rfl (by decide) rfl rfl ?_;simp only[List.cons_append,List.nil_append];(refine sI fun K Z=>?_;(repeat rw[Qa];simp);refine Z ?_;clear Z K);(refine sI fun K Z=>?_;(repeat rw[Qa];simp);refine Z ?_;clear Z K);(refine sI fun K Z=>?_;(repeat rw[Qa];simp);refine Z ?_;clear Z K);refine Qnb 1 3 (ty:=27) (ds:= [.int .i64 kk, .int .i64 nn, .int .i64 aa, .slice [] .full, .slice (ks.map Qj) .any]) rfl ?_;simp[D.tokd];refine Qc fun K1 hK1=>?_
 (refine sI fun K Z=>?_;(repeat rw[Qa];simp);refine Z ?_;clear Z K);refine Xm Wa Qf (ti:=3) (tk:=15) (tn:=14) (td:=16) (ts:=27) [9,15,16,17,18,19,20,21,22,23,24,25,26,27] [] (ls.length) (fun k ys hl=>ys= []/\hl= [.cells 143 [.int .i64 d, .fn (.func 214) [] [.ref (.slice (bys.map Qn) .any)]], .cells 27 [.int .i64 kk, .int .i64 nn, .int .i64 aa, .slice ((lvT bys ls k).map Qn) (.tok 3), .slice (ks.map Qj) .any], .cells 27 [.int .i64 0, .int .i64 0, .int .i64 0, .slice [] .full, .slice [] .full], .tok]) rfl rfl rfl rfl rfl rfl rfl rfl rfl rfl rfl rfl (by simp) (by decide) rfl (by first | assumption | omega | (unfold Ql;omega)) rfl (by kernel_rfl) (by decide) ?_ ?_ ?_
 ·exact⟨rfl,rfl⟩
 ·rintro i ys hl A hi ⟨rfl,rfl⟩ hA hA2;simp only[Qh,List.set,List.map_cons,List.map_nil,List.cons_append,List.nil_append];have hi':(i:Int)<ls.length:=by omega
  have hsn:=Wd0 (bys:=bys) hi;have hln:=lvT_len (bys:=bys) (Nat.le_of_lt hi);have hp:=Wdf ls[i] bys (hls _ (List.getElem_mem hi)).1 hb hbo;unfold Lvs at hp;obtain⟨y,hy⟩:∃y,ls[i]=y:=⟨_,rfl⟩;rw[hy]at hp hsn;have hel:(lvT bys ls i).length+1<=Ql:=by omega
  generalize lvT bys ls i=es at hsn hln hel⊢;(refine sI fun K Z=>?_;(repeat rw[Qa];simp[hi,hi',hy]);refine Z ?_;clear Z K);(refine dR fun KT hKT=>?_;(repeat rw[Qd];simp[hi,hi',hy]));refine Xp.pure Qf (hp) ?_ (by simp[D.fgts,D.fgt,Qn]) (by simp[D.pures,D.pure,Cp.free,D.pures_map,Qn]) (by simp[Out.pure,D.pure,D.pures,Cp.free,D.pures_map,Qn]);(try simp only[zq]);(repeat rw[Qd];simp[hel]);(refine hKT _ _ _ _ (by kernel_rfl) ?_;clear hKT KT);(refine hA2 ([0,1,2,5]) _ _ _ (LeT.refl _) (by decide) (by simp) (by simp[zM,Qh]) ?_ rfl;simp[zM]);rw[hsn,show es.map Qn++ [Qn (Wf (Qyu y bys))]=(es++ [Wf (Qyu y bys)]).map Qn by simp,Wdy]
 ·rintro ys hl tl' ⟨rfl,rfl⟩ htl;refine hK1 _ _ _ (Xo htl ?_);simp only[Qh,List.set,List.map_cons,List.map_nil,List.cons_append,List.nil_append];(refine sI fun K Z=>?_;(repeat rw[Qa];simp);refine Z ?_;clear Z K);(refine Qe ?_;(try simp only[zs]);refine Qk.ret rfl (.inl ?_);simp[zM])
theorem Qkv(t:T)(bys:List LV)(hb:bys.length<=Ql)(hbo:∀b,b∈bys ->b.length<=Ql)(hd:t.deep<=DM)(ht:okT t):Sp 193 [Qj t,Lvs bys] [] (rt (Qj (t.levels bys 0))):=by
 have hw:=Qiq (Qdv bys) 214 [.ref (Lvs bys)] rfl (by simp[D.pures,D.pure,Qo0]) (fun d t _=>Qp6 bys hb hbo d t) t 0 ⟨by omega,by omega⟩ ht;unfold Qgv at hw;rw[show T.walk (Qdv bys) t 0=t.levels bys 0 from rfl]at hw;generalize t.levels bys 0=r at hw⊢;rw[Qb t]at hw;unfold Lvs at hw⊢;refine eN Tryz.func193 rfl (by decide) rfl rfl ?_;(refine sI fun K Z=>?_;(repeat rw[Qa];simp);refine Z ?_;clear Z K);(refine Xe (T:=Qq) 1 (ty:=24) (ds:= [.slice (bys.map Qn) .any]) rfl rfl (by first | exact⟨rfl, .inr ⟨_,rfl,rfl⟩⟩ | exact⟨rfl, .inl rfl⟩) ?_;simp[D.frzs,D.frz,HO.frz,Qam,Qat,TK.isAgg,FK.isB,FK.isM,FK.isO,D.isLen]);(refine sR fun K hK=>?_;(repeat rw[Qa];simp));refine cXr (hw) ?_
 (repeat rw[Qa];simp)
 (refine hK _ _ _ ?_;clear hK K);(refine Qe ?_;(try simp only[zs]);refine Qk.ret rfl (.inl ?_);simp[zM]);exact(Qb r).symm
def Qa3{α:Type}(p:α ->α ->Bool):List α ->List α ->Bool
 | [], []=>true
 | a::r,b::s=>p a b && Qa3 p r s
 | _,_=>false
theorem Qet{α:Type}{p:α ->α ->Bool}:∀{l m:List α},l.length≠m.length ->Qa3 p l m=false
 | [], [],h=>absurd rfl h
 | [],_::_,_=>rfl
 | _::_, [],_=>rfl
 | a::r,b::s,h=>by
  rw[Qa3,Qet (l:=r) (m:=s) (by simpa using h),Bool.and_false]
theorem Qeu{α:Type}{p:α ->α ->Bool}{l m:List α}{k:Nat}(h:k<l.length)(h':k<m.length):Qa3 p (l.drop k) (m.drop k)=(p l[k] m[k] && Qa3 p (l.drop (k+1)) (m.drop (k+1))):=by
 rw[List.drop_eq_getElem_cons h,List.drop_eq_getElem_cons h',Qa3]
theorem Qqs{α:Type}{p:α ->α ->Bool}{l m:List α}(h:l.length=m.length):Qa3 p (l.drop l.length) (m.drop l.length)=true:=by
 rw[List.drop_length,h,List.drop_length];rfl
theorem Qf4(p:LV ->LV ->Bool)(g:FuncId)(l m:List LV)(hl:l.length<=Ql)(hm:m.length<=Ql)(hg:∀x y,x∈l ->y∈m ->Sp g [Qn x,Qn y] [] (rt (.bool (p x y)))) :
  Sp 53 [.slice (l.map Qn) .any, .slice (m.map Qn) .any, .fn (.func g) [] []] [] (rt (.bool (Qa3 p l m))):=by
 obtain⟨R,hR⟩:∃R,R=Qa3 p l m:=⟨_,rfl⟩;rw[<- hR];refine eN Tryz.func53 rfl (by decide) rfl rfl ?_;(refine sI fun K Z=>?_;(repeat rw[Qa];simp);refine Z ?_;clear Z K);refine Qc fun K1 hK1=>?_
 by_cases hlen:l.length=m.length
 ·have hlen':(l.length:Int)=m.length:=by omega
  (refine sI fun K Z=>?_;(repeat rw[Qa];simp[hlen,hlen']);refine Z ?_;clear Z K);refine pF rfl ?_;refine Qg (hK1 _ _ _ ?_);clear hK1 K1;refine Qc fun K1 hK1=>?_
  (refine sI fun K Z=>?_;(repeat rw[Qa];simp);refine Z ?_;clear Z K);rw[<- hlen];refine Xm Wa Qf (ti:=3) (tk:=17) (tn:=16) (td:=18) (ts:=31) [6,7,8,9,17,18,19,20,21,22,23,24,25,26,27,28,29,30,31] [] (l.length) (fun k ys hl=>ys= []/\R=Qa3 p (l.drop k) (m.drop k)/\hl= []) rfl rfl rfl rfl rfl rfl rfl rfl rfl rfl rfl rfl (by simp) (by decide) rfl (by first | assumption | omega | (unfold Ql;omega)) rfl (by kernel_rfl) (by decide) ?_ ?_ ?_
  ·exact⟨rfl,hR,rfl⟩
  ·rintro i ys hl A hi ⟨rfl,hF,rfl⟩ hA hA2;simp only[Qh,List.set,List.map_cons,List.map_nil,List.cons_append,List.nil_append];have hi2:i<m.length:=by omega
   have hi':(i:Int)<l.length:=by omega
   have hi2':(i:Int)<m.length:=by omega
   rw[Qeu hi hi2]at hF;have hrec:=hg l[i] m[i] (List.getElem_mem hi) (List.getElem_mem hi2);obtain⟨x,hx⟩:∃x,l[i]=x:=⟨_,rfl⟩;obtain⟨y,hy⟩:∃y,m[i]=y:=⟨_,rfl⟩;rw[hx,hy]at hrec hF;unfold Qn at hrec;generalize p x y=B at hrec hF;(refine sI fun K Z=>?_;(repeat rw[Qa];simp[hi,hi',hx,Qn]);refine Z ?_;clear Z K);(refine sI fun K Z=>?_;(repeat rw[Qa];simp[hi2,hi2',hy,Qn]);refine Z ?_;clear Z K);(refine sR fun K hK=>?_;(repeat rw[Qa];simp));refine cXr (hrec) ?_
   (repeat rw[Qa];simp)
   (refine hK _ _ _ ?_;clear hK K);cases B with
   | true =>
    refine pF rfl ?_;refine Qg ?_;(refine hA2 ([]) _ _ _ (LeT.refl _) (by decide) (by simp) (by simp[zM,Qh]) ?_ rfl;simp[zM]);simpa using hF
   | false =>
    refine pT rfl ?_;(refine sI fun K Z=>?_;(repeat rw[Qa];simp);refine Z ?_;clear Z K);(refine Qe ?_;(try simp only[zs]);refine Qk.ret rfl (.inl ?_);simp[zM]);simpa using hF
  ·rintro ys hl tl' ⟨rfl,hF,rfl⟩ htl;refine hK1 _ _ _ (Xo htl ?_);simp only[Qh,List.set,List.map_cons,List.map_nil,List.cons_append,List.nil_append];rw[Qqs hlen]at hF;subst hF;(refine sI fun K Z=>?_;(repeat rw[Qa];simp);refine Z ?_;clear Z K);(refine Qe ?_;(try simp only[zs]);refine Qk.ret rfl (.inl ?_);simp[zM])
 ·have hlen':¬ (l.length:Int)=m.length:=by omega
  (refine sI fun K Z=>?_;(repeat rw[Qa];simp[hlen,hlen']);refine Z ?_;clear Z K);refine pT rfl ?_;(refine sI fun K Z=>?_;(repeat rw[Qa];simp);refine Z ?_;clear Z K);(refine Qe ?_;(try simp only[zs]);refine Qk.ret rfl (.inl ?_);simp[zM]);rw[hR];exact Qet hlen
theorem Qk9(p:T ->T ->Bool)(g:FuncId)(l m:List T)(hl:l.length<=Ql)(hm:m.length<=Ql)(hg:∀x y,x∈l ->y∈m ->Sp g [Qj x,Qj y] [] (rt (.bool (p x y)))) :
  Sp 55 [.slice (l.map Qj) .any, .slice (m.map Qj) .any, .fn (.func g) [] []] [] (rt (.bool (Qa3 p l m))):=by
 obtain⟨R,hR⟩:∃R,R=Qa3 p l m:=⟨_,rfl⟩;rw[<- hR];refine eN Tryz.func55 rfl (by decide) rfl rfl ?_;(refine sI fun K Z=>?_;(repeat rw[Qa];simp);refine Z ?_;clear Z K);refine Qc fun K1 hK1=>?_
 by_cases hlen:l.length=m.length
 ·have hlen':(l.length:Int)=m.length:=by omega
  (refine sI fun K Z=>?_;(repeat rw[Qa];simp[hlen,hlen']);refine Z ?_;clear Z K);refine pF rfl ?_;refine Qg (hK1 _ _ _ ?_);clear hK1 K1;refine Qc fun K1 hK1=>?_
  (refine sI fun K Z=>?_;(repeat rw[Qa];simp);refine Z ?_;clear Z K);rw[<- hlen];refine Xm Wa Qf (ti:=3) (tk:=17) (tn:=16) (td:=18) (ts:=31) [6,7,8,9,17,18,19,20,21,22,23,24,25,26,27,28,29,30,31] [] (l.length) (fun k ys hl=>ys= []/\R=Qa3 p (l.drop k) (m.drop k)/\hl= []) rfl rfl rfl rfl rfl rfl rfl rfl rfl rfl rfl rfl (by simp) (by decide) rfl (by first | assumption | omega | (unfold Ql;omega)) rfl (by kernel_rfl) (by decide) ?_ ?_ ?_
  ·exact⟨rfl,hR,rfl⟩
  ·rintro i ys hl A hi ⟨rfl,hF,rfl⟩ hA hA2;simp only[Qh,List.set,List.map_cons,List.map_nil,List.cons_append,List.nil_append];have hi2:i<m.length:=by omega
   have hi':(i:Int)<l.length:=by omega
   have hi2':(i:Int)<m.length:=by omega
   rw[Qeu hi hi2]at hF;have hrec:=hg l[i] m[i] (List.getElem_mem hi) (List.getElem_mem hi2);obtain⟨x,hx⟩:∃x,l[i]=x:=⟨_,rfl⟩;obtain⟨y,hy⟩:∃y,m[i]=y:=⟨_,rfl⟩;rw[hx,hy]at hrec hF;have hEx:=Qb x;have hEy:=Qb y;rw[hEx,hEy]at hrec;generalize p x y=B at hrec hF;(refine sI fun K Z=>?_;(repeat rw[Qa];simp[hi,hi',hx,hEx]);refine Z ?_;clear Z K);(refine sI fun K Z=>?_;(repeat rw[Qa];simp[hi2,hi2',hy,hEy]);refine Z ?_;clear Z K);(refine sR fun K hK=>?_;(repeat rw[Qa];simp));refine cXr (hrec) ?_
   (repeat rw[Qa];simp)
   (refine hK _ _ _ ?_;clear hK K);cases B with
   | true =>
    refine pF rfl ?_;refine Qg ?_;(refine hA2 ([]) _ _ _ (LeT.refl _) (by decide) (by simp) (by simp[zM,Qh]) ?_ rfl;simp[zM]);simpa using hF
   | false =>
    refine pT rfl ?_;(refine sI fun K Z=>?_;(repeat rw[Qa];simp);refine Z ?_;clear Z K);(refine Qe ?_;(try simp only[zs]);refine Qk.ret rfl (.inl ?_);simp[zM]);simpa using hF
  ·rintro ys hl tl' ⟨rfl,hF,rfl⟩ htl;refine hK1 _ _ _ (Xo htl ?_);simp only[Qh,List.set,List.map_cons,List.map_nil,List.cons_append,List.nil_append];rw[Qqs hlen]at hF;subst hF;(refine sI fun K Z=>?_;(repeat rw[Qa];simp);refine Z ?_;clear Z K);(refine Qe ?_;(try simp only[zs]);refine Qk.ret rfl (.inl ?_);simp[zM])
 ·have hlen':¬ (l.length:Int)=m.length:=by omega
  (refine sI fun K Z=>?_;(repeat rw[Qa];simp[hlen,hlen']);refine Z ?_;clear Z K);refine pT rfl ?_;(refine sI fun K Z=>?_;(repeat rw[Qa];simp);refine Z ?_;clear Z K);(refine Qe ?_;(try simp only[zs]);refine Qk.ret rfl (.inl ?_);simp[zM]);rw[hR];exact Qet hlen
def Qfl:List LV ->List LV ->Bool
 | [], []=>true
 | a::r,b::s=>decide (Wf a=Wf b) && Qfl r s
 | _,_=>false
theorem Qem:∀l m:List LV,Qfl l m=Qa3 (fun a b=>decide (Wf a=Wf b)) l m
 | [], []=>rfl
 | a::r,b::s=>by rw[Qfl,Qem r s];rfl
 | [],_::_=>rfl
 | _::_, []=>rfl
mutual
def T.sameB:T ->T ->Bool
 | .mk k n a ls ks, .mk k' n' a' ls' ks'=>decide (k=k') && decide (n=n') && decide (a=a') && Qfl ls ls' && T.samesB ks ks'
def T.samesB:List T ->List T ->Bool
 | [], []=>true
 | a::r,b::s=>T.sameB a b && T.samesB r s
 | [],_::_=>false
 | _::_, []=>false
end
theorem Qpl:∀l m:List T,T.samesB l m=Qa3 T.sameB l m
 | [], []=>by rw[T.samesB];rfl
 | a::r,b::s=>by rw[T.samesB,Qpl r s];rfl
 | [],_::_=>by rw[T.samesB];rfl
 | _::_, []=>by rw[T.samesB];rfl
theorem Qb8(t:T):∀u,okT t ->okT u ->Sp 19 [Qj t,Qj u] [] (rt (.bool (t.sameB u))):=by
 induction t using T.ind with
 | h k n a ls ks ih =>
  rintro⟨k',n',a',ls',ks'⟩ ht hu;have hll:ls.length<=Ql:=ht.ll;have hll':ls'.length<=Ql:=hu.ll;have hkl:ks.length<=Ql:=ht.kl;have hkl':ks'.length<=Ql:=hu.kl;have hls:=ht.ls;have hls':=hu.ls;have hks:=ht.ks;have hks':=hu.ks;simp only[T.ls_mk,T.ks_mk]at hls hls' hks hks';have hL:=Qf4 (fun a b=>decide (Wf a=Wf b)) 54 ls ls' hll hll' (fun x y hx hy=>Qpm x y (hls x hx).1 (hls' y hy).1);have hT:=Qk9 T.sameB 19 ks ks' hkl hkl' (fun x y hx hy=>ih x hx y (hks x hx) (hks' y hy));have hF:(T.mk k n a ls ks).sameB (.mk k' n' a' ls' ks')=(decide (k=k') && decide (n=n') && decide (a=a') && Qfl ls ls' && T.samesB ks ks'):=by rw[T.sameB]
  rw[hF,Qpl,Qem];generalize Qa3 T.sameB ks ks'=B2 at hT⊢;generalize Qa3 (fun a b=>decide (Wf a=Wf b)) ls ls'=B1 at hL⊢;clear hF ih hll hll' hkl hkl' hls hls' hks hks' ht hu;rw[Qb,Qb];simp only[T.k_mk,T.n_mk,T.a_mk,T.ls_mk,T.ks_mk];refine eN Tryz.func19 rfl (by decide) rfl rfl ?_;(refine sI fun K Z=>?_;(repeat rw[Qa];simp);refine Z ?_;clear Z K);by_cases h1:k=k'
  ·subst h1;by_cases h2:n=n'
   ·subst h2;by_cases h3:a=a'
    ·subst h3;cases B1 with
     | true =>
      (refine sR fun K hK=>?_;(repeat rw[Qa];simp));refine cXr (hL) ?_
      (repeat rw[Qa];simp)
      refine cXr (hT) ?_
      (repeat rw[Qa];simp)
      (refine hK _ _ _ ?_;clear hK K);(refine Qe ?_;(try simp only[zs]);refine Qk.ret rfl (.inl ?_);simp[zM])
     | false =>
      (refine sR fun K hK=>?_;(repeat rw[Qa];simp));refine cXr (hL) ?_
      (repeat rw[Qa];simp)
      (refine hK _ _ _ ?_;clear hK K);(refine Qe ?_;(try simp only[zs]);refine Qk.ret rfl (.inl ?_);simp[zM])
    ·(refine sI fun K Z=>?_;(repeat rw[Qa];simp[h3]);refine Z ?_;clear Z K);(refine Qe ?_;(try simp only[zs]);refine Qk.ret rfl (.inl ?_);simp[zM]);simp[h3]
   ·(refine sI fun K Z=>?_;(repeat rw[Qa];simp[h2]);refine Z ?_;clear Z K);(refine Qe ?_;(try simp only[zs]);refine Qk.ret rfl (.inl ?_);simp[zM]);simp[h2]
  ·(refine sI fun K Z=>?_;(repeat rw[Qa];simp[h1]);refine Z ?_;clear Z K);(refine Qe ?_;(try simp only[zs]);refine Qk.ret rfl (.inl ?_);simp[zM]);simp[h1]
end Go.Proofs.YtgloldepdhgfaaaGreatDoor
namespace Go.Proofs.YtgloldepdhgfaaaGreatDoor
set_option linter.unusedSimpArgs false
set_option linter.unusedVariables false
open Go.RowKit
mutual
def T.tameB:T ->Bool
 | .mk k n _ _ ks=>!(decide (k=1) && (decide (n<0) || decide (1000<n))) && T.tamesB ks
def T.tamesB:List T ->Bool
 | []=>true
 | t::r=>T.tameB t && T.tamesB r
end
theorem Qd2{f:Turn}{k n a:Int}{ls:List LV}{ks:List T}{d:Int}{x:Int×List LV}(h:f d (.mk k n a ls ks)= .inr x):T.walk f (.mk k n a ls ks) d= .mk k x.1 a x.2 (T.walks f k ks 0 d):=by rw[T.walk,h]
theorem Qjw{f:Turn}{k n a:Int}{ls:List LV}{ks:List T}{d:Int}{u:T}(h:f d (.mk k n a ls ks)= .inl u):T.walk f (.mk k n a ls ks) d=u:=by rw[T.walk,h]
theorem Qfp(m fr k n a:Int)(ls:List LV)(ks:List T)(d:Int):T.walk (Qal m fr) (.mk k n a ls ks) d= .mk k (Qbs m fr d k n) a ls (T.walks (Qal m fr) k ks 0 d):=by rw[T.walk];rfl
theorem Wb4.le{d:Int}{t:T}(h:Wb4 d t):0<=d/\d<=1099511627776:=by unfold Wb4 DM at h;omega
mutual
theorem T.lift_zero_aux(fr:Int):∀(t:T) (d:Int),okT t ->T.walk (Qal 0 fr) t d=t
 | .mk k n a ls ks,d,h=>by
  rw[Qfp,T.lifts_zero_aux fr k ks 0 d h.ks];have hn:=h.n;simp only[T.n_mk]at hn;unfold I64 at hn;have:Qbs 0 fr d k n=n:=by
   unfold Qbs;split
   ·rw[Int.add_zero,Qbu hn.1 hn.2]
   ·rfl
  rw[this]
theorem T.lifts_zero_aux(fr k:Int):∀(ks:List T) (i:Nat) (d:Int),(∀t,t∈ks ->okT t) ->T.walks (Qal 0 fr) k ks i d=ks
 | [],_,_,_=>by rw[T.walks]
 | t::r,i,d,h=>by
  rw[T.walks,T.lift_zero_aux fr t _ (h t List.mem_cons_self),T.lifts_zero_aux fr k r (i+1) d (fun t ht=>h t (List.mem_cons_of_mem _ ht))]
end
theorem Qku{t:T}(h:okT t)(fr:Int):t.lift 0 fr 0=t:=T.lift_zero_aux fr t 0 h
mutual
theorem sz_lift(n fr:Int):∀(t:T) (d:Int),(T.walk (Qal n fr) t d).sz=t.sz
 | .mk k m a ls ks,d=>by rw[Qfp,T.sz,T.sz,Qtv n fr k ks 0 d 1]
theorem Qtv(n fr k:Int):∀(ks:List T) (i:Nat) (d s:Int),T.szs (T.walks (Qal n fr) k ks i d) s=T.szs ks s
 | [],_,_,_=>by rw[T.walks]
 | t::r,i,d,s=>by rw[T.walks,T.szs,T.szs,sz_lift n fr t,Qtv n fr k r]
end
mutual
theorem Wak(lo:Int):∀(t:T) (d:Int),t.freeB lo lo d=false
 | .mk k n a ls ks,d=>by
  rw[T.freeB,Qmy lo k ks 0 d];simp[hitB]
theorem Qmy(lo k:Int):∀(ks:List T) (i:Nat) (d:Int),T.freesB lo lo k ks i d=false
 | [],_,_=>by rw[T.freesB]
 | t::r,i,d=>by rw[T.freesB,Wak lo t,Qmy lo k r];rfl
end
theorem Qg4:∀l:List LV,Qfl l l=true
 | []=>rfl
 | a::r=>by rw[Qfl,Qg4 r];simp
mutual
theorem T.same_refl:∀t:T,T.sameB t t=true
 | .mk k n a ls ks=>by rw[T.sameB,Qg4,T.sames_refl ks];simp
theorem T.sames_refl:∀ks:List T,T.samesB ks ks=true
 | []=>by rw[T.samesB]
 | t::r=>by rw[T.samesB,T.same_refl t,T.sames_refl r];rfl
end
theorem T.same_mk{k n a k' n' a':Int}{ls ls':List LV}{ks ks':List T}:T.sameB (.mk k n a ls ks) (.mk k' n' a' ls' ks')=true↔k=k'/\n=n'/\a=a'/\Qfl ls ls'=true/\T.samesB ks ks'=true:=by
 rw[T.sameB];simp[and_assoc]
theorem Qiv{bys:List T}{d:Int}{t:T}(h1:t.k=1/\d<=t.n)(h:(t.n - d).toNat<bys.length):Qaf bys d t= .inl ((bys[bys.length - 1 - (t.n - d).toNat]'(by omega)).lift d 0 0):=by
 unfold Qaf;rw[if_pos h1,dif_pos h]
theorem Qfv{bys:List T}{d:Int}{t:T}(h1:t.k=1/\d<=t.n)(h:¬ (t.n - d).toNat<bys.length):Qaf bys d t= .inr (IntKind.i64.wrap (t.n - bys.length),t.ls):=by
 unfold Qaf;rw[if_pos h1,dif_neg h]
theorem Qe8{bys:List T}{d:Int}{t:T}(h1:¬ (t.k=1/\d<=t.n)):Qaf bys d t= .inr (t.n,t.ls):=by
 unfold Qaf;rw[if_neg h1]
mutual
theorem sz_same:∀(t u:T),T.sameB t u=true ->t.sz=u.sz
 | .mk k n a ls ks, .mk k' n' a' ls' ks',h=>by
  obtain⟨_,_,_,_,h5⟩:=T.same_mk.1 h;rw[T.sz,T.sz,Qtu ks ks' 1 h5]
theorem Qtu:∀(ks ks':List T) (n:Int),T.samesB ks ks'=true ->T.szs ks n=T.szs ks' n
 | [], [],n,_=>rfl
 | [],_::_,_,h=>by simp[T.samesB]at h
 | _::_, [],_,h=>by simp[T.samesB]at h
 | t::r,u::s,n,h=>by
  rw[T.samesB,Bool.and_eq_true]at h;rw[T.szs,T.szs,sz_same t u h.1,Qtu r s _ h.2]
end
structure C where
 lv:Int
 ty:T
 has:Bool
 bo:T
def Xa:T:= .mk 0 0 0 [] []
def T.kid(t:T)(i:Nat):T:=t.ks.getD i Xa
def Qg2(ks:List T)(x:T)(i many:Nat):List T:=(List.range many).map fun j=>if j=i then x else ks.getD j Xa
def T.withT(t x:T)(i many:Nat):T:= .mk t.k t.n t.a t.ls (Qg2 t.ks x i many)
def ofT(k:Int)(ks:List T):T:= .mk k 0 0 [] ks
def spot(t:T):Option (Nat×Nat) :=
 if t.k=6 then some (0,2)else if t.k=14\/t.k=15 then some (0,1)else if t.k=18 then some (4,5)else if t.k=21 then some (5,6)
 else if t.k=24/\0<=t.a/\(t.ks.length:Int) - 2=t.a then some (t.a.toNat+1,t.a.toNat+2)else none
mutual
def T.nsz:T ->Nat
 | .mk _ _ _ _ ks=>1+T.nszs ks
def T.nszs:List T ->Nat
 | []=>0
 | t::r=>T.nsz t+T.nszs r
end
mutual
def T.sd(many:Nat):T ->Int ->Nat
 | .mk k n _ _ ks,b=>if k=1/\n=b then many else 1+T.sds many k ks 0 b
def T.sds(many:Nat)(k:Int):List T ->Nat ->Int ->Nat
 | [],_,_=>0
 | t::r,i,b=>T.sd many t (Xl b k i)+T.sds many k r (i+1) b
end
def Qhk(l:List C)(num:Int)(lv:List LV):Option T :=
 if h:0<=num/\num.toNat<l.length then if(l[num.toNat]'h.2).lv=lv.length/\(l[num.toNat]'h.2).has=true then some ((l[num.toNat]'h.2).bo.levels lv 0)else none else none
def Qpa(t s:T):T :=
 let a:=s.kid 0
 let f:=s.kid 1
 let rest:=ofT 18 [(t.kid 0).lift 1 0 0,(t.kid 1).lift 1 1 0,(t.kid 2).lift 1 0 0,(t.kid 3).lift 1 0 0,ofT 6 [f.lift 1 0 0,ofT 1 []]]
 ofT 6 [ofT 6 [ofT 6 [t.kid 3,a],f],ofT 5 [(t.kid 1).put [a] 0,rest]]
def Qvn(t s:T):Nat :=
 let a:=s.kid 0
 let f:=s.kid 1
 7+(a.nsz+f.nsz+f.nsz+(t.kid 3).nsz+(t.kid 3).nsz+(t.kid 0).nsz+(t.kid 1).nsz+(t.kid 2).nsz)+(t.kid 1).sd a.nsz 0
def Qbn(l:List C)(t x:T):Option (T×Nat) :=
 if t.k=6 then if x.k=5 then some ((x.kid 1).put [t.kid 1] 0,(x.kid 1).sd (t.kid 1).nsz 0)else none
 else if t.k=14\/t.k=15 then if x.k=13 then some (x.kid (if t.k=15 then 1 else 0),(x.kid (if t.k=15 then 1 else 0)).nsz)else none
 else if t.k=7 then some ((t.kid 2).put [t.kid 1] 0,(t.kid 2).sd (t.kid 1).nsz 0)
 else if t.k=3 then(Qhk l t.n t.ls).map fun b=>(b,b.nsz)
 else if t.k=18 then if x.k=17 then some (Qpa t x,Qvn t x)else none
 else if t.k=21 then if x.k=20 then some (t.kid 3,(t.kid 3).nsz)else none
 else if t.k=24/\(spot t).isSome then if x.k=23/\0<=x.n/\x.n<t.a then some (t.kid (x.n.toNat+1),(t.kid (x.n.toNat+1)).nsz)else none
 else none
def T.trunc(t:T):T :=
 match spot t with
 | none=>t
 | some (i,many)=>if h:i<t.ks.length then t.withT (T.trunc t.ks[i]) i many else t.withT Xa i many
termination_by t.deep
decreasing_by
 cases t with
 | mk k n a ls ks=>exact T.deep_kid (List.getElem_mem h)
def hstep(l:List C)(t:T):Option (T×Nat) :=
 match spot t with
 | none=>Qbn l t Xa
 | some (i,many)=>if h:i<t.ks.length then(match hstep l t.ks[i]with
   | some u=>some (t.withT u.1 i many,u.2)
   | none=>Qbn l (t.withT (T.trunc t.ks[i]) i many) (T.trunc t.ks[i]))else Qbn l (t.withT Xa i many) Xa
termination_by t.deep
decreasing_by
 cases t with
 | mk k n a ls ks=>exact T.deep_kid (List.getElem_mem h)
inductive Hd (l : List C) : T -> Nat -> T -> Prop where
 | stop {t:T} (h:hstep l t=none):Hd l t 0 t.trunc
 | step {t u v:T} {c n:Nat} (h:hstep l t=some (u,c)) (r:Hd l u n v):Hd l t (c+n) v
inductive Gone (l : List C) : T -> Int -> Prop where
 | now {t u:T} {c:Nat} {f:Int} (h:hstep l t=some (u,c)) (hf:f<c):Gone l t f
 | later {t u:T} {c:Nat} {f:Int} (h:hstep l t=some (u,c)) (hf:(c:Int)<=f) (r:Gone l u (f - c)):Gone l t f
theorem Hd.det{l:List C}{t v w:T}{n m:Nat}(h:Hd l t n v):Hd l t m w ->n=m/\v=w:=by
 induction h generalizing m w with
 | stop h=>intro h2;cases h2 with
  | stop _=>exact⟨rfl,rfl⟩
  | step h3 _=>rw[h]at h3;cases h3
 | step h r ih=>intro h2;cases h2 with
  | stop h3=>rw[h]at h3;cases h3
  | step h3 r3 =>
   rw[h]at h3;cases h3;obtain⟨rfl,rfl⟩:=ih r3;exact⟨rfl,rfl⟩
theorem Hd.gone{l:List C}{t v:T}{n:Nat}(h:Hd l t n v):∀{f:Int},f<(n:Int) ->0<=f ->Gone l t f:=by
 induction h with
 | stop h=>intro f hf h0;omega
 | @step t u v c n h r ih =>
  intro f hf h0;by_cases hc:(c:Int)<=f
  ·exact .later h hc (ih (by omega) (by omega))
  ·exact .now h (by omega)
theorem Qee(t:T):spot t=none\/∃i many,spot t=some (i,many):=by
 cases h:spot t with
 | none=>exact .inl rfl
 | some p=>exact .inr ⟨p.1,p.2,rfl⟩
theorem Qcz(ks:List T)(x:T)(i many:Nat):(Qg2 ks x i many).length=many:=by simp[Qg2]
theorem Qxx{ks:List T}{x:T}{i many j:Nat}(h:j<many):(Qg2 ks x i many).getD j Xa=if j=i then x else ks.getD j Xa:=by
 rw[List.getD_eq_getElem?_getD,List.getElem?_eq_getElem (by rw[Qcz];exact h)];simp[Qg2]
theorem Qro{t:T}{i many:Nat}(h:spot t=some (i,many)):i<many:=by
 unfold spot at h
 repeat' split at h
 all_goals first | (cases h;omega) | cases h
theorem Qek{t x:T}{i many:Nat}(h:spot t=some (i,many)):spot (t.withT x i many)=some (i,many):=by
 unfold spot at h⊢;unfold T.withT;simp only[T.k_mk,T.a_mk,T.ks_mk,Qcz];by_cases h1:t.k=6
 ·rw[if_pos h1]at h⊢;exact h
 rw[if_neg h1]at h⊢;by_cases h1:t.k=14\/t.k=15
 ·rw[if_pos h1]at h⊢;exact h
 rw[if_neg h1]at h⊢;by_cases h1:t.k=18
 ·rw[if_pos h1]at h⊢;exact h
 rw[if_neg h1]at h⊢;by_cases h1:t.k=21
 ·rw[if_pos h1]at h⊢;exact h
 rw[if_neg h1]at h⊢;by_cases h1:t.k=24/\0<=t.a/\(t.ks.length:Int) - 2=t.a
 ·rw[if_pos h1]at h;obtain⟨h1,h2,h3⟩:=h1;cases h;rw[if_pos ⟨h1,h2,by omega⟩]
 ·rw[if_neg h1]at h;cases h
theorem Qdn(t x y:T)(i many:Nat):(t.withT x i many).withT y i many=t.withT y i many:=by
 unfold T.withT;simp only[T.k_mk,T.n_mk,T.a_mk,T.ls_mk,T.ks_mk]
 congr 1
 unfold Qg2;apply List.map_congr_left;intro j hj;have hj':j<many:=by simpa using hj
 split
 ·rfl
 ·rename_i hne;have:=Qxx (ks:=t.ks) (x:=x) (i:=i) hj';unfold Qg2 at this;rw[this,if_neg hne]
theorem Qnc{t x:T}{i many:Nat}(h:i<many)(h2:i<(t.withT x i many).ks.length):(t.withT x i many).ks[i]=x:=by
 unfold T.withT at h2⊢;simp[Qg2]
theorem Qbc{t:T}(h:spot t=none):t.trunc=t:=by rw[T.trunc,h]
theorem Qe4{t:T}{i many:Nat}(h:spot t=some (i,many))(hi:i<t.ks.length):t.trunc=t.withT (T.trunc t.ks[i]) i many:=by rw[T.trunc,h];simp only;rw[dif_pos hi]
theorem Qfs{t:T}{i many:Nat}(h:spot t=some (i,many))(hi:¬ i<t.ks.length):t.trunc=t.withT Xa i many:=by rw[T.trunc,h];simp only;rw[dif_neg hi]
theorem Qcr{l:List C}{t:T}(h:spot t=none):hstep l t=Qbn l t Xa:=by rw[hstep,h]
theorem Qgn{l:List C}{t:T}{i many:Nat}(h:spot t=some (i,many))(hi:i<t.ks.length){u:T}{c:Nat}(hu:hstep l t.ks[i]=some (u,c)):hstep l t=some (t.withT u i many,c):=by rw[hstep,h];simp only;rw[dif_pos hi,hu]
theorem Qd7{l:List C}{t:T}{i many:Nat}(h:spot t=some (i,many))(hi:i<t.ks.length)(hu:hstep l t.ks[i]=none):hstep l t=Qbn l (t.withT (T.trunc t.ks[i]) i many) (T.trunc t.ks[i]):=by rw[hstep,h];simp only;rw[dif_pos hi,hu]
theorem Qes{l:List C}{t:T}{i many:Nat}(h:spot t=some (i,many))(hi:¬ i<t.ks.length):hstep l t=Qbn l (t.withT Xa i many) Xa:=by rw[hstep,h];simp only;rw[dif_neg hi]
theorem Qfo:spot Xa=none:=rfl
theorem Qo2(l:List C):hstep l Xa=none:=by rw[Qcr Qfo];rfl
theorem Qj8{l:List C}(t:T):hstep l t=none ->hstep l t.trunc=none/\t.trunc.trunc=t.trunc:=by
 induction t using T.ind with
 | h k n a ls ks ih =>
  intro h;rcases Qee (.mk k n a ls ks)with hs | ⟨i,many,hs⟩
  ·rw[Qbc hs];exact⟨h,Qbc hs⟩
  ·have hlt:=Qro hs;by_cases hi:i<ks.length
   ·have hi':i<(T.mk k n a ls ks).ks.length:=hi;cases hu:hstep l ks[i]with
    | some u=>rw[Qgn hs hi' (u:=u.1) (c:=u.2) hu]at h;cases h
    | none =>
     obtain⟨h1,h2⟩:=ih _ (List.getElem_mem hi) hu;rw[Qd7 hs hi' hu]at h;rw[Qe4 hs hi'];have hs2:=Qek (x:=T.trunc (T.mk k n a ls ks).ks[i]) hs;have hi2:i<((T.mk k n a ls ks).withT (T.trunc (T.mk k n a ls ks).ks[i]) i many).ks.length:=by unfold T.withT;rw[T.ks_mk,Qcz];exact hlt
     have hg:=Qnc hlt hi2;constructor
     ·rw[Qd7 hs2 hi2 (by rw[hg];exact h1),hg,Qdn,show T.trunc (T.trunc (T.mk k n a ls ks).ks[i])=T.trunc (T.mk k n a ls ks).ks[i] from h2];exact h
     ·rw[Qe4 hs2 hi2,hg,Qdn,show T.trunc (T.trunc (T.mk k n a ls ks).ks[i])=T.trunc (T.mk k n a ls ks).ks[i] from h2]
   ·have hi':¬ i<(T.mk k n a ls ks).ks.length:=hi;rw[Qes hs hi']at h;rw[Qfs hs hi'];have hs2:=Qek (x:=Xa) hs;have hi2:i<((T.mk k n a ls ks).withT Xa i many).ks.length:=by unfold T.withT;rw[T.ks_mk,Qcz];exact hlt
    have hg:=Qnc hlt hi2;constructor
    ·rw[Qd7 hs2 hi2 (by rw[hg];exact Qo2 l),hg,Qbc Qfo,Qdn];exact h
    ·rw[Qe4 hs2 hi2,hg,Qbc Qfo,Qdn]
theorem T.nsz_pos(t:T):1<=t.nsz:=by cases t;rw[T.nsz];omega
theorem T.nszs_mem{t:T}{ks:List T}(h:t∈ks):t.nsz<=T.nszs ks:=by
 induction ks with
 | nil=>cases h
 | cons x r ih =>
  rw[T.nszs];cases h with
  | head=>omega
  | tail _ hm=>have:=ih hm;omega
theorem T.deep_nsz(t:T):t.deep<=t.nsz:=by
 induction t using T.ind with
 | h k n a ls ks ih =>
  rw[T.deep,T.nsz];have:∀l:List T,(∀x,x∈l ->x.deep<=x.nsz) ->T.deeps l<=T.nszs l:=by
   intro l
   induction l with
   | nil=>intro _;simp[T.deeps,T.nszs]
   | cons x r ihl =>
    intro hl;have h1:=hl x List.mem_cons_self;have h2:=ihl (fun y hy=>hl y (List.mem_cons_of_mem _ hy));rw[T.deeps,T.nszs];omega
  have:=this ks ih;omega
mutual
theorem T.sd_pos(many:Nat)(hm:1<=many):∀(t:T) (b:Int),1<=t.sd many b
 | .mk k n a ls ks,b=>by
  rw[T.sd];split <;> omega
end
mutual
theorem T.sd_le(many:Nat)(hm:1<=many):∀(t:T) (b:Int),t.sd many b<=t.nsz * many
 | .mk k n a ls ks,b=>by
  rw[T.sd,T.nsz];split
  ·exact Nat.le_mul_of_pos_left _ (by omega)
  ·have:=T.sds_le many hm k ks 0 b;rw[Nat.add_mul];omega
theorem T.sds_le(many:Nat)(hm:1<=many)(k:Int):∀(ks:List T) (i:Nat) (b:Int),T.sds many k ks i b<=T.nszs ks * many
 | [],_,_=>by rw[T.sds];omega
 | t::r,i,b=>by
  have h1:=T.sd_le many hm t (Xl b k i);have h2:=T.sds_le many hm k r (i+1) b;rw[T.sds,T.nszs,Nat.add_mul];omega
end
mutual
theorem Qn7(n fr:Int):∀(t:T) (d:Int),(T.walk (Qal n fr) t d).nsz=t.nsz
 | .mk k m a ls ks,d=>by rw[Qfp,T.nsz,T.nsz,Qpy n fr k ks 0 d]
theorem Qpy(n fr k:Int):∀(ks:List T) (i:Nat) (d:Int),T.nszs (T.walks (Qal n fr) k ks i d)=T.nszs ks
 | [],_,_=>by rw[T.walks]
 | t::r,i,d=>by rw[T.walks,T.nszs,T.nszs,Qn7 n fr t,Qpy n fr k r]
end
mutual
theorem Qiy(bys:List LV):∀(t:T) (d:Int),(T.walk (Qdv bys) t d).nsz=t.nsz
 | .mk k m a ls ks,d=>by rw[Qd2 (f:=Qdv bys) (x:=(m,ls.map fun l=>Wf (Qyu l bys))) rfl,T.nsz,T.nsz,Qko bys k ks 0 d]
theorem Qko(bys:List LV)(k:Int):∀(ks:List T) (i:Nat) (d:Int),T.nszs (T.walks (Qdv bys) k ks i d)=T.nszs ks
 | [],_,_=>by rw[T.walks]
 | t::r,i,d=>by rw[T.walks,T.nszs,T.nszs,Qiy bys t,Qko bys k r]
end
theorem Qsi(x:T)(t:T):∀d,(T.walk (Qaf [x]) t d).nsz=t.sd x.nsz d:=by
 induction t using T.ind with
 | h k m a ls ks ih =>
  intro d;have hks:∀(l:List T),(∀y,y∈l ->y∈ks) ->∀i,T.nszs (T.walks (Qaf [x]) k l i d)=T.sds x.nsz k l i d:=by
   intro l
   induction l with
   | nil=>intro _ i;simp[T.walks,T.nszs,T.sds]
   | cons y r ihl =>
    intro hl i;rw[T.walks,T.nszs,T.sds,ih y (hl y List.mem_cons_self),ihl (fun z hz=>hl z (List.mem_cons_of_mem _ hz))]
  have hks0:=hks ks (fun _ h=>h) 0;rw[T.sd];by_cases hh:k=1/\d<=m
  ·by_cases hl:(m - d).toNat< [x].length
   ·rw[Qjw (Qiv (t:= .mk k m a ls ks) hh hl),if_pos ⟨hh.1,by simp only[List.length_cons,List.length_nil]at hl;omega⟩];unfold T.lift;rw[Qn7];simp
   ·rw[Qd2 (Qfv (t:= .mk k m a ls ks) hh hl),T.nsz,hks0,if_neg];rintro⟨-,h2⟩;apply hl;simp only[List.length_cons,List.length_nil];omega
  ·rw[Qd2 (Qe8 (t:= .mk k m a ls ks) hh),T.nsz];rw[hks0,if_neg];rintro⟨h1,h2⟩;exact hh ⟨h1,by omega⟩
def Qve(f:Turn):Prop:=∀d t,okT t ->(∀u,f d t= .inl u ->okT u)/\(∀x,f d t= .inr x ->I64 x.1/\x.2.length<=Ql/\∀l,l∈x.2 ->okL l)
theorem Qri{f:Turn}(hf:Qve f)(t:T):∀d,okT t ->okT (T.walk f t d):=by
 induction t using T.ind with
 | h k m a ls ks ih =>
  intro d ht;obtain⟨h1,h2⟩:=hf d _ ht;cases hturn:f d (.mk k m a ls ks)with
  | inl u=>rw[Qjw hturn];exact h1 u hturn
  | inr x =>
   rw[Qd2 hturn];obtain⟨h3,h4,h5⟩:=h2 x hturn;refine .mk ht.k h3 ht.a h4 h5 (by rw[T.walks_length];exact ht.kl) ?_;have hks:=ht.ks;simp only[T.ks_mk]at hks;have:∀(l:List T),(∀x,x∈l ->x∈ks) ->∀(i:Nat) t,t∈T.walks f k l i d ->okT t:=by
    intro l
    induction l with
    | nil=>intro _ i t h;rw[T.walks]at h;cases h
    | cons x r ihl =>
     intro hl i t h;rw[T.walks]at h;cases h with
     | head=>exact ih x (hl x List.mem_cons_self) _ (hks x (hl x List.mem_cons_self))
     | tail _ hm=>exact ihl (fun y hy=>hl y (List.mem_cons_of_mem _ hy)) (i+1) t hm
   exact this ks (fun _ h=>h) 0
theorem Qp4(n fr:Int):Qve (Qal n fr):=fun d t ht=>⟨(fun u h=>by cases h),fun x h=>by
 cases h
 exact⟨Qmu ht.n,ht.ll,ht.ls⟩⟩
theorem Qbe{t:T}(n fr d:Int)(h:okT t):okT (t.lift n fr d):=Qri (Qp4 n fr) t d h
theorem Qr2{bys:List T}(hb:∀b,b∈bys ->okT b):Qve (Qaf bys):=fun d t ht=>by
 by_cases hh:t.k=1/\d<=t.n
 ·by_cases hl:(t.n - d).toNat<bys.length
  ·rw[Qiv hh hl];exact⟨(fun u h=>by cases h;exact Qbe _ _ _ (hb _ (List.getElem_mem _))),(fun x h=>by cases h)⟩
  ·rw[Qfv hh hl];exact⟨(fun u h=>by cases h),(fun x h=>by cases h;exact⟨Qoj _,ht.ll,ht.ls⟩)⟩
 ·rw[Qe8 hh];exact⟨(fun u h=>by cases h),(fun x h=>by cases h;exact⟨ht.n,ht.ll,ht.ls⟩)⟩
theorem Qpo{t:T}{bys:List T}(hb:∀b,b∈bys ->okT b)(d:Int)(h:okT t):okT (t.put bys d):=Qri (Qr2 hb) t d h
theorem Qn8(l:LV):okL (Wf l):=⟨Qcp l,fun p hp=>by
 have:=Qcu ((Qaw l).ok p hp);unfold I64
 omega⟩
theorem Qsm(bys:List LV):Qve (Qdv bys):=fun d t ht=>⟨(fun u h=>by cases h),fun x h=>by
 cases h;refine⟨ht.n,by rw[List.length_map];exact ht.ll,fun l hl=>?_⟩;rw[List.mem_map]at hl;obtain⟨y,_,rfl⟩:=hl
 exact Qn8 _⟩
theorem Qp5{t:T}(bys:List LV)(d:Int)(h:okT t):okT (t.levels bys d):=Qri (Qsm bys) t d h
def Qjs(k:Int)(len:Nat):Nat:=if k=6 then 2 - len else if k=14\/k=15 then 1 - len else if k=18 then 5 - len else if k=21 then 6 - len else 0
mutual
def T.pot:T ->Nat
 | .mk k _ _ _ ks=>1+Qjs k ks.length+T.pots ks
def T.pots:List T ->Nat
 | []=>0
 | t::r=>T.pot t+T.pots r
end
theorem Qgl(k:Int)(len:Nat):Qjs k len<=6:=by unfold Qjs;(repeat' split) <;> omega
mutual
theorem Qef:∀t:T,t.nsz<=t.pot
 | .mk k n a ls ks=>by rw[T.nsz,T.pot];have:=Qpx ks;omega
theorem Qpx:∀ks:List T,T.nszs ks<=T.pots ks
 | []=>by rw[T.nszs];omega
 | t::r=>by rw[T.nszs,T.pots];have:=Qef t;have:=Qpx r;omega
end
mutual
theorem Qfy:∀t:T,t.pot<=7 * t.nsz
 | .mk k n a ls ks=>by rw[T.nsz,T.pot];have:=Qyx ks;have:=Qgl k ks.length;omega
theorem Qyx:∀ks:List T,T.pots ks<=7 * T.nszs ks
 | []=>by rw[T.pots];omega
 | t::r=>by rw[T.nszs,T.pots];have:=Qfy t;have:=Qyx r;omega
end
theorem Qt6{t:T}{ks:List T}(h:t∈ks):t.pot<=T.pots ks:=by
 induction ks with
 | nil=>cases h
 | cons x r ih =>
  rw[T.pots];cases h with
  | head=>omega
  | tail _ hm=>have:=ih hm;omega
theorem Qr4(t:T):1<=t.pot:=by have:=Qef t;have:=t.nsz_pos;omega
theorem Qdg:Xa.pot=1:=rfl
theorem Qbt(t:T)(i:Nat):(t.kid i).pot<=t.pot:=by
 unfold T.kid;rw[List.getD_eq_getElem?_getD];by_cases h:i<t.ks.length
 ·rw[List.getElem?_eq_getElem h];have:=Qt6 (List.getElem_mem h);cases t with
  | mk k n a ls ks=>rw[T.pot];simp only[T.ks_mk,Option.getD_some]at this⊢;omega
 ·rw[List.getElem?_eq_none (by omega)];have:=Qr4 t;exact this
theorem Qz3(t:T)(i:Nat):(t.kid i).nsz<=t.nsz:=by
 unfold T.kid;rw[List.getD_eq_getElem?_getD];by_cases h:i<t.ks.length
 ·rw[List.getElem?_eq_getElem h];have:=T.nszs_mem (List.getElem_mem h);cases t with
  | mk k n a ls ks=>rw[T.nsz];simp only[T.ks_mk,Option.getD_some]at this⊢;omega
 ·rw[List.getElem?_eq_none (by omega)];have:=t.nsz_pos;exact this
theorem Qds:∀a b:List T,T.pots (a++b)=T.pots a+T.pots b
 | [],b=>by simp[T.pots]
 | t::r,b=>by rw[List.cons_append,T.pots,T.pots,Qds r b];omega
theorem Qt5(ks:List T):∀m:Nat,T.pots ((List.range m).map fun j=>ks.getD j Xa)<=T.pots (ks.take m)+(m - ks.length)
 | 0=>by simp[T.pots]
 | m+1=>by
  rw[List.range_succ,List.map_append,Qds];have ih:=Qt5 ks m;simp only[List.map_cons,List.map_nil,T.pots];by_cases h:m<ks.length
  ·rw[List.take_succ_eq_append_getElem h,Qds];simp only[T.pots];rw[List.getD_eq_getElem?_getD,List.getElem?_eq_getElem h];simp only[Option.getD_some];omega
  ·rw[List.take_of_length_le (by omega)]at ih⊢;rw[List.getD_eq_getElem?_getD,List.getElem?_eq_none (by omega)];simp only[Option.getD_none,Qdg];omega
theorem Qpp:∀(ks:List T) (m:Nat),T.pots (ks.take m)<=T.pots ks
 | [],m=>by simp
 | t::r,0=>by simp[T.pots]
 | t::r,m+1=>by rw[List.take_succ_cons,T.pots,T.pots];have:=Qpp r m;omega
theorem Qmn(ks:List T)(x:T)(i:Nat):∀m:Nat,T.pots (Qg2 ks x i m)+(if i<m then(ks.getD i Xa).pot else 0)=T.pots ((List.range m).map fun j=>ks.getD j Xa)+(if i<m then x.pot else 0)
 | 0=>by simp[Qg2,T.pots]
 | m+1=>by
  have ih:=Qmn ks x i m;unfold Qg2 at ih⊢;rw[List.range_succ,List.map_append,List.map_append,Qds,Qds];simp only[List.map_cons,List.map_nil,T.pots];by_cases h1:m=i
  ·subst h1;rw[if_neg (by omega)]at ih;rw[if_neg (by omega)]at ih;simp only[if_true,if_pos (Nat.lt_succ_self m)];omega
  ·simp only[h1,if_false];by_cases h2:i<m
   ·rw[if_pos h2,if_pos h2]at ih;rw[if_pos (by omega),if_pos (by omega)];omega
   ·rw[if_neg h2,if_neg h2]at ih;rw[if_neg (by omega),if_neg (by omega)];omega
theorem Qya{t:T}{i many:Nat}(h:spot t=some (i,many)):Qjs t.k many=0/\many - t.ks.length<=Qjs t.k t.ks.length:=by
 unfold spot at h;unfold Qjs;by_cases h1:t.k=6
 ·rw[if_pos h1]at h⊢;rw[if_pos h1];cases h;omega
 rw[if_neg h1]at h⊢;rw[if_neg h1];by_cases h1:t.k=14\/t.k=15
 ·rw[if_pos h1]at h⊢;rw[if_pos h1];cases h;omega
 rw[if_neg h1]at h⊢;rw[if_neg h1];by_cases h1:t.k=18
 ·rw[if_pos h1]at h⊢;rw[if_pos h1];cases h;omega
 rw[if_neg h1]at h⊢;rw[if_neg h1];by_cases h1:t.k=21
 ·rw[if_pos h1]at h⊢;rw[if_pos h1];cases h;omega
 rw[if_neg h1]at h⊢;rw[if_neg h1];by_cases h1:t.k=24/\0<=t.a/\(t.ks.length:Int) - 2=t.a
 ·rw[if_pos h1]at h;cases h;omega
 ·rw[if_neg h1]at h;cases h
theorem Qjv{t x:T}{i many:Nat}(h:spot t=some (i,many)):(t.withT x i many).pot+(t.kid i).pot<=t.pot+x.pot:=by
 have hlt:=Qro h;have hlack:=Qya h;have h1:=Qmn t.ks x i many;have h2:=Qt5 t.ks many;have h3:=Qpp t.ks many;rw[if_pos hlt,if_pos hlt]at h1;cases t with
 | mk k n a ls ks =>
  unfold T.withT T.kid;rw[T.pot,T.pot];simp only[T.k_mk,T.ks_mk,Qcz]at hlack h1 h2 h3⊢;omega
theorem Qo9(t:T):t.trunc.pot<=t.pot:=by
 induction t using T.ind with
 | h k n a ls ks ih =>
  rcases Qee (.mk k n a ls ks)with hs | ⟨i,many,hs⟩
  ·rw[Qbc hs];exact Nat.le_refl _
  ·by_cases hi:i<(T.mk k n a ls ks).ks.length
   ·rw[Qe4 hs hi];have h1:=Qjv (x:=T.trunc (T.mk k n a ls ks).ks[i]) hs;have h2:=ih _ (List.getElem_mem hi);have h3:(T.mk k n a ls ks).kid i=(T.mk k n a ls ks).ks[i]:=by unfold T.kid;rw[List.getD_eq_getElem?_getD,List.getElem?_eq_getElem hi];rfl
    rw[h3]at h1;simp only[T.ks_mk]at h1 h2⊢;omega
   ·rw[Qfs hs hi];have h1:=Qjv (x:=Xa) hs;have h2:=Qr4 ((T.mk k n a ls ks).kid i);rw[Qdg]at h1;omega
theorem nsz_of2(k:Int)(x y:T):(ofT k [x,y]).nsz=1+x.nsz+y.nsz:=by unfold ofT;rw[T.nsz,T.nszs,T.nszs,T.nszs];omega
theorem Qza(t:T)(n fr:Int):(t.lift n fr 0).nsz=t.nsz:=Qn7 n fr t 0
theorem Wcm(t s:T):(Qpa t s).nsz=Qvn t s:=by
 unfold Qpa Qvn;simp only[nsz_of2];unfold ofT;simp only[T.nsz,T.nszs,Qza];have:((t.kid 1).put [s.kid 0] 0).nsz=(t.kid 1).sd (s.kid 0).nsz 0:=Qsi _ _ _;rw[this];omega
theorem Qsa{l:List C}{t x u:T}{c:Nat}(h:Qbn l t x=some (u,c)):u.nsz=c:=by
 unfold Qbn at h
 repeat' split at h
 all_goals first | (cases h;done) | skip
 all_goals first
  | (cases h;exact Qsi _ _ _)
  | (cases h;exact Wcm _ _)
  | (cases h;rfl)
  | (rw[Option.map_eq_some_iff]at h;obtain⟨b, -,hb⟩:=h;cases hb;rfl)
theorem Qy3{l:List C}{t x u:T}{c:Nat}(h:Qbn l t x=some (u,c)):1<=c:=by rw[<- Qsa h];exact u.nsz_pos
theorem Qk4{l:List C}{t u:T}{c:Nat}(h:hstep l t=some (u,c)) :
  (∃i many,spot t=some (i,many)/\∃hi:i<t.ks.length,∃v,hstep l t.ks[i]=some (v,c)/\u=t.withT v i many) \/
  (∃i many,spot t=some (i,many)/\∃x,x.pot<=(t.kid i).pot/\Qbn l (t.withT x i many) x=some (u,c)) \/
  (spot t=none/\Qbn l t Xa=some (u,c)):=by
 rcases Qee t with hs | ⟨i,many,hs⟩
 ·exact .inr (.inr ⟨hs,by rw[<- Qcr hs];exact h⟩)
 ·by_cases hi:i<t.ks.length
  ·cases hk:hstep l t.ks[i]with
   | some v =>
    rw[Qgn hs hi (u:=v.1) (c:=v.2) hk]at h;cases h;exact .inl ⟨i,many,hs,hi,v.1,hk,rfl⟩
   | none =>
    rw[Qd7 hs hi hk]at h;refine .inr (.inl ⟨i,many,hs,_,?_,h⟩);have h3:t.kid i=t.ks[i]:=by unfold T.kid;rw[List.getD_eq_getElem?_getD,List.getElem?_eq_getElem hi];rfl
    rw[h3];exact Qo9 _
  ·rw[Qes hs hi]at h;exact .inr (.inl ⟨i,many,hs,Xa,by rw[Qdg];exact Qr4 _,h⟩)
theorem Qib{l:List C}(t:T):∀{u:T} {c:Nat},hstep l t=some (u,c) ->1<=c:=by
 induction t using T.ind with
 | h k n a ls ks ih =>
  intro u c h;rcases Qk4 h with ⟨i,many,hs,hi,v,hv, -⟩ | ⟨i,many,hs,x, -,ho⟩ | ⟨hs,ho⟩
  ·exact ih _ (List.getElem_mem hi) hv
  ·exact Qy3 ho
  ·exact Qy3 ho
theorem Qqg{l:List C}(t:T):∀{u:T} {c:Nat},hstep l t=some (u,c) ->u.pot<=t.pot+7 * c:=by
 induction t using T.ind with
 | h k n a ls ks ih =>
  intro u c h;rcases Qk4 h with ⟨i,many,hs,hi,v,hv,rfl⟩ | ⟨i,many,hs,x, -,ho⟩ | ⟨hs,ho⟩
  ·have h1:=ih _ (List.getElem_mem hi) hv;have h2:=Qjv (x:=v) hs;have h3:(T.mk k n a ls ks).kid i=(T.mk k n a ls ks).ks[i]:=by unfold T.kid;rw[List.getD_eq_getElem?_getD,List.getElem?_eq_getElem hi];rfl
   rw[h3]at h2;simp only[T.ks_mk]at h2 h1⊢;omega
  ·have h1:=Qsa ho;have h2:=Qfy u;omega
  ·have h1:=Qsa ho;have h2:=Qfy u;omega
theorem Qc6:okT Xa:= .mk (by unfold I64;omega) (by unfold I64;omega) (by unfold I64;omega) (by simp) (fun _ h=>nomatch h) (by simp) (fun _ h=>nomatch h)
theorem Waj{ks:List T}(h:∀t,t∈ks ->okT t)(i:Nat):okT (ks.getD i Xa):=by
 rw[List.getD_eq_getElem?_getD];by_cases hi:i<ks.length
 ·rw[List.getElem?_eq_getElem hi];exact h _ (List.getElem_mem hi)
 ·rw[List.getElem?_eq_none (by omega)];exact Qc6
theorem Qah{t:T}(h:okT t)(i:Nat):okT (t.kid i):=Waj h.ks i
theorem Qip{t x:T}{i many:Nat}(h:okT t)(hx:okT x)(hm:many<=Ql):okT (t.withT x i many):=by
 unfold T.withT;refine .mk h.k h.n h.a h.ll h.ls (by rw[Qcz];exact hm) fun y hy=>?_
 unfold Qg2 at hy;rw[List.mem_map]at hy;obtain⟨j, -,rfl⟩:=hy;split
 ·exact hx
 ·exact Waj h.ks j
theorem Qdp{t:T}{i many:Nat}(h:spot t=some (i,many))(ht:okT t):many<=Ql:=by
 have hk:=ht.kl;unfold spot at h;unfold Ql at hk⊢
 repeat' split at h
 all_goals first | (cases h;omega) | cases h
theorem Qni(t:T):okT t ->okT t.trunc:=by
 induction t using T.ind with
 | h k n a ls ks ih =>
  intro ht;rcases Qee (.mk k n a ls ks)with hs | ⟨i,many,hs⟩
  ·rw[Qbc hs];exact ht
  ·by_cases hi:i<(T.mk k n a ls ks).ks.length
   ·rw[Qe4 hs hi];exact Qip ht (ih _ (List.getElem_mem hi) (ht.ks _ (List.getElem_mem hi))) (Qdp hs ht)
   ·rw[Qfs hs hi];exact Qip ht Qc6 (Qdp hs ht)
theorem Qn6{k:Int}{ks:List T}(hk:I64 k)(hl:ks.length<=Ql)(h:∀t,t∈ks ->okT t):okT (ofT k ks):= .mk hk (by unfold I64;omega) (by unfold I64;omega) (by simp) (fun _ h=>nomatch h) hl h
theorem Qaj{k:Int}{x y:T}(hk:I64 k)(hx:okT x)(hy:okT y):okT (ofT k [x,y]):=Qn6 hk (by unfold Ql;simp) fun t h=>by
 simp only[List.mem_cons,List.not_mem_nil,or_false]at h;rcases h with rfl | rfl <;> assumption
theorem Qha{x t:T}(h:t∈ [x]):t=x:=by simpa using h
theorem tree_ok{t s:T}(ht:okT t)(hs:okT s):okT (Qpa t s):=by
 have i6:I64 6:=by unfold I64;omega
 have i5:I64 5:=by unfold I64;omega
 have i18:I64 18:=by unfold I64;omega
 have i1:I64 1:=by unfold I64;omega
 unfold Qpa;refine Qaj i6 (Qaj i6 (Qaj i6 (Qah ht 3) (Qah hs 0)) (Qah hs 1)) (Qaj i5 (Qpo (fun b hb=>by rw[Qha hb];exact Qah hs 0) 0 (Qah ht 1)) (Qn6 i18 (by unfold Ql;simp) fun y hy=>?_));simp only[List.mem_cons,List.not_mem_nil,or_false]at hy;rcases hy with rfl | rfl | rfl | rfl | rfl
 ·exact Qbe _ _ _ (Qah ht 0)
 ·exact Qbe _ _ _ (Qah ht 1)
 ·exact Qbe _ _ _ (Qah ht 2)
 ·exact Qbe _ _ _ (Qah ht 3)
 ·exact Qaj i6 (Qbe _ _ _ (Qah hs 1)) (Qn6 i1 (by simp) (fun _ h=>nomatch h))
def okC(c:C):Prop:=I64 c.lv/\okT c.ty/\okT c.bo
theorem Wbc{l:List C}(hl:∀c,c∈l ->okC c){n:Int}{lv:List LV}{b:T}(h:Qhk l n lv=some b):okT b:=by
 unfold Qhk at h;split at h
 ·rename_i h1;split at h
  ·cases h;exact Qp5 _ _ (hl _ (List.getElem_mem h1.2)).2.2
  ·cases h
 ·cases h
theorem Wev{l:List C}{B:Nat}(hl:∀c,c∈l ->c.bo.nsz<=B){n:Int}{lv:List LV}{b:T}(h:Qhk l n lv=some b):b.nsz<=B:=by
 unfold Qhk at h;split at h
 ·rename_i h1;split at h
  ·cases h;unfold T.levels;rw[Qiy];exact hl _ (List.getElem_mem h1.2)
  ·cases h
 ·cases h
theorem Qy4{l:List C}(hl:∀c,c∈l ->okC c){t x u:T}{c:Nat}(ht:okT t)(hx:okT x)(h:Qbn l t x=some (u,c)):okT u:=by
 unfold Qbn at h
 repeat' split at h
 all_goals first | (cases h;done) | skip
 all_goals first
  | (cases h;exact Qpo (fun b hb=>by rw[Qha hb];exact Qah ht 1) 0 (Qah hx 1))
  | (cases h;exact Qpo (fun b hb=>by rw[Qha hb];exact Qah ht 1) 0 (Qah ht 2))
  | (cases h;exact tree_ok ht hx)
  | (cases h;exact Qah hx _)
  | (cases h;exact Qah ht _)
  | (rw[Option.map_eq_some_iff]at h;obtain⟨b,hb1,hb⟩:=h;cases hb;exact Wbc hl hb1)
theorem Qum{l:List C}(hl:∀c,c∈l ->okC c)(t:T):∀{u:T} {c:Nat},okT t ->hstep l t=some (u,c) ->okT u:=by
 induction t using T.ind with
 | h k n a ls ks ih =>
  intro u c ht h;rcases Qee (.mk k n a ls ks)with hs | ⟨i,many,hs⟩
  ·rw[Qcr hs]at h;exact Qy4 hl ht Qc6 h
  ·by_cases hi:i<(T.mk k n a ls ks).ks.length
   ·have hki:=ht.ks _ (List.getElem_mem hi);cases hk:hstep l (T.mk k n a ls ks).ks[i]with
    | some v =>
     rw[Qgn hs hi (u:=v.1) (c:=v.2) hk]at h;cases h;exact Qip ht (ih _ (List.getElem_mem hi) hki hk) (Qdp hs ht)
    | none =>
     rw[Qd7 hs hi hk]at h;exact Qy4 hl (Qip ht (Qni _ hki) (Qdp hs ht)) (Qni _ hki) h
   ·rw[Qes hs hi]at h;exact Qy4 hl (Qip ht Qc6 (Qdp hs ht)) Qc6 h
theorem Wc0{t a:T}{A:Nat}(h1:t.pot<=A)(h2:a.pot<=A):t.sd a.nsz 0<=A * A:=by
 have h3:=T.sd_le a.nsz a.nsz_pos t 0;have h4:=Qef t;have h5:=Qef a;exact Nat.le_trans h3 (Nat.mul_le_mul (by omega) (by omega))
inductive GoneAt (l : List C) : T -> Int -> Int -> Prop where
 | now {t u:T} {c:Nat} {f:Int} (h:hstep l t=some (u,c)) (hf:f<c):GoneAt l t f f
 | later {t u:T} {c:Nat} {f q:Int} (h:hstep l t=some (u,c)) (hf:(c:Int)<=f) (r:GoneAt l u (f - c) q):GoneAt l t f q
theorem Qw2(l:List C)(k:Nat):∀(t:T) (f:Int),0<=f ->f<=k ->(∃n u,Hd l t n u/\(n:Int)<=f)\/∃q,GoneAt l t f q:=by
 induction k with
 | zero =>
  intro t f h0 h1;cases h:hstep l t with
  | none=>exact .inl ⟨0,_, .stop h,by omega⟩
  | some p =>
   have:=Qib t h;exact .inr ⟨f, .now h (by omega)⟩
 | succ k ih =>
  intro t f h0 h1;cases h:hstep l t with
  | none=>exact .inl ⟨0,_, .stop h,by omega⟩
  | some p =>
   have hp:=Qib t h;by_cases hc:(p.2:Int)<=f
   ·rcases ih p.1 (f - p.2) (by omega) (by omega)with ⟨n,u,h2,h3⟩ | ⟨q,h2⟩
    ·exact .inl ⟨p.2+n,u, .step h h2,by omega⟩
    ·exact .inr ⟨q, .later h hc h2⟩
   ·exact .inr ⟨f, .now h (by omega)⟩
theorem Hd.done{l:List C}{t v:T}{n:Nat}(h:Hd l t n v):hstep l v=none/\v.trunc=v:=by
 induction h with
 | stop h=>exact Qj8 _ h
 | step h r ih=>exact ih
def Wx(t:T):T:=match spot t with
 | some p=>t.kid p.1
 | none=>Xa
theorem Quk{t:T}{i:Nat}(h:i<t.ks.length):t.kid i=t.ks[i]:=by unfold T.kid;rw[List.getD_eq_getElem?_getD,List.getElem?_eq_getElem h];rfl
theorem Qso{t:T}{i:Nat}(h:¬ i<t.ks.length):t.kid i=Xa:=by unfold T.kid;rw[List.getD_eq_getElem?_getD,List.getElem?_eq_none (by omega)];rfl
theorem Wcg{t x:T}{i many:Nat}:(t.withT x i many).ks.length=many:=by unfold T.withT;rw[T.ks_mk,Qcz]
theorem Qgd{t x:T}{i many:Nat}(h:spot t=some (i,many)):(t.withT x i many).kid i=x:=by
 have hlt:=Qro h;have h2:i<(t.withT x i many).ks.length:=by rw[Wcg];exact hlt
 rw[Quk h2,Qnc hlt h2]
theorem Qwc{t x:T}{i many:Nat}(h:spot t=some (i,many)):Wx (t.withT x i many)=x:=by
 unfold Wx;rw[Qek h];exact Qgd h
theorem Qj0{l:List C}{t:T}{i many:Nat}(hs:spot t=some (i,many)){u:T}{c:Nat}(hu:hstep l (t.kid i)=some (u,c)):hstep l t=some (t.withT u i many,c):=by
 by_cases hi:i<t.ks.length
 ·rw[Quk hi]at hu;exact Qgn hs hi hu
 ·rw[Qso hi,Qo2]at hu;cases hu
theorem Qqb{l:List C}{t:T}{i many:Nat}(hs:spot t=some (i,many))(hu:hstep l (t.kid i)=none):hstep l t=Qbn l (t.withT (t.kid i).trunc i many) (t.kid i).trunc/\t.trunc=t.withT (t.kid i).trunc i many:=by
 by_cases hi:i<t.ks.length
 ·rw[Quk hi]at hu⊢;exact⟨Qd7 hs hi hu,Qe4 hs hi⟩
 ·rw[Qso hi,Qbc Qfo];exact⟨Qes hs hi,Qfs hs hi⟩
theorem ready{l:List C}{t v:T}{i many:Nat}(hs:spot t=some (i,many))(hv:hstep l v=none)(hv2:v.trunc=v):hstep l (t.withT v i many)=Qbn l (t.withT v i many) v/\(t.withT v i many).trunc=t.withT v i many:=by
 have h1:=Qek (x:=v) hs;have h2:=Qqb (l:=l) h1 (by rw[Qgd hs];exact hv);rw[Qgd hs,hv2,Qdn]at h2;exact h2
theorem Qhw{l:List C}{t:T}{i many:Nat}(hs:spot t=some (i,many))(hu:hstep l (t.kid i)=none):hstep l (t.withT (t.kid i).trunc i many)=hstep l t/\(t.withT (t.kid i).trunc i many).trunc=t.trunc:=by
 obtain⟨h1,h2⟩:=Qj8 _ hu;obtain⟨h3,h4⟩:=ready hs h1 h2;obtain⟨h5,h6⟩:=Qqb hs hu;exact⟨by rw[h3,h5],by rw[h4,h6]⟩
theorem Hd.place{l:List C}{t u:T}{n:Nat}(h:Hd l t n u):∀{i many:Nat},spot t=some (i,many) ->∃m v,Hd l (t.kid i) m v/\m<=n/\Hd l (t.withT v i many) (n - m) u:=by
 induction h with
 | @stop t h =>
  intro i many hs;cases hk:hstep l (t.kid i)with
  | some p=>rw[Qj0 hs (u:=p.1) (c:=p.2) hk]at h;cases h
  | none =>
   obtain⟨h1,h2⟩:=Qhw hs hk;refine⟨0,_, .stop hk,Nat.le_refl _,?_⟩;rw[<- h2];exact .stop (by rw[h1];exact h)
 | @step t u v c n h r ih =>
  intro i many hs;cases hk:hstep l (t.kid i)with
  | some p =>
   rw[Qj0 hs (u:=p.1) (c:=p.2) hk]at h;cases h;obtain⟨m,w,h1,h2,h3⟩:=ih (Qek hs);rw[Qgd hs]at h1;rw[Qdn]at h3;exact⟨p.2+m,w, .step hk h1,by omega,by rw[show p.2+n - (p.2+m)=n - m by omega];exact h3⟩
  | none =>
   obtain⟨h1,h2⟩:=Qhw hs hk;exact⟨0,_, .stop hk,Nat.zero_le _, .step (by rw[h1];exact h) r⟩
theorem GoneAt.place{l:List C}{t:T}{f q:Int}(h:GoneAt l t f q):∀{i many:Nat},0<=f ->spot t=some (i,many) ->GoneAt l (t.kid i) f q\/∃m v,Hd l (t.kid i) m v/\(m:Int)<=f/\GoneAt l (t.withT v i many) (f - m) q:=by
 induction h with
 | @now t u c f h hf =>
  intro i many h0 hs;cases hk:hstep l (t.kid i)with
  | some p =>
   rw[Qj0 hs (u:=p.1) (c:=p.2) hk]at h;cases h;exact .inl (.now hk hf)
  | none =>
   obtain⟨h1,h2⟩:=Qhw hs hk;refine .inr ⟨0,_, .stop hk,by omega,?_⟩;have:GoneAt l (t.withT (t.kid i).trunc i many) f f:= .now (by rw[h1];exact h) hf;simpa using this
 | @later t u c f q h hf r ih =>
  intro i many h0 hs;cases hk:hstep l (t.kid i)with
  | some p =>
   rw[Qj0 hs (u:=p.1) (c:=p.2) hk]at h;cases h;rcases ih (by omega) (Qek hs)with h1 | ⟨m,w,h1,h2,h3⟩
   ·rw[Qgd hs]at h1;exact .inl (.later hk hf h1)
   ·rw[Qgd hs]at h1;rw[Qdn]at h3;refine .inr ⟨p.2+m,w, .step hk h1,by omega,?_⟩;rw[show f - ((p.2+m:Nat):Int)=f - p.2 - m by omega];exact h3
  | none =>
   obtain⟨h1,h2⟩:=Qhw hs hk;refine .inr ⟨0,_, .stop hk,by omega,?_⟩;have:GoneAt l (t.withT (t.kid i).trunc i many) f q:= .later (by rw[h1];exact h) hf r;simpa using this
def Qik(t:T):T:=ofT 6 [t.lift 1 0 0,ofT 1 []]
def Qaq(k:Int)(t:T):List T :=
 if t.k=k then(if k=13 then [t.kid 0,t.kid 1] else [t.kid 1])else(if k=13 then [ofT 14 [t],ofT 15 [t]] else [Qik t])
def Qak(t:T):List T:=if t.k=18 then [t.kid 2,t.kid 3,t.kid 4] else if t.k=21 then [t.kid 2,t.kid 3,t.kid 5] else t.ks
def Qga(x y:T):Prop:=x.k=y.k/\x.n=y.n/\x.a=y.a/\x.ks.length=y.ks.length/\Qfl x.ls y.ls=true
instance (x y:T):Decidable (Qga x y):=by unfold Qga;infer_instance
def prs(x y:T):Option (List T×List T) :=
 if x.k=5\/y.k=5 then some (Qaq 5 x,Qaq 5 y)else if x.k=13\/y.k=13 then some (Qaq 13 x,Qaq 13 y)else if Qga x y then some (Qak x,Qak y)else none
inductive HdO (l : List C) (t : T) (f : Int) : Option (T × Int) -> Prop where
 | fin {m:Nat} {u:T} (h:Hd l t m u) (hm:(m:Int)<=f):HdO l t f (some (u,f - m))
 | gone {q:Int} (h:GoneAt l t f q):HdO l t f none
inductive CR (l : List C) : Nat -> List T -> List T -> Int -> Option (Bool × Int) -> Prop where
 | nil {h:Nat} {f:Int}:CR l h [] [] f (some (true,f))
 | out {h:Nat} {p q:T} {ps qs:List T}:CR l (h+1) (p::ps) (q::qs) 0 none
 | same {h:Nat} {p q:T} {ps qs:List T} {f:Int} {o:Option (Bool×Int)} (hf:1<=f) (hs:p.sameB q=true) (hr:CR l (h+1) ps qs (f - 1) o):CR l (h+1) (p::ps) (q::qs) f o
 | gone1 {h:Nat} {p q:T} {ps qs:List T} {f:Int} (hf:1<=f) (hs:p.sameB q=false) (h1:HdO l p (f - 1) none):CR l (h+1) (p::ps) (q::qs) f none
 | gone2 {h:Nat} {p q x:T} {ps qs:List T} {f f1:Int} (hf:1<=f) (hs:p.sameB q=false) (h1:HdO l p (f - 1) (some (x,f1))) (h2:HdO l q f1 none):CR l (h+1) (p::ps) (q::qs) f none
 | mis {h:Nat} {p q x y:T} {ps qs:List T} {f f1 f2:Int} (hf:1<=f) (hs:p.sameB q=false) (h1:HdO l p (f - 1) (some (x,f1))) (h2:HdO l q f1 (some (y,f2))) (hp:prs x y=none):CR l (h+1) (p::ps) (q::qs) f (some (false,f2))
 | kids {h:Nat} {p q x y:T} {ps qs ds bs:List T} {f f1 f2:Int} {o:Option (Bool×Int)} (hf:1<=f) (hs:p.sameB q=false) (h1:HdO l p (f - 1) (some (x,f1))) (h2:HdO l q f1 (some (y,f2))) (hp:prs x y=some (ds,bs))
   (hk:CR l h ds bs f2 o) (hn:∀g,o≠some (true,g)):CR l (h+1) (p::ps) (q::qs) f o
 | yes {h:Nat} {p q x y:T} {ps qs ds bs:List T} {f f1 f2 g:Int} {o:Option (Bool×Int)} (hf:1<=f) (hs:p.sameB q=false) (h1:HdO l p (f - 1) (some (x,f1))) (h2:HdO l q f1 (some (y,f2))) (hp:prs x y=some (ds,bs))
   (hk:CR l h ds bs f2 (some (true,g))) (hr:CR l (h+1) ps qs g o):CR l (h+1) (p::ps) (q::qs) f o
inductive LR (l : List C) : Nat -> T -> T -> Int -> Option (Bool × Int) -> Prop where
 | out {h:Nat} {p q:T}:LR l h p q 0 none
 | same {h:Nat} {p q:T} {f:Int} (hf:1<=f) (hs:p.sameB q=true):LR l h p q f (some (true,f - 1))
 | gone1 {h:Nat} {p q:T} {f:Int} (hf:1<=f) (hs:p.sameB q=false) (h1:HdO l p (f - 1) none):LR l h p q f none
 | gone2 {h:Nat} {p q x:T} {f f1:Int} (hf:1<=f) (hs:p.sameB q=false) (h1:HdO l p (f - 1) (some (x,f1))) (h2:HdO l q f1 none):LR l h p q f none
 | sort {h:Nat} {p q x y:T} {a b:LV} {f f1 f2:Int} (hf:1<=f) (hs:p.sameB q=false) (h1:HdO l p (f - 1) (some (x,f1))) (h2:HdO l q f1 (some (y,f2))) (hx:x.k=2/\x.ls= [a]) (hy:y.k=2/\y.ls= [b]):LR l h p q f (some (Qxn a b,f2))
 | pino {h:Nat} {p q x y:T} {f f1 f2:Int} {o:Option (Bool×Int)} (hf:1<=f) (hs:p.sameB q=false) (h1:HdO l p (f - 1) (some (x,f1))) (h2:HdO l q f1 (some (y,f2))) (hx:x.k=4) (hy:y.k=4)
   (hk:CR l h [x.kid 0] [y.kid 0] f2 o) (hn:∀g,o≠some (true,g)):LR l h p q f o
 | pi {h:Nat} {p q x y:T} {f f1 f2 g:Int} {o:Option (Bool×Int)} (hf:1<=f) (hs:p.sameB q=false) (h1:HdO l p (f - 1) (some (x,f1))) (h2:HdO l q f1 (some (y,f2))) (hx:x.k=4) (hy:y.k=4)
   (hk:CR l h [x.kid 0] [y.kid 0] f2 (some (true,g))) (hr:LR l h (x.kid 1) (y.kid 1) g o):LR l h p q f o
 | one {h:Nat} {p q x y:T} {f f1 f2:Int} {o:Option (Bool×Int)} (hf:1<=f) (hs:p.sameB q=false) (h1:HdO l p (f - 1) (some (x,f1))) (h2:HdO l q f1 (some (y,f2)))
   (hn:¬ (x.k=2/\y.k=2/\x.ls.length=1/\y.ls.length=1)) (hn2:¬ (x.k=4/\y.k=4)) (hr:CR l h [x] [y] f2 o):LR l h p q f o
theorem Qc1(l:List C)(t:T)(f:Int)(h0:0<=f):∃o,HdO l t f o:=by
 rcases Qw2 l f.toNat t f h0 (by omega)with ⟨n,u,h,hn⟩ | ⟨q,g⟩
 ·exact⟨_, .fin h hn⟩
 ·exact⟨_, .gone g⟩
theorem Qk6{l:List C}{t:T}{f q:Int}(g:GoneAt l t f q):∀{m:Nat} {u:T},Hd l t m u ->f<m:=by
 induction g with
 | now h hf =>
  intro m u hd;cases hd with
  | stop h3=>rw[h]at h3;cases h3
  | step h3 r=>rw[h]at h3;cases h3;omega
 | later h hf r ih =>
  intro m u hd;cases hd with
  | stop h3=>rw[h]at h3;cases h3
  | step h3 r3=>rw[h]at h3;cases h3;have:=ih r3;omega
theorem HdO.le{l:List C}{t u:T}{f g:Int}(h:HdO l t f (some (u,g))):0<=g/\g<=f:=by
 cases h with
 | fin h hm=>omega
theorem HdO.det{l:List C}{t:T}{f:Int}{o o':Option (T×Int)}(h:HdO l t f o)(h':HdO l t f o'):o=o':=by
 cases h with
 | fin h hm =>
  cases h' with
  | fin h' hm'=>obtain⟨rfl,rfl⟩:=h.det h';rfl
  | gone g=>have:=Qk6 g h;omega
 | gone g =>
  cases h' with
  | fin h' hm'=>have:=Qk6 g h';omega
  | gone g'=>rfl
theorem HdO.more{l:List C}{t u:T}{f g d:Int}(h:HdO l t f (some (u,g)))(hd:0<=d):HdO l t (f+d) (some (u,g+d)):=by
 generalize ho:some (u,g)=o at h;cases h with
 | @fin m u' h hm =>
  cases ho;have:=HdO.fin (f:=f+d) h (by omega);rw[show f+d - (m:Int)=f - m+d by omega]at this;exact this
 | gone g=>cases ho
theorem Qhy(k:Int)(x y:T):(Qaq k x).length=(Qaq k y).length:=by
 unfold Qaq;split <;> split <;> split <;> rfl
theorem Qyw{x y:T}{ds bs:List T}(h:prs x y=some (ds,bs)):ds.length=bs.length:=by
 unfold prs at h;split at h
 ·cases h;exact Qhy _ _ _
 ·split at h
  ·cases h;exact Qhy _ _ _
  ·split at h
   ·rename_i ha;cases h;unfold Qga at ha;unfold Qak;rw[ha.1];split
    ·rfl
    ·split
     ·rfl
     ·exact ha.2.2.2.1
   ·cases h
theorem CR.mono{l:List C}{h:Nat}{ps qs:List T}{f:Int}{o:Option (Bool×Int)}(H:CR l h ps qs f o):∀{h':Nat},h<=h' ->CR l h' ps qs f o:=by
 induction H with
 | nil=>intro h' _;exact .nil
 | out=>intro h' hh;obtain⟨k,rfl⟩:∃k,h'=k+1:=⟨h' - 1,by omega⟩;exact .out
 | same hf hs hr ih=>intro h' hh;obtain⟨k,rfl⟩:∃k,h'=k+1:=⟨h' - 1,by omega⟩;exact .same hf hs (ih hh)
 | gone1 hf hs h1=>intro h' hh;obtain⟨k,rfl⟩:∃k,h'=k+1:=⟨h' - 1,by omega⟩;exact .gone1 hf hs h1
 | gone2 hf hs h1 h2=>intro h' hh;obtain⟨k,rfl⟩:∃k,h'=k+1:=⟨h' - 1,by omega⟩;exact .gone2 hf hs h1 h2
 | mis hf hs h1 h2 hp=>intro h' hh;obtain⟨k,rfl⟩:∃k,h'=k+1:=⟨h' - 1,by omega⟩;exact .mis hf hs h1 h2 hp
 | kids hf hs h1 h2 hp hk hn ih=>intro h' hh;obtain⟨k,rfl⟩:∃k,h'=k+1:=⟨h' - 1,by omega⟩;exact .kids hf hs h1 h2 hp (ih (by omega)) hn
 | yes hf hs h1 h2 hp hk hr ih1 ih2=>intro h' hh;obtain⟨k,rfl⟩:∃k,h'=k+1:=⟨h' - 1,by omega⟩;exact .yes hf hs h1 h2 hp (ih1 (by omega)) (ih2 hh)
theorem CR.det{l:List C}{h:Nat}{ps qs:List T}{f:Int}{o:Option (Bool×Int)}(H:CR l h ps qs f o):∀{h':Nat} {o':Option (Bool×Int)},CR l h' ps qs f o' ->o=o':=by
 induction H with
 | nil=>intro h' o' K;cases K;rfl
 | out=>intro h' o' K;cases K <;> first | rfl | omega
 | same hf hs hr ih =>
  intro h' o' K;cases K with
  | out=>omega
  | same _ _ hr'=>exact ih hr'
  | gone1 _ hs' _ | gone2 _ hs' _ _ | mis _ hs' _ _ _ | kids _ hs' _ _ _ _ _ | yes _ hs' _ _ _ _ _=>rw[hs]at hs';cases hs'
 | gone1 hf hs h1 =>
  intro h' o' K;cases K with
  | out=>rfl
  | same _ hs' _=>rw[hs]at hs';cases hs'
  | gone1 _ _ _=>rfl
  | gone2 _ _ h1' _ | mis _ _ h1' _ _ | kids _ _ h1' _ _ _ _ | yes _ _ h1' _ _ _ _=>cases h1.det h1'
 | gone2 hf hs h1 h2 =>
  intro h' o' K;cases K with
  | out=>rfl
  | same _ hs' _=>rw[hs]at hs';cases hs'
  | gone1 _ _ _=>rfl
  | gone2 _ _ _ _=>rfl
  | mis _ _ h1' h2' _ | kids _ _ h1' h2' _ _ _ | yes _ _ h1' h2' _ _ _=>cases h1.det h1';cases h2.det h2'
 | mis hf hs h1 h2 hp =>
  intro h' o' K;cases K with
  | out=>omega
  | same _ hs' _=>rw[hs]at hs';cases hs'
  | gone1 _ _ h1'=>cases h1.det h1'
  | gone2 _ _ h1' h2'=>cases h1.det h1';cases h2.det h2'
  | mis _ _ h1' h2' _=>cases h1.det h1';cases h2.det h2';rfl
  | kids _ _ h1' h2' hp' _ _ | yes _ _ h1' h2' hp' _ _=>cases h1.det h1';cases h2.det h2';rw[hp]at hp';cases hp'
 | kids hf hs h1 h2 hp hk hn ih =>
  intro h' o' K;cases K with
  | out=>omega
  | same _ hs' _=>rw[hs]at hs';cases hs'
  | gone1 _ _ h1'=>cases h1.det h1'
  | gone2 _ _ h1' h2'=>cases h1.det h1';cases h2.det h2'
  | mis _ _ h1' h2' hp'=>cases h1.det h1';cases h2.det h2';rw[hp]at hp';cases hp'
  | kids _ _ h1' h2' hp' hk' _=>cases h1.det h1';cases h2.det h2';rw[hp]at hp';cases hp';exact ih hk'
  | yes _ _ h1' h2' hp' hk' _=>cases h1.det h1';cases h2.det h2';rw[hp]at hp';cases hp';exact absurd (ih hk') (hn _)
 | yes hf hs h1 h2 hp hk hr ih1 ih2 =>
  intro h' o' K;cases K with
  | out=>omega
  | same _ hs' _=>rw[hs]at hs';cases hs'
  | gone1 _ _ h1'=>cases h1.det h1'
  | gone2 _ _ h1' h2'=>cases h1.det h1';cases h2.det h2'
  | mis _ _ h1' h2' hp'=>cases h1.det h1';cases h2.det h2';rw[hp]at hp';cases hp'
  | kids _ _ h1' h2' hp' hk' hn'=>cases h1.det h1';cases h2.det h2';rw[hp]at hp';cases hp';exact absurd (ih1 hk').symm (hn' _)
  | yes _ _ h1' h2' hp' hk' hr'=>cases h1.det h1';cases h2.det h2';rw[hp]at hp';cases hp';cases ih1 hk';exact ih2 hr'
theorem CR.le{l:List C}{h:Nat}{ps qs:List T}{f:Int}{o:Option (Bool×Int)}(H:CR l h ps qs f o):0<=f ->∀b g,o=some (b,g) ->0<=g/\g<=f:=by
 induction H with
 | nil=>intro h0 b g e;cases e;omega
 | out | gone1 _ _ _ | gone2 _ _ _ _=>intro h0 b g e;cases e
 | same hf hs hr ih=>intro h0 b g e;have:=ih (by omega) b g e;omega
 | mis hf hs h1 h2 hp=>intro h0 b g e;cases e;have:=h1.le;have:=h2.le;omega
 | kids hf hs h1 h2 hp hk hn ih=>intro h0 b g e;have:=h1.le;have:=h2.le;have:=ih (by omega) b g e;omega
 | yes hf hs h1 h2 hp hk hr ih1 ih2=>intro h0 b g e;have:=h1.le;have:=h2.le;have:=ih1 (by omega) _ _ rfl;have:=ih2 (by omega) b g e;omega
theorem CR.more{l:List C}{h:Nat}{ps qs:List T}{f d:Int}{o:Option (Bool×Int)}(H:CR l h ps qs f o)(hd:0<=d):∀b g,o=some (b,g) ->CR l h ps qs (f+d) (some (b,g+d)):=by
 induction H with
 | nil=>intro b g e;cases e;exact .nil
 | out | gone1 _ _ _ | gone2 _ _ _ _=>intro b g e;cases e
 | @same h p q ps qs f o hf hs hr ih =>
  intro b g e;have:=ih b g e;rw[show f - 1+d=f+d - 1 by omega]at this;exact .same (by omega) hs this
 | @mis h p q x y ps qs f f1 f2 hf hs h1 h2 hp =>
  intro b g e;cases e;have:=h1.more hd;rw[show f - 1+d=f+d - 1 by omega]at this;exact .mis (by omega) hs this (h2.more hd) hp
 | @kids h p q x y ps qs ds bs f f1 f2 o hf hs h1 h2 hp hk hn ih =>
  intro b g e;have h3:=h1.more hd;rw[show f - 1+d=f+d - 1 by omega]at h3;refine .kids (by omega) hs h3 (h2.more hd) hp (ih b g e) fun g' e'=>?_
  cases e';exact hn g e
 | @yes h p q x y ps qs ds bs f f1 f2 g' o hf hs h1 h2 hp hk hr ih1 ih2 =>
  intro b g e;have h3:=h1.more hd;rw[show f - 1+d=f+d - 1 by omega]at h3;exact .yes (by omega) hs h3 (h2.more hd) hp (ih1 _ _ rfl) (ih2 b g e)
theorem Qop(l:List C)(n:Nat):∀(ps qs:List T),ps.length=qs.length ->∀f:Int,0<=f ->f<=n ->∃h o,CR l h ps qs f o:=by
 induction n using Nat.strongRecOn with
 | ind n ihn =>
  intro ps
  induction ps with
  | nil=>intro qs hl f _ _;cases qs with
   | nil=>exact⟨0,_, .nil⟩
   | cons _ _=>cases hl
  | cons p ps ihp =>
   intro qs hl f h0 h1;cases qs with
   | nil=>cases hl
   | cons q qs =>
    have hl':ps.length=qs.length:=by simpa using hl
    by_cases hf:f=0
    ·subst hf;exact⟨1,_, .out⟩
    have hf1:1<=f:=by omega
    cases hs:p.sameB q with
    | true =>
     obtain⟨h,o,H⟩:=ihn (n - 1) (by omega) ps qs hl' (f - 1) (by omega) (by omega);exact⟨h+1,o, .same hf1 hs (H.mono (by omega))⟩
    | false =>
     obtain⟨o1,g1⟩:=Qc1 l p (f - 1) (by omega);cases o1 with
     | none=>exact⟨1,_, .gone1 hf1 hs g1⟩
     | some v1 =>
      obtain⟨x,f1⟩:=v1;have l1:=g1.le;obtain⟨o2,g2⟩:=Qc1 l q f1 l1.1;cases o2 with
      | none=>exact⟨1,_, .gone2 hf1 hs g1 g2⟩
      | some v2 =>
       obtain⟨y,f2⟩:=v2;have l2:=g2.le;cases hp:prs x y with
       | none=>exact⟨1,_, .mis hf1 hs g1 g2 hp⟩
       | some v =>
        obtain⟨ds,bs⟩:=v;obtain⟨h,o,H⟩:=ihn (n - 1) (by omega) ds bs (Qyw hp) f2 l2.1 (by omega);by_cases hn:∃g,o=some (true,g)
        ·obtain⟨g,rfl⟩:=hn;have l3:=H.le l2.1 _ _ rfl;obtain⟨h',o',H'⟩:=ihn (n - 1) (by omega) ps qs hl' g l3.1 (by omega);exact⟨max h h'+1,o', .yes hf1 hs g1 g2 hp (H.mono (Nat.le_max_left ..)) (H'.mono (by have:=Nat.le_max_right h h';omega))⟩
        ·exact⟨h+1,o, .kids hf1 hs g1 g2 hp H fun g e=>hn ⟨g,e⟩⟩
theorem CR.split{l:List C}{h:Nat}{p q:T}{ps qs:List T}{f:Int}{o:Option (Bool×Int)}(H:CR l (h+1) (p::ps) (q::qs) f o) :
  (CR l (h+1) [p] [q] f none/\o=none)\/(∃g,CR l (h+1) [p] [q] f (some (false,g))/\o=some (false,g))\/∃g,CR l (h+1) [p] [q] f (some (true,g))/\CR l (h+1) ps qs g o:=by
 cases H with
 | out=>exact .inl ⟨.out,rfl⟩
 | same hf hs hr=>exact .inr (.inr ⟨_, .same hf hs .nil,hr⟩)
 | gone1 hf hs h1=>exact .inl ⟨.gone1 hf hs h1,rfl⟩
 | gone2 hf hs h1 h2=>exact .inl ⟨.gone2 hf hs h1 h2,rfl⟩
 | mis hf hs h1 h2 hp=>exact .inr (.inl ⟨_, .mis hf hs h1 h2 hp,rfl⟩)
 | kids hf hs h1 h2 hp hk hn =>
  cases o with
  | none=>exact .inl ⟨.kids hf hs h1 h2 hp hk hn,rfl⟩
  | some v =>
   obtain⟨b,g⟩:=v;cases b with
   | true=>exact absurd rfl (hn g)
   | false=>exact .inr (.inl ⟨g, .kids hf hs h1 h2 hp hk hn,rfl⟩)
 | yes hf hs h1 h2 hp hk hr=>exact .inr (.inr ⟨_, .yes hf hs h1 h2 hp hk .nil,hr⟩)
theorem Qw6{α:Type}{p:α ->α ->Bool}(hp:∀a b,p a b=p b a)(l m:List α):Qa3 p l m=Qa3 p m l:=by
 induction l generalizing m with
 | nil=>cases m <;> rfl
 | cons a r ih=>cases m with
  | nil=>rfl
  | cons b s=>simp only[Qa3];rw[hp a b,ih s]
theorem Qke(l m:List LV):Qfl l m=Qfl m l:=by
 rw[Qem,Qem];exact Qw6 (fun a b=>by simp[eq_comm]) l m
mutual
theorem Qco:∀t u:T,t.sameB u=u.sameB t
 | .mk k n a ls ks, .mk k' n' a' ls' ks'=>by
  rw[T.sameB,T.sameB,Qke ls ls',Qkc ks ks'];simp[eq_comm]
theorem Qkc:∀l m:List T,T.samesB l m=T.samesB m l
 | [], []=>rfl
 | [],_::_=>by rw[T.samesB,T.samesB] <;> simp
 | _::_, []=>by rw[T.samesB,T.samesB] <;> simp
 | t::r,u::s=>by rw[T.samesB,T.samesB,Qco t u,Qkc r s]
end
mutual
theorem Qv0:∀t:T,t.sameB t=true
 | .mk k n a ls ks=>by rw[T.sameB,Qg4,Qkd ks];simp
theorem Qkd:∀l:List T,T.samesB l l=true
 | []=>rfl
 | t::r=>by rw[T.samesB,Qv0 t,Qkd r];rfl
end
theorem Qm7{x y:T}:Qga x y↔Qga y x:=by
 unfold Qga;rw[Qke x.ls y.ls];constructor
 ·rintro⟨a,b,c,d,e⟩;exact⟨a.symm,b.symm,c.symm,d.symm,e⟩
 ·rintro⟨a,b,c,d,e⟩;exact⟨a.symm,b.symm,c.symm,d.symm,e⟩
theorem Qn1(x y:T):prs y x=(prs x y).map fun v=>(v.2,v.1):=by
 unfold prs;by_cases h5:x.k=5\/y.k=5
 ·rw[if_pos h5,if_pos h5.symm];rfl
 ·rw[if_neg h5,if_neg fun h=>h5 h.symm];by_cases h13:x.k=13\/y.k=13
  ·rw[if_pos h13,if_pos h13.symm];rfl
  ·rw[if_neg h13,if_neg fun h=>h13 h.symm];by_cases ha:Qga x y
   ·rw[if_pos ha,if_pos (Qm7.1 ha)];rfl
   ·rw[if_neg ha,if_neg fun h=>ha (Qm7.1 h)];rfl
theorem HdO.cost{l:List C}{t u:T}{f g:Int}(h:HdO l t f (some (u,g))):∃m:Nat,Hd l t m u/\g=f - m/\(m:Int)<=f:=by
 generalize ho:some (u,g)=o at h;cases h with
 | fin h hm=>cases ho;exact⟨_,h,rfl,hm⟩
 | gone g=>cases ho
theorem HdO.of{l:List C}{t u:T}{f g:Int}{m:Nat}(h:Hd l t m u)(hg:g=f - m)(hm:(m:Int)<=f):HdO l t f (some (u,g)):=by subst hg;exact .fin h hm
theorem HdO.lt{l:List C}{t u:T}{f:Int}{m:Nat}(h:HdO l t f none)(h2:Hd l t m u):f<m:=by
 cases h with
 | gone g=>exact Qk6 g h2
theorem HdO.none_of{l:List C}{t:T}{f:Int}(h0:0<=f)(h:∀m u,Hd l t m u ->f<(m:Nat)):HdO l t f none:=by
 obtain⟨o,H⟩:=Qc1 l t f h0;cases o with
 | none=>exact H
 | some v=>obtain⟨u,g⟩:=v;obtain⟨m,h1, -,h2⟩:=H.cost;have:=h m u h1;omega
theorem swap2{l:List C}{p q x y:T}{f f1 f2:Int}(h1:HdO l p f (some (x,f1)))(h2:HdO l q f1 (some (y,f2))):∃f1',HdO l q f (some (y,f1'))/\HdO l p f1' (some (x,f2)):=by
 obtain⟨m,a1,a2,a3⟩:=h1.cost;obtain⟨n,b1,b2,b3⟩:=h2.cost;exact⟨f - n, .of b1 rfl (by omega), .of a1 (by omega) (by omega)⟩
theorem CR.symm{l:List C}{h:Nat}{ps qs:List T}{f:Int}{o:Option (Bool×Int)}(H:CR l h ps qs f o):CR l h qs ps f o:=by
 induction H with
 | nil=>exact .nil
 | out=>exact .out
 | same hf hs hr ih=>exact .same hf (by rw[Qco];exact hs) ih
 | @gone1 h p q ps qs f hf hs h1 =>
  have hs':q.sameB p=false:=by rw[Qco];exact hs
  obtain⟨o,H⟩:=Qc1 l q (f - 1) (by omega);cases o with
  | none=>exact .gone1 hf hs' H
  | some v =>
   obtain⟨y,f2⟩:=v;have:=H.le;exact .gone2 hf hs' H (.none_of this.1 fun m u hd=>by have:=h1.lt hd;omega)
 | @gone2 h p q x ps qs f f1 hf hs h1 h2 =>
  have hs':q.sameB p=false:=by rw[Qco];exact hs
  obtain⟨m,a1,a2,a3⟩:=h1.cost;obtain⟨o,H⟩:=Qc1 l q (f - 1) (by omega);cases o with
  | none=>exact .gone1 hf hs' H
  | some v =>
   obtain⟨y,f2⟩:=v;obtain⟨n,b1,b2,b3⟩:=H.cost;have:=h2.lt b1
   exact .gone2 hf hs' H (.none_of (by omega) fun m' u hd=>by
    obtain⟨rfl, -⟩:=a1.det hd
    omega)
 | mis hf hs h1 h2 hp =>
  obtain⟨f1',c1,c2⟩:=swap2 h1 h2;exact .mis hf (by rw[Qco];exact hs) c1 c2 (by rw[Qn1,hp];rfl)
 | kids hf hs h1 h2 hp hk hn ih =>
  obtain⟨f1',c1,c2⟩:=swap2 h1 h2;exact .kids hf (by rw[Qco];exact hs) c1 c2 (by rw[Qn1,hp];rfl) ih hn
 | yes hf hs h1 h2 hp hk hr ih1 ih2 =>
  obtain⟨f1',c1,c2⟩:=swap2 h1 h2;exact .yes hf (by rw[Qco];exact hs) c1 c2 (by rw[Qn1,hp];rfl) ih1 ih2
theorem LR.mono{l:List C}{h:Nat}{p q:T}{f:Int}{o:Option (Bool×Int)}(H:LR l h p q f o):∀{h':Nat},h<=h' ->LR l h' p q f o:=by
 induction H with
 | out=>intro h' _;exact .out
 | same hf hs=>intro h' _;exact .same hf hs
 | gone1 hf hs h1=>intro h' _;exact .gone1 hf hs h1
 | gone2 hf hs h1 h2=>intro h' _;exact .gone2 hf hs h1 h2
 | sort hf hs h1 h2 hx hy=>intro h' _;exact .sort hf hs h1 h2 hx hy
 | pino hf hs h1 h2 hx hy hk hn=>intro h' hh;exact .pino hf hs h1 h2 hx hy (hk.mono hh) hn
 | pi hf hs h1 h2 hx hy hk hr ih=>intro h' hh;exact .pi hf hs h1 h2 hx hy (hk.mono hh) (ih hh)
 | one hf hs h1 h2 hn hn2 hr=>intro h' hh;exact .one hf hs h1 h2 hn hn2 (hr.mono hh)
theorem Wd3(l:List C)(n:Nat):∀(p q:T) (f:Int),0<=f ->f<=n ->∃h o,LR l h p q f o:=by
 induction n using Nat.strongRecOn with
 | ind n ihn =>
  intro p q f h0 h1;by_cases hf:f=0
  ·subst hf;exact⟨0,_, .out⟩
  have hf1:1<=f:=by omega
  cases hs:p.sameB q with
  | true=>exact⟨0,_, .same hf1 hs⟩
  | false =>
   obtain⟨o1,g1⟩:=Qc1 l p (f - 1) (by omega);cases o1 with
   | none=>exact⟨0,_, .gone1 hf1 hs g1⟩
   | some v1 =>
    obtain⟨x,f1⟩:=v1;have l1:=g1.le;obtain⟨o2,g2⟩:=Qc1 l q f1 l1.1;cases o2 with
    | none=>exact⟨0,_, .gone2 hf1 hs g1 g2⟩
    | some v2 =>
     obtain⟨y,f2⟩:=v2;have l2:=g2.le;by_cases hso:x.k=2/\y.k=2/\x.ls.length=1/\y.ls.length=1
     ·obtain⟨a,ha⟩:=List.length_eq_one_iff.1 hso.2.2.1;obtain⟨b,hb⟩:=List.length_eq_one_iff.1 hso.2.2.2;exact⟨0,_, .sort hf1 hs g1 g2 ⟨hso.1,ha⟩ ⟨hso.2.1,hb⟩⟩
     by_cases hpi:x.k=4/\y.k=4
     ·obtain⟨h,o,H⟩:=Qop l f2.toNat [x.kid 0] [y.kid 0] rfl f2 l2.1 (by omega);by_cases hn:∃g,o=some (true,g)
      ·obtain⟨g,rfl⟩:=hn;have l3:=H.le l2.1 _ _ rfl;obtain⟨h',o',H'⟩:=ihn (n - 1) (by omega) (x.kid 1) (y.kid 1) g l3.1 (by omega);exact⟨max h h',o', .pi hf1 hs g1 g2 hpi.1 hpi.2 (H.mono (Nat.le_max_left ..)) (H'.mono (Nat.le_max_right ..))⟩
      ·exact⟨h,o, .pino hf1 hs g1 g2 hpi.1 hpi.2 H fun g e=>hn ⟨g,e⟩⟩
     ·obtain⟨h,o,H⟩:=Qop l f2.toNat [x] [y] rfl f2 l2.1 (by omega);exact⟨h,o, .one hf1 hs g1 g2 hso hpi H⟩
theorem LR.more{l:List C}{h:Nat}{p q:T}{f d:Int}{o:Option (Bool×Int)}(H:LR l h p q f o)(hd:0<=d):∀b g,o=some (b,g) ->LR l h p q (f+d) (some (b,g+d)):=by
 induction H with
 | out | gone1 _ _ _ | gone2 _ _ _ _=>intro b g e;cases e
 | @same p q f hf hs =>
  intro b g e;cases e;have:=LR.same (l:=l) (h:=h) (f:=f+d) (by omega) hs;rw[show f+d - 1=f - 1+d by omega]at this;exact this
 | @sort p q x y a b f f1 f2 hf hs h1 h2 hx hy =>
  intro b' g e;cases e;have h3:=h1.more hd;rw[show f - 1+d=f+d - 1 by omega]at h3;exact .sort (by omega) hs h3 (h2.more hd) hx hy
 | @pino p q x y f f1 f2 o hf hs h1 h2 hx hy hk hn =>
  intro b g e;have h3:=h1.more hd;rw[show f - 1+d=f+d - 1 by omega]at h3;exact .pino (by omega) hs h3 (h2.more hd) hx hy (hk.more hd b g e) fun g' e'=>by cases e';exact hn g e
 | @pi p q x y f f1 f2 g' o hf hs h1 h2 hx hy hk hr ih =>
  intro b g e;have h3:=h1.more hd;rw[show f - 1+d=f+d - 1 by omega]at h3;exact .pi (by omega) hs h3 (h2.more hd) hx hy (hk.more hd _ _ rfl) (ih b g e)
 | @one p q x y f f1 f2 o hf hs h1 h2 hn hn2 hr =>
  intro b g e;have h3:=h1.more hd;rw[show f - 1+d=f+d - 1 by omega]at h3;exact .one (by omega) hs h3 (h2.more hd) hn hn2 (hr.more hd b g e)
theorem LR.le{l:List C}{h:Nat}{p q:T}{f:Int}{o:Option (Bool×Int)}(H:LR l h p q f o):∀b g,o=some (b,g) ->0<=g/\g<=f:=by
 induction H with
 | out | gone1 _ _ _ | gone2 _ _ _ _=>intro b g e;cases e
 | same hf hs=>intro b g e;cases e;omega
 | sort hf hs h1 h2 hx hy=>intro b' g e;cases e;have:=h1.le;have:=h2.le;omega
 | pino hf hs h1 h2 hx hy hk hn=>intro b g e;have:=h1.le;have:=h2.le;have:=hk.le (by omega) b g e;omega
 | pi hf hs h1 h2 hx hy hk hr ih=>intro b g e;have:=h1.le;have:=h2.le;have:=hk.le (by omega) _ _ rfl;have:=ih b g e;omega
 | one hf hs h1 h2 hn hn2 hr=>intro b g e;have:=h1.le;have:=h2.le;have:=hr.le (by omega) b g e;omega
end Go.Proofs.YtgloldepdhgfaaaGreatDoor
namespace Go.Proofs.YtgloldepdhgfaaaGreatDoor
set_option linter.unusedSimpArgs false
set_option linter.unusedVariables false
set_option maxHeartbeats 10000000
set_option maxRecDepth 20000
open Go.RowKit
attribute [local simp] Qx Qm Qo Qp Wn Xg opD Wc Qr Qw Wi hOf Wj Xf Xd TK.isAgg TK.known Ws Wk Qz Qh D.ofV inB Qy Wp Xy Za Zg Xc Xw Zh IntKind.min IntKind.max IntKind.signed IntKind.bits Wm Xz
theorem Qmw(x:Int):Sp 231 [.int .i64 x] [] (rt (.bool false)):=by
 refine eN Tryz.func231 rfl (by decide) rfl rfl ?_;(refine sI fun K Z=>?_;(repeat rw[Qa];simp);refine Z ?_;clear Z K);(refine sI fun K Z=>?_;(repeat rw[Qa];simp);refine Z ?_;clear Z K);(refine Qe ?_;(try simp only[zs]);refine Qk.ret rfl (.inl ?_);simp[zM])
def cmpI(x y:Int):Int:=if x<y then -1 else if y<x then 1 else 0
theorem Qqy(x y:Int):Sp 220 [.int .i64 x, .int .i64 y] [] (rt (.int .i64 (cmpI x y))):=by
 refine eN Tryz.func220 rfl (by decide) rfl rfl ?_;(refine sI fun K Z=>?_;(repeat rw[Qa];simp);refine Z ?_;clear Z K);(refine sR fun K hK=>?_;(repeat rw[Qa];simp));refine cXr (Qmw x) ?_
 (repeat rw[Qa];simp)
 (refine hK _ _ _ ?_;clear hK K);(refine sR fun K hK=>?_;(repeat rw[Qa];simp));refine cXr (Qmw y) ?_
 (repeat rw[Qa];simp)
 (refine hK _ _ _ ?_;clear hK K);refine Qc fun K1 hK1=>?_
 (refine sI fun K Z=>?_;(repeat rw[Qa];simp);refine Z ?_;clear Z K);refine Qac rfl (fun h=>by simp at h) (fun _=>Qg (hK1 _ _ _ ?_));clear hK1 K1;refine Qc fun K1 hK1=>?_
 (refine sI fun K Z=>?_;(repeat rw[Qa];simp);refine Z ?_;clear Z K);refine Qac rfl (fun h=>by simp at h) (fun _=>Qg (hK1 _ _ _ ?_));clear hK1 K1;refine Qc fun K1 hK1=>?_
 (refine sI fun K Z=>?_;(repeat rw[Qa];simp);refine Z ?_;clear Z K);refine Qac rfl (fun h=>?_) (fun h=>Qg (hK1 _ _ _ ?_))
 ·(refine sI fun K Z=>?_;(repeat rw[Qa];simp);refine Z ?_;clear Z K);(refine Qe ?_;(try simp only[zs]);refine Qk.ret rfl (.inl ?_);simp[zM]);simp[cmpI,show x<y by simpa using h]
 ·clear hK1 K1
  replace h:¬ x<y:=by simpa using h
  refine Qc fun K1 hK1=>?_
  (refine sI fun K Z=>?_;(repeat rw[Qa];simp);refine Z ?_;clear Z K);refine Qac rfl (fun h2=>?_) (fun h2=>Qg (hK1 _ _ _ ?_))
  ·(refine sI fun K Z=>?_;(repeat rw[Qa];simp);refine Z ?_;clear Z K);(refine Qe ?_;(try simp only[zs]);refine Qk.ret rfl (.inl ?_);simp[zM]);simp[cmpI,h,show y<x by simpa using h2]
  ·clear hK1 K1;(refine sI fun K Z=>?_;(repeat rw[Qa];simp);refine Z ?_;clear Z K);(refine Qe ?_;(try simp only[zs]);refine Qk.ret rfl (.inl ?_);simp[zM]);simp[cmpI,h,show ¬ y<x by simpa using h2]
def orI:List Int ->Int
 | []=>0
 | x::r=>if x=0 then orI r else x
theorem or_spec(l:List Int)(hl:l.length<=Ql):Sp 219 [Qeg l] [] (rt (.int .i64 (orI l))):=by
 unfold Ql at hl;refine eN Tryz.func219 rfl (by decide) rfl rfl ?_;unfold Qeg;(refine sI fun K Z=>?_;(repeat rw[Qa];simp);refine Z ?_;clear Z K);(refine sI fun K Z=>?_;(repeat rw[Qa];simp);refine Z ?_;clear Z K);refine Qc fun K1 hK1=>?_
 (refine sI fun K Z=>?_;(repeat rw[Qa];simp);refine Z ?_;clear Z K);refine Wd ?_;refine Qhp [2,5,8,9,10,11,12,13,14,15,16] (fun n ys hl=>∃(k:Nat) (x2 x5 x9 x10 x11 x12 x13 x14 x15 x16:D),ys= [x2,x5, .int .i64 k,x9,x10,x11,x12,x13,x14,x15,x16]/\n+k=l.length/\orI l=orI (l.drop k)/\hl= []) (l.length) (by kernel_rfl) ?_ ?_
 ·exact⟨0,_,_,_,_,_,_,_,_,_,_,rfl,rfl,rfl,rfl⟩
 ·rintro n ys hl A hA ⟨k,x2,x5,x9,x10,x11,x12,x13,x14,x15,x16,rfl,hn,hi,rfl⟩;simp only[Qh,List.set];(refine sI fun K Z=>?_;(repeat rw[Qa];simp);refine Z ?_;clear Z K);refine Qc fun K2 hK2=>?_
  refine Qac rfl (fun hk=>?_) (fun hk=>?_)
  ·replace hk:k<l.length:=by simpa using hk
   refine Qg (hK2 _ _ _ ?_);clear hK2 K2;refine Qc fun K3 hK3=>?_
   refine Wd ?_;(refine sI fun K Z=>?_;(repeat rw[Qa];simp[hk]);refine Z ?_;clear Z K);(refine sI fun K Z=>?_;(repeat rw[Qa];simp);refine Z ?_;clear Z K);refine Qac rfl (fun hb=>?_) (fun hb=>?_)
   ·(refine sI fun K Z=>?_;(repeat rw[Qa];simp);refine Z ?_;clear Z K);(refine Qe ?_;(try simp only[zs]);refine Qk.ret rfl (.inl ?_);simp[zM]);rw[hi,List.drop_eq_getElem_cons hk,orI,if_neg (by simpa using hb)]
   ·refine Qg (hK3 _ _ _ ?_);clear hK3 K3;have hw:IntKind.i64.wrap ((k:Int)+1)=(k:Int)+1:=Qbu (by omega) (by omega);(refine Qi Wa ?_;(repeat rw[Qa];simp[hw]));refine hA (n - 1) _ _ (by omega) (by kernel_rfl) ?_;exact⟨k+1,_,_,_,_,_,_,_,_,_,_,rfl,by omega,by rw[hi,List.drop_eq_getElem_cons hk,orI,if_pos (by simpa using hb)],rfl⟩
  ·refine Qad (hK1 _ _ _ ?_);(refine sI fun K Z=>?_;(repeat rw[Qa];simp);refine Z ?_;clear Z K);(refine Qe ?_;(try simp only[zs]);refine Qk.ret rfl (.inl ?_);simp[zM]);rw[hi,List.drop_eq_nil_of_le (by simpa using hk),orI]
def Qe7:LV ->Bool
 | []=>true
 | [_]=>true
 | a::b::r=>decide (a.1<b.1) && Qe7 (b::r)
theorem Qg3:∀l:LV,Qe7 l=true↔∀i (h:i+1<l.length),(l[i]'(by omega)).1<l[i+1].1
 | []=>by simp[Qe7]
 | [_]=>by simp[Qe7]
 | a::b::r=>by
  rw[Qe7,Bool.and_eq_true,decide_eq_true_eq,Qg3 (b::r)];constructor
  ·rintro⟨h1,h2⟩ i h;cases i with
   | zero=>exact h1
   | succ i=>exact h2 i (by simpa using h)
  ·intro h;exact⟨h 0 (by simp),fun i hi=>h (i+1) (by simpa using hi)⟩
def Qfz(n:Int)(p:Int×Int):Bool:=decide (p.1<0) || decide (n<p.1) || decide (p.2<0) || decide (1000<p.2)
def Xn(l:LV)(n:Int):Bool:=Qe7 l && decide (l.length<=9) && !(l.any (Qfz n))
def Qt3(p q:Int×Int):Int:=orI [cmpI p.1 q.1, -1]
theorem Qv3(p q:Int×Int):Qt3 p q<0↔¬ q.1<p.1:=by
 unfold Qt3 cmpI;by_cases h1:p.1<q.1
 ·simp[h1,orI];omega
 ·by_cases h2:q.1<p.1 <;> simp[h1,h2,orI]
theorem Qrz(p q:Int×Int):Sp 218 [Wv p,Wv q] [] (rt (.int .i64 (Qt3 p q))):=by
 refine eN Tryz.func218 rfl (by decide) rfl rfl ?_;(refine sI fun K Z=>?_;(repeat rw[Qa];simp);refine Z ?_;clear Z K);(refine sR fun K hK=>?_;(repeat rw[Qa];simp));refine cXr (Qqy p.1 q.1) ?_
 (repeat rw[Qa];simp)
 refine Wl.pure Qf (or_spec [cmpI p.1 q.1, -1] (by simp[Ql])) ?_ (by simp[D.fgts,D.fgt,Qeg]) (by simp[D.pures,D.pure,Cp.free,D.pures_map,Qeg]) (by simp[Out.pure,D.pure,D.pures,Cp.free,D.pures_map,Qeg]);(try simp only[zr]);(repeat rw[Qa];simp);(refine hK _ _ _ ?_;clear hK K);(refine Qe ?_;(try simp only[zs]);refine Qk.ret rfl (.inl ?_);simp[zM]);rfl
theorem Qry(n:Int)(p:Int×Int):Sp 221 [Wv p, .ref (.int .i64 n)] [] (rt (.bool (Qfz n p))):=by
 refine eN Tryz.func221 rfl (by decide) rfl rfl ?_;(refine sI fun K Z=>?_;(repeat rw[Qa];simp);refine Z ?_;clear Z K);by_cases h1:p.1<0
 ·(refine sI fun K Z=>?_;(repeat rw[Qa];simp[h1]);refine Z ?_;clear Z K);(refine Qe ?_;(try simp only[zs]);refine Qk.ret rfl (.inl ?_);simp[zM]);simp[Qfz,h1]
 ·by_cases h2:n<p.1
  ·(refine sI fun K Z=>?_;(repeat rw[Qa];simp[h1,h2]);refine Z ?_;clear Z K);(refine Qe ?_;(try simp only[zs]);refine Qk.ret rfl (.inl ?_);simp[zM]);simp[Qfz,h2]
  ·by_cases h3:p.2<0
   ·(refine sI fun K Z=>?_;(repeat rw[Qa];simp[h1,h2,h3]);refine Z ?_;clear Z K);(refine Qe ?_;(try simp only[zs]);refine Qk.ret rfl (.inl ?_);simp[zM]);simp[Qfz,h3]
   ·(refine sI fun K Z=>?_;(repeat rw[Qa];simp[h1,h2,h3]);refine Z ?_;clear Z K);(refine Qe ?_;(try simp only[zs]);refine Qk.ret rfl (.inl ?_);simp[zM]);simp[Qfz,h1,h2,h3]
theorem Qoi(l:LV)(hl:l.length<=Ql):Sp 217 [Ps l, .fn (.func 218) [] []] [] (rt (.bool (Qe7 l))):=by
 unfold Ql at hl;refine eN Tryz.func217 rfl (by decide) rfl rfl ?_;unfold Ps;(refine sI fun K Z=>?_;(repeat rw[Qa];simp);refine Z ?_;clear Z K);have hw:IntKind.i64.wrap ((l.length:Int) - 1)=(l.length:Int) - 1:=Qbu (by omega) (by omega);refine Qc fun K1 hK1=>?_
 (refine sI fun K Z=>?_;(repeat rw[Qa];simp[hw]);refine Z ?_;clear Z K);refine Wd ?_;refine Qhp [4,5,9,10,11,12,13,14,15,16,17,18,19,20,21,22,23,24] (fun n ys hl=>∃(k:Int) (x4 x9 x10 x11 x12 x13 x14 x15 x16 x17 x18 x19 x20 x21 x22 x23 x24:D),ys= [x4, .int .i64 k,x9,x10,x11,x12,x13,x14,x15,x16,x17,x18,x19,x20,x21,x22,x23,x24]/\(k<n/\k<l.length/\ -1<=k)/\(∀i (h:i+1<l.length),k<=i ->(l[i]'(by omega)).1<l[i+1].1)/\hl= []) (l.length) (by kernel_rfl) ?_ ?_
 ·exact⟨(l.length:Int) - 1,_,_,_,_,_,_,_,_,_,_,_,_,_,_,_,_,_,rfl,by omega,fun i h hi=>by omega,rfl⟩
 ·rintro n ys hl A hA ⟨k,x4,x9,x10,x11,x12,x13,x14,x15,x16,x17,x18,x19,x20,x21,x22,x23,x24,rfl,hn,hi,rfl⟩;simp only[Qh,List.set];refine Qc fun K2 hK2=>?_
  refine Qc fun K3 hK3=>?_
  (refine Qi Wa ?_;(repeat rw[Qa];simp));refine hK3 _ _ _ ?_;clear hK3 K3;refine Qac rfl (fun hk=>?_) (fun hk=>?_)
  ·replace hk:0<k:=by simpa using hk
   refine Qg (hK2 _ _ _ ?_);clear hK2 K2;refine Qc fun K3 hK3=>?_
   refine Wd ?_;obtain⟨j,hjk⟩:∃j:Nat,k=j+1:=⟨(k - 1).toNat,by omega⟩;have hj:j+1<l.length:=by omega
   have hj':j<l.length:=by omega
   have hw1:IntKind.i64.wrap (k - 1)=j:=by rw[Qbu (by omega) (by omega)];omega
   have e1:k.toNat=j+1:=by omega
   have e2:0<=k:=by omega
   (refine Qc fun K hK=>?_;refine dR fun KT hKT=>?_;(repeat rw[Qd];simp[e1,e2,hj,hj',hw1,Wv]));refine Xp.pure Qf (Qrz (l[j+1]) (l[j])) ?_ (by simp[D.fgts,D.fgt,Wv]) (by simp[D.pures,D.pure,Cp.free,D.pures_map,Wv]) (by simp[Out.pure,D.pure,D.pures,Cp.free,D.pures_map,Wv]);(try simp only[zq]);(repeat rw[Qd];simp);(refine hKT _ _ _ _ (by kernel_rfl) ?_;clear hKT KT);(refine hK _ _ _ ?_;clear hK K);have hr:=Qv3 l[j+1] l[j];refine Qac rfl (fun hb=>?_) (fun hb=>?_)
   ·replace hb:¬ (l[j].1<l[j+1].1):=by rw[<- hr];simpa using hb
    (refine sI fun K Z=>?_;(repeat rw[Qa];simp);refine Z ?_;clear Z K);(refine Qe ?_;(try simp only[zs]);refine Qk.ret rfl (.inl ?_);simp[zM]);cases hs:Qe7 l with
    | false=>rfl
    | true=>exact absurd (Qg3 l |>.1 hs j hj) hb
   ·replace hb:l[j].1<l[j+1].1:=by
     have:¬ (Qt3 l[j+1] l[j]<0):=by simpa using hb
     rw[hr]at this;omega
    refine Qg (hK3 _ _ _ ?_);clear hK3 K3;have hw1:IntKind.i64.wrap (k - 1)=k - 1:=Qbu (by omega) (by omega);(refine Qi Wa ?_;(repeat rw[Qa];simp[hw1]));refine hA (n - 1) _ _ (by omega) (by kernel_rfl) ?_;refine⟨k - 1,_,_,_,_,_,_,_,_,_,_,_,_,_,_,_,_,_,rfl,by omega,fun i h hi2=>?_,rfl⟩;by_cases hij:i=j
    ·subst hij;exact hb
    ·exact hi i h (by omega)
  ·replace hk:¬ 0<k:=by simpa using hk
   refine Qad ?_;refine hK1 _ _ _ ?_;(refine sI fun K Z=>?_;(repeat rw[Qa];simp);refine Z ?_;clear Z K);(refine Qe ?_;(try simp only[zs]);refine Qk.ret rfl (.inl ?_);simp[zM]);exact(Qg3 l).2 fun i h=>hi i h (by omega)
theorem Qf1(l:LV)(n:Int)(hl:l.length<=Ql):Sp 200 [Qn l, .int .i64 n] [] (rt (.bool (Xn l n))):=by
 have hl':=hl;unfold Ql at hl';refine eN Tryz.func200 rfl (by decide) rfl rfl ?_;(refine sI fun K Z=>?_;(repeat rw[Qa];simp);refine Z ?_;clear Z K);(refine sR fun K hK=>?_;(repeat rw[Qa];simp));refine Wl.pure Qf (Qoi l hl) ?_ (by simp[D.fgts,D.fgt,Ps]) (by simp[D.pures,D.pure,Cp.free,D.pures_map,Ps]) (by simp[Out.pure,D.pure,D.pures,Cp.free,D.pures_map,Ps]);(try simp only[zr]);(repeat rw[Qa];simp);(refine hK _ _ _ ?_;clear hK K);(refine Xe (T:=Qq) 1 (ty:=3) (ds:= [.int .i64 n]) rfl rfl (by first | exact⟨rfl, .inr ⟨_,rfl,rfl⟩⟩ | exact⟨rfl, .inl rfl⟩) ?_;simp[D.frzs,D.frz,HO.frz,Qam,Qat,TK.isAgg,FK.isB,FK.isM,FK.isO,D.isLen]);cases hs:Qe7 l with
 | false =>
  (refine sI fun K Z=>?_;(repeat rw[Qa];simp);refine Z ?_;clear Z K);(refine Qe ?_;(try simp only[zs]);refine Qk.ret rfl (.inl ?_);simp[zM]);simp[Xn,hs]
 | true =>
  by_cases h9:l.length<=9
  ·have h9':(l.length:Int)<=9:=by omega
   (refine sR fun K hK=>?_;(repeat rw[Qa];simp[h9,h9']));refine cXr (Qch l (Qfz n) _ [.ref (.int .i64 n)] rfl rfl hl fun p _=>Qry n p) ?_
   (repeat rw[Qa];simp)
   (refine hK _ _ _ ?_;clear hK K);(refine Qe ?_;(try simp only[zs]);refine Qk.ret rfl (.inl ?_);simp[zM]);simp[Xn,hs,h9]
  ·have h9':¬ (l.length:Int)<=9:=by omega
   (refine sI fun K Z=>?_;(repeat rw[Qa];simp[h9,h9']);refine Z ?_;clear Z K);(refine Qe ?_;(try simp only[zs]);refine Qk.ret rfl (.inl ?_);simp[zM]);simp[Xn,hs,h9]
end Go.Proofs.YtgloldepdhgfaaaGreatDoor
namespace Go.Proofs.YtgloldepdhgfaaaGreatDoor
set_option linter.unusedSimpArgs false
set_option linter.unusedVariables false
open Go.RowKit
def Qf9(t:T):Bool:=decide (t.n=0) && decide (t.a=0) && decide (t.ls= [])
def Qcd(sc:Int)(t:T):Bool:=decide (0<=t.n) && decide (t.n<sc) && decide (t.a=0) && decide (t.ls= [])
def finB(t:T):Bool:=decide (0<=t.n) && decide (t.a=0) && decide (t.ls= [])
def Wax(t:T):Bool:=decide (0<=t.n) && decide (t.n<t.a) && decide (t.ls= [])
def Qc3(t:T):Bool:=decide (t.n=0) && decide (0<=t.a) && decide (t.ls= [])
def Qpg(n:Int)(t:T):Bool:=decide (t.n=0) && decide (t.a=0) && decide (t.ls.length=1) && (t.ls.all fun l=>Xn l n)
def Qii(n:Int)(cs:List Int)(t:T):Bool:=decide (0<=t.n) && decide (t.n<cs.length) && decide (t.a=0) && decide ((t.ls.length:Int)=cs.getD t.n.toNat 0) && (t.ls.all fun l=>Xn l n)
def Ql9(n sc:Int)(cs:List Int)(t:T):Bool :=
 if t.k=1 then Qcd sc t else if t.k=2 then Qpg n t else if t.k=3 then Qii n cs t else if t.k=22 then finB t else if t.k=23 then Wax t else if t.k=24 then Qc3 t else Qf9 t
def Qxk(k a:Int):Int :=
 if k=7\/k=19 then 3 else if k=14\/k=15 then 1 else if k=18 then 5 else if k=21 then 6 else if k=24 then IntKind.i64.wrap (a+2)else if k=1\/k=2\/k=3\/k=20\/k=22\/k=23 then 0 else 2
def Qh9(k:Int):Bool:=(decide (1<=k) && decide (k<=7)) || (decide (12<=k) && decide (k<=24))
def Qh4(n sc:Int)(cs:List Int)(t:T):Bool:=Qh9 t.k && Ql9 n sc cs t && decide ((t.ks.length:Int)=Qxk t.k t.a)
mutual
def Qb1(n:Int)(cs:List Int):T ->Int ->Bool
 | .mk k m a ls ks,sc=>Qh4 n sc cs (.mk k m a ls ks) && Qgy n cs ks k 0 sc
def Qgy(n:Int)(cs:List Int):List T ->Int ->Nat ->Int ->Bool
 | [],_,_,_=>true
 | t::r,k,i,sc=>Qb1 n cs t (Xl sc k i) && Qgy n cs r k (i+1) sc
end
def Xq(n sc:Int)(cs:List Int)(t:T):Bool:=decide (0<=n) && decide (0<=sc) && Qb1 n cs t sc
theorem Qm3{n:Int}{cs:List Int}{k sc:Int}:∀{ks:List T} {i:Nat},Qgy n cs ks k i sc=true↔∀j (h:j<ks.length),Qb1 n cs ks[j] (Xl sc k ((i+j:Nat):Int))=true
 | [],i=>by rw[Qgy];simp
 | t::r,i=>by
  rw[Qgy,Bool.and_eq_true,Qm3 (ks:=r)];constructor
  ·rintro⟨h1,h2⟩ j hj;cases j with
   | zero=>exact h1
   | succ j =>
    have:=h2 j (by simpa using hj);rw[show i+1+j=i+(j+1) by omega]at this;exact this
  ·intro h;refine⟨h 0 (by simp),fun j hj=>?_⟩;have:=h (j+1) (by simpa using hj);rw[show i+(j+1)=i+1+j by omega]at this;exact this
theorem Qhg{n:Int}{cs:List Int}{k m a:Int}{ls:List LV}{ks:List T}{sc:Int}:Qb1 n cs (.mk k m a ls ks) sc=true↔Qh4 n sc cs (.mk k m a ls ks)=true/\∀j (h:j<ks.length),Qb1 n cs ks[j] (Xl sc k (j:Int))=true:=by
 rw[Qb1,Bool.and_eq_true,Qm3];simp only[Nat.zero_add]
theorem Qc5{d k i:Int}(h: -1000000000000000<=d)(h2:d<=1000000000000000):Xl d k i=if Qba k i then d+1 else d:=by
 unfold Xl;split
 ·rw[Qbu (by omega) (by omega)]
 ·rfl
theorem Qf8{d k i:Int}(h: -1000000000000000<=d)(h2:d<=1000000000000000):d<=Xl d k i/\Xl d k i<=d+1:=by
 rw[Qc5 h h2];split <;> omega
theorem Qja{d c k i:Int}(h1:0<=d)(h2:0<=c)(h:d+c<=1000000000000000):Xl (d+c) k i=Xl d k i+c:=by
 rw[Qc5 (by omega) (by omega),Qc5 (by omega) (by omega)];split <;> omega
theorem ask_ks{n sc:Int}{cs:List Int}{k m a:Int}{ls:List LV}(ks ks':List T):Ql9 n sc cs (.mk k m a ls ks)=Ql9 n sc cs (.mk k m a ls ks'):=rfl
theorem Qgh{n sc:Int}{cs:List Int}{t:T}:Qh4 n sc cs t=true↔Qh9 t.k=true/\Ql9 n sc cs t=true/\(t.ks.length:Int)=Qxk t.k t.a:=by
 unfold Qh4;simp only[Bool.and_eq_true,decide_eq_true_eq,and_assoc]
theorem Qe3{sc:Int}{t:T}:Qcd sc t=true↔0<=t.n/\t.n<sc/\t.a=0/\t.ls= []:=by
 unfold Qcd;simp only[Bool.and_eq_true,decide_eq_true_eq,and_assoc]
theorem Qh3{n sc:Int}{cs:List Int}{m a:Int}{ls:List LV}{ks:List T}:Qh4 n sc cs (.mk 1 m a ls ks)=true↔0<=m/\m<sc/\a=0/\ls= []/\ks= []:=by
 rw[Qgh,Ql9,if_pos (show(T.mk 1 m a ls ks).k=1 from rfl),Qe3];simp only[T.k_mk,T.n_mk,T.a_mk,T.ls_mk,T.ks_mk];have e:Qxk 1 a=0:=rfl;rw[e];constructor
 ·rintro⟨-,⟨h1,h2,h3,h4⟩,h5⟩;exact⟨h1,h2,h3,h4,List.length_eq_zero_iff.1 (by omega)⟩
 ·rintro⟨h1,h2,h3,h4,rfl⟩;exact⟨rfl,⟨h1,h2,h3,h4⟩,rfl⟩
theorem Qzc{n sc sc':Int}{cs:List Int}{t:T}(hk:t.k≠1):Qh4 n sc cs t=Qh4 n sc' cs t:=by
 have:Ql9 n sc cs t=Ql9 n sc' cs t:=by unfold Ql9;rw[if_neg hk,if_neg hk]
 unfold Qh4;rw[this]
theorem Qze{n sc:Int}{cs:List Int}{k m a:Int}{ls:List LV}{ks ks':List T}(h:ks.length=ks'.length):Qh4 n sc cs (.mk k m a ls ks)=Qh4 n sc cs (.mk k m a ls ks'):=by
 rw[Bool.eq_iff_iff,Qgh,Qgh,ask_ks ks ks'];simp only[T.k_mk,T.ks_mk,T.a_mk,h]
theorem Qkw{l:LV}{n n':Int}(h:n<=n')(hr:Xn l n=true):Xn l n'=true:=by
 unfold Xn at hr⊢;simp only[Bool.and_eq_true,Bool.not_eq_true',List.any_eq_false]at hr⊢;refine⟨hr.1,fun p hp=>?_⟩;have:=hr.2 p hp;unfold Qfz at this⊢;simp at this⊢;omega
theorem Qg0{ls:List LV}{n n':Int}(h:n<=n')(hr:(ls.all fun l=>Xn l n)=true):(ls.all fun l=>Xn l n')=true:=by
 rw[List.all_eq_true]at hr⊢;exact fun l hl=>Qkw h (hr l hl)
def Qfj(cs cs':List Int):Prop:=cs.length<=cs'.length/\∀i,i<cs.length ->cs'.getD i 0=cs.getD i 0
theorem Qfj.refl(cs:List Int):Qfj cs cs:=⟨Nat.le_refl _,fun _ _=>rfl⟩
theorem Qfj.append(cs more:List Int):Qfj cs (cs++more):=by
 refine⟨by simp,fun i hi=>?_⟩;rw[List.getD_eq_getElem?_getD,List.getD_eq_getElem?_getD,List.getElem?_append_left hi]
theorem Qzd{n n' sc sc':Int}{cs cs':List Int}{t:T}(hn:n<=n')(hs:sc<=sc')(hc:Qfj cs cs')(h:Qh4 n sc cs t=true):Qh4 n' sc' cs' t=true:=by
 rw[Qgh]at h⊢;obtain⟨h1,h2,h3⟩:=h;refine⟨h1,?_,h3⟩;unfold Ql9 at h2⊢;split
 ·rename_i hk;rw[if_pos hk]at h2;rw[Qe3]at h2⊢;exact⟨h2.1,by omega,h2.2.2⟩
 ·rename_i hk;rw[if_neg hk]at h2;split
  ·rename_i hk2;rw[if_pos hk2]at h2;simp only[Qpg,Bool.and_eq_true]at h2⊢;exact⟨h2.1,Qg0 hn h2.2⟩
  ·rename_i hk2;rw[if_neg hk2]at h2;split
   ·rename_i hk3;rw[if_pos hk3]at h2;simp only[Qii,Bool.and_eq_true,decide_eq_true_eq]at h2⊢;obtain⟨⟨⟨⟨e1,e2⟩,e3⟩,e4⟩,e5⟩:=h2;have:=hc.1;exact⟨⟨⟨⟨e1,by omega⟩,e3⟩,by rw[hc.2 _ (by omega)];exact e4⟩,Qg0 hn e5⟩
   ·rename_i hk3;rw[if_neg hk3]at h2;exact h2
def Qrb(sc:Int)(t:T):Prop:=0<=sc/\sc+t.deep<=1000000000000000
theorem Qrb.kid{sc k m a:Int}{ls:List LV}{ks:List T}(h:Qrb sc (.mk k m a ls ks)){t:T}(ht:t∈ks)(i:Int):Qrb (Xl sc k i) t:=by
 have h1:=T.deep_kid (k:=k) (n:=m) (a:=a) (ls:=ls) ht;obtain⟨h2,h3⟩:=h;have:=Qf8 (d:=sc) (k:=k) (i:=i) (by omega) (by omega);unfold Qrb;omega
theorem Wa1{n n':Int}{cs cs':List Int}(hn:n<=n')(hc:Qfj cs cs')(t:T):∀sc sc',sc<=sc' ->0<=sc ->Qrb sc' t ->Qb1 n cs t sc=true ->Qb1 n' cs' t sc'=true:=by
 induction t using T.ind with
 | h k m a ls ks ih =>
  intro sc sc' hs h0 hf h;rw[Qhg]at h⊢;refine⟨Qzd hn hs hc h.1,fun j hj=>?_⟩;have hm:=List.getElem_mem hj;have h1:=hf.1;have h2:=hf.2;refine ih _ hm _ _ ?_ ?_ (hf.kid hm _) (h.2 j hj)
  ·rw[Qc5 (by omega) (by omega),Qc5 (by omega) (by omega)];split <;> omega
  ·have:=Qf8 (d:=sc) (k:=k) (i:=(j:Int)) (by omega) (by omega);omega
theorem Qxy{f:Turn}{k d:Int}{ks:List T}{i:Nat}:∀{j:Nat} (h:j<(T.walks f k ks i d).length) (h':j<ks.length),(T.walks f k ks i d)[j]=T.walk f ks[j] (Xl d k ((i+j:Nat):Int)):=by
 induction ks generalizing i with
 | nil=>intro j h h';simp at h'
 | cons t r ih =>
  intro j h h';cases j with
  | zero=>simp only[T.walks,List.getElem_cons_zero];rfl
  | succ j =>
   have hr:j<r.length:=by simpa using h'
   simp only[T.walks,List.getElem_cons_succ];rw[ih (by rw[T.walks_length];exact hr) hr,show i+1+j=i+(j+1) by omega]
theorem Qmf{f:Turn}{k d:Int}{ks:List T}{j:Nat}(h:j<(T.walks f k ks 0 d).length):(T.walks f k ks 0 d)[j]=T.walk f (ks[j]'(by rw[T.walks_length]at h;exact h)) (Xl d k (j:Int)):=by
 rw[Qxy h (by rw[T.walks_length]at h;exact h),Nat.zero_add]
theorem Wa2{n:Int}{cs:List Int}{lift fr:Int}(hl:0<=lift/\lift<=2000000000000)(t:T):∀sc d,0<=d ->d<=sc ->Qrb (sc+lift) t ->Qb1 n cs t sc=true ->Qb1 n cs (T.walk (Qal lift fr) t d) (sc+lift)=true:=by
 induction t using T.ind with
 | h k m a ls ks ih =>
  intro sc d hd hds hf h;have hf1:=hf.1;have hf2:=hf.2;rw[Qfp];rw[Qhg]at h⊢;refine⟨?_,fun j hj=>?_⟩
  ·by_cases hk:k=1
   ·subst hk;obtain⟨h1,h2,rfl,rfl,rfl⟩:=Qh3.1 h.1;rw[Qh3];have hnum:Qbs lift fr d 1 m=m\/Qbs lift fr d 1 m=m+lift:=by
     unfold Qbs;split
     ·right;exact Qbu (by omega) (by omega)
     ·left;rfl
    refine⟨by omega,by omega,rfl,rfl,by simp[T.walks]⟩
   ·have e:Qbs lift fr d k m=m:=by unfold Qbs;rw[if_neg (fun h=>hk h.1)]
    rw[e,Qze (ks':=ks) (T.walks_length _ _ _ _ _),Qzc (t:= .mk k m a ls ks) (sc':=sc) hk];exact h.1
  ·have hj':j<ks.length:=by rw[T.walks_length]at hj;exact hj
   have hm:=List.getElem_mem hj';rw[Qmf hj];have hsc:=h.2 j hj';have e:Xl (sc+lift) k (j:Int)=Xl sc k (j:Int)+lift:=Qja (by omega) (by omega) (by omega);rw[e];have b1:=Qf8 (d:=sc) (k:=k) (i:=(j:Int)) (by omega) (by omega);refine ih _ hm _ _ ?_ ?_ ?_ hsc
   ·have:=Qf8 (d:=d) (k:=k) (i:=(j:Int)) (by omega) (by omega);omega
   ·rw[Qc5 (by omega) (by omega),Qc5 (by omega) (by omega)];split <;> omega
   ·rw[<- e];exact hf.kid hm _
theorem Weq{n:Int}{cs:List Int}{bys:List T}{s0:Int}(h0:0<=s0)(hb:∀b,b∈bys ->Qb1 n cs b s0=true/\b.deep<=DM)(hbl:bys.length<=Ql)(t:T):∀d,0<=d ->Qrb (s0+bys.length+d) t ->Qrb s0 t ->s0<=90000000000000 ->d+t.deep<=DM ->Qb1 n cs t (s0+bys.length+d)=true ->Qb1 n cs (T.walk (Qaf bys) t d) (s0+d)=true:=by
 induction t using T.ind with
 | h k m a ls ks ih =>
  intro d hd hf hf0 hdm hdd h;have hf1:=hf.1;have hf2:=hf.2;unfold Ql at hbl;rw[Qhg]at h;have hkids:∀m',(∀ms:List T,ms.length=ks.length ->Qh4 n (s0+d) cs (.mk k m' a ls ms)=true) ->Qb1 n cs (.mk k m' a ls (T.walks (Qaf bys) k ks 0 d)) (s0+d)=true:=by
   intro m' hm';rw[Qhg];refine⟨hm' _ (T.walks_length _ _ _ _ _),fun j hj=>?_⟩;have hj':j<ks.length:=by rw[T.walks_length]at hj;exact hj
   have hm:=List.getElem_mem hj';rw[Qmf hj];have hsc:=h.2 j hj';have hdk:=T.deep_kid (k:=k) (n:=m) (a:=a) (ls:=ls) hm;have b1:=Qf8 (d:=d) (k:=k) (i:=(j:Int)) (by omega) (by omega);have e1:Xl (s0+bys.length+d) k (j:Int)=s0+bys.length+Xl d k (j:Int):=by
    rw[Int.add_comm,Qja hd (by omega) (by omega)];omega
   have e2:Xl (s0+d) k (j:Int)=s0+Xl d k (j:Int):=by
    rw[Int.add_comm,Qja hd (by omega) (by omega)];omega
   rw[e2];rw[e1]at hsc;have hbk:Xl d k (j:Int)+ks[j].deep<=DM:=by omega
   refine ih _ hm _ (by omega) ?_ ?_ ?_ hbk hsc
   ·rw[<- e1];exact hf.kid hm _
   ·exact⟨hf0.1,by have:=hf0.2;omega⟩
   ·exact hdm
  by_cases hk:k=1
  ·subst hk;obtain⟨h1,h2,rfl,rfl,rfl⟩:=Qh3.1 h.1;by_cases hh:d<=m
   ·by_cases hl:(m - d).toNat<bys.length
    ·rw[Qjw (Qiv (t:= .mk 1 m 0 [] []) ⟨rfl,hh⟩ hl)];obtain⟨hb1,hb2⟩:=hb (bys[bys.length - 1 - (m - d).toNat]'(by omega)) (List.getElem_mem _);have hdd':d<=DM:=by have:=hdd;omega
     unfold DM at hb2 hdd';exact Wa2 (lift:=d) (fr:=0) ⟨hd,by omega⟩ _ s0 0 (by omega) h0 ⟨by omega,by simp only[T.n_mk];omega⟩ hb1
    ·rw[Qd2 (Qfv (t:= .mk 1 m 0 [] []) ⟨rfl,hh⟩ hl)];refine hkids _ fun ms hms=>?_
     obtain rfl:ms= []:=by simpa using hms
     rw[Qh3];simp only[T.n_mk];rw[Qbu (by omega) (by omega)];refine⟨by omega,by omega,?_,?_,?_⟩ <;> first | rfl | trivial
   ·rw[Qd2 (Qe8 (t:= .mk 1 m 0 [] []) (fun h=>hh h.2))];refine hkids _ fun ms hms=>?_
    obtain rfl:ms= []:=by simpa using hms
    rw[Qh3];refine⟨by simp only[T.n_mk];omega,by simp only[T.n_mk];omega,?_,?_,?_⟩ <;> first | rfl | trivial
  ·rw[Qd2 (Qe8 (t:= .mk k m a ls ks) (fun h=>hk h.1))];refine hkids _ fun ms hms=>?_
   have e:=Qze (n:=n) (sc:=s0+d) (cs:=cs) (k:=k) (m:=m) (a:=a) (ls:=ls) hms;rw[Qzc (t:= .mk k m a ls ks) (sc':=s0+bys.length+d) hk,h.1]at e;exact e
def lowL(most:Int)(l:LV):Bool:=l.all fun p=>decide (p.2<=most)
mutual
def T.lowB(most:Int):T ->Bool
 | .mk _ _ _ ls ks=>ls.all (lowL most) && T.lowsB most ks
def T.lowsB(most:Int):List T ->Bool
 | []=>true
 | t::r=>T.lowB most t && T.lowsB most r
end
theorem Qb9{n sc:Int}{cs:List Int}{t:T}:Xq n sc cs t=true↔0<=n/\0<=sc/\Qb1 n cs t sc=true:=by
 unfold Xq;simp[and_assoc]
end Go.Proofs.YtgloldepdhgfaaaGreatDoor
