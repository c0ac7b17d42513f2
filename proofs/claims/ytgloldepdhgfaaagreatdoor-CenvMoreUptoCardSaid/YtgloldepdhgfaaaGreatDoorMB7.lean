/-
  MB7: the texts Jn Dopen Dcard Dot Dox Jo Dla, one behind the other.
-/
import Derived.Test.YtgloldepdhgfaaaGreatDoorRows
import Derived.ProofKit
import Derived.OpenShut
import Derived.Carry
import Derived.Below
import Derived.Lib.LaidTab
import Derived.Test.YtgloldepdhgfaaaGreatDoorMB6
namespace Go.Proofs.YtgloldepdhgfaaaGreatDoor
set_option linter.unusedSimpArgs false
set_option linter.unusedVariables false
set_option linter.unusedSimpArgs false
set_option linter.unusedVariables false
set_option maxHeartbeats 10000000
set_option maxRecDepth 20000
open Go.RowKit
attribute [local simp] Qx Qm Qo Qp Wn Xg opD Wc Qr Qw Wi hOf Wj Xf Xd TK.isAgg TK.known Ws Wk Qz Qh D.ofV inB Qy Wp Xy Za Zg Xc Xw Zh IntKind.min IntKind.max IntKind.signed IntKind.bits Wm Xz
theorem Qiw{d:D}(hd:d.pure=true):∀{ds:List D},D.pures ds=true ->D.pures (ds++ [d])=true
 | [],_=>by simp[D.pures,hd]
 | x::r,h=>by
  rw[D.pures,Bool.and_eq_true]at h;rw[List.cons_append,D.pures,h.1,Qiw hd h.2];rfl
theorem oneL{l:List C}{c:C}{f:Int}(h0:0<=f)(h1:f<=1073741824):rowsR (l++ [c]) l.length f=(match declR l c f with | .ok (_,g)=> .ok g | .error e=> .error (l.length,e)):=by
 have hi:l.length<(l++ [c]).length:=by simp
 have:=one10 hi h0 h1;rw[show(l++ [c]).take l.length=l from List.take_left' rfl,show(l++ [c])[l.length]=c by simp]at this;exact this
theorem Qtb{l:List C}{c:C}{f g:Int}{u:Unit}(h0:0<=f)(h1:f<=1073741824)(h:declR l c f= .ok (u,g)):addD l c f= .tuple [Cs (l++ [c]), .int .i64 g, .int .i64 0]:=by
 unfold addD;rw[oneL h0 h1,h]
theorem Qtc{l:List C}{c:C}{f e:Int}(h0:0<=f)(h1:f<=1073741824)(h:declR l c f= .error e):addD l c f= .tuple [.slice [] .any, .int .i64 0, .int .i64 e]:=by
 unfold addD;rw[oneL h0 h1,h]
theorem allD_er{l:List C}{f:Int}{v:Nat×Int}(h:rowsR l 0 f= .error v):∃a b e:Int,allD l f= .tuple [.int .i64 a, .int .i64 b, .int .i64 e]/\¬ e=0:=by
 obtain⟨k,e⟩:=v;have he:=Qpn h;unfold allD;rw[h];dsimp only;split
 ·exact⟨_,_,_,rfl,he⟩
 ·exact⟨_,_,_,rfl,he⟩
theorem allD_ok{l:List C}{f g:Int}(h:rowsR l 0 f= .ok g):allD l f= .tuple [.int .i64 g, .int .i64 0, .int .i64 0]:=by
 unfold allD;rw[h]
set_option maxHeartbeats 16000000 in
theorem Qsj{l more:List C}{c:C}(hcs:okCs l)(hcm:okCs more)(hc:okC c)(hq:(Qi8 (l++more++ [c]):Int)<=QB)(hlen:l.length+more.length+1<=Ql){f:Int}:Sp 6 [Cs l,Cs more,Qbj c, .int .i64 f] [] (rt (.bool true)):=by
 have aw:=Qq6;have hall:∀x,x∈l++more++ [c] ->okC x:=fun x hx=>by
  simp only[List.mem_append,List.mem_singleton]at hx;rcases hx with (h | h) | h
  ·exact hcs.ok x h
  ·exact hcm.ok x h
  ·rw[h];exact hc
 obtain⟨b,gr,hb⟩:=Qql (l++more++ [c]) (by simp;omega) hall;have hEc:=Qax c;have hL:=hlen;have lm:l.length<=Ql:=by omega
 have lm2:l.length+more.length<=Ql:=by omega
 obtain⟨WD,hWD⟩:∃WD,WD=l.map Qbj++more.map Qbj:=⟨_,rfl⟩;have hWm:(l++more).map Qbj=WD:=by rw[hWD,List.map_append]
 have hWl:WD.length=l.length+more.length:=by rw[hWD];simp
 have hWp:D.pures WD=true:=by rw[<- hWm];exact Qms _
 have hWs:∀x,x∈WD ->x.size=12:=fun x hx=>by
  rw[<- hWm]at hx;obtain⟨y, -,rfl⟩:=List.mem_map.1 hx;rfl
 unfold Cs at gr;rw[List.map_append,hWm,List.map_cons,List.map_nil,hEc]at gr;have hEp:(Qbj c).pure=true:=Qdz c;rw[hEc]at hEp;have hWE:D.pures (WD++ [.agg [.int .i64 c.lv, .int .i64 c.ty.k, .int .i64 c.ty.n, .int .i64 c.ty.a, .slice (c.ty.ls.map Qn) .any, .slice (c.ty.ks.map Qj) .any, .bool c.has, .int .i64 c.bo.k, .int .i64 c.bo.n, .int .i64 c.bo.a, .slice (c.bo.ls.map Qn) .any, .slice (c.bo.ks.map Qj) .any]])=true:=by
  exact Qiw hEp hWp
 have hWa:(WD.all fun d=>decide (d.size=12))=true:=List.all_eq_true.2 fun x hx=>decide_eq_true (hWs x hx)
 cases b with
 | true =>
  unfold Cs;rw[hEc];refine eN Tryz.func6 rfl (by decide) rfl rfl ?_;(refine sI fun K Z=>?_;(repeat rw[Qa];simp);refine Z ?_;clear Z K);refine Qc fun K1 hK1=>?_
  (refine sR fun K hK=>?_;(repeat rw[Qa];simp));refine cXr (aw) ?_
  (repeat rw[Qa];simp)
  (refine hK _ _ _ ?_;clear hK K);refine pF rfl ?_;refine Qg (hK1 _ _ _ ?_);clear hK1 K1;(refine sI fun K Z=>?_;(repeat rw[Qa];simp[lm,lm2,<- hWD]);refine Z ?_;clear Z K);refine Qc fun K1 hK1=>?_
  (refine Qc fun K hK=>?_;refine dR fun KT hKT=>?_;(repeat rw[Qd];simp[hWl,lm,lm2,hL,hWs,hWa]));refine Xp.pure Qf (gr) ?_ (by simp[D.fgts,D.fgt,hWE]) (by simp[D.pures,D.pure,Cp.free,D.pures_map,hWE]) (by simp[Out.pure,D.pure,D.pures,Cp.free,D.pures_map,hWE]);(try simp only[zq]);(repeat rw[Qd];simp[hWl,hL,hWs,hWa]);(refine hKT _ _ _ _ (by kernel_rfl) ?_;clear hKT KT);(refine hK _ _ _ ?_;clear hK K);refine pT rfl ?_;(refine sI fun K Z=>?_;(repeat rw[Qa];simp);refine Z ?_;clear Z K);(refine Qe ?_;(try simp only[zs]);refine Qk.ret rfl (.inl ?_);simp[zM])
 | false =>
  have hro:=Qv2 hall hq (hb rfl);clear hb;by_cases f0:f<0
  ·unfold Cs;rw[hEc];refine eN Tryz.func6 rfl (by decide) rfl rfl ?_;(refine sI fun K Z=>?_;(repeat rw[Qa];simp);refine Z ?_;clear Z K);refine Qc fun K1 hK1=>?_
   (refine sR fun K hK=>?_;(repeat rw[Qa];simp));refine cXr (aw) ?_
   (repeat rw[Qa];simp)
   (refine hK _ _ _ ?_;clear hK K);refine pF rfl ?_;refine Qg (hK1 _ _ _ ?_);clear hK1 K1;(refine sI fun K Z=>?_;(repeat rw[Qa];simp[lm,lm2,<- hWD]);refine Z ?_;clear Z K);refine Qc fun K1 hK1=>?_
   (refine Qc fun K hK=>?_;refine dR fun KT hKT=>?_;(repeat rw[Qd];simp[hWl,lm,lm2,hL,hWs,hWa,f0]));refine Xp.pure Qf (gr) ?_ (by simp[D.fgts,D.fgt,hWE]) (by simp[D.pures,D.pure,Cp.free,D.pures_map,hWE]) (by simp[Out.pure,D.pure,D.pures,Cp.free,D.pures_map,hWE]);(try simp only[zq]);(repeat rw[Qd];simp[hWl,hL,hWs,hWa,f0]);(refine hKT _ _ _ _ (by kernel_rfl) ?_;clear hKT KT);(refine hK _ _ _ ?_;clear hK K);refine pT rfl ?_;(refine sI fun K Z=>?_;(repeat rw[Qa];simp);refine Z ?_;clear Z K);(refine Qe ?_;(try simp only[zs]);refine Qk.ret rfl (.inl ?_);simp[zM])
  by_cases f1:6000<f
  ·unfold Cs;rw[hEc];refine eN Tryz.func6 rfl (by decide) rfl rfl ?_;(refine sI fun K Z=>?_;(repeat rw[Qa];simp);refine Z ?_;clear Z K);refine Qc fun K1 hK1=>?_
   (refine sR fun K hK=>?_;(repeat rw[Qa];simp));refine cXr (aw) ?_
   (repeat rw[Qa];simp)
   (refine hK _ _ _ ?_;clear hK K);refine pF rfl ?_;refine Qg (hK1 _ _ _ ?_);clear hK1 K1;(refine sI fun K Z=>?_;(repeat rw[Qa];simp[lm,lm2,<- hWD]);refine Z ?_;clear Z K);refine Qc fun K1 hK1=>?_
   (refine Qc fun K hK=>?_;refine dR fun KT hKT=>?_;(repeat rw[Qd];simp[hWl,lm,lm2,hL,hWs,hWa,f0,f1]));refine Xp.pure Qf (gr) ?_ (by simp[D.fgts,D.fgt,hWE]) (by simp[D.pures,D.pure,Cp.free,D.pures_map,hWE]) (by simp[Out.pure,D.pure,D.pures,Cp.free,D.pures_map,hWE]);(try simp only[zq]);(repeat rw[Qd];simp[hWl,hL,hWs,hWa,f0,f1]);(refine hKT _ _ _ _ (by kernel_rfl) ?_;clear hKT KT);(refine hK _ _ _ ?_;clear hK K);refine pT rfl ?_;(refine sI fun K Z=>?_;(repeat rw[Qa];simp);refine Z ?_;clear Z K);(refine Qe ?_;(try simp only[zs]);refine Qk.ret rfl (.inl ?_);simp[zM])
  have h0:0<=f:=by omega
  have h1:f<=1073741824:=by omega
  have hf:f<=19998\/1073741824<f:=by omega
  have hl1:RowOk l:=⟨by have:=hro.len;simp at this;omega,fun x hx=>hro.ok x (by simp[hx])⟩
  have hl2:RowOk (l++ [c]):=⟨by have:=hro.len;simp at this⊢;omega,fun x hx=>hro.ok x (by
   simp only[List.mem_append,List.mem_singleton]at hx⊢;rcases hx with h | h
   ·exact .inl (.inl h)
   ·exact .inr h)⟩
  have al:=Qq9 hl1 (f:=6000) (by omega);have a1:=Qim hl2 hf;have a2:=Qim hro hf;have hd1:Qrb 0 c.ty:=by have:=c.ty.deep_nsz;have:=(hro.ok c (by simp)).2.1;exact⟨Int.le_refl _,by omega⟩
  have hd2:Qrb 0 c.bo:=by have:=c.bo.deep_nsz;have:=(hro.ok c (by simp)).2.2;exact⟨Int.le_refl _,by omega⟩
  cases hr:rowsR l 0 6000 with
  | error v =>
   obtain⟨x,y,e,e1,he⟩:=allD_er hr;rw[e1]at al;unfold Cs at al;unfold Cs;rw[hEc];refine eN Tryz.func6 rfl (by decide) rfl rfl ?_;(refine sI fun K Z=>?_;(repeat rw[Qa];simp);refine Z ?_;clear Z K);refine Qc fun K1 hK1=>?_
   (refine sR fun K hK=>?_;(repeat rw[Qa];simp));refine cXr (aw) ?_
   (repeat rw[Qa];simp)
   (refine hK _ _ _ ?_;clear hK K);refine pF rfl ?_;refine Qg (hK1 _ _ _ ?_);clear hK1 K1;(refine sI fun K Z=>?_;(repeat rw[Qa];simp[lm,lm2,<- hWD]);refine Z ?_;clear Z K);refine Qc fun K1 hK1=>?_
   (refine Qc fun K hK=>?_;refine dR fun KT hKT=>?_;(repeat rw[Qd];simp[hWl,lm,lm2,hL,hWs,hWa,f0,f1]));refine Xp.pure Qf (gr) ?_ (by simp[D.fgts,D.fgt,hWE]) (by simp[D.pures,D.pure,Cp.free,D.pures_map,hWE]) (by simp[Out.pure,D.pure,D.pures,Cp.free,D.pures_map,hWE]);(try simp only[zq]);(repeat rw[Qd];simp[hWl,hL,hWs,hWa,f0,f1]);(refine hKT _ _ _ _ (by kernel_rfl) ?_;clear hKT KT);(refine hK _ _ _ ?_;clear hK K);refine pF rfl ?_;refine Qg (hK1 _ _ _ ?_);clear hK1 K1;refine Qc fun K1 hK1=>?_
   (refine sR fun K hK=>?_;(repeat rw[Qa];simp));refine cXr (al) ?_
   (repeat rw[Qa];simp)
   (refine hK _ _ _ ?_;clear hK K);(refine sI fun K Z=>?_;(repeat rw[Qa];simp[he]);refine Z ?_;clear Z K);refine pT rfl ?_;(refine sI fun K Z=>?_;(repeat rw[Qa];simp);refine Z ?_;clear Z K);(refine Qe ?_;(try simp only[zs]);refine Qk.ret rfl (.inl ?_);simp[zM])
  | ok g0 =>
   rw[allD_ok hr]at al;have hcl:=clC_of hr;have hmo:=Qw7 more hcl hd1 hd2 f;unfold Cs at al;rw[hEc]at a1 a2;cases q1:declR l c f with
   | error e1 =>
    have he1:=Qle q1;rw[Qtc h0 h1 q1]at a1;unfold Cs at a1;by_cases h6:e1=6
    ·subst h6;cases q2:declR (l++more) c f with
     | error e2 =>
      have he2:=Qle q2;rw[Qtc h0 h1 q2]at a2;unfold Cs at a2;rw[hWm]at a2;unfold Cs;rw[hEc];refine eN Tryz.func6 rfl (by decide) rfl rfl ?_;(refine sI fun K Z=>?_;(repeat rw[Qa];simp);refine Z ?_;clear Z K);refine Qc fun K1 hK1=>?_
      (refine sR fun K hK=>?_;(repeat rw[Qa];simp));refine cXr (aw) ?_
      (repeat rw[Qa];simp)
      (refine hK _ _ _ ?_;clear hK K);refine pF rfl ?_;refine Qg (hK1 _ _ _ ?_);clear hK1 K1;(refine sI fun K Z=>?_;(repeat rw[Qa];simp[lm,lm2,<- hWD]);refine Z ?_;clear Z K);refine Qc fun K1 hK1=>?_
      (refine Qc fun K hK=>?_;refine dR fun KT hKT=>?_;(repeat rw[Qd];simp[hWl,lm,lm2,hL,hWs,hWa,f0,f1]));refine Xp.pure Qf (gr) ?_ (by simp[D.fgts,D.fgt,hWE]) (by simp[D.pures,D.pure,Cp.free,D.pures_map,hWE]) (by simp[Out.pure,D.pure,D.pures,Cp.free,D.pures_map,hWE]);(try simp only[zq]);(repeat rw[Qd];simp[hWl,hL,hWs,hWa,f0,f1]);(refine hKT _ _ _ _ (by kernel_rfl) ?_;clear hKT KT);(refine hK _ _ _ ?_;clear hK K);refine pF rfl ?_;refine Qg (hK1 _ _ _ ?_);clear hK1 K1;refine Qc fun K1 hK1=>?_
      (refine sR fun K hK=>?_;(repeat rw[Qa];simp));refine cXr (al) ?_
      (repeat rw[Qa];simp)
      (refine hK _ _ _ ?_;clear hK K);(refine sI fun K Z=>?_;(repeat rw[Qa];simp);refine Z ?_;clear Z K);refine pF rfl ?_;refine Qg (hK1 _ _ _ ?_);clear hK1 K1;(refine sR fun K hK=>?_;(repeat rw[Qa];simp));refine cXr (a1) ?_
      (repeat rw[Qa];simp)
      (refine hK _ _ _ ?_;clear hK K);(refine sR fun K hK=>?_;(repeat rw[Qa];simp));refine Wl.pure Qf (a2) ?_ (by simp[D.fgts,D.fgt,hWp]) (by simp[D.pures,D.pure,Cp.free,D.pures_map,hWp]) (by simp[Out.pure,D.pure,D.pures,Cp.free,D.pures_map,hWp]);(try simp only[zr]);(repeat rw[Qa];simp);(refine hK _ _ _ ?_;clear hK K);refine Qc fun K1 hK1=>?_
      (refine sI fun K Z=>?_;(repeat rw[Qa];simp[he2]);refine Z ?_;clear Z K);refine pT rfl ?_;(refine sI fun K Z=>?_;(repeat rw[Qa];simp[he2]);refine Z ?_;clear Z K);(refine Qe ?_;(try simp only[zs]);refine Qk.ret rfl (.inl ?_);simp[zM])
     | ok v2 =>
      obtain⟨u2,g2⟩:=v2;have hmp:0<more.length:=by
       rcases Nat.eq_zero_or_pos more.length with h | h
       ·have:more= []:=List.eq_nil_of_length_eq_zero h;rw[this,List.append_nil,q1]at q2;cases q2
       ·exact h
      have hmp2:¬ more= []:=by intro h;rw[h]at hmp;simp at hmp
      rw[Qtb h0 h1 q2]at a2;unfold Cs at a2;simp only[List.map_append,List.map_cons,List.map_nil,<- hWD,hEc]at a2;unfold Cs;rw[hEc];refine eN Tryz.func6 rfl (by decide) rfl rfl ?_;(refine sI fun K Z=>?_;(repeat rw[Qa];simp);refine Z ?_;clear Z K);refine Qc fun K1 hK1=>?_
      (refine sR fun K hK=>?_;(repeat rw[Qa];simp));refine cXr (aw) ?_
      (repeat rw[Qa];simp)
      (refine hK _ _ _ ?_;clear hK K);refine pF rfl ?_;refine Qg (hK1 _ _ _ ?_);clear hK1 K1;(refine sI fun K Z=>?_;(repeat rw[Qa];simp[lm,lm2,<- hWD]);refine Z ?_;clear Z K);refine Qc fun K1 hK1=>?_
      (refine Qc fun K hK=>?_;refine dR fun KT hKT=>?_;(repeat rw[Qd];simp[hWl,lm,lm2,hL,hWs,hWa,f0,f1]));refine Xp.pure Qf (gr) ?_ (by simp[D.fgts,D.fgt,hWE]) (by simp[D.pures,D.pure,Cp.free,D.pures_map,hWE]) (by simp[Out.pure,D.pure,D.pures,Cp.free,D.pures_map,hWE]);(try simp only[zq]);(repeat rw[Qd];simp[hWl,hL,hWs,hWa,f0,f1]);(refine hKT _ _ _ _ (by kernel_rfl) ?_;clear hKT KT);(refine hK _ _ _ ?_;clear hK K);refine pF rfl ?_;refine Qg (hK1 _ _ _ ?_);clear hK1 K1;refine Qc fun K1 hK1=>?_
      (refine sR fun K hK=>?_;(repeat rw[Qa];simp));refine cXr (al) ?_
      (repeat rw[Qa];simp)
      (refine hK _ _ _ ?_;clear hK K);(refine sI fun K Z=>?_;(repeat rw[Qa];simp);refine Z ?_;clear Z K);refine pF rfl ?_;refine Qg (hK1 _ _ _ ?_);clear hK1 K1;(refine sR fun K hK=>?_;(repeat rw[Qa];simp));refine cXr (a1) ?_
      (repeat rw[Qa];simp)
      (refine hK _ _ _ ?_;clear hK K);(refine sR fun K hK=>?_;(repeat rw[Qa];simp));refine Wl.pure Qf (a2) ?_ (by simp[D.fgts,D.fgt,hWp,hWE]) (by simp[D.pures,D.pure,Cp.free,D.pures_map,hWp,hWE]) (by simp[Out.pure,D.pure,D.pures,Cp.free,D.pures_map,hWp,hWE]);(try simp only[zr]);(repeat rw[Qa];simp);(refine hK _ _ _ ?_;clear hK K);refine Qc fun K1 hK1=>?_
      (refine sI fun K Z=>?_;(repeat rw[Qa];simp);refine Z ?_;clear Z K);refine pT rfl ?_;(refine sI fun K Z=>?_;(repeat rw[Qa];simp);refine Z ?_;clear Z K);(refine Qe ?_;(try simp only[zs]);refine Qk.ret rfl (.inl ?_);simp[zM]);simpa using hmp
    ·have q2:declR (l++more) c f= .error e1:=by
      rcases hmo with h | h
      ·rw[q1]at h;cases h;exact absurd rfl h6
      ·rw[h,q1]
     rw[Qtc h0 h1 q2]at a2;unfold Cs at a2;rw[hWm]at a2;unfold Cs;rw[hEc];refine eN Tryz.func6 rfl (by decide) rfl rfl ?_;(refine sI fun K Z=>?_;(repeat rw[Qa];simp);refine Z ?_;clear Z K);refine Qc fun K1 hK1=>?_
     (refine sR fun K hK=>?_;(repeat rw[Qa];simp));refine cXr (aw) ?_
     (repeat rw[Qa];simp)
     (refine hK _ _ _ ?_;clear hK K);refine pF rfl ?_;refine Qg (hK1 _ _ _ ?_);clear hK1 K1;(refine sI fun K Z=>?_;(repeat rw[Qa];simp[lm,lm2,<- hWD]);refine Z ?_;clear Z K);refine Qc fun K1 hK1=>?_
     (refine Qc fun K hK=>?_;refine dR fun KT hKT=>?_;(repeat rw[Qd];simp[hWl,lm,lm2,hL,hWs,hWa,f0,f1]));refine Xp.pure Qf (gr) ?_ (by simp[D.fgts,D.fgt,hWE]) (by simp[D.pures,D.pure,Cp.free,D.pures_map,hWE]) (by simp[Out.pure,D.pure,D.pures,Cp.free,D.pures_map,hWE]);(try simp only[zq]);(repeat rw[Qd];simp[hWl,hL,hWs,hWa,f0,f1]);(refine hKT _ _ _ _ (by kernel_rfl) ?_;clear hKT KT);(refine hK _ _ _ ?_;clear hK K);refine pF rfl ?_;refine Qg (hK1 _ _ _ ?_);clear hK1 K1;refine Qc fun K1 hK1=>?_
     (refine sR fun K hK=>?_;(repeat rw[Qa];simp));refine cXr (al) ?_
     (repeat rw[Qa];simp)
     (refine hK _ _ _ ?_;clear hK K);(refine sI fun K Z=>?_;(repeat rw[Qa];simp);refine Z ?_;clear Z K);refine pF rfl ?_;refine Qg (hK1 _ _ _ ?_);clear hK1 K1;(refine sR fun K hK=>?_;(repeat rw[Qa];simp));refine cXr (a1) ?_
     (repeat rw[Qa];simp)
     (refine hK _ _ _ ?_;clear hK K);(refine sR fun K hK=>?_;(repeat rw[Qa];simp));refine Wl.pure Qf (a2) ?_ (by simp[D.fgts,D.fgt,hWp]) (by simp[D.pures,D.pure,Cp.free,D.pures_map,hWp]) (by simp[Out.pure,D.pure,D.pures,Cp.free,D.pures_map,hWp]);(try simp only[zr]);(repeat rw[Qa];simp);(refine hK _ _ _ ?_;clear hK K);refine Qc fun K1 hK1=>?_
     (refine sI fun K Z=>?_;(repeat rw[Qa];simp[h6]);refine Z ?_;clear Z K);refine pF rfl ?_;refine Qg (hK1 _ _ _ ?_);clear hK1 K1;(refine Qc fun K hK=>?_;refine dR fun KT hKT=>?_;(repeat rw[Qd];simp[he1]));(refine hKT _ _ _ _ (by kernel_rfl) ?_;clear hKT KT);(refine hK _ _ _ ?_;clear hK K);(refine Qe ?_;(try simp only[zs]);refine Qk.ret rfl (.inl ?_);simp[zM])
   | ok v1 =>
    obtain⟨u1,g⟩:=v1;have q2:declR (l++more) c f= .ok (u1,g):=by
     rcases hmo with h | h
     ·rw[q1]at h;cases h
     ·rw[h,q1]
    rw[Qtb h0 h1 q1]at a1;rw[Qtb h0 h1 q2]at a2
    have sc:=Wao (l++more) (by simp;omega) (fun x hx=>hall x (by
     simp only[List.mem_append]at hx⊢
     exact .inl hx))
    have sc1:=Quy c c hc hc;rw[C.eqB_self,hEc]at sc1;unfold Cs at a1 a2 sc;rw[List.map_append,List.map_cons,List.map_nil,hEc]at a1;simp only[List.map_append,List.map_cons,List.map_nil,<- hWD,hEc]at a2;rw[hWm]at sc;have hWt:∀x:D,(WD++ [x]).take WD.length=WD:=fun x=>List.take_left' rfl
    have hWg:∀x:D,(WD++ [x])[WD.length]?=some x:=fun x=>by rw[List.getElem?_append_right (Nat.le_refl _),Nat.sub_self];rfl
    have hpl:D.pures (l.map Qbj++ [.agg [.int .i64 c.lv, .int .i64 c.ty.k, .int .i64 c.ty.n, .int .i64 c.ty.a, .slice (c.ty.ls.map Qn) .any, .slice (c.ty.ks.map Qj) .any, .bool c.has, .int .i64 c.bo.k, .int .i64 c.bo.n, .int .i64 c.bo.a, .slice (c.bo.ls.map Qn) .any, .slice (c.bo.ks.map Qj) .any]])=true:=by
     exact Qiw hEp (Qms _)
    unfold Cs;rw[hEc];refine eN Tryz.func6 rfl (by decide) rfl rfl ?_;(refine sI fun K Z=>?_;(repeat rw[Qa];simp);refine Z ?_;clear Z K);refine Qc fun K1 hK1=>?_
    (refine sR fun K hK=>?_;(repeat rw[Qa];simp));refine cXr (aw) ?_
    (repeat rw[Qa];simp)
    (refine hK _ _ _ ?_;clear hK K);refine pF rfl ?_;refine Qg (hK1 _ _ _ ?_);clear hK1 K1;(refine sI fun K Z=>?_;(repeat rw[Qa];simp[lm,lm2,<- hWD]);refine Z ?_;clear Z K);refine Qc fun K1 hK1=>?_
    (refine Qc fun K hK=>?_;refine dR fun KT hKT=>?_;(repeat rw[Qd];simp[hWl,lm,lm2,hL,hWs,hWa,f0,f1]));refine Xp.pure Qf (gr) ?_ (by simp[D.fgts,D.fgt,hWE]) (by simp[D.pures,D.pure,Cp.free,D.pures_map,hWE]) (by simp[Out.pure,D.pure,D.pures,Cp.free,D.pures_map,hWE]);(try simp only[zq]);(repeat rw[Qd];simp[hWl,hL,hWs,hWa,f0,f1]);(refine hKT _ _ _ _ (by kernel_rfl) ?_;clear hKT KT);(refine hK _ _ _ ?_;clear hK K);refine pF rfl ?_;refine Qg (hK1 _ _ _ ?_);clear hK1 K1;refine Qc fun K1 hK1=>?_
    (refine sR fun K hK=>?_;(repeat rw[Qa];simp));refine cXr (al) ?_
    (repeat rw[Qa];simp)
    (refine hK _ _ _ ?_;clear hK K);(refine sI fun K Z=>?_;(repeat rw[Qa];simp);refine Z ?_;clear Z K);refine pF rfl ?_;refine Qg (hK1 _ _ _ ?_);clear hK1 K1;(refine sR fun K hK=>?_;(repeat rw[Qa];simp));refine Wl.pure Qf (a1) ?_ (by simp[D.fgts,D.fgt,hpl]) (by simp[D.pures,D.pure,Cp.free,D.pures_map,hpl]) (by simp[Out.pure,D.pure,D.pures,Cp.free,D.pures_map,hpl]);(try simp only[zr]);(repeat rw[Qa];simp);(refine hK _ _ _ ?_;clear hK K);(refine sR fun K hK=>?_;(repeat rw[Qa];simp));refine Wl.pure Qf (a2) ?_ (by simp[D.fgts,D.fgt,hWp,hWE]) (by simp[D.pures,D.pure,Cp.free,D.pures_map,hWp,hWE]) (by simp[Out.pure,D.pure,D.pures,Cp.free,D.pures_map,hWp,hWE]);(try simp only[zr]);(repeat rw[Qa];simp);(refine hK _ _ _ ?_;clear hK K);refine Qc fun K1 hK1=>?_
    (refine sI fun K Z=>?_;(repeat rw[Qa];simp);refine Z ?_;clear Z K);refine pF rfl ?_;refine Qg (hK1 _ _ _ ?_);clear hK1 K1;(refine Qc fun K hK=>?_;refine dR fun KT hKT=>?_;(repeat rw[Qd];simp[hWt,hWg,hWs,hWa]));refine Xp.pure Qf (sc) ?_ (by simp[D.fgts,D.fgt,hWp]) (by simp[D.pures,D.pure,Cp.free,D.pures_map,hWp]) (by simp[Out.pure,D.pure,D.pures,Cp.free,D.pures_map,hWp]);(try simp only[zq]);(repeat rw[Qd];simp[hWt,hWg,hWs,hWa]);refine cYp (sc1) ?_;(try simp only[zq]);(repeat rw[Qd];simp);(refine hKT _ _ _ _ (by kernel_rfl) ?_;clear hKT KT);(refine hK _ _ _ ?_;clear hK K);(refine Qe ?_;(try simp only[zs]);refine Qk.ret rfl (.inl ?_);simp[zM])
end Go.Proofs.YtgloldepdhgfaaaGreatDoor
namespace Go.Proofs.YtgloldepdhgfaaaGreatDoor
set_option linter.unusedSimpArgs false
set_option linter.unusedVariables false
open Go.RowKit
theorem Qu9{H:Type}(d:DataW H):1<=Rows.uptoBulk d:=by
 cases d with
 | lit l=>cases l <;> simp[Rows.uptoBulk]
 | nil=>simp[Rows.uptoBulk]
 | ptr d=>simp[Rows.uptoBulk]
 | slice elems spare=>simp[Rows.uptoBulk]
 | agg parts=>simp[Rows.uptoBulk]
 | iface t d=>simp[Rows.uptoBulk]
 | map entries=>simp[Rows.uptoBulk]
 | held h=>simp[Rows.uptoBulk]
theorem Qll{H:Type}{d:DataW H}{l:List (DataW H)}(h:d∈l):Rows.uptoBulk d<=Rows.uptoBulkAll l:=by
 induction l with
 | nil=>cases h
 | cons x r ih =>
  simp only[Rows.uptoBulkAll];cases List.mem_cons.1 h with
  | inl e=>subst e;omega
  | inr e=>have:=ih e;omega
theorem Qva{H:Type}(l:List (DataW H)):l.length<=Rows.uptoBulkAll l:=by
 induction l with
 | nil=>simp[Rows.uptoBulkAll]
 | cons x r ih=>have:=Qu9 x;simp only[Rows.uptoBulkAll,List.length_cons];omega
theorem Qh6{α β:Type}{f:α ->Option β}:∀{l:List α} {xs:List β},l.mapM f=some xs ->xs.length=l.length/\∀i (h:i<l.length) (h':i<xs.length),f l[i]=some xs[i]:=by
 intro l
 induction l with
 | nil=>intro xs h;simp at h;subst h;exact⟨rfl,fun i h=>absurd h (by simp)⟩
 | cons a r ih =>
  intro xs h;rw[List.mapM_cons]at h;cases ha:f a with
  | none=>rw[ha]at h;simp at h
  | some b =>
   rw[ha]at h;cases hr:r.mapM f with
   | none=>rw[hr]at h;simp at h
   | some ys =>
    rw[hr]at h;simp at h;subst h;obtain⟨h1,h2⟩:=ih hr;refine⟨by simp[h1],fun i hi hi'=>?_⟩;cases i with
    | zero=>simpa using ha
    | succ i=>simpa using h2 i (by simpa using hi) (by simpa using hi')
section
variable {H : Type} {enc : TypeId × Value -> H} {P : Program} {w : World} {base : Nat} {sp : Nat -> Bool} {held : Bool}
theorem Qe5{fuel:Nat}{t:TypeId}{cs:List Value}{d:DataW H}{ps:List MemPlace}(ht:P.underlying t=some (.int .i64))(h:DataW.trod enc P w base sp held fuel t cs=some (d,ps)):∃n,cs= [.int .i64 n]/\IntKind.i64.min<=n/\n<=IntKind.i64.max:=by
 cases fuel with
 | zero=>simp[DataW.trod]at h
 | succ fuel =>
  unfold DataW.trod at h;rw[ht]at h;rcases cs with _ | ⟨v,_ | ⟨v2,r⟩⟩
  ·simp at h
  ·cases v <;> simp at h;rename_i k n;obtain⟨⟨rfl,hw⟩, -⟩:=h;refine⟨n,rfl,?_⟩;simp only[Lit.wf,Bool.and_eq_true,decide_eq_true_eq]at hw;exact hw
  ·simp at h
theorem Qj2{n:Nat}{a:Addr}{cs:List Value}(h:w.cells? base a n=some cs)(hn:0<n):∃b o,a=⟨b,o,none⟩/\b<w.heap.size/\cs.length=n/\∀i u,cs[i]?=some u ->w.cell? ⟨b,o+i,none⟩=some u:=by
 unfold World.cells? at h;split at h
 ·obtain⟨h1,h2⟩:=Qh6 h;simp only[List.length_range]at h1;have hall:∀i,i<n ->w.cell? (a.add i)=some (cs.getD i undef):=fun i hi=>by
   have:=h2 i (by simpa using hi) (by omega);simp only[List.getElem_range]at this;rw[this];simp[show i<cs.length by omega]
  have h0:=hall 0 hn;rw[show a.add 0=a from by simp[Addr.add]]at h0;have hs:a.spot=none:=by
   cases hsp:a.spot with
   | none=>rfl
   | some x =>
    unfold World.cell? at h0;rw[hsp]at h0;split at h0 <;> simp at h0
  obtain⟨b,o,s⟩:=a;simp only at hs;subst hs;refine⟨b,o,rfl,World.block_lt_of_cell? w _ h0,h1,fun i u hu=>?_⟩;have hi:i<cs.length:=(List.getElem?_eq_some_iff.1 hu).1;have:=hall i (by omega);have hadd:(⟨b,o,none⟩:Addr).add i=⟨b,o+i,none⟩:=by unfold Addr.add;split <;> simp_all
  rw[hadd]at this;rw[this];simp[List.getD_eq_getElem?_getD,hu]
 ·cases h
theorem Qmg{fuel:Nat}{t e:TypeId}{cs:List Value}{d:DataW H}{ps:List MemPlace}(ht:P.underlying t=some (.slice e))(h:DataW.trod enc P w base sp held fuel t cs=some (d,ps)) :
  cs= [.slice none 0 0]\/∃fuel' a len cap elems rest,fuel=fuel'+1/\cs= [.slice (some a) len cap]/\len<=cap/\cap<=maxLen/\d= .slice elems rest/\elems.length=len /\
   ∀i (hi:i<elems.length),∃ecs p,w.cells? base (a.add (i * P.cellsOf e)) (P.cellsOf e)=some ecs/\DataW.trod enc P w base sp held fuel' e ecs=some (elems[i],p):=by
 cases fuel with
 | zero=>simp[DataW.trod]at h
 | succ fuel =>
  unfold DataW.trod at h;rw[ht]at h;rcases cs with _ | ⟨v,_ | ⟨v2,r⟩⟩
  ·simp at h
  rotate_left
  ·simp at h
  cases v <;> try(simp at h;done)
  rename_i ao len cap;cases ao with
  | none =>
   left;rcases len with _ | len
   ·rcases cap with _ | cap
    ·rfl
    ·simp at h
   ·simp at h
  | some a =>
  right;dsimp only at h;split at h
  ·rename_i hc;cases hm:(List.range len).mapM fun i=>(w.cells? base (a.add (i * P.cellsOf e)) (P.cellsOf e)).bind (DataW.trod enc P w base sp held fuel e)with
   | none=>rw[hm]at h;simp at h
   | some xs =>
    rw[hm]at h;simp only[Option.bind_some]at h;obtain⟨h2,h3⟩:=Qh6 hm;simp only[List.length_range]at h2;rw[Option.map_eq_some_iff]at h;obtain⟨rest, -,h4⟩:=h;simp only[Prod.mk.injEq]at h4;refine⟨fuel,a,len,cap,xs.map (·.1),rest.map (·.1),rfl,rfl,hc.2.1,hc.2.2,h4.1.symm,by simpa using h2,fun i hi=>?_⟩;have hi':i<xs.length:=by simpa using hi
    have:=h3 i (by simp;omega) hi';simp only[List.getElem_range]at this;rw[Option.bind_eq_some_iff]at this;obtain⟨ecs,e1,e2⟩:=this;exact⟨ecs,(xs[i]).2,e1,by simpa using e2⟩
  ·cases h
theorem Qj9{fuel:Nat}{t:TypeId}{fs:Array Field}{cs:List Value}{d:DataW H}{ps:List MemPlace}(ht:P.underlying t=some (.struct fs))(h:DataW.trod enc P w base sp held fuel t cs=some (d,ps)) :
  ∃fuel' ds,fuel=fuel'+1/\cs.length=P.cellsOf t/\d= .agg ds/\ds.length=fs.toList.length/\∀i (hi:i<fs.toList.length) (hi':i<ds.length),∃p,DataW.trod enc P w base sp held fuel' (fs.toList[i]).type ((cs.drop (fs.toList[i]).offset).take (P.cellsOf (fs.toList[i]).type))=some (ds[i],p):=by
 cases fuel with
 | zero=>simp[DataW.trod]at h
 | succ fuel =>
  unfold DataW.trod at h;rw[ht]at h;dsimp only at h;split at h
  ·rename_i hl;rw[Option.map_eq_some_iff]at h;obtain⟨xs,hm,h4⟩:=h;simp only[Prod.mk.injEq]at h4;obtain⟨h2,h3⟩:=Qh6 hm;refine⟨fuel,xs.map (·.1),rfl,hl,h4.1.symm,by simpa using h2,fun i hi hi'=>?_⟩;have hi2:i<xs.length:=by simpa using hi'
   exact⟨(xs[i]).2,by simpa using h3 i hi hi2⟩
  ·cases h
end
theorem len1{l:List Value}(h:l.length=1):∃a,l= [a]:=by
 rcases l with _ | ⟨a,_ | ⟨b,r⟩⟩
 ·cases h
 ·exact⟨a,rfl⟩
 ·simp at h
theorem len2{l:List Value}(h:l.length=2):∃a b,l= [a,b]:=by
 rcases l with _ | ⟨a,r⟩
 ·cases h
 ·obtain⟨b,rfl⟩:=len1 (l:=r) (by simpa using h);exact⟨a,b,rfl⟩
theorem len5{l:List Value}(h:l.length=5):∃a b c d e,l= [a,b,c,d,e]:=by
 rcases l with _ | ⟨a,_ | ⟨b,_ | ⟨c,r⟩⟩⟩
 ·cases h
 ·simp at h
 ·simp at h
 ·obtain⟨d,e,rfl⟩:=len2 (l:=r) (by simpa using h);exact⟨a,b,c,d,e,rfl⟩
theorem Qe6{H:Type}{enc:TypeId×Value ->H}{P:Program}{w:World}{base:Nat}{sp:Nat ->Bool}{held:Bool}{fuel:Nat}{t:TypeId}{fs:Array Field}{cs:List Value}{d:DataW H}{ps:List MemPlace}{l:List (TypeId×Nat)}(ht:P.underlying t=some (.struct fs))(hl:fs.toList.map (fun f=>(f.type,f.offset))=l)
  (h:DataW.trod enc P w base sp held fuel t cs=some (d,ps)) :
  cs.length=P.cellsOf t/\∀(i:Nat) ti oi,l[i]?=some (ti,oi) ->∃f di p,f<fuel/\Rows.uptoBulk di<Rows.uptoBulk d/\DataW.trod enc P w base sp held f ti ((cs.drop oi).take (P.cellsOf ti))=some (di,p):=by
 obtain⟨fuel',ds,rfl,h1,rfl,h3,h4⟩:=Qj9 ht h;refine⟨h1,fun i ti oi hi=>?_⟩;rw[<- hl,List.getElem?_map,Option.map_eq_some_iff]at hi;obtain⟨f,hf,he⟩:=hi;obtain⟨hlt,rfl⟩:=List.getElem?_eq_some_iff.1 hf;simp only[Prod.mk.injEq]at he;obtain⟨rfl,rfl⟩:=he;obtain⟨p,hp⟩:=h4 i hlt (by omega);refine⟨fuel',_,p,by omega,?_,hp⟩;have:=Qll (List.getElem_mem (l:=ds) (n:=i) (by omega));simp only[Rows.uptoBulk];omega
def Qg6:Rho:=⟨fun _=>none,fun _=>none⟩
theorem cellAt0{w:World}{b o:Nat}{v:Value}(h:w.cell? ⟨b,o,none⟩=some v)(h1:v.oneCell'=true):Qbh Qg6 w b o v:=⟨(fun k hk=>nomatch hk),h,h1⟩
theorem Wbx{w:World}:∀{ds:List D} {cs:List Value} {b o:Nat},RpL Qg6 w ds cs ->ds.all D.one=true ->(∀i u,cs[i]?=some u ->w.cell? ⟨b,o+i,none⟩=some u) ->RpC Qg6 w ds b o
 | [],_,_,_,_,_,_=>by rw[RpC];trivial
 | d::r,cs,b,o,h,h1,h2=>by
  rw[RpL]at h;obtain⟨v,us,rfl,hv,hr⟩:=h;rw[List.all_cons,Bool.and_eq_true]at h1;rw[RpC];refine⟨⟨v,cellAt0 (h2 0 v rfl) (D.one_cell h1.1 hv),hv⟩,Wbx hr h1.2 fun i u hu=>?_⟩;have:=h2 (i+1) u (by simpa using hu)
  rwa [show o+1+i=o+(i+1) by omega]
theorem Wbu{w:World}{sz:Nat}:∀{els:List D} {b o:Nat},(∀e,e∈els ->e.size=sz/\e.cells.all D.one=true) ->(∀i (hi:i<els.length),∃cs,RpL Qg6 w els[i].cells cs/\∀j u,cs[j]?=some u ->w.cell? ⟨b,o+i * sz+j,none⟩=some u) ->RpE Qg6 w els b o
 | [],_,_,_,_=>by rw[RpE];trivial
 | e::r,b,o,h,hi=>by
  obtain⟨he,ho⟩:=h e (List.mem_cons_self ..);obtain⟨cs,hc,ha⟩:=hi 0 (by simp);have hr:RpE Qg6 w r b (o+sz):=Wbu (fun x hx=>h x (List.mem_cons_of_mem _ hx)) fun i hlt=>by
   obtain⟨cs,h1,h2⟩:=hi (i+1) (by simpa using hlt);refine⟨cs,by simpa using h1,fun j u hu=>?_⟩;have:=h2 j u hu
   rwa [show o+(i+1) * sz+j=o+sz+i * sz+j by rw[Nat.add_mul];omega]at this
  have ha':∀j u,cs[j]?=some u ->w.cell? ⟨b,o+j,none⟩=some u:=fun j u hu=>by
   have:=ha j u hu
   rwa [Nat.zero_mul,Nat.add_zero]at this
  have key:RpC Qg6 w e.cells b o:=Wbx (by simpa using hc) ho ha';cases e with
  | agg ds =>
   rw[RpE];rw[show o+ds.length=o+sz by rw[<- he];rfl];exact⟨key,hr⟩
  | _ =>
   rw[RpE]
   ·have h1:sz=1:=he.symm;rw[h1]at hr;simp only[D.cells]at key;rw[RpC]at key;exact⟨key.1,hr⟩
   ·intro ds hds;cases hds
section
variable {H : Type} {enc : TypeId × Value -> H} {w : World} {base : Nat} {sp : Nat -> Bool} {held : Bool}
theorem Qy5{α:Type}(en:α ->D){t e:TypeId}{sz:Nat}(ht:Tryz.prog.underlying t=some (.slice e))(he:Tryz.prog.cellsOf e=sz)(hsz:0<sz)(hes:∀x,(en x).size=sz/\(en x).cells.all D.one=true)(M:Nat ->α ->Prop){fuel:Nat}{cs:List Value}{d:DataW H}{ps:List MemPlace}(hb:Rows.uptoBulk d<=1048576)
  (hE:∀f ecs de p,f<fuel ->Rows.uptoBulk de<Rows.uptoBulk d ->DataW.trod enc Tryz.prog w base sp held f e ecs=some (de,p) ->∃x,RpL Qg6 w (en x).cells ecs/\M (Rows.uptoBulk de) x) (hM:∀x m n,m<=n ->M m x ->M n x)
  (h:DataW.trod enc Tryz.prog w base sp held fuel t cs=some (d,ps)):∃(v:Value) (xs:List α),cs= [v]/\Rp Qg6 w (.slice (xs.map en) .any) v/\xs.length<Rows.uptoBulk d+1/\∀x,x∈xs ->M (Rows.uptoBulk d - 1) x:=by
 rcases Qmg ht h with rfl | ⟨fuel',a,len,cap,elems,rest,rfl,rfl,h1,h2,rfl,h3,h4⟩
 ·refine⟨_, [],rfl,?_,by simp,(fun x hx=>nomatch hx)⟩;rw[Rp];exact⟨none,0,sz,rfl,by simp,by simp,by simp,(fun e he=>nomatch he),trivial,fun h=>absurd rfl h⟩
 ·have hlen:elems.length+1<=Rows.uptoBulk (.slice elems rest):=by
   have:=Qva elems;simp only[Rows.uptoBulk];omega
  have key:∀i (hi:i<elems.length),∃x ecs,w.cells? base (a.add (i * sz)) sz=some ecs/\RpL Qg6 w (en x).cells ecs/\M (Rows.uptoBulk (DataW.slice elems rest) - 1) x:=fun i hi=>by
   obtain⟨ecs,p,h5,h6⟩:=h4 i hi;have hlt:Rows.uptoBulk elems[i]<Rows.uptoBulk (.slice elems rest):=by
    have:=Qll (List.getElem_mem (l:=elems) hi);simp only[Rows.uptoBulk];omega
   obtain⟨x,h7,h8⟩:=hE fuel' ecs elems[i] p (by omega) hlt h6;exact⟨x,ecs,by rw[<- he];exact h5,h7,hM _ _ _ (by omega) h8⟩
  let xs:List α:=List.ofFn (n:=elems.length) fun i=>(key i.1 i.2).choose
  have hxl:xs.length=elems.length:=by simp[xs]
  have hget:∀i (hi:i<elems.length),xs[i]?=some (key i hi).choose:=fun i hi=>by simp[xs,List.getElem?_ofFn,hi]
  refine⟨_,xs,rfl,?_,by omega,?_⟩
  ·rw[Rp];refine⟨some a,cap,sz,by rw[List.length_map,hxl,h3],by rw[List.length_map];omega,h2,by rw[List.length_map];unfold Ql;omega,fun e he=>?_,trivial,fun hne=>?_⟩
   ·obtain⟨x, -,rfl⟩:=List.mem_map.1 he;exact(hes x).1
   ·have h0:0<elems.length:=by
     rcases Nat.eq_zero_or_pos elems.length with h | h
     ·exact absurd (List.eq_nil_of_length_eq_zero (by rw[List.length_map];omega)) hne
     ·exact h
    obtain⟨ecs0,c0, -⟩:=(key 0 h0).choose_spec;rw[show a.add (0 * sz)=a from by simp[Addr.add]]at c0;obtain⟨b,o,rfl,hlt, -, -⟩:=Qj2 c0 hsz;refine⟨b,o,rfl,Wbu (sz:=sz) (fun e he=>?_) fun i hi=>?_⟩
    ·obtain⟨x, -,rfl⟩:=List.mem_map.1 he;exact hes x
    ·have hi':i<elems.length:=by rw[List.length_map]at hi;omega
     have hx:=hget i hi';have hx':(xs.map en)[i]=en (key i hi').choose:=by
      rw[List.getElem_map];have:=List.getElem?_eq_some_iff.1 hx;exact congrArg en this.2
     rw[hx'];obtain⟨ecs,c1,c2, -⟩:=(key i hi').choose_spec;have hadd:(⟨b,o,none⟩:Addr).add (i * sz)=⟨b,o+i * sz,none⟩:=by unfold Addr.add;split <;> simp_all
     rw[hadd]at c1;obtain⟨b',o',e, -,c3,c4⟩:=Qj2 c1 hsz;simp only[Addr.mk.injEq,and_true]at e;obtain⟨rfl,rfl⟩:=e;exact⟨ecs,c2,c4⟩
  ·intro x hx;obtain⟨i,hi,rfl⟩:=List.getElem_of_mem hx;have hi':i<elems.length:=by rw[<- hxl];exact hi
   have:=hget i hi';rw[List.getElem?_eq_getElem hi]at this;simp only[Option.some.injEq]at this;rw[this];obtain⟨-, -, -,c⟩:=(key i hi').choose_spec;exact c
theorem Qwe:Tryz.prog.underlying 157=some (.struct (Tryz.prog.fieldsOf 157)):=by kernel_rfl
theorem Qsl:Tryz.prog.underlying 53=some (.struct (Tryz.prog.fieldsOf 53)):=by kernel_rfl
end
end Go.Proofs.YtgloldepdhgfaaaGreatDoor
namespace Go.Proofs.YtgloldepdhgfaaaGreatDoor
set_option linter.unusedSimpArgs false
set_option linter.unusedVariables false
open Go.RowKit Go.WideShapes Go.ChangeShapes
theorem Wei{w w':World}{ρ':Rho}{H:Nat ->HO}(h:Ex Qg6 w (hOf []) ρ' w' H):Below w.heap.size w w' :=
 ⟨h.grow.os,h.grow.tape,h.grow.output,h.grow.size,fun k hk=>(h.grow.whole k hk rfl).2⟩
theorem laidOut:laidOutB Tryz.prog=true:=by kernel_rfl
section
variable {H : Type} {enc : TypeId × Value -> H} {P : Program}
theorem Qhr(hl:laidOutB P=true){W W':World}{sp:Nat ->Bool}(hb:Below W.heap.size W W'):∀(ts:List TypeId) (vs:List Value) (ds:List (DataW H)) (ps:List MemPlace),(∀t,t∈ts ->P.readableRec t=true/\t<P.types.size) ->
  DataW.TrodAll enc P W 0 (fun _=>true) true ts vs ds ps ->(∀x∈ps,x.block<W.heap.size) ->(∀x∈ps,sp x.block=true) ->DataW.TrodAll enc P W' 0 sp true ts vs ds ps
 | [], [], [],ps,_,h,_,_=>h
 | t::ts,v::vs,d::ds,ps,ht,h,hlt,hsp=>by
  obtain⟨p,q,h1,h2,rfl⟩:=h;obtain⟨r1,r2⟩:=ht t List.mem_cons_self
  exact⟨p,q,WideElems.Trod_stays hl r1 r2 h1 (fun x hx=>hb.same (hlt x (List.mem_append_left _ hx))) (fun x hx=>hsp x (List.mem_append_left _ hx)),
   Qhr hl hb ts vs ds q (fun t h=>ht t (List.mem_cons_of_mem _ h)) h2 (fun x hx=>hlt x (List.mem_append_right _ hx)) (fun x hx=>hsp x (List.mem_append_right _ hx)),rfl⟩
 | [], [],_::_,_,_,h,_,_=>h.elim
 | [],_::_,_,_,_,h,_,_=>h.elim
 | _::_, [],_,_,_,h,_,_=>h.elim
 | _::_,_::_, [],_,_,h,_,_=>h.elim
theorem Qn4{f:Func}{s:ChangeSpec}{apart fresh handsOn again:Bool}{W W':World}{args:Array Value}{v:Value}{ds gs:List (DataW H)}{before pa pv:List MemPlace}
  (hW:DataW.Whole enc P f.params.toList s.vars apart W args.toList ds gs before)
  (hres:∀(b:Nat) (sp:Nat ->Bool) (hd:Bool),DataW.TrodAll enc P W' b sp hd f.resultTypes.toList (v.resultList f.resultTypes.size) (s.fn H (ds++gs)).results [])
  (hargs:∀sp:Nat ->Bool,(∀p∈before,sp p.block=true) ->DataW.TrodAll enc P W' 0 sp true f.params.toList args.toList (s.fn H (ds++gs)).args pa)
  (hvars:∀sp:Nat ->Bool,(∀p∈before,sp p.block=true) ->DataW.TrodVars enc P W' sp s.vars (s.fn H (ds++gs)).vars pv)
  (hps:before=pa++pv) (hb:Below W.heap.size W W')
  (hok:∀(j:Nat) (t:TypeId) (r:Value),f.resultTypes[j]?=some t ->(v.resultList f.resultTypes.size)[j]?=some r ->Value.okWide P W' .any 0 t r) :
  s.post enc P f apart fresh handsOn again W args v W':=by
 have hlt:∀p∈before,p.block<W.heap.size:=fun p hp=>hW.lt p hp
 have hold:∀p∈before,(fun b=>decide (b<W.heap.size)) p.block=true:=fun p hp=>by simpa using hlt p hp
 refine⟨ds,gs,before, [],pa,pv,hW,hres _ _ _,hargs _ hold,hvars _ hold,World.keptBut_mono (fun p hp=>⟨hp,?_⟩) (hb.frame (· ∈ before)),fun _=>?_⟩
 ·rw[hps,List.mem_append]at hp;exact Or.inr hp
 ·obtain⟨_,_,_,_,_,hz,hn⟩:=hW;refine⟨hok,_,_,([]++pa)++pv,⟨[]++pa,pv,trodAll_append (hargs _ (fun _ _=>rfl)) (hres _ _ _),hvars _ (fun _ _=>rfl),rfl,?_,?_⟩,?_⟩
  ·intro b off hp;have hin:MemPlace.cell b off∈before:=by rw[hps];simpa using hp
   rw[hb.frozen (hlt _ hin)];exact hz b off hin
  ·intro ha;have:=hn ha;rw[hps]at this;simpa using this
  ·intro p hp _;rw[hps];simpa using hp
theorem Wdj{f:Func}{s:ChangeSpec}{apart fresh handsOn again:Bool}{W W':World}{args:Array Value}{ds gs:List (DataW H)}{before:List MemPlace}{tb:TypeId}(hl:laidOutB P=true)(htb:P.underlying tb=some .bool)(hrt:f.resultTypes= #[tb])(hsv:s.vars= [])
  (hts:∀t,t∈f.params.toList ->P.readableRec t=true/\t<P.types.size) (hW:DataW.Whole enc P f.params.toList s.vars apart W args.toList ds gs before) (hs:gs= [] ->s.fn H (ds++gs)={results:= [.lit (.bool true)],args:=ds}) (hb:Below W.heap.size W W') :
  s.post enc P f apart fresh handsOn again W args (.bool true) W':=by
 have hW':=hW;obtain⟨p,q,hA,hV,hbf, -, -⟩:=hW;rw[hsv]at hV;obtain⟨rfl,rfl⟩:=trodVars_none hV;have hs':=hs rfl;have hlt:∀x∈p,x.block<W.heap.size:=fun x hx=>hW'.lt x (by rw[hbf];simpa using hx)
 refine Qn4 (pa:=p) (pv:= []) hW' (fun b sp hd=>?_) (fun sp hsp=>?_) (fun sp hsp=>?_) (by rw[hbf]) hb ?_
 ·rw[hrt,hs'];exact trodAll_cons_mk (shut_bool htb _) trodAll_mk0
 ·rw[hs'];exact Qhr hl hb _ _ _ _ hts hA hlt (fun x hx=>hsp x (by rw[hbf];simpa using hx))
 ·rw[hs',hsv];rfl
 ·exact ok_one hrt rfl (okWide_bool_mk htb _)
theorem arg_agg{W:World}{base:Nat}{t:TypeId}{v:Value}{fs:Array Field}(ht:P.underlying t=some (.struct fs))(h:Value.okWide P W .any base t v):∃cs:Array Value,v= .agg cs:=by
 unfold Value.okWide at h;rw[ht]at h;obtain⟨cs,h, -⟩:=h;exact⟨cs,h⟩
end
section
variable {H : Type} {enc : TypeId × Value -> H} {W : World} {base b0 : Nat} {sp : Nat -> Bool} {held : Bool} {v : Value} {d : DataW H} {p : List MemPlace}
end
end Go.Proofs.YtgloldepdhgfaaaGreatDoor
namespace Go.Proofs.YtgloldepdhgfaaaGreatDoor
set_option linter.unusedSimpArgs false
set_option linter.unusedVariables false
open Go.RowKit Go.WideShapes Go.ChangeShapes
set_option maxRecDepth 100000
theorem Qtx{H α:Type}:∀(xs:List α) (elems:List (DataW H)) (μ:α ->Nat),xs.length=elems.length ->(∀i (h:i<xs.length) (h':i<elems.length),μ xs[i]<=Rows.uptoBulk elems[i]) ->(xs.map μ).sum<=Rows.uptoBulkAll elems
 | [], [],μ,_,_=>by simp
 | [],_::_,μ,h,_=>by simp at h
 | _::_, [],μ,h,_=>by simp at h
 | x::r,e::s,μ,h,h2=>by
  simp only[List.map_cons,List.sum_cons,Rows.uptoBulkAll];have h3:=h2 0 (by simp) (by simp);simp only[List.getElem_cons_zero]at h3
  have h4:=Qtx r s μ (by simpa using h) (fun i h5 h6=>by
   have:=h2 (i+1) (by simpa using h5) (by simpa using h6)
   simpa using this)
  omega
theorem Qud:∀l:List T,T.nszs l=(l.map T.nsz).sum
 | []=>by rw[T.nszs];rfl
 | t::r=>by rw[T.nszs,Qud r];rfl
section
variable {H : Type} {enc : TypeId × Value -> H} {w : World} {base : Nat} {sp : Nat -> Bool} {held : Bool}
theorem Qua{α:Type}(en:α ->D){t e:TypeId}{sz:Nat}(ht:Tryz.prog.underlying t=some (.slice e))(he:Tryz.prog.cellsOf e=sz)(hsz:0<sz)(hes:∀x,(en x).size=sz/\(en x).cells.all D.one=true)(M:Nat ->α ->Prop){fuel:Nat}{cs:List Value}{d:DataW H}{ps:List MemPlace}(hb:Rows.uptoBulk d<=1048576)
  (hE:∀f ecs de p,f<fuel ->Rows.uptoBulk de<Rows.uptoBulk d ->DataW.trod enc Tryz.prog w base sp held f e ecs=some (de,p) ->∃x,RpL Qg6 w (en x).cells ecs/\M (Rows.uptoBulk de) x) (hM:∀x m n,m<=n ->M m x ->M n x)
  (h:DataW.trod enc Tryz.prog w base sp held fuel t cs=some (d,ps)):∃(v:Value) (xs:List α),cs= [v]/\Rp Qg6 w (.slice (xs.map en) .any) v/\xs.length<Rows.uptoBulk d+1/\(∀x,x∈xs ->M (Rows.uptoBulk d - 1) x)/\∀μ:α ->Nat,(∀x m,M m x ->μ x<=m) ->(xs.map μ).sum+1<=Rows.uptoBulk d:=by
 rcases Qmg ht h with rfl | ⟨fuel',a,len,cap,elems,rest,rfl,rfl,h1,h2,rfl,h3,h4⟩
 ·refine⟨_, [],rfl,?_,by simp,(fun x hx=>nomatch hx),fun μ _=>by have:=Qu9 d;simp;omega⟩;rw[Rp];exact⟨none,0,sz,rfl,by simp,by simp,by simp,(fun e he=>nomatch he),trivial,fun h=>absurd rfl h⟩
 ·have hlen:elems.length+1<=Rows.uptoBulk (.slice elems rest):=by
   have:=Qva elems;simp only[Rows.uptoBulk];omega
  have key:∀i (hi:i<elems.length),∃x ecs,w.cells? base (a.add (i * sz)) sz=some ecs/\RpL Qg6 w (en x).cells ecs/\M (Rows.uptoBulk (DataW.slice elems rest) - 1) x/\M (Rows.uptoBulk elems[i]) x:=fun i hi=>by
   obtain⟨ecs,p,h5,h6⟩:=h4 i hi;have hlt:Rows.uptoBulk elems[i]<Rows.uptoBulk (.slice elems rest):=by
    have:=Qll (List.getElem_mem (l:=elems) hi);simp only[Rows.uptoBulk];omega
   obtain⟨x,h7,h8⟩:=hE fuel' ecs elems[i] p (by omega) hlt h6;exact⟨x,ecs,by rw[<- he];exact h5,h7,hM _ _ _ (by omega) h8,h8⟩
  let xs:List α:=List.ofFn (n:=elems.length) fun i=>(key i.1 i.2).choose
  have hxl:xs.length=elems.length:=by simp[xs]
  have hget:∀i (hi:i<elems.length),xs[i]?=some (key i hi).choose:=fun i hi=>by simp[xs,List.getElem?_ofFn,hi]
  refine⟨_,xs,rfl,?_,by omega,?_,?_⟩
  ·rw[Rp];refine⟨some a,cap,sz,by rw[List.length_map,hxl,h3],by rw[List.length_map];omega,h2,by rw[List.length_map];unfold Ql;omega,fun e he=>?_,trivial,fun hne=>?_⟩
   ·obtain⟨x, -,rfl⟩:=List.mem_map.1 he;exact(hes x).1
   ·have h0:0<elems.length:=by
     rcases Nat.eq_zero_or_pos elems.length with h | h
     ·exact absurd (List.eq_nil_of_length_eq_zero (by rw[List.length_map];omega)) hne
     ·exact h
    obtain⟨ecs0,c0, -⟩:=(key 0 h0).choose_spec;rw[show a.add (0 * sz)=a from by simp[Addr.add]]at c0;obtain⟨b,o,rfl,hlt, -, -⟩:=Qj2 c0 hsz;refine⟨b,o,rfl,Wbu (sz:=sz) (fun e he=>?_) fun i hi=>?_⟩
    ·obtain⟨x, -,rfl⟩:=List.mem_map.1 he;exact hes x
    ·have hi':i<elems.length:=by rw[List.length_map]at hi;omega
     have hx:=hget i hi';have hx':(xs.map en)[i]=en (key i hi').choose:=by
      rw[List.getElem_map];have:=List.getElem?_eq_some_iff.1 hx;exact congrArg en this.2
     rw[hx'];obtain⟨ecs,c1,c2, -⟩:=(key i hi').choose_spec;have hadd:(⟨b,o,none⟩:Addr).add (i * sz)=⟨b,o+i * sz,none⟩:=by unfold Addr.add;split <;> simp_all
     rw[hadd]at c1;obtain⟨b',o',e, -,c3,c4⟩:=Qj2 c1 hsz;simp only[Addr.mk.injEq,and_true]at e;obtain⟨rfl,rfl⟩:=e;exact⟨ecs,c2,c4⟩
  ·intro x hx;obtain⟨i,hi,rfl⟩:=List.getElem_of_mem hx;have hi':i<elems.length:=by rw[<- hxl];exact hi
   have:=hget i hi';rw[List.getElem?_eq_getElem hi]at this;simp only[Option.some.injEq]at this;rw[this];obtain⟨-, -, -,c, -⟩:=(key i hi').choose_spec;exact c
  ·intro μ hμ;have:=Qtx xs elems μ hxl fun i h1 h2=>by
    have:=hget i h2;rw[List.getElem?_eq_getElem h1]at this;simp only[Option.some.injEq]at this;rw[this];obtain⟨-, -, -, -,c⟩:=(key i h2).choose_spec;exact hμ _ _ c
   simp only[Rows.uptoBulk];omega
theorem Qdt{n:Int}(h:IntKind.i64.min<=n/\n<=IntKind.i64.max):I64 n:=by
 simp[IntKind.min,IntKind.max,IntKind.signed,IntKind.bits]at h;unfold I64;omega
theorem Qwh{fuel:Nat}{cs:List Value}{d:DataW H}{ps:List MemPlace}(h:DataW.trod enc Tryz.prog w base sp held fuel 157 cs=some (d,ps)):∃p:Int×Int,RpL Qg6 w (Wv p).cells cs/\I64 p.1/\I64 p.2:=by
 obtain⟨h1,h2⟩:=Qe6 (l:= [(3,0),(3,1)]) Qwe (by kernel_rfl) h;rw[show Tryz.prog.cellsOf 157=2 from by kernel_rfl]at h1;obtain⟨f0,d0,p0, -, -,e0⟩:=h2 0 _ _ rfl;obtain⟨f1,d1,p1, -, -,e1⟩:=h2 1 _ _ rfl;rw[show Tryz.prog.cellsOf 3=1 from by kernel_rfl]at e0 e1;obtain⟨c0,c1,rfl⟩:=len2 h1;obtain⟨n0,k0,b0⟩:=Qe5 Tryz.underlying3 e0;obtain⟨n1,k1,b1⟩:=Qe5 Tryz.underlying3 e1;simp at k0 k1;subst k0;subst k1;refine⟨(n0,n1),?_,Qdt b0,Qdt b1⟩;show RpL Qg6 w [.int .i64 n0, .int .i64 n1] _;simp only[RpL,Rp];exact⟨_,_,rfl,⟨rfl,b0⟩,_,_,rfl,⟨rfl,b1⟩,rfl⟩
theorem Qsb{fuel:Nat}{cs:List Value}{d:DataW H}{ps:List MemPlace}(hb:Rows.uptoBulk d<=1048576)(h:DataW.trod enc Tryz.prog w base sp held fuel 53 cs=some (d,ps)):∃l:LV,RpL Qg6 w (Qn l).cells cs/\okL l/\l.length<=Rows.uptoBulk d:=by
 obtain⟨h1,h2⟩:=Qe6 (l:= [(51,0)]) Qsl (by kernel_rfl) h;rw[show Tryz.prog.cellsOf 53=1 from by kernel_rfl]at h1;obtain⟨f0,d0,p0, -,hb0,e0⟩:=h2 0 _ _ rfl;rw[show Tryz.prog.cellsOf 51=1 from by kernel_rfl]at e0;obtain⟨c0,rfl⟩:=len1 h1;obtain⟨v,xs,k0,hs,hl,hm⟩:=Qy5 Wv (sz:=2) Tryz.underlying51 (by kernel_rfl) (by omega) (fun x=>⟨rfl,rfl⟩) (fun _ p=>I64 p.1/\I64 p.2) (by omega) (fun f ecs de p _ _ he=>(Qwh he).imp fun _ h=>h) (fun _ _ _ _ h=>h) e0;simp at k0;subst k0;refine⟨xs,?_,⟨by unfold Ql;omega,hm⟩,by omega⟩;show RpL Qg6 w [.slice (xs.map Wv) .any] _;rw[RpL];exact⟨_, [],rfl,hs,by rw[RpL]⟩
theorem Qps{fuel:Nat}{cs:List Value}{d:DataW H}{ps:List MemPlace}(hb:Rows.uptoBulk d<=1048576)(h:DataW.trod enc Tryz.prog w base sp held fuel 24 cs=some (d,ps)):∃v ls,cs= [v]/\Rp Qg6 w (Lvs ls) v/\ls.length<=1048576/\∀l,l∈ls ->okL l/\l.length<=1048576:=by
 obtain⟨v,xs,k0,hs,hl,hm⟩:=Qy5 Qn (sz:=1) Tryz.underlying24 (by kernel_rfl) (by omega) (fun x=>⟨rfl,rfl⟩) (fun m l=>okL l/\l.length<=m) hb (fun f ecs de p _ hlt he=>(Qsb (by omega) he).imp fun _ h=>h) (fun _ _ _ h1 h2=>⟨h2.1,Nat.le_trans h2.2 h1⟩) h;exact⟨v,xs,k0,hs,by omega,fun l hl=>by have:=hm l hl;exact⟨this.1,by omega⟩⟩
theorem Qvp:Tryz.prog.underlying 27=some (.struct (Tryz.prog.fieldsOf 27)):=by kernel_rfl
theorem Qwr:Tryz.prog.underlying 23=some (.int .i64):=by kernel_rfl
theorem Waq(t:T):(Qj t).cells.all D.one=true:=by rw[Qi6];rfl
variable {W : World} {b0 : Nat} {v : Value} {d : DataW H} {p : List MemPlace}
theorem argI(hv:Value.okWide Tryz.prog W .any base 3 v)(h:DataW.Trod enc Tryz.prog W b0 sp held 3 v d p):∃n:Int,Rp Qg6 W (.int .i64 n) v/\I64 n:=by
 obtain⟨n,rfl⟩:=Go.WideShapes.okWide_int Tryz.underlying3 hv;obtain⟨fuel,hf⟩:=h;obtain⟨n',hn,hb⟩:=Qe5 Tryz.underlying3 hf;have hn:([Value.int .i64 n]:List Value)= [.int .i64 n']:=hn;have:n=n':=by simpa using hn
 subst this;exact⟨n,by rw[Rp];exact⟨rfl,hb⟩,Qdt hb⟩
end
end Go.Proofs.YtgloldepdhgfaaaGreatDoor
namespace Go.Proofs.YtgloldepdhgfaaaGreatDoor
set_option linter.unusedSimpArgs false
set_option linter.unusedVariables false
open Go.RowKit Go.WideShapes Go.ChangeShapes
set_option maxRecDepth 100000
def ZB:Nat:=1099512676353
theorem Qzm:∀(ls:List LV),(∀l,l∈ls ->l.length<=1048576) ->Wb0 ls<=ls.length * 1048577
 | [],_=>by simp[Wb0]
 | l::r,h=>by
  rw[Wb0,List.length_cons];have:=h l (List.mem_cons_self ..);have:=Qzm r fun x hx=>h x (List.mem_cons_of_mem _ hx)
  omega
theorem Qx3:∀(ks:List T),(∀t,t∈ks ->t.tsz<=t.nsz * ZB) ->T.tszs ks<=T.nszs ks * ZB
 | [],_=>by simp[T.tszs]
 | t::r,h=>by
  rw[T.tszs,T.nszs,Nat.add_mul];have:=h t (List.mem_cons_self ..);have:=Qx3 r fun x hx=>h x (List.mem_cons_of_mem _ hx)
  omega
theorem Wa0:∀(l:List C),(∀c,c∈l ->c.ty.tsz<=c.ty.nsz * ZB/\c.bo.tsz<=c.bo.nsz * ZB) ->Qi8 l<=l.length+2 * ((l.map fun c=>max c.ty.nsz c.bo.nsz).sum * ZB)
 | [],_=>by simp[Qi8]
 | c::r,h=>by
  rw[Qi8,List.length_cons,List.map_cons,List.sum_cons,Nat.add_mul];obtain⟨h1,h2⟩:=h c (List.mem_cons_self ..);have:=Wa0 r fun x hx=>h x (List.mem_cons_of_mem _ hx)
  have h3:c.ty.nsz * ZB<=(max c.ty.nsz c.bo.nsz) * ZB:=Nat.mul_le_mul_right _ (Nat.le_max_left ..);have h4:c.bo.nsz * ZB<=(max c.ty.nsz c.bo.nsz) * ZB:=Nat.mul_le_mul_right _ (Nat.le_max_right ..);omega
theorem Qx4{H:Type}{enc:TypeId×Value ->H}{P:Program}{w:World}{base:Nat}{sp:Nat ->Bool}{held:Bool}{fuel:Nat}{t:TypeId}{cs:List Value}{d:DataW H}{ps:List MemPlace}(ht:P.underlying t=some .bool)(h:DataW.trod enc P w base sp held fuel t cs=some (d,ps)):∃b,cs= [.bool b]:=by
 cases fuel with
 | zero=>simp[DataW.trod]at h
 | succ fuel =>
  unfold DataW.trod at h;rw[ht]at h;rcases cs with _ | ⟨v,_ | ⟨v2,r⟩⟩
  ·simp at h
  ·cases v <;> simp at h;exact⟨_,rfl⟩
  ·simp at h
theorem len12{l:List Value}(h:l.length=12):∃a b c d e f g i j k m n,l= [a,b,c,d,e,f,g,i,j,k,m,n]:=by
 rcases l with _ | ⟨a,_ | ⟨b,r⟩⟩
 ·cases h
 ·simp at h
 rcases r with _ | ⟨c,_ | ⟨d,_ | ⟨e,_ | ⟨f,_ | ⟨g,r⟩⟩⟩⟩⟩
 ·simp at h
 ·simp at h
 ·simp at h
 ·simp at h
 ·simp at h
 obtain⟨i,j,k,m,n,rfl⟩:=len5 (l:=r) (by simpa using h);exact⟨a,b,c,d,e,f,g,i,j,k,m,n,rfl⟩
section
variable {H : Type} {enc : TypeId × Value -> H} {w : World} {base : Nat} {sp : Nat -> Bool} {held : Bool}
theorem Qmp:∀(fuel:Nat) {cs:List Value} {d:DataW H} {ps:List MemPlace},Rows.uptoBulk d<=1048576 ->DataW.trod enc Tryz.prog w base sp held fuel 27 cs=some (d,ps) ->∃t:T,RpL Qg6 w (Qj t).cells cs/\okT t/\t.nsz<=Rows.uptoBulk d/\t.tsz<=t.nsz * ZB:=by
 intro fuel
 induction fuel using Nat.strongRecOn with
 | ind fuel ih =>
  intro cs d ps hb h;obtain⟨h1,h2⟩:=Qe6 (l:= [(23,0),(3,1),(3,2),(24,3),(25,4)]) Qvp (by kernel_rfl) h;rw[show Tryz.prog.cellsOf 27=5 from by kernel_rfl]at h1;obtain⟨f0,d0,p0, -, -,e0⟩:=h2 0 _ _ rfl;obtain⟨f1,d1,p1, -, -,e1⟩:=h2 1 _ _ rfl;obtain⟨f2,d2,p2, -, -,e2⟩:=h2 2 _ _ rfl;obtain⟨f3,d3,p3, -,hb3,e3⟩:=h2 3 _ _ rfl;obtain⟨f4,d4,p4,hf4,hb4,e4⟩:=h2 4 _ _ rfl;rw[show Tryz.prog.cellsOf 3=1 from by kernel_rfl]at e1 e2;rw[show Tryz.prog.cellsOf 23=1 from by kernel_rfl]at e0;rw[show Tryz.prog.cellsOf 24=1 from by kernel_rfl]at e3;rw[show Tryz.prog.cellsOf 25=1 from by kernel_rfl]at e4;obtain⟨c0,c1,c2,c3,c4,rfl⟩:=len5 h1;obtain⟨n0,k0,b0⟩:=Qe5 Qwr e0;obtain⟨n1,k1,b1⟩:=Qe5 Tryz.underlying3 e1;obtain⟨n2,k2,b2⟩:=Qe5 Tryz.underlying3 e2;obtain⟨v3,ls,k3,hl,ll,hls⟩:=Qps (by omega) e3;obtain⟨v4,ks,k4,hk,lk,hks,hsum⟩:=Qua Qj (sz:=5) Tryz.underlying25 (by kernel_rfl) (by omega) (fun x=>⟨Wap x,Waq x⟩) (fun m t=>okT t/\t.nsz<=m/\t.tsz<=t.nsz * ZB) (by omega)
   (fun f ecs de p hf hlt he=>(ih f (by omega) (by omega) he).imp fun _ h=>h) (fun x m n hmn hx=>⟨hx.1,by omega,hx.2.2⟩) e4
  simp at k0 k1 k2 k3 k4;subst k0;subst k1;subst k2;subst k3;subst k4;refine⟨.mk n0 n1 n2 ls ks,?_, .mk (Qdt b0) (Qdt b1) (Qdt b2) (by unfold Ql;omega) (fun l h=>(hls l h).1) (by unfold Ql;omega) (fun t h=>(hks t h).1),?_,?_⟩
  ·rw[Qi6];simp only[T.k_mk,T.n_mk,T.a_mk,T.ls_mk,T.ks_mk];refine Qs.2 ⟨by rw[Rp];exact⟨rfl,b0⟩,Qs.2 ⟨by rw[Rp];exact⟨rfl,b1⟩,Qs.2 ⟨by rw[Rp];exact⟨rfl,b2⟩,Qs.2 ⟨hl,Qs.2 ⟨hk,by rw[RpL]⟩⟩⟩⟩⟩
  ·rw[T.nsz,Qud];have:=hsum T.nsz (fun x m h=>h.2.1);omega
  ·rw[T.nsz,T.tsz,Nat.add_mul];have a1:=Qzm ls fun l h=>(hls l h).2
   have a2:=Qx3 ks fun t h=>(hks t h).2.2
   have a3:ls.length * 1048577<=1048576 * 1048577:=Nat.mul_le_mul_right _ ll;have:1 * ZB=1099512676353:=rfl;omega
theorem Qm2:Tryz.prog.underlying 50=some (.struct (Tryz.prog.fieldsOf 50)):=by kernel_rfl
theorem Wau(c:C):(Qbj c).cells.all D.one=true:=by rw[Qgs];rfl
theorem Qpt{fuel:Nat}{cs:List Value}{d:DataW H}{ps:List MemPlace}(hb:Rows.uptoBulk d<=1048576)(h:DataW.trod enc Tryz.prog w base sp held fuel 50 cs=some (d,ps)):∃c:C,RpL Qg6 w (Qbj c).cells cs/\okC c/\max c.ty.nsz c.bo.nsz<=Rows.uptoBulk d/\c.ty.tsz<=c.ty.nsz * ZB/\c.bo.tsz<=c.bo.nsz * ZB:=by
 obtain⟨h1,h2⟩:=Qe6 (l:= [(3,0),(27,1),(4,6),(27,7)]) Qm2 (by kernel_rfl) h;rw[show Tryz.prog.cellsOf 50=12 from by kernel_rfl]at h1;obtain⟨f0,d0,p0, -, -,e0⟩:=h2 0 _ _ rfl;obtain⟨f1,d1,p1, -,hb1,e1⟩:=h2 1 _ _ rfl;obtain⟨f2,d2,p2, -, -,e2⟩:=h2 2 _ _ rfl;obtain⟨f3,d3,p3, -,hb3,e3⟩:=h2 3 _ _ rfl;rw[show Tryz.prog.cellsOf 3=1 from by kernel_rfl]at e0;rw[show Tryz.prog.cellsOf 4=1 from by kernel_rfl]at e2;rw[show Tryz.prog.cellsOf 27=5 from by kernel_rfl]at e1 e3;obtain⟨a,b,c,d,e,f,g,i,j,k,m,n,rfl⟩:=len12 h1;obtain⟨n0,k0,b0⟩:=Qe5 Tryz.underlying3 e0;obtain⟨t1,r1,o1,s1,z1⟩:=Qmp f1 (by omega) e1;obtain⟨b2,k2⟩:=Qx4 Tryz.underlying4 e2;obtain⟨t3,r3,o3,s3,z3⟩:=Qmp f3 (by omega) e3;simp at k0 k2;subst k0;subst k2;refine⟨⟨n0,t1,b2,t3⟩,?_,⟨Qdt b0,o1,o3⟩,by have:=Nat.max_le.2 ⟨Nat.le_of_lt (Nat.lt_of_le_of_lt s1 hb1),Nat.le_of_lt (Nat.lt_of_le_of_lt s3 hb3)⟩;exact this,z1,z3⟩;rw[Qi6]at r1 r3;have r1:RpL Qg6 w _ [b,c,d,e,f]:=r1;have r3:RpL Qg6 w _ [i,j,k,m,n]:=r3;rw[Qs,Qs,Qs,Qs,Qs]at r1 r3;obtain⟨q1,q2,q3,q4,q5, -⟩:=r1;obtain⟨u1,u2,u3,u4,u5, -⟩:=r3;rw[Qgs];refine Qs.2 ⟨by rw[Rp];exact⟨rfl,b0⟩,Qs.2 ⟨q1,Qs.2 ⟨q2,Qs.2 ⟨q3,Qs.2 ⟨q4,Qs.2 ⟨q5,Qs.2 ⟨by rw[Rp],Qs.2 ⟨u1,Qs.2 ⟨u2,Qs.2 ⟨u3,Qs.2 ⟨u4,Qs.2 ⟨u5,by rw[RpL]⟩⟩⟩⟩⟩⟩⟩⟩⟩⟩⟩⟩
variable {W : World} {b0 : Nat} {v : Value} {d : DataW H} {p : List MemPlace}
end
end Go.Proofs.YtgloldepdhgfaaaGreatDoor
namespace Go.Proofs.YtgloldepdhgfaaaGreatDoor
set_option linter.unusedSimpArgs false
set_option linter.unusedVariables false
open Go.RowKit Go.WideShapes Go.ChangeShapes
set_option maxRecDepth 100000
def KBk:Nat:=2199025352707
section
variable {H : Type} {enc : TypeId × Value -> H} {w : World} {base : Nat} {sp : Nat -> Bool} {held : Bool}
variable {W : World} {b0 : Nat} {v : Value} {d : DataW H} {p : List MemPlace}
theorem Wfu(hk:Rows.uptoBulk d<=1048576)(hv:Value.okWide Tryz.prog W .any base 22 v)(h:DataW.Trod enc Tryz.prog W b0 sp held 22 v d p):∃l:List C,Rp Qg6 W (Cs l) v/\okCs l/\Qi8 l<=Rows.uptoBulk d * KBk/\l.length<=1048576:=by
 obtain⟨a,len,cap,rfl⟩:=okWide_slice Tryz.underlying22 hv;obtain⟨fuel,hf⟩:=h;obtain⟨v',l,he,hs,hl,hd,hsum⟩:=Qua Qbj (sz:=12) Tryz.underlying22 (by kernel_rfl) (by omega) (fun x=>⟨Wat x,Wau x⟩) (fun m c=>okC c/\max c.ty.nsz c.bo.nsz<=m/\c.ty.tsz<=c.ty.nsz * ZB/\c.bo.tsz<=c.bo.nsz * ZB) hk
  (fun f ecs de p hf hlt he=>(Qpt (by omega) he).imp fun _ h=>h) (fun x m n hmn hx=>⟨hx.1,Nat.le_trans hx.2.1 hmn,hx.2.2⟩) hf
 have:v'= .slice a len cap:=by
  have:([Value.slice a len cap]:List Value)= [v']:=he;simpa using this.symm
 subst this;refine⟨l,hs,⟨by unfold Ql;omega,fun c hc=>(hd c hc).1,fun c hc=>?_,fun c hc=>?_⟩,?_,by omega⟩
 ·have:=(hd c hc).2.1;have:=Nat.le_max_right c.ty.nsz c.bo.nsz;omega
 ·have:=(hd c hc).2.1;have:=Nat.le_max_left c.ty.nsz c.bo.nsz;omega
 ·have a1:=Wa0 l fun c hc=>(hd c hc).2.2
  have a2:=hsum (fun c=>max c.ty.nsz c.bo.nsz) (fun x m h=>h.2.1);have a3:(l.map fun c=>max c.ty.nsz c.bo.nsz).sum * ZB<=Rows.uptoBulk d * ZB:=Nat.mul_le_mul_right _ (by omega);unfold ZB at a1 a3;unfold KBk;omega
theorem argC(hk:Rows.uptoBulk d<=1048576)(hv:Value.okWide Tryz.prog W .any base 50 v)(h:DataW.Trod enc Tryz.prog W b0 sp held 50 v d p):∃c:C,Rp Qg6 W (Qbj c) v/\okC c/\1+c.ty.tsz+c.bo.tsz<=Rows.uptoBulk d * KBk+1:=by
 obtain⟨cs,rfl⟩:=arg_agg Qm2 hv;obtain⟨fuel,hf⟩:=h;obtain⟨c,hc,h1,h2,h3,h4⟩:=Qpt hk hf;refine⟨c,?_,h1,?_⟩
 ·rw[Qgs]at hc;rw[Qax,Rp];exact⟨_,(by cases cs;rfl),hc⟩
 ·have a1:c.ty.nsz * ZB<=Rows.uptoBulk d * ZB:=Nat.mul_le_mul_right _ (by have:=Nat.le_max_left c.ty.nsz c.bo.nsz;omega);have a2:c.bo.nsz * ZB<=Rows.uptoBulk d * ZB:=Nat.mul_le_mul_right _ (by have:=Nat.le_max_right c.ty.nsz c.bo.nsz;omega);unfold ZB at *;unfold KBk;omega
end
theorem Qoq:∀l m:List C,Qi8 (l++m)=Qi8 l+Qi8 m
 | [],m=>by simp[Qi8]
 | c::r,m=>by rw[List.cons_append,Qi8,Qi8,Qoq r m];omega
theorem Qw9{l m:List C}{c:C}{a b d:Nat}(h:a+b+d<=1048576)(hl:Qi8 l<=a * KBk)(hm:Qi8 m<=b * KBk)(hc:1+c.ty.tsz+c.bo.tsz<=d * KBk+1):(Qi8 (l++m++ [c]):Int)<=QB:=by
 rw[Qoq,Qoq,Qi8,Qi8];unfold KBk at *;unfold QB;omega
end Go.Proofs.YtgloldepdhgfaaaGreatDoor
namespace Go.Proofs.YtgloldepdhgfaaaGreatDoor
set_option linter.unusedSimpArgs false
set_option linter.unusedVariables false
open Go.RowKit
def flat0:DataW Unit ->List Value
 | .lit (.bool b)=> [.bool b]
 | .lit (.int k n)=> [.int k n]
 | _=> []
def Weg:DataW Unit ->List Value
 | .agg l=>l.flatMap flat0
 | _=> []
def flat2:DataW Unit ->List Value
 | .agg l=>l.flatMap Weg
 | _=> []
theorem Wfp(m:Nat):∀(n:Nat) (cs:List Value),cs.length=n * m ->cs=(List.range n).flatMap fun i=>(cs.drop (i * m)).take m
 | 0,cs,h=>by have:cs= []:=List.eq_nil_of_length_eq_zero (by simpa using h);subst this;rfl
 | n+1,cs,h=>by
  have h':cs.length=n * m+m:=by rw[h,Nat.add_mul,Nat.one_mul]
  have ih:=Wfp m n (cs.take (n * m)) (by rw[List.length_take];omega);rw[List.range_succ,List.flatMap_append];have h1:((List.range n).flatMap fun i=>(cs.drop (i * m)).take m)=cs.take (n * m):=by
   rw[ih];rw[List.flatMap_def,List.flatMap_def]
   congr 1
   apply List.map_congr_left;intro i hi;have hi:=List.mem_range.1 hi;have hle:i * m+m<=n * m:=by
    have:=Nat.mul_le_mul_right m (show i+1<=n by omega)
    rwa [Nat.add_mul,Nat.one_mul]at this
   rw[List.drop_take,List.take_take,Nat.min_eq_left (by omega)]
  rw[h1];simp only[List.flatMap_cons,List.flatMap_nil,List.append_nil];rw[List.take_of_length_le (l:=cs.drop (n * m)) (by rw[List.length_drop];omega),List.take_append_drop]
section
variable {enc : TypeId × Value -> Unit} {P : Program} {w : World} {base : Nat} {sp : Nat -> Bool} {held : Bool}
theorem Qoo{fuel:Nat}{t:TypeId}{cs:List Value}{d:DataW Unit}{ps:List MemPlace}(ht:P.underlying t=some (.int .i64))(h:DataW.trod enc P w base sp held fuel t cs=some (d,ps)):cs=flat0 d:=by
 cases fuel with
 | zero=>simp[DataW.trod]at h
 | succ fuel =>
  unfold DataW.trod at h;rw[ht]at h;rcases cs with _ | ⟨v,_ | ⟨v2,r⟩⟩
  ·simp at h
  ·cases v <;> simp at h;obtain⟨⟨rfl, -⟩,rfl, -⟩:=h;rfl
  ·simp at h
theorem Qqp{fuel:Nat}{t:TypeId}{cs:List Value}{d:DataW Unit}{ps:List MemPlace}(ht:P.underlying t=some .bool)(h:DataW.trod enc P w base sp held fuel t cs=some (d,ps)):cs=flat0 d:=by
 cases fuel with
 | zero=>simp[DataW.trod]at h
 | succ fuel =>
  unfold DataW.trod at h;rw[ht]at h;rcases cs with _ | ⟨v,_ | ⟨v2,r⟩⟩
  ·simp at h
  ·cases v <;> simp at h;obtain⟨rfl, -⟩:=h;rfl
  ·simp at h
theorem Qvm{fuel n:Nat}{t e:TypeId}{cs:List Value}{d:DataW Unit}{ps:List MemPlace}(ht:P.underlying t=some (.array n e))(h:DataW.trod enc P w base sp held fuel t cs=some (d,ps)) :
  ∃fuel' xs,cs.length=P.cellsOf t/\d= .agg (xs.map (·.1))/\(List.range n).mapM (fun i=>DataW.trod enc P w base sp held fuel' e ((cs.drop (i * P.cellsOf e)).take (P.cellsOf e)))=some xs:=by
 cases fuel with
 | zero=>simp[DataW.trod]at h
 | succ fuel =>
  unfold DataW.trod at h;rw[ht]at h;dsimp only at h;split at h
  ·rename_i hl;rw[Option.map_eq_some_iff]at h;obtain⟨xs,hm,h4⟩:=h;simp only[Prod.mk.injEq]at h4;exact⟨fuel,xs,hl,h4.1.symm,hm⟩
  ·cases h
end
theorem Wef{enc:TypeId×Value ->Unit}{w:World}{base:Nat}{sp:Nat ->Bool}{held:Bool}{fuel:Nat}{cs:List Value}{d:DataW Unit}{ps:List MemPlace}(h:DataW.trod enc Tryz.prog w base sp held fuel 222 cs=some (d,ps)):cs=Weg d:=by
 obtain⟨f,ds,rfl,h1,rfl,h3,h4⟩:=Qj9 (show Tryz.prog.underlying 222=some (.struct (Tryz.prog.fieldsOf 222)) by kernel_rfl) h;have hf:(Tryz.prog.fieldsOf 222).toList.map (fun f=>(f.type,f.offset))= [(4,0),(4,1),(3,2),(3,3),(3,4)]:=by kernel_rfl
 rw[show Tryz.prog.cellsOf 222=5 from by kernel_rfl]at h1;obtain⟨c0,c1,c2,c3,c4,rfl⟩:=len5 h1;generalize (Tryz.prog.fieldsOf 222).toList=fs at hf h3 h4;have hlen:fs.length=5:=by simpa using congrArg List.length hf
 have key:∀i (hi:i<5),∃p,DataW.trod enc Tryz.prog w base sp held f ([(4,0),(4,1),(3,2),(3,3),(3,4)][i]).1 ((([c0,c1,c2,c3,c4]:List Value).drop ([(4,0),(4,1),(3,2),(3,3),(3,4)][i]).2).take (Tryz.prog.cellsOf ([(4,0),(4,1),(3,2),(3,3),(3,4)][i]).1))=some (ds[i]'(by omega),p):=fun i hi=>by
  obtain⟨p,hp⟩:=h4 i (by omega) (by omega);have:=List.getElem_of_eq hf (i:=i) (by simpa using (by omega:i<fs.length));simp only[List.getElem_map]at this;rw[<- this];exact⟨p,hp⟩
 obtain⟨p0,e0⟩:=key 0 (by omega);obtain⟨p1,e1⟩:=key 1 (by omega);obtain⟨p2,e2⟩:=key 2 (by omega);obtain⟨p3,e3⟩:=key 3 (by omega);obtain⟨p4,e4⟩:=key 4 (by omega);simp only[List.getElem_cons_zero,List.getElem_cons_succ]at e0 e1 e2 e3 e4;rw[show Tryz.prog.cellsOf 3=1 from by kernel_rfl]at e2 e3 e4;rw[show Tryz.prog.cellsOf 4=1 from by kernel_rfl]at e0 e1;have g0:=Qqp (show Tryz.prog.underlying 4=some .bool by kernel_rfl) e0;have g1:=Qqp (show Tryz.prog.underlying 4=some .bool by kernel_rfl) e1;have g2:=Qoo Tryz.underlying3 e2;have g3:=Qoo Tryz.underlying3 e3;have g4:=Qoo Tryz.underlying3 e4;simp only[List.drop_zero,List.drop_succ_cons,List.take_succ_cons,List.take_zero]at g0 g1 g2 g3 g4;obtain⟨x0,r0,rfl⟩:=List.exists_cons_of_ne_nil (l:=ds) (by rintro rfl;simp at h3;omega);obtain⟨x1,r1,rfl⟩:=List.exists_cons_of_ne_nil (l:=r0) (by rintro rfl;simp at h3;omega);obtain⟨x2,r2,rfl⟩:=List.exists_cons_of_ne_nil (l:=r1) (by rintro rfl;simp at h3;omega);obtain⟨x3,r3,rfl⟩:=List.exists_cons_of_ne_nil (l:=r2) (by rintro rfl;simp at h3;omega);obtain⟨x4,r4,rfl⟩:=List.exists_cons_of_ne_nil (l:=r3) (by rintro rfl;simp at h3;omega);have hr:r4= []:=List.eq_nil_of_length_eq_zero (by simp at h3;omega);subst hr;simp only[List.getElem_cons_zero,List.getElem_cons_succ]at g0 g1 g2 g3 g4;simp[Weg,<- g0,<- g1,<- g2,<- g3,<- g4]
def Qjz:List Value:=Qkx.flatMap fun r=> [.bool r.1, .bool r.2.1, .int .i64 r.2.2.1, .int .i64 r.2.2.2.1, .int .i64 r.2.2.2.2]
theorem Qzz{W:World}(h:laidMet Tryz.prog [("spandrel/term.kinds",Rows.laid_spandrel_term_kinds)] W):∀i u,Qjz[i]?=some u ->W.cell? ⟨0,0+i,none⟩=some u:=by
 obtain⟨ps,⟨g',t',cs,fuel,p,q,hg',ht',hvar,hd,_,_⟩,_⟩:=h;obtain rfl:=Option.some.inj ((show Tryz.prog.globalNamed "spandrel/term.kinds" = some 0 by kernel_rfl).symm.trans hg');obtain rfl:=Option.some.inj ((show(Tryz.prog.globals[0]?).map (·.type)=some 223 by kernel_rfl).symm.trans ht');obtain⟨f,xs,h1,h2,h3⟩:=Qvm Tryz.underlying223 hd;rw[show Tryz.prog.cellsOf 223=25 * 5 from by kernel_rfl]at h1;rw[show Tryz.prog.cellsOf 222=5 from by kernel_rfl]at h3;obtain⟨h4,h5⟩:=Qh6 h3;simp only[List.length_range]at h4;have hcs:cs.toList=flat2 Rows.laid_spandrel_term_kinds:=by
  rw[Wfp 5 25 cs.toList h1,h2];show _=(xs.map (·.1)).flatMap Weg;rw[show(List.range 25).flatMap (fun i=>(cs.toList.drop (i * 5)).take 5)=((List.range 25).map fun i=>(cs.toList.drop (i * 5)).take 5).flatten from by rw[List.flatMap_def]];rw[List.flatMap_def,List.map_map]
  congr 1
  apply List.ext_getElem (by simp[h4]);intro i hi hi';simp only[List.length_map,List.length_range]at hi;simp only[List.getElem_map,List.getElem_range,Function.comp_apply];have:=h5 i (by simpa using hi) (by omega);simp only[List.getElem_range]at this;exact Wef this
 have hkc:flat2 Rows.laid_spandrel_term_kinds=Qjz:=by kernel_rfl
 rw[hkc]at hcs;have hcell:=World.var?_cell (show Tryz.prog.globalNamed "spandrel/term.kinds" = some 0 by kernel_rfl) hvar;intro i u hu;have:=hcell i;rw[Nat.zero_add,this,<- hu,<- hcs,Array.getElem?_toList]
def litV:D ->Option Value
 | .bool b=>some (.bool b)
 | .int k n=>if k.min<=n/\n<=k.max then some (.int k n)else none
 | _=>none
theorem Wbs{w:World}:∀{ds:List D} {vs:List Value},ds.map litV=vs.map some ->RpL Qg6 w ds vs
 | [], [],_=>by rw[RpL]
 | [],_::_,h=>by simp at h
 | _::_, [],h=>by simp at h
 | d::r,v::s,h=>by
  simp only[List.map_cons,List.cons.injEq]at h;refine Qs.2 ⟨?_,Wbs h.2⟩;have h1:=h.1;cases d <;> simp[litV]at h1
  ·rw[Rp];exact⟨h1.2.symm,h1.1⟩
  ·rw[Rp];exact h1.symm
theorem Qyr{W:World}(h:laidMet Tryz.prog [("spandrel/term.kinds",Rows.laid_spandrel_term_kinds)] W):Rel glob Qg6 W (hOf []):=by
 refine⟨fun _ _=>rfl,fun _ _=>rfl,(fun _ _ _ h=>nomatch h),(fun _ _ _ _ _ h=>nomatch h),fun g d hd=>?_⟩;unfold glob at hd;split at hd
 ·rename_i hg;subst hg;cases hd;exact Wbx (Wbs (vs:=Qjz) (by kernel_rfl)) (by kernel_rfl) (Qzz h)
 ·cases hd
theorem Qs6{f:FuncId}{args:List D}{vs:List Value}{w:World}(hR:Rel glob Qg6 w (hOf []))(h:Sp f args [] (rt (.bool true)))(hv:RpL Qg6 w args vs) :
  Calls Tryz.prog f vs.toArray w fun e w'=>e= .returned (.bool true)/\Below w.heap.size w w':=by
 refine(h Qg6 w vs hR hv).2.mono ?_;rintro e w' ⟨ρ',out,hc',ho,hm, -,hx⟩;refine⟨?_,Wei hx⟩;cases out with
 | pan d=>cases ho
 | ret d =>
  obtain⟨u,rfl,hu⟩:=hm;have hd:d= .bool true:=by
   cases d <;> simp[Out.fgt,D.fgt]at ho;subst ho;rfl
  subst hd;rw[Rp]at hu;rw[hu]
noncomputable def laidWorld (os : Os) : World :=
 {World.holding Tryz.prog os ⟨#[],#[], []⟩with heap:=(World.holding Tryz.prog os ⟨#[],#[], []⟩).heap.modify 0 fun
   | .cells _ t frozen=> .cells Qjz.toArray t frozen
   | o=>o}
end Go.Proofs.YtgloldepdhgfaaaGreatDoor
